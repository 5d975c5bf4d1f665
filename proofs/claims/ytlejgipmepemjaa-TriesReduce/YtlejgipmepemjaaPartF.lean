/- -/
import Derived.Test.YtlejgipmepemjaaPartE
set_option linter.unusedVariables false
set_option linter.unusedSimpArgs false
namespace Go.Own
open Go.Proofs
set_option linter.unusedVariables false
set_option maxRecDepth 100000
set_option maxHeartbeats 8000000
def X0 : XH Try.prog := xB TTab_ok
theorem sT_98_9 : StrT Try.prog 98 9 := strT_of (e := 5) Try.underlying98 Try.underlying5 Try.underlying9
theorem mt_91 : MapT Try.prog 91 9 4 okStr (.atom (.bool false)) := mapT_str Try.underlying91 Try.underlying9 ⟨.bool false, fun w => zero_run (f := Try.t4) (by kernel_rfl) rfl w, fun S => rep1_atom.2 ⟨rfl, rfl⟩⟩ rfl
theorem so_77 : SortT Try.prog 77 1 false := sortT_of TTab_ok (t := 52) Try.so77 rfl rfl (by kernel_rfl) (by decide)
noncomputable def bd_law12_L_Alphabet : Code := (Try.f20.body).getD .skip
noncomputable def sp_law12_L_Alphabet : Spec := spF (α := S_law12_L) (ρ := Int) 20 (fun x => [F21_ x]) (fun r => (eI .i64) r) (fun x => law12_L_Alphabet x) [] (by
 rintro a0 b0 h
 have e0 := EncI.inj (f := F21_) _ _ (List.cons.inj h).1
 subst e0
 rfl)
theorem w_law12_L_Alphabet {ctr : Ctr} (hC : CtrOk Try.prog ctr) (hm : Try.prog.follows .mixedOrders = true) : sp_law12_L_Alphabet.Ok Try.prog := by
 refine spF_ok ?_
 rintro x_ r0 hf0
 try unfold law12_L_Alphabet at hf0
 refine callOk_h (tt := TTab) (keep := true) (rs := [(2, none)]) (n := ⟨8, []⟩) (body := bd_law12_L_Alphabet) TTab_ok Try.func20 rfl (by kernel_rfl) rfl rfl (by show (1 : Nat) ≤ 8; decide) fun E hE => ?_
 obtain ⟨g0, hf0⟩ := gdE hf0
 obtain rfl := someE hf0
 exact awpEnd X0 TTab_ok hC hm hE 4000 (hs := []) (x := (I (w64 (1 + (w64 (Int.tmod x_.Inputs 3)))))) [ob g0] (by kernel_rfl) (LeV.refl _)
noncomputable def bd_law12_L_Raw : Code := (Try.f55.body).getD .skip
noncomputable def sp_law12_L_Raw : Spec := spF (α := S_law12_L) (ρ := List (List Int)) 55 (fun x => [F21_ x]) (fun r => (eOs 1 false F3_) r) (fun x => law12_L_Raw x) [] (by
 rintro a0 b0 h
 have e0 := EncI.inj (f := F21_) _ _ (List.cons.inj h).1
 subst e0
 rfl)
abbrev ST_law12_L_Raw_J1 (out : List (List Int)) : List (Nat × T) := [(3, .own (eOs 1 false F3_ out))]
abbrev ST_law12_L_Raw_J3 (x_ : S_law12_L) (i_ : Int) (out2 : List (List Int)) : List (Nat × T) := [(1, .own (.box (F21_ x_))), (3, .own (eOs 1 false F3_ out2)), (4, .d (I i_)), (13, .d (I i_)), (14, .d (B (decide (i_ < 40))))]
abbrev ST_law12_L_Raw_J4 (x_ : S_law12_L) (out1 : List (List Int)) (i_ : Int) (w_ : List Int) : List (Nat × T) := [(1, .own (.box (F21_ x_))), (3, .own (eOs 1 false F3_ out1)), (4, .d (I i_)), (5, .own (eOs 1 false (eI .i64) w_)), (13, .d (I i_)), (14, .d (B (decide (i_ < 40))))]
abbrev ST_law12_L_Raw_L5 (x_ : S_law12_L) (out1 : List (List Int)) (i_ : Int) (w_1 : List Int) (k_ : Int) : List (Nat × T) := [(1, .own (.box (F21_ x_))), (3, .own (eOs 1 false F3_ out1)), (4, .d (I i_)), (5, .own (eOs 1 false (eI .i64) w_1)), (6, .d (I k_)), (13, .d (I i_)), (14, .d (B (decide (i_ < 40))))]
abbrev ST_law12_L_Raw_L2 (x_ : S_law12_L) (out1 : List (List Int)) (i_ : Int) : List (Nat × T) := [(1, .own (.box (F21_ x_))), (3, .own (eOs 1 false F3_ out1)), (4, .d (I i_))]
theorem w_law12_L_Raw {ctr : Ctr} (hC : CtrOk Try.prog ctr) (hm : Try.prog.follows .mixedOrders = true) (h_law12_L_Alphabet : ctr.Has sp_law12_L_Alphabet) : sp_law12_L_Raw.Ok Try.prog := by
 refine spF_ok ?_
 rintro x_ r0 hf0
 try unfold law12_L_Raw at hf0
 refine callOk_h (tt := TTab) (keep := true) (rs := [(2, none)]) (n := ⟨53, []⟩) (body := bd_law12_L_Raw) TTab_ok Try.func55 rfl (by kernel_rfl) rfl rfl (by show (1 : Nat) ≤ 53; decide) fun E hE => ?_
 refine awpAt X0 TTab_ok hC hm [1,3] 4000 [.cut 2] (sub [1,1] bd_law12_L_Raw) (frs [1,1] [] bd_law12_L_Raw []) [(1, .own (.box (F21_ x_))), (3, .own (eOs 1 true F4_ []))] [] (by kernel_rfl) fun st0 h0 => ?_
 refine awpJoin' (X := List (List Int)) (x := (sub [1,1,2] bd_law12_L_Raw)) (y := (sub [1,1,1] bd_law12_L_Raw)) (by kernel_rfl) [3] [1,3] _ h0 (fun z => law12_L_Raw_J1 z = some r0) (fun z => ST_law12_L_Raw_J1 z) ?_ fun J1 hJ1 => ?_
 ·rintro out hf0
  unfold law12_L_Raw_J1 at hf0
  obtain rfl := someE hf0
  exact awpEnd X0 TTab_ok hC hm hE 4000 (hs := []) (x := (eOs 1 false F3_ out)) [] (by kernel_rfl) (LeV.refl _)
 ·obtain ⟨t2, ht2, hf0⟩ := bindE hf0
  refine awpAt X0 TTab_ok hC hm [1,3,4] 4000 [] (sub [1,1,2,1,0] bd_law12_L_Raw) (frs [1,1,2,1,0] [J1] bd_law12_L_Raw []) [(1, .own (.box (F21_ x_))), (3, .own (eOs 1 true F3_ [])), (4, .d (I 0))] [] (by kernel_rfl) fun st0 h0 => ?_
  refine awpLoop' (X := (List (List Int) × Int) × Nat) (c' := (sub [1,1,2,1,0,0] bd_law12_L_Raw)) (by kernel_rfl) [1,3,4] (fun x => loopN (fun s => law12_L_Raw_L2 x_ s.1 s.2) x.2 x.1 = some t2) (fun x => x.2) (fun x => ST_law12_L_Raw_L2 x_ x.1.1 x.1.2) ((([] : List (List Int)), 0), fuel) _ h0 inferInstance ht2 ?_
  rintro ⟨⟨out1, i_⟩, n2⟩ hn2 J2 hJ2
  obtain ⟨m2, lr1, rfl, hf1, hl1⟩ := loopE hn2
  try unfold law12_L_Raw_L2 at hf1
  have o0 := lnM F0_ x_.Words
  rcases bifE hf1 with ⟨c0, hf1⟩ | ⟨c0, hf1⟩
  ·rcases bifE hf1 with ⟨c1, hf1⟩ | ⟨c1, hf1⟩
   ·refine awpAt X0 TTab_ok hC hm [1,3,4,13,14] 4000 (aLn x_.Words.length :: (rpN 4 bT [.cut 0])) (sub [1,1,2,1,0,0,1] bd_law12_L_Raw) (frs [1,1,2,1,0,0,1] [J1, J2] bd_law12_L_Raw []) [(1, .own (.box (F21_ x_))), (3, .own (eOs 1 false F3_ out1)), (4, .d (I i_)), (13, .d (I i_)), (14, .d (B (decide (i_ < 40))))] [ob o0, ob c0, ob c0, ob c0, ob c1] (by kernel_rfl) fun st0 h0 => ?_
    refine awpJoin' (X := List (List Int)) (x := (sub [1,1,2,1,0,0,1,2] bd_law12_L_Raw)) (y := (sub [1,1,2,1,0,0,1,1] bd_law12_L_Raw)) (by kernel_rfl) [1,3,4,13,14] [1,3,4,13,14] _ h0 (fun z => law12_L_Raw_J3 i_ z = some lr1) (fun z => ST_law12_L_Raw_J3 x_ i_ z) ?_ fun J3 hJ3 => ?_
    ·rintro out2 hf1
     unfold law12_L_Raw_J3 at hf1
     obtain rfl := someE hf1
     exact awpBack X0 TTab_ok hC hm [1,3,4] 4000 [] J2 [(1, .own (.box (F21_ x_))), (3, .own (eOs 1 false F3_ out2)), (4, .d (I (w64 (i_ + 1))))] [] (by kernel_rfl) fun st0 h0 => hJ2 st0 _ ((out2, w64 (i_ + 1)), m2) hl1 (Nat.lt_succ_self m2) h0 inferInstance
    ·refine awpAt X0 TTab_ok hC hm [1,3,4,5,13,14] 4000 [.cut 1] (sub [1,1,2,1,0,0,1,2,0,1] bd_law12_L_Raw) (frs [1,1,2,1,0,0,1,2,0,1] [J1, J2, J3] bd_law12_L_Raw []) [(1, .own (.box (F21_ x_))), (3, .own (eOs 1 false F3_ out1)), (4, .d (I i_)), (5, .own (eOs 1 true (eI .i64) [])), (13, .d (I i_)), (14, .d (B (decide (i_ < 40))))] [] (by kernel_rfl) fun st0 h0 => ?_
     refine awpJoin' (X := List Int) (x := (sub [1,1,2,1,0,0,1,2,0,1,2] bd_law12_L_Raw)) (y := (sub [1,1,2,1,0,0,1,2,0,1,1] bd_law12_L_Raw)) (by kernel_rfl) [1,3,4,5,13,14] [1,3,4,5,13,14] _ h0 (fun z => law12_L_Raw_J4 out1 i_ z = some lr1) (fun z => ST_law12_L_Raw_J4 x_ out1 i_ z) ?_ fun J4 hJ4 => ?_
     ·rintro w_ hf1
      unfold law12_L_Raw_J4 at hf1
      obtain ⟨g0, hf1⟩ := gdE hf1
      have o1 := aL F3_ F3_ g0
      have o2 := aM F3_ out1 ([w_] : List (List Int))
      exact awpBack X0 TTab_ok hC hm [1,3,4,13,14] 4000 [bF, .l ((out1 ++ ([w_] : List (List Int))).map F3_)] J3 [(1, .own (.box (F21_ x_))), (3, .own (eOs 1 false F3_ (out1 ++ ([w_] : List (List Int))))), (4, .d (I i_)), (13, .d (I i_)), (14, .d (B (decide (i_ < 40))))] [ob (oC F3_ w_ []), ob o1, ob o2] (by kernel_rfl) fun st0 h0 => hJ3 st0 _ (out1 ++ ([w_] : List (List Int))) hf1 h0 inferInstance
     ·obtain ⟨t5, ht5, hf1⟩ := bindE hf1
      refine awpAt X0 TTab_ok hC hm [1,3,4,5,6,13,14] 4000 [] (sub [1,1,2,1,0,0,1,2,0,1,2,1,0] bd_law12_L_Raw) (frs [1,1,2,1,0,0,1,2,0,1,2,1,0] [J1, J2, J3, J4] bd_law12_L_Raw []) [(1, .own (.box (F21_ x_))), (3, .own (eOs 1 false F3_ out1)), (4, .d (I i_)), (5, .own (eOs 1 true (eI .i64) [])), (6, .d (I 0)), (13, .d (I i_)), (14, .d (B (decide (i_ < 40))))] [] (by kernel_rfl) fun st0 h0 => ?_
      refine awpLoop' (X := (List Int × Int) × Nat) (c' := (sub [1,1,2,1,0,0,1,2,0,1,2,1,0,0] bd_law12_L_Raw)) (by kernel_rfl) [1,3,4,5,6,13,14] (fun x => loopN (fun s => law12_L_Raw_L5 x_ i_ s.1 s.2) x.2 x.1 = some t5) (fun x => x.2) (fun x => ST_law12_L_Raw_L5 x_ out1 i_ x.1.1 x.1.2) ((([] : List Int), 0), fuel) _ h0 inferInstance ht5 ?_
      rintro ⟨⟨w_1, k_⟩, n5⟩ hn5 J5 hJ5
      obtain ⟨m5, lr2, rfl, hf2, hl2⟩ := loopE hn5
      try unfold law12_L_Raw_L5 at hf2
      obtain ⟨Word_e, h0, hf2⟩ := bindE hf2
      rcases bifE hf2 with ⟨c2, hf2⟩ | ⟨c2, hf2⟩
      ·rcases bifE hf2 with ⟨c3, hf2⟩ | ⟨c3, hf2⟩
       ·obtain ⟨Word_e1, h1, hf2⟩ := bindE hf2
        obtain ⟨Word_e_e, h2, hf2⟩ := bindE hf2
        obtain ⟨r_, h3, hf2⟩ := bindE hf2
        have o3 := hasF h_law12_L_Alphabet (x := x_) h3 (loC F21_ x_ <| loN)
        obtain ⟨g1, hf2⟩ := gdE hf2
        have o4 := dM (eI .i64) ([Int.tmod (w64 (Word_e_e)) r_] : List Int)
        have o5 := dM (eI .i64) ([Int.tmod (w64 (Word_e_e)) r_] : List Int)
        obtain ⟨g2, hf2⟩ := gdE hf2
        have o6 := aM (eI .i64) w_1 ([Int.tmod (w64 (Word_e_e)) r_] : List Int)
        obtain rfl := someE hf2
        exact awpBack X0 TTab_ok hC hm [1,3,4,5,6,13,14] 4000 (.a (F0_ Word_e) :: aLn Word_e.length :: (rpN 4 bT [.a (F0_ Word_e1), .a ((eI .u8) Word_e_e), .g [], .a ((eI .i64) r_), bT, .l ((w_1 ++ ([Int.tmod (w64 (Word_e_e)) r_] : List Int)).map (eI .i64))])) J5 [(1, .own (.box (F21_ x_))), (3, .own (eOs 1 false F3_ out1)), (4, .d (I i_)), (5, .own (eOs 1 false (eI .i64) (w_1 ++ ([Int.tmod (w64 (Word_e_e)) r_] : List Int)))), (6, .d (I (w64 (k_ + 1)))), (13, .d (I i_)), (14, .d (B (decide (i_ < 40))))] [ob (i0 h0), ob (iM F0_ h0), ob (lnM (eI .u8) Word_e), ob c2, ob c2, ob c2, ob c3, ob (i0 h1), ob (iM F0_ h1), ob (i0 h2), ob (iM (eI .u8) h2), ob (hasG h_law12_L_Alphabet), ob o3, ob g1, ob o4, ob o5, ob (aL (eI .i64) (eI .i64) g2), ob o6] (by kernel_rfl) fun st0 h0 => hJ5 st0 _ (((w_1 ++ ([Int.tmod (w64 (Word_e_e)) r_] : List Int)), w64 (k_ + 1)), m5) hl2 (Nat.lt_succ_self m5) h0 inferInstance
       ·obtain rfl := someE hf2
        obtain rfl := hl2
        exact awpBack X0 TTab_ok hC hm [1,3,4,5,13,14] 4000 [.a (F0_ Word_e), aLn Word_e.length, bT, bT, bT, bF] J4 [(1, .own (.box (F21_ x_))), (3, .own (eOs 1 false F3_ out1)), (4, .d (I i_)), (5, .own (eOs 1 false (eI .i64) w_1)), (13, .d (I i_)), (14, .d (B (decide (i_ < 40))))] [ob (i0 h0), ob (iM F0_ h0), ob (lnM (eI .u8) Word_e), ob c2, ob c2, ob c2, ob c3] (by kernel_rfl) fun st0 h0 => hJ4 st0 _ w_1 hf1 h0 inferInstance
      ·obtain rfl := someE hf2
       obtain rfl := hl2
       exact awpBack X0 TTab_ok hC hm [1,3,4,5,13,14] 4000 (.a (F0_ Word_e) :: aLn Word_e.length :: (rpN 4 bF [])) J4 [(1, .own (.box (F21_ x_))), (3, .own (eOs 1 false F3_ out1)), (4, .d (I i_)), (5, .own (eOs 1 false (eI .i64) w_1)), (13, .d (I i_)), (14, .d (B (decide (i_ < 40))))] [ob (i0 h0), ob (iM F0_ h0), ob (lnM (eI .u8) Word_e), ob c2, ob c2, ob c2, oF] (by kernel_rfl) fun st0 h0 => hJ4 st0 _ w_1 hf1 h0 inferInstance
   ·obtain rfl := someE hf1
    obtain rfl := hl1
    exact awpBack X0 TTab_ok hC hm [3] 4000 [aLn x_.Words.length, bT, bT, bT, bF] J1 [(3, .own (eOs 1 false F3_ out1))] [ob o0, ob c0, ob c0, ob c0, ob c1] (by kernel_rfl) fun st0 h0 => hJ1 st0 _ out1 hf0 h0 inferInstance
  ·obtain rfl := someE hf1
   obtain rfl := hl1
   exact awpBack X0 TTab_ok hC hm [3] 4000 (aLn x_.Words.length :: (rpN 4 bF [])) J1 [(3, .own (eOs 1 false F3_ out1))] [ob o0, ob c0, ob c0, ob c0, oF] (by kernel_rfl) fun st0 h0 => hJ1 st0 _ out1 hf0 h0 inferInstance
noncomputable def bd_ref12_compare : Code := (Try.f64.body).getD .skip
noncomputable def sp_ref12_compare : Spec := spF (α := List Int × List Int) (ρ := Int) 64 (fun x => [F4_ x.1, F4_ x.2]) (fun r => (eI .i64) r) (fun x => ref12_compare x.1 x.2) [] (by
 rintro ⟨a0, a1⟩ ⟨b0, b1⟩ h
 have e0 := EncI.inj (f := F4_) _ _ (List.cons.inj h).1
 replace h := (List.cons.inj h).2
 have e1 := EncI.inj (f := F4_) _ _ (List.cons.inj h).1
 subst e0 e1
 rfl)
abbrev ST_ref12_compare_J1 : List (Nat × T) := []
abbrev ST_ref12_compare_L2 (a_ : List Int) (b_ : List Int) (i_ : Int) : List (Nat × T) := [(0, .d (eSl 1 false (eI .i64) a_)), (1, .d (eSl 1 false (eI .i64) b_)), (5, .d (I i_))]
theorem w_ref12_compare {ctr : Ctr} (hC : CtrOk Try.prog ctr) (hm : Try.prog.follows .mixedOrders = true) : sp_ref12_compare.Ok Try.prog := by
 refine spF_ok ?_
 rintro ⟨a_, b_⟩ r0 hf0
 try unfold ref12_compare at hf0
 refine callOk_h (tt := TTab) (keep := true) (rs := [(4, none)]) (n := ⟨40, []⟩) (body := bd_ref12_compare) TTab_ok Try.func64 rfl (by kernel_rfl) rfl rfl (by show (2 : Nat) ≤ 40; decide) fun E hE => ?_
 rcases bifE hf0 with ⟨c0, hf0⟩ | ⟨c0, hf0⟩
 ·rcases bifE hf0 with ⟨c1, hf0⟩ | ⟨c1, hf0⟩
  ·obtain rfl := someE hf0
   exact awpEnd X0 TTab_ok hC hm hE 4000 (hs := [aLn a_.length, aLn b_.length, bT, aLn a_.length, aLn b_.length, bT]) (x := (I (-1))) [ob (lnM (eI .i64) a_), ob (lnM (eI .i64) b_), ob c0, ob (lnM (eI .i64) a_), ob (lnM (eI .i64) b_), ob c1] (by kernel_rfl) (LeV.refl _)
  ·obtain rfl := someE hf0
   exact awpEnd X0 TTab_ok hC hm hE 4000 (hs := [aLn a_.length, aLn b_.length, bT, aLn a_.length, aLn b_.length, bF]) (x := (I 1)) [ob (lnM (eI .i64) a_), ob (lnM (eI .i64) b_), ob c0, ob (lnM (eI .i64) a_), ob (lnM (eI .i64) b_), ob c1] (by kernel_rfl) (LeV.refl _)
 ·refine awpAt X0 TTab_ok hC hm [0,1] 4000 [aLn a_.length, aLn b_.length, bF, .cut 0] (sub [1,1] bd_ref12_compare) (frs [1,1] [] bd_ref12_compare []) [(0, .d (eSl 1 false (eI .i64) a_)), (1, .d (eSl 1 false (eI .i64) b_))] [ob (lnM (eI .i64) a_), ob (lnM (eI .i64) b_), ob c0] (by kernel_rfl) fun st0 h0 => ?_
  refine awpJoin' (X := Unit) (x := (sub [1,1,2] bd_ref12_compare)) (y := (sub [1,1,1] bd_ref12_compare)) (by kernel_rfl) [] [0,1] _ h0 (fun z => ref12_compare_J1 = some r0) (fun z => ST_ref12_compare_J1) ?_ fun J1 hJ1 => ?_
  ·rintro ⟨⟩ hf0
   unfold ref12_compare_J1 at hf0
   obtain rfl := someE hf0
   exact awpEnd X0 TTab_ok hC hm hE 4000 (hs := []) (x := (I 0)) [] (by kernel_rfl) (LeV.refl _)
  ·obtain ⟨t2, ht2, hf0⟩ := bindE hf0
   refine awpAt X0 TTab_ok hC hm [0,1,5] 4000 [] (sub [1,1,2,1,0] bd_ref12_compare) (frs [1,1,2,1,0] [J1] bd_ref12_compare []) [(0, .d (eSl 1 false (eI .i64) a_)), (1, .d (eSl 1 false (eI .i64) b_)), (5, .d (I 0))] [] (by kernel_rfl) fun st0 h0 => ?_
   refine awpLoop' (X := Int × Nat) (c' := (sub [1,1,2,1,0,0] bd_ref12_compare)) (by kernel_rfl) [0,1,5] (fun x => loopN (fun s => ref12_compare_L2 a_ b_ s) x.2 x.1 = some t2) (fun x => x.2) (fun x => ST_ref12_compare_L2 a_ b_ x.1) (0, fuel) _ h0 inferInstance ht2 ?_
   rintro ⟨i_, n2⟩ hn2 J2 hJ2
   obtain ⟨m2, lr1, rfl, hf1, hl1⟩ := loopE hn2
   try unfold ref12_compare_L2 at hf1
   rcases bifE hf1 with ⟨c2, hf1⟩ | ⟨c2, hf1⟩
   ·obtain ⟨a__e, h0, hf1⟩ := bindE hf1
    obtain ⟨b__e, h1, hf1⟩ := bindE hf1
    rcases bifE hf1 with ⟨c3, hf1⟩ | ⟨c3, hf1⟩
    ·obtain rfl := someE hf1
     obtain rfl := hl1
     obtain rfl := someE hf0
     exact awpEnd X0 TTab_ok hC hm hE 4000 (hs := [aLn a_.length, bT, .a ((eI .i64) a__e), .a ((eI .i64) b__e), bT]) (x := (I (-1))) [ob (lnM (eI .i64) a_), ob c2, ob (i0 h0), ob (iM (eI .i64) h0), ob (i0 h1), ob (iM (eI .i64) h1), ob c3] (by kernel_rfl) (LeV.refl _)
    ·obtain ⟨a__e1, h2, hf1⟩ := bindE hf1
     obtain ⟨b__e1, h3, hf1⟩ := bindE hf1
     rcases bifE hf1 with ⟨c4, hf1⟩ | ⟨c4, hf1⟩
     ·obtain rfl := someE hf1
      obtain rfl := hl1
      obtain rfl := someE hf0
      exact awpEnd X0 TTab_ok hC hm hE 4000 (hs := [aLn a_.length, bT, .a ((eI .i64) a__e), .a ((eI .i64) b__e), bF, .a ((eI .i64) a__e1), .a ((eI .i64) b__e1), bT]) (x := (I 1)) [ob (lnM (eI .i64) a_), ob c2, ob (i0 h0), ob (iM (eI .i64) h0), ob (i0 h1), ob (iM (eI .i64) h1), ob c3, ob (i0 h2), ob (iM (eI .i64) h2), ob (i0 h3), ob (iM (eI .i64) h3), ob c4] (by kernel_rfl) (LeV.refl _)
     ·obtain rfl := someE hf1
      exact awpBack X0 TTab_ok hC hm [0,1,5] 4000 [aLn a_.length, bT, .a ((eI .i64) a__e), .a ((eI .i64) b__e), bF, .a ((eI .i64) a__e1), .a ((eI .i64) b__e1), bF] J2 [(0, .d (eSl 1 false (eI .i64) a_)), (1, .d (eSl 1 false (eI .i64) b_)), (5, .d (I (w64 (i_ + 1))))] [ob (lnM (eI .i64) a_), ob c2, ob (i0 h0), ob (iM (eI .i64) h0), ob (i0 h1), ob (iM (eI .i64) h1), ob c3, ob (i0 h2), ob (iM (eI .i64) h2), ob (i0 h3), ob (iM (eI .i64) h3), ob c4] (by kernel_rfl) fun st0 h0 => hJ2 st0 _ (w64 (i_ + 1), m2) hl1 (Nat.lt_succ_self m2) h0 inferInstance
   ·obtain rfl := someE hf1
    obtain rfl := hl1
    exact awpBack X0 TTab_ok hC hm [] 4000 [aLn a_.length, bF] J1 [] [ob (lnM (eI .i64) a_), ob c2] (by kernel_rfl) fun st0 h0 => hJ1 st0 _ () hf0 h0 inferInstance
noncomputable def bd_ref12_put : Code := (Try.f52.body).getD .skip
noncomputable def sp_ref12_put : Spec := spF (α := List (List Int) × List Int) (ρ := List (List Int)) 52 (fun x => [F9_ x.1, F4_ x.2]) (fun r => F9_ r) (fun x => ref12_put x.1 x.2) [true, false] (by
 rintro ⟨a0, a1⟩ ⟨b0, b1⟩ h
 have e0 := EncI.inj (f := F9_) _ _ (List.cons.inj h).1
 replace h := (List.cons.inj h).2
 have e1 := EncI.inj (f := F4_) _ _ (List.cons.inj h).1
 subst e0 e1
 rfl)
abbrev ST_ref12_put_J3 (w_ : List Int) (low : Int) (l_1 : List (List Int)) : List (Nat × T) := [(0, .own (eOs 1 false F4_ l_1)), (1, .d (eSl 1 false (eI .i64) w_)), (5, .d (I low))]
abbrev ST_ref12_put_L4 (w_ : List Int) (low : Int) (l_2 : List (List Int)) (i_ : Int) : List (Nat × T) := [(0, .own (eOs 1 false F4_ l_2)), (1, .d (eSl 1 false (eI .i64) w_)), (5, .d (I low)), (8, .d (I i_))]
abbrev ST_ref12_put_J2 (l_ : List (List Int)) (w_ : List Int) (low : Int) : List (Nat × T) := [(0, .own (eOs 1 false F4_ l_)), (1, .d (eSl 1 false (eI .i64) w_)), (5, .d (I low))]
abbrev ST_ref12_put_J1 (l_ : List (List Int)) (w_ : List Int) (low : Int) : List (Nat × T) := [(0, .own (eOs 1 false F4_ l_)), (1, .d (eSl 1 false (eI .i64) w_)), (5, .d (I low))]
abbrev ST_ref12_put_L5 (l_ : List (List Int)) (w_ : List Int) (low1 : Int) (high : Int) : List (Nat × T) := [(0, .own (eOs 1 false F4_ l_)), (1, .d (eSl 1 false (eI .i64) w_)), (5, .d (I low1)), (6, .d (I high))]
theorem w_ref12_put {ctr : Ctr} (hC : CtrOk Try.prog ctr) (hm : Try.prog.follows .mixedOrders = true) (h_ref12_compare : ctr.Has sp_ref12_compare) : sp_ref12_put.Ok Try.prog := by
 refine spF_ok ?_
 rintro ⟨l_, w_⟩ r0 hf0
 try unfold ref12_put at hf0
 refine callOk_h (tt := TTab) (keep := true) (rs := [(4, none)]) (n := ⟨68, []⟩) (body := bd_ref12_put) TTab_ok Try.func52 rfl (by kernel_rfl) rfl rfl (by show (2 : Nat) ≤ 68; decide) fun E hE => ?_
 refine awpAt ((xSeal TTab_ok (.inr 66) [65]).or ((xSeal TTab_ok (.inl 44) [43]).or X0)) TTab_ok hC hm [0,1,5,6] 4000 [aLn l_.length, .cut 0] (sub [1,1,1] bd_ref12_put) (frs [1,1,1] [] bd_ref12_put []) [(0, .own (eOs 1 false F4_ l_)), (1, .d (eSl 1 false (eI .i64) w_)), (5, .d (I 0)), (6, .d (I ((l_.length : Nat) : Int)))] [ob (lnM F4_ l_)] (by kernel_rfl) fun st0 h0 => ?_
 refine awpJoin' (X := Int) (x := (sub [1,1,1,2] bd_ref12_put)) (y := (sub [1,1,1,1] bd_ref12_put)) (by kernel_rfl) [0,1,5] [0,1,5,6] _ h0 (fun z => ref12_put_J1 l_ w_ z = some r0) (fun z => ST_ref12_put_J1 l_ w_ z) ?_ fun J1 hJ1 => ?_
 ·rintro low hf0
  unfold ref12_put_J1 at hf0
  refine awpAt ((xSeal TTab_ok (.inr 66) [65]).or ((xSeal TTab_ok (.inl 44) [43]).or X0)) TTab_ok hC hm [0,1,5] 4000 [.cut 0] (sub [1,1,1,1] bd_ref12_put) (frs [1,1,1,1] [] bd_ref12_put []) [(0, .own (eOs 1 false F4_ l_)), (1, .d (eSl 1 false (eI .i64) w_)), (5, .d (I low))] [] (by kernel_rfl) fun st0 h0 => ?_
  refine awpJoin' (X := Unit) (x := (sub [1,1,1,1,2] bd_ref12_put)) (y := (sub [1,1,1,1,1] bd_ref12_put)) (by kernel_rfl) [0,1,5] [0,1,5] _ h0 (fun z => ref12_put_J2 l_ w_ low = some r0) (fun z => ST_ref12_put_J2 l_ w_ low) ?_ fun J2 hJ2 => ?_
  ·rintro ⟨⟩ hf0
   unfold ref12_put_J2 at hf0
   have o0 := shM F3_ F4_ ([[]])
   have o1 := dM F4_ ([[]] : List (List Int))
   obtain ⟨g0, hf0⟩ := gdE hf0
   have o2 := aL F4_ F4_ g0
   have o3 := aM F4_ l_ ([[]] : List (List Int))
   refine awpAt ((xNb TTab_ok 43).or ((xSeal TTab_ok (.inr 66) [65]).or ((xSeal TTab_ok (.inl 44) [43]).or X0))) TTab_ok hC hm [0,1,5] 4000 [.l (([[]]).map F4_), .l ((l_ ++ ([[]] : List (List Int))).map F4_), .cut 0] (sub [1,1,1,1,1,1] bd_ref12_put) (frs [1,1,1,1,1,1] [] bd_ref12_put []) [(0, .own (eOs 1 false F4_ (l_ ++ ([[]] : List (List Int))))), (1, .d (eSl 1 false (eI .i64) w_)), (5, .d (I low))] [ob o0, ob o1, ob o2, ob o3] (by kernel_rfl) fun st0 h0 => ?_
   refine awpJoin' (X := List (List Int)) (x := (sub [1,1,1,1,1,1,2] bd_ref12_put)) (y := (sub [1,1,1,1,1,1,1] bd_ref12_put)) (by kernel_rfl) [0,1,5] [0,1,5] _ h0 (fun z => ref12_put_J3 w_ low z = some r0) (fun z => ST_ref12_put_J3 w_ low z) ?_ fun J3 hJ3 => ?_
   ·rintro l_1 hf0
    unfold ref12_put_J3 at hf0
    obtain ⟨g1, hf0⟩ := gdE hf0
    obtain ⟨l__e, h0, hf0⟩ := bindE hf0
    have o4 := sM F4_ l_1 low w_
    obtain rfl := someE hf0
    exact awpEnd ((xSeal TTab_ok (.inr 66) [65]).or ((xSeal TTab_ok (.inl 44) [43]).or X0)) TTab_ok hC hm hE 4000 (hs := [.l (w_.map (eI .i64)), .l (w_.map (eI .i64)), .a (F4_ l__e), .a (F4_ l__e), .l ((l_1.set low.toNat w_).map F4_)]) (x := (eOs 1 false F4_ (l_1.set low.toNat w_))) [ob (dM (eI .i64) w_), ob (aL (eI .i64) (eI .i64) g1), ob (aM0 (eI .i64) w_), ob (iL F4_ h0), ob (shM (eI .i64) (eI .i64) w_), ob (iM F4_ h0), ob (iM F4_ h0), ob o4] (by kernel_rfl) (LeV.refl _)
   ·have o5 := lnM F4_ (l_ ++ ([[]] : List (List Int)))
    obtain ⟨t4, ht4, hf0⟩ := bindE hf0
    refine awpAt ((xSeal TTab_ok (.inr 66) [65]).or ((xSeal TTab_ok (.inl 44) [43]).or X0)) TTab_ok hC hm [0,1,5,8] 4000 [.a (.atom (.int .i64 (((l_ ++ ([[]] : List (List Int))).length : Nat) : Int)))] (sub [1,1,1,1,1,1,2,1,0] bd_ref12_put) (frs [1,1,1,1,1,1,2,1,0] [J3] bd_ref12_put []) [(0, .own (eOs 1 false F4_ (l_ ++ ([[]] : List (List Int))))), (1, .d (eSl 1 false (eI .i64) w_)), (5, .d (I low)), (8, .d (I (w64 ((((l_ ++ ([[]] : List (List Int))).length : Nat) : Int) - 1))))] [ob o5] (by kernel_rfl) fun st0 h0 => ?_
    refine awpLoop' (X := (List (List Int) × Int) × Nat) (c' := (sub [1,1,1,1,1,1,2,1,0,0] bd_ref12_put)) (by kernel_rfl) [0,1,5,8] (fun x => loopN (fun s => ref12_put_L4 low s.1 s.2) x.2 x.1 = some t4) (fun x => x.2) (fun x => ST_ref12_put_L4 w_ low x.1.1 x.1.2) (((l_ ++ ([[]] : List (List Int))), w64 ((((l_ ++ ([[]] : List (List Int))).length : Nat) : Int) - 1)), fuel) _ h0 inferInstance ht4 ?_
    rintro ⟨⟨l_2, i_⟩, n4⟩ hn4 J4 hJ4
    obtain ⟨m4, lr1, rfl, hf1, hl1⟩ := loopE hn4
    try unfold ref12_put_L4 at hf1
    rcases bifE hf1 with ⟨c0, hf1⟩ | ⟨c0, hf1⟩
    ·obtain ⟨l__e1, h1, hf1⟩ := bindE hf1
     obtain ⟨l__e2, h2, hf1⟩ := bindE hf1
     have o6 := sM F4_ l_2 i_ l__e1
     obtain rfl := someE hf1
     exact awpBack ((xSeal TTab_ok (.inr 66) [65]).or ((xSeal TTab_ok (.inl 44) [43]).or X0)) TTab_ok hC hm [0,1,5,8] 4000 [bT, .a (F4_ l__e1), .a (F4_ l__e2), .a (F4_ l__e2), .l ((l_2.set i_.toNat l__e1).map F4_)] J4 [(0, .own (eOs 1 false F4_ (l_2.set i_.toNat l__e1))), (1, .d (eSl 1 false (eI .i64) w_)), (5, .d (I low)), (8, .d (I (w64 (i_ - 1))))] [ob c0, ob (iL F4_ h1), ob (iM F4_ h1), ob (iL F4_ h2), ob (iM F4_ h2), ob (iM F4_ h2), ob o6] (by kernel_rfl) fun st0 h0 => hJ4 st0 _ (((l_2.set i_.toNat l__e1), w64 (i_ - 1)), m4) hl1 (Nat.lt_succ_self m4) h0 inferInstance
    ·obtain rfl := someE hf1
     obtain rfl := hl1
     exact awpBack ((xSeal TTab_ok (.inr 66) [65]).or ((xSeal TTab_ok (.inl 44) [43]).or X0)) TTab_ok hC hm [0,1,5] 4000 [bF] J3 [(0, .own (eOs 1 false F4_ l_2)), (1, .d (eSl 1 false (eI .i64) w_)), (5, .d (I low))] [ob c0] (by kernel_rfl) fun st0 h0 => hJ3 st0 _ l_2 hf0 h0 inferInstance
  ·rcases bifE hf0 with ⟨c1, hf0⟩ | ⟨c1, hf0⟩
   ·obtain ⟨l__e3, h3, hf0⟩ := bindE hf0
    obtain ⟨r_, h4, hf0⟩ := bindE hf0
    have o7 := hasF h_ref12_compare (x := (l__e3, w_)) h4 (loC F4_ l__e3 <| loC F4_ w_ <| loN)
    rcases bifE hf0 with ⟨c2, hf0⟩ | ⟨c2, hf0⟩
    ·obtain rfl := someE hf0
     exact awpEnd ((xSeal TTab_ok (.inr 66) [65]).or ((xSeal TTab_ok (.inl 44) [43]).or X0)) TTab_ok hC hm hE 4000 (hs := (aLn l_.length :: (rpN 4 bT [.a (F4_ l__e3), bT, bT, .g [], .a ((eI .i64) r_), bT, bT, bT]))) (x := (eOs 1 false F4_ l_)) [ob (lnM F4_ l_), ob c1, ob c1, ob c1, ob (iL F4_ h3), ob c1, ob (iM F4_ h3), ob c1, ob c1, ob (hasG h_ref12_compare), ob o7, ob c1, ob c1, ob c2] (by kernel_rfl) (LeV.refl _)
    ·exact awpBack ((xSeal TTab_ok (.inr 66) [65]).or ((xSeal TTab_ok (.inl 44) [43]).or X0)) TTab_ok hC hm [0,1,5] 4000 (aLn l_.length :: (rpN 4 bT [.a (F4_ l__e3), bT, bT, .g [], .a ((eI .i64) r_), bT, bT, bF])) J2 [(0, .own (eOs 1 false F4_ l_)), (1, .d (eSl 1 false (eI .i64) w_)), (5, .d (I low))] [ob (lnM F4_ l_), ob c1, ob c1, ob c1, ob (iL F4_ h3), ob c1, ob (iM F4_ h3), ob c1, ob c1, ob (hasG h_ref12_compare), ob o7, ob c1, ob c1, ob c2] (by kernel_rfl) fun st0 h0 => hJ2 st0 _ () hf0 h0 inferInstance
   ·exact awpBack ((xSeal TTab_ok (.inr 66) [65]).or ((xSeal TTab_ok (.inl 44) [43]).or X0)) TTab_ok hC hm [0,1,5] 4000 (aLn l_.length :: (rpN 9 bF [])) J2 [(0, .own (eOs 1 false F4_ l_)), (1, .d (eSl 1 false (eI .i64) w_)), (5, .d (I low))] (ob (lnM F4_ l_) :: (rpN 8 (ob c1) [oF])) (by kernel_rfl) fun st0 h0 => hJ2 st0 _ () hf0 h0 inferInstance
 ·obtain ⟨t5, ht5, hf0⟩ := bindE hf0
  refine awpAt ((xSeal TTab_ok (.inr 66) [65]).or ((xSeal TTab_ok (.inl 44) [43]).or X0)) TTab_ok hC hm [0,1,5,6] 4000 [] (sub [1,1,1,2,0] bd_ref12_put) (frs [1,1,1,2,0] [J1] bd_ref12_put []) [(0, .own (eOs 1 false F4_ l_)), (1, .d (eSl 1 false (eI .i64) w_)), (5, .d (I 0)), (6, .d (I ((l_.length : Nat) : Int)))] [] (by kernel_rfl) fun st0 h0 => ?_
  refine awpLoop' (X := (Int × Int) × Nat) (c' := (sub [1,1,1,2,0,0] bd_ref12_put)) (by kernel_rfl) [0,1,5,6] (fun x => loopN (fun s => ref12_put_L5 l_ w_ s.1 s.2) x.2 x.1 = some t5) (fun x => x.2) (fun x => ST_ref12_put_L5 l_ w_ x.1.1 x.1.2) ((0, ((l_.length : Nat) : Int)), fuel) _ h0 inferInstance ht5 ?_
  rintro ⟨⟨low1, high⟩, n5⟩ hn5 J5 hJ5
  obtain ⟨m5, lr1, rfl, hf1, hl1⟩ := loopE hn5
  try unfold ref12_put_L5 at hf1
  rcases bifE hf1 with ⟨c3, hf1⟩ | ⟨c3, hf1⟩
  ·obtain ⟨g2, hf1⟩ := gdE hf1
   obtain ⟨l__e4, h5, hf1⟩ := bindE hf1
   obtain ⟨r_1, h6, hf1⟩ := bindE hf1
   have o8 := hasF h_ref12_compare (x := (l__e4, w_)) h6 (loC F4_ l__e4 <| loC F4_ w_ <| loN)
   rcases bifE hf1 with ⟨c4, hf1⟩ | ⟨c4, hf1⟩
   ·obtain rfl := someE hf1
    exact awpBack ((xSeal TTab_ok (.inr 66) [65]).or ((xSeal TTab_ok (.inl 44) [43]).or X0)) TTab_ok hC hm [0,1,5,6] 4000 [bT, .a (F4_ l__e4), .g [], .a ((eI .i64) r_1), bT] J5 [(0, .own (eOs 1 false F4_ l_)), (1, .d (eSl 1 false (eI .i64) w_)), (5, .d (I (w64 ((w64 (Int.tdiv (w64 (low1 + high)) 2)) + 1)))), (6, .d (I high))] [ob c3, ob g2, ob (iL F4_ h5), ob (iM F4_ h5), ob (hasG h_ref12_compare), ob o8, ob c4] (by kernel_rfl) fun st0 h0 => hJ5 st0 _ ((w64 ((w64 (Int.tdiv (w64 (low1 + high)) 2)) + 1), high), m5) hl1 (Nat.lt_succ_self m5) h0 inferInstance
   ·obtain rfl := someE hf1
    exact awpBack ((xSeal TTab_ok (.inr 66) [65]).or ((xSeal TTab_ok (.inl 44) [43]).or X0)) TTab_ok hC hm [0,1,5,6] 4000 [bT, .a (F4_ l__e4), .g [], .a ((eI .i64) r_1), bF] J5 [(0, .own (eOs 1 false F4_ l_)), (1, .d (eSl 1 false (eI .i64) w_)), (5, .d (I low1)), (6, .d (I (w64 (Int.tdiv (w64 (low1 + high)) 2))))] [ob c3, ob g2, ob (iL F4_ h5), ob (iM F4_ h5), ob (hasG h_ref12_compare), ob o8, ob c4] (by kernel_rfl) fun st0 h0 => hJ5 st0 _ ((low1, w64 (Int.tdiv (w64 (low1 + high)) 2)), m5) hl1 (Nat.lt_succ_self m5) h0 inferInstance
  ·obtain rfl := someE hf1
   obtain rfl := hl1
   exact awpBack ((xSeal TTab_ok (.inr 66) [65]).or ((xSeal TTab_ok (.inl 44) [43]).or X0)) TTab_ok hC hm [0,1,5] 4000 [bF] J1 [(0, .own (eOs 1 false F4_ l_)), (1, .d (eSl 1 false (eI .i64) w_)), (5, .d (I low1))] [ob c3] (by kernel_rfl) fun st0 h0 => hJ1 st0 _ low1 hf0 h0 inferInstance
noncomputable def bd_ref12_Sort : Code := (Try.f17.body).getD .skip
noncomputable def sp_ref12_Sort : Spec := spF (α := List (List Int)) (ρ := List (List Int)) 17 (fun x => [F10_ x]) (fun r => F9_ r) (fun x => ref12_Sort x) [] (by
 rintro a0 b0 h
 have e0 := EncI.inj (f := F10_) _ _ (List.cons.inj h).1
 subst e0
 rfl)
abbrev ST_ref12_Sort_J1 (out : List (List Int)) : List (Nat × T) := [(3, .own (eOs 1 false F4_ out))]
abbrev ST_ref12_Sort_L2 (l_ : List (List Int)) (out1 : List (List Int)) (i_ : Int) : List (Nat × T) := [(0, .d (eSl 1 false F4_ l_)), (3, .own (eOs 1 false F4_ out1)), (4, .d (I i_))]
theorem w_ref12_Sort {ctr : Ctr} (hC : CtrOk Try.prog ctr) (hm : Try.prog.follows .mixedOrders = true) (h_ref12_put : ctr.Has sp_ref12_put) : sp_ref12_Sort.Ok Try.prog := by
 refine spF_ok ?_
 rintro l_ r0 hf0
 try unfold ref12_Sort at hf0
 refine callOk_h (tt := TTab) (keep := true) (rs := [(2, none)]) (n := ⟨18, []⟩) (body := bd_ref12_Sort) TTab_ok Try.func17 rfl (by kernel_rfl) rfl rfl (by show (1 : Nat) ≤ 18; decide) fun E hE => ?_
 refine awpAt X0 TTab_ok hC hm [0,3] 4000 [.cut 2] (sub [1,1] bd_ref12_Sort) (frs [1,1] [] bd_ref12_Sort []) [(0, .d (eSl 1 false F4_ l_)), (3, .own (eOs 1 true F4_ []))] [] (by kernel_rfl) fun st0 h0 => ?_
 refine awpJoin' (X := List (List Int)) (x := (sub [1,1,2] bd_ref12_Sort)) (y := (sub [1,1,1] bd_ref12_Sort)) (by kernel_rfl) [3] [0,3] _ h0 (fun z => ref12_Sort_J1 z = some r0) (fun z => ST_ref12_Sort_J1 z) ?_ fun J1 hJ1 => ?_
 ·rintro out hf0
  unfold ref12_Sort_J1 at hf0
  obtain rfl := someE hf0
  exact awpEnd X0 TTab_ok hC hm hE 4000 (hs := []) (x := (eOs 1 false F4_ out)) [] (by kernel_rfl) (LeV.refl _)
 ·obtain ⟨t2, ht2, hf0⟩ := bindE hf0
  refine awpAt X0 TTab_ok hC hm [0,3,4] 4000 [] (sub [1,1,2,1,0] bd_ref12_Sort) (frs [1,1,2,1,0] [J1] bd_ref12_Sort []) [(0, .d (eSl 1 false F4_ l_)), (3, .own (eOs 1 true F4_ [])), (4, .d (I 0))] [] (by kernel_rfl) fun st0 h0 => ?_
  refine awpLoop' (X := (List (List Int) × Int) × Nat) (c' := (sub [1,1,2,1,0,0] bd_ref12_Sort)) (by kernel_rfl) [0,3,4] (fun x => loopN (fun s => ref12_Sort_L2 l_ s.1 s.2) x.2 x.1 = some t2) (fun x => x.2) (fun x => ST_ref12_Sort_L2 l_ x.1.1 x.1.2) ((([] : List (List Int)), 0), fuel) _ h0 inferInstance ht2 ?_
  rintro ⟨⟨out1, i_⟩, n2⟩ hn2 J2 hJ2
  obtain ⟨m2, lr1, rfl, hf1, hl1⟩ := loopE hn2
  try unfold ref12_Sort_L2 at hf1
  rcases bifE hf1 with ⟨c0, hf1⟩ | ⟨c0, hf1⟩
  ·obtain ⟨l__e, h0, hf1⟩ := bindE hf1
   obtain ⟨r_, h1, hf1⟩ := bindE hf1
   have o0 := hasF h_ref12_put (x := (out1, l__e)) h1 (loC F9_ out1 <| loC F4_ l__e <| loN)
   obtain rfl := someE hf1
   exact awpBack X0 TTab_ok hC hm [0,3,4] 4000 [aLn l_.length, bT, .a (F4_ l__e), .g [true, false], .a (F9_ r_)] J2 [(0, .d (eSl 1 false F4_ l_)), (3, .own (eOs 1 false F4_ r_)), (4, .d (I (w64 (i_ + 1))))] [ob (lnM F4_ l_), ob c0, ob (i0 h0), ob (iM F4_ h0), ob (hasG h_ref12_put), ob o0] (by kernel_rfl) fun st0 h0 => hJ2 st0 _ ((r_, w64 (i_ + 1)), m2) hl1 (Nat.lt_succ_self m2) h0 inferInstance
  ·obtain rfl := someE hf1
   obtain rfl := hl1
   exact awpBack X0 TTab_ok hC hm [3] 4000 [aLn l_.length, bF] J1 [(3, .own (eOs 1 false F4_ out1))] [ob (lnM F4_ l_), ob c0] (by kernel_rfl) fun st0 h0 => hJ1 st0 _ out1 hf0 h0 inferInstance
noncomputable def bd_law12_L_Of : Code := (Try.f19.body).getD .skip
noncomputable def sp_law12_L_Of : Spec := spF (α := S_law12_L) (ρ := List (List Int)) 19 (fun x => [F21_ x]) (fun r => F9_ r) (fun x => law12_L_Of x) [] (by
 rintro a0 b0 h
 have e0 := EncI.inj (f := F21_) _ _ (List.cons.inj h).1
 subst e0
 rfl)
theorem w_law12_L_Of {ctr : Ctr} (hC : CtrOk Try.prog ctr) (hm : Try.prog.follows .mixedOrders = true) (h_law12_L_Raw : ctr.Has sp_law12_L_Raw) (h_ref12_Sort : ctr.Has sp_ref12_Sort) : sp_law12_L_Of.Ok Try.prog := by
 refine spF_ok ?_
 rintro x_ r0 hf0
 try unfold law12_L_Of at hf0
 refine callOk_h (tt := TTab) (keep := true) (rs := [(2, none)]) (n := ⟨6, []⟩) (body := bd_law12_L_Of) TTab_ok Try.func19 rfl (by kernel_rfl) rfl rfl (by show (1 : Nat) ≤ 6; decide) fun E hE => ?_
 obtain ⟨r_, h0, hf0⟩ := bindE hf0
 have o0 := hasF h_law12_L_Raw (x := x_) h0 (loC F21_ x_ <| loN)
 have o1 := shM F3_ F4_ r_
 obtain ⟨r_1, h1, hf0⟩ := bindE hf0
 have o2 := hasF h_ref12_Sort (x := r_) h1 (loC F10_ r_ <| loN)
 have o3 := shM F3_ F4_ r_
 obtain rfl := someE hf0
 exact awpEnd X0 TTab_ok hC hm hE 4000 (hs := [.g [], .a ((eOs 1 false F3_) r_), .g [], .l (r_.map F4_), .a (F9_ r_1), .l (r_.map F4_)]) (x := (eOs 1 false F4_ r_1)) [ob (hasG h_law12_L_Raw), ob o0, ob (hasG h_ref12_Sort), ob o1, ob o2, ob o3] (by kernel_rfl) (LeV.refl _)
noncomputable def bd_words_Check_1 : Code := (Try.f86.body).getD .skip
noncomputable def sp_words_Check_1 : Spec := spF (α := Int × Int) (ρ := Bool) 86 (fun x => [(eI .i64) x.1, (eSp (eI .i64)) x.2]) (fun r => eB r) (fun x => words_Check_1 x.1 x.2) [] (by
 rintro ⟨a0, a1⟩ ⟨b0, b1⟩ h
 have e0 := EncI.inj (f := (eI .i64)) _ _ (List.cons.inj h).1
 replace h := (List.cons.inj h).2
 have e1 := EncI.inj (f := (eSp (eI .i64))) _ _ (List.cons.inj h).1
 subst e0 e1
 rfl)
theorem w_words_Check_1 {ctr : Ctr} (hC : CtrOk Try.prog ctr) (hm : Try.prog.follows .mixedOrders = true) : sp_words_Check_1.Ok Try.prog := by
 refine spF_ok ?_
 rintro ⟨c_, x1⟩ r0 hf0
 try unfold words_Check_1 at hf0
 refine callOk_h (tt := TTab) (keep := true) (rs := [(3, none)]) (n := ⟨11, []⟩) (body := bd_words_Check_1) TTab_ok Try.func86 rfl (by kernel_rfl) rfl rfl (by show (2 : Nat) ≤ 11; decide) fun E hE => ?_
 rcases bifE hf0 with ⟨c0, hf0⟩ | ⟨c0, hf0⟩
 ·obtain rfl := someE hf0
  exact awpEnd X0 TTab_ok hC hm hE 4000 (hs := (rpN 4 bT [])) (x := (B true)) (rpN 4 (ob c0) []) (by kernel_rfl) (LeV.refl _)
 ·obtain rfl := someE hf0
  exact awpEnd X0 TTab_ok hC hm hE 4000 (hs := (rpN 4 bF [])) (x := (B (decide (c_ ≥ x1)))) (rpN 4 (ob c0) []) (by kernel_rfl) (LeV.refl _)
noncomputable def bd_slices_IndexFunc_int_int : Code := (Try.f95.body).getD .skip
noncomputable def sp_slices_IndexFunc_int_int : Spec := spF (α := List Int × Int) (ρ := Int) 95 (fun x => [F4_ x.1, (eFn1 86 (eSp (eI .i64))) x.2]) (fun r => (eI .i64) r) (fun x => slices_IndexFunc_int_int x.1 x.2) [] (by
 rintro ⟨a0, a1⟩ ⟨b0, b1⟩ h
 have e0 := EncI.inj (f := F4_) _ _ (List.cons.inj h).1
 replace h := (List.cons.inj h).2
 have e1 := EncI.inj (f := (eFn1 86 (eSp (eI .i64)))) _ _ (List.cons.inj h).1
 subst e0 e1
 rfl)
abbrev ST_slices_IndexFunc_int_int_J1 : List (Nat × T) := []
abbrev ST_slices_IndexFunc_int_int_L2 (s_ : List Int) (f_ : Int) (x8 : Int) : List (Nat × T) := [(0, .d (eSl 1 false (eI .i64) s_)), (1, .d (.fn 86 [.sptr (I f_)])), (7, .d (I ((s_.length : Nat) : Int))), (8, .d (I x8))]
theorem w_slices_IndexFunc_int_int {ctr : Ctr} (hC : CtrOk Try.prog ctr) (hm : Try.prog.follows .mixedOrders = true) (h_words_Check_1 : ctr.Has sp_words_Check_1) : sp_slices_IndexFunc_int_int.Ok Try.prog := by
 refine spF_ok ?_
 rintro ⟨s_, f_⟩ r0 hf0
 try unfold slices_IndexFunc_int_int at hf0
 refine callOk_h (tt := TTab) (keep := true) (rs := [(4, none)]) (n := ⟨19, []⟩) (body := bd_slices_IndexFunc_int_int) TTab_ok Try.func95 rfl (by kernel_rfl) rfl rfl (by show (2 : Nat) ≤ 19; decide) fun E hE => ?_
 refine awpAt X0 TTab_ok hC hm [0,1] 4000 [.cut 1] (sub [1] bd_slices_IndexFunc_int_int) (frs [1] [] bd_slices_IndexFunc_int_int []) [(0, .d (eSl 1 false (eI .i64) s_)), (1, .d (.fn 86 [.sptr (I f_)]))] [] (by kernel_rfl) fun st0 h0 => ?_
 refine awpJoin' (X := Unit) (x := (sub [1,2] bd_slices_IndexFunc_int_int)) (y := (sub [1,1] bd_slices_IndexFunc_int_int)) (by kernel_rfl) [] [0,1] _ h0 (fun z => slices_IndexFunc_int_int_J1 = some r0) (fun z => ST_slices_IndexFunc_int_int_J1) ?_ fun J1 hJ1 => ?_
 ·rintro ⟨⟩ hf0
  unfold slices_IndexFunc_int_int_J1 at hf0
  obtain rfl := someE hf0
  exact awpEnd X0 TTab_ok hC hm hE 4000 (hs := []) (x := (I (-1))) [] (by kernel_rfl) (LeV.refl _)
 ·obtain ⟨t2, ht2, hf0⟩ := bindE hf0
  refine awpAt X0 TTab_ok hC hm [0,1,7,8] 4000 [aLn s_.length] (sub [1,2,1,0] bd_slices_IndexFunc_int_int) (frs [1,2,1,0] [J1] bd_slices_IndexFunc_int_int []) [(0, .d (eSl 1 false (eI .i64) s_)), (1, .d (.fn 86 [.sptr (I f_)])), (7, .d (I ((s_.length : Nat) : Int))), (8, .d (I 0))] [ob (lnM (eI .i64) s_)] (by kernel_rfl) fun st0 h0 => ?_
  refine awpLoop' (X := Int × Nat) (c' := (sub [1,2,1,0,0] bd_slices_IndexFunc_int_int)) (by kernel_rfl) [0,1,7,8] (fun x => loopN (fun s => slices_IndexFunc_int_int_L2 s_ f_ s) x.2 x.1 = some t2) (fun x => x.2) (fun x => ST_slices_IndexFunc_int_int_L2 s_ f_ x.1) (0, fuel) _ h0 inferInstance ht2 ?_
  rintro ⟨x8, n2⟩ hn2 J2 hJ2
  obtain ⟨m2, lr1, rfl, hf1, hl1⟩ := loopE hn2
  try unfold slices_IndexFunc_int_int_L2 at hf1
  rcases bifE hf1 with ⟨c0, hf1⟩ | ⟨c0, hf1⟩
  ·obtain ⟨s__e, h0, hf1⟩ := bindE hf1
   obtain ⟨r_, h1, hf1⟩ := bindE hf1
   have o0 := hasF h_words_Check_1 (x := (s__e, f_)) h1 (loC (eI .i64) s__e <| loC (eSp (eI .i64)) f_ <| loN)
   rcases bifE hf1 with ⟨c1, hf1⟩ | ⟨c1, hf1⟩
   ·obtain rfl := someE hf1
    obtain rfl := hl1
    obtain rfl := someE hf0
    exact awpEnd X0 TTab_ok hC hm hE 4000 (hs := [bT, .a ((eI .i64) s__e), .g [], .a (eB r_), bT]) (x := (I x8)) [ob c0, ob (i0 h0), ob (iM (eI .i64) h0), ob (hasG h_words_Check_1), ob o0, ob c1] (by kernel_rfl) (LeV.refl _)
   ·obtain rfl := someE hf1
    exact awpBack X0 TTab_ok hC hm [0,1,7,8] 4000 [bT, .a ((eI .i64) s__e), .g [], .a (eB r_), bF] J2 [(0, .d (eSl 1 false (eI .i64) s_)), (1, .d (.fn 86 [.sptr (I f_)])), (7, .d (I ((s_.length : Nat) : Int))), (8, .d (I (w64 (x8 + 1))))] [ob c0, ob (i0 h0), ob (iM (eI .i64) h0), ob (hasG h_words_Check_1), ob o0, ob c1] (by kernel_rfl) fun st0 h0 => hJ2 st0 _ (w64 (x8 + 1), m2) hl1 (Nat.lt_succ_self m2) h0 inferInstance
  ·obtain rfl := someE hf1
   obtain rfl := hl1
   exact awpBack X0 TTab_ok hC hm [] 4000 [bF] J1 [] [ob c0] (by kernel_rfl) fun st0 h0 => hJ1 st0 _ () hf0 h0 inferInstance
noncomputable def bd_slices_ContainsFunc_int_int : Code := (Try.f82.body).getD .skip
noncomputable def sp_slices_ContainsFunc_int_int : Spec := spF (α := List Int × Int) (ρ := Bool) 82 (fun x => [F4_ x.1, (eFn1 86 (eSp (eI .i64))) x.2]) (fun r => eB r) (fun x => slices_ContainsFunc_int_int x.1 x.2) [] (by
 rintro ⟨a0, a1⟩ ⟨b0, b1⟩ h
 have e0 := EncI.inj (f := F4_) _ _ (List.cons.inj h).1
 replace h := (List.cons.inj h).2
 have e1 := EncI.inj (f := (eFn1 86 (eSp (eI .i64)))) _ _ (List.cons.inj h).1
 subst e0 e1
 rfl)
theorem w_slices_ContainsFunc_int_int {ctr : Ctr} (hC : CtrOk Try.prog ctr) (hm : Try.prog.follows .mixedOrders = true) (h_slices_IndexFunc_int_int : ctr.Has sp_slices_IndexFunc_int_int) : sp_slices_ContainsFunc_int_int.Ok Try.prog := by
 refine spF_ok ?_
 rintro ⟨s_, f_⟩ r0 hf0
 try unfold slices_ContainsFunc_int_int at hf0
 refine callOk_h (tt := TTab) (keep := true) (rs := [(4, none)]) (n := ⟨9, []⟩) (body := bd_slices_ContainsFunc_int_int) TTab_ok Try.func82 rfl (by kernel_rfl) rfl rfl (by show (2 : Nat) ≤ 9; decide) fun E hE => ?_
 obtain ⟨r_, h0, hf0⟩ := bindE hf0
 have o0 := hasF h_slices_IndexFunc_int_int (x := (s_, f_)) h0 (loC F4_ s_ <| loC (eFn1 86 (eSp (eI .i64))) f_ <| loN)
 obtain rfl := someE hf0
 exact awpEnd X0 TTab_ok hC hm hE 4000 (hs := [.g [], .a ((eI .i64) r_)]) (x := (B (decide (r_ ≥ 0)))) [ob (hasG h_slices_IndexFunc_int_int), ob o0] (by kernel_rfl) (LeV.refl _)
noncomputable def bd_words_Check : Code := (Try.f73.body).getD .skip
noncomputable def sp_words_Check : Spec := spF (α := List Int × Int) (ρ := Int) 73 (fun x => [F4_ x.1, (eI .i64) x.2]) (fun r => (eI .i64) r) (fun x => words_Check x.1 x.2) [] (by
 rintro ⟨a0, a1⟩ ⟨b0, b1⟩ h
 have e0 := EncI.inj (f := F4_) _ _ (List.cons.inj h).1
 replace h := (List.cons.inj h).2
 have e1 := EncI.inj (f := (eI .i64)) _ _ (List.cons.inj h).1
 subst e0 e1
 rfl)
theorem w_words_Check {ctr : Ctr} (hC : CtrOk Try.prog ctr) (hm : Try.prog.follows .mixedOrders = true) (h_slices_ContainsFunc_int_int : ctr.Has sp_slices_ContainsFunc_int_int) : sp_words_Check.Ok Try.prog := by
 refine spF_ok ?_
 rintro ⟨w_, inputs⟩ r0 hf0
 try unfold words_Check at hf0
 refine callOk_h (tt := TTab) (keep := true) (rs := [(4, none)]) (n := ⟨19, []⟩) (body := bd_words_Check) TTab_ok Try.func73 rfl (by kernel_rfl) rfl rfl (by show (2 : Nat) ≤ 19; decide) fun E hE => ?_
 rcases bifE hf0 with ⟨c0, hf0⟩ | ⟨c0, hf0⟩
 ·obtain rfl := someE hf0
  exact awpEnd X0 TTab_ok hC hm hE 4000 (hs := (rpN 5 bT [])) (x := (I 3)) (rpN 4 (ob c0) [oT]) (by kernel_rfl) (LeV.refl _)
 ·rcases bifE hf0 with ⟨c1, hf0⟩ | ⟨c1, hf0⟩
  ·obtain rfl := someE hf0
   exact awpEnd X0 TTab_ok hC hm hE 4000 (hs := [bF, bF, aLn w_.length, bF, bF, bT]) (x := (I 3)) [ob c0, ob c0, ob (lnM (eI .i64) w_), ob c0, ob c0, ob c1] (by kernel_rfl) (LeV.refl _)
  ·rcases bifE hf0 with ⟨c2, hf0⟩ | ⟨c2, hf0⟩
   ·obtain rfl := someE hf0
    exact awpEnd X0 TTab_ok hC hm hE 4000 (hs := (bF :: bF :: aLn w_.length :: bF :: bF :: bF :: (rpN 5 bT []))) (x := (I 1)) (ob c0 :: ob c0 :: ob (lnM (eI .i64) w_) :: ob c0 :: ob c0 :: ob c1 :: (rpN 4 (ob c2) [oT])) (by kernel_rfl) (LeV.refl _)
   ·obtain ⟨r_, h0, hf0⟩ := bindE hf0
    have o0 := hasF h_slices_ContainsFunc_int_int (x := (w_, inputs)) h0 (loC F4_ w_ <| loC (eFn1 86 (eSp (eI .i64))) inputs <| loN)
    rcases bifE hf0 with ⟨c3, hf0⟩ | ⟨c3, hf0⟩
    ·obtain rfl := someE hf0
     exact awpEnd X0 TTab_ok hC hm hE 4000 (hs := (bF :: bF :: aLn w_.length :: (rpN 6 bF [.g [], .a (eB r_), bF, bT]))) (x := (I 1)) [ob c0, ob c0, ob (lnM (eI .i64) w_), ob c0, ob c0, ob c1, ob c2, ob c2, ob c2, ob (hasG h_slices_ContainsFunc_int_int), ob o0, ob c2, ob c3] (by kernel_rfl) (LeV.refl _)
    ·obtain rfl := someE hf0
     exact awpEnd X0 TTab_ok hC hm hE 4000 (hs := (bF :: bF :: aLn w_.length :: (rpN 6 bF [.g [], .a (eB r_), bF, bF]))) (x := (I 0)) [ob c0, ob c0, ob (lnM (eI .i64) w_), ob c0, ob c0, ob c1, ob c2, ob c2, ob c2, ob (hasG h_slices_ContainsFunc_int_int), ob o0, ob c2, ob c3] (by kernel_rfl) (LeV.refl _)
noncomputable def bd_tries_loose : Code := (Try.f50.body).getD .skip
noncomputable def sp_tries_loose : Spec := spF (α := List (List Int) × Int) (ρ := Int) 50 (fun x => [F10_ x.1, (eI .i64) x.2]) (fun r => (eI .i64) r) (fun x => tries_loose x.1 x.2) [] (by
 rintro ⟨a0, a1⟩ ⟨b0, b1⟩ h
 have e0 := EncI.inj (f := F10_) _ _ (List.cons.inj h).1
 replace h := (List.cons.inj h).2
 have e1 := EncI.inj (f := (eI .i64)) _ _ (List.cons.inj h).1
 subst e0 e1
 rfl)
abbrev ST_tries_loose_J1 : List (Nat × T) := []
abbrev ST_tries_loose_L2 (l_ : List (List Int)) (inputs : Int) (x19 : Int) : List (Nat × T) := [(1, .d (I inputs)), (17, .d (eSl 1 false F4_ l_)), (18, .d (I ((l_.length : Nat) : Int))), (19, .d (I x19))]
theorem w_tries_loose {ctr : Ctr} (hC : CtrOk Try.prog ctr) (hm : Try.prog.follows .mixedOrders = true) (h_words_Check : ctr.Has sp_words_Check) : sp_tries_loose.Ok Try.prog := by
 refine spF_ok ?_
 rintro ⟨l_, inputs⟩ r0 hf0
 try unfold tries_loose at hf0
 refine callOk_h (tt := TTab) (keep := true) (rs := [(4, none)]) (n := ⟨30, []⟩) (body := bd_tries_loose) TTab_ok Try.func50 rfl (by kernel_rfl) rfl rfl (by show (2 : Nat) ≤ 30; decide) fun E hE => ?_
 rcases bifE hf0 with ⟨c0, hf0⟩ | ⟨c0, hf0⟩
 ·obtain rfl := someE hf0
  exact awpEnd X0 TTab_ok hC hm hE 4000 (hs := (rpN 5 bT [])) (x := (I 3)) (rpN 4 (ob c0) [oT]) (by kernel_rfl) (LeV.refl _)
 ·rcases bifE hf0 with ⟨c1, hf0⟩ | ⟨c1, hf0⟩
  ·obtain rfl := someE hf0
   exact awpEnd X0 TTab_ok hC hm hE 4000 (hs := [bF, bF, aLn l_.length, bF, bF, bT]) (x := (I 3)) [ob c0, ob c0, ob (lnM F4_ l_), ob c0, ob c0, ob c1] (by kernel_rfl) (LeV.refl _)
  ·rcases bifE hf0 with ⟨c2, hf0⟩ | ⟨c2, hf0⟩
   ·obtain rfl := someE hf0
    exact awpEnd X0 TTab_ok hC hm hE 4000 (hs := [bF, bF, aLn l_.length, bF, bF, bF, bT]) (x := (I 1)) [ob c0, ob c0, ob (lnM F4_ l_), ob c0, ob c0, ob c1, ob c2] (by kernel_rfl) (LeV.refl _)
   ·refine awpAt X0 TTab_ok hC hm [0,1] 4000 (bF :: bF :: aLn l_.length :: (rpN 4 bF [.cut 0])) (sub [1,1,1] bd_tries_loose) (frs [1,1,1] [] bd_tries_loose []) [(0, .d (eSl 1 false F4_ l_)), (1, .d (I inputs))] [ob c0, ob c0, ob (lnM F4_ l_), ob c0, ob c0, ob c1, ob c2] (by kernel_rfl) fun st0 h0 => ?_
    refine awpJoin' (X := Unit) (x := (sub [1,1,1,2] bd_tries_loose)) (y := (sub [1,1,1,1] bd_tries_loose)) (by kernel_rfl) [] [0,1] _ h0 (fun z => tries_loose_J1 = some r0) (fun z => ST_tries_loose_J1) ?_ fun J1 hJ1 => ?_
    ·rintro ⟨⟩ hf0
     unfold tries_loose_J1 at hf0
     obtain rfl := someE hf0
     exact awpEnd X0 TTab_ok hC hm hE 4000 (hs := []) (x := (I 0)) [] (by kernel_rfl) (LeV.refl _)
    ·obtain ⟨t2, ht2, hf0⟩ := bindE hf0
     refine awpAt X0 TTab_ok hC hm [1,17,18,19] 4000 [aLn l_.length] (sub [1,1,1,2,1,0] bd_tries_loose) (frs [1,1,1,2,1,0] [J1] bd_tries_loose []) [(1, .d (I inputs)), (17, .d (eSl 1 false F4_ l_)), (18, .d (I ((l_.length : Nat) : Int))), (19, .d (I 0))] [ob (lnM F4_ l_)] (by kernel_rfl) fun st0 h0 => ?_
     refine awpLoop' (X := Int × Nat) (c' := (sub [1,1,1,2,1,0,0] bd_tries_loose)) (by kernel_rfl) [1,17,18,19] (fun x => loopN (fun s => tries_loose_L2 l_ inputs s) x.2 x.1 = some t2) (fun x => x.2) (fun x => ST_tries_loose_L2 l_ inputs x.1) (0, fuel) _ h0 inferInstance ht2 ?_
     rintro ⟨x19, n2⟩ hn2 J2 hJ2
     obtain ⟨m2, lr1, rfl, hf1, hl1⟩ := loopE hn2
     try unfold tries_loose_L2 at hf1
     rcases bifE hf1 with ⟨c3, hf1⟩ | ⟨c3, hf1⟩
     ·obtain ⟨l__e, h0, hf1⟩ := bindE hf1
      obtain ⟨r_, h1, hf1⟩ := bindE hf1
      have o0 := hasF h_words_Check (x := (l__e, inputs)) h1 (loC F4_ l__e <| loC (eI .i64) inputs <| loN)
      rcases bifE hf1 with ⟨c4, hf1⟩ | ⟨c4, hf1⟩
      ·obtain rfl := someE hf1
       obtain rfl := hl1
       obtain rfl := someE hf0
       exact awpEnd X0 TTab_ok hC hm hE 4000 (hs := [bT, .a (F4_ l__e), .g [], .a ((eI .i64) r_), bT]) (x := (I r_)) [ob c3, ob (i0 h0), ob (iM F4_ h0), ob (hasG h_words_Check), ob o0, ob c4] (by kernel_rfl) (LeV.refl _)
      ·obtain rfl := someE hf1
       exact awpBack X0 TTab_ok hC hm [1,17,18,19] 4000 [bT, .a (F4_ l__e), .g [], .a ((eI .i64) r_), bF] J2 [(1, .d (I inputs)), (17, .d (eSl 1 false F4_ l_)), (18, .d (I ((l_.length : Nat) : Int))), (19, .d (I (w64 (x19 + 1))))] [ob c3, ob (i0 h0), ob (iM F4_ h0), ob (hasG h_words_Check), ob o0, ob c4] (by kernel_rfl) fun st0 h0 => hJ2 st0 _ (w64 (x19 + 1), m2) hl1 (Nat.lt_succ_self m2) h0 inferInstance
     ·obtain rfl := someE hf1
      obtain rfl := hl1
      exact awpBack X0 TTab_ok hC hm [] 4000 [bF] J1 [] [ob c3] (by kernel_rfl) fun st0 h0 => hJ1 st0 _ () hf0 h0 inferInstance
noncomputable def bd_cmp_isNaN_int : Code := (Try.f106.body).getD .skip
noncomputable def sp_cmp_isNaN_int : Spec := spF (α := Int) (ρ := Bool) 106 (fun x => [(eI .i64) x]) (fun r => eB r) (fun x => cmp_isNaN_int x) [] (by
 rintro a0 b0 h
 have e0 := EncI.inj (f := (eI .i64)) _ _ (List.cons.inj h).1
 subst e0
 rfl)
theorem w_cmp_isNaN_int {ctr : Ctr} (hC : CtrOk Try.prog ctr) (hm : Try.prog.follows .mixedOrders = true) : sp_cmp_isNaN_int.Ok Try.prog := by
 refine spF_ok ?_
 rintro x_ r0 hf0
 try unfold cmp_isNaN_int at hf0
 refine callOk_h (tt := TTab) (keep := true) (rs := [(2, none)]) (n := ⟨6, []⟩) (body := bd_cmp_isNaN_int) TTab_ok Try.func106 rfl (by kernel_rfl) rfl rfl (by show (1 : Nat) ≤ 6; decide) fun E hE => ?_
 obtain rfl := someE hf0
 exact awpEnd X0 TTab_ok hC hm hE 4000 (hs := []) (x := (B (x_ != x_))) [] (by kernel_rfl) (LeV.refl _)
noncomputable def bd_cmp_Compare_int : Code := (Try.f92.body).getD .skip
noncomputable def sp_cmp_Compare_int : Spec := spF (α := Int × Int) (ρ := Int) 92 (fun x => [(eI .i64) x.1, (eI .i64) x.2]) (fun r => (eI .i64) r) (fun x => cmp_Compare_int x.1 x.2) [] (by
 rintro ⟨a0, a1⟩ ⟨b0, b1⟩ h
 have e0 := EncI.inj (f := (eI .i64)) _ _ (List.cons.inj h).1
 replace h := (List.cons.inj h).2
 have e1 := EncI.inj (f := (eI .i64)) _ _ (List.cons.inj h).1
 subst e0 e1
 rfl)
theorem w_cmp_Compare_int {ctr : Ctr} (hC : CtrOk Try.prog ctr) (hm : Try.prog.follows .mixedOrders = true) (h_cmp_isNaN_int : ctr.Has sp_cmp_isNaN_int) : sp_cmp_Compare_int.Ok Try.prog := by
 refine spF_ok ?_
 rintro ⟨x_, y_⟩ r0 hf0
 try unfold cmp_Compare_int at hf0
 refine callOk_h (tt := TTab) (keep := true) (rs := [(4, none)]) (n := ⟨20, []⟩) (body := bd_cmp_Compare_int) TTab_ok Try.func92 rfl (by kernel_rfl) rfl rfl (by show (2 : Nat) ≤ 20; decide) fun E hE => ?_
 obtain ⟨r_, h0, hf0⟩ := bindE hf0
 have o0 := hasF h_cmp_isNaN_int (x := x_) h0 (loC (eI .i64) x_ <| loN)
 obtain ⟨r_1, h1, hf0⟩ := bindE hf0
 have o1 := hasF h_cmp_isNaN_int (x := y_) h1 (loC (eI .i64) y_ <| loN)
 rcases bifE hf0 with ⟨c0, hf0⟩ | ⟨c0, hf0⟩
 ·rcases bifE hf0 with ⟨c1, hf0⟩ | ⟨c1, hf0⟩
  ·obtain rfl := someE hf0
   exact awpEnd X0 TTab_ok hC hm hE 4000 (hs := [.g [], .a (eB r_), .g [], .a (eB r_1), bT, bT]) (x := (I 0)) [ob (hasG h_cmp_isNaN_int), ob o0, ob (hasG h_cmp_isNaN_int), ob o1, ob c0, ob c1] (by kernel_rfl) (LeV.refl _)
  ·obtain rfl := someE hf0
   exact awpEnd X0 TTab_ok hC hm hE 4000 (hs := [.g [], .a (eB r_), .g [], .a (eB r_1), bT, bF]) (x := (I (-1))) [ob (hasG h_cmp_isNaN_int), ob o0, ob (hasG h_cmp_isNaN_int), ob o1, ob c0, ob c1] (by kernel_rfl) (LeV.refl _)
 ·rcases bifE hf0 with ⟨c2, hf0⟩ | ⟨c2, hf0⟩
  ·obtain rfl := someE hf0
   exact awpEnd X0 TTab_ok hC hm hE 4000 (hs := [.g [], .a (eB r_), .g [], .a (eB r_1), bF, bT]) (x := (I 1)) [ob (hasG h_cmp_isNaN_int), ob o0, ob (hasG h_cmp_isNaN_int), ob o1, ob c0, ob c2] (by kernel_rfl) (LeV.refl _)
  ·rcases bifE hf0 with ⟨c3, hf0⟩ | ⟨c3, hf0⟩
   ·obtain rfl := someE hf0
    exact awpEnd X0 TTab_ok hC hm hE 4000 (hs := [.g [], .a (eB r_), .g [], .a (eB r_1), bF, bF, bT]) (x := (I (-1))) [ob (hasG h_cmp_isNaN_int), ob o0, ob (hasG h_cmp_isNaN_int), ob o1, ob c0, ob c2, ob c3] (by kernel_rfl) (LeV.refl _)
   ·rcases bifE hf0 with ⟨c4, hf0⟩ | ⟨c4, hf0⟩
    ·obtain rfl := someE hf0
     exact awpEnd X0 TTab_ok hC hm hE 4000 (hs := [.g [], .a (eB r_), .g [], .a (eB r_1), bF, bF, bF, bT]) (x := (I 1)) [ob (hasG h_cmp_isNaN_int), ob o0, ob (hasG h_cmp_isNaN_int), ob o1, ob c0, ob c2, ob c3, ob c4] (by kernel_rfl) (LeV.refl _)
    ·obtain rfl := someE hf0
     exact awpEnd X0 TTab_ok hC hm hE 4000 (hs := (.g [] :: .a (eB r_) :: .g [] :: .a (eB r_1) :: (rpN 4 bF []))) (x := (I 0)) [ob (hasG h_cmp_isNaN_int), ob o0, ob (hasG h_cmp_isNaN_int), ob o1, ob c0, ob c2, ob c3, ob c4] (by kernel_rfl) (LeV.refl _)
noncomputable def bd_slices_Compare_int_int : Code := (Try.f93.body).getD .skip
noncomputable def sp_slices_Compare_int_int : Spec := spF (α := List Int × List Int) (ρ := Int) 93 (fun x => [F4_ x.1, F4_ x.2]) (fun r => (eI .i64) r) (fun x => slices_Compare_int_int x.1 x.2) [] (by
 rintro ⟨a0, a1⟩ ⟨b0, b1⟩ h
 have e0 := EncI.inj (f := F4_) _ _ (List.cons.inj h).1
 replace h := (List.cons.inj h).2
 have e1 := EncI.inj (f := F4_) _ _ (List.cons.inj h).1
 subst e0 e1
 rfl)
abbrev ST_slices_Compare_int_int_J1 (s1 : List Int) (s2 : List Int) : List (Nat × T) := [(0, .d (eSl 1 false (eI .i64) s1)), (1, .d (eSl 1 false (eI .i64) s2))]
abbrev ST_slices_Compare_int_int_L2 (s1 : List Int) (s2 : List Int) (x11 : Int) : List (Nat × T) := [(0, .d (eSl 1 false (eI .i64) s1)), (1, .d (eSl 1 false (eI .i64) s2)), (9, .d (eSl 1 false (eI .i64) s1)), (10, .d (I ((s1.length : Nat) : Int))), (11, .d (I x11))]
theorem w_slices_Compare_int_int {ctr : Ctr} (hC : CtrOk Try.prog ctr) (hm : Try.prog.follows .mixedOrders = true) (h_cmp_Compare_int : ctr.Has sp_cmp_Compare_int) : sp_slices_Compare_int_int.Ok Try.prog := by
 refine spF_ok ?_
 rintro ⟨s1, s2⟩ r0 hf0
 try unfold slices_Compare_int_int at hf0
 refine callOk_h (tt := TTab) (keep := true) (rs := [(4, none)]) (n := ⟨36, []⟩) (body := bd_slices_Compare_int_int) TTab_ok Try.func93 rfl (by kernel_rfl) rfl rfl (by show (2 : Nat) ≤ 36; decide) fun E hE => ?_
 refine awpAt X0 TTab_ok hC hm [0,1] 4000 [.cut 1] (sub [1] bd_slices_Compare_int_int) (frs [1] [] bd_slices_Compare_int_int []) [(0, .d (eSl 1 false (eI .i64) s1)), (1, .d (eSl 1 false (eI .i64) s2))] [] (by kernel_rfl) fun st0 h0 => ?_
 refine awpJoin' (X := Unit) (x := (sub [1,2] bd_slices_Compare_int_int)) (y := (sub [1,1] bd_slices_Compare_int_int)) (by kernel_rfl) [0,1] [0,1] _ h0 (fun z => slices_Compare_int_int_J1 s1 s2 = some r0) (fun z => ST_slices_Compare_int_int_J1 s1 s2) ?_ fun J1 hJ1 => ?_
 ·rintro ⟨⟩ hf0
  unfold slices_Compare_int_int_J1 at hf0
  rcases bifE hf0 with ⟨c0, hf0⟩ | ⟨c0, hf0⟩
  ·obtain rfl := someE hf0
   exact awpEnd X0 TTab_ok hC hm hE 4000 (hs := [aLn s1.length, aLn s2.length, bT]) (x := (I (-1))) [ob (lnM (eI .i64) s1), ob (lnM (eI .i64) s2), ob c0] (by kernel_rfl) (LeV.refl _)
  ·obtain rfl := someE hf0
   exact awpEnd X0 TTab_ok hC hm hE 4000 (hs := [aLn s1.length, aLn s2.length, bF]) (x := (I 0)) [ob (lnM (eI .i64) s1), ob (lnM (eI .i64) s2), ob c0] (by kernel_rfl) (LeV.refl _)
 ·obtain ⟨t2, ht2, hf0⟩ := bindE hf0
  refine awpAt X0 TTab_ok hC hm [0,1,9,10,11] 4000 [aLn s1.length] (sub [1,2,1,0] bd_slices_Compare_int_int) (frs [1,2,1,0] [J1] bd_slices_Compare_int_int []) [(0, .d (eSl 1 false (eI .i64) s1)), (1, .d (eSl 1 false (eI .i64) s2)), (9, .d (eSl 1 false (eI .i64) s1)), (10, .d (I ((s1.length : Nat) : Int))), (11, .d (I 0))] [ob (lnM (eI .i64) s1)] (by kernel_rfl) fun st0 h0 => ?_
  refine awpLoop' (X := Int × Nat) (c' := (sub [1,2,1,0,0] bd_slices_Compare_int_int)) (by kernel_rfl) [0,1,9,10,11] (fun x => loopN (fun s => slices_Compare_int_int_L2 s1 s2 s) x.2 x.1 = some t2) (fun x => x.2) (fun x => ST_slices_Compare_int_int_L2 s1 s2 x.1) (0, fuel) _ h0 inferInstance ht2 ?_
  rintro ⟨x11, n2⟩ hn2 J2 hJ2
  obtain ⟨m2, lr1, rfl, hf1, hl1⟩ := loopE hn2
  try unfold slices_Compare_int_int_L2 at hf1
  rcases bifE hf1 with ⟨c1, hf1⟩ | ⟨c1, hf1⟩
  ·obtain ⟨s_e, h0, hf1⟩ := bindE hf1
   rcases bifE hf1 with ⟨c2, hf1⟩ | ⟨c2, hf1⟩
   ·obtain rfl := someE hf1
    obtain rfl := hl1
    obtain rfl := someE hf0
    exact awpEnd X0 TTab_ok hC hm hE 4000 (hs := [bT, .a ((eI .i64) s_e), aLn s2.length, bT]) (x := (I 1)) [ob c1, ob (i0 h0), ob (iM (eI .i64) h0), ob (lnM (eI .i64) s2), ob c2] (by kernel_rfl) (LeV.refl _)
   ·obtain ⟨s_e1, h1, hf1⟩ := bindE hf1
    obtain ⟨r_, h2, hf1⟩ := bindE hf1
    have o0 := hasF h_cmp_Compare_int (x := (s_e, s_e1)) h2 (loC (eI .i64) s_e <| loC (eI .i64) s_e1 <| loN)
    rcases bifE hf1 with ⟨c3, hf1⟩ | ⟨c3, hf1⟩
    ·obtain rfl := someE hf1
     obtain rfl := hl1
     obtain rfl := someE hf0
     exact awpEnd X0 TTab_ok hC hm hE 4000 (hs := [bT, .a ((eI .i64) s_e), aLn s2.length, bF, .a ((eI .i64) s_e1), .g [], .a ((eI .i64) r_), bT]) (x := (I r_)) [ob c1, ob (i0 h0), ob (iM (eI .i64) h0), ob (lnM (eI .i64) s2), ob c2, ob (i0 h1), ob (iM (eI .i64) h1), ob (hasG h_cmp_Compare_int), ob o0, ob c3] (by kernel_rfl) (LeV.refl _)
    ·obtain rfl := someE hf1
     exact awpBack X0 TTab_ok hC hm [0,1,9,10,11] 4000 [bT, .a ((eI .i64) s_e), aLn s2.length, bF, .a ((eI .i64) s_e1), .g [], .a ((eI .i64) r_), bF] J2 [(0, .d (eSl 1 false (eI .i64) s1)), (1, .d (eSl 1 false (eI .i64) s2)), (9, .d (eSl 1 false (eI .i64) s1)), (10, .d (I ((s1.length : Nat) : Int))), (11, .d (I (w64 (x11 + 1))))] [ob c1, ob (i0 h0), ob (iM (eI .i64) h0), ob (lnM (eI .i64) s2), ob c2, ob (i0 h1), ob (iM (eI .i64) h1), ob (hasG h_cmp_Compare_int), ob o0, ob c3] (by kernel_rfl) fun st0 h0 => hJ2 st0 _ (w64 (x11 + 1), m2) hl1 (Nat.lt_succ_self m2) h0 inferInstance
  ·obtain rfl := someE hf1
   obtain rfl := hl1
   exact awpBack X0 TTab_ok hC hm [0,1] 4000 [bF] J1 [(0, .d (eSl 1 false (eI .i64) s1)), (1, .d (eSl 1 false (eI .i64) s2))] [ob c1] (by kernel_rfl) fun st0 h0 => hJ1 st0 _ () hf0 h0 inferInstance
noncomputable def bd_cmp_Or_int : Code := (Try.f91.body).getD .skip
noncomputable def sp_cmp_Or_int : Spec := spF (α := List Int) (ρ := Int) 91 (fun x => [F4_ x]) (fun r => (eI .i64) r) (fun x => cmp_Or_int x) [] (by
 rintro a0 b0 h
 have e0 := EncI.inj (f := F4_) _ _ (List.cons.inj h).1
 subst e0
 rfl)
abbrev ST_cmp_Or_int_J1 : List (Nat × T) := [(3, .d (I 0))]
abbrev ST_cmp_Or_int_L2 (vals : List Int) (x8 : Int) : List (Nat × T) := [(3, .d (I 0)), (6, .d (eSl 1 false (eI .i64) vals)), (7, .d (I ((vals.length : Nat) : Int))), (8, .d (I x8))]
theorem w_cmp_Or_int {ctr : Ctr} (hC : CtrOk Try.prog ctr) (hm : Try.prog.follows .mixedOrders = true) : sp_cmp_Or_int.Ok Try.prog := by
 refine spF_ok ?_
 rintro vals r0 hf0
 try unfold cmp_Or_int at hf0
 refine callOk_h (tt := TTab) (keep := true) (rs := [(2, none)]) (n := ⟨18, []⟩) (body := bd_cmp_Or_int) TTab_ok Try.func91 rfl (by kernel_rfl) rfl rfl (by show (1 : Nat) ≤ 18; decide) fun E hE => ?_
 refine awpAt X0 TTab_ok hC hm [0,3] 4000 [.cut 2] (sub [1,1] bd_cmp_Or_int) (frs [1,1] [] bd_cmp_Or_int []) [(0, .d (eSl 1 false (eI .i64) vals)), (3, .d (I 0))] [] (by kernel_rfl) fun st0 h0 => ?_
 refine awpJoin' (X := Unit) (x := (sub [1,1,2] bd_cmp_Or_int)) (y := (sub [1,1,1] bd_cmp_Or_int)) (by kernel_rfl) [3] [0,3] _ h0 (fun z => cmp_Or_int_J1 = some r0) (fun z => ST_cmp_Or_int_J1) ?_ fun J1 hJ1 => ?_
 ·rintro ⟨⟩ hf0
  unfold cmp_Or_int_J1 at hf0
  obtain rfl := someE hf0
  exact awpEnd X0 TTab_ok hC hm hE 4000 (hs := []) (x := (I 0)) [] (by kernel_rfl) (LeV.refl _)
 ·obtain ⟨t2, ht2, hf0⟩ := bindE hf0
  refine awpAt X0 TTab_ok hC hm [3,6,7,8] 4000 [aLn vals.length] (sub [1,1,2,1,0] bd_cmp_Or_int) (frs [1,1,2,1,0] [J1] bd_cmp_Or_int []) [(3, .d (I 0)), (6, .d (eSl 1 false (eI .i64) vals)), (7, .d (I ((vals.length : Nat) : Int))), (8, .d (I 0))] [ob (lnM (eI .i64) vals)] (by kernel_rfl) fun st0 h0 => ?_
  refine awpLoop' (X := Int × Nat) (c' := (sub [1,1,2,1,0,0] bd_cmp_Or_int)) (by kernel_rfl) [3,6,7,8] (fun x => loopN (fun s => cmp_Or_int_L2 vals s) x.2 x.1 = some t2) (fun x => x.2) (fun x => ST_cmp_Or_int_L2 vals x.1) (0, fuel) _ h0 inferInstance ht2 ?_
  rintro ⟨x8, n2⟩ hn2 J2 hJ2
  obtain ⟨m2, lr1, rfl, hf1, hl1⟩ := loopE hn2
  try unfold cmp_Or_int_L2 at hf1
  rcases bifE hf1 with ⟨c0, hf1⟩ | ⟨c0, hf1⟩
  ·obtain ⟨val_e, h0, hf1⟩ := bindE hf1
   rcases bifE hf1 with ⟨c1, hf1⟩ | ⟨c1, hf1⟩
   ·obtain rfl := someE hf1
    obtain rfl := hl1
    obtain rfl := someE hf0
    exact awpEnd X0 TTab_ok hC hm hE 4000 (hs := [bT, .a ((eI .i64) val_e), bT]) (x := (I val_e)) [ob c0, ob (i0 h0), ob (iM (eI .i64) h0), ob c1] (by kernel_rfl) (LeV.refl _)
   ·obtain rfl := someE hf1
    exact awpBack X0 TTab_ok hC hm [3,6,7,8] 4000 [bT, .a ((eI .i64) val_e), bF] J2 [(3, .d (I 0)), (6, .d (eSl 1 false (eI .i64) vals)), (7, .d (I ((vals.length : Nat) : Int))), (8, .d (I (w64 (x8 + 1))))] [ob c0, ob (i0 h0), ob (iM (eI .i64) h0), ob c1] (by kernel_rfl) fun st0 h0 => hJ2 st0 _ (w64 (x8 + 1), m2) hl1 (Nat.lt_succ_self m2) h0 inferInstance
  ·obtain rfl := someE hf1
   obtain rfl := hl1
   exact awpBack X0 TTab_ok hC hm [3] 4000 [bF] J1 [(3, .d (I 0))] [ob c0] (by kernel_rfl) fun st0 h0 => hJ1 st0 _ () hf0 h0 inferInstance
noncomputable def bd_words_Compare : Code := (Try.f78.body).getD .skip
noncomputable def sp_words_Compare : Spec := spF (α := List Int × List Int) (ρ := Int) 78 (fun x => [F4_ x.1, F4_ x.2]) (fun r => (eI .i64) r) (fun x => words_Compare x.1 x.2) [] (by
 rintro ⟨a0, a1⟩ ⟨b0, b1⟩ h
 have e0 := EncI.inj (f := F4_) _ _ (List.cons.inj h).1
 replace h := (List.cons.inj h).2
 have e1 := EncI.inj (f := F4_) _ _ (List.cons.inj h).1
 subst e0 e1
 rfl)
theorem w_words_Compare {ctr : Ctr} (hC : CtrOk Try.prog ctr) (hm : Try.prog.follows .mixedOrders = true) (h_cmp_Compare_int : ctr.Has sp_cmp_Compare_int) (h_slices_Compare_int_int : ctr.Has sp_slices_Compare_int_int) (h_cmp_Or_int : ctr.Has sp_cmp_Or_int) : sp_words_Compare.Ok Try.prog := by
 refine spF_ok ?_
 rintro ⟨a_, b_⟩ r0 hf0
 try unfold words_Compare at hf0
 refine callOk_h (tt := TTab) (keep := true) (rs := [(4, none)]) (n := ⟨15, []⟩) (body := bd_words_Compare) TTab_ok Try.func78 rfl (by kernel_rfl) rfl rfl (by show (2 : Nat) ≤ 15; decide) fun E hE => ?_
 obtain ⟨r_, h0, hf0⟩ := bindE hf0
 have o0 := hasF h_cmp_Compare_int (x := (((a_.length : Nat) : Int), ((b_.length : Nat) : Int))) h0 (loC (eI .i64) ((a_.length : Nat) : Int) <| loC (eI .i64) ((b_.length : Nat) : Int) <| loN)
 obtain ⟨r_1, h1, hf0⟩ := bindE hf0
 have o1 := hasF h_slices_Compare_int_int (x := (a_, b_)) h1 (loC F4_ a_ <| loC F4_ b_ <| loN)
 have o2 := shM (eI .i64) (eI .i64) ([r_, r_1])
 obtain ⟨r_2, h2, hf0⟩ := bindE hf0
 have o3 := hasF h_cmp_Or_int (x := [r_, r_1]) h2 (loC F1_ ([r_, r_1] : List Int) <| loN)
 obtain rfl := someE hf0
 exact awpEnd X0 TTab_ok hC hm hE 4000 (hs := [aLn a_.length, aLn b_.length, .g [], .a ((eI .i64) r_), .g [], .a ((eI .i64) r_1), .g [], .l (([r_, r_1]).map (eI .i64)), .a ((eI .i64) r_2)]) (x := (I r_2)) [ob (lnM (eI .i64) a_), ob (lnM (eI .i64) b_), ob (hasG h_cmp_Compare_int), ob o0, ob (hasG h_slices_Compare_int_int), ob o1, ob (hasG h_cmp_Or_int), ob o2, ob o3] (by kernel_rfl) (LeV.refl _)
noncomputable def bd_tries_ahead : Code := (Try.f53.body).getD .skip
noncomputable def sp_tries_ahead : Spec := spF (α := List (List Int)) (ρ := Bool) 53 (fun x => [F10_ x]) (fun r => eB r) (fun x => tries_ahead x) [] (by
 rintro a0 b0 h
 have e0 := EncI.inj (f := F10_) _ _ (List.cons.inj h).1
 subst e0
 rfl)
abbrev ST_tries_ahead_J1 : List (Nat × T) := []
abbrev ST_tries_ahead_L2 (l_ : List (List Int)) (i_ : Int) : List (Nat × T) := [(0, .d (eSl 1 false F4_ l_)), (3, .d (I i_))]
theorem w_tries_ahead {ctr : Ctr} (hC : CtrOk Try.prog ctr) (hm : Try.prog.follows .mixedOrders = true) (h_words_Compare : ctr.Has sp_words_Compare) : sp_tries_ahead.Ok Try.prog := by
 refine spF_ok ?_
 rintro l_ r0 hf0
 try unfold tries_ahead at hf0
 refine callOk_h (tt := TTab) (keep := true) (rs := [(2, none)]) (n := ⟨21, []⟩) (body := bd_tries_ahead) TTab_ok Try.func53 rfl (by kernel_rfl) rfl rfl (by show (1 : Nat) ≤ 21; decide) fun E hE => ?_
 refine awpAt X0 TTab_ok hC hm [0] 4000 [.cut 1] (sub [1] bd_tries_ahead) (frs [1] [] bd_tries_ahead []) [(0, .d (eSl 1 false F4_ l_))] [] (by kernel_rfl) fun st0 h0 => ?_
 refine awpJoin' (X := Unit) (x := (sub [1,2] bd_tries_ahead)) (y := (sub [1,1] bd_tries_ahead)) (by kernel_rfl) [] [0] _ h0 (fun z => tries_ahead_J1 = some r0) (fun z => ST_tries_ahead_J1) ?_ fun J1 hJ1 => ?_
 ·rintro ⟨⟩ hf0
  unfold tries_ahead_J1 at hf0
  obtain rfl := someE hf0
  exact awpEnd X0 TTab_ok hC hm hE 4000 (hs := []) (x := (B true)) [] (by kernel_rfl) (LeV.refl _)
 ·obtain ⟨t2, ht2, hf0⟩ := bindE hf0
  refine awpAt X0 TTab_ok hC hm [0,3] 4000 [] (sub [1,2,1,0] bd_tries_ahead) (frs [1,2,1,0] [J1] bd_tries_ahead []) [(0, .d (eSl 1 false F4_ l_)), (3, .d (I 1))] [] (by kernel_rfl) fun st0 h0 => ?_
  refine awpLoop' (X := Int × Nat) (c' := (sub [1,2,1,0,0] bd_tries_ahead)) (by kernel_rfl) [0,3] (fun x => loopN (fun s => tries_ahead_L2 l_ s) x.2 x.1 = some t2) (fun x => x.2) (fun x => ST_tries_ahead_L2 l_ x.1) (1, fuel) _ h0 inferInstance ht2 ?_
  rintro ⟨i_, n2⟩ hn2 J2 hJ2
  obtain ⟨m2, lr1, rfl, hf1, hl1⟩ := loopE hn2
  try unfold tries_ahead_L2 at hf1
  rcases bifE hf1 with ⟨c0, hf1⟩ | ⟨c0, hf1⟩
  ·obtain ⟨l__e, h0, hf1⟩ := bindE hf1
   obtain ⟨l__e1, h1, hf1⟩ := bindE hf1
   obtain ⟨r_, h2, hf1⟩ := bindE hf1
   have o0 := hasF h_words_Compare (x := (l__e, l__e1)) h2 (loC F4_ l__e <| loC F4_ l__e1 <| loN)
   rcases bifE hf1 with ⟨c1, hf1⟩ | ⟨c1, hf1⟩
   ·obtain rfl := someE hf1
    obtain rfl := hl1
    obtain rfl := someE hf0
    exact awpEnd X0 TTab_ok hC hm hE 4000 (hs := [aLn l_.length, bT, .a (F4_ l__e), .a (F4_ l__e1), .g [], .a ((eI .i64) r_), bT]) (x := (B false)) [ob (lnM F4_ l_), ob c0, ob (i0 h0), ob (iM F4_ h0), ob (i0 h1), ob (iM F4_ h1), ob (hasG h_words_Compare), ob o0, ob c1] (by kernel_rfl) (LeV.refl _)
   ·obtain rfl := someE hf1
    exact awpBack X0 TTab_ok hC hm [0,3] 4000 [aLn l_.length, bT, .a (F4_ l__e), .a (F4_ l__e1), .g [], .a ((eI .i64) r_), bF] J2 [(0, .d (eSl 1 false F4_ l_)), (3, .d (I (w64 (i_ + 1))))] [ob (lnM F4_ l_), ob c0, ob (i0 h0), ob (iM F4_ h0), ob (i0 h1), ob (iM F4_ h1), ob (hasG h_words_Compare), ob o0, ob c1] (by kernel_rfl) fun st0 h0 => hJ2 st0 _ (w64 (i_ + 1), m2) hl1 (Nat.lt_succ_self m2) h0 inferInstance
  ·obtain rfl := someE hf1
   obtain rfl := hl1
   exact awpBack X0 TTab_ok hC hm [] 4000 [aLn l_.length, bF] J1 [] [ob (lnM F4_ l_), ob c0] (by kernel_rfl) fun st0 h0 => hJ1 st0 _ () hf0 h0 inferInstance
noncomputable def bd_tries_steps : Code := (Try.f54.body).getD .skip
noncomputable def sp_tries_steps : Spec := spF (α := List (List Int)) (ρ := Int) 54 (fun x => [F10_ x]) (fun r => (eI .i64) r) (fun x => tries_steps x) [] (by
 rintro a0 b0 h
 have e0 := EncI.inj (f := F10_) _ _ (List.cons.inj h).1
 subst e0
 rfl)
abbrev ST_tries_steps_J1 (n_ : Int) : List (Nat × T) := [(2, .d (I n_))]
abbrev ST_tries_steps_L2 (l_ : List (List Int)) (n_1 : Int) (x7 : Int) : List (Nat × T) := [(2, .d (I n_1)), (5, .d (eSl 1 false F4_ l_)), (6, .d (I ((l_.length : Nat) : Int))), (7, .d (I x7))]
theorem w_tries_steps {ctr : Ctr} (hC : CtrOk Try.prog ctr) (hm : Try.prog.follows .mixedOrders = true) : sp_tries_steps.Ok Try.prog := by
 refine spF_ok ?_
 rintro l_ r0 hf0
 try unfold tries_steps at hf0
 refine callOk_h (tt := TTab) (keep := true) (rs := [(2, none)]) (n := ⟨17, []⟩) (body := bd_tries_steps) TTab_ok Try.func54 rfl (by kernel_rfl) rfl rfl (by show (1 : Nat) ≤ 17; decide) fun E hE => ?_
 refine awpAt X0 TTab_ok hC hm [0,2] 4000 [.cut 1] (sub [1] bd_tries_steps) (frs [1] [] bd_tries_steps []) [(0, .d (eSl 1 false F4_ l_)), (2, .d (I 0))] [] (by kernel_rfl) fun st0 h0 => ?_
 refine awpJoin' (X := Int) (x := (sub [1,2] bd_tries_steps)) (y := (sub [1,1] bd_tries_steps)) (by kernel_rfl) [2] [0,2] _ h0 (fun z => tries_steps_J1 z = some r0) (fun z => ST_tries_steps_J1 z) ?_ fun J1 hJ1 => ?_
 ·rintro n_ hf0
  unfold tries_steps_J1 at hf0
  obtain rfl := someE hf0
  exact awpEnd X0 TTab_ok hC hm hE 4000 (hs := []) (x := (I n_)) [] (by kernel_rfl) (LeV.refl _)
 ·obtain ⟨t2, ht2, hf0⟩ := bindE hf0
  refine awpAt X0 TTab_ok hC hm [2,5,6,7] 4000 [aLn l_.length] (sub [1,2,1,0] bd_tries_steps) (frs [1,2,1,0] [J1] bd_tries_steps []) [(2, .d (I 0)), (5, .d (eSl 1 false F4_ l_)), (6, .d (I ((l_.length : Nat) : Int))), (7, .d (I 0))] [ob (lnM F4_ l_)] (by kernel_rfl) fun st0 h0 => ?_
  refine awpLoop' (X := (Int × Int) × Nat) (c' := (sub [1,2,1,0,0] bd_tries_steps)) (by kernel_rfl) [2,5,6,7] (fun x => loopN (fun s => tries_steps_L2 l_ s.1 s.2) x.2 x.1 = some t2) (fun x => x.2) (fun x => ST_tries_steps_L2 l_ x.1.1 x.1.2) ((0,0), fuel) _ h0 inferInstance ht2 ?_
  rintro ⟨⟨n_1, x7⟩, n2⟩ hn2 J2 hJ2
  obtain ⟨m2, lr1, rfl, hf1, hl1⟩ := loopE hn2
  try unfold tries_steps_L2 at hf1
  rcases bifE hf1 with ⟨c0, hf1⟩ | ⟨c0, hf1⟩
  ·obtain ⟨l__e, h0, hf1⟩ := bindE hf1
   obtain rfl := someE hf1
   exact awpBack X0 TTab_ok hC hm [2,5,6,7] 4000 [bT, .a (F4_ l__e), aLn l__e.length] J2 [(2, .d (I (w64 (n_1 + ((l__e.length : Nat) : Int))))), (5, .d (eSl 1 false F4_ l_)), (6, .d (I ((l_.length : Nat) : Int))), (7, .d (I (w64 (x7 + 1))))] [ob c0, ob (i0 h0), ob (iM F4_ h0), ob (lnM (eI .i64) l__e)] (by kernel_rfl) fun st0 h0 => hJ2 st0 _ ((w64 (n_1 + ((l__e.length : Nat) : Int)), w64 (x7 + 1)), m2) hl1 (Nat.lt_succ_self m2) h0 inferInstance
  ·obtain rfl := someE hf1
   obtain rfl := hl1
   exact awpBack X0 TTab_ok hC hm [2] 4000 [bF] J1 [(2, .d (I n_1))] [ob c0] (by kernel_rfl) fun st0 h0 => hJ1 st0 _ n_1 hf0 h0 inferInstance
noncomputable def bd_tries_Check : Code := (Try.f18.body).getD .skip
noncomputable def sp_tries_Check : Spec := spF (α := List (List Int) × Int) (ρ := Int) 18 (fun x => [F10_ x.1, (eI .i64) x.2]) (fun r => (eI .i64) r) (fun x => tries_Check x.1 x.2) [] (by
 rintro ⟨a0, a1⟩ ⟨b0, b1⟩ h
 have e0 := EncI.inj (f := F10_) _ _ (List.cons.inj h).1
 replace h := (List.cons.inj h).2
 have e1 := EncI.inj (f := (eI .i64)) _ _ (List.cons.inj h).1
 subst e0 e1
 rfl)
theorem w_tries_Check {ctr : Ctr} (hC : CtrOk Try.prog ctr) (hm : Try.prog.follows .mixedOrders = true) (h_tries_loose : ctr.Has sp_tries_loose) (h_tries_ahead : ctr.Has sp_tries_ahead) (h_tries_steps : ctr.Has sp_tries_steps) : sp_tries_Check.Ok Try.prog := by
 refine spF_ok ?_
 rintro ⟨l_, inputs⟩ r0 hf0
 try unfold tries_Check at hf0
 refine callOk_h (tt := TTab) (keep := true) (rs := [(4, none)]) (n := ⟨18, []⟩) (body := bd_tries_Check) TTab_ok Try.func18 rfl (by kernel_rfl) rfl rfl (by show (2 : Nat) ≤ 18; decide) fun E hE => ?_
 obtain ⟨r_, h0, hf0⟩ := bindE hf0
 have o0 := hasF h_tries_loose (x := (l_, inputs)) h0 (loC F10_ l_ <| loC (eI .i64) inputs <| loN)
 rcases bifE hf0 with ⟨c0, hf0⟩ | ⟨c0, hf0⟩
 ·obtain rfl := someE hf0
  exact awpEnd X0 TTab_ok hC hm hE 4000 (hs := [.g [], .a ((eI .i64) r_), bT]) (x := (I r_)) [ob (hasG h_tries_loose), ob o0, ob c0] (by kernel_rfl) (LeV.refl _)
 ·obtain ⟨r_1, h1, hf0⟩ := bindE hf0
  have o1 := hasF h_tries_ahead (x := l_) h1 (loC F10_ l_ <| loN)
  rcases bifE hf0 with ⟨c1, hf0⟩ | ⟨c1, hf0⟩
  ·obtain rfl := someE hf0
   exact awpEnd X0 TTab_ok hC hm hE 4000 (hs := [.g [], .a ((eI .i64) r_), bF, .g [], .a (eB r_1), bT]) (x := (I 1)) [ob (hasG h_tries_loose), ob o0, ob c0, ob (hasG h_tries_ahead), ob o1, ob c1] (by kernel_rfl) (LeV.refl _)
  ·obtain ⟨r_2, h2, hf0⟩ := bindE hf0
   have o2 := hasF h_tries_steps (x := l_) h2 (loC F10_ l_ <| loN)
   rcases bifE hf0 with ⟨c2, hf0⟩ | ⟨c2, hf0⟩
   ·obtain rfl := someE hf0
    exact awpEnd X0 TTab_ok hC hm hE 4000 (hs := [.g [], .a ((eI .i64) r_), bF, .g [], .a (eB r_1), bF, .g [], .a ((eI .i64) r_2), bT]) (x := (I 3)) [ob (hasG h_tries_loose), ob o0, ob c0, ob (hasG h_tries_ahead), ob o1, ob c1, ob (hasG h_tries_steps), ob o2, ob c2] (by kernel_rfl) (LeV.refl _)
   ·obtain rfl := someE hf0
    exact awpEnd X0 TTab_ok hC hm hE 4000 (hs := [.g [], .a ((eI .i64) r_), bF, .g [], .a (eB r_1), bF, .g [], .a ((eI .i64) r_2), bF]) (x := (I 0)) [ob (hasG h_tries_loose), ob o0, ob c0, ob (hasG h_tries_ahead), ob o1, ob c1, ob (hasG h_tries_steps), ob o2, ob c2] (by kernel_rfl) (LeV.refl _)
noncomputable def bd_tries_builder_node : Code := (Try.f94.body).getD .skip
abbrev ST_tries_builder_node_J1 (b_ : S_tries_builder) (n_Next : List Int) : List (Nat × T) := [(0, .own (.box (F25_ b_))), (3, .own (.box (.agg [eOs 1 true (eI .i64) n_Next, B false])))]
abbrev ST_tries_builder_node_L2 (b_ : S_tries_builder) (n_Next1 : List Int) (x14 : Int) : List (Nat × T) := [(0, .own (.box (F25_ b_))), (3, .own (.box (.agg [eOs 1 true (eI .i64) n_Next1, B false]))), (13, .d (I (((List.replicate b_.inputs_.toNat (0 : Int)).length : Nat) : Int))), (14, .d (I x14))]
theorem w_tries_builder_node {ctr : Ctr} (hC : CtrOk Try.prog ctr) (hm : Try.prog.follows .mixedOrders = true) (cv0 : Value) : ∀ (b_ : S_tries_builder) (r0 : Int × S_tries_builder), tries_builder_node b_ = some r0 → LentOk Try.prog (.fn 94 []) [.atom cv0] ([cv0].zip [.box (.agg [I b_.inputs_, eOs 2 false F11_ b_.nodes_])]) (I r0.1) [.box (.agg [I r0.2.inputs_, eOs 2 false F11_ r0.2.nodes_])] := by
 intro b_ r0 hf0
 refine lentOk_r (tt := TTab) (nt := 38) (body := bd_tries_builder_node) [0] TTab_ok Try.func94 rfl (by kernel_rfl) rfl rfl (by show (1 : Nat) ≤ 38; decide) (by decide) rfl rfl rfl rfl (fun E hE => ?_) rfl
 unfold tries_builder_node at hf0
 refine awpOne 0 (v := cv0) (y := .box (.agg [I b_.inputs_, eOs 2 false F11_ b_.nodes_])) (by kernel_rfl) (by kernel_rfl) (by kernel_rfl) fun hv0 => ?_
 obtain ⟨g0, hf0⟩ := gdE hf0
 have o0 := rM 1 (eI .i64) b_.inputs_ (0 : Int)
 refine awpAt X0 TTab_ok hC hm [0,3] 4000 [.a (eOs 1 true (eI .i64) (List.replicate b_.inputs_.toNat (0 : Int))), .cut 0] (sub [1,1] bd_tries_builder_node) (frs [1,1] [] bd_tries_builder_node []) [(0, .own (.box (F25_ b_))), (3, .own (.box (.agg [eOs 1 true (eI .i64) (List.replicate b_.inputs_.toNat (0 : Int)), B false])))] [ob (rL g0), ob o0] (by kernel_rfl) fun st0 h0 => ?_
 refine awpJoin' (X := List Int) (x := (sub [1,1,2] bd_tries_builder_node)) (y := (sub [1,1,1] bd_tries_builder_node)) (by kernel_rfl) [0,3] [0,3] _ h0 (fun z => tries_builder_node_J1 b_ z = some r0) (fun z => ST_tries_builder_node_J1 b_ z) ?_ fun J1 hJ1 => ?_
 ·rintro n_Next hf0
  unfold tries_builder_node_J1 at hf0
  have o1 := oC F11_ (S_tries_Node.mk n_Next false) []
  obtain ⟨g1, hf0⟩ := gdE hf0
  have o2 := aL F11_ F11_ g1
  have o3 := aM F11_ b_.nodes_ ([(S_tries_Node.mk n_Next false)] : List S_tries_Node)
  have o4 := lnM F11_ (b_.nodes_ ++ ([(S_tries_Node.mk n_Next false)] : List S_tries_Node))
  obtain rfl := someE hf0
  exact awpFin ((xNc Try.prog 30 0 cv0).or ((xMv Try.prog 22 0 cv0 hv0).or X0)) TTab_ok hC hm [0,2] 4000 [bF, .l ((b_.nodes_ ++ ([(S_tries_Node.mk n_Next false)] : List S_tries_Node)).map F11_), .a (.atom (.int .i64 (((b_.nodes_ ++ ([(S_tries_Node.mk n_Next false)] : List S_tries_Node)).length : Nat) : Int)))] .ret [(0, .own (.box (.agg [I b_.inputs_, eOs 2 false F11_ (b_.nodes_ ++ ([(S_tries_Node.mk n_Next false)] : List S_tries_Node))]))), (2, .d (I (w64 ((((b_.nodes_ ++ ([(S_tries_Node.mk n_Next false)] : List S_tries_Node)).length : Nat) : Int) - 1))))] [ob ((rfl : some cv0 = some cv0)), ob o1, ob o2, ob o3, ob ((⟨rfl, rfl⟩ : T.d (.atom cv0) = T.d (.atom cv0) ∧ some cv0 = some cv0)), ob o4] (by kernel_rfl) fun st0 h0 => hE _ st0 (.inr rfl) (own_all h0 ⟨⟨rfl, rfl⟩, trivial⟩) (d_at h0 rfl rfl)
 ·have o5 := lnM (eI .i64) (List.replicate b_.inputs_.toNat (0 : Int))
  obtain ⟨t2, ht2, hf0⟩ := bindE hf0
  refine awpAt X0 TTab_ok hC hm [0,3,13,14] 4000 [.a (.atom (.int .i64 (((List.replicate b_.inputs_.toNat (0 : Int)).length : Nat) : Int)))] (sub [1,1,2,1,0] bd_tries_builder_node) (frs [1,1,2,1,0] [J1] bd_tries_builder_node []) [(0, .own (.box (F25_ b_))), (3, .own (.box (.agg [eOs 1 true (eI .i64) (List.replicate b_.inputs_.toNat (0 : Int)), B false]))), (13, .d (I (((List.replicate b_.inputs_.toNat (0 : Int)).length : Nat) : Int))), (14, .d (I 0))] [ob o5] (by kernel_rfl) fun st0 h0 => ?_
  refine awpLoop' (X := (List Int × Int) × Nat) (c' := (sub [1,1,2,1,0,0] bd_tries_builder_node)) (by kernel_rfl) [0,3,13,14] (fun x => loopN (fun s => tries_builder_node_L2 b_ s.1 s.2) x.2 x.1 = some t2) (fun x => x.2) (fun x => ST_tries_builder_node_L2 b_ x.1.1 x.1.2) (((List.replicate b_.inputs_.toNat (0 : Int)), 0), fuel) _ h0 inferInstance ht2 ?_
  rintro ⟨⟨n_Next1, x14⟩, n2⟩ hn2 J2 hJ2
  obtain ⟨m2, lr1, rfl, hf1, hl1⟩ := loopE hn2
  try unfold tries_builder_node_L2 at hf1
  rcases bifE hf1 with ⟨c0, hf1⟩ | ⟨c0, hf1⟩
  ·obtain ⟨n_Next_e, h0, hf1⟩ := bindE hf1
   obtain rfl := someE hf1
   exact awpBack X0 TTab_ok hC hm [0,3,13,14] 4000 [bT, .a ((eI .i64) n_Next_e), .a ((eI .i64) n_Next_e), .l ((n_Next1.set x14.toNat (-1)).map (eI .i64))] J2 [(0, .own (.box (F25_ b_))), (3, .own (.box (.agg [eOs 1 true (eI .i64) (n_Next1.set x14.toNat (-1)), B false]))), (13, .d (I (((List.replicate b_.inputs_.toNat (0 : Int)).length : Nat) : Int))), (14, .d (I (w64 (x14 + 1))))] [ob c0, ob (iL (eI .i64) h0), ob (iM (eI .i64) h0), ob (iM (eI .i64) h0), ob (sM (eI .i64) n_Next1 x14 (-1))] (by kernel_rfl) fun st0 h0 => hJ2 st0 _ (((n_Next1.set x14.toNat (-1)), w64 (x14 + 1)), m2) hl1 (Nat.lt_succ_self m2) h0 inferInstance
  ·obtain rfl := someE hf1
   obtain rfl := hl1
   exact awpBack X0 TTab_ok hC hm [0,3] 4000 [bF] J1 [(0, .own (.box (F25_ b_))), (3, .own (.box (.agg [eOs 1 true (eI .i64) n_Next1, B false])))] [ob c0] (by kernel_rfl) fun st0 h0 => hJ1 st0 _ n_Next1 hf0 h0 inferInstance
noncomputable def bd_tries_builder_add : Code := (Try.f81.body).getD .skip
abbrev ST_tries_builder_add_J2 (b_inputs1 : Int) (b_nodes1 : List S_tries_Node) (at_ : Int) : List (Nat × T) := [(0, .own (.box (.agg [I b_inputs1, eOs 2 false F11_ b_nodes1]))), (4, .d (I at_))]
abbrev ST_tries_builder_add_J4 (w_ : List Int) (at_1 : Int) (x18 : Int) (w__e : Int) (b_inputs3 : Int) (b_nodes3 : List S_tries_Node) : List (Nat × T) := [(0, .own (.box (.agg [I b_inputs3, eOs 2 false F11_ b_nodes3]))), (4, .d (I at_1)), (6, .d (I w__e)), (16, .d (eSl 1 false (eI .i64) w_)), (17, .d (I ((w_.length : Nat) : Int))), (18, .d (I x18))]
abbrev ST_tries_builder_add_L3 (w_ : List Int) (b_inputs2 : Int) (b_nodes2 : List S_tries_Node) (at_1 : Int) (x18 : Int) : List (Nat × T) := [(0, .own (.box (.agg [I b_inputs2, eOs 2 false F11_ b_nodes2]))), (4, .d (I at_1)), (16, .d (eSl 1 false (eI .i64) w_)), (17, .d (I ((w_.length : Nat) : Int))), (18, .d (I x18))]
abbrev ST_tries_builder_add_J1 (w_ : List Int) (b_inputs : Int) (b_nodes : List S_tries_Node) : List (Nat × T) := [(0, .own (.box (.agg [I b_inputs, eOs 2 false F11_ b_nodes]))), (1, .d (eSl 1 false (eI .i64) w_)), (4, .d (I 0))]
theorem w_tries_builder_add {ctr : Ctr} (hC : CtrOk Try.prog ctr) (hm : Try.prog.follows .mixedOrders = true) (cv0 : Value) : ∀ (w_ : List Int) (b_ : S_tries_builder) (r0 : S_tries_builder), tries_builder_add w_ b_ = some r0 → LentOk Try.prog (.fn 81 []) [.atom cv0, eSl 1 false (eI .i64) w_] ([cv0].zip [.box (.agg [I b_.inputs_, eOs 2 false F11_ b_.nodes_])]) (.tup []) [.box (.agg [I r0.inputs_, eOs 2 false F11_ r0.nodes_])] := by
 intro w_ b_ r0 hf0
 refine lentOk_h (tt := TTab) (nt := 66) (body := bd_tries_builder_add) [0] TTab_ok Try.func81 rfl (by kernel_rfl) rfl rfl (by show (2 : Nat) ≤ 66; decide) (by decide) rfl rfl (fun E hE => ?_) rfl
 unfold tries_builder_add at hf0
 refine awpAt X0 TTab_ok hC hm [0,1,4] 4000 [.cut 1] (sub [1] bd_tries_builder_add) (frs [1] [] bd_tries_builder_add []) [(0, .own (.box (F25_ b_))), (1, .d (eSl 1 false (eI .i64) w_)), (4, .d (I 0))] [] (by kernel_rfl) fun st0 h0 => ?_
 refine awpJoin' (X := Int × List S_tries_Node) (x := (sub [1,2] bd_tries_builder_add)) (y := (sub [1,1] bd_tries_builder_add)) (by kernel_rfl) [0,1,4] [0,1,4] _ h0 (fun z => tries_builder_add_J1 w_ z.1 z.2 = some r0) (fun z => ST_tries_builder_add_J1 w_ z.1 z.2) ?_ fun J1 hJ1 => ?_
 ·rintro ⟨b_inputs, b_nodes⟩ hf0
  unfold tries_builder_add_J1 at hf0
  refine awpAt X0 TTab_ok hC hm [0,1,4] 4000 [.cut 0] (sub [1,1] bd_tries_builder_add) (frs [1,1] [] bd_tries_builder_add []) [(0, .own (.box (.agg [I b_inputs, eOs 2 false F11_ b_nodes]))), (1, .d (eSl 1 false (eI .i64) w_)), (4, .d (I 0))] [] (by kernel_rfl) fun st0 h0 => ?_
  refine awpJoin' (X := Int × List S_tries_Node × Int) (x := (sub [1,1,2] bd_tries_builder_add)) (y := (sub [1,1,1] bd_tries_builder_add)) (by kernel_rfl) [0,4] [0,1,4] _ h0 (fun z => tries_builder_add_J2 z.1 z.2.1 z.2.2 = some r0) (fun z => ST_tries_builder_add_J2 z.1 z.2.1 z.2.2) ?_ fun J2 hJ2 => ?_
  ·rintro ⟨b_inputs1, b_nodes1, at_⟩ hf0
   unfold tries_builder_add_J2 at hf0
   obtain ⟨b_node_e, h0, hf0⟩ := bindE hf0
   have o0 := iL F11_ h0
   have o1 := iM F11_ h0
   have o2 := iM F11_ h0
   have o3 := iM F11_ h0
   have o4 := sM F11_ b_nodes1 at_ (S_tries_Node.mk b_node_e.Next true)
   obtain rfl := someE hf0
   exact awpFin X0 TTab_ok hC hm [0] 4000 [.a (F11_ b_node_e), .a (F11_ b_node_e), .a (F11_ b_node_e), .l ((b_nodes1.set at_.toNat (S_tries_Node.mk b_node_e.Next true)).map F11_)] .normal [(0, .own (.box (.agg [I b_inputs1, eOs 2 false F11_ (b_nodes1.set at_.toNat (S_tries_Node.mk b_node_e.Next true))])))] [ob o0, ob o1, ob o2, ob o3, ob o4] (by kernel_rfl) fun st0 h0 => hE _ st0 (.inl rfl) (own_all h0 ⟨⟨rfl, rfl⟩, trivial⟩)
  ·obtain ⟨t3, ht3, hf0⟩ := bindE hf0
   refine awpAt X0 TTab_ok hC hm [0,4,16,17,18] 4000 [aLn w_.length] (sub [1,1,2,1,0] bd_tries_builder_add) (frs [1,1,2,1,0] [J2] bd_tries_builder_add []) [(0, .own (.box (.agg [I b_inputs, eOs 2 false F11_ b_nodes]))), (4, .d (I 0)), (16, .d (eSl 1 false (eI .i64) w_)), (17, .d (I ((w_.length : Nat) : Int))), (18, .d (I 0))] [ob (lnM (eI .i64) w_)] (by kernel_rfl) fun st0 h0 => ?_
   refine awpLoop' (X := (Int × List S_tries_Node × Int × Int) × Nat) (c' := (sub [1,1,2,1,0,0] bd_tries_builder_add)) (by kernel_rfl) [0,4,16,17,18] (fun x => loopN (fun s => tries_builder_add_L3 w_ s.1 s.2.1 s.2.2.1 s.2.2.2) x.2 x.1 = some t3) (fun x => x.2) (fun x => ST_tries_builder_add_L3 w_ x.1.1 x.1.2.1 x.1.2.2.1 x.1.2.2.2) ((b_inputs, b_nodes, 0,0), fuel) _ h0 inferInstance ht3 ?_
   rintro ⟨⟨b_inputs2, b_nodes2, at_1, x18⟩, n3⟩ hn3 J3 hJ3
   obtain ⟨m3, lr1, rfl, hf1, hl1⟩ := loopE hn3
   try unfold tries_builder_add_L3 at hf1
   rcases bifE hf1 with ⟨c0, hf1⟩ | ⟨c0, hf1⟩
   ·obtain ⟨w__e, h1, hf1⟩ := bindE hf1
    refine awpAt X0 TTab_ok hC hm [0,4,6,16,17,18] 4000 [bT, .a ((eI .i64) w__e), .cut 0] (sub [1,1,2,1,0,0,1,1,0,0,1] bd_tries_builder_add) (frs [1,1,2,1,0,0,1,1,0,0,1] [J2, J3] bd_tries_builder_add []) [(0, .own (.box (.agg [I b_inputs2, eOs 2 false F11_ b_nodes2]))), (4, .d (I at_1)), (6, .d (I w__e)), (16, .d (eSl 1 false (eI .i64) w_)), (17, .d (I ((w_.length : Nat) : Int))), (18, .d (I x18))] [ob c0, ob (i0 h1), ob (iM (eI .i64) h1)] (by kernel_rfl) fun st0 h0 => ?_
    refine awpJoin' (X := Int × List S_tries_Node) (x := (sub [1,1,2,1,0,0,1,1,0,0,1,2] bd_tries_builder_add)) (y := (sub [1,1,2,1,0,0,1,1,0,0,1,1] bd_tries_builder_add)) (by kernel_rfl) [0,4,6,16,17,18] [0,4,6,16,17,18] _ h0 (fun z => tries_builder_add_J4 at_1 x18 w__e z.1 z.2 = some lr1) (fun z => ST_tries_builder_add_J4 w_ at_1 x18 w__e z.1 z.2) ?_ fun J4 hJ4 => ?_
    ·rintro ⟨b_inputs3, b_nodes3⟩ hf1
     unfold tries_builder_add_J4 at hf1
     obtain ⟨b_node_e1, h2, hf1⟩ := bindE hf1
     have o5 := iL F11_ h2
     have o6 := iM F11_ h2
     have o7 := iM F11_ h2
     have o8 := iM F11_ h2
     obtain ⟨Next_e, h3, hf1⟩ := bindE hf1
     have o9 := iM F11_ h2
     obtain rfl := someE hf1
     exact awpBack X0 TTab_ok hC hm [0,4,16,17,18] 4000 [.a (F11_ b_node_e1), .a (F11_ b_node_e1), .a (F11_ b_node_e1), .a (F11_ b_node_e1), .a ((eI .i64) Next_e)] J3 [(0, .own (.box (.agg [I b_inputs3, eOs 2 false F11_ b_nodes3]))), (4, .d (I Next_e)), (16, .d (eSl 1 false (eI .i64) w_)), (17, .d (I ((w_.length : Nat) : Int))), (18, .d (I (w64 (x18 + 1))))] [ob o5, ob o6, ob o7, ob o8, ob (iL (eI .i64) h3), ob o9, ob (iM (eI .i64) h3)] (by kernel_rfl) fun st0 h0 => hJ3 st0 _ ((b_inputs3, b_nodes3, Next_e, w64 (x18 + 1)), m3) hl1 (Nat.lt_succ_self m3) h0 inferInstance
    ·obtain ⟨b_node_e2, h4, hf1⟩ := bindE hf1
     have o10 := iL F11_ h4
     have o11 := iM F11_ h4
     have o12 := iM F11_ h4
     have o13 := iM F11_ h4
     obtain ⟨Next_e1, h5, hf1⟩ := bindE hf1
     have o14 := iM F11_ h4
     rcases bifE hf1 with ⟨c1, hf1⟩ | ⟨c1, hf1⟩
     ·obtain ⟨r_, h6, hf1⟩ := bindE hf1
      obtain ⟨nodes__e, h7, hf1⟩ := bindE hf1
      have o15 := iL F11_ h7
      have o16 := iM F11_ h7
      have o17 := iM F11_ h7
      have o18 := iM F11_ h7
      obtain ⟨Next_e2, h8, hf1⟩ := bindE hf1
      have o19 := iM F11_ h7
      have o20 := iM F11_ h7
      have o21 := sM (eI .i64) nodes__e.Next w__e r_.1
      have o22 := sM F11_ r_.2.nodes_ at_1 (S_tries_Node.mk (nodes__e.Next.set w__e.toNat r_.1) nodes__e.End)
      exact awpBack ((xLend (P := Try.prog) TTab [0] (w_tries_builder_node hC hm cv0 _ _ h6) 35).or X0) TTab_ok hC hm [0,4,6,16,17,18] 4000 [.a (F11_ b_node_e2), .a (F11_ b_node_e2), .a (F11_ b_node_e2), .a (F11_ b_node_e2), .a ((eI .i64) Next_e1), bT, .a (F11_ nodes__e), .a (F11_ nodes__e), .a (F11_ nodes__e), .a (F11_ nodes__e), .a ((eI .i64) Next_e2), .a (F11_ nodes__e), .a ((eI .i64) Next_e2), .l ((nodes__e.Next.set w__e.toNat r_.1).map (eI .i64)), .l ((r_.2.nodes_.set at_1.toNat (S_tries_Node.mk (nodes__e.Next.set w__e.toNat r_.1) nodes__e.End)).map F11_)] J4 [(0, .own (.box (.agg [I r_.2.inputs_, eOs 2 false F11_ (r_.2.nodes_.set at_1.toNat (S_tries_Node.mk (nodes__e.Next.set w__e.toNat r_.1) nodes__e.End))]))), (4, .d (I at_1)), (6, .d (I w__e)), (16, .d (eSl 1 false (eI .i64) w_)), (17, .d (I ((w_.length : Nat) : Int))), (18, .d (I x18))] [ob o10, ob o11, ob o12, ob o13, ob (iL (eI .i64) h5), ob o14, ob (iM (eI .i64) h5), ob c1, ob (tabC_at (f := .fn 94 []) (xs := [.atom cv0]) (ls := [(cv0, .box (.agg [I b_inputs2, eOs 2 false F11_ b_nodes2]))]) (r := I r_.1) (ys := [.box (.agg [I r_.2.inputs_, eOs 2 false F11_ r_.2.nodes_])]) [.atom cv0] (show LeTs [.atom cv0] [.atom cv0] from inferInstance)), ob o15, ob o16, ob o17, ob o18, ob (iL (eI .i64) h8), ob o19, ob (iM (eI .i64) h8), ob o20, ob (iM (eI .i64) h8), ob o21, ob o22] (by kernel_rfl) fun st0 h0 => hJ4 st0 _ (r_.2.inputs_, (r_.2.nodes_.set at_1.toNat (S_tries_Node.mk (nodes__e.Next.set w__e.toNat r_.1) nodes__e.End))) hf1 h0 inferInstance
     ·exact awpBack X0 TTab_ok hC hm [0,4,6,16,17,18] 4000 [.a (F11_ b_node_e2), .a (F11_ b_node_e2), .a (F11_ b_node_e2), .a (F11_ b_node_e2), .a ((eI .i64) Next_e1), bF] J4 [(0, .own (.box (.agg [I b_inputs2, eOs 2 false F11_ b_nodes2]))), (4, .d (I at_1)), (6, .d (I w__e)), (16, .d (eSl 1 false (eI .i64) w_)), (17, .d (I ((w_.length : Nat) : Int))), (18, .d (I x18))] [ob o10, ob o11, ob o12, ob o13, ob (iL (eI .i64) h5), ob o14, ob (iM (eI .i64) h5), ob c1] (by kernel_rfl) fun st0 h0 => hJ4 st0 _ (b_inputs2, b_nodes2) hf1 h0 inferInstance
   ·obtain rfl := someE hf1
    obtain rfl := hl1
    exact awpBack X0 TTab_ok hC hm [0,4] 4000 [bF] J2 [(0, .own (.box (.agg [I b_inputs2, eOs 2 false F11_ b_nodes2]))), (4, .d (I at_1))] [ob c0] (by kernel_rfl) fun st0 h0 => hJ2 st0 _ (b_inputs2, b_nodes2, at_1) hf0 h0 inferInstance
 ·have o23 := lnM F11_ b_.nodes_
  rcases bifE hf0 with ⟨c2, hf0⟩ | ⟨c2, hf0⟩
  ·obtain ⟨r_1, h9, hf0⟩ := bindE hf0
   exact awpBack ((xLend (P := Try.prog) TTab [0] (w_tries_builder_node hC hm cv0 _ _ h9) 15).or X0) TTab_ok hC hm [0,1,4] 4000 [aLn b_.nodes_.length, bT] J1 [(0, .own (.box (.agg [I r_1.2.inputs_, eOs 2 false F11_ r_1.2.nodes_]))), (1, .d (eSl 1 false (eI .i64) w_)), (4, .d (I 0))] [ob o23, ob c2, ob (tabC_at (f := .fn 94 []) (xs := [.atom cv0]) (ls := [(cv0, .box (.agg [I b_.inputs_, eOs 2 false F11_ b_.nodes_]))]) (r := I r_1.1) (ys := [.box (.agg [I r_1.2.inputs_, eOs 2 false F11_ r_1.2.nodes_])]) [.atom cv0] (show LeTs [.atom cv0] [.atom cv0] from inferInstance))] (by kernel_rfl) fun st0 h0 => hJ1 st0 _ (r_1.2.inputs_, r_1.2.nodes_) hf0 h0 inferInstance
  ·exact awpBack X0 TTab_ok hC hm [0,1,4] 4000 [aLn b_.nodes_.length, bF] J1 [(0, .own (.box (.agg [I b_.inputs_, eOs 2 false F11_ b_.nodes_]))), (1, .d (eSl 1 false (eI .i64) w_)), (4, .d (I 0))] [ob o23, ob c2] (by kernel_rfl) fun st0 h0 => hJ1 st0 _ (b_.inputs_, b_.nodes_) hf0 h0 inferInstance
noncomputable def bd_tries_of : Code := (Try.f57.body).getD .skip
noncomputable def sp_tries_of : Spec := spF (α := List (List Int) × Int) (ρ := S_tries_builder) 57 (fun x => [F10_ x.1, (eI .i64) x.2]) (fun r => F28_ r) (fun x => tries_of x.1 x.2) [] (by
 rintro ⟨a0, a1⟩ ⟨b0, b1⟩ h
 have e0 := EncI.inj (f := F10_) _ _ (List.cons.inj h).1
 replace h := (List.cons.inj h).2
 have e1 := EncI.inj (f := (eI .i64)) _ _ (List.cons.inj h).1
 subst e0 e1
 rfl)
abbrev ST_tries_of_J1 (b_inputs : Int) (b_nodes : List S_tries_Node) : List (Nat × T) := [(5, .own (.box (.agg [I b_inputs, eOs 2 false F11_ b_nodes])))]
abbrev ST_tries_of_L2 (l_ : List (List Int)) (b_inputs1 : Int) (b_nodes1 : List S_tries_Node) (x13 : Int) : List (Nat × T) := [(5, .own (.box (.agg [I b_inputs1, eOs 2 false F11_ b_nodes1]))), (11, .d (eSl 1 false F4_ l_)), (12, .d (I ((l_.length : Nat) : Int))), (13, .d (I x13))]
theorem w_tries_of {ctr : Ctr} (hC : CtrOk Try.prog ctr) (hm : Try.prog.follows .mixedOrders = true) : sp_tries_of.Ok Try.prog := by
 refine spF_ok ?_
 rintro ⟨l_, inputs⟩ r0 hf0
 try unfold tries_of at hf0
 refine callOk_h (tt := TTab) (keep := true) (rs := [(4, none)]) (n := ⟨22, []⟩) (body := bd_tries_of) TTab_ok Try.func57 rfl (by kernel_rfl) rfl rfl (by show (2 : Nat) ≤ 22; decide) fun E hE => ?_
 refine awpAt X0 TTab_ok hC hm [0,5] 4000 [.cut 2] (sub [1,1] bd_tries_of) (frs [1,1] [] bd_tries_of []) [(0, .d (eSl 1 false F4_ l_)), (5, .own (.box (.agg [I inputs, eOs 2 true F13_ []])))] [] (by kernel_rfl) fun st0 h0 => awpOf h0 ?_
 refine awpPin (by kernel_rfl) 5 fun pv5 => ?_
 refine awpAt X0 TTab_ok hC hm [0,5] 4000 [.cut 0] (sub [1,1] bd_tries_of) (frs [1,1] [] bd_tries_of []) [(0, .d (eSl 1 false F4_ l_)), (5, .own (.box (.agg [I inputs, eOs 2 true F13_ []])))] [] (by kernel_rfl) fun st0 h0 => ?_
 refine awpJoin' (X := Int × List S_tries_Node) (x := (sub [1,1,2] bd_tries_of)) (y := (sub [1,1,1] bd_tries_of)) (by kernel_rfl) [5] [0,5] _ h0 (fun z => tries_of_J1 z.1 z.2 = some r0) (fun z => ST_tries_of_J1 z.1 z.2) ?_ fun J1 hJ1 => ?_
 ·rintro ⟨b_inputs, b_nodes⟩ hf0
  unfold tries_of_J1 at hf0
  obtain rfl := someE hf0
  exact awpEnd X0 TTab_ok hC hm hE 4000 (hs := []) (x := (.box (.agg [I b_inputs, eOs 2 false F11_ b_nodes]))) [] (by kernel_rfl) (LeV.refl _)
 ·obtain ⟨t2, ht2, hf0⟩ := bindE hf0
  refine awpAt X0 TTab_ok hC hm [5,11,12,13] 4000 [aLn l_.length] (sub [1,1,2,1,0] bd_tries_of) (frs [1,1,2,1,0] [J1] bd_tries_of []) [(5, .own (.box (.agg [I inputs, eOs 2 true F11_ []]))), (11, .d (eSl 1 false F4_ l_)), (12, .d (I ((l_.length : Nat) : Int))), (13, .d (I 0))] [ob (lnM F4_ l_)] (by kernel_rfl) fun st0 h0 => ?_
  refine awpLoop' (X := (Int × List S_tries_Node × Int) × Nat) (c' := (sub [1,1,2,1,0,0] bd_tries_of)) (by kernel_rfl) [5,11,12,13] (fun x => loopN (fun s => tries_of_L2 l_ s.1 s.2.1 s.2.2) x.2 x.1 = some t2) (fun x => x.2) (fun x => ST_tries_of_L2 l_ x.1.1 x.1.2.1 x.1.2.2) ((inputs, ([] : List S_tries_Node), 0), fuel) _ h0 inferInstance ht2 ?_
  rintro ⟨⟨b_inputs1, b_nodes1, x13⟩, n2⟩ hn2 J2 hJ2
  obtain ⟨m2, lr1, rfl, hf1, hl1⟩ := loopE hn2
  try unfold tries_of_L2 at hf1
  rcases bifE hf1 with ⟨c0, hf1⟩ | ⟨c0, hf1⟩
  ·obtain ⟨l__e, h0, hf1⟩ := bindE hf1
   obtain ⟨r_, h1, hf1⟩ := bindE hf1
   obtain rfl := someE hf1
   exact awpBack ((xLend (P := Try.prog) TTab [5] (w_tries_builder_add hC hm pv5 _ _ _ h1) 19).or X0) TTab_ok hC hm [5,11,12,13] 4000 [bT, .a (F4_ l__e)] J2 [(5, .own (.box (.agg [I r_.inputs_, eOs 2 false F11_ r_.nodes_]))), (11, .d (eSl 1 false F4_ l_)), (12, .d (I ((l_.length : Nat) : Int))), (13, .d (I (w64 (x13 + 1))))] [ob c0, ob (i0 h0), ob (iM F4_ h0), ob (tabC_at (f := .fn 81 []) (xs := [.atom pv5, F4_ l__e]) (ls := [(pv5, .box (.agg [I b_inputs1, eOs 2 false F11_ b_nodes1]))]) (r := .tup []) (ys := [.box (.agg [I r_.inputs_, eOs 2 false F11_ r_.nodes_])]) [.atom pv5, F4_ l__e] (show LeTs [.atom pv5, F4_ l__e] [.atom pv5, F4_ l__e] from inferInstance))] (by kernel_rfl) fun st0 h0 => hJ2 st0 _ ((r_.inputs_, r_.nodes_, w64 (x13 + 1)), m2) hl1 (Nat.lt_succ_self m2) h0 inferInstance
  ·obtain rfl := someE hf1
   obtain rfl := hl1
   exact awpBack X0 TTab_ok hC hm [5] 4000 [bF] J1 [(5, .own (.box (.agg [I b_inputs1, eOs 2 false F11_ b_nodes1])))] [ob c0] (by kernel_rfl) fun st0 h0 => hJ1 st0 _ (b_inputs1, b_nodes1) hf0 h0 inferInstance
noncomputable def bd_tries_walk : Code := (Try.f66.body).getD .skip
noncomputable def sp_tries_walk : Spec := spF (α := List S_tries_Node) (ρ := List S_tries_Node) 66 (fun x => [F19_ x]) (fun r => (eFn1 85 F22_) r) (fun x => tries_walk x) [] (by
 rintro a0 b0 h
 have e0 := EncI.inj (f := F19_) _ _ (List.cons.inj h).1
 subst e0
 rfl)
theorem w_tries_walk {ctr : Ctr} (hC : CtrOk Try.prog ctr) (hm : Try.prog.follows .mixedOrders = true) : sp_tries_walk.Ok Try.prog := by
 refine spF_ok ?_
 rintro nodes r0 hf0
 try unfold tries_walk at hf0
 refine callOk_h (tt := TTab) (keep := true) (rs := [(2, none)]) (n := ⟨4, []⟩) (body := bd_tries_walk) TTab_ok Try.func66 rfl (by kernel_rfl) rfl rfl (by show (1 : Nat) ≤ 4; decide) fun E hE => ?_
 obtain rfl := someE hf0
 exact awpEnd X0 TTab_ok hC hm hE 4000 (hs := []) (x := (.fn 85 [.sptr (eSl 2 false F13_ nodes)])) [] (by kernel_rfl) (LeV.refl _)
noncomputable def bd_slices_Clip_int_int : Code := (Try.f67.body).getD .skip
noncomputable def sp_slices_Clip_int_int : Spec := spF (α := List Int) (ρ := List Int) 67 (fun x => [F4_ x]) (fun r => F1_ r) (fun x => slices_Clip_int_int x) [] (by
 rintro a0 b0 h
 have e0 := EncI.inj (f := F4_) _ _ (List.cons.inj h).1
 subst e0
 rfl)
theorem w_slices_Clip_int_int {ctr : Ctr} (hC : CtrOk Try.prog ctr) (hm : Try.prog.follows .mixedOrders = true) : sp_slices_Clip_int_int.Ok Try.prog := by
 refine spF_ok ?_
 rintro s_ r0 hf0
 try unfold slices_Clip_int_int at hf0
 refine callOk_h (tt := TTab) (keep := true) (rs := [(2, none)]) (n := ⟨9, []⟩) (body := bd_slices_Clip_int_int) TTab_ok Try.func67 rfl (by kernel_rfl) rfl rfl (by show (1 : Nat) ≤ 9; decide) fun E hE => ?_
 obtain ⟨g0, hf0⟩ := gdE hf0
 have o0 := slT1 1 (eI .i64) s_ 0 ((s_.length : Nat) : Int).toNat
 obtain rfl := someE hf0
 exact awpEnd X0 TTab_ok hC hm hE 4000 (hs := [aLn s_.length, aLn s_.length, .a (eSl 1 true (eI .i64) ((s_.drop 0).take (((s_.length : Nat) : Int).toNat - 0)))]) (x := (eSl 1 true (eI .i64) ((s_.drop 0).take (((s_.length : Nat) : Int).toNat - 0)))) [ob (lnM (eI .i64) s_), ob (lnM (eI .i64) s_), ob (slB g0), ob (slC g0), ob (sl011 (eI .i64) g0), ob o0] (by kernel_rfl) (LeV.refl _)
noncomputable def bd_tries_walk_1 : Code := (Try.f85.body).getD .skip
abbrev ST_tries_walk_1_J3 {σ : Type} (x0 : List S_tries_Node) (YY : σ → Opq1) (sg2 : σ) (next : List S_tries_place) : List (Nat × T) := [(0, .own (.opq (YY sg2).q)), (1, .d (.sptr (eSl 2 false F13_ x0))), (4, .own (eOs 2 false F16_ next))]
abbrev ST_tries_walk_1_J5 {σ : Type} (x0 : List S_tries_Node) (YY : σ → Opq1) (level1 : List S_tries_place) (x19 : Int) (sg4 : σ) (next2 : List S_tries_place) : List (Nat × T) := [(0, .own (.opq (YY sg4).q)), (1, .d (.sptr (eSl 2 false F13_ x0))), (3, .own (eOs 2 false F16_ level1)), (4, .own (eOs 2 false F16_ next2)), (17, .als 3 [] 0 0), (18, .d (I ((level1.length : Nat) : Int))), (19, .d (I x19))]
abbrev ST_tries_walk_1_J7 {σ : Type} (x0 : List S_tries_Node) (YY : σ → Opq1) (level1 : List S_tries_place) (x19 : Int) (level_e : S_tries_place) (yr : σ × Bool) (x_e : S_tries_Node) (x34 : Int) (next4 : List S_tries_place) : List (Nat × T) := [(0, .own (.opq (YY yr.1).q)), (1, .d (.sptr (eSl 2 false F13_ x0))), (3, .own (eOs 2 false F16_ level1)), (4, .own (eOs 2 false F16_ next4)), (6, .own (.box (F16_ level_e))), (17, .als 3 [] 0 0), (18, .d (I ((level1.length : Nat) : Int))), (19, .d (I x19)), (32, .d (eSl 1 false (eI .i64) x_e.Next)), (33, .d (I ((x_e.Next.length : Nat) : Int))), (34, .d (I x34))]
abbrev ST_tries_walk_1_L6 {σ : Type} (x0 : List S_tries_Node) (YY : σ → Opq1) (level1 : List S_tries_place) (x19 : Int) (level_e : S_tries_place) (yr : σ × Bool) (x_e : S_tries_Node) (next3 : List S_tries_place) (x34 : Int) : List (Nat × T) := [(0, .own (.opq (YY yr.1).q)), (1, .d (.sptr (eSl 2 false F13_ x0))), (3, .own (eOs 2 false F16_ level1)), (4, .own (eOs 2 false F16_ next3)), (6, .own (.box (F16_ level_e))), (17, .als 3 [] 0 0), (18, .d (I ((level1.length : Nat) : Int))), (19, .d (I x19)), (32, .d (eSl 1 false (eI .i64) x_e.Next)), (33, .d (I ((x_e.Next.length : Nat) : Int))), (34, .d (I x34))]
abbrev ST_tries_walk_1_L4 {σ : Type} (x0 : List S_tries_Node) (YY : σ → Opq1) (level1 : List S_tries_place) (sg3 : σ) (next1 : List S_tries_place) (x19 : Int) : List (Nat × T) := [(0, .own (.opq (YY sg3).q)), (1, .d (.sptr (eSl 2 false F13_ x0))), (3, .own (eOs 2 false F16_ level1)), (4, .own (eOs 2 false F16_ next1)), (17, .als 3 [] 0 0), (18, .d (I ((level1.length : Nat) : Int))), (19, .d (I x19))]
abbrev ST_tries_walk_1_L2 {σ : Type} (x0 : List S_tries_Node) (YY : σ → Opq1) (sg1 : σ) (level1 : List S_tries_place) : List (Nat × T) := [(0, .own (.opq (YY sg1).q)), (1, .d (.sptr (eSl 2 false F13_ x0))), (3, .own (eOs 2 false F16_ level1))]
abbrev ST_tries_walk_1_J1 {σ : Type} (x0 : List S_tries_Node) (YY : σ → Opq1) (sg : σ) (level : List S_tries_place) : List (Nat × T) := [(0, .own (.opq (YY sg).q)), (1, .d (.sptr (eSl 2 false F13_ x0))), (3, .own (eOs 2 true F15_ level))]
theorem w_tries_walk_1 {ctr : Ctr} (hC : CtrOk Try.prog ctr) (hm : Try.prog.follows .mixedOrders = true) (h_slices_Clip_int_int : ctr.Has sp_slices_Clip_int_int) (x0 : List S_tries_Node) : IterF Try.prog (.fn 85 [.sptr (eSl 2 false F13_ x0)]) (fun (x : S_tries_place) (_ : Bool) (_ : Value) => [F16_ x]) (@tries_walk_1 x0) := by
 refine iterF_h (tt := TTab) (nt := 55) (body := bd_tries_walk_1) TTab_ok Try.func85 rfl (by kernel_rfl) rfl rfl (by show (2 : Nat) ≤ 55; decide) ?_
 intro σ yv YY yy hy sg r0 hf0 E hE
 unfold tries_walk_1 at hf0
 refine awpAt ((xSeal TTab_ok (.inl 49) [48]).or ((xSeal TTab_ok (.inl 13) [12]).or X0)) TTab_ok hC hm [0,1,3] 4000 [.cut 1] (sub [1] bd_tries_walk_1) (frs [1] [] bd_tries_walk_1 []) [(0, .own (.opq (YY sg).q)), (1, .d (.sptr (eSl 2 false F13_ x0))), (3, .own (eOs 2 true F16_ []))] [] (by kernel_rfl) fun st0 h0 => ?_
 refine awpJoin' (X := List S_tries_place) (x := (sub [1,2] bd_tries_walk_1)) (y := (sub [1,1] bd_tries_walk_1)) (by kernel_rfl) [0,1,3] [0,1,3] _ h0 (fun z => tries_walk_1_J1 x0 yy sg z = some r0) (fun z => ST_tries_walk_1_J1 x0 YY sg z) ?_ fun J1 hJ1 => ?_
 ·rintro level hf0
  unfold tries_walk_1_J1 at hf0
  obtain ⟨t2, ht2, hf0⟩ := bindE hf0
  refine awpAt ((xSeal TTab_ok (.inl 49) [48]).or ((xSeal TTab_ok (.inl 13) [12]).or X0)) TTab_ok hC hm [0,1,3] 4000 [] (sub [1,1,0] bd_tries_walk_1) (frs [1,1,0] [] bd_tries_walk_1 []) [(0, .own (.opq (YY sg).q)), (1, .d (.sptr (eSl 2 false F13_ x0))), (3, .own (eOs 2 true F15_ level))] [] (by kernel_rfl) fun st0 h0 => ?_
  refine awpLoop' (X := (σ × List S_tries_place) × Nat) (c' := (sub [1,1,0,0] bd_tries_walk_1)) (by kernel_rfl) [0,1,3] (fun x => loopN (fun s => tries_walk_1_L2 x0 yy s.1 s.2) x.2 x.1 = some t2) (fun x => x.2) (fun x => ST_tries_walk_1_L2 x0 YY x.1.1 x.1.2) ((sg, level), fuel) _ h0 inferInstance ht2 ?_
  rintro ⟨⟨sg1, level1⟩, n2⟩ hn2 J2 hJ2
  obtain ⟨m2, lr1, rfl, hf1, hl1⟩ := loopE hn2
  try unfold tries_walk_1_L2 at hf1
  have o0 := lnM F16_ level1
  rcases bifE hf1 with ⟨c0, hf1⟩ | ⟨c0, hf1⟩
  ·refine awpAt ((xSeal TTab_ok (.inl 49) [48]).or ((xSeal TTab_ok (.inl 13) [12]).or X0)) TTab_ok hC hm [0,1,3,4] 4000 [aLn level1.length, bT, .cut 1] (sub [1,1,0,0,1,0,1] bd_tries_walk_1) (frs [1,1,0,0,1,0,1] [J2] bd_tries_walk_1 []) [(0, .own (.opq (YY sg1).q)), (1, .d (.sptr (eSl 2 false F13_ x0))), (3, .own (eOs 2 false F16_ level1)), (4, .own (eOs 2 true F16_ []))] [ob o0, ob c0] (by kernel_rfl) fun st0 h0 => ?_
   refine awpJoin' (X := σ × List S_tries_place) (x := (sub [1,1,0,0,1,0,1,2] bd_tries_walk_1)) (y := (sub [1,1,0,0,1,0,1,1] bd_tries_walk_1)) (by kernel_rfl) [0,1,4] [0,1,3,4] _ h0 (fun z => tries_walk_1_J3 z.1 z.2 = some lr1) (fun z => ST_tries_walk_1_J3 x0 YY z.1 z.2) ?_ fun J3 hJ3 => ?_
   ·rintro ⟨sg2, next⟩ hf1
    unfold tries_walk_1_J3 at hf1
    obtain rfl := someE hf1
    exact awpBack ((xSeal TTab_ok (.inl 49) [48]).or ((xSeal TTab_ok (.inl 13) [12]).or X0)) TTab_ok hC hm [0,1,3] 4000 [] J2 [(0, .own (.opq (YY sg2).q)), (1, .d (.sptr (eSl 2 false F13_ x0))), (3, .own (eOs 2 false F16_ next))] [] (by kernel_rfl) fun st0 h0 => hJ2 st0 _ ((sg2, next), m2) hl1 (Nat.lt_succ_self m2) h0 inferInstance
   ·have o1 := lnM F16_ level1
    obtain ⟨t4, ht4, hf1⟩ := bindE hf1
    refine awpAt ((xSeal TTab_ok (.inl 49) [48]).or ((xSeal TTab_ok (.inl 13) [12]).or X0)) TTab_ok hC hm [0,1,3,4,17,18,19] 4000 [aLn level1.length] (sub [1,1,0,0,1,0,1,2,1,0] bd_tries_walk_1) (frs [1,1,0,0,1,0,1,2,1,0] [J2, J3] bd_tries_walk_1 []) [(0, .own (.opq (YY sg1).q)), (1, .d (.sptr (eSl 2 false F13_ x0))), (3, .own (eOs 2 false F16_ level1)), (4, .own (eOs 2 true F16_ [])), (17, .als 3 [] 0 0), (18, .d (I ((level1.length : Nat) : Int))), (19, .d (I 0))] [ob o1] (by kernel_rfl) fun st0 h0 => ?_
    refine awpLoop' (X := (σ × List S_tries_place × Int) × Nat) (c' := (sub [1,1,0,0,1,0,1,2,1,0,0] bd_tries_walk_1)) (by kernel_rfl) [0,1,3,4,17,18,19] (fun x => loopN (fun s => tries_walk_1_L4 x0 yy level1 s.1 s.2.1 s.2.2) x.2 x.1 = some t4) (fun x => x.2) (fun x => ST_tries_walk_1_L4 x0 YY level1 x.1.1 x.1.2.1 x.1.2.2) ((sg1, ([] : List S_tries_place), 0), fuel) _ h0 inferInstance ht4 ?_
    rintro ⟨⟨sg3, next1, x19⟩, n4⟩ hn4 J4 hJ4
    obtain ⟨m4, lr2, rfl, hf2, hl2⟩ := loopE hn4
    try unfold tries_walk_1_L4 at hf2
    rcases bifE hf2 with ⟨c1, hf2⟩ | ⟨c1, hf2⟩
    ·refine awpAt ((xSeal TTab_ok (.inl 49) [48]).or ((xSeal TTab_ok (.inl 13) [12]).or X0)) TTab_ok hC hm [0,1,3,4,17,18,19] 4000 [bT, .cut 0] (sub [1,1,0,0,1,0,1,2,1,0,0,1,1] bd_tries_walk_1) (frs [1,1,0,0,1,0,1,2,1,0,0,1,1] [J2, J3, J4] bd_tries_walk_1 []) [(0, .own (.opq (YY sg3).q)), (1, .d (.sptr (eSl 2 false F13_ x0))), (3, .own (eOs 2 false F16_ level1)), (4, .own (eOs 2 false F16_ next1)), (17, .als 3 [] 0 0), (18, .d (I ((level1.length : Nat) : Int))), (19, .d (I x19))] [ob c1] (by kernel_rfl) fun st0 h0 => ?_
     refine awpJoin' (X := σ × List S_tries_place) (x := (sub [1,1,0,0,1,0,1,2,1,0,0,1,1,2] bd_tries_walk_1)) (y := (sub [1,1,0,0,1,0,1,2,1,0,0,1,1,1] bd_tries_walk_1)) (by kernel_rfl) [0,1,3,4,17,18,19] [0,1,3,4,17,18,19] _ h0 (fun z => tries_walk_1_J5 x19 z.1 z.2 = some lr2) (fun z => ST_tries_walk_1_J5 x0 YY level1 x19 z.1 z.2) ?_ fun J5 hJ5 => ?_
     ·rintro ⟨sg4, next2⟩ hf2
      unfold tries_walk_1_J5 at hf2
      obtain rfl := someE hf2
      exact awpBack ((xSeal TTab_ok (.inl 49) [48]).or ((xSeal TTab_ok (.inl 13) [12]).or X0)) TTab_ok hC hm [0,1,3,4,17,18,19] 4000 [] J4 [(0, .own (.opq (YY sg4).q)), (1, .d (.sptr (eSl 2 false F13_ x0))), (3, .own (eOs 2 false F16_ level1)), (4, .own (eOs 2 false F16_ next2)), (17, .als 3 [] 0 0), (18, .d (I ((level1.length : Nat) : Int))), (19, .d (I (w64 (x19 + 1))))] [] (by kernel_rfl) fun st0 h0 => hJ4 st0 _ ((sg4, next2, w64 (x19 + 1)), m4) hl2 (Nat.lt_succ_self m4) h0 inferInstance
     ·obtain ⟨level_e, h0, hf2⟩ := bindE hf2
      have o2 := iL F16_ h0
      have o3 := iM F16_ h0
      obtain ⟨yr, h1, hf2⟩ := bindE hf2
      have o4 := tabY_at (yv := yv) (Y := YY) (enc := (fun (x : S_tries_place) (_ : Bool) (_ : Value) => [F16_ x])) (s := sg3) (x := level_e) (s' := yr.1) (b := yr.2) (v := .nilFunc) [F16_ level_e] (show LeTs [F16_ level_e] [F16_ level_e] from inferInstance)
      rcases bifE hf2 with ⟨c2, hf2⟩ | ⟨c2, hf2⟩
      ·obtain rfl := someE hf2
       obtain rfl := hl2
       obtain rfl := someE hf1
       obtain rfl := hl1
       obtain rfl := someE hf0
       exact awpFin ((xYield (P := Try.prog) TTab hy 25 (s := sg3) (x := level_e) (s' := yr.1) (b := yr.2) .nilFunc h1).or ((xSeal TTab_ok (.inl 49) [48]).or ((xSeal TTab_ok (.inl 13) [12]).or X0))) TTab_ok hC hm [0] 4000 [.a (F16_ level_e), bT] .ret [(0, .own (.opq (YY yr.1).q))] [ob o2, ob o3, ob o4, ob c2] (by kernel_rfl) fun st0 h0 => hE _ st0 (.inr rfl) h0
      ·obtain ⟨x_e, h2, hf2⟩ := bindE hf2
       have o5 := iM F13_ h2
       obtain ⟨t6, ht6, hf2⟩ := bindE hf2
       refine awpAt ((xYield (P := Try.prog) TTab hy 25 (s := sg3) (x := level_e) (s' := yr.1) (b := yr.2) .nilFunc h1).or ((xSeal TTab_ok (.inl 49) [48]).or ((xSeal TTab_ok (.inl 13) [12]).or X0))) TTab_ok hC hm [0,1,3,4,6,17,18,19,32,33,34] 4000 [.a (F16_ level_e), bF, .a (F13_ x_e), aLn x_e.Next.length] (sub [1,1,0,0,1,0,1,2,1,0,0,1,1,2,0,1,1,1,0] bd_tries_walk_1) (frs [1,1,0,0,1,0,1,2,1,0,0,1,1,2,0,1,1,1,0] [J2, J3, J4, J5] bd_tries_walk_1 []) [(0, .own (.opq (YY yr.1).q)), (1, .d (.sptr (eSl 2 false F13_ x0))), (3, .own (eOs 2 false F16_ level1)), (4, .own (eOs 2 false F16_ next1)), (6, .own (.box (F16_ level_e))), (17, .als 3 [] 0 0), (18, .d (I ((level1.length : Nat) : Int))), (19, .d (I x19)), (32, .d (eSl 1 false (eI .i64) x_e.Next)), (33, .d (I ((x_e.Next.length : Nat) : Int))), (34, .d (I 0))] [ob o2, ob o3, ob o4, ob c2, ob (i0 h2), ob o5, ob (lnM (eI .i64) x_e.Next)] (by kernel_rfl) fun st0 h0 => ?_
       refine awpLoop' (X := (List S_tries_place × Int) × Nat) (c' := (sub [1,1,0,0,1,0,1,2,1,0,0,1,1,2,0,1,1,1,0,0] bd_tries_walk_1)) (by kernel_rfl) [0,1,3,4,6,17,18,19,32,33,34] (fun x => loopN (fun s => tries_walk_1_L6 level_e yr x_e s.1 s.2) x.2 x.1 = some t6) (fun x => x.2) (fun x => ST_tries_walk_1_L6 x0 YY level1 x19 level_e yr x_e x.1.1 x.1.2) ((next1,0), fuel) _ h0 inferInstance ht6 ?_
       rintro ⟨⟨next3, x34⟩, n6⟩ hn6 J6 hJ6
       obtain ⟨m6, lr3, rfl, hf3, hl3⟩ := loopE hn6
       try unfold tries_walk_1_L6 at hf3
       rcases bifE hf3 with ⟨c3, hf3⟩ | ⟨c3, hf3⟩
       ·refine awpAt ((xSeal TTab_ok (.inl 49) [48]).or ((xSeal TTab_ok (.inl 13) [12]).or X0)) TTab_ok hC hm [0,1,3,4,6,17,18,19,32,33,34] 4000 [bT, .cut 0] (sub [1,1,0,0,1,0,1,2,1,0,0,1,1,2,0,1,1,1,0,0,1,1] bd_tries_walk_1) (frs [1,1,0,0,1,0,1,2,1,0,0,1,1,2,0,1,1,1,0,0,1,1] [J2, J3, J4, J5, J6] bd_tries_walk_1 []) [(0, .own (.opq (YY yr.1).q)), (1, .d (.sptr (eSl 2 false F13_ x0))), (3, .own (eOs 2 false F16_ level1)), (4, .own (eOs 2 false F16_ next3)), (6, .own (.box (F16_ level_e))), (17, .als 3 [] 0 0), (18, .d (I ((level1.length : Nat) : Int))), (19, .d (I x19)), (32, .d (eSl 1 false (eI .i64) x_e.Next)), (33, .d (I ((x_e.Next.length : Nat) : Int))), (34, .d (I x34))] [ob c3] (by kernel_rfl) fun st0 h0 => ?_
        refine awpJoin' (X := List S_tries_place) (x := (sub [1,1,0,0,1,0,1,2,1,0,0,1,1,2,0,1,1,1,0,0,1,1,2] bd_tries_walk_1)) (y := (sub [1,1,0,0,1,0,1,2,1,0,0,1,1,2,0,1,1,1,0,0,1,1,1] bd_tries_walk_1)) (by kernel_rfl) [0,1,3,4,6,17,18,19,32,33,34] [0,1,3,4,6,17,18,19,32,33,34] _ h0 (fun z => tries_walk_1_J7 x34 z = some lr3) (fun z => ST_tries_walk_1_J7 x0 YY level1 x19 level_e yr x_e x34 z) ?_ fun J7 hJ7 => ?_
        ·rintro next4 hf3
         unfold tries_walk_1_J7 at hf3
         obtain rfl := someE hf3
         exact awpBack ((xSeal TTab_ok (.inl 49) [48]).or ((xSeal TTab_ok (.inl 13) [12]).or X0)) TTab_ok hC hm [0,1,3,4,6,17,18,19,32,33,34] 4000 [] J6 [(0, .own (.opq (YY yr.1).q)), (1, .d (.sptr (eSl 2 false F13_ x0))), (3, .own (eOs 2 false F16_ level1)), (4, .own (eOs 2 false F16_ next4)), (6, .own (.box (F16_ level_e))), (17, .als 3 [] 0 0), (18, .d (I ((level1.length : Nat) : Int))), (19, .d (I x19)), (32, .d (eSl 1 false (eI .i64) x_e.Next)), (33, .d (I ((x_e.Next.length : Nat) : Int))), (34, .d (I (w64 (x34 + 1))))] [] (by kernel_rfl) fun st0 h0 => hJ6 st0 _ ((next4, w64 (x34 + 1)), m6) hl3 (Nat.lt_succ_self m6) h0 inferInstance
        ·obtain ⟨Next_e, h3, hf3⟩ := bindE hf3
         rcases bifE hf3 with ⟨c4, hf3⟩ | ⟨c4, hf3⟩
         ·obtain ⟨r_, h4, hf3⟩ := bindE hf3
          have o6 := hasF h_slices_Clip_int_int (x := level_e.w_) h4 (loC F4_ level_e.w_ <| loN)
          obtain ⟨g0, hf3⟩ := gdE hf3
          have o7 := aN (eI .i64) (eI .i64) g0 (by simp)
          have o8 := shM (eI .i64) (eI .i64) (r_ ++ ([x34] : List Int))
          have o9 := dM F16_ ([(S_tries_place.mk Next_e (r_ ++ ([x34] : List Int)))] : List S_tries_place)
          have o10 := dM F16_ ([(S_tries_place.mk Next_e (r_ ++ ([x34] : List Int)))] : List S_tries_place)
          obtain ⟨g1, hf3⟩ := gdE hf3
          have o11 := aL F16_ F16_ g1
          have o12 := aM F16_ next3 ([(S_tries_place.mk Next_e (r_ ++ ([x34] : List Int)))] : List S_tries_place)
          exact awpBack ((xSeal TTab_ok (.inl 49) [48]).or ((xSeal TTab_ok (.inl 13) [12]).or X0)) TTab_ok hC hm [0,1,3,4,6,17,18,19,32,33,34] 4000 [.a ((eI .i64) Next_e), bT, .g [], .a (F1_ r_), bT, .l ((r_ ++ ([x34] : List Int)).map (eI .i64)), .l ((r_ ++ ([x34] : List Int)).map (eI .i64)), bT, .l ((next3 ++ ([(S_tries_place.mk Next_e (r_ ++ ([x34] : List Int)))] : List S_tries_place)).map F16_)] J7 [(0, .own (.opq (YY yr.1).q)), (1, .d (.sptr (eSl 2 false F13_ x0))), (3, .own (eOs 2 false F16_ level1)), (4, .own (eOs 2 false F16_ (next3 ++ ([(S_tries_place.mk Next_e (r_ ++ ([x34] : List Int)))] : List S_tries_place)))), (6, .own (.box (F16_ level_e))), (17, .als 3 [] 0 0), (18, .d (I ((level1.length : Nat) : Int))), (19, .d (I x19)), (32, .d (eSl 1 false (eI .i64) x_e.Next)), (33, .d (I ((x_e.Next.length : Nat) : Int))), (34, .d (I x34))] [ob (i0 h3), ob (iM (eI .i64) h3), ob c4, ob (hasG h_slices_Clip_int_int), ob o6, ob (dM (eI .i64) ([x34] : List Int)), ob (dM (eI .i64) ([x34] : List Int)), ob o7, ob (aM (eI .i64) r_ ([x34] : List Int)), ob o8, ob o9, ob o10, ob o11, ob o12] (by kernel_rfl) fun st0 h0 => hJ7 st0 _ (next3 ++ ([(S_tries_place.mk Next_e (r_ ++ ([x34] : List Int)))] : List S_tries_place)) hf3 h0 inferInstance
         ·exact awpBack ((xSeal TTab_ok (.inl 49) [48]).or ((xSeal TTab_ok (.inl 13) [12]).or X0)) TTab_ok hC hm [0,1,3,4,6,17,18,19,32,33,34] 4000 [.a ((eI .i64) Next_e), bF] J7 [(0, .own (.opq (YY yr.1).q)), (1, .d (.sptr (eSl 2 false F13_ x0))), (3, .own (eOs 2 false F16_ level1)), (4, .own (eOs 2 false F16_ next3)), (6, .own (.box (F16_ level_e))), (17, .als 3 [] 0 0), (18, .d (I ((level1.length : Nat) : Int))), (19, .d (I x19)), (32, .d (eSl 1 false (eI .i64) x_e.Next)), (33, .d (I ((x_e.Next.length : Nat) : Int))), (34, .d (I x34))] [ob (i0 h3), ob (iM (eI .i64) h3), ob c4] (by kernel_rfl) fun st0 h0 => hJ7 st0 _ next3 hf3 h0 inferInstance
       ·obtain rfl := someE hf3
        obtain rfl := hl3
        exact awpBack ((xSeal TTab_ok (.inl 49) [48]).or ((xSeal TTab_ok (.inl 13) [12]).or X0)) TTab_ok hC hm [0,1,3,4,17,18,19] 4000 [bF] J5 [(0, .own (.opq (YY yr.1).q)), (1, .d (.sptr (eSl 2 false F13_ x0))), (3, .own (eOs 2 false F16_ level1)), (4, .own (eOs 2 false F16_ next3)), (17, .als 3 [] 0 0), (18, .d (I ((level1.length : Nat) : Int))), (19, .d (I x19))] [ob c3] (by kernel_rfl) fun st0 h0 => hJ5 st0 _ (yr.1, next3) hf2 h0 inferInstance
    ·obtain rfl := someE hf2
     obtain rfl := hl2
     exact awpBack ((xSeal TTab_ok (.inl 49) [48]).or ((xSeal TTab_ok (.inl 13) [12]).or X0)) TTab_ok hC hm [0,1,4] 4000 [bF] J3 [(0, .own (.opq (YY sg3).q)), (1, .d (.sptr (eSl 2 false F13_ x0))), (4, .own (eOs 2 false F16_ next1))] [ob c1] (by kernel_rfl) fun st0 h0 => hJ3 st0 _ (sg3, next1) hf1 h0 inferInstance
  ·obtain rfl := someE hf1
   obtain rfl := hl1
   obtain rfl := someE hf0
   exact awpFin ((xSeal TTab_ok (.inl 49) [48]).or ((xSeal TTab_ok (.inl 13) [12]).or X0)) TTab_ok hC hm [0] 4000 [aLn level1.length, bF] .normal [(0, .own (.opq (YY sg1).q))] [ob o0, ob c0] (by kernel_rfl) fun st0 h0 => hE _ st0 (.inl rfl) h0
 ·have o13 := lnM F13_ x0
  rcases bifE hf0 with ⟨c5, hf0⟩ | ⟨c5, hf0⟩
  ·exact awpBack ((xSeal TTab_ok (.inl 49) [48]).or ((xSeal TTab_ok (.inl 13) [12]).or X0)) TTab_ok hC hm [0,1,3] 4000 [aLn x0.length, bT, .l ([].map (eI .i64))] J1 [(0, .own (.opq (YY sg).q)), (1, .d (.sptr (eSl 2 false F13_ x0))), (3, .own (eOs 2 true F15_ ([(S_tries_place.mk 0 [])])))] [ob o13, ob c5, ob (shM (eI .i64) (eI .i64) [])] (by kernel_rfl) fun st0 h0 => hJ1 st0 _ ([(S_tries_place.mk 0 [])] : List S_tries_place) hf0 h0 inferInstance
  ·exact awpBack ((xSeal TTab_ok (.inl 49) [48]).or ((xSeal TTab_ok (.inl 13) [12]).or X0)) TTab_ok hC hm [0,1,3] 4000 [aLn x0.length, bF] J1 [(0, .own (.opq (YY sg).q)), (1, .d (.sptr (eSl 2 false F13_ x0))), (3, .own (eOs 2 true F15_ []))] [ob o13, ob c5] (by kernel_rfl) fun st0 h0 => hJ1 st0 _ ([] : List S_tries_place) hf0 h0 inferInstance
noncomputable def bd_tries_leaf_1 : Code := (Try.f83.body).getD .skip
noncomputable def sp_tries_leaf_1 : Spec := spF (α := Int) (ρ := Bool) 83 (fun x => [(eI .i64) x]) (fun r => eB r) (fun x => tries_leaf_1 x) [] (by
 rintro a0 b0 h
 have e0 := EncI.inj (f := (eI .i64)) _ _ (List.cons.inj h).1
 subst e0
 rfl)
theorem w_tries_leaf_1 {ctr : Ctr} (hC : CtrOk Try.prog ctr) (hm : Try.prog.follows .mixedOrders = true) : sp_tries_leaf_1.Ok Try.prog := by
 refine spF_ok ?_
 rintro k_ r0 hf0
 try unfold tries_leaf_1 at hf0
 refine callOk_h (tt := TTab) (keep := true) (rs := [(2, none)]) (n := ⟨5, []⟩) (body := bd_tries_leaf_1) TTab_ok Try.func83 rfl (by kernel_rfl) rfl rfl (by show (1 : Nat) ≤ 5; decide) fun E hE => ?_
 obtain rfl := someE hf0
 exact awpEnd X0 TTab_ok hC hm hE 4000 (hs := []) (x := (B (k_ != (-1)))) [] (by kernel_rfl) (LeV.refl _)
noncomputable def bd_slices_IndexFunc_int_int_v3 : Code := (Try.f95.body).getD .skip
noncomputable def sp_slices_IndexFunc_int_int_v3 : Spec := spF (α := List Int × Unit) (ρ := Int) 95 (fun x => [F4_ x.1, (eFn0 83) x.2]) (fun r => (eI .i64) r) (fun x => slices_IndexFunc_int_int_v3 x.1 x.2) [] (by
 rintro ⟨a0, a1⟩ ⟨b0, b1⟩ h
 have e0 := EncI.inj (f := F4_) _ _ (List.cons.inj h).1
 replace h := (List.cons.inj h).2
 have e1 := EncI.inj (f := (eFn0 83)) _ _ (List.cons.inj h).1
 subst e0 e1
 rfl)
abbrev ST_slices_IndexFunc_int_int_v3_J1 : List (Nat × T) := []
abbrev ST_slices_IndexFunc_int_int_v3_L2 (s_ : List Int) (x8 : Int) : List (Nat × T) := [(0, .d (eSl 1 false (eI .i64) s_)), (1, .d (.fn 83 [])), (7, .d (I ((s_.length : Nat) : Int))), (8, .d (I x8))]
theorem w_slices_IndexFunc_int_int_v3 {ctr : Ctr} (hC : CtrOk Try.prog ctr) (hm : Try.prog.follows .mixedOrders = true) (h_tries_leaf_1 : ctr.Has sp_tries_leaf_1) : sp_slices_IndexFunc_int_int_v3.Ok Try.prog := by
 refine spF_ok ?_
 rintro ⟨s_, f_⟩ r0 hf0
 try unfold slices_IndexFunc_int_int_v3 at hf0
 refine callOk_h (tt := TTab) (keep := true) (rs := [(4, none)]) (n := ⟨19, []⟩) (body := bd_slices_IndexFunc_int_int_v3) TTab_ok Try.func95 rfl (by kernel_rfl) rfl rfl (by show (2 : Nat) ≤ 19; decide) fun E hE => ?_
 refine awpAt X0 TTab_ok hC hm [0,1] 4000 [.cut 1] (sub [1] bd_slices_IndexFunc_int_int_v3) (frs [1] [] bd_slices_IndexFunc_int_int_v3 []) [(0, .d (eSl 1 false (eI .i64) s_)), (1, .d (.fn 83 []))] [] (by kernel_rfl) fun st0 h0 => ?_
 refine awpJoin' (X := Unit) (x := (sub [1,2] bd_slices_IndexFunc_int_int_v3)) (y := (sub [1,1] bd_slices_IndexFunc_int_int_v3)) (by kernel_rfl) [] [0,1] _ h0 (fun z => slices_IndexFunc_int_int_v3_J1 = some r0) (fun z => ST_slices_IndexFunc_int_int_v3_J1) ?_ fun J1 hJ1 => ?_
 ·rintro ⟨⟩ hf0
  unfold slices_IndexFunc_int_int_v3_J1 at hf0
  obtain rfl := someE hf0
  exact awpEnd X0 TTab_ok hC hm hE 4000 (hs := []) (x := (I (-1))) [] (by kernel_rfl) (LeV.refl _)
 ·obtain ⟨t2, ht2, hf0⟩ := bindE hf0
  refine awpAt X0 TTab_ok hC hm [0,1,7,8] 4000 [aLn s_.length] (sub [1,2,1,0] bd_slices_IndexFunc_int_int_v3) (frs [1,2,1,0] [J1] bd_slices_IndexFunc_int_int_v3 []) [(0, .d (eSl 1 false (eI .i64) s_)), (1, .d (.fn 83 [])), (7, .d (I ((s_.length : Nat) : Int))), (8, .d (I 0))] [ob (lnM (eI .i64) s_)] (by kernel_rfl) fun st0 h0 => ?_
  refine awpLoop' (X := Int × Nat) (c' := (sub [1,2,1,0,0] bd_slices_IndexFunc_int_int_v3)) (by kernel_rfl) [0,1,7,8] (fun x => loopN (fun s => slices_IndexFunc_int_int_v3_L2 s_ s) x.2 x.1 = some t2) (fun x => x.2) (fun x => ST_slices_IndexFunc_int_int_v3_L2 s_ x.1) (0, fuel) _ h0 inferInstance ht2 ?_
  rintro ⟨x8, n2⟩ hn2 J2 hJ2
  obtain ⟨m2, lr1, rfl, hf1, hl1⟩ := loopE hn2
  try unfold slices_IndexFunc_int_int_v3_L2 at hf1
  rcases bifE hf1 with ⟨c0, hf1⟩ | ⟨c0, hf1⟩
  ·obtain ⟨s__e, h0, hf1⟩ := bindE hf1
   obtain ⟨r_, h1, hf1⟩ := bindE hf1
   have o0 := hasF h_tries_leaf_1 (x := s__e) h1 (loC (eI .i64) s__e <| loN)
   rcases bifE hf1 with ⟨c1, hf1⟩ | ⟨c1, hf1⟩
   ·obtain rfl := someE hf1
    obtain rfl := hl1
    obtain rfl := someE hf0
    exact awpEnd X0 TTab_ok hC hm hE 4000 (hs := [bT, .a ((eI .i64) s__e), .g [], .a (eB r_), bT]) (x := (I x8)) [ob c0, ob (i0 h0), ob (iM (eI .i64) h0), ob (hasG h_tries_leaf_1), ob o0, ob c1] (by kernel_rfl) (LeV.refl _)
   ·obtain rfl := someE hf1
    exact awpBack X0 TTab_ok hC hm [0,1,7,8] 4000 [bT, .a ((eI .i64) s__e), .g [], .a (eB r_), bF] J2 [(0, .d (eSl 1 false (eI .i64) s_)), (1, .d (.fn 83 [])), (7, .d (I ((s_.length : Nat) : Int))), (8, .d (I (w64 (x8 + 1))))] [ob c0, ob (i0 h0), ob (iM (eI .i64) h0), ob (hasG h_tries_leaf_1), ob o0, ob c1] (by kernel_rfl) fun st0 h0 => hJ2 st0 _ (w64 (x8 + 1), m2) hl1 (Nat.lt_succ_self m2) h0 inferInstance
  ·obtain rfl := someE hf1
   obtain rfl := hl1
   exact awpBack X0 TTab_ok hC hm [] 4000 [bF] J1 [] [ob c0] (by kernel_rfl) fun st0 h0 => hJ1 st0 _ () hf0 h0 inferInstance
noncomputable def bd_slices_ContainsFunc_int_int_v2 : Code := (Try.f82.body).getD .skip
noncomputable def sp_slices_ContainsFunc_int_int_v2 : Spec := spF (α := List Int × Unit) (ρ := Bool) 82 (fun x => [F4_ x.1, (eFn0 83) x.2]) (fun r => eB r) (fun x => slices_ContainsFunc_int_int_v2 x.1 x.2) [] (by
 rintro ⟨a0, a1⟩ ⟨b0, b1⟩ h
 have e0 := EncI.inj (f := F4_) _ _ (List.cons.inj h).1
 replace h := (List.cons.inj h).2
 have e1 := EncI.inj (f := (eFn0 83)) _ _ (List.cons.inj h).1
 subst e0 e1
 rfl)
theorem w_slices_ContainsFunc_int_int_v2 {ctr : Ctr} (hC : CtrOk Try.prog ctr) (hm : Try.prog.follows .mixedOrders = true) (h_tries_leaf_1 : ctr.Has sp_tries_leaf_1) : sp_slices_ContainsFunc_int_int_v2.Ok Try.prog := by
 refine spF_ok ?_
 rintro ⟨s_, f_⟩ r0 hf0
 try unfold slices_ContainsFunc_int_int_v2 at hf0
 refine callOk_h (tt := TTab) (keep := true) (rs := [(4, none)]) (n := ⟨9, []⟩) (body := bd_slices_ContainsFunc_int_int_v2) TTab_ok Try.func82 rfl (by kernel_rfl) rfl rfl (by show (2 : Nat) ≤ 9; decide) fun E hE => ?_
 have o0 := hasG (Ctr.add_has ctr0 sp_slices_IndexFunc_int_int_v3)
 obtain ⟨r_, h0, hf0⟩ := bindE hf0
 have o1 := hasF (Ctr.add_has ctr0 sp_slices_IndexFunc_int_int_v3) (x := (s_, ())) h0 (loC F4_ s_ <| loC (eFn0 83) () <| loN)
 obtain rfl := someE hf0
 exact awpEnd ((xSpec TTab_ok (w_slices_IndexFunc_int_int_v3 hC hm h_tries_leaf_1) 7).or X0) TTab_ok hC hm hE 4000 (hs := [.g [], .a ((eI .i64) r_)]) (x := (B (decide (r_ ≥ 0)))) [ob o0, ob o1] (by kernel_rfl) (LeV.refl _)
noncomputable def bd_tries_leaf : Code := (Try.f58.body).getD .skip
noncomputable def sp_tries_leaf : Spec := spF (α := S_tries_Node) (ρ := Bool) 58 (fun x => [F13_ x]) (fun r => eB r) (fun x => tries_leaf x) [] (by
 rintro a0 b0 h
 have e0 := EncI.inj (f := F13_) _ _ (List.cons.inj h).1
 subst e0
 rfl)
theorem w_tries_leaf {ctr : Ctr} (hC : CtrOk Try.prog ctr) (hm : Try.prog.follows .mixedOrders = true) (h_tries_leaf_1 : ctr.Has sp_tries_leaf_1) : sp_tries_leaf.Ok Try.prog := by
 refine spF_ok ?_
 rintro n_ r0 hf0
 try unfold tries_leaf at hf0
 refine callOk_h (tt := TTab) (keep := true) (rs := [(2, none)]) (n := ⟨7, []⟩) (body := bd_tries_leaf) TTab_ok Try.func58 rfl (by kernel_rfl) rfl rfl (by show (1 : Nat) ≤ 7; decide) fun E hE => ?_
 have o0 := hasG (Ctr.add_has ctr0 sp_slices_ContainsFunc_int_int_v2)
 obtain ⟨r_, h0, hf0⟩ := bindE hf0
 have o1 := hasF (Ctr.add_has ctr0 sp_slices_ContainsFunc_int_int_v2) (x := (n_.Next, ())) h0 (loC F4_ n_.Next <| loC (eFn0 83) () <| loN)
 obtain rfl := someE hf0
 exact awpEnd ((xSpec TTab_ok (w_slices_ContainsFunc_int_int_v2 hC hm h_tries_leaf_1) 5).or X0) TTab_ok hC hm hE 4000 (hs := [.g [], .a (eB r_)]) (x := (B (!r_))) [ob o0, ob o1] (by kernel_rfl) (LeV.refl _)
noncomputable def bd_slices_Clone_int_int : Code := (Try.f68.body).getD .skip
noncomputable def sp_slices_Clone_int_int : Spec := spF (α := List Int) (ρ := List Int) 68 (fun x => [F4_ x]) (fun r => F3_ r) (fun x => slices_Clone_int_int x) [] (by
 rintro a0 b0 h
 have e0 := EncI.inj (f := F4_) _ _ (List.cons.inj h).1
 subst e0
 rfl)
theorem w_slices_Clone_int_int {ctr : Ctr} (hC : CtrOk Try.prog ctr) (hm : Try.prog.follows .mixedOrders = true) : sp_slices_Clone_int_int.Ok Try.prog := by
 refine spF_ok ?_
 rintro s_ r0 hf0
 try unfold slices_Clone_int_int at hf0
 refine callOk_h (tt := TTab) (keep := true) (rs := [(2, none)]) (n := ⟨8, []⟩) (body := bd_slices_Clone_int_int) TTab_ok Try.func68 rfl (by kernel_rfl) rfl rfl (by show (1 : Nat) ≤ 8; decide) fun E hE => ?_
 refine awpPinD rfl 0 (sz := 1) (t := false) (es := s_.map (eI .i64)) (by kernel_rfl) fun pv0 hv0 hn => ?_
 rcases hn with ⟨hn0, he0⟩ | hn0
 ·obtain ⟨_, hf0⟩ := gdE hf0
  rw [show s_ = [] from List.map_eq_nil_iff.1 he0] at hf0
  obtain rfl := someE hf0
  exact awpEnd ((xNil TTab_ok 4 52 (by kernel_rfl) hn0).or ((xMv Try.prog 3 0 pv0 hv0).or X0)) TTab_ok hC hm hE 4000 (hs := [bT]) (x := (eOs 1 true (eI .i64) [])) [ob ((rfl : some pv0 = some pv0)), ob ((⟨rfl, rfl⟩ : T.d (.atom pv0) = T.d (.atom pv0) ∧ T.d (.atom (.slice none 0 0)) = T.d (.atom (.slice none 0 0)))), oT] (by kernel_rfl) (show LeV (eOs 1 true (eI .i64) []) (eOs 1 false (eI .i64) ([] : List Int)) from inferInstance)
 ·obtain ⟨g0, hf0⟩ := gdE hf0
  obtain rfl := someE hf0
  exact awpEnd ((xNil TTab_ok 4 52 (by kernel_rfl) hn0).or ((xMv Try.prog 3 0 pv0 hv0).or X0)) TTab_ok hC hm hE 4000 (hs := [bF, .l (s_.map (eI .i64))]) (x := (eOs 1 false (eI .i64) s_)) [ob ((rfl : some pv0 = some pv0)), ob ((⟨rfl, rfl⟩ : T.d (.atom pv0) = T.d (.atom pv0) ∧ T.d (.atom (.slice none 0 0)) = T.d (.atom (.slice none 0 0)))), oF, ob (dM (eI .i64) s_), ob (aL (eI .i64) (eI .i64) g0), ob (aM0 (eI .i64) s_)] (by kernel_rfl) (LeV.refl _)
noncomputable def bd_slices_ClipW_int_int_v4 : Code := (Try.f69.body).getD .skip
noncomputable def sp_slices_ClipW_int_int_v4 : Spec := spR (α := List (List Int)) (ρ := List (List Int)) 69 (fun x => [F7_ x]) (fun r => F5_ r) (fun x => slices_ClipW_int_int_v4 x) [] (by
 rintro a0 b0 h
 have e0 := EncI.inj (f := F7_) _ _ (List.cons.inj h).1
 subst e0
 rfl)
theorem hs_slices_ClipW_int_int_v4 : ∀ x r, (fun x => slices_ClipW_int_int_v4 x) x = some r → (ctr0.add sp_slices_ClipW_int_int_v4).run 69 ((ctr0.add sp_slices_ClipW_int_int_v4).norm 69 ((fun x => [F7_ x]) x)) = some ((fun r => F5_ r) r) := fun x r h => hasR h rfl
theorem hg_slices_ClipW_int_int_v4 : (ctr0.add sp_slices_ClipW_int_int_v4).lend 69 = none ∧ (ctr0.add sp_slices_ClipW_int_int_v4).gives 69 = [] := hasRG
theorem w_slices_ClipW_int_int_v4 {ctr : Ctr} (hC : CtrOk Try.prog ctr) (hm : Try.prog.follows .mixedOrders = true) : sp_slices_ClipW_int_int_v4.Ok Try.prog := by
 refine spR_ok ?_
 rintro s_ r0 hf0
 try unfold slices_ClipW_int_int_v4 at hf0
 refine callOk_h (tt := TTab) (keep := true) (rs := [(2, none)]) (n := ⟨9, []⟩) (body := bd_slices_ClipW_int_int_v4) TTab_ok Try.func69 rfl (by kernel_rfl) rfl rfl (by show (1 : Nat) ≤ 9; decide) fun E hE => ?_
 obtain ⟨g0, hf0⟩ := gdE hf0
 have o0 := slT1 1 F1_ s_ 0 ((s_.length : Nat) : Int).toNat
 obtain rfl := someE hf0
 exact awpEnd X0 TTab_ok hC hm hE 4000 (hs := [aLn s_.length, aLn s_.length, .a (eSl 1 true F1_ ((s_.drop 0).take (((s_.length : Nat) : Int).toNat - 0)))]) (x := (eSl 1 true F1_ ((s_.drop 0).take (((s_.length : Nat) : Int).toNat - 0)))) [ob (lnM F1_ s_), ob (lnM F1_ s_), ob (slB g0), ob (slC g0), ob (sl011 F1_ g0), ob o0] (by kernel_rfl) (LeV.refl _)
noncomputable def bd_tries_collect : Code := (Try.f56.body).getD .skip
noncomputable def sp_tries_collect : Spec := spF (α := List S_tries_Node × Unit) (ρ := List (List Int)) 56 (fun x => [F19_ x.1, (eFn0 58) x.2]) (fun r => F5_ r) (fun x => tries_collect x.1 x.2) [] (by
 rintro ⟨a0, a1⟩ ⟨b0, b1⟩ h
 have e0 := EncI.inj (f := F19_) _ _ (List.cons.inj h).1
 replace h := (List.cons.inj h).2
 have e1 := EncI.inj (f := (eFn0 58)) _ _ (List.cons.inj h).1
 subst e0 e1
 rfl)
abbrev ST_tries_collect_J1 (out : List (List Int)) : List (Nat × T) := [(4, .own (.box (eOs 1 false F1_ out)))]
abbrev ST_tries_collect_I2 (nodes : List S_tries_Node) (r_1 : List S_tries_Node) (out1 : List (List Int)) : List (Nat × T) := [(2, .own (.box (eSl 2 false F13_ nodes))), (3, .own (.box (.fn 58 []))), (4, .own (.box (eOs 1 false F1_ out1))), (7, .d (.fn 85 [.sptr (eSl 2 false F13_ r_1)]))]
theorem w_tries_collect {ctr : Ctr} (hC : CtrOk Try.prog ctr) (hm : Try.prog.follows .mixedOrders = true) (h_tries_walk : ctr.Has sp_tries_walk) (h_slices_Clip_int_int : ctr.Has sp_slices_Clip_int_int) (h_tries_leaf : ctr.Has sp_tries_leaf) (h_slices_Clone_int_int : ctr.Has sp_slices_Clone_int_int) : sp_tries_collect.Ok Try.prog := by
 refine spF_ok ?_
 rintro ⟨nodes, is⟩ r0 hf0
 try unfold tries_collect at hf0
 refine callOk_h (tt := TTab) (keep := false) (rs := [(4, some 22)]) (n := ⟨25, []⟩) (body := bd_tries_collect) TTab_ok Try.func56 rfl (by kernel_rfl) rfl rfl (by show (2 : Nat) ≤ 25; decide) fun E hE => ?_
 refine awpAt X0 TTab_ok hC hm [2,3,4] 4000 [.cut 1] (sub [1] bd_tries_collect) (frs [1] [] bd_tries_collect []) [(2, .own (.box (eSl 2 false F13_ nodes))), (3, .own (.box (.fn 58 []))), (4, .own (.box (eOs 1 true F4_ [])))] [] (by kernel_rfl) fun st0 h0 => ?_
 refine awpJoin' (X := List (List Int)) (x := (sub [1,2] bd_tries_collect)) (y := (sub [1,1] bd_tries_collect)) (by kernel_rfl) [4] [2,3,4] _ h0 (fun z => tries_collect_J1 z = some r0) (fun z => ST_tries_collect_J1 z) ?_ fun J1 hJ1 => ?_
 ·rintro out hf0
  unfold tries_collect_J1 at hf0
  have o0 := shM F1_ F1_ out
  have o1 := shM F1_ F1_ out
  obtain ⟨r_, h0, hf0⟩ := bindE hf0
  have o2 := hs_slices_ClipW_int_int_v4 out _ h0
  have o3 := shM F1_ F1_ out
  obtain rfl := someE hf0
  exact awpEnd ((xSpec TTab_ok (w_slices_ClipW_int_int_v4 hC hm) 24).or X0) TTab_ok hC hm hE 4000 (hs := [.g [], .l (out.map F1_), .a (F5_ r_), .l (out.map F1_)]) (x := (eSl 1 true F1_ r_)) [ob hg_slices_ClipW_int_int_v4, ob o1, ob o2, ob o3] (by kernel_rfl) (LeV.refl _)
 ·obtain ⟨r_1, h1, hf0⟩ := bindE hf0
  have o4 := hasF h_tries_walk (x := nodes) h1 (loC F19_ nodes <| loN)
  obtain ⟨t2, ht2, hf0⟩ := bindE hf0
  refine awpAt X0 TTab_ok hC hm [2,3,4,7] 4000 [.g [], .a ((eFn1 85 F22_) r_1)] (sub [1,2,1,0] bd_tries_collect) (frs [1,2,1,0] [J1] bd_tries_collect []) [(2, .own (.box (eSl 2 false F13_ nodes))), (3, .own (.box (.fn 58 []))), (4, .own (.box (eOs 1 true F1_ []))), (7, .d (.fn 85 [.sptr (eSl 2 false F13_ r_1)]))] [ob (hasG h_tries_walk), ob o4] (by kernel_rfl) fun st0 h0 => ?_
  refine awpIter (g := .tmp 7) (ps := [8]) (assign := (sub [1,2,1,0,0] bd_tries_collect)) (body := (sub [1,2,1,0,1] bd_tries_collect)) (K := 85) (caps := [.sptr (eSl 2 false F13_ r_1)]) (by kernel_rfl) [2,3,4,7] (fun s => ST_tries_collect_I2 nodes r_1 s) (fun z => nomatch z) (fun z => nomatch z) ((fun (x : S_tries_place) (_ : Bool) (_ : Value) => [F16_ x])) (F := @tries_walk_1 r_1) (fun s x => tries_collect_I2 nodes s x) ([] : List (List Int)) t2 _ h0 inferInstance (by kernel_rfl) (by decide) (fun _ => rfl) (by rintro ⟨⟩) (by kernel_rfl) (fun _ _ _ => rfl) (w_tries_walk_1 hC hm h_slices_Clip_int_int r_1) ht2 ?_ ?_
  ·rintro tv2 out1 x8 vr lr1 hf1
   replace hf1 : tries_collect_I2 nodes out1 x8 = some lr1 := hf1
   unfold tries_collect_I2 at hf1
   refine awpFin X0 TTab_ok hC hm [2,3,4,5,7] 4000 [] .normal [(2, .own (.box (eSl 2 false F13_ nodes))), (3, .own (.box (.fn 58 []))), (4, .own (.box (eOs 1 false F1_ out1))), (5, .own (.box (F16_ x8))), (7, .d (.fn 85 [.sptr (eSl 2 false F13_ r_1)]))] [] (by kernel_rfl) fun st0 h0 => ⟨rfl, awpOf h0 ?_⟩
   obtain ⟨node_e, h2, hf1⟩ := bindE hf1
   have o5 := iM F13_ h2
   obtain ⟨r_2, h3, hf1⟩ := bindE hf1
   have o6 := hasF h_tries_leaf (x := node_e) h3 (loC F13_ node_e <| loN)
   rcases bifE hf1 with ⟨c0, hf1⟩ | ⟨c0, hf1⟩
   ·obtain ⟨r_3, h4, hf1⟩ := bindE hf1
    have o7 := hasF h_slices_Clone_int_int (x := x8.w_) h4 (loC F4_ x8.w_ <| loN)
    obtain ⟨r_4, h5, hf1⟩ := bindE hf1
    have o8 := hasF h_slices_Clip_int_int (x := r_3) h5 (loC F4_ r_3 <| loN)
    have o9 := dM F1_ ([r_4] : List (List Int))
    have o10 := dM F1_ ([r_4] : List (List Int))
    obtain ⟨g0, hf1⟩ := gdE hf1
    have o11 := aL F1_ F1_ g0
    have o12 := aM F1_ out1 ([r_4] : List (List Int))
    obtain rfl := someE hf1
    exact awpFin X0 TTab_ok hC hm [2,3,4,7] 4000 [.a (F13_ node_e), .g [], .a (eB r_2), bT, .g [], .a (F3_ r_3), .g [], .l (r_3.map (eI .i64)), .a (F1_ r_4), .l (r_3.map (eI .i64)), bT, .l ((out1 ++ ([r_4] : List (List Int))).map F1_)] .normal [(2, .own (.box (eSl 2 false F13_ nodes))), (3, .own (.box (.fn 58 []))), (4, .own (.box (eOs 1 false F1_ (out1 ++ ([r_4] : List (List Int)))))), (7, .d (.fn 85 [.sptr (eSl 2 false F13_ r_1)]))] [ob (i0 h2), ob o5, ob (hasG h_tries_leaf), ob o6, ob c0, ob (hasG h_slices_Clone_int_int), ob o7, ob (hasG h_slices_Clip_int_int), ob (shM (eI .i64) (eI .i64) r_3), ob o8, ob (shM (eI .i64) (eI .i64) r_3), ob o9, ob o10, ob o11, ob o12] (by kernel_rfl) fun st0 h0 => ⟨rfl, _, h0, (inferInstance : LeL [(2, .own (.box (eSl 2 false F13_ nodes))), (3, .own (.box (.fn 58 []))), (4, .own (.box (eOs 1 false F1_ (out1 ++ ([r_4] : List (List Int)))))), (7, .d (.fn 85 [.sptr (eSl 2 false F13_ r_1)]))] (ST_tries_collect_I2 nodes r_1 (out1 ++ ([r_4] : List (List Int)))))⟩
   ·obtain rfl := someE hf1
    exact awpFin X0 TTab_ok hC hm [2,3,4,7] 4000 [.a (F13_ node_e), .g [], .a (eB r_2), bF] .normal [(2, .own (.box (eSl 2 false F13_ nodes))), (3, .own (.box (.fn 58 []))), (4, .own (.box (eOs 1 false F1_ out1))), (7, .d (.fn 85 [.sptr (eSl 2 false F13_ r_1)]))] [ob (i0 h2), ob o5, ob (hasG h_tries_leaf), ob o6, ob c0] (by kernel_rfl) fun st0 h0 => ⟨rfl, _, h0, (inferInstance : LeL [(2, .own (.box (eSl 2 false F13_ nodes))), (3, .own (.box (.fn 58 []))), (4, .own (.box (eOs 1 false F1_ out1))), (7, .d (.fn 85 [.sptr (eSl 2 false F13_ r_1)]))] (ST_tries_collect_I2 nodes r_1 out1))⟩
  ·rcases t2 with out1 | z
   ·dsimp only at hf0
    exact awpGoBack (by kernel_rfl) (hJ1 _ [(4, .own (.box (eOs 1 false F1_ out1)))] out1 hf0 (show Own.canon [4] _ = ofL _ by kernel_rfl) inferInstance)
   ·cases z
noncomputable def bd_tries_Reduce : Code := (Try.f21.body).getD .skip
noncomputable def sp_tries_Reduce : Spec := spF (α := List (List Int) × Int) (ρ := List (List Int) × Int) 21 (fun x => [F10_ x.1, (eI .i64) x.2]) (fun r => .tup [F5_ r.1, (eI .i64) r.2]) (fun x => tries_Reduce x.1 x.2) [] (by
 rintro ⟨a0, a1⟩ ⟨b0, b1⟩ h
 have e0 := EncI.inj (f := F10_) _ _ (List.cons.inj h).1
 replace h := (List.cons.inj h).2
 have e1 := EncI.inj (f := (eI .i64)) _ _ (List.cons.inj h).1
 subst e0 e1
 rfl)
theorem w_tries_Reduce {ctr : Ctr} (hC : CtrOk Try.prog ctr) (hm : Try.prog.follows .mixedOrders = true) (h_tries_Check : ctr.Has sp_tries_Check) (h_tries_of : ctr.Has sp_tries_of) (h_tries_collect : ctr.Has sp_tries_collect) : sp_tries_Reduce.Ok Try.prog := by
 refine spF_ok ?_
 rintro ⟨l_, inputs⟩ r0 hf0
 try unfold tries_Reduce at hf0
 refine callOk_h (tt := TTab) (keep := false) (rs := [(4, none), (5, none)]) (n := ⟨20, []⟩) (body := bd_tries_Reduce) TTab_ok Try.func21 rfl (by kernel_rfl) rfl rfl (by show (2 : Nat) ≤ 20; decide) fun E hE => ?_
 obtain ⟨r_, h0, hf0⟩ := bindE hf0
 have o0 := hasF h_tries_Check (x := (l_, inputs)) h0 (loC F10_ l_ <| loC (eI .i64) inputs <| loN)
 rcases bifE hf0 with ⟨c0, hf0⟩ | ⟨c0, hf0⟩
 ·have o1 := shM F4_ F4_ []
  obtain rfl := someE hf0
  exact awpEnd X0 TTab_ok hC hm hE 4000 (hs := [.g [], .a ((eI .i64) r_), bT, .l ([].map F4_)]) (x := (.tup [eSl 1 true F1_ [], I r_])) [ob (hasG h_tries_Check), ob o0, ob c0, ob o1] (by kernel_rfl) (show LeV (.tup [eSl 1 true F1_ [], I r_]) (.tup [eSl 1 true F1_ ([] : List (List Int)), I r_]) from inferInstance)
 ·obtain ⟨r_1, h1, hf0⟩ := bindE hf0
  have o2 := hasF h_tries_of (x := (l_, inputs)) h1 (loC F10_ l_ <| loC (eI .i64) inputs <| loN)
  have o3 := shM F11_ F12_ r_1.nodes_
  obtain ⟨r_2, h2, hf0⟩ := bindE hf0
  have o4 := hasF h_tries_collect (x := (r_1.nodes_, ())) h2 (loC (eSl 2 false F12_) r_1.nodes_ <| loC (eFn0 58) () <| loN)
  have o5 := shM F11_ F12_ r_1.nodes_
  obtain rfl := someE hf0
  exact awpEnd X0 TTab_ok hC hm hE 4000 (hs := [.g [], .a ((eI .i64) r_), bF, .g [], .a (F28_ r_1), .g [], .l (r_1.nodes_.map F12_), .a (F5_ r_2), .l (r_1.nodes_.map F12_)]) (x := (.tup [eSl 1 true F1_ r_2, I 0])) [ob (hasG h_tries_Check), ob o0, ob c0, ob (hasG h_tries_of), ob o2, ob (hasG h_tries_collect), ob o3, ob o4, ob o5] (by kernel_rfl) (LeV.refl _)
noncomputable def bd_tries_Prefixes_1 : Code := (Try.f60.body).getD .skip
noncomputable def sp_tries_Prefixes_1 : Spec := spF (α := S_tries_Node) (ρ := Bool) 60 (fun x => [F13_ x]) (fun r => eB r) (fun x => tries_Prefixes_1 x) [] (by
 rintro a0 b0 h
 have e0 := EncI.inj (f := F13_) _ _ (List.cons.inj h).1
 subst e0
 rfl)
theorem w_tries_Prefixes_1 {ctr : Ctr} (hC : CtrOk Try.prog ctr) (hm : Try.prog.follows .mixedOrders = true) : sp_tries_Prefixes_1.Ok Try.prog := by
 refine spF_ok ?_
 rintro x0 r0 hf0
 try unfold tries_Prefixes_1 at hf0
 refine callOk_h (tt := TTab) (keep := true) (rs := [(2, none)]) (n := ⟨3, []⟩) (body := bd_tries_Prefixes_1) TTab_ok Try.func60 rfl (by kernel_rfl) rfl rfl (by show (1 : Nat) ≤ 3; decide) fun E hE => ?_
 obtain rfl := someE hf0
 exact awpEnd X0 TTab_ok hC hm hE 4000 (hs := []) (x := (B true)) [] (by kernel_rfl) (LeV.refl _)
noncomputable def bd_tries_collect_v5 : Code := (Try.f56.body).getD .skip
noncomputable def sp_tries_collect_v5 : Spec := spF (α := List S_tries_Node × Unit) (ρ := List (List Int)) 56 (fun x => [F19_ x.1, (eFn0 60) x.2]) (fun r => F5_ r) (fun x => tries_collect_v5 x.1 x.2) [] (by
 rintro ⟨a0, a1⟩ ⟨b0, b1⟩ h
 have e0 := EncI.inj (f := F19_) _ _ (List.cons.inj h).1
 replace h := (List.cons.inj h).2
 have e1 := EncI.inj (f := (eFn0 60)) _ _ (List.cons.inj h).1
 subst e0 e1
 rfl)
abbrev ST_tries_collect_v5_J1 (out : List (List Int)) : List (Nat × T) := [(4, .own (.box (eOs 1 false F1_ out)))]
abbrev ST_tries_collect_v5_I2 (nodes : List S_tries_Node) (r_1 : List S_tries_Node) (out1 : List (List Int)) : List (Nat × T) := [(2, .own (.box (eSl 2 false F13_ nodes))), (3, .own (.box (.fn 60 []))), (4, .own (.box (eOs 1 false F1_ out1))), (7, .d (.fn 85 [.sptr (eSl 2 false F13_ r_1)]))]
theorem w_tries_collect_v5 {ctr : Ctr} (hC : CtrOk Try.prog ctr) (hm : Try.prog.follows .mixedOrders = true) (h_tries_walk : ctr.Has sp_tries_walk) (h_slices_Clip_int_int : ctr.Has sp_slices_Clip_int_int) (h_tries_Prefixes_1 : ctr.Has sp_tries_Prefixes_1) (h_slices_Clone_int_int : ctr.Has sp_slices_Clone_int_int) : sp_tries_collect_v5.Ok Try.prog := by
 refine spF_ok ?_
 rintro ⟨nodes, is⟩ r0 hf0
 try unfold tries_collect_v5 at hf0
 refine callOk_h (tt := TTab) (keep := false) (rs := [(4, some 22)]) (n := ⟨25, []⟩) (body := bd_tries_collect_v5) TTab_ok Try.func56 rfl (by kernel_rfl) rfl rfl (by show (2 : Nat) ≤ 25; decide) fun E hE => ?_
 refine awpAt X0 TTab_ok hC hm [2,3,4] 4000 [.cut 1] (sub [1] bd_tries_collect_v5) (frs [1] [] bd_tries_collect_v5 []) [(2, .own (.box (eSl 2 false F13_ nodes))), (3, .own (.box (.fn 60 []))), (4, .own (.box (eOs 1 true F4_ [])))] [] (by kernel_rfl) fun st0 h0 => ?_
 refine awpJoin' (X := List (List Int)) (x := (sub [1,2] bd_tries_collect_v5)) (y := (sub [1,1] bd_tries_collect_v5)) (by kernel_rfl) [4] [2,3,4] _ h0 (fun z => tries_collect_v5_J1 z = some r0) (fun z => ST_tries_collect_v5_J1 z) ?_ fun J1 hJ1 => ?_
 ·rintro out hf0
  unfold tries_collect_v5_J1 at hf0
  have o0 := shM F1_ F1_ out
  have o1 := shM F1_ F1_ out
  obtain ⟨r_, h0, hf0⟩ := bindE hf0
  have o2 := hs_slices_ClipW_int_int_v4 out _ h0
  have o3 := shM F1_ F1_ out
  obtain rfl := someE hf0
  exact awpEnd ((xSpec TTab_ok (w_slices_ClipW_int_int_v4 hC hm) 24).or X0) TTab_ok hC hm hE 4000 (hs := [.g [], .l (out.map F1_), .a (F5_ r_), .l (out.map F1_)]) (x := (eSl 1 true F1_ r_)) [ob hg_slices_ClipW_int_int_v4, ob o1, ob o2, ob o3] (by kernel_rfl) (LeV.refl _)
 ·obtain ⟨r_1, h1, hf0⟩ := bindE hf0
  have o4 := hasF h_tries_walk (x := nodes) h1 (loC F19_ nodes <| loN)
  obtain ⟨t2, ht2, hf0⟩ := bindE hf0
  refine awpAt X0 TTab_ok hC hm [2,3,4,7] 4000 [.g [], .a ((eFn1 85 F22_) r_1)] (sub [1,2,1,0] bd_tries_collect_v5) (frs [1,2,1,0] [J1] bd_tries_collect_v5 []) [(2, .own (.box (eSl 2 false F13_ nodes))), (3, .own (.box (.fn 60 []))), (4, .own (.box (eOs 1 true F1_ []))), (7, .d (.fn 85 [.sptr (eSl 2 false F13_ r_1)]))] [ob (hasG h_tries_walk), ob o4] (by kernel_rfl) fun st0 h0 => ?_
  refine awpIter (g := .tmp 7) (ps := [8]) (assign := (sub [1,2,1,0,0] bd_tries_collect_v5)) (body := (sub [1,2,1,0,1] bd_tries_collect_v5)) (K := 85) (caps := [.sptr (eSl 2 false F13_ r_1)]) (by kernel_rfl) [2,3,4,7] (fun s => ST_tries_collect_v5_I2 nodes r_1 s) (fun z => nomatch z) (fun z => nomatch z) ((fun (x : S_tries_place) (_ : Bool) (_ : Value) => [F16_ x])) (F := @tries_walk_1 r_1) (fun s x => tries_collect_v5_I2 nodes s x) ([] : List (List Int)) t2 _ h0 inferInstance (by kernel_rfl) (by decide) (fun _ => rfl) (by rintro ⟨⟩) (by kernel_rfl) (fun _ _ _ => rfl) (w_tries_walk_1 hC hm h_slices_Clip_int_int r_1) ht2 ?_ ?_
  ·rintro tv2 out1 x8 vr lr1 hf1
   replace hf1 : tries_collect_v5_I2 nodes out1 x8 = some lr1 := hf1
   unfold tries_collect_v5_I2 at hf1
   refine awpFin X0 TTab_ok hC hm [2,3,4,5,7] 4000 [] .normal [(2, .own (.box (eSl 2 false F13_ nodes))), (3, .own (.box (.fn 60 []))), (4, .own (.box (eOs 1 false F1_ out1))), (5, .own (.box (F16_ x8))), (7, .d (.fn 85 [.sptr (eSl 2 false F13_ r_1)]))] [] (by kernel_rfl) fun st0 h0 => ⟨rfl, awpOf h0 ?_⟩
   obtain ⟨node_e, h2, hf1⟩ := bindE hf1
   have o5 := iM F13_ h2
   obtain ⟨r_2, h3, hf1⟩ := bindE hf1
   have o6 := hasF h_tries_Prefixes_1 (x := node_e) h3 (loC F13_ node_e <| loN)
   rcases bifE hf1 with ⟨c0, hf1⟩ | ⟨c0, hf1⟩
   ·obtain ⟨r_3, h4, hf1⟩ := bindE hf1
    have o7 := hasF h_slices_Clone_int_int (x := x8.w_) h4 (loC F4_ x8.w_ <| loN)
    obtain ⟨r_4, h5, hf1⟩ := bindE hf1
    have o8 := hasF h_slices_Clip_int_int (x := r_3) h5 (loC F4_ r_3 <| loN)
    have o9 := dM F1_ ([r_4] : List (List Int))
    have o10 := dM F1_ ([r_4] : List (List Int))
    obtain ⟨g0, hf1⟩ := gdE hf1
    have o11 := aL F1_ F1_ g0
    have o12 := aM F1_ out1 ([r_4] : List (List Int))
    obtain rfl := someE hf1
    exact awpFin X0 TTab_ok hC hm [2,3,4,7] 4000 [.a (F13_ node_e), .g [], .a (eB r_2), bT, .g [], .a (F3_ r_3), .g [], .l (r_3.map (eI .i64)), .a (F1_ r_4), .l (r_3.map (eI .i64)), bT, .l ((out1 ++ ([r_4] : List (List Int))).map F1_)] .normal [(2, .own (.box (eSl 2 false F13_ nodes))), (3, .own (.box (.fn 60 []))), (4, .own (.box (eOs 1 false F1_ (out1 ++ ([r_4] : List (List Int)))))), (7, .d (.fn 85 [.sptr (eSl 2 false F13_ r_1)]))] [ob (i0 h2), ob o5, ob (hasG h_tries_Prefixes_1), ob o6, ob c0, ob (hasG h_slices_Clone_int_int), ob o7, ob (hasG h_slices_Clip_int_int), ob (shM (eI .i64) (eI .i64) r_3), ob o8, ob (shM (eI .i64) (eI .i64) r_3), ob o9, ob o10, ob o11, ob o12] (by kernel_rfl) fun st0 h0 => ⟨rfl, _, h0, (inferInstance : LeL [(2, .own (.box (eSl 2 false F13_ nodes))), (3, .own (.box (.fn 60 []))), (4, .own (.box (eOs 1 false F1_ (out1 ++ ([r_4] : List (List Int)))))), (7, .d (.fn 85 [.sptr (eSl 2 false F13_ r_1)]))] (ST_tries_collect_v5_I2 nodes r_1 (out1 ++ ([r_4] : List (List Int)))))⟩
   ·obtain rfl := someE hf1
    exact awpFin X0 TTab_ok hC hm [2,3,4,7] 4000 [.a (F13_ node_e), .g [], .a (eB r_2), bF] .normal [(2, .own (.box (eSl 2 false F13_ nodes))), (3, .own (.box (.fn 60 []))), (4, .own (.box (eOs 1 false F1_ out1))), (7, .d (.fn 85 [.sptr (eSl 2 false F13_ r_1)]))] [ob (i0 h2), ob o5, ob (hasG h_tries_Prefixes_1), ob o6, ob c0] (by kernel_rfl) fun st0 h0 => ⟨rfl, _, h0, (inferInstance : LeL [(2, .own (.box (eSl 2 false F13_ nodes))), (3, .own (.box (.fn 60 []))), (4, .own (.box (eOs 1 false F1_ out1))), (7, .d (.fn 85 [.sptr (eSl 2 false F13_ r_1)]))] (ST_tries_collect_v5_I2 nodes r_1 out1))⟩
  ·rcases t2 with out1 | z
   ·dsimp only at hf0
    exact awpGoBack (by kernel_rfl) (hJ1 _ [(4, .own (.box (eOs 1 false F1_ out1)))] out1 hf0 (show Own.canon [4] _ = ofL _ by kernel_rfl) inferInstance)
   ·cases z
noncomputable def bd_tries_valid : Code := (Try.f59.body).getD .skip
noncomputable def sp_tries_valid : Spec := spF (α := List (List Int)) (ρ := List (List Int) × Int) 59 (fun x => [F5_ x]) (fun r => .tup [F5_ r.1, (eI .i64) r.2]) (fun x => tries_valid x) [] (by
 rintro a0 b0 h
 have e0 := EncI.inj (f := F5_) _ _ (List.cons.inj h).1
 subst e0
 rfl)
theorem w_tries_valid {ctr : Ctr} (hC : CtrOk Try.prog ctr) (hm : Try.prog.follows .mixedOrders = true) (h_tries_steps : ctr.Has sp_tries_steps) : sp_tries_valid.Ok Try.prog := by
 refine spF_ok ?_
 rintro l_ r0 hf0
 try unfold tries_valid at hf0
 refine callOk_h (tt := TTab) (keep := false) (rs := [(2, none), (3, none)]) (n := ⟨13, []⟩) (body := bd_tries_valid) TTab_ok Try.func59 rfl (by kernel_rfl) rfl rfl (by show (1 : Nat) ≤ 13; decide) fun E hE => ?_
 rcases bifE hf0 with ⟨c0, hf0⟩ | ⟨c0, hf0⟩
 ·have o0 := shM F4_ F4_ []
  obtain rfl := someE hf0
  exact awpEnd X0 TTab_ok hC hm hE 4000 (hs := (aLn l_.length :: (rpN 5 bT [.l ([].map F4_)]))) (x := (.tup [eSl 1 true F1_ [], I 3])) (ob (lnM F1_ l_) :: (rpN 4 (ob c0) [oT, ob o0])) (by kernel_rfl) (show LeV (.tup [eSl 1 true F1_ [], I 3]) (.tup [eSl 1 true F1_ ([] : List (List Int)), I 3]) from inferInstance)
 ·obtain ⟨r_, h0, hf0⟩ := bindE hf0
  have o1 := hasF h_tries_steps (x := l_) h0 (loC F5_ l_ <| loN)
  rcases bifE hf0 with ⟨c1, hf0⟩ | ⟨c1, hf0⟩
  ·have o2 := shM F4_ F4_ []
   obtain rfl := someE hf0
   exact awpEnd X0 TTab_ok hC hm hE 4000 (hs := [aLn l_.length, bF, bF, .g [], .a ((eI .i64) r_), bF, bF, bT, .l ([].map F4_)]) (x := (.tup [eSl 1 true F1_ [], I 3])) [ob (lnM F1_ l_), ob c0, ob c0, ob (hasG h_tries_steps), ob o1, ob c0, ob c0, ob c1, ob o2] (by kernel_rfl) (show LeV (.tup [eSl 1 true F1_ [], I 3]) (.tup [eSl 1 true F1_ ([] : List (List Int)), I 3]) from inferInstance)
  ·obtain rfl := someE hf0
   exact awpEnd X0 TTab_ok hC hm hE 4000 (hs := [aLn l_.length, bF, bF, .g [], .a ((eI .i64) r_), bF, bF, bF]) (x := (.tup [eSl 1 true F1_ l_, I 0])) [ob (lnM F1_ l_), ob c0, ob c0, ob (hasG h_tries_steps), ob o1, ob c0, ob c0, ob c1] (by kernel_rfl) (LeV.refl _)
noncomputable def bd_tries_Prefixes : Code := (Try.f22.body).getD .skip
noncomputable def sp_tries_Prefixes : Spec := spF (α := List (List Int) × Int) (ρ := List (List Int) × Int) 22 (fun x => [F10_ x.1, (eI .i64) x.2]) (fun r => .tup [F5_ r.1, (eI .i64) r.2]) (fun x => tries_Prefixes x.1 x.2) [] (by
 rintro ⟨a0, a1⟩ ⟨b0, b1⟩ h
 have e0 := EncI.inj (f := F10_) _ _ (List.cons.inj h).1
 replace h := (List.cons.inj h).2
 have e1 := EncI.inj (f := (eI .i64)) _ _ (List.cons.inj h).1
 subst e0 e1
 rfl)
theorem w_tries_Prefixes {ctr : Ctr} (hC : CtrOk Try.prog ctr) (hm : Try.prog.follows .mixedOrders = true) (h_tries_Check : ctr.Has sp_tries_Check) (h_tries_of : ctr.Has sp_tries_of) (h_tries_walk : ctr.Has sp_tries_walk) (h_slices_Clip_int_int : ctr.Has sp_slices_Clip_int_int) (h_tries_Prefixes_1 : ctr.Has sp_tries_Prefixes_1) (h_slices_Clone_int_int : ctr.Has sp_slices_Clone_int_int) (h_tries_valid : ctr.Has sp_tries_valid) : sp_tries_Prefixes.Ok Try.prog := by
 refine spF_ok ?_
 rintro ⟨l_, inputs⟩ r0 hf0
 try unfold tries_Prefixes at hf0
 refine callOk_h (tt := TTab) (keep := false) (rs := [(4, none), (5, none)]) (n := ⟨31, []⟩) (body := bd_tries_Prefixes) TTab_ok Try.func22 rfl (by kernel_rfl) rfl rfl (by show (2 : Nat) ≤ 31; decide) fun E hE => ?_
 obtain ⟨r_, h0, hf0⟩ := bindE hf0
 have o0 := hasF h_tries_Check (x := (l_, inputs)) h0 (loC F10_ l_ <| loC (eI .i64) inputs <| loN)
 rcases bifE hf0 with ⟨c0, hf0⟩ | ⟨c0, hf0⟩
 ·have o1 := shM F4_ F4_ []
  obtain rfl := someE hf0
  exact awpEnd X0 TTab_ok hC hm hE 4000 (hs := [.g [], .a ((eI .i64) r_), bT, .l ([].map F4_)]) (x := (.tup [eSl 1 true F1_ [], I r_])) [ob (hasG h_tries_Check), ob o0, ob c0, ob o1] (by kernel_rfl) (show LeV (.tup [eSl 1 true F1_ [], I r_]) (.tup [eSl 1 true F1_ ([] : List (List Int)), I r_]) from inferInstance)
 ·obtain ⟨r_1, h1, hf0⟩ := bindE hf0
  have o2 := hasF h_tries_of (x := (l_, inputs)) h1 (loC F10_ l_ <| loC (eI .i64) inputs <| loN)
  have o3 := lnM F11_ r_1.nodes_
  rcases bifE hf0 with ⟨c1, hf0⟩ | ⟨c1, hf0⟩
  ·have o4 := shM F4_ F4_ []
   obtain rfl := someE hf0
   exact awpEnd X0 TTab_ok hC hm hE 4000 (hs := [.g [], .a ((eI .i64) r_), bF, .g [], .a (F28_ r_1), aLn r_1.nodes_.length, bT, .l ([].map F4_)]) (x := (.tup [eSl 1 true F1_ [], I 3])) [ob (hasG h_tries_Check), ob o0, ob c0, ob (hasG h_tries_of), ob o2, ob o3, ob c1, ob o4] (by kernel_rfl) (show LeV (.tup [eSl 1 true F1_ [], I 3]) (.tup [eSl 1 true F1_ ([] : List (List Int)), I 3]) from inferInstance)
  ·have o5 := hasG (Ctr.add_has ctr0 sp_tries_collect_v5)
   have o6 := shM F11_ F12_ r_1.nodes_
   obtain ⟨r_2, h2, hf0⟩ := bindE hf0
   have o7 := hasF (Ctr.add_has ctr0 sp_tries_collect_v5) (x := (r_1.nodes_, ())) h2 (loC (eSl 2 false F12_) r_1.nodes_ <| loC (eFn0 60) () <| loN)
   have o8 := shM F11_ F12_ r_1.nodes_
   obtain ⟨r_3, h3, hf0⟩ := bindE hf0
   have o9 := tabC_at (f := .fn 59 []) (xs := [F5_ r_2]) (ls := []) (r := .tup [eSl 1 true F1_ r_3.1, I r_3.2]) (ys := []) [F5_ r_2] (show LeTs [F5_ r_2] [F5_ r_2] from inferInstance)
   obtain rfl := someE hf0
   exact awpEnd ((xLend (P := Try.prog) TTab [] (lentCall (hasCall hC h_tries_valid (x := r_2) h3)) 28).or ((xSpec TTab_ok (w_tries_collect_v5 hC hm h_tries_walk h_slices_Clip_int_int h_tries_Prefixes_1 h_slices_Clone_int_int) 27).or X0)) TTab_ok hC hm hE 4000 (hs := [.g [], .a ((eI .i64) r_), bF, .g [], .a (F28_ r_1), aLn r_1.nodes_.length, bF, .g [], .l (r_1.nodes_.map F12_), .a (F5_ r_2), .l (r_1.nodes_.map F12_)]) (x := (.tup [eSl 1 true F1_ r_3.1, I r_3.2])) [ob (hasG h_tries_Check), ob o0, ob c0, ob (hasG h_tries_of), ob o2, ob o3, ob c1, ob o5, ob o6, ob o7, ob o8, ob o9] (by kernel_rfl) (LeV.refl _)
noncomputable def bd_ref12_prefix : Code := (Try.f61.body).getD .skip
noncomputable def sp_ref12_prefix : Spec := spF (α := List Int × List Int) (ρ := Bool) 61 (fun x => [F4_ x.1, F4_ x.2]) (fun r => eB r) (fun x => ref12_prefix x.1 x.2) [] (by
 rintro ⟨a0, a1⟩ ⟨b0, b1⟩ h
 have e0 := EncI.inj (f := F4_) _ _ (List.cons.inj h).1
 replace h := (List.cons.inj h).2
 have e1 := EncI.inj (f := F4_) _ _ (List.cons.inj h).1
 subst e0 e1
 rfl)
theorem w_ref12_prefix {ctr : Ctr} (hC : CtrOk Try.prog ctr) (hm : Try.prog.follows .mixedOrders = true) (h_ref12_compare : ctr.Has sp_ref12_compare) : sp_ref12_prefix.Ok Try.prog := by
 refine spF_ok ?_
 rintro ⟨a_, b_⟩ r0 hf0
 try unfold ref12_prefix at hf0
 refine callOk_h (tt := TTab) (keep := true) (rs := [(4, none)]) (n := ⟨19, []⟩) (body := bd_ref12_prefix) TTab_ok Try.func61 rfl (by kernel_rfl) rfl rfl (by show (2 : Nat) ≤ 19; decide) fun E hE => ?_
 rcases bifE hf0 with ⟨c0, hf0⟩ | ⟨c0, hf0⟩
 ·obtain ⟨g0, hf0⟩ := gdE hf0
  have o0 := slM 1 false (eI .i64) b_ 0 ((a_.length : Nat) : Int).toNat
  obtain ⟨r_, h0, hf0⟩ := bindE hf0
  have o1 := hasF h_ref12_compare (x := (a_, ((b_.drop 0).take (((a_.length : Nat) : Int).toNat - 0)))) h0 (loC F4_ a_ <| loC F4_ ((b_.drop 0).take (((a_.length : Nat) : Int).toNat - 0)) <| loN)
  obtain rfl := someE hf0
  exact awpEnd X0 TTab_ok hC hm hE 4000 (hs := (aLn a_.length :: aLn b_.length :: (rpN 4 bT [aLn a_.length, bT, .a (eSl 1 false (eI .i64) ((b_.drop 0).take (((a_.length : Nat) : Int).toNat - 0))), bT, .g [], .a ((eI .i64) r_), bT, bT]))) (x := (B (r_ == 0))) (ob (lnM (eI .i64) a_) :: ob (lnM (eI .i64) b_) :: (rpN 4 (ob c0) [ob (lnM (eI .i64) a_), ob c0, ob (slB g0), ob (sl010 (eI .i64) g0), ob o0, ob c0, ob (hasG h_ref12_compare), ob o1, ob c0, ob c0])) (by kernel_rfl) (LeV.refl _)
 ·obtain rfl := someE hf0
  exact awpEnd X0 TTab_ok hC hm hE 4000 (hs := (aLn a_.length :: aLn b_.length :: (rpN 8 bF []))) (x := (B false)) (ob (lnM (eI .i64) a_) :: ob (lnM (eI .i64) b_) :: (rpN 8 (ob c0) [])) (by kernel_rfl) (LeV.refl _)
noncomputable def bd_ref12_Reduce : Code := (Try.f23.body).getD .skip
noncomputable def sp_ref12_Reduce : Spec := spF (α := List (List Int)) (ρ := List (List Int)) 23 (fun x => [F10_ x]) (fun r => F9_ r) (fun x => ref12_Reduce x) [] (by
 rintro a0 b0 h
 have e0 := EncI.inj (f := F10_) _ _ (List.cons.inj h).1
 subst e0
 rfl)
abbrev ST_ref12_Reduce_J1 (out : List (List Int)) : List (Nat × T) := [(3, .own (eOs 1 false F4_ out))]
abbrev ST_ref12_Reduce_J3 (l_ : List (List Int)) (i_ : Int) (out2 : List (List Int)) : List (Nat × T) := [(0, .d (eSl 1 false F4_ l_)), (3, .own (eOs 1 false F4_ out2)), (4, .d (I i_))]
abbrev ST_ref12_Reduce_J4 (l_ : List (List Int)) (out1 : List (List Int)) (i_ : Int) (proper : Bool) : List (Nat × T) := [(0, .d (eSl 1 false F4_ l_)), (3, .own (eOs 1 false F4_ out1)), (4, .d (I i_)), (5, .d (B proper))]
abbrev ST_ref12_Reduce_L5 (l_ : List (List Int)) (out1 : List (List Int)) (i_ : Int) (proper1 : Bool) (k_ : Int) : List (Nat × T) := [(0, .d (eSl 1 false F4_ l_)), (3, .own (eOs 1 false F4_ out1)), (4, .d (I i_)), (5, .d (B proper1)), (6, .d (I k_))]
abbrev ST_ref12_Reduce_L2 (l_ : List (List Int)) (out1 : List (List Int)) (i_ : Int) : List (Nat × T) := [(0, .d (eSl 1 false F4_ l_)), (3, .own (eOs 1 false F4_ out1)), (4, .d (I i_))]
theorem w_ref12_Reduce {ctr : Ctr} (hC : CtrOk Try.prog ctr) (hm : Try.prog.follows .mixedOrders = true) (h_ref12_prefix : ctr.Has sp_ref12_prefix) : sp_ref12_Reduce.Ok Try.prog := by
 refine spF_ok ?_
 rintro l_ r0 hf0
 try unfold ref12_Reduce at hf0
 refine callOk_h (tt := TTab) (keep := true) (rs := [(2, none)]) (n := ⟨41, []⟩) (body := bd_ref12_Reduce) TTab_ok Try.func23 rfl (by kernel_rfl) rfl rfl (by show (1 : Nat) ≤ 41; decide) fun E hE => ?_
 refine awpAt X0 TTab_ok hC hm [0,3] 4000 [.cut 2] (sub [1,1] bd_ref12_Reduce) (frs [1,1] [] bd_ref12_Reduce []) [(0, .d (eSl 1 false F4_ l_)), (3, .own (eOs 1 true F4_ []))] [] (by kernel_rfl) fun st0 h0 => ?_
 refine awpJoin' (X := List (List Int)) (x := (sub [1,1,2] bd_ref12_Reduce)) (y := (sub [1,1,1] bd_ref12_Reduce)) (by kernel_rfl) [3] [0,3] _ h0 (fun z => ref12_Reduce_J1 z = some r0) (fun z => ST_ref12_Reduce_J1 z) ?_ fun J1 hJ1 => ?_
 ·rintro out hf0
  unfold ref12_Reduce_J1 at hf0
  obtain rfl := someE hf0
  exact awpEnd X0 TTab_ok hC hm hE 4000 (hs := []) (x := (eOs 1 false F4_ out)) [] (by kernel_rfl) (LeV.refl _)
 ·obtain ⟨t2, ht2, hf0⟩ := bindE hf0
  refine awpAt X0 TTab_ok hC hm [0,3,4] 4000 [] (sub [1,1,2,1,0] bd_ref12_Reduce) (frs [1,1,2,1,0] [J1] bd_ref12_Reduce []) [(0, .d (eSl 1 false F4_ l_)), (3, .own (eOs 1 true F4_ [])), (4, .d (I 0))] [] (by kernel_rfl) fun st0 h0 => ?_
  refine awpLoop' (X := (List (List Int) × Int) × Nat) (c' := (sub [1,1,2,1,0,0] bd_ref12_Reduce)) (by kernel_rfl) [0,3,4] (fun x => loopN (fun s => ref12_Reduce_L2 l_ s.1 s.2) x.2 x.1 = some t2) (fun x => x.2) (fun x => ST_ref12_Reduce_L2 l_ x.1.1 x.1.2) ((([] : List (List Int)), 0), fuel) _ h0 inferInstance ht2 ?_
  rintro ⟨⟨out1, i_⟩, n2⟩ hn2 J2 hJ2
  obtain ⟨m2, lr1, rfl, hf1, hl1⟩ := loopE hn2
  try unfold ref12_Reduce_L2 at hf1
  rcases bifE hf1 with ⟨c0, hf1⟩ | ⟨c0, hf1⟩
  ·refine awpAt X0 TTab_ok hC hm [0,3,4] 4000 [aLn l_.length, bT, .cut 0] (sub [1,1,2,1,0,0,1] bd_ref12_Reduce) (frs [1,1,2,1,0,0,1] [J1, J2] bd_ref12_Reduce []) [(0, .d (eSl 1 false F4_ l_)), (3, .own (eOs 1 false F4_ out1)), (4, .d (I i_))] [ob (lnM F4_ l_), ob c0] (by kernel_rfl) fun st0 h0 => ?_
   refine awpJoin' (X := List (List Int)) (x := (sub [1,1,2,1,0,0,1,2] bd_ref12_Reduce)) (y := (sub [1,1,2,1,0,0,1,1] bd_ref12_Reduce)) (by kernel_rfl) [0,3,4] [0,3,4] _ h0 (fun z => ref12_Reduce_J3 i_ z = some lr1) (fun z => ST_ref12_Reduce_J3 l_ i_ z) ?_ fun J3 hJ3 => ?_
   ·rintro out2 hf1
    unfold ref12_Reduce_J3 at hf1
    obtain rfl := someE hf1
    exact awpBack X0 TTab_ok hC hm [0,3,4] 4000 [] J2 [(0, .d (eSl 1 false F4_ l_)), (3, .own (eOs 1 false F4_ out2)), (4, .d (I (w64 (i_ + 1))))] [] (by kernel_rfl) fun st0 h0 => hJ2 st0 _ ((out2, w64 (i_ + 1)), m2) hl1 (Nat.lt_succ_self m2) h0 inferInstance
   ·refine awpAt X0 TTab_ok hC hm [0,3,4,5] 4000 [.cut 1] (sub [1,1,2,1,0,0,1,2,0,1] bd_ref12_Reduce) (frs [1,1,2,1,0,0,1,2,0,1] [J1, J2, J3] bd_ref12_Reduce []) [(0, .d (eSl 1 false F4_ l_)), (3, .own (eOs 1 false F4_ out1)), (4, .d (I i_)), (5, .d (B false))] [] (by kernel_rfl) fun st0 h0 => ?_
    refine awpJoin' (X := Bool) (x := (sub [1,1,2,1,0,0,1,2,0,1,2] bd_ref12_Reduce)) (y := (sub [1,1,2,1,0,0,1,2,0,1,1] bd_ref12_Reduce)) (by kernel_rfl) [0,3,4,5] [0,3,4,5] _ h0 (fun z => ref12_Reduce_J4 l_ out1 i_ z = some lr1) (fun z => ST_ref12_Reduce_J4 l_ out1 i_ z) ?_ fun J4 hJ4 => ?_
    ·rintro proper hf1
     unfold ref12_Reduce_J4 at hf1
     rcases bifE hf1 with ⟨c1, hf1⟩ | ⟨c1, hf1⟩
     ·obtain ⟨l__e, h0, hf1⟩ := bindE hf1
      have o0 := dM F4_ ([l__e] : List (List Int))
      have o1 := dM F4_ ([l__e] : List (List Int))
      obtain ⟨g0, hf1⟩ := gdE hf1
      have o2 := aL F4_ F4_ g0
      have o3 := aM F4_ out1 ([l__e] : List (List Int))
      exact awpBack X0 TTab_ok hC hm [0,3,4] 4000 [bT, .a (F4_ l__e), bT, .l ((out1 ++ ([l__e] : List (List Int))).map F4_)] J3 [(0, .d (eSl 1 false F4_ l_)), (3, .own (eOs 1 false F4_ (out1 ++ ([l__e] : List (List Int))))), (4, .d (I i_))] [ob c1, ob (i0 h0), ob (iM F4_ h0), ob o0, ob o1, ob o2, ob o3] (by kernel_rfl) fun st0 h0 => hJ3 st0 _ (out1 ++ ([l__e] : List (List Int))) hf1 h0 inferInstance
     ·exact awpBack X0 TTab_ok hC hm [0,3,4] 4000 [bF] J3 [(0, .d (eSl 1 false F4_ l_)), (3, .own (eOs 1 false F4_ out1)), (4, .d (I i_))] [ob c1] (by kernel_rfl) fun st0 h0 => hJ3 st0 _ out1 hf1 h0 inferInstance
    ·obtain ⟨t5, ht5, hf1⟩ := bindE hf1
     refine awpAt X0 TTab_ok hC hm [0,3,4,5,6] 4000 [] (sub [1,1,2,1,0,0,1,2,0,1,2,1,0] bd_ref12_Reduce) (frs [1,1,2,1,0,0,1,2,0,1,2,1,0] [J1, J2, J3, J4] bd_ref12_Reduce []) [(0, .d (eSl 1 false F4_ l_)), (3, .own (eOs 1 false F4_ out1)), (4, .d (I i_)), (5, .d (B false)), (6, .d (I 0))] [] (by kernel_rfl) fun st0 h0 => ?_
     refine awpLoop' (X := (Bool × Int) × Nat) (c' := (sub [1,1,2,1,0,0,1,2,0,1,2,1,0,0] bd_ref12_Reduce)) (by kernel_rfl) [0,3,4,5,6] (fun x => loopN (fun s => ref12_Reduce_L5 l_ i_ s.1 s.2) x.2 x.1 = some t5) (fun x => x.2) (fun x => ST_ref12_Reduce_L5 l_ out1 i_ x.1.1 x.1.2) ((false, 0), fuel) _ h0 inferInstance ht5 ?_
     rintro ⟨⟨proper1, k_⟩, n5⟩ hn5 J5 hJ5
     obtain ⟨m5, lr2, rfl, hf2, hl2⟩ := loopE hn5
     try unfold ref12_Reduce_L5 at hf2
     rcases bifE hf2 with ⟨c2, hf2⟩ | ⟨c2, hf2⟩
     ·rcases bifE hf2 with ⟨c3, hf2⟩ | ⟨c3, hf2⟩
      ·obtain rfl := someE hf2
       exact awpBack X0 TTab_ok hC hm [0,3,4,5,6] 4000 (aLn l_.length :: (rpN 11 bT [])) J5 [(0, .d (eSl 1 false F4_ l_)), (3, .own (eOs 1 false F4_ out1)), (4, .d (I i_)), (5, .d (B true)), (6, .d (I (w64 (k_ + 1))))] (ob (lnM F4_ l_) :: ob c2 :: (rpN 10 (ob c3) [])) (by kernel_rfl) fun st0 h0 => hJ5 st0 _ ((true, w64 (k_ + 1)), m5) hl2 (Nat.lt_succ_self m5) h0 inferInstance
      ·obtain ⟨l__e1, h1, hf2⟩ := bindE hf2
       obtain ⟨l__e2, h2, hf2⟩ := bindE hf2
       obtain ⟨r_, h3, hf2⟩ := bindE hf2
       have o4 := hasF h_ref12_prefix (x := (l__e1, l__e2)) h3 (loC F4_ l__e1 <| loC F4_ l__e2 <| loN)
       obtain rfl := someE hf2
       exact awpBack X0 TTab_ok hC hm [0,3,4,5,6] 4000 (aLn l_.length :: bT :: bF :: bF :: bF :: .a (F4_ l__e1) :: (rpN 4 bF [.a (F4_ l__e2), bF, bF, .g [], .a (eB r_), bF])) J5 [(0, .d (eSl 1 false F4_ l_)), (3, .own (eOs 1 false F4_ out1)), (4, .d (I i_)), (5, .d (B r_)), (6, .d (I (w64 (k_ + 1))))] (ob (lnM F4_ l_) :: ob c2 :: ob c3 :: ob c3 :: ob c3 :: ob (i0 h1) :: ob (iM F4_ h1) :: (rpN 4 (ob c3) [ob (i0 h2), ob (iM F4_ h2), ob c3, ob c3, ob (hasG h_ref12_prefix), ob o4, ob c3])) (by kernel_rfl) fun st0 h0 => hJ5 st0 _ ((r_, w64 (k_ + 1)), m5) hl2 (Nat.lt_succ_self m5) h0 inferInstance
     ·obtain rfl := someE hf2
      obtain rfl := hl2
      exact awpBack X0 TTab_ok hC hm [0,3,4,5] 4000 [aLn l_.length, bF] J4 [(0, .d (eSl 1 false F4_ l_)), (3, .own (eOs 1 false F4_ out1)), (4, .d (I i_)), (5, .d (B proper1))] [ob (lnM F4_ l_), ob c2] (by kernel_rfl) fun st0 h0 => hJ4 st0 _ proper1 hf1 h0 inferInstance
  ·obtain rfl := someE hf1
   obtain rfl := hl1
   exact awpBack X0 TTab_ok hC hm [3] 4000 [aLn l_.length, bF] J1 [(3, .own (eOs 1 false F4_ out1))] [ob (lnM F4_ l_), ob c0] (by kernel_rfl) fun st0 h0 => hJ1 st0 _ out1 hf0 h0 inferInstance
noncomputable def bd_ref12_Same : Code := (Try.f35.body).getD .skip
noncomputable def sp_ref12_Same : Spec := spF (α := List (List Int) × List (List Int)) (ρ := Bool) 35 (fun x => [F10_ x.1, F10_ x.2]) (fun r => eB r) (fun x => ref12_Same x.1 x.2) [] (by
 rintro ⟨a0, a1⟩ ⟨b0, b1⟩ h
 have e0 := EncI.inj (f := F10_) _ _ (List.cons.inj h).1
 replace h := (List.cons.inj h).2
 have e1 := EncI.inj (f := F10_) _ _ (List.cons.inj h).1
 subst e0 e1
 rfl)
abbrev ST_ref12_Same_J1 : List (Nat × T) := []
abbrev ST_ref12_Same_L2 (a_ : List (List Int)) (b_ : List (List Int)) (i_ : Int) : List (Nat × T) := [(0, .d (eSl 1 false F4_ a_)), (1, .d (eSl 1 false F4_ b_)), (5, .d (I i_))]
theorem w_ref12_Same {ctr : Ctr} (hC : CtrOk Try.prog ctr) (hm : Try.prog.follows .mixedOrders = true) (h_ref12_compare : ctr.Has sp_ref12_compare) : sp_ref12_Same.Ok Try.prog := by
 refine spF_ok ?_
 rintro ⟨a_, b_⟩ r0 hf0
 try unfold ref12_Same at hf0
 refine callOk_h (tt := TTab) (keep := true) (rs := [(4, none)]) (n := ⟨27, []⟩) (body := bd_ref12_Same) TTab_ok Try.func35 rfl (by kernel_rfl) rfl rfl (by show (2 : Nat) ≤ 27; decide) fun E hE => ?_
 rcases bifE hf0 with ⟨c0, hf0⟩ | ⟨c0, hf0⟩
 ·obtain rfl := someE hf0
  exact awpEnd X0 TTab_ok hC hm hE 4000 (hs := [aLn a_.length, aLn b_.length, bT]) (x := (B false)) [ob (lnM F4_ a_), ob (lnM F4_ b_), ob c0] (by kernel_rfl) (LeV.refl _)
 ·refine awpAt X0 TTab_ok hC hm [0,1] 4000 [aLn a_.length, aLn b_.length, bF, .cut 0] (sub [1,1] bd_ref12_Same) (frs [1,1] [] bd_ref12_Same []) [(0, .d (eSl 1 false F4_ a_)), (1, .d (eSl 1 false F4_ b_))] [ob (lnM F4_ a_), ob (lnM F4_ b_), ob c0] (by kernel_rfl) fun st0 h0 => ?_
  refine awpJoin' (X := Unit) (x := (sub [1,1,2] bd_ref12_Same)) (y := (sub [1,1,1] bd_ref12_Same)) (by kernel_rfl) [] [0,1] _ h0 (fun z => ref12_Same_J1 = some r0) (fun z => ST_ref12_Same_J1) ?_ fun J1 hJ1 => ?_
  ·rintro ⟨⟩ hf0
   unfold ref12_Same_J1 at hf0
   obtain rfl := someE hf0
   exact awpEnd X0 TTab_ok hC hm hE 4000 (hs := []) (x := (B true)) [] (by kernel_rfl) (LeV.refl _)
  ·obtain ⟨t2, ht2, hf0⟩ := bindE hf0
   refine awpAt X0 TTab_ok hC hm [0,1,5] 4000 [] (sub [1,1,2,1,0] bd_ref12_Same) (frs [1,1,2,1,0] [J1] bd_ref12_Same []) [(0, .d (eSl 1 false F4_ a_)), (1, .d (eSl 1 false F4_ b_)), (5, .d (I 0))] [] (by kernel_rfl) fun st0 h0 => ?_
   refine awpLoop' (X := Int × Nat) (c' := (sub [1,1,2,1,0,0] bd_ref12_Same)) (by kernel_rfl) [0,1,5] (fun x => loopN (fun s => ref12_Same_L2 a_ b_ s) x.2 x.1 = some t2) (fun x => x.2) (fun x => ST_ref12_Same_L2 a_ b_ x.1) (0, fuel) _ h0 inferInstance ht2 ?_
   rintro ⟨i_, n2⟩ hn2 J2 hJ2
   obtain ⟨m2, lr1, rfl, hf1, hl1⟩ := loopE hn2
   try unfold ref12_Same_L2 at hf1
   rcases bifE hf1 with ⟨c1, hf1⟩ | ⟨c1, hf1⟩
   ·obtain ⟨a__e, h0, hf1⟩ := bindE hf1
    obtain ⟨b__e, h1, hf1⟩ := bindE hf1
    obtain ⟨r_, h2, hf1⟩ := bindE hf1
    have o0 := hasF h_ref12_compare (x := (a__e, b__e)) h2 (loC F4_ a__e <| loC F4_ b__e <| loN)
    rcases bifE hf1 with ⟨c2, hf1⟩ | ⟨c2, hf1⟩
    ·obtain rfl := someE hf1
     obtain rfl := hl1
     obtain rfl := someE hf0
     exact awpEnd X0 TTab_ok hC hm hE 4000 (hs := [aLn a_.length, bT, .a (F4_ a__e), .a (F4_ b__e), .g [], .a ((eI .i64) r_), bT]) (x := (B false)) [ob (lnM F4_ a_), ob c1, ob (i0 h0), ob (iM F4_ h0), ob (i0 h1), ob (iM F4_ h1), ob (hasG h_ref12_compare), ob o0, ob c2] (by kernel_rfl) (LeV.refl _)
    ·obtain rfl := someE hf1
     exact awpBack X0 TTab_ok hC hm [0,1,5] 4000 [aLn a_.length, bT, .a (F4_ a__e), .a (F4_ b__e), .g [], .a ((eI .i64) r_), bF] J2 [(0, .d (eSl 1 false F4_ a_)), (1, .d (eSl 1 false F4_ b_)), (5, .d (I (w64 (i_ + 1))))] [ob (lnM F4_ a_), ob c1, ob (i0 h0), ob (iM F4_ h0), ob (i0 h1), ob (iM F4_ h1), ob (hasG h_ref12_compare), ob o0, ob c2] (by kernel_rfl) fun st0 h0 => hJ2 st0 _ (w64 (i_ + 1), m2) hl1 (Nat.lt_succ_self m2) h0 inferInstance
   ·obtain rfl := someE hf1
    obtain rfl := hl1
    exact awpBack X0 TTab_ok hC hm [] 4000 [aLn a_.length, bF] J1 [] [ob (lnM F4_ a_), ob c1] (by kernel_rfl) fun st0 h0 => hJ1 st0 _ () hf0 h0 inferInstance
noncomputable def bd_law12_same : Code := (Try.f16.body).getD .skip
noncomputable def sp_law12_same : Spec := spF (α := List (List Int) × List (List Int)) (ρ := Bool) 16 (fun x => [F5_ x.1, F10_ x.2]) (fun r => eB r) (fun x => law12_same x.1 x.2) [] (by
 rintro ⟨a0, a1⟩ ⟨b0, b1⟩ h
 have e0 := EncI.inj (f := F5_) _ _ (List.cons.inj h).1
 replace h := (List.cons.inj h).2
 have e1 := EncI.inj (f := F10_) _ _ (List.cons.inj h).1
 subst e0 e1
 rfl)
abbrev ST_law12_same_J1 : List (Nat × T) := []
abbrev ST_law12_same_L2 (a_ : List (List Int)) (i_ : Int) : List (Nat × T) := [(0, .d (eSl 1 true F1_ a_)), (5, .d (I i_))]
theorem w_law12_same {ctr : Ctr} (hC : CtrOk Try.prog ctr) (hm : Try.prog.follows .mixedOrders = true) (h_ref12_Same : ctr.Has sp_ref12_Same) : sp_law12_same.Ok Try.prog := by
 refine spF_ok ?_
 rintro ⟨a_, b_⟩ r0 hf0
 try unfold law12_same at hf0
 refine callOk_h (tt := TTab) (keep := true) (rs := [(4, none)]) (n := ⟨34, []⟩) (body := bd_law12_same) TTab_ok Try.func16 rfl (by kernel_rfl) rfl rfl (by show (2 : Nat) ≤ 34; decide) fun E hE => ?_
 obtain ⟨r_, h0, hf0⟩ := bindE hf0
 have o0 := hasF h_ref12_Same (x := (a_, b_)) h0 (loC F5_ a_ <| loC F10_ b_ <| loN)
 rcases bifE hf0 with ⟨c0, hf0⟩ | ⟨c0, hf0⟩
 ·obtain rfl := someE hf0
  exact awpEnd X0 TTab_ok hC hm hE 4000 (hs := (.g [] :: .a (eB r_) :: (rpN 7 bT []))) (x := (B false)) (ob (hasG h_ref12_Same) :: ob o0 :: (rpN 6 (ob c0) [oT])) (by kernel_rfl) (LeV.refl _)
 ·rcases bifE hf0 with ⟨c1, hf0⟩ | ⟨c1, hf0⟩
  ·obtain rfl := someE hf0
   exact awpEnd X0 TTab_ok hC hm hE 4000 (hs := [.g [], .a (eB r_), bF, bF, aLn a_.length, bF, bF, aLn a_.length, bF, bF, bT]) (x := (B false)) [ob (hasG h_ref12_Same), ob o0, ob c0, ob c0, ob (lnM F1_ a_), ob c0, ob c0, ob (lnM F1_ a_), ob c0, ob c0, ob c1] (by kernel_rfl) (LeV.refl _)
  ·refine awpAt X0 TTab_ok hC hm [0] 4000 [.g [], .a (eB r_), bF, bF, aLn a_.length, bF, bF, aLn a_.length, bF, bF, bF, .cut 0] (sub [1,1] bd_law12_same) (frs [1,1] [] bd_law12_same []) [(0, .d (eSl 1 true F1_ a_))] [ob (hasG h_ref12_Same), ob o0, ob c0, ob c0, ob (lnM F1_ a_), ob c0, ob c0, ob (lnM F1_ a_), ob c0, ob c0, ob c1] (by kernel_rfl) fun st0 h0 => ?_
   refine awpJoin' (X := Unit) (x := (sub [1,1,2] bd_law12_same)) (y := (sub [1,1,1] bd_law12_same)) (by kernel_rfl) [] [0] _ h0 (fun z => law12_same_J1 = some r0) (fun z => ST_law12_same_J1) ?_ fun J1 hJ1 => ?_
   ·rintro ⟨⟩ hf0
    unfold law12_same_J1 at hf0
    obtain rfl := someE hf0
    exact awpEnd X0 TTab_ok hC hm hE 4000 (hs := []) (x := (B true)) [] (by kernel_rfl) (LeV.refl _)
   ·obtain ⟨t2, ht2, hf0⟩ := bindE hf0
    refine awpAt X0 TTab_ok hC hm [0,5] 4000 [] (sub [1,1,2,1,0] bd_law12_same) (frs [1,1,2,1,0] [J1] bd_law12_same []) [(0, .d (eSl 1 true F1_ a_)), (5, .d (I 0))] [] (by kernel_rfl) fun st0 h0 => ?_
    refine awpLoop' (X := Int × Nat) (c' := (sub [1,1,2,1,0,0] bd_law12_same)) (by kernel_rfl) [0,5] (fun x => loopN (fun s => law12_same_L2 a_ s) x.2 x.1 = some t2) (fun x => x.2) (fun x => ST_law12_same_L2 a_ x.1) (0, fuel) _ h0 inferInstance ht2 ?_
    rintro ⟨i_, n2⟩ hn2 J2 hJ2
    obtain ⟨m2, lr1, rfl, hf1, hl1⟩ := loopE hn2
    try unfold law12_same_L2 at hf1
    rcases bifE hf1 with ⟨c2, hf1⟩ | ⟨c2, hf1⟩
    ·obtain ⟨a__e, h1, hf1⟩ := bindE hf1
     obtain ⟨a__e1, h2, hf1⟩ := bindE hf1
     rcases bifE hf1 with ⟨c3, hf1⟩ | ⟨c3, hf1⟩
     ·obtain rfl := someE hf1
      obtain rfl := hl1
      obtain rfl := someE hf0
      exact awpEnd X0 TTab_ok hC hm hE 4000 (hs := [aLn a_.length, bT, .a (F1_ a__e), aLn a__e.length, .a (F1_ a__e1), aLn a__e1.length, bT]) (x := (B false)) [ob (lnM F1_ a_), ob c2, ob (i0 h1), ob (iM F1_ h1), ob (lnM (eI .i64) a__e), ob (i0 h2), ob (iM F1_ h2), ob (lnM (eI .i64) a__e1), ob c3] (by kernel_rfl) (LeV.refl _)
     ·obtain rfl := someE hf1
      exact awpBack X0 TTab_ok hC hm [0,5] 4000 [aLn a_.length, bT, .a (F1_ a__e), aLn a__e.length, .a (F1_ a__e1), aLn a__e1.length, bF] J2 [(0, .d (eSl 1 true F1_ a_)), (5, .d (I (w64 (i_ + 1))))] [ob (lnM F1_ a_), ob c2, ob (i0 h1), ob (iM F1_ h1), ob (lnM (eI .i64) a__e), ob (i0 h2), ob (iM F1_ h2), ob (lnM (eI .i64) a__e1), ob c3] (by kernel_rfl) fun st0 h0 => hJ2 st0 _ (w64 (i_ + 1), m2) hl1 (Nat.lt_succ_self m2) h0 inferInstance
    ·obtain rfl := someE hf1
     obtain rfl := hl1
     exact awpBack X0 TTab_ok hC hm [] 4000 [aLn a_.length, bF] J1 [] [ob (lnM F1_ a_), ob c2] (by kernel_rfl) fun st0 h0 => hJ1 st0 _ () hf0 h0 inferInstance
noncomputable def bd_ref12_Prefixes : Code := (Try.f24.body).getD .skip
noncomputable def sp_ref12_Prefixes : Spec := spF (α := List (List Int)) (ρ := List (List Int)) 24 (fun x => [F10_ x]) (fun r => F9_ r) (fun x => ref12_Prefixes x) [] (by
 rintro a0 b0 h
 have e0 := EncI.inj (f := F10_) _ _ (List.cons.inj h).1
 subst e0
 rfl)
abbrev ST_ref12_Prefixes_J1 (out : List (List Int)) : List (Nat × T) := [(3, .own (eOs 1 false F4_ out))]
abbrev ST_ref12_Prefixes_J3 (l_ : List (List Int)) (i_ : Int) (out2 : List (List Int)) : List (Nat × T) := [(0, .d (eSl 1 false F4_ l_)), (3, .own (eOs 1 false F4_ out2)), (4, .d (I i_))]
abbrev ST_ref12_Prefixes_L4 (l_ : List (List Int)) (i_ : Int) (out3 : List (List Int)) (k_ : Int) : List (Nat × T) := [(0, .d (eSl 1 false F4_ l_)), (3, .own (eOs 1 false F4_ out3)), (4, .d (I i_)), (5, .d (I k_))]
abbrev ST_ref12_Prefixes_L2 (l_ : List (List Int)) (out1 : List (List Int)) (i_ : Int) : List (Nat × T) := [(0, .d (eSl 1 false F4_ l_)), (3, .own (eOs 1 false F4_ out1)), (4, .d (I i_))]
theorem w_ref12_Prefixes {ctr : Ctr} (hC : CtrOk Try.prog ctr) (hm : Try.prog.follows .mixedOrders = true) (h_ref12_put : ctr.Has sp_ref12_put) : sp_ref12_Prefixes.Ok Try.prog := by
 refine spF_ok ?_
 rintro l_ r0 hf0
 try unfold ref12_Prefixes at hf0
 refine callOk_h (tt := TTab) (keep := true) (rs := [(2, none)]) (n := ⟨30, []⟩) (body := bd_ref12_Prefixes) TTab_ok Try.func24 rfl (by kernel_rfl) rfl rfl (by show (1 : Nat) ≤ 30; decide) fun E hE => ?_
 refine awpAt X0 TTab_ok hC hm [0,3] 4000 [.cut 2] (sub [1,1] bd_ref12_Prefixes) (frs [1,1] [] bd_ref12_Prefixes []) [(0, .d (eSl 1 false F4_ l_)), (3, .own (eOs 1 true F4_ []))] [] (by kernel_rfl) fun st0 h0 => ?_
 refine awpJoin' (X := List (List Int)) (x := (sub [1,1,2] bd_ref12_Prefixes)) (y := (sub [1,1,1] bd_ref12_Prefixes)) (by kernel_rfl) [3] [0,3] _ h0 (fun z => ref12_Prefixes_J1 z = some r0) (fun z => ST_ref12_Prefixes_J1 z) ?_ fun J1 hJ1 => ?_
 ·rintro out hf0
  unfold ref12_Prefixes_J1 at hf0
  obtain rfl := someE hf0
  exact awpEnd X0 TTab_ok hC hm hE 4000 (hs := []) (x := (eOs 1 false F4_ out)) [] (by kernel_rfl) (LeV.refl _)
 ·obtain ⟨t2, ht2, hf0⟩ := bindE hf0
  refine awpAt X0 TTab_ok hC hm [0,3,4] 4000 [] (sub [1,1,2,1,0] bd_ref12_Prefixes) (frs [1,1,2,1,0] [J1] bd_ref12_Prefixes []) [(0, .d (eSl 1 false F4_ l_)), (3, .own (eOs 1 true F4_ [])), (4, .d (I 0))] [] (by kernel_rfl) fun st0 h0 => ?_
  refine awpLoop' (X := (List (List Int) × Int) × Nat) (c' := (sub [1,1,2,1,0,0] bd_ref12_Prefixes)) (by kernel_rfl) [0,3,4] (fun x => loopN (fun s => ref12_Prefixes_L2 l_ s.1 s.2) x.2 x.1 = some t2) (fun x => x.2) (fun x => ST_ref12_Prefixes_L2 l_ x.1.1 x.1.2) ((([] : List (List Int)), 0), fuel) _ h0 inferInstance ht2 ?_
  rintro ⟨⟨out1, i_⟩, n2⟩ hn2 J2 hJ2
  obtain ⟨m2, lr1, rfl, hf1, hl1⟩ := loopE hn2
  try unfold ref12_Prefixes_L2 at hf1
  rcases bifE hf1 with ⟨c0, hf1⟩ | ⟨c0, hf1⟩
  ·refine awpAt X0 TTab_ok hC hm [0,3,4] 4000 [aLn l_.length, bT, .cut 0] (sub [1,1,2,1,0,0,1] bd_ref12_Prefixes) (frs [1,1,2,1,0,0,1] [J1, J2] bd_ref12_Prefixes []) [(0, .d (eSl 1 false F4_ l_)), (3, .own (eOs 1 false F4_ out1)), (4, .d (I i_))] [ob (lnM F4_ l_), ob c0] (by kernel_rfl) fun st0 h0 => ?_
   refine awpJoin' (X := List (List Int)) (x := (sub [1,1,2,1,0,0,1,2] bd_ref12_Prefixes)) (y := (sub [1,1,2,1,0,0,1,1] bd_ref12_Prefixes)) (by kernel_rfl) [0,3,4] [0,3,4] _ h0 (fun z => ref12_Prefixes_J3 i_ z = some lr1) (fun z => ST_ref12_Prefixes_J3 l_ i_ z) ?_ fun J3 hJ3 => ?_
   ·rintro out2 hf1
    unfold ref12_Prefixes_J3 at hf1
    obtain rfl := someE hf1
    exact awpBack X0 TTab_ok hC hm [0,3,4] 4000 [] J2 [(0, .d (eSl 1 false F4_ l_)), (3, .own (eOs 1 false F4_ out2)), (4, .d (I (w64 (i_ + 1))))] [] (by kernel_rfl) fun st0 h0 => hJ2 st0 _ ((out2, w64 (i_ + 1)), m2) hl1 (Nat.lt_succ_self m2) h0 inferInstance
   ·obtain ⟨t4, ht4, hf1⟩ := bindE hf1
    refine awpAt X0 TTab_ok hC hm [0,3,4,5] 4000 [] (sub [1,1,2,1,0,0,1,2,0,1,0] bd_ref12_Prefixes) (frs [1,1,2,1,0,0,1,2,0,1,0] [J1, J2, J3] bd_ref12_Prefixes []) [(0, .d (eSl 1 false F4_ l_)), (3, .own (eOs 1 false F4_ out1)), (4, .d (I i_)), (5, .d (I 0))] [] (by kernel_rfl) fun st0 h0 => ?_
    refine awpLoop' (X := (List (List Int) × Int) × Nat) (c' := (sub [1,1,2,1,0,0,1,2,0,1,0,0] bd_ref12_Prefixes)) (by kernel_rfl) [0,3,4,5] (fun x => loopN (fun s => ref12_Prefixes_L4 l_ i_ s.1 s.2) x.2 x.1 = some t4) (fun x => x.2) (fun x => ST_ref12_Prefixes_L4 l_ i_ x.1.1 x.1.2) ((out1,0), fuel) _ h0 inferInstance ht4 ?_
    rintro ⟨⟨out3, k_⟩, n4⟩ hn4 J4 hJ4
    obtain ⟨m4, lr2, rfl, hf2, hl2⟩ := loopE hn4
    try unfold ref12_Prefixes_L4 at hf2
    obtain ⟨l__e, h0, hf2⟩ := bindE hf2
    rcases bifE hf2 with ⟨c1, hf2⟩ | ⟨c1, hf2⟩
    ·obtain ⟨l__e1, h1, hf2⟩ := bindE hf2
     obtain ⟨g0, hf2⟩ := gdE hf2
     have o0 := slM 1 false (eI .i64) l__e1 0 k_.toNat
     obtain ⟨r_, h2, hf2⟩ := bindE hf2
     have o1 := hasF h_ref12_put (x := (out3, ((l__e1.drop 0).take (k_.toNat - 0)))) h2 (loC F9_ out3 <| loC F4_ ((l__e1.drop 0).take (k_.toNat - 0)) <| loN)
     obtain rfl := someE hf2
     exact awpBack X0 TTab_ok hC hm [0,3,4,5] 4000 [.a (F4_ l__e), aLn l__e.length, bT, .a (F4_ l__e1), .a (eSl 1 false (eI .i64) ((l__e1.drop 0).take (k_.toNat - 0))), .g [true, false], .a (F9_ r_)] J4 [(0, .d (eSl 1 false F4_ l_)), (3, .own (eOs 1 false F4_ r_)), (4, .d (I i_)), (5, .d (I (w64 (k_ + 1))))] [ob (i0 h0), ob (iM F4_ h0), ob (lnM (eI .i64) l__e), ob c1, ob (i0 h1), ob (iM F4_ h1), ob (slB g0), ob (sl010 (eI .i64) g0), ob o0, ob (hasG h_ref12_put), ob o1] (by kernel_rfl) fun st0 h0 => hJ4 st0 _ ((r_, w64 (k_ + 1)), m4) hl2 (Nat.lt_succ_self m4) h0 inferInstance
    ·obtain rfl := someE hf2
     obtain rfl := hl2
     exact awpBack X0 TTab_ok hC hm [0,3,4] 4000 [.a (F4_ l__e), aLn l__e.length, bF] J3 [(0, .d (eSl 1 false F4_ l_)), (3, .own (eOs 1 false F4_ out3)), (4, .d (I i_))] [ob (i0 h0), ob (iM F4_ h0), ob (lnM (eI .i64) l__e), ob c1] (by kernel_rfl) fun st0 h0 => hJ3 st0 _ out3 hf1 h0 inferInstance
  ·obtain rfl := someE hf1
   obtain rfl := hl1
   exact awpBack X0 TTab_ok hC hm [3] 4000 [aLn l_.length, bF] J1 [(3, .own (eOs 1 false F4_ out1))] [ob (lnM F4_ l_), ob c0] (by kernel_rfl) fun st0 h0 => hJ1 st0 _ out1 hf0 h0 inferInstance
noncomputable def bd_law12_list : Code := (Try.f37.body).getD .skip
noncomputable def sp_law12_list : Spec := spF (α := List (List Int)) (ρ := List (List Int)) 37 (fun x => [F10_ x]) (fun r => F10_ r) (fun x => law12_list x) [] (by
 rintro a0 b0 h
 have e0 := EncI.inj (f := F10_) _ _ (List.cons.inj h).1
 subst e0
 rfl)
theorem w_law12_list {ctr : Ctr} (hC : CtrOk Try.prog ctr) (hm : Try.prog.follows .mixedOrders = true) : sp_law12_list.Ok Try.prog := by
 refine spF_ok ?_
 rintro l_ r0 hf0
 try unfold law12_list at hf0
 refine callOk_h (tt := TTab) (keep := true) (rs := [(2, none)]) (n := ⟨4, []⟩) (body := bd_law12_list) TTab_ok Try.func37 rfl (by kernel_rfl) rfl rfl (by show (1 : Nat) ≤ 4; decide) fun E hE => ?_
 obtain rfl := someE hf0
 exact awpEnd X0 TTab_ok hC hm hE 4000 (hs := []) (x := (eSl 1 false F4_ l_)) [] (by kernel_rfl) (LeV.refl _)
noncomputable def bd_slices_CloneW_int_int : Code := (Try.f71.body).getD .skip
noncomputable def sp_slices_CloneW_int_int : Spec := spF (α := List (List Int)) (ρ := List (List Int)) 71 (fun x => [F10_ x]) (fun r => F9_ r) (fun x => slices_CloneW_int_int x) [] (by
 rintro a0 b0 h
 have e0 := EncI.inj (f := F10_) _ _ (List.cons.inj h).1
 subst e0
 rfl)
theorem w_slices_CloneW_int_int {ctr : Ctr} (hC : CtrOk Try.prog ctr) (hm : Try.prog.follows .mixedOrders = true) : sp_slices_CloneW_int_int.Ok Try.prog := by
 refine spF_ok ?_
 rintro s_ r0 hf0
 try unfold slices_CloneW_int_int at hf0
 refine callOk_h (tt := TTab) (keep := true) (rs := [(2, none)]) (n := ⟨8, []⟩) (body := bd_slices_CloneW_int_int) TTab_ok Try.func71 rfl (by kernel_rfl) rfl rfl (by show (1 : Nat) ≤ 8; decide) fun E hE => ?_
 refine awpPinD rfl 0 (sz := 1) (t := false) (es := s_.map F4_) (by kernel_rfl) fun pv0 hv0 hn => ?_
 rcases hn with ⟨hn0, he0⟩ | hn0
 ·obtain ⟨_, hf0⟩ := gdE hf0
  rw [show s_ = [] from List.map_eq_nil_iff.1 he0] at hf0
  obtain rfl := someE hf0
  exact awpEnd ((xNil TTab_ok 4 22 (by kernel_rfl) hn0).or ((xMv Try.prog 3 0 pv0 hv0).or X0)) TTab_ok hC hm hE 4000 (hs := [bT]) (x := (eOs 1 true F4_ [])) [ob ((rfl : some pv0 = some pv0)), ob ((⟨rfl, rfl⟩ : T.d (.atom pv0) = T.d (.atom pv0) ∧ T.d (.atom (.slice none 0 0)) = T.d (.atom (.slice none 0 0)))), oT] (by kernel_rfl) (show LeV (eOs 1 true F4_ []) (eOs 1 false F4_ ([] : List (List Int))) from inferInstance)
 ·obtain ⟨g0, hf0⟩ := gdE hf0
  have o0 := aL F4_ F4_ g0
  obtain rfl := someE hf0
  exact awpEnd ((xNil TTab_ok 4 22 (by kernel_rfl) hn0).or ((xMv Try.prog 3 0 pv0 hv0).or X0)) TTab_ok hC hm hE 4000 (hs := [bF, .l (s_.map F4_)]) (x := (eOs 1 false F4_ s_)) [ob ((rfl : some pv0 = some pv0)), ob ((⟨rfl, rfl⟩ : T.d (.atom pv0) = T.d (.atom pv0) ∧ T.d (.atom (.slice none 0 0)) = T.d (.atom (.slice none 0 0)))), oF, ob (dM F4_ s_), ob o0, ob (aM0 F4_ s_)] (by kernel_rfl) (LeV.refl _)
noncomputable def bd_tries_sorted_1 : Code := (Try.f80.body).getD .skip
noncomputable def sp_tries_sorted_1 : Spec := spF (α := List Int × List Int) (ρ := Bool) 80 (fun x => [F4_ x.1, F4_ x.2]) (fun r => eB r) (fun x => tries_sorted_1 x.1 x.2) [] (by
 rintro ⟨a0, a1⟩ ⟨b0, b1⟩ h
 have e0 := EncI.inj (f := F4_) _ _ (List.cons.inj h).1
 replace h := (List.cons.inj h).2
 have e1 := EncI.inj (f := F4_) _ _ (List.cons.inj h).1
 subst e0 e1
 rfl)
theorem w_tries_sorted_1 {ctr : Ctr} (hC : CtrOk Try.prog ctr) (hm : Try.prog.follows .mixedOrders = true) (h_words_Compare : ctr.Has sp_words_Compare) : sp_tries_sorted_1.Ok Try.prog := by
 refine spF_ok ?_
 rintro ⟨a_, b_⟩ r0 hf0
 try unfold tries_sorted_1 at hf0
 refine callOk_h (tt := TTab) (keep := true) (rs := [(4, none)]) (n := ⟨9, []⟩) (body := bd_tries_sorted_1) TTab_ok Try.func80 rfl (by kernel_rfl) rfl rfl (by show (2 : Nat) ≤ 9; decide) fun E hE => ?_
 obtain ⟨r_, h0, hf0⟩ := bindE hf0
 have o0 := hasF h_words_Compare (x := (a_, b_)) h0 (loC F4_ a_ <| loC F4_ b_ <| loN)
 obtain rfl := someE hf0
 exact awpEnd X0 TTab_ok hC hm hE 4000 (hs := [.g [], .a ((eI .i64) r_)]) (x := (B (r_ == 0))) [ob (hasG h_words_Compare), ob o0] (by kernel_rfl) (LeV.refl _)
noncomputable def bd_slices_CompactFuncW_int_int : Code := (Try.f79.body).getD .skip
noncomputable def sp_slices_CompactFuncW_int_int : Spec := spF (α := List (List Int) × Unit) (ρ := List (List Int)) 79 (fun x => [F9_ x.1, (eFn0 80) x.2]) (fun r => F9_ r) (fun x => slices_CompactFuncW_int_int x.1 x.2) [true, false] (by
 rintro ⟨a0, a1⟩ ⟨b0, b1⟩ h
 have e0 := EncI.inj (f := F9_) _ _ (List.cons.inj h).1
 replace h := (List.cons.inj h).2
 have e1 := EncI.inj (f := (eFn0 80)) _ _ (List.cons.inj h).1
 subst e0 e1
 rfl)
abbrev ST_slices_CompactFuncW_int_int_J1 (s_ : List (List Int)) : List (Nat × T) := [(0, .own (eOs 1 false F4_ s_))]
abbrev ST_slices_CompactFuncW_int_int_J3 (s_ : List (List Int)) (k_ : Int) : List (Nat × T) := [(0, .own (eOs 1 false F4_ s_)), (1, .d (.fn 80 [])), (5, .d (I k_))]
abbrev ST_slices_CompactFuncW_int_int_J4 (s_1 : List (List Int)) (k_1 : Int) : List (Nat × T) := [(0, .own (eOs 1 false F4_ s_1)), (5, .d (I k_1))]
abbrev ST_slices_CompactFuncW_int_int_J6 (pv0 : Value) (k_ : Int) (k2 : Int) (s_3 : List (List Int)) (k_3 : Int) : List (Nat × T) := [(0, .own (eOs 1 false F4_ s_3)), (1, .d (.fn 80 [])), (5, .d (I k_3)), (6, .d (.atom (cutV 1 pv0 k_))), (7, .d (I k2))]
abbrev ST_slices_CompactFuncW_int_int_L5 (pv0 : Value) (k_ : Int) (s_2 : List (List Int)) (k_2 : Int) (k2 : Int) : List (Nat × T) := [(0, .own (eOs 1 false F4_ s_2)), (1, .d (.fn 80 [])), (5, .d (I k_2)), (6, .d (.atom (cutV 1 pv0 k_))), (7, .d (I k2))]
abbrev ST_slices_CompactFuncW_int_int_L2 (s_ : List (List Int)) (k_ : Int) : List (Nat × T) := [(0, .own (eOs 1 false F4_ s_)), (1, .d (.fn 80 [])), (5, .d (I k_))]
theorem w_slices_CompactFuncW_int_int {ctr : Ctr} (hC : CtrOk Try.prog ctr) (hm : Try.prog.follows .mixedOrders = true) (h_tries_sorted_1 : ctr.Has sp_tries_sorted_1) : sp_slices_CompactFuncW_int_int.Ok Try.prog := by
 refine spF_ok ?_
 rintro ⟨s_, eq⟩ r0 hf0
 try unfold slices_CompactFuncW_int_int at hf0
 refine callOk_h (tt := TTab) (keep := true) (rs := [(4, none)]) (n := ⟨66, []⟩) (body := bd_slices_CompactFuncW_int_int) TTab_ok Try.func79 rfl (by kernel_rfl) rfl rfl (by show (2 : Nat) ≤ 66; decide) fun E hE => ?_
 refine awpPin1 (y := eOs 1 false F4_ s_) rfl 0 (by kernel_rfl) (by kernel_rfl) fun pv0 hv0 => ?_
 rcases bifE hf0 with ⟨c0, hf0⟩ | ⟨c0, hf0⟩
 ·obtain rfl := someE hf0
  exact awpEnd ((xCut TTab_ok 64).or X0) TTab_ok hC hm hE 4000 (hs := [aLn s_.length, bT]) (x := (eOs 1 false F4_ s_)) [ob (lnM F4_ s_), ob c0] (by kernel_rfl) (LeV.refl _)
 ·refine awpAt ((xCut TTab_ok 64).or X0) TTab_ok hC hm [0,1] 4000 [aLn s_.length, bF, .cut 0] (sub [1,1] bd_slices_CompactFuncW_int_int) (frs [1,1] [] bd_slices_CompactFuncW_int_int []) [(0, .own (eOs 1 false F4_ s_)), (1, .d (.fn 80 []))] [ob (lnM F4_ s_), ob c0] (by kernel_rfl) fun st0 h0 => ?_
  refine awpJoin' (X := Unit) (x := (sub [1,1,2] bd_slices_CompactFuncW_int_int)) (y := (sub [1,1,1] bd_slices_CompactFuncW_int_int)) (by kernel_rfl) [0] [0,1] _ h0 (fun z => slices_CompactFuncW_int_int_J1 s_ = some r0) (fun z => ST_slices_CompactFuncW_int_int_J1 s_) ?_ fun J1 hJ1 => ?_
  ·rintro ⟨⟩ hf0
   unfold slices_CompactFuncW_int_int_J1 at hf0
   obtain rfl := someE hf0
   exact awpEnd ((xCut TTab_ok 64).or X0) TTab_ok hC hm hE 4000 (hs := []) (x := (eOs 1 false F4_ s_)) [] (by kernel_rfl) (LeV.refl _)
  ·obtain ⟨t2, ht2, hf0⟩ := bindE hf0
   refine awpAt ((xCut TTab_ok 64).or X0) TTab_ok hC hm [0,1,5] 4000 [] (sub [1,1,2,1,0] bd_slices_CompactFuncW_int_int) (frs [1,1,2,1,0] [J1] bd_slices_CompactFuncW_int_int []) [(0, .own (eOs 1 false F4_ s_)), (1, .d (.fn 80 [])), (5, .d (I 1))] [] (by kernel_rfl) fun st0 h0 => ?_
   refine awpLoop' (X := Int × Nat) (c' := (sub [1,1,2,1,0,0] bd_slices_CompactFuncW_int_int)) (by kernel_rfl) [0,1,5] (fun x => loopN (fun s => slices_CompactFuncW_int_int_L2 s_ s) x.2 x.1 = some t2) (fun x => x.2) (fun x => ST_slices_CompactFuncW_int_int_L2 s_ x.1) (1, fuel) _ h0 inferInstance ht2 ?_
   rintro ⟨k_, n2⟩ hn2 J2 hJ2
   obtain ⟨m2, lr1, rfl, hf1, hl1⟩ := loopE hn2
   try unfold slices_CompactFuncW_int_int_L2 at hf1
   rcases bifE hf1 with ⟨c1, hf1⟩ | ⟨c1, hf1⟩
   ·refine awpAt ((xCut TTab_ok 64).or X0) TTab_ok hC hm [0,1,5] 4000 [aLn s_.length, bT, .cut 0] (sub [1,1,2,1,0,0,1] bd_slices_CompactFuncW_int_int) (frs [1,1,2,1,0,0,1] [J1, J2] bd_slices_CompactFuncW_int_int []) [(0, .own (eOs 1 false F4_ s_)), (1, .d (.fn 80 [])), (5, .d (I k_))] [ob (lnM F4_ s_), ob c1] (by kernel_rfl) fun st0 h0 => ?_
    refine awpJoin' (X := Unit) (x := (sub [1,1,2,1,0,0,1,2] bd_slices_CompactFuncW_int_int)) (y := (sub [1,1,2,1,0,0,1,1] bd_slices_CompactFuncW_int_int)) (by kernel_rfl) [0,1,5] [0,1,5] _ h0 (fun z => slices_CompactFuncW_int_int_J3 k_ = some lr1) (fun z => ST_slices_CompactFuncW_int_int_J3 s_ k_) ?_ fun J3 hJ3 => ?_
    ·rintro ⟨⟩ hf1
     unfold slices_CompactFuncW_int_int_J3 at hf1
     obtain rfl := someE hf1
     exact awpBack ((xCut TTab_ok 64).or X0) TTab_ok hC hm [0,1,5] 4000 [] J2 [(0, .own (eOs 1 false F4_ s_)), (1, .d (.fn 80 [])), (5, .d (I (w64 (k_ + 1))))] [] (by kernel_rfl) fun st0 h0 => hJ2 st0 _ (w64 (k_ + 1), m2) hl1 (Nat.lt_succ_self m2) h0 inferInstance
    ·obtain ⟨s__e, h0, hf1⟩ := bindE hf1
     obtain ⟨s__e1, h1, hf1⟩ := bindE hf1
     obtain ⟨r_, h2, hf1⟩ := bindE hf1
     have o0 := hasF h_tries_sorted_1 (x := (s__e, s__e1)) h2 (loC F4_ s__e <| loC F4_ s__e1 <| loN)
     rcases bifE hf1 with ⟨c2, hf1⟩ | ⟨c2, hf1⟩
     ·obtain ⟨g0, hf1⟩ := gdE hf1
      have o1 := (⟨g0.1, cuB F4_ g0⟩ : (0 : Int) ≤ k_ ∧ k_.toNat ≤ (s_.map F4_).length)
      refine awpAt ((xAs Try.prog 6 (cutV 1 pv0 k_)).or ((xVw TTab_ok 31 0 pv0).or ((xCut TTab_ok 64).or X0))) TTab_ok hC hm [0,1,5,6] 4000 [.a (F4_ s__e), .a (F4_ s__e1), .g [], .a (eB r_), bT, .cut 1] (sub [1,1,2,1,0,0,1,2,0,1,0,1] bd_slices_CompactFuncW_int_int) (frs [1,1,2,1,0,0,1,2,0,1,0,1] [J1, J2, J3] bd_slices_CompactFuncW_int_int []) [(0, .own (eOs 1 false F4_ s_)), (1, .d (.fn 80 [])), (5, .d (I k_)), (6, .d (.atom (cutV 1 pv0 k_)))] [ob (iL F4_ h0), ob (iM F4_ h0), ob (iL F4_ h1), ob (iM F4_ h1), ob (hasG h_tries_sorted_1), ob o0, ob c2, ob ((⟨.inl rfl, rfl⟩ : (T.als 0 [] 0 0 = T.als 0 [] 0 0 ∨ T.als 0 [] 0 0 = T.d (.atom pv0)) ∧ some pv0 = some pv0)), ob o1, ob ((rfl : T.d (.atom (cutV 1 pv0 k_)) = T.d (.atom (cutV 1 pv0 k_))))] (by kernel_rfl) fun st0 h0 => ?_
      refine awpJoin' (X := List (List Int) × Int) (x := (sub [1,1,2,1,0,0,1,2,0,1,0,1,2] bd_slices_CompactFuncW_int_int)) (y := (sub [1,1,2,1,0,0,1,2,0,1,0,1,1] bd_slices_CompactFuncW_int_int)) (by kernel_rfl) [0,5] [0,1,5,6] _ h0 (fun z => slices_CompactFuncW_int_int_J4 z.1 z.2 = some lr1) (fun z => ST_slices_CompactFuncW_int_int_J4 z.1 z.2) ?_ fun J4 hJ4 => ?_
      ·rintro ⟨s_1, k_1⟩ hf1
       unfold slices_CompactFuncW_int_int_J4 at hf1
       obtain ⟨g1, hf1⟩ := gdE hf1
       have o2 := (⟨g1.1, cuB F4_ g1⟩ : (0 : Int) ≤ k_1 ∧ k_1.toNat ≤ (s_1.map F4_).length)
       obtain ⟨g2, hf1⟩ := gdE hf1
       have o3 := (⟨g2.1, cuB F4_ g2, dM F4_ s_1⟩ : (0 : Int) ≤ k_1 ∧ k_1.toNat ≤ (s_1.map F4_).length ∧ A.areD (s_1.map F4_) = true)
       have o4 := vcM F4_ s_1 k_1.toNat ([] : List Int)
       obtain ⟨g3, hf1⟩ := gdE hf1
       have o5 := cuM F4_ (s_1.take k_1.toNat ++ List.replicate (s_1.length - k_1.toNat) []) k_1
       obtain rfl := someE hf1
       obtain rfl := hl1
       obtain rfl := someE hf0
       exact awpEnd ((xVc TTab_ok 61 1 0 pv0 k_1).or ((xVw TTab_ok 61 0 pv0).or ((xCut TTab_ok 64).or X0))) TTab_ok hC hm hE 4000 (hs := [.l ((s_1.take k_1.toNat ++ List.replicate (s_1.length - k_1.toNat) []).map F4_), .l (((s_1.take k_1.toNat ++ List.replicate (s_1.length - k_1.toNat) []).take k_1.toNat).map F4_)]) (x := (eOs 1 false F4_ ((s_1.take k_1.toNat ++ List.replicate (s_1.length - k_1.toNat) []).take k_1.toNat))) [ob ((⟨.inl rfl, rfl⟩ : (T.als 0 [] 0 0 = T.als 0 [] 0 0 ∨ T.als 0 [] 0 0 = T.d (.atom pv0)) ∧ some pv0 = some pv0)), ob o2, ob ((⟨rfl, rfl⟩ : T.d (.atom (cutV 1 pv0 k_1)) = T.d (.atom (cutV 1 pv0 k_1)) ∧ some pv0 = some pv0)), ob o3, ob o4, ob (g3.1), ob (cuB F4_ g3), ob o5] (by kernel_rfl) (LeV.refl _)
      ·obtain ⟨t5, ht5, hf1⟩ := bindE hf1
       refine awpAt ((xCut TTab_ok 64).or X0) TTab_ok hC hm [0,1,5,6,7] 4000 [] (sub [1,1,2,1,0,0,1,2,0,1,0,1,2,1,0] bd_slices_CompactFuncW_int_int) (frs [1,1,2,1,0,0,1,2,0,1,0,1,2,1,0] [J1, J2, J3, J4] bd_slices_CompactFuncW_int_int []) [(0, .own (eOs 1 false F4_ s_)), (1, .d (.fn 80 [])), (5, .d (I k_)), (6, .d (.atom (cutV 1 pv0 k_))), (7, .d (I 1))] [] (by kernel_rfl) fun st0 h0 => ?_
       refine awpLoop' (X := (List (List Int) × Int × Int) × Nat) (c' := (sub [1,1,2,1,0,0,1,2,0,1,0,1,2,1,0,0] bd_slices_CompactFuncW_int_int)) (by kernel_rfl) [0,1,5,6,7] (fun x => loopN (fun s => slices_CompactFuncW_int_int_L5 k_ s.1 s.2.1 s.2.2) x.2 x.1 = some t5) (fun x => x.2) (fun x => ST_slices_CompactFuncW_int_int_L5 pv0 k_ x.1.1 x.1.2.1 x.1.2.2) ((s_, k_, 1), fuel) _ h0 inferInstance ht5 ?_
       rintro ⟨⟨s_2, k_2, k2⟩, n5⟩ hn5 J5 hJ5
       obtain ⟨m5, lr2, rfl, hf2, hl2⟩ := loopE hn5
       try unfold slices_CompactFuncW_int_int_L5 at hf2
       have o6 := vlM F4_ s_2 k_.toNat
       rcases bifE hf2 with ⟨c3, hf2⟩ | ⟨c3, hf2⟩
       ·refine awpAt ((xVl TTab_ok 34 22 1 0 pv0 k_ (by kernel_rfl)).or ((xCut TTab_ok 64).or X0)) TTab_ok hC hm [0,1,5,6,7] 4000 [.a (.atom (.int .i64 ((s_2.length - k_.toNat : Nat) : Int))), bT, .cut 0] (sub [1,1,2,1,0,0,1,2,0,1,0,1,2,1,0,0,1] bd_slices_CompactFuncW_int_int) (frs [1,1,2,1,0,0,1,2,0,1,0,1,2,1,0,0,1] [J1, J2, J3, J4, J5] bd_slices_CompactFuncW_int_int []) [(0, .own (eOs 1 false F4_ s_2)), (1, .d (.fn 80 [])), (5, .d (I k_2)), (6, .d (.atom (cutV 1 pv0 k_))), (7, .d (I k2))] [ob ((⟨rfl, rfl⟩ : T.d (.atom (cutV 1 pv0 k_)) = T.d (.atom (cutV 1 pv0 k_)) ∧ some pv0 = some pv0)), ob o6, ob c3] (by kernel_rfl) fun st0 h0 => ?_
        refine awpJoin' (X := List (List Int) × Int) (x := (sub [1,1,2,1,0,0,1,2,0,1,0,1,2,1,0,0,1,2] bd_slices_CompactFuncW_int_int)) (y := (sub [1,1,2,1,0,0,1,2,0,1,0,1,2,1,0,0,1,1] bd_slices_CompactFuncW_int_int)) (by kernel_rfl) [0,1,5,6,7] [0,1,5,6,7] _ h0 (fun z => slices_CompactFuncW_int_int_J6 k2 z.1 z.2 = some lr2) (fun z => ST_slices_CompactFuncW_int_int_J6 pv0 k_ k2 z.1 z.2) ?_ fun J6 hJ6 => ?_
        ·rintro ⟨s_3, k_3⟩ hf2
         unfold slices_CompactFuncW_int_int_J6 at hf2
         obtain rfl := someE hf2
         exact awpBack ((xCut TTab_ok 64).or X0) TTab_ok hC hm [0,1,5,6,7] 4000 [] J5 [(0, .own (eOs 1 false F4_ s_3)), (1, .d (.fn 80 [])), (5, .d (I k_3)), (6, .d (.atom (cutV 1 pv0 k_))), (7, .d (I (w64 (k2 + 1))))] [] (by kernel_rfl) fun st0 h0 => hJ5 st0 _ ((s_3, k_3, w64 (k2 + 1)), m5) hl2 (Nat.lt_succ_self m5) h0 inferInstance
        ·obtain ⟨g4, hf2⟩ := gdE hf2
         obtain ⟨s__e2, h3, hf2⟩ := bindE hf2
         have o7 := (⟨g4.1, g4.2, (iL F4_ h3).2⟩ : (0 : Int) ≤ k_ ∧ (0 : Int) ≤ k2 ∧ (k_ + k2).toNat < (s_2.map F4_).length)
         obtain ⟨g5, hf2⟩ := gdE hf2
         obtain ⟨s__e3, h4, hf2⟩ := bindE hf2
         have o8 := (⟨g5.1, g5.2, (iL F4_ h4).2⟩ : (0 : Int) ≤ k_ ∧ (0 : Int) ≤ w64 (k2 - 1) ∧ (k_ + (w64 (k2 - 1))).toNat < (s_2.map F4_).length)
         obtain ⟨r_1, h5, hf2⟩ := bindE hf2
         have o9 := hasF h_tries_sorted_1 (x := (s__e2, s__e3)) h5 (loC F4_ s__e2 <| loC F4_ s__e3 <| loN)
         rcases bifE hf2 with ⟨c4, hf2⟩ | ⟨c4, hf2⟩
         ·obtain ⟨g6, hf2⟩ := gdE hf2
          obtain ⟨s__e4, h6, hf2⟩ := bindE hf2
          have o10 := (⟨g6.1, g6.2, (iL F4_ h6).2⟩ : (0 : Int) ≤ k_ ∧ (0 : Int) ≤ k2 ∧ (k_ + k2).toNat < (s_2.map F4_).length)
          obtain ⟨s__e5, h7, hf2⟩ := bindE hf2
          have o11 := sM F4_ s_2 k_2 s__e4
          exact awpBack ((xVi TTab_ok 54 1 0 pv0 k_).or ((xVi TTab_ok 46 1 0 pv0 k_).or ((xVi TTab_ok 41 1 0 pv0 k_).or ((xCut TTab_ok 64).or X0)))) TTab_ok hC hm [0,1,5,6,7] 4000 [.a (F4_ s__e2), .a (F4_ s__e3), .g [], .a (eB r_1), bT, .a (F4_ s__e4), .a (F4_ s__e5), .a (F4_ s__e5), .l ((s_2.set k_2.toNat s__e4).map F4_)] J6 [(0, .own (eOs 1 false F4_ (s_2.set k_2.toNat s__e4))), (1, .d (.fn 80 [])), (5, .d (I (w64 (k_2 + 1)))), (6, .d (.atom (cutV 1 pv0 k_))), (7, .d (I k2))] [ob ((⟨rfl, rfl⟩ : T.d (.atom (cutV 1 pv0 k_)) = T.d (.atom (cutV 1 pv0 k_)) ∧ some pv0 = some pv0)), ob o7, ob (iM F4_ h3), ob ((⟨rfl, rfl⟩ : T.d (.atom (cutV 1 pv0 k_)) = T.d (.atom (cutV 1 pv0 k_)) ∧ some pv0 = some pv0)), ob o8, ob (iM F4_ h4), ob (hasG h_tries_sorted_1), ob o9, ob c4, ob ((⟨rfl, rfl⟩ : T.d (.atom (cutV 1 pv0 k_)) = T.d (.atom (cutV 1 pv0 k_)) ∧ some pv0 = some pv0)), ob o10, ob (iM F4_ h6), ob (iL F4_ h7), ob (iM F4_ h7), ob (iM F4_ h7), ob o11] (by kernel_rfl) fun st0 h0 => hJ6 st0 _ ((s_2.set k_2.toNat s__e4), w64 (k_2 + 1)) hf2 h0 inferInstance
         ·exact awpBack ((xVi TTab_ok 46 1 0 pv0 k_).or ((xVi TTab_ok 41 1 0 pv0 k_).or ((xCut TTab_ok 64).or X0))) TTab_ok hC hm [0,1,5,6,7] 4000 [.a (F4_ s__e2), .a (F4_ s__e3), .g [], .a (eB r_1), bF] J6 [(0, .own (eOs 1 false F4_ s_2)), (1, .d (.fn 80 [])), (5, .d (I k_2)), (6, .d (.atom (cutV 1 pv0 k_))), (7, .d (I k2))] [ob ((⟨rfl, rfl⟩ : T.d (.atom (cutV 1 pv0 k_)) = T.d (.atom (cutV 1 pv0 k_)) ∧ some pv0 = some pv0)), ob o7, ob (iM F4_ h3), ob ((⟨rfl, rfl⟩ : T.d (.atom (cutV 1 pv0 k_)) = T.d (.atom (cutV 1 pv0 k_)) ∧ some pv0 = some pv0)), ob o8, ob (iM F4_ h4), ob (hasG h_tries_sorted_1), ob o9, ob c4] (by kernel_rfl) fun st0 h0 => hJ6 st0 _ (s_2, k_2) hf2 h0 inferInstance
       ·obtain rfl := someE hf2
        obtain rfl := hl2
        exact awpBack ((xVl TTab_ok 34 22 1 0 pv0 k_ (by kernel_rfl)).or ((xCut TTab_ok 64).or X0)) TTab_ok hC hm [0,5] 4000 [.a (.atom (.int .i64 ((s_2.length - k_.toNat : Nat) : Int))), bF] J4 [(0, .own (eOs 1 false F4_ s_2)), (5, .d (I k_2))] [ob ((⟨rfl, rfl⟩ : T.d (.atom (cutV 1 pv0 k_)) = T.d (.atom (cutV 1 pv0 k_)) ∧ some pv0 = some pv0)), ob o6, ob c3] (by kernel_rfl) fun st0 h0 => hJ4 st0 _ (s_2, k_2) hf1 h0 inferInstance
     ·exact awpBack ((xCut TTab_ok 64).or X0) TTab_ok hC hm [0,1,5] 4000 [.a (F4_ s__e), .a (F4_ s__e1), .g [], .a (eB r_), bF] J3 [(0, .own (eOs 1 false F4_ s_)), (1, .d (.fn 80 [])), (5, .d (I k_))] [ob (iL F4_ h0), ob (iM F4_ h0), ob (iL F4_ h1), ob (iM F4_ h1), ob (hasG h_tries_sorted_1), ob o0, ob c2] (by kernel_rfl) fun st0 h0 => hJ3 st0 _ () hf1 h0 inferInstance
   ·obtain rfl := someE hf1
    obtain rfl := hl1
    exact awpBack ((xCut TTab_ok 64).or X0) TTab_ok hC hm [0] 4000 [aLn s_.length, bF] J1 [(0, .own (eOs 1 false F4_ s_))] [ob (lnM F4_ s_), ob c1] (by kernel_rfl) fun st0 h0 => hJ1 st0 _ () hf0 h0 inferInstance
noncomputable def bd_slices_ClipW_int_int_v1 : Code := (Try.f69.body).getD .skip
noncomputable def sp_slices_ClipW_int_int_v1 : Spec := spR (α := List (List Int)) (ρ := List (List Int)) 69 (fun x => [F9_ x]) (fun r => F8_ r) (fun x => slices_ClipW_int_int_v1 x) [true] (by
 rintro a0 b0 h
 have e0 := EncI.inj (f := F9_) _ _ (List.cons.inj h).1
 subst e0
 rfl)
theorem hs_slices_ClipW_int_int_v1 : ∀ x r, (fun x => slices_ClipW_int_int_v1 x) x = some r → (ctr0.add sp_slices_ClipW_int_int_v1).run 69 ((ctr0.add sp_slices_ClipW_int_int_v1).norm 69 ((fun x => [F9_ x]) x)) = some ((fun r => F8_ r) r) := fun x r h => hasR h rfl
theorem hg_slices_ClipW_int_int_v1 : (ctr0.add sp_slices_ClipW_int_int_v1).lend 69 = none ∧ (ctr0.add sp_slices_ClipW_int_int_v1).gives 69 = [true] := hasRG
theorem w_slices_ClipW_int_int_v1 {ctr : Ctr} (hC : CtrOk Try.prog ctr) (hm : Try.prog.follows .mixedOrders = true) : sp_slices_ClipW_int_int_v1.Ok Try.prog := by
 refine spR_ok ?_
 rintro s_ r0 hf0
 try unfold slices_ClipW_int_int_v1 at hf0
 refine callOk_h (tt := TTab) (keep := true) (rs := [(2, none)]) (n := ⟨9, []⟩) (body := bd_slices_ClipW_int_int_v1) TTab_ok Try.func69 rfl (by kernel_rfl) rfl rfl (by show (1 : Nat) ≤ 9; decide) fun E hE => ?_
 have o0 := (Int.natCast_nonneg _ : (0 : Int) ≤ ((s_.length : Nat) : Int))
 have o1 := (Int.natCast_nonneg _ : (0 : Int) ≤ ((s_.length : Nat) : Int))
 obtain rfl := someE hf0
 exact awpEnd ((xCl TTab_ok 8).or X0) TTab_ok hC hm hE 4000 (hs := [aLn s_.length, aLn s_.length, .a (eOs 1 true F4_ s_)]) (x := (eOs 1 true F4_ s_)) [ob (lnM F4_ s_), ob (lnM F4_ s_), ob o0, ob o1, ob (clB F4_ s_), ob (clE 1 F4_ s_)] (by kernel_rfl) (LeV.refl _)
noncomputable def bd_tries_sorted : Code := (Try.f51.body).getD .skip
noncomputable def sp_tries_sorted : Spec := spF (α := List (List Int)) (ρ := List (List Int) × Int) 51 (fun x => [F10_ x]) (fun r => .tup [F5_ r.1, (eI .i64) r.2]) (fun x => tries_sorted x) [] (by
 rintro a0 b0 h
 have e0 := EncI.inj (f := F10_) _ _ (List.cons.inj h).1
 subst e0
 rfl)
abbrev ST_tries_sorted_J1 (out : List (List Int × Bool)) : List (Nat × T) := [(4, .own (eOs 1 true (eFl 1 (eI .i64)) out))]
abbrev ST_tries_sorted_L2 (pv4 : Value) (r_2 : List (List Int)) (out2 : List (List Int × Bool)) (x24 : Int) : List (Nat × T) := [(4, .own (eOs 1 true (eFl 1 (eI .i64)) out2)), (22, .d (.atom (cutV 1 pv4 (0 : Int)))), (23, .d (I ((r_2.length - (0 : Int).toNat : Nat) : Int))), (24, .d (I x24))]
theorem w_tries_sorted {ctr : Ctr} (hC : CtrOk Try.prog ctr) (hm : Try.prog.follows .mixedOrders = true) (h_slices_CloneW_int_int : ctr.Has sp_slices_CloneW_int_int) (h_words_Compare : ctr.Has sp_words_Compare) (h_slices_CompactFuncW_int_int : ctr.Has sp_slices_CompactFuncW_int_int) (h_tries_steps : ctr.Has sp_tries_steps) (h_slices_Clone_int_int : ctr.Has sp_slices_Clone_int_int) (h_slices_Clip_int_int : ctr.Has sp_slices_Clip_int_int) : sp_tries_sorted.Ok Try.prog := by
 refine spF_ok ?_
 rintro l_ r0 hf0
 try unfold tries_sorted at hf0
 refine callOk_h (tt := TTab) (keep := false) (rs := [(2, none), (3, none)]) (n := ⟨37, []⟩) (body := bd_tries_sorted) TTab_ok Try.func51 rfl (by kernel_rfl) rfl rfl (by show (1 : Nat) ≤ 37; decide) fun E hE => ?_
 obtain ⟨r_, h0, hf0⟩ := bindE hf0
 have o0 := hasF h_slices_CloneW_int_int (x := l_) h0 (loC F10_ l_ <| loN)
 refine awpAt X0 TTab_ok hC hm [4] 4000 [.g [], .a (F9_ r_), .cut 0] (sub [1,1] bd_tries_sorted) (frs [1,1] [] bd_tries_sorted []) [(4, .own (eOs 1 false F4_ r_))] [ob (hasG h_slices_CloneW_int_int), ob o0] (by kernel_rfl) fun st0 h0 => awpOf h0 ?_
 obtain ⟨sorted, h1, hf0⟩ := bindE hf0
 refine awpPinSeq (by kernel_rfl) (x := (sub [1,1,0] bd_tries_sorted)) (y := (sub [1,1,1] bd_tries_sorted)) 4 (fun st1 => Own.canon [4] st1 = ofL [(4, .own (eOs 1 false F4_ sorted))]) (fun pv4 => awpFin ((xLend (P := Try.prog) TTab [4] (sort_lent so_77 (f := F4_) (t := false) (v := pv4) (fun _ => rfl) (fun _ => rfl) (fun x y c h => hasCall hC h_words_Compare (x := (x, y)) h) h1) 10).or X0) TTab_ok hC hm [4] 4000 [] .normal [(4, .own (eOs 1 false F4_ sorted))] [ob (tabC_at (f := .fn 77 []) (xs := [.atom pv4, .fn 78 []]) (ls := [(pv4, eOs 1 false F4_ r_)]) (r := .tup []) (ys := [eOs 1 false F4_ sorted]) [.atom pv4, .fn 78 []] (show LeTs [.atom pv4, .fn 78 []] [.atom pv4, .fn 78 []] from inferInstance))] (by kernel_rfl) fun st0 h0 => ⟨rfl, h0⟩) fun st1 h1 => awpOf h1 ?_
 obtain ⟨r_1, h2, hf0⟩ := bindE hf0
 have o1 := hasF h_slices_CompactFuncW_int_int (x := (sorted, ())) h2 (loC F9_ sorted <| loC (eFn0 80) () <| loN)
 obtain ⟨r_2, h3, hf0⟩ := bindE hf0
 have o2 := hs_slices_ClipW_int_int_v1 r_1 _ h3
 rcases bifE hf0 with ⟨c0, hf0⟩ | ⟨c0, hf0⟩
 ·have o3 := shM F4_ F4_ []
  obtain rfl := someE hf0
  exact awpEnd ((xSpec TTab_ok (w_slices_ClipW_int_int_v1 hC hm) 13).or X0) TTab_ok hC hm hE 4000 (hs := (.g [true, false] :: .a (F9_ r_1) :: .g [true] :: .a (F8_ r_2) :: aLn r_2.length :: (rpN 5 bT [.l ([].map F4_)]))) (x := (.tup [eSl 1 true F1_ [], I 3])) (ob (hasG h_slices_CompactFuncW_int_int) :: ob o1 :: ob hg_slices_ClipW_int_int_v1 :: ob o2 :: ob (lnM F4_ r_2) :: (rpN 4 (ob c0) [oT, ob o3])) (by kernel_rfl) (show LeV (.tup [eSl 1 true F1_ [], I 3]) (.tup [eSl 1 true F1_ ([] : List (List Int)), I 3]) from inferInstance)
 ·have o4 := shM F4_ F4_ r_2
  obtain ⟨r_3, h4, hf0⟩ := bindE hf0
  have o5 := hasF h_tries_steps (x := r_2) h4 (loC (eSl 1 true F4_) r_2 <| loN)
  rcases bifE hf0 with ⟨c1, hf0⟩ | ⟨c1, hf0⟩
  ·have o6 := shM F4_ F4_ []
   obtain rfl := someE hf0
   exact awpEnd ((xSpec TTab_ok (w_slices_ClipW_int_int_v1 hC hm) 13).or X0) TTab_ok hC hm hE 4000 (hs := [.g [true, false], .a (F9_ r_1), .g [true], .a (F8_ r_2), aLn r_2.length, bF, bF, .g [], .l (r_2.map F4_), .a ((eI .i64) r_3), bF, bF, bT, .l ([].map F4_)]) (x := (.tup [eSl 1 true F1_ [], I 3])) [ob (hasG h_slices_CompactFuncW_int_int), ob o1, ob hg_slices_ClipW_int_int_v1, ob o2, ob (lnM F4_ r_2), ob c0, ob c0, ob (hasG h_tries_steps), ob o4, ob o5, ob c0, ob c0, ob c1, ob o6] (by kernel_rfl) (show LeV (.tup [eSl 1 true F1_ [], I 3]) (.tup [eSl 1 true F1_ ([] : List (List Int)), I 3]) from inferInstance)
  ·refine awpAt ((xSpec TTab_ok (w_slices_ClipW_int_int_v1 hC hm) 13).or X0) TTab_ok hC hm [4] 4000 [.g [true, false], .a (F9_ r_1), .g [true], .a (F8_ r_2), aLn r_2.length, bF, bF, .g [], .l (r_2.map F4_), .a ((eI .i64) r_3), bF, bF, bF, .cut 0] (sub [1,1,1,1,1] bd_tries_sorted) (frs [1,1,1,1,1] [] bd_tries_sorted []) [(4, .own (eOs 1 true F4_ r_2))] [ob (hasG h_slices_CompactFuncW_int_int), ob o1, ob hg_slices_ClipW_int_int_v1, ob o2, ob (lnM F4_ r_2), ob c0, ob c0, ob (hasG h_tries_steps), ob o4, ob o5, ob c0, ob c0, ob c1] (by kernel_rfl) fun st0 h0 => awpOf h0 ?_
   refine awpPin1 (y := eOs 1 true F4_ r_2) (by kernel_rfl) 4 (by kernel_rfl) (by kernel_rfl) fun pv4 hv4 => ?_
   refine awpAt X0 TTab_ok hC hm [4] 4000 [.cut 0] (sub [1,1,1,1,1] bd_tries_sorted) (frs [1,1,1,1,1] [] bd_tries_sorted []) [(4, .own (eOs 1 true F4_ r_2))] [] (by kernel_rfl) fun st0 h0 => ?_
   refine awpJoin' (X := List (List Int × Bool)) (x := (sub [1,1,1,1,1,2] bd_tries_sorted)) (y := (sub [1,1,1,1,1,1] bd_tries_sorted)) (by kernel_rfl) [4] [4] _ h0 (fun z => tries_sorted_J1 z = some r0) (fun z => ST_tries_sorted_J1 z) ?_ fun J1 hJ1 => ?_
   ·rintro out hf0
    unfold tries_sorted_J1 at hf0
    have o7 := shM (eFl 1 (eI .i64)) (eFl 1 (eI .i64)) out
    obtain ⟨hfl0, hf0⟩ := gdE hf0
    obtain rfl := someE hf0
    exact awpEnd X0 TTab_ok hC hm hE 4000 (hs := [.l (out.map (eFl 1 (eI .i64)))]) (x := (.tup [eSl 1 true (eFl 1 (eI .i64)) out, I 0])) [ob o7] (by kernel_rfl) (haveI := flA (s := 1) (t := 1) (b := true) (f := (eI .i64)) hfl0; show LeV (.tup [eSl 1 true (eFl 1 (eI .i64)) out, I 0]) (.tup [eSl 1 true F1_ (out.map (·.1)), I 0]) from inferInstance)
   ·have o8 := vlM F4_ r_2 (0 : Int).toNat
    obtain ⟨t2, ht2, hf0⟩ := bindE hf0
    refine awpAt ((xVl TTab_ok 23 22 1 4 pv4 (0 : Int) (by kernel_rfl)).or ((xMw Try.prog 22 4 1 pv4).or X0)) TTab_ok hC hm [4,22,23,24] 4000 [.a (.atom (.int .i64 ((r_2.length - (0 : Int).toNat : Nat) : Int)))] (sub [1,1,1,1,1,2,1,0] bd_tries_sorted) (frs [1,1,1,1,1,2,1,0] [J1] bd_tries_sorted []) [(4, .own (eOs 1 true F4_ r_2)), (22, .d (.atom (cutV 1 pv4 (0 : Int)))), (23, .d (I ((r_2.length - (0 : Int).toNat : Nat) : Int))), (24, .d (I 0))] [ob ((rfl : some pv4 = some pv4)), ob ((⟨rfl, rfl⟩ : T.d (.atom (cutV 1 pv4 (0 : Int))) = T.d (.atom (cutV 1 pv4 (0 : Int))) ∧ some pv4 = some pv4)), ob o8] (by kernel_rfl) fun st0 h0 => ?_
    refine awpLoop' (X := ((List (List Int × Bool)) × Int) × Nat) (c' := (sub [1,1,1,1,1,2,1,0,0] bd_tries_sorted)) (by kernel_rfl) [4,22,23,24] (fun x => loopN (fun s => tries_sorted_L2 r_2 s.1 s.2) x.2 x.1 = some t2) (fun x => x.2) (fun x => ST_tries_sorted_L2 pv4 r_2 x.1.1 x.1.2) (((r_2.map fun q => (q, false)), 0), fuel) _ h0 inferInstance ht2 ?_
    rintro ⟨⟨out2, x24⟩, n2⟩ hn2 J2 hJ2
    obtain ⟨m2, lr1, rfl, hf1, hl1⟩ := loopE hn2
    try unfold tries_sorted_L2 at hf1
    rcases bifE hf1 with ⟨c2, hf1⟩ | ⟨c2, hf1⟩
    ·obtain ⟨g0, hf1⟩ := gdE hf1
     obtain ⟨out_e, h5, hf1⟩ := bindE hf1
     have o9 := (⟨g0.1, g0.2, (iL (eFl 1 (eI .i64)) h5).2⟩ : (0 : Int) ≤ 0 ∧ (0 : Int) ≤ x24 ∧ (0 + x24).toNat < (out2.map (eFl 1 (eI .i64))).length)
     obtain ⟨r_4, h6, hf1⟩ := bindE hf1
     have o10 := hasF h_slices_Clone_int_int (x := out_e.1) h6 (loC (eSl 1 out_e.2 (eI .i64)) out_e.1 <| loN)
     obtain ⟨r_5, h7, hf1⟩ := bindE hf1
     have o11 := hasF h_slices_Clip_int_int (x := r_4) h7 (loC F4_ r_4 <| loN)
     obtain ⟨out_e1, h8, hf1⟩ := bindE hf1
     have o12 := sM (eFl 1 (eI .i64)) out2 x24 (r_5, true)
     obtain rfl := someE hf1
     exact awpBack ((xVi TTab_ok 27 1 4 pv4 (0 : Int)).or X0) TTab_ok hC hm [4,22,23,24] 4000 [bT, .a ((eFl 1 (eI .i64)) out_e), .g [], .a (F3_ r_4), .g [], .l (r_4.map (eI .i64)), .a (F1_ r_5), .l (r_4.map (eI .i64)), .a ((eFl 1 (eI .i64)) out_e1), .a ((eFl 1 (eI .i64)) out_e1), .l ((out2.set x24.toNat (r_5, true)).map (eFl 1 (eI .i64)))] J2 [(4, .own (eOs 1 true (eFl 1 (eI .i64)) (out2.set x24.toNat (r_5, true)))), (22, .d (.atom (cutV 1 pv4 (0 : Int)))), (23, .d (I ((r_2.length - (0 : Int).toNat : Nat) : Int))), (24, .d (I (w64 (x24 + 1))))] [ob c2, ob ((⟨rfl, rfl⟩ : T.d (.atom (cutV 1 pv4 (0 : Int))) = T.d (.atom (cutV 1 pv4 (0 : Int))) ∧ some pv4 = some pv4)), ob o9, ob (iM (eFl 1 (eI .i64)) h5), ob (hasG h_slices_Clone_int_int), ob o10, ob (hasG h_slices_Clip_int_int), ob (shM (eI .i64) (eI .i64) r_4), ob o11, ob (shM (eI .i64) (eI .i64) r_4), ob (iL (eFl 1 (eI .i64)) h8), ob (iM (eFl 1 (eI .i64)) h8), ob (iM (eFl 1 (eI .i64)) h8), ob o12] (by kernel_rfl) fun st0 h0 => hJ2 st0 _ (((out2.set x24.toNat (r_5, true)), w64 (x24 + 1)), m2) hl1 (Nat.lt_succ_self m2) h0 inferInstance
    ·obtain rfl := someE hf1
     obtain rfl := hl1
     exact awpBack X0 TTab_ok hC hm [4] 4000 [bF] J1 [(4, .own (eOs 1 true (eFl 1 (eI .i64)) out2))] [ob c2] (by kernel_rfl) fun st0 h0 => hJ1 st0 _ out2 hf0 h0 inferInstance
noncomputable def bd_tries_Sort : Code := (Try.f14.body).getD .skip
noncomputable def sp_tries_Sort : Spec := spF (α := List (List Int) × Int) (ρ := List (List Int) × Int) 14 (fun x => [F10_ x.1, (eI .i64) x.2]) (fun r => .tup [F5_ r.1, (eI .i64) r.2]) (fun x => tries_Sort x.1 x.2) [] (by
 rintro ⟨a0, a1⟩ ⟨b0, b1⟩ h
 have e0 := EncI.inj (f := F10_) _ _ (List.cons.inj h).1
 replace h := (List.cons.inj h).2
 have e1 := EncI.inj (f := (eI .i64)) _ _ (List.cons.inj h).1
 subst e0 e1
 rfl)
theorem w_tries_Sort {ctr : Ctr} (hC : CtrOk Try.prog ctr) (hm : Try.prog.follows .mixedOrders = true) (h_tries_loose : ctr.Has sp_tries_loose) (h_tries_sorted : ctr.Has sp_tries_sorted) : sp_tries_Sort.Ok Try.prog := by
 refine spF_ok ?_
 rintro ⟨l_, inputs⟩ r0 hf0
 try unfold tries_Sort at hf0
 refine callOk_h (tt := TTab) (keep := false) (rs := [(4, none), (5, none)]) (n := ⟨17, []⟩) (body := bd_tries_Sort) TTab_ok Try.func14 rfl (by kernel_rfl) rfl rfl (by show (2 : Nat) ≤ 17; decide) fun E hE => ?_
 obtain ⟨r_, h0, hf0⟩ := bindE hf0
 have o0 := hasF h_tries_loose (x := (l_, inputs)) h0 (loC F10_ l_ <| loC (eI .i64) inputs <| loN)
 rcases bifE hf0 with ⟨c0, hf0⟩ | ⟨c0, hf0⟩
 ·have o1 := shM F4_ F4_ []
  obtain rfl := someE hf0
  exact awpEnd X0 TTab_ok hC hm hE 4000 (hs := [.g [], .a ((eI .i64) r_), bT, .l ([].map F4_)]) (x := (.tup [eSl 1 true F1_ [], I r_])) [ob (hasG h_tries_loose), ob o0, ob c0, ob o1] (by kernel_rfl) (show LeV (.tup [eSl 1 true F1_ [], I r_]) (.tup [eSl 1 true F1_ ([] : List (List Int)), I r_]) from inferInstance)
 ·obtain ⟨r_1, h1, hf0⟩ := bindE hf0
  have o2 := hasF h_tries_sorted (x := l_) h1 (loC F10_ l_ <| loN)
  obtain rfl := someE hf0
  exact awpEnd X0 TTab_ok hC hm hE 4000 (hs := [.g [], .a ((eI .i64) r_), bF, .g [], .a (.tup [eSl 1 true F1_ r_1.1, I r_1.2])]) (x := (.tup [eSl 1 true F1_ r_1.1, I r_1.2])) [ob (hasG h_tries_loose), ob o0, ob c0, ob (hasG h_tries_sorted), ob o2] (by kernel_rfl) (LeV.refl _)
noncomputable def bd_tries_both : Code := (Try.f70.body).getD .skip
noncomputable def sp_tries_both : Spec := spF (α := Int × List (List (List Int))) (ρ := Int) 70 (fun x => [(eI .i64) x.1, (eSl 1 false F10_) x.2]) (fun r => (eI .i64) r) (fun x => tries_both x.1 x.2) [] (by
 rintro ⟨a0, a1⟩ ⟨b0, b1⟩ h
 have e0 := EncI.inj (f := (eI .i64)) _ _ (List.cons.inj h).1
 replace h := (List.cons.inj h).2
 have e1 := EncI.inj (f := (eSl 1 false F10_)) _ _ (List.cons.inj h).1
 subst e0 e1
 rfl)
abbrev ST_tries_both_J1 : List (Nat × T) := []
abbrev ST_tries_both_L2 (inputs : Int) (l_ : List (List (List Int))) (x10 : Int) : List (Nat × T) := [(0, .d (I inputs)), (8, .d (eSl 1 false F10_ l_)), (9, .d (I ((l_.length : Nat) : Int))), (10, .d (I x10))]
theorem w_tries_both {ctr : Ctr} (hC : CtrOk Try.prog ctr) (hm : Try.prog.follows .mixedOrders = true) (h_tries_Check : ctr.Has sp_tries_Check) : sp_tries_both.Ok Try.prog := by
 refine spF_ok ?_
 rintro ⟨inputs, l_⟩ r0 hf0
 try unfold tries_both at hf0
 refine callOk_h (tt := TTab) (keep := true) (rs := [(4, none)]) (n := ⟨21, []⟩) (body := bd_tries_both) TTab_ok Try.func70 rfl (by kernel_rfl) rfl rfl (by show (2 : Nat) ≤ 21; decide) fun E hE => ?_
 refine awpAt X0 TTab_ok hC hm [0,1] 4000 [.cut 1] (sub [1] bd_tries_both) (frs [1] [] bd_tries_both []) [(0, .d (I inputs)), (1, .d (eSl 1 false F10_ l_))] [] (by kernel_rfl) fun st0 h0 => ?_
 refine awpJoin' (X := Unit) (x := (sub [1,2] bd_tries_both)) (y := (sub [1,1] bd_tries_both)) (by kernel_rfl) [] [0,1] _ h0 (fun z => tries_both_J1 = some r0) (fun z => ST_tries_both_J1) ?_ fun J1 hJ1 => ?_
 ·rintro ⟨⟩ hf0
  unfold tries_both_J1 at hf0
  obtain rfl := someE hf0
  exact awpEnd X0 TTab_ok hC hm hE 4000 (hs := []) (x := (I 0)) [] (by kernel_rfl) (LeV.refl _)
 ·have o0 := lnM F10_ l_
  obtain ⟨t2, ht2, hf0⟩ := bindE hf0
  refine awpAt X0 TTab_ok hC hm [0,8,9,10] 4000 [aLn l_.length] (sub [1,2,1,0] bd_tries_both) (frs [1,2,1,0] [J1] bd_tries_both []) [(0, .d (I inputs)), (8, .d (eSl 1 false F10_ l_)), (9, .d (I ((l_.length : Nat) : Int))), (10, .d (I 0))] [ob o0] (by kernel_rfl) fun st0 h0 => ?_
  refine awpLoop' (X := Int × Nat) (c' := (sub [1,2,1,0,0] bd_tries_both)) (by kernel_rfl) [0,8,9,10] (fun x => loopN (fun s => tries_both_L2 inputs l_ s) x.2 x.1 = some t2) (fun x => x.2) (fun x => ST_tries_both_L2 inputs l_ x.1) (0, fuel) _ h0 inferInstance ht2 ?_
  rintro ⟨x10, n2⟩ hn2 J2 hJ2
  obtain ⟨m2, lr1, rfl, hf1, hl1⟩ := loopE hn2
  try unfold tries_both_L2 at hf1
  rcases bifE hf1 with ⟨c0, hf1⟩ | ⟨c0, hf1⟩
  ·obtain ⟨l__e, h0, hf1⟩ := bindE hf1
   have o1 := iM F10_ h0
   obtain ⟨r_, h1, hf1⟩ := bindE hf1
   have o2 := hasF h_tries_Check (x := (l__e, inputs)) h1 (loC F10_ l__e <| loC (eI .i64) inputs <| loN)
   rcases bifE hf1 with ⟨c1, hf1⟩ | ⟨c1, hf1⟩
   ·obtain rfl := someE hf1
    obtain rfl := hl1
    obtain rfl := someE hf0
    exact awpEnd X0 TTab_ok hC hm hE 4000 (hs := [bT, .a (F10_ l__e), .g [], .a ((eI .i64) r_), bT]) (x := (I r_)) [ob c0, ob (i0 h0), ob o1, ob (hasG h_tries_Check), ob o2, ob c1] (by kernel_rfl) (LeV.refl _)
   ·obtain rfl := someE hf1
    exact awpBack X0 TTab_ok hC hm [0,8,9,10] 4000 [bT, .a (F10_ l__e), .g [], .a ((eI .i64) r_), bF] J2 [(0, .d (I inputs)), (8, .d (eSl 1 false F10_ l_)), (9, .d (I ((l_.length : Nat) : Int))), (10, .d (I (w64 (x10 + 1))))] [ob c0, ob (i0 h0), ob o1, ob (hasG h_tries_Check), ob o2, ob c1] (by kernel_rfl) fun st0 h0 => hJ2 st0 _ (w64 (x10 + 1), m2) hl1 (Nat.lt_succ_self m2) h0 inferInstance
  ·obtain rfl := someE hf1
   obtain rfl := hl1
   exact awpBack X0 TTab_ok hC hm [] 4000 [bF] J1 [] [ob c0] (by kernel_rfl) fun st0 h0 => hJ1 st0 _ () hf0 h0 inferInstance
noncomputable def bd_tries_key : Code := (Try.f72.body).getD .skip
noncomputable def sp_tries_key : Spec := spF (α := List Int) (ρ := List UInt8) 72 (fun x => [F4_ x]) (fun r => eStr r) (fun x => tries_key x) [] (by
 rintro a0 b0 h
 have e0 := EncI.inj (f := F4_) _ _ (List.cons.inj h).1
 subst e0
 rfl)
abbrev ST_tries_key_J1 (b_ : List Int) : List (Nat × T) := [(3, .own (eOs 1 true (eI .u8) b_))]
abbrev ST_tries_key_L2 (w_ : List Int) (b_1 : List Int) (x11 : Int) : List (Nat × T) := [(3, .own (eOs 1 true (eI .u8) b_1)), (9, .d (eSl 1 false (eI .i64) w_)), (10, .d (I ((w_.length : Nat) : Int))), (11, .d (I x11))]
theorem w_tries_key {ctr : Ctr} (hC : CtrOk Try.prog ctr) (hm : Try.prog.follows .mixedOrders = true) : sp_tries_key.Ok Try.prog := by
 refine spF_ok ?_
 rintro w_ r0 hf0
 try unfold tries_key at hf0
 refine callOk_h (tt := TTab) (keep := true) (rs := [(2, none)]) (n := ⟨24, []⟩) (body := bd_tries_key) TTab_ok Try.func72 rfl (by kernel_rfl) rfl rfl (by show (1 : Nat) ≤ 24; decide) fun E hE => ?_
 obtain ⟨g0, hf0⟩ := gdE hf0
 have o0 := rM 1 (eI .u8) ((w_.length : Nat) : Int) (0 : Int)
 refine awpAt X0 TTab_ok hC hm [0,3] 4000 [aLn w_.length, .a (eOs 1 true (eI .u8) (List.replicate ((w_.length : Nat) : Int).toNat (0 : Int))), .cut 0] (sub [1,1] bd_tries_key) (frs [1,1] [] bd_tries_key []) [(0, .d (eSl 1 false (eI .i64) w_)), (3, .own (eOs 1 true (eI .u8) (List.replicate ((w_.length : Nat) : Int).toNat (0 : Int))))] [ob (lnM (eI .i64) w_), ob (rL g0), ob o0] (by kernel_rfl) fun st0 h0 => ?_
 refine awpJoin' (X := List Int) (x := (sub [1,1,2] bd_tries_key)) (y := (sub [1,1,1] bd_tries_key)) (by kernel_rfl) [3] [0,3] _ h0 (fun z => tries_key_J1 z = some r0) (fun z => ST_tries_key_J1 z) ?_ fun J1 hJ1 => ?_
 ·rintro b_ hf0
  unfold tries_key_J1 at hf0
  obtain rfl := someE hf0
  exact awpEnd ((xStr Try.prog sT_98_9).or X0) TTab_ok hC hm hE 4000 (hs := [.a (eStr (u8s b_))]) (x := (eStr (u8s b_))) [ob (stM b_)] (by kernel_rfl) (LeV.refl _)
 ·obtain ⟨t2, ht2, hf0⟩ := bindE hf0
  refine awpAt X0 TTab_ok hC hm [3,9,10,11] 4000 [aLn w_.length] (sub [1,1,2,1,0] bd_tries_key) (frs [1,1,2,1,0] [J1] bd_tries_key []) [(3, .own (eOs 1 true (eI .u8) (List.replicate ((w_.length : Nat) : Int).toNat (0 : Int)))), (9, .d (eSl 1 false (eI .i64) w_)), (10, .d (I ((w_.length : Nat) : Int))), (11, .d (I 0))] [ob (lnM (eI .i64) w_)] (by kernel_rfl) fun st0 h0 => ?_
  refine awpLoop' (X := (List Int × Int) × Nat) (c' := (sub [1,1,2,1,0,0] bd_tries_key)) (by kernel_rfl) [3,9,10,11] (fun x => loopN (fun s => tries_key_L2 w_ s.1 s.2) x.2 x.1 = some t2) (fun x => x.2) (fun x => ST_tries_key_L2 w_ x.1.1 x.1.2) (((List.replicate ((w_.length : Nat) : Int).toNat (0 : Int)), 0), fuel) _ h0 inferInstance ht2 ?_
  rintro ⟨⟨b_1, x11⟩, n2⟩ hn2 J2 hJ2
  obtain ⟨m2, lr1, rfl, hf1, hl1⟩ := loopE hn2
  try unfold tries_key_L2 at hf1
  rcases bifE hf1 with ⟨c0, hf1⟩ | ⟨c0, hf1⟩
  ·obtain ⟨w__e, h0, hf1⟩ := bindE hf1
   obtain ⟨b__e, h1, hf1⟩ := bindE hf1
   have o1 := sM (eI .u8) b_1 x11 (IntKind.u8.wrap (w__e))
   obtain rfl := someE hf1
   exact awpBack X0 TTab_ok hC hm [3,9,10,11] 4000 [bT, .a ((eI .i64) w__e), .a ((eI .u8) b__e), .a ((eI .u8) b__e), .l ((b_1.set x11.toNat (IntKind.u8.wrap (w__e))).map (eI .u8))] J2 [(3, .own (eOs 1 true (eI .u8) (b_1.set x11.toNat (IntKind.u8.wrap (w__e))))), (9, .d (eSl 1 false (eI .i64) w_)), (10, .d (I ((w_.length : Nat) : Int))), (11, .d (I (w64 (x11 + 1))))] [ob c0, ob (i0 h0), ob (iM (eI .i64) h0), ob (iL (eI .u8) h1), ob (iM (eI .u8) h1), ob (iM (eI .u8) h1), ob o1] (by kernel_rfl) fun st0 h0 => hJ2 st0 _ (((b_1.set x11.toNat (IntKind.u8.wrap (w__e))), w64 (x11 + 1)), m2) hl1 (Nat.lt_succ_self m2) h0 inferInstance
  ·obtain rfl := someE hf1
   obtain rfl := hl1
   exact awpBack X0 TTab_ok hC hm [3] 4000 [bF] J1 [(3, .own (eOs 1 true (eI .u8) b_1))] [ob c0] (by kernel_rfl) fun st0 h0 => hJ1 st0 _ b_1 hf0 h0 inferInstance
noncomputable def bd_tries_Concat : Code := (Try.f39.body).getD .skip
noncomputable def sp_tries_Concat : Spec := spF (α := List (List Int) × List (List Int) × Int) (ρ := List (List Int) × Int) 39 (fun x => [F10_ x.1, F10_ x.2.1, (eI .i64) x.2.2]) (fun r => .tup [F5_ r.1, (eI .i64) r.2]) (fun x => tries_Concat x.1 x.2.1 x.2.2) [] (by
 rintro ⟨a0, a1, a2⟩ ⟨b0, b1, b2⟩ h
 have e0 := EncI.inj (f := F10_) _ _ (List.cons.inj h).1
 replace h := (List.cons.inj h).2
 have e1 := EncI.inj (f := F10_) _ _ (List.cons.inj h).1
 replace h := (List.cons.inj h).2
 have e2 := EncI.inj (f := (eI .i64)) _ _ (List.cons.inj h).1
 subst e0 e1 e2
 rfl)
abbrev ST_tries_Concat_J1 (out : List (List Int)) : List (Nat × T) := [(11, .own (eOs 1 false F4_ out))]
abbrev ST_tries_Concat_J3 (a_ : List (List Int)) (b_ : List (List Int)) (x29 : Int) (seen1 : List ((List UInt8) × Bool)) (n_1 : Int) (out2 : List (List Int)) : List (Nat × T) := [(1, .d (eSl 1 false F4_ b_)), (9, .own (.opq (mapQ (entL eStr eB seen1)))), (10, .d (I n_1)), (11, .own (eOs 1 false F4_ out2)), (27, .d (eSl 1 false F4_ a_)), (28, .d (I ((a_.length : Nat) : Int))), (29, .d (I x29))]
abbrev ST_tries_Concat_J5 (a_ : List (List Int)) (b_ : List (List Int)) (x29 : Int) (a__e : List Int) (x35 : Int) (seen3 : List ((List UInt8) × Bool)) (n_3 : Int) (out4 : List (List Int)) : List (Nat × T) := [(1, .d (eSl 1 false F4_ b_)), (9, .own (.opq (mapQ (entL eStr eB seen3)))), (10, .d (I n_3)), (11, .own (eOs 1 false F4_ out4)), (13, .d (eSl 1 false (eI .i64) a__e)), (27, .d (eSl 1 false F4_ a_)), (28, .d (I ((a_.length : Nat) : Int))), (29, .d (I x29)), (33, .d (eSl 1 false F4_ b_)), (34, .d (I ((b_.length : Nat) : Int))), (35, .d (I x35))]
abbrev ST_tries_Concat_L4 (a_ : List (List Int)) (b_ : List (List Int)) (x29 : Int) (a__e : List Int) (seen2 : List ((List UInt8) × Bool)) (n_2 : Int) (out3 : List (List Int)) (x35 : Int) : List (Nat × T) := [(1, .d (eSl 1 false F4_ b_)), (9, .own (.opq (mapQ (entL eStr eB seen2)))), (10, .d (I n_2)), (11, .own (eOs 1 false F4_ out3)), (13, .d (eSl 1 false (eI .i64) a__e)), (27, .d (eSl 1 false F4_ a_)), (28, .d (I ((a_.length : Nat) : Int))), (29, .d (I x29)), (33, .d (eSl 1 false F4_ b_)), (34, .d (I ((b_.length : Nat) : Int))), (35, .d (I x35))]
abbrev ST_tries_Concat_L2 (a_ : List (List Int)) (b_ : List (List Int)) (seen : List ((List UInt8) × Bool)) (n_ : Int) (out1 : List (List Int)) (x29 : Int) : List (Nat × T) := [(1, .d (eSl 1 false F4_ b_)), (9, .own (.opq (mapQ (entL eStr eB seen)))), (10, .d (I n_)), (11, .own (eOs 1 false F4_ out1)), (27, .d (eSl 1 false F4_ a_)), (28, .d (I ((a_.length : Nat) : Int))), (29, .d (I x29))]
theorem w_tries_Concat {ctr : Ctr} (hC : CtrOk Try.prog ctr) (hm : Try.prog.follows .mixedOrders = true) (h_tries_both : ctr.Has sp_tries_both) (h_slices_Clip_int_int : ctr.Has sp_slices_Clip_int_int) (h_tries_key : ctr.Has sp_tries_key) (h_tries_sorted : ctr.Has sp_tries_sorted) : sp_tries_Concat.Ok Try.prog := by
 refine spF_ok ?_
 rintro ⟨a_, b_, inputs⟩ r0 hf0
 try unfold tries_Concat at hf0
 refine callOk_h (tt := TTab) (keep := false) (rs := [(6, none), (7, none)]) (n := ⟨75, []⟩) (body := bd_tries_Concat) TTab_ok Try.func39 rfl (by kernel_rfl) rfl rfl (by show (3 : Nat) ≤ 75; decide) fun E hE => ?_
 have o0 := shM F10_ F10_ ([a_, b_])
 obtain ⟨r_, h0, hf0⟩ := bindE hf0
 have o1 := hasF h_tries_both (x := (inputs, [a_, b_])) h0 (loC (eI .i64) inputs <| loC (eSl 1 true F10_) ([a_, b_] : List (List (List Int))) <| loN)
 rcases bifE hf0 with ⟨c0, hf0⟩ | ⟨c0, hf0⟩
 ·have o2 := shM F4_ F4_ []
  obtain rfl := someE hf0
  exact awpEnd X0 TTab_ok hC hm hE 4000 (hs := [.g [], .l (([a_, b_]).map F10_), .a ((eI .i64) r_), bT, .l ([].map F4_)]) (x := (.tup [eSl 1 true F1_ [], I r_])) [ob (hasG h_tries_both), ob o0, ob o1, ob c0, ob o2] (by kernel_rfl) (show LeV (.tup [eSl 1 true F1_ [], I r_]) (.tup [eSl 1 true F1_ ([] : List (List Int)), I r_]) from inferInstance)
 ·refine awpAt ((xMake Try.prog 26).or X0) TTab_ok hC hm [0,1,9,10,11] 4000 [.g [], .l (([a_, b_]).map F10_), .a ((eI .i64) r_), bF, .cut 3] (sub [1,1,1,1,1] bd_tries_Concat) (frs [1,1,1,1,1] [] bd_tries_Concat []) [(0, .d (eSl 1 false F4_ a_)), (1, .d (eSl 1 false F4_ b_)), (9, .own (.opq (mapQ (entL eStr eB ([] : List ((List UInt8) × Bool)))))), (10, .d (I 0)), (11, .own (eOs 1 true F4_ []))] [ob (hasG h_tries_both), ob o0, ob o1, ob c0] (by kernel_rfl) fun st0 h0 => ?_
  refine awpJoin' (X := List (List Int)) (x := (sub [1,1,1,1,1,2] bd_tries_Concat)) (y := (sub [1,1,1,1,1,1] bd_tries_Concat)) (by kernel_rfl) [11] [0,1,9,10,11] _ h0 (fun z => tries_Concat_J1 z = some r0) (fun z => ST_tries_Concat_J1 z) ?_ fun J1 hJ1 => ?_
  ·rintro out hf0
   unfold tries_Concat_J1 at hf0
   have o3 := shM F4_ F4_ out
   obtain ⟨r_1, h1, hf0⟩ := bindE hf0
   have o4 := hasF h_tries_sorted (x := out) h1 (loC F10_ out <| loN)
   have o5 := shM F4_ F4_ out
   obtain rfl := someE hf0
   exact awpEnd X0 TTab_ok hC hm hE 4000 (hs := [.g [], .l (out.map F4_), .a (.tup [eSl 1 true F1_ r_1.1, I r_1.2]), .l (out.map F4_)]) (x := (.tup [eSl 1 true F1_ r_1.1, I r_1.2])) [ob (hasG h_tries_sorted), ob o3, ob o4, ob o5] (by kernel_rfl) (LeV.refl _)
  ·obtain ⟨t2, ht2, hf0⟩ := bindE hf0
   refine awpAt X0 TTab_ok hC hm [1,9,10,11,27,28,29] 4000 [aLn a_.length] (sub [1,1,1,1,1,2,1,0] bd_tries_Concat) (frs [1,1,1,1,1,2,1,0] [J1] bd_tries_Concat []) [(1, .d (eSl 1 false F4_ b_)), (9, .own (.opq (mapQ (entL eStr eB ([] : List ((List UInt8) × Bool)))))), (10, .d (I 0)), (11, .own (eOs 1 true F4_ [])), (27, .d (eSl 1 false F4_ a_)), (28, .d (I ((a_.length : Nat) : Int))), (29, .d (I 0))] [ob (lnM F4_ a_)] (by kernel_rfl) fun st0 h0 => ?_
   refine awpLoop' (X := ((List ((List UInt8) × Bool)) × Int × List (List Int) × Int) × Nat) (c' := (sub [1,1,1,1,1,2,1,0,0] bd_tries_Concat)) (by kernel_rfl) [1,9,10,11,27,28,29] (fun x => loopN (fun s => tries_Concat_L2 a_ b_ s.1 s.2.1 s.2.2.1 s.2.2.2) x.2 x.1 = some t2) (fun x => x.2) (fun x => ST_tries_Concat_L2 a_ b_ x.1.1 x.1.2.1 x.1.2.2.1 x.1.2.2.2) ((([] : List ((List UInt8) × Bool)), 0, ([] : List (List Int)), 0), fuel) _ h0 inferInstance ht2 ?_
   rintro ⟨⟨seen, n_, out1, x29⟩, n2⟩ hn2 J2 hJ2
   obtain ⟨m2, lr1, rfl, hf1, hl1⟩ := loopE hn2
   try unfold tries_Concat_L2 at hf1
   rcases bifE hf1 with ⟨c1, hf1⟩ | ⟨c1, hf1⟩
   ·refine awpAt X0 TTab_ok hC hm [1,9,10,11,27,28,29] 4000 [bT, .cut 0] (sub [1,1,1,1,1,2,1,0,0,1,1] bd_tries_Concat) (frs [1,1,1,1,1,2,1,0,0,1,1] [J1, J2] bd_tries_Concat []) [(1, .d (eSl 1 false F4_ b_)), (9, .own (.opq (mapQ (entL eStr eB seen)))), (10, .d (I n_)), (11, .own (eOs 1 false F4_ out1)), (27, .d (eSl 1 false F4_ a_)), (28, .d (I ((a_.length : Nat) : Int))), (29, .d (I x29))] [ob c1] (by kernel_rfl) fun st0 h0 => ?_
    refine awpJoin' (X := (List ((List UInt8) × Bool)) × Int × List (List Int)) (x := (sub [1,1,1,1,1,2,1,0,0,1,1,2] bd_tries_Concat)) (y := (sub [1,1,1,1,1,2,1,0,0,1,1,1] bd_tries_Concat)) (by kernel_rfl) [1,9,10,11,27,28,29] [1,9,10,11,27,28,29] _ h0 (fun z => tries_Concat_J3 x29 z.1 z.2.1 z.2.2 = some lr1) (fun z => ST_tries_Concat_J3 a_ b_ x29 z.1 z.2.1 z.2.2) ?_ fun J3 hJ3 => ?_
    ·rintro ⟨seen1, n_1, out2⟩ hf1
     unfold tries_Concat_J3 at hf1
     obtain rfl := someE hf1
     exact awpBack X0 TTab_ok hC hm [1,9,10,11,27,28,29] 4000 [] J2 [(1, .d (eSl 1 false F4_ b_)), (9, .own (.opq (mapQ (entL eStr eB seen1)))), (10, .d (I n_1)), (11, .own (eOs 1 false F4_ out2)), (27, .d (eSl 1 false F4_ a_)), (28, .d (I ((a_.length : Nat) : Int))), (29, .d (I (w64 (x29 + 1))))] [] (by kernel_rfl) fun st0 h0 => hJ2 st0 _ ((seen1, n_1, out2, w64 (x29 + 1)), m2) hl1 (Nat.lt_succ_self m2) h0 inferInstance
    ·obtain ⟨a__e, h2, hf1⟩ := bindE hf1
     obtain ⟨t4, ht4, hf1⟩ := bindE hf1
     refine awpAt X0 TTab_ok hC hm [1,9,10,11,13,27,28,29,33,34,35] 4000 [.a (F4_ a__e), aLn b_.length] (sub [1,1,1,1,1,2,1,0,0,1,1,2,0,1,1,0] bd_tries_Concat) (frs [1,1,1,1,1,2,1,0,0,1,1,2,0,1,1,0] [J1, J2, J3] bd_tries_Concat []) [(1, .d (eSl 1 false F4_ b_)), (9, .own (.opq (mapQ (entL eStr eB seen)))), (10, .d (I n_)), (11, .own (eOs 1 false F4_ out1)), (13, .d (eSl 1 false (eI .i64) a__e)), (27, .d (eSl 1 false F4_ a_)), (28, .d (I ((a_.length : Nat) : Int))), (29, .d (I x29)), (33, .d (eSl 1 false F4_ b_)), (34, .d (I ((b_.length : Nat) : Int))), (35, .d (I 0))] [ob (i0 h2), ob (iM F4_ h2), ob (lnM F4_ b_)] (by kernel_rfl) fun st0 h0 => ?_
     refine awpLoop' (X := ((List ((List UInt8) × Bool)) × Int × List (List Int) × Int) × Nat) (c' := (sub [1,1,1,1,1,2,1,0,0,1,1,2,0,1,1,0,0] bd_tries_Concat)) (by kernel_rfl) [1,9,10,11,13,27,28,29,33,34,35] (fun x => loopN (fun s => tries_Concat_L4 b_ a__e s.1 s.2.1 s.2.2.1 s.2.2.2) x.2 x.1 = some t4) (fun x => x.2) (fun x => ST_tries_Concat_L4 a_ b_ x29 a__e x.1.1 x.1.2.1 x.1.2.2.1 x.1.2.2.2) ((seen, n_, out1,0), fuel) _ h0 inferInstance ht4 ?_
     rintro ⟨⟨seen2, n_2, out3, x35⟩, n4⟩ hn4 J4 hJ4
     obtain ⟨m4, lr2, rfl, hf2, hl2⟩ := loopE hn4
     try unfold tries_Concat_L4 at hf2
     rcases bifE hf2 with ⟨c2, hf2⟩ | ⟨c2, hf2⟩
     ·obtain ⟨b__e, h3, hf2⟩ := bindE hf2
      obtain ⟨r_2, h4, hf2⟩ := bindE hf2
      have o6 := hasF h_slices_Clip_int_int (x := a__e) h4 (loC F4_ a__e <| loN)
      obtain ⟨g0, hf2⟩ := gdE hf2
      rcases bifE hf2 with ⟨c3, hf2⟩ | ⟨c3, hf2⟩
      ·have o7 := shM F4_ F4_ []
       obtain rfl := someE hf2
       obtain rfl := hl2
       obtain rfl := someE hf1
       obtain rfl := hl1
       obtain rfl := someE hf0
       exact awpEnd ((xAp TTab_ok 42).or X0) TTab_ok hC hm hE 4000 (hs := [bT, .a (F4_ b__e), .g [], .a (F1_ r_2), .l ((r_2 ++ b__e).map (eI .i64)), .a (.atom (.int .i64 (((r_2 ++ b__e).length : Nat) : Int))), bT, .l ([].map F4_)]) (x := (.tup [eSl 1 true F1_ [], I 3])) [ob c2, ob (i0 h3), ob (iM F4_ h3), ob (hasG h_slices_Clip_int_int), ob o6, ob (apM (eI .i64) g0), ob (aM (eI .i64) r_2 b__e), ob (lnM (eI .i64) (r_2 ++ b__e)), ob c3, ob o7] (by kernel_rfl) (show LeV (.tup [eSl 1 true F1_ [], I 3]) (.tup [eSl 1 true F1_ ([] : List (List Int)), I 3]) from inferInstance)
      ·refine awpAt ((xAp TTab_ok 42).or X0) TTab_ok hC hm [1,9,10,11,13,16,27,28,29,33,34,35] 4000 [bT, .a (F4_ b__e), .g [], .a (F1_ r_2), .l ((r_2 ++ b__e).map (eI .i64)), .a (.atom (.int .i64 (((r_2 ++ b__e).length : Nat) : Int))), bF, .cut 0] (sub [1,1,1,1,1,2,1,0,0,1,1,2,0,1,1,0,0,1,1,0,0,1,1,1] bd_tries_Concat) (frs [1,1,1,1,1,2,1,0,0,1,1,2,0,1,1,0,0,1,1,0,0,1,1,1] [J1, J2, J3, J4] bd_tries_Concat []) [(1, .d (eSl 1 false F4_ b_)), (9, .own (.opq (mapQ (entL eStr eB seen2)))), (10, .d (I n_2)), (11, .own (eOs 1 false F4_ out3)), (13, .d (eSl 1 false (eI .i64) a__e)), (16, .d (eSl 1 false (eI .i64) (r_2 ++ b__e))), (27, .d (eSl 1 false F4_ a_)), (28, .d (I ((a_.length : Nat) : Int))), (29, .d (I x29)), (33, .d (eSl 1 false F4_ b_)), (34, .d (I ((b_.length : Nat) : Int))), (35, .d (I x35))] [ob c2, ob (i0 h3), ob (iM F4_ h3), ob (hasG h_slices_Clip_int_int), ob o6, ob (apM (eI .i64) g0), ob (aM (eI .i64) r_2 b__e), ob (lnM (eI .i64) (r_2 ++ b__e)), ob c3] (by kernel_rfl) fun st0 h0 => ?_
       refine awpJoin' (X := (List ((List UInt8) × Bool)) × Int × List (List Int)) (x := (sub [1,1,1,1,1,2,1,0,0,1,1,2,0,1,1,0,0,1,1,0,0,1,1,1,2] bd_tries_Concat)) (y := (sub [1,1,1,1,1,2,1,0,0,1,1,2,0,1,1,0,0,1,1,0,0,1,1,1,1] bd_tries_Concat)) (by kernel_rfl) [1,9,10,11,13,27,28,29,33,34,35] [1,9,10,11,13,16,27,28,29,33,34,35] _ h0 (fun z => tries_Concat_J5 x35 z.1 z.2.1 z.2.2 = some lr2) (fun z => ST_tries_Concat_J5 a_ b_ x29 a__e x35 z.1 z.2.1 z.2.2) ?_ fun J5 hJ5 => ?_
       ·rintro ⟨seen3, n_3, out4⟩ hf2
        unfold tries_Concat_J5 at hf2
        rcases bifE hf2 with ⟨c4, hf2⟩ | ⟨c4, hf2⟩
        ·have o8 := shM F4_ F4_ []
         obtain rfl := someE hf2
         obtain rfl := hl2
         obtain rfl := someE hf1
         obtain rfl := hl1
         obtain rfl := someE hf0
         exact awpEnd X0 TTab_ok hC hm hE 4000 (hs := (aLn out4.length :: (rpN 4 bT [.l ([].map F4_)]))) (x := (.tup [eSl 1 true F1_ [], I 3])) [ob (lnM F4_ out4), ob c4, ob c4, ob c4, oT, ob o8] (by kernel_rfl) (show LeV (.tup [eSl 1 true F1_ [], I 3]) (.tup [eSl 1 true F1_ ([] : List (List Int)), I 3]) from inferInstance)
        ·rcases bifE hf2 with ⟨c5, hf2⟩ | ⟨c5, hf2⟩
         ·have o9 := shM F4_ F4_ []
          obtain rfl := someE hf2
          obtain rfl := hl2
          obtain rfl := someE hf1
          obtain rfl := hl1
          obtain rfl := someE hf0
          exact awpEnd X0 TTab_ok hC hm hE 4000 (hs := [aLn out4.length, bF, bF, bF, bT, .l ([].map F4_)]) (x := (.tup [eSl 1 true F1_ [], I 3])) [ob (lnM F4_ out4), ob c4, ob c4, ob c4, ob c5, ob o9] (by kernel_rfl) (show LeV (.tup [eSl 1 true F1_ [], I 3]) (.tup [eSl 1 true F1_ ([] : List (List Int)), I 3]) from inferInstance)
         ·obtain rfl := someE hf2
          exact awpBack X0 TTab_ok hC hm [1,9,10,11,13,27,28,29,33,34,35] 4000 (aLn out4.length :: (rpN 4 bF [])) J4 [(1, .d (eSl 1 false F4_ b_)), (9, .own (.opq (mapQ (entL eStr eB seen3)))), (10, .d (I n_3)), (11, .own (eOs 1 false F4_ out4)), (13, .d (eSl 1 false (eI .i64) a__e)), (27, .d (eSl 1 false F4_ a_)), (28, .d (I ((a_.length : Nat) : Int))), (29, .d (I x29)), (33, .d (eSl 1 false F4_ b_)), (34, .d (I ((b_.length : Nat) : Int))), (35, .d (I (w64 (x35 + 1))))] [ob (lnM F4_ out4), ob c4, ob c4, ob c4, ob c5] (by kernel_rfl) fun st0 h0 => hJ4 st0 _ ((seen3, n_3, out4, w64 (x35 + 1)), m4) hl2 (Nat.lt_succ_self m4) h0 inferInstance
       ·obtain ⟨r_3, h5, hf2⟩ := bindE hf2
        have o10 := hasF h_tries_key (x := (r_2 ++ b__e)) h5 (loC F4_ (r_2 ++ b__e) <| loN)
        have o11 := (⟨rfl, rfl, ent_ok (fun _ => rfl) seen2⟩ : A.opq (mapQ (entL eStr eB seen2)) = A.opq (mapQ (entL eStr eB seen2)) ∧ okStr (eStr r_3) = true ∧ ∀ p ∈ entL eStr eB seen2, okStr p.1 = true)
        obtain ⟨val, h6, hf2⟩ := bindE hf2
        replace h6 := someE h6
        have o12 := (get1 (f := eStr) (g := eB) (z0 := false) (z := .atom (.bool false)) rfl r_3 seen2).trans (congrArg eB h6)
        rcases bifE hf2 with ⟨c6, hf2⟩ | ⟨c6, hf2⟩
        ·have o13 := (⟨rfl, rfl, rfl, rfl, ent_ok (fun _ => rfl) seen2⟩ : T.own (.opq (mapQ (entL eStr eB seen2))) = T.own (.opq (mapQ (entL eStr eB seen2))) ∧ 0 = 0 ∧ okStr (eStr r_3) = true ∧ (eB true).isD = true ∧ ∀ p ∈ entL eStr eB seen2, okStr p.1 = true)
         have o14 := put_set (f := eStr) (g := eB) r_3 true seen2
         have o15 := dM F4_ ([(r_2 ++ b__e)] : List (List Int))
         have o16 := dM F4_ ([(r_2 ++ b__e)] : List (List Int))
         obtain ⟨g1, hf2⟩ := gdE hf2
         have o17 := aL F4_ F4_ g1
         have o18 := aM F4_ out3 ([(r_2 ++ b__e)] : List (List Int))
         exact awpBack ((xUpd mt_91 52 (entL eStr eB seen2) (entL eStr eB (mset seen2 r_3 true))).or ((xLook mt_91 50 (entL eStr eB seen2)).or X0)) TTab_ok hC hm [1,9,10,11,13,27,28,29,33,34,35] 4000 [.g [], .a (eStr r_3), .a (eB val), bT, bT, .l ((out3 ++ ([(r_2 ++ b__e)] : List (List Int))).map F4_), .a (.atom (.int .i64 (((r_2 ++ b__e).length : Nat) : Int)))] J5 [(1, .d (eSl 1 false F4_ b_)), (9, .own (.opq (mapQ (entL eStr eB (mset seen2 r_3 true))))), (10, .d (I (w64 (n_2 + (((r_2 ++ b__e).length : Nat) : Int))))), (11, .own (eOs 1 false F4_ (out3 ++ ([(r_2 ++ b__e)] : List (List Int))))), (13, .d (eSl 1 false (eI .i64) a__e)), (27, .d (eSl 1 false F4_ a_)), (28, .d (I ((a_.length : Nat) : Int))), (29, .d (I x29)), (33, .d (eSl 1 false F4_ b_)), (34, .d (I ((b_.length : Nat) : Int))), (35, .d (I x35))] [ob (hasG h_tries_key), ob o10, ob o11, ob o12, ob c6, ob o13, ob o14, ob o15, ob o16, ob o17, ob o18, ob (lnM (eI .i64) (r_2 ++ b__e))] (by kernel_rfl) fun st0 h0 => hJ5 st0 _ ((mset seen2 r_3 true), w64 (n_2 + (((r_2 ++ b__e).length : Nat) : Int)), (out3 ++ ([(r_2 ++ b__e)] : List (List Int)))) hf2 h0 inferInstance
        ·exact awpBack ((xLook mt_91 50 (entL eStr eB seen2)).or X0) TTab_ok hC hm [1,9,10,11,13,27,28,29,33,34,35] 4000 [.g [], .a (eStr r_3), .a (eB val), bF] J5 [(1, .d (eSl 1 false F4_ b_)), (9, .own (.opq (mapQ (entL eStr eB seen2)))), (10, .d (I n_2)), (11, .own (eOs 1 false F4_ out3)), (13, .d (eSl 1 false (eI .i64) a__e)), (27, .d (eSl 1 false F4_ a_)), (28, .d (I ((a_.length : Nat) : Int))), (29, .d (I x29)), (33, .d (eSl 1 false F4_ b_)), (34, .d (I ((b_.length : Nat) : Int))), (35, .d (I x35))] [ob (hasG h_tries_key), ob o10, ob o11, ob o12, ob c6] (by kernel_rfl) fun st0 h0 => hJ5 st0 _ (seen2, n_2, out3) hf2 h0 inferInstance
     ·obtain rfl := someE hf2
      obtain rfl := hl2
      exact awpBack X0 TTab_ok hC hm [1,9,10,11,27,28,29] 4000 [bF] J3 [(1, .d (eSl 1 false F4_ b_)), (9, .own (.opq (mapQ (entL eStr eB seen2)))), (10, .d (I n_2)), (11, .own (eOs 1 false F4_ out3)), (27, .d (eSl 1 false F4_ a_)), (28, .d (I ((a_.length : Nat) : Int))), (29, .d (I x29))] [ob c2] (by kernel_rfl) fun st0 h0 => hJ3 st0 _ (seen2, n_2, out3) hf1 h0 inferInstance
   ·obtain rfl := someE hf1
    obtain rfl := hl1
    exact awpBack X0 TTab_ok hC hm [11] 4000 [bF] J1 [(11, .own (eOs 1 false F4_ out1))] [ob c1] (by kernel_rfl) fun st0 h0 => hJ1 st0 _ out1 hf0 h0 inferInstance
end Go.Own
