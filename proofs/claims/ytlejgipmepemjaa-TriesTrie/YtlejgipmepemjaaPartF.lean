/- -/
import Derived.Test.YtlejgipmepemjaaPartE
set_option linter.unusedVariables false
set_option linter.unusedSimpArgs false
namespace Go.Own
open Go.Proofs
set_option linter.unusedVariables false
set_option maxRecDepth 100000
set_option maxHeartbeats 8000000
def X0 : XH Try.prog := xB TTab_ok
theorem sT_98_9 : StrT Try.prog 98 9 := strT_of (e := 5) Try.underlying98 Try.underlying5 Try.underlying9
theorem mt_91 : MapT Try.prog 91 9 4 okStr (.atom (.bool false)) := mapT_str Try.underlying91 Try.underlying9 ⟨.bool false, fun w => zero_run (f := Try.t4) (by kernel_rfl) rfl w, fun S => rep1_atom.2 ⟨rfl, rfl⟩⟩ rfl
theorem so_77 : SortT Try.prog 77 1 false := sortT_of TTab_ok (t := 52) Try.so77 rfl rfl (by kernel_rfl) (by decide)
noncomputable def bd_law12_L_Alphabet : Code := (Try.f20.body).getD .skip
noncomputable def sp_law12_L_Alphabet : Spec := spF (α := S_law12_L) (ρ := Int) 20 (fun x => [F21_ x]) (fun r => (eI .i64) r) (fun x => law12_L_Alphabet x) [] (by
 rintro a0 b0 h
 have e0 := EncI.inj (f := F21_) _ _ (List.cons.inj h).1
 subst e0
 rfl)
theorem w_law12_L_Alphabet {ctr : Ctr} (hC : CtrOk Try.prog ctr) (hm : Try.prog.follows .mixedOrders = true) : sp_law12_L_Alphabet.Ok Try.prog := by
 refine spF_ok ?_
 rintro x_ r0 hf0
 try unfold law12_L_Alphabet at hf0
 refine callOk_h (tt := TTab) (keep := true) (rs := [(2, none)]) (n := ⟨8, []⟩) (body := bd_law12_L_Alphabet) TTab_ok Try.func20 rfl (by kernel_rfl) rfl rfl (by show (1 : Nat) ≤ 8; decide) fun E hE => ?_
 obtain ⟨g0, hf0⟩ := gdE hf0
 obtain rfl := someE hf0
 exact awpEnd X0 TTab_ok hC hm hE 4000 (hs := []) (x := (I (w64 (1 + (w64 (Int.tmod x_.Inputs 3)))))) [ob g0] (by kernel_rfl) (LeV.refl _)
noncomputable def bd_law12_L_Raw : Code := (Try.f55.body).getD .skip
noncomputable def sp_law12_L_Raw : Spec := spF (α := S_law12_L) (ρ := List (List Int)) 55 (fun x => [F21_ x]) (fun r => (eOs 1 false F3_) r) (fun x => law12_L_Raw x) [] (by
 rintro a0 b0 h
 have e0 := EncI.inj (f := F21_) _ _ (List.cons.inj h).1
 subst e0
 rfl)
abbrev ST_law12_L_Raw_J1 (out : List (List Int)) : List (Nat × T) := [(3, .own (eOs 1 false F3_ out))]
abbrev ST_law12_L_Raw_J3 (x_ : S_law12_L) (i_ : Int) (out2 : List (List Int)) : List (Nat × T) := [(1, .own (.box (F21_ x_))), (3, .own (eOs 1 false F3_ out2)), (4, .d (I i_)), (13, .d (I i_)), (14, .d (B (decide (i_ < 40))))]
abbrev ST_law12_L_Raw_J4 (x_ : S_law12_L) (out1 : List (List Int)) (i_ : Int) (w_ : List Int) : List (Nat × T) := [(1, .own (.box (F21_ x_))), (3, .own (eOs 1 false F3_ out1)), (4, .d (I i_)), (5, .own (eOs 1 false (eI .i64) w_)), (13, .d (I i_)), (14, .d (B (decide (i_ < 40))))]
abbrev ST_law12_L_Raw_L5 (x_ : S_law12_L) (out1 : List (List Int)) (i_ : Int) (w_1 : List Int) (k_ : Int) : List (Nat × T) := [(1, .own (.box (F21_ x_))), (3, .own (eOs 1 false F3_ out1)), (4, .d (I i_)), (5, .own (eOs 1 false (eI .i64) w_1)), (6, .d (I k_)), (13, .d (I i_)), (14, .d (B (decide (i_ < 40))))]
abbrev ST_law12_L_Raw_L2 (x_ : S_law12_L) (out1 : List (List Int)) (i_ : Int) : List (Nat × T) := [(1, .own (.box (F21_ x_))), (3, .own (eOs 1 false F3_ out1)), (4, .d (I i_))]
theorem w_law12_L_Raw {ctr : Ctr} (hC : CtrOk Try.prog ctr) (hm : Try.prog.follows .mixedOrders = true) (h_law12_L_Alphabet : ctr.Has sp_law12_L_Alphabet) : sp_law12_L_Raw.Ok Try.prog := by
 refine spF_ok ?_
 rintro x_ r0 hf0
 try unfold law12_L_Raw at hf0
 refine callOk_h (tt := TTab) (keep := true) (rs := [(2, none)]) (n := ⟨53, []⟩) (body := bd_law12_L_Raw) TTab_ok Try.func55 rfl (by kernel_rfl) rfl rfl (by show (1 : Nat) ≤ 53; decide) fun E hE => ?_
 refine awpAt X0 TTab_ok hC hm [1,3] 4000 [.cut 2] (sub [1,1] bd_law12_L_Raw) (frs [1,1] [] bd_law12_L_Raw []) [(1, .own (.box (F21_ x_))), (3, .own (eOs 1 true F4_ []))] [] (by kernel_rfl) fun st0 h0 => ?_
 refine awpJoin' (X := List (List Int)) (x := (sub [1,1,2] bd_law12_L_Raw)) (y := (sub [1,1,1] bd_law12_L_Raw)) (by kernel_rfl) [3] [1,3] _ h0 (fun z => law12_L_Raw_J1 z = some r0) (fun z => ST_law12_L_Raw_J1 z) ?_ fun J1 hJ1 => ?_
 ·rintro out hf0
  unfold law12_L_Raw_J1 at hf0
  obtain rfl := someE hf0
  exact awpEnd X0 TTab_ok hC hm hE 4000 (hs := []) (x := (eOs 1 false F3_ out)) [] (by kernel_rfl) (LeV.refl _)
 ·obtain ⟨t2, ht2, hf0⟩ := bindE hf0
  refine awpAt X0 TTab_ok hC hm [1,3,4] 4000 [] (sub [1,1,2,1,0] bd_law12_L_Raw) (frs [1,1,2,1,0] [J1] bd_law12_L_Raw []) [(1, .own (.box (F21_ x_))), (3, .own (eOs 1 true F3_ [])), (4, .d (I 0))] [] (by kernel_rfl) fun st0 h0 => ?_
  refine awpLoop' (X := (List (List Int) × Int) × Nat) (c' := (sub [1,1,2,1,0,0] bd_law12_L_Raw)) (by kernel_rfl) [1,3,4] (fun x => loopN (fun s => law12_L_Raw_L2 x_ s.1 s.2) x.2 x.1 = some t2) (fun x => x.2) (fun x => ST_law12_L_Raw_L2 x_ x.1.1 x.1.2) ((([] : List (List Int)), 0), fuel) _ h0 inferInstance ht2 ?_
  rintro ⟨⟨out1, i_⟩, n2⟩ hn2 J2 hJ2
  obtain ⟨m2, lr1, rfl, hf1, hl1⟩ := loopE hn2
  try unfold law12_L_Raw_L2 at hf1
  have o0 := lnM F0_ x_.Words
  rcases bifE hf1 with ⟨c0, hf1⟩ | ⟨c0, hf1⟩
  ·rcases bifE hf1 with ⟨c1, hf1⟩ | ⟨c1, hf1⟩
   ·refine awpAt X0 TTab_ok hC hm [1,3,4,13,14] 4000 (aLn x_.Words.length :: (rpN 4 bT [.cut 0])) (sub [1,1,2,1,0,0,1] bd_law12_L_Raw) (frs [1,1,2,1,0,0,1] [J1, J2] bd_law12_L_Raw []) [(1, .own (.box (F21_ x_))), (3, .own (eOs 1 false F3_ out1)), (4, .d (I i_)), (13, .d (I i_)), (14, .d (B (decide (i_ < 40))))] [ob o0, ob c0, ob c0, ob c0, ob c1] (by kernel_rfl) fun st0 h0 => ?_
    refine awpJoin' (X := List (List Int)) (x := (sub [1,1,2,1,0,0,1,2] bd_law12_L_Raw)) (y := (sub [1,1,2,1,0,0,1,1] bd_law12_L_Raw)) (by kernel_rfl) [1,3,4,13,14] [1,3,4,13,14] _ h0 (fun z => law12_L_Raw_J3 i_ z = some lr1) (fun z => ST_law12_L_Raw_J3 x_ i_ z) ?_ fun J3 hJ3 => ?_
    ·rintro out2 hf1
     unfold law12_L_Raw_J3 at hf1
     obtain rfl := someE hf1
     exact awpBack X0 TTab_ok hC hm [1,3,4] 4000 [] J2 [(1, .own (.box (F21_ x_))), (3, .own (eOs 1 false F3_ out2)), (4, .d (I (w64 (i_ + 1))))] [] (by kernel_rfl) fun st0 h0 => hJ2 st0 _ ((out2, w64 (i_ + 1)), m2) hl1 (Nat.lt_succ_self m2) h0 inferInstance
    ·refine awpAt X0 TTab_ok hC hm [1,3,4,5,13,14] 4000 [.cut 1] (sub [1,1,2,1,0,0,1,2,0,1] bd_law12_L_Raw) (frs [1,1,2,1,0,0,1,2,0,1] [J1, J2, J3] bd_law12_L_Raw []) [(1, .own (.box (F21_ x_))), (3, .own (eOs 1 false F3_ out1)), (4, .d (I i_)), (5, .own (eOs 1 true (eI .i64) [])), (13, .d (I i_)), (14, .d (B (decide (i_ < 40))))] [] (by kernel_rfl) fun st0 h0 => ?_
     refine awpJoin' (X := List Int) (x := (sub [1,1,2,1,0,0,1,2,0,1,2] bd_law12_L_Raw)) (y := (sub [1,1,2,1,0,0,1,2,0,1,1] bd_law12_L_Raw)) (by kernel_rfl) [1,3,4,5,13,14] [1,3,4,5,13,14] _ h0 (fun z => law12_L_Raw_J4 out1 i_ z = some lr1) (fun z => ST_law12_L_Raw_J4 x_ out1 i_ z) ?_ fun J4 hJ4 => ?_
     ·rintro w_ hf1
      unfold law12_L_Raw_J4 at hf1
      obtain ⟨g0, hf1⟩ := gdE hf1
      have o1 := aL F3_ F3_ g0
      have o2 := aM F3_ out1 ([w_] : List (List Int))
      exact awpBack X0 TTab_ok hC hm [1,3,4,13,14] 4000 [bF, .l ((out1 ++ ([w_] : List (List Int))).map F3_)] J3 [(1, .own (.box (F21_ x_))), (3, .own (eOs 1 false F3_ (out1 ++ ([w_] : List (List Int))))), (4, .d (I i_)), (13, .d (I i_)), (14, .d (B (decide (i_ < 40))))] [ob (oC F3_ w_ []), ob o1, ob o2] (by kernel_rfl) fun st0 h0 => hJ3 st0 _ (out1 ++ ([w_] : List (List Int))) hf1 h0 inferInstance
     ·obtain ⟨t5, ht5, hf1⟩ := bindE hf1
      refine awpAt X0 TTab_ok hC hm [1,3,4,5,6,13,14] 4000 [] (sub [1,1,2,1,0,0,1,2,0,1,2,1,0] bd_law12_L_Raw) (frs [1,1,2,1,0,0,1,2,0,1,2,1,0] [J1, J2, J3, J4] bd_law12_L_Raw []) [(1, .own (.box (F21_ x_))), (3, .own (eOs 1 false F3_ out1)), (4, .d (I i_)), (5, .own (eOs 1 true (eI .i64) [])), (6, .d (I 0)), (13, .d (I i_)), (14, .d (B (decide (i_ < 40))))] [] (by kernel_rfl) fun st0 h0 => ?_
      refine awpLoop' (X := (List Int × Int) × Nat) (c' := (sub [1,1,2,1,0,0,1,2,0,1,2,1,0,0] bd_law12_L_Raw)) (by kernel_rfl) [1,3,4,5,6,13,14] (fun x => loopN (fun s => law12_L_Raw_L5 x_ i_ s.1 s.2) x.2 x.1 = some t5) (fun x => x.2) (fun x => ST_law12_L_Raw_L5 x_ out1 i_ x.1.1 x.1.2) ((([] : List Int), 0), fuel) _ h0 inferInstance ht5 ?_
      rintro ⟨⟨w_1, k_⟩, n5⟩ hn5 J5 hJ5
      obtain ⟨m5, lr2, rfl, hf2, hl2⟩ := loopE hn5
      try unfold law12_L_Raw_L5 at hf2
      obtain ⟨Word_e, h0, hf2⟩ := bindE hf2
      rcases bifE hf2 with ⟨c2, hf2⟩ | ⟨c2, hf2⟩
      ·rcases bifE hf2 with ⟨c3, hf2⟩ | ⟨c3, hf2⟩
       ·obtain ⟨Word_e1, h1, hf2⟩ := bindE hf2
        obtain ⟨Word_e_e, h2, hf2⟩ := bindE hf2
        obtain ⟨r_, h3, hf2⟩ := bindE hf2
        have o3 := hasF h_law12_L_Alphabet (x := x_) h3 (loC F21_ x_ <| loN)
        obtain ⟨g1, hf2⟩ := gdE hf2
        have o4 := dM (eI .i64) ([Int.tmod (w64 (Word_e_e)) r_] : List Int)
        have o5 := dM (eI .i64) ([Int.tmod (w64 (Word_e_e)) r_] : List Int)
        obtain ⟨g2, hf2⟩ := gdE hf2
        have o6 := aM (eI .i64) w_1 ([Int.tmod (w64 (Word_e_e)) r_] : List Int)
        obtain rfl := someE hf2
        exact awpBack X0 TTab_ok hC hm [1,3,4,5,6,13,14] 4000 (.a (F0_ Word_e) :: aLn Word_e.length :: (rpN 4 bT [.a (F0_ Word_e1), .a ((eI .u8) Word_e_e), .g [], .a ((eI .i64) r_), bT, .l ((w_1 ++ ([Int.tmod (w64 (Word_e_e)) r_] : List Int)).map (eI .i64))])) J5 [(1, .own (.box (F21_ x_))), (3, .own (eOs 1 false F3_ out1)), (4, .d (I i_)), (5, .own (eOs 1 false (eI .i64) (w_1 ++ ([Int.tmod (w64 (Word_e_e)) r_] : List Int)))), (6, .d (I (w64 (k_ + 1)))), (13, .d (I i_)), (14, .d (B (decide (i_ < 40))))] [ob (i0 h0), ob (iM F0_ h0), ob (lnM (eI .u8) Word_e), ob c2, ob c2, ob c2, ob c3, ob (i0 h1), ob (iM F0_ h1), ob (i0 h2), ob (iM (eI .u8) h2), ob (hasG h_law12_L_Alphabet), ob o3, ob g1, ob o4, ob o5, ob (aL (eI .i64) (eI .i64) g2), ob o6] (by kernel_rfl) fun st0 h0 => hJ5 st0 _ (((w_1 ++ ([Int.tmod (w64 (Word_e_e)) r_] : List Int)), w64 (k_ + 1)), m5) hl2 (Nat.lt_succ_self m5) h0 inferInstance
       ·obtain rfl := someE hf2
        obtain rfl := hl2
        exact awpBack X0 TTab_ok hC hm [1,3,4,5,13,14] 4000 [.a (F0_ Word_e), aLn Word_e.length, bT, bT, bT, bF] J4 [(1, .own (.box (F21_ x_))), (3, .own (eOs 1 false F3_ out1)), (4, .d (I i_)), (5, .own (eOs 1 false (eI .i64) w_1)), (13, .d (I i_)), (14, .d (B (decide (i_ < 40))))] [ob (i0 h0), ob (iM F0_ h0), ob (lnM (eI .u8) Word_e), ob c2, ob c2, ob c2, ob c3] (by kernel_rfl) fun st0 h0 => hJ4 st0 _ w_1 hf1 h0 inferInstance
      ·obtain rfl := someE hf2
       obtain rfl := hl2
       exact awpBack X0 TTab_ok hC hm [1,3,4,5,13,14] 4000 (.a (F0_ Word_e) :: aLn Word_e.length :: (rpN 4 bF [])) J4 [(1, .own (.box (F21_ x_))), (3, .own (eOs 1 false F3_ out1)), (4, .d (I i_)), (5, .own (eOs 1 false (eI .i64) w_1)), (13, .d (I i_)), (14, .d (B (decide (i_ < 40))))] [ob (i0 h0), ob (iM F0_ h0), ob (lnM (eI .u8) Word_e), ob c2, ob c2, ob c2, oF] (by kernel_rfl) fun st0 h0 => hJ4 st0 _ w_1 hf1 h0 inferInstance
   ·obtain rfl := someE hf1
    obtain rfl := hl1
    exact awpBack X0 TTab_ok hC hm [3] 4000 [aLn x_.Words.length, bT, bT, bT, bF] J1 [(3, .own (eOs 1 false F3_ out1))] [ob o0, ob c0, ob c0, ob c0, ob c1] (by kernel_rfl) fun st0 h0 => hJ1 st0 _ out1 hf0 h0 inferInstance
  ·obtain rfl := someE hf1
   obtain rfl := hl1
   exact awpBack X0 TTab_ok hC hm [3] 4000 (aLn x_.Words.length :: (rpN 4 bF [])) J1 [(3, .own (eOs 1 false F3_ out1))] [ob o0, ob c0, ob c0, ob c0, oF] (by kernel_rfl) fun st0 h0 => hJ1 st0 _ out1 hf0 h0 inferInstance
noncomputable def bd_ref12_compare : Code := (Try.f64.body).getD .skip
noncomputable def sp_ref12_compare : Spec := spF (α := List Int × List Int) (ρ := Int) 64 (fun x => [F4_ x.1, F4_ x.2]) (fun r => (eI .i64) r) (fun x => ref12_compare x.1 x.2) [] (by
 rintro ⟨a0, a1⟩ ⟨b0, b1⟩ h
 have e0 := EncI.inj (f := F4_) _ _ (List.cons.inj h).1
 replace h := (List.cons.inj h).2
 have e1 := EncI.inj (f := F4_) _ _ (List.cons.inj h).1
 subst e0 e1
 rfl)
abbrev ST_ref12_compare_J1 : List (Nat × T) := []
abbrev ST_ref12_compare_L2 (a_ : List Int) (b_ : List Int) (i_ : Int) : List (Nat × T) := [(0, .d (eSl 1 false (eI .i64) a_)), (1, .d (eSl 1 false (eI .i64) b_)), (5, .d (I i_))]
theorem w_ref12_compare {ctr : Ctr} (hC : CtrOk Try.prog ctr) (hm : Try.prog.follows .mixedOrders = true) : sp_ref12_compare.Ok Try.prog := by
 refine spF_ok ?_
 rintro ⟨a_, b_⟩ r0 hf0
 try unfold ref12_compare at hf0
 refine callOk_h (tt := TTab) (keep := true) (rs := [(4, none)]) (n := ⟨40, []⟩) (body := bd_ref12_compare) TTab_ok Try.func64 rfl (by kernel_rfl) rfl rfl (by show (2 : Nat) ≤ 40; decide) fun E hE => ?_
 rcases bifE hf0 with ⟨c0, hf0⟩ | ⟨c0, hf0⟩
 ·rcases bifE hf0 with ⟨c1, hf0⟩ | ⟨c1, hf0⟩
  ·obtain rfl := someE hf0
   exact awpEnd X0 TTab_ok hC hm hE 4000 (hs := [aLn a_.length, aLn b_.length, bT, aLn a_.length, aLn b_.length, bT]) (x := (I (-1))) [ob (lnM (eI .i64) a_), ob (lnM (eI .i64) b_), ob c0, ob (lnM (eI .i64) a_), ob (lnM (eI .i64) b_), ob c1] (by kernel_rfl) (LeV.refl _)
  ·obtain rfl := someE hf0
   exact awpEnd X0 TTab_ok hC hm hE 4000 (hs := [aLn a_.length, aLn b_.length, bT, aLn a_.length, aLn b_.length, bF]) (x := (I 1)) [ob (lnM (eI .i64) a_), ob (lnM (eI .i64) b_), ob c0, ob (lnM (eI .i64) a_), ob (lnM (eI .i64) b_), ob c1] (by kernel_rfl) (LeV.refl _)
 ·refine awpAt X0 TTab_ok hC hm [0,1] 4000 [aLn a_.length, aLn b_.length, bF, .cut 0] (sub [1,1] bd_ref12_compare) (frs [1,1] [] bd_ref12_compare []) [(0, .d (eSl 1 false (eI .i64) a_)), (1, .d (eSl 1 false (eI .i64) b_))] [ob (lnM (eI .i64) a_), ob (lnM (eI .i64) b_), ob c0] (by kernel_rfl) fun st0 h0 => ?_
  refine awpJoin' (X := Unit) (x := (sub [1,1,2] bd_ref12_compare)) (y := (sub [1,1,1] bd_ref12_compare)) (by kernel_rfl) [] [0,1] _ h0 (fun z => ref12_compare_J1 = some r0) (fun z => ST_ref12_compare_J1) ?_ fun J1 hJ1 => ?_
  ·rintro ⟨⟩ hf0
   unfold ref12_compare_J1 at hf0
   obtain rfl := someE hf0
   exact awpEnd X0 TTab_ok hC hm hE 4000 (hs := []) (x := (I 0)) [] (by kernel_rfl) (LeV.refl _)
  ·obtain ⟨t2, ht2, hf0⟩ := bindE hf0
   refine awpAt X0 TTab_ok hC hm [0,1,5] 4000 [] (sub [1,1,2,1,0] bd_ref12_compare) (frs [1,1,2,1,0] [J1] bd_ref12_compare []) [(0, .d (eSl 1 false (eI .i64) a_)), (1, .d (eSl 1 false (eI .i64) b_)), (5, .d (I 0))] [] (by kernel_rfl) fun st0 h0 => ?_
   refine awpLoop' (X := Int × Nat) (c' := (sub [1,1,2,1,0,0] bd_ref12_compare)) (by kernel_rfl) [0,1,5] (fun x => loopN (fun s => ref12_compare_L2 a_ b_ s) x.2 x.1 = some t2) (fun x => x.2) (fun x => ST_ref12_compare_L2 a_ b_ x.1) (0, fuel) _ h0 inferInstance ht2 ?_
   rintro ⟨i_, n2⟩ hn2 J2 hJ2
   obtain ⟨m2, lr1, rfl, hf1, hl1⟩ := loopE hn2
   try unfold ref12_compare_L2 at hf1
   rcases bifE hf1 with ⟨c2, hf1⟩ | ⟨c2, hf1⟩
   ·obtain ⟨a__e, h0, hf1⟩ := bindE hf1
    obtain ⟨b__e, h1, hf1⟩ := bindE hf1
    rcases bifE hf1 with ⟨c3, hf1⟩ | ⟨c3, hf1⟩
    ·obtain rfl := someE hf1
     obtain rfl := hl1
     obtain rfl := someE hf0
     exact awpEnd X0 TTab_ok hC hm hE 4000 (hs := [aLn a_.length, bT, .a ((eI .i64) a__e), .a ((eI .i64) b__e), bT]) (x := (I (-1))) [ob (lnM (eI .i64) a_), ob c2, ob (i0 h0), ob (iM (eI .i64) h0), ob (i0 h1), ob (iM (eI .i64) h1), ob c3] (by kernel_rfl) (LeV.refl _)
    ·obtain ⟨a__e1, h2, hf1⟩ := bindE hf1
     obtain ⟨b__e1, h3, hf1⟩ := bindE hf1
     rcases bifE hf1 with ⟨c4, hf1⟩ | ⟨c4, hf1⟩
     ·obtain rfl := someE hf1
      obtain rfl := hl1
      obtain rfl := someE hf0
      exact awpEnd X0 TTab_ok hC hm hE 4000 (hs := [aLn a_.length, bT, .a ((eI .i64) a__e), .a ((eI .i64) b__e), bF, .a ((eI .i64) a__e1), .a ((eI .i64) b__e1), bT]) (x := (I 1)) [ob (lnM (eI .i64) a_), ob c2, ob (i0 h0), ob (iM (eI .i64) h0), ob (i0 h1), ob (iM (eI .i64) h1), ob c3, ob (i0 h2), ob (iM (eI .i64) h2), ob (i0 h3), ob (iM (eI .i64) h3), ob c4] (by kernel_rfl) (LeV.refl _)
     ·obtain rfl := someE hf1
      exact awpBack X0 TTab_ok hC hm [0,1,5] 4000 [aLn a_.length, bT, .a ((eI .i64) a__e), .a ((eI .i64) b__e), bF, .a ((eI .i64) a__e1), .a ((eI .i64) b__e1), bF] J2 [(0, .d (eSl 1 false (eI .i64) a_)), (1, .d (eSl 1 false (eI .i64) b_)), (5, .d (I (w64 (i_ + 1))))] [ob (lnM (eI .i64) a_), ob c2, ob (i0 h0), ob (iM (eI .i64) h0), ob (i0 h1), ob (iM (eI .i64) h1), ob c3, ob (i0 h2), ob (iM (eI .i64) h2), ob (i0 h3), ob (iM (eI .i64) h3), ob c4] (by kernel_rfl) fun st0 h0 => hJ2 st0 _ (w64 (i_ + 1), m2) hl1 (Nat.lt_succ_self m2) h0 inferInstance
   ·obtain rfl := someE hf1
    obtain rfl := hl1
    exact awpBack X0 TTab_ok hC hm [] 4000 [aLn a_.length, bF] J1 [] [ob (lnM (eI .i64) a_), ob c2] (by kernel_rfl) fun st0 h0 => hJ1 st0 _ () hf0 h0 inferInstance
noncomputable def bd_ref12_put : Code := (Try.f52.body).getD .skip
noncomputable def sp_ref12_put : Spec := spF (α := List (List Int) × List Int) (ρ := List (List Int)) 52 (fun x => [F9_ x.1, F4_ x.2]) (fun r => F9_ r) (fun x => ref12_put x.1 x.2) [true, false] (by
 rintro ⟨a0, a1⟩ ⟨b0, b1⟩ h
 have e0 := EncI.inj (f := F9_) _ _ (List.cons.inj h).1
 replace h := (List.cons.inj h).2
 have e1 := EncI.inj (f := F4_) _ _ (List.cons.inj h).1
 subst e0 e1
 rfl)
abbrev ST_ref12_put_J3 (w_ : List Int) (low : Int) (l_1 : List (List Int)) : List (Nat × T) := [(0, .own (eOs 1 false F4_ l_1)), (1, .d (eSl 1 false (eI .i64) w_)), (5, .d (I low))]
abbrev ST_ref12_put_L4 (w_ : List Int) (low : Int) (l_2 : List (List Int)) (i_ : Int) : List (Nat × T) := [(0, .own (eOs 1 false F4_ l_2)), (1, .d (eSl 1 false (eI .i64) w_)), (5, .d (I low)), (8, .d (I i_))]
abbrev ST_ref12_put_J2 (l_ : List (List Int)) (w_ : List Int) (low : Int) : List (Nat × T) := [(0, .own (eOs 1 false F4_ l_)), (1, .d (eSl 1 false (eI .i64) w_)), (5, .d (I low))]
abbrev ST_ref12_put_J1 (l_ : List (List Int)) (w_ : List Int) (low : Int) : List (Nat × T) := [(0, .own (eOs 1 false F4_ l_)), (1, .d (eSl 1 false (eI .i64) w_)), (5, .d (I low))]
abbrev ST_ref12_put_L5 (l_ : List (List Int)) (w_ : List Int) (low1 : Int) (high : Int) : List (Nat × T) := [(0, .own (eOs 1 false F4_ l_)), (1, .d (eSl 1 false (eI .i64) w_)), (5, .d (I low1)), (6, .d (I high))]
theorem w_ref12_put {ctr : Ctr} (hC : CtrOk Try.prog ctr) (hm : Try.prog.follows .mixedOrders = true) (h_ref12_compare : ctr.Has sp_ref12_compare) : sp_ref12_put.Ok Try.prog := by
 refine spF_ok ?_
 rintro ⟨l_, w_⟩ r0 hf0
 try unfold ref12_put at hf0
 refine callOk_h (tt := TTab) (keep := true) (rs := [(4, none)]) (n := ⟨68, []⟩) (body := bd_ref12_put) TTab_ok Try.func52 rfl (by kernel_rfl) rfl rfl (by show (2 : Nat) ≤ 68; decide) fun E hE => ?_
 refine awpAt ((xSeal TTab_ok (.inr 66) [65]).or ((xSeal TTab_ok (.inl 44) [43]).or X0)) TTab_ok hC hm [0,1,5,6] 4000 [aLn l_.length, .cut 0] (sub [1,1,1] bd_ref12_put) (frs [1,1,1] [] bd_ref12_put []) [(0, .own (eOs 1 false F4_ l_)), (1, .d (eSl 1 false (eI .i64) w_)), (5, .d (I 0)), (6, .d (I ((l_.length : Nat) : Int)))] [ob (lnM F4_ l_)] (by kernel_rfl) fun st0 h0 => ?_
 refine awpJoin' (X := Int) (x := (sub [1,1,1,2] bd_ref12_put)) (y := (sub [1,1,1,1] bd_ref12_put)) (by kernel_rfl) [0,1,5] [0,1,5,6] _ h0 (fun z => ref12_put_J1 l_ w_ z = some r0) (fun z => ST_ref12_put_J1 l_ w_ z) ?_ fun J1 hJ1 => ?_
 ·rintro low hf0
  unfold ref12_put_J1 at hf0
  refine awpAt ((xSeal TTab_ok (.inr 66) [65]).or ((xSeal TTab_ok (.inl 44) [43]).or X0)) TTab_ok hC hm [0,1,5] 4000 [.cut 0] (sub [1,1,1,1] bd_ref12_put) (frs [1,1,1,1] [] bd_ref12_put []) [(0, .own (eOs 1 false F4_ l_)), (1, .d (eSl 1 false (eI .i64) w_)), (5, .d (I low))] [] (by kernel_rfl) fun st0 h0 => ?_
  refine awpJoin' (X := Unit) (x := (sub [1,1,1,1,2] bd_ref12_put)) (y := (sub [1,1,1,1,1] bd_ref12_put)) (by kernel_rfl) [0,1,5] [0,1,5] _ h0 (fun z => ref12_put_J2 l_ w_ low = some r0) (fun z => ST_ref12_put_J2 l_ w_ low) ?_ fun J2 hJ2 => ?_
  ·rintro ⟨⟩ hf0
   unfold ref12_put_J2 at hf0
   have o0 := shM F3_ F4_ ([[]])
   have o1 := dM F4_ ([[]] : List (List Int))
   obtain ⟨g0, hf0⟩ := gdE hf0
   have o2 := aL F4_ F4_ g0
   have o3 := aM F4_ l_ ([[]] : List (List Int))
   refine awpAt ((xNb TTab_ok 43).or ((xSeal TTab_ok (.inr 66) [65]).or ((xSeal TTab_ok (.inl 44) [43]).or X0))) TTab_ok hC hm [0,1,5] 4000 [.l (([[]]).map F4_), .l ((l_ ++ ([[]] : List (List Int))).map F4_), .cut 0] (sub [1,1,1,1,1,1] bd_ref12_put) (frs [1,1,1,1,1,1] [] bd_ref12_put []) [(0, .own (eOs 1 false F4_ (l_ ++ ([[]] : List (List Int))))), (1, .d (eSl 1 false (eI .i64) w_)), (5, .d (I low))] [ob o0, ob o1, ob o2, ob o3] (by kernel_rfl) fun st0 h0 => ?_
   refine awpJoin' (X := List (List Int)) (x := (sub [1,1,1,1,1,1,2] bd_ref12_put)) (y := (sub [1,1,1,1,1,1,1] bd_ref12_put)) (by kernel_rfl) [0,1,5] [0,1,5] _ h0 (fun z => ref12_put_J3 w_ low z = some r0) (fun z => ST_ref12_put_J3 w_ low z) ?_ fun J3 hJ3 => ?_
   ·rintro l_1 hf0
    unfold ref12_put_J3 at hf0
    obtain ⟨g1, hf0⟩ := gdE hf0
    obtain ⟨l__e, h0, hf0⟩ := bindE hf0
    have o4 := sM F4_ l_1 low w_
    obtain rfl := someE hf0
    exact awpEnd ((xSeal TTab_ok (.inr 66) [65]).or ((xSeal TTab_ok (.inl 44) [43]).or X0)) TTab_ok hC hm hE 4000 (hs := [.l (w_.map (eI .i64)), .l (w_.map (eI .i64)), .a (F4_ l__e), .a (F4_ l__e), .l ((l_1.set low.toNat w_).map F4_)]) (x := (eOs 1 false F4_ (l_1.set low.toNat w_))) [ob (dM (eI .i64) w_), ob (aL (eI .i64) (eI .i64) g1), ob (aM0 (eI .i64) w_), ob (iL F4_ h0), ob (shM (eI .i64) (eI .i64) w_), ob (iM F4_ h0), ob (iM F4_ h0), ob o4] (by kernel_rfl) (LeV.refl _)
   ·have o5 := lnM F4_ (l_ ++ ([[]] : List (List Int)))
    obtain ⟨t4, ht4, hf0⟩ := bindE hf0
    refine awpAt ((xSeal TTab_ok (.inr 66) [65]).or ((xSeal TTab_ok (.inl 44) [43]).or X0)) TTab_ok hC hm [0,1,5,8] 4000 [.a (.atom (.int .i64 (((l_ ++ ([[]] : List (List Int))).length : Nat) : Int)))] (sub [1,1,1,1,1,1,2,1,0] bd_ref12_put) (frs [1,1,1,1,1,1,2,1,0] [J3] bd_ref12_put []) [(0, .own (eOs 1 false F4_ (l_ ++ ([[]] : List (List Int))))), (1, .d (eSl 1 false (eI .i64) w_)), (5, .d (I low)), (8, .d (I (w64 ((((l_ ++ ([[]] : List (List Int))).length : Nat) : Int) - 1))))] [ob o5] (by kernel_rfl) fun st0 h0 => ?_
    refine awpLoop' (X := (List (List Int) × Int) × Nat) (c' := (sub [1,1,1,1,1,1,2,1,0,0] bd_ref12_put)) (by kernel_rfl) [0,1,5,8] (fun x => loopN (fun s => ref12_put_L4 low s.1 s.2) x.2 x.1 = some t4) (fun x => x.2) (fun x => ST_ref12_put_L4 w_ low x.1.1 x.1.2) (((l_ ++ ([[]] : List (List Int))), w64 ((((l_ ++ ([[]] : List (List Int))).length : Nat) : Int) - 1)), fuel) _ h0 inferInstance ht4 ?_
    rintro ⟨⟨l_2, i_⟩, n4⟩ hn4 J4 hJ4
    obtain ⟨m4, lr1, rfl, hf1, hl1⟩ := loopE hn4
    try unfold ref12_put_L4 at hf1
    rcases bifE hf1 with ⟨c0, hf1⟩ | ⟨c0, hf1⟩
    ·obtain ⟨l__e1, h1, hf1⟩ := bindE hf1
     obtain ⟨l__e2, h2, hf1⟩ := bindE hf1
     have o6 := sM F4_ l_2 i_ l__e1
     obtain rfl := someE hf1
     exact awpBack ((xSeal TTab_ok (.inr 66) [65]).or ((xSeal TTab_ok (.inl 44) [43]).or X0)) TTab_ok hC hm [0,1,5,8] 4000 [bT, .a (F4_ l__e1), .a (F4_ l__e2), .a (F4_ l__e2), .l ((l_2.set i_.toNat l__e1).map F4_)] J4 [(0, .own (eOs 1 false F4_ (l_2.set i_.toNat l__e1))), (1, .d (eSl 1 false (eI .i64) w_)), (5, .d (I low)), (8, .d (I (w64 (i_ - 1))))] [ob c0, ob (iL F4_ h1), ob (iM F4_ h1), ob (iL F4_ h2), ob (iM F4_ h2), ob (iM F4_ h2), ob o6] (by kernel_rfl) fun st0 h0 => hJ4 st0 _ (((l_2.set i_.toNat l__e1), w64 (i_ - 1)), m4) hl1 (Nat.lt_succ_self m4) h0 inferInstance
    ·obtain rfl := someE hf1
     obtain rfl := hl1
     exact awpBack ((xSeal TTab_ok (.inr 66) [65]).or ((xSeal TTab_ok (.inl 44) [43]).or X0)) TTab_ok hC hm [0,1,5] 4000 [bF] J3 [(0, .own (eOs 1 false F4_ l_2)), (1, .d (eSl 1 false (eI .i64) w_)), (5, .d (I low))] [ob c0] (by kernel_rfl) fun st0 h0 => hJ3 st0 _ l_2 hf0 h0 inferInstance
  ·rcases bifE hf0 with ⟨c1, hf0⟩ | ⟨c1, hf0⟩
   ·obtain ⟨l__e3, h3, hf0⟩ := bindE hf0
    obtain ⟨r_, h4, hf0⟩ := bindE hf0
    have o7 := hasF h_ref12_compare (x := (l__e3, w_)) h4 (loC F4_ l__e3 <| loC F4_ w_ <| loN)
    rcases bifE hf0 with ⟨c2, hf0⟩ | ⟨c2, hf0⟩
    ·obtain rfl := someE hf0
     exact awpEnd ((xSeal TTab_ok (.inr 66) [65]).or ((xSeal TTab_ok (.inl 44) [43]).or X0)) TTab_ok hC hm hE 4000 (hs := (aLn l_.length :: (rpN 4 bT [.a (F4_ l__e3), bT, bT, .g [], .a ((eI .i64) r_), bT, bT, bT]))) (x := (eOs 1 false F4_ l_)) [ob (lnM F4_ l_), ob c1, ob c1, ob c1, ob (iL F4_ h3), ob c1, ob (iM F4_ h3), ob c1, ob c1, ob (hasG h_ref12_compare), ob o7, ob c1, ob c1, ob c2] (by kernel_rfl) (LeV.refl _)
    ·exact awpBack ((xSeal TTab_ok (.inr 66) [65]).or ((xSeal TTab_ok (.inl 44) [43]).or X0)) TTab_ok hC hm [0,1,5] 4000 (aLn l_.length :: (rpN 4 bT [.a (F4_ l__e3), bT, bT, .g [], .a ((eI .i64) r_), bT, bT, bF])) J2 [(0, .own (eOs 1 false F4_ l_)), (1, .d (eSl 1 false (eI .i64) w_)), (5, .d (I low))] [ob (lnM F4_ l_), ob c1, ob c1, ob c1, ob (iL F4_ h3), ob c1, ob (iM F4_ h3), ob c1, ob c1, ob (hasG h_ref12_compare), ob o7, ob c1, ob c1, ob c2] (by kernel_rfl) fun st0 h0 => hJ2 st0 _ () hf0 h0 inferInstance
   ·exact awpBack ((xSeal TTab_ok (.inr 66) [65]).or ((xSeal TTab_ok (.inl 44) [43]).or X0)) TTab_ok hC hm [0,1,5] 4000 (aLn l_.length :: (rpN 9 bF [])) J2 [(0, .own (eOs 1 false F4_ l_)), (1, .d (eSl 1 false (eI .i64) w_)), (5, .d (I low))] (ob (lnM F4_ l_) :: (rpN 8 (ob c1) [oF])) (by kernel_rfl) fun st0 h0 => hJ2 st0 _ () hf0 h0 inferInstance
 ·obtain ⟨t5, ht5, hf0⟩ := bindE hf0
  refine awpAt ((xSeal TTab_ok (.inr 66) [65]).or ((xSeal TTab_ok (.inl 44) [43]).or X0)) TTab_ok hC hm [0,1,5,6] 4000 [] (sub [1,1,1,2,0] bd_ref12_put) (frs [1,1,1,2,0] [J1] bd_ref12_put []) [(0, .own (eOs 1 false F4_ l_)), (1, .d (eSl 1 false (eI .i64) w_)), (5, .d (I 0)), (6, .d (I ((l_.length : Nat) : Int)))] [] (by kernel_rfl) fun st0 h0 => ?_
  refine awpLoop' (X := (Int × Int) × Nat) (c' := (sub [1,1,1,2,0,0] bd_ref12_put)) (by kernel_rfl) [0,1,5,6] (fun x => loopN (fun s => ref12_put_L5 l_ w_ s.1 s.2) x.2 x.1 = some t5) (fun x => x.2) (fun x => ST_ref12_put_L5 l_ w_ x.1.1 x.1.2) ((0, ((l_.length : Nat) : Int)), fuel) _ h0 inferInstance ht5 ?_
  rintro ⟨⟨low1, high⟩, n5⟩ hn5 J5 hJ5
  obtain ⟨m5, lr1, rfl, hf1, hl1⟩ := loopE hn5
  try unfold ref12_put_L5 at hf1
  rcases bifE hf1 with ⟨c3, hf1⟩ | ⟨c3, hf1⟩
  ·obtain ⟨g2, hf1⟩ := gdE hf1
   obtain ⟨l__e4, h5, hf1⟩ := bindE hf1
   obtain ⟨r_1, h6, hf1⟩ := bindE hf1
   have o8 := hasF h_ref12_compare (x := (l__e4, w_)) h6 (loC F4_ l__e4 <| loC F4_ w_ <| loN)
   rcases bifE hf1 with ⟨c4, hf1⟩ | ⟨c4, hf1⟩
   ·obtain rfl := someE hf1
    exact awpBack ((xSeal TTab_ok (.inr 66) [65]).or ((xSeal TTab_ok (.inl 44) [43]).or X0)) TTab_ok hC hm [0,1,5,6] 4000 [bT, .a (F4_ l__e4), .g [], .a ((eI .i64) r_1), bT] J5 [(0, .own (eOs 1 false F4_ l_)), (1, .d (eSl 1 false (eI .i64) w_)), (5, .d (I (w64 ((w64 (Int.tdiv (w64 (low1 + high)) 2)) + 1)))), (6, .d (I high))] [ob c3, ob g2, ob (iL F4_ h5), ob (iM F4_ h5), ob (hasG h_ref12_compare), ob o8, ob c4] (by kernel_rfl) fun st0 h0 => hJ5 st0 _ ((w64 ((w64 (Int.tdiv (w64 (low1 + high)) 2)) + 1), high), m5) hl1 (Nat.lt_succ_self m5) h0 inferInstance
   ·obtain rfl := someE hf1
    exact awpBack ((xSeal TTab_ok (.inr 66) [65]).or ((xSeal TTab_ok (.inl 44) [43]).or X0)) TTab_ok hC hm [0,1,5,6] 4000 [bT, .a (F4_ l__e4), .g [], .a ((eI .i64) r_1), bF] J5 [(0, .own (eOs 1 false F4_ l_)), (1, .d (eSl 1 false (eI .i64) w_)), (5, .d (I low1)), (6, .d (I (w64 (Int.tdiv (w64 (low1 + high)) 2))))] [ob c3, ob g2, ob (iL F4_ h5), ob (iM F4_ h5), ob (hasG h_ref12_compare), ob o8, ob c4] (by kernel_rfl) fun st0 h0 => hJ5 st0 _ ((low1, w64 (Int.tdiv (w64 (low1 + high)) 2)), m5) hl1 (Nat.lt_succ_self m5) h0 inferInstance
  ·obtain rfl := someE hf1
   obtain rfl := hl1
   exact awpBack ((xSeal TTab_ok (.inr 66) [65]).or ((xSeal TTab_ok (.inl 44) [43]).or X0)) TTab_ok hC hm [0,1,5] 4000 [bF] J1 [(0, .own (eOs 1 false F4_ l_)), (1, .d (eSl 1 false (eI .i64) w_)), (5, .d (I low1))] [ob c3] (by kernel_rfl) fun st0 h0 => hJ1 st0 _ low1 hf0 h0 inferInstance
noncomputable def bd_ref12_Sort : Code := (Try.f17.body).getD .skip
noncomputable def sp_ref12_Sort : Spec := spF (α := List (List Int)) (ρ := List (List Int)) 17 (fun x => [F10_ x]) (fun r => F9_ r) (fun x => ref12_Sort x) [] (by
 rintro a0 b0 h
 have e0 := EncI.inj (f := F10_) _ _ (List.cons.inj h).1
 subst e0
 rfl)
abbrev ST_ref12_Sort_J1 (out : List (List Int)) : List (Nat × T) := [(3, .own (eOs 1 false F4_ out))]
abbrev ST_ref12_Sort_L2 (l_ : List (List Int)) (out1 : List (List Int)) (i_ : Int) : List (Nat × T) := [(0, .d (eSl 1 false F4_ l_)), (3, .own (eOs 1 false F4_ out1)), (4, .d (I i_))]
theorem w_ref12_Sort {ctr : Ctr} (hC : CtrOk Try.prog ctr) (hm : Try.prog.follows .mixedOrders = true) (h_ref12_put : ctr.Has sp_ref12_put) : sp_ref12_Sort.Ok Try.prog := by
 refine spF_ok ?_
 rintro l_ r0 hf0
 try unfold ref12_Sort at hf0
 refine callOk_h (tt := TTab) (keep := true) (rs := [(2, none)]) (n := ⟨18, []⟩) (body := bd_ref12_Sort) TTab_ok Try.func17 rfl (by kernel_rfl) rfl rfl (by show (1 : Nat) ≤ 18; decide) fun E hE => ?_
 refine awpAt X0 TTab_ok hC hm [0,3] 4000 [.cut 2] (sub [1,1] bd_ref12_Sort) (frs [1,1] [] bd_ref12_Sort []) [(0, .d (eSl 1 false F4_ l_)), (3, .own (eOs 1 true F4_ []))] [] (by kernel_rfl) fun st0 h0 => ?_
 refine awpJoin' (X := List (List Int)) (x := (sub [1,1,2] bd_ref12_Sort)) (y := (sub [1,1,1] bd_ref12_Sort)) (by kernel_rfl) [3] [0,3] _ h0 (fun z => ref12_Sort_J1 z = some r0) (fun z => ST_ref12_Sort_J1 z) ?_ fun J1 hJ1 => ?_
 ·rintro out hf0
  unfold ref12_Sort_J1 at hf0
  obtain rfl := someE hf0
  exact awpEnd X0 TTab_ok hC hm hE 4000 (hs := []) (x := (eOs 1 false F4_ out)) [] (by kernel_rfl) (LeV.refl _)
 ·obtain ⟨t2, ht2, hf0⟩ := bindE hf0
  refine awpAt X0 TTab_ok hC hm [0,3,4] 4000 [] (sub [1,1,2,1,0] bd_ref12_Sort) (frs [1,1,2,1,0] [J1] bd_ref12_Sort []) [(0, .d (eSl 1 false F4_ l_)), (3, .own (eOs 1 true F4_ [])), (4, .d (I 0))] [] (by kernel_rfl) fun st0 h0 => ?_
  refine awpLoop' (X := (List (List Int) × Int) × Nat) (c' := (sub [1,1,2,1,0,0] bd_ref12_Sort)) (by kernel_rfl) [0,3,4] (fun x => loopN (fun s => ref12_Sort_L2 l_ s.1 s.2) x.2 x.1 = some t2) (fun x => x.2) (fun x => ST_ref12_Sort_L2 l_ x.1.1 x.1.2) ((([] : List (List Int)), 0), fuel) _ h0 inferInstance ht2 ?_
  rintro ⟨⟨out1, i_⟩, n2⟩ hn2 J2 hJ2
  obtain ⟨m2, lr1, rfl, hf1, hl1⟩ := loopE hn2
  try unfold ref12_Sort_L2 at hf1
  rcases bifE hf1 with ⟨c0, hf1⟩ | ⟨c0, hf1⟩
  ·obtain ⟨l__e, h0, hf1⟩ := bindE hf1
   obtain ⟨r_, h1, hf1⟩ := bindE hf1
   have o0 := hasF h_ref12_put (x := (out1, l__e)) h1 (loC F9_ out1 <| loC F4_ l__e <| loN)
   obtain rfl := someE hf1
   exact awpBack X0 TTab_ok hC hm [0,3,4] 4000 [aLn l_.length, bT, .a (F4_ l__e), .g [true, false], .a (F9_ r_)] J2 [(0, .d (eSl 1 false F4_ l_)), (3, .own (eOs 1 false F4_ r_)), (4, .d (I (w64 (i_ + 1))))] [ob (lnM F4_ l_), ob c0, ob (i0 h0), ob (iM F4_ h0), ob (hasG h_ref12_put), ob o0] (by kernel_rfl) fun st0 h0 => hJ2 st0 _ ((r_, w64 (i_ + 1)), m2) hl1 (Nat.lt_succ_self m2) h0 inferInstance
  ·obtain rfl := someE hf1
   obtain rfl := hl1
   exact awpBack X0 TTab_ok hC hm [3] 4000 [aLn l_.length, bF] J1 [(3, .own (eOs 1 false F4_ out1))] [ob (lnM F4_ l_), ob c0] (by kernel_rfl) fun st0 h0 => hJ1 st0 _ out1 hf0 h0 inferInstance
noncomputable def bd_law12_L_Of : Code := (Try.f19.body).getD .skip
noncomputable def sp_law12_L_Of : Spec := spF (α := S_law12_L) (ρ := List (List Int)) 19 (fun x => [F21_ x]) (fun r => F9_ r) (fun x => law12_L_Of x) [] (by
 rintro a0 b0 h
 have e0 := EncI.inj (f := F21_) _ _ (List.cons.inj h).1
 subst e0
 rfl)
theorem w_law12_L_Of {ctr : Ctr} (hC : CtrOk Try.prog ctr) (hm : Try.prog.follows .mixedOrders = true) (h_law12_L_Raw : ctr.Has sp_law12_L_Raw) (h_ref12_Sort : ctr.Has sp_ref12_Sort) : sp_law12_L_Of.Ok Try.prog := by
 refine spF_ok ?_
 rintro x_ r0 hf0
 try unfold law12_L_Of at hf0
 refine callOk_h (tt := TTab) (keep := true) (rs := [(2, none)]) (n := ⟨6, []⟩) (body := bd_law12_L_Of) TTab_ok Try.func19 rfl (by kernel_rfl) rfl rfl (by show (1 : Nat) ≤ 6; decide) fun E hE => ?_
 obtain ⟨r_, h0, hf0⟩ := bindE hf0
 have o0 := hasF h_law12_L_Raw (x := x_) h0 (loC F21_ x_ <| loN)
 have o1 := shM F3_ F4_ r_
 obtain ⟨r_1, h1, hf0⟩ := bindE hf0
 have o2 := hasF h_ref12_Sort (x := r_) h1 (loC F10_ r_ <| loN)
 have o3 := shM F3_ F4_ r_
 obtain rfl := someE hf0
 exact awpEnd X0 TTab_ok hC hm hE 4000 (hs := [.g [], .a ((eOs 1 false F3_) r_), .g [], .l (r_.map F4_), .a (F9_ r_1), .l (r_.map F4_)]) (x := (eOs 1 false F4_ r_1)) [ob (hasG h_law12_L_Raw), ob o0, ob (hasG h_ref12_Sort), ob o1, ob o2, ob o3] (by kernel_rfl) (LeV.refl _)
noncomputable def bd_words_Check_1 : Code := (Try.f86.body).getD .skip
noncomputable def sp_words_Check_1 : Spec := spF (α := Int × Int) (ρ := Bool) 86 (fun x => [(eI .i64) x.1, (eSp (eI .i64)) x.2]) (fun r => eB r) (fun x => words_Check_1 x.1 x.2) [] (by
 rintro ⟨a0, a1⟩ ⟨b0, b1⟩ h
 have e0 := EncI.inj (f := (eI .i64)) _ _ (List.cons.inj h).1
 replace h := (List.cons.inj h).2
 have e1 := EncI.inj (f := (eSp (eI .i64))) _ _ (List.cons.inj h).1
 subst e0 e1
 rfl)
theorem w_words_Check_1 {ctr : Ctr} (hC : CtrOk Try.prog ctr) (hm : Try.prog.follows .mixedOrders = true) : sp_words_Check_1.Ok Try.prog := by
 refine spF_ok ?_
 rintro ⟨c_, x1⟩ r0 hf0
 try unfold words_Check_1 at hf0
 refine callOk_h (tt := TTab) (keep := true) (rs := [(3, none)]) (n := ⟨11, []⟩) (body := bd_words_Check_1) TTab_ok Try.func86 rfl (by kernel_rfl) rfl rfl (by show (2 : Nat) ≤ 11; decide) fun E hE => ?_
 rcases bifE hf0 with ⟨c0, hf0⟩ | ⟨c0, hf0⟩
 ·obtain rfl := someE hf0
  exact awpEnd X0 TTab_ok hC hm hE 4000 (hs := (rpN 4 bT [])) (x := (B true)) (rpN 4 (ob c0) []) (by kernel_rfl) (LeV.refl _)
 ·obtain rfl := someE hf0
  exact awpEnd X0 TTab_ok hC hm hE 4000 (hs := (rpN 4 bF [])) (x := (B (decide (c_ ≥ x1)))) (rpN 4 (ob c0) []) (by kernel_rfl) (LeV.refl _)
noncomputable def bd_slices_IndexFunc_int_int : Code := (Try.f95.body).getD .skip
noncomputable def sp_slices_IndexFunc_int_int : Spec := spF (α := List Int × Int) (ρ := Int) 95 (fun x => [F4_ x.1, (eFn1 86 (eSp (eI .i64))) x.2]) (fun r => (eI .i64) r) (fun x => slices_IndexFunc_int_int x.1 x.2) [] (by
 rintro ⟨a0, a1⟩ ⟨b0, b1⟩ h
 have e0 := EncI.inj (f := F4_) _ _ (List.cons.inj h).1
 replace h := (List.cons.inj h).2
 have e1 := EncI.inj (f := (eFn1 86 (eSp (eI .i64)))) _ _ (List.cons.inj h).1
 subst e0 e1
 rfl)
abbrev ST_slices_IndexFunc_int_int_J1 : List (Nat × T) := []
abbrev ST_slices_IndexFunc_int_int_L2 (s_ : List Int) (f_ : Int) (x8 : Int) : List (Nat × T) := [(0, .d (eSl 1 false (eI .i64) s_)), (1, .d (.fn 86 [.sptr (I f_)])), (7, .d (I ((s_.length : Nat) : Int))), (8, .d (I x8))]
theorem w_slices_IndexFunc_int_int {ctr : Ctr} (hC : CtrOk Try.prog ctr) (hm : Try.prog.follows .mixedOrders = true) (h_words_Check_1 : ctr.Has sp_words_Check_1) : sp_slices_IndexFunc_int_int.Ok Try.prog := by
 refine spF_ok ?_
 rintro ⟨s_, f_⟩ r0 hf0
 try unfold slices_IndexFunc_int_int at hf0
 refine callOk_h (tt := TTab) (keep := true) (rs := [(4, none)]) (n := ⟨19, []⟩) (body := bd_slices_IndexFunc_int_int) TTab_ok Try.func95 rfl (by kernel_rfl) rfl rfl (by show (2 : Nat) ≤ 19; decide) fun E hE => ?_
 refine awpAt X0 TTab_ok hC hm [0,1] 4000 [.cut 1] (sub [1] bd_slices_IndexFunc_int_int) (frs [1] [] bd_slices_IndexFunc_int_int []) [(0, .d (eSl 1 false (eI .i64) s_)), (1, .d (.fn 86 [.sptr (I f_)]))] [] (by kernel_rfl) fun st0 h0 => ?_
 refine awpJoin' (X := Unit) (x := (sub [1,2] bd_slices_IndexFunc_int_int)) (y := (sub [1,1] bd_slices_IndexFunc_int_int)) (by kernel_rfl) [] [0,1] _ h0 (fun z => slices_IndexFunc_int_int_J1 = some r0) (fun z => ST_slices_IndexFunc_int_int_J1) ?_ fun J1 hJ1 => ?_
 ·rintro ⟨⟩ hf0
  unfold slices_IndexFunc_int_int_J1 at hf0
  obtain rfl := someE hf0
  exact awpEnd X0 TTab_ok hC hm hE 4000 (hs := []) (x := (I (-1))) [] (by kernel_rfl) (LeV.refl _)
 ·obtain ⟨t2, ht2, hf0⟩ := bindE hf0
  refine awpAt X0 TTab_ok hC hm [0,1,7,8] 4000 [aLn s_.length] (sub [1,2,1,0] bd_slices_IndexFunc_int_int) (frs [1,2,1,0] [J1] bd_slices_IndexFunc_int_int []) [(0, .d (eSl 1 false (eI .i64) s_)), (1, .d (.fn 86 [.sptr (I f_)])), (7, .d (I ((s_.length : Nat) : Int))), (8, .d (I 0))] [ob (lnM (eI .i64) s_)] (by kernel_rfl) fun st0 h0 => ?_
  refine awpLoop' (X := Int × Nat) (c' := (sub [1,2,1,0,0] bd_slices_IndexFunc_int_int)) (by kernel_rfl) [0,1,7,8] (fun x => loopN (fun s => slices_IndexFunc_int_int_L2 s_ f_ s) x.2 x.1 = some t2) (fun x => x.2) (fun x => ST_slices_IndexFunc_int_int_L2 s_ f_ x.1) (0, fuel) _ h0 inferInstance ht2 ?_
  rintro ⟨x8, n2⟩ hn2 J2 hJ2
  obtain ⟨m2, lr1, rfl, hf1, hl1⟩ := loopE hn2
  try unfold slices_IndexFunc_int_int_L2 at hf1
  rcases bifE hf1 with ⟨c0, hf1⟩ | ⟨c0, hf1⟩
  ·obtain ⟨s__e, h0, hf1⟩ := bindE hf1
   obtain ⟨r_, h1, hf1⟩ := bindE hf1
   have o0 := hasF h_words_Check_1 (x := (s__e, f_)) h1 (loC (eI .i64) s__e <| loC (eSp (eI .i64)) f_ <| loN)
   rcases bifE hf1 with ⟨c1, hf1⟩ | ⟨c1, hf1⟩
   ·obtain rfl := someE hf1
    obtain rfl := hl1
    obtain rfl := someE hf0
    exact awpEnd X0 TTab_ok hC hm hE 4000 (hs := [bT, .a ((eI .i64) s__e), .g [], .a (eB r_), bT]) (x := (I x8)) [ob c0, ob (i0 h0), ob (iM (eI .i64) h0), ob (hasG h_words_Check_1), ob o0, ob c1] (by kernel_rfl) (LeV.refl _)
   ·obtain rfl := someE hf1
    exact awpBack X0 TTab_ok hC hm [0,1,7,8] 4000 [bT, .a ((eI .i64) s__e), .g [], .a (eB r_), bF] J2 [(0, .d (eSl 1 false (eI .i64) s_)), (1, .d (.fn 86 [.sptr (I f_)])), (7, .d (I ((s_.length : Nat) : Int))), (8, .d (I (w64 (x8 + 1))))] [ob c0, ob (i0 h0), ob (iM (eI .i64) h0), ob (hasG h_words_Check_1), ob o0, ob c1] (by kernel_rfl) fun st0 h0 => hJ2 st0 _ (w64 (x8 + 1), m2) hl1 (Nat.lt_succ_self m2) h0 inferInstance
  ·obtain rfl := someE hf1
   obtain rfl := hl1
   exact awpBack X0 TTab_ok hC hm [] 4000 [bF] J1 [] [ob c0] (by kernel_rfl) fun st0 h0 => hJ1 st0 _ () hf0 h0 inferInstance
noncomputable def bd_slices_ContainsFunc_int_int : Code := (Try.f82.body).getD .skip
noncomputable def sp_slices_ContainsFunc_int_int : Spec := spF (α := List Int × Int) (ρ := Bool) 82 (fun x => [F4_ x.1, (eFn1 86 (eSp (eI .i64))) x.2]) (fun r => eB r) (fun x => slices_ContainsFunc_int_int x.1 x.2) [] (by
 rintro ⟨a0, a1⟩ ⟨b0, b1⟩ h
 have e0 := EncI.inj (f := F4_) _ _ (List.cons.inj h).1
 replace h := (List.cons.inj h).2
 have e1 := EncI.inj (f := (eFn1 86 (eSp (eI .i64)))) _ _ (List.cons.inj h).1
 subst e0 e1
 rfl)
theorem w_slices_ContainsFunc_int_int {ctr : Ctr} (hC : CtrOk Try.prog ctr) (hm : Try.prog.follows .mixedOrders = true) (h_slices_IndexFunc_int_int : ctr.Has sp_slices_IndexFunc_int_int) : sp_slices_ContainsFunc_int_int.Ok Try.prog := by
 refine spF_ok ?_
 rintro ⟨s_, f_⟩ r0 hf0
 try unfold slices_ContainsFunc_int_int at hf0
 refine callOk_h (tt := TTab) (keep := true) (rs := [(4, none)]) (n := ⟨9, []⟩) (body := bd_slices_ContainsFunc_int_int) TTab_ok Try.func82 rfl (by kernel_rfl) rfl rfl (by show (2 : Nat) ≤ 9; decide) fun E hE => ?_
 obtain ⟨r_, h0, hf0⟩ := bindE hf0
 have o0 := hasF h_slices_IndexFunc_int_int (x := (s_, f_)) h0 (loC F4_ s_ <| loC (eFn1 86 (eSp (eI .i64))) f_ <| loN)
 obtain rfl := someE hf0
 exact awpEnd X0 TTab_ok hC hm hE 4000 (hs := [.g [], .a ((eI .i64) r_)]) (x := (B (decide (r_ ≥ 0)))) [ob (hasG h_slices_IndexFunc_int_int), ob o0] (by kernel_rfl) (LeV.refl _)
noncomputable def bd_words_Check : Code := (Try.f73.body).getD .skip
noncomputable def sp_words_Check : Spec := spF (α := List Int × Int) (ρ := Int) 73 (fun x => [F4_ x.1, (eI .i64) x.2]) (fun r => (eI .i64) r) (fun x => words_Check x.1 x.2) [] (by
 rintro ⟨a0, a1⟩ ⟨b0, b1⟩ h
 have e0 := EncI.inj (f := F4_) _ _ (List.cons.inj h).1
 replace h := (List.cons.inj h).2
 have e1 := EncI.inj (f := (eI .i64)) _ _ (List.cons.inj h).1
 subst e0 e1
 rfl)
theorem w_words_Check {ctr : Ctr} (hC : CtrOk Try.prog ctr) (hm : Try.prog.follows .mixedOrders = true) (h_slices_ContainsFunc_int_int : ctr.Has sp_slices_ContainsFunc_int_int) : sp_words_Check.Ok Try.prog := by
 refine spF_ok ?_
 rintro ⟨w_, inputs⟩ r0 hf0
 try unfold words_Check at hf0
 refine callOk_h (tt := TTab) (keep := true) (rs := [(4, none)]) (n := ⟨19, []⟩) (body := bd_words_Check) TTab_ok Try.func73 rfl (by kernel_rfl) rfl rfl (by show (2 : Nat) ≤ 19; decide) fun E hE => ?_
 rcases bifE hf0 with ⟨c0, hf0⟩ | ⟨c0, hf0⟩
 ·obtain rfl := someE hf0
  exact awpEnd X0 TTab_ok hC hm hE 4000 (hs := (rpN 5 bT [])) (x := (I 3)) (rpN 4 (ob c0) [oT]) (by kernel_rfl) (LeV.refl _)
 ·rcases bifE hf0 with ⟨c1, hf0⟩ | ⟨c1, hf0⟩
  ·obtain rfl := someE hf0
   exact awpEnd X0 TTab_ok hC hm hE 4000 (hs := [bF, bF, aLn w_.length, bF, bF, bT]) (x := (I 3)) [ob c0, ob c0, ob (lnM (eI .i64) w_), ob c0, ob c0, ob c1] (by kernel_rfl) (LeV.refl _)
  ·rcases bifE hf0 with ⟨c2, hf0⟩ | ⟨c2, hf0⟩
   ·obtain rfl := someE hf0
    exact awpEnd X0 TTab_ok hC hm hE 4000 (hs := (bF :: bF :: aLn w_.length :: bF :: bF :: bF :: (rpN 5 bT []))) (x := (I 1)) (ob c0 :: ob c0 :: ob (lnM (eI .i64) w_) :: ob c0 :: ob c0 :: ob c1 :: (rpN 4 (ob c2) [oT])) (by kernel_rfl) (LeV.refl _)
   ·obtain ⟨r_, h0, hf0⟩ := bindE hf0
    have o0 := hasF h_slices_ContainsFunc_int_int (x := (w_, inputs)) h0 (loC F4_ w_ <| loC (eFn1 86 (eSp (eI .i64))) inputs <| loN)
    rcases bifE hf0 with ⟨c3, hf0⟩ | ⟨c3, hf0⟩
    ·obtain rfl := someE hf0
     exact awpEnd X0 TTab_ok hC hm hE 4000 (hs := (bF :: bF :: aLn w_.length :: (rpN 6 bF [.g [], .a (eB r_), bF, bT]))) (x := (I 1)) [ob c0, ob c0, ob (lnM (eI .i64) w_), ob c0, ob c0, ob c1, ob c2, ob c2, ob c2, ob (hasG h_slices_ContainsFunc_int_int), ob o0, ob c2, ob c3] (by kernel_rfl) (LeV.refl _)
    ·obtain rfl := someE hf0
     exact awpEnd X0 TTab_ok hC hm hE 4000 (hs := (bF :: bF :: aLn w_.length :: (rpN 6 bF [.g [], .a (eB r_), bF, bF]))) (x := (I 0)) [ob c0, ob c0, ob (lnM (eI .i64) w_), ob c0, ob c0, ob c1, ob c2, ob c2, ob c2, ob (hasG h_slices_ContainsFunc_int_int), ob o0, ob c2, ob c3] (by kernel_rfl) (LeV.refl _)
noncomputable def bd_tries_loose : Code := (Try.f50.body).getD .skip
noncomputable def sp_tries_loose : Spec := spF (α := List (List Int) × Int) (ρ := Int) 50 (fun x => [F10_ x.1, (eI .i64) x.2]) (fun r => (eI .i64) r) (fun x => tries_loose x.1 x.2) [] (by
 rintro ⟨a0, a1⟩ ⟨b0, b1⟩ h
 have e0 := EncI.inj (f := F10_) _ _ (List.cons.inj h).1
 replace h := (List.cons.inj h).2
 have e1 := EncI.inj (f := (eI .i64)) _ _ (List.cons.inj h).1
 subst e0 e1
 rfl)
abbrev ST_tries_loose_J1 : List (Nat × T) := []
abbrev ST_tries_loose_L2 (l_ : List (List Int)) (inputs : Int) (x19 : Int) : List (Nat × T) := [(1, .d (I inputs)), (17, .d (eSl 1 false F4_ l_)), (18, .d (I ((l_.length : Nat) : Int))), (19, .d (I x19))]
theorem w_tries_loose {ctr : Ctr} (hC : CtrOk Try.prog ctr) (hm : Try.prog.follows .mixedOrders = true) (h_words_Check : ctr.Has sp_words_Check) : sp_tries_loose.Ok Try.prog := by
 refine spF_ok ?_
 rintro ⟨l_, inputs⟩ r0 hf0
 try unfold tries_loose at hf0
 refine callOk_h (tt := TTab) (keep := true) (rs := [(4, none)]) (n := ⟨30, []⟩) (body := bd_tries_loose) TTab_ok Try.func50 rfl (by kernel_rfl) rfl rfl (by show (2 : Nat) ≤ 30; decide) fun E hE => ?_
 rcases bifE hf0 with ⟨c0, hf0⟩ | ⟨c0, hf0⟩
 ·obtain rfl := someE hf0
  exact awpEnd X0 TTab_ok hC hm hE 4000 (hs := (rpN 5 bT [])) (x := (I 3)) (rpN 4 (ob c0) [oT]) (by kernel_rfl) (LeV.refl _)
 ·rcases bifE hf0 with ⟨c1, hf0⟩ | ⟨c1, hf0⟩
  ·obtain rfl := someE hf0
   exact awpEnd X0 TTab_ok hC hm hE 4000 (hs := [bF, bF, aLn l_.length, bF, bF, bT]) (x := (I 3)) [ob c0, ob c0, ob (lnM F4_ l_), ob c0, ob c0, ob c1] (by kernel_rfl) (LeV.refl _)
  ·rcases bifE hf0 with ⟨c2, hf0⟩ | ⟨c2, hf0⟩
   ·obtain rfl := someE hf0
    exact awpEnd X0 TTab_ok hC hm hE 4000 (hs := [bF, bF, aLn l_.length, bF, bF, bF, bT]) (x := (I 1)) [ob c0, ob c0, ob (lnM F4_ l_), ob c0, ob c0, ob c1, ob c2] (by kernel_rfl) (LeV.refl _)
   ·refine awpAt X0 TTab_ok hC hm [0,1] 4000 (bF :: bF :: aLn l_.length :: (rpN 4 bF [.cut 0])) (sub [1,1,1] bd_tries_loose) (frs [1,1,1] [] bd_tries_loose []) [(0, .d (eSl 1 false F4_ l_)), (1, .d (I inputs))] [ob c0, ob c0, ob (lnM F4_ l_), ob c0, ob c0, ob c1, ob c2] (by kernel_rfl) fun st0 h0 => ?_
    refine awpJoin' (X := Unit) (x := (sub [1,1,1,2] bd_tries_loose)) (y := (sub [1,1,1,1] bd_tries_loose)) (by kernel_rfl) [] [0,1] _ h0 (fun z => tries_loose_J1 = some r0) (fun z => ST_tries_loose_J1) ?_ fun J1 hJ1 => ?_
    ·rintro ⟨⟩ hf0
     unfold tries_loose_J1 at hf0
     obtain rfl := someE hf0
     exact awpEnd X0 TTab_ok hC hm hE 4000 (hs := []) (x := (I 0)) [] (by kernel_rfl) (LeV.refl _)
    ·obtain ⟨t2, ht2, hf0⟩ := bindE hf0
     refine awpAt X0 TTab_ok hC hm [1,17,18,19] 4000 [aLn l_.length] (sub [1,1,1,2,1,0] bd_tries_loose) (frs [1,1,1,2,1,0] [J1] bd_tries_loose []) [(1, .d (I inputs)), (17, .d (eSl 1 false F4_ l_)), (18, .d (I ((l_.length : Nat) : Int))), (19, .d (I 0))] [ob (lnM F4_ l_)] (by kernel_rfl) fun st0 h0 => ?_
     refine awpLoop' (X := Int × Nat) (c' := (sub [1,1,1,2,1,0,0] bd_tries_loose)) (by kernel_rfl) [1,17,18,19] (fun x => loopN (fun s => tries_loose_L2 l_ inputs s) x.2 x.1 = some t2) (fun x => x.2) (fun x => ST_tries_loose_L2 l_ inputs x.1) (0, fuel) _ h0 inferInstance ht2 ?_
     rintro ⟨x19, n2⟩ hn2 J2 hJ2
     obtain ⟨m2, lr1, rfl, hf1, hl1⟩ := loopE hn2
     try unfold tries_loose_L2 at hf1
     rcases bifE hf1 with ⟨c3, hf1⟩ | ⟨c3, hf1⟩
     ·obtain ⟨l__e, h0, hf1⟩ := bindE hf1
      obtain ⟨r_, h1, hf1⟩ := bindE hf1
      have o0 := hasF h_words_Check (x := (l__e, inputs)) h1 (loC F4_ l__e <| loC (eI .i64) inputs <| loN)
      rcases bifE hf1 with ⟨c4, hf1⟩ | ⟨c4, hf1⟩
      ·obtain rfl := someE hf1
       obtain rfl := hl1
       obtain rfl := someE hf0
       exact awpEnd X0 TTab_ok hC hm hE 4000 (hs := [bT, .a (F4_ l__e), .g [], .a ((eI .i64) r_), bT]) (x := (I r_)) [ob c3, ob (i0 h0), ob (iM F4_ h0), ob (hasG h_words_Check), ob o0, ob c4] (by kernel_rfl) (LeV.refl _)
      ·obtain rfl := someE hf1
       exact awpBack X0 TTab_ok hC hm [1,17,18,19] 4000 [bT, .a (F4_ l__e), .g [], .a ((eI .i64) r_), bF] J2 [(1, .d (I inputs)), (17, .d (eSl 1 false F4_ l_)), (18, .d (I ((l_.length : Nat) : Int))), (19, .d (I (w64 (x19 + 1))))] [ob c3, ob (i0 h0), ob (iM F4_ h0), ob (hasG h_words_Check), ob o0, ob c4] (by kernel_rfl) fun st0 h0 => hJ2 st0 _ (w64 (x19 + 1), m2) hl1 (Nat.lt_succ_self m2) h0 inferInstance
     ·obtain rfl := someE hf1
      obtain rfl := hl1
      exact awpBack X0 TTab_ok hC hm [] 4000 [bF] J1 [] [ob c3] (by kernel_rfl) fun st0 h0 => hJ1 st0 _ () hf0 h0 inferInstance
noncomputable def bd_cmp_isNaN_int : Code := (Try.f106.body).getD .skip
noncomputable def sp_cmp_isNaN_int : Spec := spF (α := Int) (ρ := Bool) 106 (fun x => [(eI .i64) x]) (fun r => eB r) (fun x => cmp_isNaN_int x) [] (by
 rintro a0 b0 h
 have e0 := EncI.inj (f := (eI .i64)) _ _ (List.cons.inj h).1
 subst e0
 rfl)
theorem w_cmp_isNaN_int {ctr : Ctr} (hC : CtrOk Try.prog ctr) (hm : Try.prog.follows .mixedOrders = true) : sp_cmp_isNaN_int.Ok Try.prog := by
 refine spF_ok ?_
 rintro x_ r0 hf0
 try unfold cmp_isNaN_int at hf0
 refine callOk_h (tt := TTab) (keep := true) (rs := [(2, none)]) (n := ⟨6, []⟩) (body := bd_cmp_isNaN_int) TTab_ok Try.func106 rfl (by kernel_rfl) rfl rfl (by show (1 : Nat) ≤ 6; decide) fun E hE => ?_
 obtain rfl := someE hf0
 exact awpEnd X0 TTab_ok hC hm hE 4000 (hs := []) (x := (B (x_ != x_))) [] (by kernel_rfl) (LeV.refl _)
noncomputable def bd_cmp_Compare_int : Code := (Try.f92.body).getD .skip
noncomputable def sp_cmp_Compare_int : Spec := spF (α := Int × Int) (ρ := Int) 92 (fun x => [(eI .i64) x.1, (eI .i64) x.2]) (fun r => (eI .i64) r) (fun x => cmp_Compare_int x.1 x.2) [] (by
 rintro ⟨a0, a1⟩ ⟨b0, b1⟩ h
 have e0 := EncI.inj (f := (eI .i64)) _ _ (List.cons.inj h).1
 replace h := (List.cons.inj h).2
 have e1 := EncI.inj (f := (eI .i64)) _ _ (List.cons.inj h).1
 subst e0 e1
 rfl)
theorem w_cmp_Compare_int {ctr : Ctr} (hC : CtrOk Try.prog ctr) (hm : Try.prog.follows .mixedOrders = true) (h_cmp_isNaN_int : ctr.Has sp_cmp_isNaN_int) : sp_cmp_Compare_int.Ok Try.prog := by
 refine spF_ok ?_
 rintro ⟨x_, y_⟩ r0 hf0
 try unfold cmp_Compare_int at hf0
 refine callOk_h (tt := TTab) (keep := true) (rs := [(4, none)]) (n := ⟨20, []⟩) (body := bd_cmp_Compare_int) TTab_ok Try.func92 rfl (by kernel_rfl) rfl rfl (by show (2 : Nat) ≤ 20; decide) fun E hE => ?_
 obtain ⟨r_, h0, hf0⟩ := bindE hf0
 have o0 := hasF h_cmp_isNaN_int (x := x_) h0 (loC (eI .i64) x_ <| loN)
 obtain ⟨r_1, h1, hf0⟩ := bindE hf0
 have o1 := hasF h_cmp_isNaN_int (x := y_) h1 (loC (eI .i64) y_ <| loN)
 rcases bifE hf0 with ⟨c0, hf0⟩ | ⟨c0, hf0⟩
 ·rcases bifE hf0 with ⟨c1, hf0⟩ | ⟨c1, hf0⟩
  ·obtain rfl := someE hf0
   exact awpEnd X0 TTab_ok hC hm hE 4000 (hs := [.g [], .a (eB r_), .g [], .a (eB r_1), bT, bT]) (x := (I 0)) [ob (hasG h_cmp_isNaN_int), ob o0, ob (hasG h_cmp_isNaN_int), ob o1, ob c0, ob c1] (by kernel_rfl) (LeV.refl _)
  ·obtain rfl := someE hf0
   exact awpEnd X0 TTab_ok hC hm hE 4000 (hs := [.g [], .a (eB r_), .g [], .a (eB r_1), bT, bF]) (x := (I (-1))) [ob (hasG h_cmp_isNaN_int), ob o0, ob (hasG h_cmp_isNaN_int), ob o1, ob c0, ob c1] (by kernel_rfl) (LeV.refl _)
 ·rcases bifE hf0 with ⟨c2, hf0⟩ | ⟨c2, hf0⟩
  ·obtain rfl := someE hf0
   exact awpEnd X0 TTab_ok hC hm hE 4000 (hs := [.g [], .a (eB r_), .g [], .a (eB r_1), bF, bT]) (x := (I 1)) [ob (hasG h_cmp_isNaN_int), ob o0, ob (hasG h_cmp_isNaN_int), ob o1, ob c0, ob c2] (by kernel_rfl) (LeV.refl _)
  ·rcases bifE hf0 with ⟨c3, hf0⟩ | ⟨c3, hf0⟩
   ·obtain rfl := someE hf0
    exact awpEnd X0 TTab_ok hC hm hE 4000 (hs := [.g [], .a (eB r_), .g [], .a (eB r_1), bF, bF, bT]) (x := (I (-1))) [ob (hasG h_cmp_isNaN_int), ob o0, ob (hasG h_cmp_isNaN_int), ob o1, ob c0, ob c2, ob c3] (by kernel_rfl) (LeV.refl _)
   ·rcases bifE hf0 with ⟨c4, hf0⟩ | ⟨c4, hf0⟩
    ·obtain rfl := someE hf0
     exact awpEnd X0 TTab_ok hC hm hE 4000 (hs := [.g [], .a (eB r_), .g [], .a (eB r_1), bF, bF, bF, bT]) (x := (I 1)) [ob (hasG h_cmp_isNaN_int), ob o0, ob (hasG h_cmp_isNaN_int), ob o1, ob c0, ob c2, ob c3, ob c4] (by kernel_rfl) (LeV.refl _)
    ·obtain rfl := someE hf0
     exact awpEnd X0 TTab_ok hC hm hE 4000 (hs := (.g [] :: .a (eB r_) :: .g [] :: .a (eB r_1) :: (rpN 4 bF []))) (x := (I 0)) [ob (hasG h_cmp_isNaN_int), ob o0, ob (hasG h_cmp_isNaN_int), ob o1, ob c0, ob c2, ob c3, ob c4] (by kernel_rfl) (LeV.refl _)
noncomputable def bd_slices_Compare_int_int : Code := (Try.f93.body).getD .skip
noncomputable def sp_slices_Compare_int_int : Spec := spF (α := List Int × List Int) (ρ := Int) 93 (fun x => [F4_ x.1, F4_ x.2]) (fun r => (eI .i64) r) (fun x => slices_Compare_int_int x.1 x.2) [] (by
 rintro ⟨a0, a1⟩ ⟨b0, b1⟩ h
 have e0 := EncI.inj (f := F4_) _ _ (List.cons.inj h).1
 replace h := (List.cons.inj h).2
 have e1 := EncI.inj (f := F4_) _ _ (List.cons.inj h).1
 subst e0 e1
 rfl)
abbrev ST_slices_Compare_int_int_J1 (s1 : List Int) (s2 : List Int) : List (Nat × T) := [(0, .d (eSl 1 false (eI .i64) s1)), (1, .d (eSl 1 false (eI .i64) s2))]
abbrev ST_slices_Compare_int_int_L2 (s1 : List Int) (s2 : List Int) (x11 : Int) : List (Nat × T) := [(0, .d (eSl 1 false (eI .i64) s1)), (1, .d (eSl 1 false (eI .i64) s2)), (9, .d (eSl 1 false (eI .i64) s1)), (10, .d (I ((s1.length : Nat) : Int))), (11, .d (I x11))]
theorem w_slices_Compare_int_int {ctr : Ctr} (hC : CtrOk Try.prog ctr) (hm : Try.prog.follows .mixedOrders = true) (h_cmp_Compare_int : ctr.Has sp_cmp_Compare_int) : sp_slices_Compare_int_int.Ok Try.prog := by
 refine spF_ok ?_
 rintro ⟨s1, s2⟩ r0 hf0
 try unfold slices_Compare_int_int at hf0
 refine callOk_h (tt := TTab) (keep := true) (rs := [(4, none)]) (n := ⟨36, []⟩) (body := bd_slices_Compare_int_int) TTab_ok Try.func93 rfl (by kernel_rfl) rfl rfl (by show (2 : Nat) ≤ 36; decide) fun E hE => ?_
 refine awpAt X0 TTab_ok hC hm [0,1] 4000 [.cut 1] (sub [1] bd_slices_Compare_int_int) (frs [1] [] bd_slices_Compare_int_int []) [(0, .d (eSl 1 false (eI .i64) s1)), (1, .d (eSl 1 false (eI .i64) s2))] [] (by kernel_rfl) fun st0 h0 => ?_
 refine awpJoin' (X := Unit) (x := (sub [1,2] bd_slices_Compare_int_int)) (y := (sub [1,1] bd_slices_Compare_int_int)) (by kernel_rfl) [0,1] [0,1] _ h0 (fun z => slices_Compare_int_int_J1 s1 s2 = some r0) (fun z => ST_slices_Compare_int_int_J1 s1 s2) ?_ fun J1 hJ1 => ?_
 ·rintro ⟨⟩ hf0
  unfold slices_Compare_int_int_J1 at hf0
  rcases bifE hf0 with ⟨c0, hf0⟩ | ⟨c0, hf0⟩
  ·obtain rfl := someE hf0
   exact awpEnd X0 TTab_ok hC hm hE 4000 (hs := [aLn s1.length, aLn s2.length, bT]) (x := (I (-1))) [ob (lnM (eI .i64) s1), ob (lnM (eI .i64) s2), ob c0] (by kernel_rfl) (LeV.refl _)
  ·obtain rfl := someE hf0
   exact awpEnd X0 TTab_ok hC hm hE 4000 (hs := [aLn s1.length, aLn s2.length, bF]) (x := (I 0)) [ob (lnM (eI .i64) s1), ob (lnM (eI .i64) s2), ob c0] (by kernel_rfl) (LeV.refl _)
 ·obtain ⟨t2, ht2, hf0⟩ := bindE hf0
  refine awpAt X0 TTab_ok hC hm [0,1,9,10,11] 4000 [aLn s1.length] (sub [1,2,1,0] bd_slices_Compare_int_int) (frs [1,2,1,0] [J1] bd_slices_Compare_int_int []) [(0, .d (eSl 1 false (eI .i64) s1)), (1, .d (eSl 1 false (eI .i64) s2)), (9, .d (eSl 1 false (eI .i64) s1)), (10, .d (I ((s1.length : Nat) : Int))), (11, .d (I 0))] [ob (lnM (eI .i64) s1)] (by kernel_rfl) fun st0 h0 => ?_
  refine awpLoop' (X := Int × Nat) (c' := (sub [1,2,1,0,0] bd_slices_Compare_int_int)) (by kernel_rfl) [0,1,9,10,11] (fun x => loopN (fun s => slices_Compare_int_int_L2 s1 s2 s) x.2 x.1 = some t2) (fun x => x.2) (fun x => ST_slices_Compare_int_int_L2 s1 s2 x.1) (0, fuel) _ h0 inferInstance ht2 ?_
  rintro ⟨x11, n2⟩ hn2 J2 hJ2
  obtain ⟨m2, lr1, rfl, hf1, hl1⟩ := loopE hn2
  try unfold slices_Compare_int_int_L2 at hf1
  rcases bifE hf1 with ⟨c1, hf1⟩ | ⟨c1, hf1⟩
  ·obtain ⟨s_e, h0, hf1⟩ := bindE hf1
   rcases bifE hf1 with ⟨c2, hf1⟩ | ⟨c2, hf1⟩
   ·obtain rfl := someE hf1
    obtain rfl := hl1
    obtain rfl := someE hf0
    exact awpEnd X0 TTab_ok hC hm hE 4000 (hs := [bT, .a ((eI .i64) s_e), aLn s2.length, bT]) (x := (I 1)) [ob c1, ob (i0 h0), ob (iM (eI .i64) h0), ob (lnM (eI .i64) s2), ob c2] (by kernel_rfl) (LeV.refl _)
   ·obtain ⟨s_e1, h1, hf1⟩ := bindE hf1
    obtain ⟨r_, h2, hf1⟩ := bindE hf1
    have o0 := hasF h_cmp_Compare_int (x := (s_e, s_e1)) h2 (loC (eI .i64) s_e <| loC (eI .i64) s_e1 <| loN)
    rcases bifE hf1 with ⟨c3, hf1⟩ | ⟨c3, hf1⟩
    ·obtain rfl := someE hf1
     obtain rfl := hl1
     obtain rfl := someE hf0
     exact awpEnd X0 TTab_ok hC hm hE 4000 (hs := [bT, .a ((eI .i64) s_e), aLn s2.length, bF, .a ((eI .i64) s_e1), .g [], .a ((eI .i64) r_), bT]) (x := (I r_)) [ob c1, ob (i0 h0), ob (iM (eI .i64) h0), ob (lnM (eI .i64) s2), ob c2, ob (i0 h1), ob (iM (eI .i64) h1), ob (hasG h_cmp_Compare_int), ob o0, ob c3] (by kernel_rfl) (LeV.refl _)
    ·obtain rfl := someE hf1
     exact awpBack X0 TTab_ok hC hm [0,1,9,10,11] 4000 [bT, .a ((eI .i64) s_e), aLn s2.length, bF, .a ((eI .i64) s_e1), .g [], .a ((eI .i64) r_), bF] J2 [(0, .d (eSl 1 false (eI .i64) s1)), (1, .d (eSl 1 false (eI .i64) s2)), (9, .d (eSl 1 false (eI .i64) s1)), (10, .d (I ((s1.length : Nat) : Int))), (11, .d (I (w64 (x11 + 1))))] [ob c1, ob (i0 h0), ob (iM (eI .i64) h0), ob (lnM (eI .i64) s2), ob c2, ob (i0 h1), ob (iM (eI .i64) h1), ob (hasG h_cmp_Compare_int), ob o0, ob c3] (by kernel_rfl) fun st0 h0 => hJ2 st0 _ (w64 (x11 + 1), m2) hl1 (Nat.lt_succ_self m2) h0 inferInstance
  ·obtain rfl := someE hf1
   obtain rfl := hl1
   exact awpBack X0 TTab_ok hC hm [0,1] 4000 [bF] J1 [(0, .d (eSl 1 false (eI .i64) s1)), (1, .d (eSl 1 false (eI .i64) s2))] [ob c1] (by kernel_rfl) fun st0 h0 => hJ1 st0 _ () hf0 h0 inferInstance
noncomputable def bd_cmp_Or_int : Code := (Try.f91.body).getD .skip
noncomputable def sp_cmp_Or_int : Spec := spF (α := List Int) (ρ := Int) 91 (fun x => [F4_ x]) (fun r => (eI .i64) r) (fun x => cmp_Or_int x) [] (by
 rintro a0 b0 h
 have e0 := EncI.inj (f := F4_) _ _ (List.cons.inj h).1
 subst e0
 rfl)
abbrev ST_cmp_Or_int_J1 : List (Nat × T) := [(3, .d (I 0))]
abbrev ST_cmp_Or_int_L2 (vals : List Int) (x8 : Int) : List (Nat × T) := [(3, .d (I 0)), (6, .d (eSl 1 false (eI .i64) vals)), (7, .d (I ((vals.length : Nat) : Int))), (8, .d (I x8))]
theorem w_cmp_Or_int {ctr : Ctr} (hC : CtrOk Try.prog ctr) (hm : Try.prog.follows .mixedOrders = true) : sp_cmp_Or_int.Ok Try.prog := by
 refine spF_ok ?_
 rintro vals r0 hf0
 try unfold cmp_Or_int at hf0
 refine callOk_h (tt := TTab) (keep := true) (rs := [(2, none)]) (n := ⟨18, []⟩) (body := bd_cmp_Or_int) TTab_ok Try.func91 rfl (by kernel_rfl) rfl rfl (by show (1 : Nat) ≤ 18; decide) fun E hE => ?_
 refine awpAt X0 TTab_ok hC hm [0,3] 4000 [.cut 2] (sub [1,1] bd_cmp_Or_int) (frs [1,1] [] bd_cmp_Or_int []) [(0, .d (eSl 1 false (eI .i64) vals)), (3, .d (I 0))] [] (by kernel_rfl) fun st0 h0 => ?_
 refine awpJoin' (X := Unit) (x := (sub [1,1,2] bd_cmp_Or_int)) (y := (sub [1,1,1] bd_cmp_Or_int)) (by kernel_rfl) [3] [0,3] _ h0 (fun z => cmp_Or_int_J1 = some r0) (fun z => ST_cmp_Or_int_J1) ?_ fun J1 hJ1 => ?_
 ·rintro ⟨⟩ hf0
  unfold cmp_Or_int_J1 at hf0
  obtain rfl := someE hf0
  exact awpEnd X0 TTab_ok hC hm hE 4000 (hs := []) (x := (I 0)) [] (by kernel_rfl) (LeV.refl _)
 ·obtain ⟨t2, ht2, hf0⟩ := bindE hf0
  refine awpAt X0 TTab_ok hC hm [3,6,7,8] 4000 [aLn vals.length] (sub [1,1,2,1,0] bd_cmp_Or_int) (frs [1,1,2,1,0] [J1] bd_cmp_Or_int []) [(3, .d (I 0)), (6, .d (eSl 1 false (eI .i64) vals)), (7, .d (I ((vals.length : Nat) : Int))), (8, .d (I 0))] [ob (lnM (eI .i64) vals)] (by kernel_rfl) fun st0 h0 => ?_
  refine awpLoop' (X := Int × Nat) (c' := (sub [1,1,2,1,0,0] bd_cmp_Or_int)) (by kernel_rfl) [3,6,7,8] (fun x => loopN (fun s => cmp_Or_int_L2 vals s) x.2 x.1 = some t2) (fun x => x.2) (fun x => ST_cmp_Or_int_L2 vals x.1) (0, fuel) _ h0 inferInstance ht2 ?_
  rintro ⟨x8, n2⟩ hn2 J2 hJ2
  obtain ⟨m2, lr1, rfl, hf1, hl1⟩ := loopE hn2
  try unfold cmp_Or_int_L2 at hf1
  rcases bifE hf1 with ⟨c0, hf1⟩ | ⟨c0, hf1⟩
  ·obtain ⟨val_e, h0, hf1⟩ := bindE hf1
   rcases bifE hf1 with ⟨c1, hf1⟩ | ⟨c1, hf1⟩
   ·obtain rfl := someE hf1
    obtain rfl := hl1
    obtain rfl := someE hf0
    exact awpEnd X0 TTab_ok hC hm hE 4000 (hs := [bT, .a ((eI .i64) val_e), bT]) (x := (I val_e)) [ob c0, ob (i0 h0), ob (iM (eI .i64) h0), ob c1] (by kernel_rfl) (LeV.refl _)
   ·obtain rfl := someE hf1
    exact awpBack X0 TTab_ok hC hm [3,6,7,8] 4000 [bT, .a ((eI .i64) val_e), bF] J2 [(3, .d (I 0)), (6, .d (eSl 1 false (eI .i64) vals)), (7, .d (I ((vals.length : Nat) : Int))), (8, .d (I (w64 (x8 + 1))))] [ob c0, ob (i0 h0), ob (iM (eI .i64) h0), ob c1] (by kernel_rfl) fun st0 h0 => hJ2 st0 _ (w64 (x8 + 1), m2) hl1 (Nat.lt_succ_self m2) h0 inferInstance
  ·obtain rfl := someE hf1
   obtain rfl := hl1
   exact awpBack X0 TTab_ok hC hm [3] 4000 [bF] J1 [(3, .d (I 0))] [ob c0] (by kernel_rfl) fun st0 h0 => hJ1 st0 _ () hf0 h0 inferInstance
noncomputable def bd_words_Compare : Code := (Try.f78.body).getD .skip
noncomputable def sp_words_Compare : Spec := spF (α := List Int × List Int) (ρ := Int) 78 (fun x => [F4_ x.1, F4_ x.2]) (fun r => (eI .i64) r) (fun x => words_Compare x.1 x.2) [] (by
 rintro ⟨a0, a1⟩ ⟨b0, b1⟩ h
 have e0 := EncI.inj (f := F4_) _ _ (List.cons.inj h).1
 replace h := (List.cons.inj h).2
 have e1 := EncI.inj (f := F4_) _ _ (List.cons.inj h).1
 subst e0 e1
 rfl)
theorem w_words_Compare {ctr : Ctr} (hC : CtrOk Try.prog ctr) (hm : Try.prog.follows .mixedOrders = true) (h_cmp_Compare_int : ctr.Has sp_cmp_Compare_int) (h_slices_Compare_int_int : ctr.Has sp_slices_Compare_int_int) (h_cmp_Or_int : ctr.Has sp_cmp_Or_int) : sp_words_Compare.Ok Try.prog := by
 refine spF_ok ?_
 rintro ⟨a_, b_⟩ r0 hf0
 try unfold words_Compare at hf0
 refine callOk_h (tt := TTab) (keep := true) (rs := [(4, none)]) (n := ⟨15, []⟩) (body := bd_words_Compare) TTab_ok Try.func78 rfl (by kernel_rfl) rfl rfl (by show (2 : Nat) ≤ 15; decide) fun E hE => ?_
 obtain ⟨r_, h0, hf0⟩ := bindE hf0
 have o0 := hasF h_cmp_Compare_int (x := (((a_.length : Nat) : Int), ((b_.length : Nat) : Int))) h0 (loC (eI .i64) ((a_.length : Nat) : Int) <| loC (eI .i64) ((b_.length : Nat) : Int) <| loN)
 obtain ⟨r_1, h1, hf0⟩ := bindE hf0
 have o1 := hasF h_slices_Compare_int_int (x := (a_, b_)) h1 (loC F4_ a_ <| loC F4_ b_ <| loN)
 have o2 := shM (eI .i64) (eI .i64) ([r_, r_1])
 obtain ⟨r_2, h2, hf0⟩ := bindE hf0
 have o3 := hasF h_cmp_Or_int (x := [r_, r_1]) h2 (loC F1_ ([r_, r_1] : List Int) <| loN)
 obtain rfl := someE hf0
 exact awpEnd X0 TTab_ok hC hm hE 4000 (hs := [aLn a_.length, aLn b_.length, .g [], .a ((eI .i64) r_), .g [], .a ((eI .i64) r_1), .g [], .l (([r_, r_1]).map (eI .i64)), .a ((eI .i64) r_2)]) (x := (I r_2)) [ob (lnM (eI .i64) a_), ob (lnM (eI .i64) b_), ob (hasG h_cmp_Compare_int), ob o0, ob (hasG h_slices_Compare_int_int), ob o1, ob (hasG h_cmp_Or_int), ob o2, ob o3] (by kernel_rfl) (LeV.refl _)
noncomputable def bd_tries_ahead : Code := (Try.f53.body).getD .skip
noncomputable def sp_tries_ahead : Spec := spF (α := List (List Int)) (ρ := Bool) 53 (fun x => [F10_ x]) (fun r => eB r) (fun x => tries_ahead x) [] (by
 rintro a0 b0 h
 have e0 := EncI.inj (f := F10_) _ _ (List.cons.inj h).1
 subst e0
 rfl)
abbrev ST_tries_ahead_J1 : List (Nat × T) := []
abbrev ST_tries_ahead_L2 (l_ : List (List Int)) (i_ : Int) : List (Nat × T) := [(0, .d (eSl 1 false F4_ l_)), (3, .d (I i_))]
theorem w_tries_ahead {ctr : Ctr} (hC : CtrOk Try.prog ctr) (hm : Try.prog.follows .mixedOrders = true) (h_words_Compare : ctr.Has sp_words_Compare) : sp_tries_ahead.Ok Try.prog := by
 refine spF_ok ?_
 rintro l_ r0 hf0
 try unfold tries_ahead at hf0
 refine callOk_h (tt := TTab) (keep := true) (rs := [(2, none)]) (n := ⟨21, []⟩) (body := bd_tries_ahead) TTab_ok Try.func53 rfl (by kernel_rfl) rfl rfl (by show (1 : Nat) ≤ 21; decide) fun E hE => ?_
 refine awpAt X0 TTab_ok hC hm [0] 4000 [.cut 1] (sub [1] bd_tries_ahead) (frs [1] [] bd_tries_ahead []) [(0, .d (eSl 1 false F4_ l_))] [] (by kernel_rfl) fun st0 h0 => ?_
 refine awpJoin' (X := Unit) (x := (sub [1,2] bd_tries_ahead)) (y := (sub [1,1] bd_tries_ahead)) (by kernel_rfl) [] [0] _ h0 (fun z => tries_ahead_J1 = some r0) (fun z => ST_tries_ahead_J1) ?_ fun J1 hJ1 => ?_
 ·rintro ⟨⟩ hf0
  unfold tries_ahead_J1 at hf0
  obtain rfl := someE hf0
  exact awpEnd X0 TTab_ok hC hm hE 4000 (hs := []) (x := (B true)) [] (by kernel_rfl) (LeV.refl _)
 ·obtain ⟨t2, ht2, hf0⟩ := bindE hf0
  refine awpAt X0 TTab_ok hC hm [0,3] 4000 [] (sub [1,2,1,0] bd_tries_ahead) (frs [1,2,1,0] [J1] bd_tries_ahead []) [(0, .d (eSl 1 false F4_ l_)), (3, .d (I 1))] [] (by kernel_rfl) fun st0 h0 => ?_
  refine awpLoop' (X := Int × Nat) (c' := (sub [1,2,1,0,0] bd_tries_ahead)) (by kernel_rfl) [0,3] (fun x => loopN (fun s => tries_ahead_L2 l_ s) x.2 x.1 = some t2) (fun x => x.2) (fun x => ST_tries_ahead_L2 l_ x.1) (1, fuel) _ h0 inferInstance ht2 ?_
  rintro ⟨i_, n2⟩ hn2 J2 hJ2
  obtain ⟨m2, lr1, rfl, hf1, hl1⟩ := loopE hn2
  try unfold tries_ahead_L2 at hf1
  rcases bifE hf1 with ⟨c0, hf1⟩ | ⟨c0, hf1⟩
  ·obtain ⟨l__e, h0, hf1⟩ := bindE hf1
   obtain ⟨l__e1, h1, hf1⟩ := bindE hf1
   obtain ⟨r_, h2, hf1⟩ := bindE hf1
   have o0 := hasF h_words_Compare (x := (l__e, l__e1)) h2 (loC F4_ l__e <| loC F4_ l__e1 <| loN)
   rcases bifE hf1 with ⟨c1, hf1⟩ | ⟨c1, hf1⟩
   ·obtain rfl := someE hf1
    obtain rfl := hl1
    obtain rfl := someE hf0
    exact awpEnd X0 TTab_ok hC hm hE 4000 (hs := [aLn l_.length, bT, .a (F4_ l__e), .a (F4_ l__e1), .g [], .a ((eI .i64) r_), bT]) (x := (B false)) [ob (lnM F4_ l_), ob c0, ob (i0 h0), ob (iM F4_ h0), ob (i0 h1), ob (iM F4_ h1), ob (hasG h_words_Compare), ob o0, ob c1] (by kernel_rfl) (LeV.refl _)
   ·obtain rfl := someE hf1
    exact awpBack X0 TTab_ok hC hm [0,3] 4000 [aLn l_.length, bT, .a (F4_ l__e), .a (F4_ l__e1), .g [], .a ((eI .i64) r_), bF] J2 [(0, .d (eSl 1 false F4_ l_)), (3, .d (I (w64 (i_ + 1))))] [ob (lnM F4_ l_), ob c0, ob (i0 h0), ob (iM F4_ h0), ob (i0 h1), ob (iM F4_ h1), ob (hasG h_words_Compare), ob o0, ob c1] (by kernel_rfl) fun st0 h0 => hJ2 st0 _ (w64 (i_ + 1), m2) hl1 (Nat.lt_succ_self m2) h0 inferInstance
  ·obtain rfl := someE hf1
   obtain rfl := hl1
   exact awpBack X0 TTab_ok hC hm [] 4000 [aLn l_.length, bF] J1 [] [ob (lnM F4_ l_), ob c0] (by kernel_rfl) fun st0 h0 => hJ1 st0 _ () hf0 h0 inferInstance
noncomputable def bd_tries_steps : Code := (Try.f54.body).getD .skip
noncomputable def sp_tries_steps : Spec := spF (α := List (List Int)) (ρ := Int) 54 (fun x => [F10_ x]) (fun r => (eI .i64) r) (fun x => tries_steps x) [] (by
 rintro a0 b0 h
 have e0 := EncI.inj (f := F10_) _ _ (List.cons.inj h).1
 subst e0
 rfl)
abbrev ST_tries_steps_J1 (n_ : Int) : List (Nat × T) := [(2, .d (I n_))]
abbrev ST_tries_steps_L2 (l_ : List (List Int)) (n_1 : Int) (x7 : Int) : List (Nat × T) := [(2, .d (I n_1)), (5, .d (eSl 1 false F4_ l_)), (6, .d (I ((l_.length : Nat) : Int))), (7, .d (I x7))]
theorem w_tries_steps {ctr : Ctr} (hC : CtrOk Try.prog ctr) (hm : Try.prog.follows .mixedOrders = true) : sp_tries_steps.Ok Try.prog := by
 refine spF_ok ?_
 rintro l_ r0 hf0
 try unfold tries_steps at hf0
 refine callOk_h (tt := TTab) (keep := true) (rs := [(2, none)]) (n := ⟨17, []⟩) (body := bd_tries_steps) TTab_ok Try.func54 rfl (by kernel_rfl) rfl rfl (by show (1 : Nat) ≤ 17; decide) fun E hE => ?_
 refine awpAt X0 TTab_ok hC hm [0,2] 4000 [.cut 1] (sub [1] bd_tries_steps) (frs [1] [] bd_tries_steps []) [(0, .d (eSl 1 false F4_ l_)), (2, .d (I 0))] [] (by kernel_rfl) fun st0 h0 => ?_
 refine awpJoin' (X := Int) (x := (sub [1,2] bd_tries_steps)) (y := (sub [1,1] bd_tries_steps)) (by kernel_rfl) [2] [0,2] _ h0 (fun z => tries_steps_J1 z = some r0) (fun z => ST_tries_steps_J1 z) ?_ fun J1 hJ1 => ?_
 ·rintro n_ hf0
  unfold tries_steps_J1 at hf0
  obtain rfl := someE hf0
  exact awpEnd X0 TTab_ok hC hm hE 4000 (hs := []) (x := (I n_)) [] (by kernel_rfl) (LeV.refl _)
 ·obtain ⟨t2, ht2, hf0⟩ := bindE hf0
  refine awpAt X0 TTab_ok hC hm [2,5,6,7] 4000 [aLn l_.length] (sub [1,2,1,0] bd_tries_steps) (frs [1,2,1,0] [J1] bd_tries_steps []) [(2, .d (I 0)), (5, .d (eSl 1 false F4_ l_)), (6, .d (I ((l_.length : Nat) : Int))), (7, .d (I 0))] [ob (lnM F4_ l_)] (by kernel_rfl) fun st0 h0 => ?_
  refine awpLoop' (X := (Int × Int) × Nat) (c' := (sub [1,2,1,0,0] bd_tries_steps)) (by kernel_rfl) [2,5,6,7] (fun x => loopN (fun s => tries_steps_L2 l_ s.1 s.2) x.2 x.1 = some t2) (fun x => x.2) (fun x => ST_tries_steps_L2 l_ x.1.1 x.1.2) ((0,0), fuel) _ h0 inferInstance ht2 ?_
  rintro ⟨⟨n_1, x7⟩, n2⟩ hn2 J2 hJ2
  obtain ⟨m2, lr1, rfl, hf1, hl1⟩ := loopE hn2
  try unfold tries_steps_L2 at hf1
  rcases bifE hf1 with ⟨c0, hf1⟩ | ⟨c0, hf1⟩
  ·obtain ⟨l__e, h0, hf1⟩ := bindE hf1
   obtain rfl := someE hf1
   exact awpBack X0 TTab_ok hC hm [2,5,6,7] 4000 [bT, .a (F4_ l__e), aLn l__e.length] J2 [(2, .d (I (w64 (n_1 + ((l__e.length : Nat) : Int))))), (5, .d (eSl 1 false F4_ l_)), (6, .d (I ((l_.length : Nat) : Int))), (7, .d (I (w64 (x7 + 1))))] [ob c0, ob (i0 h0), ob (iM F4_ h0), ob (lnM (eI .i64) l__e)] (by kernel_rfl) fun st0 h0 => hJ2 st0 _ ((w64 (n_1 + ((l__e.length : Nat) : Int)), w64 (x7 + 1)), m2) hl1 (Nat.lt_succ_self m2) h0 inferInstance
  ·obtain rfl := someE hf1
   obtain rfl := hl1
   exact awpBack X0 TTab_ok hC hm [2] 4000 [bF] J1 [(2, .d (I n_1))] [ob c0] (by kernel_rfl) fun st0 h0 => hJ1 st0 _ n_1 hf0 h0 inferInstance
noncomputable def bd_tries_Check : Code := (Try.f18.body).getD .skip
noncomputable def sp_tries_Check : Spec := spF (α := List (List Int) × Int) (ρ := Int) 18 (fun x => [F10_ x.1, (eI .i64) x.2]) (fun r => (eI .i64) r) (fun x => tries_Check x.1 x.2) [] (by
 rintro ⟨a0, a1⟩ ⟨b0, b1⟩ h
 have e0 := EncI.inj (f := F10_) _ _ (List.cons.inj h).1
 replace h := (List.cons.inj h).2
 have e1 := EncI.inj (f := (eI .i64)) _ _ (List.cons.inj h).1
 subst e0 e1
 rfl)
theorem w_tries_Check {ctr : Ctr} (hC : CtrOk Try.prog ctr) (hm : Try.prog.follows .mixedOrders = true) (h_tries_loose : ctr.Has sp_tries_loose) (h_tries_ahead : ctr.Has sp_tries_ahead) (h_tries_steps : ctr.Has sp_tries_steps) : sp_tries_Check.Ok Try.prog := by
 refine spF_ok ?_
 rintro ⟨l_, inputs⟩ r0 hf0
 try unfold tries_Check at hf0
 refine callOk_h (tt := TTab) (keep := true) (rs := [(4, none)]) (n := ⟨18, []⟩) (body := bd_tries_Check) TTab_ok Try.func18 rfl (by kernel_rfl) rfl rfl (by show (2 : Nat) ≤ 18; decide) fun E hE => ?_
 obtain ⟨r_, h0, hf0⟩ := bindE hf0
 have o0 := hasF h_tries_loose (x := (l_, inputs)) h0 (loC F10_ l_ <| loC (eI .i64) inputs <| loN)
 rcases bifE hf0 with ⟨c0, hf0⟩ | ⟨c0, hf0⟩
 ·obtain rfl := someE hf0
  exact awpEnd X0 TTab_ok hC hm hE 4000 (hs := [.g [], .a ((eI .i64) r_), bT]) (x := (I r_)) [ob (hasG h_tries_loose), ob o0, ob c0] (by kernel_rfl) (LeV.refl _)
 ·obtain ⟨r_1, h1, hf0⟩ := bindE hf0
  have o1 := hasF h_tries_ahead (x := l_) h1 (loC F10_ l_ <| loN)
  rcases bifE hf0 with ⟨c1, hf0⟩ | ⟨c1, hf0⟩
  ·obtain rfl := someE hf0
   exact awpEnd X0 TTab_ok hC hm hE 4000 (hs := [.g [], .a ((eI .i64) r_), bF, .g [], .a (eB r_1), bT]) (x := (I 1)) [ob (hasG h_tries_loose), ob o0, ob c0, ob (hasG h_tries_ahead), ob o1, ob c1] (by kernel_rfl) (LeV.refl _)
  ·obtain ⟨r_2, h2, hf0⟩ := bindE hf0
   have o2 := hasF h_tries_steps (x := l_) h2 (loC F10_ l_ <| loN)
   rcases bifE hf0 with ⟨c2, hf0⟩ | ⟨c2, hf0⟩
   ·obtain rfl := someE hf0
    exact awpEnd X0 TTab_ok hC hm hE 4000 (hs := [.g [], .a ((eI .i64) r_), bF, .g [], .a (eB r_1), bF, .g [], .a ((eI .i64) r_2), bT]) (x := (I 3)) [ob (hasG h_tries_loose), ob o0, ob c0, ob (hasG h_tries_ahead), ob o1, ob c1, ob (hasG h_tries_steps), ob o2, ob c2] (by kernel_rfl) (LeV.refl _)
   ·obtain rfl := someE hf0
    exact awpEnd X0 TTab_ok hC hm hE 4000 (hs := [.g [], .a ((eI .i64) r_), bF, .g [], .a (eB r_1), bF, .g [], .a ((eI .i64) r_2), bF]) (x := (I 0)) [ob (hasG h_tries_loose), ob o0, ob c0, ob (hasG h_tries_ahead), ob o1, ob c1, ob (hasG h_tries_steps), ob o2, ob c2] (by kernel_rfl) (LeV.refl _)
noncomputable def bd_tries_builder_node : Code := (Try.f94.body).getD .skip
abbrev ST_tries_builder_node_J1 (b_ : S_tries_builder) (n_Next : List Int) : List (Nat × T) := [(0, .own (.box (F25_ b_))), (3, .own (.box (.agg [eOs 1 true (eI .i64) n_Next, B false])))]
abbrev ST_tries_builder_node_L2 (b_ : S_tries_builder) (n_Next1 : List Int) (x14 : Int) : List (Nat × T) := [(0, .own (.box (F25_ b_))), (3, .own (.box (.agg [eOs 1 true (eI .i64) n_Next1, B false]))), (13, .d (I (((List.replicate b_.inputs_.toNat (0 : Int)).length : Nat) : Int))), (14, .d (I x14))]
theorem w_tries_builder_node {ctr : Ctr} (hC : CtrOk Try.prog ctr) (hm : Try.prog.follows .mixedOrders = true) (cv0 : Value) : ∀ (b_ : S_tries_builder) (r0 : Int × S_tries_builder), tries_builder_node b_ = some r0 → LentOk Try.prog (.fn 94 []) [.atom cv0] ([cv0].zip [.box (.agg [I b_.inputs_, eOs 2 false F11_ b_.nodes_])]) (I r0.1) [.box (.agg [I r0.2.inputs_, eOs 2 false F11_ r0.2.nodes_])] := by
 intro b_ r0 hf0
 refine lentOk_r (tt := TTab) (nt := 38) (body := bd_tries_builder_node) [0] TTab_ok Try.func94 rfl (by kernel_rfl) rfl rfl (by show (1 : Nat) ≤ 38; decide) (by decide) rfl rfl rfl rfl (fun E hE => ?_) rfl
 unfold tries_builder_node at hf0
 refine awpOne 0 (v := cv0) (y := .box (.agg [I b_.inputs_, eOs 2 false F11_ b_.nodes_])) (by kernel_rfl) (by kernel_rfl) (by kernel_rfl) fun hv0 => ?_
 obtain ⟨g0, hf0⟩ := gdE hf0
 have o0 := rM 1 (eI .i64) b_.inputs_ (0 : Int)
 refine awpAt X0 TTab_ok hC hm [0,3] 4000 [.a (eOs 1 true (eI .i64) (List.replicate b_.inputs_.toNat (0 : Int))), .cut 0] (sub [1,1] bd_tries_builder_node) (frs [1,1] [] bd_tries_builder_node []) [(0, .own (.box (F25_ b_))), (3, .own (.box (.agg [eOs 1 true (eI .i64) (List.replicate b_.inputs_.toNat (0 : Int)), B false])))] [ob (rL g0), ob o0] (by kernel_rfl) fun st0 h0 => ?_
 refine awpJoin' (X := List Int) (x := (sub [1,1,2] bd_tries_builder_node)) (y := (sub [1,1,1] bd_tries_builder_node)) (by kernel_rfl) [0,3] [0,3] _ h0 (fun z => tries_builder_node_J1 b_ z = some r0) (fun z => ST_tries_builder_node_J1 b_ z) ?_ fun J1 hJ1 => ?_
 ·rintro n_Next hf0
  unfold tries_builder_node_J1 at hf0
  have o1 := oC F11_ (S_tries_Node.mk n_Next false) []
  obtain ⟨g1, hf0⟩ := gdE hf0
  have o2 := aL F11_ F11_ g1
  have o3 := aM F11_ b_.nodes_ ([(S_tries_Node.mk n_Next false)] : List S_tries_Node)
  have o4 := lnM F11_ (b_.nodes_ ++ ([(S_tries_Node.mk n_Next false)] : List S_tries_Node))
  obtain rfl := someE hf0
  exact awpFin ((xNc Try.prog 30 0 cv0).or ((xMv Try.prog 22 0 cv0 hv0).or X0)) TTab_ok hC hm [0,2] 4000 [bF, .l ((b_.nodes_ ++ ([(S_tries_Node.mk n_Next false)] : List S_tries_Node)).map F11_), .a (.atom (.int .i64 (((b_.nodes_ ++ ([(S_tries_Node.mk n_Next false)] : List S_tries_Node)).length : Nat) : Int)))] .ret [(0, .own (.box (.agg [I b_.inputs_, eOs 2 false F11_ (b_.nodes_ ++ ([(S_tries_Node.mk n_Next false)] : List S_tries_Node))]))), (2, .d (I (w64 ((((b_.nodes_ ++ ([(S_tries_Node.mk n_Next false)] : List S_tries_Node)).length : Nat) : Int) - 1))))] [ob ((rfl : some cv0 = some cv0)), ob o1, ob o2, ob o3, ob ((⟨rfl, rfl⟩ : T.d (.atom cv0) = T.d (.atom cv0) ∧ some cv0 = some cv0)), ob o4] (by kernel_rfl) fun st0 h0 => hE _ st0 (.inr rfl) (own_all h0 ⟨⟨rfl, rfl⟩, trivial⟩) (d_at h0 rfl rfl)
 ·have o5 := lnM (eI .i64) (List.replicate b_.inputs_.toNat (0 : Int))
  obtain ⟨t2, ht2, hf0⟩ := bindE hf0
  refine awpAt X0 TTab_ok hC hm [0,3,13,14] 4000 [.a (.atom (.int .i64 (((List.replicate b_.inputs_.toNat (0 : Int)).length : Nat) : Int)))] (sub [1,1,2,1,0] bd_tries_builder_node) (frs [1,1,2,1,0] [J1] bd_tries_builder_node []) [(0, .own (.box (F25_ b_))), (3, .own (.box (.agg [eOs 1 true (eI .i64) (List.replicate b_.inputs_.toNat (0 : Int)), B false]))), (13, .d (I (((List.replicate b_.inputs_.toNat (0 : Int)).length : Nat) : Int))), (14, .d (I 0))] [ob o5] (by kernel_rfl) fun st0 h0 => ?_
  refine awpLoop' (X := (List Int × Int) × Nat) (c' := (sub [1,1,2,1,0,0] bd_tries_builder_node)) (by kernel_rfl) [0,3,13,14] (fun x => loopN (fun s => tries_builder_node_L2 b_ s.1 s.2) x.2 x.1 = some t2) (fun x => x.2) (fun x => ST_tries_builder_node_L2 b_ x.1.1 x.1.2) (((List.replicate b_.inputs_.toNat (0 : Int)), 0), fuel) _ h0 inferInstance ht2 ?_
  rintro ⟨⟨n_Next1, x14⟩, n2⟩ hn2 J2 hJ2
  obtain ⟨m2, lr1, rfl, hf1, hl1⟩ := loopE hn2
  try unfold tries_builder_node_L2 at hf1
  rcases bifE hf1 with ⟨c0, hf1⟩ | ⟨c0, hf1⟩
  ·obtain ⟨n_Next_e, h0, hf1⟩ := bindE hf1
   obtain rfl := someE hf1
   exact awpBack X0 TTab_ok hC hm [0,3,13,14] 4000 [bT, .a ((eI .i64) n_Next_e), .a ((eI .i64) n_Next_e), .l ((n_Next1.set x14.toNat (-1)).map (eI .i64))] J2 [(0, .own (.box (F25_ b_))), (3, .own (.box (.agg [eOs 1 true (eI .i64) (n_Next1.set x14.toNat (-1)), B false]))), (13, .d (I (((List.replicate b_.inputs_.toNat (0 : Int)).length : Nat) : Int))), (14, .d (I (w64 (x14 + 1))))] [ob c0, ob (iL (eI .i64) h0), ob (iM (eI .i64) h0), ob (iM (eI .i64) h0), ob (sM (eI .i64) n_Next1 x14 (-1))] (by kernel_rfl) fun st0 h0 => hJ2 st0 _ (((n_Next1.set x14.toNat (-1)), w64 (x14 + 1)), m2) hl1 (Nat.lt_succ_self m2) h0 inferInstance
  ·obtain rfl := someE hf1
   obtain rfl := hl1
   exact awpBack X0 TTab_ok hC hm [0,3] 4000 [bF] J1 [(0, .own (.box (F25_ b_))), (3, .own (.box (.agg [eOs 1 true (eI .i64) n_Next1, B false])))] [ob c0] (by kernel_rfl) fun st0 h0 => hJ1 st0 _ n_Next1 hf0 h0 inferInstance
noncomputable def bd_tries_builder_add : Code := (Try.f81.body).getD .skip
abbrev ST_tries_builder_add_J2 (b_inputs1 : Int) (b_nodes1 : List S_tries_Node) (at_ : Int) : List (Nat × T) := [(0, .own (.box (.agg [I b_inputs1, eOs 2 false F11_ b_nodes1]))), (4, .d (I at_))]
abbrev ST_tries_builder_add_J4 (w_ : List Int) (at_1 : Int) (x18 : Int) (w__e : Int) (b_inputs3 : Int) (b_nodes3 : List S_tries_Node) : List (Nat × T) := [(0, .own (.box (.agg [I b_inputs3, eOs 2 false F11_ b_nodes3]))), (4, .d (I at_1)), (6, .d (I w__e)), (16, .d (eSl 1 false (eI .i64) w_)), (17, .d (I ((w_.length : Nat) : Int))), (18, .d (I x18))]
abbrev ST_tries_builder_add_L3 (w_ : List Int) (b_inputs2 : Int) (b_nodes2 : List S_tries_Node) (at_1 : Int) (x18 : Int) : List (Nat × T) := [(0, .own (.box (.agg [I b_inputs2, eOs 2 false F11_ b_nodes2]))), (4, .d (I at_1)), (16, .d (eSl 1 false (eI .i64) w_)), (17, .d (I ((w_.length : Nat) : Int))), (18, .d (I x18))]
abbrev ST_tries_builder_add_J1 (w_ : List Int) (b_inputs : Int) (b_nodes : List S_tries_Node) : List (Nat × T) := [(0, .own (.box (.agg [I b_inputs, eOs 2 false F11_ b_nodes]))), (1, .d (eSl 1 false (eI .i64) w_)), (4, .d (I 0))]
theorem w_tries_builder_add {ctr : Ctr} (hC : CtrOk Try.prog ctr) (hm : Try.prog.follows .mixedOrders = true) (cv0 : Value) : ∀ (w_ : List Int) (b_ : S_tries_builder) (r0 : S_tries_builder), tries_builder_add w_ b_ = some r0 → LentOk Try.prog (.fn 81 []) [.atom cv0, eSl 1 false (eI .i64) w_] ([cv0].zip [.box (.agg [I b_.inputs_, eOs 2 false F11_ b_.nodes_])]) (.tup []) [.box (.agg [I r0.inputs_, eOs 2 false F11_ r0.nodes_])] := by
 intro w_ b_ r0 hf0
 refine lentOk_h (tt := TTab) (nt := 66) (body := bd_tries_builder_add) [0] TTab_ok Try.func81 rfl (by kernel_rfl) rfl rfl (by show (2 : Nat) ≤ 66; decide) (by decide) rfl rfl (fun E hE => ?_) rfl
 unfold tries_builder_add at hf0
 refine awpAt X0 TTab_ok hC hm [0,1,4] 4000 [.cut 1] (sub [1] bd_tries_builder_add) (frs [1] [] bd_tries_builder_add []) [(0, .own (.box (F25_ b_))), (1, .d (eSl 1 false (eI .i64) w_)), (4, .d (I 0))] [] (by kernel_rfl) fun st0 h0 => ?_
 refine awpJoin' (X := Int × List S_tries_Node) (x := (sub [1,2] bd_tries_builder_add)) (y := (sub [1,1] bd_tries_builder_add)) (by kernel_rfl) [0,1,4] [0,1,4] _ h0 (fun z => tries_builder_add_J1 w_ z.1 z.2 = some r0) (fun z => ST_tries_builder_add_J1 w_ z.1 z.2) ?_ fun J1 hJ1 => ?_
 ·rintro ⟨b_inputs, b_nodes⟩ hf0
  unfold tries_builder_add_J1 at hf0
  refine awpAt X0 TTab_ok hC hm [0,1,4] 4000 [.cut 0] (sub [1,1] bd_tries_builder_add) (frs [1,1] [] bd_tries_builder_add []) [(0, .own (.box (.agg [I b_inputs, eOs 2 false F11_ b_nodes]))), (1, .d (eSl 1 false (eI .i64) w_)), (4, .d (I 0))] [] (by kernel_rfl) fun st0 h0 => ?_
  refine awpJoin' (X := Int × List S_tries_Node × Int) (x := (sub [1,1,2] bd_tries_builder_add)) (y := (sub [1,1,1] bd_tries_builder_add)) (by kernel_rfl) [0,4] [0,1,4] _ h0 (fun z => tries_builder_add_J2 z.1 z.2.1 z.2.2 = some r0) (fun z => ST_tries_builder_add_J2 z.1 z.2.1 z.2.2) ?_ fun J2 hJ2 => ?_
  ·rintro ⟨b_inputs1, b_nodes1, at_⟩ hf0
   unfold tries_builder_add_J2 at hf0
   obtain ⟨b_node_e, h0, hf0⟩ := bindE hf0
   have o0 := iL F11_ h0
   have o1 := iM F11_ h0
   have o2 := iM F11_ h0
   have o3 := iM F11_ h0
   have o4 := sM F11_ b_nodes1 at_ (S_tries_Node.mk b_node_e.Next true)
   obtain rfl := someE hf0
   exact awpFin X0 TTab_ok hC hm [0] 4000 [.a (F11_ b_node_e), .a (F11_ b_node_e), .a (F11_ b_node_e), .l ((b_nodes1.set at_.toNat (S_tries_Node.mk b_node_e.Next true)).map F11_)] .normal [(0, .own (.box (.agg [I b_inputs1, eOs 2 false F11_ (b_nodes1.set at_.toNat (S_tries_Node.mk b_node_e.Next true))])))] [ob o0, ob o1, ob o2, ob o3, ob o4] (by kernel_rfl) fun st0 h0 => hE _ st0 (.inl rfl) (own_all h0 ⟨⟨rfl, rfl⟩, trivial⟩)
  ·obtain ⟨t3, ht3, hf0⟩ := bindE hf0
   refine awpAt X0 TTab_ok hC hm [0,4,16,17,18] 4000 [aLn w_.length] (sub [1,1,2,1,0] bd_tries_builder_add) (frs [1,1,2,1,0] [J2] bd_tries_builder_add []) [(0, .own (.box (.agg [I b_inputs, eOs 2 false F11_ b_nodes]))), (4, .d (I 0)), (16, .d (eSl 1 false (eI .i64) w_)), (17, .d (I ((w_.length : Nat) : Int))), (18, .d (I 0))] [ob (lnM (eI .i64) w_)] (by kernel_rfl) fun st0 h0 => ?_
   refine awpLoop' (X := (Int × List S_tries_Node × Int × Int) × Nat) (c' := (sub [1,1,2,1,0,0] bd_tries_builder_add)) (by kernel_rfl) [0,4,16,17,18] (fun x => loopN (fun s => tries_builder_add_L3 w_ s.1 s.2.1 s.2.2.1 s.2.2.2) x.2 x.1 = some t3) (fun x => x.2) (fun x => ST_tries_builder_add_L3 w_ x.1.1 x.1.2.1 x.1.2.2.1 x.1.2.2.2) ((b_inputs, b_nodes, 0,0), fuel) _ h0 inferInstance ht3 ?_
   rintro ⟨⟨b_inputs2, b_nodes2, at_1, x18⟩, n3⟩ hn3 J3 hJ3
   obtain ⟨m3, lr1, rfl, hf1, hl1⟩ := loopE hn3
   try unfold tries_builder_add_L3 at hf1
   rcases bifE hf1 with ⟨c0, hf1⟩ | ⟨c0, hf1⟩
   ·obtain ⟨w__e, h1, hf1⟩ := bindE hf1
    refine awpAt X0 TTab_ok hC hm [0,4,6,16,17,18] 4000 [bT, .a ((eI .i64) w__e), .cut 0] (sub [1,1,2,1,0,0,1,1,0,0,1] bd_tries_builder_add) (frs [1,1,2,1,0,0,1,1,0,0,1] [J2, J3] bd_tries_builder_add []) [(0, .own (.box (.agg [I b_inputs2, eOs 2 false F11_ b_nodes2]))), (4, .d (I at_1)), (6, .d (I w__e)), (16, .d (eSl 1 false (eI .i64) w_)), (17, .d (I ((w_.length : Nat) : Int))), (18, .d (I x18))] [ob c0, ob (i0 h1), ob (iM (eI .i64) h1)] (by kernel_rfl) fun st0 h0 => ?_
    refine awpJoin' (X := Int × List S_tries_Node) (x := (sub [1,1,2,1,0,0,1,1,0,0,1,2] bd_tries_builder_add)) (y := (sub [1,1,2,1,0,0,1,1,0,0,1,1] bd_tries_builder_add)) (by kernel_rfl) [0,4,6,16,17,18] [0,4,6,16,17,18] _ h0 (fun z => tries_builder_add_J4 at_1 x18 w__e z.1 z.2 = some lr1) (fun z => ST_tries_builder_add_J4 w_ at_1 x18 w__e z.1 z.2) ?_ fun J4 hJ4 => ?_
    ·rintro ⟨b_inputs3, b_nodes3⟩ hf1
     unfold tries_builder_add_J4 at hf1
     obtain ⟨b_node_e1, h2, hf1⟩ := bindE hf1
     have o5 := iL F11_ h2
     have o6 := iM F11_ h2
     have o7 := iM F11_ h2
     have o8 := iM F11_ h2
     obtain ⟨Next_e, h3, hf1⟩ := bindE hf1
     have o9 := iM F11_ h2
     obtain rfl := someE hf1
     exact awpBack X0 TTab_ok hC hm [0,4,16,17,18] 4000 [.a (F11_ b_node_e1), .a (F11_ b_node_e1), .a (F11_ b_node_e1), .a (F11_ b_node_e1), .a ((eI .i64) Next_e)] J3 [(0, .own (.box (.agg [I b_inputs3, eOs 2 false F11_ b_nodes3]))), (4, .d (I Next_e)), (16, .d (eSl 1 false (eI .i64) w_)), (17, .d (I ((w_.length : Nat) : Int))), (18, .d (I (w64 (x18 + 1))))] [ob o5, ob o6, ob o7, ob o8, ob (iL (eI .i64) h3), ob o9, ob (iM (eI .i64) h3)] (by kernel_rfl) fun st0 h0 => hJ3 st0 _ ((b_inputs3, b_nodes3, Next_e, w64 (x18 + 1)), m3) hl1 (Nat.lt_succ_self m3) h0 inferInstance
    ·obtain ⟨b_node_e2, h4, hf1⟩ := bindE hf1
     have o10 := iL F11_ h4
     have o11 := iM F11_ h4
     have o12 := iM F11_ h4
     have o13 := iM F11_ h4
     obtain ⟨Next_e1, h5, hf1⟩ := bindE hf1
     have o14 := iM F11_ h4
     rcases bifE hf1 with ⟨c1, hf1⟩ | ⟨c1, hf1⟩
     ·obtain ⟨r_, h6, hf1⟩ := bindE hf1
      obtain ⟨nodes__e, h7, hf1⟩ := bindE hf1
      have o15 := iL F11_ h7
      have o16 := iM F11_ h7
      have o17 := iM F11_ h7
      have o18 := iM F11_ h7
      obtain ⟨Next_e2, h8, hf1⟩ := bindE hf1
      have o19 := iM F11_ h7
      have o20 := iM F11_ h7
      have o21 := sM (eI .i64) nodes__e.Next w__e r_.1
      have o22 := sM F11_ r_.2.nodes_ at_1 (S_tries_Node.mk (nodes__e.Next.set w__e.toNat r_.1) nodes__e.End)
      exact awpBack ((xLend (P := Try.prog) TTab [0] (w_tries_builder_node hC hm cv0 _ _ h6) 35).or X0) TTab_ok hC hm [0,4,6,16,17,18] 4000 [.a (F11_ b_node_e2), .a (F11_ b_node_e2), .a (F11_ b_node_e2), .a (F11_ b_node_e2), .a ((eI .i64) Next_e1), bT, .a (F11_ nodes__e), .a (F11_ nodes__e), .a (F11_ nodes__e), .a (F11_ nodes__e), .a ((eI .i64) Next_e2), .a (F11_ nodes__e), .a ((eI .i64) Next_e2), .l ((nodes__e.Next.set w__e.toNat r_.1).map (eI .i64)), .l ((r_.2.nodes_.set at_1.toNat (S_tries_Node.mk (nodes__e.Next.set w__e.toNat r_.1) nodes__e.End)).map F11_)] J4 [(0, .own (.box (.agg [I r_.2.inputs_, eOs 2 false F11_ (r_.2.nodes_.set at_1.toNat (S_tries_Node.mk (nodes__e.Next.set w__e.toNat r_.1) nodes__e.End))]))), (4, .d (I at_1)), (6, .d (I w__e)), (16, .d (eSl 1 false (eI .i64) w_)), (17, .d (I ((w_.length : Nat) : Int))), (18, .d (I x18))] [ob o10, ob o11, ob o12, ob o13, ob (iL (eI .i64) h5), ob o14, ob (iM (eI .i64) h5), ob c1, ob (tabC_at (f := .fn 94 []) (xs := [.atom cv0]) (ls := [(cv0, .box (.agg [I b_inputs2, eOs 2 false F11_ b_nodes2]))]) (r := I r_.1) (ys := [.box (.agg [I r_.2.inputs_, eOs 2 false F11_ r_.2.nodes_])]) [.atom cv0] (show LeTs [.atom cv0] [.atom cv0] from inferInstance)), ob o15, ob o16, ob o17, ob o18, ob (iL (eI .i64) h8), ob o19, ob (iM (eI .i64) h8), ob o20, ob (iM (eI .i64) h8), ob o21, ob o22] (by kernel_rfl) fun st0 h0 => hJ4 st0 _ (r_.2.inputs_, (r_.2.nodes_.set at_1.toNat (S_tries_Node.mk (nodes__e.Next.set w__e.toNat r_.1) nodes__e.End))) hf1 h0 inferInstance
     ·exact awpBack X0 TTab_ok hC hm [0,4,6,16,17,18] 4000 [.a (F11_ b_node_e2), .a (F11_ b_node_e2), .a (F11_ b_node_e2), .a (F11_ b_node_e2), .a ((eI .i64) Next_e1), bF] J4 [(0, .own (.box (.agg [I b_inputs2, eOs 2 false F11_ b_nodes2]))), (4, .d (I at_1)), (6, .d (I w__e)), (16, .d (eSl 1 false (eI .i64) w_)), (17, .d (I ((w_.length : Nat) : Int))), (18, .d (I x18))] [ob o10, ob o11, ob o12, ob o13, ob (iL (eI .i64) h5), ob o14, ob (iM (eI .i64) h5), ob c1] (by kernel_rfl) fun st0 h0 => hJ4 st0 _ (b_inputs2, b_nodes2) hf1 h0 inferInstance
   ·obtain rfl := someE hf1
    obtain rfl := hl1
    exact awpBack X0 TTab_ok hC hm [0,4] 4000 [bF] J2 [(0, .own (.box (.agg [I b_inputs2, eOs 2 false F11_ b_nodes2]))), (4, .d (I at_1))] [ob c0] (by kernel_rfl) fun st0 h0 => hJ2 st0 _ (b_inputs2, b_nodes2, at_1) hf0 h0 inferInstance
 ·have o23 := lnM F11_ b_.nodes_
  rcases bifE hf0 with ⟨c2, hf0⟩ | ⟨c2, hf0⟩
  ·obtain ⟨r_1, h9, hf0⟩ := bindE hf0
   exact awpBack ((xLend (P := Try.prog) TTab [0] (w_tries_builder_node hC hm cv0 _ _ h9) 15).or X0) TTab_ok hC hm [0,1,4] 4000 [aLn b_.nodes_.length, bT] J1 [(0, .own (.box (.agg [I r_1.2.inputs_, eOs 2 false F11_ r_1.2.nodes_]))), (1, .d (eSl 1 false (eI .i64) w_)), (4, .d (I 0))] [ob o23, ob c2, ob (tabC_at (f := .fn 94 []) (xs := [.atom cv0]) (ls := [(cv0, .box (.agg [I b_.inputs_, eOs 2 false F11_ b_.nodes_]))]) (r := I r_1.1) (ys := [.box (.agg [I r_1.2.inputs_, eOs 2 false F11_ r_1.2.nodes_])]) [.atom cv0] (show LeTs [.atom cv0] [.atom cv0] from inferInstance))] (by kernel_rfl) fun st0 h0 => hJ1 st0 _ (r_1.2.inputs_, r_1.2.nodes_) hf0 h0 inferInstance
  ·exact awpBack X0 TTab_ok hC hm [0,1,4] 4000 [aLn b_.nodes_.length, bF] J1 [(0, .own (.box (.agg [I b_.inputs_, eOs 2 false F11_ b_.nodes_]))), (1, .d (eSl 1 false (eI .i64) w_)), (4, .d (I 0))] [ob o23, ob c2] (by kernel_rfl) fun st0 h0 => hJ1 st0 _ (b_.inputs_, b_.nodes_) hf0 h0 inferInstance
noncomputable def bd_tries_of : Code := (Try.f57.body).getD .skip
noncomputable def sp_tries_of : Spec := spF (α := List (List Int) × Int) (ρ := S_tries_builder) 57 (fun x => [F10_ x.1, (eI .i64) x.2]) (fun r => F28_ r) (fun x => tries_of x.1 x.2) [] (by
 rintro ⟨a0, a1⟩ ⟨b0, b1⟩ h
 have e0 := EncI.inj (f := F10_) _ _ (List.cons.inj h).1
 replace h := (List.cons.inj h).2
 have e1 := EncI.inj (f := (eI .i64)) _ _ (List.cons.inj h).1
 subst e0 e1
 rfl)
abbrev ST_tries_of_J1 (b_inputs : Int) (b_nodes : List S_tries_Node) : List (Nat × T) := [(5, .own (.box (.agg [I b_inputs, eOs 2 false F11_ b_nodes])))]
abbrev ST_tries_of_L2 (l_ : List (List Int)) (b_inputs1 : Int) (b_nodes1 : List S_tries_Node) (x13 : Int) : List (Nat × T) := [(5, .own (.box (.agg [I b_inputs1, eOs 2 false F11_ b_nodes1]))), (11, .d (eSl 1 false F4_ l_)), (12, .d (I ((l_.length : Nat) : Int))), (13, .d (I x13))]
theorem w_tries_of {ctr : Ctr} (hC : CtrOk Try.prog ctr) (hm : Try.prog.follows .mixedOrders = true) : sp_tries_of.Ok Try.prog := by
 refine spF_ok ?_
 rintro ⟨l_, inputs⟩ r0 hf0
 try unfold tries_of at hf0
 refine callOk_h (tt := TTab) (keep := true) (rs := [(4, none)]) (n := ⟨22, []⟩) (body := bd_tries_of) TTab_ok Try.func57 rfl (by kernel_rfl) rfl rfl (by show (2 : Nat) ≤ 22; decide) fun E hE => ?_
 refine awpAt X0 TTab_ok hC hm [0,5] 4000 [.cut 2] (sub [1,1] bd_tries_of) (frs [1,1] [] bd_tries_of []) [(0, .d (eSl 1 false F4_ l_)), (5, .own (.box (.agg [I inputs, eOs 2 true F13_ []])))] [] (by kernel_rfl) fun st0 h0 => awpOf h0 ?_
 refine awpPin (by kernel_rfl) 5 fun pv5 => ?_
 refine awpAt X0 TTab_ok hC hm [0,5] 4000 [.cut 0] (sub [1,1] bd_tries_of) (frs [1,1] [] bd_tries_of []) [(0, .d (eSl 1 false F4_ l_)), (5, .own (.box (.agg [I inputs, eOs 2 true F13_ []])))] [] (by kernel_rfl) fun st0 h0 => ?_
 refine awpJoin' (X := Int × List S_tries_Node) (x := (sub [1,1,2] bd_tries_of)) (y := (sub [1,1,1] bd_tries_of)) (by kernel_rfl) [5] [0,5] _ h0 (fun z => tries_of_J1 z.1 z.2 = some r0) (fun z => ST_tries_of_J1 z.1 z.2) ?_ fun J1 hJ1 => ?_
 ·rintro ⟨b_inputs, b_nodes⟩ hf0
  unfold tries_of_J1 at hf0
  obtain rfl := someE hf0
  exact awpEnd X0 TTab_ok hC hm hE 4000 (hs := []) (x := (.box (.agg [I b_inputs, eOs 2 false F11_ b_nodes]))) [] (by kernel_rfl) (LeV.refl _)
 ·obtain ⟨t2, ht2, hf0⟩ := bindE hf0
  refine awpAt X0 TTab_ok hC hm [5,11,12,13] 4000 [aLn l_.length] (sub [1,1,2,1,0] bd_tries_of) (frs [1,1,2,1,0] [J1] bd_tries_of []) [(5, .own (.box (.agg [I inputs, eOs 2 true F11_ []]))), (11, .d (eSl 1 false F4_ l_)), (12, .d (I ((l_.length : Nat) : Int))), (13, .d (I 0))] [ob (lnM F4_ l_)] (by kernel_rfl) fun st0 h0 => ?_
  refine awpLoop' (X := (Int × List S_tries_Node × Int) × Nat) (c' := (sub [1,1,2,1,0,0] bd_tries_of)) (by kernel_rfl) [5,11,12,13] (fun x => loopN (fun s => tries_of_L2 l_ s.1 s.2.1 s.2.2) x.2 x.1 = some t2) (fun x => x.2) (fun x => ST_tries_of_L2 l_ x.1.1 x.1.2.1 x.1.2.2) ((inputs, ([] : List S_tries_Node), 0), fuel) _ h0 inferInstance ht2 ?_
  rintro ⟨⟨b_inputs1, b_nodes1, x13⟩, n2⟩ hn2 J2 hJ2
  obtain ⟨m2, lr1, rfl, hf1, hl1⟩ := loopE hn2
  try unfold tries_of_L2 at hf1
  rcases bifE hf1 with ⟨c0, hf1⟩ | ⟨c0, hf1⟩
  ·obtain ⟨l__e, h0, hf1⟩ := bindE hf1
   obtain ⟨r_, h1, hf1⟩ := bindE hf1
   obtain rfl := someE hf1
   exact awpBack ((xLend (P := Try.prog) TTab [5] (w_tries_builder_add hC hm pv5 _ _ _ h1) 19).or X0) TTab_ok hC hm [5,11,12,13] 4000 [bT, .a (F4_ l__e)] J2 [(5, .own (.box (.agg [I r_.inputs_, eOs 2 false F11_ r_.nodes_]))), (11, .d (eSl 1 false F4_ l_)), (12, .d (I ((l_.length : Nat) : Int))), (13, .d (I (w64 (x13 + 1))))] [ob c0, ob (i0 h0), ob (iM F4_ h0), ob (tabC_at (f := .fn 81 []) (xs := [.atom pv5, F4_ l__e]) (ls := [(pv5, .box (.agg [I b_inputs1, eOs 2 false F11_ b_nodes1]))]) (r := .tup []) (ys := [.box (.agg [I r_.inputs_, eOs 2 false F11_ r_.nodes_])]) [.atom pv5, F4_ l__e] (show LeTs [.atom pv5, F4_ l__e] [.atom pv5, F4_ l__e] from inferInstance))] (by kernel_rfl) fun st0 h0 => hJ2 st0 _ ((r_.inputs_, r_.nodes_, w64 (x13 + 1)), m2) hl1 (Nat.lt_succ_self m2) h0 inferInstance
  ·obtain rfl := someE hf1
   obtain rfl := hl1
   exact awpBack X0 TTab_ok hC hm [5] 4000 [bF] J1 [(5, .own (.box (.agg [I b_inputs1, eOs 2 false F11_ b_nodes1])))] [ob c0] (by kernel_rfl) fun st0 h0 => hJ1 st0 _ (b_inputs1, b_nodes1) hf0 h0 inferInstance
noncomputable def bd_tries_walk : Code := (Try.f66.body).getD .skip
noncomputable def sp_tries_walk : Spec := spF (α := List S_tries_Node) (ρ := List S_tries_Node) 66 (fun x => [F19_ x]) (fun r => (eFn1 85 F22_) r) (fun x => tries_walk x) [] (by
 rintro a0 b0 h
 have e0 := EncI.inj (f := F19_) _ _ (List.cons.inj h).1
 subst e0
 rfl)
theorem w_tries_walk {ctr : Ctr} (hC : CtrOk Try.prog ctr) (hm : Try.prog.follows .mixedOrders = true) : sp_tries_walk.Ok Try.prog := by
 refine spF_ok ?_
 rintro nodes r0 hf0
 try unfold tries_walk at hf0
 refine callOk_h (tt := TTab) (keep := true) (rs := [(2, none)]) (n := ⟨4, []⟩) (body := bd_tries_walk) TTab_ok Try.func66 rfl (by kernel_rfl) rfl rfl (by show (1 : Nat) ≤ 4; decide) fun E hE => ?_
 obtain rfl := someE hf0
 exact awpEnd X0 TTab_ok hC hm hE 4000 (hs := []) (x := (.fn 85 [.sptr (eSl 2 false F13_ nodes)])) [] (by kernel_rfl) (LeV.refl _)
noncomputable def bd_slices_Clip_int_int : Code := (Try.f67.body).getD .skip
noncomputable def sp_slices_Clip_int_int : Spec := spF (α := List Int) (ρ := List Int) 67 (fun x => [F4_ x]) (fun r => F1_ r) (fun x => slices_Clip_int_int x) [] (by
 rintro a0 b0 h
 have e0 := EncI.inj (f := F4_) _ _ (List.cons.inj h).1
 subst e0
 rfl)
theorem w_slices_Clip_int_int {ctr : Ctr} (hC : CtrOk Try.prog ctr) (hm : Try.prog.follows .mixedOrders = true) : sp_slices_Clip_int_int.Ok Try.prog := by
 refine spF_ok ?_
 rintro s_ r0 hf0
 try unfold slices_Clip_int_int at hf0
 refine callOk_h (tt := TTab) (keep := true) (rs := [(2, none)]) (n := ⟨9, []⟩) (body := bd_slices_Clip_int_int) TTab_ok Try.func67 rfl (by kernel_rfl) rfl rfl (by show (1 : Nat) ≤ 9; decide) fun E hE => ?_
 obtain ⟨g0, hf0⟩ := gdE hf0
 have o0 := slT1 1 (eI .i64) s_ 0 ((s_.length : Nat) : Int).toNat
 obtain rfl := someE hf0
 exact awpEnd X0 TTab_ok hC hm hE 4000 (hs := [aLn s_.length, aLn s_.length, .a (eSl 1 true (eI .i64) ((s_.drop 0).take (((s_.length : Nat) : Int).toNat - 0)))]) (x := (eSl 1 true (eI .i64) ((s_.drop 0).take (((s_.length : Nat) : Int).toNat - 0)))) [ob (lnM (eI .i64) s_), ob (lnM (eI .i64) s_), ob (slB g0), ob (slC g0), ob (sl011 (eI .i64) g0), ob o0] (by kernel_rfl) (LeV.refl _)
noncomputable def bd_tries_walk_1 : Code := (Try.f85.body).getD .skip
abbrev ST_tries_walk_1_J3 {σ : Type} (x0 : List S_tries_Node) (YY : σ → Opq1) (sg2 : σ) (next : List S_tries_place) : List (Nat × T) := [(0, .own (.opq (YY sg2).q)), (1, .d (.sptr (eSl 2 false F13_ x0))), (4, .own (eOs 2 false F16_ next))]
abbrev ST_tries_walk_1_J5 {σ : Type} (x0 : List S_tries_Node) (YY : σ → Opq1) (level1 : List S_tries_place) (x19 : Int) (sg4 : σ) (next2 : List S_tries_place) : List (Nat × T) := [(0, .own (.opq (YY sg4).q)), (1, .d (.sptr (eSl 2 false F13_ x0))), (3, .own (eOs 2 false F16_ level1)), (4, .own (eOs 2 false F16_ next2)), (17, .als 3 [] 0 0), (18, .d (I ((level1.length : Nat) : Int))), (19, .d (I x19))]
abbrev ST_tries_walk_1_J7 {σ : Type} (x0 : List S_tries_Node) (YY : σ → Opq1) (level1 : List S_tries_place) (x19 : Int) (level_e : S_tries_place) (yr : σ × Bool) (x_e : S_tries_Node) (x34 : Int) (next4 : List S_tries_place) : List (Nat × T) := [(0, .own (.opq (YY yr.1).q)), (1, .d (.sptr (eSl 2 false F13_ x0))), (3, .own (eOs 2 false F16_ level1)), (4, .own (eOs 2 false F16_ next4)), (6, .own (.box (F16_ level_e))), (17, .als 3 [] 0 0), (18, .d (I ((level1.length : Nat) : Int))), (19, .d (I x19)), (32, .d (eSl 1 false (eI .i64) x_e.Next)), (33, .d (I ((x_e.Next.length : Nat) : Int))), (34, .d (I x34))]
abbrev ST_tries_walk_1_L6 {σ : Type} (x0 : List S_tries_Node) (YY : σ → Opq1) (level1 : List S_tries_place) (x19 : Int) (level_e : S_tries_place) (yr : σ × Bool) (x_e : S_tries_Node) (next3 : List S_tries_place) (x34 : Int) : List (Nat × T) := [(0, .own (.opq (YY yr.1).q)), (1, .d (.sptr (eSl 2 false F13_ x0))), (3, .own (eOs 2 false F16_ level1)), (4, .own (eOs 2 false F16_ next3)), (6, .own (.box (F16_ level_e))), (17, .als 3 [] 0 0), (18, .d (I ((level1.length : Nat) : Int))), (19, .d (I x19)), (32, .d (eSl 1 false (eI .i64) x_e.Next)), (33, .d (I ((x_e.Next.length : Nat) : Int))), (34, .d (I x34))]
abbrev ST_tries_walk_1_L4 {σ : Type} (x0 : List S_tries_Node) (YY : σ → Opq1) (level1 : List S_tries_place) (sg3 : σ) (next1 : List S_tries_place) (x19 : Int) : List (Nat × T) := [(0, .own (.opq (YY sg3).q)), (1, .d (.sptr (eSl 2 false F13_ x0))), (3, .own (eOs 2 false F16_ level1)), (4, .own (eOs 2 false F16_ next1)), (17, .als 3 [] 0 0), (18, .d (I ((level1.length : Nat) : Int))), (19, .d (I x19))]
abbrev ST_tries_walk_1_L2 {σ : Type} (x0 : List S_tries_Node) (YY : σ → Opq1) (sg1 : σ) (level1 : List S_tries_place) : List (Nat × T) := [(0, .own (.opq (YY sg1).q)), (1, .d (.sptr (eSl 2 false F13_ x0))), (3, .own (eOs 2 false F16_ level1))]
abbrev ST_tries_walk_1_J1 {σ : Type} (x0 : List S_tries_Node) (YY : σ → Opq1) (sg : σ) (level : List S_tries_place) : List (Nat × T) := [(0, .own (.opq (YY sg).q)), (1, .d (.sptr (eSl 2 false F13_ x0))), (3, .own (eOs 2 true F15_ level))]
theorem w_tries_walk_1 {ctr : Ctr} (hC : CtrOk Try.prog ctr) (hm : Try.prog.follows .mixedOrders = true) (h_slices_Clip_int_int : ctr.Has sp_slices_Clip_int_int) (x0 : List S_tries_Node) : IterF Try.prog (.fn 85 [.sptr (eSl 2 false F13_ x0)]) (fun (x : S_tries_place) (_ : Bool) (_ : Value) => [F16_ x]) (@tries_walk_1 x0) := by
 refine iterF_h (tt := TTab) (nt := 55) (body := bd_tries_walk_1) TTab_ok Try.func85 rfl (by kernel_rfl) rfl rfl (by show (2 : Nat) ≤ 55; decide) ?_
 intro σ yv YY yy hy sg r0 hf0 E hE
 unfold tries_walk_1 at hf0
 refine awpAt ((xSeal TTab_ok (.inl 49) [48]).or ((xSeal TTab_ok (.inl 13) [12]).or X0)) TTab_ok hC hm [0,1,3] 4000 [.cut 1] (sub [1] bd_tries_walk_1) (frs [1] [] bd_tries_walk_1 []) [(0, .own (.opq (YY sg).q)), (1, .d (.sptr (eSl 2 false F13_ x0))), (3, .own (eOs 2 true F16_ []))] [] (by kernel_rfl) fun st0 h0 => ?_
 refine awpJoin' (X := List S_tries_place) (x := (sub [1,2] bd_tries_walk_1)) (y := (sub [1,1] bd_tries_walk_1)) (by kernel_rfl) [0,1,3] [0,1,3] _ h0 (fun z => tries_walk_1_J1 x0 yy sg z = some r0) (fun z => ST_tries_walk_1_J1 x0 YY sg z) ?_ fun J1 hJ1 => ?_
 ·rintro level hf0
  unfold tries_walk_1_J1 at hf0
  obtain ⟨t2, ht2, hf0⟩ := bindE hf0
  refine awpAt ((xSeal TTab_ok (.inl 49) [48]).or ((xSeal TTab_ok (.inl 13) [12]).or X0)) TTab_ok hC hm [0,1,3] 4000 [] (sub [1,1,0] bd_tries_walk_1) (frs [1,1,0] [] bd_tries_walk_1 []) [(0, .own (.opq (YY sg).q)), (1, .d (.sptr (eSl 2 false F13_ x0))), (3, .own (eOs 2 true F15_ level))] [] (by kernel_rfl) fun st0 h0 => ?_
  refine awpLoop' (X := (σ × List S_tries_place) × Nat) (c' := (sub [1,1,0,0] bd_tries_walk_1)) (by kernel_rfl) [0,1,3] (fun x => loopN (fun s => tries_walk_1_L2 x0 yy s.1 s.2) x.2 x.1 = some t2) (fun x => x.2) (fun x => ST_tries_walk_1_L2 x0 YY x.1.1 x.1.2) ((sg, level), fuel) _ h0 inferInstance ht2 ?_
  rintro ⟨⟨sg1, level1⟩, n2⟩ hn2 J2 hJ2
  obtain ⟨m2, lr1, rfl, hf1, hl1⟩ := loopE hn2
  try unfold tries_walk_1_L2 at hf1
  have o0 := lnM F16_ level1
  rcases bifE hf1 with ⟨c0, hf1⟩ | ⟨c0, hf1⟩
  ·refine awpAt ((xSeal TTab_ok (.inl 49) [48]).or ((xSeal TTab_ok (.inl 13) [12]).or X0)) TTab_ok hC hm [0,1,3,4] 4000 [aLn level1.length, bT, .cut 1] (sub [1,1,0,0,1,0,1] bd_tries_walk_1) (frs [1,1,0,0,1,0,1] [J2] bd_tries_walk_1 []) [(0, .own (.opq (YY sg1).q)), (1, .d (.sptr (eSl 2 false F13_ x0))), (3, .own (eOs 2 false F16_ level1)), (4, .own (eOs 2 true F16_ []))] [ob o0, ob c0] (by kernel_rfl) fun st0 h0 => ?_
   refine awpJoin' (X := σ × List S_tries_place) (x := (sub [1,1,0,0,1,0,1,2] bd_tries_walk_1)) (y := (sub [1,1,0,0,1,0,1,1] bd_tries_walk_1)) (by kernel_rfl) [0,1,4] [0,1,3,4] _ h0 (fun z => tries_walk_1_J3 z.1 z.2 = some lr1) (fun z => ST_tries_walk_1_J3 x0 YY z.1 z.2) ?_ fun J3 hJ3 => ?_
   ·rintro ⟨sg2, next⟩ hf1
    unfold tries_walk_1_J3 at hf1
    obtain rfl := someE hf1
    exact awpBack ((xSeal TTab_ok (.inl 49) [48]).or ((xSeal TTab_ok (.inl 13) [12]).or X0)) TTab_ok hC hm [0,1,3] 4000 [] J2 [(0, .own (.opq (YY sg2).q)), (1, .d (.sptr (eSl 2 false F13_ x0))), (3, .own (eOs 2 false F16_ next))] [] (by kernel_rfl) fun st0 h0 => hJ2 st0 _ ((sg2, next), m2) hl1 (Nat.lt_succ_self m2) h0 inferInstance
   ·have o1 := lnM F16_ level1
    obtain ⟨t4, ht4, hf1⟩ := bindE hf1
    refine awpAt ((xSeal TTab_ok (.inl 49) [48]).or ((xSeal TTab_ok (.inl 13) [12]).or X0)) TTab_ok hC hm [0,1,3,4,17,18,19] 4000 [aLn level1.length] (sub [1,1,0,0,1,0,1,2,1,0] bd_tries_walk_1) (frs [1,1,0,0,1,0,1,2,1,0] [J2, J3] bd_tries_walk_1 []) [(0, .own (.opq (YY sg1).q)), (1, .d (.sptr (eSl 2 false F13_ x0))), (3, .own (eOs 2 false F16_ level1)), (4, .own (eOs 2 true F16_ [])), (17, .als 3 [] 0 0), (18, .d (I ((level1.length : Nat) : Int))), (19, .d (I 0))] [ob o1] (by kernel_rfl) fun st0 h0 => ?_
    refine awpLoop' (X := (σ × List S_tries_place × Int) × Nat) (c' := (sub [1,1,0,0,1,0,1,2,1,0,0] bd_tries_walk_1)) (by kernel_rfl) [0,1,3,4,17,18,19] (fun x => loopN (fun s => tries_walk_1_L4 x0 yy level1 s.1 s.2.1 s.2.2) x.2 x.1 = some t4) (fun x => x.2) (fun x => ST_tries_walk_1_L4 x0 YY level1 x.1.1 x.1.2.1 x.1.2.2) ((sg1, ([] : List S_tries_place), 0), fuel) _ h0 inferInstance ht4 ?_
    rintro ⟨⟨sg3, next1, x19⟩, n4⟩ hn4 J4 hJ4
    obtain ⟨m4, lr2, rfl, hf2, hl2⟩ := loopE hn4
    try unfold tries_walk_1_L4 at hf2
    rcases bifE hf2 with ⟨c1, hf2⟩ | ⟨c1, hf2⟩
    ·refine awpAt ((xSeal TTab_ok (.inl 49) [48]).or ((xSeal TTab_ok (.inl 13) [12]).or X0)) TTab_ok hC hm [0,1,3,4,17,18,19] 4000 [bT, .cut 0] (sub [1,1,0,0,1,0,1,2,1,0,0,1,1] bd_tries_walk_1) (frs [1,1,0,0,1,0,1,2,1,0,0,1,1] [J2, J3, J4] bd_tries_walk_1 []) [(0, .own (.opq (YY sg3).q)), (1, .d (.sptr (eSl 2 false F13_ x0))), (3, .own (eOs 2 false F16_ level1)), (4, .own (eOs 2 false F16_ next1)), (17, .als 3 [] 0 0), (18, .d (I ((level1.length : Nat) : Int))), (19, .d (I x19))] [ob c1] (by kernel_rfl) fun st0 h0 => ?_
     refine awpJoin' (X := σ × List S_tries_place) (x := (sub [1,1,0,0,1,0,1,2,1,0,0,1,1,2] bd_tries_walk_1)) (y := (sub [1,1,0,0,1,0,1,2,1,0,0,1,1,1] bd_tries_walk_1)) (by kernel_rfl) [0,1,3,4,17,18,19] [0,1,3,4,17,18,19] _ h0 (fun z => tries_walk_1_J5 x19 z.1 z.2 = some lr2) (fun z => ST_tries_walk_1_J5 x0 YY level1 x19 z.1 z.2) ?_ fun J5 hJ5 => ?_
     ·rintro ⟨sg4, next2⟩ hf2
      unfold tries_walk_1_J5 at hf2
      obtain rfl := someE hf2
      exact awpBack ((xSeal TTab_ok (.inl 49) [48]).or ((xSeal TTab_ok (.inl 13) [12]).or X0)) TTab_ok hC hm [0,1,3,4,17,18,19] 4000 [] J4 [(0, .own (.opq (YY sg4).q)), (1, .d (.sptr (eSl 2 false F13_ x0))), (3, .own (eOs 2 false F16_ level1)), (4, .own (eOs 2 false F16_ next2)), (17, .als 3 [] 0 0), (18, .d (I ((level1.length : Nat) : Int))), (19, .d (I (w64 (x19 + 1))))] [] (by kernel_rfl) fun st0 h0 => hJ4 st0 _ ((sg4, next2, w64 (x19 + 1)), m4) hl2 (Nat.lt_succ_self m4) h0 inferInstance
     ·obtain ⟨level_e, h0, hf2⟩ := bindE hf2
      have o2 := iL F16_ h0
      have o3 := iM F16_ h0
      obtain ⟨yr, h1, hf2⟩ := bindE hf2
      have o4 := tabY_at (yv := yv) (Y := YY) (enc := (fun (x : S_tries_place) (_ : Bool) (_ : Value) => [F16_ x])) (s := sg3) (x := level_e) (s' := yr.1) (b := yr.2) (v := .nilFunc) [F16_ level_e] (show LeTs [F16_ level_e] [F16_ level_e] from inferInstance)
      rcases bifE hf2 with ⟨c2, hf2⟩ | ⟨c2, hf2⟩
      ·obtain rfl := someE hf2
       obtain rfl := hl2
       obtain rfl := someE hf1
       obtain rfl := hl1
       obtain rfl := someE hf0
       exact awpFin ((xYield (P := Try.prog) TTab hy 25 (s := sg3) (x := level_e) (s' := yr.1) (b := yr.2) .nilFunc h1).or ((xSeal TTab_ok (.inl 49) [48]).or ((xSeal TTab_ok (.inl 13) [12]).or X0))) TTab_ok hC hm [0] 4000 [.a (F16_ level_e), bT] .ret [(0, .own (.opq (YY yr.1).q))] [ob o2, ob o3, ob o4, ob c2] (by kernel_rfl) fun st0 h0 => hE _ st0 (.inr rfl) h0
      ·obtain ⟨x_e, h2, hf2⟩ := bindE hf2
       have o5 := iM F13_ h2
       obtain ⟨t6, ht6, hf2⟩ := bindE hf2
       refine awpAt ((xYield (P := Try.prog) TTab hy 25 (s := sg3) (x := level_e) (s' := yr.1) (b := yr.2) .nilFunc h1).or ((xSeal TTab_ok (.inl 49) [48]).or ((xSeal TTab_ok (.inl 13) [12]).or X0))) TTab_ok hC hm [0,1,3,4,6,17,18,19,32,33,34] 4000 [.a (F16_ level_e), bF, .a (F13_ x_e), aLn x_e.Next.length] (sub [1,1,0,0,1,0,1,2,1,0,0,1,1,2,0,1,1,1,0] bd_tries_walk_1) (frs [1,1,0,0,1,0,1,2,1,0,0,1,1,2,0,1,1,1,0] [J2, J3, J4, J5] bd_tries_walk_1 []) [(0, .own (.opq (YY yr.1).q)), (1, .d (.sptr (eSl 2 false F13_ x0))), (3, .own (eOs 2 false F16_ level1)), (4, .own (eOs 2 false F16_ next1)), (6, .own (.box (F16_ level_e))), (17, .als 3 [] 0 0), (18, .d (I ((level1.length : Nat) : Int))), (19, .d (I x19)), (32, .d (eSl 1 false (eI .i64) x_e.Next)), (33, .d (I ((x_e.Next.length : Nat) : Int))), (34, .d (I 0))] [ob o2, ob o3, ob o4, ob c2, ob (i0 h2), ob o5, ob (lnM (eI .i64) x_e.Next)] (by kernel_rfl) fun st0 h0 => ?_
       refine awpLoop' (X := (List S_tries_place × Int) × Nat) (c' := (sub [1,1,0,0,1,0,1,2,1,0,0,1,1,2,0,1,1,1,0,0] bd_tries_walk_1)) (by kernel_rfl) [0,1,3,4,6,17,18,19,32,33,34] (fun x => loopN (fun s => tries_walk_1_L6 level_e yr x_e s.1 s.2) x.2 x.1 = some t6) (fun x => x.2) (fun x => ST_tries_walk_1_L6 x0 YY level1 x19 level_e yr x_e x.1.1 x.1.2) ((next1,0), fuel) _ h0 inferInstance ht6 ?_
       rintro ⟨⟨next3, x34⟩, n6⟩ hn6 J6 hJ6
       obtain ⟨m6, lr3, rfl, hf3, hl3⟩ := loopE hn6
       try unfold tries_walk_1_L6 at hf3
       rcases bifE hf3 with ⟨c3, hf3⟩ | ⟨c3, hf3⟩
       ·refine awpAt ((xSeal TTab_ok (.inl 49) [48]).or ((xSeal TTab_ok (.inl 13) [12]).or X0)) TTab_ok hC hm [0,1,3,4,6,17,18,19,32,33,34] 4000 [bT, .cut 0] (sub [1,1,0,0,1,0,1,2,1,0,0,1,1,2,0,1,1,1,0,0,1,1] bd_tries_walk_1) (frs [1,1,0,0,1,0,1,2,1,0,0,1,1,2,0,1,1,1,0,0,1,1] [J2, J3, J4, J5, J6] bd_tries_walk_1 []) [(0, .own (.opq (YY yr.1).q)), (1, .d (.sptr (eSl 2 false F13_ x0))), (3, .own (eOs 2 false F16_ level1)), (4, .own (eOs 2 false F16_ next3)), (6, .own (.box (F16_ level_e))), (17, .als 3 [] 0 0), (18, .d (I ((level1.length : Nat) : Int))), (19, .d (I x19)), (32, .d (eSl 1 false (eI .i64) x_e.Next)), (33, .d (I ((x_e.Next.length : Nat) : Int))), (34, .d (I x34))] [ob c3] (by kernel_rfl) fun st0 h0 => ?_
        refine awpJoin' (X := List S_tries_place) (x := (sub [1,1,0,0,1,0,1,2,1,0,0,1,1,2,0,1,1,1,0,0,1,1,2] bd_tries_walk_1)) (y := (sub [1,1,0,0,1,0,1,2,1,0,0,1,1,2,0,1,1,1,0,0,1,1,1] bd_tries_walk_1)) (by kernel_rfl) [0,1,3,4,6,17,18,19,32,33,34] [0,1,3,4,6,17,18,19,32,33,34] _ h0 (fun z => tries_walk_1_J7 x34 z = some lr3) (fun z => ST_tries_walk_1_J7 x0 YY level1 x19 level_e yr x_e x34 z) ?_ fun J7 hJ7 => ?_
        ·rintro next4 hf3
         unfold tries_walk_1_J7 at hf3
         obtain rfl := someE hf3
         exact awpBack ((xSeal TTab_ok (.inl 49) [48]).or ((xSeal TTab_ok (.inl 13) [12]).or X0)) TTab_ok hC hm [0,1,3,4,6,17,18,19,32,33,34] 4000 [] J6 [(0, .own (.opq (YY yr.1).q)), (1, .d (.sptr (eSl 2 false F13_ x0))), (3, .own (eOs 2 false F16_ level1)), (4, .own (eOs 2 false F16_ next4)), (6, .own (.box (F16_ level_e))), (17, .als 3 [] 0 0), (18, .d (I ((level1.length : Nat) : Int))), (19, .d (I x19)), (32, .d (eSl 1 false (eI .i64) x_e.Next)), (33, .d (I ((x_e.Next.length : Nat) : Int))), (34, .d (I (w64 (x34 + 1))))] [] (by kernel_rfl) fun st0 h0 => hJ6 st0 _ ((next4, w64 (x34 + 1)), m6) hl3 (Nat.lt_succ_self m6) h0 inferInstance
        ·obtain ⟨Next_e, h3, hf3⟩ := bindE hf3
         rcases bifE hf3 with ⟨c4, hf3⟩ | ⟨c4, hf3⟩
         ·obtain ⟨r_, h4, hf3⟩ := bindE hf3
          have o6 := hasF h_slices_Clip_int_int (x := level_e.w_) h4 (loC F4_ level_e.w_ <| loN)
          obtain ⟨g0, hf3⟩ := gdE hf3
          have o7 := aN (eI .i64) (eI .i64) g0 (by simp)
          have o8 := shM (eI .i64) (eI .i64) (r_ ++ ([x34] : List Int))
          have o9 := dM F16_ ([(S_tries_place.mk Next_e (r_ ++ ([x34] : List Int)))] : List S_tries_place)
          have o10 := dM F16_ ([(S_tries_place.mk Next_e (r_ ++ ([x34] : List Int)))] : List S_tries_place)
          obtain ⟨g1, hf3⟩ := gdE hf3
          have o11 := aL F16_ F16_ g1
          have o12 := aM F16_ next3 ([(S_tries_place.mk Next_e (r_ ++ ([x34] : List Int)))] : List S_tries_place)
          exact awpBack ((xSeal TTab_ok (.inl 49) [48]).or ((xSeal TTab_ok (.inl 13) [12]).or X0)) TTab_ok hC hm [0,1,3,4,6,17,18,19,32,33,34] 4000 [.a ((eI .i64) Next_e), bT, .g [], .a (F1_ r_), bT, .l ((r_ ++ ([x34] : List Int)).map (eI .i64)), .l ((r_ ++ ([x34] : List Int)).map (eI .i64)), bT, .l ((next3 ++ ([(S_tries_place.mk Next_e (r_ ++ ([x34] : List Int)))] : List S_tries_place)).map F16_)] J7 [(0, .own (.opq (YY yr.1).q)), (1, .d (.sptr (eSl 2 false F13_ x0))), (3, .own (eOs 2 false F16_ level1)), (4, .own (eOs 2 false F16_ (next3 ++ ([(S_tries_place.mk Next_e (r_ ++ ([x34] : List Int)))] : List S_tries_place)))), (6, .own (.box (F16_ level_e))), (17, .als 3 [] 0 0), (18, .d (I ((level1.length : Nat) : Int))), (19, .d (I x19)), (32, .d (eSl 1 false (eI .i64) x_e.Next)), (33, .d (I ((x_e.Next.length : Nat) : Int))), (34, .d (I x34))] [ob (i0 h3), ob (iM (eI .i64) h3), ob c4, ob (hasG h_slices_Clip_int_int), ob o6, ob (dM (eI .i64) ([x34] : List Int)), ob (dM (eI .i64) ([x34] : List Int)), ob o7, ob (aM (eI .i64) r_ ([x34] : List Int)), ob o8, ob o9, ob o10, ob o11, ob o12] (by kernel_rfl) fun st0 h0 => hJ7 st0 _ (next3 ++ ([(S_tries_place.mk Next_e (r_ ++ ([x34] : List Int)))] : List S_tries_place)) hf3 h0 inferInstance
         ·exact awpBack ((xSeal TTab_ok (.inl 49) [48]).or ((xSeal TTab_ok (.inl 13) [12]).or X0)) TTab_ok hC hm [0,1,3,4,6,17,18,19,32,33,34] 4000 [.a ((eI .i64) Next_e), bF] J7 [(0, .own (.opq (YY yr.1).q)), (1, .d (.sptr (eSl 2 false F13_ x0))), (3, .own (eOs 2 false F16_ level1)), (4, .own (eOs 2 false F16_ next3)), (6, .own (.box (F16_ level_e))), (17, .als 3 [] 0 0), (18, .d (I ((level1.length : Nat) : Int))), (19, .d (I x19)), (32, .d (eSl 1 false (eI .i64) x_e.Next)), (33, .d (I ((x_e.Next.length : Nat) : Int))), (34, .d (I x34))] [ob (i0 h3), ob (iM (eI .i64) h3), ob c4] (by kernel_rfl) fun st0 h0 => hJ7 st0 _ next3 hf3 h0 inferInstance
       ·obtain rfl := someE hf3
        obtain rfl := hl3
        exact awpBack ((xSeal TTab_ok (.inl 49) [48]).or ((xSeal TTab_ok (.inl 13) [12]).or X0)) TTab_ok hC hm [0,1,3,4,17,18,19] 4000 [bF] J5 [(0, .own (.opq (YY yr.1).q)), (1, .d (.sptr (eSl 2 false F13_ x0))), (3, .own (eOs 2 false F16_ level1)), (4, .own (eOs 2 false F16_ next3)), (17, .als 3 [] 0 0), (18, .d (I ((level1.length : Nat) : Int))), (19, .d (I x19))] [ob c3] (by kernel_rfl) fun st0 h0 => hJ5 st0 _ (yr.1, next3) hf2 h0 inferInstance
    ·obtain rfl := someE hf2
     obtain rfl := hl2
     exact awpBack ((xSeal TTab_ok (.inl 49) [48]).or ((xSeal TTab_ok (.inl 13) [12]).or X0)) TTab_ok hC hm [0,1,4] 4000 [bF] J3 [(0, .own (.opq (YY sg3).q)), (1, .d (.sptr (eSl 2 false F13_ x0))), (4, .own (eOs 2 false F16_ next1))] [ob c1] (by kernel_rfl) fun st0 h0 => hJ3 st0 _ (sg3, next1) hf1 h0 inferInstance
  ·obtain rfl := someE hf1
   obtain rfl := hl1
   obtain rfl := someE hf0
   exact awpFin ((xSeal TTab_ok (.inl 49) [48]).or ((xSeal TTab_ok (.inl 13) [12]).or X0)) TTab_ok hC hm [0] 4000 [aLn level1.length, bF] .normal [(0, .own (.opq (YY sg1).q))] [ob o0, ob c0] (by kernel_rfl) fun st0 h0 => hE _ st0 (.inl rfl) h0
 ·have o13 := lnM F13_ x0
  rcases bifE hf0 with ⟨c5, hf0⟩ | ⟨c5, hf0⟩
  ·exact awpBack ((xSeal TTab_ok (.inl 49) [48]).or ((xSeal TTab_ok (.inl 13) [12]).or X0)) TTab_ok hC hm [0,1,3] 4000 [aLn x0.length, bT, .l ([].map (eI .i64))] J1 [(0, .own (.opq (YY sg).q)), (1, .d (.sptr (eSl 2 false F13_ x0))), (3, .own (eOs 2 true F15_ ([(S_tries_place.mk 0 [])])))] [ob o13, ob c5, ob (shM (eI .i64) (eI .i64) [])] (by kernel_rfl) fun st0 h0 => hJ1 st0 _ ([(S_tries_place.mk 0 [])] : List S_tries_place) hf0 h0 inferInstance
  ·exact awpBack ((xSeal TTab_ok (.inl 49) [48]).or ((xSeal TTab_ok (.inl 13) [12]).or X0)) TTab_ok hC hm [0,1,3] 4000 [aLn x0.length, bF] J1 [(0, .own (.opq (YY sg).q)), (1, .d (.sptr (eSl 2 false F13_ x0))), (3, .own (eOs 2 true F15_ []))] [ob o13, ob c5] (by kernel_rfl) fun st0 h0 => hJ1 st0 _ ([] : List S_tries_place) hf0 h0 inferInstance
noncomputable def bd_slices_Clip_tries_Node_tries_Node : Code := (Try.f84.body).getD .skip
noncomputable def sp_slices_Clip_tries_Node_tries_Node : Spec := spF (α := List S_tries_Node) (ρ := List S_tries_Node) 84 (fun x => [F19_ x]) (fun r => F18_ r) (fun x => slices_Clip_tries_Node_tries_Node x) [] (by
 rintro a0 b0 h
 have e0 := EncI.inj (f := F19_) _ _ (List.cons.inj h).1
 subst e0
 rfl)
theorem w_slices_Clip_tries_Node_tries_Node {ctr : Ctr} (hC : CtrOk Try.prog ctr) (hm : Try.prog.follows .mixedOrders = true) : sp_slices_Clip_tries_Node_tries_Node.Ok Try.prog := by
 refine spF_ok ?_
 rintro s_ r0 hf0
 try unfold slices_Clip_tries_Node_tries_Node at hf0
 refine callOk_h (tt := TTab) (keep := true) (rs := [(2, none)]) (n := ⟨9, []⟩) (body := bd_slices_Clip_tries_Node_tries_Node) TTab_ok Try.func84 rfl (by kernel_rfl) rfl rfl (by show (1 : Nat) ≤ 9; decide) fun E hE => ?_
 have o0 := lnM F13_ s_
 have o1 := lnM F13_ s_
 obtain ⟨g0, hf0⟩ := gdE hf0
 have o2 := sl011 F13_ g0
 have o3 := slT1 2 F13_ s_ 0 ((s_.length : Nat) : Int).toNat
 obtain rfl := someE hf0
 exact awpEnd X0 TTab_ok hC hm hE 4000 (hs := [aLn s_.length, aLn s_.length, .a (eSl 2 true F13_ ((s_.drop 0).take (((s_.length : Nat) : Int).toNat - 0)))]) (x := (eSl 2 true F13_ ((s_.drop 0).take (((s_.length : Nat) : Int).toNat - 0)))) [ob o0, ob o1, ob (slB g0), ob (slC g0), ob o2, ob o3] (by kernel_rfl) (LeV.refl _)
noncomputable def bd_tries_builder_ordered : Code := (Try.f63.body).getD .skip
noncomputable def sp_tries_builder_ordered : Spec := spF (α := S_tries_builder) (ρ := List S_tries_Node) 63 (fun x => [F29_ x]) (fun r => F18_ r) (fun x => tries_builder_ordered x) [true] (by
 rintro a0 b0 h
 have e0 := EncI.inj (f := F29_) _ _ (List.cons.inj h).1
 subst e0
 rfl)
abbrev ST_tries_builder_ordered_I1 (b_ : S_tries_builder) (r_ : List S_tries_Node) (number : List Int) (order : List Int) : List (Nat × T) := [(0, .d (.sptr (F27_ b_))), (3, .own (.box (eOs 1 true (eI .i64) number))), (4, .own (.box (eOs 1 false (eI .i64) order))), (22, .d (.fn 85 [.sptr (eSl 2 false F13_ r_)]))]
abbrev ST_tries_builder_ordered_J2 (out : List S_tries_Node) : List (Nat × T) := [(6, .own (eOs 2 false F14_ out))]
abbrev ST_tries_builder_ordered_J4 (b_ : S_tries_builder) (bo : List Int × List Int) (x37 : Int) (b_nodes1 : List (Option S_tries_Node)) (out2 : List S_tries_Node) : List (Nat × T) := [(0, .own (.box (.agg [I b_.inputs_, eOs 2 false (eOp 2 F14_) b_nodes1]))), (3, .own (.box (eOs 1 true (eI .i64) bo.1))), (6, .own (eOs 2 false F14_ out2)), (35, .d (eSl 1 false (eI .i64) bo.2)), (36, .d (I ((bo.2.length : Nat) : Int))), (37, .d (I x37))]
abbrev ST_tries_builder_ordered_J5 (b_ : S_tries_builder) (bo : List Int × List Int) (b_nodes : List (Option S_tries_Node)) (out1 : List S_tries_Node) (x37 : Int) (u_ : Int) (b_node_e : S_tries_Node) (n_Next : List Int) : List (Nat × T) := [(0, .own (.box (.agg [I b_.inputs_, eOs 2 false (eOp 2 F14_) (b_nodes.set u_.toNat none)]))), (3, .own (.box (eOs 1 true (eI .i64) bo.1))), (6, .own (eOs 2 false F14_ out1)), (9, .own (.box (.agg [eOs 1 false (eI .i64) n_Next, B b_node_e.End]))), (35, .d (eSl 1 false (eI .i64) bo.2)), (36, .d (I ((bo.2.length : Nat) : Int))), (37, .d (I x37))]
abbrev ST_tries_builder_ordered_J7 (b_ : S_tries_builder) (bo : List Int × List Int) (b_nodes : List (Option S_tries_Node)) (out1 : List S_tries_Node) (x37 : Int) (u_ : Int) (b_node_e : S_tries_Node) (x51 : Int) (n_Next2 : List Int) : List (Nat × T) := [(0, .own (.box (.agg [I b_.inputs_, eOs 2 false (eOp 2 F14_) (b_nodes.set u_.toNat none)]))), (3, .own (.box (eOs 1 true (eI .i64) bo.1))), (6, .own (eOs 2 false F14_ out1)), (9, .own (.box (.agg [eOs 1 false (eI .i64) n_Next2, B b_node_e.End]))), (35, .d (eSl 1 false (eI .i64) bo.2)), (36, .d (I ((bo.2.length : Nat) : Int))), (37, .d (I x37)), (49, .als 9 [.deref, .fld 0] 0 0), (50, .d (I ((b_node_e.Next.length : Nat) : Int))), (51, .d (I x51))]
abbrev ST_tries_builder_ordered_L6 (b_ : S_tries_builder) (bo : List Int × List Int) (b_nodes : List (Option S_tries_Node)) (out1 : List S_tries_Node) (x37 : Int) (u_ : Int) (b_node_e : S_tries_Node) (n_Next1 : List Int) (x51 : Int) : List (Nat × T) := [(0, .own (.box (.agg [I b_.inputs_, eOs 2 false (eOp 2 F14_) (b_nodes.set u_.toNat none)]))), (3, .own (.box (eOs 1 true (eI .i64) bo.1))), (6, .own (eOs 2 false F14_ out1)), (9, .own (.box (.agg [eOs 1 false (eI .i64) n_Next1, B b_node_e.End]))), (35, .d (eSl 1 false (eI .i64) bo.2)), (36, .d (I ((bo.2.length : Nat) : Int))), (37, .d (I x37)), (49, .als 9 [.deref, .fld 0] 0 0), (50, .d (I ((b_node_e.Next.length : Nat) : Int))), (51, .d (I x51))]
abbrev ST_tries_builder_ordered_L3 (b_ : S_tries_builder) (bo : List Int × List Int) (b_nodes : List (Option S_tries_Node)) (out1 : List S_tries_Node) (x37 : Int) : List (Nat × T) := [(0, .own (.box (.agg [I b_.inputs_, eOs 2 false (eOp 2 F14_) b_nodes]))), (3, .own (.box (eOs 1 true (eI .i64) bo.1))), (6, .own (eOs 2 false F14_ out1)), (35, .d (eSl 1 false (eI .i64) bo.2)), (36, .d (I ((bo.2.length : Nat) : Int))), (37, .d (I x37))]
theorem w_tries_builder_ordered {ctr : Ctr} (hC : CtrOk Try.prog ctr) (hm : Try.prog.follows .mixedOrders = true) (h_tries_walk : ctr.Has sp_tries_walk) (h_slices_Clip_int_int : ctr.Has sp_slices_Clip_int_int) (h_slices_Clip_tries_Node_tries_Node : ctr.Has sp_slices_Clip_tries_Node_tries_Node) : sp_tries_builder_ordered.Ok Try.prog := by
 refine spF_ok ?_
 rintro b_ r0 hf0
 try unfold tries_builder_ordered at hf0
 refine callOk_h (tt := TTab) (keep := true) (rs := [(2, none)]) (n := ⟨74, []⟩) (body := bd_tries_builder_ordered) TTab_ok Try.func63 rfl (by kernel_rfl) rfl rfl (by show (1 : Nat) ≤ 74; decide) fun E hE => ?_
 refine awpPin1 (y := .box (.agg [I b_.inputs_, eOs 2 false F14_ b_.nodes_])) rfl 0 (by kernel_rfl) (by kernel_rfl) fun pv0 hv0 => ?_
 have o0 := lnM F14_ b_.nodes_
 obtain ⟨g0, hf0⟩ := gdE hf0
 have o1 := rM 1 (eI .i64) ((b_.nodes_.length : Nat) : Int) (0 : Int)
 refine awpAt X0 TTab_ok hC hm [0,3,4] 4000 [aLn b_.nodes_.length, .a (eOs 1 true (eI .i64) (List.replicate ((b_.nodes_.length : Nat) : Int).toNat (0 : Int))), .cut 1] (sub [1,1,1] bd_tries_builder_ordered) (frs [1,1,1] [] bd_tries_builder_ordered []) [(0, .own (.box (F26_ b_))), (3, .own (.box (eOs 1 true (eI .i64) (List.replicate ((b_.nodes_.length : Nat) : Int).toNat (0 : Int))))), (4, .own (.box (eOs 1 true (eI .i64) [])))] [ob o0, ob (rL g0), ob o1] (by kernel_rfl) fun st0 h0 => awpOf h0 ?_
 obtain ⟨bo, hq, hf0⟩ := bindE hf0
 refine awpBorrow (a := (sub [1,1,1,0,0] bd_tries_builder_ordered)) (b := (sub [1,1,1,0,1] bd_tries_builder_ordered)) (y := (sub [1,1,1,1] bd_tries_builder_ordered)) (by kernel_rfl) 0 (v := pv0) (x := .box (.agg [I b_.inputs_, eOs 2 false F14_ b_.nodes_])) (x' := .sptr (.agg [I b_.inputs_, eSl 2 false F13_ b_.nodes_])) [0,3,4] [0,3,4] [(0, .d (.sptr (F27_ b_))), (3, .own (.box (eOs 1 true (eI .i64) (List.replicate ((b_.nodes_.length : Nat) : Int).toNat (0 : Int))))), (4, .own (.box (eOs 1 true (eI .i64) [])))] [(0, .d (.sptr (F27_ b_))), (3, .own (.box (eOs 1 true (eI .i64) bo.1))), (4, .own (.box (eOs 1 false (eI .i64) bo.2)))] [(0, .own (.box (F26_ b_))), (3, .own (.box (eOs 1 true (eI .i64) bo.1))), (4, .own (.box (eOs 1 false (eI .i64) bo.2)))] (by kernel_rfl) ⟨EncS.live (f := F29_) b_, EncS.sh (f := F29_) b_⟩ (by kernel_rfl) (by kernel_rfl) (inE (.inl rfl) (inE (.inr (inB _ _ _ _)) (inE (.inr (inB _ _ _ _)) inN))) (by kernel_rfl) (by kernel_rfl) ?_ ?_
 ·unfold tries_builder_ordered_q1 at hq
  obtain ⟨r_, h0, hq⟩ := bindE hq
  have o2 := hasF h_tries_walk (x := b_.nodes_) h0 (loC F19_ b_.nodes_ <| loN)
  refine awpFin X0 TTab_ok hC hm [0,3,4,22] 4000 [.g [], .a ((eFn1 85 F22_) r_)] .normal [(0, .d (.sptr (F27_ b_))), (3, .own (.box (eOs 1 true (eI .i64) (List.replicate ((b_.nodes_.length : Nat) : Int).toNat (0 : Int))))), (4, .own (.box (eOs 1 true (eI .i64) []))), (22, .d (.fn 85 [.sptr (eSl 2 false F13_ r_)]))] [ob (hasG h_tries_walk), ob o2] (by kernel_rfl) fun st0 h0 => ⟨rfl, awpOf h0 ?_⟩
  obtain ⟨t1, ht1, hq⟩ := bindE hq
  refine awpAt X0 TTab_ok hC hm [0,3,4,22] 4000 [] (sub [1,1,1,0,1,0] bd_tries_builder_ordered) [.blk 0] [(0, .d (.sptr (F27_ b_))), (3, .own (.box (eOs 1 true (eI .i64) (List.replicate ((b_.nodes_.length : Nat) : Int).toNat (0 : Int))))), (4, .own (.box (eOs 1 true (eI .i64) []))), (22, .d (.fn 85 [.sptr (eSl 2 false F13_ r_)]))] [] (by kernel_rfl) fun st0 h0 => ?_
  refine awpIter (g := .tmp 22) (ps := [23]) (assign := (sub [1,1,1,0,1,0,0] bd_tries_builder_ordered)) (body := (sub [1,1,1,0,1,0,1] bd_tries_builder_ordered)) (K := 85) (caps := [.sptr (eSl 2 false F13_ r_)]) (by kernel_rfl) [0,3,4,22] (fun s => ST_tries_builder_ordered_I1 b_ r_ s.1 s.2) (fun z => nomatch z) (fun z => nomatch z) ((fun (x : S_tries_place) (_ : Bool) (_ : Value) => [F16_ x])) (F := @tries_walk_1 r_) (fun s x => tries_builder_ordered_I1 s.1 s.2 x) ((List.replicate ((b_.nodes_.length : Nat) : Int).toNat (0 : Int)), ([] : List Int)) t1 _ h0 inferInstance (by kernel_rfl) (by decide) (fun _ => rfl) (by rintro ⟨⟩) (by kernel_rfl) (fun _ _ _ => rfl) (w_tries_walk_1 hC hm h_slices_Clip_int_int r_) ht1 ?_ ?_
  ·rintro tv1 ⟨number, order⟩ x23 vr lr2 hf2
   replace hf2 : tries_builder_ordered_I1 number order x23 = some lr2 := hf2
   unfold tries_builder_ordered_I1 at hf2
   refine awpFin X0 TTab_ok hC hm [0,3,4,5,22] 4000 [] .normal [(0, .d (.sptr (F27_ b_))), (3, .own (.box (eOs 1 true (eI .i64) number))), (4, .own (.box (eOs 1 false (eI .i64) order))), (5, .own (.box (F16_ x23))), (22, .d (.fn 85 [.sptr (eSl 2 false F13_ r_)]))] [] (by kernel_rfl) fun st0 h0 => ⟨rfl, awpOf h0 ?_⟩
   obtain ⟨number_e, h1, hf2⟩ := bindE hf2
   have o3 := sM (eI .i64) number x23.at_ ((order.length : Nat) : Int)
   have o4 := dM (eI .i64) ([x23.at_] : List Int)
   have o5 := dM (eI .i64) ([x23.at_] : List Int)
   obtain ⟨g1, hf2⟩ := gdE hf2
   have o6 := aM (eI .i64) order ([x23.at_] : List Int)
   obtain rfl := someE hf2
   exact awpFin X0 TTab_ok hC hm [0,3,4,22] 4000 [aLn order.length, .a ((eI .i64) number_e), .a ((eI .i64) number_e), .l ((number.set x23.at_.toNat ((order.length : Nat) : Int)).map (eI .i64)), bT, .l ((order ++ ([x23.at_] : List Int)).map (eI .i64))] .normal [(0, .d (.sptr (F27_ b_))), (3, .own (.box (eOs 1 true (eI .i64) (number.set x23.at_.toNat ((order.length : Nat) : Int))))), (4, .own (.box (eOs 1 false (eI .i64) (order ++ ([x23.at_] : List Int))))), (22, .d (.fn 85 [.sptr (eSl 2 false F13_ r_)]))] [ob (lnM (eI .i64) order), ob (iL (eI .i64) h1), ob (iM (eI .i64) h1), ob (iM (eI .i64) h1), ob o3, ob o4, ob o5, ob (aL (eI .i64) (eI .i64) g1), ob o6] (by kernel_rfl) fun st0 h0 => ⟨rfl, _, h0, (inferInstance : LeL [(0, .d (.sptr (F27_ b_))), (3, .own (.box (eOs 1 true (eI .i64) (number.set x23.at_.toNat ((order.length : Nat) : Int))))), (4, .own (.box (eOs 1 false (eI .i64) (order ++ ([x23.at_] : List Int))))), (22, .d (.fn 85 [.sptr (eSl 2 false F13_ r_)]))] (ST_tries_builder_ordered_I1 b_ r_ (number.set x23.at_.toNat ((order.length : Nat) : Int)) (order ++ ([x23.at_] : List Int))))⟩
  ·rcases t1 with ⟨number, order⟩ | z
   ·dsimp only at hq
    obtain rfl := someE hq
    exact qfBlk ⟨rfl, by kernel_rfl⟩
   ·cases z
 ·refine awpAt X0 TTab_ok hC hm [0,3,4,6] 4000 [.v 2 [4], .l (bo.2.map (eI .i64)), .cut 0] (sub [1,1,1,1,1] bd_tries_builder_ordered) (frs [1,1,1,1,1] [] bd_tries_builder_ordered []) [(0, .own (.box (F26_ b_))), (3, .own (.box (eOs 1 true (eI .i64) bo.1))), (4, .own (.box (eSl 1 false (eI .i64) bo.2))), (6, .own (eOs 2 true F13_ []))] [ob (shM (eI .i64) (eI .i64) bo.2)] (by kernel_rfl) fun st0 h0 => ?_
  refine awpJoin' (X := List S_tries_Node) (x := (sub [1,1,1,1,1,2] bd_tries_builder_ordered)) (y := (sub [1,1,1,1,1,1] bd_tries_builder_ordered)) (by kernel_rfl) [6] [0,3,4,6] _ h0 (fun z => tries_builder_ordered_J2 z = some r0) (fun z => ST_tries_builder_ordered_J2 z) ?_ fun J2 hJ2 => ?_
  ·rintro out hf0
   unfold tries_builder_ordered_J2 at hf0
   have o7 := hasG h_slices_Clip_tries_Node_tries_Node
   have o8 := shM F14_ F13_ out
   obtain ⟨r_1, h2, hf0⟩ := bindE hf0
   have o9 := hasF h_slices_Clip_tries_Node_tries_Node (x := out) h2 (loC F19_ out <| loN)
   have o10 := shM F14_ F13_ out
   obtain rfl := someE hf0
   exact awpEnd X0 TTab_ok hC hm hE 4000 (hs := [.g [], .l (out.map F13_), .a (F18_ r_1), .l (out.map F13_)]) (x := (eSl 2 true F13_ r_1)) [ob o7, ob o8, ob o9, ob o10] (by kernel_rfl) (LeV.refl _)
  ·obtain ⟨t3, ht3, hf0⟩ := bindE hf0
   refine awpAt X0 TTab_ok hC hm [0,3,6,35,36,37] 4000 [aLn bo.2.length] (sub [1,1,1,1,1,2,1,0] bd_tries_builder_ordered) (frs [1,1,1,1,1,2,1,0] [J2] bd_tries_builder_ordered []) [(0, .own (.box (.agg [I b_.inputs_, eOs 2 false F14_ b_.nodes_]))), (3, .own (.box (eOs 1 true (eI .i64) bo.1))), (6, .own (eOs 2 true F14_ [])), (35, .d (eSl 1 false (eI .i64) bo.2)), (36, .d (I ((bo.2.length : Nat) : Int))), (37, .d (I 0))] [ob (lnM (eI .i64) bo.2)] (by kernel_rfl) fun st0 h0 => ?_
   refine awpLoop' (X := (List (Option S_tries_Node) × List S_tries_Node × Int) × Nat) (c' := (sub [1,1,1,1,1,2,1,0,0] bd_tries_builder_ordered)) (by kernel_rfl) [0,3,6,35,36,37] (fun x => loopN (fun s => tries_builder_ordered_L3 bo s.1 s.2.1 s.2.2) x.2 x.1 = some t3) (fun x => x.2) (fun x => ST_tries_builder_ordered_L3 b_ bo x.1.1 x.1.2.1 x.1.2.2) (((b_.nodes_.map some), ([] : List S_tries_Node), 0), fuel) _ h0 inferInstance ht3 ?_
   rintro ⟨⟨b_nodes, out1, x37⟩, n3⟩ hn3 J3 hJ3
   obtain ⟨m3, lr1, rfl, hf1, hl1⟩ := loopE hn3
   try unfold tries_builder_ordered_L3 at hf1
   rcases bifE hf1 with ⟨c0, hf1⟩ | ⟨c0, hf1⟩
   ·refine awpAt X0 TTab_ok hC hm [0,3,6,35,36,37] 4000 [bT, .cut 0] (sub [1,1,1,1,1,2,1,0,0,1,1] bd_tries_builder_ordered) (frs [1,1,1,1,1,2,1,0,0,1,1] [J2, J3] bd_tries_builder_ordered []) [(0, .own (.box (.agg [I b_.inputs_, eOs 2 false (eOp 2 F14_) b_nodes]))), (3, .own (.box (eOs 1 true (eI .i64) bo.1))), (6, .own (eOs 2 false F14_ out1)), (35, .d (eSl 1 false (eI .i64) bo.2)), (36, .d (I ((bo.2.length : Nat) : Int))), (37, .d (I x37))] [ob c0] (by kernel_rfl) fun st0 h0 => ?_
    refine awpJoin' (X := List (Option S_tries_Node) × List S_tries_Node) (x := (sub [1,1,1,1,1,2,1,0,0,1,1,2] bd_tries_builder_ordered)) (y := (sub [1,1,1,1,1,2,1,0,0,1,1,1] bd_tries_builder_ordered)) (by kernel_rfl) [0,3,6,35,36,37] [0,3,6,35,36,37] _ h0 (fun z => tries_builder_ordered_J4 x37 z.1 z.2 = some lr1) (fun z => ST_tries_builder_ordered_J4 b_ bo x37 z.1 z.2) ?_ fun J4 hJ4 => ?_
    ·rintro ⟨b_nodes1, out2⟩ hf1
     unfold tries_builder_ordered_J4 at hf1
     obtain rfl := someE hf1
     exact awpBack X0 TTab_ok hC hm [0,3,6,35,36,37] 4000 [] J3 [(0, .own (.box (.agg [I b_.inputs_, eOs 2 false (eOp 2 F14_) b_nodes1]))), (3, .own (.box (eOs 1 true (eI .i64) bo.1))), (6, .own (eOs 2 false F14_ out2)), (35, .d (eSl 1 false (eI .i64) bo.2)), (36, .d (I ((bo.2.length : Nat) : Int))), (37, .d (I (w64 (x37 + 1))))] [] (by kernel_rfl) fun st0 h0 => hJ3 st0 _ ((b_nodes1, out2, w64 (x37 + 1)), m3) hl1 (Nat.lt_succ_self m3) h0 inferInstance
    ·obtain ⟨u_, h3, hf1⟩ := bindE hf1
     obtain ⟨there, h4, hf1⟩ := bindE hf1
     obtain ⟨b_node_e, h5, hf1⟩ := bindE hf1
     have o11 := iL (eOp 2 F14_) h4
     have o12 := iMo 2 F14_ h4 h5
     have o13 := iMo 2 F14_ h4 h5
     have o14 := iMo 2 F14_ h4 h5
     have o15 := sMn 2 F14_ b_nodes u_
     refine awpAt X0 TTab_ok hC hm [0,3,6,9,35,36,37] 4000 [.a ((eI .i64) u_), .a (F14_ b_node_e), .a (F14_ b_node_e), .a (F14_ b_node_e), .l ((b_nodes.set u_.toNat none).map (eOp 2 F14_)), .cut 0] (sub [1,1,1,1,1,2,1,0,0,1,1,2,0,1,1] bd_tries_builder_ordered) (frs [1,1,1,1,1,2,1,0,0,1,1,2,0,1,1] [J2, J3, J4] bd_tries_builder_ordered []) [(0, .own (.box (.agg [I b_.inputs_, eOs 2 false (eOp 2 F14_) (b_nodes.set u_.toNat none)]))), (3, .own (.box (eOs 1 true (eI .i64) bo.1))), (6, .own (eOs 2 false F14_ out1)), (9, .own (.box (F14_ b_node_e))), (35, .d (eSl 1 false (eI .i64) bo.2)), (36, .d (I ((bo.2.length : Nat) : Int))), (37, .d (I x37))] [ob (i0 h3), ob (iM (eI .i64) h3), ob o11, ob o12, ob o13, ob o14, ob o15] (by kernel_rfl) fun st0 h0 => ?_
     refine awpJoin' (X := List Int) (x := (sub [1,1,1,1,1,2,1,0,0,1,1,2,0,1,1,2] bd_tries_builder_ordered)) (y := (sub [1,1,1,1,1,2,1,0,0,1,1,2,0,1,1,1] bd_tries_builder_ordered)) (by kernel_rfl) [0,3,6,9,35,36,37] [0,3,6,9,35,36,37] _ h0 (fun z => tries_builder_ordered_J5 b_nodes out1 x37 u_ b_node_e z = some lr1) (fun z => ST_tries_builder_ordered_J5 b_ bo b_nodes out1 x37 u_ b_node_e z) ?_ fun J5 hJ5 => ?_
     ·rintro n_Next hf1
      unfold tries_builder_ordered_J5 at hf1
      have o16 := oC F14_ (S_tries_Node.mk n_Next b_node_e.End) []
      obtain ⟨g2, hf1⟩ := gdE hf1
      have o17 := aL F14_ F14_ g2
      have o18 := aM F14_ out1 ([(S_tries_Node.mk n_Next b_node_e.End)] : List S_tries_Node)
      exact awpBack X0 TTab_ok hC hm [0,3,6,35,36,37] 4000 [bF, .l ((out1 ++ ([(S_tries_Node.mk n_Next b_node_e.End)] : List S_tries_Node)).map F14_)] J4 [(0, .own (.box (.agg [I b_.inputs_, eOs 2 false (eOp 2 F14_) (b_nodes.set u_.toNat none)]))), (3, .own (.box (eOs 1 true (eI .i64) bo.1))), (6, .own (eOs 2 false F14_ (out1 ++ ([(S_tries_Node.mk n_Next b_node_e.End)] : List S_tries_Node)))), (35, .d (eSl 1 false (eI .i64) bo.2)), (36, .d (I ((bo.2.length : Nat) : Int))), (37, .d (I x37))] [ob o16, ob o17, ob o18] (by kernel_rfl) fun st0 h0 => hJ4 st0 _ ((b_nodes.set u_.toNat none), (out1 ++ ([(S_tries_Node.mk n_Next b_node_e.End)] : List S_tries_Node))) hf1 h0 inferInstance
     ·obtain ⟨t6, ht6, hf1⟩ := bindE hf1
      refine awpAt X0 TTab_ok hC hm [0,3,6,9,35,36,37,49,50,51] 4000 [aLn b_node_e.Next.length] (sub [1,1,1,1,1,2,1,0,0,1,1,2,0,1,1,2,1,0] bd_tries_builder_ordered) (frs [1,1,1,1,1,2,1,0,0,1,1,2,0,1,1,2,1,0] [J2, J3, J4, J5] bd_tries_builder_ordered []) [(0, .own (.box (.agg [I b_.inputs_, eOs 2 false (eOp 2 F14_) (b_nodes.set u_.toNat none)]))), (3, .own (.box (eOs 1 true (eI .i64) bo.1))), (6, .own (eOs 2 false F14_ out1)), (9, .own (.box (.agg [eOs 1 false (eI .i64) b_node_e.Next, B b_node_e.End]))), (35, .d (eSl 1 false (eI .i64) bo.2)), (36, .d (I ((bo.2.length : Nat) : Int))), (37, .d (I x37)), (49, .als 9 [.deref, .fld 0] 0 0), (50, .d (I ((b_node_e.Next.length : Nat) : Int))), (51, .d (I 0))] [ob (lnM (eI .i64) b_node_e.Next)] (by kernel_rfl) fun st0 h0 => ?_
      refine awpLoop' (X := (List Int × Int) × Nat) (c' := (sub [1,1,1,1,1,2,1,0,0,1,1,2,0,1,1,2,1,0,0] bd_tries_builder_ordered)) (by kernel_rfl) [0,3,6,9,35,36,37,49,50,51] (fun x => loopN (fun s => tries_builder_ordered_L6 bo b_node_e s.1 s.2) x.2 x.1 = some t6) (fun x => x.2) (fun x => ST_tries_builder_ordered_L6 b_ bo b_nodes out1 x37 u_ b_node_e x.1.1 x.1.2) ((b_node_e.Next, 0), fuel) _ h0 inferInstance ht6 ?_
      rintro ⟨⟨n_Next1, x51⟩, n6⟩ hn6 J6 hJ6
      obtain ⟨m6, lr2, rfl, hf2, hl2⟩ := loopE hn6
      try unfold tries_builder_ordered_L6 at hf2
      rcases bifE hf2 with ⟨c1, hf2⟩ | ⟨c1, hf2⟩
      ·refine awpAt X0 TTab_ok hC hm [0,3,6,9,35,36,37,49,50,51] 4000 [bT, .cut 0] (sub [1,1,1,1,1,2,1,0,0,1,1,2,0,1,1,2,1,0,0,1,1] bd_tries_builder_ordered) (frs [1,1,1,1,1,2,1,0,0,1,1,2,0,1,1,2,1,0,0,1,1] [J2, J3, J4, J5, J6] bd_tries_builder_ordered []) [(0, .own (.box (.agg [I b_.inputs_, eOs 2 false (eOp 2 F14_) (b_nodes.set u_.toNat none)]))), (3, .own (.box (eOs 1 true (eI .i64) bo.1))), (6, .own (eOs 2 false F14_ out1)), (9, .own (.box (.agg [eOs 1 false (eI .i64) n_Next1, B b_node_e.End]))), (35, .d (eSl 1 false (eI .i64) bo.2)), (36, .d (I ((bo.2.length : Nat) : Int))), (37, .d (I x37)), (49, .als 9 [.deref, .fld 0] 0 0), (50, .d (I ((b_node_e.Next.length : Nat) : Int))), (51, .d (I x51))] [ob c1] (by kernel_rfl) fun st0 h0 => ?_
       refine awpJoin' (X := List Int) (x := (sub [1,1,1,1,1,2,1,0,0,1,1,2,0,1,1,2,1,0,0,1,1,2] bd_tries_builder_ordered)) (y := (sub [1,1,1,1,1,2,1,0,0,1,1,2,0,1,1,2,1,0,0,1,1,1] bd_tries_builder_ordered)) (by kernel_rfl) [0,3,6,9,35,36,37,49,50,51] [0,3,6,9,35,36,37,49,50,51] _ h0 (fun z => tries_builder_ordered_J7 x51 z = some lr2) (fun z => ST_tries_builder_ordered_J7 b_ bo b_nodes out1 x37 u_ b_node_e x51 z) ?_ fun J7 hJ7 => ?_
       ·rintro n_Next2 hf2
        unfold tries_builder_ordered_J7 at hf2
        obtain rfl := someE hf2
        exact awpBack X0 TTab_ok hC hm [0,3,6,9,35,36,37,49,50,51] 4000 [] J6 [(0, .own (.box (.agg [I b_.inputs_, eOs 2 false (eOp 2 F14_) (b_nodes.set u_.toNat none)]))), (3, .own (.box (eOs 1 true (eI .i64) bo.1))), (6, .own (eOs 2 false F14_ out1)), (9, .own (.box (.agg [eOs 1 false (eI .i64) n_Next2, B b_node_e.End]))), (35, .d (eSl 1 false (eI .i64) bo.2)), (36, .d (I ((bo.2.length : Nat) : Int))), (37, .d (I x37)), (49, .als 9 [.deref, .fld 0] 0 0), (50, .d (I ((b_node_e.Next.length : Nat) : Int))), (51, .d (I (w64 (x51 + 1))))] [] (by kernel_rfl) fun st0 h0 => hJ6 st0 _ ((n_Next2, w64 (x51 + 1)), m6) hl2 (Nat.lt_succ_self m6) h0 inferInstance
       ·obtain ⟨n_Next_e, h6, hf2⟩ := bindE hf2
        rcases bifE hf2 with ⟨c2, hf2⟩ | ⟨c2, hf2⟩
        ·obtain ⟨u_1, h7, hf2⟩ := bindE hf2
         obtain ⟨n_Next_e1, h8, hf2⟩ := bindE hf2
         exact awpBack ((xRf TTab_ok 65 9 0 49).or X0) TTab_ok hC hm [0,3,6,9,35,36,37,49,50,51] 4000 [.a ((eI .i64) n_Next_e), bT, .a ((eI .i64) u_1), .a ((eI .i64) n_Next_e1), .l ((n_Next1.set x51.toNat u_1).map (eI .i64))] J7 [(0, .own (.box (.agg [I b_.inputs_, eOs 2 false (eOp 2 F14_) (b_nodes.set u_.toNat none)]))), (3, .own (.box (eOs 1 true (eI .i64) bo.1))), (6, .own (eOs 2 false F14_ out1)), (9, .own (.box (.agg [eOs 1 false (eI .i64) (n_Next1.set x51.toNat u_1), B b_node_e.End]))), (35, .d (eSl 1 false (eI .i64) bo.2)), (36, .d (I ((bo.2.length : Nat) : Int))), (37, .d (I x37)), (49, .als 9 [.deref, .fld 0] 0 0), (50, .d (I ((b_node_e.Next.length : Nat) : Int))), (51, .d (I x51))] [ob (iL (eI .i64) h6), ob (iM (eI .i64) h6), ob c2, ob (iL (eI .i64) h7), ob (iM (eI .i64) h7), ob (iL (eI .i64) h8), ob (iM (eI .i64) h8), ob (sM (eI .i64) n_Next1 x51 u_1)] (by kernel_rfl) fun st0 h0 => hJ7 st0 _ (n_Next1.set x51.toNat u_1) hf2 h0 inferInstance
        ·exact awpBack X0 TTab_ok hC hm [0,3,6,9,35,36,37,49,50,51] 4000 [.a ((eI .i64) n_Next_e), bF] J7 [(0, .own (.box (.agg [I b_.inputs_, eOs 2 false (eOp 2 F14_) (b_nodes.set u_.toNat none)]))), (3, .own (.box (eOs 1 true (eI .i64) bo.1))), (6, .own (eOs 2 false F14_ out1)), (9, .own (.box (.agg [eOs 1 false (eI .i64) n_Next1, B b_node_e.End]))), (35, .d (eSl 1 false (eI .i64) bo.2)), (36, .d (I ((bo.2.length : Nat) : Int))), (37, .d (I x37)), (49, .als 9 [.deref, .fld 0] 0 0), (50, .d (I ((b_node_e.Next.length : Nat) : Int))), (51, .d (I x51))] [ob (iL (eI .i64) h6), ob (iM (eI .i64) h6), ob c2] (by kernel_rfl) fun st0 h0 => hJ7 st0 _ n_Next1 hf2 h0 inferInstance
      ·obtain rfl := someE hf2
       obtain rfl := hl2
       exact awpBack X0 TTab_ok hC hm [0,3,6,9,35,36,37] 4000 [bF] J5 [(0, .own (.box (.agg [I b_.inputs_, eOs 2 false (eOp 2 F14_) (b_nodes.set u_.toNat none)]))), (3, .own (.box (eOs 1 true (eI .i64) bo.1))), (6, .own (eOs 2 false F14_ out1)), (9, .own (.box (.agg [eOs 1 false (eI .i64) n_Next1, B b_node_e.End]))), (35, .d (eSl 1 false (eI .i64) bo.2)), (36, .d (I ((bo.2.length : Nat) : Int))), (37, .d (I x37))] [ob c1] (by kernel_rfl) fun st0 h0 => hJ5 st0 _ n_Next1 hf1 h0 inferInstance
   ·obtain rfl := someE hf1
    obtain rfl := hl1
    exact awpBack X0 TTab_ok hC hm [6] 4000 [bF] J2 [(6, .own (eOs 2 false F14_ out1))] [ob c0] (by kernel_rfl) fun st0 h0 => hJ2 st0 _ out1 hf0 h0 inferInstance
noncomputable def bd_tries_Of : Code := (Try.f29.body).getD .skip
noncomputable def sp_tries_Of : Spec := spF (α := List (List Int) × Int) (ρ := S_tries_Trie × Int) 29 (fun x => [F10_ x.1, (eI .i64) x.2]) (fun r => .tup [F23_ r.1, (eI .i64) r.2]) (fun x => tries_Of x.1 x.2) [] (by
 rintro ⟨a0, a1⟩ ⟨b0, b1⟩ h
 have e0 := EncI.inj (f := F10_) _ _ (List.cons.inj h).1
 replace h := (List.cons.inj h).2
 have e1 := EncI.inj (f := (eI .i64)) _ _ (List.cons.inj h).1
 subst e0 e1
 rfl)
theorem w_tries_Of {ctr : Ctr} (hC : CtrOk Try.prog ctr) (hm : Try.prog.follows .mixedOrders = true) (h_tries_Check : ctr.Has sp_tries_Check) (h_tries_of : ctr.Has sp_tries_of) (h_tries_builder_ordered : ctr.Has sp_tries_builder_ordered) : sp_tries_Of.Ok Try.prog := by
 refine spF_ok ?_
 rintro ⟨l_, inputs⟩ r0 hf0
 try unfold tries_Of at hf0
 refine callOk_h (tt := TTab) (keep := false) (rs := [(4, some 44), (5, none)]) (n := ⟨20, []⟩) (body := bd_tries_Of) TTab_ok Try.func29 rfl (by kernel_rfl) rfl rfl (by show (2 : Nat) ≤ 20; decide) fun E hE => ?_
 obtain ⟨r_, h0, hf0⟩ := bindE hf0
 have o0 := hasF h_tries_Check (x := (l_, inputs)) h0 (loC F10_ l_ <| loC (eI .i64) inputs <| loN)
 rcases bifE hf0 with ⟨c0, hf0⟩ | ⟨c0, hf0⟩
 ·have o1 := shM F13_ F13_ []
  obtain rfl := someE hf0
  exact awpEnd X0 TTab_ok hC hm hE 4000 (hs := [.g [], .a ((eI .i64) r_), bT, .l ([].map F13_)]) (x := (.tup [.agg [I 0, eSl 2 true F13_ []], I r_])) [ob (hasG h_tries_Check), ob o0, ob c0, ob o1] (by kernel_rfl) (LeV.refl _)
 ·obtain ⟨r_1, h1, hf0⟩ := bindE hf0
  have o2 := hasF h_tries_of (x := (l_, inputs)) h1 (loC F10_ l_ <| loC (eI .i64) inputs <| loN)
  obtain ⟨r_2, h2, hf0⟩ := bindE hf0
  have o3 := hasF h_tries_builder_ordered (x := r_1) h2 (loC F28_ r_1 <| loN)
  obtain rfl := someE hf0
  exact awpEnd X0 TTab_ok hC hm hE 4000 (hs := [.g [], .a ((eI .i64) r_), bF, .g [], .a (F28_ r_1), .g [true], .a (F18_ r_2)]) (x := (.tup [.agg [I inputs, eSl 2 true F13_ r_2], I 0])) [ob (hasG h_tries_Check), ob o0, ob c0, ob (hasG h_tries_of), ob o2, ob (hasG h_tries_builder_ordered), ob o3] (by kernel_rfl) (LeV.refl _)
noncomputable def bd_ref12_Prefixes : Code := (Try.f24.body).getD .skip
noncomputable def sp_ref12_Prefixes : Spec := spF (α := List (List Int)) (ρ := List (List Int)) 24 (fun x => [F10_ x]) (fun r => F9_ r) (fun x => ref12_Prefixes x) [] (by
 rintro a0 b0 h
 have e0 := EncI.inj (f := F10_) _ _ (List.cons.inj h).1
 subst e0
 rfl)
abbrev ST_ref12_Prefixes_J1 (out : List (List Int)) : List (Nat × T) := [(3, .own (eOs 1 false F4_ out))]
abbrev ST_ref12_Prefixes_J3 (l_ : List (List Int)) (i_ : Int) (out2 : List (List Int)) : List (Nat × T) := [(0, .d (eSl 1 false F4_ l_)), (3, .own (eOs 1 false F4_ out2)), (4, .d (I i_))]
abbrev ST_ref12_Prefixes_L4 (l_ : List (List Int)) (i_ : Int) (out3 : List (List Int)) (k_ : Int) : List (Nat × T) := [(0, .d (eSl 1 false F4_ l_)), (3, .own (eOs 1 false F4_ out3)), (4, .d (I i_)), (5, .d (I k_))]
abbrev ST_ref12_Prefixes_L2 (l_ : List (List Int)) (out1 : List (List Int)) (i_ : Int) : List (Nat × T) := [(0, .d (eSl 1 false F4_ l_)), (3, .own (eOs 1 false F4_ out1)), (4, .d (I i_))]
theorem w_ref12_Prefixes {ctr : Ctr} (hC : CtrOk Try.prog ctr) (hm : Try.prog.follows .mixedOrders = true) (h_ref12_put : ctr.Has sp_ref12_put) : sp_ref12_Prefixes.Ok Try.prog := by
 refine spF_ok ?_
 rintro l_ r0 hf0
 try unfold ref12_Prefixes at hf0
 refine callOk_h (tt := TTab) (keep := true) (rs := [(2, none)]) (n := ⟨30, []⟩) (body := bd_ref12_Prefixes) TTab_ok Try.func24 rfl (by kernel_rfl) rfl rfl (by show (1 : Nat) ≤ 30; decide) fun E hE => ?_
 refine awpAt X0 TTab_ok hC hm [0,3] 4000 [.cut 2] (sub [1,1] bd_ref12_Prefixes) (frs [1,1] [] bd_ref12_Prefixes []) [(0, .d (eSl 1 false F4_ l_)), (3, .own (eOs 1 true F4_ []))] [] (by kernel_rfl) fun st0 h0 => ?_
 refine awpJoin' (X := List (List Int)) (x := (sub [1,1,2] bd_ref12_Prefixes)) (y := (sub [1,1,1] bd_ref12_Prefixes)) (by kernel_rfl) [3] [0,3] _ h0 (fun z => ref12_Prefixes_J1 z = some r0) (fun z => ST_ref12_Prefixes_J1 z) ?_ fun J1 hJ1 => ?_
 ·rintro out hf0
  unfold ref12_Prefixes_J1 at hf0
  obtain rfl := someE hf0
  exact awpEnd X0 TTab_ok hC hm hE 4000 (hs := []) (x := (eOs 1 false F4_ out)) [] (by kernel_rfl) (LeV.refl _)
 ·obtain ⟨t2, ht2, hf0⟩ := bindE hf0
  refine awpAt X0 TTab_ok hC hm [0,3,4] 4000 [] (sub [1,1,2,1,0] bd_ref12_Prefixes) (frs [1,1,2,1,0] [J1] bd_ref12_Prefixes []) [(0, .d (eSl 1 false F4_ l_)), (3, .own (eOs 1 true F4_ [])), (4, .d (I 0))] [] (by kernel_rfl) fun st0 h0 => ?_
  refine awpLoop' (X := (List (List Int) × Int) × Nat) (c' := (sub [1,1,2,1,0,0] bd_ref12_Prefixes)) (by kernel_rfl) [0,3,4] (fun x => loopN (fun s => ref12_Prefixes_L2 l_ s.1 s.2) x.2 x.1 = some t2) (fun x => x.2) (fun x => ST_ref12_Prefixes_L2 l_ x.1.1 x.1.2) ((([] : List (List Int)), 0), fuel) _ h0 inferInstance ht2 ?_
  rintro ⟨⟨out1, i_⟩, n2⟩ hn2 J2 hJ2
  obtain ⟨m2, lr1, rfl, hf1, hl1⟩ := loopE hn2
  try unfold ref12_Prefixes_L2 at hf1
  rcases bifE hf1 with ⟨c0, hf1⟩ | ⟨c0, hf1⟩
  ·refine awpAt X0 TTab_ok hC hm [0,3,4] 4000 [aLn l_.length, bT, .cut 0] (sub [1,1,2,1,0,0,1] bd_ref12_Prefixes) (frs [1,1,2,1,0,0,1] [J1, J2] bd_ref12_Prefixes []) [(0, .d (eSl 1 false F4_ l_)), (3, .own (eOs 1 false F4_ out1)), (4, .d (I i_))] [ob (lnM F4_ l_), ob c0] (by kernel_rfl) fun st0 h0 => ?_
   refine awpJoin' (X := List (List Int)) (x := (sub [1,1,2,1,0,0,1,2] bd_ref12_Prefixes)) (y := (sub [1,1,2,1,0,0,1,1] bd_ref12_Prefixes)) (by kernel_rfl) [0,3,4] [0,3,4] _ h0 (fun z => ref12_Prefixes_J3 i_ z = some lr1) (fun z => ST_ref12_Prefixes_J3 l_ i_ z) ?_ fun J3 hJ3 => ?_
   ·rintro out2 hf1
    unfold ref12_Prefixes_J3 at hf1
    obtain rfl := someE hf1
    exact awpBack X0 TTab_ok hC hm [0,3,4] 4000 [] J2 [(0, .d (eSl 1 false F4_ l_)), (3, .own (eOs 1 false F4_ out2)), (4, .d (I (w64 (i_ + 1))))] [] (by kernel_rfl) fun st0 h0 => hJ2 st0 _ ((out2, w64 (i_ + 1)), m2) hl1 (Nat.lt_succ_self m2) h0 inferInstance
   ·obtain ⟨t4, ht4, hf1⟩ := bindE hf1
    refine awpAt X0 TTab_ok hC hm [0,3,4,5] 4000 [] (sub [1,1,2,1,0,0,1,2,0,1,0] bd_ref12_Prefixes) (frs [1,1,2,1,0,0,1,2,0,1,0] [J1, J2, J3] bd_ref12_Prefixes []) [(0, .d (eSl 1 false F4_ l_)), (3, .own (eOs 1 false F4_ out1)), (4, .d (I i_)), (5, .d (I 0))] [] (by kernel_rfl) fun st0 h0 => ?_
    refine awpLoop' (X := (List (List Int) × Int) × Nat) (c' := (sub [1,1,2,1,0,0,1,2,0,1,0,0] bd_ref12_Prefixes)) (by kernel_rfl) [0,3,4,5] (fun x => loopN (fun s => ref12_Prefixes_L4 l_ i_ s.1 s.2) x.2 x.1 = some t4) (fun x => x.2) (fun x => ST_ref12_Prefixes_L4 l_ i_ x.1.1 x.1.2) ((out1,0), fuel) _ h0 inferInstance ht4 ?_
    rintro ⟨⟨out3, k_⟩, n4⟩ hn4 J4 hJ4
    obtain ⟨m4, lr2, rfl, hf2, hl2⟩ := loopE hn4
    try unfold ref12_Prefixes_L4 at hf2
    obtain ⟨l__e, h0, hf2⟩ := bindE hf2
    rcases bifE hf2 with ⟨c1, hf2⟩ | ⟨c1, hf2⟩
    ·obtain ⟨l__e1, h1, hf2⟩ := bindE hf2
     obtain ⟨g0, hf2⟩ := gdE hf2
     have o0 := slM 1 false (eI .i64) l__e1 0 k_.toNat
     obtain ⟨r_, h2, hf2⟩ := bindE hf2
     have o1 := hasF h_ref12_put (x := (out3, ((l__e1.drop 0).take (k_.toNat - 0)))) h2 (loC F9_ out3 <| loC F4_ ((l__e1.drop 0).take (k_.toNat - 0)) <| loN)
     obtain rfl := someE hf2
     exact awpBack X0 TTab_ok hC hm [0,3,4,5] 4000 [.a (F4_ l__e), aLn l__e.length, bT, .a (F4_ l__e1), .a (eSl 1 false (eI .i64) ((l__e1.drop 0).take (k_.toNat - 0))), .g [true, false], .a (F9_ r_)] J4 [(0, .d (eSl 1 false F4_ l_)), (3, .own (eOs 1 false F4_ r_)), (4, .d (I i_)), (5, .d (I (w64 (k_ + 1))))] [ob (i0 h0), ob (iM F4_ h0), ob (lnM (eI .i64) l__e), ob c1, ob (i0 h1), ob (iM F4_ h1), ob (slB g0), ob (sl010 (eI .i64) g0), ob o0, ob (hasG h_ref12_put), ob o1] (by kernel_rfl) fun st0 h0 => hJ4 st0 _ ((r_, w64 (k_ + 1)), m4) hl2 (Nat.lt_succ_self m4) h0 inferInstance
    ·obtain rfl := someE hf2
     obtain rfl := hl2
     exact awpBack X0 TTab_ok hC hm [0,3,4] 4000 [.a (F4_ l__e), aLn l__e.length, bF] J3 [(0, .d (eSl 1 false F4_ l_)), (3, .own (eOs 1 false F4_ out3)), (4, .d (I i_))] [ob (i0 h0), ob (iM F4_ h0), ob (lnM (eI .i64) l__e), ob c1] (by kernel_rfl) fun st0 h0 => hJ3 st0 _ out3 hf1 h0 inferInstance
  ·obtain rfl := someE hf1
   obtain rfl := hl1
   exact awpBack X0 TTab_ok hC hm [3] 4000 [aLn l_.length, bF] J1 [(3, .own (eOs 1 false F4_ out1))] [ob (lnM F4_ l_), ob c0] (by kernel_rfl) fun st0 h0 => hJ1 st0 _ out1 hf0 h0 inferInstance
noncomputable def bd_ref12_Has : Code := (Try.f42.body).getD .skip
noncomputable def sp_ref12_Has : Spec := spF (α := List (List Int) × List Int) (ρ := Bool) 42 (fun x => [F10_ x.1, F4_ x.2]) (fun r => eB r) (fun x => ref12_Has x.1 x.2) [] (by
 rintro ⟨a0, a1⟩ ⟨b0, b1⟩ h
 have e0 := EncI.inj (f := F10_) _ _ (List.cons.inj h).1
 replace h := (List.cons.inj h).2
 have e1 := EncI.inj (f := F4_) _ _ (List.cons.inj h).1
 subst e0 e1
 rfl)
abbrev ST_ref12_Has_J1 : List (Nat × T) := []
abbrev ST_ref12_Has_L2 (l_ : List (List Int)) (w_ : List Int) (i_ : Int) : List (Nat × T) := [(0, .d (eSl 1 false F4_ l_)), (1, .d (eSl 1 false (eI .i64) w_)), (5, .d (I i_))]
theorem w_ref12_Has {ctr : Ctr} (hC : CtrOk Try.prog ctr) (hm : Try.prog.follows .mixedOrders = true) (h_ref12_compare : ctr.Has sp_ref12_compare) : sp_ref12_Has.Ok Try.prog := by
 refine spF_ok ?_
 rintro ⟨l_, w_⟩ r0 hf0
 try unfold ref12_Has at hf0
 refine callOk_h (tt := TTab) (keep := true) (rs := [(4, none)]) (n := ⟨19, []⟩) (body := bd_ref12_Has) TTab_ok Try.func42 rfl (by kernel_rfl) rfl rfl (by show (2 : Nat) ≤ 19; decide) fun E hE => ?_
 refine awpAt X0 TTab_ok hC hm [0,1] 4000 [.cut 1] (sub [1] bd_ref12_Has) (frs [1] [] bd_ref12_Has []) [(0, .d (eSl 1 false F4_ l_)), (1, .d (eSl 1 false (eI .i64) w_))] [] (by kernel_rfl) fun st0 h0 => ?_
 refine awpJoin' (X := Unit) (x := (sub [1,2] bd_ref12_Has)) (y := (sub [1,1] bd_ref12_Has)) (by kernel_rfl) [] [0,1] _ h0 (fun z => ref12_Has_J1 = some r0) (fun z => ST_ref12_Has_J1) ?_ fun J1 hJ1 => ?_
 ·rintro ⟨⟩ hf0
  unfold ref12_Has_J1 at hf0
  obtain rfl := someE hf0
  exact awpEnd X0 TTab_ok hC hm hE 4000 (hs := []) (x := (B false)) [] (by kernel_rfl) (LeV.refl _)
 ·obtain ⟨t2, ht2, hf0⟩ := bindE hf0
  refine awpAt X0 TTab_ok hC hm [0,1,5] 4000 [] (sub [1,2,1,0] bd_ref12_Has) (frs [1,2,1,0] [J1] bd_ref12_Has []) [(0, .d (eSl 1 false F4_ l_)), (1, .d (eSl 1 false (eI .i64) w_)), (5, .d (I 0))] [] (by kernel_rfl) fun st0 h0 => ?_
  refine awpLoop' (X := Int × Nat) (c' := (sub [1,2,1,0,0] bd_ref12_Has)) (by kernel_rfl) [0,1,5] (fun x => loopN (fun s => ref12_Has_L2 l_ w_ s) x.2 x.1 = some t2) (fun x => x.2) (fun x => ST_ref12_Has_L2 l_ w_ x.1) (0, fuel) _ h0 inferInstance ht2 ?_
  rintro ⟨i_, n2⟩ hn2 J2 hJ2
  obtain ⟨m2, lr1, rfl, hf1, hl1⟩ := loopE hn2
  try unfold ref12_Has_L2 at hf1
  rcases bifE hf1 with ⟨c0, hf1⟩ | ⟨c0, hf1⟩
  ·obtain ⟨l__e, h0, hf1⟩ := bindE hf1
   obtain ⟨r_, h1, hf1⟩ := bindE hf1
   have o0 := hasF h_ref12_compare (x := (l__e, w_)) h1 (loC F4_ l__e <| loC F4_ w_ <| loN)
   rcases bifE hf1 with ⟨c1, hf1⟩ | ⟨c1, hf1⟩
   ·obtain rfl := someE hf1
    obtain rfl := hl1
    obtain rfl := someE hf0
    exact awpEnd X0 TTab_ok hC hm hE 4000 (hs := [aLn l_.length, bT, .a (F4_ l__e), .g [], .a ((eI .i64) r_), bT]) (x := (B true)) [ob (lnM F4_ l_), ob c0, ob (i0 h0), ob (iM F4_ h0), ob (hasG h_ref12_compare), ob o0, ob c1] (by kernel_rfl) (LeV.refl _)
   ·obtain rfl := someE hf1
    exact awpBack X0 TTab_ok hC hm [0,1,5] 4000 [aLn l_.length, bT, .a (F4_ l__e), .g [], .a ((eI .i64) r_), bF] J2 [(0, .d (eSl 1 false F4_ l_)), (1, .d (eSl 1 false (eI .i64) w_)), (5, .d (I (w64 (i_ + 1))))] [ob (lnM F4_ l_), ob c0, ob (i0 h0), ob (iM F4_ h0), ob (hasG h_ref12_compare), ob o0, ob c1] (by kernel_rfl) fun st0 h0 => hJ2 st0 _ (w64 (i_ + 1), m2) hl1 (Nat.lt_succ_self m2) h0 inferInstance
  ·obtain rfl := someE hf1
   obtain rfl := hl1
   exact awpBack X0 TTab_ok hC hm [] 4000 [aLn l_.length, bF] J1 [] [ob (lnM F4_ l_), ob c0] (by kernel_rfl) fun st0 h0 => hJ1 st0 _ () hf0 h0 inferInstance
noncomputable def bd_ref12_Trie : Code := (Try.f31.body).getD .skip
noncomputable def sp_ref12_Trie : Spec := spF (α := List (List Int) × Int) (ρ := S_tries_Trie) 31 (fun x => [F10_ x.1, (eI .i64) x.2]) (fun r => F24_ r) (fun x => ref12_Trie x.1 x.2) [] (by
 rintro ⟨a0, a1⟩ ⟨b0, b1⟩ h
 have e0 := EncI.inj (f := F10_) _ _ (List.cons.inj h).1
 replace h := (List.cons.inj h).2
 have e1 := EncI.inj (f := (eI .i64)) _ _ (List.cons.inj h).1
 subst e0 e1
 rfl)
abbrev ST_ref12_Trie_J1 (inputs : Int) (t_Nodes : List S_tries_Node) : List (Nat × T) := [(4, .own (.box (.agg [I 0, eOs 2 true F13_ []]))), (6, .own (.box (.agg [I inputs, eOs 2 false F14_ t_Nodes])))]
abbrev ST_ref12_Trie_J3 (l_ : List (List Int)) (inputs : Int) (r_ : List (List Int)) (i_ : Int) (t_Nodes2 : List S_tries_Node) : List (Nat × T) := [(0, .d (eSl 1 false F4_ l_)), (1, .d (I inputs)), (4, .own (.box (.agg [I 0, eOs 2 true F13_ []]))), (5, .own (eOs 1 false F4_ r_)), (6, .own (.box (.agg [I inputs, eOs 2 false F14_ t_Nodes2]))), (7, .d (I i_))]
abbrev ST_ref12_Trie_J4 (l_ : List (List Int)) (inputs : Int) (r_ : List (List Int)) (t_Nodes1 : List S_tries_Node) (i_ : Int) (r_1 : Bool) (n_Next : List Int) : List (Nat × T) := [(0, .d (eSl 1 false F4_ l_)), (1, .d (I inputs)), (4, .own (.box (.agg [I 0, eOs 2 true F13_ []]))), (5, .own (eOs 1 false F4_ r_)), (6, .own (.box (.agg [I inputs, eOs 2 false F14_ t_Nodes1]))), (7, .d (I i_)), (8, .own (.box (.agg [eOs 1 false (eI .i64) n_Next, B r_1])))]
abbrev ST_ref12_Trie_J6 (l_ : List (List Int)) (inputs : Int) (r_ : List (List Int)) (t_Nodes1 : List S_tries_Node) (i_ : Int) (r_1 : Bool) (s_ : Int) (n_Next2 : List Int) : List (Nat × T) := [(0, .d (eSl 1 false F4_ l_)), (1, .d (I inputs)), (4, .own (.box (.agg [I 0, eOs 2 true F13_ []]))), (5, .own (eOs 1 false F4_ r_)), (6, .own (.box (.agg [I inputs, eOs 2 false F14_ t_Nodes1]))), (7, .d (I i_)), (8, .own (.box (.agg [eOs 1 false (eI .i64) n_Next2, B r_1]))), (9, .d (I s_))]
abbrev ST_ref12_Trie_J7 (l_ : List (List Int)) (inputs : Int) (r_ : List (List Int)) (t_Nodes1 : List S_tries_Node) (i_ : Int) (r_1 : Bool) (n_Next1 : List Int) (s_ : Int) (next : Int) : List (Nat × T) := [(0, .d (eSl 1 false F4_ l_)), (1, .d (I inputs)), (4, .own (.box (.agg [I 0, eOs 2 true F13_ []]))), (5, .own (eOs 1 false F4_ r_)), (6, .own (.box (.agg [I inputs, eOs 2 false F14_ t_Nodes1]))), (7, .d (I i_)), (8, .own (.box (.agg [eOs 1 false (eI .i64) n_Next1, B r_1]))), (9, .d (I s_)), (10, .d (I next))]
abbrev ST_ref12_Trie_J9 (l_ : List (List Int)) (inputs : Int) (r_ : List (List Int)) (t_Nodes1 : List S_tries_Node) (i_ : Int) (r_1 : Bool) (n_Next1 : List Int) (s_ : Int) (k_ : Int) (next2 : Int) : List (Nat × T) := [(0, .d (eSl 1 false F4_ l_)), (1, .d (I inputs)), (4, .own (.box (.agg [I 0, eOs 2 true F13_ []]))), (5, .own (eOs 1 false F4_ r_)), (6, .own (.box (.agg [I inputs, eOs 2 false F14_ t_Nodes1]))), (7, .d (I i_)), (8, .own (.box (.agg [eOs 1 false (eI .i64) n_Next1, B r_1]))), (9, .d (I s_)), (10, .d (I next2)), (11, .d (I k_))]
abbrev ST_ref12_Trie_L8 (l_ : List (List Int)) (inputs : Int) (r_ : List (List Int)) (t_Nodes1 : List S_tries_Node) (i_ : Int) (r_1 : Bool) (n_Next1 : List Int) (s_ : Int) (next1 : Int) (k_ : Int) : List (Nat × T) := [(0, .d (eSl 1 false F4_ l_)), (1, .d (I inputs)), (4, .own (.box (.agg [I 0, eOs 2 true F13_ []]))), (5, .own (eOs 1 false F4_ r_)), (6, .own (.box (.agg [I inputs, eOs 2 false F14_ t_Nodes1]))), (7, .d (I i_)), (8, .own (.box (.agg [eOs 1 false (eI .i64) n_Next1, B r_1]))), (9, .d (I s_)), (10, .d (I next1)), (11, .d (I k_))]
abbrev ST_ref12_Trie_L5 (l_ : List (List Int)) (inputs : Int) (r_ : List (List Int)) (t_Nodes1 : List S_tries_Node) (i_ : Int) (r_1 : Bool) (n_Next1 : List Int) (s_ : Int) : List (Nat × T) := [(0, .d (eSl 1 false F4_ l_)), (1, .d (I inputs)), (4, .own (.box (.agg [I 0, eOs 2 true F13_ []]))), (5, .own (eOs 1 false F4_ r_)), (6, .own (.box (.agg [I inputs, eOs 2 false F14_ t_Nodes1]))), (7, .d (I i_)), (8, .own (.box (.agg [eOs 1 false (eI .i64) n_Next1, B r_1]))), (9, .d (I s_))]
abbrev ST_ref12_Trie_L2 (l_ : List (List Int)) (inputs : Int) (r_ : List (List Int)) (t_Nodes1 : List S_tries_Node) (i_ : Int) : List (Nat × T) := [(0, .d (eSl 1 false F4_ l_)), (1, .d (I inputs)), (4, .own (.box (.agg [I 0, eOs 2 true F13_ []]))), (5, .own (eOs 1 false F4_ r_)), (6, .own (.box (.agg [I inputs, eOs 2 false F14_ t_Nodes1]))), (7, .d (I i_))]
theorem w_ref12_Trie {ctr : Ctr} (hC : CtrOk Try.prog ctr) (hm : Try.prog.follows .mixedOrders = true) (h_ref12_Prefixes : ctr.Has sp_ref12_Prefixes) (h_ref12_Has : ctr.Has sp_ref12_Has) (h_ref12_compare : ctr.Has sp_ref12_compare) : sp_ref12_Trie.Ok Try.prog := by
 refine spF_ok ?_
 rintro ⟨l_, inputs⟩ r0 hf0
 try unfold ref12_Trie at hf0
 refine callOk_h (tt := TTab) (keep := false) (rs := [(4, some 44)]) (n := ⟨69, []⟩) (body := bd_ref12_Trie) TTab_ok Try.func31 rfl (by kernel_rfl) rfl rfl (by show (2 : Nat) ≤ 69; decide) fun E hE => ?_
 obtain ⟨r_, h0, hf0⟩ := bindE hf0
 have o0 := hasF h_ref12_Prefixes (x := l_) h0 (loC F10_ l_ <| loN)
 refine awpAt X0 TTab_ok hC hm [0,1,4,5,6] 4000 [.g [], .a (F9_ r_), .cut 1] (sub [1,1,1] bd_ref12_Trie) (frs [1,1,1] [] bd_ref12_Trie []) [(0, .d (eSl 1 false F4_ l_)), (1, .d (I inputs)), (4, .own (.box (.agg [I 0, eOs 2 true F13_ []]))), (5, .own (eOs 1 false F4_ r_)), (6, .own (.box (.agg [I inputs, eOs 2 true F13_ []])))] [ob (hasG h_ref12_Prefixes), ob o0] (by kernel_rfl) fun st0 h0 => ?_
 refine awpJoin' (X := List S_tries_Node) (x := (sub [1,1,1,2] bd_ref12_Trie)) (y := (sub [1,1,1,1] bd_ref12_Trie)) (by kernel_rfl) [4,6] [0,1,4,5,6] _ h0 (fun z => ref12_Trie_J1 inputs z = some r0) (fun z => ST_ref12_Trie_J1 inputs z) ?_ fun J1 hJ1 => ?_
 ·rintro t_Nodes hf0
  unfold ref12_Trie_J1 at hf0
  have o1 := shM F14_ F13_ t_Nodes
  obtain rfl := someE hf0
  exact awpEnd X0 TTab_ok hC hm hE 4000 (hs := [.l (t_Nodes.map F13_)]) (x := (.agg [I inputs, eSl 2 false F13_ t_Nodes])) [ob o1] (by kernel_rfl) (LeV.refl _)
 ·obtain ⟨t2, ht2, hf0⟩ := bindE hf0
  refine awpAt X0 TTab_ok hC hm [0,1,4,5,6,7] 4000 [] (sub [1,1,1,2,1,0] bd_ref12_Trie) (frs [1,1,1,2,1,0] [J1] bd_ref12_Trie []) [(0, .d (eSl 1 false F4_ l_)), (1, .d (I inputs)), (4, .own (.box (.agg [I 0, eOs 2 true F13_ []]))), (5, .own (eOs 1 false F4_ r_)), (6, .own (.box (.agg [I inputs, eOs 2 true F14_ []]))), (7, .d (I 0))] [] (by kernel_rfl) fun st0 h0 => ?_
  refine awpLoop' (X := (List S_tries_Node × Int) × Nat) (c' := (sub [1,1,1,2,1,0,0] bd_ref12_Trie)) (by kernel_rfl) [0,1,4,5,6,7] (fun x => loopN (fun s => ref12_Trie_L2 l_ inputs r_ s.1 s.2) x.2 x.1 = some t2) (fun x => x.2) (fun x => ST_ref12_Trie_L2 l_ inputs r_ x.1.1 x.1.2) ((([] : List S_tries_Node), 0), fuel) _ h0 inferInstance ht2 ?_
  rintro ⟨⟨t_Nodes1, i_⟩, n2⟩ hn2 J2 hJ2
  obtain ⟨m2, lr1, rfl, hf1, hl1⟩ := loopE hn2
  try unfold ref12_Trie_L2 at hf1
  rcases bifE hf1 with ⟨c0, hf1⟩ | ⟨c0, hf1⟩
  ·refine awpAt X0 TTab_ok hC hm [0,1,4,5,6,7] 4000 [aLn r_.length, bT, .cut 0] (sub [1,1,1,2,1,0,0,1] bd_ref12_Trie) (frs [1,1,1,2,1,0,0,1] [J1, J2] bd_ref12_Trie []) [(0, .d (eSl 1 false F4_ l_)), (1, .d (I inputs)), (4, .own (.box (.agg [I 0, eOs 2 true F13_ []]))), (5, .own (eOs 1 false F4_ r_)), (6, .own (.box (.agg [I inputs, eOs 2 false F14_ t_Nodes1]))), (7, .d (I i_))] [ob (lnM F4_ r_), ob c0] (by kernel_rfl) fun st0 h0 => ?_
   refine awpJoin' (X := List S_tries_Node) (x := (sub [1,1,1,2,1,0,0,1,2] bd_ref12_Trie)) (y := (sub [1,1,1,2,1,0,0,1,1] bd_ref12_Trie)) (by kernel_rfl) [0,1,4,5,6,7] [0,1,4,5,6,7] _ h0 (fun z => ref12_Trie_J3 i_ z = some lr1) (fun z => ST_ref12_Trie_J3 l_ inputs r_ i_ z) ?_ fun J3 hJ3 => ?_
   ·rintro t_Nodes2 hf1
    unfold ref12_Trie_J3 at hf1
    obtain rfl := someE hf1
    exact awpBack X0 TTab_ok hC hm [0,1,4,5,6,7] 4000 [] J2 [(0, .d (eSl 1 false F4_ l_)), (1, .d (I inputs)), (4, .own (.box (.agg [I 0, eOs 2 true F13_ []]))), (5, .own (eOs 1 false F4_ r_)), (6, .own (.box (.agg [I inputs, eOs 2 false F14_ t_Nodes2]))), (7, .d (I (w64 (i_ + 1))))] [] (by kernel_rfl) fun st0 h0 => hJ2 st0 _ ((t_Nodes2, w64 (i_ + 1)), m2) hl1 (Nat.lt_succ_self m2) h0 inferInstance
   ·obtain ⟨r__e, h1, hf1⟩ := bindE hf1
    obtain ⟨r_1, h2, hf1⟩ := bindE hf1
    have o2 := hasF h_ref12_Has (x := (l_, r__e)) h2 (loC F10_ l_ <| loC F4_ r__e <| loN)
    refine awpAt X0 TTab_ok hC hm [0,1,4,5,6,7,8] 4000 [.a (F4_ r__e), .g [], .a (eB r_1), .cut 0] (sub [1,1,1,2,1,0,0,1,2,0,1] bd_ref12_Trie) (frs [1,1,1,2,1,0,0,1,2,0,1] [J1, J2, J3] bd_ref12_Trie []) [(0, .d (eSl 1 false F4_ l_)), (1, .d (I inputs)), (4, .own (.box (.agg [I 0, eOs 2 true F13_ []]))), (5, .own (eOs 1 false F4_ r_)), (6, .own (.box (.agg [I inputs, eOs 2 false F14_ t_Nodes1]))), (7, .d (I i_)), (8, .own (.box (.agg [eOs 1 true (eI .i64) [], B r_1])))] [ob (iL F4_ h1), ob (iM F4_ h1), ob (hasG h_ref12_Has), ob o2] (by kernel_rfl) fun st0 h0 => ?_
    refine awpJoin' (X := List Int) (x := (sub [1,1,1,2,1,0,0,1,2,0,1,2] bd_ref12_Trie)) (y := (sub [1,1,1,2,1,0,0,1,2,0,1,1] bd_ref12_Trie)) (by kernel_rfl) [0,1,4,5,6,7,8] [0,1,4,5,6,7,8] _ h0 (fun z => ref12_Trie_J4 t_Nodes1 i_ r_1 z = some lr1) (fun z => ST_ref12_Trie_J4 l_ inputs r_ t_Nodes1 i_ r_1 z) ?_ fun J4 hJ4 => ?_
    ·rintro n_Next hf1
     unfold ref12_Trie_J4 at hf1
     have o3 := oC F14_ (S_tries_Node.mk n_Next r_1) []
     obtain ⟨g0, hf1⟩ := gdE hf1
     have o4 := aL F14_ F14_ g0
     have o5 := aM F14_ t_Nodes1 ([(S_tries_Node.mk n_Next r_1)] : List S_tries_Node)
     exact awpBack X0 TTab_ok hC hm [0,1,4,5,6,7] 4000 [bF, .l ((t_Nodes1 ++ ([(S_tries_Node.mk n_Next r_1)] : List S_tries_Node)).map F14_)] J3 [(0, .d (eSl 1 false F4_ l_)), (1, .d (I inputs)), (4, .own (.box (.agg [I 0, eOs 2 true F13_ []]))), (5, .own (eOs 1 false F4_ r_)), (6, .own (.box (.agg [I inputs, eOs 2 false F14_ (t_Nodes1 ++ ([(S_tries_Node.mk n_Next r_1)] : List S_tries_Node))]))), (7, .d (I i_))] [ob o3, ob o4, ob o5] (by kernel_rfl) fun st0 h0 => hJ3 st0 _ (t_Nodes1 ++ ([(S_tries_Node.mk n_Next r_1)] : List S_tries_Node)) hf1 h0 inferInstance
    ·obtain ⟨t5, ht5, hf1⟩ := bindE hf1
     refine awpAt X0 TTab_ok hC hm [0,1,4,5,6,7,8,9] 4000 [] (sub [1,1,1,2,1,0,0,1,2,0,1,2,1,0] bd_ref12_Trie) (frs [1,1,1,2,1,0,0,1,2,0,1,2,1,0] [J1, J2, J3, J4] bd_ref12_Trie []) [(0, .d (eSl 1 false F4_ l_)), (1, .d (I inputs)), (4, .own (.box (.agg [I 0, eOs 2 true F13_ []]))), (5, .own (eOs 1 false F4_ r_)), (6, .own (.box (.agg [I inputs, eOs 2 false F14_ t_Nodes1]))), (7, .d (I i_)), (8, .own (.box (.agg [eOs 1 true (eI .i64) [], B r_1]))), (9, .d (I 0))] [] (by kernel_rfl) fun st0 h0 => ?_
     refine awpLoop' (X := (List Int × Int) × Nat) (c' := (sub [1,1,1,2,1,0,0,1,2,0,1,2,1,0,0] bd_ref12_Trie)) (by kernel_rfl) [0,1,4,5,6,7,8,9] (fun x => loopN (fun s => ref12_Trie_L5 inputs r_ i_ s.1 s.2) x.2 x.1 = some t5) (fun x => x.2) (fun x => ST_ref12_Trie_L5 l_ inputs r_ t_Nodes1 i_ r_1 x.1.1 x.1.2) ((([] : List Int), 0), fuel) _ h0 inferInstance ht5 ?_
     rintro ⟨⟨n_Next1, s_⟩, n5⟩ hn5 J5 hJ5
     obtain ⟨m5, lr2, rfl, hf2, hl2⟩ := loopE hn5
     try unfold ref12_Trie_L5 at hf2
     rcases bifE hf2 with ⟨c1, hf2⟩ | ⟨c1, hf2⟩
     ·refine awpAt X0 TTab_ok hC hm [0,1,4,5,6,7,8,9] 4000 [bT, .cut 0] (sub [1,1,1,2,1,0,0,1,2,0,1,2,1,0,0,1] bd_ref12_Trie) (frs [1,1,1,2,1,0,0,1,2,0,1,2,1,0,0,1] [J1, J2, J3, J4, J5] bd_ref12_Trie []) [(0, .d (eSl 1 false F4_ l_)), (1, .d (I inputs)), (4, .own (.box (.agg [I 0, eOs 2 true F13_ []]))), (5, .own (eOs 1 false F4_ r_)), (6, .own (.box (.agg [I inputs, eOs 2 false F14_ t_Nodes1]))), (7, .d (I i_)), (8, .own (.box (.agg [eOs 1 false (eI .i64) n_Next1, B r_1]))), (9, .d (I s_))] [ob c1] (by kernel_rfl) fun st0 h0 => ?_
      refine awpJoin' (X := List Int) (x := (sub [1,1,1,2,1,0,0,1,2,0,1,2,1,0,0,1,2] bd_ref12_Trie)) (y := (sub [1,1,1,2,1,0,0,1,2,0,1,2,1,0,0,1,1] bd_ref12_Trie)) (by kernel_rfl) [0,1,4,5,6,7,8,9] [0,1,4,5,6,7,8,9] _ h0 (fun z => ref12_Trie_J6 s_ z = some lr2) (fun z => ST_ref12_Trie_J6 l_ inputs r_ t_Nodes1 i_ r_1 s_ z) ?_ fun J6 hJ6 => ?_
      ·rintro n_Next2 hf2
       unfold ref12_Trie_J6 at hf2
       obtain rfl := someE hf2
       exact awpBack X0 TTab_ok hC hm [0,1,4,5,6,7,8,9] 4000 [] J5 [(0, .d (eSl 1 false F4_ l_)), (1, .d (I inputs)), (4, .own (.box (.agg [I 0, eOs 2 true F13_ []]))), (5, .own (eOs 1 false F4_ r_)), (6, .own (.box (.agg [I inputs, eOs 2 false F14_ t_Nodes1]))), (7, .d (I i_)), (8, .own (.box (.agg [eOs 1 false (eI .i64) n_Next2, B r_1]))), (9, .d (I (w64 (s_ + 1))))] [] (by kernel_rfl) fun st0 h0 => hJ5 st0 _ ((n_Next2, w64 (s_ + 1)), m5) hl2 (Nat.lt_succ_self m5) h0 inferInstance
      ·refine awpAt X0 TTab_ok hC hm [0,1,4,5,6,7,8,9,10] 4000 [.cut 1] (sub [1,1,1,2,1,0,0,1,2,0,1,2,1,0,0,1,2,0,1] bd_ref12_Trie) (frs [1,1,1,2,1,0,0,1,2,0,1,2,1,0,0,1,2,0,1] [J1, J2, J3, J4, J5, J6] bd_ref12_Trie []) [(0, .d (eSl 1 false F4_ l_)), (1, .d (I inputs)), (4, .own (.box (.agg [I 0, eOs 2 true F13_ []]))), (5, .own (eOs 1 false F4_ r_)), (6, .own (.box (.agg [I inputs, eOs 2 false F14_ t_Nodes1]))), (7, .d (I i_)), (8, .own (.box (.agg [eOs 1 false (eI .i64) n_Next1, B r_1]))), (9, .d (I s_)), (10, .d (I (-1)))] [] (by kernel_rfl) fun st0 h0 => ?_
       refine awpJoin' (X := Int) (x := (sub [1,1,1,2,1,0,0,1,2,0,1,2,1,0,0,1,2,0,1,2] bd_ref12_Trie)) (y := (sub [1,1,1,2,1,0,0,1,2,0,1,2,1,0,0,1,2,0,1,1] bd_ref12_Trie)) (by kernel_rfl) [0,1,4,5,6,7,8,9,10] [0,1,4,5,6,7,8,9,10] _ h0 (fun z => ref12_Trie_J7 n_Next1 s_ z = some lr2) (fun z => ST_ref12_Trie_J7 l_ inputs r_ t_Nodes1 i_ r_1 n_Next1 s_ z) ?_ fun J7 hJ7 => ?_
       ·rintro next hf2
        unfold ref12_Trie_J7 at hf2
        obtain ⟨g1, hf2⟩ := gdE hf2
        have o6 := aM (eI .i64) n_Next1 ([next] : List Int)
        exact awpBack X0 TTab_ok hC hm [0,1,4,5,6,7,8,9] 4000 [bT, .l ((n_Next1 ++ ([next] : List Int)).map (eI .i64))] J6 [(0, .d (eSl 1 false F4_ l_)), (1, .d (I inputs)), (4, .own (.box (.agg [I 0, eOs 2 true F13_ []]))), (5, .own (eOs 1 false F4_ r_)), (6, .own (.box (.agg [I inputs, eOs 2 false F14_ t_Nodes1]))), (7, .d (I i_)), (8, .own (.box (.agg [eOs 1 false (eI .i64) (n_Next1 ++ ([next] : List Int)), B r_1]))), (9, .d (I s_))] [ob (dM (eI .i64) ([next] : List Int)), ob (dM (eI .i64) ([next] : List Int)), ob (aL (eI .i64) (eI .i64) g1), ob o6] (by kernel_rfl) fun st0 h0 => hJ6 st0 _ (n_Next1 ++ ([next] : List Int)) hf2 h0 inferInstance
       ·obtain ⟨t8, ht8, hf2⟩ := bindE hf2
        refine awpAt X0 TTab_ok hC hm [0,1,4,5,6,7,8,9,10,11] 4000 [] (sub [1,1,1,2,1,0,0,1,2,0,1,2,1,0,0,1,2,0,1,2,1,0] bd_ref12_Trie) (frs [1,1,1,2,1,0,0,1,2,0,1,2,1,0,0,1,2,0,1,2,1,0] [J1, J2, J3, J4, J5, J6, J7] bd_ref12_Trie []) [(0, .d (eSl 1 false F4_ l_)), (1, .d (I inputs)), (4, .own (.box (.agg [I 0, eOs 2 true F13_ []]))), (5, .own (eOs 1 false F4_ r_)), (6, .own (.box (.agg [I inputs, eOs 2 false F14_ t_Nodes1]))), (7, .d (I i_)), (8, .own (.box (.agg [eOs 1 false (eI .i64) n_Next1, B r_1]))), (9, .d (I s_)), (10, .d (I (-1))), (11, .d (I 0))] [] (by kernel_rfl) fun st0 h0 => ?_
        refine awpLoop' (X := (Int × Int) × Nat) (c' := (sub [1,1,1,2,1,0,0,1,2,0,1,2,1,0,0,1,2,0,1,2,1,0,0] bd_ref12_Trie)) (by kernel_rfl) [0,1,4,5,6,7,8,9,10,11] (fun x => loopN (fun s => ref12_Trie_L8 r_ i_ s_ s.1 s.2) x.2 x.1 = some t8) (fun x => x.2) (fun x => ST_ref12_Trie_L8 l_ inputs r_ t_Nodes1 i_ r_1 n_Next1 s_ x.1.1 x.1.2) (((-1), 0), fuel) _ h0 inferInstance ht8 ?_
        rintro ⟨⟨next1, k_⟩, n8⟩ hn8 J8 hJ8
        obtain ⟨m8, lr3, rfl, hf3, hl3⟩ := loopE hn8
        try unfold ref12_Trie_L8 at hf3
        rcases bifE hf3 with ⟨c2, hf3⟩ | ⟨c2, hf3⟩
        ·refine awpAt X0 TTab_ok hC hm [0,1,4,5,6,7,8,9,10,11] 4000 [aLn r_.length, bT, .cut 0] (sub [1,1,1,2,1,0,0,1,2,0,1,2,1,0,0,1,2,0,1,2,1,0,0,1] bd_ref12_Trie) (frs [1,1,1,2,1,0,0,1,2,0,1,2,1,0,0,1,2,0,1,2,1,0,0,1] [J1, J2, J3, J4, J5, J6, J7, J8] bd_ref12_Trie []) [(0, .d (eSl 1 false F4_ l_)), (1, .d (I inputs)), (4, .own (.box (.agg [I 0, eOs 2 true F13_ []]))), (5, .own (eOs 1 false F4_ r_)), (6, .own (.box (.agg [I inputs, eOs 2 false F14_ t_Nodes1]))), (7, .d (I i_)), (8, .own (.box (.agg [eOs 1 false (eI .i64) n_Next1, B r_1]))), (9, .d (I s_)), (10, .d (I next1)), (11, .d (I k_))] [ob (lnM F4_ r_), ob c2] (by kernel_rfl) fun st0 h0 => ?_
         refine awpJoin' (X := Int) (x := (sub [1,1,1,2,1,0,0,1,2,0,1,2,1,0,0,1,2,0,1,2,1,0,0,1,2] bd_ref12_Trie)) (y := (sub [1,1,1,2,1,0,0,1,2,0,1,2,1,0,0,1,2,0,1,2,1,0,0,1,1] bd_ref12_Trie)) (by kernel_rfl) [0,1,4,5,6,7,8,9,10,11] [0,1,4,5,6,7,8,9,10,11] _ h0 (fun z => ref12_Trie_J9 k_ z = some lr3) (fun z => ST_ref12_Trie_J9 l_ inputs r_ t_Nodes1 i_ r_1 n_Next1 s_ k_ z) ?_ fun J9 hJ9 => ?_
         ·rintro next2 hf3
          unfold ref12_Trie_J9 at hf3
          obtain rfl := someE hf3
          exact awpBack X0 TTab_ok hC hm [0,1,4,5,6,7,8,9,10,11] 4000 [] J8 [(0, .d (eSl 1 false F4_ l_)), (1, .d (I inputs)), (4, .own (.box (.agg [I 0, eOs 2 true F13_ []]))), (5, .own (eOs 1 false F4_ r_)), (6, .own (.box (.agg [I inputs, eOs 2 false F14_ t_Nodes1]))), (7, .d (I i_)), (8, .own (.box (.agg [eOs 1 false (eI .i64) n_Next1, B r_1]))), (9, .d (I s_)), (10, .d (I next2)), (11, .d (I (w64 (k_ + 1))))] [] (by kernel_rfl) fun st0 h0 => hJ8 st0 _ ((next2, w64 (k_ + 1)), m8) hl3 (Nat.lt_succ_self m8) h0 inferInstance
         ·obtain ⟨r__e1, h3, hf3⟩ := bindE hf3
          obtain ⟨r__e2, h4, hf3⟩ := bindE hf3
          obtain ⟨g2, hf3⟩ := gdE hf3
          obtain ⟨g3, hf3⟩ := gdE hf3
          have o7 := aM (eI .i64) r__e2 ([s_] : List Int)
          have o8 := shM (eI .i64) (eI .i64) (r__e2 ++ ([s_] : List Int))
          obtain ⟨r_2, h5, hf3⟩ := bindE hf3
          have o9 := hasF h_ref12_compare (x := (r__e1, (r__e2 ++ ([s_] : List Int)))) h5 (loC F4_ r__e1 <| loC F4_ (r__e2 ++ ([s_] : List Int)) <| loN)
          rcases bifE hf3 with ⟨c3, hf3⟩ | ⟨c3, hf3⟩
          ·exact awpBack X0 TTab_ok hC hm [0,1,4,5,6,7,8,9,10,11] 4000 [.a (F4_ r__e1), .a (F4_ r__e2), .l (r__e2.map (eI .i64)), bT, .l ((r__e2 ++ ([s_] : List Int)).map (eI .i64)), .g [], .l ((r__e2 ++ ([s_] : List Int)).map (eI .i64)), .a ((eI .i64) r_2), bT] J9 [(0, .d (eSl 1 false F4_ l_)), (1, .d (I inputs)), (4, .own (.box (.agg [I 0, eOs 2 true F13_ []]))), (5, .own (eOs 1 false F4_ r_)), (6, .own (.box (.agg [I inputs, eOs 2 false F14_ t_Nodes1]))), (7, .d (I i_)), (8, .own (.box (.agg [eOs 1 false (eI .i64) n_Next1, B r_1]))), (9, .d (I s_)), (10, .d (I k_)), (11, .d (I k_))] [ob (iL F4_ h3), ob (iM F4_ h3), ob (iL F4_ h4), ob (iM F4_ h4), ob (dM (eI .i64) r__e2), ob (aL (eI .i64) (eI .i64) g2), ob (aM0 (eI .i64) r__e2), ob (dM (eI .i64) ([s_] : List Int)), ob (dM (eI .i64) ([s_] : List Int)), ob (aL (eI .i64) (eI .i64) g3), ob o7, ob (hasG h_ref12_compare), ob o8, ob o9, ob c3] (by kernel_rfl) fun st0 h0 => hJ9 st0 _ k_ hf3 h0 inferInstance
          ·exact awpBack X0 TTab_ok hC hm [0,1,4,5,6,7,8,9,10,11] 4000 [.a (F4_ r__e1), .a (F4_ r__e2), .l (r__e2.map (eI .i64)), bT, .l ((r__e2 ++ ([s_] : List Int)).map (eI .i64)), .g [], .l ((r__e2 ++ ([s_] : List Int)).map (eI .i64)), .a ((eI .i64) r_2), bF] J9 [(0, .d (eSl 1 false F4_ l_)), (1, .d (I inputs)), (4, .own (.box (.agg [I 0, eOs 2 true F13_ []]))), (5, .own (eOs 1 false F4_ r_)), (6, .own (.box (.agg [I inputs, eOs 2 false F14_ t_Nodes1]))), (7, .d (I i_)), (8, .own (.box (.agg [eOs 1 false (eI .i64) n_Next1, B r_1]))), (9, .d (I s_)), (10, .d (I next1)), (11, .d (I k_))] [ob (iL F4_ h3), ob (iM F4_ h3), ob (iL F4_ h4), ob (iM F4_ h4), ob (dM (eI .i64) r__e2), ob (aL (eI .i64) (eI .i64) g2), ob (aM0 (eI .i64) r__e2), ob (dM (eI .i64) ([s_] : List Int)), ob (dM (eI .i64) ([s_] : List Int)), ob (aL (eI .i64) (eI .i64) g3), ob o7, ob (hasG h_ref12_compare), ob o8, ob o9, ob c3] (by kernel_rfl) fun st0 h0 => hJ9 st0 _ next1 hf3 h0 inferInstance
        ·obtain rfl := someE hf3
         obtain rfl := hl3
         exact awpBack X0 TTab_ok hC hm [0,1,4,5,6,7,8,9,10] 4000 [aLn r_.length, bF] J7 [(0, .d (eSl 1 false F4_ l_)), (1, .d (I inputs)), (4, .own (.box (.agg [I 0, eOs 2 true F13_ []]))), (5, .own (eOs 1 false F4_ r_)), (6, .own (.box (.agg [I inputs, eOs 2 false F14_ t_Nodes1]))), (7, .d (I i_)), (8, .own (.box (.agg [eOs 1 false (eI .i64) n_Next1, B r_1]))), (9, .d (I s_)), (10, .d (I next1))] [ob (lnM F4_ r_), ob c2] (by kernel_rfl) fun st0 h0 => hJ7 st0 _ next1 hf2 h0 inferInstance
     ·obtain rfl := someE hf2
      obtain rfl := hl2
      exact awpBack X0 TTab_ok hC hm [0,1,4,5,6,7,8] 4000 [bF] J4 [(0, .d (eSl 1 false F4_ l_)), (1, .d (I inputs)), (4, .own (.box (.agg [I 0, eOs 2 true F13_ []]))), (5, .own (eOs 1 false F4_ r_)), (6, .own (.box (.agg [I inputs, eOs 2 false F14_ t_Nodes1]))), (7, .d (I i_)), (8, .own (.box (.agg [eOs 1 false (eI .i64) n_Next1, B r_1])))] [ob c1] (by kernel_rfl) fun st0 h0 => hJ4 st0 _ n_Next1 hf1 h0 inferInstance
  ·obtain rfl := someE hf1
   obtain rfl := hl1
   exact awpBack X0 TTab_ok hC hm [4,6] 4000 [aLn r_.length, bF] J1 [(4, .own (.box (.agg [I 0, eOs 2 true F13_ []]))), (6, .own (.box (.agg [I inputs, eOs 2 false F14_ t_Nodes1])))] [ob (lnM F4_ r_), ob c0] (by kernel_rfl) fun st0 h0 => hJ1 st0 _ t_Nodes1 hf0 h0 inferInstance
noncomputable def bd_ref12_Equal : Code := (Try.f30.body).getD .skip
noncomputable def sp_ref12_Equal : Spec := spF (α := S_tries_Trie × S_tries_Trie) (ρ := Bool) 30 (fun x => [F24_ x.1, F24_ x.2]) (fun r => eB r) (fun x => ref12_Equal x.1 x.2) [] (by
 rintro ⟨a0, a1⟩ ⟨b0, b1⟩ h
 have e0 := EncI.inj (f := F24_) _ _ (List.cons.inj h).1
 replace h := (List.cons.inj h).2
 have e1 := EncI.inj (f := F24_) _ _ (List.cons.inj h).1
 subst e0 e1
 rfl)
abbrev ST_ref12_Equal_J1 : List (Nat × T) := []
abbrev ST_ref12_Equal_L2 (a_ : S_tries_Trie) (b_ : S_tries_Trie) (i_ : Int) : List (Nat × T) := [(2, .own (.box (F24_ a_))), (3, .own (.box (F24_ b_))), (5, .d (I i_))]
theorem w_ref12_Equal {ctr : Ctr} (hC : CtrOk Try.prog ctr) (hm : Try.prog.follows .mixedOrders = true) (h_ref12_compare : ctr.Has sp_ref12_compare) : sp_ref12_Equal.Ok Try.prog := by
 refine spF_ok ?_
 rintro ⟨a_, b_⟩ r0 hf0
 try unfold ref12_Equal at hf0
 refine callOk_h (tt := TTab) (keep := true) (rs := [(4, none)]) (n := ⟨56, []⟩) (body := bd_ref12_Equal) TTab_ok Try.func30 rfl (by kernel_rfl) rfl rfl (by show (2 : Nat) ≤ 56; decide) fun E hE => ?_
 rcases bifE hf0 with ⟨c0, hf0⟩ | ⟨c0, hf0⟩
 ·obtain rfl := someE hf0
  exact awpEnd X0 TTab_ok hC hm hE 4000 (hs := (rpN 9 bT [])) (x := (B false)) (rpN 8 (ob c0) [oT]) (by kernel_rfl) (LeV.refl _)
 ·have o0 := lnM F13_ a_.Nodes
  have o1 := lnM F13_ b_.Nodes
  rcases bifE hf0 with ⟨c1, hf0⟩ | ⟨c1, hf0⟩
  ·obtain rfl := someE hf0
   exact awpEnd X0 TTab_ok hC hm hE 4000 (hs := [bF, bF, bF, aLn a_.Nodes.length, bF, bF, bF, aLn b_.Nodes.length, bF, bF, bT]) (x := (B false)) [ob c0, ob c0, ob c0, ob o0, ob c0, ob c0, ob c0, ob o1, ob c0, ob c0, ob c1] (by kernel_rfl) (LeV.refl _)
  ·refine awpAt X0 TTab_ok hC hm [2,3] 4000 [bF, bF, bF, aLn a_.Nodes.length, bF, bF, bF, aLn b_.Nodes.length, bF, bF, bF, .cut 0] (sub [1,1] bd_ref12_Equal) (frs [1,1] [] bd_ref12_Equal []) [(2, .own (.box (F24_ a_))), (3, .own (.box (F24_ b_)))] [ob c0, ob c0, ob c0, ob o0, ob c0, ob c0, ob c0, ob o1, ob c0, ob c0, ob c1] (by kernel_rfl) fun st0 h0 => ?_
   refine awpJoin' (X := Unit) (x := (sub [1,1,2] bd_ref12_Equal)) (y := (sub [1,1,1] bd_ref12_Equal)) (by kernel_rfl) [] [2,3] _ h0 (fun z => ref12_Equal_J1 = some r0) (fun z => ST_ref12_Equal_J1) ?_ fun J1 hJ1 => ?_
   ·rintro ⟨⟩ hf0
    unfold ref12_Equal_J1 at hf0
    obtain rfl := someE hf0
    exact awpEnd X0 TTab_ok hC hm hE 4000 (hs := []) (x := (B true)) [] (by kernel_rfl) (LeV.refl _)
   ·obtain ⟨t2, ht2, hf0⟩ := bindE hf0
    refine awpAt X0 TTab_ok hC hm [2,3,5] 4000 [] (sub [1,1,2,1,0] bd_ref12_Equal) (frs [1,1,2,1,0] [J1] bd_ref12_Equal []) [(2, .own (.box (F24_ a_))), (3, .own (.box (F24_ b_))), (5, .d (I 0))] [] (by kernel_rfl) fun st0 h0 => ?_
    refine awpLoop' (X := Int × Nat) (c' := (sub [1,1,2,1,0,0] bd_ref12_Equal)) (by kernel_rfl) [2,3,5] (fun x => loopN (fun s => ref12_Equal_L2 a_ b_ s) x.2 x.1 = some t2) (fun x => x.2) (fun x => ST_ref12_Equal_L2 a_ b_ x.1) (0, fuel) _ h0 inferInstance ht2 ?_
    rintro ⟨i_, n2⟩ hn2 J2 hJ2
    obtain ⟨m2, lr1, rfl, hf1, hl1⟩ := loopE hn2
    try unfold ref12_Equal_L2 at hf1
    have o2 := lnM F13_ a_.Nodes
    rcases bifE hf1 with ⟨c2, hf1⟩ | ⟨c2, hf1⟩
    ·obtain ⟨Node_e, h0, hf1⟩ := bindE hf1
     have o3 := iM F13_ h0
     obtain ⟨Node_e1, h1, hf1⟩ := bindE hf1
     have o4 := iM F13_ h1
     rcases bifE hf1 with ⟨c3, hf1⟩ | ⟨c3, hf1⟩
     ·obtain rfl := someE hf1
      obtain rfl := hl1
      obtain rfl := someE hf0
      exact awpEnd X0 TTab_ok hC hm hE 4000 (hs := (aLn a_.Nodes.length :: bT :: .a (F13_ Node_e) :: .a (F13_ Node_e1) :: (rpN 16 bT []))) (x := (B false)) (ob o2 :: ob c2 :: ob (i0 h0) :: ob o3 :: ob (i0 h1) :: ob o4 :: (rpN 15 (ob c3) [oT])) (by kernel_rfl) (LeV.refl _)
     ·obtain ⟨Node_e2, h2, hf1⟩ := bindE hf1
      have o5 := iM F13_ h2
      obtain ⟨Node_e3, h3, hf1⟩ := bindE hf1
      have o6 := iM F13_ h3
      obtain ⟨r_, h4, hf1⟩ := bindE hf1
      have o7 := hasF h_ref12_compare (x := (Node_e2.Next, Node_e3.Next)) h4 (loC F4_ Node_e2.Next <| loC F4_ Node_e3.Next <| loN)
      rcases bifE hf1 with ⟨c4, hf1⟩ | ⟨c4, hf1⟩
      ·obtain rfl := someE hf1
       obtain rfl := hl1
       obtain rfl := someE hf0
       exact awpEnd X0 TTab_ok hC hm hE 4000 (hs := (aLn a_.Nodes.length :: bT :: .a (F13_ Node_e) :: .a (F13_ Node_e1) :: (rpN 4 bF (.a (F13_ Node_e2) :: (rpN 6 bF [.a (F13_ Node_e3), bF, bF, bF, .g [], .a ((eI .i64) r_), bF, bF, bT]))))) (x := (B false)) (ob o2 :: ob c2 :: ob (i0 h0) :: ob o3 :: ob (i0 h1) :: ob o4 :: (rpN 4 (ob c3) (ob (i0 h2) :: ob o5 :: (rpN 6 (ob c3) [ob (i0 h3), ob o6, ob c3, ob c3, ob c3, ob (hasG h_ref12_compare), ob o7, ob c3, ob c3, ob c4])))) (by kernel_rfl) (LeV.refl _)
      ·obtain rfl := someE hf1
       exact awpBack X0 TTab_ok hC hm [2,3,5] 4000 (aLn a_.Nodes.length :: bT :: .a (F13_ Node_e) :: .a (F13_ Node_e1) :: (rpN 4 bF (.a (F13_ Node_e2) :: (rpN 6 bF [.a (F13_ Node_e3), bF, bF, bF, .g [], .a ((eI .i64) r_), bF, bF, bF])))) J2 [(2, .own (.box (F24_ a_))), (3, .own (.box (F24_ b_))), (5, .d (I (w64 (i_ + 1))))] (ob o2 :: ob c2 :: ob (i0 h0) :: ob o3 :: ob (i0 h1) :: ob o4 :: (rpN 4 (ob c3) (ob (i0 h2) :: ob o5 :: (rpN 6 (ob c3) [ob (i0 h3), ob o6, ob c3, ob c3, ob c3, ob (hasG h_ref12_compare), ob o7, ob c3, ob c3, ob c4])))) (by kernel_rfl) fun st0 h0 => hJ2 st0 _ (w64 (i_ + 1), m2) hl1 (Nat.lt_succ_self m2) h0 inferInstance
    ·obtain rfl := someE hf1
     obtain rfl := hl1
     exact awpBack X0 TTab_ok hC hm [] 4000 [aLn a_.Nodes.length, bF] J1 [] [ob o2, ob c2] (by kernel_rfl) fun st0 h0 => hJ1 st0 _ () hf0 h0 inferInstance
noncomputable def bd_tries_tree : Code := (Try.f65.body).getD .skip
noncomputable def sp_tries_tree : Spec := spF (α := S_tries_Trie) (ρ := Bool) 65 (fun x => [F24_ x]) (fun r => eB r) (fun x => tries_tree x) [] (by
 rintro a0 b0 h
 have e0 := EncI.inj (f := F24_) _ _ (List.cons.inj h).1
 subst e0
 rfl)
abbrev ST_tries_tree_J1 : List (Nat × T) := []
abbrev ST_tries_tree_J3 (t_ : S_tries_Trie) (x15 : Int) (seen1 : List Bool) (x31 : List Int) (x32 : Int) (x35 : Bool) : List (Nat × T) := [(1, .own (.box (F24_ t_))), (3, .own (eOs 1 true eB seen1)), (13, .d (eSl 2 false F13_ t_.Nodes)), (14, .d (I ((t_.Nodes.length : Nat) : Int))), (15, .d (I x15)), (31, .d (eSl 1 false (eI .i64) x31)), (32, .d (I x32)), (34, .d (I t_.Inputs)), (35, .d (B x35))]
abbrev ST_tries_tree_J6 (t_ : S_tries_Trie) (x15 : Int) (Node_e : S_tries_Node) (x40 : Int) (seen3 : List Bool) : List (Nat × T) := [(1, .own (.box (F24_ t_))), (3, .own (eOs 1 true eB seen3)), (4, .d (I x15)), (13, .d (eSl 2 false F13_ t_.Nodes)), (14, .d (I ((t_.Nodes.length : Nat) : Int))), (15, .d (I x15)), (31, .d (eSl 1 false (eI .i64) Node_e.Next)), (32, .d (I ((Node_e.Next.length : Nat) : Int))), (34, .d (I t_.Inputs)), (35, .d (B (((Node_e.Next.length : Nat) : Int) != t_.Inputs))), (38, .d (eSl 1 false (eI .i64) Node_e.Next)), (39, .d (I ((Node_e.Next.length : Nat) : Int))), (40, .d (I x40))]
abbrev ST_tries_tree_L5 (t_ : S_tries_Trie) (x15 : Int) (Node_e : S_tries_Node) (seen2 : List Bool) (x40 : Int) : List (Nat × T) := [(1, .own (.box (F24_ t_))), (3, .own (eOs 1 true eB seen2)), (4, .d (I x15)), (13, .d (eSl 2 false F13_ t_.Nodes)), (14, .d (I ((t_.Nodes.length : Nat) : Int))), (15, .d (I x15)), (31, .d (eSl 1 false (eI .i64) Node_e.Next)), (32, .d (I ((Node_e.Next.length : Nat) : Int))), (34, .d (I t_.Inputs)), (35, .d (B (((Node_e.Next.length : Nat) : Int) != t_.Inputs))), (38, .d (eSl 1 false (eI .i64) Node_e.Next)), (39, .d (I ((Node_e.Next.length : Nat) : Int))), (40, .d (I x40))]
abbrev ST_tries_tree_J4 (t_ : S_tries_Trie) (seen : List Bool) (x15 : Int) (Node_e : S_tries_Node) : List (Nat × T) := [(1, .own (.box (F24_ t_))), (3, .own (eOs 1 true eB seen)), (4, .d (I x15)), (5, .own (.box (F13_ Node_e))), (13, .d (eSl 2 false F13_ t_.Nodes)), (14, .d (I ((t_.Nodes.length : Nat) : Int))), (15, .d (I x15)), (31, .d (eSl 1 false (eI .i64) Node_e.Next)), (32, .d (I ((Node_e.Next.length : Nat) : Int))), (34, .d (I t_.Inputs)), (35, .d (B (((Node_e.Next.length : Nat) : Int) != t_.Inputs)))]
abbrev ST_tries_tree_L2 (t_ : S_tries_Trie) (seen : List Bool) (x15 : Int) : List (Nat × T) := [(1, .own (.box (F24_ t_))), (3, .own (eOs 1 true eB seen)), (13, .d (eSl 2 false F13_ t_.Nodes)), (14, .d (I ((t_.Nodes.length : Nat) : Int))), (15, .d (I x15))]
theorem w_tries_tree {ctr : Ctr} (hC : CtrOk Try.prog ctr) (hm : Try.prog.follows .mixedOrders = true) : sp_tries_tree.Ok Try.prog := by
 refine spF_ok ?_
 rintro t_ r0 hf0
 try unfold tries_tree at hf0
 refine callOk_h (tt := TTab) (keep := true) (rs := [(2, none)]) (n := ⟨67, []⟩) (body := bd_tries_tree) TTab_ok Try.func65 rfl (by kernel_rfl) rfl rfl (by show (1 : Nat) ≤ 67; decide) fun E hE => ?_
 have o0 := lnM F13_ t_.Nodes
 obtain ⟨g0, hf0⟩ := gdE hf0
 have o1 := rM 1 eB ((t_.Nodes.length : Nat) : Int) false
 refine awpAt X0 TTab_ok hC hm [1,3] 4000 [aLn t_.Nodes.length, .a (eOs 1 true eB (List.replicate ((t_.Nodes.length : Nat) : Int).toNat false)), .cut 0] (sub [1,1] bd_tries_tree) (frs [1,1] [] bd_tries_tree []) [(1, .own (.box (F24_ t_))), (3, .own (eOs 1 true eB (List.replicate ((t_.Nodes.length : Nat) : Int).toNat false)))] [ob o0, ob (rL g0), ob o1] (by kernel_rfl) fun st0 h0 => ?_
 refine awpJoin' (X := Unit) (x := (sub [1,1,2] bd_tries_tree)) (y := (sub [1,1,1] bd_tries_tree)) (by kernel_rfl) [] [1,3] _ h0 (fun z => tries_tree_J1 = some r0) (fun z => ST_tries_tree_J1) ?_ fun J1 hJ1 => ?_
 ·rintro ⟨⟩ hf0
  unfold tries_tree_J1 at hf0
  obtain rfl := someE hf0
  exact awpEnd X0 TTab_ok hC hm hE 4000 (hs := []) (x := (B true)) [] (by kernel_rfl) (LeV.refl _)
 ·have o2 := lnM F13_ t_.Nodes
  obtain ⟨t2, ht2, hf0⟩ := bindE hf0
  refine awpAt X0 TTab_ok hC hm [1,3,13,14,15] 4000 [aLn t_.Nodes.length] (sub [1,1,2,1,0] bd_tries_tree) (frs [1,1,2,1,0] [J1] bd_tries_tree []) [(1, .own (.box (F24_ t_))), (3, .own (eOs 1 true eB (List.replicate ((t_.Nodes.length : Nat) : Int).toNat false))), (13, .d (eSl 2 false F13_ t_.Nodes)), (14, .d (I ((t_.Nodes.length : Nat) : Int))), (15, .d (I 0))] [ob o2] (by kernel_rfl) fun st0 h0 => ?_
  refine awpLoop' (X := (List Bool × Int) × Nat) (c' := (sub [1,1,2,1,0,0] bd_tries_tree)) (by kernel_rfl) [1,3,13,14,15] (fun x => loopN (fun s => tries_tree_L2 t_ s.1 s.2) x.2 x.1 = some t2) (fun x => x.2) (fun x => ST_tries_tree_L2 t_ x.1.1 x.1.2) (((List.replicate ((t_.Nodes.length : Nat) : Int).toNat false), 0), fuel) _ h0 inferInstance ht2 ?_
  rintro ⟨⟨seen, x15⟩, n2⟩ hn2 J2 hJ2
  obtain ⟨m2, lr1, rfl, hf1, hl1⟩ := loopE hn2
  try unfold tries_tree_L2 at hf1
  rcases bifE hf1 with ⟨c0, hf1⟩ | ⟨c0, hf1⟩
  ·refine awpAt X0 TTab_ok hC hm [1,3,13,14,15] 4000 [bT, .cut 0] (sub [1,1,2,1,0,0,1,1] bd_tries_tree) (frs [1,1,2,1,0,0,1,1] [J1, J2] bd_tries_tree []) [(1, .own (.box (F24_ t_))), (3, .own (eOs 1 true eB seen)), (13, .d (eSl 2 false F13_ t_.Nodes)), (14, .d (I ((t_.Nodes.length : Nat) : Int))), (15, .d (I x15))] [ob c0] (by kernel_rfl) fun st0 h0 => ?_
   refine awpJoin' (X := List Bool × List Int × Int × Bool) (x := (sub [1,1,2,1,0,0,1,1,2] bd_tries_tree)) (y := (sub [1,1,2,1,0,0,1,1,1] bd_tries_tree)) (by kernel_rfl) [1,3,13,14,15,31,32,34,35] [1,3,13,14,15] _ h0 (fun z => tries_tree_J3 x15 z.1 z.2.1 z.2.2.1 z.2.2.2 = some lr1) (fun z => ST_tries_tree_J3 t_ x15 z.1 z.2.1 z.2.2.1 z.2.2.2) ?_ fun J3 hJ3 => ?_
   ·rintro ⟨seen1, x31, x32, x35⟩ hf1
    unfold tries_tree_J3 at hf1
    obtain rfl := someE hf1
    exact awpBack X0 TTab_ok hC hm [1,3,13,14,15] 4000 [] J2 [(1, .own (.box (F24_ t_))), (3, .own (eOs 1 true eB seen1)), (13, .d (eSl 2 false F13_ t_.Nodes)), (14, .d (I ((t_.Nodes.length : Nat) : Int))), (15, .d (I (w64 (x15 + 1))))] [] (by kernel_rfl) fun st0 h0 => hJ2 st0 _ ((seen1, w64 (x15 + 1)), m2) hl1 (Nat.lt_succ_self m2) h0 inferInstance
   ·obtain ⟨Node_e, h0, hf1⟩ := bindE hf1
    have o3 := iM F13_ h0
    refine awpAt X0 TTab_ok hC hm [1,3,4,5,13,14,15] 4000 [.a (F13_ Node_e), .cut 0] (sub [1,1,2,1,0,0,1,1,2,0,1] bd_tries_tree) (frs [1,1,2,1,0,0,1,1,2,0,1] [J1, J2, J3] bd_tries_tree []) [(1, .own (.box (F24_ t_))), (3, .own (eOs 1 true eB seen)), (4, .d (I x15)), (5, .own (.box (F13_ Node_e))), (13, .d (eSl 2 false F13_ t_.Nodes)), (14, .d (I ((t_.Nodes.length : Nat) : Int))), (15, .d (I x15))] [ob (i0 h0), ob o3] (by kernel_rfl) fun st0 h0 => ?_
    refine awpJoin' (X := Unit) (x := (sub [1,1,2,1,0,0,1,1,2,0,1,2] bd_tries_tree)) (y := (sub [1,1,2,1,0,0,1,1,2,0,1,1] bd_tries_tree)) (by kernel_rfl) [1,3,4,5,13,14,15,31,32,34,35] [1,3,4,5,13,14,15] _ h0 (fun z => tries_tree_J4 t_ seen x15 Node_e = some lr1) (fun z => ST_tries_tree_J4 t_ seen x15 Node_e) ?_ fun J4 hJ4 => ?_
    ·rintro ⟨⟩ hf1
     unfold tries_tree_J4 at hf1
     obtain ⟨t5, ht5, hf1⟩ := bindE hf1
     refine awpAt X0 TTab_ok hC hm [1,3,4,13,14,15,31,32,34,35,38,39,40] 4000 [aLn Node_e.Next.length] (sub [1,1,2,1,0,0,1,1,2,0,1,1,1,0] bd_tries_tree) (frs [1,1,2,1,0,0,1,1,2,0,1,1,1,0] [J1, J2, J3] bd_tries_tree []) [(1, .own (.box (F24_ t_))), (3, .own (eOs 1 true eB seen)), (4, .d (I x15)), (13, .d (eSl 2 false F13_ t_.Nodes)), (14, .d (I ((t_.Nodes.length : Nat) : Int))), (15, .d (I x15)), (31, .d (eSl 1 false (eI .i64) Node_e.Next)), (32, .d (I ((Node_e.Next.length : Nat) : Int))), (34, .d (I t_.Inputs)), (35, .d (B (((Node_e.Next.length : Nat) : Int) != t_.Inputs))), (38, .d (eSl 1 false (eI .i64) Node_e.Next)), (39, .d (I ((Node_e.Next.length : Nat) : Int))), (40, .d (I 0))] [ob (lnM (eI .i64) Node_e.Next)] (by kernel_rfl) fun st0 h0 => ?_
     refine awpLoop' (X := (List Bool × Int) × Nat) (c' := (sub [1,1,2,1,0,0,1,1,2,0,1,1,1,0,0] bd_tries_tree)) (by kernel_rfl) [1,3,4,13,14,15,31,32,34,35,38,39,40] (fun x => loopN (fun s => tries_tree_L5 t_ x15 Node_e s.1 s.2) x.2 x.1 = some t5) (fun x => x.2) (fun x => ST_tries_tree_L5 t_ x15 Node_e x.1.1 x.1.2) ((seen, 0), fuel) _ h0 inferInstance ht5 ?_
     rintro ⟨⟨seen2, x40⟩, n5⟩ hn5 J5 hJ5
     obtain ⟨m5, lr2, rfl, hf2, hl2⟩ := loopE hn5
     try unfold tries_tree_L5 at hf2
     rcases bifE hf2 with ⟨c1, hf2⟩ | ⟨c1, hf2⟩
     ·refine awpAt X0 TTab_ok hC hm [1,3,4,13,14,15,31,32,34,35,38,39,40] 4000 [bT, .cut 0] (sub [1,1,2,1,0,0,1,1,2,0,1,1,1,0,0,1,1] bd_tries_tree) (frs [1,1,2,1,0,0,1,1,2,0,1,1,1,0,0,1,1] [J1, J2, J3, J5] bd_tries_tree []) [(1, .own (.box (F24_ t_))), (3, .own (eOs 1 true eB seen2)), (4, .d (I x15)), (13, .d (eSl 2 false F13_ t_.Nodes)), (14, .d (I ((t_.Nodes.length : Nat) : Int))), (15, .d (I x15)), (31, .d (eSl 1 false (eI .i64) Node_e.Next)), (32, .d (I ((Node_e.Next.length : Nat) : Int))), (34, .d (I t_.Inputs)), (35, .d (B (((Node_e.Next.length : Nat) : Int) != t_.Inputs))), (38, .d (eSl 1 false (eI .i64) Node_e.Next)), (39, .d (I ((Node_e.Next.length : Nat) : Int))), (40, .d (I x40))] [ob c1] (by kernel_rfl) fun st0 h0 => ?_
      refine awpJoin' (X := List Bool) (x := (sub [1,1,2,1,0,0,1,1,2,0,1,1,1,0,0,1,1,2] bd_tries_tree)) (y := (sub [1,1,2,1,0,0,1,1,2,0,1,1,1,0,0,1,1,1] bd_tries_tree)) (by kernel_rfl) [1,3,4,13,14,15,31,32,34,35,38,39,40] [1,3,4,13,14,15,31,32,34,35,38,39,40] _ h0 (fun z => tries_tree_J6 x40 z = some lr2) (fun z => ST_tries_tree_J6 t_ x15 Node_e x40 z) ?_ fun J6 hJ6 => ?_
      ·rintro seen3 hf2
       unfold tries_tree_J6 at hf2
       obtain rfl := someE hf2
       exact awpBack X0 TTab_ok hC hm [1,3,4,13,14,15,31,32,34,35,38,39,40] 4000 [] J5 [(1, .own (.box (F24_ t_))), (3, .own (eOs 1 true eB seen3)), (4, .d (I x15)), (13, .d (eSl 2 false F13_ t_.Nodes)), (14, .d (I ((t_.Nodes.length : Nat) : Int))), (15, .d (I x15)), (31, .d (eSl 1 false (eI .i64) Node_e.Next)), (32, .d (I ((Node_e.Next.length : Nat) : Int))), (34, .d (I t_.Inputs)), (35, .d (B (((Node_e.Next.length : Nat) : Int) != t_.Inputs))), (38, .d (eSl 1 false (eI .i64) Node_e.Next)), (39, .d (I ((Node_e.Next.length : Nat) : Int))), (40, .d (I (w64 (x40 + 1))))] [] (by kernel_rfl) fun st0 h0 => hJ5 st0 _ ((seen3, w64 (x40 + 1)), m5) hl2 (Nat.lt_succ_self m5) h0 inferInstance
      ·obtain ⟨Next_e, h1, hf2⟩ := bindE hf2
       rcases bifE hf2 with ⟨c2, hf2⟩ | ⟨c2, hf2⟩
       ·exact awpBack X0 TTab_ok hC hm [1,3,4,13,14,15,31,32,34,35,38,39,40] 4000 [.a ((eI .i64) Next_e), bT] J6 [(1, .own (.box (F24_ t_))), (3, .own (eOs 1 true eB seen2)), (4, .d (I x15)), (13, .d (eSl 2 false F13_ t_.Nodes)), (14, .d (I ((t_.Nodes.length : Nat) : Int))), (15, .d (I x15)), (31, .d (eSl 1 false (eI .i64) Node_e.Next)), (32, .d (I ((Node_e.Next.length : Nat) : Int))), (34, .d (I t_.Inputs)), (35, .d (B (((Node_e.Next.length : Nat) : Int) != t_.Inputs))), (38, .d (eSl 1 false (eI .i64) Node_e.Next)), (39, .d (I ((Node_e.Next.length : Nat) : Int))), (40, .d (I x40))] [ob (i0 h1), ob (iM (eI .i64) h1), ob c2] (by kernel_rfl) fun st0 h0 => hJ6 st0 _ seen2 hf2 h0 inferInstance
       ·rcases bifE hf2 with ⟨c3, hf2⟩ | ⟨c3, hf2⟩
        ·obtain rfl := someE hf2
         obtain rfl := hl2
         obtain rfl := someE hf1
         obtain rfl := hl1
         obtain rfl := someE hf0
         exact awpEnd X0 TTab_ok hC hm hE 4000 (hs := (.a ((eI .i64) Next_e) :: bF :: (rpN 12 bT []))) (x := (B false)) (ob (i0 h1) :: ob (iM (eI .i64) h1) :: ob c2 :: (rpN 6 (ob c3) (rpN 6 oT []))) (by kernel_rfl) (LeV.refl _)
        ·have o4 := lnM F13_ t_.Nodes
         rcases bifE hf2 with ⟨c4, hf2⟩ | ⟨c4, hf2⟩
         ·obtain rfl := someE hf2
          obtain rfl := hl2
          obtain rfl := someE hf1
          obtain rfl := hl1
          obtain rfl := someE hf0
          exact awpEnd X0 TTab_ok hC hm hE 4000 (hs := (.a ((eI .i64) Next_e) :: (rpN 5 bF (aLn t_.Nodes.length :: bF :: bF :: (rpN 6 bT []))))) (x := (B false)) (ob (i0 h1) :: ob (iM (eI .i64) h1) :: ob c2 :: (rpN 4 (ob c3) (ob o4 :: ob c3 :: ob c3 :: (rpN 5 (ob c4) [oT])))) (by kernel_rfl) (LeV.refl _)
         ·obtain ⟨seen_e, h2, hf2⟩ := bindE hf2
          rcases bifE hf2 with ⟨c5, hf2⟩ | ⟨c5, hf2⟩
          ·obtain rfl := someE hf2
           obtain rfl := hl2
           obtain rfl := someE hf1
           obtain rfl := hl1
           obtain rfl := someE hf0
           exact awpEnd X0 TTab_ok hC hm hE 4000 (hs := (.a ((eI .i64) Next_e) :: (rpN 5 bF (aLn t_.Nodes.length :: (rpN 6 bF [.a (eB seen_e), bF, bT]))))) (x := (B false)) (ob (i0 h1) :: ob (iM (eI .i64) h1) :: ob c2 :: (rpN 4 (ob c3) [ob o4, ob c3, ob c3, ob c4, ob c4, ob c4, ob (iL eB h2), ob c4, ob (iM eB h2), ob c4, ob c5])) (by kernel_rfl) (LeV.refl _)
          ·obtain ⟨seen_e1, h3, hf2⟩ := bindE hf2
           exact awpBack X0 TTab_ok hC hm [1,3,4,13,14,15,31,32,34,35,38,39,40] 4000 (.a ((eI .i64) Next_e) :: (rpN 5 bF (aLn t_.Nodes.length :: (rpN 6 bF [.a (eB seen_e), bF, bF, .a (eB seen_e1), .a (eB seen_e1), .l ((seen2.set Next_e.toNat true).map eB)])))) J6 [(1, .own (.box (F24_ t_))), (3, .own (eOs 1 true eB (seen2.set Next_e.toNat true))), (4, .d (I x15)), (13, .d (eSl 2 false F13_ t_.Nodes)), (14, .d (I ((t_.Nodes.length : Nat) : Int))), (15, .d (I x15)), (31, .d (eSl 1 false (eI .i64) Node_e.Next)), (32, .d (I ((Node_e.Next.length : Nat) : Int))), (34, .d (I t_.Inputs)), (35, .d (B (((Node_e.Next.length : Nat) : Int) != t_.Inputs))), (38, .d (eSl 1 false (eI .i64) Node_e.Next)), (39, .d (I ((Node_e.Next.length : Nat) : Int))), (40, .d (I x40))] (ob (i0 h1) :: ob (iM (eI .i64) h1) :: ob c2 :: (rpN 4 (ob c3) [ob o4, ob c3, ob c3, ob c4, ob c4, ob c4, ob (iL eB h2), ob c4, ob (iM eB h2), ob c4, ob c5, ob (iL eB h3), ob (iM eB h3), ob (iM eB h3), ob (sM eB seen2 Next_e true)])) (by kernel_rfl) fun st0 h0 => hJ6 st0 _ (seen2.set Next_e.toNat true) hf2 h0 inferInstance
     ·obtain rfl := someE hf2
      obtain rfl := hl2
      exact awpBack X0 TTab_ok hC hm [1,3,13,14,15,31,32,34,35] 4000 [bF] J3 [(1, .own (.box (F24_ t_))), (3, .own (eOs 1 true eB seen2)), (13, .d (eSl 2 false F13_ t_.Nodes)), (14, .d (I ((t_.Nodes.length : Nat) : Int))), (15, .d (I x15)), (31, .d (eSl 1 false (eI .i64) Node_e.Next)), (32, .d (I ((Node_e.Next.length : Nat) : Int))), (34, .d (I t_.Inputs)), (35, .d (B (((Node_e.Next.length : Nat) : Int) != t_.Inputs)))] [ob c1] (by kernel_rfl) fun st0 h0 => hJ3 st0 _ (seen2, Node_e.Next, ((Node_e.Next.length : Nat) : Int), ((Node_e.Next.length : Nat) : Int) != t_.Inputs) hf1 h0 inferInstance
    ·rcases bifE hf1 with ⟨c6, hf1⟩ | ⟨c6, hf1⟩
     ·obtain ⟨seen_e2, h4, hf1⟩ := bindE hf1
      rcases bifE hf1 with ⟨c7, hf1⟩ | ⟨c7, hf1⟩
      ·obtain rfl := someE hf1
       obtain rfl := hl1
       obtain rfl := someE hf0
       exact awpEnd X0 TTab_ok hC hm hE 4000 (hs := (rpN 4 bT (.a (eB seen_e2) :: (rpN 10 bT [])))) (x := (B false)) (ob c6 :: ob c6 :: ob c6 :: ob (iL eB h4) :: ob c6 :: ob (iM eB h4) :: ob c6 :: ob c6 :: (rpN 7 (ob c7) [oT])) (by kernel_rfl) (LeV.refl _)
      ·rcases bifE hf1 with ⟨c8, hf1⟩ | ⟨c8, hf1⟩
       ·obtain rfl := someE hf1
        obtain rfl := hl1
        obtain rfl := someE hf0
        exact awpEnd X0 TTab_ok hC hm hE 4000 (hs := (rpN 4 bT (.a (eB seen_e2) :: bT :: bT :: bF :: bF :: bF :: aLn Node_e.Next.length :: (rpN 4 bF [bT])))) (x := (B false)) (ob c6 :: ob c6 :: ob c6 :: ob (iL eB h4) :: ob c6 :: ob (iM eB h4) :: ob c6 :: ob c6 :: ob c7 :: ob c7 :: ob c7 :: ob (lnM (eI .i64) Node_e.Next) :: (rpN 4 (ob c7) [ob c8])) (by kernel_rfl) (LeV.refl _)
       ·exact awpBack X0 TTab_ok hC hm [1,3,4,5,13,14,15,31,32,34,35] 4000 (rpN 4 bT (.a (eB seen_e2) :: bT :: bT :: bF :: bF :: bF :: aLn Node_e.Next.length :: (rpN 5 bF []))) J4 [(1, .own (.box (F24_ t_))), (3, .own (eOs 1 true eB seen)), (4, .d (I x15)), (5, .own (.box (F13_ Node_e))), (13, .d (eSl 2 false F13_ t_.Nodes)), (14, .d (I ((t_.Nodes.length : Nat) : Int))), (15, .d (I x15)), (31, .d (eSl 1 false (eI .i64) Node_e.Next)), (32, .d (I ((Node_e.Next.length : Nat) : Int))), (34, .d (I t_.Inputs)), (35, .d (B (((Node_e.Next.length : Nat) : Int) != t_.Inputs)))] (ob c6 :: ob c6 :: ob c6 :: ob (iL eB h4) :: ob c6 :: ob (iM eB h4) :: ob c6 :: ob c6 :: ob c7 :: ob c7 :: ob c7 :: ob (lnM (eI .i64) Node_e.Next) :: (rpN 4 (ob c7) [ob c8])) (by kernel_rfl) fun st0 h0 => hJ4 st0 _ () hf1 h0 inferInstance
     ·rcases bifE hf1 with ⟨c9, hf1⟩ | ⟨c9, hf1⟩
      ·obtain rfl := someE hf1
       obtain rfl := hl1
       obtain rfl := someE hf0
       exact awpEnd X0 TTab_ok hC hm hE 4000 (hs := (rpN 9 bF (aLn Node_e.Next.length :: (rpN 4 bF [bT])))) (x := (B false)) (rpN 6 (ob c6) (oF :: oF :: oF :: ob (lnM (eI .i64) Node_e.Next) :: (rpN 4 oF [ob c9]))) (by kernel_rfl) (LeV.refl _)
      ·exact awpBack X0 TTab_ok hC hm [1,3,4,5,13,14,15,31,32,34,35] 4000 (rpN 9 bF (aLn Node_e.Next.length :: (rpN 5 bF []))) J4 [(1, .own (.box (F24_ t_))), (3, .own (eOs 1 true eB seen)), (4, .d (I x15)), (5, .own (.box (F13_ Node_e))), (13, .d (eSl 2 false F13_ t_.Nodes)), (14, .d (I ((t_.Nodes.length : Nat) : Int))), (15, .d (I x15)), (31, .d (eSl 1 false (eI .i64) Node_e.Next)), (32, .d (I ((Node_e.Next.length : Nat) : Int))), (34, .d (I t_.Inputs)), (35, .d (B (((Node_e.Next.length : Nat) : Int) != t_.Inputs)))] (rpN 6 (ob c6) (oF :: oF :: oF :: ob (lnM (eI .i64) Node_e.Next) :: (rpN 4 oF [ob c9]))) (by kernel_rfl) fun st0 h0 => hJ4 st0 _ () hf1 h0 inferInstance
  ·obtain rfl := someE hf1
   obtain rfl := hl1
   exact awpBack X0 TTab_ok hC hm [] 4000 [bF] J1 [] [ob c0] (by kernel_rfl) fun st0 h0 => hJ1 st0 _ () hf0 h0 inferInstance
noncomputable def bd_tries_leaf_1 : Code := (Try.f83.body).getD .skip
noncomputable def sp_tries_leaf_1 : Spec := spF (α := Int) (ρ := Bool) 83 (fun x => [(eI .i64) x]) (fun r => eB r) (fun x => tries_leaf_1 x) [] (by
 rintro a0 b0 h
 have e0 := EncI.inj (f := (eI .i64)) _ _ (List.cons.inj h).1
 subst e0
 rfl)
theorem w_tries_leaf_1 {ctr : Ctr} (hC : CtrOk Try.prog ctr) (hm : Try.prog.follows .mixedOrders = true) : sp_tries_leaf_1.Ok Try.prog := by
 refine spF_ok ?_
 rintro k_ r0 hf0
 try unfold tries_leaf_1 at hf0
 refine callOk_h (tt := TTab) (keep := true) (rs := [(2, none)]) (n := ⟨5, []⟩) (body := bd_tries_leaf_1) TTab_ok Try.func83 rfl (by kernel_rfl) rfl rfl (by show (1 : Nat) ≤ 5; decide) fun E hE => ?_
 obtain rfl := someE hf0
 exact awpEnd X0 TTab_ok hC hm hE 4000 (hs := []) (x := (B (k_ != (-1)))) [] (by kernel_rfl) (LeV.refl _)
noncomputable def bd_slices_IndexFunc_int_int_v3 : Code := (Try.f95.body).getD .skip
noncomputable def sp_slices_IndexFunc_int_int_v3 : Spec := spF (α := List Int × Unit) (ρ := Int) 95 (fun x => [F4_ x.1, (eFn0 83) x.2]) (fun r => (eI .i64) r) (fun x => slices_IndexFunc_int_int_v3 x.1 x.2) [] (by
 rintro ⟨a0, a1⟩ ⟨b0, b1⟩ h
 have e0 := EncI.inj (f := F4_) _ _ (List.cons.inj h).1
 replace h := (List.cons.inj h).2
 have e1 := EncI.inj (f := (eFn0 83)) _ _ (List.cons.inj h).1
 subst e0 e1
 rfl)
abbrev ST_slices_IndexFunc_int_int_v3_J1 : List (Nat × T) := []
abbrev ST_slices_IndexFunc_int_int_v3_L2 (s_ : List Int) (x8 : Int) : List (Nat × T) := [(0, .d (eSl 1 false (eI .i64) s_)), (1, .d (.fn 83 [])), (7, .d (I ((s_.length : Nat) : Int))), (8, .d (I x8))]
theorem w_slices_IndexFunc_int_int_v3 {ctr : Ctr} (hC : CtrOk Try.prog ctr) (hm : Try.prog.follows .mixedOrders = true) (h_tries_leaf_1 : ctr.Has sp_tries_leaf_1) : sp_slices_IndexFunc_int_int_v3.Ok Try.prog := by
 refine spF_ok ?_
 rintro ⟨s_, f_⟩ r0 hf0
 try unfold slices_IndexFunc_int_int_v3 at hf0
 refine callOk_h (tt := TTab) (keep := true) (rs := [(4, none)]) (n := ⟨19, []⟩) (body := bd_slices_IndexFunc_int_int_v3) TTab_ok Try.func95 rfl (by kernel_rfl) rfl rfl (by show (2 : Nat) ≤ 19; decide) fun E hE => ?_
 refine awpAt X0 TTab_ok hC hm [0,1] 4000 [.cut 1] (sub [1] bd_slices_IndexFunc_int_int_v3) (frs [1] [] bd_slices_IndexFunc_int_int_v3 []) [(0, .d (eSl 1 false (eI .i64) s_)), (1, .d (.fn 83 []))] [] (by kernel_rfl) fun st0 h0 => ?_
 refine awpJoin' (X := Unit) (x := (sub [1,2] bd_slices_IndexFunc_int_int_v3)) (y := (sub [1,1] bd_slices_IndexFunc_int_int_v3)) (by kernel_rfl) [] [0,1] _ h0 (fun z => slices_IndexFunc_int_int_v3_J1 = some r0) (fun z => ST_slices_IndexFunc_int_int_v3_J1) ?_ fun J1 hJ1 => ?_
 ·rintro ⟨⟩ hf0
  unfold slices_IndexFunc_int_int_v3_J1 at hf0
  obtain rfl := someE hf0
  exact awpEnd X0 TTab_ok hC hm hE 4000 (hs := []) (x := (I (-1))) [] (by kernel_rfl) (LeV.refl _)
 ·obtain ⟨t2, ht2, hf0⟩ := bindE hf0
  refine awpAt X0 TTab_ok hC hm [0,1,7,8] 4000 [aLn s_.length] (sub [1,2,1,0] bd_slices_IndexFunc_int_int_v3) (frs [1,2,1,0] [J1] bd_slices_IndexFunc_int_int_v3 []) [(0, .d (eSl 1 false (eI .i64) s_)), (1, .d (.fn 83 [])), (7, .d (I ((s_.length : Nat) : Int))), (8, .d (I 0))] [ob (lnM (eI .i64) s_)] (by kernel_rfl) fun st0 h0 => ?_
  refine awpLoop' (X := Int × Nat) (c' := (sub [1,2,1,0,0] bd_slices_IndexFunc_int_int_v3)) (by kernel_rfl) [0,1,7,8] (fun x => loopN (fun s => slices_IndexFunc_int_int_v3_L2 s_ s) x.2 x.1 = some t2) (fun x => x.2) (fun x => ST_slices_IndexFunc_int_int_v3_L2 s_ x.1) (0, fuel) _ h0 inferInstance ht2 ?_
  rintro ⟨x8, n2⟩ hn2 J2 hJ2
  obtain ⟨m2, lr1, rfl, hf1, hl1⟩ := loopE hn2
  try unfold slices_IndexFunc_int_int_v3_L2 at hf1
  rcases bifE hf1 with ⟨c0, hf1⟩ | ⟨c0, hf1⟩
  ·obtain ⟨s__e, h0, hf1⟩ := bindE hf1
   obtain ⟨r_, h1, hf1⟩ := bindE hf1
   have o0 := hasF h_tries_leaf_1 (x := s__e) h1 (loC (eI .i64) s__e <| loN)
   rcases bifE hf1 with ⟨c1, hf1⟩ | ⟨c1, hf1⟩
   ·obtain rfl := someE hf1
    obtain rfl := hl1
    obtain rfl := someE hf0
    exact awpEnd X0 TTab_ok hC hm hE 4000 (hs := [bT, .a ((eI .i64) s__e), .g [], .a (eB r_), bT]) (x := (I x8)) [ob c0, ob (i0 h0), ob (iM (eI .i64) h0), ob (hasG h_tries_leaf_1), ob o0, ob c1] (by kernel_rfl) (LeV.refl _)
   ·obtain rfl := someE hf1
    exact awpBack X0 TTab_ok hC hm [0,1,7,8] 4000 [bT, .a ((eI .i64) s__e), .g [], .a (eB r_), bF] J2 [(0, .d (eSl 1 false (eI .i64) s_)), (1, .d (.fn 83 [])), (7, .d (I ((s_.length : Nat) : Int))), (8, .d (I (w64 (x8 + 1))))] [ob c0, ob (i0 h0), ob (iM (eI .i64) h0), ob (hasG h_tries_leaf_1), ob o0, ob c1] (by kernel_rfl) fun st0 h0 => hJ2 st0 _ (w64 (x8 + 1), m2) hl1 (Nat.lt_succ_self m2) h0 inferInstance
  ·obtain rfl := someE hf1
   obtain rfl := hl1
   exact awpBack X0 TTab_ok hC hm [] 4000 [bF] J1 [] [ob c0] (by kernel_rfl) fun st0 h0 => hJ1 st0 _ () hf0 h0 inferInstance
noncomputable def bd_slices_ContainsFunc_int_int_v2 : Code := (Try.f82.body).getD .skip
noncomputable def sp_slices_ContainsFunc_int_int_v2 : Spec := spF (α := List Int × Unit) (ρ := Bool) 82 (fun x => [F4_ x.1, (eFn0 83) x.2]) (fun r => eB r) (fun x => slices_ContainsFunc_int_int_v2 x.1 x.2) [] (by
 rintro ⟨a0, a1⟩ ⟨b0, b1⟩ h
 have e0 := EncI.inj (f := F4_) _ _ (List.cons.inj h).1
 replace h := (List.cons.inj h).2
 have e1 := EncI.inj (f := (eFn0 83)) _ _ (List.cons.inj h).1
 subst e0 e1
 rfl)
theorem w_slices_ContainsFunc_int_int_v2 {ctr : Ctr} (hC : CtrOk Try.prog ctr) (hm : Try.prog.follows .mixedOrders = true) (h_tries_leaf_1 : ctr.Has sp_tries_leaf_1) : sp_slices_ContainsFunc_int_int_v2.Ok Try.prog := by
 refine spF_ok ?_
 rintro ⟨s_, f_⟩ r0 hf0
 try unfold slices_ContainsFunc_int_int_v2 at hf0
 refine callOk_h (tt := TTab) (keep := true) (rs := [(4, none)]) (n := ⟨9, []⟩) (body := bd_slices_ContainsFunc_int_int_v2) TTab_ok Try.func82 rfl (by kernel_rfl) rfl rfl (by show (2 : Nat) ≤ 9; decide) fun E hE => ?_
 have o0 := hasG (Ctr.add_has ctr0 sp_slices_IndexFunc_int_int_v3)
 obtain ⟨r_, h0, hf0⟩ := bindE hf0
 have o1 := hasF (Ctr.add_has ctr0 sp_slices_IndexFunc_int_int_v3) (x := (s_, ())) h0 (loC F4_ s_ <| loC (eFn0 83) () <| loN)
 obtain rfl := someE hf0
 exact awpEnd ((xSpec TTab_ok (w_slices_IndexFunc_int_int_v3 hC hm h_tries_leaf_1) 7).or X0) TTab_ok hC hm hE 4000 (hs := [.g [], .a ((eI .i64) r_)]) (x := (B (decide (r_ ≥ 0)))) [ob o0, ob o1] (by kernel_rfl) (LeV.refl _)
noncomputable def bd_tries_leaf : Code := (Try.f58.body).getD .skip
noncomputable def sp_tries_leaf : Spec := spF (α := S_tries_Node) (ρ := Bool) 58 (fun x => [F13_ x]) (fun r => eB r) (fun x => tries_leaf x) [] (by
 rintro a0 b0 h
 have e0 := EncI.inj (f := F13_) _ _ (List.cons.inj h).1
 subst e0
 rfl)
theorem w_tries_leaf {ctr : Ctr} (hC : CtrOk Try.prog ctr) (hm : Try.prog.follows .mixedOrders = true) (h_tries_leaf_1 : ctr.Has sp_tries_leaf_1) : sp_tries_leaf.Ok Try.prog := by
 refine spF_ok ?_
 rintro n_ r0 hf0
 try unfold tries_leaf at hf0
 refine callOk_h (tt := TTab) (keep := true) (rs := [(2, none)]) (n := ⟨7, []⟩) (body := bd_tries_leaf) TTab_ok Try.func58 rfl (by kernel_rfl) rfl rfl (by show (1 : Nat) ≤ 7; decide) fun E hE => ?_
 have o0 := hasG (Ctr.add_has ctr0 sp_slices_ContainsFunc_int_int_v2)
 obtain ⟨r_, h0, hf0⟩ := bindE hf0
 have o1 := hasF (Ctr.add_has ctr0 sp_slices_ContainsFunc_int_int_v2) (x := (n_.Next, ())) h0 (loC F4_ n_.Next <| loC (eFn0 83) () <| loN)
 obtain rfl := someE hf0
 exact awpEnd ((xSpec TTab_ok (w_slices_ContainsFunc_int_int_v2 hC hm h_tries_leaf_1) 5).or X0) TTab_ok hC hm hE 4000 (hs := [.g [], .a (eB r_)]) (x := (B (!r_))) [ob o0, ob o1] (by kernel_rfl) (LeV.refl _)
noncomputable def bd_slices_Clone_int_int : Code := (Try.f68.body).getD .skip
noncomputable def sp_slices_Clone_int_int : Spec := spF (α := List Int) (ρ := List Int) 68 (fun x => [F4_ x]) (fun r => F3_ r) (fun x => slices_Clone_int_int x) [] (by
 rintro a0 b0 h
 have e0 := EncI.inj (f := F4_) _ _ (List.cons.inj h).1
 subst e0
 rfl)
theorem w_slices_Clone_int_int {ctr : Ctr} (hC : CtrOk Try.prog ctr) (hm : Try.prog.follows .mixedOrders = true) : sp_slices_Clone_int_int.Ok Try.prog := by
 refine spF_ok ?_
 rintro s_ r0 hf0
 try unfold slices_Clone_int_int at hf0
 refine callOk_h (tt := TTab) (keep := true) (rs := [(2, none)]) (n := ⟨8, []⟩) (body := bd_slices_Clone_int_int) TTab_ok Try.func68 rfl (by kernel_rfl) rfl rfl (by show (1 : Nat) ≤ 8; decide) fun E hE => ?_
 refine awpPinD rfl 0 (sz := 1) (t := false) (es := s_.map (eI .i64)) (by kernel_rfl) fun pv0 hv0 hn => ?_
 rcases hn with ⟨hn0, he0⟩ | hn0
 ·obtain ⟨_, hf0⟩ := gdE hf0
  rw [show s_ = [] from List.map_eq_nil_iff.1 he0] at hf0
  obtain rfl := someE hf0
  exact awpEnd ((xNil TTab_ok 4 52 (by kernel_rfl) hn0).or ((xMv Try.prog 3 0 pv0 hv0).or X0)) TTab_ok hC hm hE 4000 (hs := [bT]) (x := (eOs 1 true (eI .i64) [])) [ob ((rfl : some pv0 = some pv0)), ob ((⟨rfl, rfl⟩ : T.d (.atom pv0) = T.d (.atom pv0) ∧ T.d (.atom (.slice none 0 0)) = T.d (.atom (.slice none 0 0)))), oT] (by kernel_rfl) (show LeV (eOs 1 true (eI .i64) []) (eOs 1 false (eI .i64) ([] : List Int)) from inferInstance)
 ·obtain ⟨g0, hf0⟩ := gdE hf0
  obtain rfl := someE hf0
  exact awpEnd ((xNil TTab_ok 4 52 (by kernel_rfl) hn0).or ((xMv Try.prog 3 0 pv0 hv0).or X0)) TTab_ok hC hm hE 4000 (hs := [bF, .l (s_.map (eI .i64))]) (x := (eOs 1 false (eI .i64) s_)) [ob ((rfl : some pv0 = some pv0)), ob ((⟨rfl, rfl⟩ : T.d (.atom pv0) = T.d (.atom pv0) ∧ T.d (.atom (.slice none 0 0)) = T.d (.atom (.slice none 0 0)))), oF, ob (dM (eI .i64) s_), ob (aL (eI .i64) (eI .i64) g0), ob (aM0 (eI .i64) s_)] (by kernel_rfl) (LeV.refl _)
noncomputable def bd_slices_ClipW_int_int_v4 : Code := (Try.f69.body).getD .skip
noncomputable def sp_slices_ClipW_int_int_v4 : Spec := spR (α := List (List Int)) (ρ := List (List Int)) 69 (fun x => [F7_ x]) (fun r => F5_ r) (fun x => slices_ClipW_int_int_v4 x) [] (by
 rintro a0 b0 h
 have e0 := EncI.inj (f := F7_) _ _ (List.cons.inj h).1
 subst e0
 rfl)
theorem hs_slices_ClipW_int_int_v4 : ∀ x r, (fun x => slices_ClipW_int_int_v4 x) x = some r → (ctr0.add sp_slices_ClipW_int_int_v4).run 69 ((ctr0.add sp_slices_ClipW_int_int_v4).norm 69 ((fun x => [F7_ x]) x)) = some ((fun r => F5_ r) r) := fun x r h => hasR h rfl
theorem hg_slices_ClipW_int_int_v4 : (ctr0.add sp_slices_ClipW_int_int_v4).lend 69 = none ∧ (ctr0.add sp_slices_ClipW_int_int_v4).gives 69 = [] := hasRG
theorem w_slices_ClipW_int_int_v4 {ctr : Ctr} (hC : CtrOk Try.prog ctr) (hm : Try.prog.follows .mixedOrders = true) : sp_slices_ClipW_int_int_v4.Ok Try.prog := by
 refine spR_ok ?_
 rintro s_ r0 hf0
 try unfold slices_ClipW_int_int_v4 at hf0
 refine callOk_h (tt := TTab) (keep := true) (rs := [(2, none)]) (n := ⟨9, []⟩) (body := bd_slices_ClipW_int_int_v4) TTab_ok Try.func69 rfl (by kernel_rfl) rfl rfl (by show (1 : Nat) ≤ 9; decide) fun E hE => ?_
 obtain ⟨g0, hf0⟩ := gdE hf0
 have o0 := slT1 1 F1_ s_ 0 ((s_.length : Nat) : Int).toNat
 obtain rfl := someE hf0
 exact awpEnd X0 TTab_ok hC hm hE 4000 (hs := [aLn s_.length, aLn s_.length, .a (eSl 1 true F1_ ((s_.drop 0).take (((s_.length : Nat) : Int).toNat - 0)))]) (x := (eSl 1 true F1_ ((s_.drop 0).take (((s_.length : Nat) : Int).toNat - 0)))) [ob (lnM F1_ s_), ob (lnM F1_ s_), ob (slB g0), ob (slC g0), ob (sl011 F1_ g0), ob o0] (by kernel_rfl) (LeV.refl _)
noncomputable def bd_tries_Words : Code := (Try.f32.body).getD .skip
noncomputable def sp_tries_Words : Spec := spF (α := S_tries_Trie) (ρ := List (List Int) × Int) 32 (fun x => [F24_ x]) (fun r => .tup [F5_ r.1, (eI .i64) r.2]) (fun x => tries_Words x) [] (by
 rintro a0 b0 h
 have e0 := EncI.inj (f := F24_) _ _ (List.cons.inj h).1
 subst e0
 rfl)
abbrev ST_tries_Words_J1 (t_ : S_tries_Trie) (x3 : Int) (l_ : List (List Int)) : List (Nat × T) := [(1, .own (.box (F24_ t_))), (2, .own (.box (eOs 1 true F4_ []))), (3, .own (.box (I x3))), (4, .own (.box (eOs 1 false F1_ l_)))]
abbrev ST_tries_Words_I2 (t_ : S_tries_Trie) (r_3 : List S_tries_Node) (x31 : Int) (l_1 : List (List Int)) (at_ : Int) : List (Nat × T) := [(1, .own (.box (F24_ t_))), (2, .own (.box (eOs 1 true F4_ []))), (3, .own (.box (I x31))), (4, .own (.box (eOs 1 false F1_ l_1))), (5, .own (.box (I at_))), (29, .d (.fn 85 [.sptr (eSl 2 false F13_ r_3)]))]
abbrev ST_tries_Words_J4 (t_ : S_tries_Trie) (r_3 : List S_tries_Node) (x31 : Int) (at_ : Int) (x30 : S_tries_place) (Node_e : S_tries_Node) (x49 : Bool) (x50 : Bool) (x54 : Bool) (l_2 : List (List Int)) : List (Nat × T) := [(1, .own (.box (F24_ t_))), (2, .own (.box (eOs 1 true F4_ []))), (3, .own (.box (I x31))), (4, .own (.box (eOs 1 false F1_ l_2))), (5, .own (.box (I at_))), (29, .d (.fn 85 [.sptr (eSl 2 false F13_ r_3)])), (43, .d (eSl 1 false (eI .i64) x30.w_)), (44, .d (I ((x30.w_.length : Nat) : Int))), (45, .d (B (decide (((x30.w_.length : Nat) : Int) > 256)))), (48, .d (F13_ Node_e)), (49, .d (B x49)), (50, .d (B x50)), (54, .d (B x54))]
abbrev ST_tries_Words_J3 (t_ : S_tries_Trie) (r_3 : List S_tries_Node) (x31 : Int) (l_1 : List (List Int)) (at_ : Int) (x30 : S_tries_place) (Node_e : S_tries_Node) (x49 : Bool) (x50 : Bool) (x54 : Bool) : List (Nat × T) := [(1, .own (.box (F24_ t_))), (2, .own (.box (eOs 1 true F4_ []))), (3, .own (.box (I x31))), (4, .own (.box (eOs 1 false F1_ l_1))), (5, .own (.box (I at_))), (6, .own (.box (F16_ x30))), (7, .own (.box (F13_ Node_e))), (29, .d (.fn 85 [.sptr (eSl 2 false F13_ r_3)])), (43, .d (eSl 1 false (eI .i64) x30.w_)), (44, .d (I ((x30.w_.length : Nat) : Int))), (45, .d (B (decide (((x30.w_.length : Nat) : Int) > 256)))), (48, .d (F13_ Node_e)), (49, .d (B x49)), (50, .d (B x50)), (54, .d (B x54))]
theorem w_tries_Words {ctr : Ctr} (hC : CtrOk Try.prog ctr) (hm : Try.prog.follows .mixedOrders = true) (h_tries_tree : ctr.Has sp_tries_tree) (h_tries_walk : ctr.Has sp_tries_walk) (h_slices_Clip_int_int : ctr.Has sp_slices_Clip_int_int) (h_tries_leaf : ctr.Has sp_tries_leaf) (h_slices_Clone_int_int : ctr.Has sp_slices_Clone_int_int) (h_tries_Check : ctr.Has sp_tries_Check) : sp_tries_Words.Ok Try.prog := by
 refine spF_ok ?_
 rintro t_ r0 hf0
 try unfold tries_Words at hf0
 refine callOk_h (tt := TTab) (keep := false) (rs := [(2, some 22), (3, some 25)]) (n := ⟨74, []⟩) (body := bd_tries_Words) TTab_ok Try.func32 rfl (by kernel_rfl) rfl rfl (by show (1 : Nat) ≤ 74; decide) fun E hE => ?_
 rcases bifE hf0 with ⟨c0, hf0⟩ | ⟨c0, hf0⟩
 ·have o0 := shM F4_ F4_ []
  obtain rfl := someE hf0
  exact awpEnd X0 TTab_ok hC hm hE 4000 (hs := (rpN 14 bT [.l ([].map F4_)])) (x := (.tup [eSl 1 true F1_ [], I 4])) (rpN 4 (ob c0) (rpN 10 oT [ob o0])) (by kernel_rfl) (show LeV (.tup [eSl 1 true F1_ [], I 4]) (.tup [eSl 1 true F1_ ([] : List (List Int)), I 4]) from inferInstance)
 ·rcases bifE hf0 with ⟨c1, hf0⟩ | ⟨c1, hf0⟩
  ·have o1 := shM F4_ F4_ []
   obtain rfl := someE hf0
   exact awpEnd X0 TTab_ok hC hm hE 4000 (hs := (rpN 4 bF (rpN 10 bT [.l ([].map F4_)]))) (x := (.tup [eSl 1 true F1_ [], I 4])) (rpN 4 (ob c0) (rpN 5 (ob c1) (rpN 5 oT [ob o1]))) (by kernel_rfl) (show LeV (.tup [eSl 1 true F1_ [], I 4]) (.tup [eSl 1 true F1_ ([] : List (List Int)), I 4]) from inferInstance)
  ·have o2 := lnM F13_ t_.Nodes
   rcases bifE hf0 with ⟨c2, hf0⟩ | ⟨c2, hf0⟩
   ·have o3 := shM F4_ F4_ []
    obtain rfl := someE hf0
    exact awpEnd X0 TTab_ok hC hm hE 4000 (hs := (rpN 7 bF (aLn t_.Nodes.length :: bF :: bF :: (rpN 5 bT [.l ([].map F4_)])))) (x := (.tup [eSl 1 true F1_ [], I 4])) (rpN 4 (ob c0) (ob c1 :: ob c1 :: ob c1 :: ob o2 :: ob c1 :: ob c1 :: (rpN 4 (ob c2) [oT, ob o3]))) (by kernel_rfl) (show LeV (.tup [eSl 1 true F1_ [], I 4]) (.tup [eSl 1 true F1_ ([] : List (List Int)), I 4]) from inferInstance)
   ·obtain ⟨r_, h0, hf0⟩ := bindE hf0
    have o4 := hasF h_tries_tree (x := t_) h0 (loC F24_ t_ <| loN)
    rcases bifE hf0 with ⟨c3, hf0⟩ | ⟨c3, hf0⟩
    ·have o5 := shM F4_ F4_ []
     obtain rfl := someE hf0
     exact awpEnd X0 TTab_ok hC hm hE 4000 (hs := (rpN 7 bF (aLn t_.Nodes.length :: (rpN 4 bF [.g [], .a (eB r_), bF, bF, bT, .l ([].map F4_)])))) (x := (.tup [eSl 1 true F1_ [], I 4])) (rpN 4 (ob c0) [ob c1, ob c1, ob c1, ob o2, ob c1, ob c1, ob c2, ob c2, ob (hasG h_tries_tree), ob o4, ob c2, ob c2, ob c3, ob o5]) (by kernel_rfl) (show LeV (.tup [eSl 1 true F1_ [], I 4]) (.tup [eSl 1 true F1_ ([] : List (List Int)), I 4]) from inferInstance)
    ·refine awpAt X0 TTab_ok hC hm [1,2,3,4,5] 4000 (rpN 7 bF (aLn t_.Nodes.length :: (rpN 4 bF [.g [], .a (eB r_), bF, bF, bF, .cut 2]))) (sub [1,1,1,1] bd_tries_Words) (frs [1,1,1,1] [] bd_tries_Words []) [(1, .own (.box (F24_ t_))), (2, .own (.box (eOs 1 true F4_ []))), (3, .own (.box (I 0))), (4, .own (.box (eOs 1 true F4_ []))), (5, .own (.box (I 0)))] (rpN 4 (ob c0) [ob c1, ob c1, ob c1, ob o2, ob c1, ob c1, ob c2, ob c2, ob (hasG h_tries_tree), ob o4, ob c2, ob c2, ob c3]) (by kernel_rfl) fun st0 h0 => ?_
     refine awpJoin' (X := Int × List (List Int)) (x := (sub [1,1,1,1,2] bd_tries_Words)) (y := (sub [1,1,1,1,1] bd_tries_Words)) (by kernel_rfl) [1,2,3,4] [1,2,3,4,5] _ h0 (fun z => tries_Words_J1 t_ z.1 z.2 = some r0) (fun z => ST_tries_Words_J1 t_ z.1 z.2) ?_ fun J1 hJ1 => ?_
     ·rintro ⟨x3, l_⟩ hf0
      unfold tries_Words_J1 at hf0
      have o6 := shM F1_ F1_ l_
      obtain ⟨r_1, h1, hf0⟩ := bindE hf0
      have o7 := hasF h_tries_Check (x := (l_, t_.Inputs)) h1 (loC F7_ l_ <| loC (eI .i64) t_.Inputs <| loN)
      rcases bifE hf0 with ⟨c4, hf0⟩ | ⟨c4, hf0⟩
      ·have o8 := shM F4_ F4_ []
       obtain rfl := someE hf0
       exact awpEnd X0 TTab_ok hC hm hE 4000 (hs := [.g [], .l (l_.map F1_), .a ((eI .i64) r_1), bT, .l ([].map F4_)]) (x := (.tup [eSl 1 true F1_ [], I 4])) [ob (hasG h_tries_Check), ob o6, ob o7, ob c4, ob o8] (by kernel_rfl) (show LeV (.tup [eSl 1 true F1_ [], I 4]) (.tup [eSl 1 true F1_ ([] : List (List Int)), I 4]) from inferInstance)
      ·have o9 := shM F1_ F1_ l_
       have o10 := shM F1_ F1_ l_
       obtain ⟨r_2, h2, hf0⟩ := bindE hf0
       have o11 := shM F1_ F1_ l_
       obtain rfl := someE hf0
       exact awpEnd ((xSpec TTab_ok (w_slices_ClipW_int_int_v4 hC hm) 73).or X0) TTab_ok hC hm hE 4000 (hs := [.g [], .l (l_.map F1_), .a ((eI .i64) r_1), bF, .g [], .l (l_.map F1_), .a (F5_ r_2), .l (l_.map F1_)]) (x := (.tup [eSl 1 true F1_ r_2, I 0])) [ob (hasG h_tries_Check), ob o6, ob o7, ob c4, ob hg_slices_ClipW_int_int_v4, ob o10, ob (hs_slices_ClipW_int_int_v4 l_ _ h2), ob o11] (by kernel_rfl) (LeV.refl _)
     ·obtain ⟨r_3, h3, hf0⟩ := bindE hf0
      have o12 := hasF h_tries_walk (x := t_.Nodes) h3 (loC F19_ t_.Nodes <| loN)
      obtain ⟨t2, ht2, hf0⟩ := bindE hf0
      refine awpAt X0 TTab_ok hC hm [1,2,3,4,5,29] 4000 [.g [], .a ((eFn1 85 F22_) r_3)] (sub [1,1,1,1,2,1,0] bd_tries_Words) (frs [1,1,1,1,2,1,0] [J1] bd_tries_Words []) [(1, .own (.box (F24_ t_))), (2, .own (.box (eOs 1 true F4_ []))), (3, .own (.box (I 0))), (4, .own (.box (eOs 1 true F1_ []))), (5, .own (.box (I 0))), (29, .d (.fn 85 [.sptr (eSl 2 false F13_ r_3)]))] [ob (hasG h_tries_walk), ob o12] (by kernel_rfl) fun st0 h0 => ?_
      refine awpIter (g := .tmp 29) (ps := [30]) (assign := (sub [1,1,1,1,2,1,0,0] bd_tries_Words)) (body := (sub [1,1,1,1,2,1,0,1] bd_tries_Words)) (K := 85) (caps := [.sptr (eSl 2 false F13_ r_3)]) (by kernel_rfl) [1,2,3,4,5,29] (fun s => ST_tries_Words_I2 t_ r_3 s.1 s.2.1 s.2.2) (fun s => ST_tries_Words_I2 t_ r_3 s.1 s.2.1 s.2.2) (fun s => Code.ret) ((fun (x : S_tries_place) (_ : Bool) (_ : Value) => [F16_ x])) (F := @tries_walk_1 r_3) (fun s x => tries_Words_I2 t_ s.1 s.2.1 s.2.2 x) (0, ([] : List (List Int)), 0) t2 _ h0 inferInstance (by kernel_rfl) (by decide) (fun _ => rfl) (fun _ => rfl) (by kernel_rfl) (fun _ _ _ => rfl) (w_tries_walk_1 hC hm h_slices_Clip_int_int r_3) ht2 ?_ ?_
      ·rintro tv2 ⟨x31, l_1, at_⟩ x30 vr lr1 hf1
       replace hf1 : tries_Words_I2 t_ x31 l_1 at_ x30 = some lr1 := hf1
       unfold tries_Words_I2 at hf1
       refine awpFin X0 TTab_ok hC hm [1,2,3,4,5,6,29] 4000 [] .normal [(1, .own (.box (F24_ t_))), (2, .own (.box (eOs 1 true F4_ []))), (3, .own (.box (I x31))), (4, .own (.box (eOs 1 false F1_ l_1))), (5, .own (.box (I at_))), (6, .own (.box (F16_ x30))), (29, .d (.fn 85 [.sptr (eSl 2 false F13_ r_3)]))] [] (by kernel_rfl) fun st0 h0 => ⟨rfl, awpOf h0 ?_⟩
       obtain ⟨Node_e, h4, hf1⟩ := bindE hf1
       have o13 := iM F13_ h4
       refine awpAt X0 TTab_ok hC hm [1,2,3,4,5,6,7,29] 4000 [.a (F13_ Node_e), .cut 0] (sub [1,1,1,1,2,1,0,1,0,1] bd_tries_Words) (frs [1,1,1,1,2,1,0,1,0,1] [J1] bd_tries_Words []) [(1, .own (.box (F24_ t_))), (2, .own (.box (eOs 1 true F4_ []))), (3, .own (.box (I x31))), (4, .own (.box (eOs 1 false F1_ l_1))), (5, .own (.box (I at_))), (6, .own (.box (F16_ x30))), (7, .own (.box (F13_ Node_e))), (29, .d (.fn 85 [.sptr (eSl 2 false F13_ r_3)]))] [ob (i0 h4), ob o13] (by kernel_rfl) fun st0 h0 => ?_
       refine awpJoin' (X := Bool × Bool × Bool) (x := (sub [1,1,1,1,2,1,0,1,0,1,2] bd_tries_Words)) (y := (sub [1,1,1,1,2,1,0,1,0,1,1] bd_tries_Words)) (by kernel_rfl) [1,2,3,4,5,6,7,29,43,44,45,48,49,50,54] [1,2,3,4,5,6,7,29] _ h0 (fun z => tries_Words_J3 x31 l_1 at_ x30 Node_e z.1 z.2.1 z.2.2 = some lr1) (fun z => ST_tries_Words_J3 t_ r_3 x31 l_1 at_ x30 Node_e z.1 z.2.1 z.2.2) ?_ fun J3 hJ3 => ?_
       ·rintro ⟨x49, x50, x54⟩ hf1
        unfold tries_Words_J3 at hf1
        refine awpAt X0 TTab_ok hC hm [1,2,3,4,5,6,7,29,43,44,45,48,49,50,54] 4000 [.cut 0] (sub [1,1,1,1,2,1,0,1,0,1,1] bd_tries_Words) (frs [1,1,1,1,2,1,0,1,0,1,1] [J1] bd_tries_Words []) [(1, .own (.box (F24_ t_))), (2, .own (.box (eOs 1 true F4_ []))), (3, .own (.box (I x31))), (4, .own (.box (eOs 1 false F1_ l_1))), (5, .own (.box (I at_))), (6, .own (.box (F16_ x30))), (7, .own (.box (F13_ Node_e))), (29, .d (.fn 85 [.sptr (eSl 2 false F13_ r_3)])), (43, .d (eSl 1 false (eI .i64) x30.w_)), (44, .d (I ((x30.w_.length : Nat) : Int))), (45, .d (B (decide (((x30.w_.length : Nat) : Int) > 256)))), (48, .d (F13_ Node_e)), (49, .d (B x49)), (50, .d (B x50)), (54, .d (B x54))] [] (by kernel_rfl) fun st0 h0 => ?_
        refine awpJoin' (X := List (List Int)) (x := (sub [1,1,1,1,2,1,0,1,0,1,1,2] bd_tries_Words)) (y := (sub [1,1,1,1,2,1,0,1,0,1,1,1] bd_tries_Words)) (by kernel_rfl) [1,2,3,4,5,29,43,44,45,48,49,50,54] [1,2,3,4,5,6,7,29,43,44,45,48,49,50,54] _ h0 (fun z => tries_Words_J4 x31 at_ z = some lr1) (fun z => ST_tries_Words_J4 t_ r_3 x31 at_ x30 Node_e x49 x50 x54 z) ?_ fun J4 hJ4 => ?_
        ·rintro l_2 hf1
         unfold tries_Words_J4 at hf1
         obtain rfl := someE hf1
         exact awpFin X0 TTab_ok hC hm [1,2,3,4,5,29] 4000 [] .normal [(1, .own (.box (F24_ t_))), (2, .own (.box (eOs 1 true F4_ []))), (3, .own (.box (I x31))), (4, .own (.box (eOs 1 false F1_ l_2))), (5, .own (.box (I (w64 (at_ + 1))))), (29, .d (.fn 85 [.sptr (eSl 2 false F13_ r_3)]))] [] (by kernel_rfl) fun st0 h0 => ⟨rfl, _, h0, (inferInstance : LeL [(1, .own (.box (F24_ t_))), (2, .own (.box (eOs 1 true F4_ []))), (3, .own (.box (I x31))), (4, .own (.box (eOs 1 false F1_ l_2))), (5, .own (.box (I (w64 (at_ + 1))))), (29, .d (.fn 85 [.sptr (eSl 2 false F13_ r_3)]))] (ST_tries_Words_I2 t_ r_3 x31 l_2 (w64 (at_ + 1))))⟩
        ·rcases bifE hf1 with ⟨c5, hf1⟩ | ⟨c5, hf1⟩
         ·obtain ⟨r_4, h5, hf1⟩ := bindE hf1
          have o14 := hasF h_slices_Clone_int_int (x := x30.w_) h5 (loC F4_ x30.w_ <| loN)
          obtain ⟨r_5, h6, hf1⟩ := bindE hf1
          have o15 := hasF h_slices_Clip_int_int (x := r_4) h6 (loC F4_ r_4 <| loN)
          have o16 := dM F1_ ([r_5] : List (List Int))
          have o17 := dM F1_ ([r_5] : List (List Int))
          obtain ⟨g0, hf1⟩ := gdE hf1
          have o18 := aL F1_ F1_ g0
          have o19 := aM F1_ l_1 ([r_5] : List (List Int))
          exact awpBack X0 TTab_ok hC hm [1,2,3,4,5,29,43,44,45,48,49,50,54] 4000 [bT, .g [], .a (F3_ r_4), .g [], .l (r_4.map (eI .i64)), .a (F1_ r_5), .l (r_4.map (eI .i64)), bT, .l ((l_1 ++ ([r_5] : List (List Int))).map F1_)] J4 [(1, .own (.box (F24_ t_))), (2, .own (.box (eOs 1 true F4_ []))), (3, .own (.box (I x31))), (4, .own (.box (eOs 1 false F1_ (l_1 ++ ([r_5] : List (List Int)))))), (5, .own (.box (I at_))), (29, .d (.fn 85 [.sptr (eSl 2 false F13_ r_3)])), (43, .d (eSl 1 false (eI .i64) x30.w_)), (44, .d (I ((x30.w_.length : Nat) : Int))), (45, .d (B (decide (((x30.w_.length : Nat) : Int) > 256)))), (48, .d (F13_ Node_e)), (49, .d (B x49)), (50, .d (B x50)), (54, .d (B x54))] [ob c5, ob (hasG h_slices_Clone_int_int), ob o14, ob (hasG h_slices_Clip_int_int), ob (shM (eI .i64) (eI .i64) r_4), ob o15, ob (shM (eI .i64) (eI .i64) r_4), ob o16, ob o17, ob o18, ob o19] (by kernel_rfl) fun st0 h0 => hJ4 st0 _ (l_1 ++ ([r_5] : List (List Int))) hf1 h0 inferInstance
         ·exact awpBack X0 TTab_ok hC hm [1,2,3,4,5,29,43,44,45,48,49,50,54] 4000 [bF] J4 [(1, .own (.box (F24_ t_))), (2, .own (.box (eOs 1 true F4_ []))), (3, .own (.box (I x31))), (4, .own (.box (eOs 1 false F1_ l_1))), (5, .own (.box (I at_))), (29, .d (.fn 85 [.sptr (eSl 2 false F13_ r_3)])), (43, .d (eSl 1 false (eI .i64) x30.w_)), (44, .d (I ((x30.w_.length : Nat) : Int))), (45, .d (B (decide (((x30.w_.length : Nat) : Int) > 256)))), (48, .d (F13_ Node_e)), (49, .d (B x49)), (50, .d (B x50)), (54, .d (B x54))] [ob c5] (by kernel_rfl) fun st0 h0 => hJ4 st0 _ l_1 hf1 h0 inferInstance
       ·rcases bifE hf1 with ⟨c6, hf1⟩ | ⟨c6, hf1⟩
        ·obtain rfl := someE hf1
         exact awpFin X0 TTab_ok hC hm [1,2,3,4,5,29] 4000 (rpN 11 bT []) .ret [(1, .own (.box (F24_ t_))), (2, .own (.box (eOs 1 true F4_ []))), (3, .own (.box (I 4))), (4, .own (.box (eOs 1 false F1_ l_1))), (5, .own (.box (I at_))), (29, .d (.fn 85 [.sptr (eSl 2 false F13_ r_3)]))] (rpN 5 (ob c6) (rpN 6 oT [])) (by kernel_rfl) fun st0 h0 => ⟨rfl, _, h0, (inferInstance : LeL [(1, .own (.box (F24_ t_))), (2, .own (.box (eOs 1 true F4_ []))), (3, .own (.box (I 4))), (4, .own (.box (eOs 1 false F1_ l_1))), (5, .own (.box (I at_))), (29, .d (.fn 85 [.sptr (eSl 2 false F13_ r_3)]))] (ST_tries_Words_I2 t_ r_3 4 l_1 at_))⟩
        ·rcases bifE hf1 with ⟨c7, hf1⟩ | ⟨c7, hf1⟩
         ·obtain rfl := someE hf1
          exact awpFin X0 TTab_ok hC hm [1,2,3,4,5,29] 4000 (bF :: bF :: bF :: aLn x30.w_.length :: bF :: bF :: (rpN 6 bT [])) .ret [(1, .own (.box (F24_ t_))), (2, .own (.box (eOs 1 true F4_ []))), (3, .own (.box (I 4))), (4, .own (.box (eOs 1 false F1_ l_1))), (5, .own (.box (I at_))), (29, .d (.fn 85 [.sptr (eSl 2 false F13_ r_3)]))] (ob c6 :: ob c6 :: ob c6 :: ob (lnM (eI .i64) x30.w_) :: ob c6 :: ob c6 :: (rpN 5 (ob c7) [oT])) (by kernel_rfl) fun st0 h0 => ⟨rfl, _, h0, (inferInstance : LeL [(1, .own (.box (F24_ t_))), (2, .own (.box (eOs 1 true F4_ []))), (3, .own (.box (I 4))), (4, .own (.box (eOs 1 false F1_ l_1))), (5, .own (.box (I at_))), (29, .d (.fn 85 [.sptr (eSl 2 false F13_ r_3)]))] (ST_tries_Words_I2 t_ r_3 4 l_1 at_))⟩
         ·obtain ⟨r_6, h7, hf1⟩ := bindE hf1
          have o20 := hasF h_tries_leaf (x := Node_e) h7 (loC F13_ Node_e <| loN)
          rcases bifE hf1 with ⟨c8, hf1⟩ | ⟨c8, hf1⟩
          ·rcases bifE hf1 with ⟨c9, hf1⟩ | ⟨c9, hf1⟩
           ·obtain rfl := someE hf1
            exact awpFin X0 TTab_ok hC hm [1,2,3,4,5,29] 4000 (bF :: bF :: bF :: aLn x30.w_.length :: (rpN 4 bF [.g [], .a (eB r_6), bF, bT, bT, bT, bF, bT, bF, bT])) .ret [(1, .own (.box (F24_ t_))), (2, .own (.box (eOs 1 true F4_ []))), (3, .own (.box (I 4))), (4, .own (.box (eOs 1 false F1_ l_1))), (5, .own (.box (I at_))), (29, .d (.fn 85 [.sptr (eSl 2 false F13_ r_3)]))] [ob c6, ob c6, ob c6, ob (lnM (eI .i64) x30.w_), ob c6, ob c6, ob c7, ob c7, ob (hasG h_tries_leaf), ob o20, ob c7, ob c8, ob c8, ob c8, ob c7, ob c8, ob c7, ob c9] (by kernel_rfl) fun st0 h0 => ⟨rfl, _, h0, (inferInstance : LeL [(1, .own (.box (F24_ t_))), (2, .own (.box (eOs 1 true F4_ []))), (3, .own (.box (I 4))), (4, .own (.box (eOs 1 false F1_ l_1))), (5, .own (.box (I at_))), (29, .d (.fn 85 [.sptr (eSl 2 false F13_ r_3)]))] (ST_tries_Words_I2 t_ r_3 4 l_1 at_))⟩
           ·exact awpBack X0 TTab_ok hC hm [1,2,3,4,5,6,7,29,43,44,45,48,49,50,54] 4000 (bF :: bF :: bF :: aLn x30.w_.length :: (rpN 4 bF [.g [], .a (eB r_6), bF, bT, bT, bT, bF, bT, bF, bF])) J3 [(1, .own (.box (F24_ t_))), (2, .own (.box (eOs 1 true F4_ []))), (3, .own (.box (I x31))), (4, .own (.box (eOs 1 false F1_ l_1))), (5, .own (.box (I at_))), (6, .own (.box (F16_ x30))), (7, .own (.box (F13_ Node_e))), (29, .d (.fn 85 [.sptr (eSl 2 false F13_ r_3)])), (43, .d (eSl 1 false (eI .i64) x30.w_)), (44, .d (I ((x30.w_.length : Nat) : Int))), (45, .d (B (decide (((x30.w_.length : Nat) : Int) > 256)))), (48, .d (F13_ Node_e)), (49, .d (B r_6)), (50, .d (B r_6)), (54, .d (B (!Node_e.End)))] [ob c6, ob c6, ob c6, ob (lnM (eI .i64) x30.w_), ob c6, ob c6, ob c7, ob c7, ob (hasG h_tries_leaf), ob o20, ob c7, ob c8, ob c8, ob c8, ob c7, ob c8, ob c7, ob c9] (by kernel_rfl) fun st0 h0 => hJ3 st0 _ (r_6, r_6, !Node_e.End) hf1 h0 inferInstance
          ·exact awpBack X0 TTab_ok hC hm [1,2,3,4,5,6,7,29,43,44,45,48,49,50,54] 4000 (bF :: bF :: bF :: aLn x30.w_.length :: (rpN 4 bF (.g [] :: .a (eB r_6) :: (rpN 8 bF [])))) J3 [(1, .own (.box (F24_ t_))), (2, .own (.box (eOs 1 true F4_ []))), (3, .own (.box (I x31))), (4, .own (.box (eOs 1 false F1_ l_1))), (5, .own (.box (I at_))), (6, .own (.box (F16_ x30))), (7, .own (.box (F13_ Node_e))), (29, .d (.fn 85 [.sptr (eSl 2 false F13_ r_3)])), (43, .d (eSl 1 false (eI .i64) x30.w_)), (44, .d (I ((x30.w_.length : Nat) : Int))), (45, .d (B (decide (((x30.w_.length : Nat) : Int) > 256)))), (48, .d (F13_ Node_e)), (49, .d (B r_6)), (50, .d (B r_6)), (54, .d (B false))] [ob c6, ob c6, ob c6, ob (lnM (eI .i64) x30.w_), ob c6, ob c6, ob c7, ob c7, ob (hasG h_tries_leaf), ob o20, ob c7, ob c8, ob c8, ob c8, ob c7, ob c8, ob c7, oF] (by kernel_rfl) fun st0 h0 => hJ3 st0 _ (r_6, r_6, false) hf1 h0 inferInstance
      ·rcases t2 with ⟨x31, l_1, at_⟩ | z
       ·dsimp only at hf0
        exact awpGoBack (by kernel_rfl) (hJ1 _ [(1, .own (.box (F24_ t_))), (2, .own (.box (eOs 1 true F4_ []))), (3, .own (.box (I x31))), (4, .own (.box (eOs 1 false F1_ l_1)))] (x31, l_1) hf0 (show Own.canon [1,2,3,4] _ = ofL _ by kernel_rfl) inferInstance)
       ·obtain ⟨x31, l_1, at_⟩ := z
        dsimp only at hf0
        show AWP _ _ (Code.ret) _ _
        obtain rfl := someE hf0
        exact awpEnd X0 TTab_ok hC hm hE 4000 (hs := [.l ([].map F4_)]) (x := (.tup [eSl 1 true F1_ [], I x31])) [ob (shM F4_ F4_ [])] (by kernel_rfl) (show LeV (.tup [eSl 1 true F1_ [], I x31]) (.tup [eSl 1 true F1_ ([] : List (List Int)), I x31]) from inferInstance)
noncomputable def bd_tries_Count : Code := (Try.f33.body).getD .skip
noncomputable def sp_tries_Count : Spec := spF (α := S_tries_Trie) (ρ := Int × Int) 33 (fun x => [F24_ x]) (fun r => .tup [(eI .i64) r.1, (eI .i64) r.2]) (fun x => tries_Count x) [] (by
 rintro a0 b0 h
 have e0 := EncI.inj (f := F24_) _ _ (List.cons.inj h).1
 subst e0
 rfl)
abbrev ST_tries_Count_J1 (n_ : Int) : List (Nat × T) := [(6, .d (I n_))]
abbrev ST_tries_Count_J3 (t_ : S_tries_Trie) (x20 : Int) (n_2 : Int) : List (Nat × T) := [(6, .d (I n_2)), (18, .d (eSl 2 false F13_ t_.Nodes)), (19, .d (I ((t_.Nodes.length : Nat) : Int))), (20, .d (I x20))]
abbrev ST_tries_Count_L2 (t_ : S_tries_Trie) (n_1 : Int) (x20 : Int) : List (Nat × T) := [(6, .d (I n_1)), (18, .d (eSl 2 false F13_ t_.Nodes)), (19, .d (I ((t_.Nodes.length : Nat) : Int))), (20, .d (I x20))]
theorem w_tries_Count {ctr : Ctr} (hC : CtrOk Try.prog ctr) (hm : Try.prog.follows .mixedOrders = true) (h_tries_Words : ctr.Has sp_tries_Words) (h_tries_leaf : ctr.Has sp_tries_leaf) : sp_tries_Count.Ok Try.prog := by
 refine spF_ok ?_
 rintro t_ r0 hf0
 try unfold tries_Count at hf0
 refine callOk_h (tt := TTab) (keep := false) (rs := [(2, none), (3, none)]) (n := ⟨30, []⟩) (body := bd_tries_Count) TTab_ok Try.func33 rfl (by kernel_rfl) rfl rfl (by show (1 : Nat) ≤ 30; decide) fun E hE => ?_
 obtain ⟨r_, h0, hf0⟩ := bindE hf0
 have o0 := hasF h_tries_Words (x := t_) h0 (loC F24_ t_ <| loN)
 rcases bifE hf0 with ⟨c0, hf0⟩ | ⟨c0, hf0⟩
 ·obtain rfl := someE hf0
  exact awpEnd X0 TTab_ok hC hm hE 4000 (hs := [.g [], .a (.tup [eSl 1 true F1_ r_.1, I r_.2]), bT]) (x := (.tup [I 0, I r_.2])) [ob (hasG h_tries_Words), ob o0, ob c0] (by kernel_rfl) (LeV.refl _)
 ·refine awpAt X0 TTab_ok hC hm [1,6] 4000 [.g [], .a (.tup [eSl 1 true F1_ r_.1, I r_.2]), bF, .cut 1] (sub [1,1,1] bd_tries_Count) (frs [1,1,1] [] bd_tries_Count []) [(1, .own (.box (F24_ t_))), (6, .d (I 0))] [ob (hasG h_tries_Words), ob o0, ob c0] (by kernel_rfl) fun st0 h0 => ?_
  refine awpJoin' (X := Int) (x := (sub [1,1,1,2] bd_tries_Count)) (y := (sub [1,1,1,1] bd_tries_Count)) (by kernel_rfl) [6] [1,6] _ h0 (fun z => tries_Count_J1 z = some r0) (fun z => ST_tries_Count_J1 z) ?_ fun J1 hJ1 => ?_
  ·rintro n_ hf0
   unfold tries_Count_J1 at hf0
   obtain rfl := someE hf0
   exact awpEnd X0 TTab_ok hC hm hE 4000 (hs := []) (x := (.tup [I n_, I 0])) [] (by kernel_rfl) (LeV.refl _)
  ·have o1 := lnM F13_ t_.Nodes
   obtain ⟨t2, ht2, hf0⟩ := bindE hf0
   refine awpAt X0 TTab_ok hC hm [6,18,19,20] 4000 [aLn t_.Nodes.length] (sub [1,1,1,2,1,0] bd_tries_Count) (frs [1,1,1,2,1,0] [J1] bd_tries_Count []) [(6, .d (I 0)), (18, .d (eSl 2 false F13_ t_.Nodes)), (19, .d (I ((t_.Nodes.length : Nat) : Int))), (20, .d (I 0))] [ob o1] (by kernel_rfl) fun st0 h0 => ?_
   refine awpLoop' (X := (Int × Int) × Nat) (c' := (sub [1,1,1,2,1,0,0] bd_tries_Count)) (by kernel_rfl) [6,18,19,20] (fun x => loopN (fun s => tries_Count_L2 t_ s.1 s.2) x.2 x.1 = some t2) (fun x => x.2) (fun x => ST_tries_Count_L2 t_ x.1.1 x.1.2) ((0,0), fuel) _ h0 inferInstance ht2 ?_
   rintro ⟨⟨n_1, x20⟩, n2⟩ hn2 J2 hJ2
   obtain ⟨m2, lr1, rfl, hf1, hl1⟩ := loopE hn2
   try unfold tries_Count_L2 at hf1
   rcases bifE hf1 with ⟨c1, hf1⟩ | ⟨c1, hf1⟩
   ·refine awpAt X0 TTab_ok hC hm [6,18,19,20] 4000 [bT, .cut 0] (sub [1,1,1,2,1,0,0,1,1] bd_tries_Count) (frs [1,1,1,2,1,0,0,1,1] [J1, J2] bd_tries_Count []) [(6, .d (I n_1)), (18, .d (eSl 2 false F13_ t_.Nodes)), (19, .d (I ((t_.Nodes.length : Nat) : Int))), (20, .d (I x20))] [ob c1] (by kernel_rfl) fun st0 h0 => ?_
    refine awpJoin' (X := Int) (x := (sub [1,1,1,2,1,0,0,1,1,2] bd_tries_Count)) (y := (sub [1,1,1,2,1,0,0,1,1,1] bd_tries_Count)) (by kernel_rfl) [6,18,19,20] [6,18,19,20] _ h0 (fun z => tries_Count_J3 x20 z = some lr1) (fun z => ST_tries_Count_J3 t_ x20 z) ?_ fun J3 hJ3 => ?_
    ·rintro n_2 hf1
     unfold tries_Count_J3 at hf1
     obtain rfl := someE hf1
     exact awpBack X0 TTab_ok hC hm [6,18,19,20] 4000 [] J2 [(6, .d (I n_2)), (18, .d (eSl 2 false F13_ t_.Nodes)), (19, .d (I ((t_.Nodes.length : Nat) : Int))), (20, .d (I (w64 (x20 + 1))))] [] (by kernel_rfl) fun st0 h0 => hJ2 st0 _ ((n_2, w64 (x20 + 1)), m2) hl1 (Nat.lt_succ_self m2) h0 inferInstance
    ·obtain ⟨Node_e, h1, hf1⟩ := bindE hf1
     have o2 := iM F13_ h1
     obtain ⟨r_1, h2, hf1⟩ := bindE hf1
     have o3 := hasF h_tries_leaf (x := Node_e) h2 (loC F13_ Node_e <| loN)
     rcases bifE hf1 with ⟨c2, hf1⟩ | ⟨c2, hf1⟩
     ·exact awpBack X0 TTab_ok hC hm [6,18,19,20] 4000 [.a (F13_ Node_e), .g [], .a (eB r_1), bT] J3 [(6, .d (I (w64 (n_1 + 1)))), (18, .d (eSl 2 false F13_ t_.Nodes)), (19, .d (I ((t_.Nodes.length : Nat) : Int))), (20, .d (I x20))] [ob (i0 h1), ob o2, ob (hasG h_tries_leaf), ob o3, ob c2] (by kernel_rfl) fun st0 h0 => hJ3 st0 _ (w64 (n_1 + 1)) hf1 h0 inferInstance
     ·exact awpBack X0 TTab_ok hC hm [6,18,19,20] 4000 [.a (F13_ Node_e), .g [], .a (eB r_1), bF] J3 [(6, .d (I n_1)), (18, .d (eSl 2 false F13_ t_.Nodes)), (19, .d (I ((t_.Nodes.length : Nat) : Int))), (20, .d (I x20))] [ob (i0 h1), ob o2, ob (hasG h_tries_leaf), ob o3, ob c2] (by kernel_rfl) fun st0 h0 => hJ3 st0 _ n_1 hf1 h0 inferInstance
   ·obtain rfl := someE hf1
    obtain rfl := hl1
    exact awpBack X0 TTab_ok hC hm [6] 4000 [bF] J1 [(6, .d (I n_1))] [ob c1] (by kernel_rfl) fun st0 h0 => hJ1 st0 _ n_1 hf0 h0 inferInstance
noncomputable def bd_ref12_Same : Code := (Try.f35.body).getD .skip
noncomputable def sp_ref12_Same : Spec := spF (α := List (List Int) × List (List Int)) (ρ := Bool) 35 (fun x => [F10_ x.1, F10_ x.2]) (fun r => eB r) (fun x => ref12_Same x.1 x.2) [] (by
 rintro ⟨a0, a1⟩ ⟨b0, b1⟩ h
 have e0 := EncI.inj (f := F10_) _ _ (List.cons.inj h).1
 replace h := (List.cons.inj h).2
 have e1 := EncI.inj (f := F10_) _ _ (List.cons.inj h).1
 subst e0 e1
 rfl)
abbrev ST_ref12_Same_J1 : List (Nat × T) := []
abbrev ST_ref12_Same_L2 (a_ : List (List Int)) (b_ : List (List Int)) (i_ : Int) : List (Nat × T) := [(0, .d (eSl 1 false F4_ a_)), (1, .d (eSl 1 false F4_ b_)), (5, .d (I i_))]
theorem w_ref12_Same {ctr : Ctr} (hC : CtrOk Try.prog ctr) (hm : Try.prog.follows .mixedOrders = true) (h_ref12_compare : ctr.Has sp_ref12_compare) : sp_ref12_Same.Ok Try.prog := by
 refine spF_ok ?_
 rintro ⟨a_, b_⟩ r0 hf0
 try unfold ref12_Same at hf0
 refine callOk_h (tt := TTab) (keep := true) (rs := [(4, none)]) (n := ⟨27, []⟩) (body := bd_ref12_Same) TTab_ok Try.func35 rfl (by kernel_rfl) rfl rfl (by show (2 : Nat) ≤ 27; decide) fun E hE => ?_
 rcases bifE hf0 with ⟨c0, hf0⟩ | ⟨c0, hf0⟩
 ·obtain rfl := someE hf0
  exact awpEnd X0 TTab_ok hC hm hE 4000 (hs := [aLn a_.length, aLn b_.length, bT]) (x := (B false)) [ob (lnM F4_ a_), ob (lnM F4_ b_), ob c0] (by kernel_rfl) (LeV.refl _)
 ·refine awpAt X0 TTab_ok hC hm [0,1] 4000 [aLn a_.length, aLn b_.length, bF, .cut 0] (sub [1,1] bd_ref12_Same) (frs [1,1] [] bd_ref12_Same []) [(0, .d (eSl 1 false F4_ a_)), (1, .d (eSl 1 false F4_ b_))] [ob (lnM F4_ a_), ob (lnM F4_ b_), ob c0] (by kernel_rfl) fun st0 h0 => ?_
  refine awpJoin' (X := Unit) (x := (sub [1,1,2] bd_ref12_Same)) (y := (sub [1,1,1] bd_ref12_Same)) (by kernel_rfl) [] [0,1] _ h0 (fun z => ref12_Same_J1 = some r0) (fun z => ST_ref12_Same_J1) ?_ fun J1 hJ1 => ?_
  ·rintro ⟨⟩ hf0
   unfold ref12_Same_J1 at hf0
   obtain rfl := someE hf0
   exact awpEnd X0 TTab_ok hC hm hE 4000 (hs := []) (x := (B true)) [] (by kernel_rfl) (LeV.refl _)
  ·obtain ⟨t2, ht2, hf0⟩ := bindE hf0
   refine awpAt X0 TTab_ok hC hm [0,1,5] 4000 [] (sub [1,1,2,1,0] bd_ref12_Same) (frs [1,1,2,1,0] [J1] bd_ref12_Same []) [(0, .d (eSl 1 false F4_ a_)), (1, .d (eSl 1 false F4_ b_)), (5, .d (I 0))] [] (by kernel_rfl) fun st0 h0 => ?_
   refine awpLoop' (X := Int × Nat) (c' := (sub [1,1,2,1,0,0] bd_ref12_Same)) (by kernel_rfl) [0,1,5] (fun x => loopN (fun s => ref12_Same_L2 a_ b_ s) x.2 x.1 = some t2) (fun x => x.2) (fun x => ST_ref12_Same_L2 a_ b_ x.1) (0, fuel) _ h0 inferInstance ht2 ?_
   rintro ⟨i_, n2⟩ hn2 J2 hJ2
   obtain ⟨m2, lr1, rfl, hf1, hl1⟩ := loopE hn2
   try unfold ref12_Same_L2 at hf1
   rcases bifE hf1 with ⟨c1, hf1⟩ | ⟨c1, hf1⟩
   ·obtain ⟨a__e, h0, hf1⟩ := bindE hf1
    obtain ⟨b__e, h1, hf1⟩ := bindE hf1
    obtain ⟨r_, h2, hf1⟩ := bindE hf1
    have o0 := hasF h_ref12_compare (x := (a__e, b__e)) h2 (loC F4_ a__e <| loC F4_ b__e <| loN)
    rcases bifE hf1 with ⟨c2, hf1⟩ | ⟨c2, hf1⟩
    ·obtain rfl := someE hf1
     obtain rfl := hl1
     obtain rfl := someE hf0
     exact awpEnd X0 TTab_ok hC hm hE 4000 (hs := [aLn a_.length, bT, .a (F4_ a__e), .a (F4_ b__e), .g [], .a ((eI .i64) r_), bT]) (x := (B false)) [ob (lnM F4_ a_), ob c1, ob (i0 h0), ob (iM F4_ h0), ob (i0 h1), ob (iM F4_ h1), ob (hasG h_ref12_compare), ob o0, ob c2] (by kernel_rfl) (LeV.refl _)
    ·obtain rfl := someE hf1
     exact awpBack X0 TTab_ok hC hm [0,1,5] 4000 [aLn a_.length, bT, .a (F4_ a__e), .a (F4_ b__e), .g [], .a ((eI .i64) r_), bF] J2 [(0, .d (eSl 1 false F4_ a_)), (1, .d (eSl 1 false F4_ b_)), (5, .d (I (w64 (i_ + 1))))] [ob (lnM F4_ a_), ob c1, ob (i0 h0), ob (iM F4_ h0), ob (i0 h1), ob (iM F4_ h1), ob (hasG h_ref12_compare), ob o0, ob c2] (by kernel_rfl) fun st0 h0 => hJ2 st0 _ (w64 (i_ + 1), m2) hl1 (Nat.lt_succ_self m2) h0 inferInstance
   ·obtain rfl := someE hf1
    obtain rfl := hl1
    exact awpBack X0 TTab_ok hC hm [] 4000 [aLn a_.length, bF] J1 [] [ob (lnM F4_ a_), ob c1] (by kernel_rfl) fun st0 h0 => hJ1 st0 _ () hf0 h0 inferInstance
noncomputable def bd_law12_same : Code := (Try.f16.body).getD .skip
noncomputable def sp_law12_same : Spec := spF (α := List (List Int) × List (List Int)) (ρ := Bool) 16 (fun x => [F5_ x.1, F10_ x.2]) (fun r => eB r) (fun x => law12_same x.1 x.2) [] (by
 rintro ⟨a0, a1⟩ ⟨b0, b1⟩ h
 have e0 := EncI.inj (f := F5_) _ _ (List.cons.inj h).1
 replace h := (List.cons.inj h).2
 have e1 := EncI.inj (f := F10_) _ _ (List.cons.inj h).1
 subst e0 e1
 rfl)
abbrev ST_law12_same_J1 : List (Nat × T) := []
abbrev ST_law12_same_L2 (a_ : List (List Int)) (i_ : Int) : List (Nat × T) := [(0, .d (eSl 1 true F1_ a_)), (5, .d (I i_))]
theorem w_law12_same {ctr : Ctr} (hC : CtrOk Try.prog ctr) (hm : Try.prog.follows .mixedOrders = true) (h_ref12_Same : ctr.Has sp_ref12_Same) : sp_law12_same.Ok Try.prog := by
 refine spF_ok ?_
 rintro ⟨a_, b_⟩ r0 hf0
 try unfold law12_same at hf0
 refine callOk_h (tt := TTab) (keep := true) (rs := [(4, none)]) (n := ⟨34, []⟩) (body := bd_law12_same) TTab_ok Try.func16 rfl (by kernel_rfl) rfl rfl (by show (2 : Nat) ≤ 34; decide) fun E hE => ?_
 obtain ⟨r_, h0, hf0⟩ := bindE hf0
 have o0 := hasF h_ref12_Same (x := (a_, b_)) h0 (loC F5_ a_ <| loC F10_ b_ <| loN)
 rcases bifE hf0 with ⟨c0, hf0⟩ | ⟨c0, hf0⟩
 ·obtain rfl := someE hf0
  exact awpEnd X0 TTab_ok hC hm hE 4000 (hs := (.g [] :: .a (eB r_) :: (rpN 7 bT []))) (x := (B false)) (ob (hasG h_ref12_Same) :: ob o0 :: (rpN 6 (ob c0) [oT])) (by kernel_rfl) (LeV.refl _)
 ·rcases bifE hf0 with ⟨c1, hf0⟩ | ⟨c1, hf0⟩
  ·obtain rfl := someE hf0
   exact awpEnd X0 TTab_ok hC hm hE 4000 (hs := [.g [], .a (eB r_), bF, bF, aLn a_.length, bF, bF, aLn a_.length, bF, bF, bT]) (x := (B false)) [ob (hasG h_ref12_Same), ob o0, ob c0, ob c0, ob (lnM F1_ a_), ob c0, ob c0, ob (lnM F1_ a_), ob c0, ob c0, ob c1] (by kernel_rfl) (LeV.refl _)
  ·refine awpAt X0 TTab_ok hC hm [0] 4000 [.g [], .a (eB r_), bF, bF, aLn a_.length, bF, bF, aLn a_.length, bF, bF, bF, .cut 0] (sub [1,1] bd_law12_same) (frs [1,1] [] bd_law12_same []) [(0, .d (eSl 1 true F1_ a_))] [ob (hasG h_ref12_Same), ob o0, ob c0, ob c0, ob (lnM F1_ a_), ob c0, ob c0, ob (lnM F1_ a_), ob c0, ob c0, ob c1] (by kernel_rfl) fun st0 h0 => ?_
   refine awpJoin' (X := Unit) (x := (sub [1,1,2] bd_law12_same)) (y := (sub [1,1,1] bd_law12_same)) (by kernel_rfl) [] [0] _ h0 (fun z => law12_same_J1 = some r0) (fun z => ST_law12_same_J1) ?_ fun J1 hJ1 => ?_
   ·rintro ⟨⟩ hf0
    unfold law12_same_J1 at hf0
    obtain rfl := someE hf0
    exact awpEnd X0 TTab_ok hC hm hE 4000 (hs := []) (x := (B true)) [] (by kernel_rfl) (LeV.refl _)
   ·obtain ⟨t2, ht2, hf0⟩ := bindE hf0
    refine awpAt X0 TTab_ok hC hm [0,5] 4000 [] (sub [1,1,2,1,0] bd_law12_same) (frs [1,1,2,1,0] [J1] bd_law12_same []) [(0, .d (eSl 1 true F1_ a_)), (5, .d (I 0))] [] (by kernel_rfl) fun st0 h0 => ?_
    refine awpLoop' (X := Int × Nat) (c' := (sub [1,1,2,1,0,0] bd_law12_same)) (by kernel_rfl) [0,5] (fun x => loopN (fun s => law12_same_L2 a_ s) x.2 x.1 = some t2) (fun x => x.2) (fun x => ST_law12_same_L2 a_ x.1) (0, fuel) _ h0 inferInstance ht2 ?_
    rintro ⟨i_, n2⟩ hn2 J2 hJ2
    obtain ⟨m2, lr1, rfl, hf1, hl1⟩ := loopE hn2
    try unfold law12_same_L2 at hf1
    rcases bifE hf1 with ⟨c2, hf1⟩ | ⟨c2, hf1⟩
    ·obtain ⟨a__e, h1, hf1⟩ := bindE hf1
     obtain ⟨a__e1, h2, hf1⟩ := bindE hf1
     rcases bifE hf1 with ⟨c3, hf1⟩ | ⟨c3, hf1⟩
     ·obtain rfl := someE hf1
      obtain rfl := hl1
      obtain rfl := someE hf0
      exact awpEnd X0 TTab_ok hC hm hE 4000 (hs := [aLn a_.length, bT, .a (F1_ a__e), aLn a__e.length, .a (F1_ a__e1), aLn a__e1.length, bT]) (x := (B false)) [ob (lnM F1_ a_), ob c2, ob (i0 h1), ob (iM F1_ h1), ob (lnM (eI .i64) a__e), ob (i0 h2), ob (iM F1_ h2), ob (lnM (eI .i64) a__e1), ob c3] (by kernel_rfl) (LeV.refl _)
     ·obtain rfl := someE hf1
      exact awpBack X0 TTab_ok hC hm [0,5] 4000 [aLn a_.length, bT, .a (F1_ a__e), aLn a__e.length, .a (F1_ a__e1), aLn a__e1.length, bF] J2 [(0, .d (eSl 1 true F1_ a_)), (5, .d (I (w64 (i_ + 1))))] [ob (lnM F1_ a_), ob c2, ob (i0 h1), ob (iM F1_ h1), ob (lnM (eI .i64) a__e), ob (i0 h2), ob (iM F1_ h2), ob (lnM (eI .i64) a__e1), ob c3] (by kernel_rfl) fun st0 h0 => hJ2 st0 _ (w64 (i_ + 1), m2) hl1 (Nat.lt_succ_self m2) h0 inferInstance
    ·obtain rfl := someE hf1
     obtain rfl := hl1
     exact awpBack X0 TTab_ok hC hm [] 4000 [aLn a_.length, bF] J1 [] [ob (lnM F1_ a_), ob c2] (by kernel_rfl) fun st0 h0 => hJ1 st0 _ () hf0 h0 inferInstance
noncomputable def bd_ref12_prefix : Code := (Try.f61.body).getD .skip
noncomputable def sp_ref12_prefix : Spec := spF (α := List Int × List Int) (ρ := Bool) 61 (fun x => [F4_ x.1, F4_ x.2]) (fun r => eB r) (fun x => ref12_prefix x.1 x.2) [] (by
 rintro ⟨a0, a1⟩ ⟨b0, b1⟩ h
 have e0 := EncI.inj (f := F4_) _ _ (List.cons.inj h).1
 replace h := (List.cons.inj h).2
 have e1 := EncI.inj (f := F4_) _ _ (List.cons.inj h).1
 subst e0 e1
 rfl)
theorem w_ref12_prefix {ctr : Ctr} (hC : CtrOk Try.prog ctr) (hm : Try.prog.follows .mixedOrders = true) (h_ref12_compare : ctr.Has sp_ref12_compare) : sp_ref12_prefix.Ok Try.prog := by
 refine spF_ok ?_
 rintro ⟨a_, b_⟩ r0 hf0
 try unfold ref12_prefix at hf0
 refine callOk_h (tt := TTab) (keep := true) (rs := [(4, none)]) (n := ⟨19, []⟩) (body := bd_ref12_prefix) TTab_ok Try.func61 rfl (by kernel_rfl) rfl rfl (by show (2 : Nat) ≤ 19; decide) fun E hE => ?_
 rcases bifE hf0 with ⟨c0, hf0⟩ | ⟨c0, hf0⟩
 ·obtain ⟨g0, hf0⟩ := gdE hf0
  have o0 := slM 1 false (eI .i64) b_ 0 ((a_.length : Nat) : Int).toNat
  obtain ⟨r_, h0, hf0⟩ := bindE hf0
  have o1 := hasF h_ref12_compare (x := (a_, ((b_.drop 0).take (((a_.length : Nat) : Int).toNat - 0)))) h0 (loC F4_ a_ <| loC F4_ ((b_.drop 0).take (((a_.length : Nat) : Int).toNat - 0)) <| loN)
  obtain rfl := someE hf0
  exact awpEnd X0 TTab_ok hC hm hE 4000 (hs := (aLn a_.length :: aLn b_.length :: (rpN 4 bT [aLn a_.length, bT, .a (eSl 1 false (eI .i64) ((b_.drop 0).take (((a_.length : Nat) : Int).toNat - 0))), bT, .g [], .a ((eI .i64) r_), bT, bT]))) (x := (B (r_ == 0))) (ob (lnM (eI .i64) a_) :: ob (lnM (eI .i64) b_) :: (rpN 4 (ob c0) [ob (lnM (eI .i64) a_), ob c0, ob (slB g0), ob (sl010 (eI .i64) g0), ob o0, ob c0, ob (hasG h_ref12_compare), ob o1, ob c0, ob c0])) (by kernel_rfl) (LeV.refl _)
 ·obtain rfl := someE hf0
  exact awpEnd X0 TTab_ok hC hm hE 4000 (hs := (aLn a_.length :: aLn b_.length :: (rpN 8 bF []))) (x := (B false)) (ob (lnM (eI .i64) a_) :: ob (lnM (eI .i64) b_) :: (rpN 8 (ob c0) [])) (by kernel_rfl) (LeV.refl _)
end Go.Own
