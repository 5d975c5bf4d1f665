/- Walks, further. -/
import Derived.Test.YtlejgipmepemjaaPartF
import Derived.Test.YtlejgipmepemjaaPartC
import Derived.Test.YtlejgipmepemjaaPartE
set_option linter.unusedVariables false
set_option linter.unusedSimpArgs false
namespace Go.Own
open Go.Proofs
set_option linter.unusedVariables false
set_option maxRecDepth 100000
set_option maxHeartbeats 8000000
noncomputable def bd_tries_all : Code := (Try.f62.body).getD .skip
noncomputable def sp_tries_all : Spec := spF (α := Int × Int × Int) (ρ := List (List Int) × Int) 62 (fun x => [(eI .i64) x.1, (eI .i64) x.2.1, (eI .i64) x.2.2]) (fun r => .tup [F4_ r.1, (eI .i64) r.2]) (fun x => tries_all x.1 x.2.1 x.2.2) [] (by
 rintro ⟨a0, a1, a2⟩ ⟨b0, b1, b2⟩ h
 have e0 := EncI.inj (f := (eI .i64)) _ _ (List.cons.inj h).1
 replace h := (List.cons.inj h).2
 have e1 := EncI.inj (f := (eI .i64)) _ _ (List.cons.inj h).1
 replace h := (List.cons.inj h).2
 have e2 := EncI.inj (f := (eI .i64)) _ _ (List.cons.inj h).1
 subst e0 e1 e2
 rfl)
abbrev ST_tries_all_J2 (inputs : Int) (from_ : Int) (to : Int) (k_ : Int) (out1 : List (List Int)) (level1 : List (List Int)) (n_1 : Int) (x45 : Int) (x46 : Bool) (x58 : Bool) : List (Nat × T) := [(0, .d (I inputs)), (1, .d (I from_)), (2, .d (I to)), (8, .own (eOs 1 false F2_ out1)), (9, .own (eOs 1 false F2_ level1)), (10, .d (I n_1)), (11, .d (I k_)), (45, .d (I x45)), (46, .d (B x46)), (49, .d (I k_)), (50, .d (I to)), (51, .d (B (decide (k_ < to)))), (52, .d (B (decide (k_ < to)))), (58, .d (B x58))]
abbrev ST_tries_all_J5 (inputs : Int) (from_ : Int) (to : Int) (k_ : Int) (out2 : List (List Int)) (n_2 : Int) (x581 : Bool) (next : List (List Int)) : List (Nat × T) := [(0, .d (I inputs)), (1, .d (I from_)), (2, .d (I to)), (8, .own (eOs 1 false F2_ out2)), (10, .d (I n_2)), (11, .d (I k_)), (12, .own (eOs 1 false F2_ next)), (45, .d (I n_2)), (46, .d (B (decide (n_2 > 65536)))), (49, .d (I k_)), (50, .d (I to)), (51, .d (B (decide (k_ < to)))), (52, .d (B (decide (k_ < to)))), (58, .d (B x581))]
abbrev ST_tries_all_J7 (inputs : Int) (from_ : Int) (to : Int) (level : List (List Int)) (k_ : Int) (out2 : List (List Int)) (n_2 : Int) (x581 : Bool) (x69 : Int) (next2 : List (List Int)) : List (Nat × T) := [(0, .d (I inputs)), (1, .d (I from_)), (2, .d (I to)), (8, .own (eOs 1 false F2_ out2)), (9, .own (eOs 1 false F2_ level)), (10, .d (I n_2)), (11, .d (I k_)), (12, .own (eOs 1 false F2_ next2)), (45, .d (I n_2)), (46, .d (B (decide (n_2 > 65536)))), (49, .d (I k_)), (50, .d (I to)), (51, .d (B (decide (k_ < to)))), (52, .d (B (decide (k_ < to)))), (58, .d (B x581)), (67, .als 9 [] 0 0), (68, .d (I ((level.length : Nat) : Int))), (69, .d (I x69))]
abbrev ST_tries_all_L8 (inputs : Int) (from_ : Int) (to : Int) (level : List (List Int)) (k_ : Int) (out2 : List (List Int)) (n_2 : Int) (x581 : Bool) (x69 : Int) (level_e : List Int) (next3 : List (List Int)) (x74 : Int) : List (Nat × T) := [(0, .d (I inputs)), (1, .d (I from_)), (2, .d (I to)), (8, .own (eOs 1 false F2_ out2)), (9, .own (eOs 1 false F2_ level)), (10, .d (I n_2)), (11, .d (I k_)), (12, .own (eOs 1 false F2_ next3)), (14, .d (eSl 1 false (eI .i64) level_e)), (45, .d (I n_2)), (46, .d (B (decide (n_2 > 65536)))), (49, .d (I k_)), (50, .d (I to)), (51, .d (B (decide (k_ < to)))), (52, .d (B (decide (k_ < to)))), (58, .d (B x581)), (67, .als 9 [] 0 0), (68, .d (I ((level.length : Nat) : Int))), (69, .d (I x69)), (73, .d (I inputs)), (74, .d (I x74))]
abbrev ST_tries_all_L6 (inputs : Int) (from_ : Int) (to : Int) (level : List (List Int)) (k_ : Int) (out2 : List (List Int)) (n_2 : Int) (x581 : Bool) (next1 : List (List Int)) (x69 : Int) : List (Nat × T) := [(0, .d (I inputs)), (1, .d (I from_)), (2, .d (I to)), (8, .own (eOs 1 false F2_ out2)), (9, .own (eOs 1 false F2_ level)), (10, .d (I n_2)), (11, .d (I k_)), (12, .own (eOs 1 false F2_ next1)), (45, .d (I n_2)), (46, .d (B (decide (n_2 > 65536)))), (49, .d (I k_)), (50, .d (I to)), (51, .d (B (decide (k_ < to)))), (52, .d (B (decide (k_ < to)))), (58, .d (B x581)), (67, .als 9 [] 0 0), (68, .d (I ((level.length : Nat) : Int))), (69, .d (I x69))]
abbrev ST_tries_all_J4 (inputs : Int) (from_ : Int) (to : Int) (level : List (List Int)) (k_ : Int) (out2 : List (List Int)) (n_2 : Int) (x581 : Bool) : List (Nat × T) := [(0, .d (I inputs)), (1, .d (I from_)), (2, .d (I to)), (8, .own (eOs 1 false F2_ out2)), (9, .own (eOs 1 false F2_ level)), (10, .d (I n_2)), (11, .d (I k_)), (45, .d (I n_2)), (46, .d (B (decide (n_2 > 65536)))), (49, .d (I k_)), (50, .d (I to)), (51, .d (B (decide (k_ < to)))), (52, .d (B (decide (k_ < to)))), (58, .d (B x581))]
abbrev ST_tries_all_J3 (inputs : Int) (from_ : Int) (to : Int) (level : List (List Int)) (k_ : Int) (out2 : List (List Int)) (n_2 : Int) : List (Nat × T) := [(0, .d (I inputs)), (1, .d (I from_)), (2, .d (I to)), (8, .own (eOs 1 false F2_ out2)), (9, .own (eOs 1 false F2_ level)), (10, .d (I n_2)), (11, .d (I k_))]
abbrev ST_tries_all_L1 (inputs : Int) (from_ : Int) (to : Int) (out : List (List Int)) (level : List (List Int)) (n_ : Int) (k_ : Int) : List (Nat × T) := [(0, .d (I inputs)), (1, .d (I from_)), (2, .d (I to)), (8, .own (eOs 1 false F2_ out)), (9, .own (eOs 1 false F2_ level)), (10, .d (I n_)), (11, .d (I k_))]
theorem w_tries_all {ctr : Ctr} (hC : CtrOk Try.prog ctr) (hm : Try.prog.follows .mixedOrders = true) (h_tries_sorted : ctr.Has sp_tries_sorted) (h_slices_Clip_int_int : ctr.Has sp_slices_Clip_int_int) : sp_tries_all.Ok Try.prog := by
 refine spF_ok ?_
 rintro ⟨inputs, from_, to⟩ r0 hf0
 try unfold tries_all at hf0
 refine callOk_h (tt := TTab) (keep := false) (rs := [(6, none), (7, none)]) (n := ⟨88, []⟩) (body := bd_tries_all) TTab_ok Try.func62 rfl (by kernel_rfl) rfl rfl (by show (3 : Nat) ≤ 88; decide) fun E hE => ?_
 rcases bifE hf0 with ⟨c0, hf0⟩ | ⟨c0, hf0⟩
 ·have o0 := shM F2_ F2_ []
  obtain rfl := someE hf0
  exact awpEnd ((xSeal TTab_ok (.inl 83) [82]).or X0) TTab_ok hC hm hE 4000 (hs := [bT, .l ([].map F2_)]) (x := (.tup [eSl 1 true F0_ [], I 3])) [ob c0, ob o0] (by kernel_rfl) (show LeV (.tup [eSl 1 true F0_ [], I 3]) (.tup [eSl 1 true F0_ ([] : List (List Int)), I 3]) from inferInstance)
 ·rcases bifE hf0 with ⟨c1, hf0⟩ | ⟨c1, hf0⟩
  ·have o1 := shM F2_ F2_ []
   obtain rfl := someE hf0
   exact awpEnd ((xSeal TTab_ok (.inl 83) [82]).or X0) TTab_ok hC hm hE 4000 (hs := (bF :: (rpN 4 bT [.l ([].map F2_)]))) (x := (.tup [eSl 1 true F0_ [], I 1])) [ob c0, ob c1, ob c1, ob c1, oT, ob o1] (by kernel_rfl) (show LeV (.tup [eSl 1 true F0_ [], I 1]) (.tup [eSl 1 true F0_ ([] : List (List Int)), I 1]) from inferInstance)
  ·rcases bifE hf0 with ⟨c2, hf0⟩ | ⟨c2, hf0⟩
   ·have o2 := shM F2_ F2_ []
    obtain rfl := someE hf0
    exact awpEnd ((xSeal TTab_ok (.inl 83) [82]).or X0) TTab_ok hC hm hE 4000 (hs := (rpN 4 bF [bT, .l ([].map F2_)])) (x := (.tup [eSl 1 true F0_ [], I 1])) [ob c0, ob c1, ob c1, ob c1, ob c2, ob o2] (by kernel_rfl) (show LeV (.tup [eSl 1 true F0_ [], I 1]) (.tup [eSl 1 true F0_ ([] : List (List Int)), I 1]) from inferInstance)
   ·rcases bifE hf0 with ⟨c3, hf0⟩ | ⟨c3, hf0⟩
    ·have o3 := shM F2_ F2_ []
     obtain rfl := someE hf0
     exact awpEnd ((xSeal TTab_ok (.inl 83) [82]).or X0) TTab_ok hC hm hE 4000 (hs := (rpN 5 bF [bT, .l ([].map F2_)])) (x := (.tup [eSl 1 true F0_ [], I 3])) [ob c0, ob c1, ob c1, ob c1, ob c2, ob c3, ob o3] (by kernel_rfl) (show LeV (.tup [eSl 1 true F0_ [], I 3]) (.tup [eSl 1 true F0_ ([] : List (List Int)), I 3]) from inferInstance)
    ·have o4 := shM F1_ F0_ ([[]] : List (List Int))
     obtain ⟨t1, ht1, hf0⟩ := bindE hf0
     refine awpAt ((xSeal TTab_ok (.inl 83) [82]).or X0) TTab_ok hC hm [0,1,2,8,9,10,11] 4000 (rpN 6 bF [.v 5 [9], .l (([[]] : List (List Int)).map F0_)]) (sub [1,1,1,1,1,1,1,1,0] bd_tries_all) (frs [1,1,1,1,1,1,1,1,0] [] bd_tries_all []) [(0, .d (I inputs)), (1, .d (I from_)), (2, .d (I to)), (8, .own (eOs 1 true F2_ [])), (9, .own (eOs 1 true F0_ ([[]]))), (10, .d (I 0)), (11, .d (I 0))] [ob c0, ob c1, ob c1, ob c1, ob c2, ob c3, ob o4] (by kernel_rfl) fun st0 h0 => ?_
     refine awpLoop' (X := (List (List Int) × List (List Int) × Int × Int) × Nat) (c' := (sub [1,1,1,1,1,1,1,1,0,0] bd_tries_all)) (by kernel_rfl) [0,1,2,8,9,10,11] (fun x => loopN (fun s => tries_all_L1 inputs from_ to s.1 s.2.1 s.2.2.1 s.2.2.2) x.2 x.1 = some t1) (fun x => x.2) (fun x => ST_tries_all_L1 inputs from_ to x.1.1 x.1.2.1 x.1.2.2.1 x.1.2.2.2) ((([] : List (List Int)), ([[]] : List (List Int)), 0,0), fuel) _ h0 inferInstance ht1 ?_
     rintro ⟨⟨out, level, n_, k_⟩, n1⟩ hn1 J1 hJ1
     obtain ⟨m1, lr1, rfl, hf1, hl1⟩ := loopE hn1
     try unfold tries_all_L1 at hf1
     refine awpAt ((xSeal TTab_ok (.inl 83) [82]).or X0) TTab_ok hC hm [0,1,2,8,9,10,11] 4000 [.cut 0] (sub [1,1,1,1,1,1,1,1,0,0] bd_tries_all) (frs [1,1,1,1,1,1,1,1,0,0] [J1] bd_tries_all []) [(0, .d (I inputs)), (1, .d (I from_)), (2, .d (I to)), (8, .own (eOs 1 false F2_ out)), (9, .own (eOs 1 false F2_ level)), (10, .d (I n_)), (11, .d (I k_))] [] (by kernel_rfl) fun st0 h0 => ?_
     refine awpJoin' (X := List (List Int) × List (List Int) × Int × Int × Bool × Bool) (x := (sub [1,1,1,1,1,1,1,1,0,0,2] bd_tries_all)) (y := (sub [1,1,1,1,1,1,1,1,0,0,1] bd_tries_all)) (by kernel_rfl) [0,1,2,8,9,10,11,45,46,49,50,51,52,58] [0,1,2,8,9,10,11] _ h0 (fun z => tries_all_J2 k_ z.1 z.2.1 z.2.2.1 z.2.2.2.1 z.2.2.2.2.1 z.2.2.2.2.2 = some lr1) (fun z => ST_tries_all_J2 inputs from_ to k_ z.1 z.2.1 z.2.2.1 z.2.2.2.1 z.2.2.2.2.1 z.2.2.2.2.2) ?_ fun J2 hJ2 => ?_
     ·rintro ⟨out1, level1, n_1, x45, x46, x58⟩ hf1
      unfold tries_all_J2 at hf1
      obtain rfl := someE hf1
      exact awpBack ((xSeal TTab_ok (.inl 83) [82]).or X0) TTab_ok hC hm [0,1,2,8,9,10,11] 4000 [] J1 [(0, .d (I inputs)), (1, .d (I from_)), (2, .d (I to)), (8, .own (eOs 1 false F2_ out1)), (9, .own (eOs 1 false F2_ level1)), (10, .d (I n_1)), (11, .d (I (w64 (k_ + 1))))] [] (by kernel_rfl) fun st0 h0 => hJ1 st0 _ ((out1, level1, n_1, w64 (k_ + 1)), m1) hl1 (Nat.lt_succ_self m1) h0 inferInstance
     ·refine awpAt ((xSeal TTab_ok (.inl 83) [82]).or X0) TTab_ok hC hm [0,1,2,8,9,10,11] 4000 [.cut 0] (sub [1,1,1,1,1,1,1,1,0,0,2,0] bd_tries_all) (frs [1,1,1,1,1,1,1,1,0,0,2,0] [J1, J2] bd_tries_all []) [(0, .d (I inputs)), (1, .d (I from_)), (2, .d (I to)), (8, .own (eOs 1 false F2_ out)), (9, .own (eOs 1 false F2_ level)), (10, .d (I n_)), (11, .d (I k_))] [] (by kernel_rfl) fun st0 h0 => ?_
      refine awpJoin' (X := List (List Int) × Int) (x := (sub [1,1,1,1,1,1,1,1,0,0,2,0,2] bd_tries_all)) (y := (sub [1,1,1,1,1,1,1,1,0,0,2,0,1] bd_tries_all)) (by kernel_rfl) [0,1,2,8,9,10,11] [0,1,2,8,9,10,11] _ h0 (fun z => tries_all_J3 inputs to level k_ z.1 z.2 = some lr1) (fun z => ST_tries_all_J3 inputs from_ to level k_ z.1 z.2) ?_ fun J3 hJ3 => ?_
      ·rintro ⟨out2, n_2⟩ hf1
       unfold tries_all_J3 at hf1
       refine awpAt ((xSeal TTab_ok (.inl 83) [82]).or X0) TTab_ok hC hm [0,1,2,8,9,10,11] 4000 [.cut 0] (sub [1,1,1,1,1,1,1,1,0,0,2,0,1] bd_tries_all) (frs [1,1,1,1,1,1,1,1,0,0,2,0,1] [J1, J2] bd_tries_all []) [(0, .d (I inputs)), (1, .d (I from_)), (2, .d (I to)), (8, .own (eOs 1 false F2_ out2)), (9, .own (eOs 1 false F2_ level)), (10, .d (I n_2)), (11, .d (I k_))] [] (by kernel_rfl) fun st0 h0 => ?_
       refine awpJoin' (X := Bool) (x := (sub [1,1,1,1,1,1,1,1,0,0,2,0,1,2] bd_tries_all)) (y := (sub [1,1,1,1,1,1,1,1,0,0,2,0,1,1] bd_tries_all)) (by kernel_rfl) [0,1,2,8,9,10,11,45,46,49,50,51,52,58] [0,1,2,8,9,10,11] _ h0 (fun z => tries_all_J4 inputs to level k_ out2 n_2 z = some lr1) (fun z => ST_tries_all_J4 inputs from_ to level k_ out2 n_2 z) ?_ fun J4 hJ4 => ?_
       ·rintro x581 hf1
        unfold tries_all_J4 at hf1
        rcases bifE hf1 with ⟨c4, hf1⟩ | ⟨c4, hf1⟩
        ·have o5 := shM F2_ F2_ out2
         obtain ⟨r_, h0, hf1⟩ := bindE hf1
         have o6 := hasF h_tries_sorted (x := out2) h0 (loC F7_ out2 <| loN)
         have o7 := shM F2_ F2_ out2
         obtain rfl := someE hf1
         obtain rfl := hl1
         obtain rfl := someE hf0
         exact awpEnd ((xSeal TTab_ok (.inl 83) [82]).or X0) TTab_ok hC hm hE 4000 (hs := [bT, .g [], .l (out2.map F2_), .a (.tup [eSl 1 true F0_ r_.1, I r_.2]), .l (out2.map F2_)]) (x := (.tup [eSl 1 true F0_ r_.1, I r_.2])) [ob c4, ob (hasG h_tries_sorted), ob o5, ob o6, ob o7] (by kernel_rfl) (LeV.refl _)
        ·refine awpAt ((xSeal TTab_ok (.inl 83) [82]).or X0) TTab_ok hC hm [0,1,2,8,9,10,11,12,45,46,49,50,51,52,58] 4000 [bF, .cut 1] (sub [1,1,1,1,1,1,1,1,0,0,2,0,1,1,1,1] bd_tries_all) (frs [1,1,1,1,1,1,1,1,0,0,2,0,1,1,1,1] [J1, J2] bd_tries_all []) [(0, .d (I inputs)), (1, .d (I from_)), (2, .d (I to)), (8, .own (eOs 1 false F2_ out2)), (9, .own (eOs 1 false F2_ level)), (10, .d (I n_2)), (11, .d (I k_)), (12, .own (eOs 1 true F2_ [])), (45, .d (I n_2)), (46, .d (B (decide (n_2 > 65536)))), (49, .d (I k_)), (50, .d (I to)), (51, .d (B (decide (k_ < to)))), (52, .d (B (decide (k_ < to)))), (58, .d (B x581))] [ob c4] (by kernel_rfl) fun st0 h0 => ?_
         refine awpJoin' (X := List (List Int)) (x := (sub [1,1,1,1,1,1,1,1,0,0,2,0,1,1,1,1,2] bd_tries_all)) (y := (sub [1,1,1,1,1,1,1,1,0,0,2,0,1,1,1,1,1] bd_tries_all)) (by kernel_rfl) [0,1,2,8,10,11,12,45,46,49,50,51,52,58] [0,1,2,8,9,10,11,12,45,46,49,50,51,52,58] _ h0 (fun z => tries_all_J5 k_ out2 n_2 x581 z = some lr1) (fun z => ST_tries_all_J5 inputs from_ to k_ out2 n_2 x581 z) ?_ fun J5 hJ5 => ?_
         ·rintro next hf1
          unfold tries_all_J5 at hf1
          exact awpBack ((xSeal TTab_ok (.inl 83) [82]).or X0) TTab_ok hC hm [0,1,2,8,9,10,11,45,46,49,50,51,52,58] 4000 [] J2 [(0, .d (I inputs)), (1, .d (I from_)), (2, .d (I to)), (8, .own (eOs 1 false F2_ out2)), (9, .own (eOs 1 false F2_ next)), (10, .d (I n_2)), (11, .d (I k_)), (45, .d (I n_2)), (46, .d (B (decide (n_2 > 65536)))), (49, .d (I k_)), (50, .d (I to)), (51, .d (B (decide (k_ < to)))), (52, .d (B (decide (k_ < to)))), (58, .d (B x581))] [] (by kernel_rfl) fun st0 h0 => hJ2 st0 _ (out2, next, n_2, n_2, decide (n_2 > 65536), x581) hf1 h0 inferInstance
         ·obtain ⟨t6, ht6, hf1⟩ := bindE hf1
          refine awpAt ((xSeal TTab_ok (.inl 83) [82]).or X0) TTab_ok hC hm [0,1,2,8,9,10,11,12,45,46,49,50,51,52,58,67,68,69] 4000 [aLn level.length] (sub [1,1,1,1,1,1,1,1,0,0,2,0,1,1,1,1,2,1,0] bd_tries_all) (frs [1,1,1,1,1,1,1,1,0,0,2,0,1,1,1,1,2,1,0] [J1, J2, J5] bd_tries_all []) [(0, .d (I inputs)), (1, .d (I from_)), (2, .d (I to)), (8, .own (eOs 1 false F2_ out2)), (9, .own (eOs 1 false F2_ level)), (10, .d (I n_2)), (11, .d (I k_)), (12, .own (eOs 1 true F2_ [])), (45, .d (I n_2)), (46, .d (B (decide (n_2 > 65536)))), (49, .d (I k_)), (50, .d (I to)), (51, .d (B (decide (k_ < to)))), (52, .d (B (decide (k_ < to)))), (58, .d (B x581)), (67, .als 9 [] 0 0), (68, .d (I ((level.length : Nat) : Int))), (69, .d (I 0))] [ob (lnM F2_ level)] (by kernel_rfl) fun st0 h0 => ?_
          refine awpLoop' (X := (List (List Int) × Int) × Nat) (c' := (sub [1,1,1,1,1,1,1,1,0,0,2,0,1,1,1,1,2,1,0,0] bd_tries_all)) (by kernel_rfl) [0,1,2,8,9,10,11,12,45,46,49,50,51,52,58,67,68,69] (fun x => loopN (fun s => tries_all_L6 inputs level s.1 s.2) x.2 x.1 = some t6) (fun x => x.2) (fun x => ST_tries_all_L6 inputs from_ to level k_ out2 n_2 x581 x.1.1 x.1.2) ((([] : List (List Int)), 0), fuel) _ h0 inferInstance ht6 ?_
          rintro ⟨⟨next1, x69⟩, n6⟩ hn6 J6 hJ6
          obtain ⟨m6, lr2, rfl, hf2, hl2⟩ := loopE hn6
          try unfold tries_all_L6 at hf2
          rcases bifE hf2 with ⟨c5, hf2⟩ | ⟨c5, hf2⟩
          ·refine awpAt ((xSeal TTab_ok (.inl 83) [82]).or X0) TTab_ok hC hm [0,1,2,8,9,10,11,12,45,46,49,50,51,52,58,67,68,69] 4000 [bT, .cut 0] (sub [1,1,1,1,1,1,1,1,0,0,2,0,1,1,1,1,2,1,0,0,1,1] bd_tries_all) (frs [1,1,1,1,1,1,1,1,0,0,2,0,1,1,1,1,2,1,0,0,1,1] [J1, J2, J5, J6] bd_tries_all []) [(0, .d (I inputs)), (1, .d (I from_)), (2, .d (I to)), (8, .own (eOs 1 false F2_ out2)), (9, .own (eOs 1 false F2_ level)), (10, .d (I n_2)), (11, .d (I k_)), (12, .own (eOs 1 false F2_ next1)), (45, .d (I n_2)), (46, .d (B (decide (n_2 > 65536)))), (49, .d (I k_)), (50, .d (I to)), (51, .d (B (decide (k_ < to)))), (52, .d (B (decide (k_ < to)))), (58, .d (B x581)), (67, .als 9 [] 0 0), (68, .d (I ((level.length : Nat) : Int))), (69, .d (I x69))] [ob c5] (by kernel_rfl) fun st0 h0 => ?_
           refine awpJoin' (X := List (List Int)) (x := (sub [1,1,1,1,1,1,1,1,0,0,2,0,1,1,1,1,2,1,0,0,1,1,2] bd_tries_all)) (y := (sub [1,1,1,1,1,1,1,1,0,0,2,0,1,1,1,1,2,1,0,0,1,1,1] bd_tries_all)) (by kernel_rfl) [0,1,2,8,9,10,11,12,45,46,49,50,51,52,58,67,68,69] [0,1,2,8,9,10,11,12,45,46,49,50,51,52,58,67,68,69] _ h0 (fun z => tries_all_J7 x69 z = some lr2) (fun z => ST_tries_all_J7 inputs from_ to level k_ out2 n_2 x581 x69 z) ?_ fun J7 hJ7 => ?_
           ·rintro next2 hf2
            unfold tries_all_J7 at hf2
            obtain rfl := someE hf2
            exact awpBack ((xSeal TTab_ok (.inl 83) [82]).or X0) TTab_ok hC hm [0,1,2,8,9,10,11,12,45,46,49,50,51,52,58,67,68,69] 4000 [] J6 [(0, .d (I inputs)), (1, .d (I from_)), (2, .d (I to)), (8, .own (eOs 1 false F2_ out2)), (9, .own (eOs 1 false F2_ level)), (10, .d (I n_2)), (11, .d (I k_)), (12, .own (eOs 1 false F2_ next2)), (45, .d (I n_2)), (46, .d (B (decide (n_2 > 65536)))), (49, .d (I k_)), (50, .d (I to)), (51, .d (B (decide (k_ < to)))), (52, .d (B (decide (k_ < to)))), (58, .d (B x581)), (67, .als 9 [] 0 0), (68, .d (I ((level.length : Nat) : Int))), (69, .d (I (w64 (x69 + 1))))] [] (by kernel_rfl) fun st0 h0 => hJ6 st0 _ ((next2, w64 (x69 + 1)), m6) hl2 (Nat.lt_succ_self m6) h0 inferInstance
           ·obtain ⟨level_e, h1, hf2⟩ := bindE hf2
            obtain ⟨t8, ht8, hf2⟩ := bindE hf2
            refine awpAt ((xSeal TTab_ok (.inl 83) [82]).or X0) TTab_ok hC hm [0,1,2,8,9,10,11,12,14,45,46,49,50,51,52,58,67,68,69,73,74] 4000 [.a (F2_ level_e)] (sub [1,1,1,1,1,1,1,1,0,0,2,0,1,1,1,1,2,1,0,0,1,1,2,0,1,1,0] bd_tries_all) (frs [1,1,1,1,1,1,1,1,0,0,2,0,1,1,1,1,2,1,0,0,1,1,2,0,1,1,0] [J1, J2, J5, J6, J7] bd_tries_all []) [(0, .d (I inputs)), (1, .d (I from_)), (2, .d (I to)), (8, .own (eOs 1 false F2_ out2)), (9, .own (eOs 1 false F2_ level)), (10, .d (I n_2)), (11, .d (I k_)), (12, .own (eOs 1 false F2_ next1)), (14, .d (eSl 1 false (eI .i64) level_e)), (45, .d (I n_2)), (46, .d (B (decide (n_2 > 65536)))), (49, .d (I k_)), (50, .d (I to)), (51, .d (B (decide (k_ < to)))), (52, .d (B (decide (k_ < to)))), (58, .d (B x581)), (67, .als 9 [] 0 0), (68, .d (I ((level.length : Nat) : Int))), (69, .d (I x69)), (73, .d (I inputs)), (74, .d (I 0))] [ob (iL F2_ h1), ob (iM F2_ h1)] (by kernel_rfl) fun st0 h0 => ?_
            refine awpLoop' (X := (List (List Int) × Int) × Nat) (c' := (sub [1,1,1,1,1,1,1,1,0,0,2,0,1,1,1,1,2,1,0,0,1,1,2,0,1,1,0,0] bd_tries_all)) (by kernel_rfl) [0,1,2,8,9,10,11,12,14,45,46,49,50,51,52,58,67,68,69,73,74] (fun x => loopN (fun s => tries_all_L8 inputs level_e s.1 s.2) x.2 x.1 = some t8) (fun x => x.2) (fun x => ST_tries_all_L8 inputs from_ to level k_ out2 n_2 x581 x69 level_e x.1.1 x.1.2) ((next1,0), fuel) _ h0 inferInstance ht8 ?_
            rintro ⟨⟨next3, x74⟩, n8⟩ hn8 J8 hJ8
            obtain ⟨m8, lr3, rfl, hf3, hl3⟩ := loopE hn8
            try unfold tries_all_L8 at hf3
            rcases bifE hf3 with ⟨c6, hf3⟩ | ⟨c6, hf3⟩
            ·obtain ⟨r_1, h2, hf3⟩ := bindE hf3
             have o8 := hasF h_slices_Clip_int_int (x := level_e) h2 (loC F2_ level_e <| loN)
             obtain ⟨g0, hf3⟩ := gdE hf3
             have o9 := aN (eI .i64) (eI .i64) g0 (by simp)
             have o10 := aM (eI .i64) r_1 ([x74] : List Int)
             have o11 := shM (eI .i64) (eI .i64) (r_1 ++ ([x74] : List Int))
             have o12 := dM F2_ ([(r_1 ++ ([x74] : List Int))] : List (List Int))
             have o13 := dM F2_ ([(r_1 ++ ([x74] : List Int))] : List (List Int))
             obtain ⟨g1, hf3⟩ := gdE hf3
             have o14 := aL F2_ F2_ g1
             have o15 := aM F2_ next3 ([(r_1 ++ ([x74] : List Int))] : List (List Int))
             obtain rfl := someE hf3
             exact awpBack ((xSeal TTab_ok (.inl 83) [82]).or X0) TTab_ok hC hm [0,1,2,8,9,10,11,12,14,45,46,49,50,51,52,58,67,68,69,73,74] 4000 [bT, .g [], .a (F0_ r_1), bT, .l ((r_1 ++ ([x74] : List Int)).map (eI .i64)), .l ((r_1 ++ ([x74] : List Int)).map (eI .i64)), bT, .l ((next3 ++ ([(r_1 ++ ([x74] : List Int))] : List (List Int))).map F2_)] J8 [(0, .d (I inputs)), (1, .d (I from_)), (2, .d (I to)), (8, .own (eOs 1 false F2_ out2)), (9, .own (eOs 1 false F2_ level)), (10, .d (I n_2)), (11, .d (I k_)), (12, .own (eOs 1 false F2_ (next3 ++ ([(r_1 ++ ([x74] : List Int))] : List (List Int))))), (14, .d (eSl 1 false (eI .i64) level_e)), (45, .d (I n_2)), (46, .d (B (decide (n_2 > 65536)))), (49, .d (I k_)), (50, .d (I to)), (51, .d (B (decide (k_ < to)))), (52, .d (B (decide (k_ < to)))), (58, .d (B x581)), (67, .als 9 [] 0 0), (68, .d (I ((level.length : Nat) : Int))), (69, .d (I x69)), (73, .d (I inputs)), (74, .d (I (w64 (x74 + 1))))] [ob c6, ob (hasG h_slices_Clip_int_int), ob o8, ob (dM (eI .i64) ([x74] : List Int)), ob (dM (eI .i64) ([x74] : List Int)), ob o9, ob o10, ob o11, ob o12, ob o13, ob o14, ob o15] (by kernel_rfl) fun st0 h0 => hJ8 st0 _ (((next3 ++ ([(r_1 ++ ([x74] : List Int))] : List (List Int))), w64 (x74 + 1)), m8) hl3 (Nat.lt_succ_self m8) h0 inferInstance
            ·obtain rfl := someE hf3
             obtain rfl := hl3
             exact awpBack ((xSeal TTab_ok (.inl 83) [82]).or X0) TTab_ok hC hm [0,1,2,8,9,10,11,12,45,46,49,50,51,52,58,67,68,69] 4000 [bF] J7 [(0, .d (I inputs)), (1, .d (I from_)), (2, .d (I to)), (8, .own (eOs 1 false F2_ out2)), (9, .own (eOs 1 false F2_ level)), (10, .d (I n_2)), (11, .d (I k_)), (12, .own (eOs 1 false F2_ next3)), (45, .d (I n_2)), (46, .d (B (decide (n_2 > 65536)))), (49, .d (I k_)), (50, .d (I to)), (51, .d (B (decide (k_ < to)))), (52, .d (B (decide (k_ < to)))), (58, .d (B x581)), (67, .als 9 [] 0 0), (68, .d (I ((level.length : Nat) : Int))), (69, .d (I x69))] [ob c6] (by kernel_rfl) fun st0 h0 => hJ7 st0 _ next3 hf2 h0 inferInstance
          ·obtain rfl := someE hf2
           obtain rfl := hl2
           exact awpBack ((xSeal TTab_ok (.inl 83) [82]).or X0) TTab_ok hC hm [0,1,2,8,10,11,12,45,46,49,50,51,52,58] 4000 [bF] J5 [(0, .d (I inputs)), (1, .d (I from_)), (2, .d (I to)), (8, .own (eOs 1 false F2_ out2)), (10, .d (I n_2)), (11, .d (I k_)), (12, .own (eOs 1 false F2_ next1)), (45, .d (I n_2)), (46, .d (B (decide (n_2 > 65536)))), (49, .d (I k_)), (50, .d (I to)), (51, .d (B (decide (k_ < to)))), (52, .d (B (decide (k_ < to)))), (58, .d (B x581))] [ob c5] (by kernel_rfl) fun st0 h0 => hJ5 st0 _ next1 hf1 h0 inferInstance
       ·rcases bifE hf1 with ⟨c7, hf1⟩ | ⟨c7, hf1⟩
        ·have o16 := shM F2_ F2_ []
         obtain rfl := someE hf1
         obtain rfl := hl1
         obtain rfl := someE hf0
         exact awpEnd ((xSeal TTab_ok (.inl 83) [82]).or X0) TTab_ok hC hm hE 4000 (hs := (aLn out2.length :: (rpN 10 bT [.l ([].map F2_)]))) (x := (.tup [eSl 1 true F0_ [], I 3])) (ob (lnM F2_ out2) :: ob c7 :: ob c7 :: ob c7 :: (rpN 7 oT [ob o16])) (by kernel_rfl) (show LeV (.tup [eSl 1 true F0_ [], I 3]) (.tup [eSl 1 true F0_ ([] : List (List Int)), I 3]) from inferInstance)
        ·rcases bifE hf1 with ⟨c8, hf1⟩ | ⟨c8, hf1⟩
         ·have o17 := shM F2_ F2_ []
          obtain rfl := someE hf1
          obtain rfl := hl1
          obtain rfl := someE hf0
          exact awpEnd ((xSeal TTab_ok (.inl 83) [82]).or X0) TTab_ok hC hm hE 4000 (hs := (aLn out2.length :: bF :: bF :: bF :: (rpN 7 bT [.l ([].map F2_)]))) (x := (.tup [eSl 1 true F0_ [], I 3])) (ob (lnM F2_ out2) :: ob c7 :: ob c7 :: ob c7 :: (rpN 6 (ob c8) [oT, ob o17])) (by kernel_rfl) (show LeV (.tup [eSl 1 true F0_ [], I 3]) (.tup [eSl 1 true F0_ ([] : List (List Int)), I 3]) from inferInstance)
         ·rcases bifE hf1 with ⟨c9, hf1⟩ | ⟨c9, hf1⟩
          ·rcases bifE hf1 with ⟨c10, hf1⟩ | ⟨c10, hf1⟩
           ·have o18 := shM F2_ F2_ []
            obtain rfl := someE hf1
            obtain rfl := hl1
            obtain rfl := someE hf0
            exact awpEnd ((xSeal TTab_ok (.inl 83) [82]).or X0) TTab_ok hC hm hE 4000 (hs := (aLn out2.length :: (rpN 7 bF [bT, bT, aLn level.length, bT, bT, bT, bF, bT, bF, bT, .l ([].map F2_)]))) (x := (.tup [eSl 1 true F0_ [], I 3])) (ob (lnM F2_ out2) :: ob c7 :: ob c7 :: ob c7 :: (rpN 4 (ob c8) [ob c9, ob c9, ob (lnM F2_ level), ob c9, ob c9, ob c9, ob c8, ob c9, ob c8, ob c10, ob o18])) (by kernel_rfl) (show LeV (.tup [eSl 1 true F0_ [], I 3]) (.tup [eSl 1 true F0_ ([] : List (List Int)), I 3]) from inferInstance)
           ·exact awpBack ((xSeal TTab_ok (.inl 83) [82]).or X0) TTab_ok hC hm [0,1,2,8,9,10,11,45,46,49,50,51,52,58] 4000 (aLn out2.length :: (rpN 7 bF [bT, bT, aLn level.length, bT, bT, bT, bF, bT, bF, bF])) J4 [(0, .d (I inputs)), (1, .d (I from_)), (2, .d (I to)), (8, .own (eOs 1 false F2_ out2)), (9, .own (eOs 1 false F2_ level)), (10, .d (I n_2)), (11, .d (I k_)), (45, .d (I n_2)), (46, .d (B (decide (n_2 > 65536)))), (49, .d (I k_)), (50, .d (I to)), (51, .d (B (decide (k_ < to)))), (52, .d (B (decide (k_ < to)))), (58, .d (B (decide ((w64 (((level.length : Nat) : Int) * inputs)) > 4096))))] (ob (lnM F2_ out2) :: ob c7 :: ob c7 :: ob c7 :: (rpN 4 (ob c8) [ob c9, ob c9, ob (lnM F2_ level), ob c9, ob c9, ob c9, ob c8, ob c9, ob c8, ob c10])) (by kernel_rfl) fun st0 h0 => hJ4 st0 _ (decide ((w64 (((level.length : Nat) : Int) * inputs)) > 4096)) hf1 h0 inferInstance
          ·exact awpBack ((xSeal TTab_ok (.inl 83) [82]).or X0) TTab_ok hC hm [0,1,2,8,9,10,11,45,46,49,50,51,52,58] 4000 (aLn out2.length :: (rpN 16 bF [])) J4 [(0, .d (I inputs)), (1, .d (I from_)), (2, .d (I to)), (8, .own (eOs 1 false F2_ out2)), (9, .own (eOs 1 false F2_ level)), (10, .d (I n_2)), (11, .d (I k_)), (45, .d (I n_2)), (46, .d (B (decide (n_2 > 65536)))), (49, .d (I k_)), (50, .d (I to)), (51, .d (B (decide (k_ < to)))), (52, .d (B (decide (k_ < to)))), (58, .d (B false))] (ob (lnM F2_ out2) :: ob c7 :: ob c7 :: ob c7 :: (rpN 4 (ob c8) (rpN 5 (ob c9) [ob c8, ob c9, ob c8, oF]))) (by kernel_rfl) fun st0 h0 => hJ4 st0 _ false hf1 h0 inferInstance
      ·rcases bifE hf1 with ⟨c11, hf1⟩ | ⟨c11, hf1⟩
       ·obtain ⟨g2, hf1⟩ := gdE hf1
        have o19 := aL F2_ F2_ g2
        have o20 := aM F2_ out level
        exact awpBack ((xSeal TTab_ok (.inl 83) [82]).or X0) TTab_ok hC hm [0,1,2,8,9,10,11] 4000 [bT, bT, .l ((out ++ level).map F2_), aLn level.length] J3 [(0, .d (I inputs)), (1, .d (I from_)), (2, .d (I to)), (8, .own (eOs 1 false F2_ (out ++ level))), (9, .own (eOs 1 false F2_ level)), (10, .d (I (w64 (n_ + (w64 (k_ * ((level.length : Nat) : Int))))))), (11, .d (I k_))] [ob c11, ob (dM F2_ level), ob (dM F2_ level), ob o19, ob o20, ob (lnM F2_ level)] (by kernel_rfl) fun st0 h0 => hJ3 st0 _ ((out ++ level), w64 (n_ + (w64 (k_ * ((level.length : Nat) : Int))))) hf1 h0 inferInstance
       ·exact awpBack ((xSeal TTab_ok (.inl 83) [82]).or X0) TTab_ok hC hm [0,1,2,8,9,10,11] 4000 [bF] J3 [(0, .d (I inputs)), (1, .d (I from_)), (2, .d (I to)), (8, .own (eOs 1 false F2_ out)), (9, .own (eOs 1 false F2_ level)), (10, .d (I n_)), (11, .d (I k_))] [ob c11] (by kernel_rfl) fun st0 h0 => hJ3 st0 _ (out, n_) hf1 h0 inferInstance
noncomputable def bd_tries_Upto : Code := (Try.f25.body).getD .skip
noncomputable def sp_tries_Upto : Spec := spF (α := Int × Int) (ρ := List (List Int) × Int) 25 (fun x => [(eI .i64) x.1, (eI .i64) x.2]) (fun r => .tup [F4_ r.1, (eI .i64) r.2]) (fun x => tries_Upto x.1 x.2) [] (by
 rintro ⟨a0, a1⟩ ⟨b0, b1⟩ h
 have e0 := EncI.inj (f := (eI .i64)) _ _ (List.cons.inj h).1
 replace h := (List.cons.inj h).2
 have e1 := EncI.inj (f := (eI .i64)) _ _ (List.cons.inj h).1
 subst e0 e1
 rfl)
theorem w_tries_Upto {ctr : Ctr} (hC : CtrOk Try.prog ctr) (hm : Try.prog.follows .mixedOrders = true) (h_tries_all : ctr.Has sp_tries_all) : sp_tries_Upto.Ok Try.prog := by
 refine spF_ok ?_
 rintro ⟨inputs, k_⟩ r0 hf0
 try unfold tries_Upto at hf0
 refine callOk_h (tt := TTab) (keep := false) (rs := [(4, none), (5, none)]) (n := ⟨11, []⟩) (body := bd_tries_Upto) TTab_ok Try.func25 rfl (by kernel_rfl) rfl rfl (by show (2 : Nat) ≤ 11; decide) fun E hE => ?_
 obtain ⟨r_, h0, hf0⟩ := bindE hf0
 have o0 := hasF h_tries_all (x := (inputs, 0, k_)) h0 (loC (eI .i64) inputs <| loC (eI .i64) 0 <| loC (eI .i64) k_ <| loN)
 obtain rfl := someE hf0
 exact awpEnd X0 TTab_ok hC hm hE 4000 (hs := [.g [], .a (.tup [eSl 1 true F0_ r_.1, I r_.2])]) (x := (.tup [eSl 1 true F0_ r_.1, I r_.2])) [ob (hasG h_tries_all), ob o0] (by kernel_rfl) (LeV.refl _)
noncomputable def bd_tries_Exact : Code := (Try.f26.body).getD .skip
noncomputable def sp_tries_Exact : Spec := spF (α := Int × Int) (ρ := List (List Int) × Int) 26 (fun x => [(eI .i64) x.1, (eI .i64) x.2]) (fun r => .tup [F4_ r.1, (eI .i64) r.2]) (fun x => tries_Exact x.1 x.2) [] (by
 rintro ⟨a0, a1⟩ ⟨b0, b1⟩ h
 have e0 := EncI.inj (f := (eI .i64)) _ _ (List.cons.inj h).1
 replace h := (List.cons.inj h).2
 have e1 := EncI.inj (f := (eI .i64)) _ _ (List.cons.inj h).1
 subst e0 e1
 rfl)
theorem w_tries_Exact {ctr : Ctr} (hC : CtrOk Try.prog ctr) (hm : Try.prog.follows .mixedOrders = true) (h_tries_all : ctr.Has sp_tries_all) : sp_tries_Exact.Ok Try.prog := by
 refine spF_ok ?_
 rintro ⟨inputs, k_⟩ r0 hf0
 try unfold tries_Exact at hf0
 refine callOk_h (tt := TTab) (keep := false) (rs := [(4, none), (5, none)]) (n := ⟨12, []⟩) (body := bd_tries_Exact) TTab_ok Try.func26 rfl (by kernel_rfl) rfl rfl (by show (2 : Nat) ≤ 12; decide) fun E hE => ?_
 obtain ⟨r_, h0, hf0⟩ := bindE hf0
 have o0 := hasF h_tries_all (x := (inputs, k_, k_)) h0 (loC (eI .i64) inputs <| loC (eI .i64) k_ <| loC (eI .i64) k_ <| loN)
 obtain rfl := someE hf0
 exact awpEnd X0 TTab_ok hC hm hE 4000 (hs := [.g [], .a (.tup [eSl 1 true F0_ r_.1, I r_.2])]) (x := (.tup [eSl 1 true F0_ r_.1, I r_.2])) [ob (hasG h_tries_all), ob o0] (by kernel_rfl) (LeV.refl _)
noncomputable def bd_slices_Clip_tries_Node_tries_Node : Code := (Try.f84.body).getD .skip
noncomputable def sp_slices_Clip_tries_Node_tries_Node : Spec := spF (α := List S_tries_Node) (ρ := List S_tries_Node) 84 (fun x => [F18_ x]) (fun r => F17_ r) (fun x => slices_Clip_tries_Node_tries_Node x) [] (by
 rintro a0 b0 h
 have e0 := EncI.inj (f := F18_) _ _ (List.cons.inj h).1
 subst e0
 rfl)
theorem w_slices_Clip_tries_Node_tries_Node {ctr : Ctr} (hC : CtrOk Try.prog ctr) (hm : Try.prog.follows .mixedOrders = true) : sp_slices_Clip_tries_Node_tries_Node.Ok Try.prog := by
 refine spF_ok ?_
 rintro s_ r0 hf0
 try unfold slices_Clip_tries_Node_tries_Node at hf0
 refine callOk_h (tt := TTab) (keep := true) (rs := [(2, none)]) (n := ⟨9, []⟩) (body := bd_slices_Clip_tries_Node_tries_Node) TTab_ok Try.func84 rfl (by kernel_rfl) rfl rfl (by show (1 : Nat) ≤ 9; decide) fun E hE => ?_
 have o0 := lnM F11_ s_
 have o1 := lnM F11_ s_
 obtain ⟨g0, hf0⟩ := gdE hf0
 have o2 := sl011 F11_ g0
 have o3 := slT1 2 F11_ s_ 0 ((s_.length : Nat) : Int).toNat
 obtain rfl := someE hf0
 exact awpEnd X0 TTab_ok hC hm hE 4000 (hs := [aLn s_.length, aLn s_.length, .a (eSl 2 true F11_ ((s_.drop 0).take (((s_.length : Nat) : Int).toNat - 0)))]) (x := (eSl 2 true F11_ ((s_.drop 0).take (((s_.length : Nat) : Int).toNat - 0)))) [ob o0, ob o1, ob (slB g0), ob (slC g0), ob o2, ob o3] (by kernel_rfl) (LeV.refl _)
noncomputable def bd_tries_builder_ordered : Code := (Try.f63.body).getD .skip
noncomputable def sp_tries_builder_ordered : Spec := spF (α := S_tries_builder) (ρ := List S_tries_Node) 63 (fun x => [F27_ x]) (fun r => F17_ r) (fun x => tries_builder_ordered x) [true] (by
 rintro a0 b0 h
 have e0 := EncI.inj (f := F27_) _ _ (List.cons.inj h).1
 subst e0
 rfl)
abbrev ST_tries_builder_ordered_I1 (b_ : S_tries_builder) (r_ : List S_tries_Node) (number : List Int) (order : List Int) : List (Nat × T) := [(0, .d (.sptr (F25_ b_))), (3, .own (.box (eOs 1 true (eI .i64) number))), (4, .own (.box (eOs 1 false (eI .i64) order))), (22, .d (.fn 85 [.sptr (eSl 2 false F11_ r_)]))]
abbrev ST_tries_builder_ordered_J2 (out : List S_tries_Node) : List (Nat × T) := [(6, .own (eOs 2 false F12_ out))]
abbrev ST_tries_builder_ordered_J4 (b_ : S_tries_builder) (bo : List Int × List Int) (x37 : Int) (b_nodes1 : List (Option S_tries_Node)) (out2 : List S_tries_Node) : List (Nat × T) := [(0, .own (.box (.agg [I b_.inputs_, eOs 2 false (eOp 2 F12_) b_nodes1]))), (3, .own (.box (eOs 1 true (eI .i64) bo.1))), (6, .own (eOs 2 false F12_ out2)), (35, .d (eSl 1 false (eI .i64) bo.2)), (36, .d (I ((bo.2.length : Nat) : Int))), (37, .d (I x37))]
abbrev ST_tries_builder_ordered_J5 (b_ : S_tries_builder) (bo : List Int × List Int) (b_nodes : List (Option S_tries_Node)) (out1 : List S_tries_Node) (x37 : Int) (u_ : Int) (b_node_e : S_tries_Node) (n_Next : List Int) : List (Nat × T) := [(0, .own (.box (.agg [I b_.inputs_, eOs 2 false (eOp 2 F12_) (b_nodes.set u_.toNat none)]))), (3, .own (.box (eOs 1 true (eI .i64) bo.1))), (6, .own (eOs 2 false F12_ out1)), (9, .own (.box (.agg [eOs 1 false (eI .i64) n_Next, B b_node_e.End]))), (35, .d (eSl 1 false (eI .i64) bo.2)), (36, .d (I ((bo.2.length : Nat) : Int))), (37, .d (I x37))]
abbrev ST_tries_builder_ordered_J7 (b_ : S_tries_builder) (bo : List Int × List Int) (b_nodes : List (Option S_tries_Node)) (out1 : List S_tries_Node) (x37 : Int) (u_ : Int) (b_node_e : S_tries_Node) (x51 : Int) (n_Next2 : List Int) : List (Nat × T) := [(0, .own (.box (.agg [I b_.inputs_, eOs 2 false (eOp 2 F12_) (b_nodes.set u_.toNat none)]))), (3, .own (.box (eOs 1 true (eI .i64) bo.1))), (6, .own (eOs 2 false F12_ out1)), (9, .own (.box (.agg [eOs 1 false (eI .i64) n_Next2, B b_node_e.End]))), (35, .d (eSl 1 false (eI .i64) bo.2)), (36, .d (I ((bo.2.length : Nat) : Int))), (37, .d (I x37)), (49, .als 9 [.deref, .fld 0] 0 0), (50, .d (I ((b_node_e.Next.length : Nat) : Int))), (51, .d (I x51))]
abbrev ST_tries_builder_ordered_L6 (b_ : S_tries_builder) (bo : List Int × List Int) (b_nodes : List (Option S_tries_Node)) (out1 : List S_tries_Node) (x37 : Int) (u_ : Int) (b_node_e : S_tries_Node) (n_Next1 : List Int) (x51 : Int) : List (Nat × T) := [(0, .own (.box (.agg [I b_.inputs_, eOs 2 false (eOp 2 F12_) (b_nodes.set u_.toNat none)]))), (3, .own (.box (eOs 1 true (eI .i64) bo.1))), (6, .own (eOs 2 false F12_ out1)), (9, .own (.box (.agg [eOs 1 false (eI .i64) n_Next1, B b_node_e.End]))), (35, .d (eSl 1 false (eI .i64) bo.2)), (36, .d (I ((bo.2.length : Nat) : Int))), (37, .d (I x37)), (49, .als 9 [.deref, .fld 0] 0 0), (50, .d (I ((b_node_e.Next.length : Nat) : Int))), (51, .d (I x51))]
abbrev ST_tries_builder_ordered_L3 (b_ : S_tries_builder) (bo : List Int × List Int) (b_nodes : List (Option S_tries_Node)) (out1 : List S_tries_Node) (x37 : Int) : List (Nat × T) := [(0, .own (.box (.agg [I b_.inputs_, eOs 2 false (eOp 2 F12_) b_nodes]))), (3, .own (.box (eOs 1 true (eI .i64) bo.1))), (6, .own (eOs 2 false F12_ out1)), (35, .d (eSl 1 false (eI .i64) bo.2)), (36, .d (I ((bo.2.length : Nat) : Int))), (37, .d (I x37))]
theorem w_tries_builder_ordered {ctr : Ctr} (hC : CtrOk Try.prog ctr) (hm : Try.prog.follows .mixedOrders = true) (h_tries_walk : ctr.Has sp_tries_walk) (h_slices_Clip_int_int : ctr.Has sp_slices_Clip_int_int) (h_slices_Clip_tries_Node_tries_Node : ctr.Has sp_slices_Clip_tries_Node_tries_Node) : sp_tries_builder_ordered.Ok Try.prog := by
 refine spF_ok ?_
 rintro b_ r0 hf0
 try unfold tries_builder_ordered at hf0
 refine callOk_h (tt := TTab) (keep := true) (rs := [(2, none)]) (n := ⟨74, []⟩) (body := bd_tries_builder_ordered) TTab_ok Try.func63 rfl (by kernel_rfl) rfl rfl (by show (1 : Nat) ≤ 74; decide) fun E hE => ?_
 refine awpPin1 (y := .box (.agg [I b_.inputs_, eOs 2 false F12_ b_.nodes_])) rfl 0 (by kernel_rfl) (by kernel_rfl) fun pv0 hv0 => ?_
 have o0 := lnM F12_ b_.nodes_
 obtain ⟨g0, hf0⟩ := gdE hf0
 have o1 := rM 1 (eI .i64) ((b_.nodes_.length : Nat) : Int) (0 : Int)
 refine awpAt X0 TTab_ok hC hm [0,3,4] 4000 [aLn b_.nodes_.length, .a (eOs 1 true (eI .i64) (List.replicate ((b_.nodes_.length : Nat) : Int).toNat (0 : Int))), .cut 1] (sub [1,1,1] bd_tries_builder_ordered) (frs [1,1,1] [] bd_tries_builder_ordered []) [(0, .own (.box (F24_ b_))), (3, .own (.box (eOs 1 true (eI .i64) (List.replicate ((b_.nodes_.length : Nat) : Int).toNat (0 : Int))))), (4, .own (.box (eOs 1 true (eI .i64) [])))] [ob o0, ob (rL g0), ob o1] (by kernel_rfl) fun st0 h0 => awpOf h0 ?_
 obtain ⟨bo, hq, hf0⟩ := bindE hf0
 refine awpBorrow (a := (sub [1,1,1,0,0] bd_tries_builder_ordered)) (b := (sub [1,1,1,0,1] bd_tries_builder_ordered)) (y := (sub [1,1,1,1] bd_tries_builder_ordered)) (by kernel_rfl) 0 (v := pv0) (x := .box (.agg [I b_.inputs_, eOs 2 false F12_ b_.nodes_])) (x' := .sptr (.agg [I b_.inputs_, eSl 2 false F11_ b_.nodes_])) [0,3,4] [0,3,4] [(0, .d (.sptr (F25_ b_))), (3, .own (.box (eOs 1 true (eI .i64) (List.replicate ((b_.nodes_.length : Nat) : Int).toNat (0 : Int))))), (4, .own (.box (eOs 1 true (eI .i64) [])))] [(0, .d (.sptr (F25_ b_))), (3, .own (.box (eOs 1 true (eI .i64) bo.1))), (4, .own (.box (eOs 1 false (eI .i64) bo.2)))] [(0, .own (.box (F24_ b_))), (3, .own (.box (eOs 1 true (eI .i64) bo.1))), (4, .own (.box (eOs 1 false (eI .i64) bo.2)))] (by kernel_rfl) ⟨EncS.live (f := F27_) b_, EncS.sh (f := F27_) b_⟩ (by kernel_rfl) (by kernel_rfl) (inE (.inl rfl) (inE (.inr (inB _ _ _ _)) (inE (.inr (inB _ _ _ _)) inN))) (by kernel_rfl) (by kernel_rfl) ?_ ?_
 ·unfold tries_builder_ordered_q1 at hq
  obtain ⟨r_, h0, hq⟩ := bindE hq
  have o2 := hasF h_tries_walk (x := b_.nodes_) h0 (loC F18_ b_.nodes_ <| loN)
  refine awpFin X0 TTab_ok hC hm [0,3,4,22] 4000 [.g [], .a ((eFn1 85 F20_) r_)] .normal [(0, .d (.sptr (F25_ b_))), (3, .own (.box (eOs 1 true (eI .i64) (List.replicate ((b_.nodes_.length : Nat) : Int).toNat (0 : Int))))), (4, .own (.box (eOs 1 true (eI .i64) []))), (22, .d (.fn 85 [.sptr (eSl 2 false F11_ r_)]))] [ob (hasG h_tries_walk), ob o2] (by kernel_rfl) fun st0 h0 => ⟨rfl, awpOf h0 ?_⟩
  obtain ⟨t1, ht1, hq⟩ := bindE hq
  refine awpAt X0 TTab_ok hC hm [0,3,4,22] 4000 [] (sub [1,1,1,0,1,0] bd_tries_builder_ordered) [.blk 0] [(0, .d (.sptr (F25_ b_))), (3, .own (.box (eOs 1 true (eI .i64) (List.replicate ((b_.nodes_.length : Nat) : Int).toNat (0 : Int))))), (4, .own (.box (eOs 1 true (eI .i64) []))), (22, .d (.fn 85 [.sptr (eSl 2 false F11_ r_)]))] [] (by kernel_rfl) fun st0 h0 => ?_
  refine awpIter (g := .tmp 22) (ps := [23]) (assign := (sub [1,1,1,0,1,0,0] bd_tries_builder_ordered)) (body := (sub [1,1,1,0,1,0,1] bd_tries_builder_ordered)) (K := 85) (caps := [.sptr (eSl 2 false F11_ r_)]) (by kernel_rfl) [0,3,4,22] (fun s => ST_tries_builder_ordered_I1 b_ r_ s.1 s.2) (fun z => nomatch z) (fun z => nomatch z) ((fun (x : S_tries_place) (_ : Bool) (_ : Value) => [F15_ x])) (F := @tries_walk_1 r_) (fun s x => tries_builder_ordered_I1 s.1 s.2 x) ((List.replicate ((b_.nodes_.length : Nat) : Int).toNat (0 : Int)), ([] : List Int)) t1 _ h0 inferInstance (by kernel_rfl) (by decide) (fun _ => rfl) (by rintro ⟨⟩) (by kernel_rfl) (fun _ _ _ => rfl) (w_tries_walk_1 hC hm h_slices_Clip_int_int r_) ht1 ?_ ?_
  ·rintro tv1 ⟨number, order⟩ x23 vr lr2 hf2
   replace hf2 : tries_builder_ordered_I1 number order x23 = some lr2 := hf2
   unfold tries_builder_ordered_I1 at hf2
   refine awpFin X0 TTab_ok hC hm [0,3,4,5,22] 4000 [] .normal [(0, .d (.sptr (F25_ b_))), (3, .own (.box (eOs 1 true (eI .i64) number))), (4, .own (.box (eOs 1 false (eI .i64) order))), (5, .own (.box (F15_ x23))), (22, .d (.fn 85 [.sptr (eSl 2 false F11_ r_)]))] [] (by kernel_rfl) fun st0 h0 => ⟨rfl, awpOf h0 ?_⟩
   obtain ⟨number_e, h1, hf2⟩ := bindE hf2
   have o3 := sM (eI .i64) number x23.at_ ((order.length : Nat) : Int)
   have o4 := dM (eI .i64) ([x23.at_] : List Int)
   have o5 := dM (eI .i64) ([x23.at_] : List Int)
   obtain ⟨g1, hf2⟩ := gdE hf2
   have o6 := aM (eI .i64) order ([x23.at_] : List Int)
   obtain rfl := someE hf2
   exact awpFin X0 TTab_ok hC hm [0,3,4,22] 4000 [aLn order.length, .a ((eI .i64) number_e), .a ((eI .i64) number_e), .l ((number.set x23.at_.toNat ((order.length : Nat) : Int)).map (eI .i64)), bT, .l ((order ++ ([x23.at_] : List Int)).map (eI .i64))] .normal [(0, .d (.sptr (F25_ b_))), (3, .own (.box (eOs 1 true (eI .i64) (number.set x23.at_.toNat ((order.length : Nat) : Int))))), (4, .own (.box (eOs 1 false (eI .i64) (order ++ ([x23.at_] : List Int))))), (22, .d (.fn 85 [.sptr (eSl 2 false F11_ r_)]))] [ob (lnM (eI .i64) order), ob (iL (eI .i64) h1), ob (iM (eI .i64) h1), ob (iM (eI .i64) h1), ob o3, ob o4, ob o5, ob (aL (eI .i64) (eI .i64) g1), ob o6] (by kernel_rfl) fun st0 h0 => ⟨rfl, _, h0, (inferInstance : LeL [(0, .d (.sptr (F25_ b_))), (3, .own (.box (eOs 1 true (eI .i64) (number.set x23.at_.toNat ((order.length : Nat) : Int))))), (4, .own (.box (eOs 1 false (eI .i64) (order ++ ([x23.at_] : List Int))))), (22, .d (.fn 85 [.sptr (eSl 2 false F11_ r_)]))] (ST_tries_builder_ordered_I1 b_ r_ (number.set x23.at_.toNat ((order.length : Nat) : Int)) (order ++ ([x23.at_] : List Int))))⟩
  ·rcases t1 with ⟨number, order⟩ | z
   ·dsimp only at hq
    obtain rfl := someE hq
    exact qfBlk ⟨rfl, by kernel_rfl⟩
   ·cases z
 ·refine awpAt X0 TTab_ok hC hm [0,3,4,6] 4000 [.v 2 [4], .l (bo.2.map (eI .i64)), .cut 0] (sub [1,1,1,1,1] bd_tries_builder_ordered) (frs [1,1,1,1,1] [] bd_tries_builder_ordered []) [(0, .own (.box (F24_ b_))), (3, .own (.box (eOs 1 true (eI .i64) bo.1))), (4, .own (.box (eSl 1 false (eI .i64) bo.2))), (6, .own (eOs 2 true F11_ []))] [ob (shM (eI .i64) (eI .i64) bo.2)] (by kernel_rfl) fun st0 h0 => ?_
  refine awpJoin' (X := List S_tries_Node) (x := (sub [1,1,1,1,1,2] bd_tries_builder_ordered)) (y := (sub [1,1,1,1,1,1] bd_tries_builder_ordered)) (by kernel_rfl) [6] [0,3,4,6] _ h0 (fun z => tries_builder_ordered_J2 z = some r0) (fun z => ST_tries_builder_ordered_J2 z) ?_ fun J2 hJ2 => ?_
  ·rintro out hf0
   unfold tries_builder_ordered_J2 at hf0
   have o7 := hasG h_slices_Clip_tries_Node_tries_Node
   have o8 := shM F12_ F11_ out
   obtain ⟨r_1, h2, hf0⟩ := bindE hf0
   have o9 := hasF h_slices_Clip_tries_Node_tries_Node (x := out) h2 (loC F18_ out <| loN)
   have o10 := shM F12_ F11_ out
   obtain rfl := someE hf0
   exact awpEnd X0 TTab_ok hC hm hE 4000 (hs := [.g [], .l (out.map F11_), .a (F17_ r_1), .l (out.map F11_)]) (x := (eSl 2 true F11_ r_1)) [ob o7, ob o8, ob o9, ob o10] (by kernel_rfl) (LeV.refl _)
  ·obtain ⟨t3, ht3, hf0⟩ := bindE hf0
   refine awpAt X0 TTab_ok hC hm [0,3,6,35,36,37] 4000 [aLn bo.2.length] (sub [1,1,1,1,1,2,1,0] bd_tries_builder_ordered) (frs [1,1,1,1,1,2,1,0] [J2] bd_tries_builder_ordered []) [(0, .own (.box (.agg [I b_.inputs_, eOs 2 false F12_ b_.nodes_]))), (3, .own (.box (eOs 1 true (eI .i64) bo.1))), (6, .own (eOs 2 true F12_ [])), (35, .d (eSl 1 false (eI .i64) bo.2)), (36, .d (I ((bo.2.length : Nat) : Int))), (37, .d (I 0))] [ob (lnM (eI .i64) bo.2)] (by kernel_rfl) fun st0 h0 => ?_
   refine awpLoop' (X := (List (Option S_tries_Node) × List S_tries_Node × Int) × Nat) (c' := (sub [1,1,1,1,1,2,1,0,0] bd_tries_builder_ordered)) (by kernel_rfl) [0,3,6,35,36,37] (fun x => loopN (fun s => tries_builder_ordered_L3 bo s.1 s.2.1 s.2.2) x.2 x.1 = some t3) (fun x => x.2) (fun x => ST_tries_builder_ordered_L3 b_ bo x.1.1 x.1.2.1 x.1.2.2) (((b_.nodes_.map some), ([] : List S_tries_Node), 0), fuel) _ h0 inferInstance ht3 ?_
   rintro ⟨⟨b_nodes, out1, x37⟩, n3⟩ hn3 J3 hJ3
   obtain ⟨m3, lr1, rfl, hf1, hl1⟩ := loopE hn3
   try unfold tries_builder_ordered_L3 at hf1
   rcases bifE hf1 with ⟨c0, hf1⟩ | ⟨c0, hf1⟩
   ·refine awpAt X0 TTab_ok hC hm [0,3,6,35,36,37] 4000 [bT, .cut 0] (sub [1,1,1,1,1,2,1,0,0,1,1] bd_tries_builder_ordered) (frs [1,1,1,1,1,2,1,0,0,1,1] [J2, J3] bd_tries_builder_ordered []) [(0, .own (.box (.agg [I b_.inputs_, eOs 2 false (eOp 2 F12_) b_nodes]))), (3, .own (.box (eOs 1 true (eI .i64) bo.1))), (6, .own (eOs 2 false F12_ out1)), (35, .d (eSl 1 false (eI .i64) bo.2)), (36, .d (I ((bo.2.length : Nat) : Int))), (37, .d (I x37))] [ob c0] (by kernel_rfl) fun st0 h0 => ?_
    refine awpJoin' (X := List (Option S_tries_Node) × List S_tries_Node) (x := (sub [1,1,1,1,1,2,1,0,0,1,1,2] bd_tries_builder_ordered)) (y := (sub [1,1,1,1,1,2,1,0,0,1,1,1] bd_tries_builder_ordered)) (by kernel_rfl) [0,3,6,35,36,37] [0,3,6,35,36,37] _ h0 (fun z => tries_builder_ordered_J4 x37 z.1 z.2 = some lr1) (fun z => ST_tries_builder_ordered_J4 b_ bo x37 z.1 z.2) ?_ fun J4 hJ4 => ?_
    ·rintro ⟨b_nodes1, out2⟩ hf1
     unfold tries_builder_ordered_J4 at hf1
     obtain rfl := someE hf1
     exact awpBack X0 TTab_ok hC hm [0,3,6,35,36,37] 4000 [] J3 [(0, .own (.box (.agg [I b_.inputs_, eOs 2 false (eOp 2 F12_) b_nodes1]))), (3, .own (.box (eOs 1 true (eI .i64) bo.1))), (6, .own (eOs 2 false F12_ out2)), (35, .d (eSl 1 false (eI .i64) bo.2)), (36, .d (I ((bo.2.length : Nat) : Int))), (37, .d (I (w64 (x37 + 1))))] [] (by kernel_rfl) fun st0 h0 => hJ3 st0 _ ((b_nodes1, out2, w64 (x37 + 1)), m3) hl1 (Nat.lt_succ_self m3) h0 inferInstance
    ·obtain ⟨u_, h3, hf1⟩ := bindE hf1
     obtain ⟨there, h4, hf1⟩ := bindE hf1
     obtain ⟨b_node_e, h5, hf1⟩ := bindE hf1
     have o11 := iL (eOp 2 F12_) h4
     have o12 := iMo 2 F12_ h4 h5
     have o13 := iMo 2 F12_ h4 h5
     have o14 := iMo 2 F12_ h4 h5
     have o15 := sMn 2 F12_ b_nodes u_
     refine awpAt X0 TTab_ok hC hm [0,3,6,9,35,36,37] 4000 [.a ((eI .i64) u_), .a (F12_ b_node_e), .a (F12_ b_node_e), .a (F12_ b_node_e), .l ((b_nodes.set u_.toNat none).map (eOp 2 F12_)), .cut 0] (sub [1,1,1,1,1,2,1,0,0,1,1,2,0,1,1] bd_tries_builder_ordered) (frs [1,1,1,1,1,2,1,0,0,1,1,2,0,1,1] [J2, J3, J4] bd_tries_builder_ordered []) [(0, .own (.box (.agg [I b_.inputs_, eOs 2 false (eOp 2 F12_) (b_nodes.set u_.toNat none)]))), (3, .own (.box (eOs 1 true (eI .i64) bo.1))), (6, .own (eOs 2 false F12_ out1)), (9, .own (.box (F12_ b_node_e))), (35, .d (eSl 1 false (eI .i64) bo.2)), (36, .d (I ((bo.2.length : Nat) : Int))), (37, .d (I x37))] [ob (i0 h3), ob (iM (eI .i64) h3), ob o11, ob o12, ob o13, ob o14, ob o15] (by kernel_rfl) fun st0 h0 => ?_
     refine awpJoin' (X := List Int) (x := (sub [1,1,1,1,1,2,1,0,0,1,1,2,0,1,1,2] bd_tries_builder_ordered)) (y := (sub [1,1,1,1,1,2,1,0,0,1,1,2,0,1,1,1] bd_tries_builder_ordered)) (by kernel_rfl) [0,3,6,9,35,36,37] [0,3,6,9,35,36,37] _ h0 (fun z => tries_builder_ordered_J5 b_nodes out1 x37 u_ b_node_e z = some lr1) (fun z => ST_tries_builder_ordered_J5 b_ bo b_nodes out1 x37 u_ b_node_e z) ?_ fun J5 hJ5 => ?_
     ·rintro n_Next hf1
      unfold tries_builder_ordered_J5 at hf1
      have o16 := oC F12_ (S_tries_Node.mk n_Next b_node_e.End) []
      obtain ⟨g2, hf1⟩ := gdE hf1
      have o17 := aL F12_ F12_ g2
      have o18 := aM F12_ out1 ([(S_tries_Node.mk n_Next b_node_e.End)] : List S_tries_Node)
      exact awpBack X0 TTab_ok hC hm [0,3,6,35,36,37] 4000 [bF, .l ((out1 ++ ([(S_tries_Node.mk n_Next b_node_e.End)] : List S_tries_Node)).map F12_)] J4 [(0, .own (.box (.agg [I b_.inputs_, eOs 2 false (eOp 2 F12_) (b_nodes.set u_.toNat none)]))), (3, .own (.box (eOs 1 true (eI .i64) bo.1))), (6, .own (eOs 2 false F12_ (out1 ++ ([(S_tries_Node.mk n_Next b_node_e.End)] : List S_tries_Node)))), (35, .d (eSl 1 false (eI .i64) bo.2)), (36, .d (I ((bo.2.length : Nat) : Int))), (37, .d (I x37))] [ob o16, ob o17, ob o18] (by kernel_rfl) fun st0 h0 => hJ4 st0 _ ((b_nodes.set u_.toNat none), (out1 ++ ([(S_tries_Node.mk n_Next b_node_e.End)] : List S_tries_Node))) hf1 h0 inferInstance
     ·obtain ⟨t6, ht6, hf1⟩ := bindE hf1
      refine awpAt X0 TTab_ok hC hm [0,3,6,9,35,36,37,49,50,51] 4000 [aLn b_node_e.Next.length] (sub [1,1,1,1,1,2,1,0,0,1,1,2,0,1,1,2,1,0] bd_tries_builder_ordered) (frs [1,1,1,1,1,2,1,0,0,1,1,2,0,1,1,2,1,0] [J2, J3, J4, J5] bd_tries_builder_ordered []) [(0, .own (.box (.agg [I b_.inputs_, eOs 2 false (eOp 2 F12_) (b_nodes.set u_.toNat none)]))), (3, .own (.box (eOs 1 true (eI .i64) bo.1))), (6, .own (eOs 2 false F12_ out1)), (9, .own (.box (.agg [eOs 1 false (eI .i64) b_node_e.Next, B b_node_e.End]))), (35, .d (eSl 1 false (eI .i64) bo.2)), (36, .d (I ((bo.2.length : Nat) : Int))), (37, .d (I x37)), (49, .als 9 [.deref, .fld 0] 0 0), (50, .d (I ((b_node_e.Next.length : Nat) : Int))), (51, .d (I 0))] [ob (lnM (eI .i64) b_node_e.Next)] (by kernel_rfl) fun st0 h0 => ?_
      refine awpLoop' (X := (List Int × Int) × Nat) (c' := (sub [1,1,1,1,1,2,1,0,0,1,1,2,0,1,1,2,1,0,0] bd_tries_builder_ordered)) (by kernel_rfl) [0,3,6,9,35,36,37,49,50,51] (fun x => loopN (fun s => tries_builder_ordered_L6 bo b_node_e s.1 s.2) x.2 x.1 = some t6) (fun x => x.2) (fun x => ST_tries_builder_ordered_L6 b_ bo b_nodes out1 x37 u_ b_node_e x.1.1 x.1.2) ((b_node_e.Next, 0), fuel) _ h0 inferInstance ht6 ?_
      rintro ⟨⟨n_Next1, x51⟩, n6⟩ hn6 J6 hJ6
      obtain ⟨m6, lr2, rfl, hf2, hl2⟩ := loopE hn6
      try unfold tries_builder_ordered_L6 at hf2
      rcases bifE hf2 with ⟨c1, hf2⟩ | ⟨c1, hf2⟩
      ·refine awpAt X0 TTab_ok hC hm [0,3,6,9,35,36,37,49,50,51] 4000 [bT, .cut 0] (sub [1,1,1,1,1,2,1,0,0,1,1,2,0,1,1,2,1,0,0,1,1] bd_tries_builder_ordered) (frs [1,1,1,1,1,2,1,0,0,1,1,2,0,1,1,2,1,0,0,1,1] [J2, J3, J4, J5, J6] bd_tries_builder_ordered []) [(0, .own (.box (.agg [I b_.inputs_, eOs 2 false (eOp 2 F12_) (b_nodes.set u_.toNat none)]))), (3, .own (.box (eOs 1 true (eI .i64) bo.1))), (6, .own (eOs 2 false F12_ out1)), (9, .own (.box (.agg [eOs 1 false (eI .i64) n_Next1, B b_node_e.End]))), (35, .d (eSl 1 false (eI .i64) bo.2)), (36, .d (I ((bo.2.length : Nat) : Int))), (37, .d (I x37)), (49, .als 9 [.deref, .fld 0] 0 0), (50, .d (I ((b_node_e.Next.length : Nat) : Int))), (51, .d (I x51))] [ob c1] (by kernel_rfl) fun st0 h0 => ?_
       refine awpJoin' (X := List Int) (x := (sub [1,1,1,1,1,2,1,0,0,1,1,2,0,1,1,2,1,0,0,1,1,2] bd_tries_builder_ordered)) (y := (sub [1,1,1,1,1,2,1,0,0,1,1,2,0,1,1,2,1,0,0,1,1,1] bd_tries_builder_ordered)) (by kernel_rfl) [0,3,6,9,35,36,37,49,50,51] [0,3,6,9,35,36,37,49,50,51] _ h0 (fun z => tries_builder_ordered_J7 x51 z = some lr2) (fun z => ST_tries_builder_ordered_J7 b_ bo b_nodes out1 x37 u_ b_node_e x51 z) ?_ fun J7 hJ7 => ?_
       ·rintro n_Next2 hf2
        unfold tries_builder_ordered_J7 at hf2
        obtain rfl := someE hf2
        exact awpBack X0 TTab_ok hC hm [0,3,6,9,35,36,37,49,50,51] 4000 [] J6 [(0, .own (.box (.agg [I b_.inputs_, eOs 2 false (eOp 2 F12_) (b_nodes.set u_.toNat none)]))), (3, .own (.box (eOs 1 true (eI .i64) bo.1))), (6, .own (eOs 2 false F12_ out1)), (9, .own (.box (.agg [eOs 1 false (eI .i64) n_Next2, B b_node_e.End]))), (35, .d (eSl 1 false (eI .i64) bo.2)), (36, .d (I ((bo.2.length : Nat) : Int))), (37, .d (I x37)), (49, .als 9 [.deref, .fld 0] 0 0), (50, .d (I ((b_node_e.Next.length : Nat) : Int))), (51, .d (I (w64 (x51 + 1))))] [] (by kernel_rfl) fun st0 h0 => hJ6 st0 _ ((n_Next2, w64 (x51 + 1)), m6) hl2 (Nat.lt_succ_self m6) h0 inferInstance
       ·obtain ⟨n_Next_e, h6, hf2⟩ := bindE hf2
        rcases bifE hf2 with ⟨c2, hf2⟩ | ⟨c2, hf2⟩
        ·obtain ⟨u_1, h7, hf2⟩ := bindE hf2
         obtain ⟨n_Next_e1, h8, hf2⟩ := bindE hf2
         exact awpBack ((xRf TTab_ok 65 9 0 49).or X0) TTab_ok hC hm [0,3,6,9,35,36,37,49,50,51] 4000 [.a ((eI .i64) n_Next_e), bT, .a ((eI .i64) u_1), .a ((eI .i64) n_Next_e1), .l ((n_Next1.set x51.toNat u_1).map (eI .i64))] J7 [(0, .own (.box (.agg [I b_.inputs_, eOs 2 false (eOp 2 F12_) (b_nodes.set u_.toNat none)]))), (3, .own (.box (eOs 1 true (eI .i64) bo.1))), (6, .own (eOs 2 false F12_ out1)), (9, .own (.box (.agg [eOs 1 false (eI .i64) (n_Next1.set x51.toNat u_1), B b_node_e.End]))), (35, .d (eSl 1 false (eI .i64) bo.2)), (36, .d (I ((bo.2.length : Nat) : Int))), (37, .d (I x37)), (49, .als 9 [.deref, .fld 0] 0 0), (50, .d (I ((b_node_e.Next.length : Nat) : Int))), (51, .d (I x51))] [ob (iL (eI .i64) h6), ob (iM (eI .i64) h6), ob c2, ob (iL (eI .i64) h7), ob (iM (eI .i64) h7), ob (iL (eI .i64) h8), ob (iM (eI .i64) h8), ob (sM (eI .i64) n_Next1 x51 u_1)] (by kernel_rfl) fun st0 h0 => hJ7 st0 _ (n_Next1.set x51.toNat u_1) hf2 h0 inferInstance
        ·exact awpBack X0 TTab_ok hC hm [0,3,6,9,35,36,37,49,50,51] 4000 [.a ((eI .i64) n_Next_e), bF] J7 [(0, .own (.box (.agg [I b_.inputs_, eOs 2 false (eOp 2 F12_) (b_nodes.set u_.toNat none)]))), (3, .own (.box (eOs 1 true (eI .i64) bo.1))), (6, .own (eOs 2 false F12_ out1)), (9, .own (.box (.agg [eOs 1 false (eI .i64) n_Next1, B b_node_e.End]))), (35, .d (eSl 1 false (eI .i64) bo.2)), (36, .d (I ((bo.2.length : Nat) : Int))), (37, .d (I x37)), (49, .als 9 [.deref, .fld 0] 0 0), (50, .d (I ((b_node_e.Next.length : Nat) : Int))), (51, .d (I x51))] [ob (iL (eI .i64) h6), ob (iM (eI .i64) h6), ob c2] (by kernel_rfl) fun st0 h0 => hJ7 st0 _ n_Next1 hf2 h0 inferInstance
      ·obtain rfl := someE hf2
       obtain rfl := hl2
       exact awpBack X0 TTab_ok hC hm [0,3,6,9,35,36,37] 4000 [bF] J5 [(0, .own (.box (.agg [I b_.inputs_, eOs 2 false (eOp 2 F12_) (b_nodes.set u_.toNat none)]))), (3, .own (.box (eOs 1 true (eI .i64) bo.1))), (6, .own (eOs 2 false F12_ out1)), (9, .own (.box (.agg [eOs 1 false (eI .i64) n_Next1, B b_node_e.End]))), (35, .d (eSl 1 false (eI .i64) bo.2)), (36, .d (I ((bo.2.length : Nat) : Int))), (37, .d (I x37))] [ob c1] (by kernel_rfl) fun st0 h0 => hJ5 st0 _ n_Next1 hf1 h0 inferInstance
   ·obtain rfl := someE hf1
    obtain rfl := hl1
    exact awpBack X0 TTab_ok hC hm [6] 4000 [bF] J2 [(6, .own (eOs 2 false F12_ out1))] [ob c0] (by kernel_rfl) fun st0 h0 => hJ2 st0 _ out1 hf0 h0 inferInstance
noncomputable def bd_tries_Of : Code := (Try.f29.body).getD .skip
noncomputable def sp_tries_Of : Spec := spF (α := List (List Int) × Int) (ρ := S_tries_Trie × Int) 29 (fun x => [F7_ x.1, (eI .i64) x.2]) (fun r => .tup [F21_ r.1, (eI .i64) r.2]) (fun x => tries_Of x.1 x.2) [] (by
 rintro ⟨a0, a1⟩ ⟨b0, b1⟩ h
 have e0 := EncI.inj (f := F7_) _ _ (List.cons.inj h).1
 replace h := (List.cons.inj h).2
 have e1 := EncI.inj (f := (eI .i64)) _ _ (List.cons.inj h).1
 subst e0 e1
 rfl)
theorem w_tries_Of {ctr : Ctr} (hC : CtrOk Try.prog ctr) (hm : Try.prog.follows .mixedOrders = true) (h_tries_Check : ctr.Has sp_tries_Check) (h_tries_of : ctr.Has sp_tries_of) (h_tries_builder_ordered : ctr.Has sp_tries_builder_ordered) : sp_tries_Of.Ok Try.prog := by
 refine spF_ok ?_
 rintro ⟨l_, inputs⟩ r0 hf0
 try unfold tries_Of at hf0
 refine callOk_h (tt := TTab) (keep := false) (rs := [(4, some 44), (5, none)]) (n := ⟨20, []⟩) (body := bd_tries_Of) TTab_ok Try.func29 rfl (by kernel_rfl) rfl rfl (by show (2 : Nat) ≤ 20; decide) fun E hE => ?_
 obtain ⟨r_, h0, hf0⟩ := bindE hf0
 have o0 := hasF h_tries_Check (x := (l_, inputs)) h0 (loC F7_ l_ <| loC (eI .i64) inputs <| loN)
 rcases bifE hf0 with ⟨c0, hf0⟩ | ⟨c0, hf0⟩
 ·have o1 := shM F11_ F11_ []
  obtain rfl := someE hf0
  exact awpEnd X0 TTab_ok hC hm hE 4000 (hs := [.g [], .a ((eI .i64) r_), bT, .l ([].map F11_)]) (x := (.tup [.agg [I 0, eSl 2 true F11_ []], I r_])) [ob (hasG h_tries_Check), ob o0, ob c0, ob o1] (by kernel_rfl) (LeV.refl _)
 ·obtain ⟨r_1, h1, hf0⟩ := bindE hf0
  have o2 := hasF h_tries_of (x := (l_, inputs)) h1 (loC F7_ l_ <| loC (eI .i64) inputs <| loN)
  obtain ⟨r_2, h2, hf0⟩ := bindE hf0
  have o3 := hasF h_tries_builder_ordered (x := r_1) h2 (loC F26_ r_1 <| loN)
  obtain rfl := someE hf0
  exact awpEnd X0 TTab_ok hC hm hE 4000 (hs := [.g [], .a ((eI .i64) r_), bF, .g [], .a (F26_ r_1), .g [true], .a (F17_ r_2)]) (x := (.tup [.agg [I inputs, eSl 2 true F11_ r_2], I 0])) [ob (hasG h_tries_Check), ob o0, ob c0, ob (hasG h_tries_of), ob o2, ob (hasG h_tries_builder_ordered), ob o3] (by kernel_rfl) (LeV.refl _)
noncomputable def bd_tries_tree : Code := (Try.f65.body).getD .skip
noncomputable def sp_tries_tree : Spec := spF (α := S_tries_Trie) (ρ := Bool) 65 (fun x => [F22_ x]) (fun r => eB r) (fun x => tries_tree x) [] (by
 rintro a0 b0 h
 have e0 := EncI.inj (f := F22_) _ _ (List.cons.inj h).1
 subst e0
 rfl)
abbrev ST_tries_tree_J1 : List (Nat × T) := []
abbrev ST_tries_tree_J3 (t_ : S_tries_Trie) (x15 : Int) (seen1 : List Bool) (x31 : List Int) (x32 : Int) (x35 : Bool) : List (Nat × T) := [(1, .own (.box (F22_ t_))), (3, .own (eOs 1 true eB seen1)), (13, .d (eSl 2 false F11_ t_.Nodes)), (14, .d (I ((t_.Nodes.length : Nat) : Int))), (15, .d (I x15)), (31, .d (eSl 1 false (eI .i64) x31)), (32, .d (I x32)), (34, .d (I t_.Inputs)), (35, .d (B x35))]
abbrev ST_tries_tree_J6 (t_ : S_tries_Trie) (x15 : Int) (Node_e : S_tries_Node) (x40 : Int) (seen3 : List Bool) : List (Nat × T) := [(1, .own (.box (F22_ t_))), (3, .own (eOs 1 true eB seen3)), (4, .d (I x15)), (13, .d (eSl 2 false F11_ t_.Nodes)), (14, .d (I ((t_.Nodes.length : Nat) : Int))), (15, .d (I x15)), (31, .d (eSl 1 false (eI .i64) Node_e.Next)), (32, .d (I ((Node_e.Next.length : Nat) : Int))), (34, .d (I t_.Inputs)), (35, .d (B (((Node_e.Next.length : Nat) : Int) != t_.Inputs))), (38, .d (eSl 1 false (eI .i64) Node_e.Next)), (39, .d (I ((Node_e.Next.length : Nat) : Int))), (40, .d (I x40))]
abbrev ST_tries_tree_L5 (t_ : S_tries_Trie) (x15 : Int) (Node_e : S_tries_Node) (seen2 : List Bool) (x40 : Int) : List (Nat × T) := [(1, .own (.box (F22_ t_))), (3, .own (eOs 1 true eB seen2)), (4, .d (I x15)), (13, .d (eSl 2 false F11_ t_.Nodes)), (14, .d (I ((t_.Nodes.length : Nat) : Int))), (15, .d (I x15)), (31, .d (eSl 1 false (eI .i64) Node_e.Next)), (32, .d (I ((Node_e.Next.length : Nat) : Int))), (34, .d (I t_.Inputs)), (35, .d (B (((Node_e.Next.length : Nat) : Int) != t_.Inputs))), (38, .d (eSl 1 false (eI .i64) Node_e.Next)), (39, .d (I ((Node_e.Next.length : Nat) : Int))), (40, .d (I x40))]
abbrev ST_tries_tree_J4 (t_ : S_tries_Trie) (seen : List Bool) (x15 : Int) (Node_e : S_tries_Node) : List (Nat × T) := [(1, .own (.box (F22_ t_))), (3, .own (eOs 1 true eB seen)), (4, .d (I x15)), (5, .own (.box (F11_ Node_e))), (13, .d (eSl 2 false F11_ t_.Nodes)), (14, .d (I ((t_.Nodes.length : Nat) : Int))), (15, .d (I x15)), (31, .d (eSl 1 false (eI .i64) Node_e.Next)), (32, .d (I ((Node_e.Next.length : Nat) : Int))), (34, .d (I t_.Inputs)), (35, .d (B (((Node_e.Next.length : Nat) : Int) != t_.Inputs)))]
abbrev ST_tries_tree_L2 (t_ : S_tries_Trie) (seen : List Bool) (x15 : Int) : List (Nat × T) := [(1, .own (.box (F22_ t_))), (3, .own (eOs 1 true eB seen)), (13, .d (eSl 2 false F11_ t_.Nodes)), (14, .d (I ((t_.Nodes.length : Nat) : Int))), (15, .d (I x15))]
theorem w_tries_tree {ctr : Ctr} (hC : CtrOk Try.prog ctr) (hm : Try.prog.follows .mixedOrders = true) : sp_tries_tree.Ok Try.prog := by
 refine spF_ok ?_
 rintro t_ r0 hf0
 try unfold tries_tree at hf0
 refine callOk_h (tt := TTab) (keep := true) (rs := [(2, none)]) (n := ⟨67, []⟩) (body := bd_tries_tree) TTab_ok Try.func65 rfl (by kernel_rfl) rfl rfl (by show (1 : Nat) ≤ 67; decide) fun E hE => ?_
 have o0 := lnM F11_ t_.Nodes
 obtain ⟨g0, hf0⟩ := gdE hf0
 have o1 := rM 1 eB ((t_.Nodes.length : Nat) : Int) false
 refine awpAt X0 TTab_ok hC hm [1,3] 4000 [aLn t_.Nodes.length, .a (eOs 1 true eB (List.replicate ((t_.Nodes.length : Nat) : Int).toNat false)), .cut 0] (sub [1,1] bd_tries_tree) (frs [1,1] [] bd_tries_tree []) [(1, .own (.box (F22_ t_))), (3, .own (eOs 1 true eB (List.replicate ((t_.Nodes.length : Nat) : Int).toNat false)))] [ob o0, ob (rL g0), ob o1] (by kernel_rfl) fun st0 h0 => ?_
 refine awpJoin' (X := Unit) (x := (sub [1,1,2] bd_tries_tree)) (y := (sub [1,1,1] bd_tries_tree)) (by kernel_rfl) [] [1,3] _ h0 (fun z => tries_tree_J1 = some r0) (fun z => ST_tries_tree_J1) ?_ fun J1 hJ1 => ?_
 ·rintro ⟨⟩ hf0
  unfold tries_tree_J1 at hf0
  obtain rfl := someE hf0
  exact awpEnd X0 TTab_ok hC hm hE 4000 (hs := []) (x := (B true)) [] (by kernel_rfl) (LeV.refl _)
 ·have o2 := lnM F11_ t_.Nodes
  obtain ⟨t2, ht2, hf0⟩ := bindE hf0
  refine awpAt X0 TTab_ok hC hm [1,3,13,14,15] 4000 [aLn t_.Nodes.length] (sub [1,1,2,1,0] bd_tries_tree) (frs [1,1,2,1,0] [J1] bd_tries_tree []) [(1, .own (.box (F22_ t_))), (3, .own (eOs 1 true eB (List.replicate ((t_.Nodes.length : Nat) : Int).toNat false))), (13, .d (eSl 2 false F11_ t_.Nodes)), (14, .d (I ((t_.Nodes.length : Nat) : Int))), (15, .d (I 0))] [ob o2] (by kernel_rfl) fun st0 h0 => ?_
  refine awpLoop' (X := (List Bool × Int) × Nat) (c' := (sub [1,1,2,1,0,0] bd_tries_tree)) (by kernel_rfl) [1,3,13,14,15] (fun x => loopN (fun s => tries_tree_L2 t_ s.1 s.2) x.2 x.1 = some t2) (fun x => x.2) (fun x => ST_tries_tree_L2 t_ x.1.1 x.1.2) (((List.replicate ((t_.Nodes.length : Nat) : Int).toNat false), 0), fuel) _ h0 inferInstance ht2 ?_
  rintro ⟨⟨seen, x15⟩, n2⟩ hn2 J2 hJ2
  obtain ⟨m2, lr1, rfl, hf1, hl1⟩ := loopE hn2
  try unfold tries_tree_L2 at hf1
  rcases bifE hf1 with ⟨c0, hf1⟩ | ⟨c0, hf1⟩
  ·refine awpAt X0 TTab_ok hC hm [1,3,13,14,15] 4000 [bT, .cut 0] (sub [1,1,2,1,0,0,1,1] bd_tries_tree) (frs [1,1,2,1,0,0,1,1] [J1, J2] bd_tries_tree []) [(1, .own (.box (F22_ t_))), (3, .own (eOs 1 true eB seen)), (13, .d (eSl 2 false F11_ t_.Nodes)), (14, .d (I ((t_.Nodes.length : Nat) : Int))), (15, .d (I x15))] [ob c0] (by kernel_rfl) fun st0 h0 => ?_
   refine awpJoin' (X := List Bool × List Int × Int × Bool) (x := (sub [1,1,2,1,0,0,1,1,2] bd_tries_tree)) (y := (sub [1,1,2,1,0,0,1,1,1] bd_tries_tree)) (by kernel_rfl) [1,3,13,14,15,31,32,34,35] [1,3,13,14,15] _ h0 (fun z => tries_tree_J3 x15 z.1 z.2.1 z.2.2.1 z.2.2.2 = some lr1) (fun z => ST_tries_tree_J3 t_ x15 z.1 z.2.1 z.2.2.1 z.2.2.2) ?_ fun J3 hJ3 => ?_
   ·rintro ⟨seen1, x31, x32, x35⟩ hf1
    unfold tries_tree_J3 at hf1
    obtain rfl := someE hf1
    exact awpBack X0 TTab_ok hC hm [1,3,13,14,15] 4000 [] J2 [(1, .own (.box (F22_ t_))), (3, .own (eOs 1 true eB seen1)), (13, .d (eSl 2 false F11_ t_.Nodes)), (14, .d (I ((t_.Nodes.length : Nat) : Int))), (15, .d (I (w64 (x15 + 1))))] [] (by kernel_rfl) fun st0 h0 => hJ2 st0 _ ((seen1, w64 (x15 + 1)), m2) hl1 (Nat.lt_succ_self m2) h0 inferInstance
   ·obtain ⟨Node_e, h0, hf1⟩ := bindE hf1
    have o3 := iM F11_ h0
    refine awpAt X0 TTab_ok hC hm [1,3,4,5,13,14,15] 4000 [.a (F11_ Node_e), .cut 0] (sub [1,1,2,1,0,0,1,1,2,0,1] bd_tries_tree) (frs [1,1,2,1,0,0,1,1,2,0,1] [J1, J2, J3] bd_tries_tree []) [(1, .own (.box (F22_ t_))), (3, .own (eOs 1 true eB seen)), (4, .d (I x15)), (5, .own (.box (F11_ Node_e))), (13, .d (eSl 2 false F11_ t_.Nodes)), (14, .d (I ((t_.Nodes.length : Nat) : Int))), (15, .d (I x15))] [ob (i0 h0), ob o3] (by kernel_rfl) fun st0 h0 => ?_
    refine awpJoin' (X := Unit) (x := (sub [1,1,2,1,0,0,1,1,2,0,1,2] bd_tries_tree)) (y := (sub [1,1,2,1,0,0,1,1,2,0,1,1] bd_tries_tree)) (by kernel_rfl) [1,3,4,5,13,14,15,31,32,34,35] [1,3,4,5,13,14,15] _ h0 (fun z => tries_tree_J4 t_ seen x15 Node_e = some lr1) (fun z => ST_tries_tree_J4 t_ seen x15 Node_e) ?_ fun J4 hJ4 => ?_
    ·rintro ⟨⟩ hf1
     unfold tries_tree_J4 at hf1
     obtain ⟨t5, ht5, hf1⟩ := bindE hf1
     refine awpAt X0 TTab_ok hC hm [1,3,4,13,14,15,31,32,34,35,38,39,40] 4000 [aLn Node_e.Next.length] (sub [1,1,2,1,0,0,1,1,2,0,1,1,1,0] bd_tries_tree) (frs [1,1,2,1,0,0,1,1,2,0,1,1,1,0] [J1, J2, J3] bd_tries_tree []) [(1, .own (.box (F22_ t_))), (3, .own (eOs 1 true eB seen)), (4, .d (I x15)), (13, .d (eSl 2 false F11_ t_.Nodes)), (14, .d (I ((t_.Nodes.length : Nat) : Int))), (15, .d (I x15)), (31, .d (eSl 1 false (eI .i64) Node_e.Next)), (32, .d (I ((Node_e.Next.length : Nat) : Int))), (34, .d (I t_.Inputs)), (35, .d (B (((Node_e.Next.length : Nat) : Int) != t_.Inputs))), (38, .d (eSl 1 false (eI .i64) Node_e.Next)), (39, .d (I ((Node_e.Next.length : Nat) : Int))), (40, .d (I 0))] [ob (lnM (eI .i64) Node_e.Next)] (by kernel_rfl) fun st0 h0 => ?_
     refine awpLoop' (X := (List Bool × Int) × Nat) (c' := (sub [1,1,2,1,0,0,1,1,2,0,1,1,1,0,0] bd_tries_tree)) (by kernel_rfl) [1,3,4,13,14,15,31,32,34,35,38,39,40] (fun x => loopN (fun s => tries_tree_L5 t_ x15 Node_e s.1 s.2) x.2 x.1 = some t5) (fun x => x.2) (fun x => ST_tries_tree_L5 t_ x15 Node_e x.1.1 x.1.2) ((seen, 0), fuel) _ h0 inferInstance ht5 ?_
     rintro ⟨⟨seen2, x40⟩, n5⟩ hn5 J5 hJ5
     obtain ⟨m5, lr2, rfl, hf2, hl2⟩ := loopE hn5
     try unfold tries_tree_L5 at hf2
     rcases bifE hf2 with ⟨c1, hf2⟩ | ⟨c1, hf2⟩
     ·refine awpAt X0 TTab_ok hC hm [1,3,4,13,14,15,31,32,34,35,38,39,40] 4000 [bT, .cut 0] (sub [1,1,2,1,0,0,1,1,2,0,1,1,1,0,0,1,1] bd_tries_tree) (frs [1,1,2,1,0,0,1,1,2,0,1,1,1,0,0,1,1] [J1, J2, J3, J5] bd_tries_tree []) [(1, .own (.box (F22_ t_))), (3, .own (eOs 1 true eB seen2)), (4, .d (I x15)), (13, .d (eSl 2 false F11_ t_.Nodes)), (14, .d (I ((t_.Nodes.length : Nat) : Int))), (15, .d (I x15)), (31, .d (eSl 1 false (eI .i64) Node_e.Next)), (32, .d (I ((Node_e.Next.length : Nat) : Int))), (34, .d (I t_.Inputs)), (35, .d (B (((Node_e.Next.length : Nat) : Int) != t_.Inputs))), (38, .d (eSl 1 false (eI .i64) Node_e.Next)), (39, .d (I ((Node_e.Next.length : Nat) : Int))), (40, .d (I x40))] [ob c1] (by kernel_rfl) fun st0 h0 => ?_
      refine awpJoin' (X := List Bool) (x := (sub [1,1,2,1,0,0,1,1,2,0,1,1,1,0,0,1,1,2] bd_tries_tree)) (y := (sub [1,1,2,1,0,0,1,1,2,0,1,1,1,0,0,1,1,1] bd_tries_tree)) (by kernel_rfl) [1,3,4,13,14,15,31,32,34,35,38,39,40] [1,3,4,13,14,15,31,32,34,35,38,39,40] _ h0 (fun z => tries_tree_J6 x40 z = some lr2) (fun z => ST_tries_tree_J6 t_ x15 Node_e x40 z) ?_ fun J6 hJ6 => ?_
      ·rintro seen3 hf2
       unfold tries_tree_J6 at hf2
       obtain rfl := someE hf2
       exact awpBack X0 TTab_ok hC hm [1,3,4,13,14,15,31,32,34,35,38,39,40] 4000 [] J5 [(1, .own (.box (F22_ t_))), (3, .own (eOs 1 true eB seen3)), (4, .d (I x15)), (13, .d (eSl 2 false F11_ t_.Nodes)), (14, .d (I ((t_.Nodes.length : Nat) : Int))), (15, .d (I x15)), (31, .d (eSl 1 false (eI .i64) Node_e.Next)), (32, .d (I ((Node_e.Next.length : Nat) : Int))), (34, .d (I t_.Inputs)), (35, .d (B (((Node_e.Next.length : Nat) : Int) != t_.Inputs))), (38, .d (eSl 1 false (eI .i64) Node_e.Next)), (39, .d (I ((Node_e.Next.length : Nat) : Int))), (40, .d (I (w64 (x40 + 1))))] [] (by kernel_rfl) fun st0 h0 => hJ5 st0 _ ((seen3, w64 (x40 + 1)), m5) hl2 (Nat.lt_succ_self m5) h0 inferInstance
      ·obtain ⟨Next_e, h1, hf2⟩ := bindE hf2
       rcases bifE hf2 with ⟨c2, hf2⟩ | ⟨c2, hf2⟩
       ·exact awpBack X0 TTab_ok hC hm [1,3,4,13,14,15,31,32,34,35,38,39,40] 4000 [.a ((eI .i64) Next_e), bT] J6 [(1, .own (.box (F22_ t_))), (3, .own (eOs 1 true eB seen2)), (4, .d (I x15)), (13, .d (eSl 2 false F11_ t_.Nodes)), (14, .d (I ((t_.Nodes.length : Nat) : Int))), (15, .d (I x15)), (31, .d (eSl 1 false (eI .i64) Node_e.Next)), (32, .d (I ((Node_e.Next.length : Nat) : Int))), (34, .d (I t_.Inputs)), (35, .d (B (((Node_e.Next.length : Nat) : Int) != t_.Inputs))), (38, .d (eSl 1 false (eI .i64) Node_e.Next)), (39, .d (I ((Node_e.Next.length : Nat) : Int))), (40, .d (I x40))] [ob (i0 h1), ob (iM (eI .i64) h1), ob c2] (by kernel_rfl) fun st0 h0 => hJ6 st0 _ seen2 hf2 h0 inferInstance
       ·rcases bifE hf2 with ⟨c3, hf2⟩ | ⟨c3, hf2⟩
        ·obtain rfl := someE hf2
         obtain rfl := hl2
         obtain rfl := someE hf1
         obtain rfl := hl1
         obtain rfl := someE hf0
         exact awpEnd X0 TTab_ok hC hm hE 4000 (hs := (.a ((eI .i64) Next_e) :: bF :: (rpN 12 bT []))) (x := (B false)) (ob (i0 h1) :: ob (iM (eI .i64) h1) :: ob c2 :: (rpN 6 (ob c3) (rpN 6 oT []))) (by kernel_rfl) (LeV.refl _)
        ·have o4 := lnM F11_ t_.Nodes
         rcases bifE hf2 with ⟨c4, hf2⟩ | ⟨c4, hf2⟩
         ·obtain rfl := someE hf2
          obtain rfl := hl2
          obtain rfl := someE hf1
          obtain rfl := hl1
          obtain rfl := someE hf0
          exact awpEnd X0 TTab_ok hC hm hE 4000 (hs := (.a ((eI .i64) Next_e) :: (rpN 5 bF (aLn t_.Nodes.length :: bF :: bF :: (rpN 6 bT []))))) (x := (B false)) (ob (i0 h1) :: ob (iM (eI .i64) h1) :: ob c2 :: (rpN 4 (ob c3) (ob o4 :: ob c3 :: ob c3 :: (rpN 5 (ob c4) [oT])))) (by kernel_rfl) (LeV.refl _)
         ·obtain ⟨seen_e, h2, hf2⟩ := bindE hf2
          rcases bifE hf2 with ⟨c5, hf2⟩ | ⟨c5, hf2⟩
          ·obtain rfl := someE hf2
           obtain rfl := hl2
           obtain rfl := someE hf1
           obtain rfl := hl1
           obtain rfl := someE hf0
           exact awpEnd X0 TTab_ok hC hm hE 4000 (hs := (.a ((eI .i64) Next_e) :: (rpN 5 bF (aLn t_.Nodes.length :: (rpN 6 bF [.a (eB seen_e), bF, bT]))))) (x := (B false)) (ob (i0 h1) :: ob (iM (eI .i64) h1) :: ob c2 :: (rpN 4 (ob c3) [ob o4, ob c3, ob c3, ob c4, ob c4, ob c4, ob (iL eB h2), ob c4, ob (iM eB h2), ob c4, ob c5])) (by kernel_rfl) (LeV.refl _)
          ·obtain ⟨seen_e1, h3, hf2⟩ := bindE hf2
           exact awpBack X0 TTab_ok hC hm [1,3,4,13,14,15,31,32,34,35,38,39,40] 4000 (.a ((eI .i64) Next_e) :: (rpN 5 bF (aLn t_.Nodes.length :: (rpN 6 bF [.a (eB seen_e), bF, bF, .a (eB seen_e1), .a (eB seen_e1), .l ((seen2.set Next_e.toNat true).map eB)])))) J6 [(1, .own (.box (F22_ t_))), (3, .own (eOs 1 true eB (seen2.set Next_e.toNat true))), (4, .d (I x15)), (13, .d (eSl 2 false F11_ t_.Nodes)), (14, .d (I ((t_.Nodes.length : Nat) : Int))), (15, .d (I x15)), (31, .d (eSl 1 false (eI .i64) Node_e.Next)), (32, .d (I ((Node_e.Next.length : Nat) : Int))), (34, .d (I t_.Inputs)), (35, .d (B (((Node_e.Next.length : Nat) : Int) != t_.Inputs))), (38, .d (eSl 1 false (eI .i64) Node_e.Next)), (39, .d (I ((Node_e.Next.length : Nat) : Int))), (40, .d (I x40))] (ob (i0 h1) :: ob (iM (eI .i64) h1) :: ob c2 :: (rpN 4 (ob c3) [ob o4, ob c3, ob c3, ob c4, ob c4, ob c4, ob (iL eB h2), ob c4, ob (iM eB h2), ob c4, ob c5, ob (iL eB h3), ob (iM eB h3), ob (iM eB h3), ob (sM eB seen2 Next_e true)])) (by kernel_rfl) fun st0 h0 => hJ6 st0 _ (seen2.set Next_e.toNat true) hf2 h0 inferInstance
     ·obtain rfl := someE hf2
      obtain rfl := hl2
      exact awpBack X0 TTab_ok hC hm [1,3,13,14,15,31,32,34,35] 4000 [bF] J3 [(1, .own (.box (F22_ t_))), (3, .own (eOs 1 true eB seen2)), (13, .d (eSl 2 false F11_ t_.Nodes)), (14, .d (I ((t_.Nodes.length : Nat) : Int))), (15, .d (I x15)), (31, .d (eSl 1 false (eI .i64) Node_e.Next)), (32, .d (I ((Node_e.Next.length : Nat) : Int))), (34, .d (I t_.Inputs)), (35, .d (B (((Node_e.Next.length : Nat) : Int) != t_.Inputs)))] [ob c1] (by kernel_rfl) fun st0 h0 => hJ3 st0 _ (seen2, Node_e.Next, ((Node_e.Next.length : Nat) : Int), ((Node_e.Next.length : Nat) : Int) != t_.Inputs) hf1 h0 inferInstance
    ·rcases bifE hf1 with ⟨c6, hf1⟩ | ⟨c6, hf1⟩
     ·obtain ⟨seen_e2, h4, hf1⟩ := bindE hf1
      rcases bifE hf1 with ⟨c7, hf1⟩ | ⟨c7, hf1⟩
      ·obtain rfl := someE hf1
       obtain rfl := hl1
       obtain rfl := someE hf0
       exact awpEnd X0 TTab_ok hC hm hE 4000 (hs := (rpN 4 bT (.a (eB seen_e2) :: (rpN 10 bT [])))) (x := (B false)) (ob c6 :: ob c6 :: ob c6 :: ob (iL eB h4) :: ob c6 :: ob (iM eB h4) :: ob c6 :: ob c6 :: (rpN 7 (ob c7) [oT])) (by kernel_rfl) (LeV.refl _)
      ·rcases bifE hf1 with ⟨c8, hf1⟩ | ⟨c8, hf1⟩
       ·obtain rfl := someE hf1
        obtain rfl := hl1
        obtain rfl := someE hf0
        exact awpEnd X0 TTab_ok hC hm hE 4000 (hs := (rpN 4 bT (.a (eB seen_e2) :: bT :: bT :: bF :: bF :: bF :: aLn Node_e.Next.length :: (rpN 4 bF [bT])))) (x := (B false)) (ob c6 :: ob c6 :: ob c6 :: ob (iL eB h4) :: ob c6 :: ob (iM eB h4) :: ob c6 :: ob c6 :: ob c7 :: ob c7 :: ob c7 :: ob (lnM (eI .i64) Node_e.Next) :: (rpN 4 (ob c7) [ob c8])) (by kernel_rfl) (LeV.refl _)
       ·exact awpBack X0 TTab_ok hC hm [1,3,4,5,13,14,15,31,32,34,35] 4000 (rpN 4 bT (.a (eB seen_e2) :: bT :: bT :: bF :: bF :: bF :: aLn Node_e.Next.length :: (rpN 5 bF []))) J4 [(1, .own (.box (F22_ t_))), (3, .own (eOs 1 true eB seen)), (4, .d (I x15)), (5, .own (.box (F11_ Node_e))), (13, .d (eSl 2 false F11_ t_.Nodes)), (14, .d (I ((t_.Nodes.length : Nat) : Int))), (15, .d (I x15)), (31, .d (eSl 1 false (eI .i64) Node_e.Next)), (32, .d (I ((Node_e.Next.length : Nat) : Int))), (34, .d (I t_.Inputs)), (35, .d (B (((Node_e.Next.length : Nat) : Int) != t_.Inputs)))] (ob c6 :: ob c6 :: ob c6 :: ob (iL eB h4) :: ob c6 :: ob (iM eB h4) :: ob c6 :: ob c6 :: ob c7 :: ob c7 :: ob c7 :: ob (lnM (eI .i64) Node_e.Next) :: (rpN 4 (ob c7) [ob c8])) (by kernel_rfl) fun st0 h0 => hJ4 st0 _ () hf1 h0 inferInstance
     ·rcases bifE hf1 with ⟨c9, hf1⟩ | ⟨c9, hf1⟩
      ·obtain rfl := someE hf1
       obtain rfl := hl1
       obtain rfl := someE hf0
       exact awpEnd X0 TTab_ok hC hm hE 4000 (hs := (rpN 9 bF (aLn Node_e.Next.length :: (rpN 4 bF [bT])))) (x := (B false)) (rpN 6 (ob c6) (oF :: oF :: oF :: ob (lnM (eI .i64) Node_e.Next) :: (rpN 4 oF [ob c9]))) (by kernel_rfl) (LeV.refl _)
      ·exact awpBack X0 TTab_ok hC hm [1,3,4,5,13,14,15,31,32,34,35] 4000 (rpN 9 bF (aLn Node_e.Next.length :: (rpN 5 bF []))) J4 [(1, .own (.box (F22_ t_))), (3, .own (eOs 1 true eB seen)), (4, .d (I x15)), (5, .own (.box (F11_ Node_e))), (13, .d (eSl 2 false F11_ t_.Nodes)), (14, .d (I ((t_.Nodes.length : Nat) : Int))), (15, .d (I x15)), (31, .d (eSl 1 false (eI .i64) Node_e.Next)), (32, .d (I ((Node_e.Next.length : Nat) : Int))), (34, .d (I t_.Inputs)), (35, .d (B (((Node_e.Next.length : Nat) : Int) != t_.Inputs)))] (rpN 6 (ob c6) (oF :: oF :: oF :: ob (lnM (eI .i64) Node_e.Next) :: (rpN 4 oF [ob c9]))) (by kernel_rfl) fun st0 h0 => hJ4 st0 _ () hf1 h0 inferInstance
  ·obtain rfl := someE hf1
   obtain rfl := hl1
   exact awpBack X0 TTab_ok hC hm [] 4000 [bF] J1 [] [ob c0] (by kernel_rfl) fun st0 h0 => hJ1 st0 _ () hf0 h0 inferInstance
noncomputable def bd_tries_Words : Code := (Try.f32.body).getD .skip
noncomputable def sp_tries_Words : Spec := spF (α := S_tries_Trie) (ρ := List (List Int) × Int) 32 (fun x => [F22_ x]) (fun r => .tup [F4_ r.1, (eI .i64) r.2]) (fun x => tries_Words x) [] (by
 rintro a0 b0 h
 have e0 := EncI.inj (f := F22_) _ _ (List.cons.inj h).1
 subst e0
 rfl)
abbrev ST_tries_Words_J1 (t_ : S_tries_Trie) (x3 : Int) (l_ : List (List Int)) : List (Nat × T) := [(1, .own (.box (F22_ t_))), (2, .own (.box (eOs 1 true F2_ []))), (3, .own (.box (I x3))), (4, .own (.box (eOs 1 false F0_ l_)))]
abbrev ST_tries_Words_I2 (t_ : S_tries_Trie) (r_3 : List S_tries_Node) (x31 : Int) (l_1 : List (List Int)) (at_ : Int) : List (Nat × T) := [(1, .own (.box (F22_ t_))), (2, .own (.box (eOs 1 true F2_ []))), (3, .own (.box (I x31))), (4, .own (.box (eOs 1 false F0_ l_1))), (5, .own (.box (I at_))), (29, .d (.fn 85 [.sptr (eSl 2 false F11_ r_3)]))]
abbrev ST_tries_Words_J4 (t_ : S_tries_Trie) (r_3 : List S_tries_Node) (x31 : Int) (at_ : Int) (x30 : S_tries_place) (Node_e : S_tries_Node) (x49 : Bool) (x50 : Bool) (x54 : Bool) (l_2 : List (List Int)) : List (Nat × T) := [(1, .own (.box (F22_ t_))), (2, .own (.box (eOs 1 true F2_ []))), (3, .own (.box (I x31))), (4, .own (.box (eOs 1 false F0_ l_2))), (5, .own (.box (I at_))), (29, .d (.fn 85 [.sptr (eSl 2 false F11_ r_3)])), (43, .d (eSl 1 false (eI .i64) x30.w_)), (44, .d (I ((x30.w_.length : Nat) : Int))), (45, .d (B (decide (((x30.w_.length : Nat) : Int) > 256)))), (48, .d (F11_ Node_e)), (49, .d (B x49)), (50, .d (B x50)), (54, .d (B x54))]
abbrev ST_tries_Words_J3 (t_ : S_tries_Trie) (r_3 : List S_tries_Node) (x31 : Int) (l_1 : List (List Int)) (at_ : Int) (x30 : S_tries_place) (Node_e : S_tries_Node) (x49 : Bool) (x50 : Bool) (x54 : Bool) : List (Nat × T) := [(1, .own (.box (F22_ t_))), (2, .own (.box (eOs 1 true F2_ []))), (3, .own (.box (I x31))), (4, .own (.box (eOs 1 false F0_ l_1))), (5, .own (.box (I at_))), (6, .own (.box (F15_ x30))), (7, .own (.box (F11_ Node_e))), (29, .d (.fn 85 [.sptr (eSl 2 false F11_ r_3)])), (43, .d (eSl 1 false (eI .i64) x30.w_)), (44, .d (I ((x30.w_.length : Nat) : Int))), (45, .d (B (decide (((x30.w_.length : Nat) : Int) > 256)))), (48, .d (F11_ Node_e)), (49, .d (B x49)), (50, .d (B x50)), (54, .d (B x54))]
theorem w_tries_Words {ctr : Ctr} (hC : CtrOk Try.prog ctr) (hm : Try.prog.follows .mixedOrders = true) (h_tries_tree : ctr.Has sp_tries_tree) (h_tries_walk : ctr.Has sp_tries_walk) (h_slices_Clip_int_int : ctr.Has sp_slices_Clip_int_int) (h_tries_leaf : ctr.Has sp_tries_leaf) (h_slices_Clone_int_int : ctr.Has sp_slices_Clone_int_int) (h_tries_Check : ctr.Has sp_tries_Check) : sp_tries_Words.Ok Try.prog := by
 refine spF_ok ?_
 rintro t_ r0 hf0
 try unfold tries_Words at hf0
 refine callOk_h (tt := TTab) (keep := false) (rs := [(2, some 22), (3, some 25)]) (n := ⟨74, []⟩) (body := bd_tries_Words) TTab_ok Try.func32 rfl (by kernel_rfl) rfl rfl (by show (1 : Nat) ≤ 74; decide) fun E hE => ?_
 rcases bifE hf0 with ⟨c0, hf0⟩ | ⟨c0, hf0⟩
 ·have o0 := shM F2_ F2_ []
  obtain rfl := someE hf0
  exact awpEnd X0 TTab_ok hC hm hE 4000 (hs := (rpN 14 bT [.l ([].map F2_)])) (x := (.tup [eSl 1 true F0_ [], I 4])) (rpN 4 (ob c0) (rpN 10 oT [ob o0])) (by kernel_rfl) (show LeV (.tup [eSl 1 true F0_ [], I 4]) (.tup [eSl 1 true F0_ ([] : List (List Int)), I 4]) from inferInstance)
 ·rcases bifE hf0 with ⟨c1, hf0⟩ | ⟨c1, hf0⟩
  ·have o1 := shM F2_ F2_ []
   obtain rfl := someE hf0
   exact awpEnd X0 TTab_ok hC hm hE 4000 (hs := (rpN 4 bF (rpN 10 bT [.l ([].map F2_)]))) (x := (.tup [eSl 1 true F0_ [], I 4])) (rpN 4 (ob c0) (rpN 5 (ob c1) (rpN 5 oT [ob o1]))) (by kernel_rfl) (show LeV (.tup [eSl 1 true F0_ [], I 4]) (.tup [eSl 1 true F0_ ([] : List (List Int)), I 4]) from inferInstance)
  ·have o2 := lnM F11_ t_.Nodes
   rcases bifE hf0 with ⟨c2, hf0⟩ | ⟨c2, hf0⟩
   ·have o3 := shM F2_ F2_ []
    obtain rfl := someE hf0
    exact awpEnd X0 TTab_ok hC hm hE 4000 (hs := (rpN 7 bF (aLn t_.Nodes.length :: bF :: bF :: (rpN 5 bT [.l ([].map F2_)])))) (x := (.tup [eSl 1 true F0_ [], I 4])) (rpN 4 (ob c0) (ob c1 :: ob c1 :: ob c1 :: ob o2 :: ob c1 :: ob c1 :: (rpN 4 (ob c2) [oT, ob o3]))) (by kernel_rfl) (show LeV (.tup [eSl 1 true F0_ [], I 4]) (.tup [eSl 1 true F0_ ([] : List (List Int)), I 4]) from inferInstance)
   ·obtain ⟨r_, h0, hf0⟩ := bindE hf0
    have o4 := hasF h_tries_tree (x := t_) h0 (loC F22_ t_ <| loN)
    rcases bifE hf0 with ⟨c3, hf0⟩ | ⟨c3, hf0⟩
    ·have o5 := shM F2_ F2_ []
     obtain rfl := someE hf0
     exact awpEnd X0 TTab_ok hC hm hE 4000 (hs := (rpN 7 bF (aLn t_.Nodes.length :: (rpN 4 bF [.g [], .a (eB r_), bF, bF, bT, .l ([].map F2_)])))) (x := (.tup [eSl 1 true F0_ [], I 4])) (rpN 4 (ob c0) [ob c1, ob c1, ob c1, ob o2, ob c1, ob c1, ob c2, ob c2, ob (hasG h_tries_tree), ob o4, ob c2, ob c2, ob c3, ob o5]) (by kernel_rfl) (show LeV (.tup [eSl 1 true F0_ [], I 4]) (.tup [eSl 1 true F0_ ([] : List (List Int)), I 4]) from inferInstance)
    ·refine awpAt X0 TTab_ok hC hm [1,2,3,4,5] 4000 (rpN 7 bF (aLn t_.Nodes.length :: (rpN 4 bF [.g [], .a (eB r_), bF, bF, bF, .cut 2]))) (sub [1,1,1,1] bd_tries_Words) (frs [1,1,1,1] [] bd_tries_Words []) [(1, .own (.box (F22_ t_))), (2, .own (.box (eOs 1 true F2_ []))), (3, .own (.box (I 0))), (4, .own (.box (eOs 1 true F2_ []))), (5, .own (.box (I 0)))] (rpN 4 (ob c0) [ob c1, ob c1, ob c1, ob o2, ob c1, ob c1, ob c2, ob c2, ob (hasG h_tries_tree), ob o4, ob c2, ob c2, ob c3]) (by kernel_rfl) fun st0 h0 => ?_
     refine awpJoin' (X := Int × List (List Int)) (x := (sub [1,1,1,1,2] bd_tries_Words)) (y := (sub [1,1,1,1,1] bd_tries_Words)) (by kernel_rfl) [1,2,3,4] [1,2,3,4,5] _ h0 (fun z => tries_Words_J1 t_ z.1 z.2 = some r0) (fun z => ST_tries_Words_J1 t_ z.1 z.2) ?_ fun J1 hJ1 => ?_
     ·rintro ⟨x3, l_⟩ hf0
      unfold tries_Words_J1 at hf0
      have o6 := shM F0_ F0_ l_
      obtain ⟨r_1, h1, hf0⟩ := bindE hf0
      have o7 := hasF h_tries_Check (x := (l_, t_.Inputs)) h1 (loC F6_ l_ <| loC (eI .i64) t_.Inputs <| loN)
      rcases bifE hf0 with ⟨c4, hf0⟩ | ⟨c4, hf0⟩
      ·have o8 := shM F2_ F2_ []
       obtain rfl := someE hf0
       exact awpEnd X0 TTab_ok hC hm hE 4000 (hs := [.g [], .l (l_.map F0_), .a ((eI .i64) r_1), bT, .l ([].map F2_)]) (x := (.tup [eSl 1 true F0_ [], I 4])) [ob (hasG h_tries_Check), ob o6, ob o7, ob c4, ob o8] (by kernel_rfl) (show LeV (.tup [eSl 1 true F0_ [], I 4]) (.tup [eSl 1 true F0_ ([] : List (List Int)), I 4]) from inferInstance)
      ·have o9 := shM F0_ F0_ l_
       have o10 := shM F0_ F0_ l_
       obtain ⟨r_2, h2, hf0⟩ := bindE hf0
       have o11 := shM F0_ F0_ l_
       obtain rfl := someE hf0
       exact awpEnd ((xSpec TTab_ok (w_slices_ClipW_int_int_v4 hC hm) 73).or X0) TTab_ok hC hm hE 4000 (hs := [.g [], .l (l_.map F0_), .a ((eI .i64) r_1), bF, .g [], .l (l_.map F0_), .a (F4_ r_2), .l (l_.map F0_)]) (x := (.tup [eSl 1 true F0_ r_2, I 0])) [ob (hasG h_tries_Check), ob o6, ob o7, ob c4, ob hg_slices_ClipW_int_int_v4, ob o10, ob (hs_slices_ClipW_int_int_v4 l_ _ h2), ob o11] (by kernel_rfl) (LeV.refl _)
     ·obtain ⟨r_3, h3, hf0⟩ := bindE hf0
      have o12 := hasF h_tries_walk (x := t_.Nodes) h3 (loC F18_ t_.Nodes <| loN)
      obtain ⟨t2, ht2, hf0⟩ := bindE hf0
      refine awpAt X0 TTab_ok hC hm [1,2,3,4,5,29] 4000 [.g [], .a ((eFn1 85 F20_) r_3)] (sub [1,1,1,1,2,1,0] bd_tries_Words) (frs [1,1,1,1,2,1,0] [J1] bd_tries_Words []) [(1, .own (.box (F22_ t_))), (2, .own (.box (eOs 1 true F2_ []))), (3, .own (.box (I 0))), (4, .own (.box (eOs 1 true F0_ []))), (5, .own (.box (I 0))), (29, .d (.fn 85 [.sptr (eSl 2 false F11_ r_3)]))] [ob (hasG h_tries_walk), ob o12] (by kernel_rfl) fun st0 h0 => ?_
      refine awpIter (g := .tmp 29) (ps := [30]) (assign := (sub [1,1,1,1,2,1,0,0] bd_tries_Words)) (body := (sub [1,1,1,1,2,1,0,1] bd_tries_Words)) (K := 85) (caps := [.sptr (eSl 2 false F11_ r_3)]) (by kernel_rfl) [1,2,3,4,5,29] (fun s => ST_tries_Words_I2 t_ r_3 s.1 s.2.1 s.2.2) (fun s => ST_tries_Words_I2 t_ r_3 s.1 s.2.1 s.2.2) (fun s => Code.ret) ((fun (x : S_tries_place) (_ : Bool) (_ : Value) => [F15_ x])) (F := @tries_walk_1 r_3) (fun s x => tries_Words_I2 t_ s.1 s.2.1 s.2.2 x) (0, ([] : List (List Int)), 0) t2 _ h0 inferInstance (by kernel_rfl) (by decide) (fun _ => rfl) (fun _ => rfl) (by kernel_rfl) (fun _ _ _ => rfl) (w_tries_walk_1 hC hm h_slices_Clip_int_int r_3) ht2 ?_ ?_
      ·rintro tv2 ⟨x31, l_1, at_⟩ x30 vr lr1 hf1
       replace hf1 : tries_Words_I2 t_ x31 l_1 at_ x30 = some lr1 := hf1
       unfold tries_Words_I2 at hf1
       refine awpFin X0 TTab_ok hC hm [1,2,3,4,5,6,29] 4000 [] .normal [(1, .own (.box (F22_ t_))), (2, .own (.box (eOs 1 true F2_ []))), (3, .own (.box (I x31))), (4, .own (.box (eOs 1 false F0_ l_1))), (5, .own (.box (I at_))), (6, .own (.box (F15_ x30))), (29, .d (.fn 85 [.sptr (eSl 2 false F11_ r_3)]))] [] (by kernel_rfl) fun st0 h0 => ⟨rfl, awpOf h0 ?_⟩
       obtain ⟨Node_e, h4, hf1⟩ := bindE hf1
       have o13 := iM F11_ h4
       refine awpAt X0 TTab_ok hC hm [1,2,3,4,5,6,7,29] 4000 [.a (F11_ Node_e), .cut 0] (sub [1,1,1,1,2,1,0,1,0,1] bd_tries_Words) (frs [1,1,1,1,2,1,0,1,0,1] [J1] bd_tries_Words []) [(1, .own (.box (F22_ t_))), (2, .own (.box (eOs 1 true F2_ []))), (3, .own (.box (I x31))), (4, .own (.box (eOs 1 false F0_ l_1))), (5, .own (.box (I at_))), (6, .own (.box (F15_ x30))), (7, .own (.box (F11_ Node_e))), (29, .d (.fn 85 [.sptr (eSl 2 false F11_ r_3)]))] [ob (i0 h4), ob o13] (by kernel_rfl) fun st0 h0 => ?_
       refine awpJoin' (X := Bool × Bool × Bool) (x := (sub [1,1,1,1,2,1,0,1,0,1,2] bd_tries_Words)) (y := (sub [1,1,1,1,2,1,0,1,0,1,1] bd_tries_Words)) (by kernel_rfl) [1,2,3,4,5,6,7,29,43,44,45,48,49,50,54] [1,2,3,4,5,6,7,29] _ h0 (fun z => tries_Words_J3 x31 l_1 at_ x30 Node_e z.1 z.2.1 z.2.2 = some lr1) (fun z => ST_tries_Words_J3 t_ r_3 x31 l_1 at_ x30 Node_e z.1 z.2.1 z.2.2) ?_ fun J3 hJ3 => ?_
       ·rintro ⟨x49, x50, x54⟩ hf1
        unfold tries_Words_J3 at hf1
        refine awpAt X0 TTab_ok hC hm [1,2,3,4,5,6,7,29,43,44,45,48,49,50,54] 4000 [.cut 0] (sub [1,1,1,1,2,1,0,1,0,1,1] bd_tries_Words) (frs [1,1,1,1,2,1,0,1,0,1,1] [J1] bd_tries_Words []) [(1, .own (.box (F22_ t_))), (2, .own (.box (eOs 1 true F2_ []))), (3, .own (.box (I x31))), (4, .own (.box (eOs 1 false F0_ l_1))), (5, .own (.box (I at_))), (6, .own (.box (F15_ x30))), (7, .own (.box (F11_ Node_e))), (29, .d (.fn 85 [.sptr (eSl 2 false F11_ r_3)])), (43, .d (eSl 1 false (eI .i64) x30.w_)), (44, .d (I ((x30.w_.length : Nat) : Int))), (45, .d (B (decide (((x30.w_.length : Nat) : Int) > 256)))), (48, .d (F11_ Node_e)), (49, .d (B x49)), (50, .d (B x50)), (54, .d (B x54))] [] (by kernel_rfl) fun st0 h0 => ?_
        refine awpJoin' (X := List (List Int)) (x := (sub [1,1,1,1,2,1,0,1,0,1,1,2] bd_tries_Words)) (y := (sub [1,1,1,1,2,1,0,1,0,1,1,1] bd_tries_Words)) (by kernel_rfl) [1,2,3,4,5,29,43,44,45,48,49,50,54] [1,2,3,4,5,6,7,29,43,44,45,48,49,50,54] _ h0 (fun z => tries_Words_J4 x31 at_ z = some lr1) (fun z => ST_tries_Words_J4 t_ r_3 x31 at_ x30 Node_e x49 x50 x54 z) ?_ fun J4 hJ4 => ?_
        ·rintro l_2 hf1
         unfold tries_Words_J4 at hf1
         obtain rfl := someE hf1
         exact awpFin X0 TTab_ok hC hm [1,2,3,4,5,29] 4000 [] .normal [(1, .own (.box (F22_ t_))), (2, .own (.box (eOs 1 true F2_ []))), (3, .own (.box (I x31))), (4, .own (.box (eOs 1 false F0_ l_2))), (5, .own (.box (I (w64 (at_ + 1))))), (29, .d (.fn 85 [.sptr (eSl 2 false F11_ r_3)]))] [] (by kernel_rfl) fun st0 h0 => ⟨rfl, _, h0, (inferInstance : LeL [(1, .own (.box (F22_ t_))), (2, .own (.box (eOs 1 true F2_ []))), (3, .own (.box (I x31))), (4, .own (.box (eOs 1 false F0_ l_2))), (5, .own (.box (I (w64 (at_ + 1))))), (29, .d (.fn 85 [.sptr (eSl 2 false F11_ r_3)]))] (ST_tries_Words_I2 t_ r_3 x31 l_2 (w64 (at_ + 1))))⟩
        ·rcases bifE hf1 with ⟨c5, hf1⟩ | ⟨c5, hf1⟩
         ·obtain ⟨r_4, h5, hf1⟩ := bindE hf1
          have o14 := hasF h_slices_Clone_int_int (x := x30.w_) h5 (loC F2_ x30.w_ <| loN)
          obtain ⟨r_5, h6, hf1⟩ := bindE hf1
          have o15 := hasF h_slices_Clip_int_int (x := r_4) h6 (loC F2_ r_4 <| loN)
          have o16 := dM F0_ ([r_5] : List (List Int))
          have o17 := dM F0_ ([r_5] : List (List Int))
          obtain ⟨g0, hf1⟩ := gdE hf1
          have o18 := aL F0_ F0_ g0
          have o19 := aM F0_ l_1 ([r_5] : List (List Int))
          exact awpBack X0 TTab_ok hC hm [1,2,3,4,5,29,43,44,45,48,49,50,54] 4000 [bT, .g [], .a (F3_ r_4), .g [], .l (r_4.map (eI .i64)), .a (F0_ r_5), .l (r_4.map (eI .i64)), bT, .l ((l_1 ++ ([r_5] : List (List Int))).map F0_)] J4 [(1, .own (.box (F22_ t_))), (2, .own (.box (eOs 1 true F2_ []))), (3, .own (.box (I x31))), (4, .own (.box (eOs 1 false F0_ (l_1 ++ ([r_5] : List (List Int)))))), (5, .own (.box (I at_))), (29, .d (.fn 85 [.sptr (eSl 2 false F11_ r_3)])), (43, .d (eSl 1 false (eI .i64) x30.w_)), (44, .d (I ((x30.w_.length : Nat) : Int))), (45, .d (B (decide (((x30.w_.length : Nat) : Int) > 256)))), (48, .d (F11_ Node_e)), (49, .d (B x49)), (50, .d (B x50)), (54, .d (B x54))] [ob c5, ob (hasG h_slices_Clone_int_int), ob o14, ob (hasG h_slices_Clip_int_int), ob (shM (eI .i64) (eI .i64) r_4), ob o15, ob (shM (eI .i64) (eI .i64) r_4), ob o16, ob o17, ob o18, ob o19] (by kernel_rfl) fun st0 h0 => hJ4 st0 _ (l_1 ++ ([r_5] : List (List Int))) hf1 h0 inferInstance
         ·exact awpBack X0 TTab_ok hC hm [1,2,3,4,5,29,43,44,45,48,49,50,54] 4000 [bF] J4 [(1, .own (.box (F22_ t_))), (2, .own (.box (eOs 1 true F2_ []))), (3, .own (.box (I x31))), (4, .own (.box (eOs 1 false F0_ l_1))), (5, .own (.box (I at_))), (29, .d (.fn 85 [.sptr (eSl 2 false F11_ r_3)])), (43, .d (eSl 1 false (eI .i64) x30.w_)), (44, .d (I ((x30.w_.length : Nat) : Int))), (45, .d (B (decide (((x30.w_.length : Nat) : Int) > 256)))), (48, .d (F11_ Node_e)), (49, .d (B x49)), (50, .d (B x50)), (54, .d (B x54))] [ob c5] (by kernel_rfl) fun st0 h0 => hJ4 st0 _ l_1 hf1 h0 inferInstance
       ·rcases bifE hf1 with ⟨c6, hf1⟩ | ⟨c6, hf1⟩
        ·obtain rfl := someE hf1
         exact awpFin X0 TTab_ok hC hm [1,2,3,4,5,29] 4000 (rpN 11 bT []) .ret [(1, .own (.box (F22_ t_))), (2, .own (.box (eOs 1 true F2_ []))), (3, .own (.box (I 4))), (4, .own (.box (eOs 1 false F0_ l_1))), (5, .own (.box (I at_))), (29, .d (.fn 85 [.sptr (eSl 2 false F11_ r_3)]))] (rpN 5 (ob c6) (rpN 6 oT [])) (by kernel_rfl) fun st0 h0 => ⟨rfl, _, h0, (inferInstance : LeL [(1, .own (.box (F22_ t_))), (2, .own (.box (eOs 1 true F2_ []))), (3, .own (.box (I 4))), (4, .own (.box (eOs 1 false F0_ l_1))), (5, .own (.box (I at_))), (29, .d (.fn 85 [.sptr (eSl 2 false F11_ r_3)]))] (ST_tries_Words_I2 t_ r_3 4 l_1 at_))⟩
        ·rcases bifE hf1 with ⟨c7, hf1⟩ | ⟨c7, hf1⟩
         ·obtain rfl := someE hf1
          exact awpFin X0 TTab_ok hC hm [1,2,3,4,5,29] 4000 (bF :: bF :: bF :: aLn x30.w_.length :: bF :: bF :: (rpN 6 bT [])) .ret [(1, .own (.box (F22_ t_))), (2, .own (.box (eOs 1 true F2_ []))), (3, .own (.box (I 4))), (4, .own (.box (eOs 1 false F0_ l_1))), (5, .own (.box (I at_))), (29, .d (.fn 85 [.sptr (eSl 2 false F11_ r_3)]))] (ob c6 :: ob c6 :: ob c6 :: ob (lnM (eI .i64) x30.w_) :: ob c6 :: ob c6 :: (rpN 5 (ob c7) [oT])) (by kernel_rfl) fun st0 h0 => ⟨rfl, _, h0, (inferInstance : LeL [(1, .own (.box (F22_ t_))), (2, .own (.box (eOs 1 true F2_ []))), (3, .own (.box (I 4))), (4, .own (.box (eOs 1 false F0_ l_1))), (5, .own (.box (I at_))), (29, .d (.fn 85 [.sptr (eSl 2 false F11_ r_3)]))] (ST_tries_Words_I2 t_ r_3 4 l_1 at_))⟩
         ·obtain ⟨r_6, h7, hf1⟩ := bindE hf1
          have o20 := hasF h_tries_leaf (x := Node_e) h7 (loC F11_ Node_e <| loN)
          rcases bifE hf1 with ⟨c8, hf1⟩ | ⟨c8, hf1⟩
          ·rcases bifE hf1 with ⟨c9, hf1⟩ | ⟨c9, hf1⟩
           ·obtain rfl := someE hf1
            exact awpFin X0 TTab_ok hC hm [1,2,3,4,5,29] 4000 (bF :: bF :: bF :: aLn x30.w_.length :: (rpN 4 bF [.g [], .a (eB r_6), bF, bT, bT, bT, bF, bT, bF, bT])) .ret [(1, .own (.box (F22_ t_))), (2, .own (.box (eOs 1 true F2_ []))), (3, .own (.box (I 4))), (4, .own (.box (eOs 1 false F0_ l_1))), (5, .own (.box (I at_))), (29, .d (.fn 85 [.sptr (eSl 2 false F11_ r_3)]))] [ob c6, ob c6, ob c6, ob (lnM (eI .i64) x30.w_), ob c6, ob c6, ob c7, ob c7, ob (hasG h_tries_leaf), ob o20, ob c7, ob c8, ob c8, ob c8, ob c7, ob c8, ob c7, ob c9] (by kernel_rfl) fun st0 h0 => ⟨rfl, _, h0, (inferInstance : LeL [(1, .own (.box (F22_ t_))), (2, .own (.box (eOs 1 true F2_ []))), (3, .own (.box (I 4))), (4, .own (.box (eOs 1 false F0_ l_1))), (5, .own (.box (I at_))), (29, .d (.fn 85 [.sptr (eSl 2 false F11_ r_3)]))] (ST_tries_Words_I2 t_ r_3 4 l_1 at_))⟩
           ·exact awpBack X0 TTab_ok hC hm [1,2,3,4,5,6,7,29,43,44,45,48,49,50,54] 4000 (bF :: bF :: bF :: aLn x30.w_.length :: (rpN 4 bF [.g [], .a (eB r_6), bF, bT, bT, bT, bF, bT, bF, bF])) J3 [(1, .own (.box (F22_ t_))), (2, .own (.box (eOs 1 true F2_ []))), (3, .own (.box (I x31))), (4, .own (.box (eOs 1 false F0_ l_1))), (5, .own (.box (I at_))), (6, .own (.box (F15_ x30))), (7, .own (.box (F11_ Node_e))), (29, .d (.fn 85 [.sptr (eSl 2 false F11_ r_3)])), (43, .d (eSl 1 false (eI .i64) x30.w_)), (44, .d (I ((x30.w_.length : Nat) : Int))), (45, .d (B (decide (((x30.w_.length : Nat) : Int) > 256)))), (48, .d (F11_ Node_e)), (49, .d (B r_6)), (50, .d (B r_6)), (54, .d (B (!Node_e.End)))] [ob c6, ob c6, ob c6, ob (lnM (eI .i64) x30.w_), ob c6, ob c6, ob c7, ob c7, ob (hasG h_tries_leaf), ob o20, ob c7, ob c8, ob c8, ob c8, ob c7, ob c8, ob c7, ob c9] (by kernel_rfl) fun st0 h0 => hJ3 st0 _ (r_6, r_6, !Node_e.End) hf1 h0 inferInstance
          ·exact awpBack X0 TTab_ok hC hm [1,2,3,4,5,6,7,29,43,44,45,48,49,50,54] 4000 (bF :: bF :: bF :: aLn x30.w_.length :: (rpN 4 bF (.g [] :: .a (eB r_6) :: (rpN 8 bF [])))) J3 [(1, .own (.box (F22_ t_))), (2, .own (.box (eOs 1 true F2_ []))), (3, .own (.box (I x31))), (4, .own (.box (eOs 1 false F0_ l_1))), (5, .own (.box (I at_))), (6, .own (.box (F15_ x30))), (7, .own (.box (F11_ Node_e))), (29, .d (.fn 85 [.sptr (eSl 2 false F11_ r_3)])), (43, .d (eSl 1 false (eI .i64) x30.w_)), (44, .d (I ((x30.w_.length : Nat) : Int))), (45, .d (B (decide (((x30.w_.length : Nat) : Int) > 256)))), (48, .d (F11_ Node_e)), (49, .d (B r_6)), (50, .d (B r_6)), (54, .d (B false))] [ob c6, ob c6, ob c6, ob (lnM (eI .i64) x30.w_), ob c6, ob c6, ob c7, ob c7, ob (hasG h_tries_leaf), ob o20, ob c7, ob c8, ob c8, ob c8, ob c7, ob c8, ob c7, oF] (by kernel_rfl) fun st0 h0 => hJ3 st0 _ (r_6, r_6, false) hf1 h0 inferInstance
      ·rcases t2 with ⟨x31, l_1, at_⟩ | z
       ·dsimp only at hf0
        exact awpGoBack (by kernel_rfl) (hJ1 _ [(1, .own (.box (F22_ t_))), (2, .own (.box (eOs 1 true F2_ []))), (3, .own (.box (I x31))), (4, .own (.box (eOs 1 false F0_ l_1)))] (x31, l_1) hf0 (show Own.canon [1,2,3,4] _ = ofL _ by kernel_rfl) inferInstance)
       ·obtain ⟨x31, l_1, at_⟩ := z
        dsimp only at hf0
        show AWP _ _ (Code.ret) _ _
        obtain rfl := someE hf0
        exact awpEnd X0 TTab_ok hC hm hE 4000 (hs := [.l ([].map F2_)]) (x := (.tup [eSl 1 true F0_ [], I x31])) [ob (shM F2_ F2_ [])] (by kernel_rfl) (show LeV (.tup [eSl 1 true F0_ [], I x31]) (.tup [eSl 1 true F0_ ([] : List (List Int)), I x31]) from inferInstance)
noncomputable def bd_tries_Count : Code := (Try.f33.body).getD .skip
noncomputable def sp_tries_Count : Spec := spF (α := S_tries_Trie) (ρ := Int × Int) 33 (fun x => [F22_ x]) (fun r => .tup [(eI .i64) r.1, (eI .i64) r.2]) (fun x => tries_Count x) [] (by
 rintro a0 b0 h
 have e0 := EncI.inj (f := F22_) _ _ (List.cons.inj h).1
 subst e0
 rfl)
abbrev ST_tries_Count_J1 (n_ : Int) : List (Nat × T) := [(6, .d (I n_))]
abbrev ST_tries_Count_J3 (t_ : S_tries_Trie) (x20 : Int) (n_2 : Int) : List (Nat × T) := [(6, .d (I n_2)), (18, .d (eSl 2 false F11_ t_.Nodes)), (19, .d (I ((t_.Nodes.length : Nat) : Int))), (20, .d (I x20))]
abbrev ST_tries_Count_L2 (t_ : S_tries_Trie) (n_1 : Int) (x20 : Int) : List (Nat × T) := [(6, .d (I n_1)), (18, .d (eSl 2 false F11_ t_.Nodes)), (19, .d (I ((t_.Nodes.length : Nat) : Int))), (20, .d (I x20))]
theorem w_tries_Count {ctr : Ctr} (hC : CtrOk Try.prog ctr) (hm : Try.prog.follows .mixedOrders = true) (h_tries_Words : ctr.Has sp_tries_Words) (h_tries_leaf : ctr.Has sp_tries_leaf) : sp_tries_Count.Ok Try.prog := by
 refine spF_ok ?_
 rintro t_ r0 hf0
 try unfold tries_Count at hf0
 refine callOk_h (tt := TTab) (keep := false) (rs := [(2, none), (3, none)]) (n := ⟨30, []⟩) (body := bd_tries_Count) TTab_ok Try.func33 rfl (by kernel_rfl) rfl rfl (by show (1 : Nat) ≤ 30; decide) fun E hE => ?_
 obtain ⟨r_, h0, hf0⟩ := bindE hf0
 have o0 := hasF h_tries_Words (x := t_) h0 (loC F22_ t_ <| loN)
 rcases bifE hf0 with ⟨c0, hf0⟩ | ⟨c0, hf0⟩
 ·obtain rfl := someE hf0
  exact awpEnd X0 TTab_ok hC hm hE 4000 (hs := [.g [], .a (.tup [eSl 1 true F0_ r_.1, I r_.2]), bT]) (x := (.tup [I 0, I r_.2])) [ob (hasG h_tries_Words), ob o0, ob c0] (by kernel_rfl) (LeV.refl _)
 ·refine awpAt X0 TTab_ok hC hm [1,6] 4000 [.g [], .a (.tup [eSl 1 true F0_ r_.1, I r_.2]), bF, .cut 1] (sub [1,1,1] bd_tries_Count) (frs [1,1,1] [] bd_tries_Count []) [(1, .own (.box (F22_ t_))), (6, .d (I 0))] [ob (hasG h_tries_Words), ob o0, ob c0] (by kernel_rfl) fun st0 h0 => ?_
  refine awpJoin' (X := Int) (x := (sub [1,1,1,2] bd_tries_Count)) (y := (sub [1,1,1,1] bd_tries_Count)) (by kernel_rfl) [6] [1,6] _ h0 (fun z => tries_Count_J1 z = some r0) (fun z => ST_tries_Count_J1 z) ?_ fun J1 hJ1 => ?_
  ·rintro n_ hf0
   unfold tries_Count_J1 at hf0
   obtain rfl := someE hf0
   exact awpEnd X0 TTab_ok hC hm hE 4000 (hs := []) (x := (.tup [I n_, I 0])) [] (by kernel_rfl) (LeV.refl _)
  ·have o1 := lnM F11_ t_.Nodes
   obtain ⟨t2, ht2, hf0⟩ := bindE hf0
   refine awpAt X0 TTab_ok hC hm [6,18,19,20] 4000 [aLn t_.Nodes.length] (sub [1,1,1,2,1,0] bd_tries_Count) (frs [1,1,1,2,1,0] [J1] bd_tries_Count []) [(6, .d (I 0)), (18, .d (eSl 2 false F11_ t_.Nodes)), (19, .d (I ((t_.Nodes.length : Nat) : Int))), (20, .d (I 0))] [ob o1] (by kernel_rfl) fun st0 h0 => ?_
   refine awpLoop' (X := (Int × Int) × Nat) (c' := (sub [1,1,1,2,1,0,0] bd_tries_Count)) (by kernel_rfl) [6,18,19,20] (fun x => loopN (fun s => tries_Count_L2 t_ s.1 s.2) x.2 x.1 = some t2) (fun x => x.2) (fun x => ST_tries_Count_L2 t_ x.1.1 x.1.2) ((0,0), fuel) _ h0 inferInstance ht2 ?_
   rintro ⟨⟨n_1, x20⟩, n2⟩ hn2 J2 hJ2
   obtain ⟨m2, lr1, rfl, hf1, hl1⟩ := loopE hn2
   try unfold tries_Count_L2 at hf1
   rcases bifE hf1 with ⟨c1, hf1⟩ | ⟨c1, hf1⟩
   ·refine awpAt X0 TTab_ok hC hm [6,18,19,20] 4000 [bT, .cut 0] (sub [1,1,1,2,1,0,0,1,1] bd_tries_Count) (frs [1,1,1,2,1,0,0,1,1] [J1, J2] bd_tries_Count []) [(6, .d (I n_1)), (18, .d (eSl 2 false F11_ t_.Nodes)), (19, .d (I ((t_.Nodes.length : Nat) : Int))), (20, .d (I x20))] [ob c1] (by kernel_rfl) fun st0 h0 => ?_
    refine awpJoin' (X := Int) (x := (sub [1,1,1,2,1,0,0,1,1,2] bd_tries_Count)) (y := (sub [1,1,1,2,1,0,0,1,1,1] bd_tries_Count)) (by kernel_rfl) [6,18,19,20] [6,18,19,20] _ h0 (fun z => tries_Count_J3 x20 z = some lr1) (fun z => ST_tries_Count_J3 t_ x20 z) ?_ fun J3 hJ3 => ?_
    ·rintro n_2 hf1
     unfold tries_Count_J3 at hf1
     obtain rfl := someE hf1
     exact awpBack X0 TTab_ok hC hm [6,18,19,20] 4000 [] J2 [(6, .d (I n_2)), (18, .d (eSl 2 false F11_ t_.Nodes)), (19, .d (I ((t_.Nodes.length : Nat) : Int))), (20, .d (I (w64 (x20 + 1))))] [] (by kernel_rfl) fun st0 h0 => hJ2 st0 _ ((n_2, w64 (x20 + 1)), m2) hl1 (Nat.lt_succ_self m2) h0 inferInstance
    ·obtain ⟨Node_e, h1, hf1⟩ := bindE hf1
     have o2 := iM F11_ h1
     obtain ⟨r_1, h2, hf1⟩ := bindE hf1
     have o3 := hasF h_tries_leaf (x := Node_e) h2 (loC F11_ Node_e <| loN)
     rcases bifE hf1 with ⟨c2, hf1⟩ | ⟨c2, hf1⟩
     ·exact awpBack X0 TTab_ok hC hm [6,18,19,20] 4000 [.a (F11_ Node_e), .g [], .a (eB r_1), bT] J3 [(6, .d (I (w64 (n_1 + 1)))), (18, .d (eSl 2 false F11_ t_.Nodes)), (19, .d (I ((t_.Nodes.length : Nat) : Int))), (20, .d (I x20))] [ob (i0 h1), ob o2, ob (hasG h_tries_leaf), ob o3, ob c2] (by kernel_rfl) fun st0 h0 => hJ3 st0 _ (w64 (n_1 + 1)) hf1 h0 inferInstance
     ·exact awpBack X0 TTab_ok hC hm [6,18,19,20] 4000 [.a (F11_ Node_e), .g [], .a (eB r_1), bF] J3 [(6, .d (I n_1)), (18, .d (eSl 2 false F11_ t_.Nodes)), (19, .d (I ((t_.Nodes.length : Nat) : Int))), (20, .d (I x20))] [ob (i0 h1), ob o2, ob (hasG h_tries_leaf), ob o3, ob c2] (by kernel_rfl) fun st0 h0 => hJ3 st0 _ n_1 hf1 h0 inferInstance
   ·obtain rfl := someE hf1
    obtain rfl := hl1
    exact awpBack X0 TTab_ok hC hm [6] 4000 [bF] J1 [(6, .d (I n_1))] [ob c1] (by kernel_rfl) fun st0 h0 => hJ1 st0 _ n_1 hf0 h0 inferInstance
noncomputable def bd_ref12_Equal : Code := (Try.f30.body).getD .skip
noncomputable def sp_ref12_Equal : Spec := spF (α := S_tries_Trie × S_tries_Trie) (ρ := Bool) 30 (fun x => [F22_ x.1, F22_ x.2]) (fun r => eB r) (fun x => ref12_Equal x.1 x.2) [] (by
 rintro ⟨a0, a1⟩ ⟨b0, b1⟩ h
 have e0 := EncI.inj (f := F22_) _ _ (List.cons.inj h).1
 replace h := (List.cons.inj h).2
 have e1 := EncI.inj (f := F22_) _ _ (List.cons.inj h).1
 subst e0 e1
 rfl)
abbrev ST_ref12_Equal_J1 : List (Nat × T) := []
abbrev ST_ref12_Equal_L2 (a_ : S_tries_Trie) (b_ : S_tries_Trie) (i_ : Int) : List (Nat × T) := [(2, .own (.box (F22_ a_))), (3, .own (.box (F22_ b_))), (5, .d (I i_))]
theorem w_ref12_Equal {ctr : Ctr} (hC : CtrOk Try.prog ctr) (hm : Try.prog.follows .mixedOrders = true) (h_ref12_compare : ctr.Has sp_ref12_compare) : sp_ref12_Equal.Ok Try.prog := by
 refine spF_ok ?_
 rintro ⟨a_, b_⟩ r0 hf0
 try unfold ref12_Equal at hf0
 refine callOk_h (tt := TTab) (keep := true) (rs := [(4, none)]) (n := ⟨56, []⟩) (body := bd_ref12_Equal) TTab_ok Try.func30 rfl (by kernel_rfl) rfl rfl (by show (2 : Nat) ≤ 56; decide) fun E hE => ?_
 rcases bifE hf0 with ⟨c0, hf0⟩ | ⟨c0, hf0⟩
 ·obtain rfl := someE hf0
  exact awpEnd X0 TTab_ok hC hm hE 4000 (hs := (rpN 9 bT [])) (x := (B false)) (rpN 8 (ob c0) [oT]) (by kernel_rfl) (LeV.refl _)
 ·have o0 := lnM F11_ a_.Nodes
  have o1 := lnM F11_ b_.Nodes
  rcases bifE hf0 with ⟨c1, hf0⟩ | ⟨c1, hf0⟩
  ·obtain rfl := someE hf0
   exact awpEnd X0 TTab_ok hC hm hE 4000 (hs := [bF, bF, bF, aLn a_.Nodes.length, bF, bF, bF, aLn b_.Nodes.length, bF, bF, bT]) (x := (B false)) [ob c0, ob c0, ob c0, ob o0, ob c0, ob c0, ob c0, ob o1, ob c0, ob c0, ob c1] (by kernel_rfl) (LeV.refl _)
  ·refine awpAt X0 TTab_ok hC hm [2,3] 4000 [bF, bF, bF, aLn a_.Nodes.length, bF, bF, bF, aLn b_.Nodes.length, bF, bF, bF, .cut 0] (sub [1,1] bd_ref12_Equal) (frs [1,1] [] bd_ref12_Equal []) [(2, .own (.box (F22_ a_))), (3, .own (.box (F22_ b_)))] [ob c0, ob c0, ob c0, ob o0, ob c0, ob c0, ob c0, ob o1, ob c0, ob c0, ob c1] (by kernel_rfl) fun st0 h0 => ?_
   refine awpJoin' (X := Unit) (x := (sub [1,1,2] bd_ref12_Equal)) (y := (sub [1,1,1] bd_ref12_Equal)) (by kernel_rfl) [] [2,3] _ h0 (fun z => ref12_Equal_J1 = some r0) (fun z => ST_ref12_Equal_J1) ?_ fun J1 hJ1 => ?_
   ·rintro ⟨⟩ hf0
    unfold ref12_Equal_J1 at hf0
    obtain rfl := someE hf0
    exact awpEnd X0 TTab_ok hC hm hE 4000 (hs := []) (x := (B true)) [] (by kernel_rfl) (LeV.refl _)
   ·obtain ⟨t2, ht2, hf0⟩ := bindE hf0
    refine awpAt X0 TTab_ok hC hm [2,3,5] 4000 [] (sub [1,1,2,1,0] bd_ref12_Equal) (frs [1,1,2,1,0] [J1] bd_ref12_Equal []) [(2, .own (.box (F22_ a_))), (3, .own (.box (F22_ b_))), (5, .d (I 0))] [] (by kernel_rfl) fun st0 h0 => ?_
    refine awpLoop' (X := Int × Nat) (c' := (sub [1,1,2,1,0,0] bd_ref12_Equal)) (by kernel_rfl) [2,3,5] (fun x => loopN (fun s => ref12_Equal_L2 a_ b_ s) x.2 x.1 = some t2) (fun x => x.2) (fun x => ST_ref12_Equal_L2 a_ b_ x.1) (0, fuel) _ h0 inferInstance ht2 ?_
    rintro ⟨i_, n2⟩ hn2 J2 hJ2
    obtain ⟨m2, lr1, rfl, hf1, hl1⟩ := loopE hn2
    try unfold ref12_Equal_L2 at hf1
    have o2 := lnM F11_ a_.Nodes
    rcases bifE hf1 with ⟨c2, hf1⟩ | ⟨c2, hf1⟩
    ·obtain ⟨Node_e, h0, hf1⟩ := bindE hf1
     have o3 := iM F11_ h0
     obtain ⟨Node_e1, h1, hf1⟩ := bindE hf1
     have o4 := iM F11_ h1
     rcases bifE hf1 with ⟨c3, hf1⟩ | ⟨c3, hf1⟩
     ·obtain rfl := someE hf1
      obtain rfl := hl1
      obtain rfl := someE hf0
      exact awpEnd X0 TTab_ok hC hm hE 4000 (hs := (aLn a_.Nodes.length :: bT :: .a (F11_ Node_e) :: .a (F11_ Node_e1) :: (rpN 16 bT []))) (x := (B false)) (ob o2 :: ob c2 :: ob (i0 h0) :: ob o3 :: ob (i0 h1) :: ob o4 :: (rpN 15 (ob c3) [oT])) (by kernel_rfl) (LeV.refl _)
     ·obtain ⟨Node_e2, h2, hf1⟩ := bindE hf1
      have o5 := iM F11_ h2
      obtain ⟨Node_e3, h3, hf1⟩ := bindE hf1
      have o6 := iM F11_ h3
      obtain ⟨r_, h4, hf1⟩ := bindE hf1
      have o7 := hasF h_ref12_compare (x := (Node_e2.Next, Node_e3.Next)) h4 (loC F2_ Node_e2.Next <| loC F2_ Node_e3.Next <| loN)
      rcases bifE hf1 with ⟨c4, hf1⟩ | ⟨c4, hf1⟩
      ·obtain rfl := someE hf1
       obtain rfl := hl1
       obtain rfl := someE hf0
       exact awpEnd X0 TTab_ok hC hm hE 4000 (hs := (aLn a_.Nodes.length :: bT :: .a (F11_ Node_e) :: .a (F11_ Node_e1) :: (rpN 4 bF (.a (F11_ Node_e2) :: (rpN 6 bF [.a (F11_ Node_e3), bF, bF, bF, .g [], .a ((eI .i64) r_), bF, bF, bT]))))) (x := (B false)) (ob o2 :: ob c2 :: ob (i0 h0) :: ob o3 :: ob (i0 h1) :: ob o4 :: (rpN 4 (ob c3) (ob (i0 h2) :: ob o5 :: (rpN 6 (ob c3) [ob (i0 h3), ob o6, ob c3, ob c3, ob c3, ob (hasG h_ref12_compare), ob o7, ob c3, ob c3, ob c4])))) (by kernel_rfl) (LeV.refl _)
      ·obtain rfl := someE hf1
       exact awpBack X0 TTab_ok hC hm [2,3,5] 4000 (aLn a_.Nodes.length :: bT :: .a (F11_ Node_e) :: .a (F11_ Node_e1) :: (rpN 4 bF (.a (F11_ Node_e2) :: (rpN 6 bF [.a (F11_ Node_e3), bF, bF, bF, .g [], .a ((eI .i64) r_), bF, bF, bF])))) J2 [(2, .own (.box (F22_ a_))), (3, .own (.box (F22_ b_))), (5, .d (I (w64 (i_ + 1))))] (ob o2 :: ob c2 :: ob (i0 h0) :: ob o3 :: ob (i0 h1) :: ob o4 :: (rpN 4 (ob c3) (ob (i0 h2) :: ob o5 :: (rpN 6 (ob c3) [ob (i0 h3), ob o6, ob c3, ob c3, ob c3, ob (hasG h_ref12_compare), ob o7, ob c3, ob c3, ob c4])))) (by kernel_rfl) fun st0 h0 => hJ2 st0 _ (w64 (i_ + 1), m2) hl1 (Nat.lt_succ_self m2) h0 inferInstance
    ·obtain rfl := someE hf1
     obtain rfl := hl1
     exact awpBack X0 TTab_ok hC hm [] 4000 [aLn a_.Nodes.length, bF] J1 [] [ob o2, ob c2] (by kernel_rfl) fun st0 h0 => hJ1 st0 _ () hf0 h0 inferInstance
noncomputable def bd_law12_lives : Code := (Try.f15.body).getD .skip
noncomputable def sp_law12_lives : Spec := spF (α := Unit) (ρ := Bool) 15 (fun x => []) (fun r => eB r) (fun x => law12_lives) [] (fun _ _ _ => rfl)
theorem w_law12_lives {ctr : Ctr} (hC : CtrOk Try.prog ctr) (hm : Try.prog.follows .mixedOrders = true) (h_law12_list : ctr.Has sp_law12_list) (h_tries_Sort : ctr.Has sp_tries_Sort) (h_tries_Reduce : ctr.Has sp_tries_Reduce) (h_tries_Prefixes : ctr.Has sp_tries_Prefixes) (h_tries_Concat : ctr.Has sp_tries_Concat) (h_law12_same : ctr.Has sp_law12_same) (h_tries_Upto : ctr.Has sp_tries_Upto) (h_tries_Exact : ctr.Has sp_tries_Exact) (h_tries_Of : ctr.Has sp_tries_Of) (h_tries_Count : ctr.Has sp_tries_Count) (h_ref12_Equal : ctr.Has sp_ref12_Equal) (h_tries_Check : ctr.Has sp_tries_Check) : sp_law12_lives.Ok Try.prog := by
 refine spF_ok ?_
 rintro ⟨⟩ r0 hf0
 try unfold law12_lives at hf0
 refine callOk_h (tt := TTab) (keep := true) (rs := [(0, none)]) (n := ⟨214, []⟩) (body := bd_law12_lives) TTab_ok Try.func15 rfl (by kernel_rfl) rfl rfl (by show (0 : Nat) ≤ 214; decide) fun E hE => ?_
 have o0 := shM F1_ F0_ ([[1,0], [1], [0], [1]])
 obtain ⟨r_, h0, hf0⟩ := bindE hf0
 have o1 := hasF h_law12_list (x := [[1,0], [1], [0], [1]]) h0 (loC F4_ ([[1,0], [1], [0], [1]] : List (List Int)) <| loN)
 have o2 := shM F1_ F0_ ([[1,0], [1], [0], [1]])
 obtain ⟨r_1, h1, hf0⟩ := bindE hf0
 have o3 := hasF h_tries_Sort (x := (r_, 2)) h1 (loC F7_ r_ <| loC (eI .i64) 2 <| loN)
 have o4 := shM F1_ F0_ ([[], [0], [1], [1,0]])
 obtain ⟨r_2, h2, hf0⟩ := bindE hf0
 have o5 := hasF h_law12_list (x := [[], [0], [1], [1,0]]) h2 (loC F4_ ([[], [0], [1], [1,0]] : List (List Int)) <| loN)
 have o6 := shM F1_ F0_ ([[], [0], [1], [1,0]])
 obtain ⟨r_3, h3, hf0⟩ := bindE hf0
 have o7 := hasF h_tries_Reduce (x := (r_2,2)) h3 (loC F7_ r_2 <| loC (eI .i64) 2 <| loN)
 have o8 := shM F1_ F0_ ([[1,0]])
 obtain ⟨r_4, h4, hf0⟩ := bindE hf0
 have o9 := hasF h_law12_list (x := [[1,0]]) h4 (loC F4_ ([[1,0]] : List (List Int)) <| loN)
 have o10 := shM F1_ F0_ ([[1,0]])
 obtain ⟨r_5, h5, hf0⟩ := bindE hf0
 have o11 := hasF h_tries_Prefixes (x := (r_4,2)) h5 (loC F7_ r_4 <| loC (eI .i64) 2 <| loN)
 have o12 := shM F1_ F0_ ([[], [0]])
 obtain ⟨r_6, h6, hf0⟩ := bindE hf0
 have o13 := hasF h_law12_list (x := [[], [0]]) h6 (loC F4_ ([[], [0]] : List (List Int)) <| loN)
 have o14 := shM F1_ F0_ ([[], [0]])
 have o15 := shM F1_ F0_ ([[0], [1]])
 obtain ⟨r_7, h7, hf0⟩ := bindE hf0
 have o16 := hasF h_law12_list (x := [[0], [1]]) h7 (loC F4_ ([[0], [1]] : List (List Int)) <| loN)
 have o17 := shM F1_ F0_ ([[0], [1]])
 obtain ⟨r_8, h8, hf0⟩ := bindE hf0
 have o18 := hasF h_tries_Concat (x := (r_6, r_7,2)) h8 (loC F7_ r_6 <| loC F7_ r_7 <| loC (eI .i64) 2 <| loN)
 refine awpAt X0 TTab_ok hC hm [1,2,3,4,5,6,7,8] 4000 [.g [], .l (([[1,0], [1], [0], [1]]).map F0_), .a (F7_ r_), .l (([[1,0], [1], [0], [1]]).map F0_), .g [], .a (.tup [eSl 1 true F0_ r_1.1, I r_1.2]), .g [], .l (([[], [0], [1], [1,0]]).map F0_), .a (F7_ r_2), .l (([[], [0], [1], [1,0]]).map F0_), .g [], .a (.tup [eSl 1 true F0_ r_3.1, I r_3.2]), .g [], .l (([[1,0]]).map F0_), .a (F7_ r_4), .l (([[1,0]]).map F0_), .g [], .a (.tup [eSl 1 true F0_ r_5.1, I r_5.2]), .g [], .l (([[], [0]]).map F0_), .a (F7_ r_6), .l (([[], [0]]).map F0_), .g [], .l (([[0], [1]]).map F0_), .a (F7_ r_7), .l (([[0], [1]]).map F0_), .g [], .a (.tup [eSl 1 true F0_ r_8.1, I r_8.2]), .cut 1] (sub [1,1,1,1,1,0] bd_law12_lives) (frs [1,1,1,1,1,0] [] bd_law12_lives []) [(1, .d (eSl 1 true F0_ r_1.1)), (2, .d (I r_1.2)), (3, .d (eSl 1 true F0_ r_3.1)), (4, .d (I r_3.2)), (5, .d (eSl 1 true F0_ r_5.1)), (6, .d (I r_5.2)), (7, .d (eSl 1 true F0_ r_8.1)), (8, .d (I r_8.2))] [ob (hasG h_law12_list), ob o0, ob o1, ob o2, ob (hasG h_tries_Sort), ob o3, ob (hasG h_law12_list), ob o4, ob o5, ob o6, ob (hasG h_tries_Reduce), ob o7, ob (hasG h_law12_list), ob o8, ob o9, ob o10, ob (hasG h_tries_Prefixes), ob o11, ob (hasG h_law12_list), ob o12, ob o13, ob o14, ob (hasG h_law12_list), ob o15, ob o16, ob o17, ob (hasG h_tries_Concat), ob o18] (by kernel_rfl) fun st0 h0 => awpOf h0 ?_
 rcases bifE hf0 with ⟨c0, hf0⟩ | ⟨c0, hf0⟩
 ·obtain rfl := someE hf0
  exact awpEnd X0 TTab_ok hC hm hE 4000 (hs := (rpN 45 bT [])) (x := (B false)) (ob c0 :: ob c0 :: ob c0 :: (rpN 42 oT [])) (by kernel_rfl) (LeV.refl _)
 ·rcases bifE hf0 with ⟨c1, hf0⟩ | ⟨c1, hf0⟩
  ·obtain rfl := someE hf0
   exact awpEnd X0 TTab_ok hC hm hE 4000 (hs := (bF :: bF :: bF :: (rpN 42 bT []))) (x := (B false)) (ob c0 :: ob c0 :: ob c0 :: ob c1 :: ob c1 :: ob c1 :: (rpN 39 oT [])) (by kernel_rfl) (LeV.refl _)
  ·rcases bifE hf0 with ⟨c2, hf0⟩ | ⟨c2, hf0⟩
   ·obtain rfl := someE hf0
    exact awpEnd X0 TTab_ok hC hm hE 4000 (hs := (rpN 6 bF (rpN 39 bT []))) (x := (B false)) (ob c0 :: ob c0 :: ob c0 :: ob c1 :: ob c1 :: ob c1 :: ob c2 :: ob c2 :: ob c2 :: (rpN 36 oT [])) (by kernel_rfl) (LeV.refl _)
   ·rcases bifE hf0 with ⟨c3, hf0⟩ | ⟨c3, hf0⟩
    ·obtain rfl := someE hf0
     exact awpEnd X0 TTab_ok hC hm hE 4000 (hs := (rpN 9 bF (rpN 36 bT []))) (x := (B false)) (ob c0 :: ob c0 :: ob c0 :: ob c1 :: ob c1 :: ob c1 :: ob c2 :: ob c2 :: ob c2 :: (rpN 9 (ob c3) (rpN 27 oT []))) (by kernel_rfl) (LeV.refl _)
    ·have o19 := shM F1_ F0_ ([[0], [1], [1,0]])
     obtain ⟨r_9, h9, hf0⟩ := bindE hf0
     have o20 := hasF h_law12_list (x := [[0], [1], [1,0]]) h9 (loC F4_ ([[0], [1], [1,0]] : List (List Int)) <| loN)
     have o21 := shM F1_ F0_ ([[0], [1], [1,0]])
     obtain ⟨r_10, h10, hf0⟩ := bindE hf0
     have o22 := tabC_at (f := .fn 16 []) (xs := [F4_ r_1.1, F7_ r_9]) (ls := []) (r := B r_10) (ys := []) [F4_ r_1.1, F7_ r_9] (show LeTs [F4_ r_1.1, F7_ r_9] [F4_ r_1.1, F7_ r_9] from inferInstance)
     rcases bifE hf0 with ⟨c4, hf0⟩ | ⟨c4, hf0⟩
     ·obtain rfl := someE hf0
      exact awpEnd ((xLend (P := Try.prog) TTab [] (lentCall (hasCall hC h_law12_same (x := (r_1.1, r_9)) h10)) 72).or X0) TTab_ok hC hm hE 4000 (hs := (rpN 15 bF (.g [] :: .l (([[0], [1], [1,0]]).map F0_) :: .a (F7_ r_9) :: .l (([[0], [1], [1,0]]).map F0_) :: bF :: bF :: bF :: (rpN 27 bT [])))) (x := (B false)) (ob c0 :: ob c0 :: ob c0 :: ob c1 :: ob c1 :: ob c1 :: ob c2 :: ob c2 :: ob c2 :: (rpN 6 (ob c3) (ob (hasG h_law12_list) :: ob o19 :: ob o20 :: ob o21 :: ob c3 :: ob o22 :: ob c3 :: ob c3 :: (rpN 8 (ob c4) (rpN 19 oT []))))) (by kernel_rfl) (LeV.refl _)
     ·have o23 := shM F1_ F0_ ([[0], [1,0]])
      obtain ⟨r_11, h11, hf0⟩ := bindE hf0
      have o24 := hasF h_law12_list (x := [[0], [1,0]]) h11 (loC F4_ ([[0], [1,0]] : List (List Int)) <| loN)
      have o25 := shM F1_ F0_ ([[0], [1,0]])
      obtain ⟨r_12, h12, hf0⟩ := bindE hf0
      have o26 := tabC_at (f := .fn 16 []) (xs := [F4_ r_3.1, F7_ r_11]) (ls := []) (r := B r_12) (ys := []) [F4_ r_3.1, F7_ r_11] (show LeTs [F4_ r_3.1, F7_ r_11] [F4_ r_3.1, F7_ r_11] from inferInstance)
      rcases bifE hf0 with ⟨c5, hf0⟩ | ⟨c5, hf0⟩
      ·obtain rfl := someE hf0
       exact awpEnd ((xLend (P := Try.prog) TTab [] (lentCall (hasCall hC h_law12_same (x := (r_3.1, r_11)) h12)) 81).or ((xLend (P := Try.prog) TTab [] (lentCall (hasCall hC h_law12_same (x := (r_1.1, r_9)) h10)) 72).or X0)) TTab_ok hC hm hE 4000 (hs := (rpN 15 bF (.g [] :: .l (([[0], [1], [1,0]]).map F0_) :: .a (F7_ r_9) :: .l (([[0], [1], [1,0]]).map F0_) :: (rpN 8 bF (.g [] :: .l (([[0], [1,0]]).map F0_) :: .a (F7_ r_11) :: .l (([[0], [1,0]]).map F0_) :: bF :: bF :: bF :: (rpN 19 bT [])))))) (x := (B false)) (ob c0 :: ob c0 :: ob c0 :: ob c1 :: ob c1 :: ob c1 :: ob c2 :: ob c2 :: ob c2 :: (rpN 6 (ob c3) (ob (hasG h_law12_list) :: ob o19 :: ob o20 :: ob o21 :: ob c3 :: ob o22 :: ob c3 :: ob c3 :: (rpN 5 (ob c4) (ob (hasG h_law12_list) :: ob o23 :: ob o24 :: ob o25 :: ob c4 :: ob o26 :: ob c4 :: ob c4 :: (rpN 8 (ob c5) (rpN 11 oT []))))))) (by kernel_rfl) (LeV.refl _)
      ·have o27 := shM F1_ F0_ ([[], [1], [1,0]])
       obtain ⟨r_13, h13, hf0⟩ := bindE hf0
       have o28 := hasF h_law12_list (x := [[], [1], [1,0]]) h13 (loC F4_ ([[], [1], [1,0]] : List (List Int)) <| loN)
       have o29 := shM F1_ F0_ ([[], [1], [1,0]])
       obtain ⟨r_14, h14, hf0⟩ := bindE hf0
       have o30 := tabC_at (f := .fn 16 []) (xs := [F4_ r_5.1, F7_ r_13]) (ls := []) (r := B r_14) (ys := []) [F4_ r_5.1, F7_ r_13] (show LeTs [F4_ r_5.1, F7_ r_13] [F4_ r_5.1, F7_ r_13] from inferInstance)
       rcases bifE hf0 with ⟨c6, hf0⟩ | ⟨c6, hf0⟩
       ·obtain rfl := someE hf0
        exact awpEnd ((xLend (P := Try.prog) TTab [] (lentCall (hasCall hC h_law12_same (x := (r_5.1, r_13)) h14)) 90).or ((xLend (P := Try.prog) TTab [] (lentCall (hasCall hC h_law12_same (x := (r_3.1, r_11)) h12)) 81).or ((xLend (P := Try.prog) TTab [] (lentCall (hasCall hC h_law12_same (x := (r_1.1, r_9)) h10)) 72).or X0))) TTab_ok hC hm hE 4000 (hs := (rpN 15 bF (.g [] :: .l (([[0], [1], [1,0]]).map F0_) :: .a (F7_ r_9) :: .l (([[0], [1], [1,0]]).map F0_) :: (rpN 8 bF (.g [] :: .l (([[0], [1,0]]).map F0_) :: .a (F7_ r_11) :: .l (([[0], [1,0]]).map F0_) :: (rpN 8 bF (.g [] :: .l (([[], [1], [1,0]]).map F0_) :: .a (F7_ r_13) :: .l (([[], [1], [1,0]]).map F0_) :: bF :: bF :: bF :: (rpN 11 bT [])))))))) (x := (B false)) (ob c0 :: ob c0 :: ob c0 :: ob c1 :: ob c1 :: ob c1 :: ob c2 :: ob c2 :: ob c2 :: (rpN 6 (ob c3) (ob (hasG h_law12_list) :: ob o19 :: ob o20 :: ob o21 :: ob c3 :: ob o22 :: ob c3 :: ob c3 :: (rpN 5 (ob c4) (ob (hasG h_law12_list) :: ob o23 :: ob o24 :: ob o25 :: ob c4 :: ob o26 :: ob c4 :: ob c4 :: (rpN 5 (ob c5) (ob (hasG h_law12_list) :: ob o27 :: ob o28 :: ob o29 :: ob c5 :: ob o30 :: ob c5 :: ob c5 :: (rpN 10 (ob c6) [oT])))))))) (by kernel_rfl) (LeV.refl _)
       ·have o31 := shM F1_ F0_ ([[0], [1], [0,0], [0,1]])
        obtain ⟨r_15, h15, hf0⟩ := bindE hf0
        have o32 := hasF h_law12_list (x := [[0], [1], [0,0], [0,1]]) h15 (loC F4_ ([[0], [1], [0,0], [0,1]] : List (List Int)) <| loN)
        have o33 := shM F1_ F0_ ([[0], [1], [0,0], [0,1]])
        obtain ⟨r_16, h16, hf0⟩ := bindE hf0
        have o34 := tabC_at (f := .fn 16 []) (xs := [F4_ r_8.1, F7_ r_15]) (ls := []) (r := B r_16) (ys := []) [F4_ r_8.1, F7_ r_15] (show LeTs [F4_ r_8.1, F7_ r_15] [F4_ r_8.1, F7_ r_15] from inferInstance)
        rcases bifE hf0 with ⟨c7, hf0⟩ | ⟨c7, hf0⟩
        ·obtain rfl := someE hf0
         exact awpEnd ((xLend (P := Try.prog) TTab [] (lentCall (hasCall hC h_law12_same (x := (r_8.1, r_15)) h16)) 101).or ((xLend (P := Try.prog) TTab [] (lentCall (hasCall hC h_law12_same (x := (r_5.1, r_13)) h14)) 90).or ((xLend (P := Try.prog) TTab [] (lentCall (hasCall hC h_law12_same (x := (r_3.1, r_11)) h12)) 81).or ((xLend (P := Try.prog) TTab [] (lentCall (hasCall hC h_law12_same (x := (r_1.1, r_9)) h10)) 72).or X0)))) TTab_ok hC hm hE 4000 (hs := (rpN 15 bF (.g [] :: .l (([[0], [1], [1,0]]).map F0_) :: .a (F7_ r_9) :: .l (([[0], [1], [1,0]]).map F0_) :: (rpN 8 bF (.g [] :: .l (([[0], [1,0]]).map F0_) :: .a (F7_ r_11) :: .l (([[0], [1,0]]).map F0_) :: (rpN 8 bF (.g [] :: .l (([[], [1], [1,0]]).map F0_) :: .a (F7_ r_13) :: .l (([[], [1], [1,0]]).map F0_) :: (rpN 10 bF [.g [], .l (([[0], [1], [0,0], [0,1]]).map F0_), .a (F7_ r_15), .l (([[0], [1], [0,0], [0,1]]).map F0_), bF, bF, bF, bT])))))))) (x := (B false)) (ob c0 :: ob c0 :: ob c0 :: ob c1 :: ob c1 :: ob c1 :: ob c2 :: ob c2 :: ob c2 :: (rpN 6 (ob c3) (ob (hasG h_law12_list) :: ob o19 :: ob o20 :: ob o21 :: ob c3 :: ob o22 :: ob c3 :: ob c3 :: (rpN 5 (ob c4) (ob (hasG h_law12_list) :: ob o23 :: ob o24 :: ob o25 :: ob c4 :: ob o26 :: ob c4 :: ob c4 :: (rpN 5 (ob c5) (ob (hasG h_law12_list) :: ob o27 :: ob o28 :: ob o29 :: ob c5 :: ob o30 :: ob c5 :: ob c5 :: (rpN 7 (ob c6) [ob (hasG h_law12_list), ob o31, ob o32, ob o33, ob c6, ob o34, ob c6, ob c6, ob c7])))))))) (by kernel_rfl) (LeV.refl _)
        ·obtain ⟨r_17, h17, hf0⟩ := bindE hf0
         have o35 := hasF h_tries_Upto (x := (2,1)) h17 (loC (eI .i64) 2 <| loC (eI .i64) 1 <| loN)
         obtain ⟨r_18, h18, hf0⟩ := bindE hf0
         have o36 := hasF h_tries_Exact (x := (2,2)) h18 (loC (eI .i64) 2 <| loC (eI .i64) 2 <| loN)
         obtain ⟨r_19, h19, hf0⟩ := bindE hf0
         have o37 := hasF h_tries_Upto (x := (2,12)) h19 (loC (eI .i64) 2 <| loC (eI .i64) 12 <| loN)
         have o38 := shM F1_ F0_ ([[0], [1,0]])
         obtain ⟨r_20, h20, hf0⟩ := bindE hf0
         have o39 := hasF h_law12_list (x := [[0], [1,0]]) h20 (loC F4_ ([[0], [1,0]] : List (List Int)) <| loN)
         have o40 := shM F1_ F0_ ([[0], [1,0]])
         obtain ⟨r_21, h21, hf0⟩ := bindE hf0
         have o41 := hasF h_tries_Of (x := (r_20,2)) h21 (loC F7_ r_20 <| loC (eI .i64) 2 <| loN)
         obtain ⟨r_22, h22, hf0⟩ := bindE hf0
         have o42 := hasF h_tries_Count (x := r_21.1) h22 (loC F21_ r_21.1 <| loN)
         refine awpAt ((xLend (P := Try.prog) TTab [] (lentCall (hasCall hC h_law12_same (x := (r_8.1, r_15)) h16)) 101).or ((xLend (P := Try.prog) TTab [] (lentCall (hasCall hC h_law12_same (x := (r_5.1, r_13)) h14)) 90).or ((xLend (P := Try.prog) TTab [] (lentCall (hasCall hC h_law12_same (x := (r_3.1, r_11)) h12)) 81).or ((xLend (P := Try.prog) TTab [] (lentCall (hasCall hC h_law12_same (x := (r_1.1, r_9)) h10)) 72).or X0)))) TTab_ok hC hm [1,2,3,4,6,8,9,10,11,13] 4000 (rpN 15 bF (.g [] :: .l (([[0], [1], [1,0]]).map F0_) :: .a (F7_ r_9) :: .l (([[0], [1], [1,0]]).map F0_) :: (rpN 8 bF (.g [] :: .l (([[0], [1,0]]).map F0_) :: .a (F7_ r_11) :: .l (([[0], [1,0]]).map F0_) :: (rpN 8 bF (.g [] :: .l (([[], [1], [1,0]]).map F0_) :: .a (F7_ r_13) :: .l (([[], [1], [1,0]]).map F0_) :: (rpN 10 bF (.g [] :: .l (([[0], [1], [0,0], [0,1]]).map F0_) :: .a (F7_ r_15) :: .l (([[0], [1], [0,0], [0,1]]).map F0_) :: (rpN 4 bF [.g [], .a (.tup [eSl 1 true F0_ r_17.1, I r_17.2]), .g [], .a (.tup [eSl 1 true F0_ r_18.1, I r_18.2]), .g [], .a (.tup [eSl 1 true F0_ r_19.1, I r_19.2]), .g [], .l (([[0], [1,0]]).map F0_), .a (F7_ r_20), .l (([[0], [1,0]]).map F0_), .g [], .a (.tup [.agg [I r_21.1.Inputs, eSl 2 true F11_ r_21.1.Nodes], I r_21.2]), .g [], .a (.tup [I r_22.1, I r_22.2]), .cut 3]))))))))) (sub [1,1,1,1,1,1,1,1,1,1,1,1,1,0] bd_law12_lives) (frs [1,1,1,1,1,1,1,1,1,1,1,1,1,0] [] bd_law12_lives []) [(1, .d (eSl 1 true F0_ r_17.1)), (2, .d (I r_17.2)), (3, .d (eSl 1 true F0_ r_18.1)), (4, .d (I r_18.2)), (6, .d (I r_19.2)), (8, .d (I r_21.2)), (9, .own (.box (F21_ r_21.1))), (10, .d (I r_22.1)), (11, .d (I r_22.2)), (13, .own (.box (.agg [I 2, eOs 2 true F9_ ([(S_tries_Node.mk ([1,2]) false), (S_tries_Node.mk ([(-1), (-1)]) true), (S_tries_Node.mk ([3, (-1)]) false), (S_tries_Node.mk ([(-1), (-1)]) true)])])))] (ob c0 :: ob c0 :: ob c0 :: ob c1 :: ob c1 :: ob c1 :: ob c2 :: ob c2 :: ob c2 :: (rpN 6 (ob c3) (ob (hasG h_law12_list) :: ob o19 :: ob o20 :: ob o21 :: ob c3 :: ob o22 :: ob c3 :: ob c3 :: (rpN 5 (ob c4) (ob (hasG h_law12_list) :: ob o23 :: ob o24 :: ob o25 :: ob c4 :: ob o26 :: ob c4 :: ob c4 :: (rpN 5 (ob c5) (ob (hasG h_law12_list) :: ob o27 :: ob o28 :: ob o29 :: ob c5 :: ob o30 :: ob c5 :: ob c5 :: (rpN 7 (ob c6) [ob (hasG h_law12_list), ob o31, ob o32, ob o33, ob c6, ob o34, ob c6, ob c6, ob c7, ob (hasG h_tries_Upto), ob o35, ob (hasG h_tries_Exact), ob o36, ob (hasG h_tries_Upto), ob o37, ob (hasG h_law12_list), ob o38, ob o39, ob o40, ob (hasG h_tries_Of), ob o41, ob (hasG h_tries_Count), ob o42])))))))) (by kernel_rfl) fun st0 h0 => awpOf h0 ?_
         rcases bifE hf0 with ⟨c8, hf0⟩ | ⟨c8, hf0⟩
         ·obtain rfl := someE hf0
          exact awpEnd X0 TTab_ok hC hm hE 4000 (hs := (rpN 39 bT [])) (x := (B false)) (ob c8 :: ob c8 :: ob c8 :: (rpN 36 oT [])) (by kernel_rfl) (LeV.refl _)
         ·rcases bifE hf0 with ⟨c9, hf0⟩ | ⟨c9, hf0⟩
          ·obtain rfl := someE hf0
           exact awpEnd X0 TTab_ok hC hm hE 4000 (hs := (bF :: bF :: bF :: (rpN 36 bT []))) (x := (B false)) (ob c8 :: ob c8 :: ob c8 :: ob c9 :: ob c9 :: ob c9 :: (rpN 33 oT [])) (by kernel_rfl) (LeV.refl _)
          ·rcases bifE hf0 with ⟨c10, hf0⟩ | ⟨c10, hf0⟩
           ·obtain rfl := someE hf0
            exact awpEnd X0 TTab_ok hC hm hE 4000 (hs := (rpN 6 bF (rpN 33 bT []))) (x := (B false)) (ob c8 :: ob c8 :: ob c8 :: ob c9 :: ob c9 :: ob c9 :: ob c10 :: ob c10 :: ob c10 :: (rpN 30 oT [])) (by kernel_rfl) (LeV.refl _)
           ·rcases bifE hf0 with ⟨c11, hf0⟩ | ⟨c11, hf0⟩
            ·obtain rfl := someE hf0
             exact awpEnd X0 TTab_ok hC hm hE 4000 (hs := (rpN 9 bF (rpN 30 bT []))) (x := (B false)) (ob c8 :: ob c8 :: ob c8 :: ob c9 :: ob c9 :: ob c9 :: ob c10 :: ob c10 :: ob c10 :: ob c11 :: ob c11 :: ob c11 :: (rpN 27 oT [])) (by kernel_rfl) (LeV.refl _)
            ·rcases bifE hf0 with ⟨c12, hf0⟩ | ⟨c12, hf0⟩
             ·obtain rfl := someE hf0
              exact awpEnd X0 TTab_ok hC hm hE 4000 (hs := (rpN 12 bF (rpN 27 bT []))) (x := (B false)) (ob c8 :: ob c8 :: ob c8 :: ob c9 :: ob c9 :: ob c9 :: ob c10 :: ob c10 :: ob c10 :: ob c11 :: ob c11 :: ob c11 :: ob c12 :: ob c12 :: ob c12 :: (rpN 24 oT [])) (by kernel_rfl) (LeV.refl _)
             ·rcases bifE hf0 with ⟨c13, hf0⟩ | ⟨c13, hf0⟩
              ·obtain rfl := someE hf0
               exact awpEnd X0 TTab_ok hC hm hE 4000 (hs := (rpN 15 bF (rpN 24 bT []))) (x := (B false)) (ob c8 :: ob c8 :: ob c8 :: ob c9 :: ob c9 :: ob c9 :: ob c10 :: ob c10 :: ob c10 :: ob c11 :: ob c11 :: ob c11 :: ob c12 :: ob c12 :: ob c12 :: (rpN 8 (ob c13) (rpN 16 oT []))) (by kernel_rfl) (LeV.refl _)
              ·have o43 := shM F1_ F0_ ([[], [0], [1]])
               obtain ⟨r_23, h23, hf0⟩ := bindE hf0
               have o44 := hasF h_law12_list (x := [[], [0], [1]]) h23 (loC F4_ ([[], [0], [1]] : List (List Int)) <| loN)
               have o45 := shM F1_ F0_ ([[], [0], [1]])
               obtain ⟨r_24, h24, hf0⟩ := bindE hf0
               have o46 := tabC_at (f := .fn 16 []) (xs := [F4_ r_17.1, F7_ r_23]) (ls := []) (r := B r_24) (ys := []) [F4_ r_17.1, F7_ r_23] (show LeTs [F4_ r_17.1, F7_ r_23] [F4_ r_17.1, F7_ r_23] from inferInstance)
               rcases bifE hf0 with ⟨c14, hf0⟩ | ⟨c14, hf0⟩
               ·obtain rfl := someE hf0
                exact awpEnd ((xLend (P := Try.prog) TTab [] (lentCall (hasCall hC h_law12_same (x := (r_17.1, r_23)) h24)) 172).or X0) TTab_ok hC hm hE 4000 (hs := (rpN 20 bF (.g [] :: .l (([[], [0], [1]]).map F0_) :: .a (F7_ r_23) :: .l (([[], [0], [1]]).map F0_) :: bF :: bF :: bF :: (rpN 16 bT [])))) (x := (B false)) (ob c8 :: ob c8 :: ob c8 :: ob c9 :: ob c9 :: ob c9 :: ob c10 :: ob c10 :: ob c10 :: ob c11 :: ob c11 :: ob c11 :: ob c12 :: ob c12 :: ob c12 :: (rpN 5 (ob c13) (ob (hasG h_law12_list) :: ob o43 :: ob o44 :: ob o45 :: ob c13 :: ob o46 :: ob c13 :: ob c13 :: (rpN 10 (ob c14) (rpN 6 oT []))))) (by kernel_rfl) (LeV.refl _)
               ·have o47 := shM F1_ F0_ ([[0,0], [0,1], [1,0], [1,1]])
                obtain ⟨r_25, h25, hf0⟩ := bindE hf0
                have o48 := hasF h_law12_list (x := [[0,0], [0,1], [1,0], [1,1]]) h25 (loC F4_ ([[0,0], [0,1], [1,0], [1,1]] : List (List Int)) <| loN)
                have o49 := shM F1_ F0_ ([[0,0], [0,1], [1,0], [1,1]])
                obtain ⟨r_26, h26, hf0⟩ := bindE hf0
                have o50 := tabC_at (f := .fn 16 []) (xs := [F4_ r_18.1, F7_ r_25]) (ls := []) (r := B r_26) (ys := []) [F4_ r_18.1, F7_ r_25] (show LeTs [F4_ r_18.1, F7_ r_25] [F4_ r_18.1, F7_ r_25] from inferInstance)
                rcases bifE hf0 with ⟨c15, hf0⟩ | ⟨c15, hf0⟩
                ·obtain rfl := someE hf0
                 exact awpEnd ((xLend (P := Try.prog) TTab [] (lentCall (hasCall hC h_law12_same (x := (r_18.1, r_25)) h26)) 183).or ((xLend (P := Try.prog) TTab [] (lentCall (hasCall hC h_law12_same (x := (r_17.1, r_23)) h24)) 172).or X0)) TTab_ok hC hm hE 4000 (hs := (rpN 20 bF (.g [] :: .l (([[], [0], [1]]).map F0_) :: .a (F7_ r_23) :: .l (([[], [0], [1]]).map F0_) :: (rpN 10 bF (.g [] :: .l (([[0,0], [0,1], [1,0], [1,1]]).map F0_) :: .a (F7_ r_25) :: .l (([[0,0], [0,1], [1,0], [1,1]]).map F0_) :: bF :: bF :: bF :: (rpN 6 bT [])))))) (x := (B false)) (ob c8 :: ob c8 :: ob c8 :: ob c9 :: ob c9 :: ob c9 :: ob c10 :: ob c10 :: ob c10 :: ob c11 :: ob c11 :: ob c11 :: ob c12 :: ob c12 :: ob c12 :: (rpN 5 (ob c13) (ob (hasG h_law12_list) :: ob o43 :: ob o44 :: ob o45 :: ob c13 :: ob o46 :: ob c13 :: ob c13 :: (rpN 7 (ob c14) (ob (hasG h_law12_list) :: ob o47 :: ob o48 :: ob o49 :: ob c14 :: ob o50 :: ob c14 :: ob c14 :: (rpN 5 (ob c15) [oT])))))) (by kernel_rfl) (LeV.refl _)
                ·have o51 := shM F9_ F10_ ([(S_tries_Node.mk ([1,2]) false), (S_tries_Node.mk ([(-1), (-1)]) true), (S_tries_Node.mk ([3, (-1)]) false), (S_tries_Node.mk ([(-1), (-1)]) true)])
                 obtain ⟨r_27, h27, hf0⟩ := bindE hf0
                 have o52 := hasF h_ref12_Equal (x := (r_21.1, (S_tries_Trie.mk 2 ([(S_tries_Node.mk ([1,2]) false), (S_tries_Node.mk ([(-1), (-1)]) true), (S_tries_Node.mk ([3, (-1)]) false), (S_tries_Node.mk ([(-1), (-1)]) true)])))) h27 (loC F21_ r_21.1 <| loC (e_tries_Trie (eI .i64) (eSl 2 true F10_)) (S_tries_Trie.mk 2 ([(S_tries_Node.mk ([1,2]) false), (S_tries_Node.mk ([(-1), (-1)]) true), (S_tries_Node.mk ([3, (-1)]) false), (S_tries_Node.mk ([(-1), (-1)]) true)])) <| loN)
                 rcases bifE hf0 with ⟨c16, hf0⟩ | ⟨c16, hf0⟩
                 ·obtain rfl := someE hf0
                  exact awpEnd ((xLend (P := Try.prog) TTab [] (lentCall (hasCall hC h_law12_same (x := (r_18.1, r_25)) h26)) 183).or ((xLend (P := Try.prog) TTab [] (lentCall (hasCall hC h_law12_same (x := (r_17.1, r_23)) h24)) 172).or X0)) TTab_ok hC hm hE 4000 (hs := (rpN 20 bF (.g [] :: .l (([[], [0], [1]]).map F0_) :: .a (F7_ r_23) :: .l (([[], [0], [1]]).map F0_) :: (rpN 10 bF (.g [] :: .l (([[0,0], [0,1], [1,0], [1,1]]).map F0_) :: .a (F7_ r_25) :: .l (([[0,0], [0,1], [1,0], [1,1]]).map F0_) :: (rpN 6 bF [.g [], .l (([(S_tries_Node.mk ([1,2]) false), (S_tries_Node.mk ([(-1), (-1)]) true), (S_tries_Node.mk ([3, (-1)]) false), (S_tries_Node.mk ([(-1), (-1)]) true)]).map F10_), .a (eB r_27), bF, bF, bT])))))) (x := (B false)) (ob c8 :: ob c8 :: ob c8 :: ob c9 :: ob c9 :: ob c9 :: ob c10 :: ob c10 :: ob c10 :: ob c11 :: ob c11 :: ob c11 :: ob c12 :: ob c12 :: ob c12 :: (rpN 5 (ob c13) (ob (hasG h_law12_list) :: ob o43 :: ob o44 :: ob o45 :: ob c13 :: ob o46 :: ob c13 :: ob c13 :: (rpN 7 (ob c14) [ob (hasG h_law12_list), ob o47, ob o48, ob o49, ob c14, ob o50, ob c14, ob c14, ob c15, ob c15, ob c15, ob (hasG h_ref12_Equal), ob o51, ob o52, ob c15, ob c15, ob c16])))) (by kernel_rfl) (LeV.refl _)
                 ·have o53 := shM F1_ F0_ ([[1], [0]])
                  obtain ⟨r_28, h28, hf0⟩ := bindE hf0
                  have o54 := hasF h_law12_list (x := [[1], [0]]) h28 (loC F4_ ([[1], [0]] : List (List Int)) <| loN)
                  have o55 := shM F1_ F0_ ([[1], [0]])
                  obtain ⟨r_29, h29, hf0⟩ := bindE hf0
                  have o56 := hasF h_tries_Check (x := (r_28,2)) h29 (loC F7_ r_28 <| loC (eI .i64) 2 <| loN)
                  rcases bifE hf0 with ⟨c17, hf0⟩ | ⟨c17, hf0⟩
                  ·have o57 := shM F1_ F0_ ([[0], [2]])
                   obtain ⟨r_30, h30, hf0⟩ := bindE hf0
                   have o58 := hasF h_law12_list (x := [[0], [2]]) h30 (loC F4_ ([[0], [2]] : List (List Int)) <| loN)
                   have o59 := shM F1_ F0_ ([[0], [2]])
                   obtain ⟨r_31, h31, hf0⟩ := bindE hf0
                   have o60 := hasF h_tries_Check (x := (r_30,2)) h31 (loC F7_ r_30 <| loC (eI .i64) 2 <| loN)
                   rcases bifE hf0 with ⟨c18, hf0⟩ | ⟨c18, hf0⟩
                   ·obtain ⟨r_32, h32, hf0⟩ := bindE hf0
                    have o61 := hasF h_tries_Check (x := ([], 0)) h32 (loC (eSl 1 true F2_) ([] : List (List Int)) <| loC (eI .i64) 0 <| loN)
                    rcases bifE hf0 with ⟨c19, hf0⟩ | ⟨c19, hf0⟩
                    ·obtain ⟨r_33, h33, hf0⟩ := bindE hf0
                     have o62 := hasF h_tries_Check (x := ([], 17)) h33 (loC (eSl 1 true F2_) ([] : List (List Int)) <| loC (eI .i64) 17 <| loN)
                     obtain rfl := someE hf0
                     exact awpEnd ((xLend (P := Try.prog) TTab [] (lentCall (hasCall hC h_law12_same (x := (r_18.1, r_25)) h26)) 183).or ((xLend (P := Try.prog) TTab [] (lentCall (hasCall hC h_law12_same (x := (r_17.1, r_23)) h24)) 172).or X0)) TTab_ok hC hm hE 4000 (hs := (rpN 20 bF (.g [] :: .l (([[], [0], [1]]).map F0_) :: .a (F7_ r_23) :: .l (([[], [0], [1]]).map F0_) :: (rpN 10 bF (.g [] :: .l (([[0,0], [0,1], [1,0], [1,1]]).map F0_) :: .a (F7_ r_25) :: .l (([[0,0], [0,1], [1,0], [1,1]]).map F0_) :: (rpN 6 bF (.g [] :: .l (([(S_tries_Node.mk ([1,2]) false), (S_tries_Node.mk ([(-1), (-1)]) true), (S_tries_Node.mk ([3, (-1)]) false), (S_tries_Node.mk ([(-1), (-1)]) true)]).map F10_) :: .a (eB r_27) :: bF :: bF :: bF :: .g [] :: .l (([[1], [0]]).map F0_) :: .a (F7_ r_28) :: .l (([[1], [0]]).map F0_) :: .g [] :: .a ((eI .i64) r_29) :: (rpN 4 bT [.g [], .l (([[0], [2]]).map F0_), .a (F7_ r_30), .l (([[0], [2]]).map F0_), bT, .g [], .a ((eI .i64) r_31), bT, bT, bT, .g [], .a ((eI .i64) r_32), bT, bT, bT, .g [], .a ((eI .i64) r_33), bT, bT])))))))) (x := (B (r_33 == 3))) (ob c8 :: ob c8 :: ob c8 :: ob c9 :: ob c9 :: ob c9 :: ob c10 :: ob c10 :: ob c10 :: ob c11 :: ob c11 :: ob c11 :: ob c12 :: ob c12 :: ob c12 :: (rpN 5 (ob c13) (ob (hasG h_law12_list) :: ob o43 :: ob o44 :: ob o45 :: ob c13 :: ob o46 :: ob c13 :: ob c13 :: (rpN 7 (ob c14) (ob (hasG h_law12_list) :: ob o47 :: ob o48 :: ob o49 :: ob c14 :: ob o50 :: ob c14 :: ob c14 :: ob c15 :: ob c15 :: ob c15 :: ob (hasG h_ref12_Equal) :: ob o51 :: ob o52 :: ob c15 :: ob c15 :: ob c16 :: ob (hasG h_law12_list) :: ob o53 :: ob o54 :: ob o55 :: ob (hasG h_tries_Check) :: ob o56 :: (rpN 4 (ob c17) [ob (hasG h_law12_list), ob o57, ob o58, ob o59, ob c17, ob (hasG h_tries_Check), ob o60, ob c17, ob c17, ob c18, ob (hasG h_tries_Check), ob o61, ob c18, ob c18, ob c19, ob (hasG h_tries_Check), ob o62, ob c19, ob c19])))))) (by kernel_rfl) (LeV.refl _)
                    ·obtain rfl := someE hf0
                     exact awpEnd ((xLend (P := Try.prog) TTab [] (lentCall (hasCall hC h_law12_same (x := (r_18.1, r_25)) h26)) 183).or ((xLend (P := Try.prog) TTab [] (lentCall (hasCall hC h_law12_same (x := (r_17.1, r_23)) h24)) 172).or X0)) TTab_ok hC hm hE 4000 (hs := (rpN 20 bF (.g [] :: .l (([[], [0], [1]]).map F0_) :: .a (F7_ r_23) :: .l (([[], [0], [1]]).map F0_) :: (rpN 10 bF (.g [] :: .l (([[0,0], [0,1], [1,0], [1,1]]).map F0_) :: .a (F7_ r_25) :: .l (([[0,0], [0,1], [1,0], [1,1]]).map F0_) :: (rpN 6 bF (.g [] :: .l (([(S_tries_Node.mk ([1,2]) false), (S_tries_Node.mk ([(-1), (-1)]) true), (S_tries_Node.mk ([3, (-1)]) false), (S_tries_Node.mk ([(-1), (-1)]) true)]).map F10_) :: .a (eB r_27) :: bF :: bF :: bF :: .g [] :: .l (([[1], [0]]).map F0_) :: .a (F7_ r_28) :: .l (([[1], [0]]).map F0_) :: .g [] :: .a ((eI .i64) r_29) :: (rpN 4 bT [.g [], .l (([[0], [2]]).map F0_), .a (F7_ r_30), .l (([[0], [2]]).map F0_), bT, .g [], .a ((eI .i64) r_31), bT, bT, bT, .g [], .a ((eI .i64) r_32), bT, bT, bF, bF, bF])))))))) (x := (B false)) (ob c8 :: ob c8 :: ob c8 :: ob c9 :: ob c9 :: ob c9 :: ob c10 :: ob c10 :: ob c10 :: ob c11 :: ob c11 :: ob c11 :: ob c12 :: ob c12 :: ob c12 :: (rpN 5 (ob c13) (ob (hasG h_law12_list) :: ob o43 :: ob o44 :: ob o45 :: ob c13 :: ob o46 :: ob c13 :: ob c13 :: (rpN 7 (ob c14) (ob (hasG h_law12_list) :: ob o47 :: ob o48 :: ob o49 :: ob c14 :: ob o50 :: ob c14 :: ob c14 :: ob c15 :: ob c15 :: ob c15 :: ob (hasG h_ref12_Equal) :: ob o51 :: ob o52 :: ob c15 :: ob c15 :: ob c16 :: ob (hasG h_law12_list) :: ob o53 :: ob o54 :: ob o55 :: ob (hasG h_tries_Check) :: ob o56 :: (rpN 4 (ob c17) [ob (hasG h_law12_list), ob o57, ob o58, ob o59, ob c17, ob (hasG h_tries_Check), ob o60, ob c17, ob c17, ob c18, ob (hasG h_tries_Check), ob o61, ob c18, ob c18, ob c19, ob c19, ob c19])))))) (by kernel_rfl) (LeV.refl _)
                   ·obtain rfl := someE hf0
                    exact awpEnd ((xLend (P := Try.prog) TTab [] (lentCall (hasCall hC h_law12_same (x := (r_18.1, r_25)) h26)) 183).or ((xLend (P := Try.prog) TTab [] (lentCall (hasCall hC h_law12_same (x := (r_17.1, r_23)) h24)) 172).or X0)) TTab_ok hC hm hE 4000 (hs := (rpN 20 bF (.g [] :: .l (([[], [0], [1]]).map F0_) :: .a (F7_ r_23) :: .l (([[], [0], [1]]).map F0_) :: (rpN 10 bF (.g [] :: .l (([[0,0], [0,1], [1,0], [1,1]]).map F0_) :: .a (F7_ r_25) :: .l (([[0,0], [0,1], [1,0], [1,1]]).map F0_) :: (rpN 6 bF (.g [] :: .l (([(S_tries_Node.mk ([1,2]) false), (S_tries_Node.mk ([(-1), (-1)]) true), (S_tries_Node.mk ([3, (-1)]) false), (S_tries_Node.mk ([(-1), (-1)]) true)]).map F10_) :: .a (eB r_27) :: bF :: bF :: bF :: .g [] :: .l (([[1], [0]]).map F0_) :: .a (F7_ r_28) :: .l (([[1], [0]]).map F0_) :: .g [] :: .a ((eI .i64) r_29) :: (rpN 4 bT (.g [] :: .l (([[0], [2]]).map F0_) :: .a (F7_ r_30) :: .l (([[0], [2]]).map F0_) :: bT :: .g [] :: .a ((eI .i64) r_31) :: bT :: bT :: (rpN 6 bF [])))))))))) (x := (B false)) (ob c8 :: ob c8 :: ob c8 :: ob c9 :: ob c9 :: ob c9 :: ob c10 :: ob c10 :: ob c10 :: ob c11 :: ob c11 :: ob c11 :: ob c12 :: ob c12 :: ob c12 :: (rpN 5 (ob c13) (ob (hasG h_law12_list) :: ob o43 :: ob o44 :: ob o45 :: ob c13 :: ob o46 :: ob c13 :: ob c13 :: (rpN 7 (ob c14) (ob (hasG h_law12_list) :: ob o47 :: ob o48 :: ob o49 :: ob c14 :: ob o50 :: ob c14 :: ob c14 :: ob c15 :: ob c15 :: ob c15 :: ob (hasG h_ref12_Equal) :: ob o51 :: ob o52 :: ob c15 :: ob c15 :: ob c16 :: ob (hasG h_law12_list) :: ob o53 :: ob o54 :: ob o55 :: ob (hasG h_tries_Check) :: ob o56 :: (rpN 4 (ob c17) [ob (hasG h_law12_list), ob o57, ob o58, ob o59, ob c17, ob (hasG h_tries_Check), ob o60, ob c17, ob c17, ob c18, ob c18, ob c18, oF, oF, oF])))))) (by kernel_rfl) (LeV.refl _)
                  ·obtain rfl := someE hf0
                   exact awpEnd ((xLend (P := Try.prog) TTab [] (lentCall (hasCall hC h_law12_same (x := (r_18.1, r_25)) h26)) 183).or ((xLend (P := Try.prog) TTab [] (lentCall (hasCall hC h_law12_same (x := (r_17.1, r_23)) h24)) 172).or X0)) TTab_ok hC hm hE 4000 (hs := (rpN 20 bF (.g [] :: .l (([[], [0], [1]]).map F0_) :: .a (F7_ r_23) :: .l (([[], [0], [1]]).map F0_) :: (rpN 10 bF (.g [] :: .l (([[0,0], [0,1], [1,0], [1,1]]).map F0_) :: .a (F7_ r_25) :: .l (([[0,0], [0,1], [1,0], [1,1]]).map F0_) :: (rpN 6 bF (.g [] :: .l (([(S_tries_Node.mk ([1,2]) false), (S_tries_Node.mk ([(-1), (-1)]) true), (S_tries_Node.mk ([3, (-1)]) false), (S_tries_Node.mk ([(-1), (-1)]) true)]).map F10_) :: .a (eB r_27) :: bF :: bF :: bF :: .g [] :: .l (([[1], [0]]).map F0_) :: .a (F7_ r_28) :: .l (([[1], [0]]).map F0_) :: .g [] :: .a ((eI .i64) r_29) :: (rpN 13 bF [])))))))) (x := (B false)) (ob c8 :: ob c8 :: ob c8 :: ob c9 :: ob c9 :: ob c9 :: ob c10 :: ob c10 :: ob c10 :: ob c11 :: ob c11 :: ob c11 :: ob c12 :: ob c12 :: ob c12 :: (rpN 5 (ob c13) (ob (hasG h_law12_list) :: ob o43 :: ob o44 :: ob o45 :: ob c13 :: ob o46 :: ob c13 :: ob c13 :: (rpN 7 (ob c14) (ob (hasG h_law12_list) :: ob o47 :: ob o48 :: ob o49 :: ob c14 :: ob o50 :: ob c14 :: ob c14 :: ob c15 :: ob c15 :: ob c15 :: ob (hasG h_ref12_Equal) :: ob o51 :: ob o52 :: ob c15 :: ob c15 :: ob c16 :: ob (hasG h_law12_list) :: ob o53 :: ob o54 :: ob o55 :: ob (hasG h_tries_Check) :: ob o56 :: (rpN 7 (ob c17) (rpN 6 oF []))))))) (by kernel_rfl) (LeV.refl _)
noncomputable def bd_ref12_put : Code := (Try.f52.body).getD .skip
noncomputable def sp_ref12_put : Spec := spF (α := List (List Int) × List Int) (ρ := List (List Int)) 52 (fun x => [F8_ x.1, F2_ x.2]) (fun r => F8_ r) (fun x => ref12_put x.1 x.2) [true, false] (by
 rintro ⟨a0, a1⟩ ⟨b0, b1⟩ h
 have e0 := EncI.inj (f := F8_) _ _ (List.cons.inj h).1
 replace h := (List.cons.inj h).2
 have e1 := EncI.inj (f := F2_) _ _ (List.cons.inj h).1
 subst e0 e1
 rfl)
abbrev ST_ref12_put_J3 (w_ : List Int) (low : Int) (l_1 : List (List Int)) : List (Nat × T) := [(0, .own (eOs 1 false F2_ l_1)), (1, .d (eSl 1 false (eI .i64) w_)), (5, .d (I low))]
abbrev ST_ref12_put_L4 (w_ : List Int) (low : Int) (l_2 : List (List Int)) (i_ : Int) : List (Nat × T) := [(0, .own (eOs 1 false F2_ l_2)), (1, .d (eSl 1 false (eI .i64) w_)), (5, .d (I low)), (8, .d (I i_))]
abbrev ST_ref12_put_J2 (l_ : List (List Int)) (w_ : List Int) (low : Int) : List (Nat × T) := [(0, .own (eOs 1 false F2_ l_)), (1, .d (eSl 1 false (eI .i64) w_)), (5, .d (I low))]
abbrev ST_ref12_put_J1 (l_ : List (List Int)) (w_ : List Int) (low : Int) : List (Nat × T) := [(0, .own (eOs 1 false F2_ l_)), (1, .d (eSl 1 false (eI .i64) w_)), (5, .d (I low))]
abbrev ST_ref12_put_L5 (l_ : List (List Int)) (w_ : List Int) (low1 : Int) (high : Int) : List (Nat × T) := [(0, .own (eOs 1 false F2_ l_)), (1, .d (eSl 1 false (eI .i64) w_)), (5, .d (I low1)), (6, .d (I high))]
theorem w_ref12_put {ctr : Ctr} (hC : CtrOk Try.prog ctr) (hm : Try.prog.follows .mixedOrders = true) (h_ref12_compare : ctr.Has sp_ref12_compare) : sp_ref12_put.Ok Try.prog := by
 refine spF_ok ?_
 rintro ⟨l_, w_⟩ r0 hf0
 try unfold ref12_put at hf0
 refine callOk_h (tt := TTab) (keep := true) (rs := [(4, none)]) (n := ⟨68, []⟩) (body := bd_ref12_put) TTab_ok Try.func52 rfl (by kernel_rfl) rfl rfl (by show (2 : Nat) ≤ 68; decide) fun E hE => ?_
 refine awpAt ((xSeal TTab_ok (.inr 66) [65]).or ((xSeal TTab_ok (.inl 44) [43]).or X0)) TTab_ok hC hm [0,1,5,6] 4000 [aLn l_.length, .cut 0] (sub [1,1,1] bd_ref12_put) (frs [1,1,1] [] bd_ref12_put []) [(0, .own (eOs 1 false F2_ l_)), (1, .d (eSl 1 false (eI .i64) w_)), (5, .d (I 0)), (6, .d (I ((l_.length : Nat) : Int)))] [ob (lnM F2_ l_)] (by kernel_rfl) fun st0 h0 => ?_
 refine awpJoin' (X := Int) (x := (sub [1,1,1,2] bd_ref12_put)) (y := (sub [1,1,1,1] bd_ref12_put)) (by kernel_rfl) [0,1,5] [0,1,5,6] _ h0 (fun z => ref12_put_J1 l_ w_ z = some r0) (fun z => ST_ref12_put_J1 l_ w_ z) ?_ fun J1 hJ1 => ?_
 ·rintro low hf0
  unfold ref12_put_J1 at hf0
  refine awpAt ((xSeal TTab_ok (.inr 66) [65]).or ((xSeal TTab_ok (.inl 44) [43]).or X0)) TTab_ok hC hm [0,1,5] 4000 [.cut 0] (sub [1,1,1,1] bd_ref12_put) (frs [1,1,1,1] [] bd_ref12_put []) [(0, .own (eOs 1 false F2_ l_)), (1, .d (eSl 1 false (eI .i64) w_)), (5, .d (I low))] [] (by kernel_rfl) fun st0 h0 => ?_
  refine awpJoin' (X := Unit) (x := (sub [1,1,1,1,2] bd_ref12_put)) (y := (sub [1,1,1,1,1] bd_ref12_put)) (by kernel_rfl) [0,1,5] [0,1,5] _ h0 (fun z => ref12_put_J2 l_ w_ low = some r0) (fun z => ST_ref12_put_J2 l_ w_ low) ?_ fun J2 hJ2 => ?_
  ·rintro ⟨⟩ hf0
   unfold ref12_put_J2 at hf0
   have o0 := shM F3_ F2_ ([[]])
   have o1 := dM F2_ ([[]] : List (List Int))
   obtain ⟨g0, hf0⟩ := gdE hf0
   have o2 := aL F2_ F2_ g0
   have o3 := aM F2_ l_ ([[]] : List (List Int))
   refine awpAt ((xNb TTab_ok 43).or ((xSeal TTab_ok (.inr 66) [65]).or ((xSeal TTab_ok (.inl 44) [43]).or X0))) TTab_ok hC hm [0,1,5] 4000 [.l (([[]]).map F2_), .l ((l_ ++ ([[]] : List (List Int))).map F2_), .cut 0] (sub [1,1,1,1,1,1] bd_ref12_put) (frs [1,1,1,1,1,1] [] bd_ref12_put []) [(0, .own (eOs 1 false F2_ (l_ ++ ([[]] : List (List Int))))), (1, .d (eSl 1 false (eI .i64) w_)), (5, .d (I low))] [ob o0, ob o1, ob o2, ob o3] (by kernel_rfl) fun st0 h0 => ?_
   refine awpJoin' (X := List (List Int)) (x := (sub [1,1,1,1,1,1,2] bd_ref12_put)) (y := (sub [1,1,1,1,1,1,1] bd_ref12_put)) (by kernel_rfl) [0,1,5] [0,1,5] _ h0 (fun z => ref12_put_J3 w_ low z = some r0) (fun z => ST_ref12_put_J3 w_ low z) ?_ fun J3 hJ3 => ?_
   ·rintro l_1 hf0
    unfold ref12_put_J3 at hf0
    obtain ⟨g1, hf0⟩ := gdE hf0
    obtain ⟨l__e, h0, hf0⟩ := bindE hf0
    have o4 := sM F2_ l_1 low w_
    obtain rfl := someE hf0
    exact awpEnd ((xSeal TTab_ok (.inr 66) [65]).or ((xSeal TTab_ok (.inl 44) [43]).or X0)) TTab_ok hC hm hE 4000 (hs := [.l (w_.map (eI .i64)), .l (w_.map (eI .i64)), .a (F2_ l__e), .a (F2_ l__e), .l ((l_1.set low.toNat w_).map F2_)]) (x := (eOs 1 false F2_ (l_1.set low.toNat w_))) [ob (dM (eI .i64) w_), ob (aL (eI .i64) (eI .i64) g1), ob (aM0 (eI .i64) w_), ob (iL F2_ h0), ob (shM (eI .i64) (eI .i64) w_), ob (iM F2_ h0), ob (iM F2_ h0), ob o4] (by kernel_rfl) (LeV.refl _)
   ·have o5 := lnM F2_ (l_ ++ ([[]] : List (List Int)))
    obtain ⟨t4, ht4, hf0⟩ := bindE hf0
    refine awpAt ((xSeal TTab_ok (.inr 66) [65]).or ((xSeal TTab_ok (.inl 44) [43]).or X0)) TTab_ok hC hm [0,1,5,8] 4000 [.a (.atom (.int .i64 (((l_ ++ ([[]] : List (List Int))).length : Nat) : Int)))] (sub [1,1,1,1,1,1,2,1,0] bd_ref12_put) (frs [1,1,1,1,1,1,2,1,0] [J3] bd_ref12_put []) [(0, .own (eOs 1 false F2_ (l_ ++ ([[]] : List (List Int))))), (1, .d (eSl 1 false (eI .i64) w_)), (5, .d (I low)), (8, .d (I (w64 ((((l_ ++ ([[]] : List (List Int))).length : Nat) : Int) - 1))))] [ob o5] (by kernel_rfl) fun st0 h0 => ?_
    refine awpLoop' (X := (List (List Int) × Int) × Nat) (c' := (sub [1,1,1,1,1,1,2,1,0,0] bd_ref12_put)) (by kernel_rfl) [0,1,5,8] (fun x => loopN (fun s => ref12_put_L4 low s.1 s.2) x.2 x.1 = some t4) (fun x => x.2) (fun x => ST_ref12_put_L4 w_ low x.1.1 x.1.2) (((l_ ++ ([[]] : List (List Int))), w64 ((((l_ ++ ([[]] : List (List Int))).length : Nat) : Int) - 1)), fuel) _ h0 inferInstance ht4 ?_
    rintro ⟨⟨l_2, i_⟩, n4⟩ hn4 J4 hJ4
    obtain ⟨m4, lr1, rfl, hf1, hl1⟩ := loopE hn4
    try unfold ref12_put_L4 at hf1
    rcases bifE hf1 with ⟨c0, hf1⟩ | ⟨c0, hf1⟩
    ·obtain ⟨l__e1, h1, hf1⟩ := bindE hf1
     obtain ⟨l__e2, h2, hf1⟩ := bindE hf1
     have o6 := sM F2_ l_2 i_ l__e1
     obtain rfl := someE hf1
     exact awpBack ((xSeal TTab_ok (.inr 66) [65]).or ((xSeal TTab_ok (.inl 44) [43]).or X0)) TTab_ok hC hm [0,1,5,8] 4000 [bT, .a (F2_ l__e1), .a (F2_ l__e2), .a (F2_ l__e2), .l ((l_2.set i_.toNat l__e1).map F2_)] J4 [(0, .own (eOs 1 false F2_ (l_2.set i_.toNat l__e1))), (1, .d (eSl 1 false (eI .i64) w_)), (5, .d (I low)), (8, .d (I (w64 (i_ - 1))))] [ob c0, ob (iL F2_ h1), ob (iM F2_ h1), ob (iL F2_ h2), ob (iM F2_ h2), ob (iM F2_ h2), ob o6] (by kernel_rfl) fun st0 h0 => hJ4 st0 _ (((l_2.set i_.toNat l__e1), w64 (i_ - 1)), m4) hl1 (Nat.lt_succ_self m4) h0 inferInstance
    ·obtain rfl := someE hf1
     obtain rfl := hl1
     exact awpBack ((xSeal TTab_ok (.inr 66) [65]).or ((xSeal TTab_ok (.inl 44) [43]).or X0)) TTab_ok hC hm [0,1,5] 4000 [bF] J3 [(0, .own (eOs 1 false F2_ l_2)), (1, .d (eSl 1 false (eI .i64) w_)), (5, .d (I low))] [ob c0] (by kernel_rfl) fun st0 h0 => hJ3 st0 _ l_2 hf0 h0 inferInstance
  ·rcases bifE hf0 with ⟨c1, hf0⟩ | ⟨c1, hf0⟩
   ·obtain ⟨l__e3, h3, hf0⟩ := bindE hf0
    obtain ⟨r_, h4, hf0⟩ := bindE hf0
    have o7 := hasF h_ref12_compare (x := (l__e3, w_)) h4 (loC F2_ l__e3 <| loC F2_ w_ <| loN)
    rcases bifE hf0 with ⟨c2, hf0⟩ | ⟨c2, hf0⟩
    ·obtain rfl := someE hf0
     exact awpEnd ((xSeal TTab_ok (.inr 66) [65]).or ((xSeal TTab_ok (.inl 44) [43]).or X0)) TTab_ok hC hm hE 4000 (hs := (aLn l_.length :: (rpN 4 bT [.a (F2_ l__e3), bT, bT, .g [], .a ((eI .i64) r_), bT, bT, bT]))) (x := (eOs 1 false F2_ l_)) [ob (lnM F2_ l_), ob c1, ob c1, ob c1, ob (iL F2_ h3), ob c1, ob (iM F2_ h3), ob c1, ob c1, ob (hasG h_ref12_compare), ob o7, ob c1, ob c1, ob c2] (by kernel_rfl) (LeV.refl _)
    ·exact awpBack ((xSeal TTab_ok (.inr 66) [65]).or ((xSeal TTab_ok (.inl 44) [43]).or X0)) TTab_ok hC hm [0,1,5] 4000 (aLn l_.length :: (rpN 4 bT [.a (F2_ l__e3), bT, bT, .g [], .a ((eI .i64) r_), bT, bT, bF])) J2 [(0, .own (eOs 1 false F2_ l_)), (1, .d (eSl 1 false (eI .i64) w_)), (5, .d (I low))] [ob (lnM F2_ l_), ob c1, ob c1, ob c1, ob (iL F2_ h3), ob c1, ob (iM F2_ h3), ob c1, ob c1, ob (hasG h_ref12_compare), ob o7, ob c1, ob c1, ob c2] (by kernel_rfl) fun st0 h0 => hJ2 st0 _ () hf0 h0 inferInstance
   ·exact awpBack ((xSeal TTab_ok (.inr 66) [65]).or ((xSeal TTab_ok (.inl 44) [43]).or X0)) TTab_ok hC hm [0,1,5] 4000 (aLn l_.length :: (rpN 9 bF [])) J2 [(0, .own (eOs 1 false F2_ l_)), (1, .d (eSl 1 false (eI .i64) w_)), (5, .d (I low))] (ob (lnM F2_ l_) :: (rpN 8 (ob c1) [oF])) (by kernel_rfl) fun st0 h0 => hJ2 st0 _ () hf0 h0 inferInstance
 ·obtain ⟨t5, ht5, hf0⟩ := bindE hf0
  refine awpAt ((xSeal TTab_ok (.inr 66) [65]).or ((xSeal TTab_ok (.inl 44) [43]).or X0)) TTab_ok hC hm [0,1,5,6] 4000 [] (sub [1,1,1,2,0] bd_ref12_put) (frs [1,1,1,2,0] [J1] bd_ref12_put []) [(0, .own (eOs 1 false F2_ l_)), (1, .d (eSl 1 false (eI .i64) w_)), (5, .d (I 0)), (6, .d (I ((l_.length : Nat) : Int)))] [] (by kernel_rfl) fun st0 h0 => ?_
  refine awpLoop' (X := (Int × Int) × Nat) (c' := (sub [1,1,1,2,0,0] bd_ref12_put)) (by kernel_rfl) [0,1,5,6] (fun x => loopN (fun s => ref12_put_L5 l_ w_ s.1 s.2) x.2 x.1 = some t5) (fun x => x.2) (fun x => ST_ref12_put_L5 l_ w_ x.1.1 x.1.2) ((0, ((l_.length : Nat) : Int)), fuel) _ h0 inferInstance ht5 ?_
  rintro ⟨⟨low1, high⟩, n5⟩ hn5 J5 hJ5
  obtain ⟨m5, lr1, rfl, hf1, hl1⟩ := loopE hn5
  try unfold ref12_put_L5 at hf1
  rcases bifE hf1 with ⟨c3, hf1⟩ | ⟨c3, hf1⟩
  ·obtain ⟨g2, hf1⟩ := gdE hf1
   obtain ⟨l__e4, h5, hf1⟩ := bindE hf1
   obtain ⟨r_1, h6, hf1⟩ := bindE hf1
   have o8 := hasF h_ref12_compare (x := (l__e4, w_)) h6 (loC F2_ l__e4 <| loC F2_ w_ <| loN)
   rcases bifE hf1 with ⟨c4, hf1⟩ | ⟨c4, hf1⟩
   ·obtain rfl := someE hf1
    exact awpBack ((xSeal TTab_ok (.inr 66) [65]).or ((xSeal TTab_ok (.inl 44) [43]).or X0)) TTab_ok hC hm [0,1,5,6] 4000 [bT, .a (F2_ l__e4), .g [], .a ((eI .i64) r_1), bT] J5 [(0, .own (eOs 1 false F2_ l_)), (1, .d (eSl 1 false (eI .i64) w_)), (5, .d (I (w64 ((w64 (Int.tdiv (w64 (low1 + high)) 2)) + 1)))), (6, .d (I high))] [ob c3, ob g2, ob (iL F2_ h5), ob (iM F2_ h5), ob (hasG h_ref12_compare), ob o8, ob c4] (by kernel_rfl) fun st0 h0 => hJ5 st0 _ ((w64 ((w64 (Int.tdiv (w64 (low1 + high)) 2)) + 1), high), m5) hl1 (Nat.lt_succ_self m5) h0 inferInstance
   ·obtain rfl := someE hf1
    exact awpBack ((xSeal TTab_ok (.inr 66) [65]).or ((xSeal TTab_ok (.inl 44) [43]).or X0)) TTab_ok hC hm [0,1,5,6] 4000 [bT, .a (F2_ l__e4), .g [], .a ((eI .i64) r_1), bF] J5 [(0, .own (eOs 1 false F2_ l_)), (1, .d (eSl 1 false (eI .i64) w_)), (5, .d (I low1)), (6, .d (I (w64 (Int.tdiv (w64 (low1 + high)) 2))))] [ob c3, ob g2, ob (iL F2_ h5), ob (iM F2_ h5), ob (hasG h_ref12_compare), ob o8, ob c4] (by kernel_rfl) fun st0 h0 => hJ5 st0 _ ((low1, w64 (Int.tdiv (w64 (low1 + high)) 2)), m5) hl1 (Nat.lt_succ_self m5) h0 inferInstance
  ·obtain rfl := someE hf1
   obtain rfl := hl1
   exact awpBack ((xSeal TTab_ok (.inr 66) [65]).or ((xSeal TTab_ok (.inl 44) [43]).or X0)) TTab_ok hC hm [0,1,5] 4000 [bF] J1 [(0, .own (eOs 1 false F2_ l_)), (1, .d (eSl 1 false (eI .i64) w_)), (5, .d (I low1))] [ob c3] (by kernel_rfl) fun st0 h0 => hJ1 st0 _ low1 hf0 h0 inferInstance
noncomputable def bd_ref12_Concat : Code := (Try.f47.body).getD .skip
noncomputable def sp_ref12_Concat : Spec := spF (α := List (List Int) × List (List Int)) (ρ := List (List Int)) 47 (fun x => [F7_ x.1, F7_ x.2]) (fun r => F8_ r) (fun x => ref12_Concat x.1 x.2) [] (by
 rintro ⟨a0, a1⟩ ⟨b0, b1⟩ h
 have e0 := EncI.inj (f := F7_) _ _ (List.cons.inj h).1
 replace h := (List.cons.inj h).2
 have e1 := EncI.inj (f := F7_) _ _ (List.cons.inj h).1
 subst e0 e1
 rfl)
abbrev ST_ref12_Concat_J1 (out : List (List Int)) : List (Nat × T) := [(5, .own (eOs 1 false F2_ out))]
abbrev ST_ref12_Concat_J3 (a_ : List (List Int)) (b_ : List (List Int)) (i_ : Int) (out2 : List (List Int)) : List (Nat × T) := [(0, .d (eSl 1 false F2_ a_)), (1, .d (eSl 1 false F2_ b_)), (5, .own (eOs 1 false F2_ out2)), (6, .d (I i_))]
abbrev ST_ref12_Concat_L4 (a_ : List (List Int)) (b_ : List (List Int)) (i_ : Int) (out3 : List (List Int)) (k_ : Int) : List (Nat × T) := [(0, .d (eSl 1 false F2_ a_)), (1, .d (eSl 1 false F2_ b_)), (5, .own (eOs 1 false F2_ out3)), (6, .d (I i_)), (7, .d (I k_))]
abbrev ST_ref12_Concat_L2 (a_ : List (List Int)) (b_ : List (List Int)) (out1 : List (List Int)) (i_ : Int) : List (Nat × T) := [(0, .d (eSl 1 false F2_ a_)), (1, .d (eSl 1 false F2_ b_)), (5, .own (eOs 1 false F2_ out1)), (6, .d (I i_))]
theorem w_ref12_Concat {ctr : Ctr} (hC : CtrOk Try.prog ctr) (hm : Try.prog.follows .mixedOrders = true) (h_ref12_put : ctr.Has sp_ref12_put) : sp_ref12_Concat.Ok Try.prog := by
 refine spF_ok ?_
 rintro ⟨a_, b_⟩ r0 hf0
 try unfold ref12_Concat at hf0
 refine callOk_h (tt := TTab) (keep := true) (rs := [(4, none)]) (n := ⟨34, []⟩) (body := bd_ref12_Concat) TTab_ok Try.func47 rfl (by kernel_rfl) rfl rfl (by show (2 : Nat) ≤ 34; decide) fun E hE => ?_
 refine awpAt X0 TTab_ok hC hm [0,1,5] 4000 [.cut 2] (sub [1,1] bd_ref12_Concat) (frs [1,1] [] bd_ref12_Concat []) [(0, .d (eSl 1 false F2_ a_)), (1, .d (eSl 1 false F2_ b_)), (5, .own (eOs 1 true F2_ []))] [] (by kernel_rfl) fun st0 h0 => ?_
 refine awpJoin' (X := List (List Int)) (x := (sub [1,1,2] bd_ref12_Concat)) (y := (sub [1,1,1] bd_ref12_Concat)) (by kernel_rfl) [5] [0,1,5] _ h0 (fun z => ref12_Concat_J1 z = some r0) (fun z => ST_ref12_Concat_J1 z) ?_ fun J1 hJ1 => ?_
 ·rintro out hf0
  unfold ref12_Concat_J1 at hf0
  obtain rfl := someE hf0
  exact awpEnd X0 TTab_ok hC hm hE 4000 (hs := []) (x := (eOs 1 false F2_ out)) [] (by kernel_rfl) (LeV.refl _)
 ·obtain ⟨t2, ht2, hf0⟩ := bindE hf0
  refine awpAt X0 TTab_ok hC hm [0,1,5,6] 4000 [] (sub [1,1,2,1,0] bd_ref12_Concat) (frs [1,1,2,1,0] [J1] bd_ref12_Concat []) [(0, .d (eSl 1 false F2_ a_)), (1, .d (eSl 1 false F2_ b_)), (5, .own (eOs 1 true F2_ [])), (6, .d (I 0))] [] (by kernel_rfl) fun st0 h0 => ?_
  refine awpLoop' (X := (List (List Int) × Int) × Nat) (c' := (sub [1,1,2,1,0,0] bd_ref12_Concat)) (by kernel_rfl) [0,1,5,6] (fun x => loopN (fun s => ref12_Concat_L2 a_ b_ s.1 s.2) x.2 x.1 = some t2) (fun x => x.2) (fun x => ST_ref12_Concat_L2 a_ b_ x.1.1 x.1.2) ((([] : List (List Int)), 0), fuel) _ h0 inferInstance ht2 ?_
  rintro ⟨⟨out1, i_⟩, n2⟩ hn2 J2 hJ2
  obtain ⟨m2, lr1, rfl, hf1, hl1⟩ := loopE hn2
  try unfold ref12_Concat_L2 at hf1
  rcases bifE hf1 with ⟨c0, hf1⟩ | ⟨c0, hf1⟩
  ·refine awpAt X0 TTab_ok hC hm [0,1,5,6] 4000 [aLn a_.length, bT, .cut 0] (sub [1,1,2,1,0,0,1] bd_ref12_Concat) (frs [1,1,2,1,0,0,1] [J1, J2] bd_ref12_Concat []) [(0, .d (eSl 1 false F2_ a_)), (1, .d (eSl 1 false F2_ b_)), (5, .own (eOs 1 false F2_ out1)), (6, .d (I i_))] [ob (lnM F2_ a_), ob c0] (by kernel_rfl) fun st0 h0 => ?_
   refine awpJoin' (X := List (List Int)) (x := (sub [1,1,2,1,0,0,1,2] bd_ref12_Concat)) (y := (sub [1,1,2,1,0,0,1,1] bd_ref12_Concat)) (by kernel_rfl) [0,1,5,6] [0,1,5,6] _ h0 (fun z => ref12_Concat_J3 i_ z = some lr1) (fun z => ST_ref12_Concat_J3 a_ b_ i_ z) ?_ fun J3 hJ3 => ?_
   ·rintro out2 hf1
    unfold ref12_Concat_J3 at hf1
    obtain rfl := someE hf1
    exact awpBack X0 TTab_ok hC hm [0,1,5,6] 4000 [] J2 [(0, .d (eSl 1 false F2_ a_)), (1, .d (eSl 1 false F2_ b_)), (5, .own (eOs 1 false F2_ out2)), (6, .d (I (w64 (i_ + 1))))] [] (by kernel_rfl) fun st0 h0 => hJ2 st0 _ ((out2, w64 (i_ + 1)), m2) hl1 (Nat.lt_succ_self m2) h0 inferInstance
   ·obtain ⟨t4, ht4, hf1⟩ := bindE hf1
    refine awpAt X0 TTab_ok hC hm [0,1,5,6,7] 4000 [] (sub [1,1,2,1,0,0,1,2,0,1,0] bd_ref12_Concat) (frs [1,1,2,1,0,0,1,2,0,1,0] [J1, J2, J3] bd_ref12_Concat []) [(0, .d (eSl 1 false F2_ a_)), (1, .d (eSl 1 false F2_ b_)), (5, .own (eOs 1 false F2_ out1)), (6, .d (I i_)), (7, .d (I 0))] [] (by kernel_rfl) fun st0 h0 => ?_
    refine awpLoop' (X := (List (List Int) × Int) × Nat) (c' := (sub [1,1,2,1,0,0,1,2,0,1,0,0] bd_ref12_Concat)) (by kernel_rfl) [0,1,5,6,7] (fun x => loopN (fun s => ref12_Concat_L4 a_ b_ i_ s.1 s.2) x.2 x.1 = some t4) (fun x => x.2) (fun x => ST_ref12_Concat_L4 a_ b_ i_ x.1.1 x.1.2) ((out1,0), fuel) _ h0 inferInstance ht4 ?_
    rintro ⟨⟨out3, k_⟩, n4⟩ hn4 J4 hJ4
    obtain ⟨m4, lr2, rfl, hf2, hl2⟩ := loopE hn4
    try unfold ref12_Concat_L4 at hf2
    rcases bifE hf2 with ⟨c1, hf2⟩ | ⟨c1, hf2⟩
    ·obtain ⟨a__e, h0, hf2⟩ := bindE hf2
     obtain ⟨g0, hf2⟩ := gdE hf2
     obtain ⟨b__e, h1, hf2⟩ := bindE hf2
     obtain ⟨g1, hf2⟩ := gdE hf2
     have o0 := shM (eI .i64) (eI .i64) (a__e ++ b__e)
     obtain ⟨r_, h2, hf2⟩ := bindE hf2
     have o1 := hasF h_ref12_put (x := (out3, (a__e ++ b__e))) h2 (loC F8_ out3 <| loC F2_ (a__e ++ b__e) <| loN)
     obtain rfl := someE hf2
     exact awpBack X0 TTab_ok hC hm [0,1,5,6,7] 4000 [aLn b_.length, bT, .a (F2_ a__e), .l (a__e.map (eI .i64)), .a (F2_ b__e), .l ((a__e ++ b__e).map (eI .i64)), .g [true, false], .l ((a__e ++ b__e).map (eI .i64)), .a (F8_ r_)] J4 [(0, .d (eSl 1 false F2_ a_)), (1, .d (eSl 1 false F2_ b_)), (5, .own (eOs 1 false F2_ r_)), (6, .d (I i_)), (7, .d (I (w64 (k_ + 1))))] [ob (lnM F2_ b_), ob c1, ob (i0 h0), ob (iM F2_ h0), ob (dM (eI .i64) a__e), ob (aL (eI .i64) (eI .i64) g0), ob (aM0 (eI .i64) a__e), ob (i0 h1), ob (iM F2_ h1), ob (dM (eI .i64) b__e), ob (aL (eI .i64) (eI .i64) g1), ob (aM (eI .i64) a__e b__e), ob (hasG h_ref12_put), ob o0, ob o1] (by kernel_rfl) fun st0 h0 => hJ4 st0 _ ((r_, w64 (k_ + 1)), m4) hl2 (Nat.lt_succ_self m4) h0 inferInstance
    ·obtain rfl := someE hf2
     obtain rfl := hl2
     exact awpBack X0 TTab_ok hC hm [0,1,5,6] 4000 [aLn b_.length, bF] J3 [(0, .d (eSl 1 false F2_ a_)), (1, .d (eSl 1 false F2_ b_)), (5, .own (eOs 1 false F2_ out3)), (6, .d (I i_))] [ob (lnM F2_ b_), ob c1] (by kernel_rfl) fun st0 h0 => hJ3 st0 _ out3 hf1 h0 inferInstance
  ·obtain rfl := someE hf1
   obtain rfl := hl1
   exact awpBack X0 TTab_ok hC hm [5] 4000 [aLn a_.length, bF] J1 [(5, .own (eOs 1 false F2_ out1))] [ob (lnM F2_ a_), ob c0] (by kernel_rfl) fun st0 h0 => hJ1 st0 _ out1 hf0 h0 inferInstance
noncomputable def bd_ref12_Sort : Code := (Try.f17.body).getD .skip
noncomputable def sp_ref12_Sort : Spec := spF (α := List (List Int)) (ρ := List (List Int)) 17 (fun x => [F7_ x]) (fun r => F8_ r) (fun x => ref12_Sort x) [] (by
 rintro a0 b0 h
 have e0 := EncI.inj (f := F7_) _ _ (List.cons.inj h).1
 subst e0
 rfl)
abbrev ST_ref12_Sort_J1 (out : List (List Int)) : List (Nat × T) := [(3, .own (eOs 1 false F2_ out))]
abbrev ST_ref12_Sort_L2 (l_ : List (List Int)) (out1 : List (List Int)) (i_ : Int) : List (Nat × T) := [(0, .d (eSl 1 false F2_ l_)), (3, .own (eOs 1 false F2_ out1)), (4, .d (I i_))]
theorem w_ref12_Sort {ctr : Ctr} (hC : CtrOk Try.prog ctr) (hm : Try.prog.follows .mixedOrders = true) (h_ref12_put : ctr.Has sp_ref12_put) : sp_ref12_Sort.Ok Try.prog := by
 refine spF_ok ?_
 rintro l_ r0 hf0
 try unfold ref12_Sort at hf0
 refine callOk_h (tt := TTab) (keep := true) (rs := [(2, none)]) (n := ⟨18, []⟩) (body := bd_ref12_Sort) TTab_ok Try.func17 rfl (by kernel_rfl) rfl rfl (by show (1 : Nat) ≤ 18; decide) fun E hE => ?_
 refine awpAt X0 TTab_ok hC hm [0,3] 4000 [.cut 2] (sub [1,1] bd_ref12_Sort) (frs [1,1] [] bd_ref12_Sort []) [(0, .d (eSl 1 false F2_ l_)), (3, .own (eOs 1 true F2_ []))] [] (by kernel_rfl) fun st0 h0 => ?_
 refine awpJoin' (X := List (List Int)) (x := (sub [1,1,2] bd_ref12_Sort)) (y := (sub [1,1,1] bd_ref12_Sort)) (by kernel_rfl) [3] [0,3] _ h0 (fun z => ref12_Sort_J1 z = some r0) (fun z => ST_ref12_Sort_J1 z) ?_ fun J1 hJ1 => ?_
 ·rintro out hf0
  unfold ref12_Sort_J1 at hf0
  obtain rfl := someE hf0
  exact awpEnd X0 TTab_ok hC hm hE 4000 (hs := []) (x := (eOs 1 false F2_ out)) [] (by kernel_rfl) (LeV.refl _)
 ·obtain ⟨t2, ht2, hf0⟩ := bindE hf0
  refine awpAt X0 TTab_ok hC hm [0,3,4] 4000 [] (sub [1,1,2,1,0] bd_ref12_Sort) (frs [1,1,2,1,0] [J1] bd_ref12_Sort []) [(0, .d (eSl 1 false F2_ l_)), (3, .own (eOs 1 true F2_ [])), (4, .d (I 0))] [] (by kernel_rfl) fun st0 h0 => ?_
  refine awpLoop' (X := (List (List Int) × Int) × Nat) (c' := (sub [1,1,2,1,0,0] bd_ref12_Sort)) (by kernel_rfl) [0,3,4] (fun x => loopN (fun s => ref12_Sort_L2 l_ s.1 s.2) x.2 x.1 = some t2) (fun x => x.2) (fun x => ST_ref12_Sort_L2 l_ x.1.1 x.1.2) ((([] : List (List Int)), 0), fuel) _ h0 inferInstance ht2 ?_
  rintro ⟨⟨out1, i_⟩, n2⟩ hn2 J2 hJ2
  obtain ⟨m2, lr1, rfl, hf1, hl1⟩ := loopE hn2
  try unfold ref12_Sort_L2 at hf1
  rcases bifE hf1 with ⟨c0, hf1⟩ | ⟨c0, hf1⟩
  ·obtain ⟨l__e, h0, hf1⟩ := bindE hf1
   obtain ⟨r_, h1, hf1⟩ := bindE hf1
   have o0 := hasF h_ref12_put (x := (out1, l__e)) h1 (loC F8_ out1 <| loC F2_ l__e <| loN)
   obtain rfl := someE hf1
   exact awpBack X0 TTab_ok hC hm [0,3,4] 4000 [aLn l_.length, bT, .a (F2_ l__e), .g [true, false], .a (F8_ r_)] J2 [(0, .d (eSl 1 false F2_ l_)), (3, .own (eOs 1 false F2_ r_)), (4, .d (I (w64 (i_ + 1))))] [ob (lnM F2_ l_), ob c0, ob (i0 h0), ob (iM F2_ h0), ob (hasG h_ref12_put), ob o0] (by kernel_rfl) fun st0 h0 => hJ2 st0 _ ((r_, w64 (i_ + 1)), m2) hl1 (Nat.lt_succ_self m2) h0 inferInstance
  ·obtain rfl := someE hf1
   obtain rfl := hl1
   exact awpBack X0 TTab_ok hC hm [3] 4000 [aLn l_.length, bF] J1 [(3, .own (eOs 1 false F2_ out1))] [ob (lnM F2_ l_), ob c0] (by kernel_rfl) fun st0 h0 => hJ1 st0 _ out1 hf0 h0 inferInstance
noncomputable def bd_ref12_Union : Code := (Try.f45.body).getD .skip
noncomputable def sp_ref12_Union : Spec := spF (α := List (List Int) × List (List Int)) (ρ := List (List Int)) 45 (fun x => [F7_ x.1, F7_ x.2]) (fun r => F8_ r) (fun x => ref12_Union x.1 x.2) [] (by
 rintro ⟨a0, a1⟩ ⟨b0, b1⟩ h
 have e0 := EncI.inj (f := F7_) _ _ (List.cons.inj h).1
 replace h := (List.cons.inj h).2
 have e1 := EncI.inj (f := F7_) _ _ (List.cons.inj h).1
 subst e0 e1
 rfl)
theorem w_ref12_Union {ctr : Ctr} (hC : CtrOk Try.prog ctr) (hm : Try.prog.follows .mixedOrders = true) (h_ref12_Sort : ctr.Has sp_ref12_Sort) : sp_ref12_Union.Ok Try.prog := by
 refine spF_ok ?_
 rintro ⟨a_, b_⟩ r0 hf0
 try unfold ref12_Union at hf0
 refine callOk_h (tt := TTab) (keep := true) (rs := [(4, none)]) (n := ⟨11, []⟩) (body := bd_ref12_Union) TTab_ok Try.func45 rfl (by kernel_rfl) rfl rfl (by show (2 : Nat) ≤ 11; decide) fun E hE => ?_
 obtain ⟨g0, hf0⟩ := gdE hf0
 have o0 := aL F2_ F2_ g0
 obtain ⟨g1, hf0⟩ := gdE hf0
 have o1 := aL F2_ F2_ g1
 have o2 := shM F2_ F2_ (a_ ++ b_)
 obtain ⟨r_, h0, hf0⟩ := bindE hf0
 have o3 := hasF h_ref12_Sort (x := (a_ ++ b_)) h0 (loC F7_ (a_ ++ b_) <| loN)
 have o4 := shM F2_ F2_ (a_ ++ b_)
 obtain rfl := someE hf0
 exact awpEnd X0 TTab_ok hC hm hE 4000 (hs := [.l (a_.map F2_), .l ((a_ ++ b_).map F2_), .g [], .l ((a_ ++ b_).map F2_), .a (F8_ r_), .l ((a_ ++ b_).map F2_)]) (x := (eOs 1 false F2_ r_)) [ob (dM F2_ a_), ob o0, ob (aM0 F2_ a_), ob (dM F2_ b_), ob o1, ob (aM F2_ a_ b_), ob (hasG h_ref12_Sort), ob o2, ob o3, ob o4] (by kernel_rfl) (LeV.refl _)
noncomputable def bd_ref12_Has : Code := (Try.f42.body).getD .skip
noncomputable def sp_ref12_Has : Spec := spF (α := List (List Int) × List Int) (ρ := Bool) 42 (fun x => [F7_ x.1, F2_ x.2]) (fun r => eB r) (fun x => ref12_Has x.1 x.2) [] (by
 rintro ⟨a0, a1⟩ ⟨b0, b1⟩ h
 have e0 := EncI.inj (f := F7_) _ _ (List.cons.inj h).1
 replace h := (List.cons.inj h).2
 have e1 := EncI.inj (f := F2_) _ _ (List.cons.inj h).1
 subst e0 e1
 rfl)
abbrev ST_ref12_Has_J1 : List (Nat × T) := []
abbrev ST_ref12_Has_L2 (l_ : List (List Int)) (w_ : List Int) (i_ : Int) : List (Nat × T) := [(0, .d (eSl 1 false F2_ l_)), (1, .d (eSl 1 false (eI .i64) w_)), (5, .d (I i_))]
theorem w_ref12_Has {ctr : Ctr} (hC : CtrOk Try.prog ctr) (hm : Try.prog.follows .mixedOrders = true) (h_ref12_compare : ctr.Has sp_ref12_compare) : sp_ref12_Has.Ok Try.prog := by
 refine spF_ok ?_
 rintro ⟨l_, w_⟩ r0 hf0
 try unfold ref12_Has at hf0
 refine callOk_h (tt := TTab) (keep := true) (rs := [(4, none)]) (n := ⟨19, []⟩) (body := bd_ref12_Has) TTab_ok Try.func42 rfl (by kernel_rfl) rfl rfl (by show (2 : Nat) ≤ 19; decide) fun E hE => ?_
 refine awpAt X0 TTab_ok hC hm [0,1] 4000 [.cut 1] (sub [1] bd_ref12_Has) (frs [1] [] bd_ref12_Has []) [(0, .d (eSl 1 false F2_ l_)), (1, .d (eSl 1 false (eI .i64) w_))] [] (by kernel_rfl) fun st0 h0 => ?_
 refine awpJoin' (X := Unit) (x := (sub [1,2] bd_ref12_Has)) (y := (sub [1,1] bd_ref12_Has)) (by kernel_rfl) [] [0,1] _ h0 (fun z => ref12_Has_J1 = some r0) (fun z => ST_ref12_Has_J1) ?_ fun J1 hJ1 => ?_
 ·rintro ⟨⟩ hf0
  unfold ref12_Has_J1 at hf0
  obtain rfl := someE hf0
  exact awpEnd X0 TTab_ok hC hm hE 4000 (hs := []) (x := (B false)) [] (by kernel_rfl) (LeV.refl _)
 ·obtain ⟨t2, ht2, hf0⟩ := bindE hf0
  refine awpAt X0 TTab_ok hC hm [0,1,5] 4000 [] (sub [1,2,1,0] bd_ref12_Has) (frs [1,2,1,0] [J1] bd_ref12_Has []) [(0, .d (eSl 1 false F2_ l_)), (1, .d (eSl 1 false (eI .i64) w_)), (5, .d (I 0))] [] (by kernel_rfl) fun st0 h0 => ?_
  refine awpLoop' (X := Int × Nat) (c' := (sub [1,2,1,0,0] bd_ref12_Has)) (by kernel_rfl) [0,1,5] (fun x => loopN (fun s => ref12_Has_L2 l_ w_ s) x.2 x.1 = some t2) (fun x => x.2) (fun x => ST_ref12_Has_L2 l_ w_ x.1) (0, fuel) _ h0 inferInstance ht2 ?_
  rintro ⟨i_, n2⟩ hn2 J2 hJ2
  obtain ⟨m2, lr1, rfl, hf1, hl1⟩ := loopE hn2
  try unfold ref12_Has_L2 at hf1
  rcases bifE hf1 with ⟨c0, hf1⟩ | ⟨c0, hf1⟩
  ·obtain ⟨l__e, h0, hf1⟩ := bindE hf1
   obtain ⟨r_, h1, hf1⟩ := bindE hf1
   have o0 := hasF h_ref12_compare (x := (l__e, w_)) h1 (loC F2_ l__e <| loC F2_ w_ <| loN)
   rcases bifE hf1 with ⟨c1, hf1⟩ | ⟨c1, hf1⟩
   ·obtain rfl := someE hf1
    obtain rfl := hl1
    obtain rfl := someE hf0
    exact awpEnd X0 TTab_ok hC hm hE 4000 (hs := [aLn l_.length, bT, .a (F2_ l__e), .g [], .a ((eI .i64) r_), bT]) (x := (B true)) [ob (lnM F2_ l_), ob c0, ob (i0 h0), ob (iM F2_ h0), ob (hasG h_ref12_compare), ob o0, ob c1] (by kernel_rfl) (LeV.refl _)
   ·obtain rfl := someE hf1
    exact awpBack X0 TTab_ok hC hm [0,1,5] 4000 [aLn l_.length, bT, .a (F2_ l__e), .g [], .a ((eI .i64) r_), bF] J2 [(0, .d (eSl 1 false F2_ l_)), (1, .d (eSl 1 false (eI .i64) w_)), (5, .d (I (w64 (i_ + 1))))] [ob (lnM F2_ l_), ob c0, ob (i0 h0), ob (iM F2_ h0), ob (hasG h_ref12_compare), ob o0, ob c1] (by kernel_rfl) fun st0 h0 => hJ2 st0 _ (w64 (i_ + 1), m2) hl1 (Nat.lt_succ_self m2) h0 inferInstance
  ·obtain rfl := someE hf1
   obtain rfl := hl1
   exact awpBack X0 TTab_ok hC hm [] 4000 [aLn l_.length, bF] J1 [] [ob (lnM F2_ l_), ob c0] (by kernel_rfl) fun st0 h0 => hJ1 st0 _ () hf0 h0 inferInstance
noncomputable def bd_ref12_Minus : Code := (Try.f46.body).getD .skip
noncomputable def sp_ref12_Minus : Spec := spF (α := List (List Int) × List (List Int)) (ρ := List (List Int)) 46 (fun x => [F7_ x.1, F7_ x.2]) (fun r => F8_ r) (fun x => ref12_Minus x.1 x.2) [] (by
 rintro ⟨a0, a1⟩ ⟨b0, b1⟩ h
 have e0 := EncI.inj (f := F7_) _ _ (List.cons.inj h).1
 replace h := (List.cons.inj h).2
 have e1 := EncI.inj (f := F7_) _ _ (List.cons.inj h).1
 subst e0 e1
 rfl)
abbrev ST_ref12_Minus_J1 (out : List (List Int)) : List (Nat × T) := [(5, .own (eOs 1 false F2_ out))]
abbrev ST_ref12_Minus_J3 (a_ : List (List Int)) (b_ : List (List Int)) (i_ : Int) (out2 : List (List Int)) : List (Nat × T) := [(0, .d (eSl 1 false F2_ a_)), (1, .d (eSl 1 false F2_ b_)), (5, .own (eOs 1 false F2_ out2)), (6, .d (I i_))]
abbrev ST_ref12_Minus_L2 (a_ : List (List Int)) (b_ : List (List Int)) (out1 : List (List Int)) (i_ : Int) : List (Nat × T) := [(0, .d (eSl 1 false F2_ a_)), (1, .d (eSl 1 false F2_ b_)), (5, .own (eOs 1 false F2_ out1)), (6, .d (I i_))]
theorem w_ref12_Minus {ctr : Ctr} (hC : CtrOk Try.prog ctr) (hm : Try.prog.follows .mixedOrders = true) (h_ref12_Has : ctr.Has sp_ref12_Has) : sp_ref12_Minus.Ok Try.prog := by
 refine spF_ok ?_
 rintro ⟨a_, b_⟩ r0 hf0
 try unfold ref12_Minus at hf0
 refine callOk_h (tt := TTab) (keep := true) (rs := [(4, none)]) (n := ⟨28, []⟩) (body := bd_ref12_Minus) TTab_ok Try.func46 rfl (by kernel_rfl) rfl rfl (by show (2 : Nat) ≤ 28; decide) fun E hE => ?_
 refine awpAt X0 TTab_ok hC hm [0,1,5] 4000 [.cut 2] (sub [1,1] bd_ref12_Minus) (frs [1,1] [] bd_ref12_Minus []) [(0, .d (eSl 1 false F2_ a_)), (1, .d (eSl 1 false F2_ b_)), (5, .own (eOs 1 true F2_ []))] [] (by kernel_rfl) fun st0 h0 => ?_
 refine awpJoin' (X := List (List Int)) (x := (sub [1,1,2] bd_ref12_Minus)) (y := (sub [1,1,1] bd_ref12_Minus)) (by kernel_rfl) [5] [0,1,5] _ h0 (fun z => ref12_Minus_J1 z = some r0) (fun z => ST_ref12_Minus_J1 z) ?_ fun J1 hJ1 => ?_
 ·rintro out hf0
  unfold ref12_Minus_J1 at hf0
  obtain rfl := someE hf0
  exact awpEnd X0 TTab_ok hC hm hE 4000 (hs := []) (x := (eOs 1 false F2_ out)) [] (by kernel_rfl) (LeV.refl _)
 ·obtain ⟨t2, ht2, hf0⟩ := bindE hf0
  refine awpAt X0 TTab_ok hC hm [0,1,5,6] 4000 [] (sub [1,1,2,1,0] bd_ref12_Minus) (frs [1,1,2,1,0] [J1] bd_ref12_Minus []) [(0, .d (eSl 1 false F2_ a_)), (1, .d (eSl 1 false F2_ b_)), (5, .own (eOs 1 true F2_ [])), (6, .d (I 0))] [] (by kernel_rfl) fun st0 h0 => ?_
  refine awpLoop' (X := (List (List Int) × Int) × Nat) (c' := (sub [1,1,2,1,0,0] bd_ref12_Minus)) (by kernel_rfl) [0,1,5,6] (fun x => loopN (fun s => ref12_Minus_L2 a_ b_ s.1 s.2) x.2 x.1 = some t2) (fun x => x.2) (fun x => ST_ref12_Minus_L2 a_ b_ x.1.1 x.1.2) ((([] : List (List Int)), 0), fuel) _ h0 inferInstance ht2 ?_
  rintro ⟨⟨out1, i_⟩, n2⟩ hn2 J2 hJ2
  obtain ⟨m2, lr1, rfl, hf1, hl1⟩ := loopE hn2
  try unfold ref12_Minus_L2 at hf1
  rcases bifE hf1 with ⟨c0, hf1⟩ | ⟨c0, hf1⟩
  ·refine awpAt X0 TTab_ok hC hm [0,1,5,6] 4000 [aLn a_.length, bT, .cut 0] (sub [1,1,2,1,0,0,1] bd_ref12_Minus) (frs [1,1,2,1,0,0,1] [J1, J2] bd_ref12_Minus []) [(0, .d (eSl 1 false F2_ a_)), (1, .d (eSl 1 false F2_ b_)), (5, .own (eOs 1 false F2_ out1)), (6, .d (I i_))] [ob (lnM F2_ a_), ob c0] (by kernel_rfl) fun st0 h0 => ?_
   refine awpJoin' (X := List (List Int)) (x := (sub [1,1,2,1,0,0,1,2] bd_ref12_Minus)) (y := (sub [1,1,2,1,0,0,1,1] bd_ref12_Minus)) (by kernel_rfl) [0,1,5,6] [0,1,5,6] _ h0 (fun z => ref12_Minus_J3 i_ z = some lr1) (fun z => ST_ref12_Minus_J3 a_ b_ i_ z) ?_ fun J3 hJ3 => ?_
   ·rintro out2 hf1
    unfold ref12_Minus_J3 at hf1
    obtain rfl := someE hf1
    exact awpBack X0 TTab_ok hC hm [0,1,5,6] 4000 [] J2 [(0, .d (eSl 1 false F2_ a_)), (1, .d (eSl 1 false F2_ b_)), (5, .own (eOs 1 false F2_ out2)), (6, .d (I (w64 (i_ + 1))))] [] (by kernel_rfl) fun st0 h0 => hJ2 st0 _ ((out2, w64 (i_ + 1)), m2) hl1 (Nat.lt_succ_self m2) h0 inferInstance
   ·obtain ⟨a__e, h0, hf1⟩ := bindE hf1
    obtain ⟨r_, h1, hf1⟩ := bindE hf1
    have o0 := hasF h_ref12_Has (x := (b_, a__e)) h1 (loC F7_ b_ <| loC F2_ a__e <| loN)
    rcases bifE hf1 with ⟨c1, hf1⟩ | ⟨c1, hf1⟩
    ·obtain ⟨a__e1, h2, hf1⟩ := bindE hf1
     have o1 := dM F2_ ([a__e1] : List (List Int))
     have o2 := dM F2_ ([a__e1] : List (List Int))
     obtain ⟨g0, hf1⟩ := gdE hf1
     have o3 := aL F2_ F2_ g0
     have o4 := aM F2_ out1 ([a__e1] : List (List Int))
     exact awpBack X0 TTab_ok hC hm [0,1,5,6] 4000 [.a (F2_ a__e), .g [], .a (eB r_), bT, .a (F2_ a__e1), bT, .l ((out1 ++ ([a__e1] : List (List Int))).map F2_)] J3 [(0, .d (eSl 1 false F2_ a_)), (1, .d (eSl 1 false F2_ b_)), (5, .own (eOs 1 false F2_ (out1 ++ ([a__e1] : List (List Int))))), (6, .d (I i_))] [ob (i0 h0), ob (iM F2_ h0), ob (hasG h_ref12_Has), ob o0, ob c1, ob (i0 h2), ob (iM F2_ h2), ob o1, ob o2, ob o3, ob o4] (by kernel_rfl) fun st0 h0 => hJ3 st0 _ (out1 ++ ([a__e1] : List (List Int))) hf1 h0 inferInstance
    ·exact awpBack X0 TTab_ok hC hm [0,1,5,6] 4000 [.a (F2_ a__e), .g [], .a (eB r_), bF] J3 [(0, .d (eSl 1 false F2_ a_)), (1, .d (eSl 1 false F2_ b_)), (5, .own (eOs 1 false F2_ out1)), (6, .d (I i_))] [ob (i0 h0), ob (iM F2_ h0), ob (hasG h_ref12_Has), ob o0, ob c1] (by kernel_rfl) fun st0 h0 => hJ3 st0 _ out1 hf1 h0 inferInstance
  ·obtain rfl := someE hf1
   obtain rfl := hl1
   exact awpBack X0 TTab_ok hC hm [5] 4000 [aLn a_.length, bF] J1 [(5, .own (eOs 1 false F2_ out1))] [ob (lnM F2_ a_), ob c0] (by kernel_rfl) fun st0 h0 => hJ1 st0 _ out1 hf0 h0 inferInstance
noncomputable def bd_law12_TriesSetsAny : Code := (Try.f11.body).getD .skip
noncomputable def sp_law12_TriesSetsAny : Spec := spF (α := List (List Int) × List (List Int) × Int) (ρ := Bool) 11 (fun x => [F7_ x.1, F7_ x.2.1, (eI .i64) x.2.2]) (fun r => eB r) (fun x => law12_TriesSetsAny x.1 x.2.1 x.2.2) [] (by
 rintro ⟨a0, a1, a2⟩ ⟨b0, b1, b2⟩ h
 have e0 := EncI.inj (f := F7_) _ _ (List.cons.inj h).1
 replace h := (List.cons.inj h).2
 have e1 := EncI.inj (f := F7_) _ _ (List.cons.inj h).1
 replace h := (List.cons.inj h).2
 have e2 := EncI.inj (f := (eI .i64)) _ _ (List.cons.inj h).1
 subst e0 e1 e2
 rfl)
abbrev ST_law12_TriesSetsAny_J2 (a_ : List (List Int)) (b_ : List (List Int)) (inputs : Int) (f_ : Int) (r_3 : List (List Int) × Int) (r_4 : List (List Int) × Int) (r_5 : List (List Int) × Int) : List (Nat × T) := [(0, .d (eSl 1 false F2_ a_)), (1, .d (eSl 1 false F2_ b_)), (2, .d (I inputs)), (7, .d (I f_)), (8, .d (eSl 1 true F0_ r_3.1)), (10, .d (eSl 1 true F0_ r_4.1)), (12, .d (eSl 1 true F0_ r_5.1)), (13, .d (I r_5.2))]
abbrev ST_law12_TriesSetsAny_J1 (a_ : List (List Int)) (b_ : List (List Int)) (inputs : Int) (f_ : Int) : List (Nat × T) := [(0, .d (eSl 1 false F2_ a_)), (1, .d (eSl 1 false F2_ b_)), (2, .d (I inputs)), (7, .d (I f_))]
theorem w_law12_TriesSetsAny {ctr : Ctr} (hC : CtrOk Try.prog ctr) (hm : Try.prog.follows .mixedOrders = true) (h_law12_few : ctr.Has sp_law12_few) (h_ref12_Check : ctr.Has sp_ref12_Check) (h_tries_Union : ctr.Has sp_tries_Union) (h_tries_Minus : ctr.Has sp_tries_Minus) (h_tries_Concat : ctr.Has sp_tries_Concat) (h_law12_lives : ctr.Has sp_law12_lives) (h_ref12_Concat : ctr.Has sp_ref12_Concat) (h_ref12_Loose : ctr.Has sp_ref12_Loose) (h_ref12_Steps : ctr.Has sp_ref12_Steps) (h_ref12_Union : ctr.Has sp_ref12_Union) (h_law12_same : ctr.Has sp_law12_same) (h_ref12_Minus : ctr.Has sp_ref12_Minus) : sp_law12_TriesSetsAny.Ok Try.prog := by
 refine spF_ok ?_
 rintro ⟨a_, b_, inputs⟩ r0 hf0
 try unfold law12_TriesSetsAny at hf0
 refine callOk_h (tt := TTab) (keep := true) (rs := [(6, none)]) (n := ⟨135, []⟩) (body := bd_law12_TriesSetsAny) TTab_ok Try.func11 rfl (by kernel_rfl) rfl rfl (by show (3 : Nat) ≤ 135; decide) fun E hE => ?_
 obtain ⟨r_, h0, hf0⟩ := bindE hf0
 have o0 := hasF h_law12_few (x := a_) h0 (loC F7_ a_ <| loN)
 obtain ⟨r_1, h1, hf0⟩ := bindE hf0
 have o1 := hasF h_law12_few (x := b_) h1 (loC F7_ b_ <| loN)
 rcases bifE hf0 with ⟨c0, hf0⟩ | ⟨c0, hf0⟩
 ·obtain rfl := someE hf0
  exact awpEnd X0 TTab_ok hC hm hE 4000 (hs := (.g [] :: .a ((eI .i64) r_) :: .g [] :: .a ((eI .i64) r_1) :: (rpN 8 bT []))) (x := (B true)) (ob (hasG h_law12_few) :: ob o0 :: ob (hasG h_law12_few) :: ob o1 :: (rpN 7 (ob c0) [oT])) (by kernel_rfl) (LeV.refl _)
 ·rcases bifE hf0 with ⟨c1, hf0⟩ | ⟨c1, hf0⟩
  ·obtain rfl := someE hf0
   exact awpEnd X0 TTab_ok hC hm hE 4000 (hs := [.g [], .a ((eI .i64) r_), .g [], .a ((eI .i64) r_1), bF, bF, aLn a_.length, bF, bF, aLn b_.length, bF, bF, bF, bT]) (x := (B true)) [ob (hasG h_law12_few), ob o0, ob (hasG h_law12_few), ob o1, ob c0, ob c0, ob (lnM F2_ a_), ob c0, ob c0, ob (lnM F2_ b_), ob c0, ob c0, ob c0, ob c1] (by kernel_rfl) (LeV.refl _)
  ·obtain ⟨r_2, h2, hf0⟩ := bindE hf0
   have o2 := hasF h_ref12_Check (x := (a_, inputs)) h2 (loC F7_ a_ <| loC (eI .i64) inputs <| loN)
   refine awpAt X0 TTab_ok hC hm [0,1,2,7] 4000 (.g [] :: .a ((eI .i64) r_) :: .g [] :: .a ((eI .i64) r_1) :: bF :: bF :: aLn a_.length :: bF :: bF :: aLn b_.length :: (rpN 4 bF [.g [], .a ((eI .i64) r_2), .cut 0])) (sub [1,1,1] bd_law12_TriesSetsAny) (frs [1,1,1] [] bd_law12_TriesSetsAny []) [(0, .d (eSl 1 false F2_ a_)), (1, .d (eSl 1 false F2_ b_)), (2, .d (I inputs)), (7, .d (I r_2))] [ob (hasG h_law12_few), ob o0, ob (hasG h_law12_few), ob o1, ob c0, ob c0, ob (lnM F2_ a_), ob c0, ob c0, ob (lnM F2_ b_), ob c0, ob c0, ob c0, ob c1, ob (hasG h_ref12_Check), ob o2] (by kernel_rfl) fun st0 h0 => ?_
   refine awpJoin' (X := Int) (x := (sub [1,1,1,2] bd_law12_TriesSetsAny)) (y := (sub [1,1,1,1] bd_law12_TriesSetsAny)) (by kernel_rfl) [0,1,2,7] [0,1,2,7] _ h0 (fun z => law12_TriesSetsAny_J1 a_ b_ inputs z = some r0) (fun z => ST_law12_TriesSetsAny_J1 a_ b_ inputs z) ?_ fun J1 hJ1 => ?_
   ·rintro f_ hf0
    unfold law12_TriesSetsAny_J1 at hf0
    obtain ⟨r_3, h3, hf0⟩ := bindE hf0
    have o3 := hasF h_tries_Union (x := (a_, b_, inputs)) h3 (loC F7_ a_ <| loC F7_ b_ <| loC (eI .i64) inputs <| loN)
    obtain ⟨r_4, h4, hf0⟩ := bindE hf0
    have o4 := hasF h_tries_Minus (x := (a_, b_, inputs)) h4 (loC F7_ a_ <| loC F7_ b_ <| loC (eI .i64) inputs <| loN)
    obtain ⟨r_5, h5, hf0⟩ := bindE hf0
    have o5 := hasF h_tries_Concat (x := (a_, b_, inputs)) h5 (loC F7_ a_ <| loC F7_ b_ <| loC (eI .i64) inputs <| loN)
    refine awpAt X0 TTab_ok hC hm [0,1,2,7,8,9,10,11,12,13] 4000 [.g [], .a (.tup [eSl 1 true F0_ r_3.1, I r_3.2]), .g [], .a (.tup [eSl 1 true F0_ r_4.1, I r_4.2]), .g [], .a (.tup [eSl 1 true F0_ r_5.1, I r_5.2]), .cut 0] (sub [1,1,1,1,1,1,1] bd_law12_TriesSetsAny) (frs [1,1,1,1,1,1,1] [] bd_law12_TriesSetsAny []) [(0, .d (eSl 1 false F2_ a_)), (1, .d (eSl 1 false F2_ b_)), (2, .d (I inputs)), (7, .d (I f_)), (8, .d (eSl 1 true F0_ r_3.1)), (9, .d (I r_3.2)), (10, .d (eSl 1 true F0_ r_4.1)), (11, .d (I r_4.2)), (12, .d (eSl 1 true F0_ r_5.1)), (13, .d (I r_5.2))] [ob (hasG h_tries_Union), ob o3, ob (hasG h_tries_Minus), ob o4, ob (hasG h_tries_Concat), ob o5] (by kernel_rfl) fun st0 h0 => ?_
    refine awpJoin' (X := Unit) (x := (sub [1,1,1,1,1,1,1,2] bd_law12_TriesSetsAny)) (y := (sub [1,1,1,1,1,1,1,1] bd_law12_TriesSetsAny)) (by kernel_rfl) [0,1,2,7,8,10,12,13] [0,1,2,7,8,9,10,11,12,13] _ h0 (fun z => law12_TriesSetsAny_J2 a_ b_ inputs f_ r_3 r_4 r_5 = some r0) (fun z => ST_law12_TriesSetsAny_J2 a_ b_ inputs f_ r_3 r_4 r_5) ?_ fun J2 hJ2 => ?_
    ·rintro ⟨⟩ hf0
     unfold law12_TriesSetsAny_J2 at hf0
     rcases bifE hf0 with ⟨c2, hf0⟩ | ⟨c2, hf0⟩
     ·obtain ⟨r_6, h6, hf0⟩ := bindE hf0
      have o6 := hasF h_law12_lives (x := ()) h6 (loN)
      obtain rfl := someE hf0
      exact awpEnd X0 TTab_ok hC hm hE 4000 (hs := [bT, .g [], .a (eB r_6)]) (x := (B r_6)) [ob c2, ob (hasG h_law12_lives), ob o6] (by kernel_rfl) (LeV.refl _)
     ·obtain ⟨r_7, h7, hf0⟩ := bindE hf0
      have o7 := hasF h_ref12_Concat (x := (a_, b_)) h7 (loC F7_ a_ <| loC F7_ b_ <| loN)
      have o8 := shM F2_ F2_ r_7
      obtain ⟨r_8, h8, hf0⟩ := bindE hf0
      have o9 := hasF h_ref12_Loose (x := (r_7, inputs)) h8 (loC F7_ r_7 <| loC (eI .i64) inputs <| loN)
      rcases bifE hf0 with ⟨c3, hf0⟩ | ⟨c3, hf0⟩
      ·rcases bifE hf0 with ⟨c4, hf0⟩ | ⟨c4, hf0⟩
       ·rcases bifE hf0 with ⟨c5, hf0⟩ | ⟨c5, hf0⟩
        ·obtain ⟨r_9, h9, hf0⟩ := bindE hf0
         have o10 := hasF h_law12_lives (x := ()) h9 (loN)
         obtain rfl := someE hf0
         exact awpEnd X0 TTab_ok hC hm hE 4000 (hs := (bF :: .g [] :: .a (F8_ r_7) :: .g [] :: .l (r_7.map F2_) :: .a ((eI .i64) r_8) :: (rpN 7 bT [aLn r_5.1.length, bT, bT, bT, .g [], .a (eB r_9), bT]))) (x := (B r_9)) (ob c2 :: ob (hasG h_ref12_Concat) :: ob o7 :: ob (hasG h_ref12_Loose) :: ob o8 :: ob o9 :: (rpN 4 (ob c3) [oT, ob c4, ob c4, ob (lnM F0_ r_5.1), ob c4, ob c4, ob c5, ob (hasG h_law12_lives), ob o10, ob c5])) (by kernel_rfl) (LeV.refl _)
        ·obtain rfl := someE hf0
         exact awpEnd X0 TTab_ok hC hm hE 4000 (hs := (bF :: .g [] :: .a (F8_ r_7) :: .g [] :: .l (r_7.map F2_) :: .a ((eI .i64) r_8) :: (rpN 7 bT [aLn r_5.1.length, bT, bT, bF, bF]))) (x := (B false)) (ob c2 :: ob (hasG h_ref12_Concat) :: ob o7 :: ob (hasG h_ref12_Loose) :: ob o8 :: ob o9 :: (rpN 4 (ob c3) [oT, ob c4, ob c4, ob (lnM F0_ r_5.1), ob c4, ob c4, ob c5, ob c5])) (by kernel_rfl) (LeV.refl _)
       ·obtain rfl := someE hf0
        exact awpEnd X0 TTab_ok hC hm hE 4000 (hs := (bF :: .g [] :: .a (F8_ r_7) :: .g [] :: .l (r_7.map F2_) :: .a ((eI .i64) r_8) :: (rpN 5 bT (rpN 6 bF [])))) (x := (B false)) (ob c2 :: ob (hasG h_ref12_Concat) :: ob o7 :: ob (hasG h_ref12_Loose) :: ob o8 :: ob o9 :: (rpN 4 (ob c3) (oT :: (rpN 4 (ob c4) [oF, oF])))) (by kernel_rfl) (LeV.refl _)
      ·have o11 := shM F2_ F2_ r_7
       obtain ⟨r_10, h10, hf0⟩ := bindE hf0
       have o12 := hasF h_ref12_Steps (x := r_7) h10 (loC F7_ r_7 <| loN)
       rcases bifE hf0 with ⟨c6, hf0⟩ | ⟨c6, hf0⟩
       ·rcases bifE hf0 with ⟨c7, hf0⟩ | ⟨c7, hf0⟩
        ·rcases bifE hf0 with ⟨c8, hf0⟩ | ⟨c8, hf0⟩
         ·obtain ⟨r_11, h11, hf0⟩ := bindE hf0
          have o13 := hasF h_law12_lives (x := ()) h11 (loN)
          obtain rfl := someE hf0
          exact awpEnd X0 TTab_ok hC hm hE 4000 (hs := [bF, .g [], .a (F8_ r_7), .g [], .l (r_7.map F2_), .a ((eI .i64) r_8), bF, bF, .g [], .l (r_7.map F2_), .a ((eI .i64) r_10), bF, bF, bT, bT, bT, aLn r_5.1.length, bT, bT, bT, .g [], .a (eB r_11), bT]) (x := (B r_11)) [ob c2, ob (hasG h_ref12_Concat), ob o7, ob (hasG h_ref12_Loose), ob o8, ob o9, ob c3, ob c3, ob (hasG h_ref12_Steps), ob o11, ob o12, ob c3, ob c3, ob c6, ob c7, ob c7, ob (lnM F0_ r_5.1), ob c7, ob c7, ob c8, ob (hasG h_law12_lives), ob o13, ob c8] (by kernel_rfl) (LeV.refl _)
         ·obtain rfl := someE hf0
          exact awpEnd X0 TTab_ok hC hm hE 4000 (hs := [bF, .g [], .a (F8_ r_7), .g [], .l (r_7.map F2_), .a ((eI .i64) r_8), bF, bF, .g [], .l (r_7.map F2_), .a ((eI .i64) r_10), bF, bF, bT, bT, bT, aLn r_5.1.length, bT, bT, bF, bF]) (x := (B false)) [ob c2, ob (hasG h_ref12_Concat), ob o7, ob (hasG h_ref12_Loose), ob o8, ob o9, ob c3, ob c3, ob (hasG h_ref12_Steps), ob o11, ob o12, ob c3, ob c3, ob c6, ob c7, ob c7, ob (lnM F0_ r_5.1), ob c7, ob c7, ob c8, ob c8] (by kernel_rfl) (LeV.refl _)
        ·obtain rfl := someE hf0
         exact awpEnd X0 TTab_ok hC hm hE 4000 (hs := (bF :: .g [] :: .a (F8_ r_7) :: .g [] :: .l (r_7.map F2_) :: .a ((eI .i64) r_8) :: bF :: bF :: .g [] :: .l (r_7.map F2_) :: .a ((eI .i64) r_10) :: bF :: bF :: bT :: (rpN 6 bF []))) (x := (B false)) (ob c2 :: ob (hasG h_ref12_Concat) :: ob o7 :: ob (hasG h_ref12_Loose) :: ob o8 :: ob o9 :: ob c3 :: ob c3 :: ob (hasG h_ref12_Steps) :: ob o11 :: ob o12 :: ob c3 :: ob c3 :: ob c6 :: (rpN 4 (ob c7) [oF, oF])) (by kernel_rfl) (LeV.refl _)
       ·obtain ⟨r_12, h12, hf0⟩ := bindE hf0
        have o14 := hasF h_ref12_Union (x := (a_, b_)) h12 (loC F7_ a_ <| loC F7_ b_ <| loN)
        have o15 := shM F2_ F2_ r_12
        obtain ⟨r_13, h13, hf0⟩ := bindE hf0
        have o16 := tabC_at (f := .fn 16 []) (xs := [F4_ r_3.1, F7_ r_12]) (ls := []) (r := B r_13) (ys := []) [F4_ r_3.1, F7_ r_12] (show LeTs [F4_ r_3.1, F7_ r_12] [F4_ r_3.1, F7_ r_12] from inferInstance)
        rcases bifE hf0 with ⟨c9, hf0⟩ | ⟨c9, hf0⟩
        ·obtain ⟨r_14, h14, hf0⟩ := bindE hf0
         have o17 := hasF h_ref12_Minus (x := (a_, b_)) h14 (loC F7_ a_ <| loC F7_ b_ <| loN)
         have o18 := shM F2_ F2_ r_14
         obtain ⟨r_15, h15, hf0⟩ := bindE hf0
         have o19 := tabC_at (f := .fn 16 []) (xs := [F4_ r_4.1, F7_ r_14]) (ls := []) (r := B r_15) (ys := []) [F4_ r_4.1, F7_ r_14] (show LeTs [F4_ r_4.1, F7_ r_14] [F4_ r_4.1, F7_ r_14] from inferInstance)
         rcases bifE hf0 with ⟨c10, hf0⟩ | ⟨c10, hf0⟩
         ·rcases bifE hf0 with ⟨c11, hf0⟩ | ⟨c11, hf0⟩
          ·have o20 := shM F2_ F2_ r_7
           obtain ⟨r_16, h16, hf0⟩ := bindE hf0
           have o21 := tabC_at (f := .fn 16 []) (xs := [F4_ r_5.1, F7_ r_7]) (ls := []) (r := B r_16) (ys := []) [F4_ r_5.1, F7_ r_7] (show LeTs [F4_ r_5.1, F7_ r_7] [F4_ r_5.1, F7_ r_7] from inferInstance)
           rcases bifE hf0 with ⟨c12, hf0⟩ | ⟨c12, hf0⟩
           ·obtain ⟨r_17, h17, hf0⟩ := bindE hf0
            have o22 := hasF h_law12_lives (x := ()) h17 (loN)
            obtain rfl := someE hf0
            exact awpEnd ((xLend (P := Try.prog) TTab [] (lentCall (hasCall hC h_law12_same (x := (r_5.1, r_7)) h16)) 130).or ((xLend (P := Try.prog) TTab [] (lentCall (hasCall hC h_law12_same (x := (r_4.1, r_14)) h15)) 121).or ((xLend (P := Try.prog) TTab [] (lentCall (hasCall hC h_law12_same (x := (r_3.1, r_12)) h13)) 115).or X0))) TTab_ok hC hm hE 4000 (hs := (bF :: .g [] :: .a (F8_ r_7) :: .g [] :: .l (r_7.map F2_) :: .a ((eI .i64) r_8) :: bF :: bF :: .g [] :: .l (r_7.map F2_) :: .a ((eI .i64) r_10) :: bF :: bF :: bF :: .g [] :: .a (F8_ r_12) :: .l (r_12.map F2_) :: (rpN 4 bT (.g [] :: .a (F8_ r_14) :: bT :: .l (r_14.map F2_) :: (rpN 7 bT [.l (r_7.map F2_), bT, bT, .g [], .a (eB r_17), bT]))))) (x := (B r_17)) (ob c2 :: ob (hasG h_ref12_Concat) :: ob o7 :: ob (hasG h_ref12_Loose) :: ob o8 :: ob o9 :: ob c3 :: ob c3 :: ob (hasG h_ref12_Steps) :: ob o11 :: ob o12 :: ob c3 :: ob c3 :: ob c6 :: ob (hasG h_ref12_Union) :: ob o14 :: ob o15 :: ob o16 :: (rpN 4 (ob c9) [ob (hasG h_ref12_Minus), ob o17, ob c9, ob o18, ob o19, ob c9, ob c10, ob c10, ob c10, ob c11, ob c11, ob c11, ob o20, ob o21, ob c11, ob c12, ob (hasG h_law12_lives), ob o22, ob c12])) (by kernel_rfl) (LeV.refl _)
           ·obtain rfl := someE hf0
            exact awpEnd ((xLend (P := Try.prog) TTab [] (lentCall (hasCall hC h_law12_same (x := (r_5.1, r_7)) h16)) 130).or ((xLend (P := Try.prog) TTab [] (lentCall (hasCall hC h_law12_same (x := (r_4.1, r_14)) h15)) 121).or ((xLend (P := Try.prog) TTab [] (lentCall (hasCall hC h_law12_same (x := (r_3.1, r_12)) h13)) 115).or X0))) TTab_ok hC hm hE 4000 (hs := (bF :: .g [] :: .a (F8_ r_7) :: .g [] :: .l (r_7.map F2_) :: .a ((eI .i64) r_8) :: bF :: bF :: .g [] :: .l (r_7.map F2_) :: .a ((eI .i64) r_10) :: bF :: bF :: bF :: .g [] :: .a (F8_ r_12) :: .l (r_12.map F2_) :: (rpN 4 bT (.g [] :: .a (F8_ r_14) :: bT :: .l (r_14.map F2_) :: (rpN 7 bT [.l (r_7.map F2_), bT, bF, bF]))))) (x := (B false)) (ob c2 :: ob (hasG h_ref12_Concat) :: ob o7 :: ob (hasG h_ref12_Loose) :: ob o8 :: ob o9 :: ob c3 :: ob c3 :: ob (hasG h_ref12_Steps) :: ob o11 :: ob o12 :: ob c3 :: ob c3 :: ob c6 :: ob (hasG h_ref12_Union) :: ob o14 :: ob o15 :: ob o16 :: (rpN 4 (ob c9) [ob (hasG h_ref12_Minus), ob o17, ob c9, ob o18, ob o19, ob c9, ob c10, ob c10, ob c10, ob c11, ob c11, ob c11, ob o20, ob o21, ob c11, ob c12, ob c12])) (by kernel_rfl) (LeV.refl _)
          ·obtain rfl := someE hf0
           exact awpEnd ((xLend (P := Try.prog) TTab [] (lentCall (hasCall hC h_law12_same (x := (r_4.1, r_14)) h15)) 121).or ((xLend (P := Try.prog) TTab [] (lentCall (hasCall hC h_law12_same (x := (r_3.1, r_12)) h13)) 115).or X0)) TTab_ok hC hm hE 4000 (hs := (bF :: .g [] :: .a (F8_ r_7) :: .g [] :: .l (r_7.map F2_) :: .a ((eI .i64) r_8) :: bF :: bF :: .g [] :: .l (r_7.map F2_) :: .a ((eI .i64) r_10) :: bF :: bF :: bF :: .g [] :: .a (F8_ r_12) :: .l (r_12.map F2_) :: (rpN 4 bT (.g [] :: .a (F8_ r_14) :: bT :: .l (r_14.map F2_) :: (rpN 4 bT (rpN 6 bF [])))))) (x := (B false)) (ob c2 :: ob (hasG h_ref12_Concat) :: ob o7 :: ob (hasG h_ref12_Loose) :: ob o8 :: ob o9 :: ob c3 :: ob c3 :: ob (hasG h_ref12_Steps) :: ob o11 :: ob o12 :: ob c3 :: ob c3 :: ob c6 :: ob (hasG h_ref12_Union) :: ob o14 :: ob o15 :: ob o16 :: (rpN 4 (ob c9) (ob (hasG h_ref12_Minus) :: ob o17 :: ob c9 :: ob o18 :: ob o19 :: ob c9 :: ob c10 :: ob c10 :: ob c10 :: (rpN 4 (ob c11) [oF, oF])))) (by kernel_rfl) (LeV.refl _)
         ·obtain rfl := someE hf0
          exact awpEnd ((xLend (P := Try.prog) TTab [] (lentCall (hasCall hC h_law12_same (x := (r_4.1, r_14)) h15)) 121).or ((xLend (P := Try.prog) TTab [] (lentCall (hasCall hC h_law12_same (x := (r_3.1, r_12)) h13)) 115).or X0)) TTab_ok hC hm hE 4000 (hs := (bF :: .g [] :: .a (F8_ r_7) :: .g [] :: .l (r_7.map F2_) :: .a ((eI .i64) r_8) :: bF :: bF :: .g [] :: .l (r_7.map F2_) :: .a ((eI .i64) r_10) :: bF :: bF :: bF :: .g [] :: .a (F8_ r_12) :: .l (r_12.map F2_) :: (rpN 4 bT (.g [] :: .a (F8_ r_14) :: bT :: .l (r_14.map F2_) :: bT :: (rpN 9 bF []))))) (x := (B false)) (ob c2 :: ob (hasG h_ref12_Concat) :: ob o7 :: ob (hasG h_ref12_Loose) :: ob o8 :: ob o9 :: ob c3 :: ob c3 :: ob (hasG h_ref12_Steps) :: ob o11 :: ob o12 :: ob c3 :: ob c3 :: ob c6 :: ob (hasG h_ref12_Union) :: ob o14 :: ob o15 :: ob o16 :: (rpN 4 (ob c9) (ob (hasG h_ref12_Minus) :: ob o17 :: ob c9 :: ob o18 :: ob o19 :: ob c9 :: ob c10 :: ob c10 :: ob c10 :: (rpN 6 oF [])))) (by kernel_rfl) (LeV.refl _)
        ·obtain rfl := someE hf0
         exact awpEnd ((xLend (P := Try.prog) TTab [] (lentCall (hasCall hC h_law12_same (x := (r_3.1, r_12)) h13)) 115).or X0) TTab_ok hC hm hE 4000 (hs := (bF :: .g [] :: .a (F8_ r_7) :: .g [] :: .l (r_7.map F2_) :: .a ((eI .i64) r_8) :: bF :: bF :: .g [] :: .l (r_7.map F2_) :: .a ((eI .i64) r_10) :: bF :: bF :: bF :: .g [] :: .a (F8_ r_12) :: .l (r_12.map F2_) :: (rpN 15 bF []))) (x := (B false)) (ob c2 :: ob (hasG h_ref12_Concat) :: ob o7 :: ob (hasG h_ref12_Loose) :: ob o8 :: ob o9 :: ob c3 :: ob c3 :: ob (hasG h_ref12_Steps) :: ob o11 :: ob o12 :: ob c3 :: ob c3 :: ob c6 :: ob (hasG h_ref12_Union) :: ob o14 :: ob o15 :: ob o16 :: (rpN 6 (ob c9) (rpN 9 oF []))) (by kernel_rfl) (LeV.refl _)
    ·rcases bifE hf0 with ⟨c13, hf0⟩ | ⟨c13, hf0⟩
     ·obtain rfl := someE hf0
      exact awpEnd X0 TTab_ok hC hm hE 4000 (hs := (rpN 10 bT [])) (x := (B false)) (rpN 4 (ob c13) (rpN 6 oT [])) (by kernel_rfl) (LeV.refl _)
     ·rcases bifE hf0 with ⟨c14, hf0⟩ | ⟨c14, hf0⟩
      ·obtain rfl := someE hf0
       exact awpEnd X0 TTab_ok hC hm hE 4000 (hs := (rpN 4 bF (rpN 6 bT []))) (x := (B false)) (rpN 4 (ob c13) (rpN 5 (ob c14) [oT])) (by kernel_rfl) (LeV.refl _)
      ·rcases bifE hf0 with ⟨c15, hf0⟩ | ⟨c15, hf0⟩
       ·rcases bifE hf0 with ⟨c16, hf0⟩ | ⟨c16, hf0⟩
        ·obtain rfl := someE hf0
         exact awpEnd X0 TTab_ok hC hm hE 4000 (hs := (rpN 7 bF (rpN 15 bT [bF, bT, bF, bT]))) (x := (B false)) (rpN 4 (ob c13) (ob c14 :: ob c14 :: ob c14 :: (rpN 4 (ob c15) (rpN 9 (ob c16) [ob c15, ob c16, ob c14, ob c15, ob c14, oT])))) (by kernel_rfl) (LeV.refl _)
        ·rcases bifE hf0 with ⟨c17, hf0⟩ | ⟨c17, hf0⟩
         ·obtain rfl := someE hf0
          exact awpEnd X0 TTab_ok hC hm hE 4000 (hs := (rpN 7 bF (rpN 4 bT [bF, bF, aLn r_3.1.length, bF, bF, aLn r_4.1.length, bF, bF, bF, aLn r_5.1.length, bF, bF, bT, bF, bF, bT, bF, bT]))) (x := (B false)) (rpN 4 (ob c13) (ob c14 :: ob c14 :: ob c14 :: (rpN 4 (ob c15) [ob c16, ob c16, ob (lnM F0_ r_3.1), ob c16, ob c16, ob (lnM F0_ r_4.1), ob c16, ob c16, ob c16, ob (lnM F0_ r_5.1), ob c16, ob c16, ob c15, ob c16, ob c14, ob c15, ob c14, ob c17]))) (by kernel_rfl) (LeV.refl _)
         ·exact awpBack X0 TTab_ok hC hm [0,1,2,7,8,10,12,13] 4000 (rpN 7 bF (rpN 4 bT [bF, bF, aLn r_3.1.length, bF, bF, aLn r_4.1.length, bF, bF, bF, aLn r_5.1.length, bF, bF, bT, bF, bF, bT, bF, bF])) J2 [(0, .d (eSl 1 false F2_ a_)), (1, .d (eSl 1 false F2_ b_)), (2, .d (I inputs)), (7, .d (I f_)), (8, .d (eSl 1 true F0_ r_3.1)), (10, .d (eSl 1 true F0_ r_4.1)), (12, .d (eSl 1 true F0_ r_5.1)), (13, .d (I r_5.2))] (rpN 4 (ob c13) (ob c14 :: ob c14 :: ob c14 :: (rpN 4 (ob c15) [ob c16, ob c16, ob (lnM F0_ r_3.1), ob c16, ob c16, ob (lnM F0_ r_4.1), ob c16, ob c16, ob c16, ob (lnM F0_ r_5.1), ob c16, ob c16, ob c15, ob c16, ob c14, ob c15, ob c14, ob c17]))) (by kernel_rfl) fun st0 h0 => hJ2 st0 _ () hf0 h0 inferInstance
       ·exact awpBack X0 TTab_ok hC hm [0,1,2,7,8,10,12,13] 4000 (rpN 16 bF []) J2 [(0, .d (eSl 1 false F2_ a_)), (1, .d (eSl 1 false F2_ b_)), (2, .d (I inputs)), (7, .d (I f_)), (8, .d (eSl 1 true F0_ r_3.1)), (10, .d (eSl 1 true F0_ r_4.1)), (12, .d (eSl 1 true F0_ r_5.1)), (13, .d (I r_5.2))] (rpN 4 (ob c13) (ob c14 :: ob c14 :: ob c14 :: (rpN 5 (ob c15) [ob c14, ob c15, ob c14, oF]))) (by kernel_rfl) fun st0 h0 => hJ2 st0 _ () hf0 h0 inferInstance
   ·rcases bifE hf0 with ⟨c18, hf0⟩ | ⟨c18, hf0⟩
    ·obtain ⟨r_18, h18, hf0⟩ := bindE hf0
     have o23 := hasF h_ref12_Check (x := (b_, inputs)) h18 (loC F7_ b_ <| loC (eI .i64) inputs <| loN)
     exact awpBack X0 TTab_ok hC hm [0,1,2,7] 4000 [bT, .g [], .a ((eI .i64) r_18)] J1 [(0, .d (eSl 1 false F2_ a_)), (1, .d (eSl 1 false F2_ b_)), (2, .d (I inputs)), (7, .d (I r_18))] [ob c18, ob (hasG h_ref12_Check), ob o23] (by kernel_rfl) fun st0 h0 => hJ1 st0 _ r_18 hf0 h0 inferInstance
    ·exact awpBack X0 TTab_ok hC hm [0,1,2,7] 4000 [bF] J1 [(0, .d (eSl 1 false F2_ a_)), (1, .d (eSl 1 false F2_ b_)), (2, .d (I inputs)), (7, .d (I r_2))] [ob c18] (by kernel_rfl) fun st0 h0 => hJ1 st0 _ r_2 hf0 h0 inferInstance
end Go.Own

namespace Go.Own
open Go.Proofs
set_option linter.unusedVariables false
theorem ks_ne {l : List Spec} {s : Spec} (h : ((l.map Spec.k).contains s.k) = false) : ∀ t ∈ l, t.k ≠ s.k := by
 intro t ht e
 have : (l.map Spec.k).contains s.k = true := by
  rw [List.contains_iff_mem, ← e]
  exact List.mem_map_of_mem ht
 rw [h] at this
 cases this
theorem has_at {l : List Spec} {c : Ctr} (H : ∀ t ∈ l, c.Has t) (i : Nat) {s : Spec} (h : l[i]? = some s) : c.Has s := H _ (List.mem_of_getElem? h)
theorem orders : Try.prog.follows .mixedOrders = true := by kernel_rfl
noncomputable def L0 : List Spec := sp_ref12_Steps :: []
noncomputable def L1 : List Spec := sp_law12_few :: L0
noncomputable def L2 : List Spec := sp_ref12_word :: L1
noncomputable def L3 : List Spec := sp_ref12_symbols :: L2
noncomputable def L4 : List Spec := sp_ref12_Loose :: L3
noncomputable def L5 : List Spec := sp_ref12_compare :: L4
noncomputable def L6 : List Spec := sp_ref12_Check :: L5
noncomputable def L7 : List Spec := sp_words_Check_1 :: L6
noncomputable def L8 : List Spec := sp_slices_IndexFunc_int_int :: L7
noncomputable def L9 : List Spec := sp_slices_ContainsFunc_int_int :: L8
noncomputable def L10 : List Spec := sp_words_Check :: L9
noncomputable def L11 : List Spec := sp_tries_loose :: L10
noncomputable def L12 : List Spec := sp_cmp_isNaN_int :: L11
noncomputable def L13 : List Spec := sp_cmp_Compare_int :: L12
noncomputable def L14 : List Spec := sp_slices_Compare_int_int :: L13
noncomputable def L15 : List Spec := sp_cmp_Or_int :: L14
noncomputable def L16 : List Spec := sp_words_Compare :: L15
noncomputable def L17 : List Spec := sp_tries_ahead :: L16
noncomputable def L18 : List Spec := sp_tries_steps :: L17
noncomputable def L19 : List Spec := sp_tries_Check :: L18
noncomputable def L20 : List Spec := sp_tries_both :: L19
noncomputable def L21 : List Spec := sp_slices_CloneW_int_int :: L20
noncomputable def L22 : List Spec := sp_tries_sorted_1 :: L21
noncomputable def L23 : List Spec := sp_slices_CompactFuncW_int_int :: L22
noncomputable def L24 : List Spec := sp_slices_Clone_int_int :: L23
noncomputable def L25 : List Spec := sp_slices_Clip_int_int :: L24
noncomputable def L26 : List Spec := sp_tries_sorted :: L25
noncomputable def L27 : List Spec := sp_tries_Union :: L26
noncomputable def L28 : List Spec := sp_slices_BinarySearchFuncW_int_int_int :: L27
noncomputable def L29 : List Spec := sp_tries_in :: L28
noncomputable def L30 : List Spec := sp_tries_Minus_1 :: L29
noncomputable def L31 : List Spec := sp_slices_IndexFuncW_int_int :: L30
noncomputable def L32 : List Spec := sp_slices_DeleteFuncW_int_int :: L31
noncomputable def L33 : List Spec := sp_tries_Minus :: L32
noncomputable def L34 : List Spec := sp_tries_key :: L33
noncomputable def L35 : List Spec := sp_tries_Concat :: L34
noncomputable def L36 : List Spec := sp_law12_list :: L35
noncomputable def L37 : List Spec := sp_tries_Sort :: L36
noncomputable def L38 : List Spec := sp_tries_of :: L37
noncomputable def L39 : List Spec := sp_tries_walk :: L38
noncomputable def L40 : List Spec := sp_tries_leaf_1 :: L39
noncomputable def L41 : List Spec := sp_tries_leaf :: L40
noncomputable def L42 : List Spec := sp_tries_collect :: L41
noncomputable def L43 : List Spec := sp_tries_Reduce :: L42
noncomputable def L44 : List Spec := sp_tries_Prefixes_1 :: L43
noncomputable def L45 : List Spec := sp_tries_valid :: L44
noncomputable def L46 : List Spec := sp_tries_Prefixes :: L45
noncomputable def L47 : List Spec := sp_ref12_Same :: L46
noncomputable def L48 : List Spec := sp_law12_same :: L47
noncomputable def L49 : List Spec := sp_tries_all :: L48
noncomputable def L50 : List Spec := sp_tries_Upto :: L49
noncomputable def L51 : List Spec := sp_tries_Exact :: L50
noncomputable def L52 : List Spec := sp_slices_Clip_tries_Node_tries_Node :: L51
noncomputable def L53 : List Spec := sp_tries_builder_ordered :: L52
noncomputable def L54 : List Spec := sp_tries_Of :: L53
noncomputable def L55 : List Spec := sp_tries_tree :: L54
noncomputable def L56 : List Spec := sp_tries_Words :: L55
noncomputable def L57 : List Spec := sp_tries_Count :: L56
noncomputable def L58 : List Spec := sp_ref12_Equal :: L57
noncomputable def L59 : List Spec := sp_law12_lives :: L58
noncomputable def L60 : List Spec := sp_ref12_put :: L59
noncomputable def L61 : List Spec := sp_ref12_Concat :: L60
noncomputable def L62 : List Spec := sp_ref12_Sort :: L61
noncomputable def L63 : List Spec := sp_ref12_Union :: L62
noncomputable def L64 : List Spec := sp_ref12_Has :: L63
noncomputable def L65 : List Spec := sp_ref12_Minus :: L64
noncomputable def L66 : List Spec := sp_law12_TriesSetsAny :: L65
theorem L0_ok : SpecsOk Try.prog L0 := ⟨fun _ hC H => w_ref12_Steps hC orders, ks_ne (by kernel_rfl), trivial⟩
theorem L1_ok : SpecsOk Try.prog L1 := ⟨fun _ hC H => w_law12_few hC orders (has_at H 0 rfl), ks_ne (by kernel_rfl), L0_ok⟩
theorem L2_ok : SpecsOk Try.prog L2 := ⟨fun _ hC H => w_ref12_word hC orders, ks_ne (by kernel_rfl), L1_ok⟩
theorem L3_ok : SpecsOk Try.prog L3 := ⟨fun _ hC H => w_ref12_symbols hC orders, ks_ne (by kernel_rfl), L2_ok⟩
theorem L4_ok : SpecsOk Try.prog L4 := ⟨fun _ hC H => w_ref12_Loose hC orders (has_at H 1 rfl) (has_at H 0 rfl), ks_ne (by kernel_rfl), L3_ok⟩
theorem L5_ok : SpecsOk Try.prog L5 := ⟨fun _ hC H => w_ref12_compare hC orders, ks_ne (by kernel_rfl), L4_ok⟩
theorem L6_ok : SpecsOk Try.prog L6 := ⟨fun _ hC H => w_ref12_Check hC orders (has_at H 1 rfl) (has_at H 0 rfl) (has_at H 5 rfl), ks_ne (by kernel_rfl), L5_ok⟩
theorem L7_ok : SpecsOk Try.prog L7 := ⟨fun _ hC H => w_words_Check_1 hC orders, ks_ne (by kernel_rfl), L6_ok⟩
theorem L8_ok : SpecsOk Try.prog L8 := ⟨fun _ hC H => w_slices_IndexFunc_int_int hC orders (has_at H 0 rfl), ks_ne (by kernel_rfl), L7_ok⟩
theorem L9_ok : SpecsOk Try.prog L9 := ⟨fun _ hC H => w_slices_ContainsFunc_int_int hC orders (has_at H 0 rfl), ks_ne (by kernel_rfl), L8_ok⟩
theorem L10_ok : SpecsOk Try.prog L10 := ⟨fun _ hC H => w_words_Check hC orders (has_at H 0 rfl), ks_ne (by kernel_rfl), L9_ok⟩
theorem L11_ok : SpecsOk Try.prog L11 := ⟨fun _ hC H => w_tries_loose hC orders (has_at H 0 rfl), ks_ne (by kernel_rfl), L10_ok⟩
theorem L12_ok : SpecsOk Try.prog L12 := ⟨fun _ hC H => w_cmp_isNaN_int hC orders, ks_ne (by kernel_rfl), L11_ok⟩
theorem L13_ok : SpecsOk Try.prog L13 := ⟨fun _ hC H => w_cmp_Compare_int hC orders (has_at H 0 rfl), ks_ne (by kernel_rfl), L12_ok⟩
theorem L14_ok : SpecsOk Try.prog L14 := ⟨fun _ hC H => w_slices_Compare_int_int hC orders (has_at H 0 rfl), ks_ne (by kernel_rfl), L13_ok⟩
theorem L15_ok : SpecsOk Try.prog L15 := ⟨fun _ hC H => w_cmp_Or_int hC orders, ks_ne (by kernel_rfl), L14_ok⟩
theorem L16_ok : SpecsOk Try.prog L16 := ⟨fun _ hC H => w_words_Compare hC orders (has_at H 2 rfl) (has_at H 1 rfl) (has_at H 0 rfl), ks_ne (by kernel_rfl), L15_ok⟩
theorem L17_ok : SpecsOk Try.prog L17 := ⟨fun _ hC H => w_tries_ahead hC orders (has_at H 0 rfl), ks_ne (by kernel_rfl), L16_ok⟩
theorem L18_ok : SpecsOk Try.prog L18 := ⟨fun _ hC H => w_tries_steps hC orders, ks_ne (by kernel_rfl), L17_ok⟩
theorem L19_ok : SpecsOk Try.prog L19 := ⟨fun _ hC H => w_tries_Check hC orders (has_at H 7 rfl) (has_at H 1 rfl) (has_at H 0 rfl), ks_ne (by kernel_rfl), L18_ok⟩
theorem L20_ok : SpecsOk Try.prog L20 := ⟨fun _ hC H => w_tries_both hC orders (has_at H 0 rfl), ks_ne (by kernel_rfl), L19_ok⟩
theorem L21_ok : SpecsOk Try.prog L21 := ⟨fun _ hC H => w_slices_CloneW_int_int hC orders, ks_ne (by kernel_rfl), L20_ok⟩
theorem L22_ok : SpecsOk Try.prog L22 := ⟨fun _ hC H => w_tries_sorted_1 hC orders (has_at H 5 rfl), ks_ne (by kernel_rfl), L21_ok⟩
theorem L23_ok : SpecsOk Try.prog L23 := ⟨fun _ hC H => w_slices_CompactFuncW_int_int hC orders (has_at H 0 rfl), ks_ne (by kernel_rfl), L22_ok⟩
theorem L24_ok : SpecsOk Try.prog L24 := ⟨fun _ hC H => w_slices_Clone_int_int hC orders, ks_ne (by kernel_rfl), L23_ok⟩
theorem L25_ok : SpecsOk Try.prog L25 := ⟨fun _ hC H => w_slices_Clip_int_int hC orders, ks_ne (by kernel_rfl), L24_ok⟩
theorem L26_ok : SpecsOk Try.prog L26 := ⟨fun _ hC H => w_tries_sorted hC orders (has_at H 4 rfl) (has_at H 9 rfl) (has_at H 2 rfl) (has_at H 7 rfl) (has_at H 1 rfl) (has_at H 0 rfl), ks_ne (by kernel_rfl), L25_ok⟩
theorem L27_ok : SpecsOk Try.prog L27 := ⟨fun _ hC H => w_tries_Union hC orders (has_at H 6 rfl) (has_at H 5 rfl) (has_at H 0 rfl), ks_ne (by kernel_rfl), L26_ok⟩
theorem L28_ok : SpecsOk Try.prog L28 := ⟨fun _ hC H => w_slices_BinarySearchFuncW_int_int_int hC orders (has_at H 11 rfl), ks_ne (by kernel_rfl), L27_ok⟩
theorem L29_ok : SpecsOk Try.prog L29 := ⟨fun _ hC H => w_tries_in hC orders (has_at H 0 rfl), ks_ne (by kernel_rfl), L28_ok⟩
theorem L30_ok : SpecsOk Try.prog L30 := ⟨fun _ hC H => w_tries_Minus_1 hC orders (has_at H 0 rfl), ks_ne (by kernel_rfl), L29_ok⟩
theorem L31_ok : SpecsOk Try.prog L31 := ⟨fun _ hC H => w_slices_IndexFuncW_int_int hC orders (has_at H 0 rfl), ks_ne (by kernel_rfl), L30_ok⟩
theorem L32_ok : SpecsOk Try.prog L32 := ⟨fun _ hC H => w_slices_DeleteFuncW_int_int hC orders (has_at H 0 rfl) (has_at H 1 rfl), ks_ne (by kernel_rfl), L31_ok⟩
theorem L33_ok : SpecsOk Try.prog L33 := ⟨fun _ hC H => w_tries_Minus hC orders (has_at H 12 rfl) (has_at H 11 rfl) (has_at H 0 rfl) (has_at H 6 rfl), ks_ne (by kernel_rfl), L32_ok⟩
theorem L34_ok : SpecsOk Try.prog L34 := ⟨fun _ hC H => w_tries_key hC orders, ks_ne (by kernel_rfl), L33_ok⟩
theorem L35_ok : SpecsOk Try.prog L35 := ⟨fun _ hC H => w_tries_Concat hC orders (has_at H 14 rfl) (has_at H 9 rfl) (has_at H 0 rfl) (has_at H 8 rfl), ks_ne (by kernel_rfl), L34_ok⟩
theorem L36_ok : SpecsOk Try.prog L36 := ⟨fun _ hC H => w_law12_list hC orders, ks_ne (by kernel_rfl), L35_ok⟩
theorem L37_ok : SpecsOk Try.prog L37 := ⟨fun _ hC H => w_tries_Sort hC orders (has_at H 25 rfl) (has_at H 10 rfl), ks_ne (by kernel_rfl), L36_ok⟩
theorem L38_ok : SpecsOk Try.prog L38 := ⟨fun _ hC H => w_tries_of hC orders, ks_ne (by kernel_rfl), L37_ok⟩
theorem L39_ok : SpecsOk Try.prog L39 := ⟨fun _ hC H => w_tries_walk hC orders, ks_ne (by kernel_rfl), L38_ok⟩
theorem L40_ok : SpecsOk Try.prog L40 := ⟨fun _ hC H => w_tries_leaf_1 hC orders, ks_ne (by kernel_rfl), L39_ok⟩
theorem L41_ok : SpecsOk Try.prog L41 := ⟨fun _ hC H => w_tries_leaf hC orders (has_at H 0 rfl), ks_ne (by kernel_rfl), L40_ok⟩
theorem L42_ok : SpecsOk Try.prog L42 := ⟨fun _ hC H => w_tries_collect hC orders (has_at H 2 rfl) (has_at H 16 rfl) (has_at H 0 rfl) (has_at H 17 rfl), ks_ne (by kernel_rfl), L41_ok⟩
theorem L43_ok : SpecsOk Try.prog L43 := ⟨fun _ hC H => w_tries_Reduce hC orders (has_at H 23 rfl) (has_at H 4 rfl) (has_at H 0 rfl), ks_ne (by kernel_rfl), L42_ok⟩
theorem L44_ok : SpecsOk Try.prog L44 := ⟨fun _ hC H => w_tries_Prefixes_1 hC orders, ks_ne (by kernel_rfl), L43_ok⟩
theorem L45_ok : SpecsOk Try.prog L45 := ⟨fun _ hC H => w_tries_valid hC orders (has_at H 26 rfl), ks_ne (by kernel_rfl), L44_ok⟩
theorem L46_ok : SpecsOk Try.prog L46 := ⟨fun _ hC H => w_tries_Prefixes hC orders (has_at H 26 rfl) (has_at H 7 rfl) (has_at H 6 rfl) (has_at H 20 rfl) (has_at H 1 rfl) (has_at H 21 rfl) (has_at H 0 rfl), ks_ne (by kernel_rfl), L45_ok⟩
theorem L47_ok : SpecsOk Try.prog L47 := ⟨fun _ hC H => w_ref12_Same hC orders (has_at H 41 rfl), ks_ne (by kernel_rfl), L46_ok⟩
theorem L48_ok : SpecsOk Try.prog L48 := ⟨fun _ hC H => w_law12_same hC orders (has_at H 0 rfl), ks_ne (by kernel_rfl), L47_ok⟩
theorem L49_ok : SpecsOk Try.prog L49 := ⟨fun _ hC H => w_tries_all hC orders (has_at H 22 rfl) (has_at H 23 rfl), ks_ne (by kernel_rfl), L48_ok⟩
theorem L50_ok : SpecsOk Try.prog L50 := ⟨fun _ hC H => w_tries_Upto hC orders (has_at H 0 rfl), ks_ne (by kernel_rfl), L49_ok⟩
theorem L51_ok : SpecsOk Try.prog L51 := ⟨fun _ hC H => w_tries_Exact hC orders (has_at H 1 rfl), ks_ne (by kernel_rfl), L50_ok⟩
theorem L52_ok : SpecsOk Try.prog L52 := ⟨fun _ hC H => w_slices_Clip_tries_Node_tries_Node hC orders, ks_ne (by kernel_rfl), L51_ok⟩
theorem L53_ok : SpecsOk Try.prog L53 := ⟨fun _ hC H => w_tries_builder_ordered hC orders (has_at H 13 rfl) (has_at H 27 rfl) (has_at H 0 rfl), ks_ne (by kernel_rfl), L52_ok⟩
theorem L54_ok : SpecsOk Try.prog L54 := ⟨fun _ hC H => w_tries_Of hC orders (has_at H 34 rfl) (has_at H 15 rfl) (has_at H 0 rfl), ks_ne (by kernel_rfl), L53_ok⟩
theorem L55_ok : SpecsOk Try.prog L55 := ⟨fun _ hC H => w_tries_tree hC orders, ks_ne (by kernel_rfl), L54_ok⟩
theorem L56_ok : SpecsOk Try.prog L56 := ⟨fun _ hC H => w_tries_Words hC orders (has_at H 0 rfl) (has_at H 16 rfl) (has_at H 30 rfl) (has_at H 14 rfl) (has_at H 31 rfl) (has_at H 36 rfl), ks_ne (by kernel_rfl), L55_ok⟩
theorem L57_ok : SpecsOk Try.prog L57 := ⟨fun _ hC H => w_tries_Count hC orders (has_at H 0 rfl) (has_at H 15 rfl), ks_ne (by kernel_rfl), L56_ok⟩
theorem L58_ok : SpecsOk Try.prog L58 := ⟨fun _ hC H => w_ref12_Equal hC orders (has_at H 52 rfl), ks_ne (by kernel_rfl), L57_ok⟩
theorem L59_ok : SpecsOk Try.prog L59 := ⟨fun _ hC H => w_law12_lives hC orders (has_at H 22 rfl) (has_at H 21 rfl) (has_at H 15 rfl) (has_at H 12 rfl) (has_at H 23 rfl) (has_at H 10 rfl) (has_at H 8 rfl) (has_at H 7 rfl) (has_at H 4 rfl) (has_at H 1 rfl) (has_at H 0 rfl) (has_at H 39 rfl), ks_ne (by kernel_rfl), L58_ok⟩
theorem L60_ok : SpecsOk Try.prog L60 := ⟨fun _ hC H => w_ref12_put hC orders (has_at H 54 rfl), ks_ne (by kernel_rfl), L59_ok⟩
theorem L61_ok : SpecsOk Try.prog L61 := ⟨fun _ hC H => w_ref12_Concat hC orders (has_at H 0 rfl), ks_ne (by kernel_rfl), L60_ok⟩
theorem L62_ok : SpecsOk Try.prog L62 := ⟨fun _ hC H => w_ref12_Sort hC orders (has_at H 1 rfl), ks_ne (by kernel_rfl), L61_ok⟩
theorem L63_ok : SpecsOk Try.prog L63 := ⟨fun _ hC H => w_ref12_Union hC orders (has_at H 0 rfl), ks_ne (by kernel_rfl), L62_ok⟩
theorem L64_ok : SpecsOk Try.prog L64 := ⟨fun _ hC H => w_ref12_Has hC orders (has_at H 58 rfl), ks_ne (by kernel_rfl), L63_ok⟩
theorem L65_ok : SpecsOk Try.prog L65 := ⟨fun _ hC H => w_ref12_Minus hC orders (has_at H 0 rfl), ks_ne (by kernel_rfl), L64_ok⟩
theorem L66_ok : SpecsOk Try.prog L66 := ⟨fun _ hC H => w_law12_TriesSetsAny hC orders (has_at H 64 rfl) (has_at H 59 rfl) (has_at H 38 rfl) (has_at H 32 rfl) (has_at H 30 rfl) (has_at H 6 rfl) (has_at H 4 rfl) (has_at H 61 rfl) (has_at H 65 rfl) (has_at H 2 rfl) (has_at H 17 rfl) (has_at H 0 rfl), ks_ne (by kernel_rfl), L65_ok⟩
end Go.Own

namespace Go.Own
set_option linter.unusedVariables false
theorem w64_in {x : Int} (h1 : -9223372036854775808 ≤ x) (h2 : x ≤ 9223372036854775807) : w64 x = x := by
 simp only [w64, IntKind.wrap, IntKind.bits, IntKind.signed]
 simp
 omega
section
variable {α β σ τ ρ : Type}
def Ret (x : Option α) (Q : α → Prop) : Prop := ∃ a, x = some a ∧ Q a
theorem Ret.mono {x : Option α} {Q R : α → Prop} (h : Ret x Q) (q : ∀ a, Q a → R a) : Ret x R := by
 obtain ⟨a, e, h⟩ := h
 exact ⟨a, e, q a h⟩
theorem Ret.eq {x : Option α} {a : α} (h : Ret x fun b => b = a) : x = some a := by
 obtain ⟨b, e, rfl⟩ := h
 exact e
theorem ret_some {a : α} {Q : α → Prop} : Ret (some a) Q ↔ Q a := ⟨fun ⟨b, e, q⟩ => by cases e; exact q, fun q => ⟨a, rfl, q⟩⟩
theorem ret_bind {x : Option α} {f : α → Option β} {Q : β → Prop} : Ret (Option.bind x f) Q ↔ Ret x fun a => Ret (f a) Q := by
 cases x with
 | none => exact ⟨fun ⟨b, e, _⟩ => (by cases e), fun ⟨b, e, _⟩ => (by cases e)⟩
 | some a => exact ⟨fun h => ⟨a, rfl, h⟩, fun ⟨b, e, h⟩ => by cases e; exact h⟩
theorem ret_bif {c : Bool} {x y : Option α} {Q : α → Prop} : Ret (bif c then x else y) Q ↔ (c = true → Ret x Q) ∧ (c = false → Ret y Q) := by
 cases c <;> simp
theorem idx_nat (l : List α) (i : Nat) : idx l (i : Int) = l[i]? := rfl
theorem gdT {p : Prop} [Decidable p] {x : Option α} (h : p) : gd p x = x := by unfold gd; rw [if_pos h]
theorem bdT {x : Option α} {u : α} {f : α → Option ρ} (h : x = some u) : Option.bind x f = f u := by rw [h]; rfl
theorem loopN_succ (step : σ → Option (LR σ τ)) (n : Nat) (s : σ) : loopN step (n + 1) s = (match step s with | none => none | some (.next s') => loopN step n s' | some (.done t) => some t) := rfl
def LRP (N : σ → Prop) (D : τ → Prop) : LR σ τ → Prop
 | .next s => N s
 | .done t => D t
theorem ret_loop {step : σ → Option (LR σ τ)} (I : σ → Prop) (m : σ → Nat) {R : τ → Prop} {s : σ} (hs : I s) (hm : m s < 18446744073709551616)
  (h : ∀ s, I s → Ret (step s) (LRP (fun s' => I s' ∧ m s' < m s) R)) : Ret (loop step s) R := by
 have gen : ∀ (n : Nat) (s : σ), I s → m s < n → Ret (loopN step n s) R := by
  intro n
  induction n with
  | zero => intro s _ h; omega
  | succ n ih =>
   intro s hs hm
   obtain ⟨a, e, q⟩ := h s hs
   rw [loopN_succ, e]
   cases a with
   | next s' => exact ih s' q.1 (by have := q.2; omega)
   | done t => exact ⟨t, rfl, q⟩
 exact gen fuel s hs hm
theorem loop_seq {step : σ → Option (LR σ τ)} (st : Nat → σ) (n : Nat) {t : τ} (hn : n < 9223372036854775808) (h : ∀ i, i < n → step (st i) = some (.next (st (i + 1)))) (hd : step (st n) = some (.done t)) : loop step (st 0) = some t := by
 have gen : ∀ (k : Nat) (i : Nat), i ≤ n → n - i < k → loopN step k (st i) = some t := by
  intro k
  induction k with
  | zero => intro i _ h; omega
  | succ k ih =>
   intro i hi hk
   rw [loopN_succ]
   rcases Nat.lt_or_ge i n with q | q
   ·rw [h i q]
    exact ih (i + 1) q (by omega)
   ·have : i = n := by omega
    subst this
    rw [hd]
 exact gen fuel 0 (Nat.zero_le _) (by show n - 0 < 18446744073709551616; omega)
def firstS (f : Nat → α → Option ρ) : List α → Nat → Option ρ
 | [], _ => none
 | x :: l, i => match f i x with | some r => some r | none => firstS f l (i + 1)
theorem firstS_none {f : Nat → α → Option ρ} : ∀ {l : List α} {k : Nat}, (∀ i x, l[i]? = some x → f (k + i) x = none) → firstS f l k = none
 | [], _, _ => rfl
 | x :: l, k, h => by
  have h0 := h 0 x rfl
  simp only [Nat.add_zero] at h0
  simp only [firstS, h0]
  exact firstS_none fun i y hy => by have := h (i + 1) y (by simpa using hy); rwa [show k + 1 + i = k + (i + 1) by omega]
theorem firstS_some {f : Nat → α → Option ρ} {r : ρ} : ∀ {l : List α} {k : Nat}, firstS f l k = some r → ∃ i x, l[i]? = some x ∧ f (k + i) x = some r
 | [], _, h => by cases h
 | x :: l, k, h => by
  simp only [firstS] at h
  cases hf : f k x with
  | some r' => rw [hf] at h; exact ⟨0, x, rfl, by rw [Nat.add_zero, hf]; exact h⟩
  | none =>
   rw [hf] at h
   obtain ⟨i, y, h1, h2⟩ := firstS_some h
   exact ⟨i + 1, y, by simpa using h1, by rw [← h2]; congr 1; omega⟩
theorem firstS_isNone {f : Nat → α → Option ρ} {l : List α} {k : Nat} (h : firstS f l k = none) : ∀ i x, l[i]? = some x → f (k + i) x = none := by
 induction l generalizing k with
 | nil => intro i x h; simp at h
 | cons y l ih =>
  intro i x hx
  simp only [firstS] at h
  cases hf : f k y with
  | some r' => rw [hf] at h; cases h
  | none =>
   rw [hf] at h
   cases i with
   | zero => simp at hx; subst hx; simpa using hf
   | succ i => have := ih h i x (by simpa using hx); rwa [show k + (i + 1) = k + 1 + i by omega]
def oS : Option ρ → Unit ⊕ ρ
 | some r => .inr r
 | none => .inl ()
def nS (i : Nat) : Option ρ → LR Int (Unit ⊕ ρ)
 | some r => .done (.inr r)
 | none => .next (w64 ((i : Int) + 1))
theorem loop_list (l : List α) (hl : l.length < 4611686018427387904) {step : Int → Option (LR Int (Unit ⊕ ρ))} (f : Nat → α → Option ρ)
  (h : ∀ (i : Nat) (x : α), l[i]? = some x → step (i : Int) = some (nS i (f i x))) (h2 : step (l.length : Int) = some (.done (.inl ()))) :
  loop step 0 = some (oS (firstS f l 0)) := by
 have gen : ∀ (n : Nat) (k : Nat), k ≤ l.length → l.length - k < n → loopN step n (k : Int) = some (oS (firstS f (l.drop k) k)) := by
  intro n
  induction n with
  | zero => intro k _ h; omega
  | succ n ih =>
   intro k hk hn
   rw [loopN_succ]
   rcases Nat.lt_or_ge k l.length with hlt | hge
   ·have hx : l[k]? = some l[k] := List.getElem?_eq_getElem hlt
    rw [h k _ hx, List.drop_eq_getElem_cons hlt]
    simp only [firstS]
    cases hf : f k l[k] with
    | some r => rfl
    | none =>
     simp only [nS]
     rw [w64_in (by omega) (by omega)]
     exact ih (k + 1) hlt (by omega)
   ·have : k = l.length := by omega
    subst this
    rw [h2, List.drop_length]
    rfl
 exact gen fuel 0 (Nat.zero_le _) (by show l.length - 0 < 18446744073709551616; omega)
end
end Go.Own

namespace Go.Own
set_option linter.unusedVariables false
def lexC : List Int → List Int → Int
 | [], [] => 0
 | [], _ :: _ => -1
 | _ :: _, [] => 1
 | x :: a, y :: b => if x < y then -1 else if y < x then 1 else lexC a b
def cmpW (a b : List Int) : Int := if a.length < b.length then -1 else if b.length < a.length then 1 else lexC a b
theorem lexC_eq : ∀ {a b : List Int}, lexC a b = 0 → a = b
 | [], [], _ => rfl
 | [], _ :: _, h => by simp [lexC] at h
 | _ :: _, [], h => by simp [lexC] at h
 | x :: a, y :: b, h => by
  simp only [lexC] at h
  split at h
  ·simp at h
  ·split at h
   ·simp at h
   ·rw [show x = y by omega, lexC_eq h]
theorem lexC_self : ∀ a : List Int, lexC a a = 0
 | [] => rfl
 | x :: a => by simp [lexC, lexC_self a]
theorem lexC_neg : ∀ a b : List Int, lexC b a = - lexC a b
 | [], [] => rfl
 | [], _ :: _ => rfl
 | _ :: _, [] => rfl
 | x :: a, y :: b => by
  simp only [lexC]
  split
  ·rw [if_neg (by omega)]
  ·split
   ·rfl
   ·exact lexC_neg a b
theorem lexC_trans : ∀ {a b c : List Int}, lexC a b < 0 → lexC b c < 0 → lexC a c < 0
 | [], [], _, h, _ => by simp [lexC] at h
 | [], _ :: _, [], _, h => by simp [lexC] at h
 | [], _ :: _, _ :: _, _, _ => by simp [lexC]
 | _ :: _, [], _, h, _ => by simp [lexC] at h
 | _ :: _, _ :: _, [], _, h => by simp [lexC] at h
 | x :: a, y :: b, z :: c, h1, h2 => by
  simp only [lexC] at h1 h2 ⊢
  by_cases e1 : x < y
  ·by_cases e2 : y < z
   ·rw [if_pos (by omega)]; omega
   ·rw [if_neg e2] at h2
    by_cases e3 : z < y
    ·rw [if_pos e3] at h2; omega
    ·rw [if_pos (by omega)]; omega
  ·rw [if_neg e1] at h1
   by_cases e3 : y < x
   ·rw [if_pos e3] at h1; omega
   ·rw [if_neg e3] at h1
    have : x = y := by omega
    subst this
    by_cases e2 : x < z
    ·rw [if_pos e2]; omega
    ·rw [if_neg e2] at h2 ⊢
     by_cases e4 : z < x
     ·rw [if_pos e4] at h2; omega
     ·rw [if_neg e4] at h2 ⊢
      exact lexC_trans h1 h2
theorem cmpW_eq {a b : List Int} (h : cmpW a b = 0) : a = b := by
 unfold cmpW at h
 split at h
 ·simp at h
 ·split at h
  ·simp at h
  ·exact lexC_eq h
theorem cmpW_self (a : List Int) : cmpW a a = 0 := by simp [cmpW, lexC_self]
theorem cmpW_eq0 {a b : List Int} : cmpW a b = 0 ↔ a = b := ⟨cmpW_eq, fun h => h ▸ cmpW_self a⟩
theorem cmpW_neg (a b : List Int) : cmpW b a = - cmpW a b := by
 unfold cmpW
 by_cases h1 : a.length < b.length
 ·rw [if_pos h1, if_neg (by omega), if_pos h1]; rfl
 ·by_cases h2 : b.length < a.length
  ·rw [if_pos h2, if_neg h1, if_pos h2]
  ·rw [if_neg h1, if_neg h2, if_neg h2, if_neg h1, lexC_neg]
theorem cmpW_trans {a b c : List Int} (h1 : cmpW a b < 0) (h2 : cmpW b c < 0) : cmpW a c < 0 := by
 unfold cmpW at *
 by_cases e1 : a.length < b.length
 ·by_cases e2 : b.length < c.length
  ·rw [if_pos (by omega)]; omega
  ·rw [if_neg e2] at h2
   by_cases e3 : c.length < b.length
   ·rw [if_pos e3] at h2; omega
   ·rw [if_pos (by omega)]; omega
 ·rw [if_neg e1] at h1
  by_cases e3 : b.length < a.length
  ·rw [if_pos e3] at h1; omega
  ·rw [if_neg e3] at h1
   have e : a.length = b.length := by omega
   rw [e]
   by_cases e2 : b.length < c.length
   ·rw [if_pos e2]; omega
   ·rw [if_neg e2] at h2 ⊢
    by_cases e4 : c.length < b.length
    ·rw [if_pos e4] at h2; omega
    ·rw [if_neg e4] at h2 ⊢
     exact lexC_trans h1 h2
theorem cmpW_irr (a : List Int) : ¬ cmpW a a < 0 := by rw [cmpW_self]; omega
theorem cmpW_asym {a b : List Int} (h : cmpW a b < 0) : ¬ cmpW b a < 0 := by rw [cmpW_neg a b]; omega
theorem cmpW_ge {a b : List Int} : ¬ cmpW a b < 0 ↔ cmpW b a < 0 ∨ a = b := by
 rw [← cmpW_eq0, cmpW_neg a b]; omega
def SW (l : List (List Int)) : Prop := l.Pairwise fun a b => cmpW a b < 0
theorem SW.nil : SW [] := List.Pairwise.nil
theorem SW.tail {x : List Int} {l : List (List Int)} (h : SW (x :: l)) : SW l := (List.pairwise_cons.1 h).2
theorem SW.head {x : List Int} {l : List (List Int)} (h : SW (x :: l)) : ∀ y ∈ l, cmpW x y < 0 := (List.pairwise_cons.1 h).1
theorem SW.unique : ∀ {l m : List (List Int)}, SW l → SW m → (∀ x, x ∈ l ↔ x ∈ m) → l = m
 | [], [], _, _, _ => rfl
 | [], y :: m, _, _, h => by have := (h y).2 (by simp); simp at this
 | x :: l, [], _, _, h => by have := (h x).1 (by simp); simp at this
 | x :: l, y :: m, h1, h2, h => by
  have hxy : x = y := by
   rcases List.mem_cons.1 ((h x).1 (by simp)) with e | e
   ·exact e
   ·rcases List.mem_cons.1 ((h y).2 (by simp)) with e' | e'
    ·exact e'.symm
    ·exact absurd (h2.head x e) (cmpW_asym (h1.head y e'))
  subst hxy
  rw [SW.unique h1.tail h2.tail fun z => ?_]
  constructor
  ·intro hz
   rcases List.mem_cons.1 ((h z).1 (by simp [hz])) with e | e
   ·subst e; exact absurd (h1.head _ hz) (cmpW_irr _)
   ·exact e
  ·intro hz
   rcases List.mem_cons.1 ((h z).2 (by simp [hz])) with e | e
   ·subst e; exact absurd (h2.head _ hz) (cmpW_irr _)
   ·exact e
theorem SW.sub {l m : List (List Int)} (h : SW l) (hs : List.Sublist m l) : SW m := List.Pairwise.sublist hs h
theorem SW.filter {l : List (List Int)} (h : SW l) (p : List Int → Bool) : SW (l.filter p) := h.sub List.filter_sublist
theorem SW.nodup {l : List (List Int)} (h : SW l) : l.Nodup := List.Pairwise.imp (fun {a b} q e => by subst e; exact cmpW_irr _ q) h
def putW (w : List Int) : List (List Int) → List (List Int)
 | [] => [w]
 | x :: l => if cmpW x w < 0 then x :: putW w l else if cmpW x w = 0 then x :: l else w :: x :: l
theorem mem_putW {w x : List Int} : ∀ {l : List (List Int)}, x ∈ putW w l ↔ x = w ∨ x ∈ l
 | [] => by simp [putW]
 | y :: l => by
  simp only [putW]
  split
  ·simp only [List.mem_cons, mem_putW]
   constructor
   ·rintro (h | h | h) <;> simp [h]
   ·rintro (h | h | h) <;> simp [h]
  ·split
   ·rename_i h1 h2
    have := cmpW_eq h2
    subst this
    simp
   ·simp
theorem SW.put {w : List Int} : ∀ {l : List (List Int)}, SW l → SW (putW w l)
  | [], _ => by simp [putW, SW]
  | y :: l, h => by
    simp only [putW]
    split
    · rename_i h1
      refine List.pairwise_cons.2 ⟨fun z hz => ?_, SW.put h.tail⟩
      rcases mem_putW.1 hz with rfl | hz
      · exact h1
      · exact h.head z hz
    · split
      · exact h
      · rename_i h1 h2
        have hw : cmpW w y < 0 := by rcases cmpW_ge.1 h1 with q | q
                                     · exact q
                                     · exact absurd (cmpW_eq0.2 q) h2
        refine List.pairwise_cons.2 ⟨fun z hz => ?_, h⟩
        rcases List.mem_cons.1 hz with rfl | hz
        · exact hw
        · exact cmpW_trans hw (h.head z hz)
theorem putW_len (w : List Int) : ∀ l, (putW w l).length ≤ l.length + 1
 | [] => by simp [putW]
 | y :: l => by
  simp only [putW]
  split
  ·have := putW_len w l; simp; omega
  ·split <;> simp
def srt (l : List (List Int)) : List (List Int) := l.foldl (fun m w => putW w m) []
theorem srt_gen : ∀ (l m : List (List Int)), SW m → SW (l.foldl (fun m w => putW w m) m) ∧ ∀ x, x ∈ l.foldl (fun m w => putW w m) m ↔ x ∈ m ∨ x ∈ l
 | [], m, h => ⟨h, by simp⟩
 | w :: l, m, h => by
  obtain ⟨h1, h2⟩ := srt_gen l (putW w m) h.put
  refine ⟨h1, fun x => ?_⟩
  rw [List.foldl_cons, h2, mem_putW]
  simp only [List.mem_cons]
  constructor
  ·rintro ((h | h) | h) <;> simp [h]
  ·rintro (h | h | h) <;> simp [h]
theorem srt_sw (l : List (List Int)) : SW (srt l) := (srt_gen l [] .nil).1
theorem mem_srt {l : List (List Int)} {x : List Int} : x ∈ srt l ↔ x ∈ l := by rw [srt, (srt_gen l [] .nil).2]; simp
theorem srt_eq {l m : List (List Int)} (h : SW m) (hm : ∀ x, x ∈ m ↔ x ∈ l) : m = srt l := h.unique (srt_sw l) fun x => by rw [hm, mem_srt]
theorem srt_of_sw {l : List (List Int)} (h : SW l) : srt l = l := (srt_eq h fun _ => .rfl).symm
theorem srt_congr {l m : List (List Int)} (h : ∀ x, x ∈ l ↔ x ∈ m) : srt l = srt m := srt_eq (srt_sw l) fun x => by rw [mem_srt, h]
theorem srt_snoc (l : List (List Int)) (w : List Int) : srt (l ++ [w]) = putW w (srt l) := by simp [srt]
theorem srt_len (l : List (List Int)) : (srt l).length ≤ l.length := by
 have : ∀ (l m : List (List Int)), (l.foldl (fun m w => putW w m) m).length ≤ m.length + l.length := by
  intro l
  induction l with
  | nil => intro m; simp
  | cons w l ih => intro m; have := ih (putW w m); have := putW_len w m; simp only [List.foldl_cons, List.length_cons]; omega
 have q := this l []
 simp only [List.length_nil, Nat.zero_add] at q
 exact q
end Go.Own

namespace Go.Own
set_option linter.unusedVariables false
theorem idx_some {α : Type} {l : List α} {i : Nat} {x : α} (h : l[i]? = some x) : idx l (i : Int) = some x := h
theorem fs_lex (b : List Int) (g : Nat → Int → Option Int) (hg : ∀ i x y, b[i]? = some y → g i x = if x < y then some (-1) else if y < x then some 1 else none) :
  ∀ (a : List Int) (k : Nat), k + a.length = b.length → (firstS g a k).getD 0 = lexC a (b.drop k)
 | [], k, h => by
  have : b.drop k = [] := List.drop_eq_nil_of_le (by simp at h; omega)
  rw [this]; rfl
 | x :: a, k, h => by
  simp only [List.length_cons] at h
  have hk : k < b.length := by omega
  rw [List.drop_eq_getElem_cons hk]
  simp only [firstS, lexC, hg k x b[k] (List.getElem?_eq_getElem hk)]
  by_cases h1 : x < b[k]
  ·simp [h1]
  ·by_cases h2 : b[k] < x
   ·simp [h1, h2]
   ·simp only [h1, h2, if_false]
    exact fs_lex b g hg a (k + 1) (by omega)
theorem compare_eq (a b : List Int) (h : a.length = b.length → a.length < 4611686018427387904) : ref12_compare a b = some (cmpW a b) := by
 unfold ref12_compare
 by_cases hl : a.length = b.length
 ·have h' := h hl
  simp only [hl, bne_self_eq_false, cond_false]
  rw [bdT (loop_list a h' (fun i x => match b[i]? with | some y => if x < y then some (-1 : Int) else if y < x then some 1 else none | none => none) ?_ ?_)]
  ·have q := fs_lex b (fun i x => match b[i]? with | some y => if x < y then some (-1 : Int) else if y < x then some 1 else none | none => none) (fun i x y hy => by simp only [hy]) a 0 (by omega)
   rw [List.drop_zero] at q
   have hc : cmpW a b = lexC a b := by unfold cmpW; rw [if_neg (by omega), if_neg (by omega)]
   rw [hc, ← q]
   cases firstS (fun i x => match b[i]? with | some y => if x < y then some (-1 : Int) else if y < x then some 1 else none | none => none) a 0 <;> rfl
  ·intro i x hx
   have hi : i < a.length := (List.getElem?_eq_some_iff.1 hx).1
   have hy : b[i]? = some b[i] := List.getElem?_eq_getElem (by omega)
   unfold ref12_compare_L2
   have hc : decide ((i : Int) < (a.length : Int)) = true := by simpa using hi
   simp only [hc, cond_true, idx_some hx, idx_some hy, hy, Option.bind_some]
   by_cases h1 : x < b[i]
   ·simp [h1, nS]
   ·by_cases h2 : b[i] < x
    ·simp [h1, h2, nS]
    ·simp [h1, h2, nS]
  ·unfold ref12_compare_L2
   simp
 ·have h1 : (((a.length : Nat) : Int) != ((b.length : Nat) : Int)) = true := by simp; omega
  simp only [h1, cond_true]
  unfold cmpW
  by_cases h2 : a.length < b.length
  ·simp [h2]
  ·have h3 : b.length < a.length := by omega
   simp [h2, h3]
def cI (x y : Int) : Int := if x < y then -1 else if y < x then 1 else 0
theorem cmpi_eq (x y : Int) : cmp_Compare_int x y = some (cI x y) := by
 unfold cmp_Compare_int cmp_isNaN_int cI
 simp only [bne_self_eq_false, Option.bind_some, cond_false]
 by_cases h1 : x < y
 ·simp [h1]
 ·by_cases h2 : y < x
  ·simp [h1, h2]
  ·simp [h1, h2]
theorem scmp_eq (a b : List Int) (h : a.length < 4611686018427387904) : ∃ c, slices_Compare_int_int a b = some c ∧ (a.length = b.length → c = lexC a b) := by
 unfold slices_Compare_int_int
 have hloop := loop_list a h (step := fun s => slices_Compare_int_int_L2 a b s) (fun i x => match b[i]? with | some y => if x < y then some (-1 : Int) else if y < x then some 1 else none | none => some 1) (by
  intro i x hx
  have hi : i < a.length := (List.getElem?_eq_some_iff.1 hx).1
  unfold slices_Compare_int_int_L2
  have hc : decide ((i : Int) < (a.length : Int)) = true := by simpa using hi
  simp only [hc, cond_true, idx_some hx, Option.bind_some]
  by_cases hb : i < b.length
  ·have hy : b[i]? = some b[i] := List.getElem?_eq_getElem hb
   have hd : decide ((i : Int) ≥ (b.length : Int)) = false := by simp; omega
   simp only [hd, cond_false, idx_some hy, hy, Option.bind_some, cmpi_eq]
   unfold cI
   by_cases h1 : x < b[i]
   ·simp [h1, nS]
   ·by_cases h2 : b[i] < x
    ·simp [h1, h2, nS]
    ·simp [h1, h2, nS]
  ·have hy : b[i]? = none := List.getElem?_eq_none (by omega)
   have hd : decide ((i : Int) ≥ (b.length : Int)) = true := by simp; omega
   simp only [hd, cond_true, hy, nS]) (by unfold slices_Compare_int_int_L2; simp)
 rw [bdT hloop]
 have q := fun hl => fs_lex b (fun i x => match b[i]? with | some y => if x < y then some (-1 : Int) else if y < x then some 1 else none | none => some 1) (fun i x y hy => by simp only [hy]) a 0 hl
 cases hf : firstS (fun i x => match b[i]? with | some y => if x < y then some (-1 : Int) else if y < x then some 1 else none | none => some 1) a 0 with
 | some r =>
  refine ⟨r, rfl, fun hl => ?_⟩
  have := q (by omega)
  rw [hf] at this
  simpa using this
 | none =>
  unfold slices_Compare_int_int_J1
  by_cases hl : a.length < b.length
  ·refine ⟨-1, by simp [oS, hl], fun hl2 => by omega⟩
  ·refine ⟨0, by simp [oS, hl], fun hl2 => ?_⟩
   have := q (by omega)
   rw [hf] at this
   simpa using this
theorem or_eq (x y : Int) : cmp_Or_int [x, y] = some (if x = 0 then y else x) := by
 unfold cmp_Or_int
 rw [bdT (loop_list [x, y] (by simp) (step := fun s => cmp_Or_int_L2 [x, y] s) (fun i v => if v ≠ 0 then some v else none) ?_ ?_)]
 ·by_cases h1 : x = 0
  ·by_cases h2 : y = 0
   ·simp [firstS, h1, h2, oS, cmp_Or_int_J1]
   ·simp [firstS, h1, h2, oS]
  ·simp [firstS, h1, oS]
 ·intro i v hv
  have hi : i < [x, y].length := (List.getElem?_eq_some_iff.1 hv).1
  unfold cmp_Or_int_L2
  have hc : decide ((i : Int) < (([x, y] : List Int).length : Int)) = true := by simp only [decide_eq_true_eq]; omega
  simp only [hc, cond_true, idx_some hv, Option.bind_some]
  by_cases h : v = 0
  ·simp [h, nS]
  ·have hb : (v != 0) = true := by simpa using h
   simp [h, hb, nS]
 ·unfold cmp_Or_int_L2; simp
theorem Compare_eq (a b : List Int) (h : a.length < 4611686018427387904) : words_Compare a b = some (cmpW a b) := by
 unfold words_Compare
 obtain ⟨c, hc, hl⟩ := scmp_eq a b h
 rw [cmpi_eq, hc]
 simp only [Option.bind_some, or_eq]
 unfold cI cmpW
 by_cases h1 : a.length < b.length
 ·simp [h1]
 ·by_cases h2 : b.length < a.length
  ·simp [h1, h2]
  ·simp [h1, h2, hl (by omega)]
def wE (n : Int) (w : List Int) : Int := if 256 < w.length then 3 else if w.any (fun c => decide (c < 0) || decide (n ≤ c)) then 1 else 0
theorem wE_zero {n : Int} {w : List Int} : wE n w = 0 ↔ w.length ≤ 256 ∧ ∀ c ∈ w, 0 ≤ c ∧ c < n := by
 unfold wE
 by_cases h : 256 < w.length
 ·rw [if_pos h]
  exact ⟨fun q => by simp at q, fun q => by omega⟩
 ·rw [if_neg h]
  by_cases h2 : w.any (fun c => decide (c < 0) || decide (n ≤ c)) = true
  ·rw [if_pos h2]
   simp only [List.any_eq_true, Bool.or_eq_true, decide_eq_true_eq] at h2
   obtain ⟨c, h3, h4⟩ := h2
   refine ⟨fun q => by simp at q, fun q => ?_⟩
   have := q.2 c h3
   omega
  ·rw [if_neg h2]
   simp only [List.any_eq_true, Bool.or_eq_true, decide_eq_true_eq, not_exists, not_and, not_or] at h2
   refine ⟨fun _ => ⟨by omega, fun c hc => ?_⟩, fun _ => rfl⟩
   have := h2 c hc
   omega
theorem fs_any {ρ : Type} (p : Int → Bool) (g : Nat → Int → Option ρ) (hg : ∀ i x, (g i x).isSome = p x) : ∀ (w : List Int) (k : Nat), (firstS g w k).isSome = w.any p
 | [], k => rfl
 | x :: w, k => by
  simp only [firstS, List.any_cons]
  have := hg k x
  cases hx : g k x with
  | some r => rw [hx] at this; simp at this; simp [← this]
  | none => rw [hx] at this; simp at this; rw [this, Bool.false_or]; exact fs_any p g hg w (k + 1)
theorem word_eq (n : Int) (w : List Int) : (Option.bind (ref12_word w) fun r => bif r != 0 then some r else ref12_symbols w n) = some (wE n w) := by
 unfold ref12_word wE
 by_cases h : 256 < w.length
 ·have h' : (256 : Int) < (w.length : Int) := by omega
  simp [h, h']
 ·have hd : decide (((w.length : Nat) : Int) > 256) = false := by simp; omega
  simp only [hd, cond_false, Option.bind_some, bne_self_eq_false, if_neg h]
  unfold ref12_symbols
  have hl := loop_list w (by omega) (step := fun s => ref12_symbols_L2 w n s) (fun i c => if c < 0 ∨ n ≤ c then some (1 : Int) else none) (by
   intro i c hc
   have hi : i < w.length := (List.getElem?_eq_some_iff.1 hc).1
   unfold ref12_symbols_L2
   have hq : decide ((i : Int) < (w.length : Int)) = true := by simpa using hi
   simp only [hq, cond_true, idx_some hc, Option.bind_some]
   by_cases h1 : c < 0
   ·simp [h1, nS]
   ·by_cases h2 : n ≤ c
    ·simp [h1, h2, nS]
    ·simp [h1, h2, nS]) (by unfold ref12_symbols_L2; simp)
  rw [bdT hl]
  have q := fs_any (fun c => decide (c < 0) || decide (n ≤ c)) (fun i c => if c < 0 ∨ n ≤ c then some (1 : Int) else none) (fun i c => by by_cases h : c < 0 ∨ n ≤ c <;> simp [h] <;> simpa using h) w 0
  cases hf : firstS (fun i c => if c < 0 ∨ n ≤ c then some (1 : Int) else none) w 0 with
  | none => rw [hf] at q; rw [← q]; rfl
  | some r =>
   rw [hf] at q
   obtain ⟨i, x, h1, h2⟩ := firstS_some hf
   rw [← q]
   split at h2
   ·cases h2; rfl
   ·cases h2
theorem wCheck_eq (n : Int) (w : List Int) : words_Check w n = some (if 16 < n then 3 else if 256 < w.length then 3 else if n < 1 then 1 else wE n w) := by
 unfold words_Check
 by_cases h0 : 16 < n
 ·simp [h0]
 by_cases h : 256 < w.length
 ·have h' : (256 : Int) < (w.length : Int) := by omega
  simp [h0, h, h']
 by_cases h1 : n < 1
 ·have h' : ¬ (256 : Int) < (w.length : Int) := by omega
  simp [h0, h, h', h1]
 ·have hd : decide (((w.length : Nat) : Int) > 256) = false := by simp; omega
  have hd0 : decide (n > 16) = false := by simp; omega
  have hd1 : decide (n < 1) = false := by simp; omega
  simp only [hd, hd0, hd1, cond_false, if_neg h, if_neg h0, if_neg h1]
  unfold slices_ContainsFunc_int_int slices_IndexFunc_int_int wE
  have hl := loop_list w (by omega) (step := fun s => slices_IndexFunc_int_int_L2 w n s) (fun i c => if c < 0 ∨ n ≤ c then some (i : Int) else none) (by
   intro i c hc
   have hi : i < w.length := (List.getElem?_eq_some_iff.1 hc).1
   unfold slices_IndexFunc_int_int_L2 words_Check_1
   have hq : decide ((i : Int) < (w.length : Int)) = true := by simpa using hi
   simp only [hq, cond_true, idx_some hc, Option.bind_some]
   by_cases h1 : c < 0
   ·simp [h1, nS]
   ·by_cases h2 : n ≤ c
    ·simp [h1, h2, nS]
    ·simp [h1, h2, nS]) (by unfold slices_IndexFunc_int_int_L2; simp)
  rw [bdT hl, if_neg h]
  have q := fs_any (fun c => decide (c < 0) || decide (n ≤ c)) (fun i c => if c < 0 ∨ n ≤ c then some (i : Int) else none) (fun i c => by by_cases h : c < 0 ∨ n ≤ c <;> simp [h] <;> simpa using h) w 0
  cases hf : firstS (fun i c => if c < 0 ∨ n ≤ c then some (i : Int) else none) w 0 with
  | none => rw [hf] at q; rw [← q]; rfl
  | some r =>
   rw [hf] at q
   obtain ⟨i, x, h1, h2⟩ := firstS_some hf
   rw [← q]
   split at h2
   ·cases h2
    simp [oS]
   ·cases h2
def eS (e : Int) : Option Int := if e = 0 then none else some e
def loE (n : Int) (l : List (List Int)) : Int := if 16 < n then 3 else if 4096 < l.length then 3 else if n < 1 then 1 else (firstS (fun _ w => eS (wE n w)) l 0).getD 0
theorem fsE_zero {n : Int} : ∀ {l : List (List Int)} {k : Nat}, (firstS (fun _ w => eS (wE n w)) l k).getD 0 = 0 ↔ ∀ w ∈ l, wE n w = 0
 | [], _ => by simp [firstS]
 | w :: l, k => by
  by_cases h : wE n w = 0
  ·have : eS (wE n w) = none := by simp [eS, h]
   simp only [firstS, this]
   rw [fsE_zero]
   simp [h]
  ·have : eS (wE n w) = some (wE n w) := by simp [eS, h]
   simp [firstS, this, h]
theorem loE_zero {n : Int} {l : List (List Int)} : loE n l = 0 ↔ (1 ≤ n ∧ n ≤ 16) ∧ l.length ≤ 4096 ∧ ∀ w ∈ l, w.length ≤ 256 ∧ ∀ c ∈ w, 0 ≤ c ∧ c < n := by
 unfold loE
 by_cases h0 : 16 < n
 ·rw [if_pos h0]; exact ⟨fun q => by simp at q, fun q => by omega⟩
 by_cases h1 : 4096 < l.length
 ·rw [if_neg h0, if_pos h1]; exact ⟨fun q => by simp at q, fun q => by omega⟩
 by_cases h2 : n < 1
 ·rw [if_neg h0, if_neg h1, if_pos h2]; exact ⟨fun q => by simp at q, fun q => by omega⟩
 rw [if_neg h0, if_neg h1, if_neg h2, fsE_zero]
 constructor
 ·intro q; exact ⟨by omega, by omega, fun w hw => wE_zero.1 (q w hw)⟩
 ·intro q w hw; exact wE_zero.2 (q.2.2 w hw)
theorem Loose_eq (l : List (List Int)) (n : Int) : ref12_Loose l n = some (loE n l) := by
 unfold ref12_Loose loE
 by_cases h0 : 16 < n
 ·simp [h0]
 by_cases h1 : 4096 < l.length
 ·have h' : (4096 : Int) < (l.length : Int) := by omega
  simp [h0, h1, h']
 by_cases h2 : n < 1
 ·have h' : ¬ (4096 : Int) < (l.length : Int) := by omega
  simp [h0, h1, h2, h']
 have d0 : decide (n > 16) = false := by simp; omega
 have d1 : decide (((l.length : Nat) : Int) > 4096) = false := by simp; omega
 have d2 : decide (n < 1) = false := by simp; omega
 simp only [d0, d1, d2, cond_false, if_neg h0, if_neg h1, if_neg h2]
 rw [bdT (loop_list l (by omega) (step := fun s => ref12_Loose_L2 l n s) (fun _ w => eS (wE n w)) ?_ ?_)]
 ·cases firstS (fun _ w => eS (wE n w)) l 0 <;> rfl
 ·intro i w hw
  have hi : i < l.length := (List.getElem?_eq_some_iff.1 hw).1
  have hq : decide ((i : Int) < (l.length : Int)) = true := by simpa using hi
  have he := word_eq n w
  unfold ref12_Loose_L2
  simp only [hq, cond_true, idx_some hw, Option.bind_some]
  unfold ref12_word at he ⊢
  by_cases h : 256 < w.length
  ·have h' : (256 : Int) < (w.length : Int) := by omega
   have : wE n w = 3 := by unfold wE; rw [if_pos h]
   simp [h', this, eS, nS]
  ·have hd : decide (((w.length : Nat) : Int) > 256) = false := by simp; omega
   simp only [hd, cond_false, Option.bind_some, bne_self_eq_false] at he ⊢
   rw [he]
   simp only [Option.bind_some]
   by_cases hz : wE n w = 0
   ·simp [hz, eS, nS]
   ·have hb : (wE n w != 0) = true := by simpa using hz
    simp [hz, hb, eS, nS]
 ·unfold ref12_Loose_L2; simp
theorem loose_eq (l : List (List Int)) (n : Int) : tries_loose l n = some (loE n l) := by
 unfold tries_loose loE
 by_cases h0 : 16 < n
 ·simp [h0]
 by_cases h1 : 4096 < l.length
 ·have h' : (4096 : Int) < (l.length : Int) := by omega
  simp [h0, h1, h']
 by_cases h2 : n < 1
 ·have h' : ¬ (4096 : Int) < (l.length : Int) := by omega
  simp [h0, h1, h2, h']
 have d0 : decide (n > 16) = false := by simp; omega
 have d1 : decide (((l.length : Nat) : Int) > 4096) = false := by simp; omega
 have d2 : decide (n < 1) = false := by simp; omega
 simp only [d0, d1, d2, cond_false, if_neg h0, if_neg h1, if_neg h2]
 rw [bdT (loop_list l (by omega) (step := fun s => tries_loose_L2 l n s) (fun _ w => eS (wE n w)) ?_ ?_)]
 ·cases firstS (fun _ w => eS (wE n w)) l 0 <;> rfl
 ·intro i w hw
  have hi : i < l.length := (List.getElem?_eq_some_iff.1 hw).1
  have hq : decide ((i : Int) < (l.length : Int)) = true := by simpa using hi
  have he : words_Check w n = some (wE n w) := by
   rw [wCheck_eq, if_neg h0, if_neg h2]
   by_cases h : 256 < w.length
   ·rw [if_pos h]; unfold wE; rw [if_pos h]
   ·rw [if_neg h]
  unfold tries_loose_L2
  simp only [hq, cond_true, idx_some hw, Option.bind_some, he]
  by_cases hz : wE n w = 0
  ·simp [hz, eS, nS]
  ·have hb : (wE n w != 0) = true := by simpa using hz
   simp [hz, hb, eS, nS]
 ·unfold tries_loose_L2; simp
theorem loop_sum (l : List (List Int)) (hl : l.length < 4611686018427387904) {step : Int × Int → Option (LR (Int × Int) Int)}
  (h : ∀ (n : Int) (i : Nat) (x : List Int), l[i]? = some x → step (n, (i : Int)) = some (.next (w64 (n + ((x.length : Nat) : Int)), w64 ((i : Int) + 1)))) (h2 : ∀ n, step (n, (l.length : Int)) = some (.done n)) :
  loop step (0, 0) = some (l.foldl (fun n x => w64 (n + ((x.length : Nat) : Int))) 0) := by
 have gen : ∀ (m k : Nat) (n : Int), k ≤ l.length → l.length - k < m → loopN step m (n, (k : Int)) = some ((l.drop k).foldl (fun n x => w64 (n + ((x.length : Nat) : Int))) n) := by
  intro m
  induction m with
  | zero => intro k n _ h; omega
  | succ m ih =>
   intro k n hk hn
   rw [loopN_succ]
   rcases Nat.lt_or_ge k l.length with hlt | hge
   ·have hx : l[k]? = some l[k] := List.getElem?_eq_getElem hlt
    rw [h n k _ hx, List.drop_eq_getElem_cons hlt]
    simp only [List.foldl_cons]
    rw [w64_in (x := (k : Int) + 1) (by omega) (by omega)]
    exact ih (k + 1) _ hlt (by omega)
   ·have : k = l.length := by omega
    subst this
    rw [h2, List.drop_length]
    rfl
 exact gen fuel 0 0 (Nat.zero_le _) (by show l.length - 0 < 18446744073709551616; omega)
def stW (l : List (List Int)) : Int := l.foldl (fun n x => w64 (n + ((x.length : Nat) : Int))) 0
theorem Steps_eq (l : List (List Int)) (hl : l.length < 4611686018427387904) : ref12_Steps l = some (stW l) := by
 unfold ref12_Steps
 rw [bdT (loop_sum l hl (step := fun s => ref12_Steps_L2 l s.1 s.2) ?_ ?_)]
 ·rfl
 ·intro n i x hx
  have hi : i < l.length := (List.getElem?_eq_some_iff.1 hx).1
  have hq : decide ((i : Int) < (l.length : Int)) = true := by simpa using hi
  unfold ref12_Steps_L2
  simp only [hq, cond_true, idx_some hx, Option.bind_some]
 ·intro n; unfold ref12_Steps_L2; simp
theorem steps_eq (l : List (List Int)) (hl : l.length < 4611686018427387904) : tries_steps l = some (stW l) := by
 unfold tries_steps
 rw [bdT (loop_sum l hl (step := fun s => tries_steps_L2 l s.1 s.2) ?_ ?_)]
 ·rfl
 ·intro n i x hx
  have hi : i < l.length := (List.getElem?_eq_some_iff.1 hx).1
  have hq : decide ((i : Int) < (l.length : Int)) = true := by simpa using hi
  unfold tries_steps_L2
  simp only [hq, cond_true, idx_some hx, Option.bind_some]
 ·intro n; unfold tries_steps_L2; simp
def syms (l : List (List Int)) : Nat := (l.map List.length).sum
theorem stW_eq {l : List (List Int)} (h : syms l < 4611686018427387904) : stW l = (syms l : Int) := by
 have gen : ∀ (l : List (List Int)) (n : Nat), n + syms l < 4611686018427387904 → l.foldl (fun n x => w64 (n + ((x.length : Nat) : Int))) (n : Int) = ((n + syms l : Nat) : Int) := by
  intro l
  induction l with
  | nil => intro n _; simp [syms]
  | cons x l ih =>
   intro n hn
   have hs : syms (x :: l) = x.length + syms l := by simp [syms]
   rw [hs] at hn ⊢
   rw [List.foldl_cons, w64_in (by omega) (by omega), ← Int.natCast_add, ih (n + x.length) (by omega)]
   congr 1; omega
 have := gen l 0 (by omega)
 simpa [stW] using this
theorem syms_le {l : List (List Int)} {m : Nat} (h : ∀ w ∈ l, w.length ≤ m) : syms l ≤ l.length * m := by
 induction l with
 | nil => simp [syms]
 | cons x l ih =>
  have hs : syms (x :: l) = x.length + syms l := by simp [syms]
  have h1 := h x (by simp)
  have h2 := ih fun w hw => h w (by simp [hw])
  rw [hs, List.length_cons, Nat.add_mul]
  omega
theorem sw_iff : ∀ {l : List (List Int)}, SW l ↔ ∀ i x y, l[i]? = some x → l[i + 1]? = some y → cmpW x y < 0
 | [] => by simp [SW]
 | [x] => ⟨fun _ i a b _ h2 => by simp at h2, fun _ => by simp [SW]⟩
 | x :: y :: l => by
  constructor
  ·intro h i a b h1 h2
   cases i with
   | zero =>
    simp at h1 h2
    subst h1; subst h2
    exact h.head y (by simp)
   | succ i => exact sw_iff.1 h.tail i a b (by simpa using h1) (by simpa using h2)
  ·intro h
   have ht : SW (y :: l) := sw_iff.2 fun i a b h1 h2 => h (i + 1) a b (by simpa using h1) (by simpa using h2)
   have h0 := h 0 x y rfl rfl
   refine List.pairwise_cons.2 ⟨fun z hz => ?_, ht⟩
   rcases List.mem_cons.1 hz with rfl | hz
   ·exact h0
   ·exact cmpW_trans h0 (ht.head z hz)
theorem loop_from1 {α ρ : Type} (l : List α) (hl : l.length < 4611686018427387904) {step : Int → Option (LR Int (Unit ⊕ ρ))} (f : Nat → α → Option ρ)
  (h : ∀ (i : Nat) (x : α), 1 ≤ i → l[i]? = some x → step (i : Int) = some (nS i (f i x))) (h2 : ∀ k : Nat, l.length ≤ k → step (k : Int) = some (.done (.inl ()))) :
  loop step 1 = some (oS (firstS f (l.drop 1) 1)) := by
 have gen : ∀ (n : Nat) (k : Nat), 1 ≤ k → l.length - k < n → loopN step n (k : Int) = some (oS (firstS f (l.drop k) k)) := by
  intro n
  induction n with
  | zero => intro k _ h; omega
  | succ n ih =>
   intro k hk hn
   rw [loopN_succ]
   rcases Nat.lt_or_ge k l.length with hlt | hge
   ·have hx : l[k]? = some l[k] := List.getElem?_eq_getElem hlt
    rw [h k _ hk hx, List.drop_eq_getElem_cons hlt]
    simp only [firstS]
    cases hf : f k l[k] with
    | some r => rfl
    | none =>
     simp only [nS]
     rw [w64_in (by omega) (by omega)]
     exact ih (k + 1) (by omega) (by omega)
   ·rw [h2 k hge, List.drop_eq_nil_of_le hge]
    rfl
 exact gen fuel 1 (Nat.le_refl _) (by show l.length - 1 < 18446744073709551616; omega)
instance (l : List (List Int)) : Decidable (SW l) := by unfold SW; infer_instance
theorem fs_chain {ρ : Type} (l : List (List Int)) (r : ρ) : firstS (fun i x => match l[i - 1]? with | some y => if 0 ≤ cmpW y x then some r else none | none => none) (l.drop 1) 1 = if SW l then none else some r := by
 by_cases hs : SW l
 ·rw [if_pos hs]
  refine firstS_none fun i x hx => ?_
  rw [List.getElem?_drop] at hx
  have hi : 1 + i < l.length := (List.getElem?_eq_some_iff.1 hx).1
  have hy : l[1 + i - 1]? = some l[i] := by rw [show 1 + i - 1 = i by omega]; exact List.getElem?_eq_getElem (by omega)
  rw [hy]
  have := sw_iff.1 hs i l[i] x (List.getElem?_eq_getElem (by omega)) (by rw [Nat.add_comm]; exact hx)
  simp only
  rw [if_neg (by omega)]
 ·rw [if_neg hs]
  cases hf : firstS (fun i x => match l[i - 1]? with | some y => if 0 ≤ cmpW y x then some r else none | none => none) (l.drop 1) 1 with
  | some r' =>
   obtain ⟨i, x, h1, h2⟩ := firstS_some hf
   split at h2
   ·split at h2
    ·exact h2.symm
    ·cases h2
   ·cases h2
  | none =>
   exfalso
   refine hs (sw_iff.2 fun i x y hx hy => ?_)
   have := firstS_isNone hf i y (by rw [List.getElem?_drop, Nat.add_comm]; exact hy)
   rw [show 1 + i - 1 = i by omega, hx] at this
   simp only at this
   split at this
   ·cases this
   ·omega
theorem ahead_eq (l : List (List Int)) (h : l.length ≤ 4096) (hw : ∀ w ∈ l, w.length < 4611686018427387904) : tries_ahead l = some (decide (SW l)) := by
 unfold tries_ahead
 rw [bdT (loop_from1 l (by omega) (step := fun s => tries_ahead_L2 l s) (fun i x => match l[i - 1]? with | some y => if 0 ≤ cmpW y x then some false else none | none => none) ?_ ?_), fs_chain]
 ·by_cases hs : SW l
  ·simp [hs, oS, tries_ahead_J1]
  ·simp [hs, oS]
 ·intro i x hi hx
  have hil : i < l.length := (List.getElem?_eq_some_iff.1 hx).1
  have hy : l[i - 1]? = some l[i - 1] := List.getElem?_eq_getElem (by omega)
  have hq : decide ((i : Int) < (l.length : Int)) = true := by simpa using hil
  unfold tries_ahead_L2
  rw [w64_in (x := (i : Int) - 1) (by omega) (by omega), show ((i : Int) - 1) = ((i - 1 : Nat) : Int) by omega]
  have hE := Compare_eq l[i - 1] x (hw _ (List.getElem_mem (by omega)))
  simp only [hq, cond_true, idx_some hx, idx_some hy, Option.bind_some, hy, hE]
  by_cases hc : 0 ≤ cmpW l[i - 1] x
  ·simp [hc, nS]
  ·simp [hc, nS]
 ·intro k hk; unfold tries_ahead_L2; have : decide ((k : Int) < (l.length : Int)) = false := by simp; omega
  simp only [this, cond_false]
def chE (n : Int) (l : List (List Int)) : Int := if loE n l ≠ 0 then loE n l else if SW l then (if 65536 < syms l then 3 else 0) else 1
theorem chE_zero {n : Int} {l : List (List Int)} : chE n l = 0 ↔ loE n l = 0 ∧ SW l ∧ syms l ≤ 65536 := by
 unfold chE
 by_cases h : loE n l = 0
 ·rw [if_neg (by simp [h])]
  by_cases h2 : SW l
  ·rw [if_pos h2]
   by_cases h3 : 65536 < syms l
   ·rw [if_pos h3]; exact ⟨fun q => by simp at q, fun q => by omega⟩
   ·rw [if_neg h3]; exact ⟨fun _ => ⟨h, h2, by omega⟩, fun _ => rfl⟩
  ·rw [if_neg h2]; exact ⟨fun q => by simp at q, fun q => absurd q.2.1 h2⟩
 ·rw [if_pos h]; exact ⟨fun q => absurd q h, fun q => absurd q.1 h⟩
theorem loE_small {n : Int} {l : List (List Int)} (h : loE n l = 0) : l.length ≤ 4096 ∧ (∀ w ∈ l, w.length ≤ 256) ∧ syms l ≤ 1048576 := by
 obtain ⟨_, h1, h2⟩ := loE_zero.1 h
 refine ⟨h1, fun w hw => (h2 w hw).1, ?_⟩
 have := syms_le (m := 256) fun w hw => (h2 w hw).1
 omega
theorem tCheck_eq (l : List (List Int)) (n : Int) : tries_Check l n = some (chE n l) := by
 unfold tries_Check chE
 rw [loose_eq]
 simp only [Option.bind_some]
 by_cases h : loE n l = 0
 ·obtain ⟨h1, h2, h3⟩ := loE_small h
  rw [ahead_eq l h1 fun w hw => by have := h2 w hw; omega, steps_eq l (by omega), stW_eq (by omega)]
  simp only [h, bne_self_eq_false, cond_false, Option.bind_some, ne_eq, not_true, if_false]
  by_cases hs : SW l
  ·by_cases hq : 65536 < syms l
   ·have : (65536 : Int) < (syms l : Int) := by omega
    simp [hs, hq, this]
   ·have : ¬ (65536 : Int) < (syms l : Int) := by omega
    simp [hs, hq, this]
  ·simp [hs]
 ·have hb : (loE n l != 0) = true := by simpa using h
  simp [h, hb]
theorem rCheck_eq (l : List (List Int)) (n : Int) : ref12_Check l n = some (chE n l) := by
 unfold ref12_Check chE
 rw [Loose_eq]
 simp only [Option.bind_some]
 by_cases h : loE n l = 0
 ·obtain ⟨h1, h2, h3⟩ := loE_small h
  simp only [h, bne_self_eq_false, cond_false, ne_eq, not_true, if_false]
  rw [bdT (loop_from1 l (by omega) (step := fun s => ref12_Check_L2 l s) (fun i x => match l[i - 1]? with | some y => if 0 ≤ cmpW y x then some (1 : Int) else none | none => none) ?_ ?_), fs_chain]
  ·by_cases hs : SW l
   ·simp only [hs, if_true, oS]
    unfold ref12_Check_J1
    rw [Steps_eq l (by omega), stW_eq (by omega)]
    simp only [Option.bind_some]
    by_cases hq : 65536 < syms l
    ·have : (65536 : Int) < (syms l : Int) := by omega
     simp [hq, this]
    ·have : ¬ (65536 : Int) < (syms l : Int) := by omega
     simp [hq, this]
   ·simp [hs, oS]
  ·intro i x hi hx
   have hil : i < l.length := (List.getElem?_eq_some_iff.1 hx).1
   have hy : l[i - 1]? = some l[i - 1] := List.getElem?_eq_getElem (by omega)
   have hq : decide ((i : Int) < (l.length : Int)) = true := by simpa using hil
   unfold ref12_Check_L2
   rw [w64_in (x := (i : Int) - 1) (by omega) (by omega), show ((i : Int) - 1) = ((i - 1 : Nat) : Int) by omega]
   have hE := compare_eq l[i - 1] x (fun _ => by have := h2 _ (List.getElem_mem (show i - 1 < l.length by omega)); omega)
   simp only [hq, cond_true, idx_some hx, idx_some hy, Option.bind_some, hy, hE]
   by_cases hc : 0 ≤ cmpW l[i - 1] x
   ·simp [hc, nS]
   ·simp [hc, nS]
  ·intro k hk; unfold ref12_Check_L2; have : decide ((k : Int) < (l.length : Int)) = false := by simp; omega
   simp only [this, cond_false]
 ·have hb : (loE n l != 0) = true := by simpa using h
  simp [h, hb]
end Go.Own
