/- Walks, further. -/
import Derived.Test.YthnpknbgpmlbhaaGreatPartF
import Derived.Test.YthnpknbgpmlbhaaGreatPartC
import Derived.Test.YthnpknbgpmlbhaaGreatPartE
import Derived.Test.YthnpknbgpmlbhaaGreatPartB
import Derived.OpenShut
import Derived.ChangeShapes
import Derived.WalkKit
import Derived.ProofKit
import Derived.Carry
import Derived.Test.YthnpknbgpmlbhaaGreatRows
import Derived.Test.YthnpknbgpmlbhaaGreatChecked
set_option linter.unusedVariables false
set_option linter.unusedSimpArgs false
namespace Go.Own
open Go.Proofs
set_option maxRecDepth 100000
set_option maxHeartbeats 8000000
noncomputable def W3 : Code := (Tryz.f12.body).getD .skip
noncomputable def ZB : zR := spF (α := Unit) (ρ := Bool) 12 (fun x => []) (fun r => eB r) (fun x => Yv) [] (fun _ _ _ => rfl)
theorem Kw {ctr : Ctr} (hC : zu Tryz.prog ctr) (h_law13_example : ctr.Has jC) (h_law13_list : ctr.Has Yi) (h_covers_States : ctr.Has uq) (h_covers_Transitions : ctr.Has vV) (h_covers_Switches : ctr.Has vF) (h_covers_Covered : ctr.Has u4) (h_law13_same : ctr.Has Yh) (h_ref13_Same : ctr.Has jX) (h_covers_IsStateCover : ctr.Has w7) (h_covers_IsTransitionCover : ctr.Has yG) : ZB.Ok Tryz.prog := by
 refine zy ?_
 rintro ⟨⟩ r0 hf0
 try unfold Yv at hf0
 refine yO true [(0, none)] W3 164 Tryz.func12 fun E hE => ?_
 obtain ⟨r_, h0, hf0⟩ := zf hf0
 obtain ⟨r_1, h1, hf0⟩ := zf hf0
 obtain ⟨r_2, h2, hf0⟩ := zf hf0
 obtain ⟨r_3, h3, hf0⟩ := zf hf0
 obtain ⟨r_4, h4, hf0⟩ := zf hf0
 obtain ⟨r_5, h5, hf0⟩ := zf hf0
 obtain ⟨r_6, h6, hf0⟩ := zf hf0
 obtain ⟨r_7, h7, hf0⟩ := zf hf0
 obtain ⟨r_8, h8, hf0⟩ := zf hf0
 refine yA X0 hC W3 [1,1,1,1,1,1,1,1,1,0] [] [(1, .own (.box (z5q r_))), (2, .d (eSl 1 false F5_ r_1)), (3, .d (eSl 1 false F5_ r_2)), (4, .d (eSl 1 true F1_ r_3.1)), (5, .d (I r_3.2)), (6, .d (eSl 1 true F1_ r_4.1)), (7, .d (I r_4.2)), (8, .d (eSl 1 true F1_ r_5.1)), (9, .d (I r_5.2)), (11, .d (I r_6.2)), (12, .own (.box (z9p r_8.1))), (13, .d (I r_8.2))] [Hc h_law13_example (x := ()) h0 (loN), Hg (KT h_law13_list), Hm (shM F2_ F1_ ([[], [0], [1], [0,0], [0,1], [0,0,0], [0,0,1]])), Hs (KU h_law13_list (x := [[], [0], [1], [0,0], [0,1], [0,0,0], [0,0,1]]) h1 (loC W6 ([[], [0], [1], [0,0], [0,1], [0,0,0], [0,0,1]] : List (List Int)) <| loN)), Hm (shM F2_ F1_ ([[], [0], [1], [0,0], [0,1], [0,0,0], [0,0,1]])), Hg (KT h_law13_list), Hm (shM F2_ F1_ ([[], [0], [0,0]])), Hs (KU h_law13_list (x := [[], [0], [0,0]]) h2 (loC W6 ([[], [0], [0,0]] : List (List Int)) <| loN)), Hm (shM F2_ F1_ ([[], [0], [0,0]])), Hc h_covers_States (x := r_) h3 (loC z5q r_ <| loN), Hc h_covers_Transitions (x := r_) h4 (loC z5q r_ <| loN), Hc h_covers_Switches (x := (r_, 0)) h5 (loC z5q r_ <| loC (eI .i64) 0 <| loN), Hc h_covers_Switches (x := (r_, (-1))) h6 (loC z5q r_ <| loC (eI .i64) (-1) <| loN), Hg (KT h_law13_list), Hm (shM F2_ F1_ ([[1], [0,1,0]])), Hs (KU h_law13_list (x := [[1], [0,1,0]]) h7 (loC W6 ([[1], [0,1,0]] : List (List Int)) <| loN)), Hm (shM F2_ F1_ ([[1], [0,1,0]])), Hc h_covers_Covered (x := (r_, r_7)) h8 (loC z5q r_ <| loC vJ r_7 <| loN), Hh (.cut 1)] ?_
 rcases zO hf0 with ⟨c0, hf0⟩ | ⟨c0, hf0⟩
 ·obtain rfl := zc hf0
  exact yE X0 hC hE (Hq c0 :: Hq c0 :: Hq c0 :: (rpN 35 qT []))
 ·rcases zO hf0 with ⟨c1, hf0⟩ | ⟨c1, hf0⟩
  ·obtain rfl := zc hf0
   exact yE X0 hC hE (Hq c0 :: Hq c0 :: Hq c0 :: Hq c1 :: Hq c1 :: Hq c1 :: (rpN 32 qT []))
  ·let Z0 : List HO := [Hq c0, Hq c0, Hq c0, Hq c1, Hq c1, Hq c1]
   rcases zO hf0 with ⟨c2, hf0⟩ | ⟨c2, hf0⟩
   ·obtain rfl := zc hf0
    exact yE X0 hC hE (Z0 ++ (Hq c2 :: Hq c2 :: Hq c2 :: (rpN 29 qT [])))
   ·rcases zO hf0 with ⟨c3, hf0⟩ | ⟨c3, hf0⟩
    ·obtain rfl := zc hf0
     exact yE X0 hC hE (Z0 ++ (Hq c2 :: Hq c2 :: Hq c2 :: Hq c3 :: Hq c3 :: Hq c3 :: (rpN 26 qT [])))
    ·let Z1 : List HO := (Z0 ++ [Hq c2, Hq c2, Hq c2, Hq c3, Hq c3, Hq c3])
     rcases zO hf0 with ⟨c4, hf0⟩ | ⟨c4, hf0⟩
     ·obtain rfl := zc hf0
      exact yE X0 hC hE (Z1 ++ (rpN 5 (Hq c4) (rpN 21 qT [])))
     ·obtain ⟨r_9, h9, hf0⟩ := zf hf0
      let Z2 : List HO := (Z1 ++ [Hq c4, Hq c4, Hq c4, Hn (Zx (f := .fn 13 []) (xs := [W6 r_3.1, vJ r_2]) (ls := []) (r := B r_9) (ys := []) [W6 r_3.1, vJ r_2] (show z0c [W6 r_3.1, vJ r_2] [W6 r_3.1, vJ r_2] from inferInstance)), Hq c4, Hq c4])
      rcases zO hf0 with ⟨c5, hf0⟩ | ⟨c5, hf0⟩
      ·obtain rfl := zc hf0
       exact yE ((wV (P := Tryz.prog) xr [] (lentCall (yc hC h_law13_same (x := (r_3.1, r_2)) h9)) 81).or X0) hC hE (Z2 ++ (rpN 5 (Hq c5) (rpN 16 qT [])))
      ·obtain ⟨r_10, h10, hf0⟩ := zf hf0
       let Z3 : List HO := (Z2 ++ [Hq c5, Hq c5, Hq c5, Hn (Zx (f := .fn 13 []) (xs := [W6 r_4.1, vJ r_1]) (ls := []) (r := B r_10) (ys := []) [W6 r_4.1, vJ r_1] (show z0c [W6 r_4.1, vJ r_1] [W6 r_4.1, vJ r_1] from inferInstance)), Hq c5, Hq c5])
       rcases zO hf0 with ⟨c6, hf0⟩ | ⟨c6, hf0⟩
       ·obtain rfl := zc hf0
        exact yE ((wV (P := Tryz.prog) xr [] (lentCall (yc hC h_law13_same (x := (r_4.1, r_1)) h10)) 87).or ((wV (P := Tryz.prog) xr [] (lentCall (yc hC h_law13_same (x := (r_3.1, r_2)) h9)) 81).or X0)) hC hE (Z3 ++ (rpN 5 (Hq c6) (rpN 11 qT [])))
       ·obtain ⟨r_11, h11, hf0⟩ := zf hf0
        let Z4 : List HO := (Z3 ++ [Hq c6, Hq c6, Hq c6, Hn (Zx (f := .fn 13 []) (xs := [W6 r_5.1, vJ r_2]) (ls := []) (r := B r_11) (ys := []) [W6 r_5.1, vJ r_2] (show z0c [W6 r_5.1, vJ r_2] [W6 r_5.1, vJ r_2] from inferInstance)), Hq c6, Hq c6])
        rcases zO hf0 with ⟨c7, hf0⟩ | ⟨c7, hf0⟩
        ·obtain rfl := zc hf0
         exact yE ((wV (P := Tryz.prog) xr [] (lentCall (yc hC h_law13_same (x := (r_5.1, r_2)) h11)) 93).or ((wV (P := Tryz.prog) xr [] (lentCall (yc hC h_law13_same (x := (r_4.1, r_1)) h10)) 87).or ((wV (P := Tryz.prog) xr [] (lentCall (yc hC h_law13_same (x := (r_3.1, r_2)) h9)) 81).or X0))) hC hE (Z4 ++ (rpN 10 (Hq c7) [qT]))
        ·obtain ⟨r_12, h12, hf0⟩ := zf hf0
         let Z5 : List HO := (Z4 ++ (rpN 8 (Hq c7) [Hg (KT h_ref13_Same), Hm (shM eB eB ([true, true, false])), Hm (shM (eOs 1 true eB) (eSl 1 true eB) ([[true, true], [false, false], [false, false]])), Hs (KU h_ref13_Same (x := (r_8.1, (z8.mk ([true, true, false]) ([[true, true], [false, false], [false, false]])))) h12 (loC z9p r_8.1 <| loC z9p (z8.mk ([true, true, false]) ([[true, true], [false, false], [false, false]])) <| loN)), Hq c7, Hq c7]))
         rcases zO hf0 with ⟨c8, hf0⟩ | ⟨c8, hf0⟩
         ·obtain rfl := zc hf0
          exact yE ((wV (P := Tryz.prog) xr [] (lentCall (yc hC h_law13_same (x := (r_5.1, r_2)) h11)) 93).or ((wV (P := Tryz.prog) xr [] (lentCall (yc hC h_law13_same (x := (r_4.1, r_1)) h10)) 87).or ((wV (P := Tryz.prog) xr [] (lentCall (yc hC h_law13_same (x := (r_3.1, r_2)) h9)) 81).or X0))) hC hE (Z5 ++ [Hq c8])
         ·obtain ⟨r_13, h13, hf0⟩ := zf hf0
          obtain ⟨r_14, h14, hf0⟩ := zf hf0
          obtain ⟨r_15, h15, hf0⟩ := zf hf0
          obtain ⟨r_16, h16, hf0⟩ := zf hf0
          obtain ⟨r_17, h17, hf0⟩ := zf hf0
          obtain ⟨r_18, h18, hf0⟩ := zf hf0
          let Z6 : List HO := (Z5 ++ [Hq c8, Hc h_covers_IsStateCover (x := (r_, r_2)) h13 (loC z5q r_ <| loC vJ r_2 <| loN), Hg (KT h_law13_list), Hm (shM F2_ F1_ ([[0,0]])), Hs (KU h_law13_list (x := [[0,0]]) h14 (loC W6 ([[0,0]] : List (List Int)) <| loN)), Hm (shM F2_ F1_ ([[0,0]])), Hc h_covers_IsStateCover (x := (r_, r_14)) h15 (loC z5q r_ <| loC vJ r_14 <| loN), Hc h_covers_IsTransitionCover (x := (r_, r_1)) h16 (loC z5q r_ <| loC vJ r_1 <| loN), Hg (KT h_law13_list), Hm (shM F2_ F1_ ([[0], [1]])), Hs (KU h_law13_list (x := [[0], [1]]) h17 (loC W6 ([[0], [1]] : List (List Int)) <| loN)), Hm (shM F2_ F1_ ([[0], [1]])), Hc h_covers_IsTransitionCover (x := (r_, r_17)) h18 (loC z5q r_ <| loC vJ r_17 <| loN)])
          rcases zO hf0 with ⟨c9, hf0⟩ | ⟨c9, hf0⟩
          ·rcases zO hf0 with ⟨c10, hf0⟩ | ⟨c10, hf0⟩
           ·let Z7 : List HO := (Z6 ++ [Hq c9, Hq c9, Hq c9, Hq c10, Hq c10, Hq c10])
            rcases zO hf0 with ⟨c11, hf0⟩ | ⟨c11, hf0⟩
            ·rcases zO hf0 with ⟨c12, hf0⟩ | ⟨c12, hf0⟩
             ·let Z8 : List HO := (Z7 ++ [Hq c11, Hq c11, Hq c11, Hq c12, Hq c12])
              rcases zO hf0 with ⟨c13, hf0⟩ | ⟨c13, hf0⟩
              ·rcases zO hf0 with ⟨c14, hf0⟩ | ⟨c14, hf0⟩
               ·let Z9 : List HO := (Z8 ++ [Hq c13, Hq c13, Hq c13, Hq c14, Hq c14])
                rcases zO hf0 with ⟨c15, hf0⟩ | ⟨c15, hf0⟩
                ·obtain rfl := zc hf0
                 exact yE ((wV (P := Tryz.prog) xr [] (lentCall (yc hC h_law13_same (x := (r_5.1, r_2)) h11)) 93).or ((wV (P := Tryz.prog) xr [] (lentCall (yc hC h_law13_same (x := (r_4.1, r_1)) h10)) 87).or ((wV (P := Tryz.prog) xr [] (lentCall (yc hC h_law13_same (x := (r_3.1, r_2)) h9)) 81).or X0))) hC hE (Z9 ++ [Hq c15, Hq c15, Hq c15])
                ·obtain rfl := zc hf0
                 exact yE ((wV (P := Tryz.prog) xr [] (lentCall (yc hC h_law13_same (x := (r_5.1, r_2)) h11)) 93).or ((wV (P := Tryz.prog) xr [] (lentCall (yc hC h_law13_same (x := (r_4.1, r_1)) h10)) 87).or ((wV (P := Tryz.prog) xr [] (lentCall (yc hC h_law13_same (x := (r_3.1, r_2)) h9)) 81).or X0))) hC hE (Z9 ++ [Hq c15, Hq c15, Hq c15])
               ·obtain rfl := zc hf0
                exact yE ((wV (P := Tryz.prog) xr [] (lentCall (yc hC h_law13_same (x := (r_5.1, r_2)) h11)) 93).or ((wV (P := Tryz.prog) xr [] (lentCall (yc hC h_law13_same (x := (r_4.1, r_1)) h10)) 87).or ((wV (P := Tryz.prog) xr [] (lentCall (yc hC h_law13_same (x := (r_3.1, r_2)) h9)) 81).or X0))) hC hE (Z8 ++ [Hq c13, Hq c13, Hq c13, Hq c14, Hq c14, qF, qF, qF])
              ·obtain rfl := zc hf0
               exact yE ((wV (P := Tryz.prog) xr [] (lentCall (yc hC h_law13_same (x := (r_5.1, r_2)) h11)) 93).or ((wV (P := Tryz.prog) xr [] (lentCall (yc hC h_law13_same (x := (r_4.1, r_1)) h10)) 87).or ((wV (P := Tryz.prog) xr [] (lentCall (yc hC h_law13_same (x := (r_3.1, r_2)) h9)) 81).or X0))) hC hE (Z8 ++ (Hq c13 :: Hq c13 :: Hq c13 :: (rpN 5 qF [])))
             ·obtain rfl := zc hf0
              exact yE ((wV (P := Tryz.prog) xr [] (lentCall (yc hC h_law13_same (x := (r_5.1, r_2)) h11)) 93).or ((wV (P := Tryz.prog) xr [] (lentCall (yc hC h_law13_same (x := (r_4.1, r_1)) h10)) 87).or ((wV (P := Tryz.prog) xr [] (lentCall (yc hC h_law13_same (x := (r_3.1, r_2)) h9)) 81).or X0))) hC hE (Z7 ++ (Hq c11 :: Hq c11 :: Hq c11 :: Hq c12 :: Hq c12 :: (rpN 8 qF [])))
            ·obtain rfl := zc hf0
             exact yE ((wV (P := Tryz.prog) xr [] (lentCall (yc hC h_law13_same (x := (r_5.1, r_2)) h11)) 93).or ((wV (P := Tryz.prog) xr [] (lentCall (yc hC h_law13_same (x := (r_4.1, r_1)) h10)) 87).or ((wV (P := Tryz.prog) xr [] (lentCall (yc hC h_law13_same (x := (r_3.1, r_2)) h9)) 81).or X0))) hC hE (Z7 ++ (Hq c11 :: Hq c11 :: Hq c11 :: (rpN 10 qF [])))
           ·obtain rfl := zc hf0
            exact yE ((wV (P := Tryz.prog) xr [] (lentCall (yc hC h_law13_same (x := (r_5.1, r_2)) h11)) 93).or ((wV (P := Tryz.prog) xr [] (lentCall (yc hC h_law13_same (x := (r_4.1, r_1)) h10)) 87).or ((wV (P := Tryz.prog) xr [] (lentCall (yc hC h_law13_same (x := (r_3.1, r_2)) h9)) 81).or X0))) hC hE (Z6 ++ (Hq c9 :: Hq c9 :: Hq c9 :: Hq c10 :: Hq c10 :: Hq c10 :: (rpN 13 qF [])))
          ·obtain rfl := zc hf0
           exact yE ((wV (P := Tryz.prog) xr [] (lentCall (yc hC h_law13_same (x := (r_5.1, r_2)) h11)) 93).or ((wV (P := Tryz.prog) xr [] (lentCall (yc hC h_law13_same (x := (r_4.1, r_1)) h10)) 87).or ((wV (P := Tryz.prog) xr [] (lentCall (yc hC h_law13_same (x := (r_3.1, r_2)) h9)) 81).or X0))) hC hE (Z6 ++ (Hq c9 :: Hq c9 :: Hq c9 :: (rpN 16 qF [])))
noncomputable def YV : Code := (Tryz.f4.body).getD .skip
noncomputable def vA : zR := spF (α := zY × ye) (ρ := Bool) 4 (fun x => [z1o x.1, z1p x.2]) (fun r => eB r) (fun x => v7 x.1 x.2) [] (X3)
theorem X6 {ctr : Ctr} (hC : zu Tryz.prog ctr) (h_law04_M_Of : ctr.Has Yk) (h_law12_L_Of : ctr.Has Yj) (h_law13_within : ctr.Has kJ) (h_covers_Covered : ctr.Has u4) (h_covers_IsStateCover : ctr.Has w7) (h_covers_IsTransitionCover : ctr.Has yG) (h_ref13_Covered : ctr.Has jy) (h_ref13_Same : ctr.Has jX) (h_ref13_IsStateCover : ctr.Has vR) (h_ref13_IsTransitionCover : ctr.Has wa) (h_law13_lives : ctr.Has ZB) : vA.Ok Tryz.prog := by
 refine zy ?_
 rintro ⟨x_, y_⟩ r0 hf0
 try unfold v7 at hf0
 refine yO true [(4, none)] YV 72 Tryz.func4 fun E hE => ?_
 obtain ⟨r_, h0, hf0⟩ := zf hf0
 obtain ⟨r_1, h1, hf0⟩ := zf hf0
 obtain ⟨r_2, h2, hf0⟩ := zf hf0
 obtain ⟨r_3, h3, hf0⟩ := zf hf0
 obtain ⟨r_4, h4, hf0⟩ := zf hf0
 obtain ⟨r_5, h5, hf0⟩ := zf hf0
 let Z0 : List HO := [Hc h_law04_M_Of (x := (zY.mk x_.States x_.Inputs x_.Outputs x_.Partial x_.Edges)) h0 (loC z1o (zY.mk x_.States x_.Inputs x_.Outputs x_.Partial x_.Edges) <| loN), Hc h_law12_L_Of (x := y_) h1 (loC z1p y_ <| loN), Hg (KT h_law13_within), Hm (shM F5_ F5_ r_1), Hs (KU h_law13_within (x := (r_1, r_.Inputs)) h2 (loC vJ r_1 <| loC (eI .i64) r_.Inputs <| loN)), Hm (shM F5_ F5_ r_1), Hg (KT h_covers_Covered), Hm (shM F5_ F5_ r_2), Hs (KU h_covers_Covered (x := (r_, r_2)) h3 (loC x4 r_ <| loC vJ r_2 <| loN)), Hm (shM F5_ F5_ r_2), Hc h_covers_IsStateCover (x := (r_, r_2)) h4 (loC x4 r_ <| loC vJ r_2 <| loN), Hc h_covers_IsTransitionCover (x := (r_, r_2)) h5 (loC x4 r_ <| loC vJ r_2 <| loN)]
 rcases zO hf0 with ⟨c0, hf0⟩ | ⟨c0, hf0⟩
 ·rcases zO hf0 with ⟨c1, hf0⟩ | ⟨c1, hf0⟩
  ·let Z1 : List HO := (Z0 ++ [Hq c0, Hq c0, Hq c0, Hq c1, Hq c1, Hq c1])
   rcases zO hf0 with ⟨c2, hf0⟩ | ⟨c2, hf0⟩
   ·obtain ⟨r_6, h6, hf0⟩ := zf hf0
    obtain ⟨r_7, h7, hf0⟩ := zf hf0
    let Z2 : List HO := (Z1 ++ (rpN 4 (Hq c2) [Hc h_ref13_Covered (x := (r_, r_2)) h6 (loC x4 r_ <| loC vJ r_2 <| loN), Hq c2, Hc h_ref13_Same (x := (r_3.1, r_6)) h7 (loC z9p r_3.1 <| loC (yC (eSl 1 true eB) (eSl 1 false (eSl 1 true eB))) r_6 <| loN), Hq c2]))
    rcases zO hf0 with ⟨c3, hf0⟩ | ⟨c3, hf0⟩
    ·obtain ⟨r_8, h8, hf0⟩ := zf hf0
     let Z3 : List HO := (Z2 ++ (rpN 4 (Hq c3) [Hc h_ref13_IsStateCover (x := (r_, r_2)) h8 (loC x4 r_ <| loC vJ r_2 <| loN), Hq c3, Hq c3]))
     rcases zO hf0 with ⟨c4, hf0⟩ | ⟨c4, hf0⟩
     ·obtain ⟨r_9, h9, hf0⟩ := zf hf0
      let Z4 : List HO := (Z3 ++ (rpN 4 (Hq c4) [Hc h_ref13_IsTransitionCover (x := (r_, r_2)) h9 (loC x4 r_ <| loC vJ r_2 <| loN), Hq c4, Hq c4]))
      rcases zO hf0 with ⟨c5, hf0⟩ | ⟨c5, hf0⟩
      ·obtain ⟨r_10, h10, hf0⟩ := zf hf0
       obtain rfl := zc hf0
       exact yE X0 hC hE (Z4 ++ [Hq c5, Hc h_law13_lives (x := ()) h10 (loN), Hq c5])
      ·obtain rfl := zc hf0
       exact yE X0 hC hE (Z4 ++ [Hq c5, Hq c5])
     ·obtain rfl := zc hf0
      exact yE X0 hC hE (Z3 ++ (rpN 6 (Hq c4) [qF, qF]))
    ·obtain rfl := zc hf0
     exact yE X0 hC hE (Z2 ++ (rpN 6 (Hq c3) (rpN 8 qF [])))
   ·obtain rfl := zc hf0
    exact yE X0 hC hE (Z1 ++ (rpN 6 (Hq c2) (rpN 14 qF [])))
  ·obtain rfl := zc hf0
   exact yE X0 hC hE (Z0 ++ (Hq c0 :: Hq c0 :: Hq c0 :: Hq c1 :: Hq c1 :: Hq c1 :: (rpN 20 qF [])))
 ·obtain rfl := zc hf0
  exact yE X0 hC hE (Z0 ++ (Hq c0 :: Hq c0 :: Hq c0 :: (rpN 23 qF [])))
end Go.Own

namespace Go.Own
open Go.Proofs
theorem y6 {l : List zR} {s : zR} (h : ((l.map zR.k).contains s.k) = false) : ∀ t ∈ l, t.k ≠ s.k := by
 intro t ht e
 have : (l.map zR.k).contains s.k = true := by
  rw [List.contains_iff_mem, ← e]
  exact List.mem_map_of_mem ht
 rw [h] at this
 cases this
theorem zr {l : List zR} {c : Ctr} (H : ∀ t ∈ l, c.Has t) (i : Nat) {s : zR} (h : l[i]? = some s) : c.Has s := H _ (List.mem_of_getElem? h)
noncomputable def L0 : List zR := Yk :: []
noncomputable def L1 : List zR := uA :: L0
noncomputable def L2 : List zR := ZC :: L1
noncomputable def L3 : List zR := up :: L2
noncomputable def L4 : List zR := Xk :: L3
noncomputable def L5 : List zR := jY :: L4
noncomputable def L6 : List zR := Yj :: L5
noncomputable def L7 : List zR := kJ :: L6
noncomputable def L8 : List zR := jA :: L7
noncomputable def L9 : List zR := jB :: L8
noncomputable def L10 : List zR := uz :: L9
noncomputable def L11 : List zR := yf :: L10
noncomputable def L12 : List zR := ya :: L11
noncomputable def L13 : List zR := wL :: L12
noncomputable def L14 : List zR := jx :: L13
noncomputable def L15 : List zR := xT :: L14
noncomputable def L16 : List zR := xa :: L15
noncomputable def L17 : List zR := Zy :: L16
noncomputable def L18 : List zR := j7 :: L17
noncomputable def L19 : List zR := jD :: L18
noncomputable def L20 : List zR := vG :: L19
noncomputable def L21 : List zR := wu :: L20
noncomputable def L22 : List zR := Yl :: L21
noncomputable def L23 : List zR := ve :: L22
noncomputable def L24 : List zR := ZA :: L23
noncomputable def L25 : List zR := j6 :: L24
noncomputable def L26 : List zR := j8 :: L25
noncomputable def L27 : List zR := vT :: L26
noncomputable def L28 : List zR := uQ :: L27
noncomputable def L29 : List zR := u4 :: L28
noncomputable def L30 : List zR := j9 :: L29
noncomputable def L31 : List zR := wM :: L30
noncomputable def L32 : List zR := vB :: L31
noncomputable def L33 : List zR := xx :: L32
noncomputable def L34 : List zR := yR :: L33
noncomputable def L35 : List zR := uh :: L34
noncomputable def L36 : List zR := w7 :: L35
noncomputable def L37 : List zR := zD :: L36
noncomputable def L38 : List zR := xy :: L37
noncomputable def L39 : List zR := wY :: L38
noncomputable def L40 : List zR := x9 :: L39
noncomputable def L41 : List zR := yD :: L40
noncomputable def L42 : List zR := vU :: L41
noncomputable def L43 : List zR := yG :: L42
noncomputable def L44 : List zR := jZ :: L43
noncomputable def L45 : List zR := uk :: L44
noncomputable def L46 : List zR := jy :: L45
noncomputable def L47 : List zR := jX :: L46
noncomputable def L48 : List zR := vR :: L47
noncomputable def L49 : List zR := wa :: L48
noncomputable def L50 : List zR := jC :: L49
noncomputable def L51 : List zR := Yi :: L50
noncomputable def L52 : List zR := wt :: L51
noncomputable def L53 : List zR := xK :: L52
noncomputable def L54 : List zR := vS :: L53
noncomputable def L55 : List zR := qK :: L54
noncomputable def L56 : List zR := xL :: L55
noncomputable def L57 : List zR := yl :: L56
noncomputable def L58 : List zR := Zz :: L57
noncomputable def L59 : List zR := kH :: L58
noncomputable def L60 : List zR := wK :: L59
noncomputable def L61 : List zR := qL :: L60
noncomputable def L62 : List zR := xc :: L61
noncomputable def L63 : List zR := vQ :: L62
noncomputable def L64 : List zR := Yf :: L63
noncomputable def L65 : List zR := uq :: L64
noncomputable def L66 : List zR := Xj :: L65
noncomputable def L67 : List zR := Ye :: L66
noncomputable def L68 : List zR := Yd :: L67
noncomputable def L69 : List zR := Xi :: L68
noncomputable def L70 : List zR := kI :: L69
noncomputable def L71 : List zR := vF :: L70
noncomputable def L72 : List zR := vV :: L71
noncomputable def L73 : List zR := Yg :: L72
noncomputable def L74 : List zR := Yh :: L73
noncomputable def L75 : List zR := ZB :: L74
noncomputable def L76 : List zR := vA :: L75
theorem zdz : zq Tryz.prog L0 := ⟨fun _ hC H => z0t hC, y6 (by kernel_rfl), trivial⟩
theorem zdy : zq Tryz.prog L1 := ⟨fun _ hC H => WD hC, y6 (by kernel_rfl), zdz⟩
theorem zdx : zq Tryz.prog L2 := ⟨fun _ hC H => Kx hC (zr H 0 rfl), y6 (by kernel_rfl), zdy⟩
theorem zdw : zq Tryz.prog L3 := ⟨fun _ hC H => Qe hC, y6 (by kernel_rfl), zdx⟩
theorem zdv : zq Tryz.prog L4 := ⟨fun _ hC H => z1v hC (zr H 0 rfl), y6 (by kernel_rfl), zdw⟩
theorem zdu : zq Tryz.prog L5 := ⟨fun _ hC H => z0n hC (zr H 0 rfl), y6 (by kernel_rfl), zdv⟩
theorem zdt : zq Tryz.prog L6 := ⟨fun _ hC H => z0s hC (zr H 3 rfl) (zr H 0 rfl), y6 (by kernel_rfl), zdu⟩
theorem zds : zq Tryz.prog L7 := ⟨fun _ hC H => JH hC (zr H 1 rfl), y6 (by kernel_rfl), zdt⟩
theorem zdr : zq Tryz.prog L8 := ⟨fun _ hC H => Qh hC, y6 (by kernel_rfl), zds⟩
theorem zdq : zq Tryz.prog L9 := ⟨fun _ hC H => Qi hC (zr H 0 rfl), y6 (by kernel_rfl), zdr⟩
theorem zc1 : zq Tryz.prog L10 := ⟨fun _ hC H => WC hC (zr H 0 rfl), y6 (by kernel_rfl), zdq⟩
theorem zc0 : zq Tryz.prog L11 := ⟨fun _ hC H => uj hC (zr H 0 rfl), y6 (by kernel_rfl), zc1⟩
theorem zbZ : zq Tryz.prog L12 := ⟨fun _ hC H => vP hC (zr H 0 rfl), y6 (by kernel_rfl), zc0⟩
theorem zbY : zq Tryz.prog L13 := ⟨fun _ hC H => Us hC (zr H 0 rfl), y6 (by kernel_rfl), zbZ⟩
theorem zbX : zq Tryz.prog L14 := ⟨fun _ hC H => Qc hC, y6 (by kernel_rfl), zbY⟩
theorem zbW : zq Tryz.prog L15 := ⟨fun _ hC H => Zd hC (zr H 0 rfl), y6 (by kernel_rfl), zbX⟩
theorem zbV : zq Tryz.prog L16 := ⟨fun _ hC H => jv hC (zr H 0 rfl), y6 (by kernel_rfl), zbW⟩
theorem zbU : zq Tryz.prog L17 := ⟨fun _ hC H => Kp hC (zr H 0 rfl), y6 (by kernel_rfl), zbV⟩
theorem zbT : zq Tryz.prog L18 := ⟨fun _ hC H => Ks hC (zr H 0 rfl), y6 (by kernel_rfl), zbU⟩
theorem zbS : zq Tryz.prog L19 := ⟨fun _ hC H => Qm hC, y6 (by kernel_rfl), zbT⟩
theorem zbR : zq Tryz.prog L20 := ⟨fun _ hC H => Vh hC (zr H 0 rfl), y6 (by kernel_rfl), zbS⟩
theorem zbQ : zq Tryz.prog L21 := ⟨fun _ hC H => ZP hC (zr H 0 rfl), y6 (by kernel_rfl), zbR⟩
theorem zbP : zq Tryz.prog L22 := ⟨fun _ hC H => z0u hC, y6 (by kernel_rfl), zbQ⟩
theorem zbO : zq Tryz.prog L23 := ⟨fun _ hC H => Qb hC (zr H 2 rfl) (zr H 1 rfl) (zr H 0 rfl), y6 (by kernel_rfl), zbP⟩
theorem zbN : zq Tryz.prog L24 := ⟨fun _ hC H => Kt hC (zr H 0 rfl), y6 (by kernel_rfl), zbO⟩
theorem zbM : zq Tryz.prog L25 := ⟨fun _ hC H => Kr hC, y6 (by kernel_rfl), zbN⟩
theorem zbL : zq Tryz.prog L26 := ⟨fun _ hC H => Ku hC (zr H 7 rfl) (zr H 1 rfl) (zr H 0 rfl), y6 (by kernel_rfl), zbM⟩
theorem zbK : zq Tryz.prog L27 := ⟨fun _ hC H => JI hC (zr H 13 rfl) (zr H 0 rfl), y6 (by kernel_rfl), zbL⟩
theorem zbJ : zq Tryz.prog L28 := ⟨fun _ hC H => JJ hC, y6 (by kernel_rfl), zbK⟩
theorem zbI : zq Tryz.prog L29 := ⟨fun _ hC H => Ut hC (zr H 1 rfl) (zr H 0 rfl), y6 (by kernel_rfl), zbJ⟩
theorem zbH : zq Tryz.prog L30 := ⟨fun _ hC H => Ky hC (zr H 1 rfl), y6 (by kernel_rfl), zbI⟩
theorem zbG : zq Tryz.prog L31 := ⟨fun _ hC H => Y9 hC, y6 (by kernel_rfl), zbH⟩
theorem zbF : zq Tryz.prog L32 := ⟨fun _ hC H => X7 hC (zr H 0 rfl), y6 (by kernel_rfl), zbG⟩
theorem zbE : zq Tryz.prog L33 := ⟨fun _ hC H => jV hC (zr H 0 rfl), y6 (by kernel_rfl), zbF⟩
theorem zbD : zq Tryz.prog L34 := ⟨fun _ hC H => qG hC (zr H 0 rfl), y6 (by kernel_rfl), zbE⟩
theorem zbC : zq Tryz.prog L35 := ⟨fun _ hC H => W8 hC (zr H 0 rfl), y6 (by kernel_rfl), zbD⟩
theorem zbB : zq Tryz.prog L36 := ⟨fun _ hC H => X8 hC (zr H 8 rfl) (zr H 5 rfl) (zr H 0 rfl), y6 (by kernel_rfl), zbC⟩
theorem zbA : zq Tryz.prog L37 := ⟨fun _ hC H => jg hC, y6 (by kernel_rfl), zbB⟩
theorem zbz : zq Tryz.prog L38 := ⟨fun _ hC H => jW hC (zr H 0 rfl), y6 (by kernel_rfl), zbA⟩
theorem zby : zq Tryz.prog L39 := ⟨fun _ hC H => YS hC (zr H 0 rfl), y6 (by kernel_rfl), zbz⟩
theorem zbx : zq Tryz.prog L40 := ⟨fun _ hC H => ju hC (zr H 0 rfl), y6 (by kernel_rfl), zby⟩
theorem zbw : zq Tryz.prog L41 := ⟨fun _ hC H => qr hC (zr H 0 rfl), y6 (by kernel_rfl), zbx⟩
theorem zbv : zq Tryz.prog L42 := ⟨fun _ hC H => XO hC (zr H 0 rfl), y6 (by kernel_rfl), zbw⟩
theorem zbu : zq Tryz.prog L43 := ⟨fun _ hC H => Ze hC (zr H 15 rfl) (zr H 12 rfl) (zr H 0 rfl), y6 (by kernel_rfl), zbv⟩
theorem zbt : zq Tryz.prog L44 := ⟨fun _ hC H => z0p hC, y6 (by kernel_rfl), zbu⟩
theorem zbs : zq Tryz.prog L45 := ⟨fun _ hC H => Kv hC (zr H 0 rfl), y6 (by kernel_rfl), zbt⟩
theorem zbr : zq Tryz.prog L46 := ⟨fun _ hC H => Qd hC (zr H 0 rfl), y6 (by kernel_rfl), zbs⟩
theorem zbq : zq Tryz.prog L47 := ⟨fun _ hC H => z0m hC, y6 (by kernel_rfl), zbr⟩
theorem zbp : zq Tryz.prog L48 := ⟨fun _ hC H => XM hC (zr H 2 rfl), y6 (by kernel_rfl), zbq⟩
theorem zbo : zq Tryz.prog L49 := ⟨fun _ hC H => Zu hC (zr H 3 rfl), y6 (by kernel_rfl), zbp⟩
theorem zbn : zq Tryz.prog L50 := ⟨fun _ hC H => Qj hC, y6 (by kernel_rfl), zbo⟩
theorem zbm : zq Tryz.prog L51 := ⟨fun _ hC H => z0r hC, y6 (by kernel_rfl), zbn⟩
theorem zbl : zq Tryz.prog L52 := ⟨fun _ hC H => ZO hC, y6 (by kernel_rfl), zbm⟩
theorem zbk : zq Tryz.prog L53 := ⟨fun _ hC H => kz hC (zr H 0 rfl), y6 (by kernel_rfl), zbl⟩
theorem zbj : zq Tryz.prog L54 := ⟨fun _ hC H => XN hC (zr H 40 rfl) (zr H 0 rfl), y6 (by kernel_rfl), zbk⟩
theorem zbi : zq Tryz.prog L55 := ⟨fun _ hC H => Uq hC, y6 (by kernel_rfl), zbj⟩
theorem zbh : zq Tryz.prog L56 := ⟨fun _ hC H => YP hC, y6 (by kernel_rfl), zbi⟩
theorem zbg : zq Tryz.prog L57 := ⟨fun _ hC H => X5 hC, y6 (by kernel_rfl), zbh⟩
theorem zbf : zq Tryz.prog L58 := ⟨fun _ hC H => Kq hC (zr H 2 rfl) (zr H 1 rfl) (zr H 0 rfl), y6 (by kernel_rfl), zbg⟩
theorem zbe : zq Tryz.prog L59 := ⟨fun _ hC H => JE hC (zr H 45 rfl) (zr H 0 rfl), y6 (by kernel_rfl), zbf⟩
theorem zbd : zq Tryz.prog L60 := ⟨fun _ hC H => Y8 hC, y6 (by kernel_rfl), zbe⟩
theorem zbc : zq Tryz.prog L61 := ⟨fun _ hC H => Ur hC (zr H 37 rfl), y6 (by kernel_rfl), zbd⟩
theorem zbb : zq Tryz.prog L62 := ⟨fun _ hC H => jw hC (zr H 0 rfl), y6 (by kernel_rfl), zbc⟩
theorem zba : zq Tryz.prog L63 := ⟨fun _ hC H => JF hC (zr H 2 rfl) (zr H 39 rfl) (zr H 0 rfl) (zr H 37 rfl) (zr H 6 rfl) (zr H 5 rfl), y6 (by kernel_rfl), zbb⟩
theorem zb9 : zq Tryz.prog L64 := ⟨fun _ hC H => z0l hC (zr H 45 rfl) (zr H 0 rfl), y6 (by kernel_rfl), zba⟩
theorem zb8 : zq Tryz.prog L65 := ⟨fun _ hC H => Ql hC (zr H 10 rfl) (zr H 5 rfl) (zr H 0 rfl), y6 (by kernel_rfl), zb9⟩
theorem zb7 : zq Tryz.prog L66 := ⟨fun _ hC H => z1u hC (zr H 2 rfl) (zr H 8 rfl), y6 (by kernel_rfl), zb8⟩
theorem zb6 : zq Tryz.prog L67 := ⟨fun _ hC H => z0k hC (zr H 0 rfl), y6 (by kernel_rfl), zb7⟩
theorem zb5 : zq Tryz.prog L68 := ⟨fun _ hC H => z0j hC (zr H 41 rfl), y6 (by kernel_rfl), zb6⟩
theorem zb4 : zq Tryz.prog L69 := ⟨fun _ hC H => z1t hC, y6 (by kernel_rfl), zb5⟩
theorem zb3 : zq Tryz.prog L70 := ⟨fun _ hC H => JG hC (zr H 1 rfl) (zr H 12 rfl) (zr H 0 rfl) (zr H 6 rfl), y6 (by kernel_rfl), zb4⟩
theorem zb2 : zq Tryz.prog L71 := ⟨fun _ hC H => Vg hC (zr H 5 rfl) (zr H 3 rfl) (zr H 0 rfl), y6 (by kernel_rfl), zb3⟩
theorem zb1 : zq Tryz.prog L72 := ⟨fun _ hC H => XP hC (zr H 0 rfl), y6 (by kernel_rfl), zb2⟩
theorem zb0 : zq Tryz.prog L73 := ⟨fun _ hC H => z0o hC (zr H 69 rfl), y6 (by kernel_rfl), zb1⟩
theorem zaZ : zq Tryz.prog L74 := ⟨fun _ hC H => z0q hC (zr H 0 rfl), y6 (by kernel_rfl), zb0⟩
theorem zaY : zq Tryz.prog L75 := ⟨fun _ hC H => Kw hC (zr H 24 rfl) (zr H 23 rfl) (zr H 9 rfl) (zr H 2 rfl) (zr H 3 rfl) (zr H 45 rfl) (zr H 0 rfl) (zr H 27 rfl) (zr H 38 rfl) (zr H 31 rfl), y6 (by kernel_rfl), zaZ⟩
theorem zaX : zq Tryz.prog L76 := ⟨fun _ hC H => X6 hC (zr H 75 rfl) (zr H 69 rfl) (zr H 68 rfl) (zr H 46 rfl) (zr H 39 rfl) (zr H 32 rfl) (zr H 29 rfl) (zr H 28 rfl) (zr H 27 rfl) (zr H 26 rfl) (zr H 0 rfl), y6 (by kernel_rfl), zaY⟩
end Go.Own

namespace Go.Own
theorem w9 {x : Int} (h1 : -9223372036854775808 ≤ x) (h2 : x ≤ 9223372036854775807) : w64 x = x := by
 simp only [w64, IntKind.wrap, IntKind.bits, IntKind.signed]
 simp
 omega
section
variable {α β σ τ ρ : Type}
def Ret (x : Option α) (Q : α → Prop) : Prop := ∃ a, x = some a ∧ Q a
theorem Ret.mono {x : Option α} {Q R : α → Prop} (h : Ret x Q) (q : ∀ a, Q a → R a) : Ret x R := by
 obtain ⟨a, e, h⟩ := h
 exact ⟨a, e, q a h⟩
theorem Ret.eq {x : Option α} {a : α} (h : Ret x fun b => b = a) : x = some a := by
 obtain ⟨b, e, rfl⟩ := h
 exact e
theorem y4 {a : α} {Q : α → Prop} : Ret (some a) Q ↔ Q a := ⟨fun ⟨b, e, q⟩ => by cases e; exact q, fun q => ⟨a, rfl, q⟩⟩
theorem jb {x : Option α} {f : α → Option β} {Q : β → Prop} : Ret (Option.bind x f) Q ↔ Ret x fun a => Ret (f a) Q := by
 cases x with
 | none => exact ⟨fun ⟨b, e, _⟩ => (by cases e), fun ⟨b, e, _⟩ => (by cases e)⟩
 | some a => exact ⟨fun h => ⟨a, rfl, h⟩, fun ⟨b, e, h⟩ => by cases e; exact h⟩
theorem z7g {p : Prop} [Decidable p] {x : Option α} {Q : α → Prop} : Ret (gd p x) Q ↔ p ∧ Ret x Q := by
 unfold gd
 by_cases h : p
 ·rw [if_pos h]; exact ⟨fun q => ⟨h, q⟩, fun q => q.2⟩
 ·rw [if_neg h]; exact ⟨fun ⟨b, e, _⟩ => by (cases e), fun q => (h q.1).elim⟩
theorem ui {c : Bool} {x y : Option α} {Q : α → Prop} : Ret (bif c then x else y) Q ↔ (c = true → Ret x Q) ∧ (c = false → Ret y Q) := by
 cases c <;> simp
theorem z8l {l : List α} {i : Int} {Q : α → Prop} : Ret (idx l i) Q ↔ 0 ≤ i ∧ ∃ x, l[i.toNat]? = some x ∧ Q x := by
 cases i with
 | ofNat n =>
  show (∃ a, l[n]? = some a ∧ Q a) ↔ _
  simp
 | negSucc n => exact ⟨fun ⟨b, e, _⟩ => by (cases e), fun ⟨h, _⟩ => by omega⟩
theorem VB (l : List α) (i : Nat) : idx l (i : Int) = l[i]? := rfl
theorem gdT {p : Prop} [Decidable p] {x : Option α} (h : p) : gd p x = x := by unfold gd; rw [if_pos h]
theorem bdT {x : Option α} {u : α} {f : α → Option ρ} (h : x = some u) : Option.bind x f = f u := by rw [h]; rfl
theorem ZS (step : σ → Option (LR σ τ)) (n : Nat) (s : σ) : Wi step (n + 1) s = (match step s with | none => none | some (.next s') => Wi step n s' | some (.done t) => some t) := rfl
def LRP (N : σ → Prop) (D : τ → Prop) : LR σ τ → Prop
 | .next s => N s
 | .done t => D t
theorem ja {step : σ → Option (LR σ τ)} (I : σ → Prop) (m : σ → Nat) {R : τ → Prop} {s : σ} (hs : I s) (hm : m s < 18446744073709551616)
  (h : ∀ s, I s → Ret (step s) (LRP (fun s' => I s' ∧ m s' < m s) R)) : Ret (loop step s) R := by
 have gen : ∀ (n : Nat) (s : σ), I s → m s < n → Ret (Wi step n s) R := by
  intro n
  induction n with
  | zero => intro s _ h; omega
  | succ n ih =>
   intro s hs hm
   obtain ⟨a, e, q⟩ := h s hs
   rw [ZS, e]
   cases a with
   | next s' => exact ih s' q.1 (by have := q.2; omega)
   | done t => exact ⟨t, rfl, q⟩
 exact gen Y7 s hs hm
theorem z2B {step : σ → Option (LR σ τ)} (st : Nat → σ) (n : Nat) {t : τ} (hn : n < 9223372036854775808) (h : ∀ i, i < n → step (st i) = some (.next (st (i + 1)))) (hd : step (st n) = some (.done t)) : loop step (st 0) = some t := by
 have gen : ∀ (k : Nat) (i : Nat), i ≤ n → n - i < k → Wi step k (st i) = some t := by
  intro k
  induction k with
  | zero => intro i _ h; omega
  | succ k ih =>
   intro i hi hk
   rw [ZS]
   rcases Nat.lt_or_ge i n with q | q
   ·rw [h i q]
    exact ih (i + 1) q (by omega)
   ·have : i = n := by omega
    subst this
    rw [hd]
 exact gen Y7 0 (Nat.zero_le _) (by show n - 0 < 18446744073709551616; omega)
def yo (f : Nat → α → Option ρ) : List α → Nat → Option ρ
 | [], _ => none
 | x :: l, i => match f i x with | some r => some r | none => yo f l (i + 1)
theorem qR {f : Nat → α → Option ρ} : ∀ {l : List α} {k : Nat}, (∀ i x, l[i]? = some x → f (k + i) x = none) → yo f l k = none
 | [], _, _ => rfl
 | x :: l, k, h => by
  have h0 := h 0 x rfl
  simp only [Nat.add_zero] at h0
  simp only [yo, h0]
  exact qR fun i y hy => by have := h (i + 1) y (by simpa using hy); rwa [show k + 1 + i = k + (i + 1) by omega]
theorem kS {f : Nat → α → Option ρ} {r : ρ} : ∀ {l : List α} {k : Nat}, yo f l k = some r → ∃ i x, l[i]? = some x ∧ f (k + i) x = some r
 | [], _, h => by cases h
 | x :: l, k, h => by
  simp only [yo] at h
  cases hf : f k x with
  | some r' => rw [hf] at h; exact ⟨0, x, rfl, by rw [Nat.add_zero, hf]; exact h⟩
  | none =>
   rw [hf] at h
   obtain ⟨i, y, h1, h2⟩ := kS h
   exact ⟨i + 1, y, by simpa using h1, by rw [← h2]; congr 1; omega⟩
theorem Yx {f : Nat → α → Option ρ} {l : List α} {k : Nat} (h : yo f l k = none) : ∀ i x, l[i]? = some x → f (k + i) x = none := by
 induction l generalizing k with
 | nil => intro i x h; simp at h
 | cons y l ih =>
  intro i x hx
  simp only [yo] at h
  cases hf : f k y with
  | some r' => rw [hf] at h; cases h
  | none =>
   rw [hf] at h
   cases i with
   | zero => simp at hx; subst hx; simpa using hf
   | succ i => have := ih h i x (by simpa using hx); rwa [show k + (i + 1) = k + 1 + i by omega]
def oS : Option ρ → Unit ⊕ ρ
 | some r => .inr r
 | none => .inl ()
def nS (i : Nat) : Option ρ → LR Int (Unit ⊕ ρ)
 | some r => .done (.inr r)
 | none => .next (w64 ((i : Int) + 1))
theorem xI (l : List α) (hl : l.length < 4611686018427387904) {step : Int → Option (LR Int (Unit ⊕ ρ))} (f : Nat → α → Option ρ)
  (h : ∀ (i : Nat) (x : α), l[i]? = some x → step (i : Int) = some (nS i (f i x))) (h2 : step (l.length : Int) = some (.done (.inl ()))) :
  loop step 0 = some (oS (yo f l 0)) := by
 have gen : ∀ (n : Nat) (k : Nat), k ≤ l.length → l.length - k < n → Wi step n (k : Int) = some (oS (yo f (l.drop k) k)) := by
  intro n
  induction n with
  | zero => intro k _ h; omega
  | succ n ih =>
   intro k hk hn
   rw [ZS]
   rcases Nat.lt_or_ge k l.length with hlt | hge
   ·have hx : l[k]? = some l[k] := List.getElem?_eq_getElem hlt
    rw [h k _ hx, List.drop_eq_getElem_cons hlt]
    simp only [yo]
    cases hf : f k l[k] with
    | some r => rfl
    | none =>
     simp only [nS]
     rw [w9 (by omega) (by omega)]
     exact ih (k + 1) hlt (by omega)
   ·have : k = l.length := by omega
    subst this
    rw [h2, List.drop_length]
    rfl
 exact gen Y7 0 (Nat.zero_le _) (by show l.length - 0 < 18446744073709551616; omega)
end
end Go.Own

namespace Go.Own
def z1T (m : z6) (x : za) : Bool := (x.To == -1 && x.Out == -1) || (decide (0 ≤ x.To) && decide (x.To < (m.Rows.length : Int)) && decide (0 ≤ x.Out) && decide (x.Out < m.Outputs))
def z3i (m : z6) (r : List za) : Bool := decide ((r.length : Int) = m.Inputs) && r.all (z1T m)
def chk (m : z6) : Int :=
 if m.Inputs > 16 ∨ m.Outputs > 16 ∨ (m.Rows.length : Int) > 64 then 3 else if m.Inputs < 1 ∨ m.Outputs < 1 ∨ m.Rows.length = 0 then 1 else if m.Rows.all (z3i m) = true then 0 else 1
theorem z8P (m : z6) (x : za) : uU m x = some (z1T m x) := by
 unfold uU kb
 simp only [Option.bind_some, Bool.and_true]
 rcases Bool.eq_false_or_eq_true (x.To == (-1) && x.Out == (-1)) with h | h
 ·simp [z1T, h]
 ·rw [h]
  simp only [z1T, h, Bool.false_or, cond_false]
  by_cases h1 : (0 : Int) ≤ x.To
  ·by_cases h2 : x.To < (m.Rows.length : Int)
   ·by_cases h3 : (0 : Int) ≤ x.Out
    ·simp [Bool.cond_eq_ite, h1, h2, h3]
    ·simp [Bool.cond_eq_ite, h1, h2, h3]
   ·simp [Bool.cond_eq_ite, h1, h2]
  ·simp [h1]
theorem z21 (m : z6) (r : List za) (hl : r.length < 4611686018427387904) : zK r m = some (!r.all (z1T m)) := by
 have hloop : loop (fun s => zB r m s) 0 = some (oS (yo (fun i x => if z1T m x = true then none else some (i : Int)) r 0)) := by
  refine xI r hl _ ?_ ?_
  ·intro i x hx
   have hi := (List.getElem?_eq_some_iff.1 hx).1
   unfold zB
   have hd : decide ((i : Int) < ((r.length : Nat) : Int)) = true := by simpa using hi
   rw [hd, cond_true, VB, bdT hx]
   unfold uu
   simp only [z8P, Option.bind_some]
   cases z1T m x <;> rfl
  ·unfold zB
   simp
 unfold zK y7
 rw [hloop]
 simp only [Option.bind_some]
 cases hf : yo (fun i x => if z1T m x = true then none else some (i : Int)) r 0 with
 | some q =>
  obtain ⟨i, x, h1, h2⟩ := kS hf
  have hx : z1T m x ≠ true := by
   intro h; rw [if_pos h] at h2; cases h2
  rw [if_neg hx] at h2
  simp only [Option.some.injEq] at h2
  have : r.all (z1T m) = false := by
   rw [List.all_eq_false]
   exact ⟨x, List.mem_of_getElem? h1, hx⟩
  rw [this]
  have : (q : Int) ≥ 0 := by rw [← h2]; omega
  show some (decide (q ≥ 0)) = _
  simp [this]
 | none =>
  have : r.all (z1T m) = true := by
   rw [List.all_eq_true]
   intro x hx
   obtain ⟨i, hi⟩ := List.getElem?_of_mem hx
   have := Yx hf i x hi
   by_cases h : z1T m x = true
   ·exact h
   ·rw [if_neg h] at this; cases this
  rw [this]
  rfl
theorem z3q {m : z6} (h0 : (m.Rows.length : Int) ≤ 64) (h1 : m.Inputs ≤ 16) : loop (fun s => xO m s) 0 = some (oS (yo (fun _ r => if z3i m r = true then none else some (1 : Int)) m.Rows 0)) := by
 refine xI m.Rows (by omega) _ ?_ ?_
 ·intro i r hr
  have hi := (List.getElem?_eq_some_iff.1 hr).1
  unfold xO
  have hd : decide ((i : Int) < ((m.Rows.length : Nat) : Int)) = true := by simpa using hi
  rw [hd, cond_true, VB, bdT hr]
  by_cases hlen : (r.length : Int) = m.Inputs
  ·have hne : (((r.length : Nat) : Int) != m.Inputs) = false := by simpa using hlen
   rw [hne, cond_false, bdT (z21 m r (by omega))]
   have : z3i m r = r.all (z1T m) := by simp [z3i, hlen]
   rw [this]
   cases r.all (z1T m) <;> rfl
  ·have hne : (((r.length : Nat) : Int) != m.Inputs) = true := by simpa using hlen
   rw [hne, cond_true]
   have : z3i m r = false := by simp [z3i, hlen]
   rw [this]; rfl
 ·unfold xO
  simp
theorem z3h (m : z6) : yo (fun _ r => if z3i m r = true then none else some (1 : Int)) m.Rows 0 = if m.Rows.all (z3i m) = true then none else some 1 := by
 by_cases h : m.Rows.all (z3i m) = true
 ·rw [if_pos h]
  refine qR fun i r hr => ?_
  rw [if_pos (List.all_eq_true.1 h r (List.mem_of_getElem? hr))]
 ·rw [if_neg h]
  cases hf : yo (fun _ r => if z3i m r = true then none else some (1 : Int)) m.Rows 0 with
  | some q =>
   obtain ⟨i, x, h1, h2⟩ := kS hf
   split at h2
   ·cases h2
   ·exact h2.symm ▸ rfl
  | none =>
   exfalso
   apply h
   rw [List.all_eq_true]
   intro x hx
   obtain ⟨i, hi⟩ := List.getElem?_of_mem hx
   have := Yx hf i x hi
   by_cases h : z3i m x = true
   ·exact h
   ·rw [if_neg h] at this; cases this
theorem z6I (m : z6) : wy m = some (chk m) := by
 unfold wy chk
 by_cases h1 : m.Inputs > 16
 ·simp [h1]
 by_cases h2 : m.Outputs > 16
 ·simp [Bool.cond_eq_ite, h1, h2]
 by_cases h3 : (m.Rows.length : Int) > 64
 ·simp [Bool.cond_eq_ite, h1, h2, h3]
 rw [if_neg (by simp [Bool.cond_eq_ite, h1, h2, h3])]
 by_cases h4 : m.Inputs < 1
 ·simp [Bool.cond_eq_ite, h1, h2, h3, h4]
 by_cases h5 : m.Outputs < 1
 ·simp [Bool.cond_eq_ite, h1, h2, h3, h4, h5]
 by_cases h6 : m.Rows.length = 0
 ·simp [Bool.cond_eq_ite, h1, h2, h4, h5, h6]
 rw [if_neg (by simp [h4, h5, h6])]
 have h6' : decide (((m.Rows.length : Nat) : Int) < 1) = false := by simp; omega
 have e1 : decide (m.Inputs > 16) = false := by simpa using h1
 have e2 : decide (m.Outputs > 16) = false := by simpa using h2
 have e3 : decide (((m.Rows.length : Nat) : Int) > 64) = false := by simpa using h3
 have e4 : decide (m.Inputs < 1) = false := by simpa using h4
 have e5 : decide (m.Outputs < 1) = false := by simpa using h5
 simp only [e1, e2, e3, e4, e5, h6', cond_false]
 rw [bdT (z3q (by omega) (by omega)), z3h]
 by_cases h : m.Rows.all (z3i m) = true
 ·rw [if_pos h, if_pos h]; rfl
 ·rw [if_neg h, if_neg h]; rfl
end Go.Own

namespace Go.Own
structure VM (m : z6) : Prop where
 in1 : 1 ≤ m.Inputs
 in16 : m.Inputs ≤ 16
 out1 : 1 ≤ m.Outputs
 out16 : m.Outputs ≤ 16
 len1 : 1 ≤ m.Rows.length
 len64 : m.Rows.length ≤ 64
 row : ∀ r ∈ m.Rows, (r.length : Int) = m.Inputs
 edge : ∀ r ∈ m.Rows, ∀ x ∈ r, (x.To = -1 ∧ x.Out = -1) ∨ (0 ≤ x.To ∧ x.To < (m.Rows.length : Int) ∧ 0 ≤ x.Out ∧ x.Out < m.Outputs)
theorem zay {m : z6} (h : VM m) : chk m = 0 := by
 unfold chk
 have := h.in1; have := h.in16; have := h.out1; have := h.out16; have := h.len1; have := h.len64
 rw [if_neg (by omega), if_neg (by omega), if_pos]
 rw [List.all_eq_true]
 intro r hr
 simp only [z3i, Bool.and_eq_true, decide_eq_true_eq, List.all_eq_true]
 refine ⟨h.row r hr, fun x hx => ?_⟩
 simp only [z1T, Bool.or_eq_true, Bool.and_eq_true, beq_iff_eq, decide_eq_true_eq]
 rcases h.edge r hr x hx with ⟨a, b⟩ | ⟨a, b, c, d⟩
 ·exact .inl ⟨a, b⟩
 ·exact .inr ⟨⟨⟨a, b⟩, c⟩, d⟩
def kk (m : z6) : Nat := m.Inputs.toNat
def E (m : z6) (s i : Nat) : za := ((m.Rows[s]?.getD [])[i]?).getD ⟨-1, -1⟩
section
variable {m : z6} (h : VM m)
include h
theorem VM.kk_eq : ((kk m : Nat) : Int) = m.Inputs := by have := h.in1; unfold kk; omega
theorem VM.kk_le : kk m ≤ 16 := by have := h.in16; unfold kk; omega
theorem VM.rowAt {s : Nat} (hs : s < m.Rows.length) : ∃ r, m.Rows[s]? = some r ∧ r.length = kk m ∧ ∀ i, i < kk m → r[i]? = some (E m s i) := by
 have hr := List.getElem?_eq_getElem hs
 have hl := h.row _ (List.getElem_mem hs)
 have hl' : m.Rows[s].length = kk m := by unfold kk; omega
 refine ⟨_, hr, hl', fun i hi => ?_⟩
 have hi' : i < m.Rows[s].length := by omega
 unfold E
 rw [hr]
 simp only [Option.getD_some]
 rw [List.getElem?_eq_getElem hi']
 rfl
theorem VM.edgeAt {s i : Nat} (hs : s < m.Rows.length) (hi : i < kk m) : ((E m s i).To = -1 ∧ (E m s i).Out = -1) ∨ (0 ≤ (E m s i).To ∧ (E m s i).To < (m.Rows.length : Int) ∧ 0 ≤ (E m s i).Out ∧ (E m s i).Out < m.Outputs) := by
 obtain ⟨r, h1, _, h2⟩ := h.rowAt hs
 exact h.edge r (List.mem_of_getElem? h1) _ (List.mem_of_getElem? (h2 i hi))
theorem VM.edge_eq {s i : Nat} (hs : s < m.Rows.length) (hi : i < kk m) {β : Type} {f : za → Option β} :
  (Option.bind (idx m.Rows (s : Int)) fun r => Option.bind (idx r (i : Int)) f) = f (E m s i) := by
 obtain ⟨r, h1, _, h2⟩ := h.rowAt hs
 rw [VB, h1, Option.bind_some, VB, h2 i hi, Option.bind_some]
end
end Go.Own

namespace Go.Own
section
variable {S : Type}
variable {k : Nat} {bad : S → Nat → Bool} {nx : S → Nat → Option S} {p0 : S}
def Mk (k : Nat) (bad : S → Nat → Bool) (nx : S → Nat → Option S) : Nat → S → Prop
 | 0, _ => False
 | n + 1, p => Mk k bad nx n p ∨ ∃ i, i < k ∧ (bad p i = true ∨ ∃ q, nx p i = some q ∧ Mk k bad nx n q)
theorem Mk.mono {n m : Nat} {p : S} (h : Mk k bad nx n p) (hm : n ≤ m) : Mk k bad nx m p := by
 induction hm with
 | refl => exact h
 | step _ ih => exact .inl ih
end
end Go.Own

namespace Go.Own
theorem We : ∀ (n : Nat) (l : List Nat), l.Nodup → (∀ x ∈ l, x < n) → l.length ≤ n
 | 0, l, _, h => by
  cases l with
  | nil => simp
  | cons x l => have := h x (by simp); omega
 | n + 1, l, hd, h => by
  by_cases hm : n ∈ l
  ·have h1 := List.length_erase_of_mem hm
   have h2 := We n (l.erase n) (hd.erase n) fun x hx => by
    have h3 := (hd.mem_erase_iff).1 hx
    have := h x h3.2
    have := h3.1
    omega
   have : 0 < l.length := List.length_pos_of_mem hm
   omega
  ·have := We n l hd fun x hx => by
    have := h x hx
    have : x ≠ n := fun e => hm (e ▸ hx)
    omega
   omega
abbrev LL := List ((Nat × Nat) × List Nat)
def zaU (a b : z6) (L : LL) : Prop := (L.map (·.1)).Nodup ∧ ∀ x ∈ L, x.1.1 < a.Rows.length ∧ x.1.2 < b.Rows.length
theorem zaU.length {a b : z6} {L : LL} (h : zaU a b L) (ha : a.Rows.length ≤ 64) (hb : b.Rows.length ≤ 64) : L.length ≤ 4096 := by
 have := We 4096 (L.map fun x => x.1.1 * 64 + x.1.2) ?_ ?_
 ·simpa using this
 ·have : (L.map fun x => x.1.1 * 64 + x.1.2) = (L.map (·.1)).map fun q => q.1 * 64 + q.2 := by rw [List.map_map]; rfl
  rw [this]
  refine List.Pairwise.map _ ?_ (List.Pairwise.and_mem.1 h.1)
  rintro p q ⟨hp, hq, hne⟩ e
  apply hne
  obtain ⟨x, hx, rfl⟩ := List.mem_map.1 hp
  obtain ⟨y, hy, rfl⟩ := List.mem_map.1 hq
  have := h.2 x hx
  have := h.2 y hy
  obtain ⟨⟨p1, p2⟩, _⟩ := x
  obtain ⟨⟨q1, q2⟩, _⟩ := y
  simp only at *
  simp only [Prod.mk.injEq]
  omega
 ·intro x hx
  obtain ⟨y, hy, rfl⟩ := List.mem_map.1 hx
  have := h.2 y hy
  omega
end Go.Own

namespace Go.Own
theorem z1I {a k : Int} (h0 : 0 ≤ a) (hk : 1 ≤ k) (hk2 : k ≤ 1000000) : 1 ≤ w64 (1 + w64 (Int.tmod a k)) ∧ w64 (1 + w64 (Int.tmod a k)) ≤ k := by
 have h1 := Int.tmod_nonneg k h0
 have h2 := Int.tmod_lt_of_pos a (show 0 < k by omega)
 rw [w9 (x := Int.tmod a k) (by omega) (by omega), w9 (by omega) (by omega)]
 omega
structure MOk (x : zY) : Prop where
 s0 : 0 ≤ x.States
 i0 : 0 ≤ x.Inputs
 o0 : 0 ≤ x.Outputs
 e0 : ∀ v ∈ x.Edges, 0 ≤ v ∧ v ≤ 65535
theorem zcp {x : zY} {n o : Int} (hn : n = w64 (1 + w64 (Int.tmod x.States 6))) (ho : o = w64 (1 + w64 (Int.tmod x.Outputs 3))) (n1 : 1 ≤ n) (n2 : n ≤ 6) (o1 : 1 ≤ o) (o2 : o ≤ 3) (row : List za) (i v : Int) (hl : row.length ≤ 1000) (v0 : 0 ≤ v) (v1 : v ≤ 65535) :
  ∃ e : za, v8 x row i v = some (.next (row ++ [e], w64 (i + 1))) ∧ ((e.To = -1 ∧ e.Out = -1) ∨ (0 ≤ e.To ∧ e.To < n ∧ 0 ≤ e.Out ∧ e.Out < o)) := by
 have hv4 : Int.tdiv v 4 = v / 4 := Int.tdiv_eq_ediv_of_nonneg v0
 have w4 : w64 (Int.tdiv v 4) = v / 4 := by rw [hv4]; exact w9 (by omega) (by omega)
 have d0 : 0 ≤ v / 4 := by omega
 have hd : Int.tdiv (v / 4) n = v / 4 / n := Int.tdiv_eq_ediv_of_nonneg d0
 have d1 : 0 ≤ v / 4 / n := Int.ediv_nonneg d0 (by omega)
 have d2 : v / 4 / n ≤ v / 4 := Int.ediv_le_self _ d0
 have w5 : w64 (Int.tdiv (v / 4) n) = v / 4 / n := by rw [hd]; exact w9 (by omega) (by omega)
 have fit : (0 : Int) ≤ Int.tmod (v / 4) n ∧ Int.tmod (v / 4) n < n ∧ 0 ≤ Int.tmod (v / 4 / n) o ∧ Int.tmod (v / 4 / n) o < o :=
  ⟨Int.tmod_nonneg _ d0, Int.tmod_lt_of_pos _ (by omega), Int.tmod_nonneg _ d1, Int.tmod_lt_of_pos _ (by omega)⟩
 unfold v8
 rw [← hn, ← ho, w4, w5]
 have g4 : (4 : Int) ≠ 0 := by decide
 have gn : (n : Int) ≠ 0 := by omega
 have go : (o : Int) ≠ 0 := by omega
 have gl : ∀ e : za, row.length + ([e] : List za).length ≤ 4294967296 := fun e => by simp; omega
 simp only [gdT g4, gdT gn, gdT go, gdT (gl _)]
 cases x.Partial
 ·exact ⟨_, rfl, .inr fit⟩
 ·cases hc : (Int.tmod v 4 == 3)
  ·exact ⟨_, rfl, .inr fit⟩
  ·exact ⟨_, rfl, .inl ⟨rfl, rfl⟩⟩
theorem zaf {x : zY} (h : MOk x) : Ret (kx x) fun m => VM m ∧ m.Inputs = w64 (1 + w64 (Int.tmod x.Inputs 3)) ∧ m.Inputs ≤ 3 ∧ m.Outputs ≤ 3 ∧ m.Rows.length ≤ 6 := by
 have hn' := z1I h.s0 (k := 6) (by omega) (by omega)
 have hi' := z1I h.i0 (k := 3) (by omega) (by omega)
 have ho' := z1I h.o0 (k := 3) (by omega) (by omega)
 obtain ⟨n, hn⟩ : ∃ n, n = w64 (1 + w64 (Int.tmod x.States 6)) := ⟨_, rfl⟩
 obtain ⟨k, hk⟩ : ∃ n, n = w64 (1 + w64 (Int.tmod x.Inputs 3)) := ⟨_, rfl⟩
 obtain ⟨o, ho⟩ : ∃ n, n = w64 (1 + w64 (Int.tmod x.Outputs 3)) := ⟨_, rfl⟩
 rw [← hn] at hn'
 rw [← hk] at hi'
 rw [← ho] at ho'
 have inner : ∀ s : Int, 0 ≤ s → s < n → Ret (loop (fun st => uZ x s st.1 st.2) (([] : List za), 0)) (fun r => (r.length : Int) = k ∧ ∀ e ∈ r, (e.To = -1 ∧ e.Out = -1) ∨ (0 ≤ e.To ∧ e.To < n ∧ 0 ≤ e.Out ∧ e.Out < o)) := by
  intro s s0 s1
  refine ja (fun st => (st.1.length : Int) = st.2 ∧ st.2 ≤ k ∧ ∀ e ∈ st.1, (e.To = -1 ∧ e.Out = -1) ∨ (0 ≤ e.To ∧ e.To < n ∧ 0 ≤ e.Out ∧ e.Out < o)) (fun st => 10 - st.2.toNat) ⟨by simp, by omega, by simp⟩ (by simp) ?_
  rintro ⟨row, i⟩ ⟨h1, h2, h3⟩
  simp only at h1 h2 h3
  unfold uZ
  rw [← hk, ui]
  have hsk : s * k ≤ 5 * k := Int.mul_le_mul_of_nonneg_right (by omega) (by omega)
  have hsk0 : 0 ≤ s * k := Int.mul_nonneg s0 (by omega)
  have w1 : w64 (s * k) = s * k := w9 (by omega) (by omega)
  have w2 : w64 (s * k + i) = s * k + i := w9 (by omega) (by omega)
  rw [w1, w2]
  refine ⟨fun hlt => ?_, fun hge => ?_⟩
  ·have hlt : i < k := of_decide_eq_true hlt
   have hw : w64 (i + 1) = i + 1 := w9 (by omega) (by omega)
   have fin : ∀ v : Int, 0 ≤ v → v ≤ 65535 → Ret (v8 x row i v) (LRP (fun s' => (((s'.1.length : Nat) : Int) = s'.2 ∧ s'.2 ≤ k ∧ ∀ e ∈ s'.1, (e.To = -1 ∧ e.Out = -1) ∨ (0 ≤ e.To ∧ e.To < n ∧ 0 ≤ e.Out ∧ e.Out < o)) ∧ 10 - s'.2.toNat < 10 - i.toNat) (fun r => (r.length : Int) = k ∧ ∀ e ∈ r, (e.To = -1 ∧ e.Out = -1) ∨ (0 ≤ e.To ∧ e.To < n ∧ 0 ≤ e.Out ∧ e.Out < o))) := by
    intro v v0 v1
    obtain ⟨e, g1, g2⟩ := zcp hn ho hn'.1 hn'.2 ho'.1 ho'.2 row i v (by omega) v0 v1
    rw [g1, hw, y4]
    refine ⟨⟨by simp; omega, by simp only; omega, fun e' he => ?_⟩, by simp only; omega⟩
    rcases List.mem_append.1 he with q | q
    ·exact h3 e' q
    ·simp only [List.mem_cons, List.not_mem_nil, or_false] at q; subst q; exact g2
   rw [ui]
   refine ⟨fun hc => ?_, fun _ => fin 0 (by omega) (by omega)⟩
   have hc : s * k + i < ((x.Edges.length : Nat) : Int) := of_decide_eq_true hc
   rw [jb, z8l]
   have hlt' : (s * k + i).toNat < x.Edges.length := by omega
   refine ⟨by omega, _, List.getElem?_eq_getElem hlt', ?_⟩
   have := h.e0 _ (List.getElem_mem hlt')
   rw [w9 (by omega) (by omega)]
   exact fin _ this.1 this.2
  ·have hge : ¬ i < k := of_decide_eq_false hge
   rw [y4]
   exact ⟨by simp only; omega, h3⟩
 unfold kx
 simp only [z7g, jb]
 refine ⟨by decide, by decide, by decide, ?_⟩
 refine (ja (R := fun r => (r.length : Int) = n ∧ ∀ r' ∈ r, (r'.length : Int) = k ∧ ∀ e ∈ r', (e.To = -1 ∧ e.Out = -1) ∨ (0 ≤ e.To ∧ e.To < n ∧ 0 ≤ e.Out ∧ e.Out < o)) (fun st => (st.1.length : Int) = st.2 ∧ st.2 ≤ n ∧ ∀ r' ∈ st.1, (r'.length : Int) = k ∧ ∀ e ∈ r', (e.To = -1 ∧ e.Out = -1) ∨ (0 ≤ e.To ∧ e.To < n ∧ 0 ≤ e.Out ∧ e.Out < o)) (fun st => 10 - st.2.toNat) ⟨by simp, by omega, by simp⟩ (by simp) ?_).mono ?_
 ·rintro ⟨rows, s⟩ ⟨h1, h2, h3⟩
  simp only at h1 h2 h3
  unfold kc
  rw [← hn, ui]
  refine ⟨fun hlt => ?_, fun hge => ?_⟩
  ·have hlt : s < n := of_decide_eq_true hlt
   rw [jb]
   refine (inner s (by omega) hlt).mono fun row hrow => ?_
   unfold ke kg
   rw [z7g, y4, w9 (by omega) (by omega)]
   refine ⟨by simp; omega, ⟨by simp; omega, by simp only; omega, fun r' hr => ?_⟩, by simp only; omega⟩
   rcases List.mem_append.1 hr with q | q
   ·exact h3 r' q
   ·simp only [List.mem_cons, List.not_mem_nil, or_false] at q; subst q; exact hrow
  ·have hge : ¬ s < n := of_decide_eq_false hge
   rw [y4]
   exact ⟨by simp only; omega, h3⟩
 ·rintro rows ⟨h1, h2⟩
  unfold kh
  rw [y4, ← hk, ← ho]
  refine ⟨⟨hi'.1, by simp only; omega, ho'.1, by simp only; omega, by simp only; omega, by simp only; omega, fun r hr => (h2 r hr).1, fun r hr e he => ?_⟩, rfl, hi'.2, ho'.2, by simp only; omega⟩
  simp only [h1]
  exact (h2 r hr).2 e he
end Go.Own

namespace Go.Own
def z5p (n k o : Int) (rows : List (List za)) : Prop := (rows.length : Int) = n ∧ ∀ r ∈ rows, (r.length : Int) = k ∧ ∀ e ∈ r, (e.To = -1 ∧ e.Out = -1) ∨ (0 ≤ e.To ∧ e.To < n ∧ 0 ≤ e.Out ∧ e.Out < o)
theorem z5p.set {n k o : Int} {rows : List (List za)} (h : z5p n k o rows) {s i : Nat} {r : List za} (hr : rows[s]? = some r) {e : za} (he : (e.To = -1 ∧ e.Out = -1) ∨ (0 ≤ e.To ∧ e.To < n ∧ 0 ≤ e.Out ∧ e.Out < o)) : z5p n k o (rows.set s (r.set i e)) := by
 refine ⟨by simpa using h.1, fun r' hr' => ?_⟩
 rcases List.mem_or_eq_of_mem_set hr' with g | g
 ·exact h.2 r' g
 ·subst g
  have := h.2 r (List.mem_of_getElem? hr)
  refine ⟨by simpa using this.1, fun e' he' => ?_⟩
  rcases List.mem_or_eq_of_mem_set he' with g | g
  ·exact this.2 e' g
  ·subst g; exact he
end Go.Own

namespace Go.Own
structure WM (m : z6) : Prop where
 in1 : 1 ≤ m.Inputs
 in16 : m.Inputs ≤ 16
 len1 : 1 ≤ m.Rows.length
 len : m.Rows.length ≤ 128
 row : ∀ r ∈ m.Rows, (r.length : Int) = m.Inputs
 edge : ∀ r ∈ m.Rows, ∀ x ∈ r, (x.To = -1 ∧ x.Out = -1) ∨ (0 ≤ x.To ∧ x.To < (m.Rows.length : Int) ∧ 0 ≤ x.Out)
section
variable {m : z6} (h : WM m)
include h
theorem WM.kk_eq : ((kk m : Nat) : Int) = m.Inputs := by have := h.in1; unfold kk; omega
theorem WM.kk_le : kk m ≤ 16 := by have := h.in16; unfold kk; omega
theorem WM.rowAt {s : Nat} (hs : s < m.Rows.length) : ∃ r, m.Rows[s]? = some r ∧ r.length = kk m ∧ ∀ i, i < kk m → r[i]? = some (E m s i) := by
 have hr := List.getElem?_eq_getElem hs
 have hl := h.row _ (List.getElem_mem hs)
 have hl' : m.Rows[s].length = kk m := by unfold kk; omega
 refine ⟨_, hr, hl', fun i hi => ?_⟩
 have hi' : i < m.Rows[s].length := by omega
 unfold E
 rw [hr]
 simp only [Option.getD_some]
 rw [List.getElem?_eq_getElem hi']
 rfl
theorem WM.edgeAt {s i : Nat} (hs : s < m.Rows.length) (hi : i < kk m) : ((E m s i).To = -1 ∧ (E m s i).Out = -1) ∨ (0 ≤ (E m s i).To ∧ (E m s i).To < (m.Rows.length : Int) ∧ 0 ≤ (E m s i).Out) := by
 obtain ⟨r, h1, _, h2⟩ := h.rowAt hs
 exact h.edge r (List.mem_of_getElem? h1) _ (List.mem_of_getElem? (h2 i hi))
theorem WM.edge_eq {s i : Nat} (hs : s < m.Rows.length) (hi : i < kk m) {β : Type} {f : za → Option β} :
  (Option.bind (idx m.Rows (s : Int)) fun r => Option.bind (idx r (i : Int)) f) = f (E m s i) := by
 obtain ⟨r, h1, _, h2⟩ := h.rowAt hs
 rw [VB, h1, Option.bind_some, VB, h2 i hi, Option.bind_some]
end
end Go.Own

namespace Go.Own
def nxE (m : z6) (s : Int) (i : Nat) : za := if s < 0 then ⟨-1, -1⟩ else E m s.toNat i
def rsp (m : z6) : Int → List Nat → List Int
 | _, [] => []
 | s, i :: w => (nxE m s i).Out :: rsp m (nxE m s i).To w
def aft (m : z6) : Int → List Nat → Int
 | s, [] => s
 | s, i :: w => aft m (nxE m s i).To w
theorem KG (m : z6) : ∀ (w : List Nat) (s : Int) (i : Nat), rsp m s (w ++ [i]) = rsp m s w ++ [(nxE m (aft m s w) i).Out] ∧ aft m s (w ++ [i]) = (nxE m (aft m s w) i).To
 | [], s, i => ⟨rfl, rfl⟩
 | j :: w, s, i => by
  have := KG m w (nxE m s j).To i
  simp only [List.cons_append, rsp, aft, this.1, this.2, and_self]
def z73 (m : z6) (s : Int) : Prop := -1 ≤ s ∧ s < (m.Rows.length : Int)
theorem z4o {m : z6} (h : VM m) {s : Int} (hs : z73 m s) {i : Nat} (hi : i < kk m) : ZQ m s (i : Int) = some (nxE m s i) ∧ z73 m (nxE m s i).To := by
 unfold ZQ nxE
 have := h.len1
 by_cases h0 : s < 0
 ·rw [decide_eq_true h0, cond_true, if_pos h0]
  exact ⟨rfl, by unfold z73; simp only; omega⟩
 ·rw [decide_eq_false h0, cond_false, if_neg h0]
  have hl : s.toNat < m.Rows.length := by have := hs.2; omega
  have he := h.edge_eq hl hi (f := fun e => some e)
  have hc : ((s.toNat : Nat) : Int) = s := by omega
  rw [hc] at he
  refine ⟨he, ?_⟩
  have := h.edgeAt hl hi
  unfold z73
  omega
end Go.Own

namespace Go.Own
def SEq (m : z6) (s t : Nat) : Prop := ∀ w : List Nat, (∀ i ∈ w, i < kk m) → rsp m (s : Int) w = rsp m (t : Int) w
theorem z1L (m : z6) (s i : Nat) : nxE m (s : Int) i = E m s i := by
 unfold nxE
 rw [if_neg (by omega), Int.toNat_natCast]
end Go.Own

namespace Go.Own
theorem z34 {m : z6} (h : VM m) : ∀ (w : List Nat) (n : Nat) (s : Int), z73 m s → (∀ i ∈ w, i < kk m) → w.length < n → uS n m s (w.map Int.ofNat) = some (aft m s w)
 | w, 0, _, _, _, hn => by omega
 | [], n + 1, s, hs, _, _ => by
  show ub (uS n) m s [] = _
  rfl
 | i :: w, n + 1, s, hs, hw, hn => by
  show ub (uS n) m s ((i : Int) :: w.map Int.ofNat) = _
  have hi := hw i (by simp)
  have hx := z4o h hs hi
  unfold ub
  have hz : (((((i : Int) :: w.map Int.ofNat).length : Nat) : Int) == 0) = false := by
   rw [beq_eq_false_iff_ne]
   simp only [List.length_cons]
   omega
  rw [hz, cond_false]
  have e0 : idx ((i : Int) :: w.map Int.ofNat) 0 = some (i : Int) := rfl
  rw [bdT e0, bdT hx.1, gdT (by simp; omega)]
  have e1 : ((i : Int) :: w.map Int.ofNat).drop (1 : Int).toNat = w.map Int.ofNat := rfl
  rw [e1, bdT (z34 h w n _ hx.2 (fun j hj => hw j (by simp [hj])) (by simp at hn; omega))]
  rfl
theorem z38 {m : z6} (h : VM m) {s : Int} (hs : z73 m s) (w : List Nat) (hw : ∀ i ∈ w, i < kk m) : uB m s (w.map Int.ofNat) = some (aft m s w) := by
 unfold uB
 exact z34 h w _ s hs hw (by simp)
end Go.Own

namespace Go.Own
def GG (k : Nat) : Nat → Nat
 | 0 => 0
 | n + 1 => GG k n + k ^ n
def Wd (k : Nat) (w : List Nat) : Prop := ∀ i ∈ w, i < k
section
variable {m : z6}
theorem z37 (h : VM m) : ∀ (w : List Nat) (s : Int), z73 m s → Wd (kk m) w → z73 m (aft m s w)
 | [], s, hs, _ => hs
 | i :: w, s, hs, hw => z37 h w _ (z4o h hs (hw i (by simp))).2 fun j hj => hw j (by simp [hj])
end
end Go.Own

namespace Go.Own
theorem z2a (m : z6) : ∀ (u w : List Nat) (s : Int), aft m s (u ++ w) = aft m (aft m s u) w
 | [], _, _ => rfl
 | i :: u, w, s => by simp only [List.cons_append, aft, z2a m u w]
theorem z29 (m : z6) : ∀ (w : List Nat) (s : Int), s < 0 → aft m s w < 0
 | [], s, h => h
 | i :: w, s, h => by
  simp only [aft, nxE, if_pos h]
  exact z29 m w (-1) (by omega)
end Go.Own

namespace Go.Own
theorem SEq.symm {m : z6} {s t : Nat} (h : SEq m s t) : SEq m t s := fun w hw => (h w hw).symm
theorem SEq.trans {m : z6} {s t u : Nat} (h : SEq m s t) (k : SEq m t u) : SEq m s u := fun w hw => (h w hw).trans (k w hw)
end Go.Own

namespace Go.Own
def Rch (m : z6) (t : Nat) : Prop := ∃ u, Wd (kk m) u ∧ aft m 0 u = (t : Int)
theorem z2c {out : List Bool} {j t : Nat} (hj : j < out.length) : (out.set j true)[t]? = some true ↔ t = j ∨ out[t]? = some true := by
 by_cases e : t = j
 ·subst e; simp [hj]
 ·rw [List.getElem?_set_ne (Ne.symm e)]
  exact ⟨.inr, fun q => q.resolve_left e⟩
section
variable {m : z6} (h : VM m)
include h
omit h in theorem rch_step {s i : Nat} (hs : Rch m s) (hi : i < kk m) (h0 : 0 ≤ (E m s i).To) : Rch m (E m s i).To.toNat := by
 obtain ⟨u, hu, e⟩ := hs
 refine ⟨u ++ [i], fun j hj => ?_, ?_⟩
 ·rcases List.mem_append.1 hj with q | q
  ·exact hu j q
  ·have : j = i := by simpa using q
   omega
 ·have := (KG m u 0 i).2
  rw [e, z1L] at this
  rw [this]
  omega
end
end Go.Own

namespace Go.Own
def vI : List Int → List Int → Int
 | [], [] => 0
 | [], _ :: _ => -1
 | _ :: _, [] => 1
 | x :: a, y :: b => if x < y then -1 else if y < x then 1 else vI a b
def kW (a b : List Int) : Int := if a.length < b.length then -1 else if b.length < a.length then 1 else vI a b
theorem z4u : ∀ {a b : List Int}, vI a b = 0 → a = b
 | [], [], _ => rfl
 | [], _ :: _, h => by simp [vI] at h
 | _ :: _, [], h => by simp [vI] at h
 | x :: a, y :: b, h => by
  simp only [vI] at h
  split at h
  ·simp at h
  ·split at h
   ·simp at h
   ·rw [show x = y by omega, z4u h]
theorem z0Y : ∀ a : List Int, vI a a = 0
 | [] => rfl
 | x :: a => by simp [vI, z0Y a]
theorem z2E : ∀ a b : List Int, vI b a = - vI a b
 | [], [] => rfl
 | [], _ :: _ => rfl
 | _ :: _, [] => rfl
 | x :: a, y :: b => by
  simp only [vI]
  split
  ·rw [if_neg (by omega)]
  ·split
   ·rfl
   ·exact z2E a b
theorem K6 : ∀ {a b c : List Int}, vI a b < 0 → vI b c < 0 → vI a c < 0
 | [], [], _, h, _ => by simp [vI] at h
 | [], _ :: _, [], _, h => by simp [vI] at h
 | [], _ :: _, _ :: _, _, _ => by simp [vI]
 | _ :: _, [], _, h, _ => by simp [vI] at h
 | _ :: _, _ :: _, [], _, h => by simp [vI] at h
 | x :: a, y :: b, z :: c, h1, h2 => by
  simp only [vI] at h1 h2 ⊢
  by_cases e1 : x < y
  ·by_cases e2 : y < z
   ·rw [if_pos (by omega)]; omega
   ·rw [if_neg e2] at h2
    by_cases e3 : z < y
    ·rw [if_pos e3] at h2; omega
    ·rw [if_pos (by omega)]; omega
  ·rw [if_neg e1] at h1
   by_cases e3 : y < x
   ·rw [if_pos e3] at h1; omega
   ·rw [if_neg e3] at h1
    have : x = y := by omega
    subst this
    by_cases e2 : x < z
    ·rw [if_pos e2]; omega
    ·rw [if_neg e2] at h2 ⊢
     by_cases e4 : z < x
     ·rw [if_pos e4] at h2; omega
     ·rw [if_neg e4] at h2 ⊢
      exact K6 h1 h2
theorem z26 {a b : List Int} (h : kW a b = 0) : a = b := by
 unfold kW at h
 split at h
 ·simp at h
 ·split at h
  ·simp at h
  ·exact z4u h
theorem Jc (a : List Int) : kW a a = 0 := by simp [kW, z0Y]
theorem z30 {a b : List Int} : kW a b = 0 ↔ a = b := ⟨z26, fun h => h ▸ Jc a⟩
theorem z2Y (a b : List Int) : kW b a = - kW a b := by
 unfold kW
 by_cases h1 : a.length < b.length
 ·rw [if_pos h1, if_neg (by omega), if_pos h1]; rfl
 ·by_cases h2 : b.length < a.length
  ·rw [if_pos h2, if_neg h1, if_pos h2]
  ·rw [if_neg h1, if_neg h2, if_neg h2, if_neg h1, z2E]
theorem ky {a b c : List Int} (h1 : kW a b < 0) (h2 : kW b c < 0) : kW a c < 0 := by
 unfold kW at *
 by_cases e1 : a.length < b.length
 ·by_cases e2 : b.length < c.length
  ·rw [if_pos (by omega)]; omega
  ·rw [if_neg e2] at h2
   by_cases e3 : c.length < b.length
   ·rw [if_pos e3] at h2; omega
   ·rw [if_pos (by omega)]; omega
 ·rw [if_neg e1] at h1
  by_cases e3 : b.length < a.length
  ·rw [if_pos e3] at h1; omega
  ·rw [if_neg e3] at h1
   have e : a.length = b.length := by omega
   rw [e]
   by_cases e2 : b.length < c.length
   ·rw [if_pos e2]; omega
   ·rw [if_neg e2] at h2 ⊢
    by_cases e4 : c.length < b.length
    ·rw [if_pos e4] at h2; omega
    ·rw [if_neg e4] at h2 ⊢
     exact K6 h1 h2
theorem z2Z (a : List Int) : ¬ kW a a < 0 := by rw [Jc]; omega
theorem z54 {a b : List Int} (h : kW a b < 0) : ¬ kW b a < 0 := by rw [z2Y a b]; omega
theorem z52 {a b : List Int} : ¬ kW a b < 0 ↔ kW b a < 0 ∨ a = b := by
 rw [← z30, z2Y a b]; omega
def SW (l : List (List Int)) : Prop := l.Pairwise fun a b => kW a b < 0
theorem SW.nil : SW [] := List.Pairwise.nil
theorem SW.tail {x : List Int} {l : List (List Int)} (h : SW (x :: l)) : SW l := (List.pairwise_cons.1 h).2
theorem SW.head {x : List Int} {l : List (List Int)} (h : SW (x :: l)) : ∀ y ∈ l, kW x y < 0 := (List.pairwise_cons.1 h).1
theorem SW.unique : ∀ {l m : List (List Int)}, SW l → SW m → (∀ x, x ∈ l ↔ x ∈ m) → l = m
 | [], [], _, _, _ => rfl
 | [], y :: m, _, _, h => by have := (h y).2 (by simp); simp at this
 | x :: l, [], _, _, h => by have := (h x).1 (by simp); simp at this
 | x :: l, y :: m, h1, h2, h => by
  have hxy : x = y := by
   rcases List.mem_cons.1 ((h x).1 (by simp)) with e | e
   ·exact e
   ·rcases List.mem_cons.1 ((h y).2 (by simp)) with e' | e'
    ·exact e'.symm
    ·exact absurd (h2.head x e) (z54 (h1.head y e'))
  subst hxy
  rw [SW.unique h1.tail h2.tail fun z => ?_]
  constructor
  ·intro hz
   rcases List.mem_cons.1 ((h z).1 (by simp [hz])) with e | e
   ·subst e; exact absurd (h1.head _ hz) (z2Z _)
   ·exact e
  ·intro hz
   rcases List.mem_cons.1 ((h z).2 (by simp [hz])) with e | e
   ·subst e; exact absurd (h2.head _ hz) (z2Z _)
   ·exact e
theorem SW.sub {l m : List (List Int)} (h : SW l) (hs : List.Sublist m l) : SW m := List.Pairwise.sublist hs h
def K0 (w : List Int) : List (List Int) → List (List Int)
 | [] => [w]
 | x :: l => if kW x w < 0 then x :: K0 w l else if kW x w = 0 then x :: l else w :: x :: l
theorem WS {w x : List Int} : ∀ {l : List (List Int)}, x ∈ K0 w l ↔ x = w ∨ x ∈ l
 | [] => by simp [K0]
 | y :: l => by
  simp only [K0]
  split
  ·simp only [List.mem_cons, WS]
   constructor
   ·rintro (h | h | h) <;> simp [h]
   ·rintro (h | h | h) <;> simp [h]
  ·split
   ·rename_i h1 h2
    have := z26 h2
    subst this
    simp
   ·simp
theorem SW.put {w : List Int} : ∀ {l : List (List Int)}, SW l → SW (K0 w l)
 | [], _ => by simp [K0, SW]
 | y :: l, h => by
  simp only [K0]
  split
  ·rename_i h1
   refine List.pairwise_cons.2 ⟨fun z hz => ?_, SW.put h.tail⟩
   rcases WS.1 hz with rfl | hz
   ·exact h1
   ·exact h.head z hz
  ·split
   ·exact h
   ·rename_i h1 h2
    have hw : kW w y < 0 := by
     rcases z52.1 h1 with q | q
     ·exact q
     ·exact absurd (z30.2 q) h2
    refine List.pairwise_cons.2 ⟨fun z hz => ?_, h⟩
    rcases List.mem_cons.1 hz with rfl | hz
    ·exact hw
    ·exact ky hw (h.head z hz)
theorem z2w (w : List Int) : ∀ l, (K0 w l).length ≤ l.length + 1
 | [] => by simp [K0]
 | y :: l => by
  simp only [K0]
  split
  ·have := z2w w l; simp; omega
  ·split <;> simp
def srt (l : List (List Int)) : List (List Int) := l.foldl (fun m w => K0 w m) []
theorem z1A : ∀ (l m : List (List Int)), SW m → SW (l.foldl (fun m w => K0 w m) m) ∧ ∀ x, x ∈ l.foldl (fun m w => K0 w m) m ↔ x ∈ m ∨ x ∈ l
 | [], m, h => ⟨h, by simp⟩
 | w :: l, m, h => by
  obtain ⟨h1, h2⟩ := z1A l (K0 w m) h.put
  refine ⟨h1, fun x => ?_⟩
  rw [List.foldl_cons, h2, WS]
  simp only [List.mem_cons]
  constructor
  ·rintro ((h | h) | h) <;> simp [h]
  ·rintro (h | h | h) <;> simp [h]
theorem z3L (l : List (List Int)) : SW (srt l) := (z1A l [] .nil).1
theorem z1N {l : List (List Int)} {x : List Int} : x ∈ srt l ↔ x ∈ l := by rw [srt, (z1A l [] .nil).2]; simp
theorem z5T (l : List (List Int)) (w : List Int) : srt (l ++ [w]) = K0 w (srt l) := by simp [srt]
theorem z1z (l : List (List Int)) : (srt l).length ≤ l.length := by
 have : ∀ (l m : List (List Int)), (l.foldl (fun m w => K0 w m) m).length ≤ m.length + l.length := by
  intro l
  induction l with
  | nil => intro m; simp
  | cons w l ih => intro m; have := ih (K0 w m); have := z2w w m; simp only [List.foldl_cons, List.length_cons]; omega
 have q := this l []
 simp only [List.length_nil, Nat.zero_add] at q
 exact q
end Go.Own

namespace Go.Own
theorem zt {α : Type} {l : List α} {i : Nat} {x : α} (h : l[i]? = some x) : idx l (i : Int) = some x := h
theorem z4N (b : List Int) (g : Nat → Int → Option Int) (hg : ∀ i x y, b[i]? = some y → g i x = if x < y then some (-1) else if y < x then some 1 else none) :
  ∀ (a : List Int) (k : Nat), k + a.length = b.length → (yo g a k).getD 0 = vI a (b.drop k)
 | [], k, h => by
  have : b.drop k = [] := List.drop_eq_nil_of_le (by simp at h; omega)
  rw [this]; rfl
 | x :: a, k, h => by
  simp only [List.length_cons] at h
  have hk : k < b.length := by omega
  rw [List.drop_eq_getElem_cons hk]
  simp only [yo, vI, hg k x b[k] (List.getElem?_eq_getElem hk)]
  by_cases h1 : x < b[k]
  ·simp [h1]
  ·by_cases h2 : b[k] < x
   ·simp [h1, h2]
   ·simp only [h1, h2, if_false]
    exact z4N b g hg a (k + 1) (by omega)
theorem z1h (a b : List Int) (h : a.length = b.length → a.length < 4611686018427387904) : wZ a b = some (kW a b) := by
 unfold wZ
 by_cases hl : a.length = b.length
 ·have h' := h hl
  simp only [hl, bne_self_eq_false, cond_false]
  rw [bdT (xI a h' (fun i x => match b[i]? with | some y => if x < y then some (-1 : Int) else if y < x then some 1 else none | none => none) ?_ ?_)]
  ·have q := z4N b (fun i x => match b[i]? with | some y => if x < y then some (-1 : Int) else if y < x then some 1 else none | none => none) (fun i x y hy => by simp only [hy]) a 0 (by omega)
   rw [List.drop_zero] at q
   have hc : kW a b = vI a b := by unfold kW; rw [if_neg (by omega), if_neg (by omega)]
   rw [hc, ← q]
   cases yo (fun i x => match b[i]? with | some y => if x < y then some (-1 : Int) else if y < x then some 1 else none | none => none) a 0 <;> rfl
  ·intro i x hx
   have hi : i < a.length := (List.getElem?_eq_some_iff.1 hx).1
   have hy : b[i]? = some b[i] := List.getElem?_eq_getElem (by omega)
   unfold vj
   have hc : decide ((i : Int) < (a.length : Int)) = true := by simpa using hi
   simp only [hc, cond_true, zt hx, zt hy, hy, Option.bind_some]
   by_cases h1 : x < b[i]
   ·simp [h1, nS]
   ·by_cases h2 : b[i] < x
    ·simp [h1, h2, nS]
    ·simp [h1, h2, nS]
  ·unfold vj
   simp
 ·have h1 : (((a.length : Nat) : Int) != ((b.length : Nat) : Int)) = true := by simp; omega
  simp only [h1, cond_true]
  unfold kW
  by_cases h2 : a.length < b.length
  ·simp [h2]
  ·have h3 : b.length < a.length := by omega
   simp [h2, h3]
def cI (x y : Int) : Int := if x < y then -1 else if y < x then 1 else 0
theorem z51 (x y : Int) : wR x y = some (cI x y) := by
 unfold wR qb cI
 simp only [bne_self_eq_false, Option.bind_some, cond_false]
 by_cases h1 : x < y
 ·simp [h1]
 ·by_cases h2 : y < x
  ·simp [h1, h2]
  ·simp [h1, h2]
theorem z8j (a b : List Int) (h : a.length < 4611686018427387904) : ∃ c, x3 a b = some c ∧ (a.length = b.length → c = vI a b) := by
 unfold x3
 have hloop := xI a h (step := fun s => y8 a b s) (fun i x => match b[i]? with | some y => if x < y then some (-1 : Int) else if y < x then some 1 else none | none => some 1) (by
  intro i x hx
  have hi : i < a.length := (List.getElem?_eq_some_iff.1 hx).1
  unfold y8
  have hc : decide ((i : Int) < (a.length : Int)) = true := by simpa using hi
  simp only [hc, cond_true, zt hx, Option.bind_some]
  by_cases hb : i < b.length
  ·have hy : b[i]? = some b[i] := List.getElem?_eq_getElem hb
   have hd : decide ((i : Int) ≥ (b.length : Int)) = false := by simp; omega
   simp only [hd, cond_false, zt hy, hy, Option.bind_some, z51]
   unfold cI
   by_cases h1 : x < b[i]
   ·simp [h1, nS]
   ·by_cases h2 : b[i] < x
    ·simp [h1, h2, nS]
    ·simp [h1, h2, nS]
  ·have hy : b[i]? = none := List.getElem?_eq_none (by omega)
   have hd : decide ((i : Int) ≥ (b.length : Int)) = true := by simp; omega
   simp only [hd, cond_true, hy, nS]) (by unfold y8; simp)
 rw [bdT hloop]
 have q := fun hl => z4N b (fun i x => match b[i]? with | some y => if x < y then some (-1 : Int) else if y < x then some 1 else none | none => some 1) (fun i x y hy => by simp only [hy]) a 0 hl
 cases hf : yo (fun i x => match b[i]? with | some y => if x < y then some (-1 : Int) else if y < x then some 1 else none | none => some 1) a 0 with
 | some r =>
  refine ⟨r, rfl, fun hl => ?_⟩
  have := q (by omega)
  rw [hf] at this
  simpa using this
 | none =>
  unfold x6
  by_cases hl : a.length < b.length
  ·refine ⟨-1, by simp [oS, hl], fun hl2 => by omega⟩
  ·refine ⟨0, by simp [oS, hl], fun hl2 => ?_⟩
   have := q (by omega)
   rw [hf] at this
   simpa using this
theorem zeS (x y : Int) : ZY [x, y] = some (if x = 0 then y else x) := by
 unfold ZY
 rw [bdT (xI [x, y] (by simp) (step := fun s => ue [x, y] s) (fun i v => if v ≠ 0 then some v else none) ?_ ?_)]
 ·by_cases h1 : x = 0
  ·by_cases h2 : y = 0
   ·simp [yo, h1, h2, oS, kj]
   ·simp [yo, h1, h2, oS]
  ·simp [yo, h1, oS]
 ·intro i v hv
  have hi : i < [x, y].length := (List.getElem?_eq_some_iff.1 hv).1
  unfold ue
  have hc : decide ((i : Int) < (([x, y] : List Int).length : Int)) = true := by simp only [decide_eq_true_eq]; omega
  simp only [hc, cond_true, zt hv, Option.bind_some]
  by_cases h : v = 0
  ·simp [h, nS]
  ·have hb : (v != 0) = true := by simpa using h
   simp [h, hb, nS]
 ·unfold ue; simp
theorem z3u (a b : List Int) (h : a.length < 4611686018427387904) : wX a b = some (kW a b) := by
 unfold wX
 obtain ⟨c, hc, hl⟩ := z8j a b h
 rw [z51, hc]
 simp only [Option.bind_some, zeS]
 unfold cI kW
 by_cases h1 : a.length < b.length
 ·simp [h1]
 ·by_cases h2 : b.length < a.length
  ·simp [h1, h2]
  ·simp [h1, h2, hl (by omega)]
def wE (n : Int) (w : List Int) : Int := if 256 < w.length then 3 else if w.any (fun c => decide (c < 0) || decide (n ≤ c)) then 1 else 0
theorem z3B {n : Int} {w : List Int} : wE n w = 0 ↔ w.length ≤ 256 ∧ ∀ c ∈ w, 0 ≤ c ∧ c < n := by
 unfold wE
 by_cases h : 256 < w.length
 ·rw [if_pos h]
  exact ⟨fun q => by simp at q, fun q => by omega⟩
 ·rw [if_neg h]
  by_cases h2 : w.any (fun c => decide (c < 0) || decide (n ≤ c)) = true
  ·rw [if_pos h2]
   simp only [List.any_eq_true, Bool.or_eq_true, decide_eq_true_eq] at h2
   obtain ⟨c, h3, h4⟩ := h2
   refine ⟨fun q => by simp at q, fun q => ?_⟩
   have := q.2 c h3
   omega
  ·rw [if_neg h2]
   simp only [List.any_eq_true, Bool.or_eq_true, decide_eq_true_eq, not_exists, not_and, not_or] at h2
   refine ⟨fun _ => ⟨by omega, fun c hc => ?_⟩, fun _ => rfl⟩
   have := h2 c hc
   omega
theorem z7u {ρ : Type} (p : Int → Bool) (g : Nat → Int → Option ρ) (hg : ∀ i x, (g i x).isSome = p x) : ∀ (w : List Int) (k : Nat), (yo g w k).isSome = w.any p
 | [], k => rfl
 | x :: w, k => by
  simp only [yo, List.any_cons]
  have := hg k x
  cases hx : g k x with
  | some r => rw [hx] at this; simp at this; simp [← this]
  | none => rw [hx] at this; simp at this; rw [this, Bool.false_or]; exact z7u p g hg w (k + 1)
theorem z3C (n : Int) (w : List Int) : qD w n = some (if 16 < n then 3 else if 256 < w.length then 3 else if n < 1 then 1 else wE n w) := by
 unfold qD
 by_cases h0 : 16 < n
 ·simp [h0]
 by_cases h : 256 < w.length
 ·have h' : (256 : Int) < (w.length : Int) := by omega
  simp [h0, h, h']
 by_cases h1 : n < 1
 ·have h' : ¬ (256 : Int) < (w.length : Int) := by omega
  simp [h0, h, h', h1]
 ·have hd : decide (((w.length : Nat) : Int) > 256) = false := by simp; omega
  have hd0 : decide (n > 16) = false := by simp; omega
  have hd1 : decide (n < 1) = false := by simp; omega
  simp only [hd, hd0, hd1, cond_false, if_neg h, if_neg h0, if_neg h1]
  unfold yI xv wE
  have hl := xI w (by omega) (step := fun s => zV w n s) (fun i c => if c < 0 ∨ n ≤ c then some (i : Int) else none) (by
   intro i c hc
   have hi : i < w.length := (List.getElem?_eq_some_iff.1 hc).1
   unfold zV jU
   have hq : decide ((i : Int) < (w.length : Int)) = true := by simpa using hi
   simp only [hq, cond_true, zt hc, Option.bind_some]
   by_cases h1 : c < 0
   ·simp [h1, nS]
   ·by_cases h2 : n ≤ c
    ·simp [h1, h2, nS]
    ·simp [h1, h2, nS]) (by unfold zV; simp)
  rw [bdT hl, if_neg h]
  have q := z7u (fun c => decide (c < 0) || decide (n ≤ c)) (fun i c => if c < 0 ∨ n ≤ c then some (i : Int) else none) (fun i c => by by_cases h : c < 0 ∨ n ≤ c <;> simp [h] <;> simpa using h) w 0
  cases hf : yo (fun i c => if c < 0 ∨ n ≤ c then some (i : Int) else none) w 0 with
  | none => rw [hf] at q; rw [← q]; rfl
  | some r =>
   rw [hf] at q
   obtain ⟨i, x, h1, h2⟩ := kS hf
   rw [← q]
   split at h2
   ·cases h2
    simp [oS]
   ·cases h2
def eS (e : Int) : Option Int := if e = 0 then none else some e
def loE (n : Int) (l : List (List Int)) : Int := if 16 < n then 3 else if 4096 < l.length then 3 else if n < 1 then 1 else (yo (fun _ w => eS (wE n w)) l 0).getD 0
theorem z2R {n : Int} : ∀ {l : List (List Int)} {k : Nat}, (yo (fun _ w => eS (wE n w)) l k).getD 0 = 0 ↔ ∀ w ∈ l, wE n w = 0
 | [], _ => by simp [yo]
 | w :: l, k => by
  by_cases h : wE n w = 0
  ·have : eS (wE n w) = none := by simp [eS, h]
   simp only [yo, this]
   rw [z2R]
   simp [h]
  ·have : eS (wE n w) = some (wE n w) := by simp [eS, h]
   simp [yo, this, h]
theorem z2D {n : Int} {l : List (List Int)} : loE n l = 0 ↔ (1 ≤ n ∧ n ≤ 16) ∧ l.length ≤ 4096 ∧ ∀ w ∈ l, w.length ≤ 256 ∧ ∀ c ∈ w, 0 ≤ c ∧ c < n := by
 unfold loE
 by_cases h0 : 16 < n
 ·rw [if_pos h0]; exact ⟨fun q => by simp at q, fun q => by omega⟩
 by_cases h1 : 4096 < l.length
 ·rw [if_neg h0, if_pos h1]; exact ⟨fun q => by simp at q, fun q => by omega⟩
 by_cases h2 : n < 1
 ·rw [if_neg h0, if_neg h1, if_pos h2]; exact ⟨fun q => by simp at q, fun q => by omega⟩
 rw [if_neg h0, if_neg h1, if_neg h2, z2R]
 constructor
 ·intro q; exact ⟨by omega, by omega, fun w hw => z3B.1 (q w hw)⟩
 ·intro q w hw; exact z3B.2 (q.2.2 w hw)
theorem z6j (l : List (List Int)) (n : Int) : qI l n = some (loE n l) := by
 unfold qI loE
 by_cases h0 : 16 < n
 ·simp [h0]
 by_cases h1 : 4096 < l.length
 ·have h' : (4096 : Int) < (l.length : Int) := by omega
  simp [h0, h1, h']
 by_cases h2 : n < 1
 ·have h' : ¬ (4096 : Int) < (l.length : Int) := by omega
  simp [h0, h1, h2, h']
 have d0 : decide (n > 16) = false := by simp; omega
 have d1 : decide (((l.length : Nat) : Int) > 4096) = false := by simp; omega
 have d2 : decide (n < 1) = false := by simp; omega
 simp only [d0, d1, d2, cond_false, if_neg h0, if_neg h1, if_neg h2]
 rw [bdT (xI l (by omega) (step := fun s => vn l n s) (fun _ w => eS (wE n w)) ?_ ?_)]
 ·cases yo (fun _ w => eS (wE n w)) l 0 <;> rfl
 ·intro i w hw
  have hi : i < l.length := (List.getElem?_eq_some_iff.1 hw).1
  have hq : decide ((i : Int) < (l.length : Int)) = true := by simpa using hi
  have he : qD w n = some (wE n w) := by
   rw [z3C, if_neg h0, if_neg h2]
   by_cases h : 256 < w.length
   ·rw [if_pos h]; unfold wE; rw [if_pos h]
   ·rw [if_neg h]
  unfold vn
  simp only [hq, cond_true, zt hw, Option.bind_some, he]
  by_cases hz : wE n w = 0
  ·simp [hz, eS, nS]
  ·have hb : (wE n w != 0) = true := by simpa using hz
   simp [hz, hb, eS, nS]
 ·unfold vn; simp
theorem z6k (l : List (List Int)) (hl : l.length < 4611686018427387904) {step : Int × Int → Option (LR (Int × Int) Int)}
  (h : ∀ (n : Int) (i : Nat) (x : List Int), l[i]? = some x → step (n, (i : Int)) = some (.next (w64 (n + ((x.length : Nat) : Int)), w64 ((i : Int) + 1)))) (h2 : ∀ n, step (n, (l.length : Int)) = some (.done n)) :
  loop step (0, 0) = some (l.foldl (fun n x => w64 (n + ((x.length : Nat) : Int))) 0) := by
 have gen : ∀ (m k : Nat) (n : Int), k ≤ l.length → l.length - k < m → Wi step m (n, (k : Int)) = some ((l.drop k).foldl (fun n x => w64 (n + ((x.length : Nat) : Int))) n) := by
  intro m
  induction m with
  | zero => intro k n _ h; omega
  | succ m ih =>
   intro k n hk hn
   rw [ZS]
   rcases Nat.lt_or_ge k l.length with hlt | hge
   ·have hx : l[k]? = some l[k] := List.getElem?_eq_getElem hlt
    rw [h n k _ hx, List.drop_eq_getElem_cons hlt]
    simp only [List.foldl_cons]
    rw [w9 (x := (k : Int) + 1) (by omega) (by omega)]
    exact ih (k + 1) _ hlt (by omega)
   ·have : k = l.length := by omega
    subst this
    rw [h2, List.drop_length]
    rfl
 exact gen Y7 0 0 (Nat.zero_le _) (by show l.length - 0 < 18446744073709551616; omega)
def stW (l : List (List Int)) : Int := l.foldl (fun n x => w64 (n + ((x.length : Nat) : Int))) 0
theorem z5R (l : List (List Int)) (hl : l.length < 4611686018427387904) : qH l = some (stW l) := by
 unfold qH
 rw [bdT (z6k l hl (step := fun s => vm l s.1 s.2) ?_ ?_)]
 ·rfl
 ·intro n i x hx
  have hi : i < l.length := (List.getElem?_eq_some_iff.1 hx).1
  have hq : decide ((i : Int) < (l.length : Int)) = true := by simpa using hi
  unfold vm
  simp only [hq, cond_true, zt hx, Option.bind_some]
 ·intro n; unfold vm; simp
def JK (l : List (List Int)) : Nat := (l.map List.length).sum
theorem z9P {l : List (List Int)} (h : JK l < 4611686018427387904) : stW l = (JK l : Int) := by
 have gen : ∀ (l : List (List Int)) (n : Nat), n + JK l < 4611686018427387904 → l.foldl (fun n x => w64 (n + ((x.length : Nat) : Int))) (n : Int) = ((n + JK l : Nat) : Int) := by
  intro l
  induction l with
  | nil => intro n _; simp [JK]
  | cons x l ih =>
   intro n hn
   have hs : JK (x :: l) = x.length + JK l := by simp [JK]
   rw [hs] at hn ⊢
   rw [List.foldl_cons, w9 (by omega) (by omega), ← Int.natCast_add, ih (n + x.length) (by omega)]
   congr 1; omega
 have := gen l 0 (by omega)
 simpa [stW] using this
theorem z3H {l : List (List Int)} {m : Nat} (h : ∀ w ∈ l, w.length ≤ m) : JK l ≤ l.length * m := by
 induction l with
 | nil => simp [JK]
 | cons x l ih =>
  have hs : JK (x :: l) = x.length + JK l := by simp [JK]
  have h1 := h x (by simp)
  have h2 := ih fun w hw => h w (by simp [hw])
  rw [hs, List.length_cons, Nat.add_mul]
  omega
theorem z2f : ∀ {l : List (List Int)}, SW l ↔ ∀ i x y, l[i]? = some x → l[i + 1]? = some y → kW x y < 0
 | [] => by simp [SW]
 | [x] => ⟨fun _ i a b _ h2 => by simp at h2, fun _ => by simp [SW]⟩
 | x :: y :: l => by
  constructor
  ·intro h i a b h1 h2
   cases i with
   | zero =>
    simp at h1 h2
    subst h1; subst h2
    exact h.head y (by simp)
   | succ i => exact z2f.1 h.tail i a b (by simpa using h1) (by simpa using h2)
  ·intro h
   have ht : SW (y :: l) := z2f.2 fun i a b h1 h2 => h (i + 1) a b (by simpa using h1) (by simpa using h2)
   have h0 := h 0 x y rfl rfl
   refine List.pairwise_cons.2 ⟨fun z hz => ?_, ht⟩
   rcases List.mem_cons.1 hz with rfl | hz
   ·exact h0
   ·exact ky h0 (ht.head z hz)
theorem z3k {α ρ : Type} (l : List α) (hl : l.length < 4611686018427387904) {step : Int → Option (LR Int (Unit ⊕ ρ))} (f : Nat → α → Option ρ)
  (h : ∀ (i : Nat) (x : α), 1 ≤ i → l[i]? = some x → step (i : Int) = some (nS i (f i x))) (h2 : ∀ k : Nat, l.length ≤ k → step (k : Int) = some (.done (.inl ()))) :
  loop step 1 = some (oS (yo f (l.drop 1) 1)) := by
 have gen : ∀ (n : Nat) (k : Nat), 1 ≤ k → l.length - k < n → Wi step n (k : Int) = some (oS (yo f (l.drop k) k)) := by
  intro n
  induction n with
  | zero => intro k _ h; omega
  | succ n ih =>
   intro k hk hn
   rw [ZS]
   rcases Nat.lt_or_ge k l.length with hlt | hge
   ·have hx : l[k]? = some l[k] := List.getElem?_eq_getElem hlt
    rw [h k _ hk hx, List.drop_eq_getElem_cons hlt]
    simp only [yo]
    cases hf : f k l[k] with
    | some r => rfl
    | none =>
     simp only [nS]
     rw [w9 (by omega) (by omega)]
     exact ih (k + 1) (by omega) (by omega)
   ·rw [h2 k hge, List.drop_eq_nil_of_le hge]
    rfl
 exact gen Y7 1 (Nat.le_refl _) (by show l.length - 1 < 18446744073709551616; omega)
instance (l : List (List Int)) : Decidable (SW l) := by unfold SW; infer_instance
theorem z6A {ρ : Type} (l : List (List Int)) (r : ρ) : yo (fun i x => match l[i - 1]? with | some y => if 0 ≤ kW y x then some r else none | none => none) (l.drop 1) 1 = if SW l then none else some r := by
 by_cases hs : SW l
 ·rw [if_pos hs]
  refine qR fun i x hx => ?_
  rw [List.getElem?_drop] at hx
  have hi : 1 + i < l.length := (List.getElem?_eq_some_iff.1 hx).1
  have hy : l[1 + i - 1]? = some l[i] := by rw [show 1 + i - 1 = i by omega]; exact List.getElem?_eq_getElem (by omega)
  rw [hy]
  have := z2f.1 hs i l[i] x (List.getElem?_eq_getElem (by omega)) (by rw [Nat.add_comm]; exact hx)
  simp only
  rw [if_neg (by omega)]
 ·rw [if_neg hs]
  cases hf : yo (fun i x => match l[i - 1]? with | some y => if 0 ≤ kW y x then some r else none | none => none) (l.drop 1) 1 with
  | some r' =>
   obtain ⟨i, x, h1, h2⟩ := kS hf
   split at h2
   ·split at h2
    ·exact h2.symm
    ·cases h2
   ·cases h2
  | none =>
   exfalso
   refine hs (z2f.2 fun i x y hx hy => ?_)
   have := Yx hf i y (by rw [List.getElem?_drop, Nat.add_comm]; exact hy)
   rw [show 1 + i - 1 = i by omega, hx] at this
   simp only at this
   split at this
   ·cases this
   ·omega
theorem z72 (l : List (List Int)) (h : l.length ≤ 4096) (hw : ∀ w ∈ l, w.length < 4611686018427387904) : kC l = some (decide (SW l)) := by
 unfold kC
 rw [bdT (z3k l (by omega) (step := fun s => vo l s) (fun i x => match l[i - 1]? with | some y => if 0 ≤ kW y x then some false else none | none => none) ?_ ?_), z6A]
 ·by_cases hs : SW l
  ·simp [hs, oS, j5]
  ·simp [hs, oS]
 ·intro i x hi hx
  have hil : i < l.length := (List.getElem?_eq_some_iff.1 hx).1
  have hy : l[i - 1]? = some l[i - 1] := List.getElem?_eq_getElem (by omega)
  have hq : decide ((i : Int) < (l.length : Int)) = true := by simpa using hil
  unfold vo
  rw [w9 (x := (i : Int) - 1) (by omega) (by omega), show ((i : Int) - 1) = ((i - 1 : Nat) : Int) by omega]
  have hE := z3u l[i - 1] x (hw _ (List.getElem_mem (by omega)))
  simp only [hq, cond_true, zt hx, zt hy, Option.bind_some, hy, hE]
  by_cases hc : 0 ≤ kW l[i - 1] x
  ·simp [hc, nS]
  ·simp [hc, nS]
 ·intro k hk; unfold vo; have : decide ((k : Int) < (l.length : Int)) = false := by simp; omega
  simp only [this, cond_false]
def chE (n : Int) (l : List (List Int)) : Int := if loE n l ≠ 0 then loE n l else if SW l then (if 65536 < JK l then 3 else 0) else 1
theorem z6J {n : Int} {l : List (List Int)} : chE n l = 0 ↔ loE n l = 0 ∧ SW l ∧ JK l ≤ 65536 := by
 unfold chE
 by_cases h : loE n l = 0
 ·rw [if_neg (by simp [h])]
  by_cases h2 : SW l
  ·rw [if_pos h2]
   by_cases h3 : 65536 < JK l
   ·rw [if_pos h3]; exact ⟨fun q => by simp at q, fun q => by omega⟩
   ·rw [if_neg h3]; exact ⟨fun _ => ⟨h, h2, by omega⟩, fun _ => rfl⟩
  ·rw [if_neg h2]; exact ⟨fun q => by simp at q, fun q => absurd q.2.1 h2⟩
 ·rw [if_pos h]; exact ⟨fun q => absurd q h, fun q => absurd q.1 h⟩
theorem z4t {n : Int} {l : List (List Int)} (h : loE n l = 0) : l.length ≤ 4096 ∧ (∀ w ∈ l, w.length ≤ 256) ∧ JK l ≤ 1048576 := by
 obtain ⟨_, h1, h2⟩ := z2D.1 h
 refine ⟨h1, fun w hw => (h2 w hw).1, ?_⟩
 have := z3H (m := 256) fun w hw => (h2 w hw).1
 omega
theorem z3F (l : List (List Int)) (n : Int) : qJ l n = some (chE n l) := by
 unfold qJ chE
 rw [z6j]
 simp only [Option.bind_some]
 by_cases h : loE n l = 0
 ·obtain ⟨h1, h2, h3⟩ := z4t h
  rw [z72 l h1 fun w hw => by have := h2 w hw; omega, z5R l (by omega), z9P (by omega)]
  simp only [h, bne_self_eq_false, cond_false, Option.bind_some, ne_eq, not_true, if_false]
  by_cases hs : SW l
  ·by_cases hq : 65536 < JK l
   ·have : (65536 : Int) < (JK l : Int) := by omega
    simp [hs, hq, this]
   ·have : ¬ (65536 : Int) < (JK l : Int) := by omega
    simp [hs, hq, this]
  ·simp [hs]
 ·have hb : (loE n l != 0) = true := by simpa using h
  simp [h, hb]
end Go.Own

namespace Go.Own
def QW (l : List (List Int)) : Prop := l.Pairwise fun a b => ¬ kW b a < 0
theorem z6g {α : Type} {l : List α} {n : Nat} {x : α} : x ∈ l.take n ↔ ∃ i, i < n ∧ l[i]? = some x := by
 rw [List.mem_iff_getElem?]
 constructor
 ·rintro ⟨i, h⟩
  rw [List.getElem?_take] at h
  split at h
  ·exact ⟨i, by omega, h⟩
  ·cases h
 ·rintro ⟨i, h1, h2⟩
  exact ⟨i, by rw [List.getElem?_take, if_pos h1]; exact h2⟩
end Go.Own

namespace Go.Own
theorem z48 {l : List (List Int)} (hs : SW l) {w : List Int} {i : Nat} (hi : i ≤ l.length) (h1 : ∀ m x, m < i → l[m]? = some x → kW x w < 0) (h2 : ∀ m x, i ≤ m → l[m]? = some x → kW w x < 0) : l.take i ++ w :: l.drop i = K0 w l := by
 have ht : ∀ x ∈ l.take i, kW x w < 0 := fun x hx => by
  obtain ⟨m, q1, q2⟩ := z6g.1 hx
  exact h1 m x q1 q2
 have hd : ∀ x ∈ l.drop i, kW w x < 0 := fun x hx => by
  obtain ⟨m, q⟩ := List.mem_iff_getElem?.1 hx
  rw [List.getElem?_drop] at q
  exact h2 (i + m) x (by omega) q
 refine SW.unique ?_ hs.put fun x => ?_
 ·unfold SW
  rw [List.pairwise_append, List.pairwise_cons]
  refine ⟨hs.sub (List.take_sublist _ _), ⟨hd, hs.sub (List.drop_sublist _ _)⟩, fun a ha b hb => ?_⟩
  rcases List.mem_cons.1 hb with rfl | hb
  ·exact ht a ha
  ·exact ky (ht a ha) (hd b hb)
 ·rw [WS]
  have : x ∈ l ↔ x ∈ l.take i ∨ x ∈ l.drop i := by rw [← List.mem_append, List.take_append_drop]
  rw [this]
  simp only [List.mem_append, List.mem_cons]
  constructor
  ·rintro (h | h | h) <;> simp [h]
  ·rintro (h | h | h) <;> simp [h]
theorem zab {l : List (List Int)} (hs : SW l) (hl : l.length ≤ 1000000) (hw : ∀ x ∈ l, x.length < 4611686018427387904) {w : List Int} (hww : w.length ≤ 4294967296) : Xo l w = some (K0 w l) := by
 unfold Xo
 apply Ret.eq
 rw [jb]
 refine Ret.mono (ja (fun q : Int × Int => ∃ i j : Nat, q = ((i : Int), (j : Int)) ∧ i ≤ j ∧ j ≤ l.length ∧ (∀ m x, m < i → l[m]? = some x → kW x w < 0) ∧ ∀ m x, j ≤ m → l[m]? = some x → ¬ kW x w < 0) (fun q => (q.2 - q.1).toNat) (R := fun t => ∃ i : Nat, t = (i : Int) ∧ i ≤ l.length ∧ (∀ m x, m < i → l[m]? = some x → kW x w < 0) ∧ ∀ m x, i ≤ m → l[m]? = some x → ¬ kW x w < 0) ?_ ?_ ?_) ?_
 ·exact ⟨0, l.length, rfl, Nat.zero_le _, Nat.le_refl _, fun m x h => by omega, fun m x h hx => by have := (List.getElem?_eq_some_iff.1 hx).1; omega⟩
 ·simp only; omega
 ·rintro _ ⟨i, j, rfl, g1, g2, g3, g4⟩
  show Ret (ji l w (i : Int) (j : Int)) _
  unfold ji
  rw [ui]
  refine ⟨fun hc => ?_, fun hc => ?_⟩
  ·have hij : i < j := by simpa using hc
   have hh : w64 (Int.tdiv (w64 ((i : Int) + (j : Int))) 2) = (((i + j) / 2 : Nat) : Int) := by
    rw [w9 (x := (i : Int) + (j : Int)) (by omega) (by omega)]
    have : Int.tdiv ((i : Int) + (j : Int)) 2 = (((i + j) / 2 : Nat) : Int) := by
     rw [show ((i : Int) + (j : Int)) = ((i + j : Nat) : Int) by omega, Int.tdiv_eq_ediv_of_nonneg (by omega)]
     rfl
    rw [this, w9 (by omega) (by omega)]
   rw [gdT (by omega), hh]
   have hm : (i + j) / 2 < l.length := by omega
   have hx : l[(i + j) / 2]? = some l[(i + j) / 2] := List.getElem?_eq_getElem hm
   rw [zt hx]
   simp only [Option.bind_some]
   rw [z1h _ _ (fun _ => hw _ (List.getElem_mem hm))]
   simp only [Option.bind_some]
   by_cases hc2 : kW l[(i + j) / 2] w < 0
   ·simp only [hc2, decide_true, cond_true]
    rw [w9 (by omega) (by omega), y4]
    refine ⟨⟨(i + j) / 2 + 1, j, by simp, by omega, g2, fun m x h hmx => ?_, g4⟩, by simp only; omega⟩
    rcases Nat.lt_or_ge m ((i + j) / 2) with q | q
    ·have h1 := (List.pairwise_iff_getElem.1 hs) m ((i + j) / 2) (List.getElem?_eq_some_iff.1 hmx).1 hm q
     rw [(List.getElem?_eq_some_iff.1 hmx).2] at h1
     exact ky h1 hc2
    ·rw [show m = (i + j) / 2 by omega, hx] at hmx
     cases hmx
     exact hc2
   ·simp only [hc2, decide_false, cond_false]
    rw [y4]
    refine ⟨⟨i, (i + j) / 2, rfl, by omega, by omega, g3, fun m x h hmx hlt => ?_⟩, by simp only; omega⟩
    rcases Nat.lt_or_ge ((i + j) / 2) m with q | q
    ·have h1 := (List.pairwise_iff_getElem.1 hs) ((i + j) / 2) m hm (List.getElem?_eq_some_iff.1 hmx).1 q
     rw [(List.getElem?_eq_some_iff.1 hmx).2] at h1
     exact hc2 (ky h1 hlt)
    ·rw [show m = (i + j) / 2 by omega, hx] at hmx
     cases hmx
     exact hc2 hlt
  ·have hij : i = j := by
    have : ¬ i < j := by simpa using hc
    omega
   subst hij
   rw [y4]
   exact ⟨i, rfl, g2, g3, g4⟩
 ·rintro _ ⟨i, rfl, h1, h2, h3⟩
  have J2 : (∀ x, l[i]? = some x → x ≠ w) → Ret (uI l w (i : Int)) fun r => r = K0 w l := by
   intro hne
   have h4 : ∀ m x, i ≤ m → l[m]? = some x → kW w x < 0 := by
    intro m x hm hx
    have hil : i < l.length := by have := (List.getElem?_eq_some_iff.1 hx).1; omega
    have hxi : l[i]? = some l[i] := List.getElem?_eq_getElem hil
    have hlt : kW w l[i] < 0 := by
     rcases z52.1 (h3 i _ (Nat.le_refl _) hxi) with q | q
     ·exact q
     ·exact absurd q (hne _ hxi)
    rcases Nat.lt_or_ge i m with q | q
    ·have h5 := (List.pairwise_iff_getElem.1 hs) i m hil (List.getElem?_eq_some_iff.1 hx).1 q
     rw [(List.getElem?_eq_some_iff.1 hx).2] at h5
     exact ky hlt h5
    ·rw [show m = i by omega, hxi] at hx
     cases hx
     exact hlt
   unfold uI
   rw [gdT (by simp; omega), jb]
   have hlen : w64 ((((l ++ ([[]] : List (List Int))).length : Nat) : Int) - 1) = ((l.length : Nat) : Int) := by
    rw [List.length_append, List.length_singleton, w9 (by omega) (by omega)]; omega
   rw [hlen]
   refine Ret.mono (ja (fun q : List (List Int) × Int => ∃ (j : Nat) (x : List Int), q = (l.take j ++ x :: l.drop j, (j : Int)) ∧ i ≤ j ∧ j ≤ l.length) (fun q => q.2.toNat) (R := fun t => ∃ x : List Int, t = l.take i ++ x :: l.drop i) ⟨l.length, [], by simp, h1, Nat.le_refl _⟩ (by simp only [Int.toNat_natCast]; omega) ?_) ?_
   ·rintro _ ⟨j, x, rfl, g1, g2⟩
    show Ret (jj (i : Int) (l.take j ++ x :: l.drop j) (j : Int)) _
    unfold jj
    rw [ui]
    refine ⟨fun hc => ?_, fun hc => ?_⟩
    ·have hij : i < j := by simpa using hc
     have hA : (l.take j).length = j := by rw [List.length_take]; omega
     have hy : (l.take j ++ x :: l.drop j)[j - 1]? = some l[j - 1] := by
      rw [List.getElem?_append_left (by omega), List.getElem?_take, if_pos (by omega)]; exact List.getElem?_eq_getElem (by omega)
     have hz : (l.take j ++ x :: l.drop j)[j]? = some x := by
      rw [List.getElem?_append_right (by omega), hA]; simp
     rw [w9 (by omega) (by omega), show (j : Int) - 1 = ((j - 1 : Nat) : Int) by omega, zt hy, zt hz]
     simp only [Option.bind_some, y4, Int.toNat_natCast]
     refine ⟨⟨j - 1, l[j - 1], ?_, by omega, by omega⟩, by simp only [Int.toNat_natCast]; omega⟩
     rw [List.set_append_right _ _ (by omega), hA, Nat.sub_self, List.set_cons_zero]
     have e1 : l.take j = l.take (j - 1) ++ [l[j - 1]] := by
      have := List.take_add_one (l := l) (i := j - 1)
      rw [show j - 1 + 1 = j by omega, List.getElem?_eq_getElem (by omega)] at this
      exact this
     have e2 : l.drop (j - 1) = l[j - 1] :: l.drop j := by
      rw [List.drop_eq_getElem_cons (by omega), show j - 1 + 1 = j by omega]
     rw [e2, e1, List.append_assoc]
     rfl
    ·have hij : j = i := by
      have : ¬ i < j := by simpa using hc
      omega
     subst hij
     rw [y4]
     exact ⟨x, rfl⟩
   ·rintro _ ⟨x, rfl⟩
    unfold Zo
    have hA : (l.take i).length = i := by rw [List.length_take]; omega
    have hz : (l.take i ++ x :: l.drop i)[i]? = some x := by
     rw [List.getElem?_append_right (by omega), hA]; simp
    rw [gdT (by simpa using hww), zt hz]
    simp only [Option.bind_some, y4, Int.toNat_natCast]
    rw [List.set_append_right _ _ (by omega), hA, Nat.sub_self, List.set_cons_zero]
    exact z48 hs h1 h2 h4
  unfold Zp
  rw [ui]
  refine ⟨fun hc => ?_, fun hc => ?_⟩
  ·have hi : i < l.length := by simpa using hc
   have hx : l[i]? = some l[i] := List.getElem?_eq_getElem hi
   rw [zt hx]
   simp only [Option.bind_some]
   rw [z1h _ _ (fun _ => hw _ (List.getElem_mem hi))]
   simp only [Option.bind_some]
   by_cases he : l[i] = w
   ·have hb : (kW l[i] w == 0) = true := by rw [he, Jc]; rfl
    rw [hb, cond_true, y4]
    refine SW.unique hs hs.put fun x => ?_
    rw [WS]
    refine ⟨fun q => .inr q, fun q => ?_⟩
    rcases q with rfl | q
    ·exact he ▸ List.getElem_mem hi
    ·exact q
   ·have hb : (kW l[i] w == 0) = false := by simp; exact fun q => he (z26 q)
    rw [hb, cond_false]
    exact J2 fun x hx2 => by rw [hx] at hx2; cases hx2; exact he
  ·have hi : ¬ i < l.length := by simpa using hc
   exact J2 fun x hx2 => by have := (List.getElem?_eq_some_iff.1 hx2).1; omega
theorem z2v {l : List (List Int)} (hl : l.length ≤ 1000000) (hw : ∀ x ∈ l, x.length ≤ 4294967296) : ku l = some (srt l) := by
 unfold ku
 have h := z2B (step := fun s => wm l s.1 s.2) (fun i => (srt (l.take i), (i : Int))) l.length (t := srt l) (by omega) (by
  intro i hi
  show wm l _ (i : Int) = _
  unfold wm
  have hq : decide ((i : Int) < (l.length : Int)) = true := by simpa using hi
  have hx : l[i]? = some l[i] := List.getElem?_eq_getElem hi
  simp only [hq, cond_true, zt hx, Option.bind_some]
  have hlen : (srt (l.take i)).length ≤ 1000000 := by have := z1z (l.take i); rw [List.length_take] at this; omega
  rw [zab (z3L _) hlen (fun x hx => by have := hw x (List.mem_of_mem_take (z1N.1 hx)); omega) (hw _ (List.getElem_mem hi))]
  simp only [Option.bind_some]
  rw [w9 (by omega) (by omega), ← z5T, List.take_add_one, hx]
  rfl) (by
  show wm l _ (l.length : Int) = _
  unfold wm
  simp)
 have h0 : (srt (l.take 0), ((0 : Nat) : Int)) = (([] : List (List Int)), (0 : Int)) := by simp [srt]
 rw [h0] at h
 rw [bdT h]
 rfl
theorem z3G {l : List (List Int)} {m : Nat} {L : Nat} (hl : l.length ≤ L) (h : ∀ w ∈ l, w.length ≤ m) : JK l ≤ L * m := Nat.le_trans (z3H h) (Nat.mul_le_mul_right _ hl)
end Go.Own

namespace Go.Own
def Wq (n : Int) (L k : Nat) (l : List (List Int)) : Prop := SW l ∧ l.length ≤ L ∧ ∀ w ∈ l, w.length ≤ k ∧ ∀ c ∈ w, 0 ≤ c ∧ c < n
theorem Wq.ch {n : Int} {L k : Nat} {l : List (List Int)} (h : Wq n L k l) (hn : 1 ≤ n ∧ n ≤ 16) (hL : L ≤ 4096) (hk : k ≤ 256) (hLk : L * k ≤ 65536) : chE n l = 0 := by
 obtain ⟨h1, h2, h3⟩ := h
 refine z6J.2 ⟨z2D.2 ⟨hn, by omega, fun w hw => ⟨by have := (h3 w hw).1; omega, (h3 w hw).2⟩⟩, h1, ?_⟩
 exact Nat.le_trans (z3G h2 fun w hw => (h3 w hw).1) hLk
theorem Wq.take {n : Int} {L k : Nat} {l : List (List Int)} (h : Wq n L k l) (m : Nat) : Wq n m k (l.take m) :=
 ⟨h.1.sub (List.take_sublist _ _), by rw [List.length_take]; omega, fun w hw => h.2.2 w (List.mem_of_mem_take hw)⟩
theorem z6Z {x : ye} (h : 0 ≤ x.Inputs ∧ x.Inputs ≤ 255) : ∃ n : Int, xE x = some n ∧ 1 ≤ n ∧ n ≤ 3 := by
 unfold xE
 rw [gdT (by omega)]
 have e : Int.tmod x.Inputs 3 = x.Inputs % 3 := Int.tmod_eq_emod_of_nonneg h.1
 refine ⟨_, rfl, ?_, ?_⟩
 ·rw [e, w9 (x := x.Inputs % 3) (by omega) (by omega), w9 (by omega) (by omega)]; omega
 ·rw [e, w9 (x := x.Inputs % 3) (by omega) (by omega), w9 (by omega) (by omega)]; omega
theorem z6d {x : ye} {n : Int} (hn : xE x = some n) (h1 : 1 ≤ n ∧ n ≤ 3) (hw : ∀ w ∈ x.Words, ∀ c ∈ w, 0 ≤ c ∧ c ≤ 255) {i : Nat} (hi : i < x.Words.length) :
  Ret (loop (fun s => vq x (i : Int) s.1 s.2) (([] : List Int), 0)) fun w => w.length ≤ 12 ∧ ∀ c ∈ w, 0 ≤ c ∧ c < n := by
 refine ja (fun q => ∃ k : Nat, q.2 = (k : Int) ∧ q.1.length = k ∧ k ≤ 12 ∧ ∀ c ∈ q.1, 0 ≤ c ∧ c < n) (fun q => 12 - q.2.toNat) ⟨0, rfl, rfl, by omega, by simp⟩ (by show 12 - _ < _; omega) ?_
 rintro ⟨w, _⟩ ⟨k, rfl, g1, g2, g3⟩
 simp only at g1 g3
 show Ret (vq x (i : Int) w (k : Int)) _
 unfold vq
 have hx : x.Words[i]? = some x.Words[i] := List.getElem?_eq_getElem hi
 rw [zt hx, Option.bind_some, ui]
 have fin : w.length ≤ 12 ∧ ∀ c ∈ w, 0 ≤ c ∧ c < n := ⟨by omega, g3⟩
 refine ⟨fun hc => ?_, fun hc => y4.2 fin⟩
 rw [ui]
 refine ⟨fun hc2 => ?_, fun hc2 => y4.2 fin⟩
 have hk : k < x.Words[i].length := by simpa using hc
 have hk2 : k < 12 := by simp only [decide_eq_true_eq] at hc2; omega
 have hy : (x.Words[i])[k]? = some (x.Words[i])[k] := List.getElem?_eq_getElem hk
 obtain ⟨b1, b2⟩ := hw _ (List.getElem_mem hi) _ (List.getElem_mem hk)
 rw [Option.bind_some, zt hy, Option.bind_some, hn, Option.bind_some, gdT (by omega), gdT (by simp; omega), w9 (x := (k : Int) + 1) (by omega) (by omega), y4]
 refine ⟨⟨k + 1, rfl, by simp [g1], by omega, fun c hc => ?_⟩, by simp only; omega⟩
 rcases List.mem_append.1 hc with q | q
 ·exact g3 c q
 ·simp at q
  subst q
  rw [w9 (by omega) (by omega), Int.tmod_eq_emod_of_nonneg b1]
  exact ⟨Int.emod_nonneg _ (by omega), Int.emod_lt_of_pos _ (by omega)⟩
theorem z8F {x : ye} {n : Int} (hn : xE x = some n) (h1 : 1 ≤ n ∧ n ≤ 3) (hw : ∀ w ∈ x.Words, ∀ c ∈ w, 0 ≤ c ∧ c ≤ 255) : Ret (ZV x) (Wq n 40 12) := by
 have hraw : Ret (kQ x) fun r => r.length ≤ 40 ∧ ∀ w ∈ r, w.length ≤ 12 ∧ ∀ c ∈ w, 0 ≤ c ∧ c < n := by
  unfold kQ
  rw [jb]
  refine Ret.mono (ja (fun q => ∃ k : Nat, q.2 = (k : Int) ∧ q.1.length = k ∧ k ≤ 40 ∧ ∀ w ∈ q.1, w.length ≤ 12 ∧ ∀ c ∈ w, 0 ≤ c ∧ c < n) (fun q => 40 - q.2.toNat) (R := fun r : List (List Int) => r.length ≤ 40 ∧ ∀ w ∈ r, w.length ≤ 12 ∧ ∀ c ∈ w, 0 ≤ c ∧ c < n) ⟨0, rfl, rfl, by omega, by simp⟩ (by show 40 - _ < _; omega) ?_) fun r hr => y4.2 hr
  rintro ⟨out, _⟩ ⟨k, rfl, g1, g2, g3⟩
  simp only at g1 g3
  show Ret (un x out (k : Int)) _
  unfold un
  have fin : out.length ≤ 40 ∧ ∀ w ∈ out, w.length ≤ 12 ∧ ∀ c ∈ w, 0 ≤ c ∧ c < n := ⟨by omega, g3⟩
  rw [ui]
  refine ⟨fun hc => ?_, fun hc => y4.2 fin⟩
  rw [ui]
  refine ⟨fun hc2 => ?_, fun hc2 => y4.2 fin⟩
  have hk : k < x.Words.length := by simpa using hc
  have hk2 : k < 40 := by simp only [decide_eq_true_eq] at hc2; omega
  rw [jb]
  refine (z6d hn h1 hw hk).mono fun w hww => ?_
  unfold jd je
  rw [gdT (by simp; omega), w9 (by omega) (by omega), y4]
  refine ⟨⟨k + 1, rfl, by simp [g1], by omega, fun v hv => ?_⟩, by simp only; omega⟩
  rcases List.mem_append.1 hv with q | q
  ·exact g3 v q
  ·simp at q
   subst q
   exact hww
 unfold ZV
 rw [jb]
 refine hraw.mono fun r hr => ?_
 rw [z2v (by omega) (fun w hw => by have := (hr.2 w hw).1; omega), Option.bind_some, y4]
 exact ⟨z3L _, Nat.le_trans (z1z _) hr.1, fun w hw => hr.2 w (z1N.1 hw)⟩
end Go.Own

namespace Go.Own
theorem xl {σ : Type} (f : Nat → σ → σ) (s : σ) (n : Nat) : (List.range (n + 1)).foldl (fun s i => f i s) s = f n ((List.range n).foldl (fun s i => f i s) s) := by
 rw [List.range_succ, List.foldl_append]; rfl
theorem vp {σ : Type} {f : Nat → σ → σ} {I : Nat → σ → Prop} {s : σ} (h0 : I 0 s) : ∀ (n : Nat), (∀ i s, i < n → I i s → I (i + 1) (f i s)) → I n ((List.range n).foldl (fun s i => f i s) s)
 | 0, _ => h0
 | n + 1, h => by
  rw [xl]
  exact h n _ (Nat.lt_succ_self n) (vp h0 n fun i s hi => h i s (by omega))
theorem u0 {σ α : Type} (g : α → σ → σ) (d : α) (l : List α) (s : σ) : (List.range l.length).foldl (fun s i => g ((l[i]?).getD d) s) s = l.foldl (fun s x => g x s) s := by
 have e : l = (List.range l.length).map fun i => (l[i]?).getD d := by
  apply List.ext_getElem (by simp)
  intro i h1 h2
  simp [List.getElem?_eq_getElem h1]
 have q : ((List.range l.length).map fun i => (l[i]?).getD d).foldl (fun s x => g x s) s = (List.range l.length).foldl (fun s i => g ((l[i]?).getD d) s) s := by rw [List.foldl_map]
 rw [← q, ← e]
theorem jk {σ S τ : Type} {step : S → Option (LR S τ)} (st : σ → Nat → S) (f : Nat → σ → σ) (I : Nat → σ → Prop) (n : Nat) (hn : n < 9223372036854775808) {s0 : σ} {t : τ} (h0 : I 0 s0)
  (h : ∀ i s, i < n → I i s → step (st s i) = some (.next (st (f i s) (i + 1))) ∧ I (i + 1) (f i s))
  (hd : I n ((List.range n).foldl (fun s i => f i s) s0) → step (st ((List.range n).foldl (fun s i => f i s) s0) n) = some (.done t)) : loop step (st s0 0) = some t := by
 have inv : ∀ m, m ≤ n → I m ((List.range m).foldl (fun s i => f i s) s0) := fun m hm => vp h0 m fun i s hi hI => (h i s (by omega) hI).2
 refine z2B (fun m => st ((List.range m).foldl (fun s i => f i s) s0) m) n hn (fun i hi => ?_) (hd (inv n (Nat.le_refl _)))
 show step (st ((List.range i).foldl (fun s i => f i s) s0) i) = _
 rw [(h i _ hi (inv i (by omega))).1, xl]
theorem vE {i : Nat} (h : i < 9223372036854775807) : w64 ((i : Int) + 1) = ((i + 1 : Nat) : Int) := by rw [w9 (by omega) (by omega)]; rfl
end Go.Own

namespace Go.Own
structure COk (m : z6) (c : z8) : Prop where
 st : c.States.length = m.Rows.length
 ed : c.Edges.length = m.Rows.length
 row : ∀ (s : Nat) (e : List Bool), c.Edges[s]? = some e → e.length = kk m
def setS (c : z8) (s : Nat) : z8 := ⟨c.States.set s true, c.Edges⟩
def setE (c : z8) (s i : Nat) : z8 := ⟨c.States, c.Edges.set s (((c.Edges[s]?).getD []).set i true)⟩
section
variable {m : z6} {c : z8}
theorem COk.setS (h : COk m c) (s : Nat) : COk m (setS c s) := ⟨by simp [Own.setS, h.st], h.ed, h.row⟩
theorem COk.rowAt (h : COk m c) {s : Nat} (hs : s < m.Rows.length) : ∃ e, c.Edges[s]? = some e ∧ e.length = kk m := by
 have hs' : s < c.Edges.length := by rw [h.ed]; exact hs
 exact ⟨_, List.getElem?_eq_getElem hs', h.row s _ (List.getElem?_eq_getElem hs')⟩
theorem COk.setE (h : COk m c) {s i : Nat} (hs : s < m.Rows.length) : COk m (setE c s i) := by
 refine ⟨h.st, by simp [Own.setE, h.ed], fun t e he => ?_⟩
 obtain ⟨r, h1, h2⟩ := h.rowAt hs
 simp only [Own.setE, h1, Option.getD_some] at he
 rw [List.getElem?_set] at he
 split at he
 ·split at he
  ·cases he; simpa using h2
  ·cases he
 ·exact h.row t e he
theorem COk.stAt (h : COk m c) {s : Nat} (hs : s < m.Rows.length) : ∃ b, c.States[s]? = some b := ⟨_, List.getElem?_eq_getElem (by rw [h.st]; exact hs)⟩
end
def z0V (m : z6) (w : List Nat) (s : Int) (k : Nat) (c : z8) : z8 :=
 match w[k]? with
 | some i => if (E m s.toNat i).To ≠ -1 then setE (setS c s.toNat) s.toNat i else setS c s.toNat
 | none => setS c s.toNat
def Wg (m : z6) (w : List Nat) (k : Nat) (c : z8) : z8 :=
 if aft m 0 (w.take k) = -1 then c else z0V m w (aft m 0 (w.take k)) k c
def z3y (m : z6) (w : List Nat) (c : z8) : z8 := (List.range (w.length + 1)).foldl (fun c k => Wg m w k c) c
def z8W (m : z6) (l : List (List Nat)) (c : z8) : z8 := l.foldl (fun c w => z3y m w c) c
def W2 (m : z6) : z8 := ⟨List.replicate m.Rows.length false, List.replicate m.Rows.length (List.replicate (kk m) false)⟩
section
variable {m : z6} (h : VM m)
include h
omit h in
theorem VE : COk m (W2 m) := ⟨by simp [W2], by simp [W2], fun s e he => by
 simp only [W2, List.getElem?_replicate] at he
 split at he
 ·cases he; simp
 ·cases he⟩
theorem Uo {w : List Nat} (hw : Wd (kk m) w) (k : Nat) : z73 m (aft m 0 (w.take k)) := z37 h _ _ ⟨by omega, by have := h.len1; omega⟩ fun i hi => hw i (List.mem_of_mem_take hi)
omit h in
theorem z6h {w : List Nat} (hw : Wd (kk m) w) {s : Int} (h0 : 0 ≤ s) (h1 : s < m.Rows.length) {k : Nat} {c : z8} (hc : COk m c) : COk m (z0V m w s k c) := by
 unfold z0V
 split
 ·split
  ·exact (hc.setS _).setE (by omega)
  ·exact hc.setS _
 ·exact hc.setS _
theorem KQ {w : List Nat} (hw : Wd (kk m) w) (k : Nat) {c : z8} (hc : COk m c) : COk m (Wg m w k c) := by
 unfold Wg
 split
 ·exact hc
 ·have := Uo h hw k
  exact z6h hw (by have := this.1; omega) this.2 hc
theorem z20 {w : List Nat} (hw : Wd (kk m) w) {c : z8} (hc : COk m c) : COk m (z3y m w c) := by
 unfold z3y
 exact vp (I := fun _ c => COk m c) hc _ fun i s _ hs => KQ h hw i hs
theorem z4Z : ∀ {l : List (List Nat)} {c : z8}, (∀ w ∈ l, Wd (kk m) w) → COk m c → COk m (z8W m l c)
 | [], _, _, hc => hc
 | w :: l, c, hw, hc => z4Z (l := l) (fun v hv => hw v (by simp [hv])) (z20 h (hw w (by simp)) hc)
omit h in
theorem z36 {w : List Nat} {k : Nat} {i : Nat} (hi : w[k]? = some i) : aft m 0 (w.take (k + 1)) = (nxE m (aft m 0 (w.take k)) i).To := by
 have e : w.take (k + 1) = w.take k ++ [i] := by
  rw [List.take_add_one, hi]; rfl
 rw [e, (KG m (w.take k) 0 i).2]
theorem Kd {w : List Nat} (hw : Wd (kk m) w) {s : Int} (h0 : 0 ≤ s) (h1 : s < m.Rows.length) {k : Nat} {c : z8} (hc : COk m c) : xF (w.map Int.ofNat) m s (k : Int) c = some (z0V m w s k c) := by
 obtain ⟨n, rfl⟩ : ∃ n : Nat, s = n := ⟨s.toNat, by omega⟩
 have hn : n < m.Rows.length := by omega
 obtain ⟨b, hb⟩ := hc.stAt hn
 unfold xF z0V
 rw [zt hb, Option.bind_some, List.length_map]
 cases hi : w[k]? with
 | none =>
  have hk : ¬ (k : Int) < (w.length : Int) := by have := List.getElem?_eq_none_iff.1 hi; omega
  rw [decide_eq_false hk]
  rfl
 | some i =>
  have hk : (k : Int) < (w.length : Int) := by have := (List.getElem?_eq_some_iff.1 hi).1; omega
  have hik : i < kk m := hw i (List.mem_of_getElem? hi)
  have hm : (w.map Int.ofNat)[k]? = some (i : Int) := by rw [List.getElem?_map, hi]; rfl
  obtain ⟨r, hr, hrl, hre⟩ := h.rowAt hn
  obtain ⟨e, he, hel⟩ := hc.rowAt hn
  rw [decide_eq_true hk, cond_true, zt hr, Option.bind_some, zt hm, Option.bind_some, zt (hre i hik), Option.bind_some]
  simp only [Int.toNat_natCast]
  by_cases ht : (E m n i).To = -1
  ·rw [if_neg (by simpa using ht), ht]
   rfl
  ·have hb2 : ((E m n i).To != -1) = true := by simpa using ht
   have hie : e[i]? = some e[i] := List.getElem?_eq_getElem (by omega)
   rw [if_pos ht, hb2, cond_true, zt he, Option.bind_some, Option.bind_some, zt hie, Option.bind_some]
   simp [setE, setS, he]
theorem z5A {w : List Nat} (hw : Wd (kk m) w) (hl : w.length ≤ 100000) {c : z8} (hc : COk m c) : wB m (w.map Int.ofNat) (fun s x => xF (w.map Int.ofNat) m x.1 x.2 s) c = some (z3y m w c) := by
 unfold wB
 have a0 : aft m 0 (w.take 0) = 0 := rfl
 have hm0 : Wg m w 0 c = z0V m w 0 0 c := by unfold Wg; rw [a0]; rfl
 have c0 := Kd h hw (s := 0) (k := 0) (by omega) (by have := h.len1; omega) hc
 refine Eq.trans (bdT c0) ?_
 have run : Ret (loop (fun s => wz (fun s x => xF (w.map Int.ofNat) m x.1 x.2 s) m (w.map Int.ofNat) s.1 s.2.1 s.2.2) (z0V m w 0 0 c, 0, 0)) fun r => r = z3y m w c := by
  refine ja (fun q => ∃ k : Nat, q.2.2 = (k : Int) ∧ k ≤ w.length ∧ q.2.1 = aft m 0 (w.take k) ∧ q.2.1 ≠ -1 ∧ q.1 = (List.range (k + 1)).foldl (fun c k => Wg m w k c) c) (fun q => 200000 - q.2.2.toNat) ⟨0, rfl, Nat.zero_le _, rfl, by simp, by show _ = Wg m w 0 c; rw [hm0]⟩ (by show 200000 - _ < _; omega) ?_
  rintro ⟨q, s, _⟩ ⟨k, rfl, hk, hs, hne, hq⟩
  simp only at hs hne hq
  unfold wz
  simp only [List.length_map]
  have hin := Uo h hw k
  rw [← hs] at hin
  have hqok : COk m q := by rw [hq]; exact vp (I := fun _ c => COk m c) hc _ fun i s _ hs => KQ h hw i hs
  obtain ⟨n, rfl⟩ : ∃ n : Nat, s = n := ⟨s.toNat, by have := hin.1; omega⟩
  have hn : n < m.Rows.length := by have := hin.2; omega
  rw [ui]
  refine ⟨fun hc1 => ?_, fun hc1 => ?_⟩
  ·have hlt : k < w.length := by simpa using hc1
   have hi : w[k]? = some w[k] := List.getElem?_eq_getElem hlt
   have hik : w[k] < kk m := hw _ (List.getElem_mem hlt)
   have hm : (w.map Int.ofNat)[k]? = some (w[k] : Int) := by rw [List.getElem?_map, hi]; rfl
   obtain ⟨r, hr, hrl, hre⟩ := h.rowAt hn
   have hto : aft m 0 (w.take (k + 1)) = (E m n w[k]).To := by rw [z36 hi, ← hs, z1L]
   rw [zt hm, Option.bind_some, zt hr, Option.bind_some, zt (hre _ hik), Option.bind_some, ui]
   have hw1 : w64 ((k : Int) + 1) = ((k + 1 : Nat) : Int) := vE (by omega)
   refine ⟨fun hc2 => ?_, fun hc2 => ?_⟩
   ·have hto1 : (E m n w[k]).To = -1 := by simpa using hc2
    rw [y4]
    show q = _
    rw [hq]
    unfold z3y
    have : ∀ d, (List.range (k + 1 + d)).foldl (fun c k => Wg m w k c) c = (List.range (k + 1)).foldl (fun c k => Wg m w k c) c := by
     intro d
     induction d with
     | zero => rfl
     | succ d ih =>
      rw [show k + 1 + (d + 1) = (k + 1 + d) + 1 by omega, xl (fun k c => Wg m w k c), ih]
      unfold Wg
      rw [if_pos]
      have h1 : w.take (k + 1 + d) = w.take (k + 1) ++ (w.drop (k + 1)).take d := by rw [List.take_add]
      rw [h1, z2a, hto, hto1]
      have h2 := z29 m ((w.drop (k + 1)).take d) (-1) (by omega)
      have h3 := (z37 h ((w.drop (k + 1)).take d) (-1) ⟨by omega, by have := h.len1; omega⟩ fun i hi => hw i (List.mem_of_mem_drop (List.mem_of_mem_take hi))).1
      omega
    have e := this (w.length - k)
    rw [show k + 1 + (w.length - k) = w.length + 1 by omega] at e
    exact e.symm
   ·have hto1 : (E m n w[k]).To ≠ -1 := by simpa using hc2
    rcases h.edgeAt hn hik with ⟨g, _⟩ | ⟨g1, g2, _⟩
    ·exact absurd g hto1
    ·rw [hw1, Kd h hw g1 g2 hqok, Option.bind_some, y4]
     refine ⟨⟨k + 1, rfl, hlt, hto.symm, hto1, ?_⟩, by simp only; omega⟩
     rw [xl (fun k c => Wg m w k c), ← hq]
     unfold Wg
     rw [hto, if_neg hto1]
  ·have hge : k = w.length := by simp at hc1; omega
   subst hge
   rw [y4]
   exact hq
 exact bdT run.eq
theorem z8s {l : List (List Nat)} (hw : ∀ w ∈ l, Wd (kk m) w) {i : Nat} {w : List Nat} (hi : l[i]? = some w) (hl : w.length ≤ 100000) {c : z8} (hc : COk m c) :
  loop (fun s => wd m (l.map (List.map Int.ofNat)) (i : Int) s.1 s.2.1 s.2.2) (c.States, c.Edges, 0) = some ((z3y m w c).States, (z3y m w c).Edges) := by
 have hW : Wd (kk m) w := hw w (List.mem_of_getElem? hi)
 have hm : (l.map (List.map Int.ofNat))[i]? = some (w.map Int.ofNat) := by rw [List.getElem?_map, hi]; rfl
 refine jk (σ := z8) (fun c k => (c.States, c.Edges, (k : Int))) (fun k c => Wg m w k c) (fun _ c => COk m c) (w.length + 1) (by omega) hc (fun k c hk hc => ?_) (fun _ => ?_)
 ·refine ⟨?_, KQ h hW k hc⟩
  simp only
  unfold wd
  have hk1 : (k : Int) ≤ (w.length : Int) := by omega
  have hwk : w64 ((k : Int) + 1) = ((k + 1 : Nat) : Int) := vE (by omega)
  have hin := Uo h hW k
  have hcut : ((w.map Int.ofNat).drop 0).take ((k : Int).toNat - 0) = (w.take k).map Int.ofNat := by simp
  rw [zt hm, Option.bind_some, List.length_map, decide_eq_true hk1, cond_true, Option.bind_some, gdT (by rw [List.length_map]; omega), hcut,
   z38 h (s := 0) ⟨by omega, by have := h.len1; omega⟩ _ (fun i hi => hW i (List.mem_of_mem_take hi)), Option.bind_some]
  unfold xD
  unfold Wg
  by_cases hs : aft m 0 (w.take k) = -1
  ·have : (aft m 0 (w.take k) == -1) = true := by simpa using hs
   rw [this, cond_true, if_pos hs, hwk]
  ·have : (aft m 0 (w.take k) == -1) = false := by simpa using hs
   rw [this, cond_false, if_neg hs]
   obtain ⟨n, hn⟩ : ∃ n : Nat, aft m 0 (w.take k) = n := ⟨(aft m 0 (w.take k)).toNat, by have := hin.1; omega⟩
   rw [hn] at hin ⊢
   have hn1 : n < m.Rows.length := by have := hin.2; omega
   obtain ⟨b, hb⟩ := hc.stAt hn1
   rw [zt hb, Option.bind_some, Option.bind_some]
   unfold z0V
   rw [List.length_map]
   cases hik : w[k]? with
   | none =>
    have hk2 : ¬ (k : Int) < (w.length : Int) := by have := List.getElem?_eq_none_iff.1 hik; omega
    rw [decide_eq_false hk2, cond_false, hwk]
    simp only [Int.toNat_natCast]
    rfl
   | some j =>
    have hk2 : (k : Int) < (w.length : Int) := by have := (List.getElem?_eq_some_iff.1 hik).1; omega
    have hj : j < kk m := hW j (List.mem_of_getElem? hik)
    have hm2 : (w.map Int.ofNat)[k]? = some (j : Int) := by rw [List.getElem?_map, hik]; rfl
    obtain ⟨r, hr, hrl, hre⟩ := h.rowAt hn1
    obtain ⟨e, he, hel⟩ := hc.rowAt hn1
    rw [decide_eq_true hk2, cond_true, zt hr, Option.bind_some, Option.bind_some, zt hm2, Option.bind_some, zt (hre j hj), Option.bind_some]
    simp only [Int.toNat_natCast]
    by_cases ht : (E m n j).To = -1
    ·rw [if_neg (by simpa using ht), ht, hwk]
     rfl
    ·have hb2 : ((E m n j).To != -1) = true := by simpa using ht
     have hie : e[j]? = some e[j] := List.getElem?_eq_getElem (by omega)
     rw [if_pos ht, hb2, cond_true, zt he, Option.bind_some, Option.bind_some, zt hm2, Option.bind_some, zt hie, Option.bind_some, hwk]
     simp [setE, setS, he]
 ·simp only
  unfold wd
  rw [zt hm, Option.bind_some, List.length_map, decide_eq_false (by omega), cond_false]
  rfl
theorem z8t {l : List (List Nat)} (hw : ∀ w ∈ l, Wd (kk m) w) (hl : l.length ≤ 100000) (hl2 : ∀ w ∈ l, w.length ≤ 100000) : uR m (l.map (List.map Int.ofNat)) = some (z8W m l (W2 m)) := by
 have hlen := h.len64
 have hk := h.kk_eq
 have hk16 := h.kk_le
 unfold uR
 rw [gdT (by omega)]
 have e1 : loop (fun s => xC m s.1 s.2) (([] : List (List Bool)), 0) = some (List.replicate m.Rows.length (List.replicate (kk m) false)) := by
  have q := jk (step := fun s => xC m s.1 s.2) (σ := List (List Bool)) (τ := List (List Bool)) (fun c k => (c, (k : Int))) (fun k c => c ++ [List.replicate (kk m) false]) (fun k c => c = List.replicate k (List.replicate (kk m) false)) m.Rows.length (by omega) (s0 := []) (t := List.replicate m.Rows.length (List.replicate (kk m) false)) rfl ?_ ?_
  ·exact q
  ·rintro k _ hk1 rfl
   refine ⟨?_, by rw [List.replicate_succ']⟩
   simp only
   unfold xC
   rw [decide_eq_true (by omega), cond_true, gdT (by omega), gdT (by simp; omega), vE (by omega), ← hk]
   simp
  ·intro hq
   simp only [hq]
   unfold xC
   rw [decide_eq_false (by omega), cond_false]
 rw [e1, Option.bind_some]
 unfold ut
 have e2 : loop (fun s => we m (l.map (List.map Int.ofNat)) s.1 s.2.1 s.2.2) ((W2 m).States, (W2 m).Edges, 0) = some ((z8W m l (W2 m)).States, (z8W m l (W2 m)).Edges) := by
  have hfl := u0 (fun w c => z3y m w c) ([] : List Nat) l (W2 m)
  refine jk (σ := z8) (fun c k => (c.States, c.Edges, (k : Int))) (fun i c => z3y m ((l[i]?).getD []) c) (fun _ c => COk m c) l.length (by omega) VE (fun i c hi hc => ?_) (fun _ => ?_)
  ·have hx : l[i]? = some l[i] := List.getElem?_eq_getElem hi
   simp only [hx, Option.getD_some]
   refine ⟨?_, z20 h (hw _ (List.getElem_mem hi)) hc⟩
   unfold we
   rw [List.length_map, decide_eq_true (by omega), cond_true, z8s h hw hx (hl2 _ (List.getElem_mem hi)) hc, Option.bind_some]
   unfold ur
   rw [vE (by omega)]
  ·rw [hfl]
   simp only
   unfold we
   rw [List.length_map, decide_eq_false (by omega), cond_false]
   rfl
 have e3 : ((m.Rows.length : Nat) : Int).toNat = m.Rows.length := by simp
 rw [e3]
 refine Eq.trans (bdT e2) ?_
 rfl
theorem z2V : uJ m = some (W2 m) := by
 have hlen := h.len64
 have hk := h.kk_eq
 have hk16 := h.kk_le
 unfold uJ
 have e3 : ((m.Rows.length : Nat) : Int).toNat = m.Rows.length := by simp
 rw [gdT (by omega), gdT (by omega), e3]
 have e1 : loop (fun s => xX m s.1 s.2) (List.replicate m.Rows.length ([] : List Bool), 0) = some (List.replicate m.Rows.length (List.replicate (kk m) false)) := by
  refine jk (step := fun s => xX m s.1 s.2) (σ := List (List Bool)) (fun c k => (c, (k : Int))) (fun k c => c.set k (List.replicate (kk m) false)) (fun k c => k ≤ m.Rows.length ∧ c = List.replicate k (List.replicate (kk m) false) ++ List.replicate (m.Rows.length - k) []) m.Rows.length (by omega) ⟨Nat.zero_le _, by simp⟩ ?_ ?_
  ·rintro k _ hk1 ⟨_, rfl⟩
   have hd : m.Rows.length - k = (m.Rows.length - (k + 1)) + 1 := by omega
   refine ⟨?_, hk1, ?_⟩
   ·simp only
    unfold xX
    have hx : (List.replicate k (List.replicate (kk m) false) ++ List.replicate (m.Rows.length - k) [])[k]? = some [] := by
     rw [List.getElem?_append_right (by simp), hd]; simp
    rw [decide_eq_true (by omega), cond_true, gdT (by omega), zt hx, Option.bind_some, vE (by omega), ← hk]
    simp
   ·rw [List.set_append_right _ _ (by simp), hd, List.replicate_succ, List.length_replicate, Nat.sub_self, List.set_cons_zero, List.replicate_succ', List.append_assoc]
    rfl
  ·rintro ⟨_, hq⟩
   rw [hq]
   simp only
   unfold xX
   rw [decide_eq_false (by omega), cond_false]
   simp
 rw [e1]
 rfl
theorem z8w {l : List (List Nat)} (hw : ∀ w ∈ l, Wd (kk m) w) (hl : l.length ≤ 100000) (hl2 : ∀ w ∈ l, w.length ≤ 100000) (hr : xm m (l.map (List.map Int.ofNat)) = some 0) : vu m (l.map (List.map Int.ofNat)) = some (z8W m l (W2 m), 0) := by
 unfold vu
 rw [hr, Option.bind_some]
 have b0 : ((0 : Int) != 0) = false := rfl
 rw [b0, cond_false, z2V h, Option.bind_some]
 have e2 : loop (fun s => xP m (l.map (List.map Int.ofNat)) s.1 s.2.1 s.2.2) ((W2 m).States, (W2 m).Edges, 0) = some ((z8W m l (W2 m)).States, (z8W m l (W2 m)).Edges) := by
  have hfl := u0 (fun w c => z3y m w c) ([] : List Nat) l (W2 m)
  refine jk (σ := z8) (fun c k => (c.States, c.Edges, (k : Int))) (fun i c => z3y m ((l[i]?).getD []) c) (fun _ c => COk m c) l.length (by omega) VE (fun i c hi hc => ?_) (fun _ => ?_)
  ·have hx : l[i]? = some l[i] := List.getElem?_eq_getElem hi
   have hm : (l.map (List.map Int.ofNat))[i]? = some (l[i].map Int.ofNat) := by rw [List.getElem?_map, hx]; rfl
   simp only [hx, Option.getD_some]
   refine ⟨?_, z20 h (hw _ (List.getElem_mem hi)) hc⟩
   unfold xP
   rw [List.length_map, decide_eq_true (by omega), cond_true, zt hm, Option.bind_some]
   refine Eq.trans (bdT (z5A h (hw _ (List.getElem_mem hi)) (hl2 _ (List.getElem_mem hi)) (c := c) hc)) ?_
   rw [vE (by omega)]
  ·rw [hfl]
   simp only
   unfold xP
   rw [List.length_map, decide_eq_false (by omega), cond_false]
   rfl
 refine Eq.trans (bdT e2) ?_
 rfl
end
end Go.Own

namespace Go.Own
theorem z2Q {α : Type} (p : α → Bool) : ∀ (l : List α) (k : Nat), (yo (fun i x => if p x = true then none else some ((i : Nat) : Int)) l k = none ∧ l.all p = true) ∨ ∃ i : Nat, yo (fun i x => if p x = true then none else some ((i : Nat) : Int)) l k = some (i : Int) ∧ l.all p = false
 | [], _ => .inl ⟨rfl, rfl⟩
 | x :: l, k => by
  simp only [yo, List.all_cons]
  cases hp : p x with
  | true => simpa using z2Q p l (k + 1)
  | false => exact .inr ⟨k, by simp, by simp⟩
theorem z2P {ρ α : Type} (q : Nat → Bool) (r : ρ) : ∀ (L : List α) (k : Nat), yo (fun i _ => if q i = true then none else some r) L k = if (∀ i, i < L.length → q (k + i) = true) then none else some r
 | [], k => by simp [yo]
 | x :: L, k => by
  simp only [yo]
  cases hq : q k with
  | true =>
   simp only [if_true, z2P q r L (k + 1)]
   congr 1
   apply propext
   constructor
   ·intro h i hi
    cases i with
    | zero => exact hq
    | succ i => have := h i (by simpa using hi); rwa [show k + 1 + i = k + (i + 1) by omega] at this
   ·intro h i hi
    have := h (i + 1) (by simpa using hi)
    rwa [show k + (i + 1) = k + 1 + i by omega] at this
  | false =>
   have hn : ¬ ∀ i, i < (x :: L).length → q (k + i) = true := fun h => by
    have := h 0 (by simp)
    rw [Nat.add_zero, hq] at this
    cases this
   rw [if_neg hn]
   rfl
theorem z6C (l : List Bool) (hl : l.length < 4611686018427387904) : wQ l () = some (l.all id) := by
 unfold wQ yn yV
 rw [bdT (xI l hl (step := fun s => zQ l s) (fun i x => if x = true then none else some ((i : Nat) : Int)) ?_ ?_)]
 ·rcases z2Q (fun x : Bool => x) l 0 with ⟨h1, h2⟩ | ⟨i, h1, h2⟩
  ·rw [h1, show l.all id = true from h2]; rfl
  ·rw [h1, show l.all id = false from h2]; simp [oS]
 ·intro i x hx
  have hi := (List.getElem?_eq_some_iff.1 hx).1
  unfold zQ vb wo
  rw [decide_eq_true (by omega), cond_true, zt hx]
  simp only [Option.bind_some]
  cases x <;> rfl
 ·unfold zQ
  rw [decide_eq_false (by omega), cond_false]
theorem z4R (l : List Bool) (hl : l.length < 4611686018427387904) : xJ l () = some (l.all id) := by
 unfold xJ yb ym
 rw [bdT (xI l hl (step := fun s => zL l s) (fun i x => if x = true then none else some ((i : Nat) : Int)) ?_ ?_)]
 ·rcases z2Q (fun x : Bool => x) l 0 with ⟨h1, h2⟩ | ⟨i, h1, h2⟩
  ·rw [h1, show l.all id = true from h2]; rfl
  ·rw [h1, show l.all id = false from h2]; simp [oS]
 ·intro i x hx
  have hi := (List.getElem?_eq_some_iff.1 hx).1
  unfold zL w8 yz
  rw [decide_eq_true (by omega), cond_true, zt hx]
  simp only [Option.bind_some]
  cases x <;> rfl
 ·unfold zL
  rw [decide_eq_false (by omega), cond_false]
theorem z4Q (l : List (List Bool)) (hl : l.length < 4611686018427387904) (hw : ∀ r ∈ l, r.length < 4611686018427387904) : wn l () = some (l.all fun r => r.all id) := by
 unfold wn yi yH
 rw [bdT (xI l hl (step := fun s => zN l s) (fun i x => if (x.all id) = true then none else some ((i : Nat) : Int)) ?_ ?_)]
 ·rcases z2Q (fun x : List Bool => x.all id) l 0 with ⟨h1, h2⟩ | ⟨i, h1, h2⟩
  ·rw [h1, h2]; rfl
  ·rw [h1, h2]; simp [oS]
 ·intro i x hx
  have hi := (List.getElem?_eq_some_iff.1 hx).1
  unfold zN wI yZ
  rw [decide_eq_true (by omega), cond_true, zt hx]
  simp only [Option.bind_some]
  rw [z4R x (hw x (List.mem_of_getElem? hx))]
  simp only [Option.bind_some]
  cases x.all id <;> rfl
 ·unfold zN
  rw [decide_eq_false (by omega), cond_false]
def z17 (c : z8) (s : Nat) : Prop := c.States[s]? = some true
def z2O (c : z8) (s i : Nat) : Prop := ∃ e, c.Edges[s]? = some e ∧ e[i]? = some true
def Xr (m : z6) (w : List Nat) (k : Nat) (c : z8) : z8 :=
 if aft m 0 (w.take k) = -1 then c else if k = w.length then setS c (aft m 0 (w.take k)).toNat else if k + 1 = w.length then setE c (aft m 0 (w.take k)).toNat ((w[k]?).getD 0) else c
def z4W (m : z6) (w : List Nat) (c : z8) : z8 := (List.range (w.length + 1)).foldl (fun c k => Xr m w k c) c
def z2U (m : z6) (l : List (List Nat)) (c : z8) : z8 := l.foldl (fun c w => z4W m w c) c
section
variable {m : z6} {c : z8}
theorem z4H (h : COk m c) {t s : Nat} (ht : t < m.Rows.length) : z17 (setS c t) s ↔ s = t ∨ z17 c s := by
 unfold z17 setS
 exact z2c (by rw [h.st]; exact ht)
theorem z4I {t s j : Nat} : z17 (setE c t j) s ↔ z17 c s := Iff.rfl
theorem z4J {t s i : Nat} : z2O (setS c t) s i ↔ z2O c s i := Iff.rfl
theorem z4K (h : COk m c) {t s j i : Nat} (ht : t < m.Rows.length) (hj : j < kk m) : z2O (setE c t j) s i ↔ (s = t ∧ i = j) ∨ z2O c s i := by
 obtain ⟨e, he, hel⟩ := h.rowAt ht
 have htl := (List.getElem?_eq_some_iff.1 he).1
 unfold z2O setE
 simp only [he, Option.getD_some]
 by_cases hs : s = t
 ·subst hs
  rw [List.getElem?_set_self htl]
  constructor
  ·rintro ⟨e2, h1, h2⟩
   cases h1
   rcases (z2c (out := e) (by omega)).1 h2 with q | q
   ·exact .inl ⟨rfl, q⟩
   ·exact .inr ⟨e, he, q⟩
  ·rintro (⟨_, rfl⟩ | ⟨e2, h1, h2⟩)
   ·exact ⟨_, rfl, (z2c (by omega)).2 (.inl rfl)⟩
   ·rw [he] at h1; cases h1
    exact ⟨_, rfl, (z2c (by omega)).2 (.inr h2)⟩
 ·rw [List.getElem?_set_ne (fun q => hs q.symm)]
  constructor
  ·rintro ⟨e2, h1, h2⟩; exact .inr ⟨e2, h1, h2⟩
  ·rintro (⟨q, _⟩ | q)
   ·exact absurd q hs
   ·exact q
end
section
variable {m : z6} (h : VM m)
include h
theorem Q3 {w : List Nat} (hw : Wd (kk m) w) (k : Nat) {c : z8} (hc : COk m c) : COk m (Xr m w k c) := by
 have hin := Uo h hw k
 unfold Xr
 split
 ·exact hc
 split
 ·exact hc.setS _
 split
 ·exact hc.setE (by have := hin.1; have := hin.2; omega)
 ·exact hc
theorem z4V {w : List Nat} (hw : Wd (kk m) w) {c : z8} (hc : COk m c) : COk m (z4W m w c) := vp (I := fun _ c => COk m c) hc _ fun i s _ hs => Q3 h hw i hs
theorem zav {w : List Nat} (hw : Wd (kk m) w) {c : z8} (hc : COk m c) {s : Nat} : z17 (z4W m w c) s ↔ aft m 0 w = s ∨ z17 c s := by
 have gen : ∀ n, COk m ((List.range n).foldl (fun c k => Xr m w k c) c) ∧ (z17 ((List.range n).foldl (fun c k => Xr m w k c) c) s ↔ (w.length < n ∧ aft m 0 w = s) ∨ z17 c s) := by
  intro n
  induction n with
  | zero => exact ⟨hc, by simp⟩
  | succ n ih =>
   obtain ⟨i1, i2⟩ := ih
   rw [xl (fun k c => Xr m w k c)]
   refine ⟨Q3 h hw n i1, ?_⟩
   have hin := Uo h hw n
   generalize (List.range n).foldl (fun c k => Xr m w k c) c = d at i1 i2 ⊢
   unfold Xr
   split
   ·rename_i q
    rw [i2]
    by_cases hn : n = w.length
    ·have e : aft m 0 w = -1 := by rw [← q, hn, List.take_length]
     rw [e]
     constructor
     ·rintro (⟨a, b⟩ | b)
      ·omega
      ·exact .inr b
     ·rintro (⟨a, b⟩ | b)
      ·omega
      ·exact .inr b
    ·constructor
     ·rintro (⟨a, b⟩ | b)
      ·exact .inl ⟨by omega, b⟩
      ·exact .inr b
     ·rintro (⟨a, b⟩ | b)
      ·exact .inl ⟨by omega, b⟩
      ·exact .inr b
   ·rename_i q
    split
    ·rename_i hn
     subst hn
     rw [List.take_length] at q hin ⊢
     rw [z4H i1 (by have := hin.1; have := hin.2; omega), i2]
     constructor
     ·rintro (rfl | ⟨a, b⟩ | b)
      ·exact .inl ⟨by omega, by have := hin.1; omega⟩
      ·omega
      ·exact .inr b
     ·rintro (⟨a, b⟩ | b)
      ·exact .inl (by omega)
      ·exact .inr (.inr b)
    ·rename_i hn
     have e2 : ∀ c', z17 c' s ↔ z17 c' s := fun _ => Iff.rfl
     split
     ·rw [z4I, i2]
      constructor
      ·rintro (⟨a, b⟩ | b)
       ·exact .inl ⟨by omega, b⟩
       ·exact .inr b
      ·rintro (⟨a, b⟩ | b)
       ·exact .inl ⟨by omega, b⟩
       ·exact .inr b
     ·rw [i2]
      constructor
      ·rintro (⟨a, b⟩ | b)
       ·exact .inl ⟨by omega, b⟩
       ·exact .inr b
      ·rintro (⟨a, b⟩ | b)
       ·exact .inl ⟨by omega, b⟩
       ·exact .inr b
 unfold z4W
 rw [(gen (w.length + 1)).2]
 constructor
 ·rintro (⟨_, b⟩ | b)
  ·exact .inl b
  ·exact .inr b
 ·rintro (b | b)
  ·exact .inl ⟨by omega, b⟩
  ·exact .inr b
def z0d (m : z6) (w : List Nat) (s i : Nat) : Prop := w[w.length - 1]? = some i ∧ aft m 0 (w.take (w.length - 1)) = s
theorem zaw {w : List Nat} (hw : Wd (kk m) w) {c : z8} (hc : COk m c) {s i : Nat} : z2O (z4W m w c) s i ↔ z0d m w s i ∨ z2O c s i := by
 have gen : ∀ n, COk m ((List.range n).foldl (fun c k => Xr m w k c) c) ∧ (z2O ((List.range n).foldl (fun c k => Xr m w k c) c) s i ↔ (w.length ≤ n ∧ z0d m w s i) ∨ z2O c s i) := by
  intro n
  induction n with
  | zero =>
   refine ⟨hc, ?_⟩
   constructor
   ·exact .inr
   ·rintro (⟨a, b⟩ | b)
    ·have := (List.getElem?_eq_some_iff.1 b.1).1; omega
    ·exact b
  | succ n ih =>
   obtain ⟨i1, i2⟩ := ih
   rw [xl (fun k c => Xr m w k c)]
   refine ⟨Q3 h hw n i1, ?_⟩
   have hin := Uo h hw n
   have same : n + 1 ≠ w.length → ((w.length ≤ n + 1 ∧ z0d m w s i) ↔ (w.length ≤ n ∧ z0d m w s i)) := by
    intro q
    constructor
    ·rintro ⟨a, b⟩; exact ⟨by omega, b⟩
    ·rintro ⟨a, b⟩; exact ⟨by omega, b⟩
   generalize (List.range n).foldl (fun c k => Xr m w k c) c = d at i1 i2 ⊢
   unfold Xr
   by_cases hn1 : n + 1 = w.length
   ·have hn0 : ¬ n = w.length := by omega
    have hlast : w.length - 1 = n := by omega
    have hx : w[n]? = some w[n] := List.getElem?_eq_getElem (by omega)
    split
    ·rename_i q
     rw [i2]
     unfold z0d
     rw [hlast, q]
     constructor
     ·rintro (⟨a, b⟩ | b)
      ·omega
      ·exact .inr b
     ·rintro (⟨a, b, d⟩ | b)
      ·omega
      ·exact .inr b
    ·rename_i q
     rw [hx, Option.getD_some, z4K i1 (by have := hin.1; have := hin.2; omega) (hw _ (List.getElem_mem (by omega))), i2]
     unfold z0d
     rw [hlast, hx]
     constructor
     ·rintro (⟨rfl, rfl⟩ | ⟨a, b⟩ | b)
      ·exact .inl ⟨by omega, rfl, by have := hin.1; omega⟩
      ·omega
      ·exact .inr b
     ·rintro (⟨a, b, d⟩ | b)
      ·exact .inl ⟨by omega, by simpa using b.symm⟩
      ·exact .inr (.inr b)
   ·rw [same hn1]
    split
    ·exact i2
    split
    ·rw [z4J]; exact i2
    ·exact i2
 unfold z4W
 rw [(gen (w.length + 1)).2]
 constructor
 ·rintro (⟨_, b⟩ | b)
  ·exact .inl b
  ·exact .inr b
 ·rintro (b | b)
  ·exact .inl ⟨by omega, b⟩
  ·exact .inr b
theorem z1W : ∀ {l : List (List Nat)} {c : z8}, (∀ w ∈ l, Wd (kk m) w) → COk m c → COk m (z2U m l c) ∧ (∀ s, z17 (z2U m l c) s ↔ (∃ w ∈ l, aft m 0 w = s) ∨ z17 c s) ∧ ∀ s i, z2O (z2U m l c) s i ↔ (∃ w ∈ l, z0d m w s i) ∨ z2O c s i
 | [], c, _, hc => ⟨hc, by simp [z2U], by simp [z2U]⟩
 | w :: l, c, hw, hc => by
  have h1 := z4V h (hw w (by simp)) hc
  obtain ⟨g1, g2, g3⟩ := z1W (l := l) (c := z4W m w c) (fun v hv => hw v (by simp [hv])) h1
  refine ⟨g1, fun s => ?_, fun s i => ?_⟩
  ·show z17 (z2U m l (z4W m w c)) s ↔ _
   rw [g2, zav h (hw w (by simp)) hc]
   simp only [List.mem_cons, exists_eq_or_imp]
   constructor
   ·rintro (q | q | q)
    ·exact .inl (.inr q)
    ·exact .inl (.inl q)
    ·exact .inr q
   ·rintro ((q | q) | q)
    ·exact .inr (.inl q)
    ·exact .inl q
    ·exact .inr (.inr q)
  ·show z2O (z2U m l (z4W m w c)) s i ↔ _
   rw [g3, zaw h (hw w (by simp)) hc]
   simp only [List.mem_cons, exists_eq_or_imp]
   constructor
   ·rintro (q | q | q)
    ·exact .inl (.inr q)
    ·exact .inl (.inl q)
    ·exact .inr q
   ·rintro ((q | q) | q)
    ·exact .inr (.inl q)
    ·exact .inl q
    ·exact .inr (.inr q)
theorem z1X {w : List Nat} (hw : Wd (kk m) w) (hl : w.length ≤ 100000) {k : Nat} (hk : k ≤ w.length) {c : z8} (hc : COk m c) (hne : aft m 0 (w.take k) ≠ -1) : ud (w.map Int.ofNat) (aft m 0 (w.take k)) (k : Int) c = some (Xr m w k c) := by
 have hin := Uo h hw k
 unfold Xr
 rw [if_neg hne]
 obtain ⟨n, hn⟩ : ∃ n : Nat, aft m 0 (w.take k) = n := ⟨(aft m 0 (w.take k)).toNat, by have := hin.1; omega⟩
 rw [hn] at hin ⊢
 have hn1 : n < m.Rows.length := by have := hin.2; omega
 obtain ⟨b, hb⟩ := hc.stAt hn1
 obtain ⟨e, he, hel⟩ := hc.rowAt hn1
 unfold ud
 rw [List.length_map]
 simp only [Int.toNat_natCast]
 by_cases h1 : k = w.length
 ·have : ((k : Int) == (w.length : Int)) = true := by simp [h1]
  rw [this, cond_true, if_pos h1, zt hb, Option.bind_some]
  rfl
 ·have q1 : ((k : Int) == (w.length : Int)) = false := by simp; omega
  rw [q1, cond_false, if_neg h1]
  have hw1 : w64 ((w.length : Int) - 1) = (w.length : Int) - 1 := w9 (by omega) (by omega)
  rw [hw1]
  by_cases h2 : k + 1 = w.length
  ·have q2 : ((k : Int) == (w.length : Int) - 1) = true := by simp; omega
   have hx : w[k]? = some w[k] := List.getElem?_eq_getElem (by omega)
   have hm : (w.map Int.ofNat)[k]? = some (w[k] : Int) := by rw [List.getElem?_map, hx]; rfl
   have hik : w[k] < kk m := hw _ (List.getElem_mem (by omega))
   have hie : e[w[k]]? = some e[w[k]] := List.getElem?_eq_getElem (by omega)
   rw [q2, cond_true, if_pos h2, zt he, Option.bind_some, zt hm, Option.bind_some, zt hie, Option.bind_some, hx, Option.getD_some]
   simp [setE, he]
  ·have q2 : ((k : Int) == (w.length : Int) - 1) = false := by simp; omega
   rw [q2, cond_false, if_neg h2]
theorem z5z {w : List Nat} (hw : Wd (kk m) w) (hl : w.length ≤ 100000) {yy : z8 → Int × Int → Option z8} {g : Nat → z8 → z8} (hg : ∀ k c, aft m 0 (w.take k) = -1 → g k c = c) (hok : ∀ k c, COk m c → COk m (g k c))
  (hy : ∀ k c, k ≤ w.length → COk m c → aft m 0 (w.take k) ≠ -1 → yy c (aft m 0 (w.take k), (k : Int)) = some (g k c)) {c : z8} (hc : COk m c) :
  wB m (w.map Int.ofNat) yy c = some ((List.range (w.length + 1)).foldl (fun c k => g k c) c) := by
 unfold wB
 have c0 := hy 0 c (Nat.zero_le _) hc (by show (0 : Int) ≠ -1; omega)
 refine Eq.trans (bdT c0) ?_
 have run : Ret (loop (fun s => wz yy m (w.map Int.ofNat) s.1 s.2.1 s.2.2) (g 0 c, 0, 0)) fun r => r = (List.range (w.length + 1)).foldl (fun c k => g k c) c := by
  refine ja (fun q => ∃ k : Nat, q.2.2 = (k : Int) ∧ k ≤ w.length ∧ q.2.1 = aft m 0 (w.take k) ∧ q.2.1 ≠ -1 ∧ q.1 = (List.range (k + 1)).foldl (fun c k => g k c) c) (fun q => 200000 - q.2.2.toNat) ⟨0, rfl, Nat.zero_le _, rfl, by simp, rfl⟩ (by show 200000 - _ < _; omega) ?_
  rintro ⟨q, s, _⟩ ⟨k, rfl, hk, hs, hne, hq⟩
  simp only at hs hne hq
  unfold wz
  simp only [List.length_map]
  have hin := Uo h hw k
  rw [← hs] at hin
  have hqok : COk m q := by rw [hq]; exact vp (I := fun _ c => COk m c) hc _ fun i s _ hs => hok i s hs
  obtain ⟨n, rfl⟩ : ∃ n : Nat, s = n := ⟨s.toNat, by have := hin.1; omega⟩
  have hn : n < m.Rows.length := by have := hin.2; omega
  rw [ui]
  refine ⟨fun hc1 => ?_, fun hc1 => ?_⟩
  ·have hlt : k < w.length := by simpa using hc1
   have hi : w[k]? = some w[k] := List.getElem?_eq_getElem hlt
   have hik : w[k] < kk m := hw _ (List.getElem_mem hlt)
   have hm : (w.map Int.ofNat)[k]? = some (w[k] : Int) := by rw [List.getElem?_map, hi]; rfl
   obtain ⟨r, hr, hrl, hre⟩ := h.rowAt hn
   have hto : aft m 0 (w.take (k + 1)) = (E m n w[k]).To := by rw [z36 hi, ← hs, z1L]
   rw [zt hm, Option.bind_some, zt hr, Option.bind_some, zt (hre _ hik), Option.bind_some, ui]
   have hw1 : w64 ((k : Int) + 1) = ((k + 1 : Nat) : Int) := vE (by omega)
   refine ⟨fun hc2 => ?_, fun hc2 => ?_⟩
   ·have hto1 : (E m n w[k]).To = -1 := by simpa using hc2
    rw [y4]
    show q = _
    rw [hq]
    have : ∀ d, (List.range (k + 1 + d)).foldl (fun c k => g k c) c = (List.range (k + 1)).foldl (fun c k => g k c) c := by
     intro d
     induction d with
     | zero => rfl
     | succ d ih =>
      rw [show k + 1 + (d + 1) = (k + 1 + d) + 1 by omega, xl g, ih]
      refine hg _ _ ?_
      have h1 : w.take (k + 1 + d) = w.take (k + 1) ++ (w.drop (k + 1)).take d := by rw [List.take_add]
      rw [h1, z2a, hto, hto1]
      have h2 := z29 m ((w.drop (k + 1)).take d) (-1) (by omega)
      have h3 := (z37 h ((w.drop (k + 1)).take d) (-1) ⟨by omega, by have := h.len1; omega⟩ fun i hi => hw i (List.mem_of_mem_drop (List.mem_of_mem_take hi))).1
      omega
    have e := this (w.length - k)
    rw [show k + 1 + (w.length - k) = w.length + 1 by omega] at e
    exact e.symm
   ·have hto1 : (E m n w[k]).To ≠ -1 := by simpa using hc2
    rcases h.edgeAt hn hik with ⟨gg, _⟩ | ⟨g1, g2, _⟩
    ·exact absurd gg hto1
    ·have q2 := hy (k + 1) q hlt hqok (by rw [hto]; exact hto1)
     rw [hto] at q2
     rw [hw1, q2, Option.bind_some, y4]
     refine ⟨⟨k + 1, rfl, hlt, hto.symm, hto1, ?_⟩, by simp only; omega⟩
     rw [xl g, ← hq]
  ·have hge : k = w.length := by simp at hc1; omega
   subst hge
   rw [y4]
   exact hq
 exact bdT run.eq
theorem z4U {l : List (List Nat)} (hw : ∀ w ∈ l, Wd (kk m) w) (hl : l.length ≤ 100000) (hl2 : ∀ w ∈ l, w.length ≤ 100000) : qS m (l.map (List.map Int.ofNat)) = some (z2U m l (W2 m)) := by
 unfold qS
 rw [z2V h, Option.bind_some]
 have e2 : loop (fun s => vt m (l.map (List.map Int.ofNat)) s.1 s.2.1 s.2.2) ((W2 m).States, (W2 m).Edges, 0) = some ((z2U m l (W2 m)).States, (z2U m l (W2 m)).Edges) := by
  have hfl := u0 (fun w c => z4W m w c) ([] : List Nat) l (W2 m)
  refine jk (σ := z8) (fun c k => (c.States, c.Edges, (k : Int))) (fun i c => z4W m ((l[i]?).getD []) c) (fun _ c => COk m c) l.length (by omega) VE (fun i c hi hc => ?_) (fun _ => ?_)
  ·have hx : l[i]? = some l[i] := List.getElem?_eq_getElem hi
   have hm : (l.map (List.map Int.ofNat))[i]? = some (l[i].map Int.ofNat) := by rw [List.getElem?_map, hx]; rfl
   have hW := hw _ (List.getElem_mem hi)
   have hL := hl2 _ (List.getElem_mem hi)
   simp only [hx, Option.getD_some]
   refine ⟨?_, z4V h hW hc⟩
   unfold vt
   rw [List.length_map, decide_eq_true (by omega), cond_true, zt hm, Option.bind_some]
   refine Eq.trans (bdT (z5z h hW hL (yy := fun s x => ud (l[i].map Int.ofNat) x.1 x.2 s) (g := fun k c => Xr m l[i] k c) (fun k c q => by unfold Xr; rw [if_pos q]) (fun k c hc => Q3 h hW k hc) (fun k c hk hc hne => z1X h hW hL hk hc hne) (c := c) hc)) ?_
   rw [vE (by omega)]
   rfl
  ·rw [hfl]
   simp only
   unfold vt
   rw [List.length_map, decide_eq_false (by omega), cond_false]
   rfl
 refine Eq.trans (bdT e2) ?_
 rfl
end
end Go.Own

namespace Go.Own
def Xt (m : z6) (w : List Nat) (s i : Nat) : Bool := decide (w[w.length - 1]? = some i) && decide (aft m 0 (w.take (w.length - 1)) = (s : Int))
def scB (m : z6) (l : List (List Nat)) : Bool := (List.range m.Rows.length).all fun s => l.any fun w => aft m 0 w == (s : Int)
def tcB (m : z6) (l : List (List Nat)) : Bool := (List.range m.Rows.length).all fun s => (List.range (kk m)).all fun i => l.any fun w => Xt m w s i
theorem z4x {m : z6} {w : List Nat} {s i : Nat} : Xt m w s i = true ↔ z0d m w s i := by
 unfold Xt z0d
 rw [Bool.and_eq_true, decide_eq_true_iff, decide_eq_true_iff]
section
variable {m : z6} (h : VM m) {l : List (List Nat)} (hw : ∀ w ∈ l, Wd (kk m) w) (hl : l.length ≤ 100000) (hl2 : ∀ w ∈ l, w.length ≤ 100000)
include h hw hl hl2
omit h hw hl hl2 in
theorem z1g {s i : Nat} : ¬ z17 (W2 m) s ∧ ¬ z2O (W2 m) s i := by
 unfold z17 z2O W2
 simp only [List.getElem?_replicate]
 constructor
 ·intro q; split at q <;> cases q
 ·rintro ⟨e, q1, q2⟩
  split at q1
  ·cases q1
   rw [List.getElem?_replicate] at q2
   split at q2 <;> cases q2
  ·cases q1
theorem z4g (hr : xm m (l.map (List.map Int.ofNat)) = some 0) : yp m (l.map (List.map Int.ofNat)) = some (scB m l, 0) := by
 obtain ⟨g1, g2, _⟩ := z1W h (c := W2 m) hw VE
 unfold yp
 have b0 : ((0 : Int) != 0) = false := rfl
 rw [hr, Option.bind_some, b0, cond_false, z4U h hw hl hl2, Option.bind_some, z6C _ (by rw [g1.st]; have := h.len64; omega), Option.bind_some]
 congr 2
 rw [Bool.eq_iff_iff]
 unfold scB
 simp only [List.all_eq_true, List.any_eq_true, List.mem_range, beq_iff_eq, id]
 constructor
 ·intro q s hs
  have hlt : s < (z2U m l (W2 m)).States.length := by rw [g1.st]; exact hs
  have hx : (z2U m l (W2 m)).States[s]? = some (z2U m l (W2 m)).States[s] := List.getElem?_eq_getElem hlt
  have := q _ (List.mem_of_getElem? hx)
  rw [this] at hx
  rcases (g2 s).1 hx with q | q
  ·exact q
  ·exact absurd q (z1g (i := 0)).1
 ·intro q b hb
  obtain ⟨s, hs⟩ := List.mem_iff_getElem?.1 hb
  have hs' : s < m.Rows.length := by have := (List.getElem?_eq_some_iff.1 hs).1; rw [g1.st] at this; exact this
  have := (g2 s).2 (.inl (q s hs'))
  unfold z17 at this
  rw [hs] at this
  cases this; rfl
theorem z4f (hr : xm m (l.map (List.map Int.ofNat)) = some 0) : zX m (l.map (List.map Int.ofNat)) = some (tcB m l, 0) := by
 obtain ⟨g1, _, g3⟩ := z1W h (c := W2 m) hw VE
 have hrow : ∀ e ∈ (z2U m l (W2 m)).Edges, e.length = kk m := fun e he => by
  obtain ⟨s, hs⟩ := List.mem_iff_getElem?.1 he
  exact g1.row s e hs
 unfold zX
 have b0 : ((0 : Int) != 0) = false := rfl
 have hk := h.kk_le
 rw [hr, Option.bind_some, b0, cond_false, z4U h hw hl hl2, Option.bind_some, z4Q _ (by rw [g1.ed]; have := h.len64; omega) (fun e he => by rw [hrow e he]; omega), Option.bind_some]
 congr 2
 rw [Bool.eq_iff_iff]
 unfold tcB
 simp only [List.all_eq_true, List.any_eq_true, List.mem_range, id, z4x]
 constructor
 ·intro q s hs i hi
  obtain ⟨e, he, hel⟩ := g1.rowAt hs
  have hx : e[i]? = some e[i] := List.getElem?_eq_getElem (by omega)
  have := q e (List.mem_of_getElem? he) _ (List.mem_of_getElem? hx)
  rw [this] at hx
  rcases (g3 s i).1 ⟨e, he, hx⟩ with q | q
  ·exact q
  ·exact absurd q z1g.2
 ·intro q e he b hb
  obtain ⟨s, hs⟩ := List.mem_iff_getElem?.1 he
  have hs' : s < m.Rows.length := by have := (List.getElem?_eq_some_iff.1 hs).1; rw [g1.ed] at this; exact this
  obtain ⟨i, hi⟩ := List.mem_iff_getElem?.1 hb
  have hi' : i < kk m := by have := (List.getElem?_eq_some_iff.1 hi).1; rw [hrow e he] at this; exact this
  obtain ⟨e2, k1, k2⟩ := (g3 s i).2 (.inl (q s hs' i hi'))
  rw [hs] at k1
  cases k1
  rw [hi] at k2
  cases k2; rfl
omit h hw hl hl2 in
theorem KV {α : Type} (p : α → Bool) : ∀ (l : List α) (b : Bool), l.foldl (fun b x => b || p x) b = (b || l.any p)
 | [], b => by simp
 | x :: l, b => by rw [List.foldl_cons, KV p l, List.any_cons, Bool.or_assoc]
omit hl hl2 in
theorem z35 {i : Nat} {w : List Nat} (hi : l[i]? = some w) (k : Nat) : uB m 0 ((w.take k).map Int.ofNat) = some (aft m 0 (w.take k)) :=
 z38 h (s := 0) ⟨by omega, by have := h.len1; omega⟩ _ (fun j hj => hw w (List.mem_of_getElem? hi) j (List.mem_of_mem_take hj))
omit hl2 in
theorem zcG (s : Nat) : loop (fun q => yu m (l.map (List.map Int.ofNat)) (s : Int) q.1 q.2) (false, 0) = some (l.any fun w => aft m 0 w == (s : Int)) := by
 have hfl := (u0 (fun (w : List Nat) b => b || (aft m 0 w == (s : Int))) ([] : List Nat) l false).trans ((KV (fun w => aft m 0 w == (s : Int)) l false).trans (Bool.false_or _))
 refine jk (σ := Bool) (fun b k => (b, (k : Int))) (fun i b => b || (aft m 0 ((l[i]?).getD []) == (s : Int))) (fun _ _ => True) l.length (by omega) trivial (fun i b hi _ => ?_) (fun _ => ?_)
 ·have hx : l[i]? = some l[i] := List.getElem?_eq_getElem hi
  have hm : (l.map (List.map Int.ofNat))[i]? = some (l[i].map Int.ofNat) := by rw [List.getElem?_map, hx]; rfl
  refine ⟨?_, trivial⟩
  simp only [hx, Option.getD_some]
  unfold yu
  rw [List.length_map, decide_eq_true (by omega), cond_true]
  cases b with
  | true => rw [cond_true, vE (by omega)]; rfl
  | false =>
   have ha := z35 h hw hx (l[i].length)
   rw [List.take_length] at ha
   rw [cond_false, zt hm, Option.bind_some, ha, Option.bind_some, vE (by omega)]
   rfl
 ·rw [hfl]
  simp only
  unfold yu
  rw [List.length_map, decide_eq_false (by omega), cond_false]
omit hl2 in
theorem z44 : wk m (l.map (List.map Int.ofNat)) = some (scB m l) := by
 have hN := h.len64
 unfold wk
 rw [bdT (xI m.Rows (by omega) (step := fun s => yw m (l.map (List.map Int.ofNat)) s) (fun i _ => if (l.any fun w => aft m 0 w == (i : Int)) = true then none else some false) ?_ ?_)]
 ·rw [z2P (fun i => l.any fun w => aft m 0 w == (i : Int)) false m.Rows 0]
  unfold scB
  by_cases q : ∀ i, i < m.Rows.length → (l.any fun w => aft m 0 w == ((0 + i : Nat) : Int)) = true
  ·rw [if_pos q]
   have : ((List.range m.Rows.length).all fun s => l.any fun w => aft m 0 w == (s : Int)) = true := by
    rw [List.all_eq_true]
    intro s hs
    have := q s (List.mem_range.1 hs)
    rwa [Nat.zero_add] at this
   rw [this]; rfl
  ·rw [if_neg q]
   have : ((List.range m.Rows.length).all fun s => l.any fun w => aft m 0 w == (s : Int)) = false := by
    rw [Bool.eq_false_iff]
    intro e
    rw [List.all_eq_true] at e
    exact q fun i hi => by rw [Nat.zero_add]; exact e i (List.mem_range.2 hi)
   rw [this]; rfl
 ·intro i x hx
  have hi := (List.getElem?_eq_some_iff.1 hx).1
  unfold yw
  rw [decide_eq_true (by omega), cond_true, zcG h hw hl, Option.bind_some]
  unfold wi wj
  cases (l.any fun w => aft m 0 w == (i : Int)) <;> rfl
 ·unfold yw
  rw [decide_eq_false (by omega), cond_false]
theorem zcF (s a : Nat) : loop (fun q => zZ m (l.map (List.map Int.ofNat)) (s : Int) (a : Int) q.1 q.2) (false, 0) = some (l.any fun w => Xt m w s a) := by
 have hfl := (u0 (fun (w : List Nat) b => b || Xt m w s a) ([] : List Nat) l false).trans ((KV (fun w => Xt m w s a) l false).trans (Bool.false_or _))
 refine jk (σ := Bool) (fun b k => (b, (k : Int))) (fun i b => b || Xt m ((l[i]?).getD []) s a) (fun _ _ => True) l.length (by omega) trivial (fun i b hi _ => ?_) (fun _ => ?_)
 ·have hx : l[i]? = some l[i] := List.getElem?_eq_getElem hi
  have hm : (l.map (List.map Int.ofNat))[i]? = some (l[i].map Int.ofNat) := by rw [List.getElem?_map, hx]; rfl
  have hL := hl2 _ (List.getElem_mem hi)
  refine ⟨?_, trivial⟩
  simp only [hx, Option.getD_some]
  unfold zZ
  rw [List.length_map, decide_eq_true (by omega), cond_true, zt hm, Option.bind_some]
  cases b with
  | true => rw [cond_true, vE (by omega)]; rfl
  | false =>
   rw [cond_false, List.length_map, w9 (x := (l[i].length : Int) - 1) (by omega) (by omega), vE (by omega), Bool.false_or]
   by_cases h0 : l[i].length = 0
   ·have e : Xt m l[i] s a = false := by
     unfold Xt
     rw [List.length_eq_zero_iff.1 h0]; rfl
    rw [decide_eq_false (by omega), cond_false, e]
   ·obtain ⟨n, hn⟩ : ∃ n, l[i].length = n + 1 := ⟨l[i].length - 1, by omega⟩
    have hn1 : (l[i].length : Int) - 1 = (n : Int) := by omega
    have hy : l[i][n]? = some l[i][n] := List.getElem?_eq_getElem (by omega)
    have hy2 : (l[i].map Int.ofNat)[n]? = some ((l[i][n] : Nat) : Int) := by rw [List.getElem?_map, hy]; rfl
    rw [hn1, decide_eq_true (by omega), cond_true, Option.bind_some, zt hy2, Option.bind_some]
    unfold Xt
    rw [show l[i].length - 1 = n by omega, hy]
    by_cases ha : l[i][n] = a
    ·have q1 : (((l[i][n] : Nat) : Int) == (a : Int)) = true := by simp [ha]
     have hcut : ((l[i].map Int.ofNat).drop 0).take ((n : Int).toNat - 0) = (l[i].take n).map Int.ofNat := by simp
     rw [q1, cond_true, Option.bind_some, gdT (by rw [List.length_map]; omega), hcut, z35 h hw hx n, Option.bind_some, ha]
     simp only [decide_true, Bool.true_and]
     rfl
    ·have q1 : (((l[i][n] : Nat) : Int) == (a : Int)) = false := by simp; omega
     have q2 : decide (some l[i][n] = some a) = false := decide_eq_false (by simpa using ha)
     rw [q1, cond_false, q2, Bool.false_and]
 ·rw [hfl]
  simp only
  unfold zZ
  rw [List.length_map, decide_eq_false (by omega), cond_false]
theorem z43 : yK m (l.map (List.map Int.ofNat)) = some (tcB m l) := by
 have hN := h.len64
 have hk := h.kk_eq
 have hk16 := h.kk_le
 have inner : ∀ s : Nat, loop (fun q => zP m (l.map (List.map Int.ofNat)) (s : Int) q) 0 = some (oS (if ((List.range (kk m)).all fun i => l.any fun w => Xt m w s i) = true then none else some false)) := by
  intro s
  have q := xI (List.replicate (kk m) ()) (by rw [List.length_replicate]; omega) (step := fun q => zP m (l.map (List.map Int.ofNat)) (s : Int) q) (fun i _ => if (l.any fun w => Xt m w s i) = true then none else some false) ?_ ?_
  ·rw [q, z2P (fun i => l.any fun w => Xt m w s i) false _ 0, List.length_replicate]
   congr 3
   rw [List.all_eq_true]
   apply propext
   simp only [List.mem_range, Nat.zero_add]
  ·intro i x hx
   have hi := (List.getElem?_eq_some_iff.1 hx).1
   rw [List.length_replicate] at hi
   unfold zP
   rw [decide_eq_true (by omega), cond_true, zcF h hw hl hl2, Option.bind_some]
   unfold yW yX
   cases (l.any fun w => Xt m w s i) <;> rfl
  ·unfold zP
   rw [List.length_replicate, decide_eq_false (by omega), cond_false]
 unfold yK
 rw [bdT (xI m.Rows (by omega) (step := fun s => y3 m (l.map (List.map Int.ofNat)) s) (fun i _ => if ((List.range (kk m)).all fun a => l.any fun w => Xt m w i a) = true then none else some false) ?_ ?_)]
 ·rw [z2P (fun i => (List.range (kk m)).all fun a => l.any fun w => Xt m w i a) false m.Rows 0]
  have e : (∀ i, i < m.Rows.length → ((List.range (kk m)).all fun a => l.any fun w => Xt m w (0 + i) a) = true) ↔ tcB m l = true := by
   unfold tcB
   rw [List.all_eq_true]
   simp only [List.mem_range, Nat.zero_add]
  by_cases q : tcB m l = true
  ·rw [if_pos (e.2 q), q]; rfl
  ·rw [if_neg (fun x => q (e.1 x)), Bool.eq_false_iff.2 q]; rfl
 ·intro i x hx
  have hi := (List.getElem?_eq_some_iff.1 hx).1
  unfold y3
  rw [decide_eq_true (by omega), cond_true, inner i, Option.bind_some]
  unfold yY
  split
  ·rename_i p hp
   split at hp
   ·rename_i q; rw [if_pos q]; rfl
   ·cases hp
  ·rename_i p hp
   split at hp
   ·cases hp
   ·rename_i q; rw [if_neg q]; cases hp; rfl
 ·unfold y3
  rw [decide_eq_false (by omega), cond_false]
end
end Go.Own

namespace Go.Own
theorem z1K {l : List Int} (h : ∀ c ∈ l, 0 ≤ c) : (l.map Int.toNat).map Int.ofNat = l := by
 rw [List.map_map]
 conv => rhs; rw [← List.map_id l]
 exact List.map_congr_left fun c hc => by have := h c hc; show ((c.toNat : Nat) : Int) = c; omega
def z7n (l : List (List Int)) : List (List Nat) := l.map (List.map Int.toNat)
theorem z8A {n : Int} {L k : Nat} {l : List (List Int)} (h : Wq n L k l) : (z7n l).map (List.map Int.ofNat) = l := by
 unfold z7n
 rw [List.map_map]
 conv => rhs; rw [← List.map_id l]
 exact List.map_congr_left fun w hw => z1K fun c hc => ((h.2.2 w hw).2 c hc).1
theorem z8z {m : z6} (v : VM m) {L k : Nat} {l : List (List Int)} (h : Wq m.Inputs L k l) : (∀ w ∈ z7n l, Wd (kk m) w) ∧ (z7n l).length = l.length ∧ ∀ w ∈ z7n l, w.length ≤ k := by
 refine ⟨fun w hw i hi => ?_, by simp [z7n], fun w hw => ?_⟩
 ·obtain ⟨u, hu, rfl⟩ := List.mem_map.1 hw
  obtain ⟨c, hc, rfl⟩ := List.mem_map.1 hi
  have := (h.2.2 u hu).2 c hc
  have := v.kk_eq
  omega
 ·obtain ⟨u, hu, rfl⟩ := List.mem_map.1 hw
  rw [List.length_map]
  exact (h.2.2 u hu).1
theorem z6c (m : z6) (l : List (List Int)) : xm m l = some (if chk m ≠ 0 then chk m else chE m.Inputs l) := by
 unfold xm
 rw [z6I, Option.bind_some]
 by_cases h : chk m = 0
 ·rw [h, bne_self_eq_false, cond_false, z3F, Option.bind_some, if_neg (by omega)]
 ·have : (chk m != 0) = true := by simpa using h
  rw [this, cond_true, if_pos h]
theorem za1 {m : z6} (v : VM m) {c : z8} (h : COk m c) : kr c c = some true := by
 have hN := v.len64
 have hk := v.kk_le
 have hs := h.st
 have he := h.ed
 unfold kr
 rw [bne_self_eq_false, cond_false, bne_self_eq_false, cond_false]
 rw [bdT (xI c.States (by omega) (step := fun s => u7 c c s) (fun _ _ => none) ?_ ?_), qR (fun _ _ _ => rfl)]
 ·unfold oS k9
  simp only
  rw [bdT (xI c.Edges (by omega) (step := fun s => ua c c s) (fun _ _ => none) ?_ ?_), qR (fun _ _ _ => rfl)]
  ·rfl
  ·intro i x hx
   have hi := (List.getElem?_eq_some_iff.1 hx).1
   have hxl := h.row i x hx
   unfold ua
   rw [decide_eq_true (by omega), cond_true, zt hx, Option.bind_some, Option.bind_some, bne_self_eq_false, cond_false,
    bdT (xI x (by omega) (step := fun s => u9 c c (i : Int) s) (fun _ _ => none) ?_ ?_), qR (fun _ _ _ => rfl)]
   ·rfl
   ·intro j y hy
    have hj := (List.getElem?_eq_some_iff.1 hy).1
    unfold u9
    rw [zt hx, Option.bind_some, decide_eq_true (by omega), cond_true, Option.bind_some, zt hy, Option.bind_some, Option.bind_some, zt hy, Option.bind_some]
    simp [nS]
   ·unfold u9
    rw [zt hx, Option.bind_some, decide_eq_false (by omega), cond_false]
  ·unfold ua
   rw [decide_eq_false (by omega), cond_false]
 ·intro i x hx
  have hi := (List.getElem?_eq_some_iff.1 hx).1
  unfold u7
  rw [decide_eq_true (by omega), cond_true, zt hx, Option.bind_some, Option.bind_some]
  simp [nS]
 ·unfold u7
  rw [decide_eq_false (by omega), cond_false]
theorem z1s {l : List (List Int)} {k : Int} (hk : 1 ≤ k) {i : Nat} {w : List Int} (hw : l[i]? = some w) (h0 : ∀ c ∈ w, 0 ≤ c) (hl : w.length ≤ 100000) :
  Ret (loop (fun s => wN l k (i : Int) s.1 s.2) (([] : List Int), 0)) fun r => r.length ≤ w.length ∧ ∀ c ∈ r, 0 ≤ c ∧ c < k := by
 refine ja (fun q => ∃ j : Nat, q.2 = (j : Int) ∧ j ≤ w.length ∧ q.1.length = j ∧ ∀ c ∈ q.1, 0 ≤ c ∧ c < k) (fun q => 200000 - q.2.toNat) ⟨0, rfl, Nat.zero_le _, rfl, by simp⟩ (by show 200000 - _ < _; omega) ?_
 rintro ⟨q, _⟩ ⟨j, rfl, hj, hq, hc⟩
 simp only at hq hc
 show Ret (wN l k (i : Int) q (j : Int)) _
 unfold wN
 rw [zt hw, Option.bind_some, ui]
 refine ⟨fun h1 => ?_, fun h1 => y4.2 ⟨by omega, hc⟩⟩
 have hlt : j < w.length := by simpa using h1
 have hx : w[j]? = some w[j] := List.getElem?_eq_getElem hlt
 have hp := h0 _ (List.getElem_mem hlt)
 rw [Option.bind_some, zt hx, Option.bind_some, gdT (by omega), gdT (by simp; omega), y4, vE (by omega), Int.tmod_eq_emod_of_nonneg hp]
 refine ⟨⟨j + 1, rfl, hlt, by simp [hq], fun c hm => ?_⟩, by simp only; omega⟩
 rcases List.mem_append.1 hm with g | g
 ·exact hc c g
 ·rw [List.mem_singleton.1 g]
  exact ⟨Int.emod_nonneg _ (by omega), Int.emod_lt_of_pos _ (by omega)⟩
theorem z3b {n : Int} {L K : Nat} {l : List (List Int)} (h : Wq n L K l) (hL : L ≤ 1000) (hK : K ≤ 1000) {k : Int} (hk : 1 ≤ k) : Ret (jl l k) (Wq k L K) := by
 have hlen := h.2.1
 have loop_ : Ret (loop (fun s => wO l k s.1 s.2) (([] : List (List Int)), 0)) fun r => r.length ≤ L ∧ ∀ w ∈ r, w.length ≤ K ∧ ∀ c ∈ w, 0 ≤ c ∧ c < k := by
  refine ja (fun q => ∃ j : Nat, q.2 = (j : Int) ∧ j ≤ l.length ∧ q.1.length = j ∧ ∀ w ∈ q.1, w.length ≤ K ∧ ∀ c ∈ w, 0 ≤ c ∧ c < k) (fun q => 2000 - q.2.toNat) ⟨0, rfl, Nat.zero_le _, rfl, by simp⟩ (by show 2000 - _ < _; omega) ?_
  rintro ⟨q, _⟩ ⟨j, rfl, hj, hq, hc⟩
  simp only at hq hc
  show Ret (wO l k q (j : Int)) _
  unfold wO
  rw [ui]
  refine ⟨fun h1 => ?_, fun h1 => y4.2 ⟨by omega, hc⟩⟩
  have hlt : j < l.length := by simpa using h1
  have hx : l[j]? = some l[j] := List.getElem?_eq_getElem hlt
  obtain ⟨b1, b2⟩ := h.2.2 _ (List.getElem_mem hlt)
  rw [jb]
  refine (z1s hk hx (fun c hc => (b2 c hc).1) (by omega)).mono fun r hr => ?_
  unfold uW uX
  rw [gdT (by simp; omega), y4, vE (by omega)]
  refine ⟨⟨j + 1, rfl, hlt, by simp [hq], fun w hm => ?_⟩, by simp only; omega⟩
  rcases List.mem_append.1 hm with g | g
  ·exact hc w g
  ·rw [List.mem_singleton.1 g]
   exact ⟨by have := hr.1; omega, hr.2⟩
 unfold jl
 rw [jb]
 refine loop_.mono fun r hr => ?_
 unfold uY
 rw [z2v (by have := hr.1; omega) (fun w hw => by have := (hr.2 w hw).1; omega), Option.bind_some, y4]
 exact ⟨z3L r, Nat.le_trans (z1z r) hr.1, fun w hw => hr.2 w (z1N.1 hw)⟩
end Go.Own

namespace Go.Own
theorem z0X : Yv = some true := by kernel_rfl
end Go.Own

namespace Go.Own
def Ok5 (a : Int) : Prop := (0) ≤ a ∧ a ≤ 255
def Ok4 (_ : Bool) : Prop := True
def zdo (a : Int) : Prop := (0) ≤ a ∧ a ≤ 65535
def zeo (l : List Int) : Prop := ∀ a ∈ l, zdo a
def zen (a : zY) : Prop := Ok5 a.States ∧ Ok5 a.Inputs ∧ Ok5 a.Outputs ∧ Ok4 a.Partial ∧ zeo a.Edges
def zdp (l : List Int) : Prop := ∀ a ∈ l, Ok5 a
def zem (l : List (List Int)) : Prop := ∀ a ∈ l, zdp a
def zel (a : ye) : Prop := Ok5 a.Inputs ∧ zem a.Words
end Go.Own

namespace Go.Own
theorem z6t {x : zY} {y : ye} (hx : zen x) (hy : zel y) : v7 x y = some true := by
 obtain ⟨a1, a2, a3, _, a5⟩ := hx
 obtain ⟨m, hm, v, _, hI, _, _⟩ := zaf (x := x) ⟨a1.1, a2.1, a3.1, a5⟩
 obtain ⟨n, hn, n1, n2⟩ := z6Z hy.1
 obtain ⟨l0, hl0, wl0⟩ := z8F hn ⟨n1, n2⟩ hy.2
 obtain ⟨l, hl, wl⟩ := z3b wl0 (by omega) (by omega) (k := m.Inputs) v.in1
 have hch : chE m.Inputs l = 0 := wl.ch ⟨v.in1, v.in16⟩ (by omega) (by omega) (by omega)
 have hready : xm m l = some 0 := by rw [z6c, zay v, if_neg (by omega), hch]
 have hnat := z8A wl
 obtain ⟨q1, q2, q3⟩ := z8z v wl
 have hlen := wl.2.1
 have hl1 : (z7n l).length ≤ 100000 := by omega
 have hl2 : ∀ w ∈ z7n l, w.length ≤ 100000 := fun w hw => by have := q3 w hw; omega
 have e1 := z8w v q1 hl1 hl2 (by rw [hnat]; exact hready)
 have e2 := z4g v q1 hl1 hl2 (by rw [hnat]; exact hready)
 have e3 := z4f v q1 hl1 hl2 (by rw [hnat]; exact hready)
 have e4 := z8t v q1 hl1 hl2
 have e5 := z44 v q1 hl1
 have e6 := z43 v q1 hl1 hl2
 rw [hnat] at e1 e2 e3 e4 e5 e6
 have e7 := za1 v (z4Z v q1 VE)
 have hm' : kx (zY.mk x.States x.Inputs x.Outputs x.Partial x.Edges) = some m := hm
 unfold v7
 rw [z0X, hm', Option.bind_some, hl0, Option.bind_some, hl, Option.bind_some, e1, Option.bind_some, e2, Option.bind_some, e3, Option.bind_some]
 simp only [beq_self_eq_true, cond_true]
 rw [e4, Option.bind_some, e7, Option.bind_some, cond_true, e5, Option.bind_some, beq_self_eq_true, cond_true, e6, Option.bind_some, beq_self_eq_true, cond_true, Option.bind_some]
end Go.Own

namespace Go.Own
def Kj (w : World) : zh := fun b o => zS w.heap b o
theorem z58 {w : World} {a : Addr} {v : Value} (h : w.cell? a = some v) : a.spot = none ∧ zS w.heap a.block a.off = some v := by
 unfold World.cell? at h
 unfold zS
 split at h
 ·rename_i c ty fr he
  rw [he]
  split at h
  ·cases h
  ·rename_i hs
   exact ⟨by simpa using hs, h⟩
 ·cases h
section
variable {H : Type} {enc : TypeId × Value → H} {P : Program} {w : World} {base : Nat} {spare : Nat → Bool} {held : Bool}
theorem z56 {a : Addr} {n : Nat} {cs : List Value} (h : w.cells? base a n = some cs) (hn : 0 < n) : a.spot = none ∧ cs.length = n ∧ Kl (Kj w) a.block a.off cs := by
 obtain ⟨_, h2, h3⟩ := World.cells?_some h
 have h0 : a.spot = none := by
  have h4 := h3 0 hn
  cases hc : cs[0]? with
  | none => rw [List.getElem?_eq_none_iff] at hc; omega
  | some v =>
   rw [hc] at h4
   have := (z58 h4).1
   simpa [Addr.add] using this
 refine ⟨h0, h2, fun j v hj => ?_⟩
 have hlt := (List.getElem?_eq_some_iff.1 hj).1
 have h4 := h3 j (by omega)
 rw [hj] at h4
 have q := (z58 h4).2
 unfold Addr.add at q
 split at q
 ·rename_i e; subst e; exact q
 ·exact q
theorem z0I {S : zh} : ∀ {bs : List A} {cs : List Value} {a : A} {c : List Value}, zU S bs cs → Rep S a c → zU S (bs ++ [a]) (cs ++ c)
 | [], cs, a, c, h1, h2 => by
  simp only [zU] at h1
  subst h1
  simp only [List.nil_append, zU]
  exact ⟨c, [], by simp, h2, rfl⟩
 | x :: bs, cs, a, c, h1, h2 => by
  simp only [zU] at h1
  obtain ⟨c1, c2, rfl, r1, r2⟩ := h1
  simp only [List.cons_append, zU]
  exact ⟨c1, c2 ++ c, by simp, r1, z0I r2 h2⟩
theorem z6o {S : zh} {b o : Nat} {c1 c2 : List Value} (h1 : Kl S b o c1) (h2 : Kl S b (o + c1.length) c2) : Kl S b o (c1 ++ c2) := by
 intro j v hj
 rcases Nat.lt_or_ge j c1.length with q | q
 ·rw [List.getElem?_append_left q] at hj
  exact h1 j v hj
 ·rw [List.getElem?_append_right q] at hj
  have := h2 _ _ hj
  rwa [show o + c1.length + (j - c1.length) = o + j by omega] at this
theorem Qt {α : Type} {t e sz : Nat} (f : α → A) (ok : α → Prop) (ht : P.underlying t = some (.slice e)) (hsz : P.cellsOf e = sz) (h0 : 0 < sz) (hf : ∀ a, (f a).size = sz)
    (hel : ∀ n cs x, DataW.trod enc P w base spare held n e cs = some x → ∃ a, ok a ∧ Rep (Kj w) (f a) cs)
    {Y7 : Nat} {cs : List Value} {x : DataW H × List MemPlace} (h : DataW.trod enc P w base spare held Y7 t cs = some x) : ∃ l : List α, (∀ a ∈ l, ok a) ∧ Rep (Kj w) (.sl sz false (l.map f)) cs := by
  rcases DataW.trod_slice ht h with ⟨rfl, _⟩ | ⟨a, len, cap, elems, rest, n, _, rfl, _, _, hlc, _, hlen, hall, _, _⟩
  · refine ⟨[], by simp, ?_⟩
    simp only [Rep, List.map_nil, List.length_nil]
    exact ⟨none, 0, rfl, by simp, Nat.le_refl _, by simp, .inl trivial⟩
  · have key : ∀ k, k ≤ len → ∃ (l : List α) (cells : List Value), l.length = k ∧ (∀ a ∈ l, ok a) ∧ zU (Kj w) (l.map f) cells ∧ cells.length = k * sz ∧ (0 < k → a.spot = none) ∧ Kl (Kj w) a.block a.off cells := by
      intro k
      induction k with
      | zero => intro _; exact ⟨[], [], rfl, by simp, by simp [zU], by simp, by simp, fun j v h => by simp at h⟩
      | succ k ih =>
        intro hk
        obtain ⟨l, cells, q1, q2, q3, q4, q5, q6⟩ := ih (by omega)
        have hk' := hall k (by omega)
        have hsome : elems[k]? = some elems[k] := List.getElem?_eq_getElem (by omega)
        rw [hsome, Option.bind_eq_some_iff, hsz] at hk'
        obtain ⟨c, hc, htr⟩ := hk'
        obtain ⟨y, hy, hr⟩ := hel _ _ _ htr
        obtain ⟨g1, g2, g3⟩ := z56 hc h0
        refine ⟨l ++ [y], cells ++ c, by simp [q1], ?_, ?_, ?_, ?_, ?_⟩
        · intro z hz
          rcases List.mem_append.1 hz with q | q
          · exact q2 z q
          · simp only [List.mem_cons, List.not_mem_nil, or_false] at q; subst q; exact hy
        · rw [List.map_append]; exact z0I q3 hr
        · rw [List.length_append, q4, g2, Nat.succ_mul]
        · intro _
          rcases Nat.eq_zero_or_pos k with rfl | hk0
          · simpa [Addr.add] using g1
          · exact q5 hk0
        · refine z6o q6 ?_
          rw [q4]
          unfold Addr.add at g3
          split at g3
          · rename_i e0
            rw [e0, Nat.add_zero]
            exact g3
          · exact g3
    obtain ⟨l, cells, q1, q2, q3, q4, q5, q6⟩ := key len (Nat.le_refl _)
    refine ⟨l, q2, ?_⟩
    simp only [Rep, List.length_map]
    refine ⟨some a, cap, by rw [q1], by simp, by omega, ?_, ?_⟩
    · intro y hy
      obtain ⟨z, _, rfl⟩ := List.mem_map.1 hy
      exact hf z
    · rcases Nat.eq_zero_or_pos len with rfl | hl
      · left; rw [List.length_eq_zero_iff.1 q1]; rfl
      · right
        refine ⟨a.block, a.off, cells, ?_, q3, q6⟩
        have := q5 hl
        obtain ⟨b, o, s⟩ := a
        simp only at this
        subst this
        rfl
theorem z4B {t : Nat} {k : IntKind} {lo hi : Int} (ht : P.underlying t = some (.int k)) (hlo : k.min = lo) (hhi : k.max = hi) {Y7 : Nat} {cs : List Value} {x : DataW H × List MemPlace} (h : DataW.trod enc P w base spare held Y7 t cs = some x) :
  ∃ n : Int, (lo ≤ n ∧ n ≤ hi) ∧ cs = [.int k n] ∧ Rep (Kj w) (.atom (.int k n)) cs := by
 obtain ⟨n, rfl, _, hw⟩ := DataW.trod_int ht h
 simp only [Lit.wf, Bool.and_eq_true, decide_eq_true_eq, hlo, hhi] at hw
 exact ⟨n, hw, rfl, by simp only [Rep]; exact ⟨trivial, rfl⟩⟩
theorem z6R {t : Nat} (ht : P.underlying t = some .bool) {Y7 : Nat} {cs : List Value} {x : DataW H × List MemPlace} (h : DataW.trod enc P w base spare held Y7 t cs = some x) :
  ∃ b : Bool, Rep (Kj w) (.atom (.bool b)) cs := by
 obtain ⟨b, rfl, _⟩ := DataW.trod_bool ht h
 exact ⟨b, by simp only [Rep]; exact ⟨trivial, rfl⟩⟩
theorem WH {t : Nat} {fs : List Field} (ht : P.underlying t = some (.struct ⟨fs⟩)) {Y7 : Nat} {cs : List Value} {x : DataW H × List MemPlace} (h : DataW.trod enc P w base spare held Y7 t cs = some x) :
  cs.length = P.cellsOf t ∧ ∀ (i : Nat) (f : Field), fs[i]? = some f → ∃ n y, DataW.trod enc P w base spare held n f.type ((cs.drop f.offset).take (P.cellsOf f.type)) = some y := by
 obtain ⟨xs, n, _, _, hl, hxl, hall⟩ := DataW.trod_struct ht h
 refine ⟨hl, fun i f hf => ?_⟩
 have hlt := (List.getElem?_eq_some_iff.1 hf).1
 have := hall i f (by simpa using hf)
 rw [List.getElem?_eq_getElem (by rw [hxl]; simpa using hlt)] at this
 exact ⟨n, _, this⟩
end
theorem kM {S : zh} {a : A} {bs : List A} {cs : List Value} {n : Nat} (h1 : Rep S a (cs.take n)) (h2 : zU S bs (cs.drop n)) : zU S (a :: bs) cs := by
 simp only [zU]
 exact ⟨cs.take n, cs.drop n, (List.take_append_drop n cs).symm, h1, h2⟩
end Go.Own

namespace Go.Own
section
open Go Go.ChangeShapes Go.WideShapes Go.ChangeAt Go.RowKit
theorem z4c {P : Program} {H : Type} {enc : TypeId × Value → H} {f : Func} {s : ChangeSpec} {apart fresh handsOn again : Bool} {W W' : World} {args : Array Value} {v : Value} {ds : List (DataW H)} {pa : List MemPlace}
  (hvar : s.vars = []) (hvars2 : (s.fn H (ds ++ [])).vars = []) (hW : DataW.Whole enc P f.params.toList s.vars apart W args.toList ds [] (pa ++ [])) (hb : Below W.heap.size W W')
  (hres : ∀ (b : Nat) (sp : Nat → Bool) (hd : Bool), DataW.TrodAll enc P W' b sp hd f.resultTypes.toList (v.resultList f.resultTypes.size) (s.fn H (ds ++ [])).results [])
  (hargs : ∀ sp : Nat → Bool, (∀ p ∈ pa ++ [], sp p.block = true) → DataW.TrodAll enc P W' 0 sp true f.params.toList args.toList (s.fn H (ds ++ [])).args pa)
  (hok : ∀ (j : Nat) (t : TypeId) (r : Value), f.resultTypes[j]? = some t → (v.resultList f.resultTypes.size)[j]? = some r → Value.okWide P W' .any 0 t r) :
  s.post enc P f apart fresh handsOn again W args v W' := by
 have hlt : ∀ p ∈ pa ++ [], p.block < W.heap.size := fun p hp => by simpa using hW.lt p hp
 have hvr : ∀ sp : Nat → Bool, DataW.TrodVars enc P W' sp s.vars (s.fn H (ds ++ [])).vars [] := fun sp => by rw [hvar, hvars2]; rfl
 refine ⟨ds, [], pa ++ [], [], pa, [], hW, hres _ _ _, hargs _ (fun p hp => by simpa using hlt p hp), hvr _, World.keptBut_mono (fun _ q => q.elim) (hb.frame fun _ => False), fun _ => ?_⟩
 obtain ⟨_, _, _, _, _, hz, hn⟩ := hW
 refine ⟨hok, _, _, ([] ++ pa) ++ [], ⟨[] ++ pa, [], trodAll_append (hargs _ (fun _ _ => rfl)) (hres _ _ _), hvr _, rfl, ?_, ?_⟩, ?_⟩
 ·intro b off hp
  have hp' : MemPlace.cell b off ∈ pa ++ [] := by simpa using hp
  rw [hb.frozen (p := ⟨b, off, none⟩) (hlt _ hp')]
  exact hz b off hp'
 ·intro ha
  simpa using hn ha
 ·intro p hp _
  simpa using hp
end
theorem z5U {P : Program} {k : Nat} {α ρ : Type} {enc : α → List A} {encR : ρ → A} {F : α → Option ρ} {gives : List Bool} {inj : ∀ x y, enc x = enc y → x = y} (h : (spF k enc encR F gives inj).Ok P) {x : α} {r : ρ} (hr : F x = some r) : Y6 P k (enc x) (encR r) := by
 have := h x ⟨r, hr⟩
 simpa only [spF, hr] using this
section
variable {P : Program} {w : World} {r : Reach} {base t : Nat} {v : Value}
theorem z3c {fs : Array Field} (hu : P.underlying t = some (.struct fs)) (h : Value.okWide P w r base t v) : v = .agg v.cells.toList.toArray := by
 unfold Value.okWide at h
 rw [hu] at h
 obtain ⟨cs, rfl, _⟩ := h
 rfl
theorem QD {fs : Array Field} {S : zh} {a : A} (hu : P.underlying t = some (.struct fs)) (hr : Rep S a v.cells.toList) (h : Value.okWide P w r base t v) (ha : a.isAgg = true) : wU S a v := ⟨_, hr, by cases a <;> first | exact z3c hu h | cases ha⟩
theorem z6y {S : zh} {h : Array Obj} {v : Value} {F : List Nat} (q : Has S h (.atom (.bool true)) v F) : v = .bool true := by
 rcases q with ⟨q, _⟩ | ⟨cs, q, _, rfl⟩
 ·rw [(zp.1 q).1]
 ·simp only [zA, Rep] at q
  obtain ⟨⟨rfl, _⟩, _⟩ := q
  rfl
end
end Go.Own

namespace Go.Own
open Go.Proofs
section
variable {H : Type} {enc : TypeId × Value → H} {w : World} {base : Nat} {spare : Nat → Bool} {held : Bool}
theorem z57 : Tryz.prog.cellsOf 5 = 1 := by kernel_rfl
theorem rd5 {Y7 : Nat} {cs : List Value} {x : DataW H × List MemPlace} (h : DataW.trod enc Tryz.prog w base spare held Y7 5 cs = some x) : ∃ a : Int, Ok5 a ∧ Rep (Kj w) ((eI .u8) a) cs := by
 obtain ⟨n, h1, _, h2⟩ := z4B Tryz.underlying5 (lo := 0) (hi := 255) rfl rfl h
 exact ⟨n, h1, h2⟩
theorem zaz : Tryz.prog.cellsOf 4 = 1 := by kernel_rfl
theorem rd4 {Y7 : Nat} {cs : List Value} {x : DataW H × List MemPlace} (h : DataW.trod enc Tryz.prog w base spare held Y7 4 cs = some x) : ∃ a : Bool, Ok4 a ∧ Rep (Kj w) (eB a) cs := by
 obtain ⟨n, h2⟩ := z6R Tryz.underlying4 h
 exact ⟨n, trivial, h2⟩
theorem z8Y : Tryz.prog.cellsOf 66 = 1 := by kernel_rfl
theorem zeK {Y7 : Nat} {cs : List Value} {x : DataW H × List MemPlace} (h : DataW.trod enc Tryz.prog w base spare held Y7 66 cs = some x) : ∃ a : Int, zdo a ∧ Rep (Kj w) ((eI .u16) a) cs := by
 obtain ⟨n, h1, _, h2⟩ := z4B Tryz.underlying66 (lo := 0) (hi := 65535) rfl rfl h
 exact ⟨n, h1, h2⟩
theorem z93 : Tryz.prog.cellsOf 22 = 1 := by kernel_rfl
theorem zeP {Y7 : Nat} {cs : List Value} {x : DataW H × List MemPlace} (h : DataW.trod enc Tryz.prog w base spare held Y7 22 cs = some x) : ∃ a : List Int, zeo a ∧ Rep (Kj w) ((eSl 1 false (eI .u16)) a) cs := by
 exact Qt (eI .u16) zdo Tryz.underlying22 z8Y (by omega) (fun _ => rfl) (fun _ _ _ q => zeK q) h
theorem z92 : Tryz.prog.cellsOf 24 = 5 := by kernel_rfl
theorem zeO {Y7 : Nat} {cs : List Value} {x : DataW H × List MemPlace} (h : DataW.trod enc Tryz.prog w base spare held Y7 24 cs = some x) : ∃ a : zY, zen a ∧ Rep (Kj w) ((jo (eI .u8) (eI .u8) (eI .u8) eB (eSl 1 false (eI .u16))) a) cs := by
 obtain ⟨hl, hf⟩ := WH Tryz.underlying24 h
 rw [z92] at hl
 obtain ⟨_, _, q0⟩ := hf 0 _ rfl
 obtain ⟨_, _, q1⟩ := hf 1 _ rfl
 obtain ⟨_, _, q2⟩ := hf 2 _ rfl
 obtain ⟨_, _, q3⟩ := hf 3 _ rfl
 obtain ⟨_, _, q4⟩ := hf 4 _ rfl
 simp only [z93, zaz, z57] at q0 q1 q2 q3 q4
 obtain ⟨a0, k0, r0⟩ := rd5 q0
 obtain ⟨a1, k1, r1⟩ := rd5 q1
 obtain ⟨a2, k2, r2⟩ := rd5 q2
 obtain ⟨a3, k3, r3⟩ := rd4 q3
 obtain ⟨a4, k4, r4⟩ := zeP q4
 refine ⟨⟨a0, a1, a2, a3, a4⟩, ⟨k0, k1, k2, k3, k4⟩, ?_⟩
 show Rep (Kj w) (.agg [(eI .u8) a0, (eI .u8) a1, (eI .u8) a2, eB a3, (eSl 1 false (eI .u16)) a4]) cs
 simp only [Rep]
 refine kM (n := 1) (by simpa [List.drop_drop] using r0) (kM (n := 1) (by simpa [List.drop_drop] using r1) (kM (n := 1) (by simpa [List.drop_drop] using r2) (kM (n := 1) (by simpa [List.drop_drop] using r3) (kM (n := 1) (by simpa [List.drop_drop] using r4) ?_))))
 simp only [List.drop_drop, zU]
 exact List.drop_eq_nil_of_le (by omega)
theorem z8Z : Tryz.prog.cellsOf 60 = 1 := by kernel_rfl
theorem zeL {Y7 : Nat} {cs : List Value} {x : DataW H × List MemPlace} (h : DataW.trod enc Tryz.prog w base spare held Y7 60 cs = some x) : ∃ a : List Int, zdp a ∧ Rep (Kj w) ((eSl 1 false (eI .u8)) a) cs := by
 exact Qt (eI .u8) Ok5 Tryz.underlying60 z57 (by omega) (fun _ => rfl) (fun _ _ _ q => rd5 q) h
theorem z91 : Tryz.prog.cellsOf 40 = 1 := by kernel_rfl
theorem zeN {Y7 : Nat} {cs : List Value} {x : DataW H × List MemPlace} (h : DataW.trod enc Tryz.prog w base spare held Y7 40 cs = some x) : ∃ a : List (List Int), zem a ∧ Rep (Kj w) ((eSl 1 false (eSl 1 false (eI .u8))) a) cs := by
 exact Qt (eSl 1 false (eI .u8)) zdp Tryz.underlying40 z8Z (by omega) (fun _ => rfl) (fun _ _ _ q => zeL q) h
theorem z90 : Tryz.prog.cellsOf 42 = 2 := by kernel_rfl
theorem zeM {Y7 : Nat} {cs : List Value} {x : DataW H × List MemPlace} (h : DataW.trod enc Tryz.prog w base spare held Y7 42 cs = some x) : ∃ a : ye, zel a ∧ Rep (Kj w) ((jn (eI .u8) (eSl 1 false (eSl 1 false (eI .u8)))) a) cs := by
 obtain ⟨hl, hf⟩ := WH Tryz.underlying42 h
 rw [z90] at hl
 obtain ⟨_, _, q0⟩ := hf 0 _ rfl
 obtain ⟨_, _, q1⟩ := hf 1 _ rfl
 simp only [z91, z57] at q0 q1
 obtain ⟨a0, k0, r0⟩ := rd5 q0
 obtain ⟨a1, k1, r1⟩ := zeN q1
 refine ⟨⟨a0, a1⟩, ⟨k0, k1⟩, ?_⟩
 show Rep (Kj w) (.agg [(eI .u8) a0, (eSl 1 false (eSl 1 false (eI .u8))) a1]) cs
 simp only [Rep]
 refine kM (n := 1) (by simpa [List.drop_drop] using r0) (kM (n := 1) (by simpa [List.drop_drop] using r1) ?_)
 simp only [List.drop_drop, zU]
 exact List.drop_eq_nil_of_le (by omega)
end
end Go.Own
namespace Go.Proofs.YthnpknbgpmlbhaaGreat.coversCovered
open Go Go.ChangeShapes Go.WideShapes Go.ChangeAt Go.RowKit
theorem own : ownKnob Tryz.prog.godebug = none := by kernel_rfl
theorem z8J : laidOutB Tryz.prog = true := by kernel_rfl
section
variable {H : Type} {enc : TypeId × Value → H} {W : World}
set_option maxRecDepth 100000 in
theorem zew {base : Nat} {v0 : Value} {d0 : DataW H} {p0 : List MemPlace} {v1 : Value} {d1 : DataW H} {p1 : List MemPlace} (h0 : DataW.Trod enc Tryz.prog W 0 (fun _ => true) true 24 v0 d0 p0) (h1 : DataW.Trod enc Tryz.prog W 0 (fun _ => true) true 42 v1 d1 p1) (k0 : Value.okWide Tryz.prog W .any base (24 : Nat) v0) (k1 : Value.okWide Tryz.prog W .any base (42 : Nat) v1) :
  Calls Tryz.prog 4 #[v0, v1] W fun e w' => e = .returned (.bool true) ∧ Go.Own.ZM (fun k => W.heap.size ≤ k) W w' := by
 obtain ⟨n0, h0⟩ := h0
 obtain ⟨x0, o0, r0⟩ := Go.Own.zeO h0
 obtain ⟨n1, h1⟩ := h1
 obtain ⟨x1, o1, r1⟩ := Go.Own.zeM h1
 have q := (Go.Own.z5U (Go.Own.z3p Go.Own.zaX List.mem_cons_self : Go.Own.vA.Ok Tryz.prog) (x := (x0, x1)) (r := true) (Go.Own.z6t o0 o1)).2 (Go.Own.Kj W) W [v0, v1] [] (fun _ _ _ h => h) ?_ (by simp)
 ·refine Calls.mono q ?_
  rintro e w' ⟨v, S', F', rfl, hk, _, _, _, hr, _, _⟩
  refine ⟨?_, hk.mono (by rintro k (h | h) <;> simp_all)⟩
  rw [Go.Own.z6y hr]
 ·refine Go.Own.kZ ?_
  have g0 : Go.Own.wU (Go.Own.Kj W) ((Go.Own.jo (Go.Own.eI .u8) (Go.Own.eI .u8) (Go.Own.eI .u8) Go.Own.eB (Go.Own.eSl 1 false (Go.Own.eI .u16))) x0) v0 := Go.Own.QD (t := (24 : Nat)) Tryz.underlying24 r0 k0 rfl
  have g1 : Go.Own.wU (Go.Own.Kj W) ((Go.Own.jn (Go.Own.eI .u8) (Go.Own.eSl 1 false (Go.Own.eSl 1 false (Go.Own.eI .u8)))) x1) v1 := Go.Own.QD (t := (42 : Nat)) Tryz.underlying42 r1 k1 rfl
  exact ⟨g0, g1, trivial⟩
end
set_option maxRecDepth 100000 in
theorem zaj (os : Os) (started : os.Started) (H : Type) (enc : TypeId × Value → H) :
  ReturnsInHanded {} Tryz.checked os 4 .any (Rows.coversCoveredSpec.pre6 enc Tryz.prog Tryz.f4 Rows.coversCoveredRow.domain false) (Rows.coversCoveredSpec.post enc Tryz.prog Tryz.f4 false true false false) := by
 refine returnsInHanded_of_change (C := Tryz.checked) own started (by kernel_rfl) Tryz.func4
  (ChangeSpec.witness6 (enc := enc) (C := Tryz.checked) false ⟨#[], #[.agg #[.int .u8 0, .int .u8 0, .int .u8 0, .bool false, .slice none 0 0], .agg #[.int .u8 0, .slice none 0 0]], []⟩ 8 (by kernel_rfl) (by kernel_rfl) (by kernel_rfl) (by kernel_rfl)) ?_
 intro W base args ds gs before hval0 hW hcnd _
 have hval : ∀ (j : Nat) t v, Tryz.f4.params[j]? = some t → args[j]? = some v → Value.okWide Tryz.prog W .any base t v := hval0
 have hW' := hW
 obtain ⟨p, q, hA0, hV, rfl, hfz, hnd⟩ := hW
 have hA : DataW.TrodAll enc Tryz.prog W 0 (fun _ => true) true Tryz.f4.params.toList args.toList ds p := hA0
 rw [Tryz.params4] at hA hval
 obtain ⟨v0, v1, d0, d1, p0, p1, rfl, rfl, rfl, h0, h1⟩ := trodAll_two hA
 obtain ⟨rfl, rfl⟩ := trodVars_none hV
 clear hA0 hval0
 refine (zew h0 h1 (hval 0 (24 : Nat) v0 rfl rfl) (hval 1 (42 : Nat) v1 rfl rfl)).mono fun e W' ⟨he, hk⟩ => ?_
 subst he
 have hb : Below W.heap.size W W' := ⟨hk.os, hk.tape, hk.output, hk.size, fun k q => hk.block k (by omega)⟩
 have hlt : ∀ x ∈ p0 ++ p1, x.block < W.heap.size := fun x hx => by simpa using hW'.lt x (by simpa using hx)
 refine ⟨_, rfl, Go.Own.z4c rfl rfl hW' hb (fun _ _ _ => trodAll_cons_mk (shut_bool Tryz.underlying4 _) trodAll_mk0) (fun sp hsp => ?_) (ok_one (by kernel_rfl) rfl (okWide_bool_mk Tryz.underlying4 _))⟩
 have st : ∀ {t : Nat} {v : Value} {d : DataW H} {p' : List MemPlace}, DataW.Trod enc Tryz.prog W 0 (fun _ => true) true t v d p' → Tryz.prog.readableRec t = true → t < Tryz.prog.types.size → (∀ x ∈ p', x ∈ p0 ++ p1) → DataW.Trod enc Tryz.prog W' 0 sp true t v d p' := by
  intro t v d p' hd h1 h2 hp
  exact WideElems.Trod_stays z8J h1 h2 hd (fun x hx => hb.same (hlt x (hp x hx))) (fun x hx => hsp x (by simpa using hp x hx))
 have := trodAll_mk2 (st h0 (by kernel_rfl) (of_decide_eq_true (by kernel_rfl)) (fun x hx => by simp [hx])) (st h1 (by kernel_rfl) (of_decide_eq_true (by kernel_rfl)) (fun x hx => by simp [hx]))
 rw [Tryz.params4]
 exact this
theorem Yu : Rows.coversCoveredRow.holds Tryz.pinned (OpenSpec.ofChange Rows.coversCoveredSpec) :=
 OpenClaim.holds_of_wide 4 Tryz.f4 rfl rfl rfl rfl rfl rfl rfl ⟨rfl, rfl, rfl, rfl, rfl⟩ rfl rfl rfl rfl rfl (by kernel_rfl) Tryz.func4 (by kernel_rfl)
  (of_decide_eq_true (by kernel_rfl)) (by unfold Func.isWrapper; first | (rw [if_pos (by decide +kernel)]; kernel_rfl) | (rw [if_neg (by decide +kernel)]; exact ⟨rfl, rfl⟩))
  (fun os started H enc _ => zaj os started H enc)
theorem proved : Rows.CoversCoveredSaid :=
 Yu
#print axioms proved
end Go.Proofs.YthnpknbgpmlbhaaGreat.coversCovered
