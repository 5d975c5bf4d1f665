/- Walks, further. -/
import Derived.Test.YtcldlioffanjaaaGreatDoorPartF
import Derived.Test.YtcldlioffanjaaaGreatDoorPartC
import Derived.Test.YtcldlioffanjaaaGreatDoorPartE
noncomputable section
set_option linter.unusedVariables false
set_option linter.unusedSimpArgs false
namespace Go.Own
theorem oB {α : Type _} {β : Type _} (a : α) (f : α → Option β) : Option.bind (some a) f = f a := rfl
open Go.Proofs
set_option maxRecDepth 100000
set_option maxHeartbeats 8000000
def zV : Code := (Tryz.f12.body).getD .skip
def uE : xm := spF (α := z6) (ρ := List zc × z8 × Int) 12 (fun x => [yN x]) (fun r => .tup [z5n r.1, z1u r.2.1, (eI .i64) r.2.2]) (fun x => wQ x) [] (Qb)
abbrev XK : List (Nat × T) := [(3, .own (.box (.agg [eOs 1 true (eI .i64) [], eOs 1 true F2_ []])))]
abbrev XJ (x_ : z6) (r_1 : List za × List (List z7) × Int) (by_ : List zt) (x69 : Int) : List (Nat × T) := [(1, .own (.box (yN x_))), (3, .own (.box (.agg [eOs 1 true (eI .i64) [], eOs 1 true F2_ []]))), (6, .d (eSl 24 false x7 r_1.1)), (9, .own (eOs 5 true Q5 by_)), (67, .d (eSl 1 true wJ r_1.2.1)), (68, .d (I ((r_1.2.1.length : Nat) : Int))), (69, .d (I x69))]
abbrev XI (x_ : z6) (r_1 : List za × List (List z7) × Int) (x69 : Int) (run : List zc) : List (Nat × T) := [(1, .own (.box (yN x_))), (3, .own (.box (.agg [eOs 1 true (eI .i64) [], eOs 1 true F2_ []]))), (6, .d (eSl 24 false x7 r_1.1)), (15, .d (I x69)), (17, .own (eOs 4 false w6 run))]
abbrev XE (x_ : z6) (r_1 : List za × List (List z7) × Int) (by_ : List zt) (x69 : Int) (run1 : List zc) (n_ : Int) : List (Nat × T) := [(1, .own (.box (yN x_))), (3, .own (.box (.agg [eOs 1 true (eI .i64) [], eOs 1 true F2_ []]))), (6, .d (eSl 24 false x7 r_1.1)), (9, .own (eOs 5 true Q5 by_)), (15, .d (I x69)), (17, .own (eOs 4 false w6 run1)), (18, .d (I n_))]
abbrev XF (x_ : z6) (r_1 : List za × List (List z7) × Int) (by_ : List zt) (x69 : Int) : List (Nat × T) := [(1, .own (.box (yN x_))), (3, .own (.box (.agg [eOs 1 true (eI .i64) [], eOs 1 true F2_ []]))), (6, .d (eSl 24 false x7 r_1.1)), (9, .own (eOs 5 true Q5 by_)), (67, .d (eSl 1 true wJ r_1.2.1)), (68, .d (I ((r_1.2.1.length : Nat) : Int))), (69, .d (I x69))]
abbrev XL (x_ : z6) (r_1 : List za × List (List z7) × Int) (by_ : List zt) : List (Nat × T) := [(1, .own (.box (yN x_))), (3, .own (.box (.agg [eOs 1 true (eI .i64) [], eOs 1 true F2_ []]))), (6, .d (eSl 24 false x7 r_1.1)), (7, .d (eSl 1 true wJ r_1.2.1)), (9, .own (eOs 5 true Q5 by_))]
abbrev XG (x_ : z6) (r_1 : List za × List (List z7) × Int) (x40 : Int) (by_2 : List zt) (seen1 : Int) : List (Nat × T) := [(1, .own (.box (yN x_))), (3, .own (.box (.agg [eOs 1 true (eI .i64) [], eOs 1 true F2_ []]))), (6, .d (eSl 24 false x7 r_1.1)), (7, .d (eSl 1 true wJ r_1.2.1)), (9, .own (eOs 5 true Q5 by_2)), (10, .d (I seen1)), (38, .d (eSl 1 true wJ r_1.2.1)), (39, .d (I ((r_1.2.1.length : Nat) : Int))), (40, .d (I x40))]
abbrev Xo (x_ : z6) (r_1 : List za × List (List z7) × Int) (x40 : Int) (u_3 : List z7) (x47 : Int) (by_4 : List zt) (seen3 : Int) : List (Nat × T) := [(1, .own (.box (yN x_))), (3, .own (.box (.agg [eOs 1 true (eI .i64) [], eOs 1 true F2_ []]))), (6, .d (eSl 24 false x7 r_1.1)), (7, .d (eSl 1 true wJ r_1.2.1)), (9, .own (eOs 5 true Q5 by_4)), (10, .d (I seen3)), (11, .d (I x40)), (38, .d (eSl 1 true wJ r_1.2.1)), (39, .d (I ((r_1.2.1.length : Nat) : Int))), (40, .d (I x40)), (45, .d (eSl 5 true kB u_3)), (46, .d (I ((u_3.length : Nat) : Int))), (47, .d (I x47))]
abbrev XC (x_ : z6) (r_1 : List za × List (List z7) × Int) (x40 : Int) (u_3 : List z7) (by_3 : List zt) (seen2 : Int) (x47 : Int) : List (Nat × T) := [(1, .own (.box (yN x_))), (3, .own (.box (.agg [eOs 1 true (eI .i64) [], eOs 1 true F2_ []]))), (6, .d (eSl 24 false x7 r_1.1)), (7, .d (eSl 1 true wJ r_1.2.1)), (9, .own (eOs 5 true Q5 by_3)), (10, .d (I seen2)), (11, .d (I x40)), (38, .d (eSl 1 true wJ r_1.2.1)), (39, .d (I ((r_1.2.1.length : Nat) : Int))), (40, .d (I x40)), (45, .d (eSl 5 true kB u_3)), (46, .d (I ((u_3.length : Nat) : Int))), (47, .d (I x47))]
abbrev XD (x_ : z6) (r_1 : List za × List (List z7) × Int) (by_1 : List zt) (seen : Int) (x40 : Int) : List (Nat × T) := [(1, .own (.box (yN x_))), (3, .own (.box (.agg [eOs 1 true (eI .i64) [], eOs 1 true F2_ []]))), (6, .d (eSl 24 false x7 r_1.1)), (7, .d (eSl 1 true wJ r_1.2.1)), (9, .own (eOs 5 true Q5 by_1)), (10, .d (I seen)), (38, .d (eSl 1 true wJ r_1.2.1)), (39, .d (I ((r_1.2.1.length : Nat) : Int))), (40, .d (I x40))]
theorem Vj {ctr : Ctr} (hC : zW Tryz.prog ctr) (h05 : ctr.Has wR) (h0f : ctr.Has wc) (h0W : ctr.Has uD) (h0i : ctr.Has yn) (h0g : ctr.Has xV) : uE.Ok Tryz.prog := by
 refine y7 ?_
 rintro x_ r0 hf0
 try unfold wQ at hf0
 refine yO false [(2, none), (3, some 39), (4, none)] zV 113 Tryz.func12 fun E hE => ?_
 obtain ⟨r_, h0, hf0⟩ := zl hf0
 let Z0 : List HO := [Hc h05 (x := x_) h0 (loC yN x_ <| loN)]
 rcases zR hf0 with ⟨c0, hf0⟩ | ⟨c0, hf0⟩
 ·obtain rfl := zi hf0
  exact yEx X0 hC hE (Z0 ++ [Hq c0, Hm (shM w6 w6 []), Hm (shM (eI .i64) (eI .i64) []), Hm (shM F2_ F2_ [])]) (.tup [eSl 4 true w6 [], .agg [eSl 1 true (eI .i64) [], eSl 1 true F1_ []], I r_]) (show LeV (.tup [eSl 4 true w6 [], .agg [eSl 1 true (eI .i64) [], eSl 1 true F1_ []], I r_]) (.tup [eSl 4 true w6 ([] : List zc), .agg [eSl 1 true (eI .i64) [], eSl 1 true F1_ []], I r_]) from inferInstance)
 ·obtain ⟨r_1, h1, hf0⟩ := zl hf0
  let Z1 : List HO := (Z0 ++ [Hq c0, Hc h0f (x := x_) h1 (loC yN x_ <| loN)])
  rcases zR hf0 with ⟨c1, hf0⟩ | ⟨c1, hf0⟩
  ·obtain rfl := zi hf0
   exact yEx X0 hC hE (Z1 ++ [Hq c1, Hm (shM w6 w6 []), Hm (shM (eI .i64) (eI .i64) []), Hm (shM F2_ F2_ [])]) (.tup [eSl 4 true w6 [], .agg [eSl 1 true (eI .i64) [], eSl 1 true F1_ []], I r_1.2.2]) (show LeV (.tup [eSl 4 true w6 [], .agg [eSl 1 true (eI .i64) [], eSl 1 true F1_ []], I r_1.2.2]) (.tup [eSl 4 true w6 ([] : List zc), .agg [eSl 1 true (eI .i64) [], eSl 1 true F1_ []], I r_1.2.2]) from inferInstance)
  ·obtain ⟨g0, hf0⟩ := gdE hf0
   refine yJ X0 hC zV [1,1,1,1,1,1] [] [1,3,6,7,9] (fun z : List zt => jw x_ r_1 z = some r0) (fun z => XL x_ r_1 z) [(1, .own (.box (yN x_))), (3, .own (.box (.agg [eOs 1 true (eI .i64) [], eOs 1 true F2_ []]))), (6, .d (eSl 24 false x7 r_1.1)), (7, .d (eSl 1 true wJ r_1.2.1)), (9, .own (eOs 5 true Q5 (List.replicate ((r_1.1.length : Nat) : Int).toNat (zt.mk 0 (zc.mk 0 0 0 0))))), (10, .d (I 1))] (Z1 ++ [Hq c1, Ha (lnM x7 r_1.1), Hn (rL g0), Ha (rM 5 Q5 ((r_1.1.length : Nat) : Int) (zt.mk 0 (zc.mk 0 0 0 0))), Hh (.cut 1)]) ?_ fun J1 hJ1 => ?_
   ·rintro by_ hf0
    unfold jw at hf0
    refine yJ X0 hC zV [1,1,1,1,1,1,1] [] [3] (fun z : Unit => jv = some r0) (fun z => XK) [(1, .own (.box (yN x_))), (3, .own (.box (.agg [eOs 1 true (eI .i64) [], eOs 1 true F2_ []]))), (6, .d (eSl 24 false x7 r_1.1)), (7, .d (eSl 1 true wJ r_1.2.1)), (9, .own (eOs 5 true Q5 by_))] [Hh (.cut 0)] ?_ fun J2 hJ2 => ?_
    ·rintro ⟨⟩ hf0
     unfold jv at hf0
     obtain rfl := zi hf0
     exact yEx X0 hC hE [Hm (shM w6 w6 []), Hm (shM (eI .i64) (eI .i64) []), Hm (shM F2_ F2_ [])] (.tup [eSl 4 true w6 [], .agg [eSl 1 true (eI .i64) [], eSl 1 true F1_ []], I 7]) (show LeV (.tup [eSl 4 true w6 [], .agg [eSl 1 true (eI .i64) [], eSl 1 true F1_ []], I 7]) (.tup [eSl 4 true w6 ([] : List zc), .agg [eSl 1 true (eI .i64) [], eSl 1 true F1_ []], I 7]) from inferInstance)
    ·obtain ⟨t3, ht3, hf0⟩ := zl hf0
     refine yL X0 hC zV [1,1,1,1,1,1,1,2,1,0] [J2] (fun s => js x_ r_1 by_ s) (fun x => XF x_ r_1 by_ x) 0 ht3  [Ha (lnM wJ r_1.2.1)] ?_
     rintro x69 m3 lr1 hf1 hl1 J3 hJ3
     try unfold js at hf1
     rcases zR hf1 with ⟨c2, hf1⟩ | ⟨c2, hf1⟩
     ·refine yJ X0 hC zV [1,1,1,1,1,1,1,2,1,0,0,1,1] [J2, J3] [1,3,6,9,67,68,69] (fun z : Unit => uB x69 = some lr1) (fun z => XJ x_ r_1 by_ x69) [(1, .own (.box (yN x_))), (3, .own (.box (.agg [eOs 1 true (eI .i64) [], eOs 1 true F2_ []]))), (6, .d (eSl 24 false x7 r_1.1)), (9, .own (eOs 5 true Q5 by_)), (67, .d (eSl 1 true wJ r_1.2.1)), (68, .d (I ((r_1.2.1.length : Nat) : Int))), (69, .d (I x69))] [Hq c2, Hh (.cut 0)] ?_ fun J4 hJ4 => ?_
      ·rintro ⟨⟩ hf1
       unfold uB at hf1
       obtain rfl := zi hf1
       exact yB X0 hC hJ3 (w64 (x69 + 1)) hl1 []
      ·obtain ⟨u_, h2, hf1⟩ := zl hf1
       let Z2 : List HO := [Hi wJ h2, Ha (lnM kB u_)]
       rcases zR hf1 with ⟨c3, hf1⟩ | ⟨c3, hf1⟩
       ·exact yB X0 hC hJ4 () hf1 (Z2 ++ (rpN 7 (Hq c3) [qT]))
       ·obtain ⟨u_1, h3, hf1⟩ := zl hf1
        obtain ⟨r_2, h4, hf1⟩ := zl hf1
        let Z3 : List HO := (Z2 ++ (rpN 4 (Hq c3) [Hi x7 h3, Hq c3, Hq c3, Hc h0W (x := (x_, u_1)) h4 (loC yN x_ <| loC x7 u_1 <| loN), Hq c3]))
        rcases zR hf1 with ⟨c4, hf1⟩ | ⟨c4, hf1⟩
        ·exact yB X0 hC hJ4 () hf1 (Z3 ++ [Hq c4])
        ·refine yJ X0 hC zV [1,1,1,1,1,1,1,2,1,0,0,1,1,2,0,1,1,1] [J2, J3, J4] [1,3,6,15,17] (fun z : List zc => ju x_ r_1 x69 z = some lr1) (fun z => XI x_ r_1 x69 z) [(1, .own (.box (yN x_))), (3, .own (.box (.agg [eOs 1 true (eI .i64) [], eOs 1 true F2_ []]))), (6, .d (eSl 24 false x7 r_1.1)), (9, .own (eOs 5 true Q5 by_)), (15, .d (I x69)), (17, .own (eOs 4 true w6 []))] (Z3 ++ [Hq c4, Hh (.cut 1)]) ?_ fun J5 hJ5 => ?_
         ·rintro run hf1
          unfold ju at hf1
          refine yA X0 hC zV [1,1,1,1,1,1,1,2,1,0,0,1,1,2,0,1,1,1,1] [J2, J3, J4] [(1, .own (.box (yN x_))), (3, .own (.box (.agg [eOs 1 true (eI .i64) [], eOs 1 true F2_ []]))), (6, .d (eSl 24 false x7 r_1.1)), (15, .d (I x69)), (17, .own (eOs 4 false w6 run))] [Hh (.cut 0)] ?_
          obtain ⟨r_3, h5, hf1⟩ := zl hf1
          refine z1p (by kernel_rfl) (x := (sub [1,1,1,1,1,1,1,2,1,0,0,1,1,2,0,1,1,1,1,0] zV)) (y := (sub [1,1,1,1,1,1,1,2,1,0,0,1,1,2,0,1,1,1,1,1] zV)) 17 (fun st1 => Own.canon [1,3,6,15,17] st1 = ofL [(1, .own (.box (yN x_))), (3, .own (.box (.agg [eOs 1 true (eI .i64) [], eOs 1 true F2_ []]))), (6, .d (eSl 24 false x7 r_1.1)), (15, .d (I x69)), (17, .own (eOs 4 false w6 r_3))]) (fun pv17 => yF ((jC (P := Tryz.prog) wB [17] (uO hC pv17 _ _ h5) 102).or X0) hC .normal [(1, .own (.box (yN x_))), (3, .own (.box (.agg [eOs 1 true (eI .i64) [], eOs 1 true F2_ []]))), (6, .d (eSl 24 false x7 r_1.1)), (15, .d (I x69)), (17, .own (eOs 4 false w6 r_3))] [Hn (XR (f := .fn 43 []) (xs := [.atom pv17]) (ls := [(pv17, eOs 4 false w6 run)]) (r := .tup []) (ys := [eOs 4 false w6 r_3]) [.atom pv17] (show z0h [.atom pv17] [.atom pv17] from inferInstance))] fun st0 h0 => ⟨rfl, h0⟩) fun st1 h1 => z09 h1 ?_
          obtain ⟨r_4, h6, hf1⟩ := zl hf1
          obtain ⟨u_2, h7, hf1⟩ := zl hf1
          obtain ⟨r_5, h8, hf1⟩ := zl hf1
          obtain rfl := zi hf1
          obtain rfl := hl1
          obtain rfl := zi hf0
          exact yE X0 hC hE [Hg (z1x h0i), Hm (shM w6 w6 r_3), Hs (z1y h0i (x := r_3) h6 (loC z9t r_3 <| loN)), Hm (shM w6 w6 r_3), Hi x7 h7, Hc h0g (x := (x_, u_2)) h8 (loC yN x_ <| loC x7 u_2 <| loN)]
         ·obtain ⟨t6, ht6, hf1⟩ := zl hf1
          refine yLx X0 hC zV [1,1,1,1,1,1,1,2,1,0,0,1,1,2,0,1,1,1,2,1,0] [J2, J3, J4, J5] (fun s => jr by_ s.1 s.2) (fun x => XE x_ r_1 by_ x69 x.1 x.2) (([] : List zc), x69) ht6 [(1, .own (.box (yN x_))), (3, .own (.box (.agg [eOs 1 true (eI .i64) [], eOs 1 true F2_ []]))), (6, .d (eSl 24 false x7 r_1.1)), (9, .own (eOs 5 true Q5 by_)), (15, .d (I x69)), (17, .own (eOs 4 true w6 [])), (18, .d (I x69))] inferInstance [] ?_
          rintro ⟨run1, n_⟩ m6 lr2 hf2 hl2 J6 hJ6
          try unfold jr at hf2
          rcases zR hf2 with ⟨c5, hf2⟩ | ⟨c5, hf2⟩
          ·obtain ⟨by__e, h9, hf2⟩ := zl hf2
           obtain ⟨g1, hf2⟩ := gdE hf2
           obtain ⟨by__e1, h10, hf2⟩ := zl hf2
           obtain rfl := zi hf2
           exact yB X0 hC hJ6 ((run1 ++ ([by__e.move_] : List zc)), by__e1.from_) hl2 [Hq c5, Hn (iL Q5 h9), Hs (iM Q5 h9), Hs (iM Q5 h9), Hq (dM w6 ([by__e.move_] : List zc)), Hn (dM w6 ([by__e.move_] : List zc)), Hn (aL w6 w6 g1), Hl (aM w6 run1 ([by__e.move_] : List zc)), Hn (iL Q5 h10), Hs (iM Q5 h10), Hs (iM Q5 h10)]
          ·obtain rfl := zi hf2
           obtain rfl := hl2
           exact yB X0 hC hJ5 run1 hf1 [Hq c5]
     ·obtain rfl := zi hf1
      obtain rfl := hl1
      exact yB X0 hC hJ2 () hf0 [Hq c2]
   ·obtain ⟨t7, ht7, hf0⟩ := zl hf0
    refine yL X0 hC zV [1,1,1,1,1,1,2,1,0] [J1] (fun s => jq r_1 s.1 s.2.1 s.2.2) (fun x => XD x_ r_1 x.1 x.2.1 x.2.2) ((List.replicate ((r_1.1.length : Nat) : Int).toNat (zt.mk 0 (zc.mk 0 0 0 0))), 1,0) ht7  [Ha (lnM wJ r_1.2.1)] ?_
    rintro ⟨by_1, seen, x40⟩ m7 lr1 hf1 hl1 J7 hJ7
    try unfold jq at hf1
    rcases zR hf1 with ⟨c6, hf1⟩ | ⟨c6, hf1⟩
    ·refine yJ X0 hC zV [1,1,1,1,1,1,2,1,0,0,1,1] [J1, J7] [1,3,6,7,9,10,38,39,40] (fun z : List zt × Int => jt x40 z.1 z.2 = some lr1) (fun z => XG x_ r_1 x40 z.1 z.2) [(1, .own (.box (yN x_))), (3, .own (.box (.agg [eOs 1 true (eI .i64) [], eOs 1 true F2_ []]))), (6, .d (eSl 24 false x7 r_1.1)), (7, .d (eSl 1 true wJ r_1.2.1)), (9, .own (eOs 5 true Q5 by_1)), (10, .d (I seen)), (38, .d (eSl 1 true wJ r_1.2.1)), (39, .d (I ((r_1.2.1.length : Nat) : Int))), (40, .d (I x40))] [Hq c6, Hh (.cut 0)] ?_ fun J8 hJ8 => ?_
     ·rintro ⟨by_2, seen1⟩ hf1
      unfold jt at hf1
      obtain rfl := zi hf1
      exact yB X0 hC hJ7 (by_2, seen1, w64 (x40 + 1)) hl1 []
     ·obtain ⟨u_3, h11, hf1⟩ := zl hf1
      obtain ⟨t9, ht9, hf1⟩ := zl hf1
      refine yL X0 hC zV [1,1,1,1,1,1,2,1,0,0,1,1,2,0,1,1,0] [J1, J7, J8] (fun s => jp x40 u_3 s.1 s.2.1 s.2.2) (fun x => XC x_ r_1 x40 u_3 x.1 x.2.1 x.2.2) (by_1, seen, 0) ht9  [Hi wJ h11, Ha (lnM kB u_3)] ?_
      rintro ⟨by_3, seen2, x47⟩ m9 lr2 hf2 hl2 J9 hJ9
      try unfold jp at hf2
      rcases zR hf2 with ⟨c7, hf2⟩ | ⟨c7, hf2⟩
      ·refine yJ X0 hC zV [1,1,1,1,1,1,2,1,0,0,1,1,2,0,1,1,0,0,1,1] [J1, J7, J8, J9] [1,3,6,7,9,10,11,38,39,40,45,46,47] (fun z : List zt × Int => vZ x47 z.1 z.2 = some lr2) (fun z => Xo x_ r_1 x40 u_3 x47 z.1 z.2) [(1, .own (.box (yN x_))), (3, .own (.box (.agg [eOs 1 true (eI .i64) [], eOs 1 true F2_ []]))), (6, .d (eSl 24 false x7 r_1.1)), (7, .d (eSl 1 true wJ r_1.2.1)), (9, .own (eOs 5 true Q5 by_3)), (10, .d (I seen2)), (11, .d (I x40)), (38, .d (eSl 1 true wJ r_1.2.1)), (39, .d (I ((r_1.2.1.length : Nat) : Int))), (40, .d (I x40)), (45, .d (eSl 5 true kB u_3)), (46, .d (I ((u_3.length : Nat) : Int))), (47, .d (I x47))] [Hq c7, Hh (.cut 0)] ?_ fun J10 hJ10 => ?_
       ·rintro ⟨by_4, seen3⟩ hf2
        unfold vZ at hf2
        obtain rfl := zi hf2
        exact yB X0 hC hJ9 (by_4, seen3, w64 (x47 + 1)) hl2 []
       ·obtain ⟨u__e, h12, hf2⟩ := zl hf2
        let Z4 : List HO := [Hi kB h12]
        rcases zR hf2 with ⟨c8, hf2⟩ | ⟨c8, hf2⟩
        ·obtain ⟨by__e2, h13, hf2⟩ := zl hf2
         exact yB X0 hC hJ10 ((by_3.set u__e.To.toNat (zt.mk x40 u__e.Move)), w64 (seen2 + 1)) hf2 (Z4 ++ [Hq c8, Hn (iL Q5 h13), Hs (iM Q5 h13), Hs (iM Q5 h13), Hl (sM Q5 by_3 u__e.To (zt.mk x40 u__e.Move))])
        ·exact yB X0 hC hJ10 (by_3, seen2) hf2 (Z4 ++ [Hq c8])
      ·obtain rfl := zi hf2
       obtain rfl := hl2
       exact yB X0 hC hJ8 (by_3, seen2) hf1 [Hq c7]
    ·obtain rfl := zi hf1
     obtain rfl := hl1
     exact yB X0 hC hJ1 by_1 hf0 [Hq c6]
def Yu : Code := (Tryz.f15.body).getD .skip
def Yg : xm := spF (α := List zc × List zc) (ρ := Int) 15 (fun x => [z5n x.1, z9t x.2]) (fun r => (eI .i64) r) (fun x => WT x.1 x.2) [] (VV)
abbrev UF : List (Nat × T) := []
abbrev UE (a_ : List zc) (b_ : List zc) (i_ : Int) : List (Nat × T) := [(0, .d (eSl 4 true w6 a_)), (1, .d (eSl 4 false w6 b_)), (5, .d (I i_))]
theorem KA {ctr : Ctr} (hC : zW Tryz.prog ctr) : Yg.Ok Tryz.prog := by
 refine y7 ?_
 rintro ⟨a_, b_⟩ r0 hf0
 try unfold WT at hf0
 refine yO true [(4, none)] Yu 33 Tryz.func15 fun E hE => ?_
 let Z0 : List HO := [Ha (lnM w6 a_), Ha (lnM w6 b_)]
 rcases zR hf0 with ⟨c0, hf0⟩ | ⟨c0, hf0⟩
 ·obtain rfl := zi hf0
  exact yE X0 hC hE (Z0 ++ (rpN 6 (Hq c0) [qT]))
 ·let Z1 : List HO := (Z0 ++ [Hq c0, Hq c0, Ha (lnM w6 a_), Hq c0, Hq c0, Ha (lnM w6 a_), Hq c0, Hq c0])
  rcases zR hf0 with ⟨c1, hf0⟩ | ⟨c1, hf0⟩
  ·obtain rfl := zi hf0
   exact yE X0 hC hE (Z1 ++ [Hq c1])
  ·refine yJ X0 hC Yu [1,1] [] [] (fun z : Unit => Ym = some r0) (fun z => UF) [(0, .d (eSl 4 true w6 a_)), (1, .d (eSl 4 false w6 b_))] (Z1 ++ [Hq c1, Hh (.cut 0)]) ?_ fun J1 hJ1 => ?_
   ·rintro ⟨⟩ hf0
    unfold Ym at hf0
    obtain rfl := zi hf0
    exact yE X0 hC hE []
   ·obtain ⟨t2, ht2, hf0⟩ := zl hf0
    refine yL X0 hC Yu [1,1,2,1,0] [J1] (fun s => Yl a_ b_ s) (fun x => UE a_ b_ x) 0 ht2  [] ?_
    rintro i_ m2 lr1 hf1 hl1 J2 hJ2
    try unfold Yl at hf1
    let Z2 : List HO := [Ha (lnM w6 a_)]
    rcases zR hf1 with ⟨c2, hf1⟩ | ⟨c2, hf1⟩
    ·obtain ⟨a__e, h0, hf1⟩ := zl hf1
     obtain ⟨b__e, h1, hf1⟩ := zl hf1
     let Z3 : List HO := (Z2 ++ [Hq c2, Hi w6 h0, Hi w6 h1])
     rcases zR hf1 with ⟨c3, hf1⟩ | ⟨c3, hf1⟩
     ·obtain rfl := zi hf1
      obtain rfl := hl1
      obtain rfl := zi hf0
      exact yE X0 hC hE (Z3 ++ [Hq c3])
     ·obtain rfl := zi hf1
      exact yB X0 hC hJ2 (w64 (i_ + 1)) hl1 (Z3 ++ [Hq c3])
    ·obtain rfl := zi hf1
     obtain rfl := hl1
     exact yB X0 hC hJ1 () hf0 (Z2 ++ [Hq c2])
def WH : Code := (Tryz.f11.body).getD .skip
def Yh : xm := spF (α := Unit) (ρ := Bool) 11 (fun x => []) (fun r => eB r) (fun x => wS) [] (fun _ _ _ => rfl)
theorem KB {ctr : Ctr} (hC : zW Tryz.prog ctr) (h00 : ctr.Has YV) (h0m : ctr.Has jj) (h03 : ctr.Has Zt) (h08 : ctr.Has YW) (h02 : ctr.Has Yj) (h0j : ctr.Has qm) (h0n : ctr.Has kR) (h0o : ctr.Has uE) (h0p : ctr.Has Yg) (h0s : ctr.Has Zd) : Yh.Ok Tryz.prog := by
 refine y7 ?_
 rintro ⟨⟩ r0 hf0
 try unfold wS at hf0
 refine yO true [(0, none)] WH 166 Tryz.func11 fun E hE => ?_
 obtain ⟨r_, h0, hf0⟩ := zl hf0
 obtain ⟨r_1, h1, hf0⟩ := zl hf0
 obtain ⟨r_2, h2, hf0⟩ := zl hf0
 obtain ⟨r_3, h3, hf0⟩ := zl hf0
 obtain ⟨r_4, h4, hf0⟩ := zl hf0
 obtain ⟨r_5, h5, hf0⟩ := zl hf0
 obtain ⟨r_6, h6, hf0⟩ := zl hf0
 obtain ⟨r_7, h7, hf0⟩ := zl hf0
 obtain ⟨r_8, h8, hf0⟩ := zl hf0
 obtain ⟨r_9, h9, hf0⟩ := zl hf0
 obtain ⟨r_10, h10, hf0⟩ := zl hf0
 refine yA ((jC (P := Tryz.prog) wB [] (lentCall (wd hC h00 (x := (1, ([(zf.mk 0 2 0 0 0)] : List zf))) h0)) 19).or X0) hC WH [1,1,1,1,1,0] [] [(1, .own (.box (z7B r_))), (2, .d (eSl 2 true qB r_1.1)), (3, .d (eSl 1 true wJ r_1.2.1)), (4, .d (I r_1.2.2)), (5, .own (eOs 2 true z7D ([r_2, r_3, r_4, r_5]))), (6, .own (eOs 1 true (eOs 5 true kB) ([[(z7.mk r_6 1)], [(z7.mk r_7 2), (z7.mk r_8 3)], [(z7.mk r_9 0)], [(z7.mk r_10 0)]])))] [Hm (shM kg kg ([(zf.mk 0 2 0 0 0)])), Hn (XR (f := .fn 37 []) (xs := [(eI .i64) 1, z33 ([(zf.mk 0 2 0 0 0)] : List zf)]) (ls := []) (r := .agg [I r_.Messages, I r_.Labels, eSl 1 true (eI .i64) r_.Channels, eSl 3 true z9r r_.Parts]) (ys := []) [(eI .i64) 1, z33 ([(zf.mk 0 2 0 0 0)] : List zf)] (show z0h [(eI .i64) 1, z33 ([(zf.mk 0 2 0 0 0)] : List zf)] [(eI .i64) 1, z33 ([(zf.mk 0 2 0 0 0)] : List zf)] from inferInstance)), Hc h0m (x := r_) h1 (loC z7B r_ <| loN), Hc h03 (x := (0,0, [])) h2 (loC (eI .i64) 0 <| loC (eI .i64) 0 <| loC F1_ ([] : List Int) <| loN), Hg (z1x h03), Hm (shM (eI .i64) (eI .i64) ([0])), Hs (z1y h03 (x := (1,0, [0])) h3 (loC (eI .i64) 1 <| loC (eI .i64) 0 <| loC F1_ ([0] : List Int) <| loN)), Hm (shM (eI .i64) (eI .i64) ([0])), Hg (z1x h03), Hm (shM (eI .i64) (eI .i64) ([0])), Hs (z1y h03 (x := (0,0, [0])) h4 (loC (eI .i64) 0 <| loC (eI .i64) 0 <| loC F1_ ([0] : List Int) <| loN)), Hm (shM (eI .i64) (eI .i64) ([0])), Hc h03 (x := (1,0, [])) h5 (loC (eI .i64) 1 <| loC (eI .i64) 0 <| loC F1_ ([] : List Int) <| loN), Hc h08 (x := (0,0)) h6 (loC (eI .i64) 0 <| loC (eI .i64) 0 <| loN), Hc h08 (x := (0,1)) h7 (loC (eI .i64) 0 <| loC (eI .i64) 1 <| loN), Hc h08 (x := (1,0)) h8 (loC (eI .i64) 1 <| loC (eI .i64) 0 <| loN), Hc h08 (x := (1,0)) h9 (loC (eI .i64) 1 <| loC (eI .i64) 0 <| loN), Hc h08 (x := (0,1)) h10 (loC (eI .i64) 0 <| loC (eI .i64) 1 <| loN), Hh (.cut 1)] ?_
 rcases zR hf0 with ⟨c0, hf0⟩ | ⟨c0, hf0⟩
 ·obtain rfl := zi hf0
  exact yE X0 hC hE (rpN 7 (Hq c0) [qT])
 ·obtain ⟨r_11, h11, hf0⟩ := zl hf0
  let Z0 : List HO := (rpN 5 (Hq c0) [Hm (shM z7D z7D ([r_2, r_3, r_4, r_5])), Hm (shM (eOs 5 true kB) wJ ([[(z7.mk r_6 1)], [(z7.mk r_7 2), (z7.mk r_8 3)], [(z7.mk r_9 0)], [(z7.mk r_10 0)]])), Hn (XR (f := .fn 40 []) (xs := [z5f r_1.1, z2i r_1.2.1, z9s ([r_2, r_3, r_4, r_5] : List z8), zc4 ([[(z7.mk r_6 1)], [(z7.mk r_7 2), (z7.mk r_8 3)], [(z7.mk r_9 0)], [(z7.mk r_10 0)]] : List (List z7))]) (ls := []) (r := I r_11) (ys := []) [z5f r_1.1, z2i r_1.2.1, zcc ([r_2, r_3, r_4, r_5] : List z8), z2i ([[(z7.mk r_6 1)], [(z7.mk r_7 2), (z7.mk r_8 3)], [(z7.mk r_9 0)], [(z7.mk r_10 0)]] : List (List z7))] (show z0h [z5f r_1.1, z2i r_1.2.1, zcc ([r_2, r_3, r_4, r_5] : List z8), z2i ([[(z7.mk r_6 1)], [(z7.mk r_7 2), (z7.mk r_8 3)], [(z7.mk r_9 0)], [(z7.mk r_10 0)]] : List (List z7))] [z5f r_1.1, z2i r_1.2.1, z9s ([r_2, r_3, r_4, r_5] : List z8), zc4 ([[(z7.mk r_6 1)], [(z7.mk r_7 2), (z7.mk r_8 3)], [(z7.mk r_9 0)], [(z7.mk r_10 0)]] : List (List z7))] from inferInstance)), Hq c0, Hq c0])
  rcases zR hf0 with ⟨c1, hf0⟩ | ⟨c1, hf0⟩
  ·obtain rfl := zi hf0
   exact yE ((jC (P := Tryz.prog) wB [] (lentCall (wd hC h02 (x := (r_1.1, r_1.2.1, ([r_2, r_3, r_4, r_5] : List z8), ([[(z7.mk r_6 1)], [(z7.mk r_7 2), (z7.mk r_8 3)], [(z7.mk r_9 0)], [(z7.mk r_10 0)]] : List (List z7)))) h11)) 55).or X0) hC hE (Z0 ++ [Hq c1])
  ·obtain ⟨r_12, h12, hf0⟩ := zl hf0
   obtain ⟨r_13, h13, hf0⟩ := zl hf0
   let Z1 : List HO := (Z0 ++ [Hq c1, Hc h0j (x := (r_, [])) h12 (loC z7B r_ <| loC F1_ ([] : List Int) <| loN), Hg (z1x h0j), Hm (shM (eI .i64) (eI .i64) ([0])), Hs (z1y h0j (x := (r_, [0])) h13 (loC z7B r_ <| loC F1_ ([0] : List Int) <| loN)), Hm (shM (eI .i64) (eI .i64) ([0]))])
   rcases zR hf0 with ⟨c2, hf0⟩ | ⟨c2, hf0⟩
   ·obtain rfl := zi hf0
    exact yE ((jC (P := Tryz.prog) wB [] (lentCall (wd hC h02 (x := (r_1.1, r_1.2.1, ([r_2, r_3, r_4, r_5] : List z8), ([[(z7.mk r_6 1)], [(z7.mk r_7 2), (z7.mk r_8 3)], [(z7.mk r_9 0)], [(z7.mk r_10 0)]] : List (List z7)))) h11)) 55).or X0) hC hE (Z1 ++ (Hq c2 :: Hq c2 :: Hq c2 :: (rpN 10 qT [])))
   ·rcases zR hf0 with ⟨c3, hf0⟩ | ⟨c3, hf0⟩
    ·obtain rfl := zi hf0
     exact yE ((jC (P := Tryz.prog) wB [] (lentCall (wd hC h02 (x := (r_1.1, r_1.2.1, ([r_2, r_3, r_4, r_5] : List z8), ([[(z7.mk r_6 1)], [(z7.mk r_7 2), (z7.mk r_8 3)], [(z7.mk r_9 0)], [(z7.mk r_10 0)]] : List (List z7)))) h11)) 55).or X0) hC hE (Z1 ++ (Hq c2 :: Hq c2 :: Hq c2 :: (rpN 9 (Hq c3) [qT])))
    ·obtain ⟨r_14, h14, hf0⟩ := zl hf0
     obtain ⟨r_15, h15, hf0⟩ := zl hf0
     let Z2 : List HO := (Z1 ++ [Hq c2, Hq c2, Hq c2, Hq c3, Hq c3, Hq c3, Hg (z1x h0n), Hm (shM (eOs 3 true F6_) F9_ ([[(ze.mk 0 0 1)], [(ze.mk 0 0 3), (ze.mk 2 0 2)], [(ze.mk 0 0 0)], [(ze.mk 2 0 0)]])), Hs (z1y h0n (x := (r_12.1, (zC.mk 0 1 ([[(ze.mk 0 0 1)], [(ze.mk 0 0 3), (ze.mk 2 0 2)], [(ze.mk 0 0 0)], [(ze.mk 2 0 0)]])))) h14 (loC z9e r_12.1 <| loC (uL (eI .i64) (eI .i64) (eSl 1 true F9_)) (zC.mk 0 1 ([[(ze.mk 0 0 1)], [(ze.mk 0 0 3), (ze.mk 2 0 2)], [(ze.mk 0 0 0)], [(ze.mk 2 0 0)]])) <| loN)), Hq c3, Hq c3, Hq c3, Hg (z1x h0n), Hm (shM (eOs 3 true F6_) F9_ ([[(ze.mk 0 0 1)], [(ze.mk 0 0 2), (ze.mk 0 0 3)], [(ze.mk 0 0 0)], [(ze.mk 0 0 0)]])), Hs (z1y h0n (x := (r_13.1, (zC.mk 0 1 ([[(ze.mk 0 0 1)], [(ze.mk 0 0 2), (ze.mk 0 0 3)], [(ze.mk 0 0 0)], [(ze.mk 0 0 0)]])))) h15 (loC z9e r_13.1 <| loC (uL (eI .i64) (eI .i64) (eSl 1 true F9_)) (zC.mk 0 1 ([[(ze.mk 0 0 1)], [(ze.mk 0 0 2), (ze.mk 0 0 3)], [(ze.mk 0 0 0)], [(ze.mk 0 0 0)]])) <| loN)), Hq c3, Hq c3, Hq c3])
     rcases zR hf0 with ⟨c4, hf0⟩ | ⟨c4, hf0⟩
     ·obtain rfl := zi hf0
      exact yE ((jC (P := Tryz.prog) wB [] (lentCall (wd hC h02 (x := (r_1.1, r_1.2.1, ([r_2, r_3, r_4, r_5] : List z8), ([[(z7.mk r_6 1)], [(z7.mk r_7 2), (z7.mk r_8 3)], [(z7.mk r_9 0)], [(z7.mk r_10 0)]] : List (List z7)))) h11)) 55).or X0) hC hE (Z2 ++ [Hq c4])
     ·obtain ⟨r_16, h16, hf0⟩ := zl hf0
      obtain ⟨r_17, h17, hf0⟩ := zl hf0
      obtain ⟨r_18, h18, hf0⟩ := zl hf0
      obtain ⟨r_19, h19, hf0⟩ := zl hf0
      obtain ⟨r_20, h20, hf0⟩ := zl hf0
      let Z3 : List HO := (Z2 ++ [Hq c4, Hc h0o (x := r_) h16 (loC z7B r_ <| loN), Hn (XR (f := .fn 37 []) (xs := [(eI .i64) 1, z33 ([] : List zf)]) (ls := []) (r := .agg [I r_17.Messages, I r_17.Labels, eSl 1 true (eI .i64) r_17.Channels, eSl 3 true z9r r_17.Parts]) (ys := []) [(eI .i64) 1, z33 ([] : List zf)] (show z0h [(eI .i64) 1, z33 ([] : List zf)] [(eI .i64) 1, z33 ([] : List zf)] from inferInstance)), Hc h0o (x := r_17) h18 (loC z7B r_17 <| loN), Hm (shM kg kg ([(zf.mk 0 2 0 0 0)])), Hn (XR (f := .fn 37 []) (xs := [(eI .i64) 0, z33 ([(zf.mk 0 2 0 0 0)] : List zf)]) (ls := []) (r := .agg [I r_19.Messages, I r_19.Labels, eSl 1 true (eI .i64) r_19.Channels, eSl 3 true z9r r_19.Parts]) (ys := []) [(eI .i64) 0, z33 ([(zf.mk 0 2 0 0 0)] : List zf)] (show z0h [(eI .i64) 0, z33 ([(zf.mk 0 2 0 0 0)] : List zf)] [(eI .i64) 0, z33 ([(zf.mk 0 2 0 0 0)] : List zf)] from inferInstance)), Hc h0m (x := r_19) h20 (loC z7B r_19 <| loN)])
      rcases zR hf0 with ⟨c5, hf0⟩ | ⟨c5, hf0⟩
      ·obtain rfl := zi hf0
       exact yE ((jC (P := Tryz.prog) wB [] (lentCall (wd hC h00 (x := (0, ([(zf.mk 0 2 0 0 0)] : List zf))) h19)) 122).or ((jC (P := Tryz.prog) wB [] (lentCall (wd hC h00 (x := (1, ([] : List zf))) h17)) 114).or ((jC (P := Tryz.prog) wB [] (lentCall (wd hC h02 (x := (r_1.1, r_1.2.1, ([r_2, r_3, r_4, r_5] : List z8), ([[(z7.mk r_6 1)], [(z7.mk r_7 2), (z7.mk r_8 3)], [(z7.mk r_9 0)], [(z7.mk r_10 0)]] : List (List z7)))) h11)) 55).or X0))) hC hE (Z3 ++ (Hq c5 :: Hq c5 :: Hq c5 :: (rpN 17 qT [])))
      ·rcases zR hf0 with ⟨c6, hf0⟩ | ⟨c6, hf0⟩
       ·obtain rfl := zi hf0
        exact yE ((jC (P := Tryz.prog) wB [] (lentCall (wd hC h00 (x := (0, ([(zf.mk 0 2 0 0 0)] : List zf))) h19)) 122).or ((jC (P := Tryz.prog) wB [] (lentCall (wd hC h00 (x := (1, ([] : List zf))) h17)) 114).or ((jC (P := Tryz.prog) wB [] (lentCall (wd hC h02 (x := (r_1.1, r_1.2.1, ([r_2, r_3, r_4, r_5] : List z8), ([[(z7.mk r_6 1)], [(z7.mk r_7 2), (z7.mk r_8 3)], [(z7.mk r_9 0)], [(z7.mk r_10 0)]] : List (List z7)))) h11)) 55).or X0))) hC hE (Z3 ++ (Hq c5 :: Hq c5 :: Hq c5 :: (rpN 7 (Hq c6) (rpN 10 qT []))))
       ·obtain ⟨r_21, h21, hf0⟩ := zl hf0
        obtain ⟨r_22, h22, hf0⟩ := zl hf0
        obtain ⟨r_23, h23, hf0⟩ := zl hf0
        let Z4 : List HO := (Z3 ++ [Hq c5, Hq c5, Hq c5, Hq c6, Hq c6, Hc h08 (x := (0,0)) h21 (loC (eI .i64) 0 <| loC (eI .i64) 0 <| loN), Hq c6, Hc h08 (x := (0,1)) h22 (loC (eI .i64) 0 <| loC (eI .i64) 1 <| loN), Hq c6, Hq c6, Hm (shM w6 w6 ([r_21, r_22])), Hn (XR (f := .fn 15 []) (xs := [z5n r_18.1, z9t ([r_21, r_22] : List zc)]) (ls := []) (r := I r_23) (ys := []) [z5n r_18.1, z5n ([r_21, r_22] : List zc)] (show z0h [z5n r_18.1, z5n ([r_21, r_22] : List zc)] [z5n r_18.1, z9t ([r_21, r_22] : List zc)] from inferInstance)), Hq c6, Hq c6])
        rcases zR hf0 with ⟨c7, hf0⟩ | ⟨c7, hf0⟩
        ·obtain rfl := zi hf0
         exact yE ((jC (P := Tryz.prog) wB [] (lentCall (wd hC h0p (x := (r_18.1, ([r_21, r_22] : List zc))) h23)) 138).or ((jC (P := Tryz.prog) wB [] (lentCall (wd hC h00 (x := (0, ([(zf.mk 0 2 0 0 0)] : List zf))) h19)) 122).or ((jC (P := Tryz.prog) wB [] (lentCall (wd hC h00 (x := (1, ([] : List zf))) h17)) 114).or ((jC (P := Tryz.prog) wB [] (lentCall (wd hC h02 (x := (r_1.1, r_1.2.1, ([r_2, r_3, r_4, r_5] : List z8), ([[(z7.mk r_6 1)], [(z7.mk r_7 2), (z7.mk r_8 3)], [(z7.mk r_9 0)], [(z7.mk r_10 0)]] : List (List z7)))) h11)) 55).or X0)))) hC hE (Z4 ++ (rpN 6 (Hq c7) (rpN 4 qT [])))
        ·obtain ⟨r_24, h24, hf0⟩ := zl hf0
         obtain ⟨r_25, h25, hf0⟩ := zl hf0
         let Z5 : List HO := (Z4 ++ [Hq c7, Hq c7, Hq c7, Hg (z1x h03), Hm (shM (eI .i64) (eI .i64) ([0])), Hs (z1y h03 (x := (0,0, [0])) h24 (loC (eI .i64) 0 <| loC (eI .i64) 0 <| loC F1_ ([0] : List Int) <| loN)), Hm (shM (eI .i64) (eI .i64) ([0])), Hq c7, Hc h0s (x := (r_18.2.1, r_24)) h25 (loC z1u r_18.2.1 <| loC z7D r_24 <| loN), Hq c7, Hq c7])
         rcases zR hf0 with ⟨c8, hf0⟩ | ⟨c8, hf0⟩
         ·obtain rfl := zi hf0
          exact yE ((jC (P := Tryz.prog) wB [] (lentCall (wd hC h0p (x := (r_18.1, ([r_21, r_22] : List zc))) h23)) 138).or ((jC (P := Tryz.prog) wB [] (lentCall (wd hC h00 (x := (0, ([(zf.mk 0 2 0 0 0)] : List zf))) h19)) 122).or ((jC (P := Tryz.prog) wB [] (lentCall (wd hC h00 (x := (1, ([] : List zf))) h17)) 114).or ((jC (P := Tryz.prog) wB [] (lentCall (wd hC h02 (x := (r_1.1, r_1.2.1, ([r_2, r_3, r_4, r_5] : List z8), ([[(z7.mk r_6 1)], [(z7.mk r_7 2), (z7.mk r_8 3)], [(z7.mk r_9 0)], [(z7.mk r_10 0)]] : List (List z7)))) h11)) 55).or X0)))) hC hE (Z5 ++ [Hq c8, Hq c8, Hq c8, qT])
         ·rcases zR hf0 with ⟨c9, hf0⟩ | ⟨c9, hf0⟩
          ·obtain rfl := zi hf0
           exact yE ((jC (P := Tryz.prog) wB [] (lentCall (wd hC h0p (x := (r_18.1, ([r_21, r_22] : List zc))) h23)) 138).or ((jC (P := Tryz.prog) wB [] (lentCall (wd hC h00 (x := (0, ([(zf.mk 0 2 0 0 0)] : List zf))) h19)) 122).or ((jC (P := Tryz.prog) wB [] (lentCall (wd hC h00 (x := (1, ([] : List zf))) h17)) 114).or ((jC (P := Tryz.prog) wB [] (lentCall (wd hC h02 (x := (r_1.1, r_1.2.1, ([r_2, r_3, r_4, r_5] : List z8), ([[(z7.mk r_6 1)], [(z7.mk r_7 2), (z7.mk r_8 3)], [(z7.mk r_9 0)], [(z7.mk r_10 0)]] : List (List z7)))) h11)) 55).or X0)))) hC hE (Z5 ++ [Hq c8, Hq c8, Hq c8, Hq c9])
          ·obtain ⟨r_26, h26, hf0⟩ := zl hf0
           obtain ⟨r_27, h27, hf0⟩ := zl hf0
           obtain ⟨r_28, h28, hf0⟩ := zl hf0
           obtain ⟨r_29, h29, hf0⟩ := zl hf0
           obtain rfl := zi hf0
           exact yE ((jC (P := Tryz.prog) wB [] (lentCall (wd hC h02 (x := (r_20.1, r_20.2.1, ([r_26, r_27] : List z8), ([[(z7.mk (zc.mk 0 0 1 0) 1)], [(z7.mk r_28 0)]] : List (List z7)))) h29)) 164).or ((jC (P := Tryz.prog) wB [] (lentCall (wd hC h0p (x := (r_18.1, ([r_21, r_22] : List zc))) h23)) 138).or ((jC (P := Tryz.prog) wB [] (lentCall (wd hC h00 (x := (0, ([(zf.mk 0 2 0 0 0)] : List zf))) h19)) 122).or ((jC (P := Tryz.prog) wB [] (lentCall (wd hC h00 (x := (1, ([] : List zf))) h17)) 114).or ((jC (P := Tryz.prog) wB [] (lentCall (wd hC h02 (x := (r_1.1, r_1.2.1, ([r_2, r_3, r_4, r_5] : List z8), ([[(z7.mk r_6 1)], [(z7.mk r_7 2), (z7.mk r_8 3)], [(z7.mk r_9 0)], [(z7.mk r_10 0)]] : List (List z7)))) h11)) 55).or X0))))) hC hE (Z5 ++ [Hq c8, Hq c8, Hq c8, Hq c9, Hc h03 (x := (0,0, [])) h26 (loC (eI .i64) 0 <| loC (eI .i64) 0 <| loC F1_ ([] : List Int) <| loN), Hc h03 (x := (1,0, [])) h27 (loC (eI .i64) 1 <| loC (eI .i64) 0 <| loC F1_ ([] : List Int) <| loN), Hc h08 (x := (0,1)) h28 (loC (eI .i64) 0 <| loC (eI .i64) 1 <| loN), Hm (shM z7D z7D ([r_26, r_27])), Hm (shM (eOs 5 true kB) wJ ([[(z7.mk (zc.mk 0 0 1 0) 1)], [(z7.mk r_28 0)]])), Hn (XR (f := .fn 40 []) (xs := [z5f r_20.1, z2i r_20.2.1, z9s ([r_26, r_27] : List z8), zc4 ([[(z7.mk (zc.mk 0 0 1 0) 1)], [(z7.mk r_28 0)]] : List (List z7))]) (ls := []) (r := I r_29) (ys := []) [z5f r_20.1, z2i r_20.2.1, zcc ([r_26, r_27] : List z8), z2i ([[(z7.mk (zc.mk 0 0 1 0) 1)], [(z7.mk r_28 0)]] : List (List z7))] (show z0h [z5f r_20.1, z2i r_20.2.1, zcc ([r_26, r_27] : List z8), z2i ([[(z7.mk (zc.mk 0 0 1 0) 1)], [(z7.mk r_28 0)]] : List (List z7))] [z5f r_20.1, z2i r_20.2.1, z9s ([r_26, r_27] : List z8), zc4 ([[(z7.mk (zc.mk 0 0 1 0) 1)], [(z7.mk r_28 0)]] : List (List z7))] from inferInstance))])
def JB : Code := (Tryz.f60.body).getD .skip
def Zq : xm := spF (α := Int × Int) (ρ := Int) 60 (fun x => [(eI .i64) x.1, (eI .i64) x.2]) (fun r => (eI .i64) r) (fun x => jm x.1 x.2) [] (VV)
abbrev JX : List (Nat × T) := []
theorem z35 {ctr : Ctr} (hC : zW Tryz.prog ctr) : Zq.Ok Tryz.prog := by
 refine y7 ?_
 rintro ⟨n_, many⟩ r0 hf0
 try unfold jm at hf0
 refine yO true [(4, none)] JB 12 Tryz.func60 fun E hE => ?_
 refine yJ X0 hC JB [1] [] [] (fun z : Unit => Zy = some r0) (fun z => JX) [(0, .d (I n_)), (1, .d (I many))] [Hh (.cut 1)] ?_ fun J1 hJ1 => ?_
 ·rintro ⟨⟩ hf0
  unfold Zy at hf0
  obtain rfl := zi hf0
  exact yE X0 hC hE []
 ·rcases zR hf0 with ⟨c0, hf0⟩ | ⟨c0, hf0⟩
  ·let Z0 : List HO := (rpN 4 (Hq c0) [])
   rcases zR hf0 with ⟨c1, hf0⟩ | ⟨c1, hf0⟩
   ·obtain rfl := zi hf0
    exact yE X0 hC hE (Z0 ++ [Hq c1])
   ·exact yB X0 hC hJ1 () hf0 (Z0 ++ [Hq c1])
  ·exact yB X0 hC hJ1 () hf0 (rpN 4 (Hq c0) [qF])
def k9 : Code := (Tryz.f32.body).getD .skip
def jW : xm := spF (α := List Int × Int) (ρ := Int) 32 (fun x => [F2_ x.1, (eI .i64) x.2]) (fun r => (eI .i64) r) (fun x => jA x.1 x.2) [] (VV)
abbrev VH : List (Nat × T) := []
abbrev VG (l_ : List Int) (many : Int) (i_ : Int) (x33 : Bool) : List (Nat × T) := [(0, .d (eSl 1 false (eI .i64) l_)), (1, .d (I many)), (5, .d (I i_)), (20, .d (I i_)), (21, .d (B (decide (i_ > 0)))), (22, .d (B (decide (i_ > 0)))), (33, .d (B x33))]
abbrev VF (l_ : List Int) (many : Int) (i_ : Int) : List (Nat × T) := [(0, .d (eSl 1 false (eI .i64) l_)), (1, .d (I many)), (5, .d (I i_))]
theorem JN {ctr : Ctr} (hC : zW Tryz.prog ctr) (h04 : ctr.Has Zq) : jW.Ok Tryz.prog := by
 refine y7 ?_
 rintro ⟨l_, many⟩ r0 hf0
 try unfold jA at hf0
 refine yO true [(4, none)] k9 35 Tryz.func32 fun E hE => ?_
 refine yJ X0 hC k9 [1] [] [] (fun z : Unit => Zz = some r0) (fun z => VH) [(0, .d (eSl 1 false (eI .i64) l_)), (1, .d (I many))] [Hh (.cut 1)] ?_ fun J1 hJ1 => ?_
 ·rintro ⟨⟩ hf0
  unfold Zz at hf0
  obtain rfl := zi hf0
  exact yE X0 hC hE []
 ·obtain ⟨t2, ht2, hf0⟩ := zl hf0
  refine yL X0 hC k9 [1,2,1,0] [J1] (fun s => qG l_ many s) (fun x => VF l_ many x) 0 ht2  [] ?_
  rintro i_ m2 lr1 hf1 hl1 J2 hJ2
  try unfold qG at hf1
  rcases zR hf1 with ⟨c0, hf1⟩ | ⟨c0, hf1⟩
  ·refine yJ X0 hC k9 [1,2,1,0,0,1] [J1, J2] [0,1,5,20,21,22,33] (fun z : Bool => qH i_ z = some lr1) (fun z => VG l_ many i_ z) [(0, .d (eSl 1 false (eI .i64) l_)), (1, .d (I many)), (5, .d (I i_))] [Ha (lnM (eI .i64) l_), Hq c0, Hh (.cut 0)] ?_ fun J3 hJ3 => ?_
   ·rintro x33 hf1
    unfold qH at hf1
    obtain rfl := zi hf1
    exact yB X0 hC hJ2 (w64 (i_ + 1)) hl1 []
   ·obtain ⟨l__e, h0, hf1⟩ := zl hf1
    obtain ⟨r_, h1, hf1⟩ := zl hf1
    let Z0 : List HO := [Hi (eI .i64) h0, Hc h04 (x := (l__e, many)) h1 (loC (eI .i64) l__e <| loC (eI .i64) many <| loN)]
    rcases zR hf1 with ⟨c1, hf1⟩ | ⟨c1, hf1⟩
    ·obtain rfl := zi hf1
     obtain rfl := hl1
     obtain rfl := zi hf0
     exact yE X0 hC hE (Z0 ++ (rpN 5 (Hq c1) [qT]))
    ·rcases zR hf1 with ⟨c2, hf1⟩ | ⟨c2, hf1⟩
     ·obtain ⟨l__e1, h2, hf1⟩ := zl hf1
      obtain ⟨l__e2, h3, hf1⟩ := zl hf1
      let Z1 : List HO := (Z0 ++ (Hq c1 :: Hq c1 :: Hq c1 :: Hq c2 :: Hq c2 :: Hq c2 :: Hi (eI .i64) h2 :: (rpN 5 (Hq c2) [Hi (eI .i64) h3, Hq c2, Hq c2, Hq c1, Hq c2, Hq c1])))
      rcases zR hf1 with ⟨c3, hf1⟩ | ⟨c3, hf1⟩
      ·obtain rfl := zi hf1
       obtain rfl := hl1
       obtain rfl := zi hf0
       exact yE X0 hC hE (Z1 ++ [Hq c3])
      ·exact yB X0 hC hJ3 (decide (l__e1 ≤ l__e2)) hf1 (Z1 ++ [Hq c3])
     ·exact yB X0 hC hJ3 false hf1 (Z0 ++ (Hq c1 :: Hq c1 :: Hq c1 :: (rpN 10 (Hq c2) [Hq c1, Hq c2, Hq c1, qF])))
  ·obtain rfl := zi hf1
   obtain rfl := hl1
   exact yB X0 hC hJ1 () hf0 [Ha (lnM (eI .i64) l_), Hq c0]
def xe : Code := (Tryz.f27.body).getD .skip
def Yf : xm := spF (α := z6) (ρ := Int) 27 (fun x => [yN x]) (fun r => (eI .i64) r) (fun x => ZB x) [] (Qb)
abbrev UA (wrong2 : Int) : List (Nat × T) := [(3, .d (I wrong2))]
abbrev Uz (x_ : z6) (i_ : Int) (wrong4 : Int) : List (Nat × T) := [(1, .own (.box (yN x_))), (3, .d (I wrong4)), (6, .d (I i_))]
abbrev Ux (x_ : z6) (i_ : Int) (Part_e : zk) (k_ : Int) (wrong7 : Int) : List (Nat × T) := [(1, .own (.box (yN x_))), (3, .d (I wrong7)), (6, .d (I i_)), (7, .own (.box (vg Part_e))), (8, .d (I k_))]
abbrev VR (x_ : z6) (i_ : Int) (Part_e : zk) (wrong6 : Int) (k_ : Int) (Arc_e : zf) (fits : Int) : List (Nat × T) := [(1, .own (.box (yN x_))), (3, .d (I wrong6)), (6, .d (I i_)), (7, .own (.box (vg Part_e))), (8, .d (I k_)), (9, .own (.box (kg Arc_e))), (10, .d (I fits))]
abbrev Uv (x_ : z6) (i_ : Int) (Part_e : zk) (wrong6 : Int) (k_ : Int) : List (Nat × T) := [(1, .own (.box (yN x_))), (3, .d (I wrong6)), (6, .d (I i_)), (7, .own (.box (vg Part_e))), (8, .d (I k_))]
abbrev Uy (x_ : z6) (i_ : Int) (Part_e : zk) (wrong5 : Int) : List (Nat × T) := [(1, .own (.box (yN x_))), (3, .d (I wrong5)), (6, .d (I i_)), (7, .own (.box (vg Part_e)))]
abbrev Uw (x_ : z6) (wrong3 : Int) (i_ : Int) : List (Nat × T) := [(1, .own (.box (yN x_))), (3, .d (I wrong3)), (6, .d (I i_))]
abbrev UB (x_ : z6) (wrong1 : Int) : List (Nat × T) := [(1, .own (.box (yN x_))), (3, .d (I wrong1))]
abbrev UC (x_ : z6) (wrong : Int) : List (Nat × T) := [(1, .own (.box (yN x_))), (3, .d (I wrong))]
abbrev VP (x_ : z6) (wrong : Int) (i_1 : Int) : List (Nat × T) := [(1, .own (.box (yN x_))), (3, .d (I wrong)), (5, .d (I i_1))]
abbrev UD (x_ : z6) (wrong : Int) : List (Nat × T) := [(1, .own (.box (yN x_))), (3, .d (I wrong))]
abbrev VQ (x_ : z6) (i_2 : Int) (wrong9 : Int) : List (Nat × T) := [(1, .own (.box (yN x_))), (3, .d (I wrong9)), (4, .d (I i_2))]
abbrev VO (x_ : z6) (wrong8 : Int) (i_2 : Int) : List (Nat × T) := [(1, .own (.box (yN x_))), (3, .d (I wrong8)), (4, .d (I i_2))]
theorem Kz {ctr : Ctr} (hC : zW Tryz.prog ctr) (h0t : ctr.Has jW) (h04 : ctr.Has Zq) : Yf.Ok Tryz.prog := by
 refine y7 ?_
 rintro x_ r0 hf0
 try unfold ZB at hf0
 refine yO true [(2, none)] xe 167 Tryz.func27 fun E hE => ?_
 rcases zR hf0 with ⟨c0, hf0⟩ | ⟨c0, hf0⟩
 ·obtain rfl := zi hf0
  exact yE X0 hC hE (rpN 4 (Hq c0) (rpN 11 qT []))
 ·let Z0 : List HO := (rpN 4 (Hq c0) [])
  rcases zR hf0 with ⟨c1, hf0⟩ | ⟨c1, hf0⟩
  ·obtain rfl := zi hf0
   exact yE X0 hC hE (Z0 ++ (rpN 5 (Hq c1) (rpN 6 qT [])))
  ·let Z1 : List HO := (Z0 ++ [Hq c1, Hq c1, Hq c1, Ha (lnM (eI .i64) x_.Channels), Hq c1, Hq c1])
   rcases zR hf0 with ⟨c2, hf0⟩ | ⟨c2, hf0⟩
   ·obtain rfl := zi hf0
    exact yE X0 hC hE (Z1 ++ (rpN 5 (Hq c2) [qT]))
   ·let Z2 : List HO := (Z1 ++ [Hq c2, Hq c2, Hq c2, Ha (lnM vg x_.Parts), Hq c2, Hq c2])
    rcases zR hf0 with ⟨c3, hf0⟩ | ⟨c3, hf0⟩
    ·obtain rfl := zi hf0
     exact yE X0 hC hE (Z2 ++ [Hq c3])
    ·refine yJ X0 hC xe [1,1,1] [] [1,3] (fun z : Int => jb x_ z = some r0) (fun z => UD x_ z) [(1, .own (.box (yN x_))), (3, .d (I 0))] (Z2 ++ [Hq c3, Hh (.cut 1)]) ?_ fun J1 hJ1 => ?_
     ·rintro wrong hf0
      unfold jb at hf0
      refine yJ X0 hC xe [1,1,1,1] [] [1,3] (fun z : Unit => ja x_ wrong = some r0) (fun z => UC x_ wrong) [(1, .own (.box (yN x_))), (3, .d (I wrong))] [Hh (.cut 0)] ?_ fun J2 hJ2 => ?_
      ·rintro ⟨⟩ hf0
       unfold ja at hf0
       refine yJ X0 hC xe [1,1,1,1,1] [] [1,3] (fun z : Int => v7 x_ z = some r0) (fun z => UB x_ z) [(1, .own (.box (yN x_))), (3, .d (I wrong))] [Hh (.cut 0)] ?_ fun J3 hJ3 => ?_
       ·rintro wrong1 hf0
        unfold v7 at hf0
        refine yJ X0 hC xe [1,1,1,1,1,1] [] [3] (fun z : Int => ky z = some r0) (fun z => UA z) [(1, .own (.box (yN x_))), (3, .d (I wrong1))] [Hh (.cut 0)] ?_ fun J4 hJ4 => ?_
        ·rintro wrong2 hf0
         unfold ky at hf0
         rcases zR hf0 with ⟨c4, hf0⟩ | ⟨c4, hf0⟩
         ·obtain rfl := zi hf0
          exact yE X0 hC hE [Hq c4]
         ·obtain rfl := zi hf0
          exact yE X0 hC hE [Hq c4]
        ·obtain ⟨t5, ht5, hf0⟩ := zl hf0
         refine yL X0 hC xe [1,1,1,1,1,1,2,1,0] [J4] (fun s => j9 x_ s.1 s.2) (fun x => Uw x_ x.1 x.2) (wrong1,0) ht5  [] ?_
         rintro ⟨wrong3, i_⟩ m5 lr1 hf1 hl1 J5 hJ5
         try unfold j9 at hf1
         let Z3 : List HO := [Ha (lnM vg x_.Parts)]
         rcases zR hf1 with ⟨c5, hf1⟩ | ⟨c5, hf1⟩
         ·refine yJ X0 hC xe [1,1,1,1,1,1,2,1,0,0,1] [J4, J5] [1,3,6] (fun z : Int => kx i_ z = some lr1) (fun z => Uz x_ i_ z) [(1, .own (.box (yN x_))), (3, .d (I wrong3)), (6, .d (I i_))] (Z3 ++ [Hq c5, Hh (.cut 0)]) ?_ fun J6 hJ6 => ?_
          ·rintro wrong4 hf1
           unfold kx at hf1
           obtain rfl := zi hf1
           exact yB X0 hC hJ5 (wrong4, w64 (i_ + 1)) hl1 []
          ·obtain ⟨Part_e, h0, hf1⟩ := zl hf1
           refine yJ X0 hC xe [1,1,1,1,1,1,2,1,0,0,1,2,0,1] [J4, J5, J6] [1,3,6,7] (fun z : Int => vR x_ i_ Part_e z = some lr1) (fun z => Uy x_ i_ Part_e z) [(1, .own (.box (yN x_))), (3, .d (I wrong3)), (6, .d (I i_)), (7, .own (.box (vg Part_e)))] [Hi vg h0, Hh (.cut 0)] ?_ fun J7 hJ7 => ?_
           ·rintro wrong5 hf1
            unfold vR at hf1
            obtain ⟨t8, ht8, hf1⟩ := zl hf1
            refine yL X0 hC xe [1,1,1,1,1,1,2,1,0,0,1,2,0,1,1,1,0] [J4, J5, J6] (fun s => j8 x_ Part_e s.1 s.2) (fun x => Uv x_ i_ Part_e x.1 x.2) (wrong5,0) ht8  [] ?_
            rintro ⟨wrong6, k_⟩ m8 lr2 hf2 hl2 J8 hJ8
            try unfold j8 at hf2
            let Z4 : List HO := [Ha (lnM kg Part_e.Arcs)]
            rcases zR hf2 with ⟨c6, hf2⟩ | ⟨c6, hf2⟩
            ·refine yJ X0 hC xe [1,1,1,1,1,1,2,1,0,0,1,2,0,1,1,1,0,0,1] [J4, J5, J6, J8] [1,3,6,7,8] (fun z : Int => uV k_ z = some lr2) (fun z => Ux x_ i_ Part_e k_ z) [(1, .own (.box (yN x_))), (3, .d (I wrong6)), (6, .d (I i_)), (7, .own (.box (vg Part_e))), (8, .d (I k_))] (Z4 ++ [Hq c6, Hh (.cut 0)]) ?_ fun J9 hJ9 => ?_
             ·rintro wrong7 hf2
              unfold uV at hf2
              obtain rfl := zi hf2
              exact yB X0 hC hJ8 (wrong7, w64 (k_ + 1)) hl2 []
             ·obtain ⟨Arc_e, h1, hf2⟩ := zl hf2
              obtain ⟨r_, h2, hf2⟩ := zl hf2
              obtain ⟨r_1, h3, hf2⟩ := zl hf2
              refine yJ X0 hC xe [1,1,1,1,1,1,2,1,0,0,1,2,0,1,1,1,0,0,1,2,0,1,1] [J4, J5, J6, J8, J9] [1,3,6,7,8,9,10] (fun z : Int => vb Part_e wrong6 k_ Arc_e z = some lr2) (fun z => VR x_ i_ Part_e wrong6 k_ Arc_e z) [(1, .own (.box (yN x_))), (3, .d (I wrong6)), (6, .d (I i_)), (7, .own (.box (vg Part_e))), (8, .d (I k_)), (9, .own (.box (kg Arc_e))), (10, .d (I (w64 (r_ * r_1))))] [Hi kg h1, Ha (lnM (eI .i64) x_.Channels), Hc h04 (x := (Arc_e.Channel, ((x_.Channels.length : Nat) : Int))) h2 (loC (eI .i64) Arc_e.Channel <| loC (eI .i64) ((x_.Channels.length : Nat) : Int) <| loN), Hc h04 (x := (Arc_e.Message, x_.Messages)) h3 (loC (eI .i64) Arc_e.Message <| loC (eI .i64) x_.Messages <| loN), Hh (.cut 0)] ?_ fun J10 hJ10 => ?_
              ·rintro fits hf2
               unfold vb at hf2
               rcases zR hf2 with ⟨c7, hf2⟩ | ⟨c7, hf2⟩
               ·exact yB X0 hC hJ9 1 hf2 (rpN 15 (Hq c7) [qT])
               ·obtain ⟨r_2, h4, hf2⟩ := zl hf2
                obtain ⟨r_3, h5, hf2⟩ := zl hf2
                let Z5 : List HO := (rpN 5 (Hq c7) (Hc h04 (x := (Arc_e.From, Part_e.States)) h4 (loC (eI .i64) Arc_e.From <| loC (eI .i64) Part_e.States <| loN) :: (rpN 5 (Hq c7) (Hc h04 (x := (Arc_e.To, Part_e.States)) h5 (loC (eI .i64) Arc_e.To <| loC (eI .i64) Part_e.States <| loN) :: (rpN 5 (Hq c7) [])))))
                rcases zR hf2 with ⟨c8, hf2⟩ | ⟨c8, hf2⟩
                ·exact yB X0 hC hJ9 1 hf2 (Z5 ++ [Hq c8])
                ·exact yB X0 hC hJ9 wrong6 hf2 (Z5 ++ [Hq c8])
              ·rcases zR hf2 with ⟨c9, hf2⟩ | ⟨c9, hf2⟩
               ·obtain ⟨r_4, h6, hf2⟩ := zl hf2
                let Z6 : List HO := [Hq c9, Hc h04 (x := (Arc_e.Message, x_.Labels)) h6 (loC (eI .i64) Arc_e.Message <| loC (eI .i64) x_.Labels <| loN)]
                rcases zR hf2 with ⟨c10, hf2⟩ | ⟨c10, hf2⟩
                ·exact yB X0 hC hJ10 0 hf2 (Z6 ++ [Hq c10])
                ·exact yB X0 hC hJ10 r_4 hf2 (Z6 ++ [Hq c10])
               ·exact yB X0 hC hJ10 (w64 (r_ * r_1)) hf2 [Hq c9]
            ·obtain rfl := zi hf2
             obtain rfl := hl2
             exact yB X0 hC hJ6 wrong6 hf1 (Z4 ++ [Hq c6])
           ·rcases zR hf1 with ⟨c11, hf1⟩ | ⟨c11, hf1⟩
            ·exact yB X0 hC hJ7 1 hf1 (rpN 7 (Hq c11) [qT])
            ·obtain ⟨r_5, h7, hf1⟩ := zl hf1
             let Z7 : List HO := (rpN 5 (Hq c11) [Hc h0t (x := (Part_e.Final, Part_e.States)) h7 (loC F2_ Part_e.Final <| loC (eI .i64) Part_e.States <| loN), Hq c11, Hq c11])
             rcases zR hf1 with ⟨c12, hf1⟩ | ⟨c12, hf1⟩
             ·exact yB X0 hC hJ7 1 hf1 (Z7 ++ [Hq c12])
             ·exact yB X0 hC hJ7 wrong3 hf1 (Z7 ++ [Hq c12])
         ·obtain rfl := zi hf1
          obtain rfl := hl1
          exact yB X0 hC hJ4 wrong3 hf0 (Z3 ++ [Hq c5])
       ·rcases zR hf0 with ⟨c13, hf0⟩ | ⟨c13, hf0⟩
        ·exact yB X0 hC hJ3 1 hf0 (rpN 4 (Hq c13) (rpN 6 qT []))
        ·let Z8 : List HO := (rpN 4 (Hq c13) [])
         rcases zR hf0 with ⟨c14, hf0⟩ | ⟨c14, hf0⟩
         ·exact yB X0 hC hJ3 1 hf0 (Z8 ++ (rpN 5 (Hq c14) [qT]))
         ·let Z9 : List HO := (Z8 ++ [Hq c14, Hq c14, Hq c14, Ha (lnM vg x_.Parts), Hq c14, Hq c14])
          rcases zR hf0 with ⟨c15, hf0⟩ | ⟨c15, hf0⟩
          ·exact yB X0 hC hJ3 1 hf0 (Z9 ++ [Hq c15])
          ·exact yB X0 hC hJ3 wrong hf0 (Z9 ++ [Hq c15])
      ·obtain ⟨t11, ht11, hf0⟩ := zl hf0
       refine yL X0 hC xe [1,1,1,1,2,1,0] [J2] (fun s => qN x_ s) (fun x => VP x_ wrong x) 0 ht11  [] ?_
       rintro i_1 m11 lr1 hf1 hl1 J11 hJ11
       try unfold qN at hf1
       let Z10 : List HO := [Ha (lnM vg x_.Parts)]
       rcases zR hf1 with ⟨c16, hf1⟩ | ⟨c16, hf1⟩
       ·obtain ⟨Part_e1, h8, hf1⟩ := zl hf1
        let Z11 : List HO := (Z10 ++ [Hq c16, Hi vg h8])
        rcases zR hf1 with ⟨c17, hf1⟩ | ⟨c17, hf1⟩
        ·obtain rfl := zi hf1
         obtain rfl := hl1
         obtain rfl := zi hf0
         exact yE X0 hC hE (Z11 ++ (rpN 9 (Hq c17) [qT]))
        ·obtain ⟨Part_e2, h9, hf1⟩ := zl hf1
         let Z12 : List HO := (Z11 ++ (rpN 4 (Hq c17) [Hi vg h9, Hq c17, Hq c17, Hq c17, Ha (lnM kg Part_e2.Arcs), Hq c17, Hq c17]))
         rcases zR hf1 with ⟨c18, hf1⟩ | ⟨c18, hf1⟩
         ·obtain rfl := zi hf1
          obtain rfl := hl1
          obtain rfl := zi hf0
          exact yE X0 hC hE (Z12 ++ [Hq c18])
         ·obtain rfl := zi hf1
          exact yB X0 hC hJ11 (w64 (i_1 + 1)) hl1 (Z12 ++ [Hq c18])
       ·obtain rfl := zi hf1
        obtain rfl := hl1
        exact yB X0 hC hJ2 () hf0 (Z10 ++ [Hq c16])
     ·obtain ⟨t12, ht12, hf0⟩ := zl hf0
      refine yL X0 hC xe [1,1,1,2,1,0] [J1] (fun s => qM x_ s.1 s.2) (fun x => VO x_ x.1 x.2) (0,0) ht12  [] ?_
      rintro ⟨wrong8, i_2⟩ m12 lr1 hf1 hl1 J12 hJ12
      try unfold qM at hf1
      let Z13 : List HO := [Ha (lnM (eI .i64) x_.Channels)]
      rcases zR hf1 with ⟨c19, hf1⟩ | ⟨c19, hf1⟩
      ·refine yJ X0 hC xe [1,1,1,2,1,0,0,1] [J1, J12] [1,3,4] (fun z : Int => qO i_2 z = some lr1) (fun z => VQ x_ i_2 z) [(1, .own (.box (yN x_))), (3, .d (I wrong8)), (4, .d (I i_2))] (Z13 ++ [Hq c19, Hh (.cut 0)]) ?_ fun J13 hJ13 => ?_
       ·rintro wrong9 hf1
        unfold qO at hf1
        obtain rfl := zi hf1
        exact yB X0 hC hJ12 (wrong9, w64 (i_2 + 1)) hl1 []
       ·obtain ⟨Channel_e, h10, hf1⟩ := zl hf1
        rcases zR hf1 with ⟨c20, hf1⟩ | ⟨c20, hf1⟩
        ·obtain rfl := zi hf1
         obtain rfl := hl1
         obtain rfl := zi hf0
         exact yE X0 hC hE [Hi (eI .i64) h10, Hq c20]
        ·obtain ⟨Channel_e1, h11, hf1⟩ := zl hf1
         let Z14 : List HO := [Hi (eI .i64) h10, Hq c20, Hi (eI .i64) h11]
         rcases zR hf1 with ⟨c21, hf1⟩ | ⟨c21, hf1⟩
         ·exact yB X0 hC hJ13 1 hf1 (Z14 ++ [Hq c21])
         ·exact yB X0 hC hJ13 wrong8 hf1 (Z14 ++ [Hq c21])
      ·obtain rfl := zi hf1
       obtain rfl := hl1
       exact yB X0 hC hJ1 wrong8 hf0 (Z13 ++ [Hq c19])
def YN : Code := (Tryz.f68.body).getD .skip
def xW : xm := spF (α := Int × z6) (ρ := Bool) 68 (fun x => [(eI .i64) x.1, z0m x.2]) (fun r => eB r) (fun x => vE x.1 x.2) [] (VV)
theorem YQ {ctr : Ctr} (hC : zW Tryz.prog ctr) (h01 : ctr.Has qS) : xW.Ok Tryz.prog := by
 refine y7 ?_
 rintro ⟨m_, x1⟩ r0 hf0
 try unfold vE at hf0
 refine yO true [(3, none)] YN 9 Tryz.func68 fun E hE => ?_
 obtain ⟨r_, h0, hf0⟩ := zl hf0
 obtain rfl := zi hf0
 exact yE X0 hC hE [Hc h01 (x := (m_, x1.Messages)) h0 (loC (eI .i64) m_ <| loC (eI .i64) x1.Messages <| loN)]
def wx : Code := (Tryz.f90.body).getD .skip
def uc : xm := spF (α := List Int × z6) (ρ := Int) 90 (fun x => [F2_ x.1, (z4N 68 z0m) x.2]) (fun r => (eI .i64) r) (fun x => xY x.1 x.2) [] (by
 rintro ⟨a0, a1⟩ ⟨b0, b1⟩ h
 have e0 := vT.inj (f := F2_) _ _ (List.cons.inj h).1
 replace h := (List.cons.inj h).2
 have e1 := vT.inj (f := (z4N 68 z0m)) _ _ (List.cons.inj h).1
 subst e0 e1
 rfl)
abbrev jJ : List (Nat × T) := []
abbrev jI (s_ : List Int) (f_ : z6) (x8 : Int) : List (Nat × T) := [(0, .d (eSl 1 false (eI .i64) s_)), (1, .d (.fn 68 [.sptr (.agg [I f_.Messages, I f_.Labels, eSl 1 false (eI .i64) f_.Channels, eSl 3 false vg f_.Parts])])), (7, .d (I ((s_.length : Nat) : Int))), (8, .d (I x8))]
theorem kC {ctr : Ctr} (hC : zW Tryz.prog ctr) (h0d : ctr.Has xW) : uc.Ok Tryz.prog := by
 refine y7 ?_
 rintro ⟨s_, f_⟩ r0 hf0
 try unfold xY at hf0
 refine yO true [(4, none)] wx 19 Tryz.func90 fun E hE => ?_
 refine yJ X0 hC wx [1] [] [] (fun z : Unit => wt = some r0) (fun z => jJ) [(0, .d (eSl 1 false (eI .i64) s_)), (1, .d (.fn 68 [.sptr (.agg [I f_.Messages, I f_.Labels, eSl 1 false (eI .i64) f_.Channels, eSl 3 false vg f_.Parts])]))] [Hh (.cut 1)] ?_ fun J1 hJ1 => ?_
 ·rintro ⟨⟩ hf0
  unfold wt at hf0
  obtain rfl := zi hf0
  exact yE X0 hC hE []
 ·obtain ⟨t2, ht2, hf0⟩ := zl hf0
  refine yL X0 hC wx [1,2,1,0] [J1] (fun s => yT s_ f_ s) (fun x => jI s_ f_ x) 0 ht2  [Ha (lnM (eI .i64) s_)] ?_
  rintro x8 m2 lr1 hf1 hl1 J2 hJ2
  try unfold yT at hf1
  rcases zR hf1 with ⟨c0, hf1⟩ | ⟨c0, hf1⟩
  ·obtain ⟨s__e, h0, hf1⟩ := zl hf1
   obtain ⟨r_, h1, hf1⟩ := zl hf1
   let Z0 : List HO := [Hq c0, Hi (eI .i64) h0, Hc h0d (x := (s__e, f_)) h1 (loC (eI .i64) s__e <| loC z0m f_ <| loN)]
   rcases zR hf1 with ⟨c1, hf1⟩ | ⟨c1, hf1⟩
   ·obtain rfl := zi hf1
    obtain rfl := hl1
    obtain rfl := zi hf0
    exact yE X0 hC hE (Z0 ++ [Hq c1])
   ·obtain rfl := zi hf1
    exact yB X0 hC hJ2 (w64 (x8 + 1)) hl1 (Z0 ++ [Hq c1])
  ·obtain rfl := zi hf1
   obtain rfl := hl1
   exact yB X0 hC hJ1 () hf0 [Hq c0]
def jE : Code := (Tryz.f62.body).getD .skip
def vh : xm := spF (α := List Int × z6) (ρ := Bool) 62 (fun x => [F2_ x.1, (z4N 68 z0m) x.2]) (fun r => eB r) (fun x => yW x.1 x.2) [] (by
 rintro ⟨a0, a1⟩ ⟨b0, b1⟩ h
 have e0 := vT.inj (f := F2_) _ _ (List.cons.inj h).1
 replace h := (List.cons.inj h).2
 have e1 := vT.inj (f := (z4N 68 z0m)) _ _ (List.cons.inj h).1
 subst e0 e1
 rfl)
theorem vz {ctr : Ctr} (hC : zW Tryz.prog ctr) (h0d : ctr.Has xW) : vh.Ok Tryz.prog := by
 refine y7 ?_
 rintro ⟨s_, f_⟩ r0 hf0
 try unfold yW at hf0
 refine yO true [(4, none)] jE 9 Tryz.func62 fun E hE => ?_
 obtain ⟨r_, h0, hf0⟩ := zl hf0
 obtain rfl := zi hf0
 exact yE ((JM zS (kC hC h0d) 7).or X0) hC hE [Hc (Ctr.add_has Qe uc) (x := (s_, f_)) h0 (loC F2_ s_ <| loC (z4N 68 z0m) f_ <| loN)]
def wp : Code := (Tryz.f29.body).getD .skip
def wm : xm := spF (α := z6 × z8) (ρ := Int) 29 (fun x => [yN x.1, qB x.2]) (fun r => (eI .i64) r) (fun x => yk x.1 x.2) [] (VV)
abbrev YA : List (Nat × T) := []
abbrev Yz (x_ : z6) (c_ : z8) (x52 : Int) : List (Nat × T) := [(2, .d (.sptr (yN x_))), (50, .d (eSl 1 false F2_ c_.Queues)), (51, .d (I ((c_.Queues.length : Nat) : Int))), (52, .d (I x52))]
abbrev YB (x_ : z6) (c_ : z8) : List (Nat × T) := [(2, .own (.box (yN x_))), (3, .own (.box (qB c_)))]
abbrev Yy (x_ : z6) (c_ : z8) (x34 : Int) : List (Nat × T) := [(2, .own (.box (yN x_))), (3, .own (.box (qB c_))), (32, .d (eSl 3 false vg x_.Parts)), (33, .d (I ((x_.Parts.length : Nat) : Int))), (34, .d (I x34))]
theorem XO {ctr : Ctr} (hC : zW Tryz.prog ctr) (h05 : ctr.Has wR) (h01 : ctr.Has qS) (h0d : ctr.Has xW) : wm.Ok Tryz.prog := by
 refine y7 ?_
 rintro ⟨x_, c_⟩ r0 hf0
 try unfold yk at hf0
 refine yO true [(4, none)] wp 71 Tryz.func29 fun E hE => ?_
 obtain ⟨r_, h0, hf0⟩ := zl hf0
 let Z0 : List HO := [Hc h05 (x := x_) h0 (loC yN x_ <| loN)]
 rcases zR hf0 with ⟨c0, hf0⟩ | ⟨c0, hf0⟩
 ·obtain rfl := zi hf0
  exact yE X0 hC hE (Z0 ++ [Hq c0])
 ·let Z1 : List HO := (Z0 ++ [Hq c0, Ha (lnM (eI .i64) c_.States), Ha (lnM vg x_.Parts)])
  rcases zR hf0 with ⟨c1, hf0⟩ | ⟨c1, hf0⟩
  ·obtain rfl := zi hf0
   exact yE X0 hC hE (Z1 ++ (rpN 8 (Hq c1) [qT]))
  ·let Z2 : List HO := (Z1 ++ [Hq c1, Hq c1, Hq c1, Ha (lnM F2_ c_.Queues), Hq c1, Hq c1, Hq c1, Ha (lnM (eI .i64) x_.Channels), Hq c1, Hq c1])
   rcases zR hf0 with ⟨c2, hf0⟩ | ⟨c2, hf0⟩
   ·obtain rfl := zi hf0
    exact yE X0 hC hE (Z2 ++ [Hq c2])
   ·refine yJ X0 hC wp [1,1,1] [] [2,3] (fun z : Unit => xx x_ c_ = some r0) (fun z => YB x_ c_) [(2, .own (.box (yN x_))), (3, .own (.box (qB c_)))] (Z2 ++ [Hq c2, Hh (.cut 0)]) ?_ fun J1 hJ1 => ?_
    ·rintro ⟨⟩ hf0
     unfold xx at hf0
     refine yJ X0 hC wp [1,1,1,1] [] [] (fun z : Unit => uX = some r0) (fun z => YA) [(2, .own (.box (yN x_))), (3, .own (.box (qB c_)))] [Hh (.cut 0)] ?_ fun J2 hJ2 => ?_
     ·rintro ⟨⟩ hf0
      unfold uX at hf0
      obtain rfl := zi hf0
      exact yE X0 hC hE []
     ·obtain ⟨t3, ht3, hf0⟩ := zl hf0
      refine yL X0 hC wp [1,1,1,1,2,1,0] [J2] (fun s => xw x_ c_ s) (fun x => Yz x_ c_ x) 0 ht3  [Ha (lnM F2_ c_.Queues), Hh (.n 1 [2])] ?_
      rintro x52 m3 lr1 hf1 hl1 J3 hJ3
      try unfold xw at hf1
      rcases zR hf1 with ⟨c3, hf1⟩ | ⟨c3, hf1⟩
      ·obtain ⟨Queue_e, h1, hf1⟩ := zl hf1
       obtain ⟨Channel_e, h2, hf1⟩ := zl hf1
       let Z3 : List HO := [Hq c3, Hi F2_ h1, Ha (lnM (eI .i64) Queue_e), Hi (eI .i64) h2]
       rcases zR hf1 with ⟨c4, hf1⟩ | ⟨c4, hf1⟩
       ·obtain rfl := zi hf1
        obtain rfl := hl1
        obtain rfl := zi hf0
        exact yE X0 hC hE (Z3 ++ (rpN 4 (Hq c4) [qT]))
       ·obtain ⟨r_1, h3, hf1⟩ := zl hf1
        let Z4 : List HO := (Z3 ++ [Hq c4, Hq c4, Hq c4, Hc (Ctr.add_has Qe vh) (x := (Queue_e, x_)) h3 (loC F2_ Queue_e <| loC (z4N 68 z0m) x_ <| loN), Hq c4])
        rcases zR hf1 with ⟨c5, hf1⟩ | ⟨c5, hf1⟩
        ·obtain rfl := zi hf1
         obtain rfl := hl1
         obtain rfl := zi hf0
         exact yE ((JM zS (vz hC h0d) 68).or X0) hC hE (Z4 ++ [Hq c5])
        ·obtain rfl := zi hf1
         exact yB ((JM zS (vz hC h0d) 68).or X0) hC hJ3 (w64 (x52 + 1)) hl1 (Z4 ++ [Hq c5])
      ·obtain rfl := zi hf1
       obtain rfl := hl1
       exact yB X0 hC hJ2 () hf0 [Hq c3]
    ·obtain ⟨t4, ht4, hf0⟩ := zl hf0
     refine yL X0 hC wp [1,1,1,2,1,0] [J1] (fun s => xv x_ c_ s) (fun x => Yy x_ c_ x) 0 ht4  [Ha (lnM vg x_.Parts)] ?_
     rintro x34 m4 lr1 hf1 hl1 J4 hJ4
     try unfold xv at hf1
     rcases zR hf1 with ⟨c6, hf1⟩ | ⟨c6, hf1⟩
     ·obtain ⟨Part_e, h4, hf1⟩ := zl hf1
      obtain ⟨State_e, h5, hf1⟩ := zl hf1
      obtain ⟨r_2, h6, hf1⟩ := zl hf1
      let Z5 : List HO := [Hq c6, Hi vg h4, Hi (eI .i64) h5, Hc h01 (x := (State_e, Part_e.States)) h6 (loC (eI .i64) State_e <| loC (eI .i64) Part_e.States <| loN)]
      rcases zR hf1 with ⟨c7, hf1⟩ | ⟨c7, hf1⟩
      ·obtain rfl := zi hf1
       obtain rfl := hl1
       obtain rfl := zi hf0
       exact yE X0 hC hE (Z5 ++ [Hq c7])
      ·obtain rfl := zi hf1
       exact yB X0 hC hJ4 (w64 (x34 + 1)) hl1 (Z5 ++ [Hq c7])
     ·obtain rfl := zi hf1
      obtain rfl := hl1
      exact yB X0 hC hJ1 () hf0 [Hq c6]
def vt : Code := (Tryz.f58.body).getD .skip
def ji : xm := spF (α := z8) (ρ := za) 58 (fun x => [qB x]) (fun r => x7 r) (fun x => qQ x) [] (Qb)
abbrev V9 (arr : zF Int) (s_queues : zF zg) : List (Nat × T) := [(2, .own (.box (.agg [F0_ arr, F8_ s_queues])))]
abbrev V8 (c_ : z8) (arr : zF Int) (x15 : Int) (s_queues2 : zF zg) : List (Nat × T) := [(2, .own (.box (.agg [F0_ arr, F8_ s_queues2]))), (13, .d (eSl 1 false F2_ c_.Queues)), (14, .d (I ((c_.Queues.length : Nat) : Int))), (15, .d (I x15))]
abbrev V6 (c_ : z8) (arr : zF Int) (x15 : Int) (Queue_e : List Int) (s_queues3 : zF zg) (x22 : Int) : List (Nat × T) := [(2, .own (.box (.agg [F0_ arr, F8_ s_queues3]))), (3, .d (I x15)), (13, .d (eSl 1 false F2_ c_.Queues)), (14, .d (I ((c_.Queues.length : Nat) : Int))), (15, .d (I x15)), (20, .d (eSl 1 false (eI .i64) Queue_e)), (21, .d (I ((Queue_e.length : Nat) : Int))), (22, .d (I x22))]
abbrev V7 (c_ : z8) (arr : zF Int) (s_queues1 : zF zg) (x15 : Int) : List (Nat × T) := [(2, .own (.box (.agg [F0_ arr, F8_ s_queues1]))), (13, .d (eSl 1 false F2_ c_.Queues)), (14, .d (I ((c_.Queues.length : Nat) : Int))), (15, .d (I x15))]
theorem Qx {ctr : Ctr} (hC : zW Tryz.prog ctr) (h0r : ctr.Has u0) : ji.Ok Tryz.prog := by
 refine y7 ?_
 rintro c_ r0 hf0
 try unfold qQ at hf0
 refine yO false [(2, some 115)] vt 38 Tryz.func58 fun E hE => ?_
 refine yA X0 hC vt [1] [] [(1, .own (.box (qB c_))), (2, .own (.box (.agg [.agg [I 0, I 0, I 0, I 0], .agg [.agg [I 0, .agg [I 0, I 0, I 0, I 0]], .agg [I 0, .agg [I 0, I 0, I 0, I 0]], .agg [I 0, .agg [I 0, I 0, I 0, I 0]], .agg [I 0, .agg [I 0, I 0, I 0, I 0]]]])))] [Hh (.cut 1)] ?_
 refine z2d (y := .box (.agg [.agg [I 0, I 0, I 0, I 0], .agg [.agg [I 0, .agg [I 0, I 0, I 0, I 0]], .agg [I 0, .agg [I 0, I 0, I 0, I 0]], .agg [I 0, .agg [I 0, I 0, I 0, I 0]], .agg [I 0, .agg [I 0, I 0, I 0, I 0]]]])) (by kernel_rfl) 2 (by kernel_rfl) (by kernel_rfl) fun pv2 hv2 => ?_
 obtain ⟨arr, h0, hf0⟩ := zl hf0
 replace h0 := zi h0
 refine yJ ((xCp zS 11 2 0 0 pv2 none).or ((xAv zS 8 2 0 0 pv2).or X0)) hC vt [1,1] [] [2] (fun z : zF zg => kL arr z = some r0) (fun z => V9 arr z) [(1, .own (.box (qB c_))), (2, .own (.box (.agg [F0_ arr, .agg [.agg [I 0, .agg [I 0, I 0, I 0, I 0]], .agg [I 0, .agg [I 0, I 0, I 0, I 0]], .agg [I 0, .agg [I 0, I 0, I 0, I 0]], .agg [I 0, .agg [I 0, I 0, I 0, I 0]]]])))] [Hn (⟨rfl, rfl⟩ : T.ptr 2 [.deref, .fld 0] 0 0 = T.ptr 2 [.deref, .fld 0] 0 0 ∧ some pv2 = some pv2), Hn (⟨rfl, rfl⟩ : T.d (.atom (z0c pv2 0 0 4)) = T.d (.atom (z0c pv2 0 0 4)) ∧ some pv2 = some pv2), Hn (dM (eI .i64) c_.States), Hx (.l ((zF.toL arr).map (eI .i64))) ((z4O (eI .i64) (zF.toL (zF.mk 0 0 0 0)) 0 c_.States).trans (congrArg (fun q => q.map (eI .i64)) ((zF.toL_ofL (cpA (zF.toL (zF.mk 0 0 0 0)) 0 c_.States) (zF.mk 0 0 0 0) (z4P (zF.toL (zF.mk 0 0 0 0)) 0 c_.States (by show (0 : Nat) ≤ 4; decide))).symm.trans (congrArg zF.toL h0)))), Hh (.cut 0)] ?_ fun J1 hJ1 => ?_
 ·rintro s_queues hf0
  unfold kL at hf0
  obtain rfl := zi hf0
  exact yE X0 hC hE []
 ·obtain ⟨t2, ht2, hf0⟩ := zl hf0
  refine yL X0 hC vt [1,1,2,1,0] [J1] (fun s => vp c_ s.1 s.2) (fun x => V7 c_ arr x.1 x.2) ((zF.mk (zg.mk 0 (zF.mk 0 0 0 0)) (zg.mk 0 (zF.mk 0 0 0 0)) (zg.mk 0 (zF.mk 0 0 0 0)) (zg.mk 0 (zF.mk 0 0 0 0))), 0) ht2  [Ha (lnM F2_ c_.Queues)] ?_
  rintro ⟨s_queues1, x15⟩ m2 lr1 hf1 hl1 J2 hJ2
  try unfold vp at hf1
  rcases zR hf1 with ⟨c0, hf1⟩ | ⟨c0, hf1⟩
  ·refine yJ X0 hC vt [1,1,2,1,0,0,1,1] [J1, J2] [2,13,14,15] (fun z : zF zg => jh x15 z = some lr1) (fun z => V8 c_ arr x15 z) [(2, .own (.box (.agg [F0_ arr, F8_ s_queues1]))), (13, .d (eSl 1 false F2_ c_.Queues)), (14, .d (I ((c_.Queues.length : Nat) : Int))), (15, .d (I x15))] [Hq c0, Hh (.cut 0)] ?_ fun J3 hJ3 => ?_
   ·rintro s_queues2 hf1
    unfold jh at hf1
    obtain rfl := zi hf1
    exact yB X0 hC hJ2 (s_queues2, w64 (x15 + 1)) hl1 []
   ·obtain ⟨Queue_e, h1, hf1⟩ := zl hf1
    obtain ⟨t4, ht4, hf1⟩ := zl hf1
    refine yL X0 hC vt [1,1,2,1,0,0,1,1,2,0,1,1,0] [J1, J2, J3] (fun s => wO x15 Queue_e s.1 s.2) (fun x => V6 c_ arr x15 Queue_e x.1 x.2) (s_queues1,0) ht4  [Hi F2_ h1, Ha (lnM (eI .i64) Queue_e)] ?_
    rintro ⟨s_queues3, x22⟩ m4 lr2 hf2 hl2 J4 hJ4
    try unfold wO at hf2
    rcases zR hf2 with ⟨c1, hf2⟩ | ⟨c1, hf2⟩
    ·obtain ⟨Queue_e_e, h2, hf2⟩ := zl hf2
     obtain ⟨cell, h3, hf2⟩ := zl hf2
     obtain ⟨r_, h4, hf2⟩ := zl hf2
     obtain ⟨cell1, h5, hf2⟩ := zl hf2
     obtain ⟨arr1, h6, hf2⟩ := zl hf2
     replace h6 := zi h6
     obtain rfl := zi hf2
     exact yB X0 hC hJ4 (arr1, w64 (x22 + 1)) hl2 [Hq c1, Hi (eI .i64) h2, Hn (⟨arJ (by kernel_rfl) (i0 h3), (iL F7_ h3).2⟩ : ZX wB 113 ((zF.toL s_queues3).map F7_) x15 = true ∧ x15.toNat < ((zF.toL s_queues3).map F7_).length), Hh (.op 6), Hh (.f), Hx (.a (.agg [.agg [I s_queues3.e0.many_, .agg [I s_queues3.e0.l_.e0, I s_queues3.e0.l_.e1, I s_queues3.e0.l_.e2, I s_queues3.e0.l_.e3]], .agg [I s_queues3.e1.many_, .agg [I s_queues3.e1.l_.e0, I s_queues3.e1.l_.e1, I s_queues3.e1.l_.e2, I s_queues3.e1.l_.e3]], .agg [I s_queues3.e2.many_, .agg [I s_queues3.e2.l_.e0, I s_queues3.e2.l_.e1, I s_queues3.e2.l_.e2, I s_queues3.e2.l_.e3]], .agg [I s_queues3.e3.many_, .agg [I s_queues3.e3.l_.e0, I s_queues3.e3.l_.e1, I s_queues3.e3.l_.e2, I s_queues3.e3.l_.e3]]])) (rfl : some (.agg [.agg [I s_queues3.e0.many_, .agg [I s_queues3.e0.l_.e0, I s_queues3.e0.l_.e1, I s_queues3.e0.l_.e2, I s_queues3.e0.l_.e3]], .agg [I s_queues3.e1.many_, .agg [I s_queues3.e1.l_.e0, I s_queues3.e1.l_.e1, I s_queues3.e1.l_.e2, I s_queues3.e1.l_.e3]], .agg [I s_queues3.e2.many_, .agg [I s_queues3.e2.l_.e0, I s_queues3.e2.l_.e1, I s_queues3.e2.l_.e2, I s_queues3.e2.l_.e3]], .agg [I s_queues3.e3.many_, .agg [I s_queues3.e3.l_.e0, I s_queues3.e3.l_.e1, I s_queues3.e3.l_.e2, I s_queues3.e3.l_.e3]]] : A) = some (.agg [.agg [I s_queues3.e0.many_, .agg [I s_queues3.e0.l_.e0, I s_queues3.e0.l_.e1, I s_queues3.e0.l_.e2, I s_queues3.e0.l_.e3]], .agg [I s_queues3.e1.many_, .agg [I s_queues3.e1.l_.e0, I s_queues3.e1.l_.e1, I s_queues3.e1.l_.e2, I s_queues3.e1.l_.e3]], .agg [I s_queues3.e2.many_, .agg [I s_queues3.e2.l_.e0, I s_queues3.e2.l_.e1, I s_queues3.e2.l_.e2, I s_queues3.e2.l_.e3]], .agg [I s_queues3.e3.many_, .agg [I s_queues3.e3.l_.e0, I s_queues3.e3.l_.e1, I s_queues3.e3.l_.e2, I s_queues3.e3.l_.e3]]])), Hh (.f), Hs (iM F7_ h3), Hc h0r (x := (cell, Queue_e_e)) h4 (loC F7_ cell <| loC (eI .i64) Queue_e_e <| loN), Hn (⟨arJ (by kernel_rfl) (i0 h5), (iL F7_ h5).2⟩ : ZX wB 113 ((zF.toL s_queues3).map F7_) x15 = true ∧ x15.toNat < ((zF.toL s_queues3).map F7_).length), Hh (.op 2), Hh (.f), Hx (.a (.agg [.agg [I s_queues3.e0.many_, .agg [I s_queues3.e0.l_.e0, I s_queues3.e0.l_.e1, I s_queues3.e0.l_.e2, I s_queues3.e0.l_.e3]], .agg [I s_queues3.e1.many_, .agg [I s_queues3.e1.l_.e0, I s_queues3.e1.l_.e1, I s_queues3.e1.l_.e2, I s_queues3.e1.l_.e3]], .agg [I s_queues3.e2.many_, .agg [I s_queues3.e2.l_.e0, I s_queues3.e2.l_.e1, I s_queues3.e2.l_.e2, I s_queues3.e2.l_.e3]], .agg [I s_queues3.e3.many_, .agg [I s_queues3.e3.l_.e0, I s_queues3.e3.l_.e1, I s_queues3.e3.l_.e2, I s_queues3.e3.l_.e3]]])) (rfl : some (.agg [.agg [I s_queues3.e0.many_, .agg [I s_queues3.e0.l_.e0, I s_queues3.e0.l_.e1, I s_queues3.e0.l_.e2, I s_queues3.e0.l_.e3]], .agg [I s_queues3.e1.many_, .agg [I s_queues3.e1.l_.e0, I s_queues3.e1.l_.e1, I s_queues3.e1.l_.e2, I s_queues3.e1.l_.e3]], .agg [I s_queues3.e2.many_, .agg [I s_queues3.e2.l_.e0, I s_queues3.e2.l_.e1, I s_queues3.e2.l_.e2, I s_queues3.e2.l_.e3]], .agg [I s_queues3.e3.many_, .agg [I s_queues3.e3.l_.e0, I s_queues3.e3.l_.e1, I s_queues3.e3.l_.e2, I s_queues3.e3.l_.e3]]] : A) = some (.agg [.agg [I s_queues3.e0.many_, .agg [I s_queues3.e0.l_.e0, I s_queues3.e0.l_.e1, I s_queues3.e0.l_.e2, I s_queues3.e0.l_.e3]], .agg [I s_queues3.e1.many_, .agg [I s_queues3.e1.l_.e0, I s_queues3.e1.l_.e1, I s_queues3.e1.l_.e2, I s_queues3.e1.l_.e3]], .agg [I s_queues3.e2.many_, .agg [I s_queues3.e2.l_.e0, I s_queues3.e2.l_.e1, I s_queues3.e2.l_.e2, I s_queues3.e2.l_.e3]], .agg [I s_queues3.e3.many_, .agg [I s_queues3.e3.l_.e0, I s_queues3.e3.l_.e1, I s_queues3.e3.l_.e2, I s_queues3.e3.l_.e3]]])), Hh (.f), Hs (iM F7_ h5), Hh (.f), Hx (.a (.agg [.agg [I s_queues3.e0.many_, .agg [I s_queues3.e0.l_.e0, I s_queues3.e0.l_.e1, I s_queues3.e0.l_.e2, I s_queues3.e0.l_.e3]], .agg [I s_queues3.e1.many_, .agg [I s_queues3.e1.l_.e0, I s_queues3.e1.l_.e1, I s_queues3.e1.l_.e2, I s_queues3.e1.l_.e3]], .agg [I s_queues3.e2.many_, .agg [I s_queues3.e2.l_.e0, I s_queues3.e2.l_.e1, I s_queues3.e2.l_.e2, I s_queues3.e2.l_.e3]], .agg [I s_queues3.e3.many_, .agg [I s_queues3.e3.l_.e0, I s_queues3.e3.l_.e1, I s_queues3.e3.l_.e2, I s_queues3.e3.l_.e3]]])) (rfl : some (.agg [.agg [I s_queues3.e0.many_, .agg [I s_queues3.e0.l_.e0, I s_queues3.e0.l_.e1, I s_queues3.e0.l_.e2, I s_queues3.e0.l_.e3]], .agg [I s_queues3.e1.many_, .agg [I s_queues3.e1.l_.e0, I s_queues3.e1.l_.e1, I s_queues3.e1.l_.e2, I s_queues3.e1.l_.e3]], .agg [I s_queues3.e2.many_, .agg [I s_queues3.e2.l_.e0, I s_queues3.e2.l_.e1, I s_queues3.e2.l_.e2, I s_queues3.e2.l_.e3]], .agg [I s_queues3.e3.many_, .agg [I s_queues3.e3.l_.e0, I s_queues3.e3.l_.e1, I s_queues3.e3.l_.e2, I s_queues3.e3.l_.e3]]] : A) = some (.agg [.agg [I s_queues3.e0.many_, .agg [I s_queues3.e0.l_.e0, I s_queues3.e0.l_.e1, I s_queues3.e0.l_.e2, I s_queues3.e0.l_.e3]], .agg [I s_queues3.e1.many_, .agg [I s_queues3.e1.l_.e0, I s_queues3.e1.l_.e1, I s_queues3.e1.l_.e2, I s_queues3.e1.l_.e3]], .agg [I s_queues3.e2.many_, .agg [I s_queues3.e2.l_.e0, I s_queues3.e2.l_.e1, I s_queues3.e2.l_.e2, I s_queues3.e2.l_.e3]], .agg [I s_queues3.e3.many_, .agg [I s_queues3.e3.l_.e0, I s_queues3.e3.l_.e1, I s_queues3.e3.l_.e2, I s_queues3.e3.l_.e3]]])), Hh (.f), Hs (iM F7_ h5), Hx (.l ((zF.toL arr1).map F7_)) ((zF.setL F7_ s_queues3 x15 r_).trans (congrArg (fun q => (zF.toL q).map F7_) h6)), Hx (.l [.agg [I arr.e0, I arr.e1, I arr.e2, I arr.e3], .agg [.agg [I arr1.e0.many_, .agg [I arr1.e0.l_.e0, I arr1.e0.l_.e1, I arr1.e0.l_.e2, I arr1.e0.l_.e3]], .agg [I arr1.e1.many_, .agg [I arr1.e1.l_.e0, I arr1.e1.l_.e1, I arr1.e1.l_.e2, I arr1.e1.l_.e3]], .agg [I arr1.e2.many_, .agg [I arr1.e2.l_.e0, I arr1.e2.l_.e1, I arr1.e2.l_.e2, I arr1.e2.l_.e3]], .agg [I arr1.e3.many_, .agg [I arr1.e3.l_.e0, I arr1.e3.l_.e1, I arr1.e3.l_.e2, I arr1.e3.l_.e3]]]]) (rfl : ([.agg [I arr.e0, I arr.e1, I arr.e2, I arr.e3], .agg [.agg [I arr1.e0.many_, .agg [I arr1.e0.l_.e0, I arr1.e0.l_.e1, I arr1.e0.l_.e2, I arr1.e0.l_.e3]], .agg [I arr1.e1.many_, .agg [I arr1.e1.l_.e0, I arr1.e1.l_.e1, I arr1.e1.l_.e2, I arr1.e1.l_.e3]], .agg [I arr1.e2.many_, .agg [I arr1.e2.l_.e0, I arr1.e2.l_.e1, I arr1.e2.l_.e2, I arr1.e2.l_.e3]], .agg [I arr1.e3.many_, .agg [I arr1.e3.l_.e0, I arr1.e3.l_.e1, I arr1.e3.l_.e2, I arr1.e3.l_.e3]]]] : List A) = [.agg [I arr.e0, I arr.e1, I arr.e2, I arr.e3], .agg [.agg [I arr1.e0.many_, .agg [I arr1.e0.l_.e0, I arr1.e0.l_.e1, I arr1.e0.l_.e2, I arr1.e0.l_.e3]], .agg [I arr1.e1.many_, .agg [I arr1.e1.l_.e0, I arr1.e1.l_.e1, I arr1.e1.l_.e2, I arr1.e1.l_.e3]], .agg [I arr1.e2.many_, .agg [I arr1.e2.l_.e0, I arr1.e2.l_.e1, I arr1.e2.l_.e2, I arr1.e2.l_.e3]], .agg [I arr1.e3.many_, .agg [I arr1.e3.l_.e0, I arr1.e3.l_.e1, I arr1.e3.l_.e2, I arr1.e3.l_.e3]]]])]
    ·obtain rfl := zi hf2
     obtain rfl := hl2
     exact yB X0 hC hJ3 s_queues3 hf1 [Hq c1]
  ·obtain rfl := zi hf1
   obtain rfl := hl1
   exact yB X0 hC hJ1 s_queues1 hf0 [Hq c0]
def vu : Code := (Tryz.f22.body).getD .skip
def kQ : xm := spF (α := z6 × z8) (ρ := List zc × Int) 22 (fun x => [yN x.1, qB x.2]) (fun r => .tup [z5n r.1, (eI .i64) r.2]) (fun x => wY x.1 x.2) [] (VV)
abbrev Va (out : List zc) : List (Nat × T) := [(7, .own (.box (eOs 4 false w6 out)))]
abbrev ZR (r_3 : z6 × za) (out1 : List zc) : List (Nat × T) := [(7, .own (.box (eOs 4 false w6 out1))), (18, .d (.fn 82 [.sptr (.agg [I r_3.1.Messages, I r_3.1.Labels, eSl 1 false (eI .i64) r_3.1.Channels, eSl 3 false vg r_3.1.Parts]), .sptr (.agg [.agg [I r_3.2.states_.e0, I r_3.2.states_.e1, I r_3.2.states_.e2, I r_3.2.states_.e3], .agg [.agg [I r_3.2.queues_.e0.many_, .agg [I r_3.2.queues_.e0.l_.e0, I r_3.2.queues_.e0.l_.e1, I r_3.2.queues_.e0.l_.e2, I r_3.2.queues_.e0.l_.e3]], .agg [I r_3.2.queues_.e1.many_, .agg [I r_3.2.queues_.e1.l_.e0, I r_3.2.queues_.e1.l_.e1, I r_3.2.queues_.e1.l_.e2, I r_3.2.queues_.e1.l_.e3]], .agg [I r_3.2.queues_.e2.many_, .agg [I r_3.2.queues_.e2.l_.e0, I r_3.2.queues_.e2.l_.e1, I r_3.2.queues_.e2.l_.e2, I r_3.2.queues_.e2.l_.e3]], .agg [I r_3.2.queues_.e3.many_, .agg [I r_3.2.queues_.e3.l_.e0, I r_3.2.queues_.e3.l_.e1, I r_3.2.queues_.e3.l_.e2, I r_3.2.queues_.e3.l_.e3]]]])]))]
theorem Qz {ctr : Ctr} (hC : zW Tryz.prog ctr) (h0k : ctr.Has wm) (h0u : ctr.Has ji) (h0e : ctr.Has wb) (h07 : ctr.Has xL) (h09 : ctr.Has xK) (h0a : ctr.Has jz) (h0i : ctr.Has yn) : kQ.Ok Tryz.prog := by
 refine y7 ?_
 rintro ⟨x_, c_⟩ r0 hf0
 try unfold wY at hf0
 refine yO false [(4, none), (5, none)] vu 27 Tryz.func22 fun E hE => ?_
 obtain ⟨r_, h0, hf0⟩ := zl hf0
 let Z0 : List HO := [Hc h0k (x := (x_, c_)) h0 (loC yN x_ <| loC qB c_ <| loN)]
 rcases zR hf0 with ⟨c0, hf0⟩ | ⟨c0, hf0⟩
 ·obtain rfl := zi hf0
  exact yEx X0 hC hE (Z0 ++ [Hq c0, Hm (shM w6 w6 [])]) (.tup [eSl 4 true w6 [], I r_]) (show LeV (.tup [eSl 4 true w6 [], I r_]) (.tup [eSl 4 true w6 ([] : List zc), I r_]) from inferInstance)
 ·refine yJ X0 hC vu [1,1,1] [] [7] (fun z : List zc => uQ z = some r0) (fun z => Va z) [(2, .own (.box (yN x_))), (3, .own (.box (qB c_))), (7, .own (.box (eOs 4 true w6 [])))] (Z0 ++ [Hq c0, Hh (.cut 1)]) ?_ fun J1 hJ1 => ?_
  ·rintro out hf0
   unfold uQ at hf0
   obtain ⟨r_1, h1, hf0⟩ := zl hf0
   obtain rfl := zi hf0
   exact yE X0 hC hE [Hg (z1x h0i), Hm (shM w6 w6 out), Hs (z1y h0i (x := out) h1 (loC z9t out <| loN)), Hm (shM w6 w6 out)]
  ·obtain ⟨r_2, h2, hf0⟩ := zl hf0
   obtain ⟨r_3, h3, hf0⟩ := zl hf0
   obtain ⟨t2, ht2, hf0⟩ := zl hf0
   refine yAt X0 hC (sub [1,1,1,2,1,0] vu) (frs [1,1,1,2,1,0] [J1] vu []) [(7, .own (.box (eOs 4 true w6 []))), (18, .d (.fn 82 [.sptr (.agg [I r_3.1.Messages, I r_3.1.Labels, eSl 1 false (eI .i64) r_3.1.Channels, eSl 3 false vg r_3.1.Parts]), .sptr (.agg [.agg [I r_3.2.states_.e0, I r_3.2.states_.e1, I r_3.2.states_.e2, I r_3.2.states_.e3], .agg [.agg [I r_3.2.queues_.e0.many_, .agg [I r_3.2.queues_.e0.l_.e0, I r_3.2.queues_.e0.l_.e1, I r_3.2.queues_.e0.l_.e2, I r_3.2.queues_.e0.l_.e3]], .agg [I r_3.2.queues_.e1.many_, .agg [I r_3.2.queues_.e1.l_.e0, I r_3.2.queues_.e1.l_.e1, I r_3.2.queues_.e1.l_.e2, I r_3.2.queues_.e1.l_.e3]], .agg [I r_3.2.queues_.e2.many_, .agg [I r_3.2.queues_.e2.l_.e0, I r_3.2.queues_.e2.l_.e1, I r_3.2.queues_.e2.l_.e2, I r_3.2.queues_.e2.l_.e3]], .agg [I r_3.2.queues_.e3.many_, .agg [I r_3.2.queues_.e3.l_.e0, I r_3.2.queues_.e3.l_.e1, I r_3.2.queues_.e3.l_.e2, I r_3.2.queues_.e3.l_.e3]]]])]))] [Hc h0u (x := c_) h2 (loC qB c_ <| loN), Hc h0e (x := (x_, r_2)) h3 (loC yN x_ <| loC x7 r_2 <| loN)] fun st0 h0 => ?_
   refine JE (g := .tmp 18) (ps := [19,20]) (assign := (sub [1,1,1,2,1,0,0] vu)) (body := (sub [1,1,1,2,1,0,1] vu)) (K := 82) (caps := [.sptr (.agg [I r_3.1.Messages, I r_3.1.Labels, eSl 1 false (eI .i64) r_3.1.Channels, eSl 3 false vg r_3.1.Parts]), .sptr (.agg [.agg [I r_3.2.states_.e0, I r_3.2.states_.e1, I r_3.2.states_.e2, I r_3.2.states_.e3], .agg [.agg [I r_3.2.queues_.e0.many_, .agg [I r_3.2.queues_.e0.l_.e0, I r_3.2.queues_.e0.l_.e1, I r_3.2.queues_.e0.l_.e2, I r_3.2.queues_.e0.l_.e3]], .agg [I r_3.2.queues_.e1.many_, .agg [I r_3.2.queues_.e1.l_.e0, I r_3.2.queues_.e1.l_.e1, I r_3.2.queues_.e1.l_.e2, I r_3.2.queues_.e1.l_.e3]], .agg [I r_3.2.queues_.e2.many_, .agg [I r_3.2.queues_.e2.l_.e0, I r_3.2.queues_.e2.l_.e1, I r_3.2.queues_.e2.l_.e2, I r_3.2.queues_.e2.l_.e3]], .agg [I r_3.2.queues_.e3.many_, .agg [I r_3.2.queues_.e3.l_.e0, I r_3.2.queues_.e3.l_.e1, I r_3.2.queues_.e3.l_.e2, I r_3.2.queues_.e3.l_.e3]]]])]) (by kernel_rfl) [7,18] (fun s => ZR r_3 s) (fun z => nomatch z) (fun z => nomatch z) ((fun (x : zc × za) (_ : Bool) (_ : Value) => [w6 x.1, x7 x.2])) (F := @y9 r_3.1 r_3.2) (fun s x => wP s x.1 x.2) ([] : List zc) t2 _ h0 inferInstance (by kernel_rfl) (by decide) (fun _ => rfl) (by rintro ⟨⟩) (by kernel_rfl) (fun _ _ _ => rfl) (u3 hC h07 h09 h0a r_3.1 r_3.2) ht2 ?_ ?_
   ·rintro tv2 out1 ⟨x19, x20⟩ vr lr1 hf1
    replace hf1 : wP out1 x19 x20 = some lr1 := hf1
    unfold wP at hf1
    refine yF X0 hC .normal [(7, .own (.box (eOs 4 false w6 out1))), (8, .own (.box (w6 x19))), (18, .d (.fn 82 [.sptr (.agg [I r_3.1.Messages, I r_3.1.Labels, eSl 1 false (eI .i64) r_3.1.Channels, eSl 3 false vg r_3.1.Parts]), .sptr (.agg [.agg [I r_3.2.states_.e0, I r_3.2.states_.e1, I r_3.2.states_.e2, I r_3.2.states_.e3], .agg [.agg [I r_3.2.queues_.e0.many_, .agg [I r_3.2.queues_.e0.l_.e0, I r_3.2.queues_.e0.l_.e1, I r_3.2.queues_.e0.l_.e2, I r_3.2.queues_.e0.l_.e3]], .agg [I r_3.2.queues_.e1.many_, .agg [I r_3.2.queues_.e1.l_.e0, I r_3.2.queues_.e1.l_.e1, I r_3.2.queues_.e1.l_.e2, I r_3.2.queues_.e1.l_.e3]], .agg [I r_3.2.queues_.e2.many_, .agg [I r_3.2.queues_.e2.l_.e0, I r_3.2.queues_.e2.l_.e1, I r_3.2.queues_.e2.l_.e2, I r_3.2.queues_.e2.l_.e3]], .agg [I r_3.2.queues_.e3.many_, .agg [I r_3.2.queues_.e3.l_.e0, I r_3.2.queues_.e3.l_.e1, I r_3.2.queues_.e3.l_.e2, I r_3.2.queues_.e3.l_.e3]]]])]))] [] fun st0 h0 => ⟨rfl, z09 h0 ?_⟩
    obtain ⟨g0, hf1⟩ := gdE hf1
    obtain rfl := zi hf1
    exact yF X0 hC .normal (ZR r_3 (out1 ++ ([x19] : List zc))) [Hq (dM w6 ([x19] : List zc)), Hn (dM w6 ([x19] : List zc)), Hn (aL w6 w6 g0), Hl (aM w6 out1 ([x19] : List zc))] fun st0 h0 => ⟨rfl, _, h0, LeL.refl _⟩
   ·rcases t2 with out1 | z
    ·dsimp only at hf0
     exact YO (by kernel_rfl) (hJ1 _ [(7, .own (.box (eOs 4 false w6 out1)))] out1 hf0 (show Own.canon [7] _ = ofL _ by kernel_rfl) inferInstance)
    ·cases z
def qW : Code := (Tryz.f24.body).getD .skip
def YT : xm := spF (α := z6 × z8 × zc) (ρ := z8 × Int) 24 (fun x => [yN x.1, qB x.2.1, w6 x.2.2]) (fun r => .tup [z1u r.1, (eI .i64) r.2]) (fun x => ub x.1 x.2.1 x.2.2) [] (z9m)
abbrev Qi (x6_States : List Int) (x6_Queues : List (List Int)) : List (Nat × T) := [(6, .own (.box (.agg [eSl 1 true (eI .i64) x6_States, eSl 1 true F1_ x6_Queues]))), (7, .own (.box (I 0)))]
abbrev jo (x_ : z6) (m_ : zc) (r_2 : z6 × za) (x6_States1 : List Int) (x6_Queues1 : List (List Int)) : List (Nat × T) := [(3, .own (.box (yN x_))), (5, .own (.box (w6 m_))), (6, .own (.box (.agg [eSl 1 true (eI .i64) x6_States1, eSl 1 true F1_ x6_Queues1]))), (7, .own (.box (I 0))), (21, .d (.fn 82 [.sptr (.agg [I r_2.1.Messages, I r_2.1.Labels, eSl 1 false (eI .i64) r_2.1.Channels, eSl 3 false vg r_2.1.Parts]), .sptr (.agg [.agg [I r_2.2.states_.e0, I r_2.2.states_.e1, I r_2.2.states_.e2, I r_2.2.states_.e3], .agg [.agg [I r_2.2.queues_.e0.many_, .agg [I r_2.2.queues_.e0.l_.e0, I r_2.2.queues_.e0.l_.e1, I r_2.2.queues_.e0.l_.e2, I r_2.2.queues_.e0.l_.e3]], .agg [I r_2.2.queues_.e1.many_, .agg [I r_2.2.queues_.e1.l_.e0, I r_2.2.queues_.e1.l_.e1, I r_2.2.queues_.e1.l_.e2, I r_2.2.queues_.e1.l_.e3]], .agg [I r_2.2.queues_.e2.many_, .agg [I r_2.2.queues_.e2.l_.e0, I r_2.2.queues_.e2.l_.e1, I r_2.2.queues_.e2.l_.e2, I r_2.2.queues_.e2.l_.e3]], .agg [I r_2.2.queues_.e3.many_, .agg [I r_2.2.queues_.e3.l_.e0, I r_2.2.queues_.e3.l_.e1, I r_2.2.queues_.e3.l_.e2, I r_2.2.queues_.e3.l_.e3]]]])]))]
theorem z0p {ctr : Ctr} (hC : zW Tryz.prog ctr) (h0k : ctr.Has wm) (h0u : ctr.Has ji) (h0e : ctr.Has wb) (h07 : ctr.Has xL) (h09 : ctr.Has xK) (h0a : ctr.Has jz) (h0g : ctr.Has xV) : YT.Ok Tryz.prog := by
 refine y7 ?_
 rintro ⟨x_, c_, m_⟩ r0 hf0
 try unfold ub at hf0
 refine yO false [(6, some 39), (7, some 40)] qW 31 Tryz.func24 fun E hE => ?_
 obtain ⟨r_, h0, hf0⟩ := zl hf0
 let Z0 : List HO := [Hh (.v 2 [6]), Hm (shM (eI .i64) (eI .i64) []), Hm (shM F2_ F2_ []), Hc h0k (x := (x_, c_)) h0 (loC yN x_ <| loC qB c_ <| loN)]
 rcases zR hf0 with ⟨c0, hf0⟩ | ⟨c0, hf0⟩
 ·obtain rfl := zi hf0
  exact yE X0 hC hE (Z0 ++ [Hq c0, Hm (shM (eI .i64) (eI .i64) []), Hm (shM F2_ F2_ [])])
 ·refine yJ X0 hC qW [1,1] [] [6,7] (fun z : List Int × List (List Int) => YS z.1 z.2 = some r0) (fun z => Qi z.1 z.2) [(3, .own (.box (yN x_))), (4, .own (.box (qB c_))), (5, .own (.box (w6 m_))), (6, .own (.box (.agg [eSl 1 true (eI .i64) [], eSl 1 true F2_ []]))), (7, .own (.box (I 0)))] (Z0 ++ [Hq c0, Hh (.cut 0)]) ?_ fun J1 hJ1 => ?_
  ·rintro ⟨x6_States, x6_Queues⟩ hf0
   unfold YS at hf0
   obtain rfl := zi hf0
   exact yE X0 hC hE [Hm (shM (eI .i64) (eI .i64) []), Hm (shM F2_ F2_ [])]
  ·obtain ⟨r_1, h1, hf0⟩ := zl hf0
   obtain ⟨r_2, h2, hf0⟩ := zl hf0
   obtain ⟨t2, ht2, hf0⟩ := zl hf0
   refine yAt X0 hC (sub [1,1,2,1,0] qW) (frs [1,1,2,1,0] [J1] qW []) [(3, .own (.box (yN x_))), (5, .own (.box (w6 m_))), (6, .own (.box (.agg [eSl 1 true (eI .i64) [], eSl 1 true F1_ []]))), (7, .own (.box (I 0))), (21, .d (.fn 82 [.sptr (.agg [I r_2.1.Messages, I r_2.1.Labels, eSl 1 false (eI .i64) r_2.1.Channels, eSl 3 false vg r_2.1.Parts]), .sptr (.agg [.agg [I r_2.2.states_.e0, I r_2.2.states_.e1, I r_2.2.states_.e2, I r_2.2.states_.e3], .agg [.agg [I r_2.2.queues_.e0.many_, .agg [I r_2.2.queues_.e0.l_.e0, I r_2.2.queues_.e0.l_.e1, I r_2.2.queues_.e0.l_.e2, I r_2.2.queues_.e0.l_.e3]], .agg [I r_2.2.queues_.e1.many_, .agg [I r_2.2.queues_.e1.l_.e0, I r_2.2.queues_.e1.l_.e1, I r_2.2.queues_.e1.l_.e2, I r_2.2.queues_.e1.l_.e3]], .agg [I r_2.2.queues_.e2.many_, .agg [I r_2.2.queues_.e2.l_.e0, I r_2.2.queues_.e2.l_.e1, I r_2.2.queues_.e2.l_.e2, I r_2.2.queues_.e2.l_.e3]], .agg [I r_2.2.queues_.e3.many_, .agg [I r_2.2.queues_.e3.l_.e0, I r_2.2.queues_.e3.l_.e1, I r_2.2.queues_.e3.l_.e2, I r_2.2.queues_.e3.l_.e3]]]])]))] [Hc h0u (x := c_) h1 (loC qB c_ <| loN), Hc h0e (x := (x_, r_1)) h2 (loC yN x_ <| loC x7 r_1 <| loN)] fun st0 h0 => ?_
   refine JE (g := .tmp 21) (ps := [22,23]) (assign := (sub [1,1,2,1,0,0] qW)) (body := (sub [1,1,2,1,0,1] qW)) (K := 82) (caps := [.sptr (.agg [I r_2.1.Messages, I r_2.1.Labels, eSl 1 false (eI .i64) r_2.1.Channels, eSl 3 false vg r_2.1.Parts]), .sptr (.agg [.agg [I r_2.2.states_.e0, I r_2.2.states_.e1, I r_2.2.states_.e2, I r_2.2.states_.e3], .agg [.agg [I r_2.2.queues_.e0.many_, .agg [I r_2.2.queues_.e0.l_.e0, I r_2.2.queues_.e0.l_.e1, I r_2.2.queues_.e0.l_.e2, I r_2.2.queues_.e0.l_.e3]], .agg [I r_2.2.queues_.e1.many_, .agg [I r_2.2.queues_.e1.l_.e0, I r_2.2.queues_.e1.l_.e1, I r_2.2.queues_.e1.l_.e2, I r_2.2.queues_.e1.l_.e3]], .agg [I r_2.2.queues_.e2.many_, .agg [I r_2.2.queues_.e2.l_.e0, I r_2.2.queues_.e2.l_.e1, I r_2.2.queues_.e2.l_.e2, I r_2.2.queues_.e2.l_.e3]], .agg [I r_2.2.queues_.e3.many_, .agg [I r_2.2.queues_.e3.l_.e0, I r_2.2.queues_.e3.l_.e1, I r_2.2.queues_.e3.l_.e2, I r_2.2.queues_.e3.l_.e3]]]])]) (by kernel_rfl) [3,5,6,7,21] (fun s => jo x_ m_ r_2 s.1 s.2) (fun s => jo x_ m_ r_2 s.1 s.2) (fun s => Code.ret) ((fun (x : zc × za) (_ : Bool) (_ : Value) => [w6 x.1, x7 x.2])) (F := @y9 r_2.1 r_2.2) (fun s x => wD x_ m_ s.1 s.2 x.1 x.2) (([] : List Int), ([] : List (List Int))) t2 _ h0 inferInstance (by kernel_rfl) (by decide) (fun _ => rfl) (fun _ => rfl) (by kernel_rfl) (fun _ _ _ => rfl) (u3 hC h07 h09 h0a r_2.1 r_2.2) ht2 ?_ ?_
   ·rintro tv2 ⟨x6_States1, x6_Queues1⟩ ⟨x22, x23⟩ vr lr1 hf1
    replace hf1 : wD x_ m_ x6_States1 x6_Queues1 x22 x23 = some lr1 := hf1
    unfold wD at hf1
    refine yF X0 hC .normal [(3, .own (.box (yN x_))), (5, .own (.box (w6 m_))), (6, .own (.box (.agg [eSl 1 true (eI .i64) x6_States1, eSl 1 true F1_ x6_Queues1]))), (7, .own (.box (I 0))), (9, .own (.box (w6 x22))), (10, .own (.box (x7 x23))), (21, .d (.fn 82 [.sptr (.agg [I r_2.1.Messages, I r_2.1.Labels, eSl 1 false (eI .i64) r_2.1.Channels, eSl 3 false vg r_2.1.Parts]), .sptr (.agg [.agg [I r_2.2.states_.e0, I r_2.2.states_.e1, I r_2.2.states_.e2, I r_2.2.states_.e3], .agg [.agg [I r_2.2.queues_.e0.many_, .agg [I r_2.2.queues_.e0.l_.e0, I r_2.2.queues_.e0.l_.e1, I r_2.2.queues_.e0.l_.e2, I r_2.2.queues_.e0.l_.e3]], .agg [I r_2.2.queues_.e1.many_, .agg [I r_2.2.queues_.e1.l_.e0, I r_2.2.queues_.e1.l_.e1, I r_2.2.queues_.e1.l_.e2, I r_2.2.queues_.e1.l_.e3]], .agg [I r_2.2.queues_.e2.many_, .agg [I r_2.2.queues_.e2.l_.e0, I r_2.2.queues_.e2.l_.e1, I r_2.2.queues_.e2.l_.e2, I r_2.2.queues_.e2.l_.e3]], .agg [I r_2.2.queues_.e3.many_, .agg [I r_2.2.queues_.e3.l_.e0, I r_2.2.queues_.e3.l_.e1, I r_2.2.queues_.e3.l_.e2, I r_2.2.queues_.e3.l_.e3]]]])]))] [] fun st0 h0 => ⟨rfl, z09 h0 ?_⟩
    rcases zR hf1 with ⟨c1, hf1⟩ | ⟨c1, hf1⟩
    ·obtain ⟨r_3, h3, hf1⟩ := zl hf1
     obtain rfl := zi hf1
     exact yF X0 hC .ret (jo x_ m_ r_2 r_3.States r_3.Queues) [Hq c1, Hc h0g (x := (x_, x23)) h3 (loC yN x_ <| loC x7 x23 <| loN)] fun st0 h0 => ⟨rfl, _, h0, LeL.refl _⟩
    ·obtain rfl := zi hf1
     exact yF X0 hC .normal (jo x_ m_ r_2 x6_States1 x6_Queues1) [Hq c1] fun st0 h0 => ⟨rfl, _, h0, LeL.refl _⟩
   ·rcases t2 with ⟨x6_States1, x6_Queues1⟩ | z
    ·dsimp only at hf0
     exact YO (by kernel_rfl) (hJ1 _ [(6, .own (.box (.agg [eSl 1 true (eI .i64) x6_States1, eSl 1 true F1_ x6_Queues1]))), (7, .own (.box (I 0)))] (x6_States1, x6_Queues1) hf0 (show Own.canon [6,7] _ = ofL _ by kernel_rfl) inferInstance)
    ·obtain ⟨x6_States1, x6_Queues1⟩ := z
     dsimp only at hf0
     show AWP _ _ (Code.ret) _ _
     obtain rfl := zi hf0
     exact yE X0 hC hE []
def vd : Code := (Tryz.f31.body).getD .skip
def Zr : xm := spF (α := z6 × z8) (ρ := Int) 31 (fun x => [yN x.1, qB x.2]) (fun r => (eI .i64) r) (fun x => kF x.1 x.2) [] (VV)
abbrev VM : List (Nat × T) := []
abbrev VL (x_ : z6) (c_ : z8) (i_ : Int) : List (Nat × T) := [(2, .own (.box (yN x_))), (3, .own (.box (qB c_))), (6, .d (I i_))]
abbrev VJ (x_ : z6) (c_ : z8) (i_ : Int) (k_ : Int) : List (Nat × T) := [(2, .own (.box (yN x_))), (3, .own (.box (qB c_))), (6, .d (I i_)), (7, .d (I k_))]
abbrev VK (x_ : z6) (c_ : z8) (i_ : Int) : List (Nat × T) := [(2, .own (.box (yN x_))), (3, .own (.box (qB c_))), (6, .d (I i_))]
abbrev VN (x_ : z6) (c_ : z8) : List (Nat × T) := [(2, .own (.box (yN x_))), (3, .own (.box (qB c_)))]
abbrev VI (x_ : z6) (c_ : z8) (i_1 : Int) : List (Nat × T) := [(2, .own (.box (yN x_))), (3, .own (.box (qB c_))), (5, .d (I i_1))]
theorem JO {ctr : Ctr} (hC : zW Tryz.prog ctr) (h04 : ctr.Has Zq) : Zr.Ok Tryz.prog := by
 refine y7 ?_
 rintro ⟨x_, c_⟩ r0 hf0
 try unfold kF at hf0
 refine yO true [(4, none)] vd 85 Tryz.func31 fun E hE => ?_
 let Z0 : List HO := [Ha (lnM (eI .i64) c_.States), Ha (lnM vg x_.Parts)]
 rcases zR hf0 with ⟨c0, hf0⟩ | ⟨c0, hf0⟩
 ·obtain rfl := zi hf0
  exact yE X0 hC hE (Z0 ++ (rpN 8 (Hq c0) [qT]))
 ·let Z1 : List HO := (Z0 ++ [Hq c0, Hq c0, Hq c0, Ha (lnM F2_ c_.Queues), Hq c0, Hq c0, Hq c0, Ha (lnM (eI .i64) x_.Channels), Hq c0, Hq c0])
  rcases zR hf0 with ⟨c1, hf0⟩ | ⟨c1, hf0⟩
  ·obtain rfl := zi hf0
   exact yE X0 hC hE (Z1 ++ [Hq c1])
  ·refine yJ X0 hC vd [1,1] [] [2,3] (fun z : Unit => qL x_ c_ = some r0) (fun z => VN x_ c_) [(2, .own (.box (yN x_))), (3, .own (.box (qB c_)))] (Z1 ++ [Hq c1, Hh (.cut 0)]) ?_ fun J1 hJ1 => ?_
   ·rintro ⟨⟩ hf0
    unfold qL at hf0
    refine yJ X0 hC vd [1,1,1] [] [] (fun z : Unit => ZA = some r0) (fun z => VM) [(2, .own (.box (yN x_))), (3, .own (.box (qB c_)))] [Hh (.cut 0)] ?_ fun J2 hJ2 => ?_
    ·rintro ⟨⟩ hf0
     unfold ZA at hf0
     obtain rfl := zi hf0
     exact yE X0 hC hE []
    ·obtain ⟨t3, ht3, hf0⟩ := zl hf0
     refine yL X0 hC vd [1,1,1,2,1,0] [J2] (fun s => qK x_ c_ s) (fun x => VK x_ c_ x) 0 ht3  [] ?_
     rintro i_ m3 lr1 hf1 hl1 J3 hJ3
     try unfold qK at hf1
     let Z2 : List HO := [Ha (lnM F2_ c_.Queues)]
     rcases zR hf1 with ⟨c2, hf1⟩ | ⟨c2, hf1⟩
     ·refine yJ X0 hC vd [1,1,1,2,1,0,0,1] [J2, J3] [2,3,6] (fun z : Unit => jZ i_ = some lr1) (fun z => VL x_ c_ i_) [(2, .own (.box (yN x_))), (3, .own (.box (qB c_))), (6, .d (I i_))] (Z2 ++ [Hq c2, Hh (.cut 0)]) ?_ fun J4 hJ4 => ?_
      ·rintro ⟨⟩ hf1
       unfold jZ at hf1
       obtain rfl := zi hf1
       exact yB X0 hC hJ3 (w64 (i_ + 1)) hl1 []
      ·obtain ⟨Queue_e, h0, hf1⟩ := zl hf1
       obtain ⟨Channel_e, h1, hf1⟩ := zl hf1
       let Z3 : List HO := [Hi F2_ h0, Ha (lnM (eI .i64) Queue_e), Hi (eI .i64) h1]
       rcases zR hf1 with ⟨c3, hf1⟩ | ⟨c3, hf1⟩
       ·obtain rfl := zi hf1
        obtain rfl := hl1
        obtain rfl := zi hf0
        exact yE X0 hC hE (Z3 ++ [Hq c3])
       ·obtain ⟨t5, ht5, hf1⟩ := zl hf1
        refine yL X0 hC vd [1,1,1,2,1,0,0,1,2,0,1,1,0] [J2, J3, J4] (fun s => qJ x_ c_ i_ s) (fun x => VJ x_ c_ i_ x) 0 ht5  (Z3 ++ [Hq c3]) ?_
        rintro k_ m5 lr2 hf2 hl2 J5 hJ5
        try unfold qJ at hf2
        obtain ⟨Queue_e1, h2, hf2⟩ := zl hf2
        let Z4 : List HO := [Hi F2_ h2, Ha (lnM (eI .i64) Queue_e1)]
        rcases zR hf2 with ⟨c4, hf2⟩ | ⟨c4, hf2⟩
        ·obtain ⟨Queue_e2, h3, hf2⟩ := zl hf2
         obtain ⟨Queue_e_e, h4, hf2⟩ := zl hf2
         obtain ⟨r_, h5, hf2⟩ := zl hf2
         let Z5 : List HO := (Z4 ++ [Hq c4, Hi F2_ h3, Hi (eI .i64) h4, Hc h04 (x := (Queue_e_e, x_.Messages)) h5 (loC (eI .i64) Queue_e_e <| loC (eI .i64) x_.Messages <| loN)])
         rcases zR hf2 with ⟨c5, hf2⟩ | ⟨c5, hf2⟩
         ·obtain rfl := zi hf2
          obtain rfl := hl2
          obtain rfl := zi hf1
          obtain rfl := hl1
          obtain rfl := zi hf0
          exact yE X0 hC hE (Z5 ++ [Hq c5])
         ·obtain rfl := zi hf2
          exact yB X0 hC hJ5 (w64 (k_ + 1)) hl2 (Z5 ++ [Hq c5])
        ·obtain rfl := zi hf2
         obtain rfl := hl2
         exact yB X0 hC hJ4 () hf1 (Z4 ++ [Hq c4])
     ·obtain rfl := zi hf1
      obtain rfl := hl1
      exact yB X0 hC hJ2 () hf0 (Z2 ++ [Hq c2])
   ·obtain ⟨t6, ht6, hf0⟩ := zl hf0
    refine yL X0 hC vd [1,1,2,1,0] [J1] (fun s => qI x_ c_ s) (fun x => VI x_ c_ x) 0 ht6  [] ?_
    rintro i_1 m6 lr1 hf1 hl1 J6 hJ6
    try unfold qI at hf1
    let Z6 : List HO := [Ha (lnM (eI .i64) c_.States)]
    rcases zR hf1 with ⟨c6, hf1⟩ | ⟨c6, hf1⟩
    ·obtain ⟨State_e, h6, hf1⟩ := zl hf1
     obtain ⟨Part_e, h7, hf1⟩ := zl hf1
     obtain ⟨r_1, h8, hf1⟩ := zl hf1
     let Z7 : List HO := (Z6 ++ [Hq c6, Hi (eI .i64) h6, Hi vg h7, Hc h04 (x := (State_e, Part_e.States)) h8 (loC (eI .i64) State_e <| loC (eI .i64) Part_e.States <| loN)])
     rcases zR hf1 with ⟨c7, hf1⟩ | ⟨c7, hf1⟩
     ·obtain rfl := zi hf1
      obtain rfl := hl1
      obtain rfl := zi hf0
      exact yE X0 hC hE (Z7 ++ [Hq c7])
     ·obtain rfl := zi hf1
      exact yB X0 hC hJ6 (w64 (i_1 + 1)) hl1 (Z7 ++ [Hq c7])
    ·obtain rfl := zi hf1
     obtain rfl := hl1
     exact yB X0 hC hJ1 () hf0 (Z6 ++ [Hq c6])
def wq : Code := (Tryz.f7.body).getD .skip
def uZ : xm := spF (α := z6 × z8 × List Int) (ρ := Bool) 7 (fun x => [yN x.1, qB x.2.1, F2_ x.2.2]) (fun r => eB r) (fun x => uK x.1 x.2.1 x.2.2) [] (z9m)
abbrev YD (x_ : z6) (hidden : List Int) (r_11 : zC × Int) : List (Nat × T) := [(2, .d (eSl 1 false (eI .i64) hidden)), (3, .own (.box (yN x_))), (15, .own (.box (z9e r_11.1))), (16, .d (I r_11.2))]
abbrev YE (x_ : z6) (hidden : List Int) (r_8 : List zc × Int) (r_9 : z8 × Int) (r_10 : Int) (r_11 : zC × Int) (bad : Int) : List (Nat × T) := [(2, .d (eSl 1 false (eI .i64) hidden)), (3, .own (.box (yN x_))), (10, .d (eSl 4 true w6 r_8.1)), (11, .d (I r_8.2)), (13, .d (I r_9.2)), (14, .d (I r_10)), (15, .own (.box (z9e r_11.1))), (16, .d (I r_11.2)), (23, .d (I bad))]
abbrev YF (x_ : z6) (c_ : z8) (hidden : List Int) (n_ : Int) : List (Nat × T) := [(2, .d (eSl 1 false (eI .i64) hidden)), (3, .own (.box (yN x_))), (4, .own (.box (qB c_))), (7, .d (I n_))]
abbrev YC (x_ : z6) (c_ : z8) (hidden : List Int) (n_1 : Int) (i_ : Int) : List (Nat × T) := [(2, .d (eSl 1 false (eI .i64) hidden)), (3, .own (.box (yN x_))), (4, .own (.box (qB c_))), (7, .d (I n_1)), (8, .d (I i_))]
theorem XQ {ctr : Ctr} (hC : zW Tryz.prog ctr) (h0X : ctr.Has Yi) (h06 : ctr.Has Yh) (h0Y : ctr.Has Yf) (h05 : ctr.Has wR) (h0Z : ctr.Has kQ) (h1a : ctr.Has YT) (h0k : ctr.Has wm) (h0j : ctr.Has qm) (h0m : ctr.Has jj) (h0o : ctr.Has uE) (h1b : ctr.Has Zr) (h0t : ctr.Has jW) : uZ.Ok Tryz.prog := by
 refine y7 ?_
 rintro ⟨x_, c_, hidden⟩ r0 hf0
 try unfold uK at hf0
 refine yO true [(6, none)] wq 233 Tryz.func7 fun E hE => ?_
 obtain ⟨r_, h0, hf0⟩ := zl hf0
 let Z0 : List HO := [Hc h0X (x := x_) h0 (loC yN x_ <| loN)]
 rcases zR hf0 with ⟨c0, hf0⟩ | ⟨c0, hf0⟩
 ·obtain ⟨r_1, h1, hf0⟩ := zl hf0
  obtain rfl := zi hf0
  exact yE X0 hC hE (Z0 ++ (rpN 5 (Hq c0) (rpN 10 qT [Hc h06 (x := ()) h1 (loN)])))
 ·let Z1 : List HO := (Z0 ++ [Hq c0, Hq c0, Hq c0, Ha (lnM (eI .i64) c_.States), Hq c0, Hq c0])
  rcases zR hf0 with ⟨c1, hf0⟩ | ⟨c1, hf0⟩
  ·obtain ⟨r_2, h2, hf0⟩ := zl hf0
   obtain rfl := zi hf0
   exact yE X0 hC hE (Z1 ++ (rpN 5 (Hq c1) (rpN 5 qT [Hc h06 (x := ()) h2 (loN)])))
  ·let Z2 : List HO := (Z1 ++ [Hq c1, Hq c1, Hq c1, Ha (lnM F2_ c_.Queues), Hq c1, Hq c1])
   rcases zR hf0 with ⟨c2, hf0⟩ | ⟨c2, hf0⟩
   ·obtain ⟨r_3, h3, hf0⟩ := zl hf0
    obtain rfl := zi hf0
    exact yE X0 hC hE (Z2 ++ (rpN 4 (Hq c2) [qT, Hc h06 (x := ()) h3 (loN)]))
   ·let Z3 : List HO := (Z2 ++ [Hq c2, Hq c2, Ha (lnM (eI .i64) hidden), Hq c2, Hq c2])
    rcases zR hf0 with ⟨c3, hf0⟩ | ⟨c3, hf0⟩
    ·obtain ⟨r_4, h4, hf0⟩ := zl hf0
     obtain rfl := zi hf0
     exact yE X0 hC hE (Z3 ++ [Hq c3, Hc h06 (x := ()) h4 (loN)])
    ·refine yJ X0 hC wq [1,1,1] [] [2,3,4,7] (fun z : Int => wo x_ c_ hidden z = some r0) (fun z => YF x_ c_ hidden z) [(2, .d (eSl 1 false (eI .i64) hidden)), (3, .own (.box (yN x_))), (4, .own (.box (qB c_))), (7, .d (I 0))] (Z3 ++ [Hq c3, Hh (.cut 1)]) ?_ fun J1 hJ1 => ?_
     ·rintro n_ hf0
      unfold wo at hf0
      obtain ⟨r_5, h5, hf0⟩ := zl hf0
      let Z4 : List HO := [Hc h0Y (x := x_) h5 (loC yN x_ <| loN)]
      rcases zR hf0 with ⟨c4, hf0⟩ | ⟨c4, hf0⟩
      ·obtain ⟨r_6, h6, hf0⟩ := zl hf0
       obtain rfl := zi hf0
       exact yE X0 hC hE (Z4 ++ (rpN 5 (Hq c4) [qT, Hq c4, Hc h06 (x := ()) h6 (loN), Hq c4]))
      ·obtain ⟨r_7, h7, hf0⟩ := zl hf0
       let Z5 : List HO := (Z4 ++ [Hq c4, Hq c4, Hc h05 (x := x_) h7 (loC yN x_ <| loN), Hq c4, Hq c4, Hq c4])
       rcases zR hf0 with ⟨c5, hf0⟩ | ⟨c5, hf0⟩
       ·obtain rfl := zi hf0
        exact yE X0 hC hE (Z5 ++ [Hq c5, Hq c4, Hq c4])
       ·obtain ⟨r_8, h8, hf0⟩ := zl hf0
        obtain ⟨r_9, h9, hf0⟩ := zl hf0
        obtain ⟨r_10, h10, hf0⟩ := zl hf0
        obtain ⟨r_11, h11, hf0⟩ := zl hf0
        let Z6 : List HO := (Z5 ++ [Hq c5, Hc h0Z (x := (x_, c_)) h8 (loC yN x_ <| loC qB c_ <| loN), Hc h1a (x := (x_, c_, (zc.mk (-1) 0 0 0))) h9 (loC yN x_ <| loC qB c_ <| loC w6 (zc.mk (-1) 0 0 0) <| loN), Hc h0k (x := (x_, c_)) h10 (loC yN x_ <| loC qB c_ <| loN), Hc h0j (x := (x_, hidden)) h11 (loC yN x_ <| loC F2_ hidden <| loN)])
        rcases zR hf0 with ⟨c6, hf0⟩ | ⟨c6, hf0⟩
        ·obtain ⟨r_12, h12, hf0⟩ := zl hf0
         obtain ⟨r_13, h13, hf0⟩ := zl hf0
         let Z7 : List HO := (Z6 ++ [Hq c6, Hc h0m (x := x_) h12 (loC yN x_ <| loN), Hc h0o (x := x_) h13 (loC yN x_ <| loN)])
         rcases zR hf0 with ⟨c7, hf0⟩ | ⟨c7, hf0⟩
         ·let Z8 : List HO := (Z7 ++ (rpN 4 (Hq c7) []))
          rcases zR hf0 with ⟨c8, hf0⟩ | ⟨c8, hf0⟩
          ·let Z9 : List HO := (Z8 ++ (rpN 4 (Hq c8) []))
           rcases zR hf0 with ⟨c9, hf0⟩ | ⟨c9, hf0⟩
           ·let Z10 : List HO := (Z9 ++ (rpN 4 (Hq c9) []))
            rcases zR hf0 with ⟨c10, hf0⟩ | ⟨c10, hf0⟩
            ·let Z11 : List HO := (Z10 ++ (rpN 4 (Hq c10) []))
             rcases zR hf0 with ⟨c11, hf0⟩ | ⟨c11, hf0⟩
             ·let Z12 : List HO := (Z11 ++ (rpN 4 (Hq c11) []))
              rcases zR hf0 with ⟨c12, hf0⟩ | ⟨c12, hf0⟩
              ·let Z13 : List HO := (Z12 ++ (Hq c12 :: Hq c12 :: Ha (lnM w6 r_8.1) :: Hq c12 :: Hq c12 :: Hq c12 :: Ha (lnM (eI .i64) r_9.1.States) :: (rpN 4 (Hq c12) (Ha (lnM Y7 r_11.1.Rows) :: Hq c12 :: Hq c12 :: Hq c12 :: Ha (lnM qB r_12.1) :: Hq c12 :: Hq c12 :: Hq c12 :: Ha (lnM wJ r_12.2.1) :: Hq c12 :: Hq c12 :: Hq c12 :: Ha (lnM w6 r_13.1) :: (rpN 4 (Hq c12) [Ha (lnM (eI .i64) r_13.2.1.States), Hq c12, Hq c12, Hq c12])))))
               rcases zR hf0 with ⟨c13, hf0⟩ | ⟨c13, hf0⟩
               ·obtain ⟨r_14, h14, hf0⟩ := zl hf0
                obtain rfl := zi hf0
                exact yE X0 hC hE (Z13 ++ [Hq c13, Hc h06 (x := ()) h14 (loN), Hq c13])
               ·obtain rfl := zi hf0
                exact yE X0 hC hE (Z13 ++ [Hq c13, Hq c13])
              ·obtain rfl := zi hf0
               exact yE X0 hC hE (Z12 ++ (rpN 25 (Hq c12) [qF, qF]))
             ·obtain rfl := zi hf0
              exact yE X0 hC hE (Z11 ++ (rpN 4 (Hq c11) (rpN 27 qF [])))
            ·obtain rfl := zi hf0
             exact yE X0 hC hE (Z10 ++ (rpN 4 (Hq c10) (rpN 31 qF [])))
           ·obtain rfl := zi hf0
            exact yE X0 hC hE (Z9 ++ (rpN 4 (Hq c9) (rpN 35 qF [])))
          ·obtain rfl := zi hf0
           exact yE X0 hC hE (Z8 ++ (rpN 4 (Hq c8) (rpN 39 qF [])))
         ·obtain rfl := zi hf0
          exact yE X0 hC hE (Z7 ++ (rpN 4 (Hq c7) (rpN 43 qF [])))
        ·refine yJ X0 hC wq [1,1,1,1,1,1,1,1,1,1,1,1] [] [2,3,10,11,13,14,15,16,23] (fun z : Int => yM x_ hidden r_8 r_9 r_10 r_11 z = some r0) (fun z => YE x_ hidden r_8 r_9 r_10 r_11 z) [(2, .d (eSl 1 false (eI .i64) hidden)), (3, .own (.box (yN x_))), (4, .own (.box (qB c_))), (10, .d (eSl 4 true w6 r_8.1)), (11, .d (I r_8.2)), (13, .d (I r_9.2)), (14, .d (I r_10)), (15, .own (.box (z9e r_11.1))), (16, .d (I r_11.2)), (23, .d (I 0))] (Z6 ++ [Hq c6, Hh (.cut 1)]) ?_ fun J2 hJ2 => ?_
         ·rintro bad hf0
          unfold yM at hf0
          refine yJ X0 hC wq [1,1,1,1,1,1,1,1,1,1,1,1,1] [] [2,3,15,16] (fun z : Unit => yK x_ hidden r_11 = some r0) (fun z => YD x_ hidden r_11) [(2, .d (eSl 1 false (eI .i64) hidden)), (3, .own (.box (yN x_))), (10, .d (eSl 4 true w6 r_8.1)), (11, .d (I r_8.2)), (13, .d (I r_9.2)), (14, .d (I r_10)), (15, .own (.box (z9e r_11.1))), (16, .d (I r_11.2)), (23, .d (I bad))] [Hh (.cut 0)] ?_ fun J3 hJ3 => ?_
          ·rintro ⟨⟩ hf0
           unfold yK at hf0
           obtain ⟨r_15, h15, hf0⟩ := zl hf0
           let Z14 : List HO := [Hc h0t (x := (hidden, x_.Labels)) h15 (loC F2_ hidden <| loC (eI .i64) x_.Labels <| loN)]
           rcases zR hf0 with ⟨c14, hf0⟩ | ⟨c14, hf0⟩
           ·rcases zR hf0 with ⟨c15, hf0⟩ | ⟨c15, hf0⟩
            ·let Z15 : List HO := (Z14 ++ [Hq c14, Hq c15, Hq c15, Hq c15, Ha (lnM Y7 r_11.1.Rows), Hq c15, Hq c15])
             rcases zR hf0 with ⟨c16, hf0⟩ | ⟨c16, hf0⟩
             ·obtain ⟨r_16, h16, hf0⟩ := zl hf0
              obtain rfl := zi hf0
              exact yE X0 hC hE (Z15 ++ [Hq c16, Hc h06 (x := ()) h16 (loN), Hq c16])
             ·obtain rfl := zi hf0
              exact yE X0 hC hE (Z15 ++ [Hq c16, Hq c16])
            ·obtain rfl := zi hf0
             exact yE X0 hC hE (Z14 ++ (Hq c14 :: (rpN 5 (Hq c15) [qF, qF])))
           ·rcases zR hf0 with ⟨c17, hf0⟩ | ⟨c17, hf0⟩
            ·obtain ⟨r_17, h17, hf0⟩ := zl hf0
             obtain rfl := zi hf0
             exact yE X0 hC hE (Z14 ++ (Hq c14 :: (rpN 5 (Hq c17) [qT, Hc h06 (x := ()) h17 (loN), qT])))
            ·let Z16 : List HO := (Z14 ++ [Hq c14, Hq c17, Hq c17, Hq c17])
             rcases zR hf0 with ⟨c18, hf0⟩ | ⟨c18, hf0⟩
             ·let Z17 : List HO := (Z16 ++ [Hq c18, Hq c18, Hq c18, Ha (lnM Y7 r_11.1.Rows), Hq c18, Hq c17, Hq c18, Hq c17])
              rcases zR hf0 with ⟨c19, hf0⟩ | ⟨c19, hf0⟩
              ·obtain ⟨r_18, h18, hf0⟩ := zl hf0
               obtain rfl := zi hf0
               exact yE X0 hC hE (Z17 ++ [Hq c19, Hc h06 (x := ()) h18 (loN), Hq c19])
              ·obtain rfl := zi hf0
               exact yE X0 hC hE (Z17 ++ [Hq c19, Hq c19])
             ·obtain rfl := zi hf0
              exact yE X0 hC hE (Z16 ++ (rpN 4 (Hq c18) [Hq c17, Hq c18, Hq c17, qF, qF]))
          ·rcases zR hf0 with ⟨c20, hf0⟩ | ⟨c20, hf0⟩
           ·obtain rfl := zi hf0
            exact yE X0 hC hE (rpN 4 (Hq c20) (rpN 11 qT []))
           ·let Z18 : List HO := (rpN 4 (Hq c20) [])
            rcases zR hf0 with ⟨c21, hf0⟩ | ⟨c21, hf0⟩
            ·obtain rfl := zi hf0
             exact yE X0 hC hE (Z18 ++ (rpN 5 (Hq c21) (rpN 6 qT [])))
            ·rcases zR hf0 with ⟨c22, hf0⟩ | ⟨c22, hf0⟩
             ·let Z19 : List HO := (Z18 ++ (Hq c21 :: Hq c21 :: Hq c21 :: (rpN 4 (Hq c22) [])))
              rcases zR hf0 with ⟨c23, hf0⟩ | ⟨c23, hf0⟩
              ·obtain rfl := zi hf0
               exact yE X0 hC hE (Z19 ++ (Hq c23 :: Hq c23 :: Hq c23 :: Hq c22 :: Hq c23 :: Hq c21 :: Hq c22 :: Hq c21 :: (rpN 6 qT [])))
              ·let Z20 : List HO := (Z19 ++ [Hq c23, Hq c23, Ha (lnM w6 r_8.1), Hq c23, Hq c22, Hq c23, Hq c21, Hq c22, Hq c21])
               rcases zR hf0 with ⟨c24, hf0⟩ | ⟨c24, hf0⟩
               ·obtain rfl := zi hf0
                exact yE X0 hC hE (Z20 ++ (rpN 5 (Hq c24) [qT]))
               ·rcases zR hf0 with ⟨c25, hf0⟩ | ⟨c25, hf0⟩
                ·let Z21 : List HO := (Z20 ++ [Hq c24, Hq c24, Hq c24, Hq c25, Hq c25, Hq c24, Hq c25, Hq c24])
                 rcases zR hf0 with ⟨c26, hf0⟩ | ⟨c26, hf0⟩
                 ·obtain rfl := zi hf0
                  exact yE X0 hC hE (Z21 ++ [Hq c26])
                 ·exact yB X0 hC hJ3 () hf0 (Z21 ++ [Hq c26])
                ·exact yB X0 hC hJ3 () hf0 (Z20 ++ [Hq c24, Hq c24, Hq c24, Hq c25, Hq c25, Hq c24, Hq c25, Hq c24, qF])
             ·let Z22 : List HO := (Z18 ++ (Hq c21 :: Hq c21 :: Hq c21 :: (rpN 5 (Hq c22) [Hq c21, Hq c22, Hq c21, qF, qF, qF])))
              rcases zR hf0 with ⟨c27, hf0⟩ | ⟨c27, hf0⟩
              ·let Z23 : List HO := (Z22 ++ [Hq c27, Hq c27, qF, Hq c27, qF])
               rcases zR hf0 with ⟨c28, hf0⟩ | ⟨c28, hf0⟩
               ·obtain rfl := zi hf0
                exact yE X0 hC hE (Z23 ++ [Hq c28])
               ·exact yB X0 hC hJ3 () hf0 (Z23 ++ [Hq c28])
              ·exact yB X0 hC hJ3 () hf0 (Z22 ++ [Hq c27, Hq c27, qF, Hq c27, qF, qF])
         ·obtain ⟨r_19, h19, hf0⟩ := zl hf0
          let Z24 : List HO := [Hc h1b (x := (x_, c_)) h19 (loC yN x_ <| loC qB c_ <| loN)]
          rcases zR hf0 with ⟨c29, hf0⟩ | ⟨c29, hf0⟩
          ·exact yB X0 hC hJ2 1 hf0 (Z24 ++ [Hq c29])
          ·exact yB X0 hC hJ2 0 hf0 (Z24 ++ [Hq c29])
     ·obtain ⟨t4, ht4, hf0⟩ := zl hf0
      refine yL X0 hC wq [1,1,1,2,1,0] [J1] (fun s => wn c_ s.1 s.2) (fun x => YC x_ c_ hidden x.1 x.2) (0,0) ht4  [] ?_
      rintro ⟨n_1, i_⟩ m4 lr1 hf1 hl1 J4 hJ4
      try unfold wn at hf1
      let Z25 : List HO := [Ha (lnM F2_ c_.Queues)]
      rcases zR hf1 with ⟨c30, hf1⟩ | ⟨c30, hf1⟩
      ·obtain ⟨Queue_e, h20, hf1⟩ := zl hf1
       obtain rfl := zi hf1
       exact yB X0 hC hJ4 (w64 (n_1 + ((Queue_e.length : Nat) : Int)), w64 (i_ + 1)) hl1 (Z25 ++ [Hq c30, Hi F2_ h20, Ha (lnM (eI .i64) Queue_e)])
      ·obtain rfl := zi hf1
       obtain rfl := hl1
       exact yB X0 hC hJ1 n_1 hf0 (Z25 ++ [Hq c30])
theorem xN {l : List xm} {s : xm} (h : ((l.map xm.k).contains s.k) = false) : ∀ t ∈ l, t.k ≠ s.k := by
 intro t ht e
 have : (l.map xm.k).contains s.k = true := by
  rw [List.contains_iff_mem, ← e]
  exact List.mem_map_of_mem ht
 rw [h] at this
 cases this
theorem zG {l : List xm} {c : Ctr} (H : ∀ t ∈ l, c.Has t) (i : Nat) {s : xm} (h : l[i]? = some s) : c.Has s := H _ (List.mem_of_getElem? h)
def L0 : List xm := Yi :: []
def L1 : List xm := YV :: L0
def L2 : List xm := vF :: L1
def L3 : List xm := jU :: L2
def L4 : List xm := yR :: L3
def L5 : List xm := yw :: L4
def L6 : List xm := kP :: L5
def L7 : List xm := vG :: L6
def L8 : List xm := qS :: L7
def L9 : List xm := qR :: L8
def L10 : List xm := uC :: L9
def L11 : List xm := jV :: L10
def L12 : List xm := xi :: L11
def L13 : List xm := yI :: L12
def L14 : List xm := wR :: L13
def L15 : List xm := wb :: L14
def L16 : List xm := xL :: L15
def L17 : List xm := u0 :: L16
def L18 : List xm := qE :: L17
def L19 : List xm := xK :: L18
def L20 : List xm := jz :: L19
def L21 : List xm := xz :: L20
def L22 : List xm := wc :: L21
def L23 : List xm := uG :: L22
def L24 : List xm := uY :: L23
def L25 : List xm := xV :: L24
def L26 : List xm := xg :: L25
def L27 : List xm := jj :: L26
def L28 : List xm := Zt :: L27
def L29 : List xm := YW :: L28
def L30 : List xm := Zs :: L29
def L31 : List xm := YU :: L30
def L32 : List xm := Zd :: L31
def L33 : List xm := Yj :: L32
def L34 : List xm := jk :: L33
def L35 : List xm := Zu :: L34
def L36 : List xm := jx :: L35
def L37 : List xm := wF :: L36
def L38 : List xm := jX :: L37
def L39 : List xm := j0 :: L38
def L40 : List xm := jY :: L39
def L41 : List xm := YX :: L40
def L42 : List xm := qZ :: L41
def L43 : List xm := xH :: L42
def L44 : List xm := w5 :: L43
def L45 : List xm := xS :: L44
def L46 : List xm := qm :: L45
def L47 : List xm := kR :: L46
def L48 : List xm := uF :: L47
def L49 : List xm := vn :: L48
def L50 : List xm := uD :: L49
def L51 : List xm := yn :: L50
def L52 : List xm := uE :: L51
def L53 : List xm := Yg :: L52
def L54 : List xm := Yh :: L53
def L55 : List xm := Zq :: L54
def L56 : List xm := jW :: L55
def L57 : List xm := Yf :: L56
def L58 : List xm := xW :: L57
def L59 : List xm := wm :: L58
def L60 : List xm := ji :: L59
def L61 : List xm := kQ :: L60
def L62 : List xm := YT :: L61
def L63 : List xm := Zr :: L62
def L64 : List xm := uZ :: L63
theorem zdv : zI Tryz.prog L0 := ⟨fun _ hC H => KC hC, xN (by kernel_rfl), trivial⟩
theorem zdu : zI Tryz.prog L1 := ⟨fun _ hC H => z0s hC, xN (by kernel_rfl), zdv⟩
theorem zdt : zI Tryz.prog L2 := ⟨fun _ hC H => VZ hC, xN (by kernel_rfl), zdu⟩
theorem zds : zI Tryz.prog L3 := ⟨fun _ hC H => VY hC, xN (by kernel_rfl), zdt⟩
theorem zdr : zI Tryz.prog L4 := ⟨fun _ hC H => uo hC (zG H 0 rfl), xN (by kernel_rfl), zds⟩
theorem zdq : zI Tryz.prog L5 := ⟨fun _ hC H => vP hC (zG H 0 rfl), xN (by kernel_rfl), zdr⟩
theorem zdp : zI Tryz.prog L6 := ⟨fun _ hC H => Qy hC (zG H 3 rfl) (zG H 0 rfl), xN (by kernel_rfl), zdq⟩
theorem zdo : zI Tryz.prog L7 := ⟨fun _ hC H => Ub hC, xN (by kernel_rfl), zdp⟩
theorem zdn : zI Tryz.prog L8 := ⟨fun _ hC H => z0o hC, xN (by kernel_rfl), zdo⟩
theorem zdm : zI Tryz.prog L9 := ⟨fun _ hC H => Q6 hC (zG H 0 rfl), xN (by kernel_rfl), zdn⟩
theorem zc3 : zI Tryz.prog L10 := ⟨fun _ hC H => Xu hC (zG H 1 rfl), xN (by kernel_rfl), zdm⟩
theorem zc2 : zI Tryz.prog L11 := ⟨fun _ hC H => Ua hC (zG H 0 rfl), xN (by kernel_rfl), zc3⟩
theorem zc1 : zI Tryz.prog L12 := ⟨fun _ hC H => uP hC (zG H 0 rfl), xN (by kernel_rfl), zc2⟩
theorem zc0 : zI Tryz.prog L13 := ⟨fun _ hC H => u4 hC (zG H 0 rfl), xN (by kernel_rfl), zc1⟩
theorem zbZ : zI Tryz.prog L14 := ⟨fun _ hC H => QB hC (zG H 7 rfl) (zG H 6 rfl) (zG H 4 rfl) (zG H 0 rfl), xN (by kernel_rfl), zc0⟩
theorem zbY : zI Tryz.prog L15 := ⟨fun _ hC H => Xw hC, xN (by kernel_rfl), zbZ⟩
theorem zbX : zI Tryz.prog L16 := ⟨fun _ hC H => XN hC, xN (by kernel_rfl), zbY⟩
theorem zbW : zI Tryz.prog L17 := ⟨fun _ hC H => WJ hC, xN (by kernel_rfl), zbX⟩
theorem zbV : zI Tryz.prog L18 := ⟨fun _ hC H => Ws hC, xN (by kernel_rfl), zbW⟩
theorem zbU : zI Tryz.prog L19 := ⟨fun _ hC H => XM hC (zG H 1 rfl) (zG H 0 rfl), xN (by kernel_rfl), zbV⟩
theorem zbT : zI Tryz.prog L20 := ⟨fun _ hC H => z1B hC, xN (by kernel_rfl), zbU⟩
theorem zbS : zI Tryz.prog L21 := ⟨fun _ hC H => qC hC, xN (by kernel_rfl), zbT⟩
theorem zbR : zI Tryz.prog L22 := ⟨fun _ hC H => Xx hC (zG H 6 rfl) (zG H 5 rfl) (zG H 2 rfl) (zG H 1 rfl) (zG H 0 rfl), xN (by kernel_rfl), zbS⟩
theorem zbQ : zI Tryz.prog L23 := ⟨fun _ hC H => Xz hC, xN (by kernel_rfl), zbR⟩
theorem zbP : zI Tryz.prog L24 := ⟨fun _ hC H => XP hC, xN (by kernel_rfl), zbQ⟩
theorem zbO : zI Tryz.prog L25 := ⟨fun _ hC H => YP hC (zG H 1 rfl) (zG H 0 rfl), xN (by kernel_rfl), zbP⟩
theorem zbN : zI Tryz.prog L26 := ⟨fun _ hC H => ut hC, xN (by kernel_rfl), zbO⟩
theorem zbM : zI Tryz.prog L27 := ⟨fun _ hC H => QA hC (zG H 12 rfl) (zG H 4 rfl) (zG H 1 rfl) (zG H 0 rfl), xN (by kernel_rfl), zbN⟩
theorem zbL : zI Tryz.prog L28 := ⟨fun _ hC H => JQ hC, xN (by kernel_rfl), zbM⟩
theorem zbK : zI Tryz.prog L29 := ⟨fun _ hC H => z0t hC, xN (by kernel_rfl), zbL⟩
theorem zbJ : zI Tryz.prog L30 := ⟨fun _ hC H => JP hC, xN (by kernel_rfl), zbK⟩
theorem zbI : zI Tryz.prog L31 := ⟨fun _ hC H => z0r hC (zG H 0 rfl), xN (by kernel_rfl), zbJ⟩
theorem zbH : zI Tryz.prog L32 := ⟨fun _ hC H => z0q hC (zG H 0 rfl), xN (by kernel_rfl), zbI⟩
theorem zbG : zI Tryz.prog L33 := ⟨fun _ hC H => KD hC (zG H 0 rfl), xN (by kernel_rfl), zbH⟩
theorem zbF : zI Tryz.prog L34 := ⟨fun _ hC H => QD hC, xN (by kernel_rfl), zbG⟩
theorem zbE : zI Tryz.prog L35 := ⟨fun _ hC H => JR hC (zG H 0 rfl), xN (by kernel_rfl), zbF⟩
theorem zbD : zI Tryz.prog L36 := ⟨fun _ hC H => Vk hC, xN (by kernel_rfl), zbE⟩
theorem zbC : zI Tryz.prog L37 := ⟨fun _ hC H => kK hC (zG H 1 rfl) (zG H 0 rfl), xN (by kernel_rfl), zbD⟩
theorem zbB : zI Tryz.prog L38 := ⟨fun _ hC H => Uc hC, xN (by kernel_rfl), zbC⟩
theorem zbA : zI Tryz.prog L39 := ⟨fun _ hC H => WL hC (zG H 0 rfl), xN (by kernel_rfl), zbB⟩
theorem zbz : zI Tryz.prog L40 := ⟨fun _ hC H => Ud hC (zG H 5 rfl), xN (by kernel_rfl), zbA⟩
theorem zby : zI Tryz.prog L41 := ⟨fun _ hC H => z0u hC, xN (by kernel_rfl), zbz⟩
theorem zbx : zI Tryz.prog L42 := ⟨fun _ hC H => WK hC (zG H 2 rfl) (zG H 1 rfl) (zG H 0 rfl), xN (by kernel_rfl), zby⟩
theorem zbw : zI Tryz.prog L43 := ⟨fun _ hC H => j5 hC, xN (by kernel_rfl), zbx⟩
theorem zbv : zI Tryz.prog L44 := ⟨fun _ hC H => jP hC, xN (by kernel_rfl), zbw⟩
theorem zbu : zI Tryz.prog L45 := ⟨fun _ hC H => jD hC, xN (by kernel_rfl), zbv⟩
theorem zbt : zI Tryz.prog L46 := ⟨fun _ hC H => U0 hC (zG H 31 rfl) (zG H 36 rfl) (zG H 23 rfl) (zG H 8 rfl) (zG H 3 rfl) (zG H 2 rfl) (zG H 1 rfl) (zG H 0 rfl), xN (by kernel_rfl), zbu⟩
theorem zbs : zI Tryz.prog L47 := ⟨fun _ hC H => QC hC, xN (by kernel_rfl), zbt⟩
theorem zbr : zI Tryz.prog L48 := ⟨fun _ hC H => Xy hC, xN (by kernel_rfl), zbs⟩
theorem zbq : zI Tryz.prog L49 := ⟨fun _ hC H => Ye hC (zG H 0 rfl), xN (by kernel_rfl), zbr⟩
theorem zbp : zI Tryz.prog L50 := ⟨fun _ hC H => Xv hC (zG H 0 rfl), xN (by kernel_rfl), zbq⟩
theorem zbo : zI Tryz.prog L51 := ⟨fun _ hC H => qD hC, xN (by kernel_rfl), zbp⟩
theorem zbn : zI Tryz.prog L52 := ⟨fun _ hC H => Vj hC (zG H 37 rfl) (zG H 29 rfl) (zG H 1 rfl) (zG H 0 rfl) (zG H 26 rfl), xN (by kernel_rfl), zbo⟩
theorem zbm : zI Tryz.prog L53 := ⟨fun _ hC H => KA hC, xN (by kernel_rfl), zbn⟩
theorem zbl : zI Tryz.prog L54 := ⟨fun _ hC H => KB hC (zG H 52 rfl) (zG H 26 rfl) (zG H 25 rfl) (zG H 24 rfl) (zG H 20 rfl) (zG H 7 rfl) (zG H 6 rfl) (zG H 1 rfl) (zG H 0 rfl) (zG H 21 rfl), xN (by kernel_rfl), zbm⟩
theorem zbk : zI Tryz.prog L55 := ⟨fun _ hC H => z35 hC, xN (by kernel_rfl), zbl⟩
theorem zbj : zI Tryz.prog L56 := ⟨fun _ hC H => JN hC (zG H 0 rfl), xN (by kernel_rfl), zbk⟩
theorem zbi : zI Tryz.prog L57 := ⟨fun _ hC H => Kz hC (zG H 0 rfl) (zG H 1 rfl), xN (by kernel_rfl), zbj⟩
theorem zbh : zI Tryz.prog L58 := ⟨fun _ hC H => YQ hC (zG H 49 rfl), xN (by kernel_rfl), zbi⟩
theorem zbg : zI Tryz.prog L59 := ⟨fun _ hC H => XO hC (zG H 44 rfl) (zG H 50 rfl) (zG H 0 rfl), xN (by kernel_rfl), zbh⟩
theorem zbf : zI Tryz.prog L60 := ⟨fun _ hC H => Qx hC (zG H 42 rfl), xN (by kernel_rfl), zbg⟩
theorem zbe : zI Tryz.prog L61 := ⟨fun _ hC H => Qz hC (zG H 1 rfl) (zG H 0 rfl) (zG H 45 rfl) (zG H 44 rfl) (zG H 41 rfl) (zG H 40 rfl) (zG H 9 rfl), xN (by kernel_rfl), zbf⟩
theorem zbd : zI Tryz.prog L62 := ⟨fun _ hC H => z0p hC (zG H 2 rfl) (zG H 1 rfl) (zG H 46 rfl) (zG H 45 rfl) (zG H 42 rfl) (zG H 41 rfl) (zG H 36 rfl), xN (by kernel_rfl), zbe⟩
theorem zbc : zI Tryz.prog L63 := ⟨fun _ hC H => JO hC (zG H 7 rfl), xN (by kernel_rfl), zbd⟩
theorem zbb : zI Tryz.prog L64 := ⟨fun _ hC H => XQ hC (zG H 63 rfl) (zG H 9 rfl) (zG H 6 rfl) (zG H 49 rfl) (zG H 2 rfl) (zG H 1 rfl) (zG H 4 rfl) (zG H 17 rfl) (zG H 36 rfl) (zG H 11 rfl) (zG H 0 rfl) (zG H 7 rfl), xN (by kernel_rfl), zbc⟩
theorem qe {x : Int} (h1 : -9223372036854775808 ≤ x) (h2 : x ≤ 9223372036854775807) : w64 x = x := by
 simp only [w64, IntKind.wrap, IntKind.bits, IntKind.signed]
 simp
 omega
section
variable {α β σ τ ρ : Type}
def Ret (x : Option α) (Q : α → Prop) : Prop := ∃ a, x = some a ∧ Q a
theorem Ret.mono {x : Option α} {Q R : α → Prop} (h : Ret x Q) (q : ∀ a, Q a → R a) : Ret x R := by
 obtain ⟨a, e, h⟩ := h
 exact ⟨a, e, q a h⟩
theorem wi {a : α} {Q : α → Prop} : Ret (some a) Q ↔ Q a := ⟨fun ⟨b, e, q⟩ => by cases e; exact q, fun q => ⟨a, rfl, q⟩⟩
theorem z2A {x : Option α} {f : α → Option β} {Q : β → Prop} : Ret (Option.bind x f) Q ↔ Ret x fun a => Ret (f a) Q := by
 cases x with
 | none => exact ⟨fun ⟨b, e, _⟩ => (by cases e), fun ⟨b, e, _⟩ => (by cases e)⟩
 | some a => exact ⟨fun h => ⟨a, rfl, h⟩, fun ⟨b, e, h⟩ => by cases e; exact h⟩
theorem z8p {c : Bool} {x y : Option α} {Q : α → Prop} : Ret (bif c then x else y) Q ↔ (c = true → Ret x Q) ∧ (c = false → Ret y Q) := by
 cases c <;> simp
theorem z1Y (l : List α) (i : Nat) : idx l (i : Int) = l[i]? := rfl
theorem gdT {p : Prop} [Decidable p] {x : Option α} (h : p) : gd p x = x := by unfold gd; rw [if_pos h]
theorem bdT {x : Option α} {u : α} {f : α → Option ρ} (h : x = some u) : Option.bind x f = f u := by rw [h]; rfl
theorem Zn (step : σ → Option (LR σ τ)) (n : Nat) (s : σ) : Wv step (n + 1) s = (match step s with | none => none | some (.next s') => Wv step n s' | some (.done t) => some t) := rfl
def LRP (N : σ → Prop) (D : τ → Prop) : LR σ τ → Prop
 | .next s => N s
 | .done t => D t
theorem X3 {step : σ → Option (LR σ τ)} (I : σ → Prop) (m : σ → Nat) {R : τ → Prop} {s : σ} (hs : I s) (hm : m s < 18446744073709551616)
  (h : ∀ s, I s → Ret (step s) (LRP (fun s' => I s' ∧ m s' < m s) R)) : Ret (loop step s) R := by
 have gen : ∀ (n : Nat) (s : σ), I s → m s < n → Ret (Wv step n s) R := by
  intro n
  induction n with
  | zero => intro s _ h; omega
  | succ n ih =>
   intro s hs hm
   obtain ⟨a, e, q⟩ := h s hs
   rw [Zn, e]
   cases a with
   | next s' => exact ih s' q.1 (by have := q.2; omega)
   | done t => exact ⟨t, rfl, q⟩
 exact gen fuel s hs hm
theorem Qp {step : σ → Option (LR σ τ)} (st : Nat → σ) (n : Nat) {t : τ} (hn : n < 9223372036854775808) (h : ∀ i, i < n → step (st i) = some (.next (st (i + 1)))) (hd : step (st n) = some (.done t)) : loop step (st 0) = some t := by
 have gen : ∀ (k : Nat) (i : Nat), i ≤ n → n - i < k → Wv step k (st i) = some t := by
  intro k
  induction k with
  | zero => intro i _ h; omega
  | succ k ih =>
   intro i hi hk
   rw [Zn]
   rcases Nat.lt_or_ge i n with q | q
   ·rw [h i q]
    exact ih (i + 1) q (by omega)
   ·have : i = n := by omega
    subst this
    rw [hd]
 exact gen fuel 0 (Nat.zero_le _) (by show n - 0 < 18446744073709551616; omega)
def Yb (f : Nat → α → Option ρ) : List α → Nat → Option ρ
 | [], _ => none
 | x :: l, i => match f i x with | some r => some r | none => Yb f l (i + 1)
theorem Jt {f : Nat → α → Option ρ} : ∀ {l : List α} {k : Nat}, (∀ i x, l[i]? = some x → f (k + i) x = none) → Yb f l k = none
 | [], _, _ => rfl
 | x :: l, k, h => by
  have h0 := h 0 x rfl
  simp only [Nat.add_zero] at h0
  simp only [Yb, h0]
  exact Jt fun i y hy => by have := h (i + 1) y (by simpa using hy); rwa [show k + 1 + i = k + (i + 1) by omega]
theorem Xb {f : Nat → α → Option ρ} {r : ρ} : ∀ {l : List α} {k : Nat}, Yb f l k = some r → ∃ i x, l[i]? = some x ∧ f (k + i) x = some r
 | [], _, h => by cases h
 | x :: l, k, h => by
  simp only [Yb] at h
  cases hf : f k x with
  | some r' => rw [hf] at h; exact ⟨0, x, rfl, by rw [Nat.add_zero, hf]; exact h⟩
  | none =>
   rw [hf] at h
   obtain ⟨i, y, h1, h2⟩ := Xb h
   exact ⟨i + 1, y, by simpa using h1, by rw [← h2]; congr 1; omega⟩
theorem Xc {f : Nat → α → Option ρ} {l : List α} {k : Nat} (h : Yb f l k = none) : ∀ i x, l[i]? = some x → f (k + i) x = none := by
 induction l generalizing k with
 | nil => intro i x h; simp at h
 | cons y l ih =>
  intro i x hx
  simp only [Yb] at h
  cases hf : f k y with
  | some r' => rw [hf] at h; cases h
  | none =>
   rw [hf] at h
   cases i with
   | zero => simp at hx; subst hx; simpa using hf
   | succ i => have := ih h i x (by simpa using hx); rwa [show k + (i + 1) = k + 1 + i by omega]
def oS : Option ρ → Unit ⊕ ρ
 | some r => .inr r
 | none => .inl ()
def nS (i : Nat) : Option ρ → LR Int (Unit ⊕ ρ)
 | some r => .done (.inr r)
 | none => .next (w64 ((i : Int) + 1))
theorem XY (l : List α) (hl : l.length < 4611686018427387904) {step : Int → Option (LR Int (Unit ⊕ ρ))} (f : Nat → α → Option ρ)
  (h : ∀ (i : Nat) (x : α), l[i]? = some x → step (i : Int) = some (nS i (f i x))) (h2 : step (l.length : Int) = some (.done (.inl ()))) :
  loop step 0 = some (oS (Yb f l 0)) := by
 have gen : ∀ (n : Nat) (k : Nat), k ≤ l.length → l.length - k < n → Wv step n (k : Int) = some (oS (Yb f (l.drop k) k)) := by
  intro n
  induction n with
  | zero => intro k _ h; omega
  | succ n ih =>
   intro k hk hn
   rw [Zn]
   rcases Nat.lt_or_ge k l.length with hlt | hge
   ·have hx : l[k]? = some l[k] := List.getElem?_eq_getElem hlt
    rw [h k _ hx, List.drop_eq_getElem_cons hlt]
    simp only [Yb]
    cases hf : f k l[k] with
    | some r => rfl
    | none =>
     simp only [nS]
     rw [qe (by omega) (by omega)]
     exact ih (k + 1) hlt (by omega)
   ·have : k = l.length := by omega
    subst this
    rw [h2, List.drop_length]
    rfl
 exact gen fuel 0 (Nat.zero_le _) (by show l.length - 0 < 18446744073709551616; omega)
end
theorem xu {α : Type} {l : List α} {i : Nat} {x : α} (h : l[i]? = some x) : idx l (i : Int) = some x := h
theorem yp {α : Type} {l : List α} {i : Nat} {x : α} (h : l[i]? = some x) : i < l.length := (List.getElem?_eq_some_iff.1 h).1
section
variable {α β σ τ ρ : Type}
def nxt (f : σ → Option (LR τ ρ)) : LR σ ρ → Option (LR τ ρ)
 | .next s => f s
 | .done r => some (.done r)
def Qc (g : Nat → α → σ → Option (LR σ ρ)) : List α → Nat → σ → Option (LR σ ρ)
 | [], _, s => some (.next s)
 | x :: l, k, s => Option.bind (g k x s) (nxt (Qc g l (k + 1)))
def zdX (k : Nat) (fin : LR σ ρ → τ) : LR σ ρ → LR (σ × Int) τ
 | .next s => .next (s, w64 ((k : Int) + 1))
 | .done r => .done (fin (.done r))
theorem Zm (l : List α) (hl : l.length < 4611686018427387904) {step : σ × Int → Option (LR (σ × Int) τ)} (g : Nat → α → σ → Option (LR σ ρ)) (fin : LR σ ρ → τ) (s : σ)
  (h : ∀ (i : Nat) (x : α) (s : σ), l[i]? = some x → step (s, (i : Int)) = (g i x s).map (zdX i fin)) (h2 : ∀ s, step (s, (l.length : Int)) = some (.done (fin (.next s)))) :
  loop step (s, 0) = (Qc g l 0 s).map fin := by
 have gen : ∀ (n : Nat) (k : Nat) (s : σ), k ≤ l.length → l.length - k < n → Wv step n (s, (k : Int)) = (Qc g (l.drop k) k s).map fin := by
  intro n
  induction n with
  | zero => intro k s _ h; omega
  | succ n ih =>
   intro k s hk hn
   rw [Zn]
   rcases Nat.lt_or_ge k l.length with hlt | hge
   ·have hx : l[k]? = some l[k] := List.getElem?_eq_getElem hlt
    rw [h k _ s hx, List.drop_eq_getElem_cons hlt]
    simp only [Qc]
    cases hg : g k l[k] s with
    | none => rfl
    | some r =>
     cases r with
     | done r => rfl
     | next s' =>
      simp only [Option.map_some, zdX, oB, nxt]
      rw [qe (by omega) (by omega)]
      exact ih (k + 1) s' hlt (by omega)
   ·have : k = l.length := by omega
    subst this
    rw [h2, List.drop_length]
    rfl
 exact gen fuel 0 s (Nat.zero_le _) (by show l.length - 0 < 18446744073709551616; omega)
def vo (yy : σ → α → Option (σ × Bool)) : List α → σ → Option (LR σ σ)
 | [], s => some (.next s)
 | x :: l, s => Option.bind (yy s x) fun r => bif r.2 then vo yy l r.1 else some (.done r.1)
theorem UZ (yy : σ → α → Option (σ × Bool)) (l m : List α) (s : σ) : vo yy (l ++ m) s = Option.bind (vo yy l s) (nxt (vo yy m)) := by
 induction l generalizing s with
 | nil => rfl
 | cons x l ih =>
  simp only [List.cons_append, vo]
  cases yy s x with
  | none => rfl
  | some r =>
   simp only [oB]
   cases r.2 with
   | true => exact ih r.1
   | false => rfl
def Us (f : Nat → α → List β) : List α → Nat → List β
 | [], _ => []
 | x :: l, k => f k x ++ Us f l (k + 1)
theorem Vs {f : Nat → α → List β} {y : β} : ∀ {l : List α} {k : Nat}, y ∈ Us f l k ↔ ∃ i x, l[i]? = some x ∧ y ∈ f (k + i) x
 | [], k => by simp [Us]
 | x :: l, k => by
  rw [Us, List.mem_append, Vs (l := l)]
  constructor
  ·rintro (h | ⟨i, z, h1, h2⟩)
   ·exact ⟨0, x, rfl, h⟩
   ·exact ⟨i + 1, z, by simpa using h1, by rwa [show k + (i + 1) = k + 1 + i by omega]⟩
  ·rintro ⟨i, z, h1, h2⟩
   cases i with
   | zero => simp at h1; subst h1; exact .inl h2
   | succ i => exact .inr ⟨i, z, by simpa using h1, by rwa [show k + 1 + i = k + (i + 1) by omega]⟩
theorem Vv {f : Nat → α → List β} {b : Nat} : ∀ {l : List α} {k : Nat}, (∀ i x, l[i]? = some x → (f (k + i) x).length ≤ b) → (Us f l k).length ≤ l.length * b
 | [], k, _ => by simp [Us]
 | x :: l, k, h => by
  rw [Us, List.length_append, List.length_cons, Nat.succ_mul]
  have h1 := h 0 x rfl
  have h2 := Vv (f := f) (l := l) (k := k + 1) (b := b) fun i z hz => by
   have := h (i + 1) z (by simpa using hz)
   rwa [show k + 1 + i = k + (i + 1) by omega]
  simp only [Nat.add_zero] at h1
  omega
theorem Wq (yy : σ → β → Option (σ × Bool)) (f : Nat → α → List β) {g : Nat → α → σ → Option (LR σ σ)} :
  ∀ {l : List α} {k : Nat} {s : σ}, (∀ i x s, l[i]? = some x → g (k + i) x s = vo yy (f (k + i) x) s) → Qc g l k s = vo yy (Us f l k) s
 | [], k, s, _ => rfl
 | x :: l, k, s, h => by
  rw [Us, UZ, Qc]
  have h0 := h 0 x s rfl
  rw [Nat.add_zero] at h0
  rw [h0]
  congr 1
  funext r
  cases r with
  | done r => rfl
  | next s' =>
   exact Wq yy f fun i z s hz => by
    have := h (i + 1) z s (by simpa using hz)
    rwa [show k + (i + 1) = k + 1 + i by omega] at this
theorem z1i (yy : σ → β → Option (σ × Bool)) (f : α → List β) {step : σ → α → Option (LR σ σ)} :
  ∀ {l : List α} {s : σ}, (∀ x ∈ l, ∀ s, step s x = vo yy (f x) s) → vo (yOf step) l (.next s) = (vo yy (l.flatMap f) s).map (fun r => match r with | .next s => .next (.next s) | .done s => .done (.done s))
 | [], s, _ => rfl
 | x :: l, s, h => by
  rw [List.flatMap_cons, UZ, vo, yOf, h x List.mem_cons_self s]
  cases vo yy (f x) s with
  | none => rfl
  | some r =>
   cases r with
   | done r => rfl
   | next s' => exact z1i yy f fun z hz => h z (List.mem_cons_of_mem _ hz)
end
def InR (n many : Int) : Prop := 0 ≤ n ∧ n < many
instance (n many : Int) : Decidable (InR n many) := by unfold InR; infer_instance
structure zaQ (x : z6) (st : Int) (a : zf) : Prop where
 fr : InR a.From st
 to : InR a.To st
 kind : 0 ≤ a.Kind ∧ a.Kind ≤ 2
 inner : a.Kind = 0 → a.Channel = 0 ∧ InR a.Message x.Labels
 other : a.Kind ≠ 0 → InR a.Channel x.Channels.length ∧ InR a.Message x.Messages
def Ris (l : List Int) (many : Int) : Prop := ∀ (i : Nat) (v : Int), l[i]? = some v → InR v many ∧ (0 < i → ∃ u, l[i - 1]? = some u ∧ u < v)
structure zcX (x : z6) (p : zk) : Prop where
 lo : 1 ≤ p.States
 hi : p.States ≤ 64
 arcs : p.Arcs.length ≤ 256
 ris : Ris p.Final p.States
 fin : p.Final.length ≤ 64
 arc : ∀ a ∈ p.Arcs, zaQ x p.States a
structure z3l (x : z6) : Prop where
 msg : 0 ≤ x.Messages ∧ x.Messages ≤ 16
 lab : 0 ≤ x.Labels ∧ x.Labels ≤ 16
 chl : x.Channels.length ≤ 4
 ch : ∀ n ∈ x.Channels, 0 ≤ n ∧ n ≤ 4
 pl : 1 ≤ x.Parts.length ∧ x.Parts.length ≤ 4
 part : ∀ p ∈ x.Parts, zcX x p
structure z9a (x : z6) (c : z8) : Prop where
 sl : c.States.length = x.Parts.length
 ql : c.Queues.length = x.Channels.length
 st : ∀ (i : Nat) (p : zk) (v : Int), x.Parts[i]? = some p → c.States[i]? = some v → InR v p.States
 qu : ∀ (i : Nat) (q : List Int) (n : Int), c.Queues[i]? = some q → x.Channels[i]? = some n → (q.length : Int) ≤ n ∧ ∀ m ∈ q, InR m x.Messages
theorem Qq {α ρ : Type} (l : List α) (hl : l.length < 4611686018427387904) {step : Int → Option (LR Int (Unit ⊕ ρ))} (h : ∀ (i : Nat) (x : α), l[i]? = some x → step (i : Int) = some (.next (w64 ((i : Int) + 1)))) (h2 : step (l.length : Int) = some (.done (.inl ()))) :
  loop step 0 = some (.inl ()) := by
 rw [XY l hl (fun _ _ => (none : Option ρ)) (fun i x hx => h i x hx) h2, Jt (fun _ _ _ => rfl)]
 rfl
theorem z4Q {α : Type} {l : List α} (hl : l.length < 4611686018427387904) (p : α → Bool) {step : Int → Option (LR Int (Unit ⊕ Int))} {F : Unit ⊕ Int → Option Int} (hF1 : F (.inl ()) = some (-1)) (hF2 : ∀ n, F (.inr n) = some n)
  (h : ∀ (i : Nat) (x : α), l[i]? = some x → step (i : Int) = some (bif p x then .done (.inr (i : Int)) else .next (w64 ((i : Int) + 1)))) (h2 : step (l.length : Int) = some (.done (.inl ()))) :
  Option.bind (Option.bind (loop step 0) F) (fun r => some (decide (r ≥ 0))) = some (l.any p) := by
 rw [XY l hl (fun i x => bif p x then some (i : Int) else none) (fun i x hx => by rw [h i x hx]; cases p x <;> rfl) h2]
 cases hf : Yb (fun (i : Nat) x => bif p x then some (i : Int) else none) l 0 with
 | none =>
  have ha : l.any p = false := by
   rw [List.any_eq_false]
   intro x hx
   obtain ⟨i, hi⟩ := List.mem_iff_getElem?.1 hx
   have := Xc hf i x hi
   cases hp : p x with
   | false => simp
   | true => rw [hp] at this; cases this
  rw [ha]
  show Option.bind (F (.inl ())) _ = _
  rw [hF1]; rfl
 | some r =>
  obtain ⟨i, x, h1, h3⟩ := Xb hf
  have hp : p x = true := by
   cases hp : p x with
   | true => rfl
   | false => rw [hp] at h3; cases h3
  rw [hp] at h3
  cases h3
  have ha : l.any p = true := List.any_eq_true.2 ⟨x, List.mem_of_getElem? h1, hp⟩
  rw [ha]
  show Option.bind (F (.inr _)) _ = _
  rw [hF2]
  simp only [oB]
  rw [decide_eq_true (by omega)]
theorem z7w (l : List Int) (hl : l.length < 4611686018427387904) : yY l () = some (l.any fun n => decide (n > 4)) := by
 unfold yY w4
 refine z4Q hl (fun n => decide (n > 4)) rfl (fun _ => rfl) (fun i x hx => ?_) ?_
 ·have hi := yp hx
  unfold yV jR
  rw [decide_eq_true (by omega), cond_true, xu hx, oB, oB]
  cases decide (x > 4) <;> rfl
 ·unfold yV
  rw [decide_eq_false (by omega), cond_false]
theorem zaB (l : List zk) (hl : l.length < 4611686018427387904) : zO l () = some (l.any fun p => decide (p.States > 64) || decide ((p.Arcs.length : Int) > 256)) := by
 unfold zO yi
 refine z4Q hl (fun p => decide (p.States > 64) || decide ((p.Arcs.length : Int) > 256)) rfl (fun _ => rfl) (fun i x hx => ?_) ?_
 ·have hi := yp hx
  unfold zN jQ
  rw [decide_eq_true (by omega), cond_true, xu hx, oB]
  cases decide (x.States > 64) <;> cases decide ((x.Arcs.length : Int) > 256) <;> rfl
 ·unfold zN
  rw [decide_eq_false (by omega), cond_false]
theorem z7v (l : List Int) (hl : l.length < 4611686018427387904) : yX l () = some (l.any fun n => decide (n < 0)) := by
 unfold yX xZ
 refine z4Q hl (fun n => decide (n < 0)) rfl (fun _ => rfl) (fun i x hx => ?_) ?_
 ·have hi := yp hx
  unfold yU jT
  rw [decide_eq_true (by omega), cond_true, xu hx, oB, oB]
  cases decide (x < 0) <;> rfl
 ·unfold yU
  rw [decide_eq_false (by omega), cond_false]
theorem JU (n m : Int) : vq n m = some (decide (InR n m)) := by
 unfold vq
 by_cases h : n ≥ 0
 ·rw [decide_eq_true h, cond_true]
  exact congrArg some (decide_eq_decide.2 ⟨fun q => ⟨h, q⟩, fun q => q.2⟩)
 ·rw [decide_eq_false h, cond_false]
  exact congrArg some (decide_eq_false (fun q : InR n m => h q.1)).symm
def Zx (x : z6) (st : Int) (a : zf) : Bool :=
 decide (InR a.From st) && decide (InR a.To st) && decide (a.Kind ≤ 2) && bif a.Kind == 0 then (a.Channel == 0 && decide (InR a.Message x.Labels)) else (decide (InR a.Channel x.Channels.length) && decide (InR a.Message x.Messages))
theorem z68 (x : z6) (p : zk) (a : zf) : wW x p a = some (Zx x p.States a) := by
 unfold wW Zx
 rw [JU, JU, JU, JU, JU]
 have hk : decide (a.Kind ≤ 2) = !decide (a.Kind > 2) := by
  by_cases h : a.Kind ≤ 2
  ·rw [decide_eq_true h, decide_eq_false (by omega)]; rfl
  ·rw [decide_eq_false h, decide_eq_true (by omega)]; rfl
 rw [hk]
 cases decide (InR a.From p.States) <;> cases decide (InR a.To p.States) <;> cases decide (a.Kind > 2) <;> cases (a.Kind == 0) <;> cases (a.Channel == 0) <;> cases decide (InR a.Channel x.Channels.length) <;> rfl
theorem Kc {x : z6} {st : Int} {a : zf} (h0 : 0 ≤ a.Kind) : Zx x st a = true ↔ zaQ x st a := by
 unfold Zx
 constructor
 ·intro h
  simp only [Bool.and_eq_true, decide_eq_true_eq] at h
  obtain ⟨⟨⟨h1, h2⟩, h3⟩, h4⟩ := h
  refine ⟨h1, h2, ⟨h0, h3⟩, fun q => ?_, fun q => ?_⟩
  ·rw [q] at h4; simpa using h4
  ·rw [beq_false_of_ne q, cond_false] at h4; simpa using h4
 ·intro h
  by_cases q : a.Kind = 0
  ·simp [h.fr, h.to, q, h.inner q]
  ·simp [h.fr, h.to, h.kind.2, q, h.other q]
theorem zaC (x : z6) (p : zk) (l : List zf) (hl : l.length < 4611686018427387904) : zU l (x, p) = some (l.any fun a => !Zx x p.States a) := by
 unfold zU yo
 refine z4Q hl (fun a => !Zx x p.States a) rfl (fun _ => rfl) (fun i a hx => ?_) ?_
 ·have hi := yp hx
  unfold zT jS
  rw [decide_eq_true (by omega), cond_true, xu hx, oB, z68, oB, oB]
  cases Zx x p.States a <;> rfl
 ·unfold zT
  rw [decide_eq_false (by omega), cond_false]
theorem z7u (x : z6) (l : List Int) (hl : l.length < 4611686018427387904) : yW l x = some (l.any fun m => !decide (InR m x.Messages)) := by
 unfold yW xY
 refine z4Q hl (fun m => !decide (InR m x.Messages)) rfl (fun _ => rfl) (fun i m hx => ?_) ?_
 ·have hi := yp hx
  unfold yT vE
  rw [decide_eq_true (by omega), cond_true, xu hx, oB, JU, oB, oB]
  cases decide (InR m x.Messages) <;> rfl
 ·unfold yT
  rw [decide_eq_false (by omega), cond_false]
theorem z3Q {l : List Int} {many : Int} (hl : l.length ≤ 64) (h : Ris l many) : v6 l many = some true := by
 unfold v6
 rw [bdT (Qq l (by omega) ?_ ?_)]
 ·rfl
 ·intro i v hv
  have hi := yp hv
  obtain ⟨h1, h2⟩ := h i v hv
  unfold wr
  rw [decide_eq_true (by omega), cond_true, xu hv, oB, JU, oB, decide_eq_true h1, Bool.not_true, cond_false]
  by_cases q : 0 < i
  ·obtain ⟨u, hu, hlt⟩ := h2 q
   rw [decide_eq_true (by omega), cond_true, qe (by omega) (by omega), show (i : Int) - 1 = ((i - 1 : Nat) : Int) by omega, xu hu, oB, decide_eq_false (by omega), cond_false]
   rfl
  ·rw [decide_eq_false (by omega), cond_false]
   rfl
 ·unfold wr
  rw [decide_eq_false (by omega), cond_false]
theorem Vx {x : z6} (h : z3l x) : wa x = some 0 := by
 have habove : uu x = some false := by
  unfold uu
  have h1 := h.chl; have h2 := h.pl.2
  rw [decide_eq_false (by have := h.msg.2; omega), cond_false, decide_eq_false (by have := h.lab.2; omega), cond_false, decide_eq_false (by omega), cond_false, decide_eq_false (by omega), cond_false, z7w _ (by omega), zaB _ (by omega)]
  have e1 : (x.Channels.any fun n => decide (n > 4)) = false := List.any_eq_false.2 fun n hn => by have := h.ch n hn; simp; omega
  have e2 : (x.Parts.any fun p => decide (p.States > 64) || decide ((p.Arcs.length : Int) > 256)) = false := List.any_eq_false.2 fun p hp => by have q1 := (h.part p hp).hi; have q2 := (h.part p hp).arcs; simp; omega
  rw [e1, e2]
  rfl
 have e3 : (x.Channels.any fun n => decide (n < 0)) = false := List.any_eq_false.2 fun n hn => by have := h.ch n hn; simp; omega
 unfold wa
 rw [habove, oB, cond_false, decide_eq_false (by have := h.msg.1; omega), cond_false, decide_eq_false (by have := h.lab.1; omega), cond_false, decide_eq_false (by have := h.pl.1; omega), cond_false, z7v _ (by have := h.chl; omega), e3, oB, cond_false]
 rw [bdT (Qq x.Parts (by have := h.pl.2; omega) ?_ ?_)]
 ·rfl
 ·intro i p hp
  have hi := yp hp
  have hv := h.part p (List.mem_of_getElem? hp)
  have e4 : (p.Arcs.any fun a => !Zx x p.States a) = false := List.any_eq_false.2 fun a ha => by
   have := (Kc (hv.arc a ha).kind.1).2 (hv.arc a ha)
   simp [this]
  unfold wh
  rw [decide_eq_true (by omega), cond_true, xu hp, oB, decide_eq_false (by have := hv.lo; omega), cond_false, z3Q hv.fin hv.ris, oB, Bool.not_true, cond_false, zaC _ _ _ (by have := hv.arcs; omega), e4, oB, cond_false]
 ·unfold wh
  rw [decide_eq_false (by omega), cond_false]
theorem WG {x : z6} {c : z8} (h : z3l x) (hc : z9a x c) : yk x c = some 0 := by
 have hs := hc.sl; have hq := hc.ql; have hp2 := h.pl.2; have hcl := h.chl
 unfold yk
 rw [Vx h, oB, show ((0 : Int) != 0) = false from rfl, cond_false, hs, hq, bne_self_eq_false, cond_false, bne_self_eq_false, cond_false]
 rw [bdT (Qq x.Parts (by omega) ?_ ?_)]
 ·show xx x c = _
  unfold xx
  rw [bdT (Qq c.Queues (by omega) ?_ ?_)]
  ·rfl
  ·intro i q hq'
   have hi := yp hq'
   have hn : x.Channels[i]? = some x.Channels[i] := List.getElem?_eq_getElem (by omega)
   obtain ⟨h1, h2⟩ := hc.qu i q _ hq' hn
   have hb := h.ch _ (List.mem_of_getElem? hn)
   have e : (q.any fun m => !decide (InR m x.Messages)) = false := List.any_eq_false.2 fun m hm => by simp [h2 m hm]
   unfold xw
   rw [decide_eq_true (by omega), cond_true, xu hq', oB, xu hn, oB, decide_eq_false (by omega), cond_false, z7u _ _ (by omega), e, oB, cond_false]
  ·unfold xw
   rw [decide_eq_false (by omega), cond_false]
 ·intro i p hp
  have hi := yp hp
  have hv : c.States[i]? = some c.States[i] := List.getElem?_eq_getElem (by omega)
  unfold xv
  rw [decide_eq_true (by omega), cond_true, xu hp, oB, xu hv, oB, JU, oB, decide_eq_true (hc.st i p _ hp hv), Bool.not_true, cond_false]
 ·unfold xv
  rw [decide_eq_false (by omega), cond_false]
section
variable {α : Type}
theorem zF.ext_toL {a b : zF α} (h : a.toL = b.toL) : a = b := by
 cases a; cases b; simp only [zF.toL, List.cons.injEq, and_true] at h; simp only [zF.mk.injEq]; exact h
theorem zF.toL_setI (a : zF α) (i : Nat) (v : α) : (zF.setI a (i : Int) v).toL = a.toL.set i v := by
 unfold zF.setI
 rw [zF.toL_ofL _ _ (by rw [List.length_set]; rfl)]
 rfl
end
def Je {α : Type} (z : α) (l : List α) : List α := l ++ List.replicate (4 - l.length) z
theorem KU {α : Type} {z : α} {l : List α} (h : l.length ≤ 4) : (Je z l).length = 4 := by
 rw [Je, List.length_append, List.length_replicate]; omega
theorem z47 {α : Type} {z : α} {l : List α} {i : Nat} {v : α} (h : l[i]? = some v) : (Je z l)[i]? = some v := by
 rw [Je, List.getElem?_append_left (yp h)]; exact h
theorem z2J {α : Type} {z : α} {l : List α} {i : Nat} {v : α} (h : i < l.length) : (Je z l).set i v = Je z (l.set i v) := by
 rw [Je, Je, List.set_append_left _ _ h, List.length_set]
theorem z0T {α : Type} {z : α} {l : List α} : (Je z l).take l.length = l := by
 rw [Je, List.take_left]
theorem z0U {α : Type} {z : α} {l : List α} {v : α} (h : l.length < 4) : (Je z l).set l.length v = Je z (l ++ [v]) := by
 rw [Je, Je, List.set_append_right _ _ (Nat.le_refl _), Nat.sub_self, show 4 - l.length = (4 - (l ++ [v]).length) + 1 by simp; omega, List.replicate_succ, List.set_cons_zero, List.append_assoc]
 rfl
def pad (l : List Int) : zF Int := zF.ofL (Je 0 l) ⟨0, 0, 0, 0⟩
theorem Jd {l : List Int} (h : l.length ≤ 4) : (pad l).toL = Je 0 l := zF.toL_ofL _ _ (KU h)
def qOf (l : List Int) : zg := ⟨l.length, pad l⟩
def z44 (l : List (List Int)) : zF zg := zF.ofL (Je (qOf []) (l.map qOf)) ⟨qOf [], qOf [], qOf [], qOf []⟩
theorem Wk {l : List (List Int)} (h : l.length ≤ 4) : (z44 l).toL = Je (qOf []) (l.map qOf) := zF.toL_ofL _ _ (KU (by simpa using h))
def yf (c : z8) : za := ⟨pad c.States, z44 c.Queues⟩
theorem KT {l : List Int} {i : Nat} {v : Int} (h : l.length ≤ 4) (hi : i < l.length) : zF.setI (pad l) (i : Int) v = pad (l.set i v) := by
 apply zF.ext_toL
 rw [zF.toL_setI, Jd h, Jd (by rw [List.length_set]; exact h), z2J hi]
theorem z6i {l : List (List Int)} {i : Nat} {v : List Int} (h : l.length ≤ 4) (hi : i < l.length) : zF.setI (z44 l) (i : Int) (qOf v) = z44 (l.set i v) := by
 apply zF.ext_toL
 rw [zF.toL_setI, Wk h, Wk (by rw [List.length_set]; exact h), z2J (by simpa using hi), List.map_set]
theorem Kg {l : List Int} {i : Nat} {v : Int} (h : l.length ≤ 4) (hi : l[i]? = some v) : idx (pad l).toL (i : Int) = some v := by
 rw [Jd h]; exact z47 hi
theorem z43 {l : List (List Int)} {i : Nat} {v : List Int} (h : l.length ≤ 4) (hi : l[i]? = some v) : idx (z44 l).toL (i : Int) = some (qOf v) := by
 rw [Wk h]; exact z47 (by rw [List.getElem?_map, hi]; rfl)
theorem z7i {l : List Int} (m : Int) (h : l.length < 4) : u9 (qOf l) m = some (qOf (l ++ [m])) := by
 match l, h with
 | [], _ => rfl
 | [a], _ => rfl
 | [a, b], _ => rfl
 | [a, b, c], _ => rfl
theorem z5K {a : Int} {l : List Int} (h : l.length < 4) : qg (qOf (a :: l)) = some (qOf l) := by
 match l, h with
 | [], _ => rfl
 | [x], _ => rfl
 | [x, y], _ => rfl
 | [x, y, z], _ => rfl
theorem z6g {L : zF zg} {q : List Int} {k : Nat} (hk : k < 4) (hL : L.toL[k]? = some (qOf [])) (hq : q.length ≤ 4) :
  loop (fun s => wO (k : Int) q s.1 s.2) (L, 0) = some (zF.setI L (k : Int) (qOf q)) := by
 have e0 : zF.setI L (k : Int) (qOf (q.take 0)) = L := by
  apply zF.ext_toL
  rw [zF.toL_setI]
  obtain ⟨h1, h2⟩ := List.getElem?_eq_some_iff.1 hL
  exact h2 ▸ List.set_getElem_self h1
 have hlk : k < L.toL.length := hk
 refine (congrArg (fun a => loop (fun s => wO (k : Int) q s.1 s.2) (a, 0)) e0.symm).trans ?_
 refine Qp (fun j => (zF.setI L (k : Int) (qOf (q.take j)), (j : Int))) q.length (by omega) (fun j hj => ?_) ?_
 ·have hv : q[j]? = some q[j] := List.getElem?_eq_getElem hj
  have hc : idx (zF.setI L (k : Int) (qOf (q.take j))).toL (k : Int) = some (qOf (q.take j)) := by
   rw [zF.toL_setI]
   show (L.toL.set k _)[k]? = _
   rw [List.getElem?_set_self hlk]
  unfold wO
  dsimp only
  rw [decide_eq_true (by omega), cond_true, xu hv, oB, hc, oB, z7i _ (by rw [List.length_take]; omega), oB, oB, oB, qe (by omega) (by omega)]
  have : zF.setI (zF.setI L (k : Int) (qOf (q.take j))) (k : Int) (qOf (q.take j ++ [q[j]])) = zF.setI L (k : Int) (qOf (q.take (j + 1))) := by
   apply zF.ext_toL
   rw [zF.toL_setI, zF.toL_setI, zF.toL_setI, List.set_set, List.take_add_one, hv]
   rfl
  rw [this]
  rfl
 ·unfold wO
  dsimp only
  rw [decide_eq_false (by omega), cond_false, List.take_length]
theorem z2H {c : z8} (hs : c.States.length ≤ 4) (hq : c.Queues.length ≤ 4) (hb : ∀ q ∈ c.Queues, q.length ≤ 4) : qQ c = some (yf c) := by
 unfold qQ
 have e1 : zF.ofL (cpA (zF.toL (zF.mk (0 : Int) 0 0 0)) 0 c.States) (zF.mk 0 0 0 0) = pad c.States := by
  unfold pad Je
  congr 1
  simp only [cpA, zF.toL, List.take_zero, List.nil_append, List.length_cons, List.length_nil]
  rw [List.take_of_length_le (by omega)]
  congr 1
  generalize c.States.length = n at hs
  match n, hs with
  | 0, _ => rfl
  | 1, _ => rfl
  | 2, _ => rfl
  | 3, _ => rfl
  | 4, _ => rfl
 rw [oB, e1]
 have hl : loop (fun s => vp c s.1 s.2) ((zF.mk (zg.mk 0 (zF.mk 0 0 0 0)) (zg.mk 0 (zF.mk 0 0 0 0)) (zg.mk 0 (zF.mk 0 0 0 0)) (zg.mk 0 (zF.mk 0 0 0 0))), 0) = some (z44 c.Queues) := by
  refine Qp (fun j => (z44 (c.Queues.take j), (j : Int))) c.Queues.length (by omega) (fun j hj => ?_) ?_
  ·have hv : c.Queues[j]? = some c.Queues[j] := List.getElem?_eq_getElem hj
   have hlen : (c.Queues.take j).length = j := by rw [List.length_take]; omega
   unfold vp
   dsimp only
   rw [decide_eq_true (by omega), cond_true, xu hv, oB, z6g (by omega) (by
    rw [Wk (by omega), Je, List.getElem?_append_right (by simp; omega), List.getElem?_replicate, if_pos (by simp; omega)]) (hb _ (List.mem_of_getElem? hv)), oB]
   unfold jh
   rw [qe (by omega) (by omega)]
   have : zF.setI (z44 (c.Queues.take j)) (j : Int) (qOf c.Queues[j]) = z44 (c.Queues.take (j + 1)) := by
    apply zF.ext_toL
    rw [zF.toL_setI, Wk (by omega), Wk (by rw [List.length_take]; omega), List.take_add_one, hv]
    have := z0U (z := qOf []) (l := (c.Queues.take j).map qOf) (v := qOf c.Queues[j]) (by rw [List.length_map]; omega)
    rw [List.length_map, hlen] at this
    rw [this, List.map_append]
    rfl
   rw [this]
   rfl
  ·unfold vp
   dsimp only
   rw [decide_eq_false (by omega), cond_false, List.take_length]
 rw [bdT hl]
 rfl
theorem z2X {l : List Int} (h : l.length ≤ 4294967296) : wg l = some l := by
 unfold wg
 rw [gdT (by simpa using h)]
theorem z4S {l : List Int} : ww l = some l := by
 unfold ww
 rw [gdT (by omega)]
 simp
theorem Jz {x : z6} {c : z8} (hs : c.States.length = x.Parts.length) (hq : c.Queues.length = x.Channels.length) (h4 : x.Parts.length ≤ 4) (h5 : x.Channels.length ≤ 4) (hb : ∀ q ∈ c.Queues, q.length ≤ 4) :
  xD x (yf c) = some c := by
 unfold xD
 have e1 : [(yf c).states_.e0, (yf c).states_.e1, (yf c).states_.e2, (yf c).states_.e3] = Je 0 c.States := Jd (by omega)
 rw [gdT (by simp; omega), e1, show (((x.Parts.length : Nat) : Int)).toNat = c.States.length by omega, z0T, z2X (by omega), oB, z4S, oB, gdT (by omega)]
 have hl : loop (fun s => xC x (yf c) s.1 s.2) ((List.replicate ((x.Channels.length : Nat) : Int).toNat ([] : List Int)), 0) = some c.Queues := by
  rw [show (((x.Channels.length : Nat) : Int)).toNat = c.Queues.length by omega]
  have e0 : List.replicate c.Queues.length ([] : List Int) = c.Queues.take 0 ++ List.replicate (c.Queues.length - 0) [] := by simp
  rw [e0]
  refine Qp (fun j => (c.Queues.take j ++ List.replicate (c.Queues.length - j) [], (j : Int))) c.Queues.length (by omega) (fun j hj => ?_) ?_
  ·have hv : c.Queues[j]? = some c.Queues[j] := List.getElem?_eq_getElem hj
   have hlen : (c.Queues.take j).length = j := by rw [List.length_take]; omega
   have hql := hb _ (List.mem_of_getElem? hv)
   have e2 : [(qOf c.Queues[j]).l_.e0, (qOf c.Queues[j]).l_.e1, (qOf c.Queues[j]).l_.e2, (qOf c.Queues[j]).l_.e3] = Je 0 c.Queues[j] := Jd hql
   unfold xC
   dsimp only
   rw [decide_eq_true (by rw [List.length_replicate]; omega), cond_true]
   rw [show idx (yf c).queues_.toL (j : Int) = some (qOf c.Queues[j]) from z43 (by omega) hv, oB]
   rw [e2]
   rw [show (qOf c.Queues[j]).many_ = ((c.Queues[j].length : Nat) : Int) from rfl]
   rw [gdT (show (0 : Int) ≤ ((c.Queues[j].length : Nat) : Int) ∧ ((c.Queues[j].length : Nat) : Int) ≤ (((Je 0 c.Queues[j]).length : Nat) : Int) by rw [KU hql]; omega)]
   rw [Int.toNat_natCast, z0T, z2X (by omega), oB, z4S, oB]
   have hi : idx (c.Queues.take j ++ List.replicate (c.Queues.length - j) ([] : List Int)) (j : Int) = some [] := by
    show (c.Queues.take j ++ List.replicate (c.Queues.length - j) ([] : List Int))[j]? = some []
    rw [List.getElem?_append_right (by omega), hlen, Nat.sub_self, List.getElem?_replicate, if_pos (by omega)]
   rw [hi, oB, qe (by omega) (by omega), Int.toNat_natCast]
   have : (c.Queues.take j ++ List.replicate (c.Queues.length - j) ([] : List Int)).set j c.Queues[j] = c.Queues.take (j + 1) ++ List.replicate (c.Queues.length - (j + 1)) [] := by
    rw [List.set_append_right _ _ (by omega), hlen, Nat.sub_self, show c.Queues.length - j = (c.Queues.length - (j + 1)) + 1 by omega, List.replicate_succ, List.set_cons_zero, List.take_add_one, hv, List.append_assoc]
    rfl
   rw [this]
   rfl
  ·unfold xC
   dsimp only
   rw [decide_eq_false (by rw [List.length_replicate]; omega), cond_false, List.take_length, Nat.sub_self]
   simp
 rw [bdT hl]
 rfl
def jg (l : List zf) (st : Int) : List (Int × zf) := Us (fun k a => if a.From = st then [((k : Int), a)] else []) l 0
theorem YI {l : List zf} {st : Int} {e : Int × zf} : e ∈ jg l st ↔ ∃ k : Nat, e.1 = k ∧ l[k]? = some e.2 ∧ e.2.From = st := by
 unfold jg
 rw [Vs]
 constructor
 ·rintro ⟨i, a, h1, h2⟩
  rw [Nat.zero_add] at h2
  split at h2
  ·rename_i h
   simp at h2
   subst h2
   exact ⟨i, rfl, h1, h⟩
  ·simp at h2
 ·rintro ⟨k, h1, h2, h3⟩
  refine ⟨k, e.2, h2, ?_⟩
  rw [if_pos h3, Nat.zero_add, ← h1]
  simp
def stv (c : z8) (o : Nat) : Int := (c.States[o]?).getD 0
def two (c : z8) (p : Nat) (i : Int) (a : zf) (o : Nat) (kb : Int × zf) : List (zc × z8) :=
 if kb.2.Kind = 2 ∧ kb.2.Channel = a.Channel ∧ kb.2.Message = a.Message then [(⟨p, i, o, kb.1⟩, ⟨(c.States.set p a.To).set o kb.2.To, c.Queues⟩)] else []
def z1b (x : z6) (c : z8) (p : Nat) (i : Int) (a : zf) : List (zc × z8) :=
 Us (fun o P => if o = p then [] else (jg P.Arcs (stv c o)).flatMap (two c p i a o)) x.Parts 0
def quv (c : z8) (a : zf) : List Int := (c.Queues[a.Channel.toNat]?).getD []
def rmv (x : z6) (a : zf) : Int := (x.Channels[a.Channel.toNat]?).getD 0
def one (x : z6) (c : z8) (p : Nat) (e : Int × zf) : List (zc × z8) :=
 if e.2.Kind = 0 then [(⟨p, e.1, -1, -1⟩, ⟨c.States.set p e.2.To, c.Queues⟩)]
 else if rmv x e.2 = 0 then (if e.2.Kind = 1 then z1b x c p e.1 e.2 else [])
 else if e.2.Kind = 1 then (if ((quv c e.2).length : Int) < rmv x e.2 then [(⟨p, e.1, -1, -1⟩, ⟨c.States.set p e.2.To, c.Queues.set e.2.Channel.toNat (quv c e.2 ++ [e.2.Message])⟩)] else [])
 else (if (quv c e.2).head? = some e.2.Message then [(⟨p, e.1, -1, -1⟩, ⟨c.States.set p e.2.To, c.Queues.set e.2.Channel.toNat (quv c e.2).tail⟩)] else [])
def mvs (x : z6) (c : z8) : List (zc × z8) :=
 Us (fun p P => (jg P.Arcs (stv c p)).flatMap (one x c p)) x.Parts 0
section
variable {σ : Type}
def z1U : LR σ σ → σ
 | .next s => s
 | .done s => s
def zai : LR σ σ → σ ⊕ σ
 | .next s => .inl s
 | .done s => .inr s
def yeM (yy : σ → (zc × za) → Option (σ × Bool)) (s : σ) (m : zc × z8) : Option (σ × Bool) := yy s (m.1, yf m.2)
theorem z8N {x : z6} {c : z8} {p : Nat} {P : zk} {st : Int} (h1 : x.Parts[p]? = some P) (h2 : c.States[p]? = some st) (h3 : P.Arcs.length ≤ 256) (h4 : c.States.length ≤ 4)
  (yy : σ → (Int × zf) → Option (σ × Bool)) (sg : σ) : yq x (p : Int) (yf c) yy sg = (vo yy (jg P.Arcs st) sg).map z1U := by
 unfold yq
 rw [xu h1, oB]
 have hc : idx (yf c).states_.toL (p : Int) = some st := Kg h4 h2
 rw [Zm P.Arcs (by omega) (g := fun k a s => if a.From = st then Option.bind (yy s ((k : Int), a)) (fun r => some (bif r.2 then .next r.1 else .done r.1)) else some (.next s)) z1U sg ?_ ?_]
 ·rw [Wq yy (fun k a => if a.From = st then [((k : Int), a)] else [])]
  ·unfold jg
   cases (vo yy (Us (fun k a => if a.From = st then [((k : Int), a)] else []) P.Arcs 0) sg) <;> rfl
  ·intro i a s ha
   rw [Nat.zero_add]
   split
   ·simp only [vo]
    cases yy s ((i : Int), a) with
    | none => rfl
    | some r => obtain ⟨r1, r2⟩ := r; cases r2 <;> rfl
   ·rfl
 ·intro i a s ha
  have hi := yp ha
  unfold xT
  dsimp only
  rw [decide_eq_true (by omega), cond_true, xu ha, oB, hc, oB]
  by_cases q : a.From = st
  ·rw [q, beq_self_eq_true, cond_true, if_pos rfl]
   cases yy s ((i : Int), a) with
   | none => rfl
   | some r => obtain ⟨r1, r2⟩ := r; cases r2 <;> rfl
  ·rw [beq_false_of_ne q, cond_false, if_neg q]
   rfl
 ·intro s
  unfold xT
  dsimp only
  rw [decide_eq_false (by omega), cond_false]
  rfl
theorem z2S {α : Type} {x : z6} {c : z8} {p : Nat} {P : zk} {st : Int} (h1 : x.Parts[p]? = some P) (h2 : c.States[p]? = some st) (h3 : P.Arcs.length ≤ 256) (h4 : c.States.length ≤ 4)
  (yy : σ → α → Option (σ × Bool)) (f : Int × zf → List α) {step : σ → Int × zf → Option (LR σ σ)} (sg : σ) (h : ∀ e ∈ jg P.Arcs st, ∀ s, step s e = vo yy (f e) s) :
  yq x (p : Int) (yf c) (yOf step) (.next sg) = vo yy ((jg P.Arcs st).flatMap f) sg := by
 rw [z8N h1 h2 h3 h4, z1i yy f h]
 cases vo yy ((jg P.Arcs st).flatMap f) sg with
 | none => rfl
 | some r => cases r <;> rfl
theorem zcH {c : z8} (yy : σ → (zc × za) → Option (σ × Bool)) {p o : Nat} (i k : Int) (a b : zf) (h4 : c.States.length ≤ 4) (hp : p < c.States.length) (ho : o < c.States.length) (sg : σ) :
  xp (yf c) yy (p : Int) i a (o : Int) sg k b = vo (yeM yy) (two c p i a o (k, b)) sg := by
 unfold xp two
 by_cases q1 : b.Kind = 2
 ·rw [q1, bne_self_eq_false, cond_false]
  by_cases q2 : b.Channel = a.Channel
  ·rw [q2, bne_self_eq_false, cond_false]
   by_cases q3 : b.Message = a.Message
   ·rw [q3, bne_self_eq_false, cond_false, if_pos ⟨rfl, rfl, rfl⟩]
    have e1 : idx (yf c).states_.toL (p : Int) = some c.States[p] := Kg h4 (List.getElem?_eq_getElem hp)
    have e2 : zF.setI (yf c).states_ (p : Int) a.To = pad (c.States.set p a.To) := KT h4 hp
    have e3 : idx (pad (c.States.set p a.To)).toL (o : Int) = some ((c.States.set p a.To)[o]'(by rw [List.length_set]; exact ho)) := Kg (by rw [List.length_set]; exact h4) (List.getElem?_eq_getElem _)
    have e4 : zF.setI (pad (c.States.set p a.To)) (o : Int) b.To = pad ((c.States.set p a.To).set o b.To) := KT (by rw [List.length_set]; exact h4) (by rw [List.length_set]; exact ho)
    rw [e1, oB, oB, e2, e3, oB, oB, e4]
    simp only [vo, yeM]
    show Option.bind (yy sg (_, yf ⟨(c.States.set p a.To).set o b.To, c.Queues⟩)) _ = _
    cases yy sg (⟨(p : Int), i, (o : Int), k⟩, yf ⟨(c.States.set p a.To).set o b.To, c.Queues⟩) with
    | none => rfl
    | some r => obtain ⟨r1, r2⟩ := r; cases r2 <;> rfl
   ·rw [if_neg (fun q => q3 q.2.2), bne_iff_ne.2 q3 |> fun h => (h : (b.Message != a.Message) = true), cond_true]
    rfl
  ·rw [if_neg (fun q => q2 q.2.1), bne_iff_ne.2 q2 |> fun h => (h : (b.Channel != a.Channel) = true), cond_true]
   rfl
 ·rw [if_neg (fun q => q1 q.1), bne_iff_ne.2 q1 |> fun h => (h : (b.Kind != 2) = true), cond_true]
  rfl
structure MOk (x : z6) (c : z8) : Prop where
 sys : z3l x
 cfg : z9a x c
theorem MOk.s4 {x : z6} {c : z8} (h : MOk x c) : c.States.length ≤ 4 := by have := h.cfg.sl; have := h.sys.pl; omega
theorem MOk.q4 {x : z6} {c : z8} (h : MOk x c) : c.Queues.length ≤ 4 := by have := h.cfg.ql; have := h.sys.chl; omega
theorem MOk.qb {x : z6} {c : z8} (h : MOk x c) : ∀ q ∈ c.Queues, q.length ≤ 4 := by
 intro q hq
 obtain ⟨i, hi⟩ := List.mem_iff_getElem?.1 hq
 have e0 := h.cfg.ql
 have e1 := yp hi
 have hn : x.Channels[i]? = some (x.Channels[i]'(by omega)) := List.getElem?_eq_getElem _
 have h1 := (h.cfg.qu i q _ hi hn).1
 have h2 := h.sys.ch _ (List.mem_of_getElem? hn)
 omega
theorem MOk.stat {x : z6} {c : z8} (h : MOk x c) {p : Nat} {P : zk} (hp : x.Parts[p]? = some P) : p < c.States.length ∧ c.States[p]? = some (stv c p) := by
 have hl : p < c.States.length := by have := yp hp; have := h.cfg.sl; omega
 refine ⟨hl, ?_⟩
 unfold stv
 rw [List.getElem?_eq_getElem hl]
 rfl
theorem zcE {x : z6} {c : z8} (h : MOk x c) (yy : σ → (zc × za) → Option (σ × Bool)) {p : Nat} (i : Int) (a : zf) (hp : p < x.Parts.length) (sg : σ) :
  loop (fun s => xo x (yf c) yy (p : Int) i a s.1 s.2) (sg, 0) = (vo (yeM yy) (z1b x c p i a) sg).map zai := by
 have hpl := h.sys.pl
 rw [Zm x.Parts (by omega) (g := fun o P s => vo (yeM yy) (if o = p then [] else (jg P.Arcs (stv c o)).flatMap (two c p i a o)) s) zai sg ?_ ?_]
 ·rw [Wq (yeM yy) (fun o P => if o = p then [] else (jg P.Arcs (stv c o)).flatMap (two c p i a o)) (fun _ _ _ _ => by rw [Nat.zero_add])]
  rfl
 ·intro o P s hP
  have ho := yp hP
  unfold xo
  dsimp only
  rw [decide_eq_true (by omega), cond_true]
  by_cases q : o = p
  ·subst q
   rw [beq_self_eq_true, cond_true, if_pos rfl]
   rfl
  ·rw [beq_false_of_ne (by omega), cond_false, if_neg q]
   unfold ws
   rw [oB]
   dsimp only
   obtain ⟨h1, h2⟩ := h.stat hP
   rw [z2S hP h2 (h.sys.part P (List.mem_of_getElem? hP)).arcs h.s4 (yeM yy) (two c p i a o) s (fun e _ s' => zcH yy i e.1 a e.2 h.s4 (by have := h.cfg.sl; omega) h1 s')]
   cases vo (yeM yy) ((jg P.Arcs (stv c o)).flatMap (two c p i a o)) s with
   | none => rfl
   | some r => cases r <;> rfl
 ·intro s
  unfold xo
  dsimp only
  rw [decide_eq_false (by omega), cond_false]
  rfl
theorem z3a {x : z6} {c : z8} (h : MOk x c) {p : Nat} (hp : p < c.States.length) {a : zf} (hk : a.Kind = 0) (hc : a.Channel = 0) :
  xR x (yf c) (p : Int) a = some (yf ⟨c.States.set p a.To, c.Queues⟩, false) := by
 unfold xR
 have e1 : idx (yf c).states_.toL (p : Int) = some c.States[p] := Kg h.s4 (List.getElem?_eq_getElem hp)
 have e2 : zF.setI (yf c).states_ (p : Int) a.To = pad (c.States.set p a.To) := KT h.s4 hp
 rw [e1, oB, oB, e2, hc, show idx (zF.toL (yf c).queues_) (mn 0 3) = some (yf c).queues_.e0 from rfl, oB, hk, beq_self_eq_true, cond_true]
 rfl
theorem MOk.chan {x : z6} {c : z8} (h : MOk x c) {st : Int} {a : zf} (ha : zaQ x st a) (hk : a.Kind ≠ 0) : ∃ n : Nat, a.Channel = (n : Int) ∧ n < 4 ∧ c.Queues[n]? = some (quv c a) ∧ x.Channels[n]? = some (rmv x a) ∧ ((quv c a).length : Int) ≤ rmv x a ∧ rmv x a ≤ 4 := by
 have hr := (ha.other hk).1
 have hql := h.cfg.ql
 have hcl := h.sys.chl
 obtain ⟨r1, r2⟩ := hr
 have e1 : c.Queues[a.Channel.toNat]? = some (quv c a) := by
  unfold quv
  rw [List.getElem?_eq_getElem (by omega)]
  rfl
 have e2 : x.Channels[a.Channel.toNat]? = some (rmv x a) := by
  unfold rmv
  rw [List.getElem?_eq_getElem (by omega)]
  rfl
 refine ⟨a.Channel.toNat, by omega, by omega, e1, e2, (h.cfg.qu _ _ _ e1 e2).1, (h.sys.ch _ (List.mem_of_getElem? e2)).2⟩
theorem z38 {x : z6} {c : z8} (h : MOk x c) {p : Nat} (hp : p < c.States.length) {st : Int} {a : zf} (ha : zaQ x st a) (hk : a.Kind ≠ 0) :
  xR x (yf c) (p : Int) a = (if rmv x a = 0 then some (⟨pad (c.States.set p a.To), (yf c).queues_⟩, true)
   else if a.Kind = 1 then (if ((quv c a).length : Int) < rmv x a then some (yf ⟨c.States.set p a.To, c.Queues.set a.Channel.toNat (quv c a ++ [a.Message])⟩, false) else some (⟨pad (c.States.set p a.To), (yf c).queues_⟩, true))
   else (if (quv c a).head? = some a.Message then some (yf ⟨c.States.set p a.To, c.Queues.set a.Channel.toNat (quv c a).tail⟩, false) else some (⟨pad (c.States.set p a.To), (yf c).queues_⟩, true))) := by
 obtain ⟨n, hn, hn4, e1, e2, hle, h4⟩ := h.chan ha hk
 unfold xR
 have e3 : idx (yf c).states_.toL (p : Int) = some c.States[p] := Kg h.s4 (List.getElem?_eq_getElem hp)
 have e4 : zF.setI (yf c).states_ (p : Int) a.To = pad (c.States.set p a.To) := KT h.s4 hp
 have e5 : idx (zF.toL (yf c).queues_) (n : Int) = some (qOf (quv c a)) := z43 h.q4 e1
 have e6 : mn (n : Int) 3 = n := by unfold mn; rw [if_neg (by omega)]
 have hset : ∀ q : List Int, zF.setI (yf c).queues_ (n : Int) (qOf q) = z44 (c.Queues.set n q) := fun q => z6i h.q4 (yp e1)
 rw [e3, oB, oB, e4, hn, e6, e5, oB, beq_false_of_ne hk, cond_false, xu e2, oB, Int.toNat_natCast]
 by_cases q0 : rmv x a = 0
 ·rw [q0, beq_self_eq_true, cond_true, if_pos rfl]
  rfl
 ·rw [beq_false_of_ne q0, cond_false, if_neg q0]
  by_cases q1 : a.Kind = 1
  ·rw [q1, beq_self_eq_true, cond_true, if_pos rfl, oB, show ((1 : Int) == 2) = false from rfl, cond_false]
   by_cases q2 : ((quv c a).length : Int) < rmv x a
   ·rw [if_pos q2, beq_false_of_ne (show (qOf (quv c a)).many_ ≠ rmv x a from by show ((quv c a).length : Int) ≠ _; omega), cond_false]
    unfold zQ
    rw [cond_false, q1, beq_self_eq_true, cond_true, z7i _ (by omega), oB, hn, e5, oB, oB, hset]
    rfl
   ·rw [if_neg q2, show ((qOf (quv c a)).many_ == rmv x a) = true from beq_iff_eq.2 (by show ((quv c a).length : Int) = _; omega), cond_true]
    rfl
  ·have q2 : a.Kind = 2 := by have := ha.kind; omega
   rw [beq_false_of_ne q1, cond_false, if_neg q1, q2, beq_self_eq_true, cond_true]
   cases hq : quv c a with
   | nil => rfl
   | cons m l =>
    rw [hq] at hle e5
    simp only [List.length_cons] at hle
    rw [show ((qOf (m :: l)).many_ == 0) = false from beq_false_of_ne (by show (((m :: l).length : Nat) : Int) ≠ 0; simp; omega), cond_false]
    have e7 : (qOf (m :: l)).l_.e0 = m := by
     have := Kg (l := m :: l) (i := 0) (v := m) (by simp; omega) rfl
     exact Option.some.inj this
    rw [e7]
    unfold zQ
    by_cases q3 : m = a.Message
    ·rw [q3, bne_self_eq_false, cond_false, q2, show ((2 : Int) == 1) = false from rfl, cond_false, if_pos (show (a.Message :: l).head? = some a.Message from rfl)]
     rw [q3] at e5
     rw [z5K (by omega), oB, hn, e5, oB, oB, hset]
     rfl
    ·rw [show (m != a.Message) = true from bne_iff_ne.2 q3, cond_true, if_neg (show ¬(m :: l).head? = some a.Message from fun q => q3 (Option.some.inj q))]
theorem zcJ {x : z6} {c : z8} (h : MOk x c) (yy : σ → (zc × za) → Option (σ × Bool)) {p : Nat} (hp : p < x.Parts.length) (i : Int) {a : zf} {st : Int} (ha : zaQ x st a) (sg : σ) :
  xq x (yf c) yy (p : Int) sg i a = vo (yeM yy) (one x c p (i, a)) sg := by
 have hps : p < c.States.length := by have := h.cfg.sl; omega
 have key : ∀ (m : zc) (to : z8), (Option.bind (yy sg (m, yf to)) fun yr => bif !yr.2 then some (LR.done yr.1) else some (LR.next yr.1)) = vo (yeM yy) [(m, to)] sg := by
  intro m to
  simp only [vo, yeM]
  cases yy sg (m, yf to) with
  | none => rfl
  | some r => obtain ⟨r1, r2⟩ := r; cases r2 <;> rfl
 unfold xq one Jx
 by_cases q : a.Kind = 0
 ·rw [z3a h hps q (ha.inner q).1, oB, cond_true, oB, Bool.not_false, cond_true, if_pos q]
  exact key _ _
 ·rw [z38 h hps ha q, if_neg q]
  obtain ⟨n, hn, hn4, e1, e2, hle, h4⟩ := h.chan ha q
  have er : idx x.Channels a.Channel = some (rmv x a) := by rw [hn]; exact xu e2
  by_cases q0 : rmv x a = 0
  ·rw [if_pos q0, if_pos q0, oB, cond_true, oB, Bool.not_true, cond_false]
   by_cases q1 : a.Kind = 1
   ·rw [q1, bne_self_eq_false, cond_false, er, oB, decide_eq_false (by omega), cond_false, zcE h yy i a hp]
    show _ = vo (yeM yy) (z1b x c p i a) sg
    cases vo (yeM yy) (z1b x c p i a) sg with
    | none => rfl
    | some r => cases r <;> rfl
   ·rw [show (a.Kind != 1) = true from bne_iff_ne.2 q1, cond_true, if_neg q1]
    rfl
  ·rw [if_neg q0, if_neg q0]
   by_cases q1 : a.Kind = 1
   ·rw [if_pos q1, if_pos q1]
    by_cases q2 : ((quv c a).length : Int) < rmv x a
    ·rw [if_pos q2, if_pos q2, oB, cond_true, oB, Bool.not_false, cond_true]
     exact key _ _
    ·rw [if_neg q2, if_neg q2, oB, cond_true, oB, Bool.not_true, cond_false, q1, bne_self_eq_false, cond_false, er, oB, decide_eq_true (by have : (0 : Int) ≤ (quv c a).length := Int.natCast_nonneg _; omega), cond_true]
     rfl
   ·rw [if_neg q1, if_neg q1]
    by_cases q2 : (quv c a).head? = some a.Message
    ·rw [if_pos q2, if_pos q2, oB, cond_true, oB, Bool.not_false, cond_true]
     exact key _ _
    ·rw [if_neg q2, if_neg q2, oB, cond_true, oB, Bool.not_true, cond_false, show (a.Kind != 1) = true from bne_iff_ne.2 q1, cond_true]
     rfl
theorem KX {x : z6} {c : z8} (h : MOk x c) (yy : σ → (zc × za) → Option (σ × Bool)) (sg : σ) :
  y9 x (yf c) yy sg = (vo (yeM yy) (mvs x c) sg).map z1U := by
 unfold y9
 have hpl := h.sys.pl
 rw [Zm x.Parts (by omega) (g := fun p P s => vo (yeM yy) ((jg P.Arcs (stv c p)).flatMap (one x c p)) s) z1U sg ?_ ?_]
 ·rw [Wq (yeM yy) (fun p P => (jg P.Arcs (stv c p)).flatMap (one x c p)) (fun _ _ _ _ => by rw [Nat.zero_add])]
  show Option.bind (Option.map z1U (vo (yeM yy) (mvs x c) sg)) _ = _
  cases vo (yeM yy) (mvs x c) sg <;> rfl
 ·intro p P s hP
  have hp := yp hP
  obtain ⟨h1, h2⟩ := h.stat hP
  have hv := h.sys.part P (List.mem_of_getElem? hP)
  unfold xM ws
  dsimp only
  rw [decide_eq_true (by omega), cond_true, oB]
  rw [z2S hP h2 hv.arcs h.s4 (yeM yy) (one x c p) s (fun e he s' => by
   obtain ⟨k, _, hk, _⟩ := YI.1 he
   exact zcJ h yy hp e.1 (hv.arc e.2 (List.mem_of_getElem? hk)) s')]
  cases vo (yeM yy) ((jg P.Arcs (stv c p)).flatMap (one x c p)) s with
  | none => rfl
  | some r => cases r <;> rfl
 ·intro s
  unfold xM
  dsimp only
  rw [decide_eq_false (by omega), cond_false]
  rfl
end
def dst (c : z8) (p : Nat) (a : zf) : z8 :=
 if a.Kind = 0 then ⟨c.States.set p a.To, c.Queues⟩
 else if a.Kind = 1 then ⟨c.States.set p a.To, c.Queues.set a.Channel.toNat (quv c a ++ [a.Message])⟩
 else ⟨c.States.set p a.To, c.Queues.set a.Channel.toNat (quv c a).tail⟩
def can (x : z6) (c : z8) (a : zf) : Prop :=
 a.Kind = 0 ∨ rmv x a ≠ 0 ∧ (a.Kind = 1 ∧ ((quv c a).length : Int) < rmv x a ∨ a.Kind ≠ 0 ∧ a.Kind ≠ 1 ∧ (quv c a).head? = some a.Message)
def zeq (c : z8) (p : Nat) (a : zf) (o : Nat) (b : zf) : z8 := ⟨(c.States.set p a.To).set o b.To, c.Queues⟩
theorem z4l {x : z6} {c : z8} {p : Nat} {k : Int} {a : zf} {e : zc × z8} : e ∈ one x c p (k, a) ↔
  (e = (⟨p, k, -1, -1⟩, dst c p a) ∧ can x c a) ∨ (a.Kind = 1 ∧ rmv x a = 0 ∧ ∃ (o : Nat) (Po : zk) (kk : Nat) (b : zf), o ≠ p ∧ x.Parts[o]? = some Po ∧ Po.Arcs[kk]? = some b ∧ b.From = stv c o ∧ (b.Kind = 2 ∧ b.Channel = a.Channel ∧ b.Message = a.Message) ∧ e = (⟨p, k, o, kk⟩, zeq c p a o b)) := by
 have hh : e ∈ z1b x c p k a ↔ ∃ (o : Nat) (Po : zk) (kk : Nat) (b : zf), o ≠ p ∧ x.Parts[o]? = some Po ∧ Po.Arcs[kk]? = some b ∧ b.From = stv c o ∧ (b.Kind = 2 ∧ b.Channel = a.Channel ∧ b.Message = a.Message) ∧ e = (⟨p, k, o, kk⟩, zeq c p a o b) := by
  unfold z1b
  rw [Vs]
  constructor
  ·rintro ⟨o, Po, h1, h2⟩
   rw [Nat.zero_add] at h2
   split at h2
   ·simp at h2
   ·rename_i ho
    obtain ⟨kb, h3, h4⟩ := List.mem_flatMap.1 h2
    obtain ⟨kk, h5, h6, h7⟩ := YI.1 h3
    unfold two at h4
    split at h4
    ·rename_i hq
     simp only [List.mem_singleton] at h4
     rw [h5] at h4
     exact ⟨o, Po, kk, kb.2, ho, h1, h6, h7, hq, h4⟩
    ·simp at h4
  ·rintro ⟨o, Po, kk, b, ho, h1, h6, h7, hq, rfl⟩
   refine ⟨o, Po, h1, ?_⟩
   rw [Nat.zero_add, if_neg ho]
   refine List.mem_flatMap.2 ⟨((kk : Int), b), YI.2 ⟨kk, rfl, h6, h7⟩, ?_⟩
   unfold two
   rw [if_pos hq]
   exact List.mem_singleton.2 rfl
 unfold one dst can
 dsimp only
 by_cases q0 : a.Kind = 0
 ·simp [q0]
 ·by_cases q1 : rmv x a = 0
  ·by_cases q2 : a.Kind = 1
   ·rw [if_neg q0, if_pos q1, if_pos q2, hh]
    simp [q1, q2]
   ·simp [q0, q1, q2]
  ·by_cases q2 : a.Kind = 1
   ·by_cases q3 : ((quv c a).length : Int) < rmv x a
    ·simp [q1, q2, q3]
    ·simp [q1, q2, q3]
   ·by_cases q3 : (quv c a).head? = some a.Message
    ·simp [q0, q1, q2, q3]
    ·simp [q0, q1, q2, q3]
theorem z4m {x : z6} {c : z8} {e : zc × z8} : e ∈ mvs x c ↔
  ∃ (p : Nat) (P : zk) (k : Nat) (a : zf), x.Parts[p]? = some P ∧ P.Arcs[k]? = some a ∧ a.From = stv c p ∧ e ∈ one x c p ((k : Int), a) := by
 unfold mvs
 rw [Vs]
 constructor
 ·rintro ⟨p, P, h1, h2⟩
  rw [Nat.zero_add] at h2
  obtain ⟨e', h3, h4⟩ := List.mem_flatMap.1 h2
  obtain ⟨k, h5, h6, h7⟩ := YI.1 h3
  obtain ⟨k', a⟩ := e'
  simp only at h5 h6 h7
  subst h5
  exact ⟨p, P, k, a, h1, h6, h7, h4⟩
 ·rintro ⟨p, P, k, a, h1, h6, h7, h4⟩
  refine ⟨p, P, h1, ?_⟩
  rw [Nat.zero_add]
  exact List.mem_flatMap.2 ⟨((k : Int), a), YI.2 ⟨k, rfl, h6, h7⟩, h4⟩
theorem z78 {x : z6} {c : z8} (hc : z9a x c) {p : Nat} {P : zk} {t : Int} (hP : x.Parts[p]? = some P) (ht : InR t P.States) : z9a x ⟨c.States.set p t, c.Queues⟩ := by
 refine ⟨by rw [List.length_set]; exact hc.sl, hc.ql, fun i q v h1 h2 => ?_, hc.qu⟩
 dsimp only at h2
 rw [List.getElem?_set] at h2
 split at h2
 ·rename_i hpi
  subst hpi
  split at h2
  ·cases h2
   rw [hP] at h1
   cases h1
   exact ht
  ·cases h2
 ·exact hc.st i q v h1 h2
theorem zdz {x : z6} {c : z8} (hc : z9a x c) {n : Nat} {q : List Int} (hq : ∀ r, x.Channels[n]? = some r → (q.length : Int) ≤ r ∧ ∀ m ∈ q, InR m x.Messages) : z9a x ⟨c.States, c.Queues.set n q⟩ := by
 refine ⟨hc.sl, by rw [List.length_set]; exact hc.ql, hc.st, fun i q' r h1 h2 => ?_⟩
 dsimp only at h1
 rw [List.getElem?_set] at h1
 split at h1
 ·rename_i hpi
  subst hpi
  split at h1
  ·cases h1
   exact hq r h2
  ·cases h1
 ·exact hc.qu i q' r h1 h2
theorem z4g {x : z6} {c : z8} (h : MOk x c) {e : zc × z8} (he : e ∈ mvs x c) : MOk x e.2 := by
 refine ⟨h.sys, ?_⟩
 obtain ⟨p, P, k, a, h1, h2, h3, h4⟩ := z4m.1 he
 have hv := (h.sys.part P (List.mem_of_getElem? h1)).arc a (List.mem_of_getElem? h2)
 have hs := z78 h.cfg h1 hv.to
 rcases z4l.1 h4 with ⟨rfl, hc⟩ | ⟨_, _, o, Po, kk, b, _, h5, h6, _, _, rfl⟩
 ·unfold dst
  dsimp only
  split
  ·exact hs
  ·rename_i q0
   obtain ⟨n, hn, _, e1, e2, hle, _⟩ := h.chan hv q0
   have hqm : ∀ m ∈ quv c a, InR m x.Messages := (h.cfg.qu n _ _ e1 e2).2
   have hnn : a.Channel.toNat = n := by omega
   rw [hnn]
   rcases hc with hc | ⟨_, ⟨q1, q2⟩ | ⟨_, q1, q2⟩⟩
   ·exact absurd hc q0
   ·rw [if_pos q1]
    refine zdz hs (n := n) fun r hr => ?_
    rw [e2] at hr
    cases hr
    refine ⟨by rw [List.length_append, List.length_singleton]; omega, fun m hm => ?_⟩
    rcases List.mem_append.1 hm with hm | hm
    ·exact hqm m hm
    ·rw [List.mem_singleton.1 hm]
     exact (hv.other q0).2
   ·rw [if_neg q1]
    refine zdz hs (n := n) fun r hr => ?_
    rw [e2] at hr
    cases hr
    exact ⟨by rw [List.length_tail]; omega, fun m hm => hqm m (List.mem_of_mem_tail hm)⟩
 ·exact z78 hs h5 ((h.sys.part Po (List.mem_of_getElem? h5)).arc b (List.mem_of_getElem? h6)).to
theorem WX {α β : Type} {f : α → List β} {b : Nat} : ∀ {l : List α}, (∀ x ∈ l, (f x).length ≤ b) → (l.flatMap f).length ≤ l.length * b
 | [], _ => by simp
 | x :: l, h => by
  rw [List.flatMap_cons, List.length_append, List.length_cons, Nat.succ_mul]
  have h1 := h x List.mem_cons_self
  have h2 := WX (f := f) (l := l) (b := b) fun y hy => h y (List.mem_cons_of_mem _ hy)
  omega
theorem Ku {l : List zf} {st : Int} (h : l.length ≤ 256) : (jg l st).length ≤ 256 := by
 have := Vv (f := fun (k : Nat) (a : zf) => if a.From = st then [((k : Int), a)] else []) (l := l) (k := 0) (b := 1) fun i x _ => by split <;> simp
 unfold jg
 omega
theorem z1S {x : z6} {c : z8} (h : z3l x) : (mvs x c).length ≤ 1048576 := by
 have hpl := h.pl.2
 have hh : ∀ p i a, (z1b x c p i a).length ≤ 1024 := by
  intro p i a
  have := Vv (f := fun o P => if o = p then [] else (jg P.Arcs (stv c o)).flatMap (two c p i a o)) (l := x.Parts) (k := 0) (b := 256) fun o P hP => by
   split
   ·simp
   ·have h1 := Ku (st := stv c (0 + o)) (h.part P (List.mem_of_getElem? hP)).arcs
    have h2 := WX (f := two c p i a (0 + o)) (l := jg P.Arcs (stv c (0 + o))) (b := 1) fun e _ => by unfold two; split <;> simp
    omega
  unfold z1b
  omega
 have ho : ∀ p e, (one x c p e).length ≤ 1024 := by
  intro p e
  have := hh p e.1 e.2
  unfold one
  split
  ·simp
  ·split
   ·split
    ·exact this
    ·simp
   ·split
    ·split <;> simp
    ·split <;> simp
 have := Vv (f := fun p P => (jg P.Arcs (stv c p)).flatMap (one x c p)) (l := x.Parts) (k := 0) (b := 262144) fun p P hP => by
  have h1 := Ku (st := stv c (0 + p)) (h.part P (List.mem_of_getElem? hP)).arcs
  have h2 := WX (f := one x c (0 + p)) (l := jg P.Arcs (stv c (0 + p))) (b := 1024) fun e _ => ho _ e
  omega
 unfold mvs
 omega
theorem z4i {x : z6} {c : z8} (h : MOk x c) : wY x c = some ((mvs x c).map (·.1), 0) := by
 have gen : ∀ (l : List (zc × z8)) (acc : List zc), acc.length + l.length ≤ 4294967296 →
   vo (yeM (yOf (fun s (x : zc × za) => wP s x.1 x.2))) l (.next acc) = some (.next (.next (acc ++ l.map (·.1)))) := by
  intro l
  induction l with
  | nil => intro acc _; simp [vo]
  | cons e l ih =>
   intro acc ha
   rw [List.length_cons] at ha
   have e1 : yeM (yOf (fun s (x : zc × za) => wP s x.1 x.2)) (.next acc) e = some (.next (acc ++ [e.1]), true) := by
    unfold yeM yOf wP
    dsimp only
    rw [gdT (by rw [List.length_singleton]; omega)]
   rw [vo, e1, oB, cond_true, ih _ (by rw [List.length_append, List.length_singleton]; omega), List.map_cons, List.append_assoc]
   rfl
 unfold wY
 rw [WG h.sys h.cfg, oB, bne_self_eq_false, cond_false, z2H h.s4 h.q4 h.qb, oB]
 unfold xr
 rw [oB]
 dsimp only
 have hl := z1S (c := c) h.sys
 rw [KX h, gen _ [] (by simp; omega)]
 show uQ ([] ++ (mvs x c).map (·.1)) = _
 unfold uQ yc
 rw [gdT (by omega)]
 simp
 exact List.take_of_length_le (by simp)
theorem zav {x : z6} {c : z8} (h : MOk x c) (m : zc) :
  (∃ to, (m, to) ∈ mvs x c ∧ ub x c m = some (to, 0)) ∨ ((∀ e ∈ mvs x c, e.1 ≠ m) ∧ ub x c m = some (⟨[], []⟩, 7)) := by
 have hmq : ∀ m' : zc, ((m'.Part == m.Part) && ((m'.Arc == m.Arc) && ((m'.Other == m.Other) && ((m'.With == m.With) && true)))) = true ↔ m' = m := by
  intro m'
  obtain ⟨a, b, c', d⟩ := m'
  obtain ⟨a2, b2, c2, d2⟩ := m
  simp
 have gen : ∀ (l : List (zc × z8)) (s : List Int × List (List Int)), (∀ e ∈ l, MOk x e.2) →
   (∃ to, (m, to) ∈ l ∧ vo (yeM (yOf (fun s (e : zc × za) => wD x m s.1 s.2 e.1 e.2))) l (.next s) = some (.done (.done (to.States, to.Queues)))) ∨
   ((∀ e ∈ l, e.1 ≠ m) ∧ vo (yeM (yOf (fun s (e : zc × za) => wD x m s.1 s.2 e.1 e.2))) l (.next s) = some (.next (.next s))) := by
  intro l
  induction l with
  | nil => intro s _; exact .inr ⟨fun _ h => (by cases h), rfl⟩
  | cons e l ih =>
   intro s hl
   have hk := hl e List.mem_cons_self
   by_cases q : e.1 = m
   ·refine .inl ⟨e.2, by rw [← q]; exact List.mem_cons_self, ?_⟩
    have e1 : yeM (yOf (fun s (e : zc × za) => wD x m s.1 s.2 e.1 e.2)) (.next s) e = some (.done (e.2.States, e.2.Queues), false) := by
     unfold yeM yOf wD
     dsimp only
     rw [(hmq e.1).2 q, cond_true, Jz hk.cfg.sl hk.cfg.ql hk.sys.pl.2 hk.sys.chl hk.qb]
     rfl
    rw [vo, e1, oB, cond_false]
   ·have e1 : yeM (yOf (fun s (e : zc × za) => wD x m s.1 s.2 e.1 e.2)) (.next s) e = some (.next s, true) := by
     unfold yeM yOf wD
     dsimp only
     rw [Bool.eq_false_iff.2 (fun h => q ((hmq e.1).1 h)), cond_false]
    rw [vo, e1, oB, cond_true]
    rcases ih s (fun e he => hl e (List.mem_cons_of_mem _ he)) with ⟨to, h1, h2⟩ | ⟨h1, h2⟩
    ·exact .inl ⟨to, List.mem_cons_of_mem _ h1, h2⟩
    ·refine .inr ⟨fun e' he' => ?_, h2⟩
     rcases List.mem_cons.1 he' with rfl | he'
     ·exact q
     ·exact h1 e' he'
 unfold ub
 rw [WG h.sys h.cfg, oB, bne_self_eq_false, cond_false, z2H h.s4 h.q4 h.qb, oB]
 unfold xr
 rw [oB]
 dsimp only
 rw [KX h]
 rcases gen (mvs x c) ([], []) (fun e he => z4g h he) with ⟨to, h1, h2⟩ | ⟨h1, h2⟩
 ·rw [h2]
  exact .inl ⟨to, h1, rfl⟩
 ·rw [h2]
  exact .inr ⟨h1, rfl⟩
def beg (x : z6) : z8 := ⟨List.replicate x.Parts.length 0, List.replicate x.Channels.length []⟩
theorem z7y {x : z6} (h : z3l x) : MOk x (beg x) := by
 refine ⟨h, by simp [beg], by simp [beg], fun i p v hp hv => ?_, fun i q n hq hn => ?_⟩
 ·have := List.mem_of_getElem? hv
  have hv0 : v = 0 := List.eq_of_mem_replicate this
  subst hv0
  exact ⟨Int.le_refl _, by have := (h.part p (List.mem_of_getElem? hp)).lo; omega⟩
 ·have hq0 : q = [] := List.eq_of_mem_replicate (List.mem_of_getElem? hq)
  subst hq0
  exact ⟨(h.ch n (List.mem_of_getElem? hn)).1, fun m hm => by simp at hm⟩
instance decCfg : DecidableEq z8 := fun a b => decidable_of_iff (a.States = b.States ∧ a.Queues = b.Queues) (by cases a; cases b; simp)
def fnd (l : List z8) (c : z8) : Nat := l.findIdx fun y => decide (y = c)
def k7 (s : List z8 × List z7) (e : zc × z8) : List z8 × List z7 :=
 (if fnd s.1 e.2 = s.1.length then s.1 ++ [e.2] else s.1, s.2 ++ [⟨e.1, (fnd s.1 e.2 : Nat)⟩])
theorem Jq (l : List (zc × z8)) : ∀ s, (l.foldl k7 s).1.length ≤ s.1.length + l.length ∧ (l.foldl k7 s).2.length = s.2.length + l.length ∧ s.1.length ≤ (l.foldl k7 s).1.length := by
 induction l with
 | nil => intro s; exact ⟨Nat.le_refl _, rfl, Nat.le_refl _⟩
 | cons e l ih =>
  intro s
  obtain ⟨h1, h2, h3⟩ := ih (k7 s e)
  have e1 : (k7 s e).1.length ≤ s.1.length + 1 ∧ s.1.length ≤ (k7 s e).1.length := by
   unfold k7
   dsimp only
   split
   ·rw [List.length_append, List.length_singleton]; omega
   ·omega
  have e2 : (k7 s e).2.length = s.2.length + 1 := by
   unfold k7
   dsimp only
   rw [List.length_append, List.length_singleton]
  rw [List.foldl_cons, List.length_cons]
  omega
theorem z4D {P : z8 → Prop} (l : List (zc × z8)) : ∀ s, (∀ c ∈ s.1, P c) → (∀ e ∈ l, P e.2) → ∀ c ∈ (l.foldl k7 s).1, P c := by
 induction l with
 | nil => intro s h _; exact h
 | cons e l ih =>
  intro s h he
  refine ih (k7 s e) ?_ (fun e' h' => he e' (List.mem_cons_of_mem _ h'))
  intro c hc
  unfold k7 at hc
  dsimp only at hc
  split at hc
  ·rcases List.mem_append.1 hc with hc | hc
   ·exact h c hc
   ·rw [List.mem_singleton.1 hc]; exact he e List.mem_cons_self
  ·exact h c hc
section
variable {x : z6}
def z20 (x : z6) (n : Nat) (s : List z8 × List (List z7)) : List z8 × List (List z7) :=
 match s.1[n]? with
 | none => s
 | some c => (((mvs x c).foldl k7 (s.1, [])).1, s.2 ++ [((mvs x c).foldl k7 (s.1, [])).2])
def jB (x : z6) : Nat → List z8 × List (List z7)
 | 0 => ([beg x], [])
 | n + 1 => z20 x n (jB x n)
theorem z4z (hv : z3l x) : ∀ n, (∀ d ∈ (jB x n).1, MOk x d) ∧ 1 ≤ (jB x n).1.length
 | 0 => ⟨fun d hd => by rw [List.mem_singleton.1 hd]; exact z7y hv, Nat.le_refl _⟩
 | n + 1 => by
  obtain ⟨h1, h2⟩ := z4z hv n
  rw [jB, z20]
  split
  ·exact ⟨h1, h2⟩
  ·rename_i c hc
   have hco := h1 c (List.mem_of_getElem? hc)
   refine ⟨z4D _ _ h1 fun e he => z4g hco he, ?_⟩
   have := (Jq (mvs x c) ((jB x n).1, [])).2.2
   dsimp only at this ⊢
   omega
end
theorem z0d {α : Type} [BEq α] [LawfulBEq α] (a b : zF α) : (a == b) = true ↔ a = b := by
 cases a; cases b
 show ((_ == _) && (_ == _) && (_ == _) && (_ == _)) = true ↔ _
 simp [and_assoc]
theorem z0N (a b : zg) : (a == b) = true ↔ a = b := by
 cases a; cases b
 show ((_ == _) && (_ == _)) = true ↔ _
 rw [Bool.and_eq_true, z0d]
 simp
instance : LawfulBEq zg := {
 eq_of_beq h := (z0N _ _).1 h
 rfl := (z0N _ _).2 rfl }
theorem kw (a b : za) : (a == b) = true ↔ a = b := by
 cases a; cases b
 show ((_ == _) && (_ == _)) = true ↔ _
 rw [Bool.and_eq_true, z0d, z0d]
 simp
theorem zah {V : Type} (l : List (za × V)) (x : za) (v : V) : JJ (JI l x v) x = some v := by
 induction l with
 | nil =>
  simp only [JI, JJ]
  rw [if_pos ((kw x x).2 rfl)]
 | cons p l ih =>
  simp only [JI]
  by_cases h : p.1 = x
  ·rw [if_pos ((kw _ _).2 h)]
   simp only [JJ]
   rw [if_pos ((kw x x).2 rfl)]
  ·rw [if_neg (fun e => h ((kw _ _).1 e))]
   simp only [JJ, ih]
   rw [if_neg (fun e => h ((kw _ _).1 e))]
theorem zag {V : Type} (l : List (za × V)) {x y : za} (v : V) (q : x ≠ y) : JJ (JI l x v) y = JJ l y := by
 induction l with
 | nil =>
  simp only [JI, JJ]
  rw [if_neg (fun e => q ((kw x y).1 e))]
 | cons p l ih =>
  simp only [JI]
  by_cases h : p.1 = x
  ·rw [if_pos ((kw _ _).2 h)]
   simp only [JJ]
   rw [if_neg (fun e => q ((kw _ _).1 e)), if_neg (fun e => q (h ▸ (kw _ _).1 e))]
  ·rw [if_neg (fun e => h ((kw _ _).1 e))]
   simp only [JJ, ih]
theorem z5Q {x : z6} {a b : z8} (ha : MOk x a) (hb : MOk x b) (h : yf a = yf b) : a = b := by
 have h1 := Jz ha.cfg.sl ha.cfg.ql ha.sys.pl.2 ha.sys.chl ha.qb
 rw [h, Jz hb.cfg.sl hb.cfg.ql hb.sys.pl.2 hb.sys.chl hb.qb] at h1
 exact (Option.some.inj h1).symm
theorem z4F (l : List z8) (c : z8) : fnd l c ≤ l.length := List.findIdx_le_length
theorem z4G (l : List z8) (d c : z8) : fnd (l ++ [d]) c = if fnd l c < l.length then fnd l c else if d = c then l.length else l.length + 1 := by
 unfold fnd
 rw [List.findIdx_append]
 split
 ·rfl
 ·rw [List.findIdx_singleton]
  by_cases q : d = c
  ·simp [q]
  ·simp [q]; omega
def z9q (x : z6) (L : List z8) (m : List (za × Int)) : Prop :=
 ∀ c, MOk x c → JJ m (yf c) = if fnd L c < L.length then some ((fnd L c : Nat) : Int) else none
section
variable {x : z6}
theorem z2r {L : List z8} {m : List (za × Int)} {d : z8} (hd : MOk x d) (h : z9q x L m) (hn : fnd L d = L.length) : z9q x (L ++ [d]) (JI m (yf d) (L.length : Int)) := by
 intro c hc
 rw [List.length_append, List.length_singleton]
 have hle := z4F L c
 by_cases q : d = c
 ·subst q
  have e : fnd (L ++ [d]) d = L.length := by rw [z4G, if_neg (by omega), if_pos rfl]
  rw [zah, e, if_pos (by omega)]
 ·rw [zag _ _ (fun e => q (z5Q hd hc e)), h c hc, z4G]
  by_cases q2 : fnd L c < L.length
  ·rw [if_pos q2, if_pos q2, if_pos (by omega)]
  ·rw [if_neg q2, if_neg q2, if_neg q, if_neg (by omega)]
theorem zcI (z : Int) : ∀ (es : List (zc × z8)) (L : List z8) (m : List (za × Int)) (l : List z7), (∀ e ∈ es, MOk x e.2) → z9q x L m → L.length ≤ 1024 → l.length + es.length ≤ 4294967296 →
  ((es.foldl k7 (L, l)).1.length ≤ 1024 ∧ ∃ m', z9q x (es.foldl k7 (L, l)).1 m' ∧ vo (yeM (yOf (fun s (e : zc × za) => zL s.1 s.2.1 s.2.2.1 s.2.2.2 e.1 e.2))) es (.next (z, L.map yf, m, l)) = some (.next (.next (z, (es.foldl k7 (L, l)).1.map yf, m', (es.foldl k7 (L, l)).2)))) ∨
  (1024 < (es.foldl k7 (L, l)).1.length ∧ ∃ r, vo (yeM (yOf (fun s (e : zc × za) => zL s.1 s.2.1 s.2.2.1 s.2.2.2 e.1 e.2))) es (.next (z, L.map yf, m, l)) = some (.done (.done (3, r)))) := by
 intro es
 induction es with
 | nil => intro L m l _ hm hl _; exact .inl ⟨hl, m, hm, rfl⟩
 | cons e es ih =>
  intro L m l he hm hl hb
  have hed := he e List.mem_cons_self
  have hes := fun e' h' => he e' (List.mem_cons_of_mem e h')
  rw [List.length_cons] at hb
  have hg := hm e.2 hed
  have hfl := z4F L e.2
  rw [List.foldl_cons]
  by_cases q : fnd L e.2 < L.length
  ·rw [if_pos q] at hg
   have hst : k7 (L, l) e = (L, l ++ [⟨e.1, ((fnd L e.2 : Nat) : Int)⟩]) := by
    unfold k7; dsimp only; rw [if_neg (by omega)]
   have e1 : yeM (yOf (fun s (e : zc × za) => zL s.1 s.2.1 s.2.2.1 s.2.2.2 e.1 e.2)) (.next (z, L.map yf, m, l)) e = some (.next (z, L.map yf, m, l ++ [⟨e.1, ((fnd L e.2 : Nat) : Int)⟩]), true) := by
    unfold yeM yOf zL xG
    dsimp only
    rw [hg, oB, show (some ((fnd L e.2 : Nat) : Int)).isSome = true from rfl, Bool.not_true, cond_false, gdT (by rw [List.length_singleton]; omega)]
    rfl
   rw [vo, e1, oB, cond_true, hst]
   exact ih L m _ hes hm hl (by rw [List.length_append, List.length_singleton]; omega)
  ·rw [if_neg q] at hg
   have hst : k7 (L, l) e = (L ++ [e.2], l ++ [⟨e.1, ((L.length : Nat) : Int)⟩]) := by
    unfold k7; dsimp only; rw [if_pos (by omega), show fnd L e.2 = L.length by omega]
   rw [hst]
   by_cases q2 : L.length = 1024
   ·have hlen := (Jq es (L ++ [e.2], l ++ [⟨e.1, ((L.length : Nat) : Int)⟩])).2.2
    dsimp only at hlen
    rw [List.length_append, List.length_singleton] at hlen
    refine .inr ⟨by omega, (L.map yf, m, l), ?_⟩
    have e1 : yeM (yOf (fun s (e : zc × za) => zL s.1 s.2.1 s.2.2.1 s.2.2.2 e.1 e.2)) (.next (z, L.map yf, m, l)) e = some (.done (3, L.map yf, m, l), false) := by
     unfold yeM yOf zL
     dsimp only
     rw [hg, oB, show (none : Option Int).isSome = false from rfl, Bool.not_false, cond_true, List.length_map, q2, show (((1024 : Nat) : Int) == 1024) = true from rfl, cond_true]
    rw [vo, e1, oB, cond_false]
   ·have e1 : yeM (yOf (fun s (e : zc × za) => zL s.1 s.2.1 s.2.2.1 s.2.2.2 e.1 e.2)) (.next (z, L.map yf, m, l)) e = some (.next (z, (L ++ [e.2]).map yf, JI m (yf e.2) ((L.length : Nat) : Int), l ++ [⟨e.1, ((L.length : Nat) : Int)⟩]), true) := by
     unfold yeM yOf zL xG
     dsimp only
     rw [hg, oB, show (none : Option Int).isSome = false from rfl, Bool.not_false, cond_true, List.length_map, beq_false_of_ne (by omega), cond_false, gdT (by rw [List.length_singleton]; omega), gdT (by rw [List.length_singleton]; omega), List.map_append]
     rfl
    rw [vo, e1, oB, cond_true]
    exact ih _ _ _ hes (z2r hed hm (by omega)) (by rw [List.length_append, List.length_singleton]; omega) (by rw [List.length_append, List.length_singleton]; omega)
theorem z6J (l : List z7) : yb l = some l := by
 unfold yb
 rw [gdT (by omega)]
 simp
theorem z5R : yf (beg x) = ⟨⟨0, 0, 0, 0⟩, ⟨⟨0, ⟨0, 0, 0, 0⟩⟩, ⟨0, ⟨0, 0, 0, 0⟩⟩, ⟨0, ⟨0, 0, 0, 0⟩⟩, ⟨0, ⟨0, 0, 0, 0⟩⟩⟩⟩ ∨ 4 < x.Parts.length ∨ 4 < x.Channels.length := by
 by_cases h1 : 4 < x.Parts.length
 ·exact .inr (.inl h1)
 ·by_cases h2 : 4 < x.Channels.length
  ·exact .inr (.inr h2)
  ·refine .inl ?_
   unfold yf beg
   dsimp only
   generalize x.Parts.length = a at h1
   generalize x.Channels.length = b at h2
   have e1 : pad (List.replicate a 0) = ⟨0, 0, 0, 0⟩ := by
    match a, h1 with
    | 0, _ => rfl
    | 1, _ => rfl
    | 2, _ => rfl
    | 3, _ => rfl
    | 4, _ => rfl
    | n + 5, h => omega
   have e2 : z44 (List.replicate b []) = ⟨⟨0, ⟨0, 0, 0, 0⟩⟩, ⟨0, ⟨0, 0, 0, 0⟩⟩, ⟨0, ⟨0, 0, 0, 0⟩⟩, ⟨0, ⟨0, 0, 0, 0⟩⟩⟩ := by
    match b, h2 with
    | 0, _ => rfl
    | 1, _ => rfl
    | 2, _ => rfl
    | 3, _ => rfl
    | 4, _ => rfl
    | n + 5, h => omega
   rw [e1, e2]
theorem z4A (hv : z3l x) :
  (∃ n, yP x = some ((jB x n).1.map yf, (jB x n).2, 0) ∧ (jB x n).1.length ≤ n ∧ (jB x n).1.length ≤ 1024 ∧ ∀ m, m < n → m < (jB x m).1.length) ∨
  (∃ n, yP x = some ([], [], 3) ∧ 1024 < (jB x n).1.length ∧ ∀ m, m < n → m < (jB x m).1.length) := by
 unfold yP
 have hb : (⟨⟨0, 0, 0, 0⟩, ⟨⟨0, ⟨0, 0, 0, 0⟩⟩, ⟨0, ⟨0, 0, 0, 0⟩⟩, ⟨0, ⟨0, 0, 0, 0⟩⟩, ⟨0, ⟨0, 0, 0, 0⟩⟩⟩⟩ : za) = yf (beg x) := by
  rcases z5R (x := x) with h | h | h
  ·exact h.symm
  ·have := hv.pl.2; omega
  ·have := hv.chl; omega
 rw [hb]
 have hinv0 : z9q x [beg x] (JI ([] : List (za × Int)) (yf (beg x)) 0) := z2r (L := []) (z7y hv) (fun c hc => rfl) rfl
 have hl : Ret (loop (fun s => w8 x s.1 s.2.1 s.2.2.1 s.2.2.2.1 s.2.2.2.2) (0, ([yf (beg x)] : List za), (JI ([] : List (za × Int)) (yf (beg x)) 0), ([] : List (List z7)), 0))
   (fun r => (∃ n, r = .inl (0, (jB x n).1.map yf, (jB x n).2) ∧ (jB x n).1.length ≤ n ∧ (jB x n).1.length ≤ 1024 ∧ ∀ m, m < n → m < (jB x m).1.length) ∨ (∃ n, r = .inr ([], [], 3) ∧ 1024 < (jB x n).1.length ∧ ∀ m, m < n → m < (jB x m).1.length)) := by
  refine X3 (fun s => ∃ (n : Nat) (m : List (za × Int)), s = (0, (jB x n).1.map yf, m, (jB x n).2, (n : Int)) ∧ z9q x (jB x n).1 m ∧ n ≤ 1024 ∧ (jB x n).2.length ≤ n ∧ (jB x n).1.length ≤ 1024 ∧ ∀ m, m < n → m < (jB x m).1.length) (fun s => 1024 - s.2.2.2.2.toNat) ⟨0, _, rfl, hinv0, by omega, Nat.le_refl _, by show 1 ≤ 1024; omega, fun m hm => by omega⟩ (by show 1024 - 0 < _; omega) ?_
  rintro s ⟨n, m, rfl, hinv, hn, hs, hlen, hm⟩
  dsimp only
  unfold w8
  obtain ⟨hok, h1⟩ := z4z hv n
  rw [List.length_map]
  by_cases q : n < (jB x n).1.length
  ·have hc : (jB x n).1[n]? = some (jB x n).1[n] := List.getElem?_eq_getElem q
   have hco := hok _ (List.mem_of_getElem? hc)
   have hg : jB x (n + 1) = (((mvs x (jB x n).1[n]).foldl k7 ((jB x n).1, [])).1, (jB x n).2 ++ [((mvs x (jB x n).1[n]).foldl k7 ((jB x n).1, [])).2]) := by
    rw [jB, z20, hc]
   generalize (jB x n).1[n] = c at *
   have hml := z1S (c := c) hv
   have hlt : ∀ m, m < n + 1 → m < (jB x m).1.length := by
    intro m hm'
    rcases Nat.lt_or_ge m n with q3 | q3
    ·exact hm m q3
    ·have : m = n := by omega
     subst this
     exact q
   rw [decide_eq_true (by omega), cond_true, xu (l := (jB x n).1.map yf) (i := n) (x := yf c) (by rw [List.getElem?_map, hc]; rfl), oB]
   unfold xr
   rw [oB]
   dsimp only
   rw [KX hco]
   rcases zcI 0 (mvs x c) (jB x n).1 m [] (fun e he => z4g hco he) hinv hlen (by rw [List.length_nil]; omega) with ⟨h2, m', h3, h4⟩ | ⟨h2, r, h4⟩
   ·rw [h4]
    show Ret (w9 (jB x n).2 (n : Int) 0 (((mvs x c).foldl k7 ((jB x n).1, [])).1.map yf) m' ((mvs x c).foldl k7 ((jB x n).1, [])).2) _
    unfold w9 wX
    rw [z6J, oB, gdT (by rw [List.length_singleton]; omega), qe (by omega) (by omega)]
    refine wi.2 ⟨⟨n + 1, m', by rw [hg]; rfl, by rw [hg]; exact h3, by omega, by rw [hg]; dsimp only; rw [List.length_append, List.length_singleton]; omega, by rw [hg]; exact h2, hlt⟩, ?_⟩
    show 1024 - ((n : Int) + 1).toNat < 1024 - (n : Int).toNat
    omega
   ·rw [h4]
    refine wi.2 (.inr ⟨n + 1, rfl, by rw [hg]; exact h2, hlt⟩)
  ·rw [decide_eq_false (by omega), cond_false]
   exact wi.2 (.inl ⟨n, rfl, by omega, hlen, hm⟩)
 obtain ⟨r, e, h⟩ := hl
 rw [bdT e]
 rcases h with ⟨n, rfl, h1, h2, h3⟩ | ⟨n, rfl, h1, h2⟩
 ·exact .inl ⟨n, rfl, h1, h2, h3⟩
 ·exact .inr ⟨n, rfl, h1, h2⟩
end
def z1g : List z8 → List (zc × z8) → List z8
 | L, [] => L
 | L, e :: es => z1g (if fnd L e.2 = L.length then L ++ [e.2] else L) es
def JV : List z8 → List (zc × z8) → List z7
 | L, [] => []
 | L, e :: es => ⟨e.1, (fnd L e.2 : Nat)⟩ :: JV (if fnd L e.2 = L.length then L ++ [e.2] else L) es
theorem Qr : ∀ (es : List (zc × z8)) (L : List z8) (l : List z7), es.foldl k7 (L, l) = (z1g L es, l ++ JV L es)
 | [], L, l => by simp [z1g, JV]
 | e :: es, L, l => by
  rw [List.foldl_cons, k7, Qr es, z1g, JV, List.append_assoc]
  rfl
section
variable {x : z6}
theorem z1c {n : Nat} {c : z8} (hc : (jB x n).1[n]? = some c) : jB x (n + 1) = (z1g (jB x n).1 (mvs x c), (jB x n).2 ++ [JV (jB x n).1 (mvs x c)]) := by
 rw [jB, z20, hc]
 dsimp only
 rw [Qr, List.nil_append]
theorem Km (n : Nat) : (jB x n).1.length ≤ (jB x (n + 1)).1.length := by
 rw [jB, z20]
 split
 ·exact Nat.le_refl _
 ·rename_i c hc
  exact (Jq (mvs x c) ((jB x n).1, [])).2.2
theorem z1d : ∀ n, (∀ m, m < n → m < (jB x m).1.length) → (jB x n).2.length = n
 | 0, _ => rfl
 | n + 1, h => by
  have hn := h n (by omega)
  rw [z1c (List.getElem?_eq_getElem hn), List.length_append, z1d n (fun m hm => h m (by omega))]
  rfl
end
theorem z1f : ∀ (es : List (zc × z8)) (L : List z8), (JV L es).length = es.length
 | [], _ => rfl
 | e :: es, L => by rw [JV, List.length_cons, List.length_cons, z1f es]
theorem Ur {x : z6} (hv : z3l x) : ∀ n, ∀ u ∈ (jB x n).2, u.length ≤ 1048576
 | 0, u, h => by simp [jB] at h
 | n + 1, u, h => by
  rw [jB, z20] at h
  split at h
  ·exact Ur hv n u h
  ·rename_i c hc
   rcases List.mem_append.1 h with h | h
   ·exact Ur hv n u h
   ·rw [List.mem_singleton.1 h, Qr, List.nil_append]
    dsimp only
    rw [z1f]
    exact z1S hv
theorem zaL {α : Type} {l : List α} {a b : α} {j : Nat} (h : l[j]? = some b) : (l ++ [a])[j]? = some b := by
 rw [List.getElem?_append_left (yp h)]; exact h
theorem z97 {α : Type} {l : List α} {a : α} : (l ++ [a])[l.length]? = some a := by
 rw [List.getElem?_append_right (Nat.le_refl _), Nat.sub_self]; rfl
def jf (bad : Nat → Bool) : Nat → Nat → Option Nat
 | 0, _ => none
 | n + 1, i => bif bad i then some i else jf bad n (i + 1)
theorem Ju {bad : Nat → Bool} {j : Nat} : ∀ {n i : Nat}, jf bad n i = some j → i ≤ j ∧ j < i + n ∧ bad j = true
 | 0, i, h => by cases h
 | n + 1, i, h => by
  rw [jf] at h
  cases hb : bad i with
  | true => rw [hb, cond_true] at h; cases h; exact ⟨Nat.le_refl _, by omega, hb⟩
  | false =>
   rw [hb, cond_false] at h
   obtain ⟨h1, h2, h3⟩ := Ju h
   exact ⟨by omega, by omega, h3⟩
theorem kp {ρ : Type} (n : Nat) (hn : n < 4611686018427387904) (bad : Nat → Bool) (r : Nat → ρ) {step : Int → Option (LR Int (Unit ⊕ ρ))} (h : ∀ i : Nat, i < n → step (i : Int) = some (bif bad i then .done (.inr (r i)) else .next (w64 ((i : Int) + 1)))) (h2 : step (n : Int) = some (.done (.inl ()))) :
  loop step 0 = some (oS ((jf bad n 0).map r)) := by
 have gen : ∀ (f k : Nat), k ≤ n → n - k < f → Wv step f (k : Int) = some (oS ((jf bad (n - k) k).map r)) := by
  intro f
  induction f with
  | zero => intro k _ h; omega
  | succ f ih =>
   intro k hk hf
   rw [Zn]
   rcases Nat.lt_or_ge k n with q | q
   ·rw [h k q, show n - k = (n - (k + 1)) + 1 by omega, jf]
    cases bad k with
    | true => rfl
    | false =>
     dsimp only [cond_false]
     rw [qe (by omega) (by omega)]
     exact ih (k + 1) q (by omega)
   ·have : k = n := by omega
    subst this
    rw [h2, Nat.sub_self]
    rfl
 exact gen fuel 0 (Nat.zero_le _) (by show n - 0 < 18446744073709551616; omega)
theorem Jj {ρ : Type} (n : Nat) (bad : Nat → Bool) (r : Nat → ρ) (hn : n < 4611686018427387904 ∨ ∃ j, j < 4611686018427387904 ∧ j < n ∧ bad j = true) {step : Int → Option (LR Int (Unit ⊕ ρ))} (h : ∀ i : Nat, i < n → i < 4611686018427387904 → step (i : Int) = some (bif bad i then .done (.inr (r i)) else .next (w64 ((i : Int) + 1)))) (h2 : n < 4611686018427387904 → step (n : Int) = some (.done (.inl ()))) :
  loop step 0 = some (oS ((jf bad n 0).map r)) := by
 rcases hn with hn | ⟨j, hj, hjn, hbj⟩
 ·exact kp n hn bad r (fun i hi => h i hi (by omega)) (h2 hn)
 ·have gen : ∀ (f k : Nat), k ≤ j → j - k < f → Wv step f (k : Int) = some (oS ((jf bad (n - k) k).map r)) := by
   intro f
   induction f with
   | zero => intro k _ h; omega
   | succ f ih =>
    intro k hk hf
    rw [Zn, h k (by omega) (by omega), show n - k = (n - (k + 1)) + 1 by omega, jf]
    cases hbk : bad k with
    | true => rfl
    | false =>
     dsimp only [cond_false]
     rw [qe (by omega) (by omega)]
     have : k ≠ j := fun e => by rw [e, hbj] at hbk; cases hbk
     exact ih (k + 1) (by omega) (by omega)
  exact gen fuel 0 (Nat.zero_le _) (by show j - 0 < 18446744073709551616; omega)
def z0j (l : List Int) (many : Int) (i : Nat) : Bool := match l[i]? with
 | none => false
 | some v => !decide (InR v many) || (decide (0 < i) && match l[i - 1]? with | some u => decide (v ≤ u) | none => false)
def z2z (l : List Int) (many : Int) : Bool := (jf (z0j l many) l.length 0).isNone
theorem kr {bad : Nat → Bool} : ∀ {n i : Nat}, jf bad n i = none → ∀ j, i ≤ j → j < i + n → bad j = false
 | 0, i, _, j, h1, h2 => by omega
 | n + 1, i, h, j, h1, h2 => by
  rw [jf] at h
  cases hb : bad i with
  | true => rw [hb] at h; cases h
  | false =>
   rw [hb, cond_false] at h
   rcases Nat.lt_or_ge i j with q | q
   ·exact kr h j q (by omega)
   ·rw [show j = i by omega]; exact hb
theorem z2y {l : List Int} {many : Int} (h : z2z l many = true) : Ris l many := by
 unfold z2z at h
 have hn := Option.isNone_iff_eq_none.1 h
 intro i v hv
 have hb := kr hn i (Nat.zero_le _) (by have := yp hv; omega)
 unfold z0j at hb
 rw [hv] at hb
 simp only [Bool.or_eq_false_iff, Bool.not_eq_false', decide_eq_true_eq] at hb
 refine ⟨hb.1, fun hi => ?_⟩
 have hl := yp hv
 have hu : l[i - 1]? = some (l[i - 1]'(by omega)) := List.getElem?_eq_getElem _
 have h2 := hb.2
 rw [hu] at h2
 simp only [decide_eq_true hi, Bool.true_and, decide_eq_false_iff_not] at h2
 exact ⟨_, hu, by omega⟩
theorem z3S {l : List Int} {many : Int} (h : ∀ j, j < l.length → z0j l many j = false) : ∀ (i : Nat) (v : Int), l[i]? = some v → (i : Int) ≤ v ∧ v < many
 | 0, v, hv => by
  have hb := h 0 (yp hv)
  unfold z0j at hb
  rw [hv] at hb
  simp only [Bool.or_eq_false_iff, Bool.not_eq_false', decide_eq_true_eq] at hb
  exact ⟨hb.1.1, hb.1.2⟩
 | i + 1, v, hv => by
  have hl := yp hv
  have hb := h (i + 1) hl
  unfold z0j at hb
  rw [hv] at hb
  have hu : l[i]? = some (l[i]'(by omega)) := List.getElem?_eq_getElem _
  simp only [Bool.or_eq_false_iff, Bool.not_eq_false', decide_eq_true_eq, Nat.add_sub_cancel, hu, Nat.succ_pos, decide_true, Bool.true_and, decide_eq_false_iff_not] at hb
  have := (z3S h i _ hu).1
  exact ⟨by omega, hb.1.2⟩
theorem z3T {l : List Int} {many : Int} (hm : many ≤ 64) : l.length < 4611686018427387904 ∨ ∃ j, j < 4611686018427387904 ∧ j < l.length ∧ z0j l many j = true := by
 rcases Nat.lt_or_ge l.length 4611686018427387904 with q | q
 ·exact .inl q
 ·refine .inr ?_
  have hex : ∃ j, j < 65 ∧ z0j l many j = true := by
   by_cases hc : ∃ j, j < 65 ∧ z0j l many j = true
   ·exact hc
   ·exfalso
    have hall : ∀ j, j < 65 → z0j l many j = false := fun j hj => by
     cases hb : z0j l many j with
     | false => rfl
     | true => exact absurd ⟨j, hj, hb⟩ hc
    have h2 : ∀ j, j < (l.take 65).length → z0j (l.take 65) many j = false := by
     intro j hj
     rw [List.length_take] at hj
     have := hall j (by omega)
     unfold z0j at this ⊢
     rw [List.getElem?_take_of_lt (by omega), List.getElem?_take_of_lt (by omega)]
     exact this
    have hv : (l.take 65)[64]? = some (l[64]'(by omega)) := by
     rw [List.getElem?_take_of_lt (by omega)]
     exact List.getElem?_eq_getElem _
    have := z3S h2 64 _ hv
    omega
  obtain ⟨j, h1, h2⟩ := hex
  exact ⟨j, by omega, by omega, h2⟩
theorem z67 {l : List Int} {many : Int} (hm : many ≤ 64) (h : z2z l many = true) : l.length ≤ 64 := by
 have hn := Option.isNone_iff_eq_none.1 h
 rcases Nat.lt_or_ge 64 l.length with q | q
 ·have hv : l[64]? = some l[64] := List.getElem?_eq_getElem q
  have := z3S (fun j hj => kr hn j (Nat.zero_le _) (by omega)) 64 _ hv
  omega
 ·exact q
theorem Wf {l : List Int} {many : Int} (hm : l.length < 4611686018427387904 ∨ many ≤ 64) : v6 l many = some (z2z l many) := by
 unfold v6
 rw [bdT (Jj l.length (z0j l many) (fun _ => false) (hm.elim .inl z3T) ?_ ?_)]
 ·unfold z2z
  cases jf (z0j l many) l.length 0 <;> rfl
 ·intro i hi hb
  have hv : l[i]? = some l[i] := List.getElem?_eq_getElem hi
  generalize l[i] = v at hv
  unfold wr u7 z0j
  rw [decide_eq_true (by omega), cond_true, xu hv, oB, JU, oB, hv]
  dsimp only
  cases decide (InR v many) with
  | false => rfl
  | true =>
   rw [Bool.not_true, cond_false, Bool.false_or]
   by_cases q : 0 < i
   ·have hu : l[i - 1]? = some (l[i - 1]'(by omega)) := List.getElem?_eq_getElem _
    generalize l[i - 1]'(by omega) = u at hu
    rw [decide_eq_true (show (i : Int) > 0 by omega), cond_true, qe (x := (i : Int) - 1) (by omega) (by omega), show (i : Int) - 1 = ((i - 1 : Nat) : Int) by omega, xu hu, oB, hu, decide_eq_true q, Bool.true_and]
    dsimp only
    cases decide (v ≤ u) <;> rfl
   ·rw [decide_eq_false (by omega), cond_false, decide_eq_false q, Bool.false_and]
    rfl
 ·intro hl
  unfold wr
  rw [decide_eq_false (by omega), cond_false]
theorem UT (n m : Int) : jm n m = some (bif decide (InR n m) then 1 else 0) := by
 unfold jm Zy
 by_cases h : n ≥ 0
 ·rw [decide_eq_true h, cond_true]
  by_cases h2 : n < m
  ·rw [decide_eq_true h2, cond_true, decide_eq_true (show InR n m from ⟨h, h2⟩)]; rfl
  ·rw [decide_eq_false h2, cond_false, decide_eq_false (fun q : InR n m => h2 q.2)]; rfl
 ·rw [decide_eq_false h, cond_false, decide_eq_false (fun q : InR n m => h q.1)]; rfl
theorem Kb {l : List Int} {many : Int} (hm : l.length < 4611686018427387904 ∨ many ≤ 64) : jA l many = some (bif z2z l many then 1 else 0) := by
 unfold jA
 rw [bdT (Jj l.length (z0j l many) (fun _ => (0 : Int)) (hm.elim .inl z3T) ?_ ?_)]
 ·unfold z2z
  cases jf (z0j l many) l.length 0 <;> rfl
 ·intro i hi hb
  have hv : l[i]? = some l[i] := List.getElem?_eq_getElem hi
  generalize l[i] = v at hv
  unfold qG qH z0j
  rw [decide_eq_true (by omega), cond_true, xu hv, oB, UT, oB, hv]
  dsimp only
  cases decide (InR v many) with
  | false => rfl
  | true =>
   rw [cond_true, show ((1 : Int) == 0) = false from rfl, cond_false, Bool.not_true, Bool.false_or]
   by_cases q : 0 < i
   ·have hu : l[i - 1]? = some (l[i - 1]'(by omega)) := List.getElem?_eq_getElem _
    generalize l[i - 1]'(by omega) = u at hu
    rw [decide_eq_true (show (i : Int) > 0 by omega), cond_true, oB, qe (x := (i : Int) - 1) (by omega) (by omega), show (i : Int) - 1 = ((i - 1 : Nat) : Int) by omega, xu hu, oB, hu, decide_eq_true q, Bool.true_and]
    dsimp only
    cases decide (v ≤ u) <;> rfl
   ·rw [decide_eq_false (by omega), cond_false, decide_eq_false q, Bool.false_and]
    rfl
 ·intro hl
  unfold qG
  rw [decide_eq_false (by omega), cond_false]
def z5k (p : zk) : Bool := decide (p.States > 64) || decide ((p.Arcs.length : Int) > 256)
def kl (x : z6) : Bool :=
 decide (x.Messages > 16) || (decide (x.Labels > 16) || (decide ((x.Channels.length : Int) > 4) || (decide ((x.Parts.length : Int) > 4) || (x.Channels.any (fun n => decide (n > 4)) || x.Parts.any z5k))))
def WQ (x : z6) (p : zk) : Bool := !decide (p.States < 1) && (z2z p.Final p.States && p.Arcs.all (Zx x p.States))
def K5 (x : z6) : Bool :=
 !decide (x.Messages < 0) && (!decide (x.Labels < 0) && (!decide ((x.Parts.length : Int) < 1) && (!x.Channels.any (fun n => decide (n < 0)) && x.Parts.all (WQ x))))
def chk (x : z6) : Int := bif kl x then 3 else bif K5 x then 0 else 1
theorem z2f {α : Type} (l : List α) (p : α → Bool) : (l.any fun a => !p a) = !l.all p := by
 induction l with
 | nil => rfl
 | cons a l ih => rw [List.any_cons, List.all_cons, ih]; cases p a <;> rfl
theorem z73 (x : z6) (hc : x.Channels.length ≤ 6) (hp : x.Parts.length ≤ 6) : uu x = some (kl x) := by
 unfold uu kl
 rw [z7w _ (by omega), zaB _ (by omega)]
 show (bif _ then _ else bif _ then _ else bif _ then _ else bif _ then _ else Option.bind (some _) fun r_ => bif r_ then _ else Option.bind (some (x.Parts.any z5k)) _) = _
 cases decide (x.Messages > 16) <;> cases decide (x.Labels > 16) <;> cases decide ((x.Channels.length : Int) > 4) <;> cases decide ((x.Parts.length : Int) > 4) <;> cases x.Channels.any (fun n => decide (n > 4)) <;> cases x.Parts.any z5k <;> rfl
theorem KI {x : z6} (h : kl x = false) : x.Messages ≤ 16 ∧ x.Labels ≤ 16 ∧ x.Channels.length ≤ 4 ∧ x.Parts.length ≤ 4 ∧ (∀ n ∈ x.Channels, n ≤ 4) ∧ ∀ p ∈ x.Parts, p.States ≤ 64 ∧ p.Arcs.length ≤ 256 := by
 unfold kl z5k at h
 simp only [Bool.or_eq_false_iff, decide_eq_false_iff_not, List.any_eq_false, Bool.or_eq_true, decide_eq_true_eq, not_or] at h
 obtain ⟨h1, h2, h3, h4, h5, h6⟩ := h
 exact ⟨by omega, by omega, by omega, by omega, fun n hn => by have := h5 n hn; omega, fun p hp => by have := h6 p hp; omega⟩
theorem z3K (x : z6) (hc : x.Channels.length ≤ 6) (hp : x.Parts.length ≤ 6) : wa x = some (chk x) := by
 unfold wa chk
 rw [z73 x hc hp, oB]
 cases ha : kl x with
 | true => rfl
 | false =>
  obtain ⟨_, _, _, _, _, hsm⟩ := KI ha
  rw [cond_false, cond_false, z7v _ (by omega)]
  unfold K5
  cases decide (x.Messages < 0) with
  | true => rfl
  | false =>
   cases decide (x.Labels < 0) with
   | true => rfl
   | false =>
    cases decide ((x.Parts.length : Int) < 1) with
    | true => rfl
    | false =>
     cases x.Channels.any (fun n => decide (n < 0)) with
     | true => rfl
     | false =>
      show (Option.bind (loop (fun s => wh x s) 0) _) = some (bif x.Parts.all (WQ x) then 0 else 1)
      rw [bdT (kp x.Parts.length (by omega) (fun i => match x.Parts[i]? with | some p => !WQ x p | none => false) (fun _ => (1 : Int)) ?_ ?_)]
      ·cases hf : jf (fun i => match x.Parts[i]? with | some p => !WQ x p | none => false) x.Parts.length 0 with
       | none =>
        have : x.Parts.all (WQ x) = true := List.all_eq_true.2 fun p hp' => by
         obtain ⟨i, hi⟩ := List.mem_iff_getElem?.1 hp'
         have := kr hf i (Nat.zero_le _) (by have := yp hi; omega)
         rw [hi] at this
         simpa using this
        rw [this]
        rfl
       | some j =>
        obtain ⟨_, h2, h3⟩ := Ju hf
        have hj : x.Parts[j]? = some (x.Parts[j]'(by omega)) := List.getElem?_eq_getElem _
        rw [hj] at h3
        have : x.Parts.all (WQ x) = false := List.all_eq_false.2 ⟨_, List.mem_of_getElem? hj, by simpa using h3⟩
        rw [this]
        rfl
      ·intro i hi
       have hP : x.Parts[i]? = some x.Parts[i] := List.getElem?_eq_getElem hi
       generalize x.Parts[i] = p at hP
       obtain ⟨s1, s2⟩ := hsm p (List.mem_of_getElem? hP)
       unfold wh WQ
       rw [decide_eq_true (by omega), cond_true, xu hP, oB, Wf (.inr s1), zaC _ _ _ (by omega), z2f, hP]
       dsimp only
       cases decide (p.States < 1) <;> cases z2z p.Final p.States <;> cases p.Arcs.all (Zx x p.States) <;> rfl
      ·unfold wh
       rw [decide_eq_false (by omega), cond_false]
theorem Jr {α ρ : Type} {p : α → Bool} {g : Nat → α → Int → Option (LR Int ρ)} : ∀ {l : List α} {k : Nat} {w : Int}, (∀ (i : Nat) (a : α) (w : Int), l[i]? = some a → g (k + i) a w = some (.next (bif p a then 1 else w))) → Qc g l k w = some (.next (bif l.any p then 1 else w))
 | [], k, w, _ => rfl
 | a :: l, k, w, h => by
  rw [Qc, show g k a w = _ from h 0 a w rfl, oB]
  show Qc g l (k + 1) _ = _
  rw [Jr (p := p) (l := l) (k := k + 1) (fun i b w' hb => by
   have := h (i + 1) b w' (by simpa using hb)
   rw [show k + (i + 1) = k + 1 + i by omega] at this
   exact this), List.any_cons]
  cases p a <;> cases l.any p <;> rfl
theorem z3V (x : z6) (hc : x.Channels.length ≤ 6) (hp : x.Parts.length ≤ 6) : ZB x = some (chk x) := by
 have j3 : ∀ w, kl x = false → (w = 0 ∨ w = 1) → v7 x w = some (bif x.Parts.all (WQ x) && decide (w = 0) then 0 else 1) := by
  intro w ha hw
  obtain ⟨_, _, _, _, _, hsm⟩ := KI ha
  unfold v7
  rw [Zm x.Parts (by omega) (ρ := Int) (fun i p w => some (.next (bif !WQ x p then 1 else w))) z1U w ?_ ?_]
  ·rw [Jr (p := fun p => !WQ x p) (fun _ _ _ _ => rfl), z2f]
   unfold ky
   rcases hw with rfl | rfl <;> cases x.Parts.all (WQ x) <;> rfl
  ·intro i p w' hP
   have hi := yp hP
   obtain ⟨s1, s2⟩ := hsm p (List.mem_of_getElem? hP)
   have j7 : ∀ w'', vR x (i : Int) p w'' = some (.next (bif !p.Arcs.all (Zx x p.States) then 1 else w'', w64 ((i : Int) + 1))) := by
    intro w''
    unfold vR kx
    rw [Zm p.Arcs (by omega) (ρ := Int) (fun k a w => some (.next (bif !Zx x p.States a then 1 else w))) z1U w'' ?_ ?_]
    ·rw [Jr (p := fun a => !Zx x p.States a) (fun _ _ _ _ => rfl), z2f]
     rfl
    ·intro k a w3 hk
     have hkl := yp hk
     unfold j8
     dsimp only
     rw [decide_eq_true (by omega), cond_true, xu hk, oB, UT, oB, UT, oB, UT]
     have j10 : ∀ b : Bool, vb p w3 (k : Int) a (bif b then 1 else 0) = some (.next (bif !(decide (InR a.From p.States) && decide (InR a.To p.States) && decide (a.Kind ≤ 2) && b) then 1 else w3, w64 ((k : Int) + 1))) := by
      intro b
      unfold vb uV
      rw [UT, UT]
      have hk : decide (a.Kind ≤ 2) = !decide (a.Kind > 2) := by
       by_cases h : a.Kind ≤ 2
       ·rw [decide_eq_true h, decide_eq_false (by omega)]; rfl
       ·rw [decide_eq_false h, decide_eq_true (by omega)]; rfl
      rw [hk]
      cases decide (InR a.From p.States) <;> cases decide (InR a.To p.States) <;> cases decide (a.Kind > 2) <;> cases b <;> rfl
     unfold Zx
     by_cases q : a.Kind = 0
     ·rw [show (a.Kind == 0) = true from beq_iff_eq.2 q, cond_true, cond_true, oB]
      by_cases q2 : a.Channel = 0
      ·rw [q2, bne_self_eq_false, cond_false, j10]; rfl
      ·rw [show (a.Channel != 0) = true from bne_iff_ne.2 q2, cond_true, beq_false_of_ne q2, Bool.false_and]
       have := j10 false
       rw [cond_false] at this
       rw [this]; rfl
     ·rw [beq_false_of_ne q, cond_false, cond_false]
      have := j10 (decide (InR a.Channel x.Channels.length) && decide (InR a.Message x.Messages))
      rw [show w64 ((bif decide (InR a.Channel x.Channels.length) then (1 : Int) else 0) * (bif decide (InR a.Message x.Messages) then (1 : Int) else 0)) = (bif decide (InR a.Channel x.Channels.length) && decide (InR a.Message x.Messages) then 1 else 0) by
       cases decide (InR a.Channel x.Channels.length) <;> cases decide (InR a.Message x.Messages) <;> rfl, this]
      rfl
    ·intro w3
     unfold j8
     dsimp only
     rw [decide_eq_false (by omega), cond_false]
     rfl
   unfold j9 WQ
   dsimp only
   rw [decide_eq_true (by omega), cond_true, xu hP, oB, j7, j7, Kb (.inr s1), oB]
   cases decide (p.States < 1) <;> cases z2z p.Final p.States <;> cases p.Arcs.all (Zx x p.States) <;> rfl
  ·intro w'
   unfold j9
   dsimp only
   rw [decide_eq_false (by omega), cond_false]
   rfl
 unfold ZB chk
 by_cases m1 : x.Messages > 16
 ·rw [decide_eq_true m1, cond_true, show kl x = true by unfold kl; rw [decide_eq_true m1]; rfl]; rfl
 ·by_cases m2 : x.Labels > 16
  ·rw [decide_eq_false m1, cond_false, decide_eq_true m2, cond_true, show kl x = true by unfold kl; rw [decide_eq_true m2]; simp]; rfl
  ·by_cases m3 : (x.Channels.length : Int) > 4
   ·rw [decide_eq_false m1, cond_false, decide_eq_false m2, cond_false, decide_eq_true m3, cond_true, show kl x = true by unfold kl; rw [decide_eq_true m3]; simp]; rfl
   ·by_cases m4 : (x.Parts.length : Int) > 4
    ·rw [decide_eq_false m1, cond_false, decide_eq_false m2, cond_false, decide_eq_false m3, cond_false, decide_eq_true m4, cond_true, show kl x = true by unfold kl; rw [decide_eq_true m4]; simp]; rfl
    ·rw [decide_eq_false m1, cond_false, decide_eq_false m2, cond_false, decide_eq_false m3, cond_false, decide_eq_false m4, cond_false]
     have hch : ∀ (l : List Int) (k : Nat) (w : Int), Qc (fun (_ : Nat) n w => some (bif decide (n > 4) then LR.done (3 : Int) else .next (bif decide (n < 0) then 1 else w))) l k w = some (bif l.any (fun n => decide (n > 4)) then .done 3 else .next (bif l.any (fun n => decide (n < 0)) then 1 else w)) := by
      intro l
      induction l with
      | nil => intro k w; rfl
      | cons n l ih =>
       intro k w
       rw [Qc, oB, List.any_cons, List.any_cons]
       by_cases h1 : n > 4
       ·rw [decide_eq_true h1]; rfl
       ·rw [decide_eq_false h1, cond_false, Bool.false_or]
        show Qc _ l (k + 1) _ = _
        rw [ih]
        cases decide (n < 0) <;> cases l.any (fun n => decide (n < 0)) <;> rfl
     rw [Zm x.Channels (by omega) (ρ := Int) (fun _ n w => some (bif decide (n > 4) then .done (3 : Int) else .next (bif decide (n < 0) then 1 else w))) (fun r => match r with | .next w => Sum.inl w | .done r => Sum.inr r) 0 ?_ ?_]
     ·rw [hch]
      have hab : kl x = (x.Channels.any (fun n => decide (n > 4)) || x.Parts.any z5k) := by
       unfold kl
       rw [decide_eq_false m1, decide_eq_false m2, decide_eq_false m3, decide_eq_false m4]
       rfl
      cases h1 : x.Channels.any (fun n => decide (n > 4)) with
      | true => rw [hab, h1]; rfl
      | false =>
       rw [h1, Bool.false_or] at hab
       show jb x (bif x.Channels.any (fun n => decide (n < 0)) then 1 else 0) = _
       unfold jb
       rw [bdT (XY x.Parts (by omega) (fun _ p => bif z5k p then some (3 : Int) else none) ?_ ?_)]
       ·cases hf : Yb (fun (_ : Nat) p => bif z5k p then some (3 : Int) else none) x.Parts 0 with
        | some r =>
         obtain ⟨i, p, h2, h3⟩ := Xb hf
         cases hb : z5k p with
         | false => rw [hb] at h3; cases h3
         | true =>
          rw [hb] at h3
          cases h3
          rw [hab, List.any_eq_true.2 ⟨p, List.mem_of_getElem? h2, hb⟩]
          rfl
        | none =>
         have hno : x.Parts.any z5k = false := List.any_eq_false.2 fun p hp' => by
          obtain ⟨i, hi⟩ := List.mem_iff_getElem?.1 hp'
          have := Xc hf i p hi
          intro q
          rw [q] at this
          cases this
         rw [hno] at hab
         rw [hab]
         show ja x _ = some (bif K5 x then 0 else 1)
         unfold ja K5
         rw [j3 1 hab (.inr rfl)]
         have hpe : ((x.Parts.length : Int) == 0) = decide ((x.Parts.length : Int) < 1) := by
          by_cases h : (x.Parts.length : Int) < 1
          ·rw [decide_eq_true h, beq_iff_eq.2 (by omega)]
          ·rw [decide_eq_false h, beq_false_of_ne (by omega)]
         rw [hpe]
         cases h5 : x.Channels.any (fun n => decide (n < 0)) with
         | true =>
          rw [cond_true, j3 1 hab (.inr rfl)]
          cases decide (x.Messages < 0) <;> cases decide (x.Labels < 0) <;> cases decide ((x.Parts.length : Int) < 1) <;> cases x.Parts.all (WQ x) <;> rfl
         | false =>
          rw [cond_false, j3 0 hab (.inl rfl)]
          cases decide (x.Messages < 0) <;> cases decide (x.Labels < 0) <;> cases decide ((x.Parts.length : Int) < 1) <;> cases x.Parts.all (WQ x) <;> rfl
       ·intro i p hP
        have hi := yp hP
        unfold qN z5k
        rw [decide_eq_true (by omega), cond_true, xu hP, oB, oB]
        cases decide (p.States > 64) <;> cases decide ((p.Arcs.length : Int) > 256) <;> rfl
       ·unfold qN
        rw [decide_eq_false (by omega), cond_false]
     ·intro i n w hn
      have hi := yp hn
      unfold qM qO
      dsimp only
      rw [decide_eq_true (by omega), cond_true, xu hn, oB, oB]
      cases decide (n > 4) <;> cases decide (n < 0) <;> rfl
     ·intro w
      unfold qM
      dsimp only
      rw [decide_eq_false (by omega), cond_false]
theorem z8T {x : z6} (hk : ∀ p ∈ x.Parts, ∀ a ∈ p.Arcs, 0 ≤ a.Kind) (h : chk x = 0) : z3l x := by
 unfold chk at h
 cases ha : kl x with
 | true => rw [ha] at h; cases h
 | false =>
  rw [ha, cond_false] at h
  cases hv : K5 x with
  | false => rw [hv] at h; cases h
  | true =>
   obtain ⟨h1, h2, h3, h4, h5, h6⟩ := KI ha
   unfold K5 at hv
   simp only [Bool.and_eq_true, Bool.not_eq_true', decide_eq_false_iff_not, List.any_eq_false, decide_eq_true_eq, List.all_eq_true] at hv
   obtain ⟨v1, v2, v3, v4, v5⟩ := hv
   refine ⟨by omega, by omega, h3, fun n hn => ⟨by have := v4 n hn; omega, h5 n hn⟩, by omega, fun p hp => ?_⟩
   have := v5 p hp
   unfold WQ at this
   simp only [Bool.and_eq_true, Bool.not_eq_true', decide_eq_false_iff_not, List.all_eq_true] at this
   obtain ⟨w1, w2, w3⟩ := this
   obtain ⟨s1, s2⟩ := h6 p hp
   exact ⟨by omega, s1, s2, z2y w2, z67 s1 w2, fun a ha' => (Kc (hk p hp a ha')).1 (w3 a ha')⟩
def z7g (x : z6) (c : z8) (i : Nat) : Bool := match x.Parts[i]?, c.States[i]? with
 | some p, some v => !decide (InR v p.States)
 | _, _ => false
def z7h (x : z6) (c : z8) (i : Nat) : Bool := match c.Queues[i]?, x.Channels[i]? with
 | some q, some n => decide ((q.length : Int) > n) || q.any (fun m => !decide (InR m x.Messages))
 | _, _ => false
def z8V (x : z6) (c : z8) : Bool :=
 decide (c.States.length = x.Parts.length) && (decide (c.Queues.length = x.Channels.length) && ((jf (z7g x c) x.Parts.length 0).isNone && (jf (z7h x c) x.Channels.length 0).isNone))
theorem z8U {x : z6} {c : z8} (h : z8V x c = true) : z9a x c := by
 unfold z8V at h
 simp only [Bool.and_eq_true, decide_eq_true_eq, Option.isNone_iff_eq_none] at h
 obtain ⟨h1, h2, h3, h4⟩ := h
 refine ⟨h1, h2, fun i p v hp hv => ?_, fun i q n hq hn => ?_⟩
 ·have hb := kr h3 i (Nat.zero_le _) (by have := yp hp; omega)
  unfold z7g at hb
  rw [hp, hv] at hb
  simpa using hb
 ·have hb := kr h4 i (Nat.zero_le _) (by have := yp hn; omega)
  unfold z7h at hb
  rw [hq, hn] at hb
  simp only [Bool.or_eq_false_iff, decide_eq_false_iff_not, List.any_eq_false, Bool.not_eq_true', decide_eq_false_iff_not, Decidable.not_not] at hb
  exact ⟨by omega, hb.2⟩
section
variable {x : z6}
theorem z03 (h : z3l x) (c : z8) : yk x c = some (bif z8V x c then 0 else 1) := by
 have hp := h.pl.2; have hc := h.chl
 unfold yk z8V
 rw [Vx h, oB, show ((0 : Int) != 0) = false from rfl, cond_false]
 by_cases e1 : c.States.length = x.Parts.length
 ·rw [show (((c.States.length : Nat) : Int) != ((x.Parts.length : Nat) : Int)) = false by rw [e1]; exact bne_self_eq_false _, cond_false, decide_eq_true e1, Bool.true_and]
  by_cases e2 : c.Queues.length = x.Channels.length
  ·rw [show (((c.Queues.length : Nat) : Int) != ((x.Channels.length : Nat) : Int)) = false by rw [e2]; exact bne_self_eq_false _, cond_false, decide_eq_true e2, Bool.true_and]
   rw [bdT (kp x.Parts.length (by omega) (z7g x c) (fun _ => (1 : Int)) ?_ ?_)]
   ·cases jf (z7g x c) x.Parts.length 0 with
    | some j => rfl
    | none =>
     show xx x c = some (bif true && _ then 0 else 1)
     rw [Bool.true_and]
     unfold xx
     rw [bdT (kp x.Channels.length (by omega) (z7h x c) (fun _ => (1 : Int)) ?_ ?_)]
     ·cases jf (z7h x c) x.Channels.length 0 <;> rfl
     ·intro i hi
      have a1 : c.Queues[i]? = some (c.Queues[i]'(by omega)) := List.getElem?_eq_getElem _
      have a2 : x.Channels[i]? = some x.Channels[i] := List.getElem?_eq_getElem hi
      generalize c.Queues[i]'(by omega) = q at a1
      generalize x.Channels[i] = n at a2
      have hn := h.ch n (List.mem_of_getElem? a2)
      unfold xw z7h
      rw [decide_eq_true (by omega), cond_true, xu a1, oB, xu a2, oB, a1, a2]
      dsimp only
      by_cases g : (q.length : Int) > n
      ·rw [decide_eq_true g]; rfl
      ·rw [decide_eq_false g, cond_false, z7u x q (by omega), oB, Bool.false_or]
       cases q.any (fun m => !decide (InR m x.Messages)) <;> rfl
     ·unfold xw
      rw [decide_eq_false (by omega), cond_false]
   ·intro i hi
    have a1 : x.Parts[i]? = some x.Parts[i] := List.getElem?_eq_getElem hi
    have a2 : c.States[i]? = some (c.States[i]'(by omega)) := List.getElem?_eq_getElem _
    generalize x.Parts[i] = p at a1
    generalize c.States[i]'(by omega) = v at a2
    unfold xv z7g
    rw [decide_eq_true (by omega), cond_true, xu a1, oB, xu a2, oB, JU, oB, a1, a2]
    dsimp only
    cases decide (InR v p.States) <;> rfl
   ·unfold xv
    rw [decide_eq_false (by omega), cond_false]
  ·rw [show (((c.Queues.length : Nat) : Int) != ((x.Channels.length : Nat) : Int)) = true from bne_iff_ne.2 (by omega), cond_true, decide_eq_false e2]
   rfl
 ·rw [show (((c.States.length : Nat) : Int) != ((x.Parts.length : Nat) : Int)) = true from bne_iff_ne.2 (by omega), cond_true, decide_eq_false e1]
  rfl
theorem z6d (h : z3l x) (c : z8) : kF x c = some (bif z8V x c then 1 else 0) := by
 have hp := h.pl.2; have hc := h.chl
 unfold kF z8V
 by_cases e1 : c.States.length = x.Parts.length
 ·rw [show (((c.States.length : Nat) : Int) != ((x.Parts.length : Nat) : Int)) = false by rw [e1]; exact bne_self_eq_false _, cond_false, decide_eq_true e1, Bool.true_and]
  by_cases e2 : c.Queues.length = x.Channels.length
  ·rw [show (((c.Queues.length : Nat) : Int) != ((x.Channels.length : Nat) : Int)) = false by rw [e2]; exact bne_self_eq_false _, cond_false, decide_eq_true e2, Bool.true_and]
   rw [bdT (kp x.Parts.length (by omega) (z7g x c) (fun _ => (0 : Int)) ?_ ?_)]
   ·cases jf (z7g x c) x.Parts.length 0 with
    | some j => rfl
    | none =>
     show qL x c = some (bif true && _ then 1 else 0)
     rw [Bool.true_and]
     unfold qL
     rw [bdT (kp x.Channels.length (by omega) (z7h x c) (fun _ => (0 : Int)) ?_ ?_)]
     ·cases jf (z7h x c) x.Channels.length 0 <;> rfl
     ·intro i hi
      have a1 : c.Queues[i]? = some (c.Queues[i]'(by omega)) := List.getElem?_eq_getElem _
      have a2 : x.Channels[i]? = some x.Channels[i] := List.getElem?_eq_getElem hi
      generalize c.Queues[i]'(by omega) = q at a1
      generalize x.Channels[i] = n at a2
      have hn := h.ch n (List.mem_of_getElem? a2)
      unfold qK z7h jZ
      rw [decide_eq_true (by omega), cond_true, xu a1, oB, xu a2, oB, a1, a2]
      dsimp only
      by_cases g : (q.length : Int) > n
      ·rw [decide_eq_true g]; rfl
      ·rw [decide_eq_false g, cond_false, Bool.false_or]
       rw [bdT (XY q (by omega) (fun _ m => bif decide (InR m x.Messages) then none else some (0 : Int)) ?_ ?_)]
       ·cases hf : Yb (fun (_ : Nat) m => bif decide (InR m x.Messages) then none else some (0 : Int)) q 0 with
        | none =>
         have : (q.any fun m => !decide (InR m x.Messages)) = false := List.any_eq_false.2 fun m hm => by
          obtain ⟨k, hk⟩ := List.mem_iff_getElem?.1 hm
          have := Xc hf k m hk
          cases hb : decide (InR m x.Messages) with
          | true => simp
          | false => rw [hb] at this; cases this
         rw [this]
         rfl
        | some r =>
         obtain ⟨k, m, h1, h2⟩ := Xb hf
         cases hb : decide (InR m x.Messages) with
         | true => rw [hb] at h2; cases h2
         | false =>
          rw [hb] at h2
          cases h2
          rw [List.any_eq_true.2 ⟨m, List.mem_of_getElem? h1, by rw [hb]; rfl⟩]
          rfl
       ·intro k m hk
        have hkl := yp hk
        unfold qJ
        rw [xu a1, oB, decide_eq_true (by omega), cond_true, oB, xu hk, oB, UT, oB]
        cases decide (InR m x.Messages) <;> rfl
       ·unfold qJ
        rw [xu a1, oB, decide_eq_false (by omega), cond_false]
     ·rw [← e2]
      unfold qK
      rw [decide_eq_false (by omega), cond_false]
   ·intro i hi
    have a1 : x.Parts[i]? = some x.Parts[i] := List.getElem?_eq_getElem hi
    have a2 : c.States[i]? = some (c.States[i]'(by omega)) := List.getElem?_eq_getElem _
    generalize x.Parts[i] = p at a1
    generalize c.States[i]'(by omega) = v at a2
    unfold qI z7g
    rw [decide_eq_true (by omega), cond_true, xu a2, oB, xu a1, oB, UT, oB, a1, a2]
    dsimp only
    cases decide (InR v p.States) <;> rfl
   ·rw [← e1]
    unfold qI
    rw [decide_eq_false (by omega), cond_false]
  ·rw [show (((c.Queues.length : Nat) : Int) != ((x.Channels.length : Nat) : Int)) = true from bne_iff_ne.2 (by omega), cond_true, decide_eq_false e2]
   rfl
 ·rw [show (((c.States.length : Nat) : Int) != ((x.Parts.length : Nat) : Int)) = true from bne_iff_ne.2 (by omega), cond_true, decide_eq_false e1]
  rfl
end
end Go.Own
end
