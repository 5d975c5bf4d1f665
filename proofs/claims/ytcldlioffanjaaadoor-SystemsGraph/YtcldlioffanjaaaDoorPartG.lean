/- Walks, further. -/
import Derived.Test.YtcldlioffanjaaaDoorPartF
import Derived.Test.YtcldlioffanjaaaDoorPartC
import Derived.Test.YtcldlioffanjaaaDoorPartE
import Derived.Test.YtcldlioffanjaaaDoorPartB
import Derived.OpenShut
import Derived.ChangeShapes
noncomputable section
set_option linter.unusedVariables false
set_option linter.unusedSimpArgs false
namespace Go.Own
theorem oB {α : Type _} {β : Type _} (a : α) (f : α → Option β) : Option.bind (some a) f = f a := rfl
open Go.Proofs
set_option maxRecDepth 100000
set_option maxHeartbeats 8000000
def vd : Code := (Tryd.f8.body).getD .skip
def jX : x5 := spF (α := List z7 × List (List z6) × List z7 × List (List z6)) (ρ := Int) 8 (fun x => [z1v x.1, Kz x.2.1, z4h x.2.2.1, z4r x.2.2.2]) (fun r => (eI .i64) r) (fun x => j0 x.1 x.2.1 x.2.2.1 x.2.2.2) [] (zdO)
abbrev VU : List (Nat × T) := []
abbrev VT (s_ : List (List z6)) (steps : List (List z6)) (i_ : Int) (x74 : List z6) (x75 : List z6) (x76 : Int) (x79 : List z6) (x80 : List z6) (x81 : Int) (x82 : Bool) : List (Nat × T) := [(1, .d (eSl 1 true wo s_)), (3, .d (eSl 1 false X8 steps)), (10, .d (I i_)), (72, .d (eSl 1 true wo s_)), (73, .d (I i_)), (74, .d (.sptr (eSl 5 true uR x74))), (75, .d (eSl 5 true uR x75)), (76, .d (I x76)), (77, .d (eSl 1 true wo s_)), (78, .d (I i_)), (79, .d (.sptr (eSl 5 true uR x79))), (80, .d (eSl 5 true uR x80)), (81, .d (I x81)), (82, .d (B x82))]
abbrev VR (s_ : List (List z6)) (steps : List (List z6)) (i_ : Int) (s__e1 : List z6) (s__e2 : List z6) (k_ : Int) : List (Nat × T) := [(1, .d (eSl 1 true wo s_)), (3, .d (eSl 1 false X8 steps)), (10, .d (I i_)), (11, .d (I k_)), (72, .d (eSl 1 true wo s_)), (73, .d (I i_)), (74, .d (.sptr (eSl 5 true uR s__e1))), (75, .d (eSl 5 true uR s__e1)), (76, .d (I ((s__e1.length : Nat) : Int))), (77, .d (eSl 1 true wo s_)), (78, .d (I i_)), (79, .d (.sptr (eSl 5 true uR s__e2))), (80, .d (eSl 5 true uR s__e2)), (81, .d (I ((s__e2.length : Nat) : Int))), (82, .d (B (((s__e1.length : Nat) : Int) != ((s__e2.length : Nat) : Int))))]
abbrev VS (s_ : List (List z6)) (steps : List (List z6)) (i_ : Int) : List (Nat × T) := [(1, .d (eSl 1 true wo s_)), (3, .d (eSl 1 false X8 steps)), (10, .d (I i_))]
abbrev VV (s_ : List (List z6)) (steps : List (List z6)) : List (Nat × T) := [(1, .d (eSl 1 true wo s_)), (3, .d (eSl 1 false X8 steps))]
abbrev VQ (c_ : List z7) (s_ : List (List z6)) (list : List z7) (steps : List (List z6)) (i_1 : Int) : List (Nat × T) := [(0, .d (eSl 2 true wd c_)), (1, .d (eSl 1 true wo s_)), (2, .d (eSl 2 false wd list)), (3, .d (eSl 1 false X8 steps)), (9, .d (I i_1))]
theorem JW {ctr : Ctr} (hC : zW Tryd.prog ctr) (h08 : ctr.Has jz) : jX.Ok Tryd.prog := by
 refine yd ?_
 rintro ⟨c_, s_, list, steps⟩ r0 hf0
 try unfold j0 at hf0
 refine yO true [(8, none)] vd 108 Tryd.func8 fun E hE => ?_
 let Z0 : List HO := [Ha (lnM wd c_), Ha (lnM wd list)]
 rcases yb hf0 with ⟨c0, hf0⟩ | ⟨c0, hf0⟩
 ·obtain rfl := zn hf0
  exact yE X0 hC hE (Z0 ++ (rpN 6 (Hq c0) (rpN 13 qT [])))
 ·let Z1 : List HO := (Z0 ++ [Hq c0, Hq c0, Ha (lnM wo s_), Hq c0, Hq c0, Ha (lnM X8 steps), Hq c0, Hq c0])
  rcases yb hf0 with ⟨c1, hf0⟩ | ⟨c1, hf0⟩
  ·obtain rfl := zn hf0
   exact yE X0 hC hE (Z1 ++ (rpN 6 (Hq c1) (rpN 7 qT [])))
  ·let Z2 : List HO := (Z1 ++ [Hq c1, Hq c1, Ha (lnM wd c_), Hq c1, Hq c1, Ha (lnM wd c_), Hq c1, Hq c1])
   rcases yb hf0 with ⟨c2, hf0⟩ | ⟨c2, hf0⟩
   ·obtain rfl := zn hf0
    exact yE X0 hC hE (Z2 ++ (rpN 6 (Hq c2) [qT]))
   ·let Z3 : List HO := (Z2 ++ [Hq c2, Hq c2, Ha (lnM wo s_), Hq c2, Hq c2, Ha (lnM wo s_), Hq c2, Hq c2])
    rcases yb hf0 with ⟨c3, hf0⟩ | ⟨c3, hf0⟩
    ·obtain rfl := zn hf0
     exact yE X0 hC hE (Z3 ++ [Hq c3])
    ·refine yJ X0 hC vd [1,1] [] [1,3] (fun z : Unit => qE s_ steps = some r0) (fun z => VV s_ steps) [(0, .d (eSl 2 true wd c_)), (1, .d (eSl 1 true wo s_)), (2, .d (eSl 2 false wd list)), (3, .d (eSl 1 false X8 steps))] (Z3 ++ [Hq c3, Hh (.cut 0)]) ?_ fun J1 hJ1 => ?_
     ·rintro ⟨⟩ hf0
      unfold qE at hf0
      refine yJ X0 hC vd [1,1,1] [] [] (fun z : Unit => ZW = some r0) (fun z => VU) [(1, .d (eSl 1 true wo s_)), (3, .d (eSl 1 false X8 steps))] [Hh (.cut 0)] ?_ fun J2 hJ2 => ?_
      ·rintro ⟨⟩ hf0
       unfold ZW at hf0
       obtain rfl := zn hf0
       exact yE X0 hC hE []
      ·obtain ⟨t3, ht3, hf0⟩ := zp hf0
       refine yL X0 hC vd [1,1,1,2,1,0] [J2] (fun s => qD s_ steps s) (fun x => VS s_ steps x) 0 ht3  [] ?_
       rintro i_ m3 lr1 hf1 hl1 J3 hJ3
       try unfold qD at hf1
       let Z4 : List HO := [Ha (lnM wo s_)]
       rcases yb hf1 with ⟨c4, hf1⟩ | ⟨c4, hf1⟩
       ·refine yJ X0 hC vd [1,1,1,2,1,0,0,1] [J2, J3] [1,3,10,72,73,74,75,76,77,78,79,80,81,82] (fun z : List z6 × List z6 × Int × List z6 × List z6 × Int × Bool => ZV i_ z.1 z.2.1 z.2.2.1 z.2.2.2.1 z.2.2.2.2.1 z.2.2.2.2.2.1 z.2.2.2.2.2.2 = some lr1) (fun z => VT s_ steps i_ z.1 z.2.1 z.2.2.1 z.2.2.2.1 z.2.2.2.2.1 z.2.2.2.2.2.1 z.2.2.2.2.2.2) [(1, .d (eSl 1 true wo s_)), (3, .d (eSl 1 false X8 steps)), (10, .d (I i_))] (Z4 ++ [Hq c4, Hh (.cut 0)]) ?_ fun J4 hJ4 => ?_
        ·rintro ⟨x74, x75, x76, x79, x80, x81, x82⟩ hf1
         unfold ZV at hf1
         obtain rfl := zn hf1
         exact yB X0 hC hJ3 (w64 (i_ + 1)) hl1 []
        ·obtain ⟨s__e, h0, hf1⟩ := zp hf1
         obtain ⟨step_e, h1, hf1⟩ := zp hf1
         let Z5 : List HO := [Hi wo h0, Ha (lnM uR s__e), Hi X8 h1, Ha (lnM uR step_e)]
         rcases yb hf1 with ⟨c5, hf1⟩ | ⟨c5, hf1⟩
         ·obtain rfl := zn hf1
          obtain rfl := hl1
          obtain rfl := zn hf0
          exact yE X0 hC hE (Z5 ++ (rpN 12 (Hq c5) [qT]))
         ·obtain ⟨s__e1, h2, hf1⟩ := zp hf1
          obtain ⟨s__e2, h3, hf1⟩ := zp hf1
          let Z6 : List HO := (Z5 ++ [Hq c5, Hq c5, Hq c5, Hi wo h2, Hq c5, Hq c5, Ha (lnM uR s__e1), Hq c5, Hq c5, Hq c5, Hi wo h3, Hq c5, Hq c5, Ha (lnM uR s__e2), Hq c5, Hq c5])
          rcases yb hf1 with ⟨c6, hf1⟩ | ⟨c6, hf1⟩
          ·obtain rfl := zn hf1
           obtain rfl := hl1
           obtain rfl := zn hf0
           exact yE X0 hC hE (Z6 ++ [Hq c6])
          ·obtain ⟨t5, ht5, hf1⟩ := zp hf1
           refine yL X0 hC vd [1,1,1,2,1,0,0,1,2,0,1,1,0] [J2, J3, J4] (fun s => uu s_ steps i_ s__e1 s__e2 s) (fun x => VR s_ steps i_ s__e1 s__e2 x) 0 ht5  (Z6 ++ [Hq c6]) ?_
           rintro k_ m5 lr2 hf2 hl2 J5 hJ5
           try unfold uu at hf2
           obtain ⟨s__e3, h4, hf2⟩ := zp hf2
           let Z7 : List HO := [Hi wo h4, Ha (lnM uR s__e3)]
           rcases yb hf2 with ⟨c7, hf2⟩ | ⟨c7, hf2⟩
           ·obtain ⟨s__e4, h5, hf2⟩ := zp hf2
            obtain ⟨s__e_e, h6, hf2⟩ := zp hf2
            obtain ⟨step_e1, h7, hf2⟩ := zp hf2
            obtain ⟨step_e_e, h8, hf2⟩ := zp hf2
            let Z8 : List HO := (Z7 ++ [Hq c7, Hi wo h5, Hi uR h6, Hi X8 h7, Hi uR h8])
            rcases yb hf2 with ⟨c8, hf2⟩ | ⟨c8, hf2⟩
            ·obtain rfl := zn hf2
             obtain rfl := hl2
             obtain rfl := zn hf1
             obtain rfl := hl1
             obtain rfl := zn hf0
             exact yE ((zbe zY 107).or X0) hC hE (Z8 ++ [Hq c8])
            ·obtain rfl := zn hf2
             exact yB ((zbe zY 107).or X0) hC hJ5 (w64 (k_ + 1)) hl2 (Z8 ++ [Hq c8])
           ·obtain rfl := zn hf2
            obtain rfl := hl2
            exact yB X0 hC hJ4 (s__e1, s__e1, ((s__e1.length : Nat) : Int), s__e2, s__e2, ((s__e2.length : Nat) : Int), ((s__e1.length : Nat) : Int) != ((s__e2.length : Nat) : Int)) hf1 (Z7 ++ [Hq c7])
       ·obtain rfl := zn hf1
        obtain rfl := hl1
        exact yB X0 hC hJ2 () hf0 (Z4 ++ [Hq c4])
     ·obtain ⟨t6, ht6, hf0⟩ := zp hf0
      refine yL X0 hC vd [1,1,2,1,0] [J1] (fun s => qC c_ list s) (fun x => VQ c_ s_ list steps x) 0 ht6  [] ?_
      rintro i_1 m6 lr1 hf1 hl1 J6 hJ6
      try unfold qC at hf1
      let Z9 : List HO := [Ha (lnM wd c_)]
      rcases yb hf1 with ⟨c9, hf1⟩ | ⟨c9, hf1⟩
      ·obtain ⟨c__e, h9, hf1⟩ := zp hf1
       obtain ⟨list_e, h10, hf1⟩ := zp hf1
       obtain ⟨r_, h11, hf1⟩ := zp hf1
       let Z10 : List HO := (Z9 ++ [Hq c9, Hi wd h9, Hi wd h10, Hc h08 (x := (c__e, list_e)) h11 (loC wd c__e <| loC wd list_e <| loN)])
       rcases yb hf1 with ⟨c10, hf1⟩ | ⟨c10, hf1⟩
       ·obtain rfl := zn hf1
        obtain rfl := hl1
        obtain rfl := zn hf0
        exact yE X0 hC hE (Z10 ++ [Hq c10])
       ·obtain rfl := zn hf1
        exact yB X0 hC hJ6 (w64 (i_1 + 1)) hl1 (Z10 ++ [Hq c10])
      ·obtain rfl := zn hf1
       obtain rfl := hl1
       exact yB X0 hC hJ1 () hf0 (Z9 ++ [Hq c9])
def Uv : Code := (Tryd.f56.body).getD .skip
def qK : x5 := spF (α := Int) (ρ := Bool) 56 (fun x => [(eI .i64) x]) (fun r => eB r) (fun x => qd x) [] (Us)
theorem Q4 {ctr : Ctr} (hC : zW Tryd.prog ctr) : qK.Ok Tryd.prog := by
 refine yd ?_
 rintro x_ r0 hf0
 try unfold qd at hf0
 refine yO true [(2, none)] Uv 6 Tryd.func56 fun E hE => ?_
 obtain rfl := zn hf0
 exact yE X0 hC hE []
def QT : Code := (Tryd.f51.body).getD .skip
def kW : x5 := spF (α := Int × Int) (ρ := Bool) 51 (fun x => [(eI .i64) x.1, (eI .i64) x.2]) (fun r => eB r) (fun x => Xo x.1 x.2) [] (UT)
theorem Jc {ctr : Ctr} (hC : zW Tryd.prog ctr) (h0b : ctr.Has qK) : kW.Ok Tryd.prog := by
 refine yd ?_
 rintro ⟨x_, y_⟩ r0 hf0
 try unfold Xo at hf0
 refine yO true [(4, none)] QT 17 Tryd.func51 fun E hE => ?_
 obtain ⟨r_, h0, hf0⟩ := zp hf0
 let Z0 : List HO := [Hc h0b (x := x_) h0 (loC (eI .i64) x_ <| loN)]
 rcases yb hf0 with ⟨c0, hf0⟩ | ⟨c0, hf0⟩
 ·obtain ⟨r_1, h1, hf0⟩ := zp hf0
  let Z1 : List HO := (Z0 ++ [Hq c0, Hq c0, Hc h0b (x := y_) h1 (loC (eI .i64) y_ <| loN), Hq c0, Hq c0])
  rcases yb hf0 with ⟨c1, hf0⟩ | ⟨c1, hf0⟩
  ·obtain rfl := zn hf0
   exact yE X0 hC hE (Z1 ++ (rpN 4 (Hq c1) []))
  ·obtain rfl := zn hf0
   exact yE X0 hC hE (Z1 ++ (rpN 4 (Hq c1) []))
 ·obtain rfl := zn hf0
  exact yE X0 hC hE (Z0 ++ (rpN 4 (Hq c0) (rpN 4 qF [])))
def Wl : Code := (Tryd.f52.body).getD .skip
def qY : x5 := spF (α := Int) (ρ := Bool) 52 (fun x => [(eI .i64) x]) (fun r => eB r) (fun x => qL x) [] (Us)
theorem Wz {ctr : Ctr} (hC : zW Tryd.prog ctr) : qY.Ok Tryd.prog := by
 refine yd ?_
 rintro x_ r0 hf0
 try unfold qL at hf0
 refine yO true [(2, none)] Wl 6 Tryd.func52 fun E hE => ?_
 obtain rfl := zn hf0
 exact yE X0 hC hE []
def wn : Code := (Tryd.f26.body).getD .skip
def wg : x5 := spF (α := List Int × Int) (ρ := Int × Bool) 26 (fun x => [F2_ x.1, (eI .i64) x.2]) (fun r => .tup [(eI .i64) r.1, eB r.2]) (fun x => wD x.1 x.2) [] (UT)
abbrev jM (x_ : List Int) (target : Int) (i_ : Int) : List (Nat × T) := [(0, .d (eSl 1 false (eI .i64) x_)), (1, .d (I target)), (6, .d (I ((x_.length : Nat) : Int))), (7, .d (I i_))]
abbrev jL (x_ : List Int) (target : Int) (i_1 : Int) (j_ : Int) : List (Nat × T) := [(0, .d (eSl 1 false (eI .i64) x_)), (1, .d (I target)), (6, .d (I ((x_.length : Nat) : Int))), (7, .d (I i_1)), (8, .d (I j_))]
theorem ko {ctr : Ctr} (hC : zW Tryd.prog ctr) (h0N : ctr.Has kW) (h0r : ctr.Has qY) : wg.Ok Tryd.prog := by
 refine yd ?_
 rintro ⟨x_, target⟩ r0 hf0
 try unfold wD at hf0
 refine yO false [(4, none), (5, none)] wn 54 Tryd.func26 fun E hE => ?_
 refine yJ X0 hC wn [1,1,1] [] [0,1,6,7] (fun z : Int => wi x_ target z = some r0) (fun z => jM x_ target z) [(0, .d (eSl 1 false (eI .i64) x_)), (1, .d (I target)), (6, .d (I ((x_.length : Nat) : Int))), (7, .d (I 0)), (8, .d (I ((x_.length : Nat) : Int)))] [Ha (lnM (eI .i64) x_), Hh (.cut 1)] ?_ fun J1 hJ1 => ?_
 ·rintro i_ hf0
  unfold wi at hf0
  rcases yb hf0 with ⟨c0, hf0⟩ | ⟨c0, hf0⟩
  ·obtain ⟨x__e, h0, hf0⟩ := zp hf0
   let Z0 : List HO := (Hq c0 :: Hq c0 :: Hq c0 :: Hi (eI .i64) h0 :: (rpN 4 (Hq c0) []))
   rcases yb hf0 with ⟨c1, hf0⟩ | ⟨c1, hf0⟩
   ·obtain rfl := zn hf0
    exact yE X0 hC hE (Z0 ++ (rpN 7 (Hq c1) [Hq c0, Hq c1, Hq c0]))
   ·obtain ⟨x__e1, h1, hf0⟩ := zp hf0
    obtain ⟨r_, h2, hf0⟩ := zp hf0
    let Z1 : List HO := (Z0 ++ [Hq c1, Hq c1, Hq c1, Hi (eI .i64) h1, Hq c1, Hq c1, Hc h0r (x := x__e1) h2 (loC (eI .i64) x__e1 <| loN), Hq c1])
    rcases yb hf0 with ⟨c2, hf0⟩ | ⟨c2, hf0⟩
    ·obtain ⟨r_1, h3, hf0⟩ := zp hf0
     obtain rfl := zn hf0
     exact yE X0 hC hE (Z1 ++ [Hq c2, Hq c2, Hc h0r (x := target) h3 (loC (eI .i64) target <| loN), Hq c1, Hq c2, Hq c0, Hq c1, Hq c0])
    ·obtain rfl := zn hf0
     exact yE X0 hC hE (Z1 ++ [Hq c2, Hq c2, Hq c1, Hq c2, Hq c0, Hq c1, Hq c0])
  ·obtain rfl := zn hf0
   exact yE X0 hC hE (rpN 9 (Hq c0) [])
 ·obtain ⟨t2, ht2, hf0⟩ := zp hf0
  refine yL X0 hC wn [1,1,1,2,0] [J1] (fun s => wh x_ target s.1 s.2) (fun x => jL x_ target x.1 x.2) (0, ((x_.length : Nat) : Int)) ht2  [] ?_
  rintro ⟨i_1, j_⟩ m2 lr1 hf1 hl1 J2 hJ2
  try unfold wh at hf1
  rcases yb hf1 with ⟨c3, hf1⟩ | ⟨c3, hf1⟩
  ·obtain ⟨x__e2, h4, hf1⟩ := zp hf1
   obtain ⟨r_2, h5, hf1⟩ := zp hf1
   let Z2 : List HO := [Hq c3, Hi (eI .i64) h4, Hc h0N (x := (x__e2, target)) h5 (loC (eI .i64) x__e2 <| loC (eI .i64) target <| loN)]
   rcases yb hf1 with ⟨c4, hf1⟩ | ⟨c4, hf1⟩
   ·obtain rfl := zn hf1
    exact yB ((zcP Tryd.prog).or X0) hC hJ2 (w64 ((w64 (Int.fdiv (IntKind.u64.wrap (w64 (i_1 + j_))) (2 ^ 1))) + 1), j_) hl1 (Z2 ++ [Hq c4])
   ·obtain rfl := zn hf1
    exact yB ((zcP Tryd.prog).or X0) hC hJ2 (i_1, w64 (Int.fdiv (IntKind.u64.wrap (w64 (i_1 + j_))) (2 ^ 1))) hl1 (Z2 ++ [Hq c4])
  ·obtain rfl := zn hf1
   obtain rfl := hl1
   exact yB X0 hC hJ1 i_1 hf0 [Hq c3]
def WV : Code := (Tryd.f55.body).getD .skip
def jA : x5 := spF (α := Int) (ρ := Bool) 55 (fun x => [(eI .u8) x]) (fun r => eB r) (fun x => jI x) [] (Us)
theorem Va {ctr : Ctr} (hC : zW Tryd.prog ctr) : jA.Ok Tryd.prog := by
 refine yd ?_
 rintro x_ r0 hf0
 try unfold jI at hf0
 refine yO true [(2, none)] WV 6 Tryd.func55 fun E hE => ?_
 obtain rfl := zn hf0
 exact yE X0 hC hE []
def XR : Code := (Tryd.f30.body).getD .skip
def qm : x5 := spF (α := Int × Int) (ρ := Int) 30 (fun x => [(eI .u8) x.1, (eI .u8) x.2]) (fun r => (eI .i64) r) (fun x => jU x.1 x.2) [] (UT)
theorem W5 {ctr : Ctr} (hC : zW Tryd.prog ctr) (h0s : ctr.Has jA) : qm.Ok Tryd.prog := by
 refine yd ?_
 rintro ⟨x_, y_⟩ r0 hf0
 try unfold jU at hf0
 refine yO true [(4, none)] XR 20 Tryd.func30 fun E hE => ?_
 obtain ⟨r_, h0, hf0⟩ := zp hf0
 obtain ⟨r_1, h1, hf0⟩ := zp hf0
 let Z0 : List HO := [Hc h0s (x := x_) h0 (loC (eI .u8) x_ <| loN), Hc h0s (x := y_) h1 (loC (eI .u8) y_ <| loN)]
 rcases yb hf0 with ⟨c0, hf0⟩ | ⟨c0, hf0⟩
 ·rcases yb hf0 with ⟨c1, hf0⟩ | ⟨c1, hf0⟩
  ·obtain rfl := zn hf0
   exact yE X0 hC hE (Z0 ++ [Hq c0, Hq c1])
  ·obtain rfl := zn hf0
   exact yE X0 hC hE (Z0 ++ [Hq c0, Hq c1])
 ·rcases yb hf0 with ⟨c2, hf0⟩ | ⟨c2, hf0⟩
  ·obtain rfl := zn hf0
   exact yE X0 hC hE (Z0 ++ [Hq c0, Hq c2])
  ·rcases yb hf0 with ⟨c3, hf0⟩ | ⟨c3, hf0⟩
   ·obtain rfl := zn hf0
    exact yE X0 hC hE (Z0 ++ [Hq c0, Hq c2, Hq c3])
   ·rcases yb hf0 with ⟨c4, hf0⟩ | ⟨c4, hf0⟩
    ·obtain rfl := zn hf0
     exact yE X0 hC hE (Z0 ++ [Hq c0, Hq c2, Hq c3, Hq c4])
    ·obtain rfl := zn hf0
     exact yE X0 hC hE (Z0 ++ [Hq c0, Hq c2, Hq c3, Hq c4])
def WW : Code := (Tryd.f31.body).getD .skip
def jB : x5 := spF (α := Int × Int) (ρ := Int) 31 (fun x => [(eI .i64) x.1, (eI .i64) x.2]) (fun r => (eI .i64) r) (fun x => jJ x.1 x.2) [] (UT)
theorem Vb {ctr : Ctr} (hC : zW Tryd.prog ctr) (h0b : ctr.Has qK) : jB.Ok Tryd.prog := by
 refine yd ?_
 rintro ⟨x_, y_⟩ r0 hf0
 try unfold jJ at hf0
 refine yO true [(4, none)] WW 20 Tryd.func31 fun E hE => ?_
 obtain ⟨r_, h0, hf0⟩ := zp hf0
 obtain ⟨r_1, h1, hf0⟩ := zp hf0
 let Z0 : List HO := [Hc h0b (x := x_) h0 (loC (eI .i64) x_ <| loN), Hc h0b (x := y_) h1 (loC (eI .i64) y_ <| loN)]
 rcases yb hf0 with ⟨c0, hf0⟩ | ⟨c0, hf0⟩
 ·rcases yb hf0 with ⟨c1, hf0⟩ | ⟨c1, hf0⟩
  ·obtain rfl := zn hf0
   exact yE X0 hC hE (Z0 ++ [Hq c0, Hq c1])
  ·obtain rfl := zn hf0
   exact yE X0 hC hE (Z0 ++ [Hq c0, Hq c1])
 ·rcases yb hf0 with ⟨c2, hf0⟩ | ⟨c2, hf0⟩
  ·obtain rfl := zn hf0
   exact yE X0 hC hE (Z0 ++ [Hq c0, Hq c2])
  ·rcases yb hf0 with ⟨c3, hf0⟩ | ⟨c3, hf0⟩
   ·obtain rfl := zn hf0
    exact yE X0 hC hE (Z0 ++ [Hq c0, Hq c2, Hq c3])
   ·rcases yb hf0 with ⟨c4, hf0⟩ | ⟨c4, hf0⟩
    ·obtain rfl := zn hf0
     exact yE X0 hC hE (Z0 ++ [Hq c0, Hq c2, Hq c3, Hq c4])
    ·obtain rfl := zn hf0
     exact yE X0 hC hE (Z0 ++ [Hq c0, Hq c2, Hq c3, Hq c4])
def YH : Code := (Tryd.f29.body).getD .skip
def Yk : x5 := spF (α := List Int) (ρ := Int) 29 (fun x => [F2_ x]) (fun r => (eI .i64) r) (fun x => Vs x) [] (Us)
abbrev UO : List (Nat × T) := [(3, .d (I 0))]
abbrev UN (vals : List Int) (x8 : Int) : List (Nat × T) := [(3, .d (I 0)), (6, .d (eSl 1 false (eI .i64) vals)), (7, .d (I ((vals.length : Nat) : Int))), (8, .d (I x8))]
theorem KL {ctr : Ctr} (hC : zW Tryd.prog ctr) : Yk.Ok Tryd.prog := by
 refine yd ?_
 rintro vals r0 hf0
 try unfold Vs at hf0
 refine yO true [(2, none)] YH 18 Tryd.func29 fun E hE => ?_
 refine yJ X0 hC YH [1,1] [] [3] (fun z : Unit => YA = some r0) (fun z => UO) [(0, .d (eSl 1 false (eI .i64) vals)), (3, .d (I 0))] [Hh (.cut 2)] ?_ fun J1 hJ1 => ?_
 ·rintro ⟨⟩ hf0
  unfold YA at hf0
  obtain rfl := zn hf0
  exact yE X0 hC hE []
 ·obtain ⟨t2, ht2, hf0⟩ := zp hf0
  refine yL X0 hC YH [1,1,2,1,0] [J1] (fun s => Yz vals s) (fun x => UN vals x) 0 ht2  [Ha (lnM (eI .i64) vals)] ?_
  rintro x8 m2 lr1 hf1 hl1 J2 hJ2
  try unfold Yz at hf1
  rcases yb hf1 with ⟨c0, hf1⟩ | ⟨c0, hf1⟩
  ·obtain ⟨val_e, h0, hf1⟩ := zp hf1
   rcases yb hf1 with ⟨c1, hf1⟩ | ⟨c1, hf1⟩
   ·obtain rfl := zn hf1
    obtain rfl := hl1
    obtain rfl := zn hf0
    exact yE X0 hC hE [Hq c0, Hi (eI .i64) h0, Hq c1]
   ·obtain rfl := zn hf1
    exact yB X0 hC hJ2 (w64 (x8 + 1)) hl1 [Hq c0, Hi (eI .i64) h0, Hq c1]
  ·obtain rfl := zn hf1
   obtain rfl := hl1
   exact yB X0 hC hJ1 () hf0 [Hq c0]
def XQ : Code := (Tryd.f28.body).getD .skip
def qj : x5 := spF (α := zf × zf) (ρ := Int) 28 (fun x => [F8_ x.1, F8_ x.2]) (fun r => (eI .i64) r) (fun x => jR x.1 x.2) [] (UT)
theorem W4 {ctr : Ctr} (hC : zW Tryd.prog ctr) (h0O : ctr.Has qm) (h0t : ctr.Has jB) (h0u : ctr.Has Yk) : qj.Ok Tryd.prog := by
 refine yd ?_
 rintro ⟨a_, b_⟩ r0 hf0
 try unfold jR at hf0
 refine yO true [(4, none)] XQ 22 Tryd.func28 fun E hE => ?_
 obtain ⟨r_, h0, hf0⟩ := zp hf0
 obtain ⟨r_1, h1, hf0⟩ := zp hf0
 obtain ⟨r_2, h2, hf0⟩ := zp hf0
 obtain ⟨r_3, h3, hf0⟩ := zp hf0
 obtain rfl := zn hf0
 exact yE X0 hC hE [Hc h0O (x := (a_.Kind, b_.Kind)) h0 (loC (eI .u8) a_.Kind <| loC (eI .u8) b_.Kind <| loN), Hc h0t (x := (a_.Label, b_.Label)) h1 (loC (eI .i64) a_.Label <| loC (eI .i64) b_.Label <| loN), Hc h0t (x := (a_.To, b_.To)) h2 (loC (eI .i64) a_.To <| loC (eI .i64) b_.To <| loN), Hg (z0Q h0u), Hm (shM (eI .i64) (eI .i64) ([r_, r_1, r_2])), Hs (z0R h0u (x := [r_, r_1, r_2]) h3 (loC F1_ ([r_, r_1, r_2] : List Int) <| loN))]
def zJ : Code := (Tryd.f33.body).getD .skip
def xj : x5 := spF (α := List zf) (ρ := List zf) 33 (fun x => [(eOs 3 false F8_) x]) (fun r => (eOs 3 false F8_) r) (fun x => xK x) [true] (Us)
abbrev uL (s_ : List zf) : List (Nat × T) := [(0, .own (eOs 3 false F8_ s_))]
abbrev uK (s_ : List zf) (k_ : Int) : List (Nat × T) := [(0, .own (eOs 3 false F8_ s_)), (3, .d (I k_))]
abbrev uJ (s_1 : List zf) (k_1 : Int) : List (Nat × T) := [(0, .own (eOs 3 false F8_ s_1)), (3, .d (I k_1))]
abbrev uI (pv0 : Value) (k_ : Int) (k2 : Int) (s_3 : List zf) (k_3 : Int) : List (Nat × T) := [(0, .own (eOs 3 false F8_ s_3)), (3, .d (I k_3)), (4, .d (.atom (XO 3 pv0 k_))), (5, .d (I k2))]
abbrev uG (pv0 : Value) (k_ : Int) (s_2 : List zf) (k_2 : Int) (k2 : Int) : List (Nat × T) := [(0, .own (eOs 3 false F8_ s_2)), (3, .d (I k_2)), (4, .d (.atom (XO 3 pv0 k_))), (5, .d (I k2))]
abbrev uH (s_ : List zf) (k_ : Int) : List (Nat × T) := [(0, .own (eOs 3 false F8_ s_)), (3, .d (I k_))]
def zo : XH Tryd.prog := ((zed zY 59).or X0)
theorem qr {ctr : Ctr} (hC : zW Tryd.prog ctr) : xj.Ok Tryd.prog := by
 refine yd ?_
 rintro s_ r0 hf0
 try unfold xK at hf0
 refine yO true [(2, none)] zJ 61 Tryd.func33 fun E hE => ?_
 refine z44 (y := eOs 3 false F8_ s_) rfl 0 (by kernel_rfl) (by kernel_rfl) fun pv0 hv0 => ?_
 let Z0 : List HO := [Ha (lnM F8_ s_)]
 rcases yb hf0 with ⟨c0, hf0⟩ | ⟨c0, hf0⟩
 ·obtain rfl := zn hf0
  exact yE zo hC hE (Z0 ++ [Hq c0])
 ·refine yJ zo hC zJ [1,1] [] [0] (fun z : Unit => xp s_ = some r0) (fun z => uL s_) [(0, .own (eOs 3 false F8_ s_))] (Z0 ++ [Hq c0, Hh (.cut 0)]) ?_ fun J1 hJ1 => ?_
  ·rintro ⟨⟩ hf0
   unfold xp at hf0
   obtain rfl := zn hf0
   exact yE zo hC hE []
  ·obtain ⟨t2, ht2, hf0⟩ := zp hf0
   refine yL zo hC zJ [1,1,2,1,0] [J1] (fun s => xl s_ s) (fun x => uH s_ x) 1 ht2  [] ?_
   rintro k_ m2 lr1 hf1 hl1 J2 hJ2
   try unfold xl at hf1
   let Z1 : List HO := [Ha (lnM F8_ s_)]
   rcases yb hf1 with ⟨c1, hf1⟩ | ⟨c1, hf1⟩
   ·refine yJ zo hC zJ [1,1,2,1,0,0,1] [J1, J2] [0,3] (fun z : Unit => xo k_ = some lr1) (fun z => uK s_ k_) [(0, .own (eOs 3 false F8_ s_)), (3, .d (I k_))] (Z1 ++ [Hq c1, Hh (.cut 0)]) ?_ fun J3 hJ3 => ?_
    ·rintro ⟨⟩ hf1
     unfold xo at hf1
     obtain rfl := zn hf1
     exact yB zo hC hJ2 (w64 (k_ + 1)) hl1 []
    ·obtain ⟨s__e, h0, hf1⟩ := zp hf1
     obtain ⟨s__e1, h1, hf1⟩ := zp hf1
     let Z2 : List HO := [Hn (iL F8_ h0), Hs (iM F8_ h0), Hn (iL F8_ h1), Hs (iM F8_ h1)]
     rcases yb hf1 with ⟨c2, hf1⟩ | ⟨c2, hf1⟩
     ·obtain ⟨g0, hf1⟩ := gdE hf1
      refine yJ ((xAs Tryd.prog 4 (XO 3 pv0 k_)).or ((xVw zY 28 0 pv0).or zo)) hC zJ [1,1,2,1,0,0,1,2,0,1,0,1] [J1, J2, J3] [0,3] (fun z : List zf × Int => xm z.1 z.2 = some lr1) (fun z => uJ z.1 z.2) [(0, .own (eOs 3 false F8_ s_)), (3, .d (I k_)), (4, .d (.atom (XO 3 pv0 k_)))] (Z2 ++ [Hq c2, Hn (⟨.inl rfl, rfl⟩ : (T.als 0 [] 0 0 = T.als 0 [] 0 0 ∨ T.als 0 [] 0 0 = T.d (.atom pv0)) ∧ some pv0 = some pv0), Hn (⟨g0.1, cuB F8_ g0⟩ : (0 : Int) ≤ k_ ∧ k_.toNat ≤ (s_.map F8_).length), Hn (rfl : T.d (.atom (XO 3 pv0 k_)) = T.d (.atom (XO 3 pv0 k_))), Hh (.cut 1)]) ?_ fun J4 hJ4 => ?_
      ·rintro ⟨s_1, k_1⟩ hf1
       unfold xm at hf1
       obtain ⟨g1, hf1⟩ := gdE hf1
       obtain ⟨g2, hf1⟩ := gdE hf1
       obtain ⟨g3, hf1⟩ := gdE hf1
       obtain rfl := zn hf1
       obtain rfl := hl1
       obtain rfl := zn hf0
       exact yE ((xVc zY 56 3 0 pv0 k_1).or ((xVw zY 56 0 pv0).or zo)) hC hE [Hn (⟨.inl rfl, rfl⟩ : (T.als 0 [] 0 0 = T.als 0 [] 0 0 ∨ T.als 0 [] 0 0 = T.d (.atom pv0)) ∧ some pv0 = some pv0), Hn (⟨g1.1, cuB F8_ g1⟩ : (0 : Int) ≤ k_1 ∧ k_1.toNat ≤ (s_1.map F8_).length), Hn (⟨rfl, rfl⟩ : T.d (.atom (XO 3 pv0 k_1)) = T.d (.atom (XO 3 pv0 k_1)) ∧ some pv0 = some pv0), Hn (⟨g2.1, cuB F8_ g2, dM F8_ s_1⟩ : (0 : Int) ≤ k_1 ∧ k_1.toNat ≤ (s_1.map F8_).length ∧ A.areD (s_1.map F8_) = true), Hx (.l ((s_1.take k_1.toNat ++ List.replicate (s_1.length - k_1.toNat) (zf.mk 0 0 0)).map F8_)) (vcM F8_ s_1 k_1.toNat (zf.mk 0 0 0)), Hn g3.1, Hn (cuB F8_ g3), Hl (cuM F8_ (s_1.take k_1.toNat ++ List.replicate (s_1.length - k_1.toNat) (zf.mk 0 0 0)) k_1)]
      ·obtain ⟨t5, ht5, hf1⟩ := zp hf1
       refine yL zo hC zJ [1,1,2,1,0,0,1,2,0,1,0,1,2,1,0] [J1, J2, J3, J4] (fun s => xk k_ s.1 s.2.1 s.2.2) (fun x => uG pv0 k_ x.1 x.2.1 x.2.2) (s_, k_, 1) ht5  [] ?_
       rintro ⟨s_2, k_2, k2⟩ m5 lr2 hf2 hl2 J5 hJ5
       try unfold xk at hf2
       let Z3 : List HO := [Hn (⟨rfl, rfl⟩ : T.d (.atom (XO 3 pv0 k_)) = T.d (.atom (XO 3 pv0 k_)) ∧ some pv0 = some pv0), Hx (.a (.atom (.int .i64 ((s_2.length - k_.toNat : Nat) : Int)))) (vlM F8_ s_2 k_.toNat)]
       rcases yb hf2 with ⟨c3, hf2⟩ | ⟨c3, hf2⟩
       ·refine yJ ((xVl zY 31 75 3 0 pv0 k_ (by kernel_rfl)).or zo) hC zJ [1,1,2,1,0,0,1,2,0,1,0,1,2,1,0,0,1] [J1, J2, J3, J4, J5] [0,3,4,5] (fun z : List zf × Int => yq k2 z.1 z.2 = some lr2) (fun z => uI pv0 k_ k2 z.1 z.2) [(0, .own (eOs 3 false F8_ s_2)), (3, .d (I k_2)), (4, .d (.atom (XO 3 pv0 k_))), (5, .d (I k2))] (Z3 ++ [Hq c3, Hh (.cut 0)]) ?_ fun J6 hJ6 => ?_
        ·rintro ⟨s_3, k_3⟩ hf2
         unfold yq at hf2
         obtain rfl := zn hf2
         exact yB zo hC hJ5 (s_3, k_3, w64 (k2 + 1)) hl2 []
        ·obtain ⟨g4, hf2⟩ := gdE hf2
         obtain ⟨s__e2, h2, hf2⟩ := zp hf2
         obtain ⟨g5, hf2⟩ := gdE hf2
         obtain ⟨s__e3, h3, hf2⟩ := zp hf2
         let Z4 : List HO := [Hn (⟨rfl, rfl⟩ : T.d (.atom (XO 3 pv0 k_)) = T.d (.atom (XO 3 pv0 k_)) ∧ some pv0 = some pv0), Hn (⟨g4.1, g4.2, (iL F8_ h2).2⟩ : (0 : Int) ≤ k_ ∧ (0 : Int) ≤ k2 ∧ (k_ + k2).toNat < (s_2.map F8_).length), Hs (iM F8_ h2), Hn (⟨rfl, rfl⟩ : T.d (.atom (XO 3 pv0 k_)) = T.d (.atom (XO 3 pv0 k_)) ∧ some pv0 = some pv0), Hn (⟨g5.1, g5.2, (iL F8_ h3).2⟩ : (0 : Int) ≤ k_ ∧ (0 : Int) ≤ w64 (k2 - 1) ∧ (k_ + (w64 (k2 - 1))).toNat < (s_2.map F8_).length), Hs (iM F8_ h3)]
         rcases yb hf2 with ⟨c4, hf2⟩ | ⟨c4, hf2⟩
         ·obtain ⟨g6, hf2⟩ := gdE hf2
          obtain ⟨s__e4, h4, hf2⟩ := zp hf2
          obtain ⟨s__e5, h5, hf2⟩ := zp hf2
          exact yB ((xVi zY 49 3 0 pv0 k_).or ((xVi zY 42 3 0 pv0 k_).or ((xVi zY 37 3 0 pv0 k_).or zo))) hC hJ6 ((s_2.set k_2.toNat s__e4), w64 (k_2 + 1)) hf2 (Z4 ++ [Hq c4, Hn (⟨rfl, rfl⟩ : T.d (.atom (XO 3 pv0 k_)) = T.d (.atom (XO 3 pv0 k_)) ∧ some pv0 = some pv0), Hn (⟨g6.1, g6.2, (iL F8_ h4).2⟩ : (0 : Int) ≤ k_ ∧ (0 : Int) ≤ k2 ∧ (k_ + k2).toNat < (s_2.map F8_).length), Hs (iM F8_ h4), Hn (iL F8_ h5), Hs (iM F8_ h5), Hs (iM F8_ h5), Hl (sM F8_ s_2 k_2 s__e4)])
         ·exact yB ((xVi zY 42 3 0 pv0 k_).or ((xVi zY 37 3 0 pv0 k_).or zo)) hC hJ6 (s_2, k_2) hf2 (Z4 ++ [Hq c4])
       ·obtain rfl := zn hf2
        obtain rfl := hl2
        exact yB ((xVl zY 31 75 3 0 pv0 k_ (by kernel_rfl)).or zo) hC hJ4 (s_2, k_2) hf1 (Z3 ++ [Hq c3])
     ·exact yB zo hC hJ3 () hf1 (Z2 ++ [Hq c2])
   ·obtain rfl := zn hf1
    obtain rfl := hl1
    exact yB zo hC hJ1 () hf0 (Z1 ++ [Hq c1])
def jd : Code := (Tryd.f32.body).getD .skip
def xJ : x5 := spF (α := List zf) (ρ := List zf) 32 (fun x => [Y2 x]) (fun r => V3 r) (fun x => w6 x) [] (Us)
theorem jk {ctr : Ctr} (hC : zW Tryd.prog ctr) : xJ.Ok Tryd.prog := by
 refine yd ?_
 rintro s_ r0 hf0
 try unfold w6 at hf0
 refine yO true [(2, none)] jd 9 Tryd.func32 fun E hE => ?_
 obtain ⟨g0, hf0⟩ := gdE hf0
 obtain rfl := zn hf0
 exact yE X0 hC hE [Ha (lnM F8_ s_), Ha (lnM F8_ s_), Hn (slB g0), Hn (slC g0), Hn (z2l F8_ g0), Ha (z8m 3 F8_ s_ 0 ((s_.length : Nat) : Int).toNat)]
def j4 : Code := (Tryd.f34.body).getD .skip
def xC : x5 := spF (α := List (List zf)) (ρ := List (List zf)) 34 (fun x => [ze6 x]) (fun r => zb8 r) (fun x => xV x) [] (Us)
theorem j9 {ctr : Ctr} (hC : zW Tryd.prog ctr) : xC.Ok Tryd.prog := by
 refine yd ?_
 rintro s_ r0 hf0
 try unfold xV at hf0
 refine yO true [(2, none)] j4 9 Tryd.func34 fun E hE => ?_
 obtain ⟨g0, hf0⟩ := gdE hf0
 obtain rfl := zn hf0
 exact yE X0 hC hE [Ha (lnM Y2 s_), Ha (lnM Y2 s_), Hn (slB g0), Hn (slC g0), Hn (z2l Y2 g0), Ha (z8m 1 Y2 s_ 0 ((s_.length : Nat) : Int).toNat)]
def yK : Code := (Tryd.f15.body).getD .skip
def jx : x5 := spF (α := z8 × List Int) (ρ := zF × Int) 15 (fun x => [xi x.1, F2_ x.2]) (fun r => .tup [(wF (eI .i64) (eI .i64) zb8) r.1, (eI .i64) r.2]) (fun x => jt x.1 x.2) [] (UT)
abbrev Xw (x_ : z8) (out_Rows : List (List zf)) : List (Nat × T) := [(4, .own (.box (.agg [I 0, I 0, eOs 1 true Y2 []]))), (10, .own (.box (.agg [I 0, I x_.Labels, eOs 1 false V3 out_Rows])))]
abbrev Xv (x_ : z8) (hidden : List Int) (r_2 : List za × List (List z6) × Int) (x51 : Int) (out_Rows2 : List (List zf)) : List (Nat × T) := [(1, .d (eSl 1 false (eI .i64) hidden)), (2, .own (.box (xi x_))), (4, .own (.box (.agg [I 0, I 0, eOs 1 true Y2 []]))), (10, .own (.box (.agg [I 0, I x_.Labels, eOs 1 false V3 out_Rows2]))), (49, .d (eSl 1 true wo r_2.2.1)), (50, .d (I ((r_2.2.1.length : Nat) : Int))), (51, .d (I x51))]
abbrev Xu (x_ : z8) (hidden : List Int) (r_2 : List za × List (List z6) × Int) (out_Rows1 : List (List zf)) (x51 : Int) (row : List zf) : List (Nat × T) := [(1, .d (eSl 1 false (eI .i64) hidden)), (2, .own (.box (xi x_))), (4, .own (.box (.agg [I 0, I 0, eOs 1 true Y2 []]))), (10, .own (.box (.agg [I 0, I x_.Labels, eOs 1 false V3 out_Rows1]))), (13, .own (eOs 3 false F8_ row)), (49, .d (eSl 1 true wo r_2.2.1)), (50, .d (I ((r_2.2.1.length : Nat) : Int))), (51, .d (I x51))]
abbrev Xt (x_ : z8) (hidden : List Int) (r_2 : List za × List (List z6) × Int) (out_Rows1 : List (List zf)) (x51 : Int) (u_ : List z6) (row1 : List zf) (x57 : Int) (u__e : z6) (arc_Kind : Int) (arc_Label : Int) : List (Nat × T) := [(1, .d (eSl 1 false (eI .i64) hidden)), (2, .own (.box (xi x_))), (4, .own (.box (.agg [I 0, I 0, eOs 1 true Y2 []]))), (10, .own (.box (.agg [I 0, I x_.Labels, eOs 1 false V3 out_Rows1]))), (13, .own (eOs 3 false F8_ row1)), (16, .own (.box (.agg [.atom (.int .u8 arc_Kind), I arc_Label, I u__e.To]))), (49, .d (eSl 1 true wo r_2.2.1)), (50, .d (I ((r_2.2.1.length : Nat) : Int))), (51, .d (I x51)), (55, .d (eSl 5 true uR u_)), (56, .d (I ((u_.length : Nat) : Int))), (57, .d (I x57))]
abbrev Xr (x_ : z8) (hidden : List Int) (r_2 : List za × List (List z6) × Int) (out_Rows1 : List (List zf)) (x51 : Int) (u_ : List z6) (row1 : List zf) (x57 : Int) : List (Nat × T) := [(1, .d (eSl 1 false (eI .i64) hidden)), (2, .own (.box (xi x_))), (4, .own (.box (.agg [I 0, I 0, eOs 1 true Y2 []]))), (10, .own (.box (.agg [I 0, I x_.Labels, eOs 1 false V3 out_Rows1]))), (13, .own (eOs 3 false F8_ row1)), (49, .d (eSl 1 true wo r_2.2.1)), (50, .d (I ((r_2.2.1.length : Nat) : Int))), (51, .d (I x51)), (55, .d (eSl 5 true uR u_)), (56, .d (I ((u_.length : Nat) : Int))), (57, .d (I x57))]
abbrev Xs (x_ : z8) (hidden : List Int) (r_2 : List za × List (List z6) × Int) (out_Rows1 : List (List zf)) (x51 : Int) : List (Nat × T) := [(1, .d (eSl 1 false (eI .i64) hidden)), (2, .own (.box (xi x_))), (4, .own (.box (.agg [I 0, I 0, eOs 1 true Y2 []]))), (10, .own (.box (.agg [I 0, I x_.Labels, eOs 1 false V3 out_Rows1]))), (49, .d (eSl 1 true wo r_2.2.1)), (50, .d (I ((r_2.2.1.length : Nat) : Int))), (51, .d (I x51))]
theorem V7 {ctr : Ctr} (hC : zW Tryd.prog ctr) (h09 : ctr.Has uf) (h0h : ctr.Has uV) (h0a : ctr.Has xR) (h0P : ctr.Has wg) (h0Q : ctr.Has qj) (h0R : ctr.Has xj) (h0v : ctr.Has xJ) (h0w : ctr.Has xC) : jx.Ok Tryd.prog := by
 refine yd ?_
 rintro ⟨x_, hidden⟩ r0 hf0
 try unfold jt at hf0
 refine yO false [(4, some 70), (5, none)] yK 121 Tryd.func15 fun E hE => ?_
 obtain ⟨r_, h0, hf0⟩ := zp hf0
 let Z0 : List HO := [Hc h09 (x := x_) h0 (loC xi x_ <| loN)]
 rcases yb hf0 with ⟨c0, hf0⟩ | ⟨c0, hf0⟩
 ·obtain rfl := zn hf0
  exact yE X0 hC hE (Z0 ++ [Hq c0, Hm (shM Y2 Y2 [])])
 ·obtain ⟨r_1, h1, hf0⟩ := zp hf0
  let Z1 : List HO := (Z0 ++ [Hq c0, Hc h0h (x := (hidden, x_.Labels)) h1 (loC F2_ hidden <| loC (eI .i64) x_.Labels <| loN)])
  rcases yb hf0 with ⟨c1, hf0⟩ | ⟨c1, hf0⟩
  ·obtain rfl := zn hf0
   exact yE X0 hC hE (Z1 ++ [Hq c1, Hm (shM Y2 Y2 [])])
  ·obtain ⟨r_2, h2, hf0⟩ := zp hf0
   let Z2 : List HO := (Z1 ++ [Hq c1, Hc h0a (x := x_) h2 (loC xi x_ <| loN)])
   rcases yb hf0 with ⟨c2, hf0⟩ | ⟨c2, hf0⟩
   ·obtain rfl := zn hf0
    exact yE X0 hC hE (Z2 ++ [Hq c2, Hm (shM Y2 Y2 [])])
   ·let Z3 : List HO := (Z2 ++ [Hq c2, Ha (lnM yS r_2.1)])
    rcases yb hf0 with ⟨c3, hf0⟩ | ⟨c3, hf0⟩
    ·obtain rfl := zn hf0
     exact yE X0 hC hE (Z3 ++ [Hq c3, Hm (shM Y2 Y2 [])])
    ·refine yJ X0 hC yK [1,1,1,1,1,1,1] [] [4,10] (fun z : List (List zf) => js x_ z = some r0) (fun z => Xw x_ z) [(1, .d (eSl 1 false (eI .i64) hidden)), (2, .own (.box (xi x_))), (4, .own (.box (.agg [I 0, I 0, eOs 1 true Y2 []]))), (8, .d (eSl 1 true wo r_2.2.1)), (10, .own (.box (.agg [I 0, I x_.Labels, eOs 1 true Y2 []])))] (Z3 ++ [Hq c3, Hh (.cut 1)]) ?_ fun J1 hJ1 => ?_
     ·rintro out_Rows hf0
      unfold js at hf0
      obtain ⟨r_3, h3, hf0⟩ := zp hf0
      obtain rfl := zn hf0
      exact yE X0 hC hE [Hg (z0Q h0w), Hm (shM V3 V3 out_Rows), Hs (z0R h0w (x := out_Rows) h3 (loC (eSl 1 false V3) out_Rows <| loN)), Hm (shM V3 V3 out_Rows)]
     ·obtain ⟨t2, ht2, hf0⟩ := zp hf0
      refine yLx X0 hC yK [1,1,1,1,1,1,1,2,1,0] [J1] (fun s => jp x_ hidden r_2 s.1 s.2) (fun x => Xs x_ hidden r_2 x.1 x.2) (([] : List (List zf)), 0) ht2 [(1, .d (eSl 1 false (eI .i64) hidden)), (2, .own (.box (xi x_))), (4, .own (.box (.agg [I 0, I 0, eOs 1 true Y2 []]))), (10, .own (.box (.agg [I 0, I x_.Labels, eOs 1 true V3 []]))), (49, .d (eSl 1 true wo r_2.2.1)), (50, .d (I ((r_2.2.1.length : Nat) : Int))), (51, .d (I 0))] inferInstance [Ha (lnM wo r_2.2.1)] ?_
      rintro ⟨out_Rows1, x51⟩ m2 lr1 hf1 hl1 J2 hJ2
      try unfold jp at hf1
      rcases yb hf1 with ⟨c4, hf1⟩ | ⟨c4, hf1⟩
      ·refine yJ X0 hC yK [1,1,1,1,1,1,1,2,1,0,0,1,1] [J1, J2] [1,2,4,10,49,50,51] (fun z : List (List zf) => jr x51 z = some lr1) (fun z => Xv x_ hidden r_2 x51 z) [(1, .d (eSl 1 false (eI .i64) hidden)), (2, .own (.box (xi x_))), (4, .own (.box (.agg [I 0, I 0, eOs 1 true Y2 []]))), (10, .own (.box (.agg [I 0, I x_.Labels, eOs 1 false V3 out_Rows1]))), (49, .d (eSl 1 true wo r_2.2.1)), (50, .d (I ((r_2.2.1.length : Nat) : Int))), (51, .d (I x51))] [Hq c4, Hh (.cut 0)] ?_ fun J3 hJ3 => ?_
       ·rintro out_Rows2 hf1
        unfold jr at hf1
        obtain rfl := zn hf1
        exact yB X0 hC hJ2 (out_Rows2, w64 (x51 + 1)) hl1 []
       ·obtain ⟨u_, h4, hf1⟩ := zp hf1
        refine yJ X0 hC yK [1,1,1,1,1,1,1,2,1,0,0,1,1,2,0,1,1] [J1, J2, J3] [1,2,4,10,13,49,50,51] (fun z : List zf => jq out_Rows1 x51 z = some lr1) (fun z => Xu x_ hidden r_2 out_Rows1 x51 z) [(1, .d (eSl 1 false (eI .i64) hidden)), (2, .own (.box (xi x_))), (4, .own (.box (.agg [I 0, I 0, eOs 1 true Y2 []]))), (10, .own (.box (.agg [I 0, I x_.Labels, eOs 1 false V3 out_Rows1]))), (12, .d (eSl 5 true uR u_)), (13, .own (eOs 3 true F8_ [])), (49, .d (eSl 1 true wo r_2.2.1)), (50, .d (I ((r_2.2.1.length : Nat) : Int))), (51, .d (I x51))] [Hi wo h4, Hh (.cut 1)] ?_ fun J4 hJ4 => ?_
        ·rintro row hf1
         unfold jq at hf1
         refine yA X0 hC yK [1,1,1,1,1,1,1,2,1,0,0,1,1,2,0,1,1,1] [J1, J2, J3] [(1, .d (eSl 1 false (eI .i64) hidden)), (2, .own (.box (xi x_))), (4, .own (.box (.agg [I 0, I 0, eOs 1 true Y2 []]))), (10, .own (.box (.agg [I 0, I x_.Labels, eOs 1 false V3 out_Rows1]))), (13, .own (eOs 3 false F8_ row)), (49, .d (eSl 1 true wo r_2.2.1)), (50, .d (I ((r_2.2.1.length : Nat) : Int))), (51, .d (I x51))] [Hh (.cut 0)] ?_
         obtain ⟨sorted, h5, hf1⟩ := zp hf1
         refine z0I (by kernel_rfl) (x := (sub [1,1,1,1,1,1,1,2,1,0,0,1,1,2,0,1,1,1,0] yK)) (y := (sub [1,1,1,1,1,1,1,2,1,0,0,1,1,2,0,1,1,1,1] yK)) 13 (fun st1 => Own.canon [1,2,4,10,13,49,50,51] st1 = ofL [(1, .d (eSl 1 false (eI .i64) hidden)), (2, .own (.box (xi x_))), (4, .own (.box (.agg [I 0, I 0, eOs 1 true Y2 []]))), (10, .own (.box (.agg [I 0, I x_.Labels, eOs 1 false V3 out_Rows1]))), (13, .own (eOs 3 false F8_ sorted)), (49, .d (eSl 1 true wo r_2.2.1)), (50, .d (I ((r_2.2.1.length : Nat) : Int))), (51, .d (I x51))]) (fun pv13 => yF ((qq (P := Tryd.prog) xO [13] (z2N zbl (f := F8_) (t := false) (v := pv13) (fun _ => rfl) (fun _ => rfl) (fun x y c h => xD hC h0Q (x := (x, y)) h) h5) 101).or X0) hC .normal [(1, .d (eSl 1 false (eI .i64) hidden)), (2, .own (.box (xi x_))), (4, .own (.box (.agg [I 0, I 0, eOs 1 true Y2 []]))), (10, .own (.box (.agg [I 0, I x_.Labels, eOs 1 false V3 out_Rows1]))), (13, .own (eOs 3 false F8_ sorted)), (49, .d (eSl 1 true wo r_2.2.1)), (50, .d (I ((r_2.2.1.length : Nat) : Int))), (51, .d (I x51))] [Hn (Ye (f := .fn 27 []) (xs := [.atom pv13, .fn 28 []]) (ls := [(pv13, eOs 3 false F8_ row)]) (r := .tup []) (ys := [eOs 3 false F8_ sorted]) [.atom pv13, .fn 28 []] (show JO [.atom pv13, .fn 28 []] [.atom pv13, .fn 28 []] from inferInstance))] fun st0 h0 => ⟨rfl, h0⟩) fun st1 h1 => z1r h1 ?_
         obtain ⟨r_4, h6, hf1⟩ := zp hf1
         obtain ⟨r_5, h7, hf1⟩ := zp hf1
         let Z4 : List HO := [Hc h0R (x := sorted) h6 (loC (eOs 3 false F8_) sorted <| loN), Hg (z0Q h0v), Hm (shM F8_ F8_ r_4), Hs (z0R h0v (x := r_4) h7 (loC Y2 r_4 <| loN)), Hm (shM F8_ F8_ r_4), Ha (lnM F8_ r_5)]
         rcases yb hf1 with ⟨c5, hf1⟩ | ⟨c5, hf1⟩
         ·obtain rfl := zn hf1
          obtain rfl := hl1
          obtain rfl := zn hf0
          exact yE X0 hC hE (Z4 ++ [Hq c5, Hm (shM Y2 Y2 [])])
         ·obtain ⟨g0, hf1⟩ := gdE hf1
          exact yB X0 hC hJ3 (out_Rows1 ++ ([r_5] : List (List zf))) hf1 (Z4 ++ [Hq c5, Hq (dM V3 ([r_5] : List (List zf))), Hn (dM V3 ([r_5] : List (List zf))), Hn (aL V3 V3 g0), Hl (aM V3 out_Rows1 ([r_5] : List (List zf)))])
        ·obtain ⟨t5, ht5, hf1⟩ := zp hf1
         refine yLx X0 hC yK [1,1,1,1,1,1,1,2,1,0,0,1,1,2,0,1,1,2,1,0] [J1, J2, J3, J4] (fun s => jo x_ hidden u_ s.1 s.2) (fun x => Xr x_ hidden r_2 out_Rows1 x51 u_ x.1 x.2) (([] : List zf), 0) ht5 [(1, .d (eSl 1 false (eI .i64) hidden)), (2, .own (.box (xi x_))), (4, .own (.box (.agg [I 0, I 0, eOs 1 true Y2 []]))), (10, .own (.box (.agg [I 0, I x_.Labels, eOs 1 false V3 out_Rows1]))), (13, .own (eOs 3 true F8_ [])), (49, .d (eSl 1 true wo r_2.2.1)), (50, .d (I ((r_2.2.1.length : Nat) : Int))), (51, .d (I x51)), (55, .d (eSl 5 true uR u_)), (56, .d (I ((u_.length : Nat) : Int))), (57, .d (I 0))] inferInstance [Ha (lnM uR u_)] ?_
         rintro ⟨row1, x57⟩ m5 lr2 hf2 hl2 J5 hJ5
         try unfold jo at hf2
         rcases yb hf2 with ⟨c6, hf2⟩ | ⟨c6, hf2⟩
         ·obtain ⟨u__e, h8, hf2⟩ := zp hf2
          obtain ⟨Part_e, h9, hf2⟩ := zp hf2
          obtain ⟨Arc_e, h10, hf2⟩ := zp hf2
          refine yJ X0 hC yK [1,1,1,1,1,1,1,2,1,0,0,1,1,2,0,1,1,2,1,0,0,1,1,0,0,1,1,1] [J1, J2, J3, J4, J5] [1,2,4,10,13,16,49,50,51,55,56,57] (fun z : Int × Int => wS row1 x57 u__e z.1 z.2 = some lr2) (fun z => Xt x_ hidden r_2 out_Rows1 x51 u_ row1 x57 u__e z.1 z.2) [(1, .d (eSl 1 false (eI .i64) hidden)), (2, .own (.box (xi x_))), (4, .own (.box (.agg [I 0, I 0, eOs 1 true Y2 []]))), (10, .own (.box (.agg [I 0, I x_.Labels, eOs 1 false V3 out_Rows1]))), (13, .own (eOs 3 false F8_ row1)), (16, .own (.box (.agg [.atom (.int .u8 0), I 0, I u__e.To]))), (17, .own (.box (vq Arc_e))), (49, .d (eSl 1 true wo r_2.2.1)), (50, .d (I ((r_2.2.1.length : Nat) : Int))), (51, .d (I x51)), (55, .d (eSl 5 true uR u_)), (56, .d (I ((u_.length : Nat) : Int))), (57, .d (I x57))] [Hq c6, Hi uR h8, Hi wN h9, Hi vq h10, Hh (.cut 0)] ?_ fun J6 hJ6 => ?_
          ·rintro ⟨arc_Kind, arc_Label⟩ hf2
           unfold wS at hf2
           obtain ⟨g1, hf2⟩ := gdE hf2
           obtain rfl := zn hf2
           exact yB X0 hC hJ5 ((row1 ++ ([(zf.mk arc_Kind arc_Label u__e.To)] : List zf)), w64 (x57 + 1)) hl2 [Hq (dM F8_ ([(zf.mk arc_Kind arc_Label u__e.To)] : List zf)), Hn (dM F8_ ([(zf.mk arc_Kind arc_Label u__e.To)] : List zf)), Hn (aL F8_ F8_ g1), Hl (aM F8_ row1 ([(zf.mk arc_Kind arc_Label u__e.To)] : List zf))]
          ·obtain ⟨r_6, h11, hf2⟩ := zp hf2
           let Z5 : List HO := [Hc h0P (x := (hidden, Arc_e.Message)) h11 (loC F2_ hidden <| loC (eI .i64) Arc_e.Message <| loN)]
           rcases yb hf2 with ⟨c7, hf2⟩ | ⟨c7, hf2⟩
           ·rcases yb hf2 with ⟨c8, hf2⟩ | ⟨c8, hf2⟩
            ·exact yB X0 hC hJ6 (2, Arc_e.Message) hf2 (Z5 ++ [Hq c7, Hq c7, Hq c7, Hq c8])
            ·exact yB X0 hC hJ6 (0,0) hf2 (Z5 ++ [Hq c7, Hq c7, Hq c7, Hq c8])
           ·exact yB X0 hC hJ6 (0,0) hf2 (Z5 ++ [Hq c7, Hq c7, Hq c7, qF])
         ·obtain rfl := zn hf2
          obtain rfl := hl2
          exact yB X0 hC hJ4 row1 hf1 [Hq c6]
      ·obtain rfl := zn hf1
       obtain rfl := hl1
       exact yB X0 hC hJ1 out_Rows1 hf0 [Hq c4]
def ul : Code := (Tryd.f16.body).getD .skip
def kr : x5 := spF (α := zF × zF) (ρ := Int) 16 (fun x => [z2E x.1, z2E x.2]) (fun r => (eI .i64) r) (fun x => kH x.1 x.2) [] (UT)
abbrev Ww : List (Nat × T) := []
abbrev Wv (a_ : zF) (b_ : zF) (i_ : Int) : List (Nat × T) := [(2, .own (.box (z2E a_))), (3, .own (.box (z2E b_))), (5, .d (I i_))]
abbrev Wt (a_ : zF) (b_ : zF) (i_ : Int) (k_ : Int) : List (Nat × T) := [(2, .own (.box (z2E a_))), (3, .own (.box (z2E b_))), (5, .d (I i_)), (6, .d (I k_))]
abbrev Wu (a_ : zF) (b_ : zF) (i_ : Int) : List (Nat × T) := [(2, .own (.box (z2E a_))), (3, .own (.box (z2E b_))), (5, .d (I i_))]
theorem Q3 {ctr : Ctr} (hC : zW Tryd.prog ctr) : kr.Ok Tryd.prog := by
 refine yd ?_
 rintro ⟨a_, b_⟩ r0 hf0
 try unfold kH at hf0
 refine yO true [(4, none)] ul 75 Tryd.func16 fun E hE => ?_
 rcases yb hf0 with ⟨c0, hf0⟩ | ⟨c0, hf0⟩
 ·obtain rfl := zn hf0
  exact yE X0 hC hE (rpN 6 (Hq c0) (rpN 9 qT []))
 ·let Z0 : List HO := (rpN 6 (Hq c0) [])
  rcases yb hf0 with ⟨c1, hf0⟩ | ⟨c1, hf0⟩
  ·obtain rfl := zn hf0
   exact yE X0 hC hE (Z0 ++ (rpN 8 (Hq c1) [qT]))
  ·let Z1 : List HO := (Z0 ++ [Hq c1, Hq c1, Hq c1, Ha (lnM Y2 a_.Rows), Hq c1, Hq c1, Hq c1, Ha (lnM Y2 b_.Rows), Hq c1, Hq c1])
   rcases yb hf0 with ⟨c2, hf0⟩ | ⟨c2, hf0⟩
   ·obtain rfl := zn hf0
    exact yE X0 hC hE (Z1 ++ [Hq c2])
   ·refine yJ X0 hC ul [1,1] [] [] (fun z : Unit => ky = some r0) (fun z => Ww) [(2, .own (.box (z2E a_))), (3, .own (.box (z2E b_)))] (Z1 ++ [Hq c2, Hh (.cut 0)]) ?_ fun J1 hJ1 => ?_
    ·rintro ⟨⟩ hf0
     unfold ky at hf0
     obtain rfl := zn hf0
     exact yE X0 hC hE []
    ·obtain ⟨t2, ht2, hf0⟩ := zp hf0
     refine yL X0 hC ul [1,1,2,1,0] [J1] (fun s => kw a_ b_ s) (fun x => Wu a_ b_ x) 0 ht2  [] ?_
     rintro i_ m2 lr1 hf1 hl1 J2 hJ2
     try unfold kw at hf1
     let Z2 : List HO := [Ha (lnM Y2 a_.Rows)]
     rcases yb hf1 with ⟨c3, hf1⟩ | ⟨c3, hf1⟩
     ·refine yJ X0 hC ul [1,1,2,1,0,0,1] [J1, J2] [2,3,5] (fun z : Unit => kx i_ = some lr1) (fun z => Wv a_ b_ i_) [(2, .own (.box (z2E a_))), (3, .own (.box (z2E b_))), (5, .d (I i_))] (Z2 ++ [Hq c3, Hh (.cut 0)]) ?_ fun J3 hJ3 => ?_
      ·rintro ⟨⟩ hf1
       unfold kx at hf1
       obtain rfl := zn hf1
       exact yB X0 hC hJ2 (w64 (i_ + 1)) hl1 []
      ·obtain ⟨Row_e, h0, hf1⟩ := zp hf1
       obtain ⟨Row_e1, h1, hf1⟩ := zp hf1
       let Z3 : List HO := [Hi Y2 h0, Ha (lnM F8_ Row_e), Hi Y2 h1, Ha (lnM F8_ Row_e1)]
       rcases yb hf1 with ⟨c4, hf1⟩ | ⟨c4, hf1⟩
       ·obtain rfl := zn hf1
        obtain rfl := hl1
        obtain rfl := zn hf0
        exact yE X0 hC hE (Z3 ++ [Hq c4])
       ·obtain ⟨t4, ht4, hf1⟩ := zp hf1
        refine yL X0 hC ul [1,1,2,1,0,0,1,2,0,1,1,0] [J1, J2, J3] (fun s => ku a_ b_ i_ s) (fun x => Wt a_ b_ i_ x) 0 ht4  (Z3 ++ [Hq c4]) ?_
        rintro k_ m4 lr2 hf2 hl2 J4 hJ4
        try unfold ku at hf2
        obtain ⟨Row_e2, h2, hf2⟩ := zp hf2
        let Z4 : List HO := [Hi Y2 h2, Ha (lnM F8_ Row_e2)]
        rcases yb hf2 with ⟨c5, hf2⟩ | ⟨c5, hf2⟩
        ·obtain ⟨Row_e3, h3, hf2⟩ := zp hf2
         obtain ⟨Row_e_e, h4, hf2⟩ := zp hf2
         obtain ⟨Row_e4, h5, hf2⟩ := zp hf2
         obtain ⟨Row_e_e1, h6, hf2⟩ := zp hf2
         let Z5 : List HO := (Z4 ++ [Hq c5, Hi Y2 h3, Hi F8_ h4, Hi Y2 h5, Hi F8_ h6])
         rcases yb hf2 with ⟨c6, hf2⟩ | ⟨c6, hf2⟩
         ·obtain rfl := zn hf2
          obtain rfl := hl2
          obtain rfl := zn hf1
          obtain rfl := hl1
          obtain rfl := zn hf0
          exact yE X0 hC hE (Z5 ++ [Hq c6])
         ·obtain rfl := zn hf2
          exact yB X0 hC hJ4 (w64 (k_ + 1)) hl2 (Z5 ++ [Hq c6])
        ·obtain rfl := zn hf2
         obtain rfl := hl2
         exact yB X0 hC hJ3 () hf1 (Z4 ++ [Hq c5])
     ·obtain rfl := zn hf1
      obtain rfl := hl1
      exact yB X0 hC hJ1 () hf0 (Z2 ++ [Hq c3])
def ua : Code := (Tryd.f77.body).getD .skip
def vZ : x5 := spF (α := List Int × Int) (ρ := Int) 77 (fun x => [F2_ x.1, (eI .i64) x.2]) (fun r => (eI .i64) r) (fun x => qn x.1 x.2) [] (UT)
abbrev ZD : List (Nat × T) := []
abbrev ZC (s_ : List Int) (v_ : Int) (x8 : Int) : List (Nat × T) := [(0, .d (eSl 1 false (eI .i64) s_)), (1, .d (I v_)), (7, .d (I ((s_.length : Nat) : Int))), (8, .d (I x8))]
theorem YS {ctr : Ctr} (hC : zW Tryd.prog ctr) : vZ.Ok Tryd.prog := by
 refine yd ?_
 rintro ⟨s_, v_⟩ r0 hf0
 try unfold qn at hf0
 refine yO true [(4, none)] ua 19 Tryd.func77 fun E hE => ?_
 refine yJ X0 hC ua [1] [] [] (fun z : Unit => u3 = some r0) (fun z => ZD) [(0, .d (eSl 1 false (eI .i64) s_)), (1, .d (I v_))] [Hh (.cut 1)] ?_ fun J1 hJ1 => ?_
 ·rintro ⟨⟩ hf0
  unfold u3 at hf0
  obtain rfl := zn hf0
  exact yE X0 hC hE []
 ·obtain ⟨t2, ht2, hf0⟩ := zp hf0
  refine yL X0 hC ua [1,2,1,0] [J1] (fun s => u2 s_ v_ s) (fun x => ZC s_ v_ x) 0 ht2  [Ha (lnM (eI .i64) s_)] ?_
  rintro x8 m2 lr1 hf1 hl1 J2 hJ2
  try unfold u2 at hf1
  rcases yb hf1 with ⟨c0, hf1⟩ | ⟨c0, hf1⟩
  ·obtain ⟨s__e, h0, hf1⟩ := zp hf1
   rcases yb hf1 with ⟨c1, hf1⟩ | ⟨c1, hf1⟩
   ·obtain rfl := zn hf1
    obtain rfl := hl1
    obtain rfl := zn hf0
    exact yE X0 hC hE [Hq c0, Hi (eI .i64) h0, Hq c1]
   ·obtain rfl := zn hf1
    exact yB X0 hC hJ2 (w64 (x8 + 1)) hl1 [Hq c0, Hi (eI .i64) h0, Hq c1]
  ·obtain rfl := zn hf1
   obtain rfl := hl1
   exact yB X0 hC hJ1 () hf0 [Hq c0]
def Zt : Code := (Tryd.f57.body).getD .skip
def wL : x5 := spF (α := List Int × Int) (ρ := Bool) 57 (fun x => [F2_ x.1, (eI .i64) x.2]) (fun r => eB r) (fun x => u4 x.1 x.2) [] (UT)
theorem ZK {ctr : Ctr} (hC : zW Tryd.prog ctr) (h0S : ctr.Has vZ) : wL.Ok Tryd.prog := by
 refine yd ?_
 rintro ⟨s_, v_⟩ r0 hf0
 try unfold u4 at hf0
 refine yO true [(4, none)] Zt 9 Tryd.func57 fun E hE => ?_
 obtain ⟨r_, h0, hf0⟩ := zp hf0
 obtain rfl := zn hf0
 exact yE X0 hC hE [Hc h0S (x := (s_, v_)) h0 (loC F2_ s_ <| loC (eI .i64) v_ <| loN)]
def u9 : Code := (Tryd.f35.body).getD .skip
def vX : x5 := spF (α := z8 × za) (ρ := Bool) 35 (fun x => [xi x.1, yS x.2]) (fun r => eB r) (fun x => qg x.1 x.2) [] (UT)
abbrev Zw (s_ : za) : List (Nat × T) := [(3, .own (.box (yS s_)))]
abbrev Zv (x_ : z8) (s_ : za) (x10 : Int) : List (Nat × T) := [(3, .own (.box (yS s_))), (8, .d (eSl 3 false wN x_.Parts)), (9, .d (I ((x_.Parts.length : Nat) : Int))), (10, .d (I x10))]
theorem YP {ctr : Ctr} (hC : zW Tryd.prog ctr) (h0T : ctr.Has wL) : vX.Ok Tryd.prog := by
 refine yd ?_
 rintro ⟨x_, s_⟩ r0 hf0
 try unfold qg at hf0
 refine yO true [(4, none)] u9 28 Tryd.func35 fun E hE => ?_
 refine yJ X0 hC u9 [1] [] [3] (fun z : Unit => vR s_ = some r0) (fun z => Zw s_) [(2, .own (.box (xi x_))), (3, .own (.box (yS s_)))] [Hh (.cut 1)] ?_ fun J1 hJ1 => ?_
 ·rintro ⟨⟩ hf0
  unfold vR at hf0
  obtain rfl := zn hf0
  exact yE ((zbe zY 27).or X0) hC hE []
 ·obtain ⟨t2, ht2, hf0⟩ := zp hf0
  refine yL X0 hC u9 [1,2,1,0] [J1] (fun s => vQ x_ s_ s) (fun x => Zv x_ s_ x) 0 ht2  [Ha (lnM wN x_.Parts)] ?_
  rintro x10 m2 lr1 hf1 hl1 J2 hJ2
  try unfold vQ at hf1
  rcases yb hf1 with ⟨c0, hf1⟩ | ⟨c0, hf1⟩
  ·obtain ⟨Part_e, h0, hf1⟩ := zp hf1
   obtain ⟨cell, h1, hf1⟩ := zp hf1
   obtain ⟨r_, h2, hf1⟩ := zp hf1
   let Z0 : List HO := [Hq c0, Hi wN h0, Hn (⟨arJ (by kernel_rfl) (i0 h1), (iL (eI .i64) h1).2⟩ : Yb xO 85 ((y5.toL s_.states_).map (eI .i64)) x10 = true ∧ x10.toNat < ((y5.toL s_.states_).map (eI .i64)).length), Hh (.op 9), Hh (.f), Hx (.a (.agg [I s_.states_.e0, I s_.states_.e1, I s_.states_.e2, I s_.states_.e3])) (rfl : some (.agg [I s_.states_.e0, I s_.states_.e1, I s_.states_.e2, I s_.states_.e3] : A) = some (.agg [I s_.states_.e0, I s_.states_.e1, I s_.states_.e2, I s_.states_.e3])), Hh (.f), Hs (iM (eI .i64) h1), Hc h0T (x := (Part_e.Final, cell)) h2 (loC F2_ Part_e.Final <| loC (eI .i64) cell <| loN)]
   rcases yb hf1 with ⟨c1, hf1⟩ | ⟨c1, hf1⟩
   ·obtain rfl := zn hf1
    obtain rfl := hl1
    obtain rfl := zn hf0
    exact yE X0 hC hE (Z0 ++ [Hq c1])
   ·obtain rfl := zn hf1
    exact yB X0 hC hJ2 (w64 (x10 + 1)) hl1 (Z0 ++ [Hq c1])
  ·obtain rfl := zn hf1
   obtain rfl := hl1
   exact yB X0 hC hJ1 () hf0 [Hq c0]
def xS : Code := (Tryd.f36.body).getD .skip
abbrev vh (s_1 : List zc) (i_ : Int) (j_ : Int) : List (Nat × T) := [(0, .own (eOs 4 false ve s_1)), (2, .d (I i_)), (3, .d (I j_))]
theorem uc {ctr : Ctr} (hC : zW Tryd.prog ctr) (cv0 : Value) : ∀ (s_ : List zc) (r0 : List zc), yY s_ = some r0 → kD Tryd.prog (.fn 36 []) [.atom cv0] ([cv0].zip [eOs 4 false ve s_]) (.tup []) [eOs 4 false ve r0] := by
 intro s_ r0 hf0
 refine z5n (tt := xO) (nt := 28) (body := xS) [0] zY Tryd.func36 rfl (by kernel_rfl) rfl rfl (by show (1 : Nat) ≤ 28; decide) (by decide) rfl rfl (fun E hE => ?_) rfl
 unfold yY at hf0
 refine z9M 0 (v := cv0) (y := eOs 4 false ve s_) (by kernel_rfl) (by kernel_rfl) (by kernel_rfl) fun hv0 => ?_
 obtain ⟨t1, ht1, hf0⟩ := zp hf0
 refine yL X0 hC xS [1,0] [] (fun s => yP s.1 s.2.1 s.2.2) (fun x => vh x.1 x.2.1 x.2.2) (s_, 0, w64 (((s_.length : Nat) : Int) - 1)) ht1  [Ha (lnM ve s_)] ?_
 rintro ⟨s_1, i_, j_⟩ m1 lr1 hf1 hl1 J1 hJ1
 try unfold yP at hf1
 rcases yb hf1 with ⟨c0, hf1⟩ | ⟨c0, hf1⟩
 ·obtain ⟨s__e, h0, hf1⟩ := zp hf1
  obtain ⟨s__e1, h1, hf1⟩ := zp hf1
  obtain ⟨s__e2, h2, hf1⟩ := zp hf1
  obtain ⟨u_e, h3, hf1⟩ := zp hf1
  obtain rfl := zn hf1
  exact yB ((xIx zY 27 0 cv0).or ((xMv Tryd.prog 16 0 cv0 hv0).or X0)) hC hJ1 (((s_1.set i_.toNat s__e).set j_.toNat s__e1), w64 (i_ + 1), w64 (j_ - 1)) hl1 [Hq c0, Hn (rfl : some cv0 = some cv0), Hn (iL ve h0), Hs (iM ve h0), Hn (iL ve h1), Hs (iM ve h1), Hn (iL ve h2), Hs (iM ve h2), Hs (iM ve h2), Hl (sM ve s_1 i_ s__e), Hn (⟨rfl, rfl⟩ : T.d (.atom cv0) = T.d (.atom cv0) ∧ some cv0 = some cv0), Hn (iL ve h3), Hs (iM ve h3), Hs (iM ve h3), Hl (sM ve (s_1.set i_.toNat s__e) j_ s__e1)]
 ·obtain rfl := zn hf1
  obtain rfl := hl1
  obtain rfl := zn hf0
  exact yF X0 hC .normal [(0, .own (eOs 4 false ve s_1))] [Hq c0] fun st0 h0 => hE _ st0 (.inl rfl) (z3a h0 ⟨⟨rfl, rfl⟩, trivial⟩)
def uF : Code := (Tryd.f37.body).getD .skip
def yX : x5 := spF (α := List zc) (ρ := List zc) 37 (fun x => [zaW x]) (fun r => z64 r) (fun x => xq x) [] (Us)
theorem uN {ctr : Ctr} (hC : zW Tryd.prog ctr) : yX.Ok Tryd.prog := by
 refine yd ?_
 rintro s_ r0 hf0
 try unfold xq at hf0
 refine yO true [(2, none)] uF 9 Tryd.func37 fun E hE => ?_
 obtain ⟨g0, hf0⟩ := gdE hf0
 obtain rfl := zn hf0
 exact yE X0 hC hE [Ha (lnM ve s_), Ha (lnM ve s_), Hn (slB g0), Hn (slC g0), Hn (z2l ve g0), Ha (z8m 4 ve s_ 0 ((s_.length : Nat) : Int).toNat)]
def zT : Code := (Tryd.f17.body).getD .skip
def qX : x5 := spF (α := z8) (ρ := List zc × z7 × Int) 17 (fun x => [xi x]) (fun r => .tup [z64 r.1, KA r.2.1, (eI .i64) r.2.2]) (fun x => qI x) [] (Us)
abbrev X6 : List (Nat × T) := [(3, .own (.box (.agg [eOs 1 true (eI .i64) [], eOs 1 true F2_ []])))]
abbrev X5 (x_ : z8) (r_1 : List za × List (List z6) × Int) (by_ : List zu) (x69 : Int) : List (Nat × T) := [(1, .own (.box (xi x_))), (3, .own (.box (.agg [eOs 1 true (eI .i64) [], eOs 1 true F2_ []]))), (6, .d (eSl 24 false yS r_1.1)), (9, .own (eOs 5 true Um by_)), (67, .d (eSl 1 true wo r_1.2.1)), (68, .d (I ((r_1.2.1.length : Nat) : Int))), (69, .d (I x69))]
abbrev X4 (x_ : z8) (r_1 : List za × List (List z6) × Int) (x69 : Int) (run : List zc) : List (Nat × T) := [(1, .own (.box (xi x_))), (3, .own (.box (.agg [eOs 1 true (eI .i64) [], eOs 1 true F2_ []]))), (6, .d (eSl 24 false yS r_1.1)), (15, .d (I x69)), (17, .own (eOs 4 false ve run))]
abbrev X1 (x_ : z8) (r_1 : List za × List (List z6) × Int) (by_ : List zu) (x69 : Int) (run1 : List zc) (n_ : Int) : List (Nat × T) := [(1, .own (.box (xi x_))), (3, .own (.box (.agg [eOs 1 true (eI .i64) [], eOs 1 true F2_ []]))), (6, .d (eSl 24 false yS r_1.1)), (9, .own (eOs 5 true Um by_)), (15, .d (I x69)), (17, .own (eOs 4 false ve run1)), (18, .d (I n_))]
abbrev X2 (x_ : z8) (r_1 : List za × List (List z6) × Int) (by_ : List zu) (x69 : Int) : List (Nat × T) := [(1, .own (.box (xi x_))), (3, .own (.box (.agg [eOs 1 true (eI .i64) [], eOs 1 true F2_ []]))), (6, .d (eSl 24 false yS r_1.1)), (9, .own (eOs 5 true Um by_)), (67, .d (eSl 1 true wo r_1.2.1)), (68, .d (I ((r_1.2.1.length : Nat) : Int))), (69, .d (I x69))]
abbrev X7 (x_ : z8) (r_1 : List za × List (List z6) × Int) (by_ : List zu) : List (Nat × T) := [(1, .own (.box (xi x_))), (3, .own (.box (.agg [eOs 1 true (eI .i64) [], eOs 1 true F2_ []]))), (6, .d (eSl 24 false yS r_1.1)), (7, .d (eSl 1 true wo r_1.2.1)), (9, .own (eOs 5 true Um by_))]
abbrev X3 (x_ : z8) (r_1 : List za × List (List z6) × Int) (x40 : Int) (by_2 : List zu) (seen1 : Int) : List (Nat × T) := [(1, .own (.box (xi x_))), (3, .own (.box (.agg [eOs 1 true (eI .i64) [], eOs 1 true F2_ []]))), (6, .d (eSl 24 false yS r_1.1)), (7, .d (eSl 1 true wo r_1.2.1)), (9, .own (eOs 5 true Um by_2)), (10, .d (I seen1)), (38, .d (eSl 1 true wo r_1.2.1)), (39, .d (I ((r_1.2.1.length : Nat) : Int))), (40, .d (I x40))]
abbrev YI (x_ : z8) (r_1 : List za × List (List z6) × Int) (x40 : Int) (u_3 : List z6) (x47 : Int) (by_4 : List zu) (seen3 : Int) : List (Nat × T) := [(1, .own (.box (xi x_))), (3, .own (.box (.agg [eOs 1 true (eI .i64) [], eOs 1 true F2_ []]))), (6, .d (eSl 24 false yS r_1.1)), (7, .d (eSl 1 true wo r_1.2.1)), (9, .own (eOs 5 true Um by_4)), (10, .d (I seen3)), (11, .d (I x40)), (38, .d (eSl 1 true wo r_1.2.1)), (39, .d (I ((r_1.2.1.length : Nat) : Int))), (40, .d (I x40)), (45, .d (eSl 5 true uR u_3)), (46, .d (I ((u_3.length : Nat) : Int))), (47, .d (I x47))]
abbrev YX (x_ : z8) (r_1 : List za × List (List z6) × Int) (x40 : Int) (u_3 : List z6) (by_3 : List zu) (seen2 : Int) (x47 : Int) : List (Nat × T) := [(1, .own (.box (xi x_))), (3, .own (.box (.agg [eOs 1 true (eI .i64) [], eOs 1 true F2_ []]))), (6, .d (eSl 24 false yS r_1.1)), (7, .d (eSl 1 true wo r_1.2.1)), (9, .own (eOs 5 true Um by_3)), (10, .d (I seen2)), (11, .d (I x40)), (38, .d (eSl 1 true wo r_1.2.1)), (39, .d (I ((r_1.2.1.length : Nat) : Int))), (40, .d (I x40)), (45, .d (eSl 5 true uR u_3)), (46, .d (I ((u_3.length : Nat) : Int))), (47, .d (I x47))]
abbrev YZ (x_ : z8) (r_1 : List za × List (List z6) × Int) (by_1 : List zu) (seen : Int) (x40 : Int) : List (Nat × T) := [(1, .own (.box (xi x_))), (3, .own (.box (.agg [eOs 1 true (eI .i64) [], eOs 1 true F2_ []]))), (6, .d (eSl 24 false yS r_1.1)), (7, .d (eSl 1 true wo r_1.2.1)), (9, .own (eOs 5 true Um by_1)), (10, .d (I seen)), (38, .d (eSl 1 true wo r_1.2.1)), (39, .d (I ((r_1.2.1.length : Nat) : Int))), (40, .d (I x40))]
theorem Wy {ctr : Ctr} (hC : zW Tryd.prog ctr) (h09 : ctr.Has uf) (h0a : ctr.Has xR) (h0U : ctr.Has vX) (h0x : ctr.Has yX) (h0k : ctr.Has wq) : qX.Ok Tryd.prog := by
 refine yd ?_
 rintro x_ r0 hf0
 try unfold qI at hf0
 refine yO false [(2, none), (3, some 53), (4, none)] zT 113 Tryd.func17 fun E hE => ?_
 obtain ⟨r_, h0, hf0⟩ := zp hf0
 let Z0 : List HO := [Hc h09 (x := x_) h0 (loC xi x_ <| loN)]
 rcases yb hf0 with ⟨c0, hf0⟩ | ⟨c0, hf0⟩
 ·obtain rfl := zn hf0
  exact yEx X0 hC hE (Z0 ++ [Hq c0, Hm (shM ve ve []), Hm (shM (eI .i64) (eI .i64) []), Hm (shM F2_ F2_ [])]) (.tup [eSl 4 true ve [], .agg [eSl 1 true (eI .i64) [], eSl 1 true F1_ []], I r_]) (show LeV (.tup [eSl 4 true ve [], .agg [eSl 1 true (eI .i64) [], eSl 1 true F1_ []], I r_]) (.tup [eSl 4 true ve ([] : List zc), .agg [eSl 1 true (eI .i64) [], eSl 1 true F1_ []], I r_]) from inferInstance)
 ·obtain ⟨r_1, h1, hf0⟩ := zp hf0
  let Z1 : List HO := (Z0 ++ [Hq c0, Hc h0a (x := x_) h1 (loC xi x_ <| loN)])
  rcases yb hf0 with ⟨c1, hf0⟩ | ⟨c1, hf0⟩
  ·obtain rfl := zn hf0
   exact yEx X0 hC hE (Z1 ++ [Hq c1, Hm (shM ve ve []), Hm (shM (eI .i64) (eI .i64) []), Hm (shM F2_ F2_ [])]) (.tup [eSl 4 true ve [], .agg [eSl 1 true (eI .i64) [], eSl 1 true F1_ []], I r_1.2.2]) (show LeV (.tup [eSl 4 true ve [], .agg [eSl 1 true (eI .i64) [], eSl 1 true F1_ []], I r_1.2.2]) (.tup [eSl 4 true ve ([] : List zc), .agg [eSl 1 true (eI .i64) [], eSl 1 true F1_ []], I r_1.2.2]) from inferInstance)
  ·obtain ⟨g0, hf0⟩ := gdE hf0
   refine yJ X0 hC zT [1,1,1,1,1,1] [] [1,3,6,7,9] (fun z : List zu => qW x_ r_1 z = some r0) (fun z => X7 x_ r_1 z) [(1, .own (.box (xi x_))), (3, .own (.box (.agg [eOs 1 true (eI .i64) [], eOs 1 true F2_ []]))), (6, .d (eSl 24 false yS r_1.1)), (7, .d (eSl 1 true wo r_1.2.1)), (9, .own (eOs 5 true Um (List.replicate ((r_1.1.length : Nat) : Int).toNat (zu.mk 0 (zc.mk 0 0 0 0))))), (10, .d (I 1))] (Z1 ++ [Hq c1, Ha (lnM yS r_1.1), Hn (rL g0), Ha (rM 5 Um ((r_1.1.length : Nat) : Int) (zu.mk 0 (zc.mk 0 0 0 0))), Hh (.cut 1)]) ?_ fun J1 hJ1 => ?_
   ·rintro by_ hf0
    unfold qW at hf0
    refine yJ X0 hC zT [1,1,1,1,1,1,1] [] [3] (fun z : Unit => qV = some r0) (fun z => X6) [(1, .own (.box (xi x_))), (3, .own (.box (.agg [eOs 1 true (eI .i64) [], eOs 1 true F2_ []]))), (6, .d (eSl 24 false yS r_1.1)), (7, .d (eSl 1 true wo r_1.2.1)), (9, .own (eOs 5 true Um by_))] [Hh (.cut 0)] ?_ fun J2 hJ2 => ?_
    ·rintro ⟨⟩ hf0
     unfold qV at hf0
     obtain rfl := zn hf0
     exact yEx X0 hC hE [Hm (shM ve ve []), Hm (shM (eI .i64) (eI .i64) []), Hm (shM F2_ F2_ [])] (.tup [eSl 4 true ve [], .agg [eSl 1 true (eI .i64) [], eSl 1 true F1_ []], I 7]) (show LeV (.tup [eSl 4 true ve [], .agg [eSl 1 true (eI .i64) [], eSl 1 true F1_ []], I 7]) (.tup [eSl 4 true ve ([] : List zc), .agg [eSl 1 true (eI .i64) [], eSl 1 true F1_ []], I 7]) from inferInstance)
    ·obtain ⟨t3, ht3, hf0⟩ := zp hf0
     refine yL X0 hC zT [1,1,1,1,1,1,1,2,1,0] [J2] (fun s => qR x_ r_1 by_ s) (fun x => X2 x_ r_1 by_ x) 0 ht3  [Ha (lnM wo r_1.2.1)] ?_
     rintro x69 m3 lr1 hf1 hl1 J3 hJ3
     try unfold qR at hf1
     rcases yb hf1 with ⟨c2, hf1⟩ | ⟨c2, hf1⟩
     ·refine yJ X0 hC zT [1,1,1,1,1,1,1,2,1,0,0,1,1] [J2, J3] [1,3,6,9,67,68,69] (fun z : Unit => vU x69 = some lr1) (fun z => X5 x_ r_1 by_ x69) [(1, .own (.box (xi x_))), (3, .own (.box (.agg [eOs 1 true (eI .i64) [], eOs 1 true F2_ []]))), (6, .d (eSl 24 false yS r_1.1)), (9, .own (eOs 5 true Um by_)), (67, .d (eSl 1 true wo r_1.2.1)), (68, .d (I ((r_1.2.1.length : Nat) : Int))), (69, .d (I x69))] [Hq c2, Hh (.cut 0)] ?_ fun J4 hJ4 => ?_
      ·rintro ⟨⟩ hf1
       unfold vU at hf1
       obtain rfl := zn hf1
       exact yB X0 hC hJ3 (w64 (x69 + 1)) hl1 []
      ·obtain ⟨u_, h2, hf1⟩ := zp hf1
       let Z2 : List HO := [Hi wo h2, Ha (lnM uR u_)]
       rcases yb hf1 with ⟨c3, hf1⟩ | ⟨c3, hf1⟩
       ·exact yB X0 hC hJ4 () hf1 (Z2 ++ (rpN 7 (Hq c3) [qT]))
       ·obtain ⟨u_1, h3, hf1⟩ := zp hf1
        obtain ⟨r_2, h4, hf1⟩ := zp hf1
        let Z3 : List HO := (Z2 ++ (rpN 4 (Hq c3) [Hi yS h3, Hq c3, Hq c3, Hc h0U (x := (x_, u_1)) h4 (loC xi x_ <| loC yS u_1 <| loN), Hq c3]))
        rcases yb hf1 with ⟨c4, hf1⟩ | ⟨c4, hf1⟩
        ·exact yB X0 hC hJ4 () hf1 (Z3 ++ [Hq c4])
        ·refine yJ X0 hC zT [1,1,1,1,1,1,1,2,1,0,0,1,1,2,0,1,1,1] [J2, J3, J4] [1,3,6,15,17] (fun z : List zc => qU x_ r_1 x69 z = some lr1) (fun z => X4 x_ r_1 x69 z) [(1, .own (.box (xi x_))), (3, .own (.box (.agg [eOs 1 true (eI .i64) [], eOs 1 true F2_ []]))), (6, .d (eSl 24 false yS r_1.1)), (9, .own (eOs 5 true Um by_)), (15, .d (I x69)), (17, .own (eOs 4 true ve []))] (Z3 ++ [Hq c4, Hh (.cut 1)]) ?_ fun J5 hJ5 => ?_
         ·rintro run hf1
          unfold qU at hf1
          refine yA X0 hC zT [1,1,1,1,1,1,1,2,1,0,0,1,1,2,0,1,1,1,1] [J2, J3, J4] [(1, .own (.box (xi x_))), (3, .own (.box (.agg [eOs 1 true (eI .i64) [], eOs 1 true F2_ []]))), (6, .d (eSl 24 false yS r_1.1)), (15, .d (I x69)), (17, .own (eOs 4 false ve run))] [Hh (.cut 0)] ?_
          obtain ⟨r_3, h5, hf1⟩ := zp hf1
          refine z0I (by kernel_rfl) (x := (sub [1,1,1,1,1,1,1,2,1,0,0,1,1,2,0,1,1,1,1,0] zT)) (y := (sub [1,1,1,1,1,1,1,2,1,0,0,1,1,2,0,1,1,1,1,1] zT)) 17 (fun st1 => Own.canon [1,3,6,15,17] st1 = ofL [(1, .own (.box (xi x_))), (3, .own (.box (.agg [eOs 1 true (eI .i64) [], eOs 1 true F2_ []]))), (6, .d (eSl 24 false yS r_1.1)), (15, .d (I x69)), (17, .own (eOs 4 false ve r_3))]) (fun pv17 => yF ((qq (P := Tryd.prog) xO [17] (uc hC pv17 _ _ h5) 102).or X0) hC .normal [(1, .own (.box (xi x_))), (3, .own (.box (.agg [eOs 1 true (eI .i64) [], eOs 1 true F2_ []]))), (6, .d (eSl 24 false yS r_1.1)), (15, .d (I x69)), (17, .own (eOs 4 false ve r_3))] [Hn (Ye (f := .fn 36 []) (xs := [.atom pv17]) (ls := [(pv17, eOs 4 false ve run)]) (r := .tup []) (ys := [eOs 4 false ve r_3]) [.atom pv17] (show JO [.atom pv17] [.atom pv17] from inferInstance))] fun st0 h0 => ⟨rfl, h0⟩) fun st1 h1 => z1r h1 ?_
          obtain ⟨r_4, h6, hf1⟩ := zp hf1
          obtain ⟨u_2, h7, hf1⟩ := zp hf1
          obtain ⟨r_5, h8, hf1⟩ := zp hf1
          obtain rfl := zn hf1
          obtain rfl := hl1
          obtain rfl := zn hf0
          exact yE X0 hC hE [Hg (z0Q h0x), Hm (shM ve ve r_3), Hs (z0R h0x (x := r_3) h6 (loC zaW r_3 <| loN)), Hm (shM ve ve r_3), Hi yS h7, Hc h0k (x := (x_, u_2)) h8 (loC xi x_ <| loC yS u_2 <| loN)]
         ·obtain ⟨t6, ht6, hf1⟩ := zp hf1
          refine yLx X0 hC zT [1,1,1,1,1,1,1,2,1,0,0,1,1,2,0,1,1,1,2,1,0] [J2, J3, J4, J5] (fun s => qQ by_ s.1 s.2) (fun x => X1 x_ r_1 by_ x69 x.1 x.2) (([] : List zc), x69) ht6 [(1, .own (.box (xi x_))), (3, .own (.box (.agg [eOs 1 true (eI .i64) [], eOs 1 true F2_ []]))), (6, .d (eSl 24 false yS r_1.1)), (9, .own (eOs 5 true Um by_)), (15, .d (I x69)), (17, .own (eOs 4 true ve [])), (18, .d (I x69))] inferInstance [] ?_
          rintro ⟨run1, n_⟩ m6 lr2 hf2 hl2 J6 hJ6
          try unfold qQ at hf2
          rcases yb hf2 with ⟨c5, hf2⟩ | ⟨c5, hf2⟩
          ·obtain ⟨by__e, h9, hf2⟩ := zp hf2
           obtain ⟨g1, hf2⟩ := gdE hf2
           obtain ⟨by__e1, h10, hf2⟩ := zp hf2
           obtain rfl := zn hf2
           exact yB X0 hC hJ6 ((run1 ++ ([by__e.move_] : List zc)), by__e1.from_) hl2 [Hq c5, Hn (iL Um h9), Hs (iM Um h9), Hs (iM Um h9), Hq (dM ve ([by__e.move_] : List zc)), Hn (dM ve ([by__e.move_] : List zc)), Hn (aL ve ve g1), Hl (aM ve run1 ([by__e.move_] : List zc)), Hn (iL Um h10), Hs (iM Um h10), Hs (iM Um h10)]
          ·obtain rfl := zn hf2
           obtain rfl := hl2
           exact yB X0 hC hJ5 run1 hf1 [Hq c5]
     ·obtain rfl := zn hf1
      obtain rfl := hl1
      exact yB X0 hC hJ2 () hf0 [Hq c2]
   ·obtain ⟨t7, ht7, hf0⟩ := zp hf0
    refine yL X0 hC zT [1,1,1,1,1,1,2,1,0] [J1] (fun s => qP r_1 s.1 s.2.1 s.2.2) (fun x => YZ x_ r_1 x.1 x.2.1 x.2.2) ((List.replicate ((r_1.1.length : Nat) : Int).toNat (zu.mk 0 (zc.mk 0 0 0 0))), 1,0) ht7  [Ha (lnM wo r_1.2.1)] ?_
    rintro ⟨by_1, seen, x40⟩ m7 lr1 hf1 hl1 J7 hJ7
    try unfold qP at hf1
    rcases yb hf1 with ⟨c6, hf1⟩ | ⟨c6, hf1⟩
    ·refine yJ X0 hC zT [1,1,1,1,1,1,2,1,0,0,1,1] [J1, J7] [1,3,6,7,9,10,38,39,40] (fun z : List zu × Int => qS x40 z.1 z.2 = some lr1) (fun z => X3 x_ r_1 x40 z.1 z.2) [(1, .own (.box (xi x_))), (3, .own (.box (.agg [eOs 1 true (eI .i64) [], eOs 1 true F2_ []]))), (6, .d (eSl 24 false yS r_1.1)), (7, .d (eSl 1 true wo r_1.2.1)), (9, .own (eOs 5 true Um by_1)), (10, .d (I seen)), (38, .d (eSl 1 true wo r_1.2.1)), (39, .d (I ((r_1.2.1.length : Nat) : Int))), (40, .d (I x40))] [Hq c6, Hh (.cut 0)] ?_ fun J8 hJ8 => ?_
     ·rintro ⟨by_2, seen1⟩ hf1
      unfold qS at hf1
      obtain rfl := zn hf1
      exact yB X0 hC hJ7 (by_2, seen1, w64 (x40 + 1)) hl1 []
     ·obtain ⟨u_3, h11, hf1⟩ := zp hf1
      obtain ⟨t9, ht9, hf1⟩ := zp hf1
      refine yL X0 hC zT [1,1,1,1,1,1,2,1,0,0,1,1,2,0,1,1,0] [J1, J7, J8] (fun s => qO x40 u_3 s.1 s.2.1 s.2.2) (fun x => YX x_ r_1 x40 u_3 x.1 x.2.1 x.2.2) (by_1, seen, 0) ht9  [Hi wo h11, Ha (lnM uR u_3)] ?_
      rintro ⟨by_3, seen2, x47⟩ m9 lr2 hf2 hl2 J9 hJ9
      try unfold qO at hf2
      rcases yb hf2 with ⟨c7, hf2⟩ | ⟨c7, hf2⟩
      ·refine yJ X0 hC zT [1,1,1,1,1,1,2,1,0,0,1,1,2,0,1,1,0,0,1,1] [J1, J7, J8, J9] [1,3,6,7,9,10,11,38,39,40,45,46,47] (fun z : List zu × Int => vo x47 z.1 z.2 = some lr2) (fun z => YI x_ r_1 x40 u_3 x47 z.1 z.2) [(1, .own (.box (xi x_))), (3, .own (.box (.agg [eOs 1 true (eI .i64) [], eOs 1 true F2_ []]))), (6, .d (eSl 24 false yS r_1.1)), (7, .d (eSl 1 true wo r_1.2.1)), (9, .own (eOs 5 true Um by_3)), (10, .d (I seen2)), (11, .d (I x40)), (38, .d (eSl 1 true wo r_1.2.1)), (39, .d (I ((r_1.2.1.length : Nat) : Int))), (40, .d (I x40)), (45, .d (eSl 5 true uR u_3)), (46, .d (I ((u_3.length : Nat) : Int))), (47, .d (I x47))] [Hq c7, Hh (.cut 0)] ?_ fun J10 hJ10 => ?_
       ·rintro ⟨by_4, seen3⟩ hf2
        unfold vo at hf2
        obtain rfl := zn hf2
        exact yB X0 hC hJ9 (by_4, seen3, w64 (x47 + 1)) hl2 []
       ·obtain ⟨u__e, h12, hf2⟩ := zp hf2
        let Z4 : List HO := [Hi uR h12]
        rcases yb hf2 with ⟨c8, hf2⟩ | ⟨c8, hf2⟩
        ·obtain ⟨by__e2, h13, hf2⟩ := zp hf2
         exact yB X0 hC hJ10 ((by_3.set u__e.To.toNat (zu.mk x40 u__e.Move)), w64 (seen2 + 1)) hf2 (Z4 ++ [Hq c8, Hn (iL Um h13), Hs (iM Um h13), Hs (iM Um h13), Hl (sM Um by_3 u__e.To (zu.mk x40 u__e.Move))])
        ·exact yB X0 hC hJ10 (by_3, seen2) hf2 (Z4 ++ [Hq c8])
      ·obtain rfl := zn hf2
       obtain rfl := hl2
       exact yB X0 hC hJ8 (by_3, seen2) hf1 [Hq c7]
    ·obtain rfl := zn hf1
     obtain rfl := hl1
     exact yB X0 hC hJ1 by_1 hf0 [Hq c6]
def ZY : Code := (Tryd.f18.body).getD .skip
def ZO : x5 := spF (α := List zc × List zc) (ρ := Int) 18 (fun x => [z64 x.1, zaW x.2]) (fun r => (eI .i64) r) (fun x => Wc x.1 x.2) [] (UT)
abbrev VO : List (Nat × T) := []
abbrev VN (a_ : List zc) (b_ : List zc) (i_ : Int) : List (Nat × T) := [(0, .d (eSl 4 true ve a_)), (1, .d (eSl 4 false ve b_)), (5, .d (I i_))]
theorem JU {ctr : Ctr} (hC : zW Tryd.prog ctr) : ZO.Ok Tryd.prog := by
 refine yd ?_
 rintro ⟨a_, b_⟩ r0 hf0
 try unfold Wc at hf0
 refine yO true [(4, none)] ZY 33 Tryd.func18 fun E hE => ?_
 let Z0 : List HO := [Ha (lnM ve a_), Ha (lnM ve b_)]
 rcases yb hf0 with ⟨c0, hf0⟩ | ⟨c0, hf0⟩
 ·obtain rfl := zn hf0
  exact yE X0 hC hE (Z0 ++ (rpN 6 (Hq c0) [qT]))
 ·let Z1 : List HO := (Z0 ++ [Hq c0, Hq c0, Ha (lnM ve a_), Hq c0, Hq c0, Ha (lnM ve a_), Hq c0, Hq c0])
  rcases yb hf0 with ⟨c1, hf0⟩ | ⟨c1, hf0⟩
  ·obtain rfl := zn hf0
   exact yE X0 hC hE (Z1 ++ [Hq c1])
  ·refine yJ X0 hC ZY [1,1] [] [] (fun z : Unit => ZU = some r0) (fun z => VO) [(0, .d (eSl 4 true ve a_)), (1, .d (eSl 4 false ve b_))] (Z1 ++ [Hq c1, Hh (.cut 0)]) ?_ fun J1 hJ1 => ?_
   ·rintro ⟨⟩ hf0
    unfold ZU at hf0
    obtain rfl := zn hf0
    exact yE X0 hC hE []
   ·obtain ⟨t2, ht2, hf0⟩ := zp hf0
    refine yL X0 hC ZY [1,1,2,1,0] [J1] (fun s => ZT a_ b_ s) (fun x => VN a_ b_ x) 0 ht2  [] ?_
    rintro i_ m2 lr1 hf1 hl1 J2 hJ2
    try unfold ZT at hf1
    let Z2 : List HO := [Ha (lnM ve a_)]
    rcases yb hf1 with ⟨c2, hf1⟩ | ⟨c2, hf1⟩
    ·obtain ⟨a__e, h0, hf1⟩ := zp hf1
     obtain ⟨b__e, h1, hf1⟩ := zp hf1
     let Z3 : List HO := (Z2 ++ [Hq c2, Hi ve h0, Hi ve h1])
     rcases yb hf1 with ⟨c3, hf1⟩ | ⟨c3, hf1⟩
     ·obtain rfl := zn hf1
      obtain rfl := hl1
      obtain rfl := zn hf0
      exact yE X0 hC hE (Z3 ++ [Hq c3])
     ·obtain rfl := zn hf1
      exact yB X0 hC hJ2 (w64 (i_ + 1)) hl1 (Z3 ++ [Hq c3])
    ·obtain rfl := zn hf1
     obtain rfl := hl1
     exact yB X0 hC hJ1 () hf0 (Z2 ++ [Hq c2])
def W1 : Code := (Tryd.f6.body).getD .skip
def ZP : x5 := spF (α := Unit) (ρ := Bool) 6 (fun x => []) (fun r => eB r) (fun x => Zg) [] (fun _ _ _ => rfl)
theorem JV {ctr : Ctr} (hC : zW Tryd.prog ctr) (h01 : ctr.Has Yh) (h0e : ctr.Has qJ) (h02 : ctr.Has kV) (h03 : ctr.Has Yi) (h00 : ctr.Has jX) (h0l : ctr.Has jx) (h0f : ctr.Has kr) (h0y : ctr.Has qX) (h0g : ctr.Has ZO) (h08 : ctr.Has jz) : ZP.Ok Tryd.prog := by
 refine yd ?_
 rintro ⟨⟩ r0 hf0
 try unfold Zg at hf0
 refine yO true [(0, none)] W1 166 Tryd.func6 fun E hE => ?_
 obtain ⟨r_, h0, hf0⟩ := zp hf0
 obtain ⟨r_1, h1, hf0⟩ := zp hf0
 obtain ⟨r_2, h2, hf0⟩ := zp hf0
 obtain ⟨r_3, h3, hf0⟩ := zp hf0
 obtain ⟨r_4, h4, hf0⟩ := zp hf0
 obtain ⟨r_5, h5, hf0⟩ := zp hf0
 obtain ⟨r_6, h6, hf0⟩ := zp hf0
 obtain ⟨r_7, h7, hf0⟩ := zp hf0
 obtain ⟨r_8, h8, hf0⟩ := zp hf0
 obtain ⟨r_9, h9, hf0⟩ := zp hf0
 obtain ⟨r_10, h10, hf0⟩ := zp hf0
 refine yA ((qq (P := Tryd.prog) xO [] (lentCall (xD hC h01 (x := (1, ([(ze.mk 0 2 0 0 0)] : List ze))) h0)) 19).or X0) hC W1 [1,1,1,1,1,0] [] [(1, .own (.box (z6w r_))), (2, .d (eSl 2 true wd r_1.1)), (3, .d (eSl 1 true wo r_1.2.1)), (4, .d (I r_1.2.2)), (5, .own (eOs 2 true z6y ([r_2, r_3, r_4, r_5]))), (6, .own (eOs 1 true (eOs 5 true uR) ([[(z6.mk r_6 1)], [(z6.mk r_7 2), (z6.mk r_8 3)], [(z6.mk r_9 0)], [(z6.mk r_10 0)]])))] [Hm (shM vq vq ([(ze.mk 0 2 0 0 0)])), Hn (Ye (f := .fn 12 []) (xs := [(eI .i64) 1, z2d ([(ze.mk 0 2 0 0 0)] : List ze)]) (ls := []) (r := .agg [I r_.Messages, I r_.Labels, eSl 1 true (eI .i64) r_.Channels, eSl 3 true z8v r_.Parts]) (ys := []) [(eI .i64) 1, z2d ([(ze.mk 0 2 0 0 0)] : List ze)] (show JO [(eI .i64) 1, z2d ([(ze.mk 0 2 0 0 0)] : List ze)] [(eI .i64) 1, z2d ([(ze.mk 0 2 0 0 0)] : List ze)] from inferInstance)), Hc h0e (x := r_) h1 (loC z6w r_ <| loN), Hc h02 (x := (0,0, [])) h2 (loC (eI .i64) 0 <| loC (eI .i64) 0 <| loC F1_ ([] : List Int) <| loN), Hg (z0Q h02), Hm (shM (eI .i64) (eI .i64) ([0])), Hs (z0R h02 (x := (1,0, [0])) h3 (loC (eI .i64) 1 <| loC (eI .i64) 0 <| loC F1_ ([0] : List Int) <| loN)), Hm (shM (eI .i64) (eI .i64) ([0])), Hg (z0Q h02), Hm (shM (eI .i64) (eI .i64) ([0])), Hs (z0R h02 (x := (0,0, [0])) h4 (loC (eI .i64) 0 <| loC (eI .i64) 0 <| loC F1_ ([0] : List Int) <| loN)), Hm (shM (eI .i64) (eI .i64) ([0])), Hc h02 (x := (1,0, [])) h5 (loC (eI .i64) 1 <| loC (eI .i64) 0 <| loC F1_ ([] : List Int) <| loN), Hc h03 (x := (0,0)) h6 (loC (eI .i64) 0 <| loC (eI .i64) 0 <| loN), Hc h03 (x := (0,1)) h7 (loC (eI .i64) 0 <| loC (eI .i64) 1 <| loN), Hc h03 (x := (1,0)) h8 (loC (eI .i64) 1 <| loC (eI .i64) 0 <| loN), Hc h03 (x := (1,0)) h9 (loC (eI .i64) 1 <| loC (eI .i64) 0 <| loN), Hc h03 (x := (0,1)) h10 (loC (eI .i64) 0 <| loC (eI .i64) 1 <| loN), Hh (.cut 1)] ?_
 rcases yb hf0 with ⟨c0, hf0⟩ | ⟨c0, hf0⟩
 ·obtain rfl := zn hf0
  exact yE X0 hC hE (rpN 7 (Hq c0) [qT])
 ·obtain ⟨r_11, h11, hf0⟩ := zp hf0
  let Z0 : List HO := (rpN 5 (Hq c0) [Hm (shM z6y z6y ([r_2, r_3, r_4, r_5])), Hm (shM (eOs 5 true uR) wo ([[(z6.mk r_6 1)], [(z6.mk r_7 2), (z6.mk r_8 3)], [(z6.mk r_9 0)], [(z6.mk r_10 0)]])), Hn (Ye (f := .fn 8 []) (xs := [z1v r_1.1, Kz r_1.2.1, z4h ([r_2, r_3, r_4, r_5] : List z7), z4r ([[(z6.mk r_6 1)], [(z6.mk r_7 2), (z6.mk r_8 3)], [(z6.mk r_9 0)], [(z6.mk r_10 0)]] : List (List z6))]) (ls := []) (r := I r_11) (ys := []) [z1v r_1.1, Kz r_1.2.1, zb7 ([r_2, r_3, r_4, r_5] : List z7), Kz ([[(z6.mk r_6 1)], [(z6.mk r_7 2), (z6.mk r_8 3)], [(z6.mk r_9 0)], [(z6.mk r_10 0)]] : List (List z6))] (show JO [z1v r_1.1, Kz r_1.2.1, zb7 ([r_2, r_3, r_4, r_5] : List z7), Kz ([[(z6.mk r_6 1)], [(z6.mk r_7 2), (z6.mk r_8 3)], [(z6.mk r_9 0)], [(z6.mk r_10 0)]] : List (List z6))] [z1v r_1.1, Kz r_1.2.1, z4h ([r_2, r_3, r_4, r_5] : List z7), z4r ([[(z6.mk r_6 1)], [(z6.mk r_7 2), (z6.mk r_8 3)], [(z6.mk r_9 0)], [(z6.mk r_10 0)]] : List (List z6))] from inferInstance)), Hq c0, Hq c0])
  rcases yb hf0 with ⟨c1, hf0⟩ | ⟨c1, hf0⟩
  ·obtain rfl := zn hf0
   exact yE ((qq (P := Tryd.prog) xO [] (lentCall (xD hC h00 (x := (r_1.1, r_1.2.1, ([r_2, r_3, r_4, r_5] : List z7), ([[(z6.mk r_6 1)], [(z6.mk r_7 2), (z6.mk r_8 3)], [(z6.mk r_9 0)], [(z6.mk r_10 0)]] : List (List z6)))) h11)) 55).or X0) hC hE (Z0 ++ [Hq c1])
  ·obtain ⟨r_12, h12, hf0⟩ := zp hf0
   obtain ⟨r_13, h13, hf0⟩ := zp hf0
   let Z1 : List HO := (Z0 ++ [Hq c1, Hc h0l (x := (r_, [])) h12 (loC z6w r_ <| loC F1_ ([] : List Int) <| loN), Hg (z0Q h0l), Hm (shM (eI .i64) (eI .i64) ([0])), Hs (z0R h0l (x := (r_, [0])) h13 (loC z6w r_ <| loC F1_ ([0] : List Int) <| loN)), Hm (shM (eI .i64) (eI .i64) ([0]))])
   rcases yb hf0 with ⟨c2, hf0⟩ | ⟨c2, hf0⟩
   ·obtain rfl := zn hf0
    exact yE ((qq (P := Tryd.prog) xO [] (lentCall (xD hC h00 (x := (r_1.1, r_1.2.1, ([r_2, r_3, r_4, r_5] : List z7), ([[(z6.mk r_6 1)], [(z6.mk r_7 2), (z6.mk r_8 3)], [(z6.mk r_9 0)], [(z6.mk r_10 0)]] : List (List z6)))) h11)) 55).or X0) hC hE (Z1 ++ (Hq c2 :: Hq c2 :: Hq c2 :: (rpN 10 qT [])))
   ·rcases yb hf0 with ⟨c3, hf0⟩ | ⟨c3, hf0⟩
    ·obtain rfl := zn hf0
     exact yE ((qq (P := Tryd.prog) xO [] (lentCall (xD hC h00 (x := (r_1.1, r_1.2.1, ([r_2, r_3, r_4, r_5] : List z7), ([[(z6.mk r_6 1)], [(z6.mk r_7 2), (z6.mk r_8 3)], [(z6.mk r_9 0)], [(z6.mk r_10 0)]] : List (List z6)))) h11)) 55).or X0) hC hE (Z1 ++ (Hq c2 :: Hq c2 :: Hq c2 :: (rpN 9 (Hq c3) [qT])))
    ·obtain ⟨r_14, h14, hf0⟩ := zp hf0
     obtain ⟨r_15, h15, hf0⟩ := zp hf0
     let Z2 : List HO := (Z1 ++ [Hq c2, Hq c2, Hq c2, Hq c3, Hq c3, Hq c3, Hg (z0Q h0f), Hm (shM (eOs 3 true F8_) V3 ([[(zf.mk 0 0 1)], [(zf.mk 0 0 3), (zf.mk 2 0 2)], [(zf.mk 0 0 0)], [(zf.mk 2 0 0)]])), Hs (z0R h0f (x := (r_12.1, (zF.mk 0 1 ([[(zf.mk 0 0 1)], [(zf.mk 0 0 3), (zf.mk 2 0 2)], [(zf.mk 0 0 0)], [(zf.mk 2 0 0)]])))) h14 (loC (wF (eI .i64) (eI .i64) zb8) r_12.1 <| loC (wF (eI .i64) (eI .i64) (eSl 1 true V3)) (zF.mk 0 1 ([[(zf.mk 0 0 1)], [(zf.mk 0 0 3), (zf.mk 2 0 2)], [(zf.mk 0 0 0)], [(zf.mk 2 0 0)]])) <| loN)), Hq c3, Hq c3, Hq c3, Hg (z0Q h0f), Hm (shM (eOs 3 true F8_) V3 ([[(zf.mk 0 0 1)], [(zf.mk 0 0 2), (zf.mk 0 0 3)], [(zf.mk 0 0 0)], [(zf.mk 0 0 0)]])), Hs (z0R h0f (x := (r_13.1, (zF.mk 0 1 ([[(zf.mk 0 0 1)], [(zf.mk 0 0 2), (zf.mk 0 0 3)], [(zf.mk 0 0 0)], [(zf.mk 0 0 0)]])))) h15 (loC (wF (eI .i64) (eI .i64) zb8) r_13.1 <| loC (wF (eI .i64) (eI .i64) (eSl 1 true V3)) (zF.mk 0 1 ([[(zf.mk 0 0 1)], [(zf.mk 0 0 2), (zf.mk 0 0 3)], [(zf.mk 0 0 0)], [(zf.mk 0 0 0)]])) <| loN)), Hq c3, Hq c3, Hq c3])
     rcases yb hf0 with ⟨c4, hf0⟩ | ⟨c4, hf0⟩
     ·obtain rfl := zn hf0
      exact yE ((qq (P := Tryd.prog) xO [] (lentCall (xD hC h00 (x := (r_1.1, r_1.2.1, ([r_2, r_3, r_4, r_5] : List z7), ([[(z6.mk r_6 1)], [(z6.mk r_7 2), (z6.mk r_8 3)], [(z6.mk r_9 0)], [(z6.mk r_10 0)]] : List (List z6)))) h11)) 55).or X0) hC hE (Z2 ++ [Hq c4])
     ·obtain ⟨r_16, h16, hf0⟩ := zp hf0
      obtain ⟨r_17, h17, hf0⟩ := zp hf0
      obtain ⟨r_18, h18, hf0⟩ := zp hf0
      obtain ⟨r_19, h19, hf0⟩ := zp hf0
      obtain ⟨r_20, h20, hf0⟩ := zp hf0
      let Z3 : List HO := (Z2 ++ [Hq c4, Hc h0y (x := r_) h16 (loC z6w r_ <| loN), Hn (Ye (f := .fn 12 []) (xs := [(eI .i64) 1, z2d ([] : List ze)]) (ls := []) (r := .agg [I r_17.Messages, I r_17.Labels, eSl 1 true (eI .i64) r_17.Channels, eSl 3 true z8v r_17.Parts]) (ys := []) [(eI .i64) 1, z2d ([] : List ze)] (show JO [(eI .i64) 1, z2d ([] : List ze)] [(eI .i64) 1, z2d ([] : List ze)] from inferInstance)), Hc h0y (x := r_17) h18 (loC z6w r_17 <| loN), Hm (shM vq vq ([(ze.mk 0 2 0 0 0)])), Hn (Ye (f := .fn 12 []) (xs := [(eI .i64) 0, z2d ([(ze.mk 0 2 0 0 0)] : List ze)]) (ls := []) (r := .agg [I r_19.Messages, I r_19.Labels, eSl 1 true (eI .i64) r_19.Channels, eSl 3 true z8v r_19.Parts]) (ys := []) [(eI .i64) 0, z2d ([(ze.mk 0 2 0 0 0)] : List ze)] (show JO [(eI .i64) 0, z2d ([(ze.mk 0 2 0 0 0)] : List ze)] [(eI .i64) 0, z2d ([(ze.mk 0 2 0 0 0)] : List ze)] from inferInstance)), Hc h0e (x := r_19) h20 (loC z6w r_19 <| loN)])
      rcases yb hf0 with ⟨c5, hf0⟩ | ⟨c5, hf0⟩
      ·obtain rfl := zn hf0
       exact yE ((qq (P := Tryd.prog) xO [] (lentCall (xD hC h01 (x := (0, ([(ze.mk 0 2 0 0 0)] : List ze))) h19)) 122).or ((qq (P := Tryd.prog) xO [] (lentCall (xD hC h01 (x := (1, ([] : List ze))) h17)) 114).or ((qq (P := Tryd.prog) xO [] (lentCall (xD hC h00 (x := (r_1.1, r_1.2.1, ([r_2, r_3, r_4, r_5] : List z7), ([[(z6.mk r_6 1)], [(z6.mk r_7 2), (z6.mk r_8 3)], [(z6.mk r_9 0)], [(z6.mk r_10 0)]] : List (List z6)))) h11)) 55).or X0))) hC hE (Z3 ++ (Hq c5 :: Hq c5 :: Hq c5 :: (rpN 17 qT [])))
      ·rcases yb hf0 with ⟨c6, hf0⟩ | ⟨c6, hf0⟩
       ·obtain rfl := zn hf0
        exact yE ((qq (P := Tryd.prog) xO [] (lentCall (xD hC h01 (x := (0, ([(ze.mk 0 2 0 0 0)] : List ze))) h19)) 122).or ((qq (P := Tryd.prog) xO [] (lentCall (xD hC h01 (x := (1, ([] : List ze))) h17)) 114).or ((qq (P := Tryd.prog) xO [] (lentCall (xD hC h00 (x := (r_1.1, r_1.2.1, ([r_2, r_3, r_4, r_5] : List z7), ([[(z6.mk r_6 1)], [(z6.mk r_7 2), (z6.mk r_8 3)], [(z6.mk r_9 0)], [(z6.mk r_10 0)]] : List (List z6)))) h11)) 55).or X0))) hC hE (Z3 ++ (Hq c5 :: Hq c5 :: Hq c5 :: (rpN 7 (Hq c6) (rpN 10 qT []))))
       ·obtain ⟨r_21, h21, hf0⟩ := zp hf0
        obtain ⟨r_22, h22, hf0⟩ := zp hf0
        obtain ⟨r_23, h23, hf0⟩ := zp hf0
        let Z4 : List HO := (Z3 ++ [Hq c5, Hq c5, Hq c5, Hq c6, Hq c6, Hc h03 (x := (0,0)) h21 (loC (eI .i64) 0 <| loC (eI .i64) 0 <| loN), Hq c6, Hc h03 (x := (0,1)) h22 (loC (eI .i64) 0 <| loC (eI .i64) 1 <| loN), Hq c6, Hq c6, Hm (shM ve ve ([r_21, r_22])), Hn (Ye (f := .fn 18 []) (xs := [z64 r_18.1, zaW ([r_21, r_22] : List zc)]) (ls := []) (r := I r_23) (ys := []) [z64 r_18.1, z64 ([r_21, r_22] : List zc)] (show JO [z64 r_18.1, z64 ([r_21, r_22] : List zc)] [z64 r_18.1, zaW ([r_21, r_22] : List zc)] from inferInstance)), Hq c6, Hq c6])
        rcases yb hf0 with ⟨c7, hf0⟩ | ⟨c7, hf0⟩
        ·obtain rfl := zn hf0
         exact yE ((qq (P := Tryd.prog) xO [] (lentCall (xD hC h0g (x := (r_18.1, ([r_21, r_22] : List zc))) h23)) 138).or ((qq (P := Tryd.prog) xO [] (lentCall (xD hC h01 (x := (0, ([(ze.mk 0 2 0 0 0)] : List ze))) h19)) 122).or ((qq (P := Tryd.prog) xO [] (lentCall (xD hC h01 (x := (1, ([] : List ze))) h17)) 114).or ((qq (P := Tryd.prog) xO [] (lentCall (xD hC h00 (x := (r_1.1, r_1.2.1, ([r_2, r_3, r_4, r_5] : List z7), ([[(z6.mk r_6 1)], [(z6.mk r_7 2), (z6.mk r_8 3)], [(z6.mk r_9 0)], [(z6.mk r_10 0)]] : List (List z6)))) h11)) 55).or X0)))) hC hE (Z4 ++ (rpN 6 (Hq c7) (rpN 4 qT [])))
        ·obtain ⟨r_24, h24, hf0⟩ := zp hf0
         obtain ⟨r_25, h25, hf0⟩ := zp hf0
         let Z5 : List HO := (Z4 ++ [Hq c7, Hq c7, Hq c7, Hg (z0Q h02), Hm (shM (eI .i64) (eI .i64) ([0])), Hs (z0R h02 (x := (0,0, [0])) h24 (loC (eI .i64) 0 <| loC (eI .i64) 0 <| loC F1_ ([0] : List Int) <| loN)), Hm (shM (eI .i64) (eI .i64) ([0])), Hq c7, Hc h08 (x := (r_18.2.1, r_24)) h25 (loC KA r_18.2.1 <| loC z6y r_24 <| loN), Hq c7, Hq c7])
         rcases yb hf0 with ⟨c8, hf0⟩ | ⟨c8, hf0⟩
         ·obtain rfl := zn hf0
          exact yE ((qq (P := Tryd.prog) xO [] (lentCall (xD hC h0g (x := (r_18.1, ([r_21, r_22] : List zc))) h23)) 138).or ((qq (P := Tryd.prog) xO [] (lentCall (xD hC h01 (x := (0, ([(ze.mk 0 2 0 0 0)] : List ze))) h19)) 122).or ((qq (P := Tryd.prog) xO [] (lentCall (xD hC h01 (x := (1, ([] : List ze))) h17)) 114).or ((qq (P := Tryd.prog) xO [] (lentCall (xD hC h00 (x := (r_1.1, r_1.2.1, ([r_2, r_3, r_4, r_5] : List z7), ([[(z6.mk r_6 1)], [(z6.mk r_7 2), (z6.mk r_8 3)], [(z6.mk r_9 0)], [(z6.mk r_10 0)]] : List (List z6)))) h11)) 55).or X0)))) hC hE (Z5 ++ [Hq c8, Hq c8, Hq c8, qT])
         ·rcases yb hf0 with ⟨c9, hf0⟩ | ⟨c9, hf0⟩
          ·obtain rfl := zn hf0
           exact yE ((qq (P := Tryd.prog) xO [] (lentCall (xD hC h0g (x := (r_18.1, ([r_21, r_22] : List zc))) h23)) 138).or ((qq (P := Tryd.prog) xO [] (lentCall (xD hC h01 (x := (0, ([(ze.mk 0 2 0 0 0)] : List ze))) h19)) 122).or ((qq (P := Tryd.prog) xO [] (lentCall (xD hC h01 (x := (1, ([] : List ze))) h17)) 114).or ((qq (P := Tryd.prog) xO [] (lentCall (xD hC h00 (x := (r_1.1, r_1.2.1, ([r_2, r_3, r_4, r_5] : List z7), ([[(z6.mk r_6 1)], [(z6.mk r_7 2), (z6.mk r_8 3)], [(z6.mk r_9 0)], [(z6.mk r_10 0)]] : List (List z6)))) h11)) 55).or X0)))) hC hE (Z5 ++ [Hq c8, Hq c8, Hq c8, Hq c9])
          ·obtain ⟨r_26, h26, hf0⟩ := zp hf0
           obtain ⟨r_27, h27, hf0⟩ := zp hf0
           obtain ⟨r_28, h28, hf0⟩ := zp hf0
           obtain ⟨r_29, h29, hf0⟩ := zp hf0
           obtain rfl := zn hf0
           exact yE ((qq (P := Tryd.prog) xO [] (lentCall (xD hC h00 (x := (r_20.1, r_20.2.1, ([r_26, r_27] : List z7), ([[(z6.mk (zc.mk 0 0 1 0) 1)], [(z6.mk r_28 0)]] : List (List z6)))) h29)) 164).or ((qq (P := Tryd.prog) xO [] (lentCall (xD hC h0g (x := (r_18.1, ([r_21, r_22] : List zc))) h23)) 138).or ((qq (P := Tryd.prog) xO [] (lentCall (xD hC h01 (x := (0, ([(ze.mk 0 2 0 0 0)] : List ze))) h19)) 122).or ((qq (P := Tryd.prog) xO [] (lentCall (xD hC h01 (x := (1, ([] : List ze))) h17)) 114).or ((qq (P := Tryd.prog) xO [] (lentCall (xD hC h00 (x := (r_1.1, r_1.2.1, ([r_2, r_3, r_4, r_5] : List z7), ([[(z6.mk r_6 1)], [(z6.mk r_7 2), (z6.mk r_8 3)], [(z6.mk r_9 0)], [(z6.mk r_10 0)]] : List (List z6)))) h11)) 55).or X0))))) hC hE (Z5 ++ [Hq c8, Hq c8, Hq c8, Hq c9, Hc h02 (x := (0,0, [])) h26 (loC (eI .i64) 0 <| loC (eI .i64) 0 <| loC F1_ ([] : List Int) <| loN), Hc h02 (x := (1,0, [])) h27 (loC (eI .i64) 1 <| loC (eI .i64) 0 <| loC F1_ ([] : List Int) <| loN), Hc h03 (x := (0,1)) h28 (loC (eI .i64) 0 <| loC (eI .i64) 1 <| loN), Hm (shM z6y z6y ([r_26, r_27])), Hm (shM (eOs 5 true uR) wo ([[(z6.mk (zc.mk 0 0 1 0) 1)], [(z6.mk r_28 0)]])), Hn (Ye (f := .fn 8 []) (xs := [z1v r_20.1, Kz r_20.2.1, z4h ([r_26, r_27] : List z7), z4r ([[(z6.mk (zc.mk 0 0 1 0) 1)], [(z6.mk r_28 0)]] : List (List z6))]) (ls := []) (r := I r_29) (ys := []) [z1v r_20.1, Kz r_20.2.1, zb7 ([r_26, r_27] : List z7), Kz ([[(z6.mk (zc.mk 0 0 1 0) 1)], [(z6.mk r_28 0)]] : List (List z6))] (show JO [z1v r_20.1, Kz r_20.2.1, zb7 ([r_26, r_27] : List z7), Kz ([[(z6.mk (zc.mk 0 0 1 0) 1)], [(z6.mk r_28 0)]] : List (List z6))] [z1v r_20.1, Kz r_20.2.1, z4h ([r_26, r_27] : List z7), z4r ([[(z6.mk (zc.mk 0 0 1 0) 1)], [(z6.mk r_28 0)]] : List (List z6))] from inferInstance))])
def Xq : Code := (Tryd.f3.body).getD .skip
def uP : x5 := spF (α := ya) (ρ := Bool) 3 (fun x => [QW x]) (fun r => eB r) (fun x => uD x) [] (Us)
theorem XK {ctr : Ctr} (hC : zW Tryd.prog ctr) (h0V : ctr.Has Yj) (h0W : ctr.Has ZM) (h0z : ctr.Has ZP) (h0e : ctr.Has qJ) (h00 : ctr.Has jX) : uP.Ok Tryd.prog := by
 refine yd ?_
 rintro x_ r0 hf0
 try unfold uD at hf0
 refine yO true [(2, none)] Xq 39 Tryd.func3 fun E hE => ?_
 obtain ⟨r_, h0, hf0⟩ := zp hf0
 obtain ⟨r_1, h1, hf0⟩ := zp hf0
 let Z0 : List HO := [Hc h0V (x := (ya.mk x_.Channels x_.Parts)) h0 (loC QW (ya.mk x_.Channels x_.Parts) <| loN), Hc h0W (x := (r_, 200)) h1 (loC (xa (eI .i64) (eI .i64) F1_ z4q) r_ <| loC (eI .i64) 200 <| loN), Ha (lnM wd r_1.1)]
 rcases yb hf0 with ⟨c0, hf0⟩ | ⟨c0, hf0⟩
 ·obtain ⟨r_2, h2, hf0⟩ := zp hf0
  obtain rfl := zn hf0
  exact yE X0 hC hE (Z0 ++ [Hq c0, Hc h0z (x := ()) h2 (loN)])
 ·obtain ⟨r_3, h3, hf0⟩ := zp hf0
  let Z1 : List HO := (Z0 ++ [Hq c0, Hc h0e (x := r_) h3 (loC (xa (eI .i64) (eI .i64) F1_ z4q) r_ <| loN)])
  rcases yb hf0 with ⟨c1, hf0⟩ | ⟨c1, hf0⟩
  ·obtain ⟨r_4, h4, hf0⟩ := zp hf0
   let Z2 : List HO := (Z1 ++ (rpN 5 (Hq c1) [Hn (Ye (f := .fn 8 []) (xs := [z1v r_3.1, Kz r_3.2.1, z4h r_1.1, z4r r_1.2]) (ls := []) (r := I r_4) (ys := []) [z1v r_3.1, Kz r_3.2.1, z4h r_1.1, z4r r_1.2] (show JO [z1v r_3.1, Kz r_3.2.1, z4h r_1.1, z4r r_1.2] [z1v r_3.1, Kz r_3.2.1, z4h r_1.1, z4r r_1.2] from inferInstance)), Hq c1, Hq c1]))
   rcases yb hf0 with ⟨c2, hf0⟩ | ⟨c2, hf0⟩
   ·obtain ⟨r_5, h5, hf0⟩ := zp hf0
    obtain rfl := zn hf0
    exact yE ((qq (P := Tryd.prog) xO [] (lentCall (xD hC h00 (x := (r_3.1, r_3.2.1, r_1.1, r_1.2)) h4)) 33).or X0) hC hE (Z2 ++ [Hq c2, Hc h0z (x := ()) h5 (loN), Hq c2])
   ·obtain rfl := zn hf0
    exact yE ((qq (P := Tryd.prog) xO [] (lentCall (xD hC h00 (x := (r_3.1, r_3.2.1, r_1.1, r_1.2)) h4)) 33).or X0) hC hE (Z2 ++ [Hq c2, Hq c2])
  ·obtain rfl := zn hf0
   exact yE X0 hC hE (Z1 ++ (rpN 7 (Hq c1) [qF, qF]))
theorem xL {l : List x5} {s : x5} (h : ((l.map x5.k).contains s.k) = false) : ∀ t ∈ l, t.k ≠ s.k := by
 intro t ht e
 have : (l.map x5.k).contains s.k = true := by
  rw [List.contains_iff_mem, ← e]
  exact List.mem_map_of_mem ht
 rw [h] at this
 cases this
theorem y4 {l : List x5} {c : Ctr} (H : ∀ t ∈ l, c.Has t) (i : Nat) {s : x5} (h : l[i]? = some s) : c.Has s := H _ (List.mem_of_getElem? h)
def L0 : List x5 := Yj :: []
def L1 : List x5 := ZN :: L0
def L2 : List x5 := Yf :: L1
def L3 : List x5 := ZL :: L2
def L4 : List x5 := kU :: L3
def L5 : List x5 := Yg :: L4
def L6 : List x5 := jz :: L5
def L7 : List x5 := ZM :: L6
def L8 : List x5 := Yh :: L7
def L9 : List x5 := wT :: L8
def L10 : List x5 := jw :: L9
def L11 : List x5 := yu :: L10
def L12 : List x5 := yk :: L11
def L13 : List x5 := kq :: L12
def L14 : List x5 := wU :: L13
def L15 : List x5 := kF :: L14
def L16 : List x5 := uV :: L15
def L17 : List x5 := vW :: L16
def L18 : List x5 := jy :: L17
def L19 : List x5 := yN :: L18
def L20 : List x5 := yp :: L19
def L21 : List x5 := uf :: L20
def L22 : List x5 := vY :: L21
def L23 : List x5 := wI :: L22
def L24 : List x5 := qh :: L23
def L25 : List x5 := uO :: L24
def L26 : List x5 := wH :: L25
def L27 : List x5 := ZG :: L26
def L28 : List x5 := yW :: L27
def L29 : List x5 := xR :: L28
def L30 : List x5 := u0 :: L29
def L31 : List x5 := uv :: L30
def L32 : List x5 := wq :: L31
def L33 : List x5 := yM :: L32
def L34 : List x5 := qJ :: L33
def L35 : List x5 := kV :: L34
def L36 : List x5 := Yi :: L35
def L37 : List x5 := jX :: L36
def L38 : List x5 := qK :: L37
def L39 : List x5 := kW :: L38
def L40 : List x5 := qY :: L39
def L41 : List x5 := wg :: L40
def L42 : List x5 := jA :: L41
def L43 : List x5 := qm :: L42
def L44 : List x5 := jB :: L43
def L45 : List x5 := Yk :: L44
def L46 : List x5 := qj :: L45
def L47 : List x5 := xj :: L46
def L48 : List x5 := xJ :: L47
def L49 : List x5 := xC :: L48
def L50 : List x5 := jx :: L49
def L51 : List x5 := kr :: L50
def L52 : List x5 := vZ :: L51
def L53 : List x5 := wL :: L52
def L54 : List x5 := vX :: L53
def L55 : List x5 := yX :: L54
def L56 : List x5 := qX :: L55
def L57 : List x5 := ZO :: L56
def L58 : List x5 := ZP :: L57
def L59 : List x5 := uP :: L58
theorem zcK : zL Tryd.prog L0 := ⟨fun _ hC H => KK hC, xL (by kernel_rfl), trivial⟩
theorem zcJ : zL Tryd.prog L1 := ⟨fun _ hC H => JT hC, xL (by kernel_rfl), zcK⟩
theorem zcI : zL Tryd.prog L2 := ⟨fun _ hC H => KF hC, xL (by kernel_rfl), zcJ⟩
theorem zcH : zL Tryd.prog L3 := ⟨fun _ hC H => JR hC (y4 H 0 rfl), xL (by kernel_rfl), zcI⟩
theorem zcG : zL Tryd.prog L4 := ⟨fun _ hC H => Ja hC, xL (by kernel_rfl), zcH⟩
theorem zcF : zL Tryd.prog L5 := ⟨fun _ hC H => KH hC (y4 H 0 rfl), xL (by kernel_rfl), zcG⟩
theorem zcE : zL Tryd.prog L6 := ⟨fun _ hC H => KG hC (y4 H 0 rfl), xL (by kernel_rfl), zcF⟩
theorem zcD : zL Tryd.prog L7 := ⟨fun _ hC H => JS hC (y4 H 5 rfl) (y4 H 3 rfl) (y4 H 0 rfl), xL (by kernel_rfl), zcE⟩
theorem zcC : zL Tryd.prog L8 := ⟨fun _ hC H => KI hC, xL (by kernel_rfl), zcD⟩
theorem zcB : zL Tryd.prog L9 := ⟨fun _ hC H => V6 hC, xL (by kernel_rfl), zcC⟩
theorem zaV : zL Tryd.prog L10 := ⟨fun _ hC H => V5 hC, xL (by kernel_rfl), zcB⟩
theorem zaU : zL Tryd.prog L11 := ⟨fun _ hC H => vJ hC (y4 H 0 rfl), xL (by kernel_rfl), zaV⟩
theorem zaT : zL Tryd.prog L12 := ⟨fun _ hC H => v8 hC (y4 H 0 rfl), xL (by kernel_rfl), zaU⟩
theorem zaS : zL Tryd.prog L13 := ⟨fun _ hC H => Q0 hC (y4 H 3 rfl) (y4 H 0 rfl), xL (by kernel_rfl), zaT⟩
theorem zaR : zL Tryd.prog L14 := ⟨fun _ hC H => V9 hC, xL (by kernel_rfl), zaS⟩
theorem zaQ : zL Tryd.prog L15 := ⟨fun _ hC H => KE hC, xL (by kernel_rfl), zaR⟩
theorem zaP : zL Tryd.prog L16 := ⟨fun _ hC H => Un hC (y4 H 0 rfl), xL (by kernel_rfl), zaQ⟩
theorem zaO : zL Tryd.prog L17 := ⟨fun _ hC H => YO hC (y4 H 1 rfl), xL (by kernel_rfl), zaP⟩
theorem zaN : zL Tryd.prog L18 := ⟨fun _ hC H => V8 hC (y4 H 0 rfl), xL (by kernel_rfl), zaO⟩
theorem zaM : zL Tryd.prog L19 := ⟨fun _ hC H => ud hC (y4 H 0 rfl), xL (by kernel_rfl), zaN⟩
theorem zaL : zL Tryd.prog L20 := ⟨fun _ hC H => vt hC (y4 H 0 rfl), xL (by kernel_rfl), zaM⟩
theorem zaK : zL Tryd.prog L21 := ⟨fun _ hC H => Q2 hC (y4 H 7 rfl) (y4 H 6 rfl) (y4 H 4 rfl) (y4 H 0 rfl), xL (by kernel_rfl), zaL⟩
theorem zaJ : zL Tryd.prog L22 := ⟨fun _ hC H => YQ hC, xL (by kernel_rfl), zaK⟩
theorem zaI : zL Tryd.prog L23 := ⟨fun _ hC H => Xb hC, xL (by kernel_rfl), zaJ⟩
theorem zaH : zL Tryd.prog L24 := ⟨fun _ hC H => W3 hC, xL (by kernel_rfl), zaI⟩
theorem zaG : zL Tryd.prog L25 := ⟨fun _ hC H => XJ hC, xL (by kernel_rfl), zaH⟩
theorem zaF : zL Tryd.prog L26 := ⟨fun _ hC H => Xa hC (y4 H 1 rfl) (y4 H 0 rfl), xL (by kernel_rfl), zaG⟩
theorem zaE : zL Tryd.prog L27 := ⟨fun _ hC H => z0V hC, xL (by kernel_rfl), zaF⟩
theorem zaD : zL Tryd.prog L28 := ⟨fun _ hC H => uM hC, xL (by kernel_rfl), zaE⟩
theorem zaC : zL Tryd.prog L29 := ⟨fun _ hC H => YR hC (y4 H 6 rfl) (y4 H 5 rfl) (y4 H 2 rfl) (y4 H 1 rfl) (y4 H 0 rfl), xL (by kernel_rfl), zaD⟩
theorem zaB : zL Tryd.prog L30 := ⟨fun _ hC H => YT hC, xL (by kernel_rfl), zaC⟩
theorem zaA : zL Tryd.prog L31 := ⟨fun _ hC H => Xc hC, xL (by kernel_rfl), zaB⟩
theorem zaz : zL Tryd.prog L32 := ⟨fun _ hC H => Yc hC (y4 H 1 rfl) (y4 H 0 rfl), xL (by kernel_rfl), zaA⟩
theorem zay : zL Tryd.prog L33 := ⟨fun _ hC H => vP hC, xL (by kernel_rfl), zaz⟩
theorem zax : zL Tryd.prog L34 := ⟨fun _ hC H => Q1 hC (y4 H 12 rfl) (y4 H 4 rfl) (y4 H 1 rfl) (y4 H 0 rfl), xL (by kernel_rfl), zay⟩
theorem zaw : zL Tryd.prog L35 := ⟨fun _ hC H => Jb hC, xL (by kernel_rfl), zax⟩
theorem zav : zL Tryd.prog L36 := ⟨fun _ hC H => KJ hC, xL (by kernel_rfl), zaw⟩
theorem zau : zL Tryd.prog L37 := ⟨fun _ hC H => JW hC (y4 H 30 rfl), xL (by kernel_rfl), zav⟩
theorem zat : zL Tryd.prog L38 := ⟨fun _ hC H => Q4 hC, xL (by kernel_rfl), zau⟩
theorem zas : zL Tryd.prog L39 := ⟨fun _ hC H => Jc hC (y4 H 0 rfl), xL (by kernel_rfl), zat⟩
theorem zar : zL Tryd.prog L40 := ⟨fun _ hC H => Wz hC, xL (by kernel_rfl), zas⟩
theorem zaq : zL Tryd.prog L41 := ⟨fun _ hC H => ko hC (y4 H 1 rfl) (y4 H 0 rfl), xL (by kernel_rfl), zar⟩
theorem zap : zL Tryd.prog L42 := ⟨fun _ hC H => Va hC, xL (by kernel_rfl), zaq⟩
theorem zao : zL Tryd.prog L43 := ⟨fun _ hC H => W5 hC (y4 H 0 rfl), xL (by kernel_rfl), zap⟩
theorem zan : zL Tryd.prog L44 := ⟨fun _ hC H => Vb hC (y4 H 5 rfl), xL (by kernel_rfl), zao⟩
theorem zam : zL Tryd.prog L45 := ⟨fun _ hC H => KL hC, xL (by kernel_rfl), zan⟩
theorem zal : zL Tryd.prog L46 := ⟨fun _ hC H => W4 hC (y4 H 2 rfl) (y4 H 1 rfl) (y4 H 0 rfl), xL (by kernel_rfl), zam⟩
theorem zak : zL Tryd.prog L47 := ⟨fun _ hC H => qr hC, xL (by kernel_rfl), zal⟩
theorem zaj : zL Tryd.prog L48 := ⟨fun _ hC H => jk hC, xL (by kernel_rfl), zak⟩
theorem zai : zL Tryd.prog L49 := ⟨fun _ hC H => j9 hC, xL (by kernel_rfl), zaj⟩
theorem zah : zL Tryd.prog L50 := ⟨fun _ hC H => V7 hC (y4 H 28 rfl) (y4 H 33 rfl) (y4 H 20 rfl) (y4 H 8 rfl) (y4 H 3 rfl) (y4 H 2 rfl) (y4 H 1 rfl) (y4 H 0 rfl), xL (by kernel_rfl), zai⟩
theorem zag : zL Tryd.prog L51 := ⟨fun _ hC H => Q3 hC, xL (by kernel_rfl), zah⟩
theorem zaf : zL Tryd.prog L52 := ⟨fun _ hC H => YS hC, xL (by kernel_rfl), zag⟩
theorem zae : zL Tryd.prog L53 := ⟨fun _ hC H => ZK hC (y4 H 0 rfl), xL (by kernel_rfl), zaf⟩
theorem zad : zL Tryd.prog L54 := ⟨fun _ hC H => YP hC (y4 H 0 rfl), xL (by kernel_rfl), zae⟩
theorem zac : zL Tryd.prog L55 := ⟨fun _ hC H => uN hC, xL (by kernel_rfl), zad⟩
theorem zab : zL Tryd.prog L56 := ⟨fun _ hC H => Wy hC (y4 H 34 rfl) (y4 H 26 rfl) (y4 H 1 rfl) (y4 H 0 rfl) (y4 H 23 rfl), xL (by kernel_rfl), zac⟩
theorem zaa : zL Tryd.prog L57 := ⟨fun _ hC H => JU hC, xL (by kernel_rfl), zab⟩
theorem za9 : zL Tryd.prog L58 := ⟨fun _ hC H => JV hC (y4 H 49 rfl) (y4 H 23 rfl) (y4 H 22 rfl) (y4 H 21 rfl) (y4 H 20 rfl) (y4 H 7 rfl) (y4 H 6 rfl) (y4 H 1 rfl) (y4 H 0 rfl) (y4 H 51 rfl), xL (by kernel_rfl), zaa⟩
theorem za8 : zL Tryd.prog L59 := ⟨fun _ hC H => XK hC (y4 H 58 rfl) (y4 H 51 rfl) (y4 H 0 rfl) (y4 H 24 rfl) (y4 H 21 rfl), xL (by kernel_rfl), za9⟩
theorem uA {x : Int} (h1 : -9223372036854775808 ≤ x) (h2 : x ≤ 9223372036854775807) : w64 x = x := by
 simp only [w64, IntKind.wrap, IntKind.bits, IntKind.signed]
 simp
 omega
section
variable {α β σ τ ρ : Type}
def Ret (x : Option α) (Q : α → Prop) : Prop := ∃ a, x = some a ∧ Q a
theorem u6 {a : α} {Q : α → Prop} : Ret (some a) Q ↔ Q a := ⟨fun ⟨b, e, q⟩ => by cases e; exact q, fun q => ⟨a, rfl, q⟩⟩
theorem gdT {p : Prop} [Decidable p] {x : Option α} (h : p) : gd p x = x := by unfold gd; rw [if_pos h]
theorem bdT {x : Option α} {u : α} {f : α → Option ρ} (h : x = some u) : Option.bind x f = f u := by rw [h]; rfl
theorem kS (step : σ → Option (LR σ τ)) (n : Nat) (s : σ) : XN step (n + 1) s = (match step s with | none => none | some (.next s') => XN step n s' | some (.done t) => some t) := rfl
def LRP (N : σ → Prop) (D : τ → Prop) : LR σ τ → Prop
 | .next s => N s
 | .done t => D t
theorem WE {step : σ → Option (LR σ τ)} (I : σ → Prop) (m : σ → Nat) {R : τ → Prop} {s : σ} (hs : I s) (hm : m s < 18446744073709551616)
  (h : ∀ s, I s → Ret (step s) (LRP (fun s' => I s' ∧ m s' < m s) R)) : Ret (loop step s) R := by
 have gen : ∀ (n : Nat) (s : σ), I s → m s < n → Ret (XN step n s) R := by
  intro n
  induction n with
  | zero => intro s _ h; omega
  | succ n ih =>
   intro s hs hm
   obtain ⟨a, e, q⟩ := h s hs
   rw [kS, e]
   cases a with
   | next s' => exact ih s' q.1 (by have := q.2; omega)
   | done t => exact ⟨t, rfl, q⟩
 exact gen fuel s hs hm
theorem Ys {step : σ → Option (LR σ τ)} (st : Nat → σ) (n : Nat) {t : τ} (hn : n < 9223372036854775808) (h : ∀ i, i < n → step (st i) = some (.next (st (i + 1)))) (hd : step (st n) = some (.done t)) : loop step (st 0) = some t := by
 have gen : ∀ (k : Nat) (i : Nat), i ≤ n → n - i < k → XN step k (st i) = some t := by
  intro k
  induction k with
  | zero => intro i _ h; omega
  | succ k ih =>
   intro i hi hk
   rw [kS]
   rcases Nat.lt_or_ge i n with q | q
   ·rw [h i q]
    exact ih (i + 1) q (by omega)
   ·have : i = n := by omega
    subst this
    rw [hd]
 exact gen fuel 0 (Nat.zero_le _) (by show n - 0 < 18446744073709551616; omega)
def ZH (f : Nat → α → Option ρ) : List α → Nat → Option ρ
 | [], _ => none
 | x :: l, i => match f i x with | some r => some r | none => ZH f l (i + 1)
theorem QI {f : Nat → α → Option ρ} : ∀ {l : List α} {k : Nat}, (∀ i x, l[i]? = some x → f (k + i) x = none) → ZH f l k = none
 | [], _, _ => rfl
 | x :: l, k, h => by
  have h0 := h 0 x rfl
  simp only [Nat.add_zero] at h0
  simp only [ZH, h0]
  exact QI fun i y hy => by have := h (i + 1) y (by simpa using hy); rwa [show k + 1 + i = k + (i + 1) by omega]
theorem Wh {f : Nat → α → Option ρ} {r : ρ} : ∀ {l : List α} {k : Nat}, ZH f l k = some r → ∃ i x, l[i]? = some x ∧ f (k + i) x = some r
 | [], _, h => by cases h
 | x :: l, k, h => by
  simp only [ZH] at h
  cases hf : f k x with
  | some r' => rw [hf] at h; exact ⟨0, x, rfl, by rw [Nat.add_zero, hf]; exact h⟩
  | none =>
   rw [hf] at h
   obtain ⟨i, y, h1, h2⟩ := Wh h
   exact ⟨i + 1, y, by simpa using h1, by rw [← h2]; congr 1; omega⟩
theorem WP {f : Nat → α → Option ρ} {l : List α} {k : Nat} (h : ZH f l k = none) : ∀ i x, l[i]? = some x → f (k + i) x = none := by
 induction l generalizing k with
 | nil => intro i x h; simp at h
 | cons y l ih =>
  intro i x hx
  simp only [ZH] at h
  cases hf : f k y with
  | some r' => rw [hf] at h; cases h
  | none =>
   rw [hf] at h
   cases i with
   | zero => simp at hx; subst hx; simpa using hf
   | succ i => have := ih h i x (by simpa using hx); rwa [show k + (i + 1) = k + 1 + i by omega]
def oS : Option ρ → Unit ⊕ ρ
 | some r => .inr r
 | none => .inl ()
def nS (i : Nat) : Option ρ → LR Int (Unit ⊕ ρ)
 | some r => .done (.inr r)
 | none => .next (w64 ((i : Int) + 1))
theorem WI (l : List α) (hl : l.length < 4611686018427387904) {step : Int → Option (LR Int (Unit ⊕ ρ))} (f : Nat → α → Option ρ)
  (h : ∀ (i : Nat) (x : α), l[i]? = some x → step (i : Int) = some (nS i (f i x))) (h2 : step (l.length : Int) = some (.done (.inl ()))) :
  loop step 0 = some (oS (ZH f l 0)) := by
 have gen : ∀ (n : Nat) (k : Nat), k ≤ l.length → l.length - k < n → XN step n (k : Int) = some (oS (ZH f (l.drop k) k)) := by
  intro n
  induction n with
  | zero => intro k _ h; omega
  | succ n ih =>
   intro k hk hn
   rw [kS]
   rcases Nat.lt_or_ge k l.length with hlt | hge
   ·have hx : l[k]? = some l[k] := List.getElem?_eq_getElem hlt
    rw [h k _ hx, List.drop_eq_getElem_cons hlt]
    simp only [ZH]
    cases hf : f k l[k] with
    | some r => rfl
    | none =>
     simp only [nS]
     rw [uA (by omega) (by omega)]
     exact ih (k + 1) hlt (by omega)
   ·have : k = l.length := by omega
    subst this
    rw [h2, List.drop_length]
    rfl
 exact gen fuel 0 (Nat.zero_le _) (by show l.length - 0 < 18446744073709551616; omega)
end
theorem xv {α : Type} {l : List α} {i : Nat} {x : α} (h : l[i]? = some x) : idx l (i : Int) = some x := h
theorem xI {α : Type} {l : List α} {i : Nat} {x : α} (h : l[i]? = some x) : i < l.length := (List.getElem?_eq_some_iff.1 h).1
section
variable {α β σ τ ρ : Type}
def nxt (f : σ → Option (LR τ ρ)) : LR σ ρ → Option (LR τ ρ)
 | .next s => f s
 | .done r => some (.done r)
def QH (g : Nat → α → σ → Option (LR σ ρ)) : List α → Nat → σ → Option (LR σ ρ)
 | [], _, s => some (.next s)
 | x :: l, k, s => Option.bind (g k x s) (nxt (QH g l (k + 1)))
def zdu (k : Nat) (fin : LR σ ρ → τ) : LR σ ρ → LR (σ × Int) τ
 | .next s => .next (s, w64 ((k : Int) + 1))
 | .done r => .done (fin (.done r))
theorem XE (l : List α) (hl : l.length < 4611686018427387904) {step : σ × Int → Option (LR (σ × Int) τ)} (g : Nat → α → σ → Option (LR σ ρ)) (fin : LR σ ρ → τ) (s : σ)
  (h : ∀ (i : Nat) (x : α) (s : σ), l[i]? = some x → step (s, (i : Int)) = (g i x s).map (zdu i fin)) (h2 : ∀ s, step (s, (l.length : Int)) = some (.done (fin (.next s)))) :
  loop step (s, 0) = (QH g l 0 s).map fin := by
 have gen : ∀ (n : Nat) (k : Nat) (s : σ), k ≤ l.length → l.length - k < n → XN step n (s, (k : Int)) = (QH g (l.drop k) k s).map fin := by
  intro n
  induction n with
  | zero => intro k s _ h; omega
  | succ n ih =>
   intro k s hk hn
   rw [kS]
   rcases Nat.lt_or_ge k l.length with hlt | hge
   ·have hx : l[k]? = some l[k] := List.getElem?_eq_getElem hlt
    rw [h k _ s hx, List.drop_eq_getElem_cons hlt]
    simp only [QH]
    cases hg : g k l[k] s with
    | none => rfl
    | some r =>
     cases r with
     | done r => rfl
     | next s' =>
      simp only [Option.map_some, zdu, oB, nxt]
      rw [uA (by omega) (by omega)]
      exact ih (k + 1) s' hlt (by omega)
   ·have : k = l.length := by omega
    subst this
    rw [h2, List.drop_length]
    rfl
 exact gen fuel 0 s (Nat.zero_le _) (by show l.length - 0 < 18446744073709551616; omega)
def ui (yy : σ → α → Option (σ × Bool)) : List α → σ → Option (LR σ σ)
 | [], s => some (.next s)
 | x :: l, s => Option.bind (yy s x) fun r => bif r.2 then ui yy l r.1 else some (.done r.1)
theorem Uh (yy : σ → α → Option (σ × Bool)) (l m : List α) (s : σ) : ui yy (l ++ m) s = Option.bind (ui yy l s) (nxt (ui yy m)) := by
 induction l generalizing s with
 | nil => rfl
 | cons x l ih =>
  simp only [List.cons_append, ui]
  cases yy s x with
  | none => rfl
  | some r =>
   simp only [oB]
   cases r.2 with
   | true => exact ih r.1
   | false => rfl
def uj (f : Nat → α → List β) : List α → Nat → List β
 | [], _ => []
 | x :: l, k => f k x ++ uj f l (k + 1)
theorem WH {f : Nat → α → List β} {y : β} : ∀ {l : List α} {k : Nat}, y ∈ uj f l k ↔ ∃ i x, l[i]? = some x ∧ y ∈ f (k + i) x
 | [], k => by simp [uj]
 | x :: l, k => by
  rw [uj, List.mem_append, WH (l := l)]
  constructor
  ·rintro (h | ⟨i, z, h1, h2⟩)
   ·exact ⟨0, x, rfl, h⟩
   ·exact ⟨i + 1, z, by simpa using h1, by rwa [show k + (i + 1) = k + 1 + i by omega]⟩
  ·rintro ⟨i, z, h1, h2⟩
   cases i with
   | zero => simp at h1; subst h1; exact .inl h2
   | succ i => exact .inr ⟨i, z, by simpa using h1, by rwa [show k + 1 + i = k + (i + 1) by omega]⟩
theorem WO {f : Nat → α → List β} {b : Nat} : ∀ {l : List α} {k : Nat}, (∀ i x, l[i]? = some x → (f (k + i) x).length ≤ b) → (uj f l k).length ≤ l.length * b
 | [], k, _ => by simp [uj]
 | x :: l, k, h => by
  rw [uj, List.length_append, List.length_cons, Nat.succ_mul]
  have h1 := h 0 x rfl
  have h2 := WO (f := f) (l := l) (k := k + 1) (b := b) fun i z hz => by
   have := h (i + 1) z (by simpa using hz)
   rwa [show k + 1 + i = k + (i + 1) by omega]
  simp only [Nat.add_zero] at h1
  omega
theorem XG (yy : σ → β → Option (σ × Bool)) (f : Nat → α → List β) {g : Nat → α → σ → Option (LR σ σ)} :
  ∀ {l : List α} {k : Nat} {s : σ}, (∀ i x s, l[i]? = some x → g (k + i) x s = ui yy (f (k + i) x) s) → QH g l k s = ui yy (uj f l k) s
 | [], k, s, _ => rfl
 | x :: l, k, s, h => by
  rw [uj, Uh, QH]
  have h0 := h 0 x s rfl
  rw [Nat.add_zero] at h0
  rw [h0]
  congr 1
  funext r
  cases r with
  | done r => rfl
  | next s' =>
   exact XG yy f fun i z s hz => by
    have := h (i + 1) z s (by simpa using hz)
    rwa [show k + (i + 1) = k + 1 + i by omega] at this
theorem z0B (yy : σ → β → Option (σ × Bool)) (f : α → List β) {step : σ → α → Option (LR σ σ)} :
  ∀ {l : List α} {s : σ}, (∀ x ∈ l, ∀ s, step s x = ui yy (f x) s) → ui (yOf step) l (.next s) = (ui yy (l.flatMap f) s).map (fun r => match r with | .next s => .next (.next s) | .done s => .done (.done s))
 | [], s, _ => rfl
 | x :: l, s, h => by
  rw [List.flatMap_cons, Uh, ui, yOf, h x List.mem_cons_self s]
  cases ui yy (f x) s with
  | none => rfl
  | some r =>
   cases r with
   | done r => rfl
   | next s' => exact z0B yy f fun z hz => h z (List.mem_cons_of_mem _ hz)
end
def InR (n many : Int) : Prop := 0 ≤ n ∧ n < many
instance (n many : Int) : Decidable (InR n many) := by unfold InR; infer_instance
structure z9T (x : z8) (st : Int) (a : ze) : Prop where
 fr : InR a.From st
 to : InR a.To st
 kind : 0 ≤ a.Kind ∧ a.Kind ≤ 2
 inner : a.Kind = 0 → a.Channel = 0 ∧ InR a.Message x.Labels
 other : a.Kind ≠ 0 → InR a.Channel x.Channels.length ∧ InR a.Message x.Messages
def Ris (l : List Int) (many : Int) : Prop := ∀ (i : Nat) (v : Int), l[i]? = some v → InR v many ∧ (0 < i → ∃ u, l[i - 1]? = some u ∧ u < v)
structure zbY (x : z8) (p : zh) : Prop where
 lo : 1 ≤ p.States
 hi : p.States ≤ 64
 arcs : p.Arcs.length ≤ 256
 ris : Ris p.Final p.States
 fin : p.Final.length ≤ 64
 arc : ∀ a ∈ p.Arcs, z9T x p.States a
structure z2x (x : z8) : Prop where
 msg : 0 ≤ x.Messages ∧ x.Messages ≤ 16
 lab : 0 ≤ x.Labels ∧ x.Labels ≤ 16
 chl : x.Channels.length ≤ 4
 ch : ∀ n ∈ x.Channels, 0 ≤ n ∧ n ≤ 4
 pl : 1 ≤ x.Parts.length ∧ x.Parts.length ≤ 4
 part : ∀ p ∈ x.Parts, zbY x p
structure z9S (x : z8) (c : z7) : Prop where
 sl : c.States.length = x.Parts.length
 ql : c.Queues.length = x.Channels.length
 st : ∀ (i : Nat) (p : zh) (v : Int), x.Parts[i]? = some p → c.States[i]? = some v → InR v p.States
 qu : ∀ (i : Nat) (q : List Int) (n : Int), c.Queues[i]? = some q → x.Channels[i]? = some n → (q.length : Int) ≤ n ∧ ∀ m ∈ q, InR m x.Messages
theorem US {α ρ : Type} (l : List α) (hl : l.length < 4611686018427387904) {step : Int → Option (LR Int (Unit ⊕ ρ))} (h : ∀ (i : Nat) (x : α), l[i]? = some x → step (i : Int) = some (.next (w64 ((i : Int) + 1)))) (h2 : step (l.length : Int) = some (.done (.inl ()))) :
  loop step 0 = some (.inl ()) := by
 rw [WI l hl (fun _ _ => (none : Option ρ)) (fun i x hx => h i x hx) h2, QI (fun _ _ _ => rfl)]
 rfl
theorem z5H {α : Type} {l : List α} (hl : l.length < 4611686018427387904) (p : α → Bool) {step : Int → Option (LR Int (Unit ⊕ Int))} {F : Unit ⊕ Int → Option Int} (hF1 : F (.inl ()) = some (-1)) (hF2 : ∀ n, F (.inr n) = some n)
  (h : ∀ (i : Nat) (x : α), l[i]? = some x → step (i : Int) = some (bif p x then .done (.inr (i : Int)) else .next (w64 ((i : Int) + 1)))) (h2 : step (l.length : Int) = some (.done (.inl ()))) :
  Option.bind (Option.bind (loop step 0) F) (fun r => some (decide (r ≥ 0))) = some (l.any p) := by
 rw [WI l hl (fun i x => bif p x then some (i : Int) else none) (fun i x hx => by rw [h i x hx]; cases p x <;> rfl) h2]
 cases hf : ZH (fun (i : Nat) x => bif p x then some (i : Int) else none) l 0 with
 | none =>
  have ha : l.any p = false := by
   rw [List.any_eq_false]
   intro x hx
   obtain ⟨i, hi⟩ := List.mem_iff_getElem?.1 hx
   have := WP hf i x hi
   cases hp : p x with
   | false => simp
   | true => rw [hp] at this; cases this
  rw [ha]
  show Option.bind (F (.inl ())) _ = _
  rw [hF1]; rfl
 | some r =>
  obtain ⟨i, x, h1, h3⟩ := Wh hf
  have hp : p x = true := by
   cases hp : p x with
   | true => rfl
   | false => rw [hp] at h3; cases h3
  rw [hp] at h3
  cases h3
  have ha : l.any p = true := List.any_eq_true.2 ⟨x, List.mem_of_getElem? h1, hp⟩
  rw [ha]
  show Option.bind (F (.inr _)) _ = _
  rw [hF2]
  simp only [oB]
  rw [decide_eq_true (by omega)]
theorem z9F (l : List Int) (hl : l.length < 4611686018427387904) : yD l () = some (l.any fun n => decide (n > 4)) := by
 unfold yD xH
 refine z5H hl (fun n => decide (n > 4)) rfl (fun _ => rfl) (fun i x hx => ?_) ?_
 ·have hi := xI hx
  unfold yz jm
  rw [decide_eq_true (by omega), cond_true, xv hx, oB, oB]
  cases decide (x > 4) <;> rfl
 ·unfold yz
  rw [decide_eq_false (by omega), cond_false]
theorem zbS (l : List zh) (hl : l.length < 4611686018427387904) : zO l () = some (l.any fun p => decide (p.States > 64) || decide ((p.Arcs.length : Int) > 256)) := by
 unfold zO ye
 refine z5H hl (fun p => decide (p.States > 64) || decide ((p.Arcs.length : Int) > 256)) rfl (fun _ => rfl) (fun i x hx => ?_) ?_
 ·have hi := xI hx
  unfold zN jl
  rw [decide_eq_true (by omega), cond_true, xv hx, oB]
  cases decide (x.States > 64) <;> cases decide ((x.Arcs.length : Int) > 256) <;> rfl
 ·unfold zN
  rw [decide_eq_false (by omega), cond_false]
theorem z9E (l : List Int) (hl : l.length < 4611686018427387904) : yC l () = some (l.any fun n => decide (n < 0)) := by
 unfold yC xG
 refine z5H hl (fun n => decide (n < 0)) rfl (fun _ => rfl) (fun i x hx => ?_) ?_
 ·have hi := xI hx
  unfold yx jv
  rw [decide_eq_true (by omega), cond_true, xv hx, oB, oB]
  cases decide (x < 0) <;> rfl
 ·unfold yx
  rw [decide_eq_false (by omega), cond_false]
theorem z2t (n m : Int) : un n m = some (decide (InR n m)) := by
 unfold un
 by_cases h : n ≥ 0
 ·rw [decide_eq_true h, cond_true]
  exact congrArg some (decide_eq_decide.2 ⟨fun q => ⟨h, q⟩, fun q => q.2⟩)
 ·rw [decide_eq_false h, cond_false]
  exact congrArg some (decide_eq_false (fun q : InR n m => h q.1)).symm
def Ub (x : z8) (st : Int) (a : ze) : Bool :=
 decide (InR a.From st) && decide (InR a.To st) && decide (a.Kind ≤ 2) && bif a.Kind == 0 then (a.Channel == 0 && decide (InR a.Message x.Labels)) else (decide (InR a.Channel x.Channels.length) && decide (InR a.Message x.Messages))
theorem z58 (x : z8) (p : zh) (a : ze) : wv x p a = some (Ub x p.States a) := by
 unfold wv Ub
 rw [z2t, z2t, z2t, z2t, z2t]
 have hk : decide (a.Kind ≤ 2) = !decide (a.Kind > 2) := by
  by_cases h : a.Kind ≤ 2
  ·rw [decide_eq_true h, decide_eq_false (by omega)]; rfl
  ·rw [decide_eq_false h, decide_eq_true (by omega)]; rfl
 rw [hk]
 cases decide (InR a.From p.States) <;> cases decide (InR a.To p.States) <;> cases decide (a.Kind > 2) <;> cases (a.Kind == 0) <;> cases (a.Channel == 0) <;> cases decide (InR a.Channel x.Channels.length) <;> rfl
theorem z2n {x : z8} {st : Int} {a : ze} (h0 : 0 ≤ a.Kind) : Ub x st a = true ↔ z9T x st a := by
 unfold Ub
 constructor
 ·intro h
  simp only [Bool.and_eq_true, decide_eq_true_eq] at h
  obtain ⟨⟨⟨h1, h2⟩, h3⟩, h4⟩ := h
  refine ⟨h1, h2, ⟨h0, h3⟩, fun q => ?_, fun q => ?_⟩
  ·rw [q] at h4; simpa using h4
  ·rw [beq_false_of_ne q, cond_false] at h4; simpa using h4
 ·intro h
  by_cases q : a.Kind = 0
  ·simp [h.fr, h.to, q, h.inner q]
  ·simp [h.fr, h.to, h.kind.2, q, h.other q]
theorem zbT (x : z8) (p : zh) (l : List ze) (hl : l.length < 4611686018427387904) : zS l (x, p) = some (l.any fun a => !Ub x p.States a) := by
 unfold zS yh
 refine z5H hl (fun a => !Ub x p.States a) rfl (fun _ => rfl) (fun i a hx => ?_) ?_
 ·have hi := xI hx
  unfold zR ju
  rw [decide_eq_true (by omega), cond_true, xv hx, oB, z58, oB, oB]
  cases Ub x p.States a <;> rfl
 ·unfold zR
  rw [decide_eq_false (by omega), cond_false]
theorem z2Z {l : List Int} {many : Int} (hl : l.length ≤ 64) (h : Ris l many) : um l many = some true := by
 unfold um
 rw [bdT (US l (by omega) ?_ ?_)]
 ·rfl
 ·intro i v hv
  have hi := xI hv
  obtain ⟨h1, h2⟩ := h i v hv
  unfold vu
  rw [decide_eq_true (by omega), cond_true, xv hv, oB, z2t, oB, decide_eq_true h1, Bool.not_true, cond_false]
  by_cases q : 0 < i
  ·obtain ⟨u, hu, hlt⟩ := h2 q
   rw [decide_eq_true (by omega), cond_true, uA (by omega) (by omega), show (i : Int) - 1 = ((i - 1 : Nat) : Int) by omega, xv hu, oB, decide_eq_false (by omega), cond_false]
   rfl
  ·rw [decide_eq_false (by omega), cond_false]
   rfl
 ·unfold vu
  rw [decide_eq_false (by omega), cond_false]
theorem z5M {x : z8} (h : z2x x) : vV x = some 0 := by
 have habove : jn x = some false := by
  unfold jn
  have h1 := h.chl; have h2 := h.pl.2
  rw [decide_eq_false (by have := h.msg.2; omega), cond_false, decide_eq_false (by have := h.lab.2; omega), cond_false, decide_eq_false (by omega), cond_false, decide_eq_false (by omega), cond_false, z9F _ (by omega), zbS _ (by omega)]
  have e1 : (x.Channels.any fun n => decide (n > 4)) = false := List.any_eq_false.2 fun n hn => by have := h.ch n hn; simp; omega
  have e2 : (x.Parts.any fun p => decide (p.States > 64) || decide ((p.Arcs.length : Int) > 256)) = false := List.any_eq_false.2 fun p hp => by have q1 := (h.part p hp).hi; have q2 := (h.part p hp).arcs; simp; omega
  rw [e1, e2]
  rfl
 have e3 : (x.Channels.any fun n => decide (n < 0)) = false := List.any_eq_false.2 fun n hn => by have := h.ch n hn; simp; omega
 unfold vV
 rw [habove, oB, cond_false, decide_eq_false (by have := h.msg.1; omega), cond_false, decide_eq_false (by have := h.lab.1; omega), cond_false, decide_eq_false (by have := h.pl.1; omega), cond_false, z9E _ (by have := h.chl; omega), e3, oB, cond_false]
 rw [bdT (US x.Parts (by have := h.pl.2; omega) ?_ ?_)]
 ·rfl
 ·intro i p hp
  have hi := xI hp
  have hv := h.part p (List.mem_of_getElem? hp)
  have e4 : (p.Arcs.any fun a => !Ub x p.States a) = false := List.any_eq_false.2 fun a ha => by
   have := (z2n (hv.arc a ha).kind.1).2 (hv.arc a ha)
   simp [this]
  unfold ue
  rw [decide_eq_true (by omega), cond_true, xv hp, oB, decide_eq_false (by have := hv.lo; omega), cond_false, z2Z hv.fin hv.ris, oB, Bool.not_true, cond_false, zbT _ _ _ (by have := hv.arcs; omega), e4, oB, cond_false]
 ·unfold ue
  rw [decide_eq_false (by omega), cond_false]
section
variable {α : Type}
theorem y5.ext_toL {a b : y5 α} (h : a.toL = b.toL) : a = b := by
 cases a; cases b; simp only [y5.toL, List.cons.injEq, and_true] at h; simp only [y5.mk.injEq]; exact h
theorem y5.toL_setI (a : y5 α) (i : Nat) (v : α) : (y5.setI a (i : Int) v).toL = a.toL.set i v := by
 unfold y5.setI
 rw [y5.toL_ofL _ _ (by rw [List.length_set]; rfl)]
 rfl
end
def z0e {α : Type} (z : α) (l : List α) : List α := l ++ List.replicate (4 - l.length) z
theorem Kd {α : Type} {z : α} {l : List α} (h : l.length ≤ 4) : (z0e z l).length = 4 := by
 rw [z0e, List.length_append, List.length_replicate]; omega
theorem z38 {α : Type} {z : α} {l : List α} {i : Nat} {v : α} (h : l[i]? = some v) : (z0e z l)[i]? = some v := by
 rw [z0e, List.getElem?_append_left (xI h)]; exact h
theorem z1R {α : Type} {z : α} {l : List α} {i : Nat} {v : α} (h : i < l.length) : (z0e z l).set i v = z0e z (l.set i v) := by
 rw [z0e, z0e, List.set_append_left _ _ h, List.length_set]
theorem z0d {α : Type} {z : α} {l : List α} : (z0e z l).take l.length = l := by
 rw [z0e, List.take_left]
def pad (l : List Int) : y5 Int := y5.ofL (z0e 0 l) ⟨0, 0, 0, 0⟩
theorem Qv {l : List Int} (h : l.length ≤ 4) : (pad l).toL = z0e 0 l := y5.toL_ofL _ _ (Kd h)
def qOf (l : List Int) : zi := ⟨l.length, pad l⟩
def z7H (l : List (List Int)) : y5 zi := y5.ofL (z0e (qOf []) (l.map qOf)) ⟨qOf [], qOf [], qOf [], qOf []⟩
theorem Kc {l : List (List Int)} (h : l.length ≤ 4) : (z7H l).toL = z0e (qOf []) (l.map qOf) := y5.toL_ofL _ _ (Kd (by simpa using h))
def y6 (c : z7) : za := ⟨pad c.States, z7H c.Queues⟩
theorem Kb {l : List Int} {i : Nat} {v : Int} (h : l.length ≤ 4) (hi : i < l.length) : y5.setI (pad l) (i : Int) v = pad (l.set i v) := by
 apply y5.ext_toL
 rw [y5.toL_setI, Qv h, Qv (by rw [List.length_set]; exact h), z1R hi]
theorem z5e {l : List (List Int)} {i : Nat} {v : List Int} (h : l.length ≤ 4) (hi : i < l.length) : y5.setI (z7H l) (i : Int) (qOf v) = z7H (l.set i v) := by
 apply y5.ext_toL
 rw [y5.toL_setI, Kc h, Kc (by rw [List.length_set]; exact h), z1R (by simpa using hi), List.map_set]
theorem Jy {l : List Int} {i : Nat} {v : Int} (h : l.length ≤ 4) (hi : l[i]? = some v) : idx (pad l).toL (i : Int) = some v := by
 rw [Qv h]; exact z38 hi
theorem z37 {l : List (List Int)} {i : Nat} {v : List Int} (h : l.length ≤ 4) (hi : l[i]? = some v) : idx (z7H l).toL (i : Int) = some (qOf v) := by
 rw [Kc h]; exact z38 (by rw [List.getElem?_map, hi]; rfl)
theorem z94 {l : List Int} (m : Int) (h : l.length < 4) : uU (qOf l) m = some (qOf (l ++ [m])) := by
 match l, h with
 | [], _ => rfl
 | [a], _ => rfl
 | [a, b], _ => rfl
 | [a, b, c], _ => rfl
theorem z4J {a : Int} {l : List Int} (h : l.length < 4) : uB (qOf (a :: l)) = some (qOf l) := by
 match l, h with
 | [], _ => rfl
 | [x], _ => rfl
 | [x, y], _ => rfl
 | [x, y, z], _ => rfl
theorem z28 {l : List Int} (h : l.length ≤ 4294967296) : xU l = some l := by
 unfold xU
 rw [gdT (by simpa using h)]
theorem z3R {l : List Int} : w7 l = some l := by
 unfold w7
 rw [gdT (by omega)]
 simp
theorem QO {x : z8} {c : z7} (hs : c.States.length = x.Parts.length) (hq : c.Queues.length = x.Channels.length) (h4 : x.Parts.length ≤ 4) (h5 : x.Channels.length ≤ 4) (hb : ∀ q ∈ c.Queues, q.length ≤ 4) :
  x7 x (y6 c) = some c := by
 unfold x7
 have e1 : [(y6 c).states_.e0, (y6 c).states_.e1, (y6 c).states_.e2, (y6 c).states_.e3] = z0e 0 c.States := Qv (by omega)
 rw [gdT (by simp; omega), e1, show (((x.Parts.length : Nat) : Int)).toNat = c.States.length by omega, z0d, z28 (by omega), oB, z3R, oB, gdT (by omega)]
 have hl : loop (fun s => yZ x (y6 c) s.1 s.2) ((List.replicate ((x.Channels.length : Nat) : Int).toNat ([] : List Int)), 0) = some c.Queues := by
  rw [show (((x.Channels.length : Nat) : Int)).toNat = c.Queues.length by omega]
  have e0 : List.replicate c.Queues.length ([] : List Int) = c.Queues.take 0 ++ List.replicate (c.Queues.length - 0) [] := by simp
  rw [e0]
  refine Ys (fun j => (c.Queues.take j ++ List.replicate (c.Queues.length - j) [], (j : Int))) c.Queues.length (by omega) (fun j hj => ?_) ?_
  ·have hv : c.Queues[j]? = some c.Queues[j] := List.getElem?_eq_getElem hj
   have hlen : (c.Queues.take j).length = j := by rw [List.length_take]; omega
   have hql := hb _ (List.mem_of_getElem? hv)
   have e2 : [(qOf c.Queues[j]).l_.e0, (qOf c.Queues[j]).l_.e1, (qOf c.Queues[j]).l_.e2, (qOf c.Queues[j]).l_.e3] = z0e 0 c.Queues[j] := Qv hql
   unfold yZ
   dsimp only
   rw [decide_eq_true (by rw [List.length_replicate]; omega), cond_true]
   rw [show idx (y6 c).queues_.toL (j : Int) = some (qOf c.Queues[j]) from z37 (by omega) hv, oB]
   rw [e2]
   rw [show (qOf c.Queues[j]).many_ = ((c.Queues[j].length : Nat) : Int) from rfl]
   rw [gdT (show (0 : Int) ≤ ((c.Queues[j].length : Nat) : Int) ∧ ((c.Queues[j].length : Nat) : Int) ≤ (((z0e 0 c.Queues[j]).length : Nat) : Int) by rw [Kd hql]; omega)]
   rw [Int.toNat_natCast, z0d, z28 (by omega), oB, z3R, oB]
   have hi : idx (c.Queues.take j ++ List.replicate (c.Queues.length - j) ([] : List Int)) (j : Int) = some [] := by
    show (c.Queues.take j ++ List.replicate (c.Queues.length - j) ([] : List Int))[j]? = some []
    rw [List.getElem?_append_right (by omega), hlen, Nat.sub_self, List.getElem?_replicate, if_pos (by omega)]
   rw [hi, oB, uA (by omega) (by omega), Int.toNat_natCast]
   have : (c.Queues.take j ++ List.replicate (c.Queues.length - j) ([] : List Int)).set j c.Queues[j] = c.Queues.take (j + 1) ++ List.replicate (c.Queues.length - (j + 1)) [] := by
    rw [List.set_append_right _ _ (by omega), hlen, Nat.sub_self, show c.Queues.length - j = (c.Queues.length - (j + 1)) + 1 by omega, List.replicate_succ, List.set_cons_zero, List.take_add_one, hv, List.append_assoc]
    rfl
   rw [this]
   rfl
  ·unfold yZ
   dsimp only
   rw [decide_eq_false (by rw [List.length_replicate]; omega), cond_false, List.take_length, Nat.sub_self]
   simp
 rw [bdT hl]
 rfl
def wZ (l : List ze) (st : Int) : List (Int × ze) := uj (fun k a => if a.From = st then [((k : Int), a)] else []) l 0
theorem Y5 {l : List ze} {st : Int} {e : Int × ze} : e ∈ wZ l st ↔ ∃ k : Nat, e.1 = k ∧ l[k]? = some e.2 ∧ e.2.From = st := by
 unfold wZ
 rw [WH]
 constructor
 ·rintro ⟨i, a, h1, h2⟩
  rw [Nat.zero_add] at h2
  split at h2
  ·rename_i h
   simp at h2
   subst h2
   exact ⟨i, rfl, h1, h⟩
  ·simp at h2
 ·rintro ⟨k, h1, h2, h3⟩
  refine ⟨k, e.2, h2, ?_⟩
  rw [if_pos h3, Nat.zero_add, ← h1]
  simp
def stv (c : z7) (o : Nat) : Int := (c.States[o]?).getD 0
def two (c : z7) (p : Nat) (i : Int) (a : ze) (o : Nat) (kb : Int × ze) : List (zc × z7) :=
 if kb.2.Kind = 2 ∧ kb.2.Channel = a.Channel ∧ kb.2.Message = a.Message then [(⟨p, i, o, kb.1⟩, ⟨(c.States.set p a.To).set o kb.2.To, c.Queues⟩)] else []
def WL (x : z8) (c : z7) (p : Nat) (i : Int) (a : ze) : List (zc × z7) :=
 uj (fun o P => if o = p then [] else (wZ P.Arcs (stv c o)).flatMap (two c p i a o)) x.Parts 0
def quv (c : z7) (a : ze) : List Int := (c.Queues[a.Channel.toNat]?).getD []
def rmv (x : z8) (a : ze) : Int := (x.Channels[a.Channel.toNat]?).getD 0
def one (x : z8) (c : z7) (p : Nat) (e : Int × ze) : List (zc × z7) :=
 if e.2.Kind = 0 then [(⟨p, e.1, -1, -1⟩, ⟨c.States.set p e.2.To, c.Queues⟩)]
 else if rmv x e.2 = 0 then (if e.2.Kind = 1 then WL x c p e.1 e.2 else [])
 else if e.2.Kind = 1 then (if ((quv c e.2).length : Int) < rmv x e.2 then [(⟨p, e.1, -1, -1⟩, ⟨c.States.set p e.2.To, c.Queues.set e.2.Channel.toNat (quv c e.2 ++ [e.2.Message])⟩)] else [])
 else (if (quv c e.2).head? = some e.2.Message then [(⟨p, e.1, -1, -1⟩, ⟨c.States.set p e.2.To, c.Queues.set e.2.Channel.toNat (quv c e.2).tail⟩)] else [])
def mvs (x : z8) (c : z7) : List (zc × z7) :=
 uj (fun p P => (wZ P.Arcs (stv c p)).flatMap (one x c p)) x.Parts 0
section
variable {σ : Type}
def z2p : LR σ σ → σ
 | .next s => s
 | .done s => s
def z9e : LR σ σ → σ ⊕ σ
 | .next s => .inl s
 | .done s => .inr s
def yeM (yy : σ → (zc × za) → Option (σ × Bool)) (s : σ) (m : zc × z7) : Option (σ × Bool) := yy s (m.1, y6 m.2)
theorem z80 {x : z8} {c : z7} {p : Nat} {P : zh} {st : Int} (h1 : x.Parts[p]? = some P) (h2 : c.States[p]? = some st) (h3 : P.Arcs.length ≤ 256) (h4 : c.States.length ≤ 4)
  (yy : σ → (Int × ze) → Option (σ × Bool)) (sg : σ) : yj x (p : Int) (y6 c) yy sg = (ui yy (wZ P.Arcs st) sg).map z2p := by
 unfold yj
 rw [xv h1, oB]
 have hc : idx (y6 c).states_.toL (p : Int) = some st := Jy h4 h2
 rw [XE P.Arcs (by omega) (g := fun k a s => if a.From = st then Option.bind (yy s ((k : Int), a)) (fun r => some (bif r.2 then .next r.1 else .done r.1)) else some (.next s)) z2p sg ?_ ?_]
 ·rw [XG yy (fun k a => if a.From = st then [((k : Int), a)] else [])]
  ·unfold wZ
   cases (ui yy (uj (fun k a => if a.From = st then [((k : Int), a)] else []) P.Arcs 0) sg) <;> rfl
  ·intro i a s ha
   rw [Nat.zero_add]
   split
   ·simp only [ui]
    cases yy s ((i : Int), a) with
    | none => rfl
    | some r => obtain ⟨r1, r2⟩ := r; cases r2 <;> rfl
   ·rfl
 ·intro i a s ha
  have hi := xI ha
  unfold xE
  dsimp only
  rw [decide_eq_true (by omega), cond_true, xv ha, oB, hc, oB]
  by_cases q : a.From = st
  ·rw [q, beq_self_eq_true, cond_true, if_pos rfl]
   cases yy s ((i : Int), a) with
   | none => rfl
   | some r => obtain ⟨r1, r2⟩ := r; cases r2 <;> rfl
  ·rw [beq_false_of_ne q, cond_false, if_neg q]
   rfl
 ·intro s
  unfold xE
  dsimp only
  rw [decide_eq_false (by omega), cond_false]
  rfl
theorem z20 {α : Type} {x : z8} {c : z7} {p : Nat} {P : zh} {st : Int} (h1 : x.Parts[p]? = some P) (h2 : c.States[p]? = some st) (h3 : P.Arcs.length ≤ 256) (h4 : c.States.length ≤ 4)
  (yy : σ → α → Option (σ × Bool)) (f : Int × ze → List α) {step : σ → Int × ze → Option (LR σ σ)} (sg : σ) (h : ∀ e ∈ wZ P.Arcs st, ∀ s, step s e = ui yy (f e) s) :
  yj x (p : Int) (y6 c) (yOf step) (.next sg) = ui yy ((wZ P.Arcs st).flatMap f) sg := by
 rw [z80 h1 h2 h3 h4, z0B yy f h]
 cases ui yy ((wZ P.Arcs st).flatMap f) sg with
 | none => rfl
 | some r => cases r <;> rfl
theorem zbI {c : z7} (yy : σ → (zc × za) → Option (σ × Bool)) {p o : Nat} (i k : Int) (a b : ze) (h4 : c.States.length ≤ 4) (hp : p < c.States.length) (ho : o < c.States.length) (sg : σ) :
  yU (y6 c) yy (p : Int) i a (o : Int) sg k b = ui (yeM yy) (two c p i a o (k, b)) sg := by
 unfold yU two
 by_cases q1 : b.Kind = 2
 ·rw [q1, bne_self_eq_false, cond_false]
  by_cases q2 : b.Channel = a.Channel
  ·rw [q2, bne_self_eq_false, cond_false]
   by_cases q3 : b.Message = a.Message
   ·rw [q3, bne_self_eq_false, cond_false, if_pos ⟨rfl, rfl, rfl⟩]
    have e1 : idx (y6 c).states_.toL (p : Int) = some c.States[p] := Jy h4 (List.getElem?_eq_getElem hp)
    have e2 : y5.setI (y6 c).states_ (p : Int) a.To = pad (c.States.set p a.To) := Kb h4 hp
    have e3 : idx (pad (c.States.set p a.To)).toL (o : Int) = some ((c.States.set p a.To)[o]'(by rw [List.length_set]; exact ho)) := Jy (by rw [List.length_set]; exact h4) (List.getElem?_eq_getElem _)
    have e4 : y5.setI (pad (c.States.set p a.To)) (o : Int) b.To = pad ((c.States.set p a.To).set o b.To) := Kb (by rw [List.length_set]; exact h4) (by rw [List.length_set]; exact ho)
    rw [e1, oB, oB, e2, e3, oB, oB, e4]
    simp only [ui, yeM]
    show Option.bind (yy sg (_, y6 ⟨(c.States.set p a.To).set o b.To, c.Queues⟩)) _ = _
    cases yy sg (⟨(p : Int), i, (o : Int), k⟩, y6 ⟨(c.States.set p a.To).set o b.To, c.Queues⟩) with
    | none => rfl
    | some r => obtain ⟨r1, r2⟩ := r; cases r2 <;> rfl
   ·rw [if_neg (fun q => q3 q.2.2), bne_iff_ne.2 q3 |> fun h => (h : (b.Message != a.Message) = true), cond_true]
    rfl
  ·rw [if_neg (fun q => q2 q.2.1), bne_iff_ne.2 q2 |> fun h => (h : (b.Channel != a.Channel) = true), cond_true]
   rfl
 ·rw [if_neg (fun q => q1 q.1), bne_iff_ne.2 q1 |> fun h => (h : (b.Kind != 2) = true), cond_true]
  rfl
structure MOk (x : z8) (c : z7) : Prop where
 sys : z2x x
 cfg : z9S x c
theorem MOk.s4 {x : z8} {c : z7} (h : MOk x c) : c.States.length ≤ 4 := by have := h.cfg.sl; have := h.sys.pl; omega
theorem MOk.q4 {x : z8} {c : z7} (h : MOk x c) : c.Queues.length ≤ 4 := by have := h.cfg.ql; have := h.sys.chl; omega
theorem MOk.qb {x : z8} {c : z7} (h : MOk x c) : ∀ q ∈ c.Queues, q.length ≤ 4 := by
 intro q hq
 obtain ⟨i, hi⟩ := List.mem_iff_getElem?.1 hq
 have e0 := h.cfg.ql
 have e1 := xI hi
 have hn : x.Channels[i]? = some (x.Channels[i]'(by omega)) := List.getElem?_eq_getElem _
 have h1 := (h.cfg.qu i q _ hi hn).1
 have h2 := h.sys.ch _ (List.mem_of_getElem? hn)
 omega
theorem MOk.stat {x : z8} {c : z7} (h : MOk x c) {p : Nat} {P : zh} (hp : x.Parts[p]? = some P) : p < c.States.length ∧ c.States[p]? = some (stv c p) := by
 have hl : p < c.States.length := by have := xI hp; have := h.cfg.sl; omega
 refine ⟨hl, ?_⟩
 unfold stv
 rw [List.getElem?_eq_getElem hl]
 rfl
theorem zbF {x : z8} {c : z7} (h : MOk x c) (yy : σ → (zc × za) → Option (σ × Bool)) {p : Nat} (i : Int) (a : ze) (hp : p < x.Parts.length) (sg : σ) :
  loop (fun s => yT x (y6 c) yy (p : Int) i a s.1 s.2) (sg, 0) = (ui (yeM yy) (WL x c p i a) sg).map z9e := by
 have hpl := h.sys.pl
 rw [XE x.Parts (by omega) (g := fun o P s => ui (yeM yy) (if o = p then [] else (wZ P.Arcs (stv c o)).flatMap (two c p i a o)) s) z9e sg ?_ ?_]
 ·rw [XG (yeM yy) (fun o P => if o = p then [] else (wZ P.Arcs (stv c o)).flatMap (two c p i a o)) (fun _ _ _ _ => by rw [Nat.zero_add])]
  rfl
 ·intro o P s hP
  have ho := xI hP
  unfold yT
  dsimp only
  rw [decide_eq_true (by omega), cond_true]
  by_cases q : o = p
  ·subst q
   rw [beq_self_eq_true, cond_true, if_pos rfl]
   rfl
  ·rw [beq_false_of_ne (by omega), cond_false, if_neg q]
   unfold xY
   rw [oB]
   dsimp only
   obtain ⟨h1, h2⟩ := h.stat hP
   rw [z20 hP h2 (h.sys.part P (List.mem_of_getElem? hP)).arcs h.s4 (yeM yy) (two c p i a o) s (fun e _ s' => zbI yy i e.1 a e.2 h.s4 (by have := h.cfg.sl; omega) h1 s')]
   cases ui (yeM yy) ((wZ P.Arcs (stv c o)).flatMap (two c p i a o)) s with
   | none => rfl
   | some r => cases r <;> rfl
 ·intro s
  unfold yT
  dsimp only
  rw [decide_eq_false (by omega), cond_false]
  rfl
theorem z2j {x : z8} {c : z7} (h : MOk x c) {p : Nat} (hp : p < c.States.length) {a : ze} (hk : a.Kind = 0) (hc : a.Channel = 0) :
  xA x (y6 c) (p : Int) a = some (y6 ⟨c.States.set p a.To, c.Queues⟩, false) := by
 unfold xA
 have e1 : idx (y6 c).states_.toL (p : Int) = some c.States[p] := Jy h.s4 (List.getElem?_eq_getElem hp)
 have e2 : y5.setI (y6 c).states_ (p : Int) a.To = pad (c.States.set p a.To) := Kb h.s4 hp
 rw [e1, oB, oB, e2, hc, show idx (y5.toL (y6 c).queues_) (mn 0 3) = some (y6 c).queues_.e0 from rfl, oB, hk, beq_self_eq_true, cond_true]
 rfl
theorem MOk.chan {x : z8} {c : z7} (h : MOk x c) {st : Int} {a : ze} (ha : z9T x st a) (hk : a.Kind ≠ 0) : ∃ n : Nat, a.Channel = (n : Int) ∧ n < 4 ∧ c.Queues[n]? = some (quv c a) ∧ x.Channels[n]? = some (rmv x a) ∧ ((quv c a).length : Int) ≤ rmv x a ∧ rmv x a ≤ 4 := by
 have hr := (ha.other hk).1
 have hql := h.cfg.ql
 have hcl := h.sys.chl
 obtain ⟨r1, r2⟩ := hr
 have e1 : c.Queues[a.Channel.toNat]? = some (quv c a) := by
  unfold quv
  rw [List.getElem?_eq_getElem (by omega)]
  rfl
 have e2 : x.Channels[a.Channel.toNat]? = some (rmv x a) := by
  unfold rmv
  rw [List.getElem?_eq_getElem (by omega)]
  rfl
 refine ⟨a.Channel.toNat, by omega, by omega, e1, e2, (h.cfg.qu _ _ _ e1 e2).1, (h.sys.ch _ (List.mem_of_getElem? e2)).2⟩
theorem z2i {x : z8} {c : z7} (h : MOk x c) {p : Nat} (hp : p < c.States.length) {st : Int} {a : ze} (ha : z9T x st a) (hk : a.Kind ≠ 0) :
  xA x (y6 c) (p : Int) a = (if rmv x a = 0 then some (⟨pad (c.States.set p a.To), (y6 c).queues_⟩, true)
   else if a.Kind = 1 then (if ((quv c a).length : Int) < rmv x a then some (y6 ⟨c.States.set p a.To, c.Queues.set a.Channel.toNat (quv c a ++ [a.Message])⟩, false) else some (⟨pad (c.States.set p a.To), (y6 c).queues_⟩, true))
   else (if (quv c a).head? = some a.Message then some (y6 ⟨c.States.set p a.To, c.Queues.set a.Channel.toNat (quv c a).tail⟩, false) else some (⟨pad (c.States.set p a.To), (y6 c).queues_⟩, true))) := by
 obtain ⟨n, hn, hn4, e1, e2, hle, h4⟩ := h.chan ha hk
 unfold xA
 have e3 : idx (y6 c).states_.toL (p : Int) = some c.States[p] := Jy h.s4 (List.getElem?_eq_getElem hp)
 have e4 : y5.setI (y6 c).states_ (p : Int) a.To = pad (c.States.set p a.To) := Kb h.s4 hp
 have e5 : idx (y5.toL (y6 c).queues_) (n : Int) = some (qOf (quv c a)) := z37 h.q4 e1
 have e6 : mn (n : Int) 3 = n := by unfold mn; rw [if_neg (by omega)]
 have hset : ∀ q : List Int, y5.setI (y6 c).queues_ (n : Int) (qOf q) = z7H (c.Queues.set n q) := fun q => z5e h.q4 (xI e1)
 rw [e3, oB, oB, e4, hn, e6, e5, oB, beq_false_of_ne hk, cond_false, xv e2, oB, Int.toNat_natCast]
 by_cases q0 : rmv x a = 0
 ·rw [q0, beq_self_eq_true, cond_true, if_pos rfl]
  rfl
 ·rw [beq_false_of_ne q0, cond_false, if_neg q0]
  by_cases q1 : a.Kind = 1
  ·rw [q1, beq_self_eq_true, cond_true, if_pos rfl, oB, show ((1 : Int) == 2) = false from rfl, cond_false]
   by_cases q2 : ((quv c a).length : Int) < rmv x a
   ·rw [if_pos q2, beq_false_of_ne (show (qOf (quv c a)).many_ ≠ rmv x a from by show ((quv c a).length : Int) ≠ _; omega), cond_false]
    unfold zQ
    rw [cond_false, q1, beq_self_eq_true, cond_true, z94 _ (by omega), oB, hn, e5, oB, oB, hset]
    rfl
   ·rw [if_neg q2, show ((qOf (quv c a)).many_ == rmv x a) = true from beq_iff_eq.2 (by show ((quv c a).length : Int) = _; omega), cond_true]
    rfl
  ·have q2 : a.Kind = 2 := by have := ha.kind; omega
   rw [beq_false_of_ne q1, cond_false, if_neg q1, q2, beq_self_eq_true, cond_true]
   cases hq : quv c a with
   | nil => rfl
   | cons m l =>
    rw [hq] at hle e5
    simp only [List.length_cons] at hle
    rw [show ((qOf (m :: l)).many_ == 0) = false from beq_false_of_ne (by show (((m :: l).length : Nat) : Int) ≠ 0; simp; omega), cond_false]
    have e7 : (qOf (m :: l)).l_.e0 = m := by
     have := Jy (l := m :: l) (i := 0) (v := m) (by simp; omega) rfl
     exact Option.some.inj this
    rw [e7]
    unfold zQ
    by_cases q3 : m = a.Message
    ·rw [q3, bne_self_eq_false, cond_false, q2, show ((2 : Int) == 1) = false from rfl, cond_false, if_pos (show (a.Message :: l).head? = some a.Message from rfl)]
     rw [q3] at e5
     rw [z4J (by omega), oB, hn, e5, oB, oB, hset]
     rfl
    ·rw [show (m != a.Message) = true from bne_iff_ne.2 q3, cond_true, if_neg (show ¬(m :: l).head? = some a.Message from fun q => q3 (Option.some.inj q))]
theorem zbK {x : z8} {c : z7} (h : MOk x c) (yy : σ → (zc × za) → Option (σ × Bool)) {p : Nat} (hp : p < x.Parts.length) (i : Int) {a : ze} {st : Int} (ha : z9T x st a) (sg : σ) :
  yV x (y6 c) yy (p : Int) sg i a = ui (yeM yy) (one x c p (i, a)) sg := by
 have hps : p < c.States.length := by have := h.cfg.sl; omega
 have key : ∀ (m : zc) (to : z7), (Option.bind (yy sg (m, y6 to)) fun yr => bif !yr.2 then some (LR.done yr.1) else some (LR.next yr.1)) = ui (yeM yy) [(m, to)] sg := by
  intro m to
  simp only [ui, yeM]
  cases yy sg (m, y6 to) with
  | none => rfl
  | some r => obtain ⟨r1, r2⟩ := r; cases r2 <;> rfl
 unfold yV one QL
 by_cases q : a.Kind = 0
 ·rw [z2j h hps q (ha.inner q).1, oB, cond_true, oB, Bool.not_false, cond_true, if_pos q]
  exact key _ _
 ·rw [z2i h hps ha q, if_neg q]
  obtain ⟨n, hn, hn4, e1, e2, hle, h4⟩ := h.chan ha q
  have er : idx x.Channels a.Channel = some (rmv x a) := by rw [hn]; exact xv e2
  by_cases q0 : rmv x a = 0
  ·rw [if_pos q0, if_pos q0, oB, cond_true, oB, Bool.not_true, cond_false]
   by_cases q1 : a.Kind = 1
   ·rw [q1, bne_self_eq_false, cond_false, er, oB, decide_eq_false (by omega), cond_false, zbF h yy i a hp]
    show _ = ui (yeM yy) (WL x c p i a) sg
    cases ui (yeM yy) (WL x c p i a) sg with
    | none => rfl
    | some r => cases r <;> rfl
   ·rw [show (a.Kind != 1) = true from bne_iff_ne.2 q1, cond_true, if_neg q1]
    rfl
  ·rw [if_neg q0, if_neg q0]
   by_cases q1 : a.Kind = 1
   ·rw [if_pos q1, if_pos q1]
    by_cases q2 : ((quv c a).length : Int) < rmv x a
    ·rw [if_pos q2, if_pos q2, oB, cond_true, oB, Bool.not_false, cond_true]
     exact key _ _
    ·rw [if_neg q2, if_neg q2, oB, cond_true, oB, Bool.not_true, cond_false, q1, bne_self_eq_false, cond_false, er, oB, decide_eq_true (by have : (0 : Int) ≤ (quv c a).length := Int.natCast_nonneg _; omega), cond_true]
     rfl
   ·rw [if_neg q1, if_neg q1]
    by_cases q2 : (quv c a).head? = some a.Message
    ·rw [if_pos q2, if_pos q2, oB, cond_true, oB, Bool.not_false, cond_true]
     exact key _ _
    ·rw [if_neg q2, if_neg q2, oB, cond_true, oB, Bool.not_true, cond_false, show (a.Kind != 1) = true from bne_iff_ne.2 q1, cond_true]
     rfl
theorem z5f {x : z8} {c : z7} (h : MOk x c) (yy : σ → (zc × za) → Option (σ × Bool)) (sg : σ) :
  xr x (y6 c) yy sg = (ui (yeM yy) (mvs x c) sg).map z2p := by
 unfold xr
 have hpl := h.sys.pl
 rw [XE x.Parts (by omega) (g := fun p P s => ui (yeM yy) ((wZ P.Arcs (stv c p)).flatMap (one x c p)) s) z2p sg ?_ ?_]
 ·rw [XG (yeM yy) (fun p P => (wZ P.Arcs (stv c p)).flatMap (one x c p)) (fun _ _ _ _ => by rw [Nat.zero_add])]
  show Option.bind (Option.map z2p (ui (yeM yy) (mvs x c) sg)) _ = _
  cases ui (yeM yy) (mvs x c) sg <;> rfl
 ·intro p P s hP
  have hp := xI hP
  obtain ⟨h1, h2⟩ := h.stat hP
  have hv := h.sys.part P (List.mem_of_getElem? hP)
  unfold xu xY
  dsimp only
  rw [decide_eq_true (by omega), cond_true, oB]
  rw [z20 hP h2 hv.arcs h.s4 (yeM yy) (one x c p) s (fun e he s' => by
   obtain ⟨k, _, hk, _⟩ := Y5.1 he
   exact zbK h yy hp e.1 (hv.arc e.2 (List.mem_of_getElem? hk)) s')]
  cases ui (yeM yy) ((wZ P.Arcs (stv c p)).flatMap (one x c p)) s with
  | none => rfl
  | some r => cases r <;> rfl
 ·intro s
  unfold xu
  dsimp only
  rw [decide_eq_false (by omega), cond_false]
  rfl
end
def dst (c : z7) (p : Nat) (a : ze) : z7 :=
 if a.Kind = 0 then ⟨c.States.set p a.To, c.Queues⟩
 else if a.Kind = 1 then ⟨c.States.set p a.To, c.Queues.set a.Channel.toNat (quv c a ++ [a.Message])⟩
 else ⟨c.States.set p a.To, c.Queues.set a.Channel.toNat (quv c a).tail⟩
def can (x : z8) (c : z7) (a : ze) : Prop :=
 a.Kind = 0 ∨ rmv x a ≠ 0 ∧ (a.Kind = 1 ∧ ((quv c a).length : Int) < rmv x a ∨ a.Kind ≠ 0 ∧ a.Kind ≠ 1 ∧ (quv c a).head? = some a.Message)
def zdW (c : z7) (p : Nat) (a : ze) (o : Nat) (b : ze) : z7 := ⟨(c.States.set p a.To).set o b.To, c.Queues⟩
theorem z7M {x : z8} {c : z7} {p : Nat} {k : Int} {a : ze} {e : zc × z7} : e ∈ one x c p (k, a) ↔
  (e = (⟨p, k, -1, -1⟩, dst c p a) ∧ can x c a) ∨ (a.Kind = 1 ∧ rmv x a = 0 ∧ ∃ (o : Nat) (Po : zh) (kk : Nat) (b : ze), o ≠ p ∧ x.Parts[o]? = some Po ∧ Po.Arcs[kk]? = some b ∧ b.From = stv c o ∧ (b.Kind = 2 ∧ b.Channel = a.Channel ∧ b.Message = a.Message) ∧ e = (⟨p, k, o, kk⟩, zdW c p a o b)) := by
 have hh : e ∈ WL x c p k a ↔ ∃ (o : Nat) (Po : zh) (kk : Nat) (b : ze), o ≠ p ∧ x.Parts[o]? = some Po ∧ Po.Arcs[kk]? = some b ∧ b.From = stv c o ∧ (b.Kind = 2 ∧ b.Channel = a.Channel ∧ b.Message = a.Message) ∧ e = (⟨p, k, o, kk⟩, zdW c p a o b) := by
  unfold WL
  rw [WH]
  constructor
  ·rintro ⟨o, Po, h1, h2⟩
   rw [Nat.zero_add] at h2
   split at h2
   ·simp at h2
   ·rename_i ho
    obtain ⟨kb, h3, h4⟩ := List.mem_flatMap.1 h2
    obtain ⟨kk, h5, h6, h7⟩ := Y5.1 h3
    unfold two at h4
    split at h4
    ·rename_i hq
     simp only [List.mem_singleton] at h4
     rw [h5] at h4
     exact ⟨o, Po, kk, kb.2, ho, h1, h6, h7, hq, h4⟩
    ·simp at h4
  ·rintro ⟨o, Po, kk, b, ho, h1, h6, h7, hq, rfl⟩
   refine ⟨o, Po, h1, ?_⟩
   rw [Nat.zero_add, if_neg ho]
   refine List.mem_flatMap.2 ⟨((kk : Int), b), Y5.2 ⟨kk, rfl, h6, h7⟩, ?_⟩
   unfold two
   rw [if_pos hq]
   exact List.mem_singleton.2 rfl
 unfold one dst can
 dsimp only
 by_cases q0 : a.Kind = 0
 ·simp [q0]
 ·by_cases q1 : rmv x a = 0
  ·by_cases q2 : a.Kind = 1
   ·rw [if_neg q0, if_pos q1, if_pos q2, hh]
    simp [q1, q2]
   ·simp [q0, q1, q2]
  ·by_cases q2 : a.Kind = 1
   ·by_cases q3 : ((quv c a).length : Int) < rmv x a
    ·simp [q1, q2, q3]
    ·simp [q1, q2, q3]
   ·by_cases q3 : (quv c a).head? = some a.Message
    ·simp [q0, q1, q2, q3]
    ·simp [q0, q1, q2, q3]
theorem z7N {x : z8} {c : z7} {e : zc × z7} : e ∈ mvs x c ↔
  ∃ (p : Nat) (P : zh) (k : Nat) (a : ze), x.Parts[p]? = some P ∧ P.Arcs[k]? = some a ∧ a.From = stv c p ∧ e ∈ one x c p ((k : Int), a) := by
 unfold mvs
 rw [WH]
 constructor
 ·rintro ⟨p, P, h1, h2⟩
  rw [Nat.zero_add] at h2
  obtain ⟨e', h3, h4⟩ := List.mem_flatMap.1 h2
  obtain ⟨k, h5, h6, h7⟩ := Y5.1 h3
  obtain ⟨k', a⟩ := e'
  simp only at h5 h6 h7
  subst h5
  exact ⟨p, P, k, a, h1, h6, h7, h4⟩
 ·rintro ⟨p, P, k, a, h1, h6, h7, h4⟩
  refine ⟨p, P, h1, ?_⟩
  rw [Nat.zero_add]
  exact List.mem_flatMap.2 ⟨((k : Int), a), Y5.2 ⟨k, rfl, h6, h7⟩, h4⟩
theorem z67 {x : z8} {c : z7} (hc : z9S x c) {p : Nat} {P : zh} {t : Int} (hP : x.Parts[p]? = some P) (ht : InR t P.States) : z9S x ⟨c.States.set p t, c.Queues⟩ := by
 refine ⟨by rw [List.length_set]; exact hc.sl, hc.ql, fun i q v h1 h2 => ?_, hc.qu⟩
 dsimp only at h2
 rw [List.getElem?_set] at h2
 split at h2
 ·rename_i hpi
  subst hpi
  split at h2
  ·cases h2
   rw [hP] at h1
   cases h1
   exact ht
  ·cases h2
 ·exact hc.st i q v h1 h2
theorem zcS {x : z8} {c : z7} (hc : z9S x c) {n : Nat} {q : List Int} (hq : ∀ r, x.Channels[n]? = some r → (q.length : Int) ≤ r ∧ ∀ m ∈ q, InR m x.Messages) : z9S x ⟨c.States, c.Queues.set n q⟩ := by
 refine ⟨hc.sl, by rw [List.length_set]; exact hc.ql, hc.st, fun i q' r h1 h2 => ?_⟩
 dsimp only at h1
 rw [List.getElem?_set] at h1
 split at h1
 ·rename_i hpi
  subst hpi
  split at h1
  ·cases h1
   exact hq r h2
  ·cases h1
 ·exact hc.qu i q' r h1 h2
theorem z1T {x : z8} {c : z7} (h : MOk x c) {e : zc × z7} (he : e ∈ mvs x c) : MOk x e.2 := by
 refine ⟨h.sys, ?_⟩
 obtain ⟨p, P, k, a, h1, h2, h3, h4⟩ := z7N.1 he
 have hv := (h.sys.part P (List.mem_of_getElem? h1)).arc a (List.mem_of_getElem? h2)
 have hs := z67 h.cfg h1 hv.to
 rcases z7M.1 h4 with ⟨rfl, hc⟩ | ⟨_, _, o, Po, kk, b, _, h5, h6, _, _, rfl⟩
 ·unfold dst
  dsimp only
  split
  ·exact hs
  ·rename_i q0
   obtain ⟨n, hn, _, e1, e2, hle, _⟩ := h.chan hv q0
   have hqm : ∀ m ∈ quv c a, InR m x.Messages := (h.cfg.qu n _ _ e1 e2).2
   have hnn : a.Channel.toNat = n := by omega
   rw [hnn]
   rcases hc with hc | ⟨_, ⟨q1, q2⟩ | ⟨_, q1, q2⟩⟩
   ·exact absurd hc q0
   ·rw [if_pos q1]
    refine zcS hs (n := n) fun r hr => ?_
    rw [e2] at hr
    cases hr
    refine ⟨by rw [List.length_append, List.length_singleton]; omega, fun m hm => ?_⟩
    rcases List.mem_append.1 hm with hm | hm
    ·exact hqm m hm
    ·rw [List.mem_singleton.1 hm]
     exact (hv.other q0).2
   ·rw [if_neg q1]
    refine zcS hs (n := n) fun r hr => ?_
    rw [e2] at hr
    cases hr
    exact ⟨by rw [List.length_tail]; omega, fun m hm => hqm m (List.mem_of_mem_tail hm)⟩
 ·exact z67 hs h5 ((h.sys.part Po (List.mem_of_getElem? h5)).arc b (List.mem_of_getElem? h6)).to
theorem Yw {α β : Type} {f : α → List β} {b : Nat} : ∀ {l : List α}, (∀ x ∈ l, (f x).length ≤ b) → (l.flatMap f).length ≤ l.length * b
 | [], _ => by simp
 | x :: l, h => by
  rw [List.flatMap_cons, List.length_append, List.length_cons, Nat.succ_mul]
  have h1 := h x List.mem_cons_self
  have h2 := Yw (f := f) (l := l) (b := b) fun y hy => h y (List.mem_cons_of_mem _ hy)
  omega
theorem Vt {l : List ze} {st : Int} (h : l.length ≤ 256) : (wZ l st).length ≤ 256 := by
 have := WO (f := fun (k : Nat) (a : ze) => if a.From = st then [((k : Int), a)] else []) (l := l) (k := 0) (b := 1) fun i x _ => by split <;> simp
 unfold wZ
 omega
theorem Kf {x : z8} {c : z7} (h : z2x x) : (mvs x c).length ≤ 1048576 := by
 have hpl := h.pl.2
 have hh : ∀ p i a, (WL x c p i a).length ≤ 1024 := by
  intro p i a
  have := WO (f := fun o P => if o = p then [] else (wZ P.Arcs (stv c o)).flatMap (two c p i a o)) (l := x.Parts) (k := 0) (b := 256) fun o P hP => by
   split
   ·simp
   ·have h1 := Vt (st := stv c (0 + o)) (h.part P (List.mem_of_getElem? hP)).arcs
    have h2 := Yw (f := two c p i a (0 + o)) (l := wZ P.Arcs (stv c (0 + o))) (b := 1) fun e _ => by unfold two; split <;> simp
    omega
  unfold WL
  omega
 have ho : ∀ p e, (one x c p e).length ≤ 1024 := by
  intro p e
  have := hh p e.1 e.2
  unfold one
  split
  ·simp
  ·split
   ·split
    ·exact this
    ·simp
   ·split
    ·split <;> simp
    ·split <;> simp
 have := WO (f := fun p P => (wZ P.Arcs (stv c p)).flatMap (one x c p)) (l := x.Parts) (k := 0) (b := 262144) fun p P hP => by
  have h1 := Vt (st := stv c (0 + p)) (h.part P (List.mem_of_getElem? hP)).arcs
  have h2 := Yw (f := one x c (0 + p)) (l := wZ P.Arcs (stv c (0 + p))) (b := 1024) fun e _ => ho _ e
  omega
 unfold mvs
 omega
def By (n : Int) : Prop := 0 ≤ n ∧ n ≤ 255
structure OkZ (z : xx) : Prop where
 st : By z.States
 arc : ∀ a ∈ z.Arcs, By a.e0 ∧ By a.e1 ∧ By a.e2 ∧ By a.e3 ∧ By a.e4
structure OkY (y : ya) : Prop where
 c0 : By y.Channels.e0
 c1 : By y.Channels.e1
 parts : ∀ z ∈ y.Parts, OkZ z
theorem z8y (s : Int) : (0 : Int) ≤ IntKind.u64.wrap s := by
 simp only [IntKind.wrap, IntKind.bits, IntKind.signed]
 simp
 omega
theorem z2g {n : Int} (h : By n) : 0 ≤ Int.tmod n 3 ∧ Int.tmod n 3 < 3 := by
 rw [Int.tmod_eq_emod_of_nonneg h.1]; omega
theorem z8B {n : Int} (h : By n) : 0 ≤ Int.tmod n 2 ∧ Int.tmod n 2 < 2 := by
 rw [Int.tmod_eq_emod_of_nonneg h.1]; omega
theorem z8A {n k : Int} (h : By n) (hk : 0 < k) : InR (Int.tmod n k) k := by
 rw [Int.tmod_eq_emod_of_nonneg h.1]
 exact ⟨Int.emod_nonneg _ (by omega), Int.emod_lt_of_pos _ hk⟩
theorem z7B {l : List Int} {n : Int} (hn : 0 ≤ n) (h : Ris l n) : Ris (l ++ [n]) (n + 1) := by
 intro i v hv
 rcases Nat.lt_or_ge i l.length with q | q
 ·rw [List.getElem?_append_left q] at hv
  obtain ⟨h1, h2⟩ := h i v hv
  refine ⟨⟨h1.1, by have := h1.2; omega⟩, fun hi => ?_⟩
  obtain ⟨u, h3, h4⟩ := h2 hi
  exact ⟨u, by rw [List.getElem?_append_left (by omega)]; exact h3, h4⟩
 ·rw [List.getElem?_append_right q] at hv
  have hi : i - l.length = 0 := by
   have := xI hv
   simp at this
   omega
  rw [hi] at hv
  cases hv
  refine ⟨⟨hn, by omega⟩, fun hi' => ?_⟩
  have hl : i - 1 < l.length := by omega
  have hu : l[i - 1]? = some l[i - 1] := List.getElem?_eq_getElem hl
  exact ⟨l[i - 1], by rw [List.getElem?_append_left hl]; exact hu, (h _ _ hu).1.2⟩
theorem z1K {l : List Int} {n m : Int} (hn : n ≤ m) (h : Ris l n) : Ris l m := by
 intro i v hv
 obtain ⟨h1, h2⟩ := h i v hv
 exact ⟨⟨h1.1, by have := h1.2; omega⟩, h2⟩
structure VA (st : Int) (a : ze) : Prop where
 fr : InR a.From st
 to : InR a.To st
 kind : 0 ≤ a.Kind ∧ a.Kind ≤ 2
 inner : a.Kind = 0 → a.Channel = 0
 ch : InR a.Channel 2
 msg : InR a.Message 2
structure VP (p : zh) : Prop where
 lo : 1 ≤ p.States
 hi : p.States ≤ 3
 arcs : p.Arcs.length ≤ 6
 ris : Ris p.Final p.States
 fin : (p.Final.length : Int) ≤ p.States
 arc : ∀ a ∈ p.Arcs, VA p.States a
theorem z99 {l : List zh} {i : Int} {s : Int} {arcs : List ze} {fin : List Int} (hl : l.length ≤ 3) (hp : VP ⟨s, arcs, fin⟩) (hlp : ∀ p ∈ l, VP p) :
  ∃ l', qa l i s arcs fin = some (.next (l', w64 (i + 1))) ∧ l'.length = l.length + 1 ∧ ∀ p ∈ l', VP p := by
 refine ⟨l ++ [⟨s, arcs, fin⟩], ?_, by simp, fun p hp' => ?_⟩
 ·unfold qa kJ
  rw [gdT (by rw [List.length_singleton]; omega)]
 ·rcases List.mem_append.1 hp' with h | h
  ·exact hlp p h
  ·rw [List.mem_singleton.1 h]; exact hp
theorem zbx {y : ya} (h : OkY y) {l : List zh} {i : Nat} {b : Bool} (hl : l.length ≤ 3) (hlp : ∀ p ∈ l, VP p) :
  ∃ l', u7 y l (i : Int) b = some (.next (l', w64 ((i : Int) + 1))) ∧ l'.length = l.length + 1 ∧ ∀ p ∈ l', VP p := by
 unfold u7
 by_cases hi : (i : Int) < ((y.Parts.length : Nat) : Int)
 ·have hz : y.Parts[i]? = some (y.Parts[i]'(by omega)) := List.getElem?_eq_getElem _
  generalize y.Parts[i]'(by omega) = z at hz
  have hok := h.parts z (List.mem_of_getElem? hz)
  have hm := z2g hok.st
  rw [decide_eq_true hi, cond_true, xv hz, oB, gdT (by omega)]
  have e0 : w64 (1 + (w64 (Int.tmod z.States 3))) = 1 + Int.tmod z.States 3 := by rw [uA (x := Int.tmod z.States 3) (by omega) (by omega), uA (by omega) (by omega)]
  generalize hst : 1 + Int.tmod z.States 3 = st at e0
  have r9 : Ret (loop (fun s => jF z s.1 s.2) (([] : List Int), 0)) (fun fl => Ris fl st ∧ (fl.length : Int) ≤ st) := by
   refine WE (fun s => ∃ n : Nat, s.2 = (n : Int) ∧ (n : Int) ≤ st ∧ Ris s.1 n ∧ s.1.length ≤ n) (fun s => 3 - s.2.toNat) ⟨0, rfl, by omega, fun i v hv => by simp at hv, Nat.le_refl _⟩ (by show 3 - 0 < _; omega) ?_
   rintro ⟨fl, s⟩ ⟨n, hs, hn, h1, h2⟩
   dsimp only at hs h1 h2 ⊢
   subst hs
   unfold jF qG
   rw [e0]
   by_cases q : (n : Int) < st
   ·rw [decide_eq_true q, cond_true, gdT (z8y _), uA (by omega) (by omega)]
    cases (zb4 .u8 (Int.fdiv z.Final (2 ^ (min (IntKind.u64.wrap (n : Int)).toNat 8))) 1) == 1 with
    | true =>
     rw [cond_true, gdT (by rw [List.length_singleton]; omega)]
     refine u6.2 ⟨⟨n + 1, rfl, by omega, z7B (by omega) h1, by rw [List.length_append, List.length_singleton]; omega⟩, ?_⟩
     show 3 - ((n : Int) + 1).toNat < 3 - (n : Int).toNat
     omega
    | false =>
     rw [cond_false]
     refine u6.2 ⟨⟨n + 1, rfl, by omega, z1K (by omega) h1, by dsimp only; omega⟩, ?_⟩
     show 3 - ((n : Int) + 1).toNat < 3 - (n : Int).toNat
     omega
   ·rw [decide_eq_false q, cond_false]
    exact u6.2 ⟨z1K (by omega) h1, by omega⟩
  obtain ⟨fl, e9, f1, f2⟩ := r9
  rw [bdT e9]
  unfold kI
  have r7 : Ret (loop (fun s => jG z fl s.1 s.2) (([] : List ze), 0)) (fun t => t.1 = st ∧ t.2.2 = fl ∧ t.2.1.length ≤ 6 ∧ ∀ a ∈ t.2.1, VA st a) := by
   refine WE (fun s => ∃ n : Nat, s.2 = (n : Int) ∧ n ≤ 6 ∧ s.1.length ≤ n ∧ ∀ a ∈ s.1, VA st a) (fun s => 6 - s.2.toNat) ⟨0, rfl, by omega, Nat.le_refl _, fun a ha => by simp at ha⟩ (by show 6 - 0 < _; omega) ?_
   rintro ⟨arcs, s⟩ ⟨n, hs, hn, h1, h2⟩
   dsimp only at hs h1 h2 ⊢
   subst hs
   unfold jG
   by_cases q : (n : Int) < ((z.Arcs.length : Nat) : Int)
   ·rw [decide_eq_true q, cond_true]
    by_cases q6 : (n : Int) < 6
    ·have ha : z.Arcs[n]? = some (z.Arcs[n]'(by omega)) := List.getElem?_eq_getElem _
     generalize z.Arcs[n]'(by omega) = a at ha
     obtain ⟨b0, b1, b2, b3, b4⟩ := hok.arc a (List.mem_of_getElem? ha)
     have w0 : w64 a.e0 = a.e0 := uA (by have := b0.1; omega) (by have := b0.2; omega)
     have w4 : w64 a.e4 = a.e4 := uA (by have := b4.1; omega) (by have := b4.2; omega)
     have t2 := z8B b2
     have t3 := z8B b3
     have t1 := z2g b1
     have s0 := z8A b0 (k := st) (by omega)
     have s4 := z8A b4 (k := st) (by omega)
     have fin : ∀ ch : Int, InR ch 2 → (Int.tmod a.e1 3 = 0 → ch = 0) → Ret (uZ z arcs (n : Int) a ch) (LRP (fun s' => (∃ n : Nat, s'.2 = (n : Int) ∧ n ≤ 6 ∧ s'.1.length ≤ n ∧ ∀ a ∈ s'.1, VA st a) ∧ 6 - s'.2.toNat < 6 - (n : Int).toNat) (fun t : Int × List ze × List Int => t.1 = st ∧ t.2.2 = fl ∧ t.2.1.length ≤ 6 ∧ ∀ a ∈ t.2.1, VA st a)) := by
      intro ch hch h0
      unfold uZ
      rw [e0, w0, w4, uA (x := Int.tmod a.e3 2) (by omega) (by omega), gdT (by rw [List.length_singleton]; omega), uA (by omega) (by omega)]
      refine u6.2 ⟨⟨n + 1, rfl, by omega, by rw [List.length_append, List.length_singleton]; omega, fun a' ha' => ?_⟩, ?_⟩
      ·rcases List.mem_append.1 ha' with hm | hm
       ·exact h2 a' hm
       ·rw [List.mem_singleton.1 hm]
        exact ⟨s0, s4, ⟨t1.1, by dsimp only; omega⟩, h0, hch, ⟨t3.1, t3.2⟩⟩
      ·show 6 - ((n : Int) + 1).toNat < 6 - (n : Int).toNat
       omega
     rw [decide_eq_true q6, cond_true, xv ha, oB, e0, gdT (by omega), gdT (by omega), gdT (by omega), gdT (by omega), gdT (by omega)]
     by_cases qk : Int.tmod a.e1 3 = 0
     ·rw [qk, beq_self_eq_true, cond_true]
      exact fin 0 ⟨by omega, by omega⟩ (fun _ => rfl)
     ·rw [beq_false_of_ne qk, cond_false, uA (x := Int.tmod a.e2 2) (by omega) (by omega)]
      exact fin _ ⟨t2.1, t2.2⟩ (fun q => absurd q qk)
    ·rw [decide_eq_false q6, cond_false, e0]
     exact u6.2 ⟨rfl, rfl, by dsimp only; omega, h2⟩
   ·rw [decide_eq_false q, cond_false, e0]
    exact u6.2 ⟨rfl, rfl, by dsimp only; omega, h2⟩
  obtain ⟨t, e7, g1, g2, g3, g4⟩ := r7
  rw [bdT e7, g1, g2]
  exact z99 hl ⟨by dsimp only; omega, by dsimp only; omega, g3, f1, f2, g4⟩ hlp
 ·rw [decide_eq_false hi, cond_false]
  exact z99 hl ⟨by decide, by decide, by simp, fun i v hv => by simp at hv, by simp, fun a ha => by simp at ha⟩ hlp
structure zcL (y : ya) (x : z8) : Prop where
 msg : x.Messages = 2
 lab : x.Labels = 2
 ch : x.Channels = [Int.tmod y.Channels.e0 3, Int.tmod y.Channels.e1 3]
 pl : 1 ≤ x.Parts.length ∧ x.Parts.length ≤ 3
 part : ∀ p ∈ x.Parts, VP p
theorem z98 {y : ya} (h : OkY y) : ∃ x, Y8 y = some x ∧ zcL y x := by
 unfold Y8
 rw [gdT (by omega), gdT (by omega)]
 have r2 : Ret (loop (fun s => jH y s.1 s.2) (([] : List zh), 0)) (fun l => (1 ≤ l.length ∧ l.length ≤ 3) ∧ ∀ p ∈ l, VP p) := by
  refine WE (fun s => ∃ n : Nat, s.2 = (n : Int) ∧ n ≤ 3 ∧ s.1.length = n ∧ ∀ p ∈ s.1, VP p) (fun s => 3 - s.2.toNat) ⟨0, rfl, by omega, rfl, fun a ha => by simp at ha⟩ (by show 3 - 0 < _; omega) ?_
  rintro ⟨l, s⟩ ⟨n, hs, hn, h1, h2⟩
  dsimp only at hs h1 h2 ⊢
  subst hs
  unfold jH
  have go : ∀ b, n < 3 → Ret (u7 y l (n : Int) b) (LRP (fun s' => (∃ n : Nat, s'.2 = (n : Int) ∧ n ≤ 3 ∧ s'.1.length = n ∧ ∀ p ∈ s'.1, VP p) ∧ 3 - s'.2.toNat < 3 - (n : Int).toNat) (fun l : List zh => (1 ≤ l.length ∧ l.length ≤ 3) ∧ ∀ p ∈ l, VP p)) := by
   intro b q
   obtain ⟨l', e, h3, h4⟩ := zbx h (l := l) (i := n) (b := b) (by omega) h2
   rw [e, uA (by omega) (by omega)]
   refine u6.2 ⟨⟨n + 1, rfl, by omega, by dsimp only; omega, h4⟩, ?_⟩
   show 3 - ((n : Int) + 1).toNat < 3 - (n : Int).toNat
   omega
  by_cases q : (n : Int) < 3
  ·rw [decide_eq_true q, cond_true]
   by_cases q1 : (n : Int) < ((y.Parts.length : Nat) : Int)
   ·rw [decide_eq_true q1, cond_true]
    exact go _ (by omega)
   ·rw [decide_eq_false q1, cond_false]
    by_cases q2 : n = 0
    ·subst q2
     exact go true (by omega)
    ·rw [beq_false_of_ne (by omega), cond_false]
     exact u6.2 ⟨⟨by omega, by omega⟩, h2⟩
  ·rw [decide_eq_false q, cond_false]
   exact u6.2 ⟨⟨by omega, by omega⟩, h2⟩
 obtain ⟨l, e, h1, h2⟩ := r2
 rw [bdT e]
 have t0 := z2g h.c0
 have t1 := z2g h.c1
 refine ⟨_, rfl, rfl, rfl, ?_, h1, h2⟩
 dsimp only
 rw [uA (x := Int.tmod y.Channels.e0 3) (by omega) (by omega), uA (x := Int.tmod y.Channels.e1 3) (by omega) (by omega)]
theorem z5u {y : ya} {x : z8} (h : zcL y x) {a b : Int} (ha : 0 ≤ a ∧ a ≤ 4) (hb : 0 ≤ b ∧ b ≤ 4) : z2x ⟨x.Messages, x.Labels, [a, b], x.Parts⟩ := by
 have hm := h.msg
 have hl := h.lab
 refine ⟨by dsimp only; omega, by dsimp only; omega, by simp, fun n hn => ?_, ⟨h.pl.1, by have := h.pl.2; dsimp only; omega⟩, fun p hp => ?_⟩
 ·simp at hn
  rcases hn with rfl | rfl <;> assumption
 ·have hv := h.part p hp
  have h1 := hv.hi
  have h2 := hv.fin
  refine ⟨hv.lo, by omega, by have := hv.arcs; omega, hv.ris, by omega, fun a ha' => ?_⟩
  have hva := hv.arc a ha'
  refine ⟨hva.fr, hva.to, hva.kind, fun q => ⟨hva.inner q, ?_⟩, fun _ => ⟨hva.ch, ?_⟩⟩
  ·dsimp only; rw [hl]; exact hva.msg
  ·dsimp only; rw [hm]; exact hva.msg
theorem z3v {y : ya} {x : z8} (hy : OkY y) (h : zcL y x) : z2x x := by
 have t0 := z2g hy.c0
 have t1 := z2g hy.c1
 have := z5u h (a := Int.tmod y.Channels.e0 3) (b := Int.tmod y.Channels.e1 3) (by omega) (by omega)
 rw [← h.ch] at this
 exact this
def beg (x : z8) : z7 := ⟨List.replicate x.Parts.length 0, List.replicate x.Channels.length []⟩
theorem z5U {x : z8} (h : z2x x) : Zb x = some (beg x) := by
 unfold Zb
 rw [gdT (by have := h.pl.2; omega), gdT (by have := h.chl; omega), Int.toNat_natCast, Int.toNat_natCast]
 rfl
theorem z6t {x : z8} (h : z2x x) : MOk x (beg x) := by
 refine ⟨h, by simp [beg], by simp [beg], fun i p v hp hv => ?_, fun i q n hq hn => ?_⟩
 ·have := List.mem_of_getElem? hv
  have hv0 : v = 0 := List.eq_of_mem_replicate this
  subst hv0
  exact ⟨Int.le_refl _, by have := (h.part p (List.mem_of_getElem? hp)).lo; omega⟩
 ·have hq0 : q = [] := List.eq_of_mem_replicate (List.mem_of_getElem? hq)
  subst hq0
  exact ⟨(h.ch n (List.mem_of_getElem? hn)).1, fun m hm => by simp at hm⟩
theorem UZ {c : z7} (hs : c.States.length ≤ 4) (hq : c.Queues.length ≤ 4) (p : Nat) (st ch : Int) (q : List Int) (hc : ch = -1 ∨ 0 ≤ ch) :
  uY c (p : Int) st ch q = some ⟨c.States.set p st, if ch = -1 then c.Queues else c.Queues.set ch.toNat q⟩ := by
 unfold uY
 have h5 : loop (fun s => uW c (p : Int) st s.1 s.2) (([] : List Int), 0) = some (c.States.set p st) := by
  have hl : (c.States.set p st).length = c.States.length := List.length_set
  refine Ys (fun j => ((c.States.set p st).take j, (j : Int))) c.States.length (by omega) (fun j hj => ?_) ?_
  ·have hv : c.States[j]? = some c.States[j] := List.getElem?_eq_getElem hj
   unfold uW jC
   dsimp only
   rw [decide_eq_true (by omega), cond_true, xv hv, oB, uA (by omega) (by omega)]
   have e : (if p = j then st else c.States[j]) = (c.States.set p st)[j]'(by rw [hl]; exact hj) := by rw [List.getElem_set]
   by_cases q : j = p
   ·subst q
    rw [beq_self_eq_true, cond_true, gdT (by rw [List.length_take, List.length_singleton]; omega), List.take_add_one, List.getElem?_set_self hj]
    rfl
   ·rw [beq_false_of_ne (by omega), cond_false, gdT (by rw [List.length_take, List.length_singleton]; omega), List.take_add_one, List.getElem?_set_ne (fun h => q h.symm), hv]
    rfl
  ·unfold uW
   dsimp only
   rw [decide_eq_false (by omega), cond_false, List.take_of_length_le (by omega)]
 rw [bdT h5]
 unfold kG
 have h3 : loop (fun s => uX c ch q s.1 s.2) (([] : List (List Int)), 0) = some (if ch = -1 then c.Queues else c.Queues.set ch.toNat q) := by
  have hl : (if ch = -1 then c.Queues else c.Queues.set ch.toNat q).length = c.Queues.length := by split <;> simp
  refine Ys (fun j => ((if ch = -1 then c.Queues else c.Queues.set ch.toNat q).take j, (j : Int))) c.Queues.length (by omega) (fun j hj => ?_) ?_
  ·have hv : c.Queues[j]? = some c.Queues[j] := List.getElem?_eq_getElem hj
   unfold uX jD
   dsimp only
   rw [decide_eq_true (by omega), cond_true, xv hv, oB, uA (by omega) (by omega)]
   by_cases q1 : (j : Int) = ch
   ·subst q1
    rw [beq_self_eq_true, cond_true, gdT (by rw [List.length_take, List.length_singleton]; omega), List.take_add_one, if_neg (by omega), Int.toNat_natCast, List.getElem?_set_self hj]
    rfl
   ·rw [beq_false_of_ne q1, cond_false, gdT (by rw [List.length_take, List.length_singleton]; omega), List.take_add_one]
    have : (if ch = -1 then c.Queues else c.Queues.set ch.toNat q)[j]? = some c.Queues[j] := by
     split
     ·exact hv
     ·rw [List.getElem?_set_ne (by omega)]; exact hv
    rw [this]
    rfl
  ·unfold uX
   dsimp only
   rw [decide_eq_false (by omega), cond_false, List.take_of_length_le (by omega)]
 rw [bdT h3]
 rfl
theorem z0C {α β ρ : Type} {B : Nat} {f : Nat → α → List β} {g : Nat → α → List β → Option (LR (List β) ρ)} : ∀ {l : List α} {k : Nat} {acc : List β}, acc.length + (uj f l k).length ≤ B →
  (∀ (i : Nat) (x : α) (acc : List β), l[i]? = some x → acc.length + (f (k + i) x).length ≤ B → g (k + i) x acc = some (.next (acc ++ f (k + i) x))) → QH g l k acc = some (.next (acc ++ uj f l k))
 | [], k, acc, _, _ => by simp [QH, uj]
 | x :: l, k, acc, hb, h => by
  rw [uj, List.length_append] at hb
  have h0 := h 0 x acc rfl (by rw [Nat.add_zero]; omega)
  rw [Nat.add_zero] at h0
  rw [QH, h0, oB]
  show QH g l (k + 1) (acc ++ f k x) = _
  rw [z0C (f := f) (B := B) (by rw [List.length_append]; omega) (fun i y acc' hy hb' => by
   have := h (i + 1) y acc' (by simpa using hy)
   rw [show k + (i + 1) = k + 1 + i by omega] at this
   exact this hb'), uj, List.append_assoc]
theorem W0 {β : Type} (f : Int × ze → List β) (l : List ze) (st : Int) : (wZ l st).flatMap f = uj (fun i a => if a.From = st then f ((i : Int), a) else []) l 0 := by
 have gen : ∀ (l : List ze) (k : Nat), (uj (fun k a => if a.From = st then [((k : Int), a)] else []) l k).flatMap f = uj (fun i a => if a.From = st then f ((i : Int), a) else []) l k := by
  intro l
  induction l with
  | nil => intro k; rfl
  | cons a l ih =>
   intro k
   rw [uj, uj, List.flatMap_append, ih]
   split <;> simp
 exact gen l 0
theorem ki {α β γ : Type} (h : β → γ) (f : Nat → α → List β) : ∀ (l : List α) (k : Nat), (uj f l k).map h = uj (fun i x => (f i x).map h) l k
 | [], _ => rfl
 | x :: l, k => by rw [uj, uj, List.map_append, ki h f l]
def zb5 {β ρ : Type} (L acc : List β) : Option (LR (List β) ρ) := match L with
 | [] => some (.next acc)
 | _ :: _ => gd (acc.length + L.length ≤ 4294967296) (some (.next (acc ++ L)))
theorem z9y {α β : Type} {p : Prop} [Decidable p] {x : Option α} {f : α → β} : (gd p x).map f = gd p (x.map f) := by
 unfold gd
 split <;> rfl
theorem z8h {β ρ : Type} {L acc : List β} (h : acc.length + L.length ≤ 4294967296) : zb5 (ρ := ρ) L acc = some (.next (acc ++ L)) := by
 cases L with
 | nil => simp [zb5]
 | cons x l => exact gdT h
theorem z3I {α β ρ : Type} {f : Nat → α → List β} {l : List α} {acc : List β} (h : acc.length + (uj f l 0).length ≤ 4294967296) : QH (ρ := ρ) (fun k x acc => zb5 (f k x) acc) l 0 acc = some (.next (acc ++ uj f l 0)) :=
 z0C (B := 4294967296) h fun i x acc _ hb => z8h hb
theorem Kh {α β : Type} (l : List α) (hl : l.length < 4611686018427387904) {B : Nat} (f : Nat → α → List β) {step : List β × Int → Option (LR (List β × Int) (List β))} {acc : List β} (hb : acc.length + (uj f l 0).length ≤ B)
  (h : ∀ (i : Nat) (x : α) (s : List β), l[i]? = some x → s.length + (f i x).length ≤ B → step (s, (i : Int)) = some (.next (s ++ f i x, w64 ((i : Int) + 1)))) (h2 : ∀ s, step (s, (l.length : Int)) = some (.done s)) :
  loop step (acc, 0) = some (acc ++ uj f l 0) := by
 have gen : ∀ (n k : Nat) (acc : List β), k ≤ l.length → l.length - k < n → acc.length + (uj f (l.drop k) k).length ≤ B → XN step n (acc, (k : Int)) = some (acc ++ uj f (l.drop k) k) := by
  intro n
  induction n with
  | zero => intro k acc _ h _; omega
  | succ n ih =>
   intro k acc hk hn hb
   rw [kS]
   rcases Nat.lt_or_ge k l.length with hlt | hge
   ·have hx : l[k]? = some l[k] := List.getElem?_eq_getElem hlt
    rw [List.drop_eq_getElem_cons hlt, uj, List.length_append] at hb
    rw [h k _ acc hx (by omega), List.drop_eq_getElem_cons hlt, uj]
    dsimp only
    rw [uA (by omega) (by omega)]
    have := ih (k + 1) (acc ++ f k l[k]) hlt (by omega) (by rw [List.length_append]; omega)
    rw [List.append_assoc] at this
    exact this
   ·have : k = l.length := by omega
    subst this
    rw [h2, List.drop_length]
    simp [uj]
 exact gen fuel 0 acc (Nat.zero_le _) (by show l.length - 0 < 18446744073709551616; omega) hb
theorem QA {σ τ : Type} {step : σ → Option (LR σ τ)} {s : σ} {t : τ} (h : step s = some (.done t)) : loop step s = some t := by
 show XN step (18446744073709551615 + 1) s = _
 rw [kS, h]
def kC (e : zc × z7) : zg := ⟨e.1, e.2⟩
section
variable {x : z8} {c : z7}
theorem z9i (h : MOk x c) {p o : Nat} (hp : p < x.Parts.length) {Po : zh} (ho : x.Parts[o]? = some Po) (hop : o ≠ p) (i : Int) (a : ze) {acc : List zg}
  (hb : acc.length + ((wZ Po.Arcs (stv c o)).flatMap (two c p i a o)).length ≤ 4294967296) :
  loop (fun s => wj x c (p : Int) i a (o : Int) s.1 s.2) (acc, 0) = some (acc ++ ((wZ Po.Arcs (stv c o)).flatMap (two c p i a o)).map kC) := by
 have hv := h.sys.part Po (List.mem_of_getElem? ho)
 have harc := hv.arcs
 obtain ⟨hol, hos⟩ := h.stat ho
 have hps : p < c.States.length := by have := h.cfg.sl; omega
 rw [W0] at hb ⊢
 rw [ki]
 have hb' : acc.length + (uj (fun (k : Nat) b => (if b.From = stv c o then two c p i a o ((k : Int), b) else []).map kC) Po.Arcs 0).length ≤ 4294967296 := by
  rw [← ki, List.length_map]; exact hb
 rw [XE Po.Arcs (by omega) (ρ := List zg) (fun k b acc => zb5 ((if b.From = stv c o then two c p i a o ((k : Int), b) else []).map kC) acc) z2p acc ?_ ?_]
 ·rw [z3I hb']
  rfl
 ·intro k b s hk
  have hkl := xI hk
  unfold wj wk
  dsimp only
  rw [xv ho, oB, decide_eq_true (by omega), cond_true, show ((o : Int) != (p : Int)) = true from bne_iff_ne.2 (by omega), cond_true, oB, xv hk, oB, xv hos]
  unfold two
  dsimp only
  by_cases q1 : b.Kind = 2
  ·rw [q1, beq_self_eq_true, cond_true, oB]
   by_cases q2 : b.From = stv c o
   ·rw [q2, beq_self_eq_true, cond_true, if_pos rfl]
    by_cases q3 : b.Channel = a.Channel
    ·rw [q3, beq_self_eq_true, cond_true]
     by_cases q4 : b.Message = a.Message
     ·rw [q4, beq_self_eq_true, cond_true, if_pos ⟨rfl, rfl, rfl⟩, UZ h.s4 h.q4 p _ _ _ (.inl rfl), oB, if_pos rfl, UZ (c := ⟨c.States.set p a.To, c.Queues⟩) (by rw [List.length_set]; exact h.s4) h.q4 o _ _ _ (.inl rfl), oB, if_pos rfl]
      show gd _ _ = (gd (s.length + 1 ≤ 4294967296) _).map _
      rw [z9y]
      rfl
     ·rw [beq_false_of_ne q4, cond_false, if_neg (fun q => q4 q.2.2)]; rfl
    ·rw [beq_false_of_ne q3, cond_false, if_neg (fun q => q3 q.2.1)]; rfl
   ·rw [beq_false_of_ne q2, cond_false, if_neg q2]; rfl
  ·rw [beq_false_of_ne q1, cond_false]
   split
   ·rw [if_neg (fun q => q1 q.1)]; rfl
   ·rfl
 ·intro s
  unfold wj
  dsimp only
  rw [xv ho, oB, decide_eq_false (by omega), cond_false]
  rfl
theorem z5B (h : MOk x c) {p : Nat} (hp : p < x.Parts.length) (i : Int) (a : ze) (n : Int) {acc : List zg} (hb : acc.length + (WL x c p i a).length ≤ 4294967296) :
  loop (fun s => wb x c (p : Int) i a n s.1 s.2) (acc, 0) = some (acc ++ (if a.Kind = 1 ∧ n = 0 then (WL x c p i a).map kC else [])) := by
 have hpl := h.sys.pl
 by_cases q : a.Kind = 1 ∧ n = 0
 ·rw [if_pos q]
  unfold WL at hb ⊢
  rw [ki]
  have hb' : acc.length + (uj (fun o (P : zh) => (if o = p then [] else (wZ P.Arcs (stv c o)).flatMap (two c p i a o)).map kC) x.Parts 0).length ≤ 4294967296 := by
   rw [← ki, List.length_map]; exact hb
  have each : ∀ (o : Nat) (P : zh), x.Parts[o]? = some P → ((wZ P.Arcs (stv c o)).flatMap (two c p i a o)).length ≤ 256 := by
   intro o P hP
   have h1 := Vt (st := stv c o) (h.sys.part P (List.mem_of_getElem? hP)).arcs
   have h2 := Yw (f := two c p i a o) (l := wZ P.Arcs (stv c o)) (b := 1) fun e _ => by unfold two; split <;> simp
   omega
  refine Kh x.Parts (by omega) (B := 4294967296) (fun o P => (if o = p then [] else (wZ P.Arcs (stv c o)).flatMap (two c p i a o)).map kC) hb' ?_ ?_
  ·intro o P s hP hbs
   have ho := xI hP
   unfold wb jY
   dsimp only
   rw [decide_eq_true (by omega), cond_true, q.1, q.2, beq_self_eq_true, cond_true, beq_self_eq_true, cond_true]
   by_cases qo : o = p
   ·subst qo
    have : loop (fun s => wj x c (o : Int) i a (o : Int) s.1 s.2) (s, 0) = some s := by
     refine QA ?_
     unfold wj
     rw [xv hP, oB, bne_self_eq_false, cond_false]
     cases decide ((0 : Int) < ((P.Arcs.length : Nat) : Int)) <;> rfl
    rw [this, oB, if_pos rfl, List.map_nil, List.append_nil]
   ·rw [if_neg qo] at hbs
    rw [List.length_map] at hbs
    rw [z9i h hp hP qo i a hbs, oB, if_neg qo]
  ·intro s
   unfold wb
   dsimp only
   rw [decide_eq_false (by omega), cond_false]
 ·rw [if_neg q, List.append_nil]
  refine QA ?_
  unfold wb
  rw [decide_eq_true (by omega), cond_true]
  by_cases q1 : a.Kind = 1
  ·rw [q1, beq_self_eq_true, cond_true, beq_false_of_ne (fun h => q ⟨q1, h⟩), cond_false]
  ·rw [beq_false_of_ne q1, cond_false]
theorem z3q (h : MOk x c) {p : Nat} {P : zh} (hP : x.Parts[p]? = some P) {i : Nat} {a : ze} (ha : P.Arcs[i]? = some a) {acc : List zg}
  (hb : acc.length + (if a.From = stv c p then one x c p ((i : Int), a) else []).length ≤ 4294967296) :
  uo x c (p : Int) acc (i : Int) = some (.next (acc ++ (if a.From = stv c p then one x c p ((i : Int), a) else []).map kC, w64 ((i : Int) + 1))) := by
 have hi := xI ha
 have hp := xI hP
 obtain ⟨hpl, hps⟩ := h.stat hP
 have hv := (h.sys.part P (List.mem_of_getElem? hP)).arc a (List.mem_of_getElem? ha)
 unfold uo
 rw [xv hP, oB, decide_eq_true (by omega), cond_true, oB, xv ha, oB, xv hps, oB]
 by_cases q : a.From = stv c p
 ·rw [if_pos q] at hb ⊢
  rw [q, bne_self_eq_false, cond_false]
  unfold one at hb ⊢
  dsimp only at hb ⊢
  by_cases q0 : a.Kind = 0
  ·rw [if_pos q0] at hb ⊢
   rw [q0, beq_self_eq_true, cond_true, UZ h.s4 h.q4 p _ _ _ (.inl rfl), oB, if_pos rfl]
   rw [gdT (by simp only [List.length_singleton] at hb ⊢; exact hb)]
   rfl
  ·rw [if_neg q0] at hb ⊢
   obtain ⟨n, hn, hn4, e1, e2, hle, h4⟩ := h.chan hv q0
   have eq1 : idx c.Queues a.Channel = some (quv c a) := by rw [hn]; exact xv e1
   have eq2 : idx x.Channels a.Channel = some (rmv x a) := by rw [hn]; exact xv e2
   rw [beq_false_of_ne q0, cond_false, eq1, oB, eq2, oB]
   have j7 : ∀ (acc' : List zg), (acc'.length + (if a.Kind = 1 ∧ rmv x a = 0 then WL x c p (i : Int) a else []).length ≤ 4294967296) → wc x c (p : Int) (i : Int) a (rmv x a) acc' = some (.next (acc' ++ (if a.Kind = 1 ∧ rmv x a = 0 then (WL x c p (i : Int) a).map kC else []), w64 ((i : Int) + 1))) := by
    intro acc' hb'
    unfold wc vb
    by_cases q1 : a.Kind = 1 ∧ rmv x a = 0
    ·rw [if_pos q1] at hb'
     rw [z5B h hp i a _ hb', oB]
    ·have : loop (fun s => wb x c (p : Int) (i : Int) a (rmv x a) s.1 s.2) (acc', 0) = some (acc' ++ []) := by
      rw [List.append_nil]
      refine QA ?_
      unfold wb
      rw [decide_eq_true (by omega), cond_true]
      by_cases q2 : a.Kind = 1
      ·rw [q2, beq_self_eq_true, cond_true, beq_false_of_ne (fun h => q1 ⟨q2, h⟩), cond_false]
      ·rw [beq_false_of_ne q2, cond_false]
     rw [this, oB, if_neg q1]
   by_cases q1 : a.Kind = 1
   ·have j6 : ∀ acc', wz x c (p : Int) (i : Int) a (quv c a) (rmv x a) acc' = wc x c (p : Int) (i : Int) a (rmv x a) acc' := by
     intro acc'
     unfold wz
     rw [q1, show ((1 : Int) == 2) = false from rfl, cond_false]
    rw [show (a.Kind == 1) = true from beq_iff_eq.2 q1, cond_true, j6]
    by_cases q2 : rmv x a = 0
    ·rw [if_pos q2, if_pos q1] at hb ⊢
     rw [decide_eq_false (by omega), cond_false, j7 _ (by rw [if_pos ⟨q1, q2⟩]; exact hb), if_pos ⟨q1, q2⟩]
    ·rw [if_neg q2, if_pos q1] at hb ⊢
     by_cases q3 : ((quv c a).length : Int) < rmv x a
     ·rw [if_pos q3] at hb ⊢
      rw [decide_eq_true q3, cond_true, gdT (by simp; omega), gdT (by simp; omega), UZ h.s4 h.q4 p _ _ _ (.inr (by omega)), oB, if_neg (by omega), gdT (by simp only [List.length_singleton] at hb ⊢; exact hb), j6, j7 _ (by rw [if_neg (fun h => q2 h.2)]; simp at hb ⊢; omega), if_neg (fun h => q2 h.2), List.append_nil]
      rfl
     ·rw [if_neg q3]
      rw [decide_eq_false q3, cond_false, j7 _ (by rw [if_neg (fun h => q2 h.2)]; rw [if_neg q3] at hb; exact hb), if_neg (fun h => q2 h.2)]
      rfl
   ·have q2 : a.Kind = 2 := by have := hv.kind; omega
    rw [beq_false_of_ne q1, cond_false]
    unfold wz
    rw [q2, show ((2 : Int) == 2) = true from rfl, cond_true]
    cases hq : quv c a with
    | nil =>
     rw [hq] at hb
     have e0 : (if rmv x a = 0 then if (2 : Int) = 1 then WL x c p (i : Int) a else [] else if (2 : Int) = 1 then (if ((([] : List Int).length : Nat) : Int) < rmv x a then [(⟨(p : Int), (i : Int), -1, -1⟩, ⟨c.States.set p a.To, c.Queues.set a.Channel.toNat (([] : List Int) ++ [a.Message])⟩)] else []) else if ([] : List Int).head? = some a.Message then [(⟨(p : Int), (i : Int), -1, -1⟩, ⟨c.States.set p a.To, c.Queues.set a.Channel.toNat ([] : List Int).tail⟩)] else ([] : List (zc × z7))) = [] := by
      simp
     rw [e0, decide_eq_false (by simp), cond_false, j7 acc (by rw [if_neg (fun h => q1 h.1)]; simp; simp at hb; omega), if_neg (fun h => q1 h.1)]
     rfl
    | cons m l =>
     rw [hq] at hb hle
     simp only [List.length_cons] at hle
     have hr : rmv x a ≠ 0 := by omega
     rw [if_neg hr, if_neg (by omega)]
     rw [if_neg hr, if_neg q1] at hb
     rw [decide_eq_true (by simp), cond_true, show idx (m :: l) 0 = some m from rfl, oB]
     by_cases q3 : m = a.Message
     ·have q3' : (m :: l).head? = some a.Message := by rw [q3]; rfl
      rw [if_pos q3'] at hb ⊢
      rw [show (m == a.Message) = true from beq_iff_eq.2 q3, cond_true, gdT (by simp only [List.length_cons]; omega), UZ h.s4 h.q4 p _ _ _ (.inr (by omega)), oB, if_neg (by omega), gdT (by simp only [List.length_singleton] at hb ⊢; exact hb), j7 _ (by rw [if_neg (fun h => q1 h.1)]; simp at hb ⊢; omega), if_neg (fun h => q1 h.1), List.append_nil]
      rfl
     ·have q3' : ¬(m :: l).head? = some a.Message := fun h => q3 (Option.some.inj h)
      rw [if_neg q3'] at hb ⊢
      rw [beq_false_of_ne q3, cond_false, j7 _ (by rw [if_neg (fun h => q1 h.1)]; exact hb), if_neg (fun h => q1 h.1)]
      rfl
 ·rw [if_neg q, show (a.From != stv c p) = true from bne_iff_ne.2 q, cond_true]
  unfold vb
  rw [List.map_nil, List.append_nil]
theorem z5r (h : MOk x c) : kZ x c = some ((mvs x c).map kC) := by
 have hpl := h.sys.pl
 have hlen := Kf (c := c) h.sys
 unfold kZ
 have hl : loop (fun s => up x c s.1 s.2) (([] : List zg), 0) = some ([] ++ (mvs x c).map kC) := by
  unfold mvs at hlen ⊢
  rw [ki]
  refine Kh x.Parts (by omega) (B := 2097152) (fun p P => ((wZ P.Arcs (stv c p)).flatMap (one x c p)).map kC) (by rw [← ki, List.length_map, List.length_nil]; omega) ?_ ?_
  ·intro p P s hP hbs
   have hp := xI hP
   have harc := (h.sys.part P (List.mem_of_getElem? hP)).arcs
   unfold up jZ
   dsimp only
   rw [decide_eq_true (by omega), cond_true]
   rw [W0, ki] at hbs ⊢
   rw [Kh P.Arcs (by omega) (B := 2097152) (fun i a => (if a.From = stv c p then one x c p ((i : Int), a) else []).map kC) hbs ?_ ?_]
   ·rfl
   ·intro i a s' ha hb'
    rw [List.length_map] at hb'
    have := z3q h hP ha (acc := s') (by omega)
    exact this
   ·intro s'
    unfold uo
    dsimp only
    rw [xv hP, oB, decide_eq_false (by omega), cond_false]
  ·intro s
   unfold up
   dsimp only
   rw [decide_eq_false (by omega), cond_false]
 rw [bdT hl]
 rfl
end
def z4m : List Int → List Int → Int
 | x :: a, y :: b => if x = y then z4m a b else if x < y then 1 else 0
 | _, _ => 0
theorem QR : ∀ a, z4m a a = 0
 | [] => rfl
 | x :: a => by rw [z4m, if_pos rfl, QR a]
theorem z41 : ∀ {a b : List Int}, a.length = b.length → a ≠ b → z4m a b = 1 ∨ z4m b a = 1
 | [], [], _, h => absurd rfl h
 | x :: a, y :: b, hl, h => by
  simp only [z4m]
  by_cases q : x = y
  ·subst q
   rw [if_pos rfl, if_pos rfl]
   exact z41 (by simpa using hl) (fun e => h (by rw [e]))
  ·rw [if_neg q, if_neg (show ¬y = x from fun e => q e.symm)]
   by_cases q2 : x < y
   ·exact .inl (if_pos q2)
   ·exact .inr (if_pos (by omega))
theorem QQ {a b : List Int} (hl : a.length = b.length) (hb : a.length < 4611686018427387904) : j8 a b = some (z4m a b) := by
 unfold j8
 rw [hl, bne_self_eq_false, cond_false]
 rw [bdT (WI a hb (fun i x => match b[i]? with | none => none | some y => if x = y then none else some (if x < y then (1 : Int) else 0)) ?_ ?_)]
 ·have gen : ∀ (l m : List Int) (k : Nat), b.drop k = m → l.length = m.length → (match oS (ZH (fun i x => match b[i]? with | none => none | some y => if x = y then none else some (if x < y then (1 : Int) else 0)) l k) with | .inl _ => some 0 | .inr p => some p) = some (z4m l m) := by
   intro l
   induction l with
   | nil => intro m k _ hm; cases m with
    | nil => rfl
    | cons y m => simp at hm
   | cons x l ih =>
    intro m k hd hm
    cases m with
    | nil => simp at hm
    | cons y m =>
     have hk : b[k]? = some y := by
      have := congrArg (fun z => z[0]?) hd
      simpa using this
     have hd' : b.drop (k + 1) = m := by
      rw [← List.drop_drop, hd]; rfl
     rw [z4m, ZH, hk]
     dsimp only
     by_cases q : x = y
     ·rw [if_pos q, if_pos q]
      exact ih m (k + 1) hd' (by simpa using hm)
     ·rw [if_neg q, if_neg q]
      rfl
  exact gen a b 0 rfl hl
 ·intro i x hx
  have hi := xI hx
  have hy : b[i]? = some (b[i]'(by omega)) := List.getElem?_eq_getElem _
  generalize b[i]'(by omega) = y at hy
  unfold uQ
  rw [decide_eq_true (by omega), cond_true, xv hx, oB, xv hy, oB, hy]
  dsimp only
  by_cases q : x = y
  ·rw [q, bne_self_eq_false, cond_false, if_pos rfl]
   rfl
  ·rw [show (x != y) = true from bne_iff_ne.2 q, cond_true, oB, oB, if_neg q]
   by_cases q2 : x < y
   ·rw [decide_eq_true q2, cond_true, if_pos q2]; rfl
   ·rw [decide_eq_false q2, cond_false, if_neg q2]; rfl
 ·unfold uQ
  rw [decide_eq_false (by omega), cond_false]
theorem z00 {a b : List Int} (ha : a.length < 4611686018427387904) (hb : b.length < 4611686018427387904) : kQ a b = some (if a = b then 1 else 0) := by
 unfold kQ
 by_cases hl : a.length = b.length
 ·rw [hl, bne_self_eq_false, cond_false, QQ hl ha, oB]
  by_cases q : a = b
  ·subst q
   rw [QR, show ((0 : Int) == 1) = false from rfl, cond_false, QQ rfl ha, QR, oB, if_pos rfl]
   rfl
  ·rw [if_neg q]
   by_cases q1 : z4m a b = 1
   ·rw [q1, beq_self_eq_true, cond_true]
   ·rw [beq_false_of_ne q1, cond_false, QQ hl.symm hb, oB, (z41 hl q).resolve_left q1, beq_self_eq_true, cond_true]
 ·rw [show (((a.length : Nat) : Int) != ((b.length : Nat) : Int)) = true from bne_iff_ne.2 (by omega), cond_true, if_neg (fun e => hl (by rw [e]))]
instance decCfg : DecidableEq z7 := fun a b => decidable_of_iff (a.States = b.States ∧ a.Queues = b.Queues) (by cases a; cases b; simp)
structure CS (c : z7) : Prop where
 s : c.States.length ≤ 4
 q : c.Queues.length ≤ 4
 b : ∀ q ∈ c.Queues, q.length ≤ 4
theorem MOk.cs {x : z8} {c : z7} (h : MOk x c) : CS c := ⟨h.s4, h.q4, h.qb⟩
theorem KZ {a b : z7} (ha : CS a) (hb : CS b) : j5 a b = some (if a = b then 1 else 0) := by
 have a1 := ha.s; have a2 := ha.q; have b1 := hb.s; have b2 := hb.q
 unfold j5
 rw [z00 (by omega) (by omega), oB]
 by_cases q : a.States = b.States
 ·rw [if_pos q, show ((1 : Int) == 0) = false from rfl, cond_false]
  by_cases ql : a.Queues.length = b.Queues.length
  ·rw [ql, bne_self_eq_false, cond_false]
   rw [bdT (WI a.Queues (by omega) (fun i x => if some x = b.Queues[i]? then none else some (0 : Int)) ?_ ?_)]
   ·cases hf : ZH (fun i x => if some x = b.Queues[i]? then none else some (0 : Int)) a.Queues 0 with
    | none =>
     have hq : a.Queues = b.Queues := by
      refine List.ext_getElem? fun i => ?_
      rcases Nat.lt_or_ge i a.Queues.length with hi | hi
      ·have hx : a.Queues[i]? = some a.Queues[i] := List.getElem?_eq_getElem hi
       have := WP hf i _ hx
       rw [Nat.zero_add] at this
       split at this
       ·rename_i e; rw [hx]; exact e
       ·cases this
      ·rw [List.getElem?_eq_none hi, List.getElem?_eq_none (by omega)]
     have : a = b := by
      cases a; cases b
      simp only at q hq
      rw [q, hq]
     rw [if_pos this]
     rfl
    | some r =>
     obtain ⟨i, x, h1, h2⟩ := Wh hf
     rw [Nat.zero_add] at h2
     split at h2
     ·cases h2
     ·rename_i hne
      cases h2
      rw [if_neg (fun e => hne (by rw [← e]; exact h1.symm))]
      rfl
   ·intro i x hx
    have hi := xI hx
    have hy : b.Queues[i]? = some (b.Queues[i]'(by omega)) := List.getElem?_eq_getElem _
    generalize b.Queues[i]'(by omega) = y at hy
    have l1 := ha.b x (List.mem_of_getElem? hx)
    have l2 := hb.b y (List.mem_of_getElem? hy)
    unfold jE
    rw [decide_eq_true (by omega), cond_true, xv hx, oB, xv hy, oB, z00 (by omega) (by omega), oB, hy]
    by_cases e : x = y
    ·rw [if_pos e, if_pos (by rw [e])]; rfl
    ·rw [if_neg e, if_neg (fun h => e (Option.some.inj h))]; rfl
   ·unfold jE
    rw [decide_eq_false (by omega), cond_false]
  ·rw [show (((a.Queues.length : Nat) : Int) != ((b.Queues.length : Nat) : Int)) = true from bne_iff_ne.2 (by omega), cond_true, if_neg (fun e => ql (by rw [e]))]
 ·rw [if_neg q, show ((0 : Int) == 0) = true from rfl, cond_true, if_neg (fun e => q (by rw [e]))]
theorem z3n {α : Type} (l : List α) (hl : l.length < 4611686018427387904) (p : α → Bool) {step : Int → Option (LR Int Int)} (h : ∀ (i : Nat) (x : α), l[i]? = some x → step (i : Int) = some (bif p x then .done (i : Int) else .next (w64 ((i : Int) + 1)))) (h2 : step (l.length : Int) = some (.done (l.length : Int))) :
  loop step 0 = some ((l.findIdx p : Nat) : Int) := by
 have hle := List.findIdx_le_length (p := p) (xs := l)
 refine Ys (fun j => (j : Int)) (l.findIdx p) (by omega) (fun j hj => ?_) ?_
 ·have hx : l[j]? = some (l[j]'(by omega)) := List.getElem?_eq_getElem _
  have hp := List.not_of_lt_findIdx hj
  rw [h j _ hx, show p (l[j]'(by omega)) = false by simpa using hp, cond_false, uA (by omega) (by omega)]
  rfl
 ·rcases Nat.lt_or_ge (l.findIdx p) l.length with q | q
  ·have hx : l[l.findIdx p]? = some (l[l.findIdx p]'q) := List.getElem?_eq_getElem _
   rw [h _ _ hx, List.findIdx_getElem (w := q), cond_true]
  ·have : l.findIdx p = l.length := by omega
   rw [this]
   exact h2
def fnd (l : List z7) (c : z7) : Nat := l.findIdx fun y => decide (y = c)
def vM (s : List z7 × List z6) (e : zc × z7) : List z7 × List z6 :=
 (if fnd s.1 e.2 = s.1.length then s.1 ++ [e.2] else s.1, s.2 ++ [⟨e.1, (fnd s.1 e.2 : Nat)⟩])
theorem WM (l : List (zc × z7)) : ∀ s, (l.foldl vM s).1.length ≤ s.1.length + l.length ∧ (l.foldl vM s).2.length = s.2.length + l.length ∧ s.1.length ≤ (l.foldl vM s).1.length := by
 induction l with
 | nil => intro s; exact ⟨Nat.le_refl _, rfl, Nat.le_refl _⟩
 | cons e l ih =>
  intro s
  obtain ⟨h1, h2, h3⟩ := ih (vM s e)
  have e1 : (vM s e).1.length ≤ s.1.length + 1 ∧ s.1.length ≤ (vM s e).1.length := by
   unfold vM
   dsimp only
   split
   ·rw [List.length_append, List.length_singleton]; omega
   ·omega
  have e2 : (vM s e).2.length = s.2.length + 1 := by
   unfold vM
   dsimp only
   rw [List.length_append, List.length_singleton]
  rw [List.foldl_cons, List.length_cons]
  omega
theorem z0z {P : z7 → Prop} (l : List (zc × z7)) : ∀ s, (∀ c ∈ s.1, P c) → (∀ e ∈ l, P e.2) → ∀ c ∈ (l.foldl vM s).1, P c := by
 induction l with
 | nil => intro s h _; exact h
 | cons e l ih =>
  intro s h he
  refine ih (vM s e) ?_ (fun e' h' => he e' (List.mem_cons_of_mem _ h'))
  intro c hc
  unfold vM at hc
  dsimp only at hc
  split at hc
  ·rcases List.mem_append.1 hc with hc | hc
   ·exact h c hc
   ·rw [List.mem_singleton.1 hc]; exact he e List.mem_cons_self
  ·exact h c hc
section
variable {x : z8}
theorem zbE {c : z7} (h : MOk x c) {list : List z7} (hm : ∀ d ∈ list, MOk x d) (hl : list.length ≤ 1048576) :
  loop (fun s => ur ((mvs x c).map kC) s.1 s.2.1 s.2.2) (list, ([] : List z6), 0) = some ((mvs x c).foldl vM (list, [])) := by
 have hlen := Kf (c := c) h.sys
 have hok : ∀ j, ∀ d ∈ (((mvs x c).take j).foldl vM (list, [])).1, MOk x d := fun j => z0z _ _ hm fun e he => z1T h (List.mem_of_mem_take he)
 refine Ys (fun j => ((((mvs x c).take j).foldl vM (list, [])).1, (((mvs x c).take j).foldl vM (list, [])).2, (j : Int))) (mvs x c).length (by omega) (fun j hj => ?_) ?_
 ·have he : (mvs x c)[j]? = some (mvs x c)[j] := List.getElem?_eq_getElem hj
  have hem := z1T h (List.mem_of_getElem? he)
  have hle : ((mvs x c).map kC)[j]? = some (kC (mvs x c)[j]) := by rw [List.getElem?_map, he]; rfl
  have hk := hok j
  obtain ⟨g1, g2, _⟩ := WM ((mvs x c).take j) (list, [])
  rw [List.length_take] at g1 g2
  have hnext : ((mvs x c).take (j + 1)).foldl vM (list, []) = vM (((mvs x c).take j).foldl vM (list, [])) (mvs x c)[j] := by
   rw [List.take_add_one, he, List.foldl_append]
   rfl
  dsimp only
  rw [hnext]
  generalize ((mvs x c).take j).foldl vM (list, []) = st at *
  generalize (mvs x c)[j] = e at *
  obtain ⟨li, l⟩ := st
  dsimp only at *
  unfold ur
  rw [List.length_map, decide_eq_true (by omega), cond_true]
  have h9 : loop (fun s => uq ((mvs x c).map kC) li (j : Int) s) 0 = some ((fnd li e.2 : Nat) : Int) := by
   refine z3n li (by omega) (fun y => decide (y = e.2)) (fun i y hy => ?_) ?_
   ·have hi := xI hy
    unfold uq
    rw [decide_eq_true (by omega), cond_true, xv hy, oB, xv hle, oB]
    show Option.bind (j5 y e.2) _ = _
    rw [KZ (hk y (List.mem_of_getElem? hy)).cs hem.cs, oB]
    by_cases q : y = e.2
    ·rw [if_pos q, decide_eq_true q]; rfl
    ·rw [if_neg q, decide_eq_false q]; rfl
   ·unfold uq
    rw [decide_eq_false (by omega), cond_false]
  rw [h9, oB]
  unfold k7 qA k8 vM
  dsimp only
  rw [uA (by omega) (by omega)]
  by_cases q : fnd li e.2 = li.length
  ·rw [q, beq_self_eq_true, cond_true, xv hle, oB, gdT (by rw [List.length_singleton]; omega), oB, gdT (by rw [List.length_singleton]; simp at g2; omega), if_pos rfl]
   rfl
  ·rw [beq_false_of_ne (by omega), cond_false, xv hle, oB, gdT (by rw [List.length_singleton]; simp at g2; omega), if_neg q]
   rfl
 ·dsimp only
  unfold ur
  rw [List.length_map, decide_eq_false (by omega), cond_false, List.take_length]
def z1g (x : z8) (n : Nat) (s : List z7 × List (List z6)) : List z7 × List (List z6) :=
 match s.1[n]? with
 | none => s
 | some c => (((mvs x c).foldl vM (s.1, [])).1, s.2 ++ [((mvs x c).foldl vM (s.1, [])).2])
def wB (x : z8) : Nat → List z7 × List (List z6)
 | 0 => ([beg x], [])
 | n + 1 => z1g x n (wB x n)
theorem Kk (hv : z2x x) : ∀ n, (∀ d ∈ (wB x n).1, MOk x d) ∧ 1 ≤ (wB x n).1.length
 | 0 => ⟨fun d hd => by rw [List.mem_singleton.1 hd]; exact z6t hv, Nat.le_refl _⟩
 | n + 1 => by
  obtain ⟨h1, h2⟩ := Kk hv n
  rw [wB, z1g]
  split
  ·exact ⟨h1, h2⟩
  ·rename_i c hc
   have hco := h1 c (List.mem_of_getElem? hc)
   refine ⟨z0z _ _ h1 fun e he => z1T hco he, ?_⟩
   have := (WM (mvs x c) ((wB x n).1, [])).2.2
   dsimp only at this ⊢
   omega
theorem z3D (hv : z2x x) {most : Nat} (hmost : most ≤ 1048576) :
  ∃ n, Za x (most : Int) = some (wB x n) ∧ ((wB x n).1.length ≤ n ∨ most < (wB x n).1.length) ∧ ∀ m, m < n → m < (wB x m).1.length ∧ (wB x m).1.length ≤ most := by
 unfold Za
 rw [z5U hv, oB]
 have hl : Ret (loop (fun s => qw x (most : Int) s.1 s.2.1 s.2.2) (([beg x] : List z7), ([] : List (List z6)), 0)) (fun r => ∃ n, r = wB x n ∧ ((wB x n).1.length ≤ n ∨ most < (wB x n).1.length) ∧ ∀ m, m < n → m < (wB x m).1.length ∧ (wB x m).1.length ≤ most) := by
  refine WE (fun s => ∃ n : Nat, s = ((wB x n).1, (wB x n).2, (n : Int)) ∧ n ≤ most + 1 ∧ (wB x n).2.length ≤ n ∧ ∀ m, m < n → m < (wB x m).1.length ∧ (wB x m).1.length ≤ most) (fun s => most + 1 - s.2.2.toNat) ⟨0, rfl, by omega, Nat.le_refl _, fun m hm => by omega⟩ (by show most + 1 - 0 < _; omega) ?_
  rintro s ⟨n, rfl, hn, hs, hm⟩
  dsimp only
  unfold qw
  obtain ⟨hok, h1⟩ := Kk hv n
  by_cases q : n < (wB x n).1.length
  ·by_cases q2 : (wB x n).1.length ≤ most
   ·have hc : (wB x n).1[n]? = some (wB x n).1[n] := List.getElem?_eq_getElem q
    have hco := hok _ (List.mem_of_getElem? hc)
    have hg : wB x (n + 1) = (((mvs x (wB x n).1[n]).foldl vM ((wB x n).1, [])).1, (wB x n).2 ++ [((mvs x (wB x n).1[n]).foldl vM ((wB x n).1, [])).2]) := by
     rw [wB, z1g, hc]
    rw [decide_eq_true (by omega), cond_true, decide_eq_true (by omega), cond_true, xv hc, oB, z5r hco, oB, zbE hco hok (by omega), oB]
    unfold k9 ka
    rw [gdT (by rw [List.length_singleton]; omega), uA (by omega) (by omega)]
    refine u6.2 ⟨⟨n + 1, by rw [hg]; rfl, by omega, by rw [hg]; dsimp only; rw [List.length_append, List.length_singleton]; omega, fun m hm' => ?_⟩, ?_⟩
    ·rcases Nat.lt_or_ge m n with q3 | q3
     ·exact hm m q3
     ·have : m = n := by omega
      subst this
      exact ⟨q, q2⟩
    ·show most + 1 - ((n : Int) + 1).toNat < most + 1 - (n : Int).toNat
     omega
   ·rw [decide_eq_true (by omega), cond_true, decide_eq_false (by omega), cond_false]
    exact u6.2 ⟨n, rfl, .inr (by omega), hm⟩
  ·rw [decide_eq_false (by omega), cond_false]
   exact u6.2 ⟨n, rfl, .inl (by omega), hm⟩
 obtain ⟨r, e, n, rfl, h1, h2⟩ := hl
 rw [bdT e]
 exact ⟨n, rfl, h1, h2⟩
end
theorem Kw {α : Type} [BEq α] [LawfulBEq α] (a b : y5 α) : (a == b) = true ↔ a = b := by
 cases a; cases b
 show ((_ == _) && (_ == _) && (_ == _) && (_ == _)) = true ↔ _
 simp [and_assoc]
theorem z07 (a b : zi) : (a == b) = true ↔ a = b := by
 cases a; cases b
 show ((_ == _) && (_ == _)) = true ↔ _
 rw [Bool.and_eq_true, Kw]
 simp
instance : LawfulBEq zi := {
 eq_of_beq h := (z07 _ _).1 h
 rfl := (z07 _ _).2 rfl }
theorem jW (a b : za) : (a == b) = true ↔ a = b := by
 cases a; cases b
 show ((_ == _) && (_ == _)) = true ↔ _
 rw [Bool.and_eq_true, Kw, Kw]
 simp
theorem z9d {V : Type} (l : List (za × V)) (x : za) (v : V) : QY (QX l x v) x = some v := by
 induction l with
 | nil =>
  simp only [QX, QY]
  rw [if_pos ((jW x x).2 rfl)]
 | cons p l ih =>
  simp only [QX]
  by_cases h : p.1 = x
  ·rw [if_pos ((jW _ _).2 h)]
   simp only [QY]
   rw [if_pos ((jW x x).2 rfl)]
  ·rw [if_neg (fun e => h ((jW _ _).1 e))]
   simp only [QY, ih]
   rw [if_neg (fun e => h ((jW _ _).1 e))]
theorem z9c {V : Type} (l : List (za × V)) {x y : za} (v : V) (q : x ≠ y) : QY (QX l x v) y = QY l y := by
 induction l with
 | nil =>
  simp only [QX, QY]
  rw [if_neg (fun e => q ((jW x y).1 e))]
 | cons p l ih =>
  simp only [QX]
  by_cases h : p.1 = x
  ·rw [if_pos ((jW _ _).2 h)]
   simp only [QY]
   rw [if_neg (fun e => q ((jW _ _).1 e)), if_neg (fun e => q (h ▸ (jW _ _).1 e))]
  ·rw [if_neg (fun e => h ((jW _ _).1 e))]
   simp only [QY, ih]
theorem z4P {x : z8} {a b : z7} (ha : MOk x a) (hb : MOk x b) (h : y6 a = y6 b) : a = b := by
 have h1 := QO ha.cfg.sl ha.cfg.ql ha.sys.pl.2 ha.sys.chl ha.qb
 rw [h, QO hb.cfg.sl hb.cfg.ql hb.sys.pl.2 hb.sys.chl hb.qb] at h1
 exact (Option.some.inj h1).symm
theorem z6p (l : List z7) (c : z7) : fnd l c ≤ l.length := List.findIdx_le_length
theorem z3K (l : List z7) (d c : z7) : fnd (l ++ [d]) c = if fnd l c < l.length then fnd l c else if d = c then l.length else l.length + 1 := by
 unfold fnd
 rw [List.findIdx_append]
 split
 ·rfl
 ·rw [List.findIdx_singleton]
  by_cases q : d = c
  ·simp [q]
  ·simp [q]; omega
def z8u (x : z8) (L : List z7) (m : List (za × Int)) : Prop :=
 ∀ c, MOk x c → QY m (y6 c) = if fnd L c < L.length then some ((fnd L c : Nat) : Int) else none
section
variable {x : z8}
theorem z1D {L : List z7} {m : List (za × Int)} {d : z7} (hd : MOk x d) (h : z8u x L m) (hn : fnd L d = L.length) : z8u x (L ++ [d]) (QX m (y6 d) (L.length : Int)) := by
 intro c hc
 rw [List.length_append, List.length_singleton]
 have hle := z6p L c
 by_cases q : d = c
 ·subst q
  have e : fnd (L ++ [d]) d = L.length := by rw [z3K, if_neg (by omega), if_pos rfl]
  rw [z9d, e, if_pos (by omega)]
 ·rw [z9c _ _ (fun e => q (z4P hd hc e)), h c hc, z3K]
  by_cases q2 : fnd L c < L.length
  ·rw [if_pos q2, if_pos q2, if_pos (by omega)]
  ·rw [if_neg q2, if_neg q2, if_neg q, if_neg (by omega)]
theorem zbJ (z : Int) : ∀ (es : List (zc × z7)) (L : List z7) (m : List (za × Int)) (l : List z6), (∀ e ∈ es, MOk x e.2) → z8u x L m → L.length ≤ 1024 → l.length + es.length ≤ 4294967296 →
  ((es.foldl vM (L, l)).1.length ≤ 1024 ∧ ∃ m', z8u x (es.foldl vM (L, l)).1 m' ∧ ui (yeM (yOf (fun s (e : zc × za) => zK s.1 s.2.1 s.2.2.1 s.2.2.2 e.1 e.2))) es (.next (z, L.map y6, m, l)) = some (.next (.next (z, (es.foldl vM (L, l)).1.map y6, m', (es.foldl vM (L, l)).2)))) ∨
  (1024 < (es.foldl vM (L, l)).1.length ∧ ∃ r, ui (yeM (yOf (fun s (e : zc × za) => zK s.1 s.2.1 s.2.2.1 s.2.2.2 e.1 e.2))) es (.next (z, L.map y6, m, l)) = some (.done (.done (3, r)))) := by
 intro es
 induction es with
 | nil => intro L m l _ hm hl _; exact .inl ⟨hl, m, hm, rfl⟩
 | cons e es ih =>
  intro L m l he hm hl hb
  have hed := he e List.mem_cons_self
  have hes := fun e' h' => he e' (List.mem_cons_of_mem e h')
  rw [List.length_cons] at hb
  have hg := hm e.2 hed
  have hfl := z6p L e.2
  rw [List.foldl_cons]
  by_cases q : fnd L e.2 < L.length
  ·rw [if_pos q] at hg
   have hst : vM (L, l) e = (L, l ++ [⟨e.1, ((fnd L e.2 : Nat) : Int)⟩]) := by
    unfold vM; dsimp only; rw [if_neg (by omega)]
   have e1 : yeM (yOf (fun s (e : zc × za) => zK s.1 s.2.1 s.2.2.1 s.2.2.2 e.1 e.2)) (.next (z, L.map y6, m, l)) e = some (.next (z, L.map y6, m, l ++ [⟨e.1, ((fnd L e.2 : Nat) : Int)⟩]), true) := by
    unfold yeM yOf zK xh
    dsimp only
    rw [hg, oB, show (some ((fnd L e.2 : Nat) : Int)).isSome = true from rfl, Bool.not_true, cond_false, gdT (by rw [List.length_singleton]; omega)]
    rfl
   rw [ui, e1, oB, cond_true, hst]
   exact ih L m _ hes hm hl (by rw [List.length_append, List.length_singleton]; omega)
  ·rw [if_neg q] at hg
   have hst : vM (L, l) e = (L ++ [e.2], l ++ [⟨e.1, ((L.length : Nat) : Int)⟩]) := by
    unfold vM; dsimp only; rw [if_pos (by omega), show fnd L e.2 = L.length by omega]
   rw [hst]
   by_cases q2 : L.length = 1024
   ·have hlen := (WM es (L ++ [e.2], l ++ [⟨e.1, ((L.length : Nat) : Int)⟩])).2.2
    dsimp only at hlen
    rw [List.length_append, List.length_singleton] at hlen
    refine .inr ⟨by omega, (L.map y6, m, l), ?_⟩
    have e1 : yeM (yOf (fun s (e : zc × za) => zK s.1 s.2.1 s.2.2.1 s.2.2.2 e.1 e.2)) (.next (z, L.map y6, m, l)) e = some (.done (3, L.map y6, m, l), false) := by
     unfold yeM yOf zK
     dsimp only
     rw [hg, oB, show (none : Option Int).isSome = false from rfl, Bool.not_false, cond_true, List.length_map, q2, show (((1024 : Nat) : Int) == 1024) = true from rfl, cond_true]
    rw [ui, e1, oB, cond_false]
   ·have e1 : yeM (yOf (fun s (e : zc × za) => zK s.1 s.2.1 s.2.2.1 s.2.2.2 e.1 e.2)) (.next (z, L.map y6, m, l)) e = some (.next (z, (L ++ [e.2]).map y6, QX m (y6 e.2) ((L.length : Nat) : Int), l ++ [⟨e.1, ((L.length : Nat) : Int)⟩]), true) := by
     unfold yeM yOf zK xh
     dsimp only
     rw [hg, oB, show (none : Option Int).isSome = false from rfl, Bool.not_false, cond_true, List.length_map, beq_false_of_ne (by omega), cond_false, gdT (by rw [List.length_singleton]; omega), gdT (by rw [List.length_singleton]; omega), List.map_append]
     rfl
    rw [ui, e1, oB, cond_true]
    exact ih _ _ _ hes (z1D hed hm (by omega)) (by rw [List.length_append, List.length_singleton]; omega) (by rw [List.length_append, List.length_singleton]; omega)
theorem z5J (l : List z6) : y7 l = some l := by
 unfold y7
 rw [gdT (by omega)]
 simp
theorem z4Q : y6 (beg x) = ⟨⟨0, 0, 0, 0⟩, ⟨⟨0, ⟨0, 0, 0, 0⟩⟩, ⟨0, ⟨0, 0, 0, 0⟩⟩, ⟨0, ⟨0, 0, 0, 0⟩⟩, ⟨0, ⟨0, 0, 0, 0⟩⟩⟩⟩ ∨ 4 < x.Parts.length ∨ 4 < x.Channels.length := by
 by_cases h1 : 4 < x.Parts.length
 ·exact .inr (.inl h1)
 ·by_cases h2 : 4 < x.Channels.length
  ·exact .inr (.inr h2)
  ·refine .inl ?_
   unfold y6 beg
   dsimp only
   generalize x.Parts.length = a at h1
   generalize x.Channels.length = b at h2
   have e1 : pad (List.replicate a 0) = ⟨0, 0, 0, 0⟩ := by
    match a, h1 with
    | 0, _ => rfl
    | 1, _ => rfl
    | 2, _ => rfl
    | 3, _ => rfl
    | 4, _ => rfl
    | n + 5, h => omega
   have e2 : z7H (List.replicate b []) = ⟨⟨0, ⟨0, 0, 0, 0⟩⟩, ⟨0, ⟨0, 0, 0, 0⟩⟩, ⟨0, ⟨0, 0, 0, 0⟩⟩, ⟨0, ⟨0, 0, 0, 0⟩⟩⟩ := by
    match b, h2 with
    | 0, _ => rfl
    | 1, _ => rfl
    | 2, _ => rfl
    | 3, _ => rfl
    | 4, _ => rfl
    | n + 5, h => omega
   rw [e1, e2]
theorem z3C (hv : z2x x) :
  (∃ n, yg x = some ((wB x n).1.map y6, (wB x n).2, 0) ∧ (wB x n).1.length ≤ n ∧ (wB x n).1.length ≤ 1024 ∧ ∀ m, m < n → m < (wB x m).1.length) ∨
  (∃ n, yg x = some ([], [], 3) ∧ 1024 < (wB x n).1.length ∧ ∀ m, m < n → m < (wB x m).1.length) := by
 unfold yg
 have hb : (⟨⟨0, 0, 0, 0⟩, ⟨⟨0, ⟨0, 0, 0, 0⟩⟩, ⟨0, ⟨0, 0, 0, 0⟩⟩, ⟨0, ⟨0, 0, 0, 0⟩⟩, ⟨0, ⟨0, 0, 0, 0⟩⟩⟩⟩ : za) = y6 (beg x) := by
  rcases z4Q (x := x) with h | h | h
  ·exact h.symm
  ·have := hv.pl.2; omega
  ·have := hv.chl; omega
 rw [hb]
 have hinv0 : z8u x [beg x] (QX ([] : List (za × Int)) (y6 (beg x)) 0) := z1D (L := []) (z6t hv) (fun c hc => rfl) rfl
 have hl : Ret (loop (fun s => xP x s.1 s.2.1 s.2.2.1 s.2.2.2.1 s.2.2.2.2) (0, ([y6 (beg x)] : List za), (QX ([] : List (za × Int)) (y6 (beg x)) 0), ([] : List (List z6)), 0))
   (fun r => (∃ n, r = .inl (0, (wB x n).1.map y6, (wB x n).2) ∧ (wB x n).1.length ≤ n ∧ (wB x n).1.length ≤ 1024 ∧ ∀ m, m < n → m < (wB x m).1.length) ∨ (∃ n, r = .inr ([], [], 3) ∧ 1024 < (wB x n).1.length ∧ ∀ m, m < n → m < (wB x m).1.length)) := by
  refine WE (fun s => ∃ (n : Nat) (m : List (za × Int)), s = (0, (wB x n).1.map y6, m, (wB x n).2, (n : Int)) ∧ z8u x (wB x n).1 m ∧ n ≤ 1024 ∧ (wB x n).2.length ≤ n ∧ (wB x n).1.length ≤ 1024 ∧ ∀ m, m < n → m < (wB x m).1.length) (fun s => 1024 - s.2.2.2.2.toNat) ⟨0, _, rfl, hinv0, by omega, Nat.le_refl _, by show 1 ≤ 1024; omega, fun m hm => by omega⟩ (by show 1024 - 0 < _; omega) ?_
  rintro s ⟨n, m, rfl, hinv, hn, hs, hlen, hm⟩
  dsimp only
  unfold xP
  obtain ⟨hok, h1⟩ := Kk hv n
  rw [List.length_map]
  by_cases q : n < (wB x n).1.length
  ·have hc : (wB x n).1[n]? = some (wB x n).1[n] := List.getElem?_eq_getElem q
   have hco := hok _ (List.mem_of_getElem? hc)
   have hg : wB x (n + 1) = (((mvs x (wB x n).1[n]).foldl vM ((wB x n).1, [])).1, (wB x n).2 ++ [((mvs x (wB x n).1[n]).foldl vM ((wB x n).1, [])).2]) := by
    rw [wB, z1g, hc]
   generalize (wB x n).1[n] = c at *
   have hml := Kf (c := c) hv
   have hlt : ∀ m, m < n + 1 → m < (wB x m).1.length := by
    intro m hm'
    rcases Nat.lt_or_ge m n with q3 | q3
    ·exact hm m q3
    ·have : m = n := by omega
     subst this
     exact q
   rw [decide_eq_true (by omega), cond_true, xv (l := (wB x n).1.map y6) (i := n) (x := y6 c) (by rw [List.getElem?_map, hc]; rfl), oB]
   unfold vn
   rw [oB]
   dsimp only
   rw [z5f hco]
   rcases zbJ 0 (mvs x c) (wB x n).1 m [] (fun e he => z1T hco he) hinv hlen (by rw [List.length_nil]; omega) with ⟨h2, m', h3, h4⟩ | ⟨h2, r, h4⟩
   ·rw [h4]
    show Ret (xQ (wB x n).2 (n : Int) 0 (((mvs x c).foldl vM ((wB x n).1, [])).1.map y6) m' ((mvs x c).foldl vM ((wB x n).1, [])).2) _
    unfold xQ wy
    rw [z5J, oB, gdT (by rw [List.length_singleton]; omega), uA (by omega) (by omega)]
    refine u6.2 ⟨⟨n + 1, m', by rw [hg]; rfl, by rw [hg]; exact h3, by omega, by rw [hg]; dsimp only; rw [List.length_append, List.length_singleton]; omega, by rw [hg]; exact h2, hlt⟩, ?_⟩
    show 1024 - ((n : Int) + 1).toNat < 1024 - (n : Int).toNat
    omega
   ·rw [h4]
    refine u6.2 (.inr ⟨n + 1, rfl, by rw [hg]; exact h2, hlt⟩)
  ·rw [decide_eq_false (by omega), cond_false]
   exact u6.2 (.inl ⟨n, rfl, by omega, hlen, hm⟩)
 obtain ⟨r, e, h⟩ := hl
 rw [bdT e]
 rcases h with ⟨n, rfl, h1, h2, h3⟩ | ⟨n, rfl, h1, h2⟩
 ·exact .inl ⟨n, rfl, h1, h2, h3⟩
 ·exact .inr ⟨n, rfl, h1, h2⟩
end
def z3G : List z7 → List (zc × z7) → List z7
 | L, [] => L
 | L, e :: es => z3G (if fnd L e.2 = L.length then L ++ [e.2] else L) es
def z1h : List z7 → List (zc × z7) → List z6
 | L, [] => []
 | L, e :: es => ⟨e.1, (fnd L e.2 : Nat)⟩ :: z1h (if fnd L e.2 = L.length then L ++ [e.2] else L) es
theorem Kl : ∀ (es : List (zc × z7)) (L : List z7) (l : List z6), es.foldl vM (L, l) = (z3G L es, l ++ z1h L es)
 | [], L, l => by simp [z3G, z1h]
 | e :: es, L, l => by
  rw [List.foldl_cons, vM, Kl es, z3G, z1h, List.append_assoc]
  rfl
section
variable {x : z8}
theorem z3z {n : Nat} {c : z7} (hc : (wB x n).1[n]? = some c) : wB x (n + 1) = (z3G (wB x n).1 (mvs x c), (wB x n).2 ++ [z1h (wB x n).1 (mvs x c)]) := by
 rw [wB, z1g, hc]
 dsimp only
 rw [Kl, List.nil_append]
theorem JE (n : Nat) : (wB x n).1.length ≤ (wB x (n + 1)).1.length := by
 rw [wB, z1g]
 split
 ·exact Nat.le_refl _
 ·rename_i c hc
  exact (WM (mvs x c) ((wB x n).1, [])).2.2
theorem z3A {n m : Nat} (h : n ≤ m) : (wB x n).1.length ≤ (wB x m).1.length := by
 induction m with
 | zero => rw [Nat.le_zero.1 h]; exact Nat.le_refl _
 | succ m ih =>
  rcases Nat.lt_or_ge n (m + 1) with q | q
  ·exact Nat.le_trans (ih (by omega)) (JE m)
  ·rw [show n = m + 1 by omega]; exact Nat.le_refl _
theorem z0w : ∀ n, (∀ m, m < n → m < (wB x m).1.length) → (wB x n).2.length = n
 | 0, _ => rfl
 | n + 1, h => by
  have hn := h n (by omega)
  rw [z3z (List.getElem?_eq_getElem hn), List.length_append, z0w n (fun m hm => h m (by omega))]
  rfl
theorem zeK {n most : Nat} (hv : z2x x) (hmost : most ≤ 1024) (h1 : (wB x n).1.length ≤ n ∨ most < (wB x n).1.length) (h2 : ∀ m, m < n → m < (wB x m).1.length ∧ (wB x m).1.length ≤ most) (hl : (wB x n).1.length ≤ most) :
  yg x = some ((wB x n).1.map y6, (wB x n).2, 0) ∧ (wB x n).1.length = n ∧ (wB x n).2.length = n := by
 have hle : (wB x n).1.length ≤ n := by omega
 have hge : n ≤ (wB x n).1.length := by
  cases n with
  | zero => omega
  | succ n =>
   have a := (h2 n (by omega)).1
   have b := JE (x := x) n
   omega
 refine ⟨?_, by omega, z0w n fun m hm => (h2 m hm).1⟩
 rcases z3C hv with ⟨k, e, k1, k2, k3⟩ | ⟨k, e, k1, k2⟩
 ·have : k = n := by
   rcases Nat.lt_trichotomy k n with q | q | q
   ·have := (h2 k q).1; omega
   ·exact q
   ·have := k3 n q; omega
  rw [e, this]
 ·have hkn : k ≤ n := by
   rcases Nat.lt_or_ge n k with q | q
   ·have := k2 n q; omega
   ·exact q
  have := z3A (x := x) hkn
  omega
theorem z5K (l : List z7) : zX l = some l := by
 unfold zX
 rw [gdT (by omega)]
 simp
theorem z3e {c : z7} (h : MOk x c) : x7 x (y6 c) = some c := QO h.cfg.sl h.cfg.ql h.sys.pl.2 h.sys.chl h.qb
theorem z3B (hv : z2x x) {L : List z7} {st : List (List z6)} (hok : ∀ c ∈ L, MOk x c) (hl : L.length ≤ 1024) (h : yg x = some (L.map y6, st, 0)) : vT x = some (L, st, 0) := by
 unfold vT
 rw [z5M hv, oB, bne_self_eq_false, cond_false, h, oB]
 dsimp only
 rw [bne_self_eq_false, cond_false]
 have : loop (fun s => wM x (L.map y6, st, 0) s.1 s.2) (([] : List z7), 0) = some L := by
  refine Ys (fun j => (L.take j, (j : Int))) L.length (by omega) (fun j hj => ?_) ?_
  ·have hc : L[j]? = some L[j] := List.getElem?_eq_getElem hj
   have hk := hok _ (List.mem_of_getElem? hc)
   unfold wM
   dsimp only
   rw [List.length_map, decide_eq_true (by omega), cond_true, xv (l := L.map y6) (i := j) (x := y6 L[j]) (by rw [List.getElem?_map, hc]; rfl), oB, z3e hk, oB, gdT (by rw [List.length_take, List.length_singleton]; omega), uA (by omega) (by omega), List.take_add_one, hc]
   rfl
  ·unfold wM
   dsimp only
   rw [List.length_map, decide_eq_false (by omega), cond_false, List.take_length]
 rw [bdT this]
 unfold qH
 rw [z5K]
 rfl
end
theorem z3E {L : List z7} {st : List (List z6)} (hl : L.length ≤ 1024) (hok : ∀ c ∈ L, CS c) (hs : st.length ≤ 1024) (hs2 : ∀ u ∈ st, u.length ≤ 4294967296) : j0 L st L st = some 1 := by
 unfold j0
 rw [bne_self_eq_false, cond_false, bne_self_eq_false, cond_false, cond_false, cond_false]
 rw [bdT (US L (by omega) ?_ ?_)]
 ·show qE st st = _
  unfold qE
  rw [bdT (US st (by omega) ?_ ?_)]
  ·rfl
  ·intro i u hu
   have hi := xI hu
   have hul := hs2 u (List.mem_of_getElem? hu)
   unfold qD
   rw [decide_eq_true (by omega), cond_true, xv hu, oB, oB, bne_self_eq_false, cond_false, oB, oB, bne_self_eq_false, cond_false]
   have : loop (fun s => uu st st (i : Int) u u s) 0 = some (.inl (u, u, ((u.length : Nat) : Int), u, u, ((u.length : Nat) : Int), ((u.length : Nat) : Int) != ((u.length : Nat) : Int))) := by
    refine Ys (fun j => (j : Int)) u.length (by omega) (fun j hj => ?_) ?_
    ·have he : u[j]? = some u[j] := List.getElem?_eq_getElem hj
     unfold uu
     rw [xv hu, oB, decide_eq_true (by omega), cond_true, oB, xv he, oB, oB, xv he, oB]
     rw [show (!((u[j].Move.Part == u[j].Move.Part) && ((u[j].Move.Arc == u[j].Move.Arc) && ((u[j].Move.Other == u[j].Move.Other) && ((u[j].Move.With == u[j].Move.With) && ((u[j].To == u[j].To) && true)))))) = false by simp, cond_false, uA (by omega) (by omega)]
     rfl
    ·unfold uu
     rw [xv hu, oB, decide_eq_false (by omega), cond_false]
   rw [this]
   rfl
  ·unfold qD
   rw [decide_eq_false (by omega), cond_false]
 ·intro i c hc
  have hi := xI hc
  have hk := hok c (List.mem_of_getElem? hc)
  unfold qC
  rw [decide_eq_true (by omega), cond_true, xv hc, oB, oB, KZ hk hk, if_pos rfl, oB, show ((1 : Int) == 0) = false from rfl, cond_false]
 ·unfold qC
  rw [decide_eq_false (by omega), cond_false]
theorem z0y : ∀ (es : List (zc × z7)) (L : List z7), (z1h L es).length = es.length
 | [], _ => rfl
 | e :: es, L => by rw [z1h, List.length_cons, List.length_cons, z0y es]
theorem Vp {x : z8} (hv : z2x x) : ∀ n, ∀ u ∈ (wB x n).2, u.length ≤ 1048576
 | 0, u, h => by simp [wB] at h
 | n + 1, u, h => by
  rw [wB, z1g] at h
  split at h
  ·exact Vp hv n u h
  ·rename_i c hc
   rcases List.mem_append.1 h with h | h
   ·exact Vp hv n u h
   ·rw [List.mem_singleton.1 h, Kl, List.nil_append]
    dsimp only
    rw [z0y]
    exact Kf hv
theorem z0m : Zg = some true := by kernel_rfl
def Ok5 (a : Int) : Prop := (0) ≤ a ∧ a ≤ 255
def ze5 (a : z65 Int) : Prop := Ok5 a.e0 ∧ Ok5 a.e1
def zcz (a : z2y Int) : Prop := Ok5 a.e0 ∧ Ok5 a.e1 ∧ Ok5 a.e2 ∧ Ok5 a.e3 ∧ Ok5 a.e4
def ze2 (l : List (z2y Int)) : Prop := ∀ a ∈ l, zcz a
def zcA (a : xx) : Prop := Ok5 a.States ∧ Ok5 a.Final ∧ ze2 a.Arcs
def ze4 (l : List xx) : Prop := ∀ a ∈ l, zcA a
def ze3 (a : ya) : Prop := ze5 a.Channels ∧ ze4 a.Parts
theorem z5s {x : ya} (hx : ze3 x) : uD x = some true := by
 obtain ⟨⟨hc0, hc1⟩, hps⟩ := hx
 have hy : OkY x := ⟨hc0, hc1, fun z hz => ⟨(hps z hz).1, fun a ha => (hps z hz).2.2 a ha⟩⟩
 obtain ⟨s, e, hs⟩ := z98 hy
 have hvs := z3v hy hs
 obtain ⟨k, eg, g1, g2⟩ := z3D hvs (most := 200) (by omega)
 have hok := (Kk hvs k).1
 unfold uD
 rw [show ya.mk x.Channels x.Parts = x from rfl, e, oB, show (200 : Int) = ((200 : Nat) : Int) from rfl, eg, oB, z0m]
 by_cases q : 200 < (wB s k).1.length
 ·rw [decide_eq_true (by omega), cond_true]
  rfl
 ·obtain ⟨h1, h2, h3⟩ := zeK hvs (by omega) g1 g2 (by omega)
  rw [decide_eq_false (by omega), cond_false, z3B hvs hok (by omega) h1, oB]
  dsimp only
  rw [beq_self_eq_true, cond_true, z3E (by omega) (fun c hc => (hok c hc).cs) (by omega) (fun u hu => by have := Vp hvs k u hu; omega), oB]
  rfl
def QV (w : World) : zr := fun b o => yo w.heap b o
theorem z1o {w : World} {a : Addr} {v : Value} (h : w.cell? a = some v) : a.spot = none ∧ yo w.heap a.block a.off = some v := by
 unfold World.cell? at h
 unfold yo
 split at h
 ·rename_i c ty fr he
  rw [he]
  split at h
  ·cases h
  ·rename_i hs
   exact ⟨by simpa using hs, h⟩
 ·cases h
section
variable {H : Type} {enc : TypeId × Value → H} {P : Program} {w : World} {base : Nat} {spare : Nat → Bool} {held : Bool}
theorem z3S {a : Addr} {n : Nat} {cs : List Value} (h : w.cells? base a n = some cs) (hn : 0 < n) : a.spot = none ∧ cs.length = n ∧ Jh (QV w) a.block a.off cs := by
 obtain ⟨_, h2, h3⟩ := World.cells?_some h
 have h0 : a.spot = none := by
  have h4 := h3 0 hn
  cases hc : cs[0]? with
  | none => rw [List.getElem?_eq_none_iff] at hc; omega
  | some v =>
   rw [hc] at h4
   have := (z1o h4).1
   simpa [Addr.add] using this
 refine ⟨h0, h2, fun j v hj => ?_⟩
 have hlt := (List.getElem?_eq_some_iff.1 hj).1
 have h4 := h3 j (by omega)
 rw [hj] at h4
 have q := (z1o h4).2
 unfold Addr.add at q
 split at q
 ·rename_i e; subst e; exact q
 ·exact q
theorem z03 {S : zr} : ∀ {bs : List A} {cs : List Value} {a : A} {c : List Value}, yn S bs cs → Rep S a c → yn S (bs ++ [a]) (cs ++ c)
 | [], cs, a, c, h1, h2 => by
  simp only [yn] at h1
  subst h1
  simp only [List.nil_append, yn]
  exact ⟨c, [], by simp, h2, rfl⟩
 | x :: bs, cs, a, c, h1, h2 => by
  simp only [yn] at h1
  obtain ⟨c1, c2, rfl, r1, r2⟩ := h1
  simp only [List.cons_append, yn]
  exact ⟨c1, c2 ++ c, by simp, r1, z03 r2 h2⟩
theorem z5l {S : zr} {b o : Nat} {c1 c2 : List Value} (h1 : Jh S b o c1) (h2 : Jh S b (o + c1.length) c2) : Jh S b o (c1 ++ c2) := by
 intro j v hj
 rcases Nat.lt_or_ge j c1.length with q | q
 ·rw [List.getElem?_append_left q] at hj
  exact h1 j v hj
 ·rw [List.getElem?_append_right q] at hj
  have := h2 _ _ hj
  rwa [show o + c1.length + (j - c1.length) = o + j by omega] at this
theorem KO {α : Type} {t e sz : Nat} (f : α → A) (ok : α → Prop) (ht : P.underlying t = some (.slice e)) (hsz : P.cellsOf e = sz) (h0 : 0 < sz) (hf : ∀ a, (f a).size = sz)
    (hel : ∀ n cs x, DataW.trod enc P w base spare held n e cs = some x → ∃ a, ok a ∧ Rep (QV w) (f a) cs)
    {fuel : Nat} {cs : List Value} {x : DataW H × List MemPlace} (h : DataW.trod enc P w base spare held fuel t cs = some x) : ∃ l : List α, (∀ a ∈ l, ok a) ∧ Rep (QV w) (.sl sz false (l.map f)) cs := by
  rcases DataW.trod_slice ht h with ⟨rfl, _⟩ | ⟨a, len, cap, elems, rest, n, _, rfl, _, _, hlc, _, hlen, hall, _, _⟩
  · refine ⟨[], by simp, ?_⟩
    simp only [Rep, List.map_nil, List.length_nil]
    exact ⟨none, 0, rfl, by simp, Nat.le_refl _, by simp, .inl trivial⟩
  · have key : ∀ k, k ≤ len → ∃ (l : List α) (cells : List Value), l.length = k ∧ (∀ a ∈ l, ok a) ∧ yn (QV w) (l.map f) cells ∧ cells.length = k * sz ∧ (0 < k → a.spot = none) ∧ Jh (QV w) a.block a.off cells := by
      intro k
      induction k with
      | zero => intro _; exact ⟨[], [], rfl, by simp, by simp [yn], by simp, by simp, fun j v h => by simp at h⟩
      | succ k ih =>
        intro hk
        obtain ⟨l, cells, q1, q2, q3, q4, q5, q6⟩ := ih (by omega)
        have hk' := hall k (by omega)
        have hsome : elems[k]? = some elems[k] := List.getElem?_eq_getElem (by omega)
        rw [hsome, Option.bind_eq_some_iff, hsz] at hk'
        obtain ⟨c, hc, htr⟩ := hk'
        obtain ⟨y, hy, hr⟩ := hel _ _ _ htr
        obtain ⟨g1, g2, g3⟩ := z3S hc h0
        refine ⟨l ++ [y], cells ++ c, by simp [q1], ?_, ?_, ?_, ?_, ?_⟩
        · intro z hz
          rcases List.mem_append.1 hz with q | q
          · exact q2 z q
          · simp only [List.mem_cons, List.not_mem_nil, or_false] at q; subst q; exact hy
        · rw [List.map_append]; exact z03 q3 hr
        · rw [List.length_append, q4, g2, Nat.succ_mul]
        · intro _
          rcases Nat.eq_zero_or_pos k with rfl | hk0
          · simpa [Addr.add] using g1
          · exact q5 hk0
        · refine z5l q6 ?_
          rw [q4]
          unfold Addr.add at g3
          split at g3
          · rename_i e0
            rw [e0, Nat.add_zero]
            exact g3
          · exact g3
    obtain ⟨l, cells, q1, q2, q3, q4, q5, q6⟩ := key len (Nat.le_refl _)
    refine ⟨l, q2, ?_⟩
    simp only [Rep, List.length_map]
    refine ⟨some a, cap, by rw [q1], by simp, by omega, ?_, ?_⟩
    · intro y hy
      obtain ⟨z, _, rfl⟩ := List.mem_map.1 hy
      exact hf z
    · rcases Nat.eq_zero_or_pos len with rfl | hl
      · left; rw [List.length_eq_zero_iff.1 q1]; rfl
      · right
        refine ⟨a.block, a.off, cells, ?_, q3, q6⟩
        have := q5 hl
        obtain ⟨b, o, s⟩ := a
        simp only at this
        subst this
        rfl
theorem z7V {t : Nat} {k : IntKind} {lo hi : Int} (ht : P.underlying t = some (.int k)) (hlo : k.min = lo) (hhi : k.max = hi) {fuel : Nat} {cs : List Value} {x : DataW H × List MemPlace} (h : DataW.trod enc P w base spare held fuel t cs = some x) :
  ∃ n : Int, (lo ≤ n ∧ n ≤ hi) ∧ cs = [.int k n] ∧ Rep (QV w) (.atom (.int k n)) cs := by
 obtain ⟨n, rfl, _, hw⟩ := DataW.trod_int ht h
 simp only [Lit.wf, Bool.and_eq_true, decide_eq_true_eq, hlo, hhi] at hw
 exact ⟨n, hw, rfl, by simp only [Rep]; exact ⟨trivial, rfl⟩⟩
theorem WC {t : Nat} {fs : List Field} (ht : P.underlying t = some (.struct ⟨fs⟩)) {fuel : Nat} {cs : List Value} {x : DataW H × List MemPlace} (h : DataW.trod enc P w base spare held fuel t cs = some x) :
  cs.length = P.cellsOf t ∧ ∀ (i : Nat) (f : Field), fs[i]? = some f → ∃ n y, DataW.trod enc P w base spare held n f.type ((cs.drop f.offset).take (P.cellsOf f.type)) = some y := by
 obtain ⟨xs, n, _, _, hl, hxl, hall⟩ := DataW.trod_struct ht h
 refine ⟨hl, fun i f hf => ?_⟩
 have hlt := (List.getElem?_eq_some_iff.1 hf).1
 have := hall i f (by simpa using hf)
 rw [List.getElem?_eq_getElem (by rw [hxl]; simpa using hlt)] at this
 exact ⟨n, _, this⟩
end
theorem ug {S : zr} {a : A} {bs : List A} {cs : List Value} {n : Nat} (h1 : Rep S a (cs.take n)) (h2 : yn S bs (cs.drop n)) : yn S (a :: bs) cs := by
 simp only [yn]
 exact ⟨cs.take n, cs.drop n, (List.take_append_drop n cs).symm, h1, h2⟩
end Go.Own
end
