/- Walks, further. -/
import Derived.Test.YtcldlioffanjaaaGreatDoorPartF
import Derived.Test.YtcldlioffanjaaaGreatDoorPartC
import Derived.Test.YtcldlioffanjaaaGreatDoorPartE
noncomputable section
set_option linter.unusedVariables false
set_option linter.unusedSimpArgs false
namespace Go.Own
theorem oB {α : Type _} {β : Type _} (a : α) (f : α → Option β) : Option.bind (some a) f = f a := rfl
open Go.Proofs
set_option maxRecDepth 100000
set_option maxHeartbeats 8000000
def vF : Code := (Tryz.f40.body).getD .skip
def Yb : yZ := spF (α := List z7 × List (List z6) × List z7 × List (List z6)) (ρ := Int) 40 (fun x => [z5o x.1, z2v x.2.1, z9t x.2.2.1, z7L x.2.2.2]) (fun r => (eI .i64) r) (fun x => X2 x.1 x.2.1 x.2.2.1 x.2.2.2) [] (zf5)
abbrev UC : List (Nat × T) := []
abbrev UB (s_ : List (List z6)) (steps : List (List z6)) (i_ : Int) (x74 : List z6) (x75 : List z6) (x76 : Int) (x79 : List z6) (x80 : List z6) (x81 : Int) (x82 : Bool) : List (Nat × T) := [(1, .d (eSl 1 true wz s_)), (3, .d (eSl 1 false ko steps)), (10, .d (I i_)), (72, .d (eSl 1 true wz s_)), (73, .d (I i_)), (74, .d (.sptr (eSl 5 true uR x74))), (75, .d (eSl 5 true uR x75)), (76, .d (I x76)), (77, .d (eSl 1 true wz s_)), (78, .d (I i_)), (79, .d (.sptr (eSl 5 true uR x79))), (80, .d (eSl 5 true uR x80)), (81, .d (I x81)), (82, .d (B x82))]
abbrev Uz (s_ : List (List z6)) (steps : List (List z6)) (i_ : Int) (s__e1 : List z6) (s__e2 : List z6) (k_ : Int) : List (Nat × T) := [(1, .d (eSl 1 true wz s_)), (3, .d (eSl 1 false ko steps)), (10, .d (I i_)), (11, .d (I k_)), (72, .d (eSl 1 true wz s_)), (73, .d (I i_)), (74, .d (.sptr (eSl 5 true uR s__e1))), (75, .d (eSl 5 true uR s__e1)), (76, .d (I ((s__e1.length : Nat) : Int))), (77, .d (eSl 1 true wz s_)), (78, .d (I i_)), (79, .d (.sptr (eSl 5 true uR s__e2))), (80, .d (eSl 5 true uR s__e2)), (81, .d (I ((s__e2.length : Nat) : Int))), (82, .d (B (((s__e1.length : Nat) : Int) != ((s__e2.length : Nat) : Int))))]
abbrev UA (s_ : List (List z6)) (steps : List (List z6)) (i_ : Int) : List (Nat × T) := [(1, .d (eSl 1 true wz s_)), (3, .d (eSl 1 false ko steps)), (10, .d (I i_))]
abbrev UD (s_ : List (List z6)) (steps : List (List z6)) : List (Nat × T) := [(1, .d (eSl 1 true wz s_)), (3, .d (eSl 1 false ko steps))]
abbrev Uy (c_ : List z7) (s_ : List (List z6)) (list : List z7) (steps : List (List z6)) (i_1 : Int) : List (Nat × T) := [(0, .d (eSl 2 true xM c_)), (1, .d (eSl 1 true wz s_)), (2, .d (eSl 2 false xM list)), (3, .d (eSl 1 false ko steps)), (9, .d (I i_1))]
theorem KM {ctr : Ctr} (hC : zW Tryz.prog ctr) (h05 : ctr.Has qr) : Yb.Ok Tryz.prog := by
 refine ya ?_
 rintro ⟨c_, s_, list, steps⟩ r0 hf0
 try unfold X2 at hf0
 refine yO true [(8, none)] vF 108 Tryz.func40 fun E hE => ?_
 let Z0 : List HO := [Ha (lnM xM c_), Ha (lnM xM list)]
 rcases y9 hf0 with ⟨c0, hf0⟩ | ⟨c0, hf0⟩
 ·obtain rfl := zm hf0
  exact yE X0 hC hE (Z0 ++ (rpN 6 (Hq c0) (rpN 13 qT [])))
 ·let Z1 : List HO := (Z0 ++ [Hq c0, Hq c0, Ha (lnM wz s_), Hq c0, Hq c0, Ha (lnM ko steps), Hq c0, Hq c0])
  rcases y9 hf0 with ⟨c1, hf0⟩ | ⟨c1, hf0⟩
  ·obtain rfl := zm hf0
   exact yE X0 hC hE (Z1 ++ (rpN 6 (Hq c1) (rpN 7 qT [])))
  ·let Z2 : List HO := (Z1 ++ [Hq c1, Hq c1, Ha (lnM xM c_), Hq c1, Hq c1, Ha (lnM xM c_), Hq c1, Hq c1])
   rcases y9 hf0 with ⟨c2, hf0⟩ | ⟨c2, hf0⟩
   ·obtain rfl := zm hf0
    exact yE X0 hC hE (Z2 ++ (rpN 6 (Hq c2) [qT]))
   ·let Z3 : List HO := (Z2 ++ [Hq c2, Hq c2, Ha (lnM wz s_), Hq c2, Hq c2, Ha (lnM wz s_), Hq c2, Hq c2])
    rcases y9 hf0 with ⟨c3, hf0⟩ | ⟨c3, hf0⟩
    ·obtain rfl := zm hf0
     exact yE X0 hC hE (Z3 ++ [Hq c3])
    ·refine yJ X0 hC vF [1,1] [] [1,3] (fun z : Unit => Ym s_ steps = some r0) (fun z => UD s_ steps) [(0, .d (eSl 2 true xM c_)), (1, .d (eSl 1 true wz s_)), (2, .d (eSl 2 false xM list)), (3, .d (eSl 1 false ko steps))] (Z3 ++ [Hq c3, Hh (.cut 0)]) ?_ fun J1 hJ1 => ?_
     ·rintro ⟨⟩ hf0
      unfold Ym at hf0
      refine yJ X0 hC vF [1,1,1] [] [] (fun z : Unit => Yl = some r0) (fun z => UC) [(1, .d (eSl 1 true wz s_)), (3, .d (eSl 1 false ko steps))] [Hh (.cut 0)] ?_ fun J2 hJ2 => ?_
      ·rintro ⟨⟩ hf0
       unfold Yl at hf0
       obtain rfl := zm hf0
       exact yE X0 hC hE []
      ·obtain ⟨t3, ht3, hf0⟩ := zq hf0
       refine yL X0 hC vF [1,1,1,2,1,0] [J2] (fun s => Yj s_ steps s) (fun x => UA s_ steps x) 0 ht3  [] ?_
       rintro i_ m3 lr1 hf1 hl1 J3 hJ3
       try unfold Yj at hf1
       let Z4 : List HO := [Ha (lnM wz s_)]
       rcases y9 hf1 with ⟨c4, hf1⟩ | ⟨c4, hf1⟩
       ·refine yJ X0 hC vF [1,1,1,2,1,0,0,1] [J2, J3] [1,3,10,72,73,74,75,76,77,78,79,80,81,82] (fun z : List z6 × List z6 × Int × List z6 × List z6 × Int × Bool => Yk i_ z.1 z.2.1 z.2.2.1 z.2.2.2.1 z.2.2.2.2.1 z.2.2.2.2.2.1 z.2.2.2.2.2.2 = some lr1) (fun z => UB s_ steps i_ z.1 z.2.1 z.2.2.1 z.2.2.2.1 z.2.2.2.2.1 z.2.2.2.2.2.1 z.2.2.2.2.2.2) [(1, .d (eSl 1 true wz s_)), (3, .d (eSl 1 false ko steps)), (10, .d (I i_))] (Z4 ++ [Hq c4, Hh (.cut 0)]) ?_ fun J4 hJ4 => ?_
        ·rintro ⟨x74, x75, x76, x79, x80, x81, x82⟩ hf1
         unfold Yk at hf1
         obtain rfl := zm hf1
         exact yB X0 hC hJ3 (w64 (i_ + 1)) hl1 []
        ·obtain ⟨s__e, h0, hf1⟩ := zq hf1
         obtain ⟨step_e, h1, hf1⟩ := zq hf1
         let Z5 : List HO := [Hi wz h0, Ha (lnM uR s__e), Hi ko h1, Ha (lnM uR step_e)]
         rcases y9 hf1 with ⟨c5, hf1⟩ | ⟨c5, hf1⟩
         ·obtain rfl := zm hf1
          obtain rfl := hl1
          obtain rfl := zm hf0
          exact yE X0 hC hE (Z5 ++ (rpN 12 (Hq c5) [qT]))
         ·obtain ⟨s__e1, h2, hf1⟩ := zq hf1
          obtain ⟨s__e2, h3, hf1⟩ := zq hf1
          let Z6 : List HO := (Z5 ++ [Hq c5, Hq c5, Hq c5, Hi wz h2, Hq c5, Hq c5, Ha (lnM uR s__e1), Hq c5, Hq c5, Hq c5, Hi wz h3, Hq c5, Hq c5, Ha (lnM uR s__e2), Hq c5, Hq c5])
          rcases y9 hf1 with ⟨c6, hf1⟩ | ⟨c6, hf1⟩
          ·obtain rfl := zm hf1
           obtain rfl := hl1
           obtain rfl := zm hf0
           exact yE X0 hC hE (Z6 ++ [Hq c6])
          ·obtain ⟨t5, ht5, hf1⟩ := zq hf1
           refine yL X0 hC vF [1,1,1,2,1,0,0,1,2,0,1,1,0] [J2, J3, J4] (fun s => Yi s_ steps i_ s__e1 s__e2 s) (fun x => Uz s_ steps i_ s__e1 s__e2 x) 0 ht5  (Z6 ++ [Hq c6]) ?_
           rintro k_ m5 lr2 hf2 hl2 J5 hJ5
           try unfold Yi at hf2
           obtain ⟨s__e3, h4, hf2⟩ := zq hf2
           let Z7 : List HO := [Hi wz h4, Ha (lnM uR s__e3)]
           rcases y9 hf2 with ⟨c7, hf2⟩ | ⟨c7, hf2⟩
           ·obtain ⟨s__e4, h5, hf2⟩ := zq hf2
            obtain ⟨s__e_e, h6, hf2⟩ := zq hf2
            obtain ⟨step_e1, h7, hf2⟩ := zq hf2
            obtain ⟨step_e_e, h8, hf2⟩ := zq hf2
            let Z8 : List HO := (Z7 ++ [Hq c7, Hi wz h5, Hi uR h6, Hi ko h7, Hi uR h8])
            rcases y9 hf2 with ⟨c8, hf2⟩ | ⟨c8, hf2⟩
            ·obtain rfl := zm hf2
             obtain rfl := hl2
             obtain rfl := zm hf1
             obtain rfl := hl1
             obtain rfl := zm hf0
             exact yE ((zcC zZ 107).or X0) hC hE (Z8 ++ [Hq c8])
            ·obtain rfl := zm hf2
             exact yB ((zcC zZ 107).or X0) hC hJ5 (w64 (k_ + 1)) hl2 (Z8 ++ [Hq c8])
           ·obtain rfl := zm hf2
            obtain rfl := hl2
            exact yB X0 hC hJ4 (s__e1, s__e1, ((s__e1.length : Nat) : Int), s__e2, s__e2, ((s__e2.length : Nat) : Int), ((s__e1.length : Nat) : Int) != ((s__e2.length : Nat) : Int)) hf1 (Z7 ++ [Hq c7])
       ·obtain rfl := zm hf1
        obtain rfl := hl1
        exact yB X0 hC hJ2 () hf0 (Z4 ++ [Hq c4])
     ·obtain ⟨t6, ht6, hf0⟩ := zq hf0
      refine yL X0 hC vF [1,1,2,1,0] [J1] (fun s => Yh c_ list s) (fun x => Uy c_ s_ list steps x) 0 ht6  [] ?_
      rintro i_1 m6 lr1 hf1 hl1 J6 hJ6
      try unfold Yh at hf1
      let Z9 : List HO := [Ha (lnM xM c_)]
      rcases y9 hf1 with ⟨c9, hf1⟩ | ⟨c9, hf1⟩
      ·obtain ⟨c__e, h9, hf1⟩ := zq hf1
       obtain ⟨list_e, h10, hf1⟩ := zq hf1
       obtain ⟨r_, h11, hf1⟩ := zq hf1
       let Z10 : List HO := (Z9 ++ [Hq c9, Hi xM h9, Hi xM h10, Hc h05 (x := (c__e, list_e)) h11 (loC xM c__e <| loC xM list_e <| loN)])
       rcases y9 hf1 with ⟨c10, hf1⟩ | ⟨c10, hf1⟩
       ·obtain rfl := zm hf1
        obtain rfl := hl1
        obtain rfl := zm hf0
        exact yE X0 hC hE (Z10 ++ [Hq c10])
       ·obtain rfl := zm hf1
        exact yB X0 hC hJ6 (w64 (i_1 + 1)) hl1 (Z10 ++ [Hq c10])
      ·obtain rfl := zm hf1
       obtain rfl := hl1
       exact yB X0 hC hJ1 () hf0 (Z9 ++ [Hq c9])
def Q6 : Code := (Tryz.f81.body).getD .skip
def j0 : yZ := spF (α := Int) (ρ := Bool) 81 (fun x => [(eI .i64) x]) (fun r => eB r) (fun x => qG x) [] (UQ)
theorem QK {ctr : Ctr} (hC : zW Tryz.prog ctr) : j0.Ok Tryz.prog := by
 refine ya ?_
 rintro x_ r0 hf0
 try unfold qG at hf0
 refine yO true [(2, none)] Q6 6 Tryz.func81 fun E hE => ?_
 obtain rfl := zm hf0
 exact yE X0 hC hE []
def JO : Code := (Tryz.f76.body).getD .skip
def Zn : yZ := spF (α := Int × Int) (ρ := Bool) 76 (fun x => [(eI .i64) x.1, (eI .i64) x.2]) (fun r => eB r) (fun x => XZ x.1 x.2) [] (UP)
theorem K0 {ctr : Ctr} (hC : zW Tryz.prog ctr) (h0c : ctr.Has j0) : Zn.Ok Tryz.prog := by
 refine ya ?_
 rintro ⟨x_, y_⟩ r0 hf0
 try unfold XZ at hf0
 refine yO true [(4, none)] JO 17 Tryz.func76 fun E hE => ?_
 obtain ⟨r_, h0, hf0⟩ := zq hf0
 let Z0 : List HO := [Hc h0c (x := x_) h0 (loC (eI .i64) x_ <| loN)]
 rcases y9 hf0 with ⟨c0, hf0⟩ | ⟨c0, hf0⟩
 ·obtain ⟨r_1, h1, hf0⟩ := zq hf0
  let Z1 : List HO := (Z0 ++ [Hq c0, Hq c0, Hc h0c (x := y_) h1 (loC (eI .i64) y_ <| loN), Hq c0, Hq c0])
  rcases y9 hf0 with ⟨c1, hf0⟩ | ⟨c1, hf0⟩
  ·obtain rfl := zm hf0
   exact yE X0 hC hE (Z1 ++ (rpN 4 (Hq c1) []))
  ·obtain rfl := zm hf0
   exact yE X0 hC hE (Z1 ++ (rpN 4 (Hq c1) []))
 ·obtain rfl := zm hf0
  exact yE X0 hC hE (Z0 ++ (rpN 4 (Hq c0) (rpN 4 qF [])))
def WS : Code := (Tryz.f77.body).getD .skip
def ja : yZ := spF (α := Int) (ρ := Bool) 77 (fun x => [(eI .i64) x]) (fun r => eB r) (fun x => j4 x) [] (UQ)
theorem V6 {ctr : Ctr} (hC : zW Tryz.prog ctr) : ja.Ok Tryz.prog := by
 refine ya ?_
 rintro x_ r0 hf0
 try unfold j4 at hf0
 refine yO true [(2, none)] WS 6 Tryz.func77 fun E hE => ?_
 obtain rfl := zm hf0
 exact yE X0 hC hE []
def wy : Code := (Tryz.f47.body).getD .skip
def wr : yZ := spF (α := List Int × Int) (ρ := Int × Bool) 47 (fun x => [F2_ x.1, (eI .i64) x.2]) (fun r => .tup [(eI .i64) r.1, eB r.2]) (fun x => wW x.1 x.2) [] (UP)
abbrev jS (x_ : List Int) (target : Int) (i_ : Int) : List (Nat × T) := [(0, .d (eSl 1 false (eI .i64) x_)), (1, .d (I target)), (6, .d (I ((x_.length : Nat) : Int))), (7, .d (I i_))]
abbrev jR (x_ : List Int) (target : Int) (i_1 : Int) (j_ : Int) : List (Nat × T) := [(0, .d (eSl 1 false (eI .i64) x_)), (1, .d (I target)), (6, .d (I ((x_.length : Nat) : Int))), (7, .d (I i_1)), (8, .d (I j_))]
theorem kB {ctr : Ctr} (hC : zW Tryz.prog ctr) (h0N : ctr.Has Zn) (h0s : ctr.Has ja) : wr.Ok Tryz.prog := by
 refine ya ?_
 rintro ⟨x_, target⟩ r0 hf0
 try unfold wW at hf0
 refine yO false [(4, none), (5, none)] wy 54 Tryz.func47 fun E hE => ?_
 refine yJ X0 hC wy [1,1,1] [] [0,1,6,7] (fun z : Int => wt x_ target z = some r0) (fun z => jS x_ target z) [(0, .d (eSl 1 false (eI .i64) x_)), (1, .d (I target)), (6, .d (I ((x_.length : Nat) : Int))), (7, .d (I 0)), (8, .d (I ((x_.length : Nat) : Int)))] [Ha (lnM (eI .i64) x_), Hh (.cut 1)] ?_ fun J1 hJ1 => ?_
 ·rintro i_ hf0
  unfold wt at hf0
  rcases y9 hf0 with ⟨c0, hf0⟩ | ⟨c0, hf0⟩
  ·obtain ⟨x__e, h0, hf0⟩ := zq hf0
   let Z0 : List HO := (Hq c0 :: Hq c0 :: Hq c0 :: Hi (eI .i64) h0 :: (rpN 4 (Hq c0) []))
   rcases y9 hf0 with ⟨c1, hf0⟩ | ⟨c1, hf0⟩
   ·obtain rfl := zm hf0
    exact yE X0 hC hE (Z0 ++ (rpN 7 (Hq c1) [Hq c0, Hq c1, Hq c0]))
   ·obtain ⟨x__e1, h1, hf0⟩ := zq hf0
    obtain ⟨r_, h2, hf0⟩ := zq hf0
    let Z1 : List HO := (Z0 ++ [Hq c1, Hq c1, Hq c1, Hi (eI .i64) h1, Hq c1, Hq c1, Hc h0s (x := x__e1) h2 (loC (eI .i64) x__e1 <| loN), Hq c1])
    rcases y9 hf0 with ⟨c2, hf0⟩ | ⟨c2, hf0⟩
    ·obtain ⟨r_1, h3, hf0⟩ := zq hf0
     obtain rfl := zm hf0
     exact yE X0 hC hE (Z1 ++ [Hq c2, Hq c2, Hc h0s (x := target) h3 (loC (eI .i64) target <| loN), Hq c1, Hq c2, Hq c0, Hq c1, Hq c0])
    ·obtain rfl := zm hf0
     exact yE X0 hC hE (Z1 ++ [Hq c2, Hq c2, Hq c1, Hq c2, Hq c0, Hq c1, Hq c0])
  ·obtain rfl := zm hf0
   exact yE X0 hC hE (rpN 9 (Hq c0) [])
 ·obtain ⟨t2, ht2, hf0⟩ := zq hf0
  refine yL X0 hC wy [1,1,1,2,0] [J1] (fun s => ws x_ target s.1 s.2) (fun x => jR x_ target x.1 x.2) (0, ((x_.length : Nat) : Int)) ht2  [] ?_
  rintro ⟨i_1, j_⟩ m2 lr1 hf1 hl1 J2 hJ2
  try unfold ws at hf1
  rcases y9 hf1 with ⟨c3, hf1⟩ | ⟨c3, hf1⟩
  ·obtain ⟨x__e2, h4, hf1⟩ := zq hf1
   obtain ⟨r_2, h5, hf1⟩ := zq hf1
   let Z2 : List HO := [Hq c3, Hi (eI .i64) h4, Hc h0N (x := (x__e2, target)) h5 (loC (eI .i64) x__e2 <| loC (eI .i64) target <| loN)]
   rcases y9 hf1 with ⟨c4, hf1⟩ | ⟨c4, hf1⟩
   ·obtain rfl := zm hf1
    exact yB ((zec Tryz.prog).or X0) hC hJ2 (w64 ((w64 (Int.fdiv (IntKind.u64.wrap (w64 (i_1 + j_))) (2 ^ 1))) + 1), j_) hl1 (Z2 ++ [Hq c4])
   ·obtain rfl := zm hf1
    exact yB ((zec Tryz.prog).or X0) hC hJ2 (i_1, w64 (Int.fdiv (IntKind.u64.wrap (w64 (i_1 + j_))) (2 ^ 1))) hl1 (Z2 ++ [Hq c4])
  ·obtain rfl := zm hf1
   obtain rfl := hl1
   exact yB X0 hC hJ1 i_1 hf0 [Hq c3]
def Vq : Code := (Tryz.f80.body).getD .skip
def jG : yZ := spF (α := Int) (ρ := Bool) 80 (fun x => [(eI .u8) x]) (fun r => eB r) (fun x => jP x) [] (UQ)
theorem VG {ctr : Ctr} (hC : zW Tryz.prog ctr) : jG.Ok Tryz.prog := by
 refine ya ?_
 rintro x_ r0 hf0
 try unfold jP at hf0
 refine yO true [(2, none)] Vq 6 Tryz.func80 fun E hE => ?_
 obtain rfl := zm hf0
 exact yE X0 hC hE []
def Wp : Code := (Tryz.f51.body).getD .skip
def qM : yZ := spF (α := Int × Int) (ρ := Int) 51 (fun x => [(eI .u8) x.1, (eI .u8) x.2]) (fun r => (eI .i64) r) (fun x => k9 x.1 x.2) [] (UP)
theorem WD {ctr : Ctr} (hC : zW Tryz.prog ctr) (h0t : ctr.Has jG) : qM.Ok Tryz.prog := by
 refine ya ?_
 rintro ⟨x_, y_⟩ r0 hf0
 try unfold k9 at hf0
 refine yO true [(4, none)] Wp 20 Tryz.func51 fun E hE => ?_
 obtain ⟨r_, h0, hf0⟩ := zq hf0
 obtain ⟨r_1, h1, hf0⟩ := zq hf0
 let Z0 : List HO := [Hc h0t (x := x_) h0 (loC (eI .u8) x_ <| loN), Hc h0t (x := y_) h1 (loC (eI .u8) y_ <| loN)]
 rcases y9 hf0 with ⟨c0, hf0⟩ | ⟨c0, hf0⟩
 ·rcases y9 hf0 with ⟨c1, hf0⟩ | ⟨c1, hf0⟩
  ·obtain rfl := zm hf0
   exact yE X0 hC hE (Z0 ++ [Hq c0, Hq c1])
  ·obtain rfl := zm hf0
   exact yE X0 hC hE (Z0 ++ [Hq c0, Hq c1])
 ·rcases y9 hf0 with ⟨c2, hf0⟩ | ⟨c2, hf0⟩
  ·obtain rfl := zm hf0
   exact yE X0 hC hE (Z0 ++ [Hq c0, Hq c2])
  ·rcases y9 hf0 with ⟨c3, hf0⟩ | ⟨c3, hf0⟩
   ·obtain rfl := zm hf0
    exact yE X0 hC hE (Z0 ++ [Hq c0, Hq c2, Hq c3])
   ·rcases y9 hf0 with ⟨c4, hf0⟩ | ⟨c4, hf0⟩
    ·obtain rfl := zm hf0
     exact yE X0 hC hE (Z0 ++ [Hq c0, Hq c2, Hq c3, Hq c4])
    ·obtain rfl := zm hf0
     exact yE X0 hC hE (Z0 ++ [Hq c0, Hq c2, Hq c3, Hq c4])
def Vr : Code := (Tryz.f52.body).getD .skip
def jH : yZ := spF (α := Int × Int) (ρ := Int) 52 (fun x => [(eI .i64) x.1, (eI .i64) x.2]) (fun r => (eI .i64) r) (fun x => jQ x.1 x.2) [] (UP)
theorem VH {ctr : Ctr} (hC : zW Tryz.prog ctr) (h0c : ctr.Has j0) : jH.Ok Tryz.prog := by
 refine ya ?_
 rintro ⟨x_, y_⟩ r0 hf0
 try unfold jQ at hf0
 refine yO true [(4, none)] Vr 20 Tryz.func52 fun E hE => ?_
 obtain ⟨r_, h0, hf0⟩ := zq hf0
 obtain ⟨r_1, h1, hf0⟩ := zq hf0
 let Z0 : List HO := [Hc h0c (x := x_) h0 (loC (eI .i64) x_ <| loN), Hc h0c (x := y_) h1 (loC (eI .i64) y_ <| loN)]
 rcases y9 hf0 with ⟨c0, hf0⟩ | ⟨c0, hf0⟩
 ·rcases y9 hf0 with ⟨c1, hf0⟩ | ⟨c1, hf0⟩
  ·obtain rfl := zm hf0
   exact yE X0 hC hE (Z0 ++ [Hq c0, Hq c1])
  ·obtain rfl := zm hf0
   exact yE X0 hC hE (Z0 ++ [Hq c0, Hq c1])
 ·rcases y9 hf0 with ⟨c2, hf0⟩ | ⟨c2, hf0⟩
  ·obtain rfl := zm hf0
   exact yE X0 hC hE (Z0 ++ [Hq c0, Hq c2])
  ·rcases y9 hf0 with ⟨c3, hf0⟩ | ⟨c3, hf0⟩
   ·obtain rfl := zm hf0
    exact yE X0 hC hE (Z0 ++ [Hq c0, Hq c2, Hq c3])
   ·rcases y9 hf0 with ⟨c4, hf0⟩ | ⟨c4, hf0⟩
    ·obtain rfl := zm hf0
     exact yE X0 hC hE (Z0 ++ [Hq c0, Hq c2, Hq c3, Hq c4])
    ·obtain rfl := zm hf0
     exact yE X0 hC hE (Z0 ++ [Hq c0, Hq c2, Hq c3, Hq c4])
def Xg : Code := (Tryz.f50.body).getD .skip
def YP : yZ := spF (α := List Int) (ρ := Int) 50 (fun x => [F2_ x]) (fun r => (eI .i64) r) (fun x => VZ x) [] (UQ)
abbrev Qv : List (Nat × T) := [(3, .d (I 0))]
abbrev Qu (vals : List Int) (x8 : Int) : List (Nat × T) := [(3, .d (I 0)), (6, .d (eSl 1 false (eI .i64) vals)), (7, .d (I ((vals.length : Nat) : Int))), (8, .d (I x8))]
theorem z0C {ctr : Ctr} (hC : zW Tryz.prog ctr) : YP.Ok Tryz.prog := by
 refine ya ?_
 rintro vals r0 hf0
 try unfold VZ at hf0
 refine yO true [(2, none)] Xg 18 Tryz.func50 fun E hE => ?_
 refine yJ X0 hC Xg [1,1] [] [3] (fun z : Unit => X9 = some r0) (fun z => Qv) [(0, .d (eSl 1 false (eI .i64) vals)), (3, .d (I 0))] [Hh (.cut 2)] ?_ fun J1 hJ1 => ?_
 ·rintro ⟨⟩ hf0
  unfold X9 at hf0
  obtain rfl := zm hf0
  exact yE X0 hC hE []
 ·obtain ⟨t2, ht2, hf0⟩ := zq hf0
  refine yL X0 hC Xg [1,1,2,1,0] [J1] (fun s => X8 vals s) (fun x => Qu vals x) 0 ht2  [Ha (lnM (eI .i64) vals)] ?_
  rintro x8 m2 lr1 hf1 hl1 J2 hJ2
  try unfold X8 at hf1
  rcases y9 hf1 with ⟨c0, hf1⟩ | ⟨c0, hf1⟩
  ·obtain ⟨val_e, h0, hf1⟩ := zq hf1
   rcases y9 hf1 with ⟨c1, hf1⟩ | ⟨c1, hf1⟩
   ·obtain rfl := zm hf1
    obtain rfl := hl1
    obtain rfl := zm hf0
    exact yE X0 hC hE [Hq c0, Hi (eI .i64) h0, Hq c1]
   ·obtain rfl := zm hf1
    exact yB X0 hC hJ2 (w64 (x8 + 1)) hl1 [Hq c0, Hi (eI .i64) h0, Hq c1]
  ·obtain rfl := zm hf1
   obtain rfl := hl1
   exact yB X0 hC hJ1 () hf0 [Hq c0]
def Wo : Code := (Tryz.f49.body).getD .skip
def qL : yZ := spF (α := zf × zf) (ρ := Int) 49 (fun x => [F8_ x.1, F8_ x.2]) (fun r => (eI .i64) r) (fun x => jY x.1 x.2) [] (UP)
theorem WC {ctr : Ctr} (hC : zW Tryz.prog ctr) (h0O : ctr.Has qM) (h0u : ctr.Has jH) (h0v : ctr.Has YP) : qL.Ok Tryz.prog := by
 refine ya ?_
 rintro ⟨a_, b_⟩ r0 hf0
 try unfold jY at hf0
 refine yO true [(4, none)] Wo 22 Tryz.func49 fun E hE => ?_
 obtain ⟨r_, h0, hf0⟩ := zq hf0
 obtain ⟨r_1, h1, hf0⟩ := zq hf0
 obtain ⟨r_2, h2, hf0⟩ := zq hf0
 obtain ⟨r_3, h3, hf0⟩ := zq hf0
 obtain rfl := zm hf0
 exact yE X0 hC hE [Hc h0O (x := (a_.Kind, b_.Kind)) h0 (loC (eI .u8) a_.Kind <| loC (eI .u8) b_.Kind <| loN), Hc h0u (x := (a_.Label, b_.Label)) h1 (loC (eI .i64) a_.Label <| loC (eI .i64) b_.Label <| loN), Hc h0u (x := (a_.To, b_.To)) h2 (loC (eI .i64) a_.To <| loC (eI .i64) b_.To <| loN), Hg (z1L h0v), Hm (shM (eI .i64) (eI .i64) ([r_, r_1, r_2])), Hs (z1M h0v (x := [r_, r_1, r_2]) h3 (loC F1_ ([r_, r_1, r_2] : List Int) <| loN))]
def zJ : Code := (Tryz.f54.body).getD .skip
def xm : yZ := spF (α := List zf) (ρ := List zf) 54 (fun x => [(eOs 3 false F8_) x]) (fun r => (eOs 3 false F8_) r) (fun x => xO x) [true] (UQ)
abbrev qd (s_ : List zf) : List (Nat × T) := [(0, .own (eOs 3 false F8_ s_))]
abbrev qa (s_ : List zf) (k_ : Int) : List (Nat × T) := [(0, .own (eOs 3 false F8_ s_)), (3, .d (I k_))]
abbrev uZ (s_1 : List zf) (k_1 : Int) : List (Nat × T) := [(0, .own (eOs 3 false F8_ s_1)), (3, .d (I k_1))]
abbrev uY (pv0 : Value) (k_ : Int) (k2 : Int) (s_3 : List zf) (k_3 : Int) : List (Nat × T) := [(0, .own (eOs 3 false F8_ s_3)), (3, .d (I k_3)), (4, .d (.atom (Wm 3 pv0 k_))), (5, .d (I k2))]
abbrev uW (pv0 : Value) (k_ : Int) (s_2 : List zf) (k_2 : Int) (k2 : Int) : List (Nat × T) := [(0, .own (eOs 3 false F8_ s_2)), (3, .d (I k_2)), (4, .d (.atom (Wm 3 pv0 k_))), (5, .d (I k2))]
abbrev uX (s_ : List zf) (k_ : Int) : List (Nat × T) := [(0, .own (eOs 3 false F8_ s_)), (3, .d (I k_))]
def zr : XH Tryz.prog := ((zft zZ 59).or X0)
theorem qO {ctr : Ctr} (hC : zW Tryz.prog ctr) : xm.Ok Tryz.prog := by
 refine ya ?_
 rintro s_ r0 hf0
 try unfold xO at hf0
 refine yO true [(2, none)] zJ 61 Tryz.func54 fun E hE => ?_
 refine z5c (y := eOs 3 false F8_ s_) rfl 0 (by kernel_rfl) (by kernel_rfl) fun pv0 hv0 => ?_
 let Z0 : List HO := [Ha (lnM F8_ s_)]
 rcases y9 hf0 with ⟨c0, hf0⟩ | ⟨c0, hf0⟩
 ·obtain rfl := zm hf0
  exact yE zr hC hE (Z0 ++ [Hq c0])
 ·refine yJ zr hC zJ [1,1] [] [0] (fun z : Unit => xu s_ = some r0) (fun z => qd s_) [(0, .own (eOs 3 false F8_ s_))] (Z0 ++ [Hq c0, Hh (.cut 0)]) ?_ fun J1 hJ1 => ?_
  ·rintro ⟨⟩ hf0
   unfold xu at hf0
   obtain rfl := zm hf0
   exact yE zr hC hE []
  ·obtain ⟨t2, ht2, hf0⟩ := zq hf0
   refine yL zr hC zJ [1,1,2,1,0] [J1] (fun s => xp s_ s) (fun x => uX s_ x) 1 ht2  [] ?_
   rintro k_ m2 lr1 hf1 hl1 J2 hJ2
   try unfold xp at hf1
   let Z1 : List HO := [Ha (lnM F8_ s_)]
   rcases y9 hf1 with ⟨c1, hf1⟩ | ⟨c1, hf1⟩
   ·refine yJ zr hC zJ [1,1,2,1,0,0,1] [J1, J2] [0,3] (fun z : Unit => xr k_ = some lr1) (fun z => qa s_ k_) [(0, .own (eOs 3 false F8_ s_)), (3, .d (I k_))] (Z1 ++ [Hq c1, Hh (.cut 0)]) ?_ fun J3 hJ3 => ?_
    ·rintro ⟨⟩ hf1
     unfold xr at hf1
     obtain rfl := zm hf1
     exact yB zr hC hJ2 (w64 (k_ + 1)) hl1 []
    ·obtain ⟨s__e, h0, hf1⟩ := zq hf1
     obtain ⟨s__e1, h1, hf1⟩ := zq hf1
     let Z2 : List HO := [Hn (iL F8_ h0), Hs (iM F8_ h0), Hn (iL F8_ h1), Hs (iM F8_ h1)]
     rcases y9 hf1 with ⟨c2, hf1⟩ | ⟨c2, hf1⟩
     ·obtain ⟨g0, hf1⟩ := gdE hf1
      refine yJ ((xAs Tryz.prog 4 (Wm 3 pv0 k_)).or ((xVw zZ 28 0 pv0).or zr)) hC zJ [1,1,2,1,0,0,1,2,0,1,0,1] [J1, J2, J3] [0,3] (fun z : List zf × Int => xq z.1 z.2 = some lr1) (fun z => uZ z.1 z.2) [(0, .own (eOs 3 false F8_ s_)), (3, .d (I k_)), (4, .d (.atom (Wm 3 pv0 k_)))] (Z2 ++ [Hq c2, Hn (⟨.inl rfl, rfl⟩ : (T.als 0 [] 0 0 = T.als 0 [] 0 0 ∨ T.als 0 [] 0 0 = T.d (.atom pv0)) ∧ some pv0 = some pv0), Hn (⟨g0.1, cuB F8_ g0⟩ : (0 : Int) ≤ k_ ∧ k_.toNat ≤ (s_.map F8_).length), Hn (rfl : T.d (.atom (Wm 3 pv0 k_)) = T.d (.atom (Wm 3 pv0 k_))), Hh (.cut 1)]) ?_ fun J4 hJ4 => ?_
      ·rintro ⟨s_1, k_1⟩ hf1
       unfold xq at hf1
       obtain ⟨g1, hf1⟩ := gdE hf1
       obtain ⟨g2, hf1⟩ := gdE hf1
       obtain ⟨g3, hf1⟩ := gdE hf1
       obtain rfl := zm hf1
       obtain rfl := hl1
       obtain rfl := zm hf0
       exact yE ((xVc zZ 56 3 0 pv0 k_1).or ((xVw zZ 56 0 pv0).or zr)) hC hE [Hn (⟨.inl rfl, rfl⟩ : (T.als 0 [] 0 0 = T.als 0 [] 0 0 ∨ T.als 0 [] 0 0 = T.d (.atom pv0)) ∧ some pv0 = some pv0), Hn (⟨g1.1, cuB F8_ g1⟩ : (0 : Int) ≤ k_1 ∧ k_1.toNat ≤ (s_1.map F8_).length), Hn (⟨rfl, rfl⟩ : T.d (.atom (Wm 3 pv0 k_1)) = T.d (.atom (Wm 3 pv0 k_1)) ∧ some pv0 = some pv0), Hn (⟨g2.1, cuB F8_ g2, dM F8_ s_1⟩ : (0 : Int) ≤ k_1 ∧ k_1.toNat ≤ (s_1.map F8_).length ∧ A.areD (s_1.map F8_) = true), Hx (.l ((s_1.take k_1.toNat ++ List.replicate (s_1.length - k_1.toNat) (zf.mk 0 0 0)).map F8_)) (vcM F8_ s_1 k_1.toNat (zf.mk 0 0 0)), Hn g3.1, Hn (cuB F8_ g3), Hl (cuM F8_ (s_1.take k_1.toNat ++ List.replicate (s_1.length - k_1.toNat) (zf.mk 0 0 0)) k_1)]
      ·obtain ⟨t5, ht5, hf1⟩ := zq hf1
       refine yL zr hC zJ [1,1,2,1,0,0,1,2,0,1,0,1,2,1,0] [J1, J2, J3, J4] (fun s => xo k_ s.1 s.2.1 s.2.2) (fun x => uW pv0 k_ x.1 x.2.1 x.2.2) (s_, k_, 1) ht5  [] ?_
       rintro ⟨s_2, k_2, k2⟩ m5 lr2 hf2 hl2 J5 hJ5
       try unfold xo at hf2
       let Z3 : List HO := [Hn (⟨rfl, rfl⟩ : T.d (.atom (Wm 3 pv0 k_)) = T.d (.atom (Wm 3 pv0 k_)) ∧ some pv0 = some pv0), Hx (.a (.atom (.int .i64 ((s_2.length - k_.toNat : Nat) : Int)))) (vlM F8_ s_2 k_.toNat)]
       rcases y9 hf2 with ⟨c3, hf2⟩ | ⟨c3, hf2⟩
       ·refine yJ ((xVl zZ 31 59 3 0 pv0 k_ (by kernel_rfl)).or zr) hC zJ [1,1,2,1,0,0,1,2,0,1,0,1,2,1,0,0,1] [J1, J2, J3, J4, J5] [0,3,4,5] (fun z : List zf × Int => yz k2 z.1 z.2 = some lr2) (fun z => uY pv0 k_ k2 z.1 z.2) [(0, .own (eOs 3 false F8_ s_2)), (3, .d (I k_2)), (4, .d (.atom (Wm 3 pv0 k_))), (5, .d (I k2))] (Z3 ++ [Hq c3, Hh (.cut 0)]) ?_ fun J6 hJ6 => ?_
        ·rintro ⟨s_3, k_3⟩ hf2
         unfold yz at hf2
         obtain rfl := zm hf2
         exact yB zr hC hJ5 (s_3, k_3, w64 (k2 + 1)) hl2 []
        ·obtain ⟨g4, hf2⟩ := gdE hf2
         obtain ⟨s__e2, h2, hf2⟩ := zq hf2
         obtain ⟨g5, hf2⟩ := gdE hf2
         obtain ⟨s__e3, h3, hf2⟩ := zq hf2
         let Z4 : List HO := [Hn (⟨rfl, rfl⟩ : T.d (.atom (Wm 3 pv0 k_)) = T.d (.atom (Wm 3 pv0 k_)) ∧ some pv0 = some pv0), Hn (⟨g4.1, g4.2, (iL F8_ h2).2⟩ : (0 : Int) ≤ k_ ∧ (0 : Int) ≤ k2 ∧ (k_ + k2).toNat < (s_2.map F8_).length), Hs (iM F8_ h2), Hn (⟨rfl, rfl⟩ : T.d (.atom (Wm 3 pv0 k_)) = T.d (.atom (Wm 3 pv0 k_)) ∧ some pv0 = some pv0), Hn (⟨g5.1, g5.2, (iL F8_ h3).2⟩ : (0 : Int) ≤ k_ ∧ (0 : Int) ≤ w64 (k2 - 1) ∧ (k_ + (w64 (k2 - 1))).toNat < (s_2.map F8_).length), Hs (iM F8_ h3)]
         rcases y9 hf2 with ⟨c4, hf2⟩ | ⟨c4, hf2⟩
         ·obtain ⟨g6, hf2⟩ := gdE hf2
          obtain ⟨s__e4, h4, hf2⟩ := zq hf2
          obtain ⟨s__e5, h5, hf2⟩ := zq hf2
          exact yB ((xVi zZ 49 3 0 pv0 k_).or ((xVi zZ 42 3 0 pv0 k_).or ((xVi zZ 37 3 0 pv0 k_).or zr))) hC hJ6 ((s_2.set k_2.toNat s__e4), w64 (k_2 + 1)) hf2 (Z4 ++ [Hq c4, Hn (⟨rfl, rfl⟩ : T.d (.atom (Wm 3 pv0 k_)) = T.d (.atom (Wm 3 pv0 k_)) ∧ some pv0 = some pv0), Hn (⟨g6.1, g6.2, (iL F8_ h4).2⟩ : (0 : Int) ≤ k_ ∧ (0 : Int) ≤ k2 ∧ (k_ + k2).toNat < (s_2.map F8_).length), Hs (iM F8_ h4), Hn (iL F8_ h5), Hs (iM F8_ h5), Hs (iM F8_ h5), Hl (sM F8_ s_2 k_2 s__e4)])
         ·exact yB ((xVi zZ 42 3 0 pv0 k_).or ((xVi zZ 37 3 0 pv0 k_).or zr)) hC hJ6 (s_2, k_2) hf2 (Z4 ++ [Hq c4])
       ·obtain rfl := zm hf2
        obtain rfl := hl2
        exact yB ((xVl zZ 31 59 3 0 pv0 k_ (by kernel_rfl)).or zr) hC hJ4 (s_2, k_2) hf1 (Z3 ++ [Hq c3])
     ·exact yB zr hC hJ3 () hf1 (Z2 ++ [Hq c2])
   ·obtain rfl := zm hf1
    obtain rfl := hl1
    exact yB zr hC hJ1 () hf0 (Z1 ++ [Hq c1])
def jk : Code := (Tryz.f53.body).getD .skip
def xN : yZ := spF (α := List zf) (ρ := List zf) 53 (fun x => [Yt x]) (fun r => Vy r) (fun x => wj x) [] (UQ)
theorem jr {ctr : Ctr} (hC : zW Tryz.prog ctr) : xN.Ok Tryz.prog := by
 refine ya ?_
 rintro s_ r0 hf0
 try unfold wj at hf0
 refine yO true [(2, none)] jk 9 Tryz.func53 fun E hE => ?_
 obtain ⟨g0, hf0⟩ := gdE hf0
 obtain rfl := zm hf0
 exact yE X0 hC hE [Ha (lnM F8_ s_), Ha (lnM F8_ s_), Hn (slB g0), Hn (slC g0), Hn (z3l F8_ g0), Ha (z9x 3 F8_ s_ 0 ((s_.length : Nat) : Int).toNat)]
def je : Code := (Tryz.f55.body).getD .skip
def xE : yZ := spF (α := List (List zf)) (ρ := List (List zf)) 55 (fun x => [zfm x]) (fun r => zcw r) (fun x => w9 x) [] (UQ)
theorem jh {ctr : Ctr} (hC : zW Tryz.prog ctr) : xE.Ok Tryz.prog := by
 refine ya ?_
 rintro s_ r0 hf0
 try unfold w9 at hf0
 refine yO true [(2, none)] je 9 Tryz.func55 fun E hE => ?_
 obtain ⟨g0, hf0⟩ := gdE hf0
 obtain rfl := zm hf0
 exact yE X0 hC hE [Ha (lnM Yt s_), Ha (lnM Yt s_), Hn (slB g0), Hn (slC g0), Hn (z3l Yt g0), Ha (z9x 1 Yt s_ 0 ((s_.length : Nat) : Int).toNat)]
def yQ : Code := (Tryz.f17.body).getD .skip
def jE : yZ := spF (α := za × List Int) (ρ := zG × Int) 17 (fun x => [xj x.1, F2_ x.2]) (fun r => .tup [(wY (eI .i64) (eI .i64) zcw) r.1, (eI .i64) r.2]) (fun x => jA x.1 x.2) [] (UP)
abbrev W7 (x_ : za) (out_Rows : List (List zf)) : List (Nat × T) := [(4, .own (.box (.agg [I 0, I 0, eOs 1 true Yt []]))), (10, .own (.box (.agg [I 0, I x_.Labels, eOs 1 false Vy out_Rows])))]
abbrev W6 (x_ : za) (hidden : List Int) (r_2 : List zb × List (List z6) × Int) (x51 : Int) (out_Rows2 : List (List zf)) : List (Nat × T) := [(1, .d (eSl 1 false (eI .i64) hidden)), (2, .own (.box (xj x_))), (4, .own (.box (.agg [I 0, I 0, eOs 1 true Yt []]))), (10, .own (.box (.agg [I 0, I x_.Labels, eOs 1 false Vy out_Rows2]))), (49, .d (eSl 1 true wz r_2.2.1)), (50, .d (I ((r_2.2.1.length : Nat) : Int))), (51, .d (I x51))]
abbrev W5 (x_ : za) (hidden : List Int) (r_2 : List zb × List (List z6) × Int) (out_Rows1 : List (List zf)) (x51 : Int) (row : List zf) : List (Nat × T) := [(1, .d (eSl 1 false (eI .i64) hidden)), (2, .own (.box (xj x_))), (4, .own (.box (.agg [I 0, I 0, eOs 1 true Yt []]))), (10, .own (.box (.agg [I 0, I x_.Labels, eOs 1 false Vy out_Rows1]))), (13, .own (eOs 3 false F8_ row)), (49, .d (eSl 1 true wz r_2.2.1)), (50, .d (I ((r_2.2.1.length : Nat) : Int))), (51, .d (I x51))]
abbrev W4 (x_ : za) (hidden : List Int) (r_2 : List zb × List (List z6) × Int) (out_Rows1 : List (List zf)) (x51 : Int) (u_ : List z6) (row1 : List zf) (x57 : Int) (u__e : z6) (arc_Kind : Int) (arc_Label : Int) : List (Nat × T) := [(1, .d (eSl 1 false (eI .i64) hidden)), (2, .own (.box (xj x_))), (4, .own (.box (.agg [I 0, I 0, eOs 1 true Yt []]))), (10, .own (.box (.agg [I 0, I x_.Labels, eOs 1 false Vy out_Rows1]))), (13, .own (eOs 3 false F8_ row1)), (16, .own (.box (.agg [.atom (.int .u8 arc_Kind), I arc_Label, I u__e.To]))), (49, .d (eSl 1 true wz r_2.2.1)), (50, .d (I ((r_2.2.1.length : Nat) : Int))), (51, .d (I x51)), (55, .d (eSl 5 true uR u_)), (56, .d (I ((u_.length : Nat) : Int))), (57, .d (I x57))]
abbrev W2 (x_ : za) (hidden : List Int) (r_2 : List zb × List (List z6) × Int) (out_Rows1 : List (List zf)) (x51 : Int) (u_ : List z6) (row1 : List zf) (x57 : Int) : List (Nat × T) := [(1, .d (eSl 1 false (eI .i64) hidden)), (2, .own (.box (xj x_))), (4, .own (.box (.agg [I 0, I 0, eOs 1 true Yt []]))), (10, .own (.box (.agg [I 0, I x_.Labels, eOs 1 false Vy out_Rows1]))), (13, .own (eOs 3 false F8_ row1)), (49, .d (eSl 1 true wz r_2.2.1)), (50, .d (I ((r_2.2.1.length : Nat) : Int))), (51, .d (I x51)), (55, .d (eSl 5 true uR u_)), (56, .d (I ((u_.length : Nat) : Int))), (57, .d (I x57))]
abbrev W3 (x_ : za) (hidden : List Int) (r_2 : List zb × List (List z6) × Int) (out_Rows1 : List (List zf)) (x51 : Int) : List (Nat × T) := [(1, .d (eSl 1 false (eI .i64) hidden)), (2, .own (.box (xj x_))), (4, .own (.box (.agg [I 0, I 0, eOs 1 true Yt []]))), (10, .own (.box (.agg [I 0, I x_.Labels, eOs 1 false Vy out_Rows1]))), (49, .d (eSl 1 true wz r_2.2.1)), (50, .d (I ((r_2.2.1.length : Nat) : Int))), (51, .d (I x51))]
theorem VD {ctr : Ctr} (hC : zW Tryz.prog ctr) (h0a : ctr.Has uz) (h0h : ctr.Has qq) (h0b : ctr.Has xX) (h0P : ctr.Has wr) (h0Q : ctr.Has qL) (h0R : ctr.Has xm) (h0w : ctr.Has xN) (h0x : ctr.Has xE) : jE.Ok Tryz.prog := by
 refine ya ?_
 rintro ⟨x_, hidden⟩ r0 hf0
 try unfold jA at hf0
 refine yO false [(4, some 53), (5, none)] yQ 121 Tryz.func17 fun E hE => ?_
 obtain ⟨r_, h0, hf0⟩ := zq hf0
 let Z0 : List HO := [Hc h0a (x := x_) h0 (loC xj x_ <| loN)]
 rcases y9 hf0 with ⟨c0, hf0⟩ | ⟨c0, hf0⟩
 ·obtain rfl := zm hf0
  exact yE X0 hC hE (Z0 ++ [Hq c0, Hm (shM Yt Yt [])])
 ·obtain ⟨r_1, h1, hf0⟩ := zq hf0
  let Z1 : List HO := (Z0 ++ [Hq c0, Hc h0h (x := (hidden, x_.Labels)) h1 (loC F2_ hidden <| loC (eI .i64) x_.Labels <| loN)])
  rcases y9 hf0 with ⟨c1, hf0⟩ | ⟨c1, hf0⟩
  ·obtain rfl := zm hf0
   exact yE X0 hC hE (Z1 ++ [Hq c1, Hm (shM Yt Yt [])])
  ·obtain ⟨r_2, h2, hf0⟩ := zq hf0
   let Z2 : List HO := (Z1 ++ [Hq c1, Hc h0b (x := x_) h2 (loC xj x_ <| loN)])
   rcases y9 hf0 with ⟨c2, hf0⟩ | ⟨c2, hf0⟩
   ·obtain rfl := zm hf0
    exact yE X0 hC hE (Z2 ++ [Hq c2, Hm (shM Yt Yt [])])
   ·let Z3 : List HO := (Z2 ++ [Hq c2, Ha (lnM yV r_2.1)])
    rcases y9 hf0 with ⟨c3, hf0⟩ | ⟨c3, hf0⟩
    ·obtain rfl := zm hf0
     exact yE X0 hC hE (Z3 ++ [Hq c3, Hm (shM Yt Yt [])])
    ·refine yJ X0 hC yQ [1,1,1,1,1,1,1] [] [4,10] (fun z : List (List zf) => jz x_ z = some r0) (fun z => W7 x_ z) [(1, .d (eSl 1 false (eI .i64) hidden)), (2, .own (.box (xj x_))), (4, .own (.box (.agg [I 0, I 0, eOs 1 true Yt []]))), (8, .d (eSl 1 true wz r_2.2.1)), (10, .own (.box (.agg [I 0, I x_.Labels, eOs 1 true Yt []])))] (Z3 ++ [Hq c3, Hh (.cut 1)]) ?_ fun J1 hJ1 => ?_
     ·rintro out_Rows hf0
      unfold jz at hf0
      obtain ⟨r_3, h3, hf0⟩ := zq hf0
      obtain rfl := zm hf0
      exact yE X0 hC hE [Hg (z1L h0x), Hm (shM Vy Vy out_Rows), Hs (z1M h0x (x := out_Rows) h3 (loC (eSl 1 false Vy) out_Rows <| loN)), Hm (shM Vy Vy out_Rows)]
     ·obtain ⟨t2, ht2, hf0⟩ := zq hf0
      refine yLx X0 hC yQ [1,1,1,1,1,1,1,2,1,0] [J1] (fun s => jw x_ hidden r_2 s.1 s.2) (fun x => W3 x_ hidden r_2 x.1 x.2) (([] : List (List zf)), 0) ht2 [(1, .d (eSl 1 false (eI .i64) hidden)), (2, .own (.box (xj x_))), (4, .own (.box (.agg [I 0, I 0, eOs 1 true Yt []]))), (10, .own (.box (.agg [I 0, I x_.Labels, eOs 1 true Vy []]))), (49, .d (eSl 1 true wz r_2.2.1)), (50, .d (I ((r_2.2.1.length : Nat) : Int))), (51, .d (I 0))] inferInstance [Ha (lnM wz r_2.2.1)] ?_
      rintro ⟨out_Rows1, x51⟩ m2 lr1 hf1 hl1 J2 hJ2
      try unfold jw at hf1
      rcases y9 hf1 with ⟨c4, hf1⟩ | ⟨c4, hf1⟩
      ·refine yJ X0 hC yQ [1,1,1,1,1,1,1,2,1,0,0,1,1] [J1, J2] [1,2,4,10,49,50,51] (fun z : List (List zf) => jy x51 z = some lr1) (fun z => W6 x_ hidden r_2 x51 z) [(1, .d (eSl 1 false (eI .i64) hidden)), (2, .own (.box (xj x_))), (4, .own (.box (.agg [I 0, I 0, eOs 1 true Yt []]))), (10, .own (.box (.agg [I 0, I x_.Labels, eOs 1 false Vy out_Rows1]))), (49, .d (eSl 1 true wz r_2.2.1)), (50, .d (I ((r_2.2.1.length : Nat) : Int))), (51, .d (I x51))] [Hq c4, Hh (.cut 0)] ?_ fun J3 hJ3 => ?_
       ·rintro out_Rows2 hf1
        unfold jy at hf1
        obtain rfl := zm hf1
        exact yB X0 hC hJ2 (out_Rows2, w64 (x51 + 1)) hl1 []
       ·obtain ⟨u_, h4, hf1⟩ := zq hf1
        refine yJ X0 hC yQ [1,1,1,1,1,1,1,2,1,0,0,1,1,2,0,1,1] [J1, J2, J3] [1,2,4,10,13,49,50,51] (fun z : List zf => jx out_Rows1 x51 z = some lr1) (fun z => W5 x_ hidden r_2 out_Rows1 x51 z) [(1, .d (eSl 1 false (eI .i64) hidden)), (2, .own (.box (xj x_))), (4, .own (.box (.agg [I 0, I 0, eOs 1 true Yt []]))), (10, .own (.box (.agg [I 0, I x_.Labels, eOs 1 false Vy out_Rows1]))), (12, .d (eSl 5 true uR u_)), (13, .own (eOs 3 true F8_ [])), (49, .d (eSl 1 true wz r_2.2.1)), (50, .d (I ((r_2.2.1.length : Nat) : Int))), (51, .d (I x51))] [Hi wz h4, Hh (.cut 1)] ?_ fun J4 hJ4 => ?_
        ·rintro row hf1
         unfold jx at hf1
         refine yA X0 hC yQ [1,1,1,1,1,1,1,2,1,0,0,1,1,2,0,1,1,1] [J1, J2, J3] [(1, .d (eSl 1 false (eI .i64) hidden)), (2, .own (.box (xj x_))), (4, .own (.box (.agg [I 0, I 0, eOs 1 true Yt []]))), (10, .own (.box (.agg [I 0, I x_.Labels, eOs 1 false Vy out_Rows1]))), (13, .own (eOs 3 false F8_ row)), (49, .d (eSl 1 true wz r_2.2.1)), (50, .d (I ((r_2.2.1.length : Nat) : Int))), (51, .d (I x51))] [Hh (.cut 0)] ?_
         obtain ⟨sorted, h5, hf1⟩ := zq hf1
         refine z1C (by kernel_rfl) (x := (sub [1,1,1,1,1,1,1,2,1,0,0,1,1,2,0,1,1,1,0] yQ)) (y := (sub [1,1,1,1,1,1,1,2,1,0,0,1,1,2,0,1,1,1,1] yQ)) 13 (fun st1 => Own.canon [1,2,4,10,13,49,50,51] st1 = ofL [(1, .d (eSl 1 false (eI .i64) hidden)), (2, .own (.box (xj x_))), (4, .own (.box (.agg [I 0, I 0, eOs 1 true Yt []]))), (10, .own (.box (.agg [I 0, I x_.Labels, eOs 1 false Vy out_Rows1]))), (13, .own (eOs 3 false F8_ sorted)), (49, .d (eSl 1 true wz r_2.2.1)), (50, .d (I ((r_2.2.1.length : Nat) : Int))), (51, .d (I x51))]) (fun pv13 => yF ((qJ (P := Tryz.prog) xS [13] (z3Q zcJ (f := F8_) (t := false) (v := pv13) (fun _ => rfl) (fun _ => rfl) (fun x y c h => xx hC h0Q (x := (x, y)) h) h5) 101).or X0) hC .normal [(1, .d (eSl 1 false (eI .i64) hidden)), (2, .own (.box (xj x_))), (4, .own (.box (.agg [I 0, I 0, eOs 1 true Yt []]))), (10, .own (.box (.agg [I 0, I x_.Labels, eOs 1 false Vy out_Rows1]))), (13, .own (eOs 3 false F8_ sorted)), (49, .d (eSl 1 true wz r_2.2.1)), (50, .d (I ((r_2.2.1.length : Nat) : Int))), (51, .d (I x51))] [Hn (YI (f := .fn 48 []) (xs := [.atom pv13, .fn 49 []]) (ls := [(pv13, eOs 3 false F8_ row)]) (r := .tup []) (ys := [eOs 3 false F8_ sorted]) [.atom pv13, .fn 49 []] (show KC [.atom pv13, .fn 49 []] [.atom pv13, .fn 49 []] from inferInstance))] fun st0 h0 => ⟨rfl, h0⟩) fun st1 h1 => z2r h1 ?_
         obtain ⟨r_4, h6, hf1⟩ := zq hf1
         obtain ⟨r_5, h7, hf1⟩ := zq hf1
         let Z4 : List HO := [Hc h0R (x := sorted) h6 (loC (eOs 3 false F8_) sorted <| loN), Hg (z1L h0w), Hm (shM F8_ F8_ r_4), Hs (z1M h0w (x := r_4) h7 (loC Yt r_4 <| loN)), Hm (shM F8_ F8_ r_4), Ha (lnM F8_ r_5)]
         rcases y9 hf1 with ⟨c5, hf1⟩ | ⟨c5, hf1⟩
         ·obtain rfl := zm hf1
          obtain rfl := hl1
          obtain rfl := zm hf0
          exact yE X0 hC hE (Z4 ++ [Hq c5, Hm (shM Yt Yt [])])
         ·obtain ⟨g0, hf1⟩ := gdE hf1
          exact yB X0 hC hJ3 (out_Rows1 ++ ([r_5] : List (List zf))) hf1 (Z4 ++ [Hq c5, Hq (dM Vy ([r_5] : List (List zf))), Hn (dM Vy ([r_5] : List (List zf))), Hn (aL Vy Vy g0), Hl (aM Vy out_Rows1 ([r_5] : List (List zf)))])
        ·obtain ⟨t5, ht5, hf1⟩ := zq hf1
         refine yLx X0 hC yQ [1,1,1,1,1,1,1,2,1,0,0,1,1,2,0,1,1,2,1,0] [J1, J2, J3, J4] (fun s => jv x_ hidden u_ s.1 s.2) (fun x => W2 x_ hidden r_2 out_Rows1 x51 u_ x.1 x.2) (([] : List zf), 0) ht5 [(1, .d (eSl 1 false (eI .i64) hidden)), (2, .own (.box (xj x_))), (4, .own (.box (.agg [I 0, I 0, eOs 1 true Yt []]))), (10, .own (.box (.agg [I 0, I x_.Labels, eOs 1 false Vy out_Rows1]))), (13, .own (eOs 3 true F8_ [])), (49, .d (eSl 1 true wz r_2.2.1)), (50, .d (I ((r_2.2.1.length : Nat) : Int))), (51, .d (I x51)), (55, .d (eSl 5 true uR u_)), (56, .d (I ((u_.length : Nat) : Int))), (57, .d (I 0))] inferInstance [Ha (lnM uR u_)] ?_
         rintro ⟨row1, x57⟩ m5 lr2 hf2 hl2 J5 hJ5
         try unfold jv at hf2
         rcases y9 hf2 with ⟨c6, hf2⟩ | ⟨c6, hf2⟩
         ·obtain ⟨u__e, h8, hf2⟩ := zq hf2
          obtain ⟨Part_e, h9, hf2⟩ := zq hf2
          obtain ⟨Arc_e, h10, hf2⟩ := zq hf2
          refine yJ X0 hC yQ [1,1,1,1,1,1,1,2,1,0,0,1,1,2,0,1,1,2,1,0,0,1,1,0,0,1,1,1] [J1, J2, J3, J4, J5] [1,2,4,10,13,16,49,50,51,55,56,57] (fun z : Int × Int => vm row1 x57 u__e z.1 z.2 = some lr2) (fun z => W4 x_ hidden r_2 out_Rows1 x51 u_ row1 x57 u__e z.1 z.2) [(1, .d (eSl 1 false (eI .i64) hidden)), (2, .own (.box (xj x_))), (4, .own (.box (.agg [I 0, I 0, eOs 1 true Yt []]))), (10, .own (.box (.agg [I 0, I x_.Labels, eOs 1 false Vy out_Rows1]))), (13, .own (eOs 3 false F8_ row1)), (16, .own (.box (.agg [.atom (.int .u8 0), I 0, I u__e.To]))), (17, .own (.box (vN Arc_e))), (49, .d (eSl 1 true wz r_2.2.1)), (50, .d (I ((r_2.2.1.length : Nat) : Int))), (51, .d (I x51)), (55, .d (eSl 5 true uR u_)), (56, .d (I ((u_.length : Nat) : Int))), (57, .d (I x57))] [Hq c6, Hi uR h8, Hi vb h9, Hi vN h10, Hh (.cut 0)] ?_ fun J6 hJ6 => ?_
          ·rintro ⟨arc_Kind, arc_Label⟩ hf2
           unfold vm at hf2
           obtain ⟨g1, hf2⟩ := gdE hf2
           obtain rfl := zm hf2
           exact yB X0 hC hJ5 ((row1 ++ ([(zf.mk arc_Kind arc_Label u__e.To)] : List zf)), w64 (x57 + 1)) hl2 [Hq (dM F8_ ([(zf.mk arc_Kind arc_Label u__e.To)] : List zf)), Hn (dM F8_ ([(zf.mk arc_Kind arc_Label u__e.To)] : List zf)), Hn (aL F8_ F8_ g1), Hl (aM F8_ row1 ([(zf.mk arc_Kind arc_Label u__e.To)] : List zf))]
          ·obtain ⟨r_6, h11, hf2⟩ := zq hf2
           let Z5 : List HO := [Hc h0P (x := (hidden, Arc_e.Message)) h11 (loC F2_ hidden <| loC (eI .i64) Arc_e.Message <| loN)]
           rcases y9 hf2 with ⟨c7, hf2⟩ | ⟨c7, hf2⟩
           ·rcases y9 hf2 with ⟨c8, hf2⟩ | ⟨c8, hf2⟩
            ·exact yB X0 hC hJ6 (2, Arc_e.Message) hf2 (Z5 ++ [Hq c7, Hq c7, Hq c7, Hq c8])
            ·exact yB X0 hC hJ6 (0,0) hf2 (Z5 ++ [Hq c7, Hq c7, Hq c7, Hq c8])
           ·exact yB X0 hC hJ6 (0,0) hf2 (Z5 ++ [Hq c7, Hq c7, Hq c7, qF])
         ·obtain rfl := zm hf2
          obtain rfl := hl2
          exact yB X0 hC hJ4 row1 hf1 [Hq c6]
      ·obtain rfl := zm hf1
       obtain rfl := hl1
       exact yB X0 hC hJ1 out_Rows1 hf0 [Hq c4]
def uF : Code := (Tryz.f18.body).getD .skip
def kH : yZ := spF (α := zG × zG) (ρ := Int) 18 (fun x => [z3I x.1, z3I x.2]) (fun r => (eI .i64) r) (fun x => kY x.1 x.2) [] (UP)
abbrev V3 : List (Nat × T) := []
abbrev V2 (a_ : zG) (b_ : zG) (i_ : Int) : List (Nat × T) := [(2, .own (.box (z3I a_))), (3, .own (.box (z3I b_))), (5, .d (I i_))]
abbrev V0 (a_ : zG) (b_ : zG) (i_ : Int) (k_ : Int) : List (Nat × T) := [(2, .own (.box (z3I a_))), (3, .own (.box (z3I b_))), (5, .d (I i_)), (6, .d (I k_))]
abbrev V1 (a_ : zG) (b_ : zG) (i_ : Int) : List (Nat × T) := [(2, .own (.box (z3I a_))), (3, .own (.box (z3I b_))), (5, .d (I i_))]
theorem QJ {ctr : Ctr} (hC : zW Tryz.prog ctr) : kH.Ok Tryz.prog := by
 refine ya ?_
 rintro ⟨a_, b_⟩ r0 hf0
 try unfold kY at hf0
 refine yO true [(4, none)] uF 75 Tryz.func18 fun E hE => ?_
 rcases y9 hf0 with ⟨c0, hf0⟩ | ⟨c0, hf0⟩
 ·obtain rfl := zm hf0
  exact yE X0 hC hE (rpN 6 (Hq c0) (rpN 9 qT []))
 ·let Z0 : List HO := (rpN 6 (Hq c0) [])
  rcases y9 hf0 with ⟨c1, hf0⟩ | ⟨c1, hf0⟩
  ·obtain rfl := zm hf0
   exact yE X0 hC hE (Z0 ++ (rpN 8 (Hq c1) [qT]))
  ·let Z1 : List HO := (Z0 ++ [Hq c1, Hq c1, Hq c1, Ha (lnM Yt a_.Rows), Hq c1, Hq c1, Hq c1, Ha (lnM Yt b_.Rows), Hq c1, Hq c1])
   rcases y9 hf0 with ⟨c2, hf0⟩ | ⟨c2, hf0⟩
   ·obtain rfl := zm hf0
    exact yE X0 hC hE (Z1 ++ [Hq c2])
   ·refine yJ X0 hC uF [1,1] [] [] (fun z : Unit => kL = some r0) (fun z => V3) [(2, .own (.box (z3I a_))), (3, .own (.box (z3I b_)))] (Z1 ++ [Hq c2, Hh (.cut 0)]) ?_ fun J1 hJ1 => ?_
    ·rintro ⟨⟩ hf0
     unfold kL at hf0
     obtain rfl := zm hf0
     exact yE X0 hC hE []
    ·obtain ⟨t2, ht2, hf0⟩ := zq hf0
     refine yL X0 hC uF [1,1,2,1,0] [J1] (fun s => kJ a_ b_ s) (fun x => V1 a_ b_ x) 0 ht2  [] ?_
     rintro i_ m2 lr1 hf1 hl1 J2 hJ2
     try unfold kJ at hf1
     let Z2 : List HO := [Ha (lnM Yt a_.Rows)]
     rcases y9 hf1 with ⟨c3, hf1⟩ | ⟨c3, hf1⟩
     ·refine yJ X0 hC uF [1,1,2,1,0,0,1] [J1, J2] [2,3,5] (fun z : Unit => kK i_ = some lr1) (fun z => V2 a_ b_ i_) [(2, .own (.box (z3I a_))), (3, .own (.box (z3I b_))), (5, .d (I i_))] (Z2 ++ [Hq c3, Hh (.cut 0)]) ?_ fun J3 hJ3 => ?_
      ·rintro ⟨⟩ hf1
       unfold kK at hf1
       obtain rfl := zm hf1
       exact yB X0 hC hJ2 (w64 (i_ + 1)) hl1 []
      ·obtain ⟨Row_e, h0, hf1⟩ := zq hf1
       obtain ⟨Row_e1, h1, hf1⟩ := zq hf1
       let Z3 : List HO := [Hi Yt h0, Ha (lnM F8_ Row_e), Hi Yt h1, Ha (lnM F8_ Row_e1)]
       rcases y9 hf1 with ⟨c4, hf1⟩ | ⟨c4, hf1⟩
       ·obtain rfl := zm hf1
        obtain rfl := hl1
        obtain rfl := zm hf0
        exact yE X0 hC hE (Z3 ++ [Hq c4])
       ·obtain ⟨t4, ht4, hf1⟩ := zq hf1
        refine yL X0 hC uF [1,1,2,1,0,0,1,2,0,1,1,0] [J1, J2, J3] (fun s => kI a_ b_ i_ s) (fun x => V0 a_ b_ i_ x) 0 ht4  (Z3 ++ [Hq c4]) ?_
        rintro k_ m4 lr2 hf2 hl2 J4 hJ4
        try unfold kI at hf2
        obtain ⟨Row_e2, h2, hf2⟩ := zq hf2
        let Z4 : List HO := [Hi Yt h2, Ha (lnM F8_ Row_e2)]
        rcases y9 hf2 with ⟨c5, hf2⟩ | ⟨c5, hf2⟩
        ·obtain ⟨Row_e3, h3, hf2⟩ := zq hf2
         obtain ⟨Row_e_e, h4, hf2⟩ := zq hf2
         obtain ⟨Row_e4, h5, hf2⟩ := zq hf2
         obtain ⟨Row_e_e1, h6, hf2⟩ := zq hf2
         let Z5 : List HO := (Z4 ++ [Hq c5, Hi Yt h3, Hi F8_ h4, Hi Yt h5, Hi F8_ h6])
         rcases y9 hf2 with ⟨c6, hf2⟩ | ⟨c6, hf2⟩
         ·obtain rfl := zm hf2
          obtain rfl := hl2
          obtain rfl := zm hf1
          obtain rfl := hl1
          obtain rfl := zm hf0
          exact yE X0 hC hE (Z5 ++ [Hq c6])
         ·obtain rfl := zm hf2
          exact yB X0 hC hJ4 (w64 (k_ + 1)) hl2 (Z5 ++ [Hq c6])
        ·obtain rfl := zm hf2
         obtain rfl := hl2
         exact yB X0 hC hJ3 () hf1 (Z4 ++ [Hq c5])
     ·obtain rfl := zm hf1
      obtain rfl := hl1
      exact yB X0 hC hJ1 () hf0 (Z2 ++ [Hq c3])
def ur : Code := (Tryz.f92.body).getD .skip
def um : yZ := spF (α := List Int × Int) (ρ := Int) 92 (fun x => [F2_ x.1, (eI .i64) x.2]) (fun r => (eI .i64) r) (fun x => vL x.1 x.2) [] (UP)
abbrev ZZ : List (Nat × T) := []
abbrev ZY (s_ : List Int) (v_ : Int) (x8 : Int) : List (Nat × T) := [(0, .d (eSl 1 false (eI .i64) s_)), (1, .d (I v_)), (7, .d (I ((s_.length : Nat) : Int))), (8, .d (I x8))]
theorem Xr {ctr : Ctr} (hC : zW Tryz.prog ctr) : um.Ok Tryz.prog := by
 refine ya ?_
 rintro ⟨s_, v_⟩ r0 hf0
 try unfold vL at hf0
 refine yO true [(4, none)] ur 19 Tryz.func92 fun E hE => ?_
 refine yJ X0 hC ur [1] [] [] (fun z : Unit => uo = some r0) (fun z => ZZ) [(0, .d (eSl 1 false (eI .i64) s_)), (1, .d (I v_))] [Hh (.cut 1)] ?_ fun J1 hJ1 => ?_
 ·rintro ⟨⟩ hf0
  unfold uo at hf0
  obtain rfl := zm hf0
  exact yE X0 hC hE []
 ·obtain ⟨t2, ht2, hf0⟩ := zq hf0
  refine yL X0 hC ur [1,2,1,0] [J1] (fun s => xY s_ v_ s) (fun x => ZY s_ v_ x) 0 ht2  [Ha (lnM (eI .i64) s_)] ?_
  rintro x8 m2 lr1 hf1 hl1 J2 hJ2
  try unfold xY at hf1
  rcases y9 hf1 with ⟨c0, hf1⟩ | ⟨c0, hf1⟩
  ·obtain ⟨s__e, h0, hf1⟩ := zq hf1
   rcases y9 hf1 with ⟨c1, hf1⟩ | ⟨c1, hf1⟩
   ·obtain rfl := zm hf1
    obtain rfl := hl1
    obtain rfl := zm hf0
    exact yE X0 hC hE [Hq c0, Hi (eI .i64) h0, Hq c1]
   ·obtain rfl := zm hf1
    exact yB X0 hC hJ2 (w64 (x8 + 1)) hl1 [Hq c0, Hi (eI .i64) h0, Hq c1]
  ·obtain rfl := zm hf1
   obtain rfl := hl1
   exact yB X0 hC hJ1 () hf0 [Hq c0]
def ZP : Code := (Tryz.f73.body).getD .skip
def vd : yZ := spF (α := List Int × Int) (ρ := Bool) 73 (fun x => [F2_ x.1, (eI .i64) x.2]) (fun r => eB r) (fun x => xZ x.1 x.2) [] (UP)
theorem Y5 {ctr : Ctr} (hC : zW Tryz.prog ctr) (h0S : ctr.Has um) : vd.Ok Tryz.prog := by
 refine ya ?_
 rintro ⟨s_, v_⟩ r0 hf0
 try unfold xZ at hf0
 refine yO true [(4, none)] ZP 9 Tryz.func73 fun E hE => ?_
 obtain ⟨r_, h0, hf0⟩ := zq hf0
 obtain rfl := zm hf0
 exact yE X0 hC hE [Hc h0S (x := (s_, v_)) h0 (loC F2_ s_ <| loC (eI .i64) v_ <| loN)]
def uq : Code := (Tryz.f42.body).getD .skip
def uj : yZ := spF (α := za × zb) (ρ := Bool) 42 (fun x => [xj x.1, yV x.2]) (fun r => eB r) (fun x => wL x.1 x.2) [] (UP)
abbrev ZS (s_ : zb) : List (Nat × T) := [(3, .own (.box (yV s_)))]
abbrev ZR (x_ : za) (s_ : zb) (x10 : Int) : List (Nat × T) := [(3, .own (.box (yV s_))), (8, .d (eSl 3 false vb x_.Parts)), (9, .d (I ((x_.Parts.length : Nat) : Int))), (10, .d (I x10))]
theorem Xo {ctr : Ctr} (hC : zW Tryz.prog ctr) (h0T : ctr.Has vd) : uj.Ok Tryz.prog := by
 refine ya ?_
 rintro ⟨x_, s_⟩ r0 hf0
 try unfold wL at hf0
 refine yO true [(4, none)] uq 28 Tryz.func42 fun E hE => ?_
 refine yJ X0 hC uq [1] [] [3] (fun z : Unit => xU s_ = some r0) (fun z => ZS s_) [(2, .own (.box (xj x_))), (3, .own (.box (yV s_)))] [Hh (.cut 1)] ?_ fun J1 hJ1 => ?_
 ·rintro ⟨⟩ hf0
  unfold xU at hf0
  obtain rfl := zm hf0
  exact yE ((zcC zZ 27).or X0) hC hE []
 ·obtain ⟨t2, ht2, hf0⟩ := zq hf0
  refine yL X0 hC uq [1,2,1,0] [J1] (fun s => xT x_ s_ s) (fun x => ZR x_ s_ x) 0 ht2  [Ha (lnM vb x_.Parts)] ?_
  rintro x10 m2 lr1 hf1 hl1 J2 hJ2
  try unfold xT at hf1
  rcases y9 hf1 with ⟨c0, hf1⟩ | ⟨c0, hf1⟩
  ·obtain ⟨Part_e, h0, hf1⟩ := zq hf1
   obtain ⟨cell, h1, hf1⟩ := zq hf1
   obtain ⟨r_, h2, hf1⟩ := zq hf1
   let Z0 : List HO := [Hq c0, Hi vb h0, Hn (⟨arJ (by kernel_rfl) (i0 h1), (iL (eI .i64) h1).2⟩ : YE xS 110 ((y8.toL s_.states_).map (eI .i64)) x10 = true ∧ x10.toNat < ((y8.toL s_.states_).map (eI .i64)).length), Hh (.op 9), Hh (.f), Hx (.a (.agg [I s_.states_.e0, I s_.states_.e1, I s_.states_.e2, I s_.states_.e3])) (rfl : some (.agg [I s_.states_.e0, I s_.states_.e1, I s_.states_.e2, I s_.states_.e3] : A) = some (.agg [I s_.states_.e0, I s_.states_.e1, I s_.states_.e2, I s_.states_.e3])), Hh (.f), Hs (iM (eI .i64) h1), Hc h0T (x := (Part_e.Final, cell)) h2 (loC F2_ Part_e.Final <| loC (eI .i64) cell <| loN)]
   rcases y9 hf1 with ⟨c1, hf1⟩ | ⟨c1, hf1⟩
   ·obtain rfl := zm hf1
    obtain rfl := hl1
    obtain rfl := zm hf0
    exact yE X0 hC hE (Z0 ++ [Hq c1])
   ·obtain rfl := zm hf1
    exact yB X0 hC hJ2 (w64 (x10 + 1)) hl1 (Z0 ++ [Hq c1])
  ·obtain rfl := zm hf1
   obtain rfl := hl1
   exact yB X0 hC hJ1 () hf0 [Hq c0]
def w5 : Code := (Tryz.f43.body).getD .skip
abbrev vH (s_1 : List z8) (i_ : Int) (j_ : Int) : List (Nat × T) := [(0, .own (eOs 4 false wB s_1)), (2, .d (I i_)), (3, .d (I j_))]
theorem uu {ctr : Ctr} (hC : zW Tryz.prog ctr) (cv0 : Value) : ∀ (s_ : List z8) (r0 : List z8), y5 s_ = some r0 → kR Tryz.prog (.fn 43 []) [.atom cv0] ([cv0].zip [eOs 4 false wB s_]) (.tup []) [eOs 4 false wB r0] := by
 intro s_ r0 hf0
 refine z6y (tt := xS) (nt := 28) (body := w5) [0] zZ Tryz.func43 rfl (by kernel_rfl) rfl rfl (by show (1 : Nat) ≤ 28; decide) (by decide) rfl rfl (fun E hE => ?_) rfl
 unfold y5 at hf0
 refine zb2 0 (v := cv0) (y := eOs 4 false wB s_) (by kernel_rfl) (by kernel_rfl) (by kernel_rfl) fun hv0 => ?_
 obtain ⟨t1, ht1, hf0⟩ := zq hf0
 refine yL X0 hC w5 [1,0] [] (fun s => zS s.1 s.2.1 s.2.2) (fun x => vH x.1 x.2.1 x.2.2) (s_, 0, w64 (((s_.length : Nat) : Int) - 1)) ht1  [Ha (lnM wB s_)] ?_
 rintro ⟨s_1, i_, j_⟩ m1 lr1 hf1 hl1 J1 hJ1
 try unfold zS at hf1
 rcases y9 hf1 with ⟨c0, hf1⟩ | ⟨c0, hf1⟩
 ·obtain ⟨s__e, h0, hf1⟩ := zq hf1
  obtain ⟨s__e1, h1, hf1⟩ := zq hf1
  obtain ⟨s__e2, h2, hf1⟩ := zq hf1
  obtain ⟨u_e, h3, hf1⟩ := zq hf1
  obtain rfl := zm hf1
  exact yB ((xIx zZ 27 0 cv0).or ((xMv Tryz.prog 16 0 cv0 hv0).or X0)) hC hJ1 (((s_1.set i_.toNat s__e).set j_.toNat s__e1), w64 (i_ + 1), w64 (j_ - 1)) hl1 [Hq c0, Hn (rfl : some cv0 = some cv0), Hn (iL wB h0), Hs (iM wB h0), Hn (iL wB h1), Hs (iM wB h1), Hn (iL wB h2), Hs (iM wB h2), Hs (iM wB h2), Hl (sM wB s_1 i_ s__e), Hn (⟨rfl, rfl⟩ : T.d (.atom cv0) = T.d (.atom cv0) ∧ some cv0 = some cv0), Hn (iL wB h3), Hs (iM wB h3), Hs (iM wB h3), Hl (sM wB (s_1.set i_.toNat s__e) j_ s__e1)]
 ·obtain rfl := zm hf1
  obtain rfl := hl1
  obtain rfl := zm hf0
  exact yF X0 hC .normal [(0, .own (eOs 4 false wB s_1))] [Hq c0] fun st0 h0 => hE _ st0 (.inl rfl) (z4f h0 ⟨⟨rfl, rfl⟩, trivial⟩)
def uV : Code := (Tryz.f44.body).getD .skip
def xa : yZ := spF (α := List z8) (ρ := List z8) 44 (fun x => [z3d x]) (fun r => z3B r) (fun x => yc x) [] (UQ)
theorem qg {ctr : Ctr} (hC : zW Tryz.prog ctr) : xa.Ok Tryz.prog := by
 refine ya ?_
 rintro s_ r0 hf0
 try unfold yc at hf0
 refine yO true [(2, none)] uV 9 Tryz.func44 fun E hE => ?_
 obtain ⟨g0, hf0⟩ := gdE hf0
 obtain rfl := zm hf0
 exact yE X0 hC hE [Ha (lnM wB s_), Ha (lnM wB s_), Hn (slB g0), Hn (slC g0), Hn (z3l wB g0), Ha (z9x 4 wB s_ 0 ((s_.length : Nat) : Int).toNat)]
def zV : Code := (Tryz.f12.body).getD .skip
def ul : yZ := spF (α := za) (ρ := List z8 × z7 × Int) 12 (fun x => [xj x]) (fun r => .tup [z3B r.1, Qx r.2.1, (eI .i64) r.2.2]) (fun x => wG x) [] (UQ)
abbrev XE : List (Nat × T) := [(3, .own (.box (.agg [eOs 1 true (eI .i64) [], eOs 1 true F2_ []])))]
abbrev XD (x_ : za) (r_1 : List zb × List (List z6) × Int) (by_ : List zl) (x69 : Int) : List (Nat × T) := [(1, .own (.box (xj x_))), (3, .own (.box (.agg [eOs 1 true (eI .i64) [], eOs 1 true F2_ []]))), (6, .d (eSl 24 false yV r_1.1)), (9, .own (eOs 5 true UY by_)), (67, .d (eSl 1 true wz r_1.2.1)), (68, .d (I ((r_1.2.1.length : Nat) : Int))), (69, .d (I x69))]
abbrev XC (x_ : za) (r_1 : List zb × List (List z6) × Int) (x69 : Int) (run : List z8) : List (Nat × T) := [(1, .own (.box (xj x_))), (3, .own (.box (.agg [eOs 1 true (eI .i64) [], eOs 1 true F2_ []]))), (6, .d (eSl 24 false yV r_1.1)), (15, .d (I x69)), (17, .own (eOs 4 false wB run))]
abbrev Xz (x_ : za) (r_1 : List zb × List (List z6) × Int) (by_ : List zl) (x69 : Int) (run1 : List z8) (n_ : Int) : List (Nat × T) := [(1, .own (.box (xj x_))), (3, .own (.box (.agg [eOs 1 true (eI .i64) [], eOs 1 true F2_ []]))), (6, .d (eSl 24 false yV r_1.1)), (9, .own (eOs 5 true UY by_)), (15, .d (I x69)), (17, .own (eOs 4 false wB run1)), (18, .d (I n_))]
abbrev XA (x_ : za) (r_1 : List zb × List (List z6) × Int) (by_ : List zl) (x69 : Int) : List (Nat × T) := [(1, .own (.box (xj x_))), (3, .own (.box (.agg [eOs 1 true (eI .i64) [], eOs 1 true F2_ []]))), (6, .d (eSl 24 false yV r_1.1)), (9, .own (eOs 5 true UY by_)), (67, .d (eSl 1 true wz r_1.2.1)), (68, .d (I ((r_1.2.1.length : Nat) : Int))), (69, .d (I x69))]
abbrev XF (x_ : za) (r_1 : List zb × List (List z6) × Int) (by_ : List zl) : List (Nat × T) := [(1, .own (.box (xj x_))), (3, .own (.box (.agg [eOs 1 true (eI .i64) [], eOs 1 true F2_ []]))), (6, .d (eSl 24 false yV r_1.1)), (7, .d (eSl 1 true wz r_1.2.1)), (9, .own (eOs 5 true UY by_))]
abbrev XB (x_ : za) (r_1 : List zb × List (List z6) × Int) (x40 : Int) (by_2 : List zl) (seen1 : Int) : List (Nat × T) := [(1, .own (.box (xj x_))), (3, .own (.box (.agg [eOs 1 true (eI .i64) [], eOs 1 true F2_ []]))), (6, .d (eSl 24 false yV r_1.1)), (7, .d (eSl 1 true wz r_1.2.1)), (9, .own (eOs 5 true UY by_2)), (10, .d (I seen1)), (38, .d (eSl 1 true wz r_1.2.1)), (39, .d (I ((r_1.2.1.length : Nat) : Int))), (40, .d (I x40))]
abbrev Xh (x_ : za) (r_1 : List zb × List (List z6) × Int) (x40 : Int) (u_3 : List z6) (x47 : Int) (by_4 : List zl) (seen3 : Int) : List (Nat × T) := [(1, .own (.box (xj x_))), (3, .own (.box (.agg [eOs 1 true (eI .i64) [], eOs 1 true F2_ []]))), (6, .d (eSl 24 false yV r_1.1)), (7, .d (eSl 1 true wz r_1.2.1)), (9, .own (eOs 5 true UY by_4)), (10, .d (I seen3)), (11, .d (I x40)), (38, .d (eSl 1 true wz r_1.2.1)), (39, .d (I ((r_1.2.1.length : Nat) : Int))), (40, .d (I x40)), (45, .d (eSl 5 true uR u_3)), (46, .d (I ((u_3.length : Nat) : Int))), (47, .d (I x47))]
abbrev Xx (x_ : za) (r_1 : List zb × List (List z6) × Int) (x40 : Int) (u_3 : List z6) (by_3 : List zl) (seen2 : Int) (x47 : Int) : List (Nat × T) := [(1, .own (.box (xj x_))), (3, .own (.box (.agg [eOs 1 true (eI .i64) [], eOs 1 true F2_ []]))), (6, .d (eSl 24 false yV r_1.1)), (7, .d (eSl 1 true wz r_1.2.1)), (9, .own (eOs 5 true UY by_3)), (10, .d (I seen2)), (11, .d (I x40)), (38, .d (eSl 1 true wz r_1.2.1)), (39, .d (I ((r_1.2.1.length : Nat) : Int))), (40, .d (I x40)), (45, .d (eSl 5 true uR u_3)), (46, .d (I ((u_3.length : Nat) : Int))), (47, .d (I x47))]
abbrev Xy (x_ : za) (r_1 : List zb × List (List z6) × Int) (by_1 : List zl) (seen : Int) (x40 : Int) : List (Nat × T) := [(1, .own (.box (xj x_))), (3, .own (.box (.agg [eOs 1 true (eI .i64) [], eOs 1 true F2_ []]))), (6, .d (eSl 24 false yV r_1.1)), (7, .d (eSl 1 true wz r_1.2.1)), (9, .own (eOs 5 true UY by_1)), (10, .d (I seen)), (38, .d (eSl 1 true wz r_1.2.1)), (39, .d (I ((r_1.2.1.length : Nat) : Int))), (40, .d (I x40))]
theorem V5 {ctr : Ctr} (hC : zW Tryz.prog ctr) (h0a : ctr.Has uz) (h0b : ctr.Has xX) (h0U : ctr.Has uj) (h0y : ctr.Has xa) (h0k : ctr.Has wD) : ul.Ok Tryz.prog := by
 refine ya ?_
 rintro x_ r0 hf0
 try unfold wG at hf0
 refine yO false [(2, none), (3, some 39), (4, none)] zV 113 Tryz.func12 fun E hE => ?_
 obtain ⟨r_, h0, hf0⟩ := zq hf0
 let Z0 : List HO := [Hc h0a (x := x_) h0 (loC xj x_ <| loN)]
 rcases y9 hf0 with ⟨c0, hf0⟩ | ⟨c0, hf0⟩
 ·obtain rfl := zm hf0
  exact yEx X0 hC hE (Z0 ++ [Hq c0, Hm (shM wB wB []), Hm (shM (eI .i64) (eI .i64) []), Hm (shM F2_ F2_ [])]) (.tup [eSl 4 true wB [], .agg [eSl 1 true (eI .i64) [], eSl 1 true F1_ []], I r_]) (show LeV (.tup [eSl 4 true wB [], .agg [eSl 1 true (eI .i64) [], eSl 1 true F1_ []], I r_]) (.tup [eSl 4 true wB ([] : List z8), .agg [eSl 1 true (eI .i64) [], eSl 1 true F1_ []], I r_]) from inferInstance)
 ·obtain ⟨r_1, h1, hf0⟩ := zq hf0
  let Z1 : List HO := (Z0 ++ [Hq c0, Hc h0b (x := x_) h1 (loC xj x_ <| loN)])
  rcases y9 hf0 with ⟨c1, hf0⟩ | ⟨c1, hf0⟩
  ·obtain rfl := zm hf0
   exact yEx X0 hC hE (Z1 ++ [Hq c1, Hm (shM wB wB []), Hm (shM (eI .i64) (eI .i64) []), Hm (shM F2_ F2_ [])]) (.tup [eSl 4 true wB [], .agg [eSl 1 true (eI .i64) [], eSl 1 true F1_ []], I r_1.2.2]) (show LeV (.tup [eSl 4 true wB [], .agg [eSl 1 true (eI .i64) [], eSl 1 true F1_ []], I r_1.2.2]) (.tup [eSl 4 true wB ([] : List z8), .agg [eSl 1 true (eI .i64) [], eSl 1 true F1_ []], I r_1.2.2]) from inferInstance)
  ·obtain ⟨g0, hf0⟩ := gdE hf0
   refine yJ X0 hC zV [1,1,1,1,1,1] [] [1,3,6,7,9] (fun z : List zl => ug x_ r_1 z = some r0) (fun z => XF x_ r_1 z) [(1, .own (.box (xj x_))), (3, .own (.box (.agg [eOs 1 true (eI .i64) [], eOs 1 true F2_ []]))), (6, .d (eSl 24 false yV r_1.1)), (7, .d (eSl 1 true wz r_1.2.1)), (9, .own (eOs 5 true UY (List.replicate ((r_1.1.length : Nat) : Int).toNat (zl.mk 0 (z8.mk 0 0 0 0))))), (10, .d (I 1))] (Z1 ++ [Hq c1, Ha (lnM yV r_1.1), Hn (rL g0), Ha (rM 5 UY ((r_1.1.length : Nat) : Int) (zl.mk 0 (z8.mk 0 0 0 0))), Hh (.cut 1)]) ?_ fun J1 hJ1 => ?_
   ·rintro by_ hf0
    unfold ug at hf0
    refine yJ X0 hC zV [1,1,1,1,1,1,1] [] [3] (fun z : Unit => j9 = some r0) (fun z => XE) [(1, .own (.box (xj x_))), (3, .own (.box (.agg [eOs 1 true (eI .i64) [], eOs 1 true F2_ []]))), (6, .d (eSl 24 false yV r_1.1)), (7, .d (eSl 1 true wz r_1.2.1)), (9, .own (eOs 5 true UY by_))] [Hh (.cut 0)] ?_ fun J2 hJ2 => ?_
    ·rintro ⟨⟩ hf0
     unfold j9 at hf0
     obtain rfl := zm hf0
     exact yEx X0 hC hE [Hm (shM wB wB []), Hm (shM (eI .i64) (eI .i64) []), Hm (shM F2_ F2_ [])] (.tup [eSl 4 true wB [], .agg [eSl 1 true (eI .i64) [], eSl 1 true F1_ []], I 7]) (show LeV (.tup [eSl 4 true wB [], .agg [eSl 1 true (eI .i64) [], eSl 1 true F1_ []], I 7]) (.tup [eSl 4 true wB ([] : List z8), .agg [eSl 1 true (eI .i64) [], eSl 1 true F1_ []], I 7]) from inferInstance)
    ·obtain ⟨t3, ht3, hf0⟩ := zq hf0
     refine yL X0 hC zV [1,1,1,1,1,1,1,2,1,0] [J2] (fun s => wU x_ r_1 by_ s) (fun x => XA x_ r_1 by_ x) 0 ht3  [Ha (lnM wz r_1.2.1)] ?_
     rintro x69 m3 lr1 hf1 hl1 J3 hJ3
     try unfold wU at hf1
     rcases y9 hf1 with ⟨c2, hf1⟩ | ⟨c2, hf1⟩
     ·refine yJ X0 hC zV [1,1,1,1,1,1,1,2,1,0,0,1,1] [J2, J3] [1,3,6,9,67,68,69] (fun z : Unit => wV x69 = some lr1) (fun z => XD x_ r_1 by_ x69) [(1, .own (.box (xj x_))), (3, .own (.box (.agg [eOs 1 true (eI .i64) [], eOs 1 true F2_ []]))), (6, .d (eSl 24 false yV r_1.1)), (9, .own (eOs 5 true UY by_)), (67, .d (eSl 1 true wz r_1.2.1)), (68, .d (I ((r_1.2.1.length : Nat) : Int))), (69, .d (I x69))] [Hq c2, Hh (.cut 0)] ?_ fun J4 hJ4 => ?_
      ·rintro ⟨⟩ hf1
       unfold wV at hf1
       obtain rfl := zm hf1
       exact yB X0 hC hJ3 (w64 (x69 + 1)) hl1 []
      ·obtain ⟨u_, h2, hf1⟩ := zq hf1
       let Z2 : List HO := [Hi wz h2, Ha (lnM uR u_)]
       rcases y9 hf1 with ⟨c3, hf1⟩ | ⟨c3, hf1⟩
       ·exact yB X0 hC hJ4 () hf1 (Z2 ++ (rpN 7 (Hq c3) [qT]))
       ·obtain ⟨u_1, h3, hf1⟩ := zq hf1
        obtain ⟨r_2, h4, hf1⟩ := zq hf1
        let Z3 : List HO := (Z2 ++ (rpN 4 (Hq c3) [Hi yV h3, Hq c3, Hq c3, Hc h0U (x := (x_, u_1)) h4 (loC xj x_ <| loC yV u_1 <| loN), Hq c3]))
        rcases y9 hf1 with ⟨c4, hf1⟩ | ⟨c4, hf1⟩
        ·exact yB X0 hC hJ4 () hf1 (Z3 ++ [Hq c4])
        ·refine yJ X0 hC zV [1,1,1,1,1,1,1,2,1,0,0,1,1,2,0,1,1,1] [J2, J3, J4] [1,3,6,15,17] (fun z : List z8 => uf x_ r_1 x69 z = some lr1) (fun z => XC x_ r_1 x69 z) [(1, .own (.box (xj x_))), (3, .own (.box (.agg [eOs 1 true (eI .i64) [], eOs 1 true F2_ []]))), (6, .d (eSl 24 false yV r_1.1)), (9, .own (eOs 5 true UY by_)), (15, .d (I x69)), (17, .own (eOs 4 true wB []))] (Z3 ++ [Hq c4, Hh (.cut 1)]) ?_ fun J5 hJ5 => ?_
         ·rintro run hf1
          unfold uf at hf1
          refine yA X0 hC zV [1,1,1,1,1,1,1,2,1,0,0,1,1,2,0,1,1,1,1] [J2, J3, J4] [(1, .own (.box (xj x_))), (3, .own (.box (.agg [eOs 1 true (eI .i64) [], eOs 1 true F2_ []]))), (6, .d (eSl 24 false yV r_1.1)), (15, .d (I x69)), (17, .own (eOs 4 false wB run))] [Hh (.cut 0)] ?_
          obtain ⟨r_3, h5, hf1⟩ := zq hf1
          refine z1C (by kernel_rfl) (x := (sub [1,1,1,1,1,1,1,2,1,0,0,1,1,2,0,1,1,1,1,0] zV)) (y := (sub [1,1,1,1,1,1,1,2,1,0,0,1,1,2,0,1,1,1,1,1] zV)) 17 (fun st1 => Own.canon [1,3,6,15,17] st1 = ofL [(1, .own (.box (xj x_))), (3, .own (.box (.agg [eOs 1 true (eI .i64) [], eOs 1 true F2_ []]))), (6, .d (eSl 24 false yV r_1.1)), (15, .d (I x69)), (17, .own (eOs 4 false wB r_3))]) (fun pv17 => yF ((qJ (P := Tryz.prog) xS [17] (uu hC pv17 _ _ h5) 102).or X0) hC .normal [(1, .own (.box (xj x_))), (3, .own (.box (.agg [eOs 1 true (eI .i64) [], eOs 1 true F2_ []]))), (6, .d (eSl 24 false yV r_1.1)), (15, .d (I x69)), (17, .own (eOs 4 false wB r_3))] [Hn (YI (f := .fn 43 []) (xs := [.atom pv17]) (ls := [(pv17, eOs 4 false wB run)]) (r := .tup []) (ys := [eOs 4 false wB r_3]) [.atom pv17] (show KC [.atom pv17] [.atom pv17] from inferInstance))] fun st0 h0 => ⟨rfl, h0⟩) fun st1 h1 => z2r h1 ?_
          obtain ⟨r_4, h6, hf1⟩ := zq hf1
          obtain ⟨u_2, h7, hf1⟩ := zq hf1
          obtain ⟨r_5, h8, hf1⟩ := zq hf1
          obtain rfl := zm hf1
          obtain rfl := hl1
          obtain rfl := zm hf0
          exact yE X0 hC hE [Hg (z1L h0y), Hm (shM wB wB r_3), Hs (z1M h0y (x := r_3) h6 (loC z3d r_3 <| loN)), Hm (shM wB wB r_3), Hi yV h7, Hc h0k (x := (x_, u_2)) h8 (loC xj x_ <| loC yV u_2 <| loN)]
         ·obtain ⟨t6, ht6, hf1⟩ := zq hf1
          refine yLx X0 hC zV [1,1,1,1,1,1,1,2,1,0,0,1,1,2,0,1,1,1,2,1,0] [J2, J3, J4, J5] (fun s => wg by_ s.1 s.2) (fun x => Xz x_ r_1 by_ x69 x.1 x.2) (([] : List z8), x69) ht6 [(1, .own (.box (xj x_))), (3, .own (.box (.agg [eOs 1 true (eI .i64) [], eOs 1 true F2_ []]))), (6, .d (eSl 24 false yV r_1.1)), (9, .own (eOs 5 true UY by_)), (15, .d (I x69)), (17, .own (eOs 4 true wB [])), (18, .d (I x69))] inferInstance [] ?_
          rintro ⟨run1, n_⟩ m6 lr2 hf2 hl2 J6 hJ6
          try unfold wg at hf2
          rcases y9 hf2 with ⟨c5, hf2⟩ | ⟨c5, hf2⟩
          ·obtain ⟨by__e, h9, hf2⟩ := zq hf2
           obtain ⟨g1, hf2⟩ := gdE hf2
           obtain ⟨by__e1, h10, hf2⟩ := zq hf2
           obtain rfl := zm hf2
           exact yB X0 hC hJ6 ((run1 ++ ([by__e.move_] : List z8)), by__e1.from_) hl2 [Hq c5, Hn (iL UY h9), Hs (iM UY h9), Hs (iM UY h9), Hq (dM wB ([by__e.move_] : List z8)), Hn (dM wB ([by__e.move_] : List z8)), Hn (aL wB wB g1), Hl (aM wB run1 ([by__e.move_] : List z8)), Hn (iL UY h10), Hs (iM UY h10), Hs (iM UY h10)]
          ·obtain rfl := zm hf2
           obtain rfl := hl2
           exact yB X0 hC hJ5 run1 hf1 [Hq c5]
     ·obtain rfl := zm hf1
      obtain rfl := hl1
      exact yB X0 hC hJ2 () hf0 [Hq c2]
   ·obtain ⟨t7, ht7, hf0⟩ := zq hf0
    refine yL X0 hC zV [1,1,1,1,1,1,2,1,0] [J1] (fun s => we r_1 s.1 s.2.1 s.2.2) (fun x => Xy x_ r_1 x.1 x.2.1 x.2.2) ((List.replicate ((r_1.1.length : Nat) : Int).toNat (zl.mk 0 (z8.mk 0 0 0 0))), 1,0) ht7  [Ha (lnM wz r_1.2.1)] ?_
    rintro ⟨by_1, seen, x40⟩ m7 lr1 hf1 hl1 J7 hJ7
    try unfold we at hf1
    rcases y9 hf1 with ⟨c6, hf1⟩ | ⟨c6, hf1⟩
    ·refine yJ X0 hC zV [1,1,1,1,1,1,2,1,0,0,1,1] [J1, J7] [1,3,6,7,9,10,38,39,40] (fun z : List zl × Int => ue x40 z.1 z.2 = some lr1) (fun z => XB x_ r_1 x40 z.1 z.2) [(1, .own (.box (xj x_))), (3, .own (.box (.agg [eOs 1 true (eI .i64) [], eOs 1 true F2_ []]))), (6, .d (eSl 24 false yV r_1.1)), (7, .d (eSl 1 true wz r_1.2.1)), (9, .own (eOs 5 true UY by_1)), (10, .d (I seen)), (38, .d (eSl 1 true wz r_1.2.1)), (39, .d (I ((r_1.2.1.length : Nat) : Int))), (40, .d (I x40))] [Hq c6, Hh (.cut 0)] ?_ fun J8 hJ8 => ?_
     ·rintro ⟨by_2, seen1⟩ hf1
      unfold ue at hf1
      obtain rfl := zm hf1
      exact yB X0 hC hJ7 (by_2, seen1, w64 (x40 + 1)) hl1 []
     ·obtain ⟨u_3, h11, hf1⟩ := zq hf1
      obtain ⟨t9, ht9, hf1⟩ := zq hf1
      refine yL X0 hC zV [1,1,1,1,1,1,2,1,0,0,1,1,2,0,1,1,0] [J1, J7, J8] (fun s => wd x40 u_3 s.1 s.2.1 s.2.2) (fun x => Xx x_ r_1 x40 u_3 x.1 x.2.1 x.2.2) (by_1, seen, 0) ht9  [Hi wz h11, Ha (lnM uR u_3)] ?_
      rintro ⟨by_3, seen2, x47⟩ m9 lr2 hf2 hl2 J9 hJ9
      try unfold wd at hf2
      rcases y9 hf2 with ⟨c7, hf2⟩ | ⟨c7, hf2⟩
      ·refine yJ X0 hC zV [1,1,1,1,1,1,2,1,0,0,1,1,2,0,1,1,0,0,1,1] [J1, J7, J8, J9] [1,3,6,7,9,10,11,38,39,40,45,46,47] (fun z : List zl × Int => wM x47 z.1 z.2 = some lr2) (fun z => Xh x_ r_1 x40 u_3 x47 z.1 z.2) [(1, .own (.box (xj x_))), (3, .own (.box (.agg [eOs 1 true (eI .i64) [], eOs 1 true F2_ []]))), (6, .d (eSl 24 false yV r_1.1)), (7, .d (eSl 1 true wz r_1.2.1)), (9, .own (eOs 5 true UY by_3)), (10, .d (I seen2)), (11, .d (I x40)), (38, .d (eSl 1 true wz r_1.2.1)), (39, .d (I ((r_1.2.1.length : Nat) : Int))), (40, .d (I x40)), (45, .d (eSl 5 true uR u_3)), (46, .d (I ((u_3.length : Nat) : Int))), (47, .d (I x47))] [Hq c7, Hh (.cut 0)] ?_ fun J10 hJ10 => ?_
       ·rintro ⟨by_4, seen3⟩ hf2
        unfold wM at hf2
        obtain rfl := zm hf2
        exact yB X0 hC hJ9 (by_4, seen3, w64 (x47 + 1)) hl2 []
       ·obtain ⟨u__e, h12, hf2⟩ := zq hf2
        let Z4 : List HO := [Hi uR h12]
        rcases y9 hf2 with ⟨c8, hf2⟩ | ⟨c8, hf2⟩
        ·obtain ⟨by__e2, h13, hf2⟩ := zq hf2
         exact yB X0 hC hJ10 ((by_3.set u__e.To.toNat (zl.mk x40 u__e.Move)), w64 (seen2 + 1)) hf2 (Z4 ++ [Hq c8, Hn (iL UY h13), Hs (iM UY h13), Hs (iM UY h13), Hl (sM UY by_3 u__e.To (zl.mk x40 u__e.Move))])
        ·exact yB X0 hC hJ10 (by_3, seen2) hf2 (Z4 ++ [Hq c8])
      ·obtain rfl := zm hf2
       obtain rfl := hl2
       exact yB X0 hC hJ8 (by_3, seen2) hf1 [Hq c7]
    ·obtain rfl := zm hf1
     obtain rfl := hl1
     exact yB X0 hC hJ1 by_1 hf0 [Hq c6]
def Yo : Code := (Tryz.f15.body).getD .skip
def ke : yZ := spF (α := List z8 × List z8) (ρ := Int) 15 (fun x => [z3B x.1, z3d x.2]) (fun r => (eI .i64) r) (fun x => jd x.1 x.2) [] (UP)
abbrev Ux : List (Nat × T) := []
abbrev Uw (a_ : List z8) (b_ : List z8) (i_ : Int) : List (Nat × T) := [(0, .d (eSl 4 true wB a_)), (1, .d (eSl 4 false wB b_)), (5, .d (I i_))]
theorem KK {ctr : Ctr} (hC : zW Tryz.prog ctr) : ke.Ok Tryz.prog := by
 refine ya ?_
 rintro ⟨a_, b_⟩ r0 hf0
 try unfold jd at hf0
 refine yO true [(4, none)] Yo 33 Tryz.func15 fun E hE => ?_
 let Z0 : List HO := [Ha (lnM wB a_), Ha (lnM wB b_)]
 rcases y9 hf0 with ⟨c0, hf0⟩ | ⟨c0, hf0⟩
 ·obtain rfl := zm hf0
  exact yE X0 hC hE (Z0 ++ (rpN 6 (Hq c0) [qT]))
 ·let Z1 : List HO := (Z0 ++ [Hq c0, Hq c0, Ha (lnM wB a_), Hq c0, Hq c0, Ha (lnM wB a_), Hq c0, Hq c0])
  rcases y9 hf0 with ⟨c1, hf0⟩ | ⟨c1, hf0⟩
  ·obtain rfl := zm hf0
   exact yE X0 hC hE (Z1 ++ [Hq c1])
  ·refine yJ X0 hC Yo [1,1] [] [] (fun z : Unit => Yg = some r0) (fun z => Ux) [(0, .d (eSl 4 true wB a_)), (1, .d (eSl 4 false wB b_))] (Z1 ++ [Hq c1, Hh (.cut 0)]) ?_ fun J1 hJ1 => ?_
   ·rintro ⟨⟩ hf0
    unfold Yg at hf0
    obtain rfl := zm hf0
    exact yE X0 hC hE []
   ·obtain ⟨t2, ht2, hf0⟩ := zq hf0
    refine yL X0 hC Yo [1,1,2,1,0] [J1] (fun s => qX a_ b_ s) (fun x => Uw a_ b_ x) 0 ht2  [] ?_
    rintro i_ m2 lr1 hf1 hl1 J2 hJ2
    try unfold qX at hf1
    let Z2 : List HO := [Ha (lnM wB a_)]
    rcases y9 hf1 with ⟨c2, hf1⟩ | ⟨c2, hf1⟩
    ·obtain ⟨a__e, h0, hf1⟩ := zq hf1
     obtain ⟨b__e, h1, hf1⟩ := zq hf1
     let Z3 : List HO := (Z2 ++ [Hq c2, Hi wB h0, Hi wB h1])
     rcases y9 hf1 with ⟨c3, hf1⟩ | ⟨c3, hf1⟩
     ·obtain rfl := zm hf1
      obtain rfl := hl1
      obtain rfl := zm hf0
      exact yE X0 hC hE (Z3 ++ [Hq c3])
     ·obtain rfl := zm hf1
      exact yB X0 hC hJ2 (w64 (i_ + 1)) hl1 (Z3 ++ [Hq c3])
    ·obtain rfl := zm hf1
     obtain rfl := hl1
     exact yB X0 hC hJ1 () hf0 (Z2 ++ [Hq c2])
def Wz : Code := (Tryz.f11.body).getD .skip
def Ya : yZ := spF (α := Unit) (ρ := Bool) 11 (fun x => []) (fun r => eB r) (fun x => k7) [] (fun _ _ _ => rfl)
theorem KL {ctr : Ctr} (hC : zW Tryz.prog ctr) (h00 : ctr.Has YM) (h0z : ctr.Has kG) (h02 : ctr.Has Zm) (h03 : ctr.Has YN) (h01 : ctr.Has Yb) (h0l : ctr.Has jE) (h0f : ctr.Has kH) (h0g : ctr.Has ul) (h04 : ctr.Has ke) (h05 : ctr.Has qr) : Ya.Ok Tryz.prog := by
 refine ya ?_
 rintro ⟨⟩ r0 hf0
 try unfold k7 at hf0
 refine yO true [(0, none)] Wz 166 Tryz.func11 fun E hE => ?_
 obtain ⟨r_, h0, hf0⟩ := zq hf0
 obtain ⟨r_1, h1, hf0⟩ := zq hf0
 obtain ⟨r_2, h2, hf0⟩ := zq hf0
 obtain ⟨r_3, h3, hf0⟩ := zq hf0
 obtain ⟨r_4, h4, hf0⟩ := zq hf0
 obtain ⟨r_5, h5, hf0⟩ := zq hf0
 obtain ⟨r_6, h6, hf0⟩ := zq hf0
 obtain ⟨r_7, h7, hf0⟩ := zq hf0
 obtain ⟨r_8, h8, hf0⟩ := zq hf0
 obtain ⟨r_9, h9, hf0⟩ := zq hf0
 obtain ⟨r_10, h10, hf0⟩ := zq hf0
 refine yA ((qJ (P := Tryz.prog) xS [] (lentCall (xx hC h00 (x := (1, ([(ze.mk 0 2 0 0 0)] : List ze))) h0)) 19).or X0) hC Wz [1,1,1,1,1,0] [] [(1, .own (.box (z7I r_))), (2, .d (eSl 2 true xM r_1.1)), (3, .d (eSl 1 true wz r_1.2.1)), (4, .d (I r_1.2.2)), (5, .own (eOs 2 true z7M ([r_2, r_3, r_4, r_5]))), (6, .own (eOs 1 true (eOs 5 true uR) ([[(z6.mk r_6 1)], [(z6.mk r_7 2), (z6.mk r_8 3)], [(z6.mk r_9 0)], [(z6.mk r_10 0)]])))] [Hm (shM vN vN ([(ze.mk 0 2 0 0 0)])), Hn (YI (f := .fn 37 []) (xs := [(eI .i64) 1, z3c ([(ze.mk 0 2 0 0 0)] : List ze)]) (ls := []) (r := .agg [I r_.Messages, I r_.Labels, eSl 1 true (eI .i64) r_.Channels, eSl 3 true z9G r_.Parts]) (ys := []) [(eI .i64) 1, z3c ([(ze.mk 0 2 0 0 0)] : List ze)] (show KC [(eI .i64) 1, z3c ([(ze.mk 0 2 0 0 0)] : List ze)] [(eI .i64) 1, z3c ([(ze.mk 0 2 0 0 0)] : List ze)] from inferInstance)), Hc h0z (x := r_) h1 (loC z7I r_ <| loN), Hc h02 (x := (0,0, [])) h2 (loC (eI .i64) 0 <| loC (eI .i64) 0 <| loC F1_ ([] : List Int) <| loN), Hg (z1L h02), Hm (shM (eI .i64) (eI .i64) ([0])), Hs (z1M h02 (x := (1,0, [0])) h3 (loC (eI .i64) 1 <| loC (eI .i64) 0 <| loC F1_ ([0] : List Int) <| loN)), Hm (shM (eI .i64) (eI .i64) ([0])), Hg (z1L h02), Hm (shM (eI .i64) (eI .i64) ([0])), Hs (z1M h02 (x := (0,0, [0])) h4 (loC (eI .i64) 0 <| loC (eI .i64) 0 <| loC F1_ ([0] : List Int) <| loN)), Hm (shM (eI .i64) (eI .i64) ([0])), Hc h02 (x := (1,0, [])) h5 (loC (eI .i64) 1 <| loC (eI .i64) 0 <| loC F1_ ([] : List Int) <| loN), Hc h03 (x := (0,0)) h6 (loC (eI .i64) 0 <| loC (eI .i64) 0 <| loN), Hc h03 (x := (0,1)) h7 (loC (eI .i64) 0 <| loC (eI .i64) 1 <| loN), Hc h03 (x := (1,0)) h8 (loC (eI .i64) 1 <| loC (eI .i64) 0 <| loN), Hc h03 (x := (1,0)) h9 (loC (eI .i64) 1 <| loC (eI .i64) 0 <| loN), Hc h03 (x := (0,1)) h10 (loC (eI .i64) 0 <| loC (eI .i64) 1 <| loN), Hh (.cut 1)] ?_
 rcases y9 hf0 with ⟨c0, hf0⟩ | ⟨c0, hf0⟩
 ·obtain rfl := zm hf0
  exact yE X0 hC hE (rpN 7 (Hq c0) [qT])
 ·obtain ⟨r_11, h11, hf0⟩ := zq hf0
  let Z0 : List HO := (rpN 5 (Hq c0) [Hm (shM z7M z7M ([r_2, r_3, r_4, r_5])), Hm (shM (eOs 5 true uR) wz ([[(z6.mk r_6 1)], [(z6.mk r_7 2), (z6.mk r_8 3)], [(z6.mk r_9 0)], [(z6.mk r_10 0)]])), Hn (YI (f := .fn 40 []) (xs := [z5o r_1.1, z2v r_1.2.1, z9t ([r_2, r_3, r_4, r_5] : List z7), z7L ([[(z6.mk r_6 1)], [(z6.mk r_7 2), (z6.mk r_8 3)], [(z6.mk r_9 0)], [(z6.mk r_10 0)]] : List (List z6))]) (ls := []) (r := I r_11) (ys := []) [z5o r_1.1, z2v r_1.2.1, zcv ([r_2, r_3, r_4, r_5] : List z7), z2v ([[(z6.mk r_6 1)], [(z6.mk r_7 2), (z6.mk r_8 3)], [(z6.mk r_9 0)], [(z6.mk r_10 0)]] : List (List z6))] (show KC [z5o r_1.1, z2v r_1.2.1, zcv ([r_2, r_3, r_4, r_5] : List z7), z2v ([[(z6.mk r_6 1)], [(z6.mk r_7 2), (z6.mk r_8 3)], [(z6.mk r_9 0)], [(z6.mk r_10 0)]] : List (List z6))] [z5o r_1.1, z2v r_1.2.1, z9t ([r_2, r_3, r_4, r_5] : List z7), z7L ([[(z6.mk r_6 1)], [(z6.mk r_7 2), (z6.mk r_8 3)], [(z6.mk r_9 0)], [(z6.mk r_10 0)]] : List (List z6))] from inferInstance)), Hq c0, Hq c0])
  rcases y9 hf0 with ⟨c1, hf0⟩ | ⟨c1, hf0⟩
  ·obtain rfl := zm hf0
   exact yE ((qJ (P := Tryz.prog) xS [] (lentCall (xx hC h01 (x := (r_1.1, r_1.2.1, ([r_2, r_3, r_4, r_5] : List z7), ([[(z6.mk r_6 1)], [(z6.mk r_7 2), (z6.mk r_8 3)], [(z6.mk r_9 0)], [(z6.mk r_10 0)]] : List (List z6)))) h11)) 55).or X0) hC hE (Z0 ++ [Hq c1])
  ·obtain ⟨r_12, h12, hf0⟩ := zq hf0
   obtain ⟨r_13, h13, hf0⟩ := zq hf0
   let Z1 : List HO := (Z0 ++ [Hq c1, Hc h0l (x := (r_, [])) h12 (loC z7I r_ <| loC F1_ ([] : List Int) <| loN), Hg (z1L h0l), Hm (shM (eI .i64) (eI .i64) ([0])), Hs (z1M h0l (x := (r_, [0])) h13 (loC z7I r_ <| loC F1_ ([0] : List Int) <| loN)), Hm (shM (eI .i64) (eI .i64) ([0]))])
   rcases y9 hf0 with ⟨c2, hf0⟩ | ⟨c2, hf0⟩
   ·obtain rfl := zm hf0
    exact yE ((qJ (P := Tryz.prog) xS [] (lentCall (xx hC h01 (x := (r_1.1, r_1.2.1, ([r_2, r_3, r_4, r_5] : List z7), ([[(z6.mk r_6 1)], [(z6.mk r_7 2), (z6.mk r_8 3)], [(z6.mk r_9 0)], [(z6.mk r_10 0)]] : List (List z6)))) h11)) 55).or X0) hC hE (Z1 ++ (Hq c2 :: Hq c2 :: Hq c2 :: (rpN 10 qT [])))
   ·rcases y9 hf0 with ⟨c3, hf0⟩ | ⟨c3, hf0⟩
    ·obtain rfl := zm hf0
     exact yE ((qJ (P := Tryz.prog) xS [] (lentCall (xx hC h01 (x := (r_1.1, r_1.2.1, ([r_2, r_3, r_4, r_5] : List z7), ([[(z6.mk r_6 1)], [(z6.mk r_7 2), (z6.mk r_8 3)], [(z6.mk r_9 0)], [(z6.mk r_10 0)]] : List (List z6)))) h11)) 55).or X0) hC hE (Z1 ++ (Hq c2 :: Hq c2 :: Hq c2 :: (rpN 9 (Hq c3) [qT])))
    ·obtain ⟨r_14, h14, hf0⟩ := zq hf0
     obtain ⟨r_15, h15, hf0⟩ := zq hf0
     let Z2 : List HO := (Z1 ++ [Hq c2, Hq c2, Hq c2, Hq c3, Hq c3, Hq c3, Hg (z1L h0f), Hm (shM (eOs 3 true F8_) Vy ([[(zf.mk 0 0 1)], [(zf.mk 0 0 3), (zf.mk 2 0 2)], [(zf.mk 0 0 0)], [(zf.mk 2 0 0)]])), Hs (z1M h0f (x := (r_12.1, (zG.mk 0 1 ([[(zf.mk 0 0 1)], [(zf.mk 0 0 3), (zf.mk 2 0 2)], [(zf.mk 0 0 0)], [(zf.mk 2 0 0)]])))) h14 (loC (wY (eI .i64) (eI .i64) zcw) r_12.1 <| loC (wY (eI .i64) (eI .i64) (eSl 1 true Vy)) (zG.mk 0 1 ([[(zf.mk 0 0 1)], [(zf.mk 0 0 3), (zf.mk 2 0 2)], [(zf.mk 0 0 0)], [(zf.mk 2 0 0)]])) <| loN)), Hq c3, Hq c3, Hq c3, Hg (z1L h0f), Hm (shM (eOs 3 true F8_) Vy ([[(zf.mk 0 0 1)], [(zf.mk 0 0 2), (zf.mk 0 0 3)], [(zf.mk 0 0 0)], [(zf.mk 0 0 0)]])), Hs (z1M h0f (x := (r_13.1, (zG.mk 0 1 ([[(zf.mk 0 0 1)], [(zf.mk 0 0 2), (zf.mk 0 0 3)], [(zf.mk 0 0 0)], [(zf.mk 0 0 0)]])))) h15 (loC (wY (eI .i64) (eI .i64) zcw) r_13.1 <| loC (wY (eI .i64) (eI .i64) (eSl 1 true Vy)) (zG.mk 0 1 ([[(zf.mk 0 0 1)], [(zf.mk 0 0 2), (zf.mk 0 0 3)], [(zf.mk 0 0 0)], [(zf.mk 0 0 0)]])) <| loN)), Hq c3, Hq c3, Hq c3])
     rcases y9 hf0 with ⟨c4, hf0⟩ | ⟨c4, hf0⟩
     ·obtain rfl := zm hf0
      exact yE ((qJ (P := Tryz.prog) xS [] (lentCall (xx hC h01 (x := (r_1.1, r_1.2.1, ([r_2, r_3, r_4, r_5] : List z7), ([[(z6.mk r_6 1)], [(z6.mk r_7 2), (z6.mk r_8 3)], [(z6.mk r_9 0)], [(z6.mk r_10 0)]] : List (List z6)))) h11)) 55).or X0) hC hE (Z2 ++ [Hq c4])
     ·obtain ⟨r_16, h16, hf0⟩ := zq hf0
      obtain ⟨r_17, h17, hf0⟩ := zq hf0
      obtain ⟨r_18, h18, hf0⟩ := zq hf0
      obtain ⟨r_19, h19, hf0⟩ := zq hf0
      obtain ⟨r_20, h20, hf0⟩ := zq hf0
      let Z3 : List HO := (Z2 ++ [Hq c4, Hc h0g (x := r_) h16 (loC z7I r_ <| loN), Hn (YI (f := .fn 37 []) (xs := [(eI .i64) 1, z3c ([] : List ze)]) (ls := []) (r := .agg [I r_17.Messages, I r_17.Labels, eSl 1 true (eI .i64) r_17.Channels, eSl 3 true z9G r_17.Parts]) (ys := []) [(eI .i64) 1, z3c ([] : List ze)] (show KC [(eI .i64) 1, z3c ([] : List ze)] [(eI .i64) 1, z3c ([] : List ze)] from inferInstance)), Hc h0g (x := r_17) h18 (loC z7I r_17 <| loN), Hm (shM vN vN ([(ze.mk 0 2 0 0 0)])), Hn (YI (f := .fn 37 []) (xs := [(eI .i64) 0, z3c ([(ze.mk 0 2 0 0 0)] : List ze)]) (ls := []) (r := .agg [I r_19.Messages, I r_19.Labels, eSl 1 true (eI .i64) r_19.Channels, eSl 3 true z9G r_19.Parts]) (ys := []) [(eI .i64) 0, z3c ([(ze.mk 0 2 0 0 0)] : List ze)] (show KC [(eI .i64) 0, z3c ([(ze.mk 0 2 0 0 0)] : List ze)] [(eI .i64) 0, z3c ([(ze.mk 0 2 0 0 0)] : List ze)] from inferInstance)), Hc h0z (x := r_19) h20 (loC z7I r_19 <| loN)])
      rcases y9 hf0 with ⟨c5, hf0⟩ | ⟨c5, hf0⟩
      ·obtain rfl := zm hf0
       exact yE ((qJ (P := Tryz.prog) xS [] (lentCall (xx hC h00 (x := (0, ([(ze.mk 0 2 0 0 0)] : List ze))) h19)) 122).or ((qJ (P := Tryz.prog) xS [] (lentCall (xx hC h00 (x := (1, ([] : List ze))) h17)) 114).or ((qJ (P := Tryz.prog) xS [] (lentCall (xx hC h01 (x := (r_1.1, r_1.2.1, ([r_2, r_3, r_4, r_5] : List z7), ([[(z6.mk r_6 1)], [(z6.mk r_7 2), (z6.mk r_8 3)], [(z6.mk r_9 0)], [(z6.mk r_10 0)]] : List (List z6)))) h11)) 55).or X0))) hC hE (Z3 ++ (Hq c5 :: Hq c5 :: Hq c5 :: (rpN 17 qT [])))
      ·rcases y9 hf0 with ⟨c6, hf0⟩ | ⟨c6, hf0⟩
       ·obtain rfl := zm hf0
        exact yE ((qJ (P := Tryz.prog) xS [] (lentCall (xx hC h00 (x := (0, ([(ze.mk 0 2 0 0 0)] : List ze))) h19)) 122).or ((qJ (P := Tryz.prog) xS [] (lentCall (xx hC h00 (x := (1, ([] : List ze))) h17)) 114).or ((qJ (P := Tryz.prog) xS [] (lentCall (xx hC h01 (x := (r_1.1, r_1.2.1, ([r_2, r_3, r_4, r_5] : List z7), ([[(z6.mk r_6 1)], [(z6.mk r_7 2), (z6.mk r_8 3)], [(z6.mk r_9 0)], [(z6.mk r_10 0)]] : List (List z6)))) h11)) 55).or X0))) hC hE (Z3 ++ (Hq c5 :: Hq c5 :: Hq c5 :: (rpN 7 (Hq c6) (rpN 10 qT []))))
       ·obtain ⟨r_21, h21, hf0⟩ := zq hf0
        obtain ⟨r_22, h22, hf0⟩ := zq hf0
        obtain ⟨r_23, h23, hf0⟩ := zq hf0
        let Z4 : List HO := (Z3 ++ [Hq c5, Hq c5, Hq c5, Hq c6, Hq c6, Hc h03 (x := (0,0)) h21 (loC (eI .i64) 0 <| loC (eI .i64) 0 <| loN), Hq c6, Hc h03 (x := (0,1)) h22 (loC (eI .i64) 0 <| loC (eI .i64) 1 <| loN), Hq c6, Hq c6, Hm (shM wB wB ([r_21, r_22])), Hn (YI (f := .fn 15 []) (xs := [z3B r_18.1, z3d ([r_21, r_22] : List z8)]) (ls := []) (r := I r_23) (ys := []) [z3B r_18.1, z3B ([r_21, r_22] : List z8)] (show KC [z3B r_18.1, z3B ([r_21, r_22] : List z8)] [z3B r_18.1, z3d ([r_21, r_22] : List z8)] from inferInstance)), Hq c6, Hq c6])
        rcases y9 hf0 with ⟨c7, hf0⟩ | ⟨c7, hf0⟩
        ·obtain rfl := zm hf0
         exact yE ((qJ (P := Tryz.prog) xS [] (lentCall (xx hC h04 (x := (r_18.1, ([r_21, r_22] : List z8))) h23)) 138).or ((qJ (P := Tryz.prog) xS [] (lentCall (xx hC h00 (x := (0, ([(ze.mk 0 2 0 0 0)] : List ze))) h19)) 122).or ((qJ (P := Tryz.prog) xS [] (lentCall (xx hC h00 (x := (1, ([] : List ze))) h17)) 114).or ((qJ (P := Tryz.prog) xS [] (lentCall (xx hC h01 (x := (r_1.1, r_1.2.1, ([r_2, r_3, r_4, r_5] : List z7), ([[(z6.mk r_6 1)], [(z6.mk r_7 2), (z6.mk r_8 3)], [(z6.mk r_9 0)], [(z6.mk r_10 0)]] : List (List z6)))) h11)) 55).or X0)))) hC hE (Z4 ++ (rpN 6 (Hq c7) (rpN 4 qT [])))
        ·obtain ⟨r_24, h24, hf0⟩ := zq hf0
         obtain ⟨r_25, h25, hf0⟩ := zq hf0
         let Z5 : List HO := (Z4 ++ [Hq c7, Hq c7, Hq c7, Hg (z1L h02), Hm (shM (eI .i64) (eI .i64) ([0])), Hs (z1M h02 (x := (0,0, [0])) h24 (loC (eI .i64) 0 <| loC (eI .i64) 0 <| loC F1_ ([0] : List Int) <| loN)), Hm (shM (eI .i64) (eI .i64) ([0])), Hq c7, Hc h05 (x := (r_18.2.1, r_24)) h25 (loC Qx r_18.2.1 <| loC z7M r_24 <| loN), Hq c7, Hq c7])
         rcases y9 hf0 with ⟨c8, hf0⟩ | ⟨c8, hf0⟩
         ·obtain rfl := zm hf0
          exact yE ((qJ (P := Tryz.prog) xS [] (lentCall (xx hC h04 (x := (r_18.1, ([r_21, r_22] : List z8))) h23)) 138).or ((qJ (P := Tryz.prog) xS [] (lentCall (xx hC h00 (x := (0, ([(ze.mk 0 2 0 0 0)] : List ze))) h19)) 122).or ((qJ (P := Tryz.prog) xS [] (lentCall (xx hC h00 (x := (1, ([] : List ze))) h17)) 114).or ((qJ (P := Tryz.prog) xS [] (lentCall (xx hC h01 (x := (r_1.1, r_1.2.1, ([r_2, r_3, r_4, r_5] : List z7), ([[(z6.mk r_6 1)], [(z6.mk r_7 2), (z6.mk r_8 3)], [(z6.mk r_9 0)], [(z6.mk r_10 0)]] : List (List z6)))) h11)) 55).or X0)))) hC hE (Z5 ++ [Hq c8, Hq c8, Hq c8, qT])
         ·rcases y9 hf0 with ⟨c9, hf0⟩ | ⟨c9, hf0⟩
          ·obtain rfl := zm hf0
           exact yE ((qJ (P := Tryz.prog) xS [] (lentCall (xx hC h04 (x := (r_18.1, ([r_21, r_22] : List z8))) h23)) 138).or ((qJ (P := Tryz.prog) xS [] (lentCall (xx hC h00 (x := (0, ([(ze.mk 0 2 0 0 0)] : List ze))) h19)) 122).or ((qJ (P := Tryz.prog) xS [] (lentCall (xx hC h00 (x := (1, ([] : List ze))) h17)) 114).or ((qJ (P := Tryz.prog) xS [] (lentCall (xx hC h01 (x := (r_1.1, r_1.2.1, ([r_2, r_3, r_4, r_5] : List z7), ([[(z6.mk r_6 1)], [(z6.mk r_7 2), (z6.mk r_8 3)], [(z6.mk r_9 0)], [(z6.mk r_10 0)]] : List (List z6)))) h11)) 55).or X0)))) hC hE (Z5 ++ [Hq c8, Hq c8, Hq c8, Hq c9])
          ·obtain ⟨r_26, h26, hf0⟩ := zq hf0
           obtain ⟨r_27, h27, hf0⟩ := zq hf0
           obtain ⟨r_28, h28, hf0⟩ := zq hf0
           obtain ⟨r_29, h29, hf0⟩ := zq hf0
           obtain rfl := zm hf0
           exact yE ((qJ (P := Tryz.prog) xS [] (lentCall (xx hC h01 (x := (r_20.1, r_20.2.1, ([r_26, r_27] : List z7), ([[(z6.mk (z8.mk 0 0 1 0) 1)], [(z6.mk r_28 0)]] : List (List z6)))) h29)) 164).or ((qJ (P := Tryz.prog) xS [] (lentCall (xx hC h04 (x := (r_18.1, ([r_21, r_22] : List z8))) h23)) 138).or ((qJ (P := Tryz.prog) xS [] (lentCall (xx hC h00 (x := (0, ([(ze.mk 0 2 0 0 0)] : List ze))) h19)) 122).or ((qJ (P := Tryz.prog) xS [] (lentCall (xx hC h00 (x := (1, ([] : List ze))) h17)) 114).or ((qJ (P := Tryz.prog) xS [] (lentCall (xx hC h01 (x := (r_1.1, r_1.2.1, ([r_2, r_3, r_4, r_5] : List z7), ([[(z6.mk r_6 1)], [(z6.mk r_7 2), (z6.mk r_8 3)], [(z6.mk r_9 0)], [(z6.mk r_10 0)]] : List (List z6)))) h11)) 55).or X0))))) hC hE (Z5 ++ [Hq c8, Hq c8, Hq c8, Hq c9, Hc h02 (x := (0,0, [])) h26 (loC (eI .i64) 0 <| loC (eI .i64) 0 <| loC F1_ ([] : List Int) <| loN), Hc h02 (x := (1,0, [])) h27 (loC (eI .i64) 1 <| loC (eI .i64) 0 <| loC F1_ ([] : List Int) <| loN), Hc h03 (x := (0,1)) h28 (loC (eI .i64) 0 <| loC (eI .i64) 1 <| loN), Hm (shM z7M z7M ([r_26, r_27])), Hm (shM (eOs 5 true uR) wz ([[(z6.mk (z8.mk 0 0 1 0) 1)], [(z6.mk r_28 0)]])), Hn (YI (f := .fn 40 []) (xs := [z5o r_20.1, z2v r_20.2.1, z9t ([r_26, r_27] : List z7), z7L ([[(z6.mk (z8.mk 0 0 1 0) 1)], [(z6.mk r_28 0)]] : List (List z6))]) (ls := []) (r := I r_29) (ys := []) [z5o r_20.1, z2v r_20.2.1, zcv ([r_26, r_27] : List z7), z2v ([[(z6.mk (z8.mk 0 0 1 0) 1)], [(z6.mk r_28 0)]] : List (List z6))] (show KC [z5o r_20.1, z2v r_20.2.1, zcv ([r_26, r_27] : List z7), z2v ([[(z6.mk (z8.mk 0 0 1 0) 1)], [(z6.mk r_28 0)]] : List (List z6))] [z5o r_20.1, z2v r_20.2.1, z9t ([r_26, r_27] : List z7), z7L ([[(z6.mk (z8.mk 0 0 1 0) 1)], [(z6.mk r_28 0)]] : List (List z6))] from inferInstance))])
def qI : Code := (Tryz.f13.body).getD .skip
def YK : yZ := spF (α := List (List z6)) (ρ := List (List z8)) 13 (fun x => [z7L x]) (fun r => (eOs 1 false KE) r) (fun x => Yv x) [] (UQ)
abbrev Qk (out : List (List z8)) : List (Nat × T) := [(3, .own (eOs 1 false KE out))]
abbrev Qj (steps : List (List z6)) (out1 : List (List z8)) (n_ : Int) (out2 : List (List z8)) : List (Nat × T) := [(0, .d (eSl 1 false ko steps)), (3, .own (eOs 1 false KE out2)), (4, .d (I n_)), (12, .d (I n_)), (14, .d (I ((out1.length : Nat) : Int))), (15, .d (B (decide (n_ < ((out1.length : Nat) : Int)))))]
abbrev Qi (steps : List (List z6)) (out1 : List (List z8)) (n_ : Int) (i_ : Int) (out4 : List (List z8)) : List (Nat × T) := [(0, .d (eSl 1 false ko steps)), (3, .own (eOs 1 false KE out4)), (4, .d (I n_)), (5, .d (I i_)), (12, .d (I n_)), (14, .d (I ((out1.length : Nat) : Int))), (15, .d (B (decide (n_ < ((out1.length : Nat) : Int)))))]
abbrev Qg (steps : List (List z6)) (out1 : List (List z8)) (n_ : Int) (out3 : List (List z8)) (i_ : Int) : List (Nat × T) := [(0, .d (eSl 1 false ko steps)), (3, .own (eOs 1 false KE out3)), (4, .d (I n_)), (5, .d (I i_)), (12, .d (I n_)), (14, .d (I ((out1.length : Nat) : Int))), (15, .d (B (decide (n_ < ((out1.length : Nat) : Int)))))]
abbrev Qh (steps : List (List z6)) (out1 : List (List z8)) (n_ : Int) : List (Nat × T) := [(0, .d (eSl 1 false ko steps)), (3, .own (eOs 1 false KE out1)), (4, .d (I n_))]
theorem z0x {ctr : Ctr} (hC : zW Tryz.prog ctr) : YK.Ok Tryz.prog := by
 refine ya ?_
 rintro steps r0 hf0
 try unfold Yv at hf0
 refine yO true [(2, none)] qI 59 Tryz.func13 fun E hE => ?_
 refine yJ X0 hC qI [1,1] [] [3] (fun z : List (List z8) => YX z = some r0) (fun z => Qk z) [(0, .d (eSl 1 false ko steps)), (3, .own (eOs 1 true (eOs 4 true wB) ([[]])))] [Hh (.cut 2)] ?_ fun J1 hJ1 => ?_
 ·rintro out hf0
  unfold YX at hf0
  obtain rfl := zm hf0
  exact yE X0 hC hE []
 ·obtain ⟨t2, ht2, hf0⟩ := zq hf0
  refine yLx X0 hC qI [1,1,2,1,0] [J1] (fun s => qC steps s.1 s.2) (fun x => Qh steps x.1 x.2) (([[]] : List (List z8)), 0) ht2 [(0, .d (eSl 1 false ko steps)), (3, .own (eOs 1 true (eOs 4 true wB) ([[]]))), (4, .d (I 0))] inferInstance [] ?_
  rintro ⟨out1, n_⟩ m2 lr1 hf1 hl1 J2 hJ2
  try unfold qC at hf1
  let Z0 : List HO := [Ha (lnM ko steps)]
  rcases y9 hf1 with ⟨c0, hf1⟩ | ⟨c0, hf1⟩
  ·let Z1 : List HO := (Z0 ++ [Hq c0, Hq c0, Hq c0, Ha (lnM KE out1), Hq c0, Hq c0])
   rcases y9 hf1 with ⟨c1, hf1⟩ | ⟨c1, hf1⟩
   ·refine yJ X0 hC qI [1,1,2,1,0,0,1] [J1, J2] [0,3,4,12,14,15] (fun z : List (List z8) => kW n_ z = some lr1) (fun z => Qj steps out1 n_ z) [(0, .d (eSl 1 false ko steps)), (3, .own (eOs 1 false KE out1)), (4, .d (I n_)), (12, .d (I n_)), (13, .als 3 [] 0 0), (14, .d (I ((out1.length : Nat) : Int))), (15, .d (B (decide (n_ < ((out1.length : Nat) : Int)))))] (Z1 ++ [Hq c1, Hh (.cut 0)]) ?_ fun J3 hJ3 => ?_
    ·rintro out2 hf1
     unfold kW at hf1
     obtain rfl := zm hf1
     exact yB X0 hC hJ2 (out2, w64 (n_ + 1)) hl1 []
    ·obtain ⟨t4, ht4, hf1⟩ := zq hf1
     refine yL X0 hC qI [1,1,2,1,0,0,1,2,0,1,0] [J1, J2, J3] (fun s => qB steps n_ s.1 s.2) (fun x => Qg steps out1 n_ x.1 x.2) (out1,0) ht4  [] ?_
     rintro ⟨out3, i_⟩ m4 lr2 hf2 hl2 J4 hJ4
     try unfold qB at hf2
     obtain ⟨step_e, h0, hf2⟩ := zq hf2
     let Z2 : List HO := [Hi ko h0, Ha (lnM uR step_e)]
     rcases y9 hf2 with ⟨c2, hf2⟩ | ⟨c2, hf2⟩
     ·refine yJ X0 hC qI [1,1,2,1,0,0,1,2,0,1,0,0,1] [J1, J2, J3, J4] [0,3,4,5,12,14,15] (fun z : List (List z8) => jL i_ z = some lr2) (fun z => Qi steps out1 n_ i_ z) [(0, .d (eSl 1 false ko steps)), (3, .own (eOs 1 false KE out3)), (4, .d (I n_)), (5, .d (I i_)), (12, .d (I n_)), (14, .d (I ((out1.length : Nat) : Int))), (15, .d (B (decide (n_ < ((out1.length : Nat) : Int)))))] (Z2 ++ [Hq c2, Hh (.cut 0)]) ?_ fun J5 hJ5 => ?_
      ·rintro out4 hf2
       unfold jL at hf2
       obtain rfl := zm hf2
       exact yB X0 hC hJ4 (out4, w64 (i_ + 1)) hl2 []
      ·obtain ⟨step_e1, h1, hf2⟩ := zq hf2
       obtain ⟨step_e_e, h2, hf2⟩ := zq hf2
       let Z3 : List HO := [Hi ko h1, Hi uR h2, Ha (lnM KE out3)]
       rcases y9 hf2 with ⟨c3, hf2⟩ | ⟨c3, hf2⟩
       ·obtain ⟨out_e, h3, hf2⟩ := zq hf2
        obtain ⟨g0, hf2⟩ := gdE hf2
        obtain ⟨step_e2, h4, hf2⟩ := zq hf2
        obtain ⟨step_e_e1, h5, hf2⟩ := zq hf2
        obtain ⟨g1, hf2⟩ := gdE hf2
        obtain ⟨g2, hf2⟩ := gdE hf2
        exact yB X0 hC hJ5 (out3 ++ ([(out_e ++ ([step_e_e1.Move] : List z8))] : List (List z8))) hf2 (Z3 ++ [Hq c3, Hn (iL KE h3), Hs (iM KE h3), Hs (iM KE h3), Hq (dM wB out_e), Hs (iM KE h3), Hn (dM wB out_e), Hn (aL wB wB g0), Hl (aM0 wB out_e), Hi ko h4, Hi uR h5, Hq (dM wB ([step_e_e1.Move] : List z8)), Hn (dM wB ([step_e_e1.Move] : List z8)), Hn (aL wB wB g1), Hl (aM wB out_e ([step_e_e1.Move] : List z8)), Hq (oC KE (out_e ++ ([step_e_e1.Move] : List z8)) []), Hn (aL KE KE g2), Hl (aM KE out3 ([(out_e ++ ([step_e_e1.Move] : List z8))] : List (List z8)))])
       ·exact yB X0 hC hJ5 out3 hf2 (Z3 ++ [Hq c3])
     ·obtain rfl := zm hf2
      obtain rfl := hl2
      exact yB X0 hC hJ3 out3 hf1 (Z2 ++ [Hq c2])
   ·obtain rfl := zm hf1
    obtain rfl := hl1
    exact yB X0 hC hJ1 out1 hf0 (Z1 ++ [Hq c1])
  ·obtain rfl := zm hf1
   obtain rfl := hl1
   exact yB X0 hC hJ1 out1 hf0 (Z0 ++ (rpN 5 (Hq c0) [qF]))
def W1 : Code := (Tryz.f21.body).getD .skip
def XL : yZ := spF (α := List Int × Int) (ρ := Int) 21 (fun x => [F2_ x.1, (eI .i64) x.2]) (fun r => (eI .i64) r) (fun x => XP x.1 x.2) [] (UP)
abbrev JS : List (Nat × T) := []
abbrev JR (l_ : List Int) (n_ : Int) (i_ : Int) : List (Nat × T) := [(0, .d (eSl 1 false (eI .i64) l_)), (1, .d (I n_)), (5, .d (I i_))]
theorem z1Q {ctr : Ctr} (hC : zW Tryz.prog ctr) : XL.Ok Tryz.prog := by
 refine ya ?_
 rintro ⟨l_, n_⟩ r0 hf0
 try unfold XP at hf0
 refine yO true [(4, none)] W1 18 Tryz.func21 fun E hE => ?_
 refine yJ X0 hC W1 [1] [] [] (fun z : Unit => XO = some r0) (fun z => JS) [(0, .d (eSl 1 false (eI .i64) l_)), (1, .d (I n_))] [Hh (.cut 1)] ?_ fun J1 hJ1 => ?_
 ·rintro ⟨⟩ hf0
  unfold XO at hf0
  obtain rfl := zm hf0
  exact yE X0 hC hE []
 ·obtain ⟨t2, ht2, hf0⟩ := zq hf0
  refine yL X0 hC W1 [1,2,1,0] [J1] (fun s => kr l_ n_ s) (fun x => JR l_ n_ x) 0 ht2  [] ?_
  rintro i_ m2 lr1 hf1 hl1 J2 hJ2
  try unfold kr at hf1
  rcases y9 hf1 with ⟨c0, hf1⟩ | ⟨c0, hf1⟩
  ·obtain ⟨l__e, h0, hf1⟩ := zq hf1
   let Z0 : List HO := [Ha (lnM (eI .i64) l_), Hq c0, Hi (eI .i64) h0]
   rcases y9 hf1 with ⟨c1, hf1⟩ | ⟨c1, hf1⟩
   ·obtain rfl := zm hf1
    obtain rfl := hl1
    obtain rfl := zm hf0
    exact yE X0 hC hE (Z0 ++ [Hq c1])
   ·obtain rfl := zm hf1
    exact yB X0 hC hJ2 (w64 (i_ + 1)) hl1 (Z0 ++ [Hq c1])
  ·obtain rfl := zm hf1
   obtain rfl := hl1
   exact yB X0 hC hJ1 () hf0 [Ha (lnM (eI .i64) l_), Hq c0]
def qZ : Code := (Tryz.f14.body).getD .skip
def Y6 : yZ := spF (α := za × z7) (ρ := Int) 14 (fun x => [xj x.1, xM x.2]) (fun r => (eI .i64) r) (fun x => Zq x.1 x.2) [] (UP)
abbrev Uc : List (Nat × T) := []
abbrev Ub (c_ : z7) (i_ : Int) : List (Nat × T) := [(3, .own (.box (xM c_))), (6, .d (I i_))]
abbrev Ud (c_ : z7) : List (Nat × T) := [(3, .own (.box (xM c_)))]
abbrev Ua (x_ : za) (c_ : z7) (i_1 : Int) : List (Nat × T) := [(2, .own (.box (xj x_))), (3, .own (.box (xM c_))), (5, .d (I i_1))]
theorem KG {ctr : Ctr} (hC : zW Tryz.prog ctr) (h0V : ctr.Has XL) : Y6.Ok Tryz.prog := by
 refine ya ?_
 rintro ⟨x_, c_⟩ r0 hf0
 try unfold Zq at hf0
 refine yO true [(4, none)] qZ 41 Tryz.func14 fun E hE => ?_
 refine yJ X0 hC qZ [1] [] [3] (fun z : Unit => qS c_ = some r0) (fun z => Ud c_) [(2, .own (.box (xj x_))), (3, .own (.box (xM c_)))] [Hh (.cut 1)] ?_ fun J1 hJ1 => ?_
 ·rintro ⟨⟩ hf0
  unfold qS at hf0
  refine yJ X0 hC qZ [1,1] [] [] (fun z : Unit => Yc = some r0) (fun z => Uc) [(3, .own (.box (xM c_)))] [Hh (.cut 0)] ?_ fun J2 hJ2 => ?_
  ·rintro ⟨⟩ hf0
   unfold Yc at hf0
   obtain rfl := zm hf0
   exact yE X0 hC hE []
  ·obtain ⟨t3, ht3, hf0⟩ := zq hf0
   refine yL X0 hC qZ [1,1,2,1,0] [J2] (fun s => qR c_ s) (fun x => Ub c_ x) 0 ht3  [] ?_
   rintro i_ m3 lr1 hf1 hl1 J3 hJ3
   try unfold qR at hf1
   let Z0 : List HO := [Ha (lnM F2_ c_.Queues)]
   rcases y9 hf1 with ⟨c0, hf1⟩ | ⟨c0, hf1⟩
   ·obtain ⟨Queue_e, h0, hf1⟩ := zq hf1
    let Z1 : List HO := (Z0 ++ [Hq c0, Hi F2_ h0, Ha (lnM (eI .i64) Queue_e)])
    rcases y9 hf1 with ⟨c1, hf1⟩ | ⟨c1, hf1⟩
    ·obtain rfl := zm hf1
     obtain rfl := hl1
     obtain rfl := zm hf0
     exact yE X0 hC hE (Z1 ++ [Hq c1])
    ·obtain rfl := zm hf1
     exact yB X0 hC hJ3 (w64 (i_ + 1)) hl1 (Z1 ++ [Hq c1])
   ·obtain rfl := zm hf1
    obtain rfl := hl1
    exact yB X0 hC hJ2 () hf0 (Z0 ++ [Hq c0])
 ·obtain ⟨t4, ht4, hf0⟩ := zq hf0
  refine yL X0 hC qZ [1,2,1,0] [J1] (fun s => qQ x_ c_ s) (fun x => Ua x_ c_ x) 0 ht4  [] ?_
  rintro i_1 m4 lr1 hf1 hl1 J4 hJ4
  try unfold qQ at hf1
  let Z2 : List HO := [Ha (lnM vb x_.Parts)]
  rcases y9 hf1 with ⟨c2, hf1⟩ | ⟨c2, hf1⟩
  ·obtain ⟨Part_e, h1, hf1⟩ := zq hf1
   obtain ⟨State_e, h2, hf1⟩ := zq hf1
   obtain ⟨r_, h3, hf1⟩ := zq hf1
   let Z3 : List HO := (Z2 ++ [Hq c2, Hi vb h1, Hi (eI .i64) h2, Hc h0V (x := (Part_e.Final, State_e)) h3 (loC F2_ Part_e.Final <| loC (eI .i64) State_e <| loN)])
   rcases y9 hf1 with ⟨c3, hf1⟩ | ⟨c3, hf1⟩
   ·obtain rfl := zm hf1
    obtain rfl := hl1
    obtain rfl := zm hf0
    exact yE X0 hC hE (Z3 ++ [Hq c3])
   ·obtain rfl := zm hf1
    exact yB X0 hC hJ4 (w64 (i_1 + 1)) hl1 (Z3 ++ [Hq c3])
  ·obtain rfl := zm hf1
   obtain rfl := hl1
   exact yB X0 hC hJ1 () hf0 (Z2 ++ [Hq c2])
def wF : Code := (Tryz.f3.body).getD .skip
def vT : yZ := spF (α := yf) (ρ := Bool) 3 (fun x => [JT x]) (fun r => eB r) (fun x => vt x) [] (UQ)
abbrev ZL (r_3 : List z8 × z7 × Int) : List (Nat × T) := [(6, .d (eSl 4 true wB r_3.1)), (7, .own (.box (Qx r_3.2.1))), (8, .d (I r_3.2.2))]
abbrev ZK (r_ : za) (r_1 : List z7 × List (List z6)) (r_3 : List z8 × z7 × Int) (r_4 : List (List z8)) (n_ : Int) : List (Nat × T) := [(3, .own (.box (z7H r_))), (4, .d (eSl 2 false xM r_1.1)), (5, .d (eSl 1 false ko r_1.2)), (6, .d (eSl 4 true wB r_3.1)), (7, .own (.box (Qx r_3.2.1))), (8, .d (I r_3.2.2)), (9, .d (eSl 1 false z3d r_4)), (10, .d (I n_))]
abbrev ZJ (r_ : za) (r_1 : List z7 × List (List z6)) (r_3 : List z8 × z7 × Int) (r_4 : List (List z8)) (n_ : Int) : List (Nat × T) := [(3, .own (.box (z7H r_))), (4, .d (eSl 2 false xM r_1.1)), (5, .d (eSl 1 false ko r_1.2)), (6, .d (eSl 4 true wB r_3.1)), (7, .own (.box (Qx r_3.2.1))), (8, .d (I r_3.2.2)), (9, .d (eSl 1 false z3d r_4)), (10, .d (I n_))]
theorem YG {ctr : Ctr} (hC : zW Tryz.prog ctr) (h0W : ctr.Has YO) (h0X : ctr.Has Y8) (h0m : ctr.Has Ya) (h0g : ctr.Has ul) (h0Y : ctr.Has YK) (h0Z : ctr.Has Y6) (h04 : ctr.Has ke) (h05 : ctr.Has qr) : vT.Ok Tryz.prog := by
 refine ya ?_
 rintro x_ r0 hf0
 try unfold vt at hf0
 refine yO true [(2, none)] wF 92 Tryz.func3 fun E hE => ?_
 obtain ⟨r_, h0, hf0⟩ := zq hf0
 obtain ⟨r_1, h1, hf0⟩ := zq hf0
 let Z0 : List HO := [Hc h0W (x := (yf.mk x_.Channels x_.Parts)) h0 (loC JT (yf.mk x_.Channels x_.Parts) <| loN), Hc h0X (x := (r_, 200)) h1 (loC z7H r_ <| loC (eI .i64) 200 <| loN), Ha (lnM xM r_1.1)]
 rcases y9 hf0 with ⟨c0, hf0⟩ | ⟨c0, hf0⟩
 ·obtain ⟨r_2, h2, hf0⟩ := zq hf0
  obtain rfl := zm hf0
  exact yE X0 hC hE (Z0 ++ [Hq c0, Hc h0m (x := ()) h2 (loN)])
 ·obtain ⟨r_3, h3, hf0⟩ := zq hf0
  obtain ⟨r_4, h4, hf0⟩ := zq hf0
  refine yJ X0 hC wF [1,1,1,1,1,1] [] [6,7,8] (fun z : Unit => vV r_3 = some r0) (fun z => ZL r_3) [(3, .own (.box (z7H r_))), (4, .d (eSl 2 false xM r_1.1)), (5, .d (eSl 1 false ko r_1.2)), (6, .d (eSl 4 true wB r_3.1)), (7, .own (.box (Qx r_3.2.1))), (8, .d (I r_3.2.2)), (9, .own (eOs 1 false KE r_4))] (Z0 ++ [Hq c0, Hc h0g (x := r_) h3 (loC z7H r_ <| loN), Hc h0Y (x := r_1.2) h4 (loC z7L r_1.2 <| loN), Hh (.cut 0)]) ?_ fun J1 hJ1 => ?_
  ·rintro ⟨⟩ hf0
   unfold vV at hf0
   rcases y9 hf0 with ⟨c1, hf0⟩ | ⟨c1, hf0⟩
   ·let Z1 : List HO := (Hq c1 :: Hq c1 :: Ha (lnM wB r_3.1) :: Hq c1 :: Hq c1 :: Hq c1 :: Ha (lnM (eI .i64) r_3.2.1.States) :: (rpN 4 (Hq c1) [Ha (lnM F1_ r_3.2.1.Queues), Hq c1, Hq c1, Hq c1]))
    rcases y9 hf0 with ⟨c2, hf0⟩ | ⟨c2, hf0⟩
    ·obtain ⟨r_5, h5, hf0⟩ := zq hf0
     obtain rfl := zm hf0
     exact yE X0 hC hE (Z1 ++ [Hq c2, Hc h0m (x := ()) h5 (loN), Hq c2])
    ·obtain rfl := zm hf0
     exact yE X0 hC hE (Z1 ++ [Hq c2, Hq c2])
   ·obtain rfl := zm hf0
    exact yE X0 hC hE (rpN 12 (Hq c1) [qF, qF])
  ·obtain ⟨t2, ht2, hf0⟩ := zq hf0
   refine yL X0 hC wF [1,1,1,1,1,1,2,1,0] [J1] (fun s => xI r_ r_1 r_3 r_4 s) (fun x => ZJ r_ r_1 r_3 r_4 x) 0 ht2  [Hh (.n 0 [9]), Hm (shM KE z3d r_4)] ?_
   rintro n_ m2 lr1 hf1 hl1 J2 hJ2
   try unfold xI at hf1
   let Z2 : List HO := [Ha (lnM xM r_1.1)]
   rcases y9 hf1 with ⟨c3, hf1⟩ | ⟨c3, hf1⟩
   ·refine yJ X0 hC wF [1,1,1,1,1,1,2,1,0,0,1] [J1, J2] [3,4,5,6,7,8,9,10] (fun z : Unit => xJ n_ = some lr1) (fun z => ZK r_ r_1 r_3 r_4 n_) [(3, .own (.box (z7H r_))), (4, .d (eSl 2 false xM r_1.1)), (5, .d (eSl 1 false ko r_1.2)), (6, .d (eSl 4 true wB r_3.1)), (7, .own (.box (Qx r_3.2.1))), (8, .d (I r_3.2.2)), (9, .d (eSl 1 false z3d r_4)), (10, .d (I n_))] (Z2 ++ [Hq c3, Hh (.cut 0)]) ?_ fun J3 hJ3 => ?_
    ·rintro ⟨⟩ hf1
     unfold xJ at hf1
     obtain rfl := zm hf1
     exact yB X0 hC hJ2 (w64 (n_ + 1)) hl1 []
    ·obtain ⟨u_, h6, hf1⟩ := zq hf1
     let Z3 : List HO := [Hi ko h6, Ha (lnM uR u_)]
     rcases y9 hf1 with ⟨c4, hf1⟩ | ⟨c4, hf1⟩
     ·obtain ⟨u_1, h7, hf1⟩ := zq hf1
      obtain ⟨r_6, h8, hf1⟩ := zq hf1
      let Z4 : List HO := (Z3 ++ (rpN 4 (Hq c4) [Hi xM h7, Hq c4, Hq c4, Hc h0Z (x := (r_, u_1)) h8 (loC z7H r_ <| loC xM u_1 <| loN), Hq c4, Hq c4]))
      rcases y9 hf1 with ⟨c5, hf1⟩ | ⟨c5, hf1⟩
      ·rcases y9 hf1 with ⟨c6, hf1⟩ | ⟨c6, hf1⟩
       ·obtain ⟨r__e, h9, hf1⟩ := zq hf1
        obtain ⟨r_7, h10, hf1⟩ := zq hf1
        let Z5 : List HO := (Z4 ++ (Hq c5 :: (rpN 4 (Hq c6) [Hi z3d h9, Hq c6, Hq c6, Hn (YI (f := .fn 15 []) (xs := [z3B r_3.1, z3d r__e]) (ls := []) (r := I r_7) (ys := []) [z3B r_3.1, z3d r__e] (show KC [z3B r_3.1, z3d r__e] [z3B r_3.1, z3d r__e] from inferInstance)), Hq c6, Hq c6])))
        rcases y9 hf1 with ⟨c7, hf1⟩ | ⟨c7, hf1⟩
        ·obtain ⟨u_2, h11, hf1⟩ := zq hf1
         obtain ⟨r_8, h12, hf1⟩ := zq hf1
         let Z6 : List HO := (Z5 ++ (rpN 4 (Hq c7) [Hi xM h11, Hq c7, Hq c7, Hc h05 (x := (r_3.2.1, u_2)) h12 (loC Qx r_3.2.1 <| loC xM u_2 <| loN), Hq c7, Hq c7]))
         rcases y9 hf1 with ⟨c8, hf1⟩ | ⟨c8, hf1⟩
         ·obtain ⟨r_9, h13, hf1⟩ := zq hf1
          obtain rfl := zm hf1
          obtain rfl := hl1
          obtain rfl := zm hf0
          exact yE ((qJ (P := Tryz.prog) xS [] (lentCall (xx hC h04 (x := (r_3.1, r__e)) h10)) 59).or X0) hC hE (Z6 ++ [Hq c8, Hc h0m (x := ()) h13 (loN), Hq c8])
         ·obtain rfl := zm hf1
          obtain rfl := hl1
          obtain rfl := zm hf0
          exact yE ((qJ (P := Tryz.prog) xS [] (lentCall (xx hC h04 (x := (r_3.1, r__e)) h10)) 59).or X0) hC hE (Z6 ++ [Hq c8, Hq c8])
        ·obtain rfl := zm hf1
         obtain rfl := hl1
         obtain rfl := zm hf0
         exact yE ((qJ (P := Tryz.prog) xS [] (lentCall (xx hC h04 (x := (r_3.1, r__e)) h10)) 59).or X0) hC hE (Z5 ++ (rpN 8 (Hq c7) [qF, qF]))
       ·obtain rfl := zm hf1
        obtain rfl := hl1
        obtain rfl := zm hf0
        exact yE X0 hC hE (Z4 ++ (Hq c5 :: (rpN 8 (Hq c6) (rpN 10 qF []))))
      ·exact yB X0 hC hJ3 () hf1 (Z4 ++ [Hq c5])
     ·exact yB X0 hC hJ3 () hf1 (Z3 ++ (rpN 8 (Hq c4) [qF]))
   ·obtain rfl := zm hf1
    obtain rfl := hl1
    exact yB X0 hC hJ1 () hf0 (Z2 ++ [Hq c3])
theorem xF {l : List yZ} {s : yZ} (h : ((l.map yZ.k).contains s.k) = false) : ∀ t ∈ l, t.k ≠ s.k := by
 intro t ht e
 have : (l.map yZ.k).contains s.k = true := by
  rw [List.contains_iff_mem, ← e]
  exact List.mem_map_of_mem ht
 rw [h] at this
 cases this
theorem zY {l : List yZ} {c : Ctr} (H : ∀ t ∈ l, c.Has t) (i : Nat) {s : yZ} (h : l[i]? = some s) : c.Has s := H _ (List.mem_of_getElem? h)
def L0 : List yZ := YO :: []
def L1 : List yZ := Y9 :: L0
def L2 : List yZ := YJ :: L1
def L3 : List yZ := Y7 :: L2
def L4 : List yZ := Zl :: L3
def L5 : List yZ := YL :: L4
def L6 : List yZ := qr :: L5
def L7 : List yZ := Y8 :: L6
def L8 : List yZ := YM :: L7
def L9 : List yZ := vn :: L8
def L10 : List yZ := jD :: L9
def L11 : List yZ := yC :: L10
def L12 : List yZ := yo :: L11
def L13 : List yZ := kF :: L12
def L14 : List yZ := vo :: L13
def L15 : List yZ := kU :: L14
def L16 : List yZ := qq :: L15
def L17 : List yZ := ui :: L16
def L18 : List yZ := jF :: L17
def L19 : List yZ := yS :: L18
def L20 : List yZ := yx :: L19
def L21 : List yZ := uz :: L20
def L22 : List yZ := uk :: L21
def L23 : List yZ := v7 :: L22
def L24 : List yZ := qK :: L23
def L25 : List yZ := qh :: L24
def L26 : List yZ := v6 :: L25
def L27 : List yZ := Y2 :: L26
def L28 : List yZ := x7 :: L27
def L29 : List yZ := xX :: L28
def L30 : List yZ := un :: L29
def L31 : List yZ := uO :: L30
def L32 : List yZ := wD :: L31
def L33 : List yZ := yR :: L32
def L34 : List yZ := kG :: L33
def L35 : List yZ := Zm :: L34
def L36 : List yZ := YN :: L35
def L37 : List yZ := Yb :: L36
def L38 : List yZ := j0 :: L37
def L39 : List yZ := Zn :: L38
def L40 : List yZ := ja :: L39
def L41 : List yZ := wr :: L40
def L42 : List yZ := jG :: L41
def L43 : List yZ := qM :: L42
def L44 : List yZ := jH :: L43
def L45 : List yZ := YP :: L44
def L46 : List yZ := qL :: L45
def L47 : List yZ := xm :: L46
def L48 : List yZ := xN :: L47
def L49 : List yZ := xE :: L48
def L50 : List yZ := jE :: L49
def L51 : List yZ := kH :: L50
def L52 : List yZ := um :: L51
def L53 : List yZ := vd :: L52
def L54 : List yZ := uj :: L53
def L55 : List yZ := xa :: L54
def L56 : List yZ := ul :: L55
def L57 : List yZ := ke :: L56
def L58 : List yZ := Ya :: L57
def L59 : List yZ := YK :: L58
def L60 : List yZ := XL :: L59
def L61 : List yZ := Y6 :: L60
def L62 : List yZ := vT :: L61
theorem ze7 : zK Tryz.prog L0 := ⟨fun _ hC H => z0B hC, xF (by kernel_rfl), trivial⟩
theorem ze6 : zK Tryz.prog L1 := ⟨fun _ hC H => KJ hC, xF (by kernel_rfl), ze7⟩
theorem ze5 : zK Tryz.prog L2 := ⟨fun _ hC H => z0v hC, xF (by kernel_rfl), ze6⟩
theorem ze4 : zK Tryz.prog L3 := ⟨fun _ hC H => KH hC (zY H 0 rfl), xF (by kernel_rfl), ze5⟩
theorem ze3 : zK Tryz.prog L4 := ⟨fun _ hC H => JY hC, xF (by kernel_rfl), ze4⟩
theorem ze2 : zK Tryz.prog L5 := ⟨fun _ hC H => z0y hC (zY H 0 rfl), xF (by kernel_rfl), ze3⟩
theorem ze1 : zK Tryz.prog L6 := ⟨fun _ hC H => z0w hC (zY H 0 rfl), xF (by kernel_rfl), ze2⟩
theorem ze0 : zK Tryz.prog L7 := ⟨fun _ hC H => KI hC (zY H 5 rfl) (zY H 3 rfl) (zY H 0 rfl), xF (by kernel_rfl), ze1⟩
theorem zdZ : zK Tryz.prog L8 := ⟨fun _ hC H => z0z hC, xF (by kernel_rfl), ze0⟩
theorem zdY : zK Tryz.prog L9 := ⟨fun _ hC H => VC hC, xF (by kernel_rfl), zdZ⟩
theorem zck : zK Tryz.prog L10 := ⟨fun _ hC H => VB hC, xF (by kernel_rfl), zdY⟩
theorem zcj : zK Tryz.prog L11 := ⟨fun _ hC H => u4 hC (zY H 0 rfl), xF (by kernel_rfl), zck⟩
theorem zci : zK Tryz.prog L12 := ⟨fun _ hC H => vC hC (zY H 0 rfl), xF (by kernel_rfl), zcj⟩
theorem zch : zK Tryz.prog L13 := ⟨fun _ hC H => QG hC (zY H 3 rfl) (zY H 0 rfl), xF (by kernel_rfl), zci⟩
theorem zcg : zK Tryz.prog L14 := ⟨fun _ hC H => VF hC, xF (by kernel_rfl), zch⟩
theorem zcf : zK Tryz.prog L15 := ⟨fun _ hC H => z0u hC, xF (by kernel_rfl), zcg⟩
theorem zce : zK Tryz.prog L16 := ⟨fun _ hC H => UZ hC (zY H 0 rfl), xF (by kernel_rfl), zcf⟩
theorem zcd : zK Tryz.prog L17 := ⟨fun _ hC H => Xn hC (zY H 1 rfl), xF (by kernel_rfl), zce⟩
theorem zcc : zK Tryz.prog L18 := ⟨fun _ hC H => VE hC (zY H 0 rfl), xF (by kernel_rfl), zcd⟩
theorem zcb : zK Tryz.prog L19 := ⟨fun _ hC H => uv hC (zY H 0 rfl), xF (by kernel_rfl), zcc⟩
theorem zca : zK Tryz.prog L20 := ⟨fun _ hC H => vO hC (zY H 0 rfl), xF (by kernel_rfl), zcb⟩
theorem zc9 : zK Tryz.prog L21 := ⟨fun _ hC H => QI hC (zY H 7 rfl) (zY H 6 rfl) (zY H 4 rfl) (zY H 0 rfl), xF (by kernel_rfl), zca⟩
theorem zc8 : zK Tryz.prog L22 := ⟨fun _ hC H => Xp hC, xF (by kernel_rfl), zc9⟩
theorem zc7 : zK Tryz.prog L23 := ⟨fun _ hC H => XJ hC, xF (by kernel_rfl), zc8⟩
theorem zc6 : zK Tryz.prog L24 := ⟨fun _ hC H => WB hC, xF (by kernel_rfl), zc7⟩
theorem zc5 : zK Tryz.prog L25 := ⟨fun _ hC H => Wj hC, xF (by kernel_rfl), zc6⟩
theorem zc4 : zK Tryz.prog L26 := ⟨fun _ hC H => XI hC (zY H 1 rfl) (zY H 0 rfl), xF (by kernel_rfl), zc5⟩
theorem zc3 : zK Tryz.prog L27 := ⟨fun _ hC H => z1R hC, xF (by kernel_rfl), zc4⟩
theorem zc2 : zK Tryz.prog L28 := ⟨fun _ hC H => qe hC, xF (by kernel_rfl), zc3⟩
theorem zc1 : zK Tryz.prog L29 := ⟨fun _ hC H => Xq hC (zY H 6 rfl) (zY H 5 rfl) (zY H 2 rfl) (zY H 1 rfl) (zY H 0 rfl), xF (by kernel_rfl), zc2⟩
theorem zc0 : zK Tryz.prog L30 := ⟨fun _ hC H => Xs hC, xF (by kernel_rfl), zc1⟩
theorem zbZ : zK Tryz.prog L31 := ⟨fun _ hC H => XK hC, xF (by kernel_rfl), zc0⟩
theorem zbY : zK Tryz.prog L32 := ⟨fun _ hC H => YF hC (zY H 1 rfl) (zY H 0 rfl), xF (by kernel_rfl), zbZ⟩
theorem zbX : zK Tryz.prog L33 := ⟨fun _ hC H => uc hC, xF (by kernel_rfl), zbY⟩
theorem zbW : zK Tryz.prog L34 := ⟨fun _ hC H => QH hC (zY H 12 rfl) (zY H 4 rfl) (zY H 1 rfl) (zY H 0 rfl), xF (by kernel_rfl), zbX⟩
theorem zbV : zK Tryz.prog L35 := ⟨fun _ hC H => JZ hC, xF (by kernel_rfl), zbW⟩
theorem zbU : zK Tryz.prog L36 := ⟨fun _ hC H => z0A hC, xF (by kernel_rfl), zbV⟩
theorem zbT : zK Tryz.prog L37 := ⟨fun _ hC H => KM hC (zY H 30 rfl), xF (by kernel_rfl), zbU⟩
theorem zbS : zK Tryz.prog L38 := ⟨fun _ hC H => QK hC, xF (by kernel_rfl), zbT⟩
theorem zbR : zK Tryz.prog L39 := ⟨fun _ hC H => K0 hC (zY H 0 rfl), xF (by kernel_rfl), zbS⟩
theorem zbQ : zK Tryz.prog L40 := ⟨fun _ hC H => V6 hC, xF (by kernel_rfl), zbR⟩
theorem zbP : zK Tryz.prog L41 := ⟨fun _ hC H => kB hC (zY H 1 rfl) (zY H 0 rfl), xF (by kernel_rfl), zbQ⟩
theorem zbO : zK Tryz.prog L42 := ⟨fun _ hC H => VG hC, xF (by kernel_rfl), zbP⟩
theorem zbN : zK Tryz.prog L43 := ⟨fun _ hC H => WD hC (zY H 0 rfl), xF (by kernel_rfl), zbO⟩
theorem zbM : zK Tryz.prog L44 := ⟨fun _ hC H => VH hC (zY H 5 rfl), xF (by kernel_rfl), zbN⟩
theorem zbL : zK Tryz.prog L45 := ⟨fun _ hC H => z0C hC, xF (by kernel_rfl), zbM⟩
theorem zbK : zK Tryz.prog L46 := ⟨fun _ hC H => WC hC (zY H 2 rfl) (zY H 1 rfl) (zY H 0 rfl), xF (by kernel_rfl), zbL⟩
theorem zbJ : zK Tryz.prog L47 := ⟨fun _ hC H => qO hC, xF (by kernel_rfl), zbK⟩
theorem zbI : zK Tryz.prog L48 := ⟨fun _ hC H => jr hC, xF (by kernel_rfl), zbJ⟩
theorem zbH : zK Tryz.prog L49 := ⟨fun _ hC H => jh hC, xF (by kernel_rfl), zbI⟩
theorem zbG : zK Tryz.prog L50 := ⟨fun _ hC H => VD hC (zY H 28 rfl) (zY H 33 rfl) (zY H 20 rfl) (zY H 8 rfl) (zY H 3 rfl) (zY H 2 rfl) (zY H 1 rfl) (zY H 0 rfl), xF (by kernel_rfl), zbH⟩
theorem zbF : zK Tryz.prog L51 := ⟨fun _ hC H => QJ hC, xF (by kernel_rfl), zbG⟩
theorem zbE : zK Tryz.prog L52 := ⟨fun _ hC H => Xr hC, xF (by kernel_rfl), zbF⟩
theorem zbD : zK Tryz.prog L53 := ⟨fun _ hC H => Y5 hC (zY H 0 rfl), xF (by kernel_rfl), zbE⟩
theorem zbC : zK Tryz.prog L54 := ⟨fun _ hC H => Xo hC (zY H 0 rfl), xF (by kernel_rfl), zbD⟩
theorem zbB : zK Tryz.prog L55 := ⟨fun _ hC H => qg hC, xF (by kernel_rfl), zbC⟩
theorem zbA : zK Tryz.prog L56 := ⟨fun _ hC H => V5 hC (zY H 34 rfl) (zY H 26 rfl) (zY H 1 rfl) (zY H 0 rfl) (zY H 23 rfl), xF (by kernel_rfl), zbB⟩
theorem zbz : zK Tryz.prog L57 := ⟨fun _ hC H => KK hC, xF (by kernel_rfl), zbA⟩
theorem zby : zK Tryz.prog L58 := ⟨fun _ hC H => KL hC (zY H 49 rfl) (zY H 23 rfl) (zY H 22 rfl) (zY H 21 rfl) (zY H 20 rfl) (zY H 7 rfl) (zY H 6 rfl) (zY H 1 rfl) (zY H 0 rfl) (zY H 51 rfl), xF (by kernel_rfl), zbz⟩
theorem zbx : zK Tryz.prog L59 := ⟨fun _ hC H => z0x hC, xF (by kernel_rfl), zby⟩
theorem zbw : zK Tryz.prog L60 := ⟨fun _ hC H => z1Q hC, xF (by kernel_rfl), zbx⟩
theorem zbv : zK Tryz.prog L61 := ⟨fun _ hC H => KG hC (zY H 0 rfl), xF (by kernel_rfl), zbw⟩
theorem zbu : zK Tryz.prog L62 := ⟨fun _ hC H => YG hC (zY H 61 rfl) (zY H 54 rfl) (zY H 3 rfl) (zY H 5 rfl) (zY H 2 rfl) (zY H 0 rfl) (zY H 4 rfl) (zY H 55 rfl), xF (by kernel_rfl), zbv⟩
theorem wR {x : Int} (h1 : -9223372036854775808 ≤ x) (h2 : x ≤ 9223372036854775807) : w64 x = x := by
 simp only [w64, IntKind.wrap, IntKind.bits, IntKind.signed]
 simp
 omega
section
variable {α β σ τ ρ : Type}
def Ret (x : Option α) (Q : α → Prop) : Prop := ∃ a, x = some a ∧ Q a
theorem Ret.eq {x : Option α} {a : α} (h : Ret x fun b => b = a) : x = some a := by
 obtain ⟨b, e, rfl⟩ := h
 exact e
theorem wQ {a : α} {Q : α → Prop} : Ret (some a) Q ↔ Q a := ⟨fun ⟨b, e, q⟩ => by cases e; exact q, fun q => ⟨a, rfl, q⟩⟩
theorem gdT {p : Prop} [Decidable p] {x : Option α} (h : p) : gd p x = x := by unfold gd; rw [if_pos h]
theorem bdT {x : Option α} {u : α} {f : α → Option ρ} (h : x = some u) : Option.bind x f = f u := by rw [h]; rfl
theorem jg (step : σ → Option (LR σ τ)) (n : Nat) (s : σ) : Xt step (n + 1) s = (match step s with | none => none | some (.next s') => Xt step n s' | some (.done t) => some t) := rfl
def LRP (N : σ → Prop) (D : τ → Prop) : LR σ τ → Prop
 | .next s => N s
 | .done t => D t
theorem YT {step : σ → Option (LR σ τ)} (I : σ → Prop) (m : σ → Nat) {R : τ → Prop} {s : σ} (hs : I s) (hm : m s < 18446744073709551616)
  (h : ∀ s, I s → Ret (step s) (LRP (fun s' => I s' ∧ m s' < m s) R)) : Ret (loop step s) R := by
 have gen : ∀ (n : Nat) (s : σ), I s → m s < n → Ret (Xt step n s) R := by
  intro n
  induction n with
  | zero => intro s _ h; omega
  | succ n ih =>
   intro s hs hm
   obtain ⟨a, e, q⟩ := h s hs
   rw [jg, e]
   cases a with
   | next s' => exact ih s' q.1 (by have := q.2; omega)
   | done t => exact ⟨t, rfl, q⟩
 exact gen fuel s hs hm
theorem kX {step : σ → Option (LR σ τ)} (st : Nat → σ) (n : Nat) {t : τ} (hn : n < 9223372036854775808) (h : ∀ i, i < n → step (st i) = some (.next (st (i + 1)))) (hd : step (st n) = some (.done t)) : loop step (st 0) = some t := by
 have gen : ∀ (k : Nat) (i : Nat), i ≤ n → n - i < k → Xt step k (st i) = some t := by
  intro k
  induction k with
  | zero => intro i _ h; omega
  | succ k ih =>
   intro i hi hk
   rw [jg]
   rcases Nat.lt_or_ge i n with q | q
   ·rw [h i q]
    exact ih (i + 1) q (by omega)
   ·have : i = n := by omega
    subst this
    rw [hd]
 exact gen fuel 0 (Nat.zero_le _) (by show n - 0 < 18446744073709551616; omega)
def kP (f : Nat → α → Option ρ) : List α → Nat → Option ρ
 | [], _ => none
 | x :: l, i => match f i x with | some r => some r | none => kP f l (i + 1)
theorem JD {f : Nat → α → Option ρ} : ∀ {l : List α} {k : Nat}, (∀ i x, l[i]? = some x → f (k + i) x = none) → kP f l k = none
 | [], _, _ => rfl
 | x :: l, k, h => by
  have h0 := h 0 x rfl
  simp only [Nat.add_zero] at h0
  simp only [kP, h0]
  exact JD fun i y hy => by have := h (i + 1) y (by simpa using hy); rwa [show k + 1 + i = k + (i + 1) by omega]
theorem Zz {f : Nat → α → Option ρ} {r : ρ} : ∀ {l : List α} {k : Nat}, kP f l k = some r → ∃ i x, l[i]? = some x ∧ f (k + i) x = some r
 | [], _, h => by cases h
 | x :: l, k, h => by
  simp only [kP] at h
  cases hf : f k x with
  | some r' => rw [hf] at h; exact ⟨0, x, rfl, by rw [Nat.add_zero, hf]; exact h⟩
  | none =>
   rw [hf] at h
   obtain ⟨i, y, h1, h2⟩ := Zz h
   exact ⟨i + 1, y, by simpa using h1, by rw [← h2]; congr 1; omega⟩
theorem Zb {f : Nat → α → Option ρ} {l : List α} {k : Nat} (h : kP f l k = none) : ∀ i x, l[i]? = some x → f (k + i) x = none := by
 induction l generalizing k with
 | nil => intro i x h; simp at h
 | cons y l ih =>
  intro i x hx
  simp only [kP] at h
  cases hf : f k y with
  | some r' => rw [hf] at h; cases h
  | none =>
   rw [hf] at h
   cases i with
   | zero => simp at hx; subst hx; simpa using hf
   | succ i => have := ih h i x (by simpa using hx); rwa [show k + (i + 1) = k + 1 + i by omega]
def oS : Option ρ → Unit ⊕ ρ
 | some r => .inr r
 | none => .inl ()
def nS (i : Nat) : Option ρ → LR Int (Unit ⊕ ρ)
 | some r => .done (.inr r)
 | none => .next (w64 ((i : Int) + 1))
theorem Yy (l : List α) (hl : l.length < 4611686018427387904) {step : Int → Option (LR Int (Unit ⊕ ρ))} (f : Nat → α → Option ρ)
  (h : ∀ (i : Nat) (x : α), l[i]? = some x → step (i : Int) = some (nS i (f i x))) (h2 : step (l.length : Int) = some (.done (.inl ()))) :
  loop step 0 = some (oS (kP f l 0)) := by
 have gen : ∀ (n : Nat) (k : Nat), k ≤ l.length → l.length - k < n → Xt step n (k : Int) = some (oS (kP f (l.drop k) k)) := by
  intro n
  induction n with
  | zero => intro k _ h; omega
  | succ n ih =>
   intro k hk hn
   rw [jg]
   rcases Nat.lt_or_ge k l.length with hlt | hge
   ·have hx : l[k]? = some l[k] := List.getElem?_eq_getElem hlt
    rw [h k _ hx, List.drop_eq_getElem_cons hlt]
    simp only [kP]
    cases hf : f k l[k] with
    | some r => rfl
    | none =>
     simp only [nS]
     rw [wR (by omega) (by omega)]
     exact ih (k + 1) hlt (by omega)
   ·have : k = l.length := by omega
    subst this
    rw [h2, List.drop_length]
    rfl
 exact gen fuel 0 (Nat.zero_le _) (by show l.length - 0 < 18446744073709551616; omega)
end
theorem yk {α : Type} {l : List α} {i : Nat} {x : α} (h : l[i]? = some x) : idx l (i : Int) = some x := h
theorem x6 {α : Type} {l : List α} {i : Nat} {x : α} (h : l[i]? = some x) : i < l.length := (List.getElem?_eq_some_iff.1 h).1
section
variable {α β σ τ ρ : Type}
def nxt (f : σ → Option (LR τ ρ)) : LR σ ρ → Option (LR τ ρ)
 | .next s => f s
 | .done r => some (.done r)
def JC (g : Nat → α → σ → Option (LR σ ρ)) : List α → Nat → σ → Option (LR σ ρ)
 | [], _, s => some (.next s)
 | x :: l, k, s => Option.bind (g k x s) (nxt (JC g l (k + 1)))
def zeK (k : Nat) (fin : LR σ ρ → τ) : LR σ ρ → LR (σ × Int) τ
 | .next s => .next (s, w64 ((k : Int) + 1))
 | .done r => .done (fin (.done r))
theorem Wf (l : List α) (hl : l.length < 4611686018427387904) {step : σ × Int → Option (LR (σ × Int) τ)} (g : Nat → α → σ → Option (LR σ ρ)) (fin : LR σ ρ → τ) (s : σ)
  (h : ∀ (i : Nat) (x : α) (s : σ), l[i]? = some x → step (s, (i : Int)) = (g i x s).map (zeK i fin)) (h2 : ∀ s, step (s, (l.length : Int)) = some (.done (fin (.next s)))) :
  loop step (s, 0) = (JC g l 0 s).map fin := by
 have gen : ∀ (n : Nat) (k : Nat) (s : σ), k ≤ l.length → l.length - k < n → Xt step n (s, (k : Int)) = (JC g (l.drop k) k s).map fin := by
  intro n
  induction n with
  | zero => intro k s _ h; omega
  | succ n ih =>
   intro k s hk hn
   rw [jg]
   rcases Nat.lt_or_ge k l.length with hlt | hge
   ·have hx : l[k]? = some l[k] := List.getElem?_eq_getElem hlt
    rw [h k _ s hx, List.drop_eq_getElem_cons hlt]
    simp only [JC]
    cases hg : g k l[k] s with
    | none => rfl
    | some r =>
     cases r with
     | done r => rfl
     | next s' =>
      simp only [Option.map_some, zeK, oB, nxt]
      rw [wR (by omega) (by omega)]
      exact ih (k + 1) s' hlt (by omega)
   ·have : k = l.length := by omega
    subst this
    rw [h2, List.drop_length]
    rfl
 exact gen fuel 0 s (Nat.zero_le _) (by show l.length - 0 < 18446744073709551616; omega)
def uC (yy : σ → α → Option (σ × Bool)) : List α → σ → Option (LR σ σ)
 | [], s => some (.next s)
 | x :: l, s => Option.bind (yy s x) fun r => bif r.2 then uC yy l r.1 else some (.done r.1)
theorem US (yy : σ → α → Option (σ × Bool)) (l m : List α) (s : σ) : uC yy (l ++ m) s = Option.bind (uC yy l s) (nxt (uC yy m)) := by
 induction l generalizing s with
 | nil => rfl
 | cons x l ih =>
  simp only [List.cons_append, uC]
  cases yy s x with
  | none => rfl
  | some r =>
   simp only [oB]
   cases r.2 with
   | true => exact ih r.1
   | false => rfl
def uD (f : Nat → α → List β) : List α → Nat → List β
 | [], _ => []
 | x :: l, k => f k x ++ uD f l (k + 1)
theorem Ve {f : Nat → α → List β} {y : β} : ∀ {l : List α} {k : Nat}, y ∈ uD f l k ↔ ∃ i x, l[i]? = some x ∧ y ∈ f (k + i) x
 | [], k => by simp [uD]
 | x :: l, k => by
  rw [uD, List.mem_append, Ve (l := l)]
  constructor
  ·rintro (h | ⟨i, z, h1, h2⟩)
   ·exact ⟨0, x, rfl, h⟩
   ·exact ⟨i + 1, z, by simpa using h1, by rwa [show k + (i + 1) = k + 1 + i by omega]⟩
  ·rintro ⟨i, z, h1, h2⟩
   cases i with
   | zero => simp at h1; subst h1; exact .inl h2
   | succ i => exact .inr ⟨i, z, by simpa using h1, by rwa [show k + 1 + i = k + (i + 1) by omega]⟩
theorem Vk {f : Nat → α → List β} {b : Nat} : ∀ {l : List α} {k : Nat}, (∀ i x, l[i]? = some x → (f (k + i) x).length ≤ b) → (uD f l k).length ≤ l.length * b
 | [], k, _ => by simp [uD]
 | x :: l, k, h => by
  rw [uD, List.length_append, List.length_cons, Nat.succ_mul]
  have h1 := h 0 x rfl
  have h2 := Vk (f := f) (l := l) (k := k + 1) (b := b) fun i z hz => by
   have := h (i + 1) z (by simpa using hz)
   rwa [show k + 1 + i = k + (i + 1) by omega]
  simp only [Nat.add_zero] at h1
  omega
theorem Wh (yy : σ → β → Option (σ × Bool)) (f : Nat → α → List β) {g : Nat → α → σ → Option (LR σ σ)} :
  ∀ {l : List α} {k : Nat} {s : σ}, (∀ i x s, l[i]? = some x → g (k + i) x s = uC yy (f (k + i) x) s) → JC g l k s = uC yy (uD f l k) s
 | [], k, s, _ => rfl
 | x :: l, k, s, h => by
  rw [uD, US, JC]
  have h0 := h 0 x s rfl
  rw [Nat.add_zero] at h0
  rw [h0]
  congr 1
  funext r
  cases r with
  | done r => rfl
  | next s' =>
   exact Wh yy f fun i z s hz => by
    have := h (i + 1) z s (by simpa using hz)
    rwa [show k + (i + 1) = k + 1 + i by omega] at this
theorem z1u (yy : σ → β → Option (σ × Bool)) (f : α → List β) {step : σ → α → Option (LR σ σ)} :
  ∀ {l : List α} {s : σ}, (∀ x ∈ l, ∀ s, step s x = uC yy (f x) s) → uC (yOf step) l (.next s) = (uC yy (l.flatMap f) s).map (fun r => match r with | .next s => .next (.next s) | .done s => .done (.done s))
 | [], s, _ => rfl
 | x :: l, s, h => by
  rw [List.flatMap_cons, US, uC, yOf, h x List.mem_cons_self s]
  cases uC yy (f x) s with
  | none => rfl
  | some r =>
   cases r with
   | done r => rfl
   | next s' => exact z1u yy f fun z hz => h z (List.mem_cons_of_mem _ hz)
end
def InR (n many : Int) : Prop := 0 ≤ n ∧ n < many
instance (n many : Int) : Decidable (InR n many) := by unfold InR; infer_instance
structure zb9 (x : za) (st : Int) (a : ze) : Prop where
 fr : InR a.From st
 to : InR a.To st
 kind : 0 ≤ a.Kind ∧ a.Kind ≤ 2
 inner : a.Kind = 0 → a.Channel = 0 ∧ InR a.Message x.Labels
 other : a.Kind ≠ 0 → InR a.Channel x.Channels.length ∧ InR a.Message x.Messages
def Ris (l : List Int) (many : Int) : Prop := ∀ (i : Nat) (v : Int), l[i]? = some v → InR v many ∧ (0 < i → ∃ u, l[i - 1]? = some u ∧ u < v)
structure zds (x : za) (p : zh) : Prop where
 lo : 1 ≤ p.States
 hi : p.States ≤ 64
 arcs : p.Arcs.length ≤ 256
 ris : Ris p.Final p.States
 fin : p.Final.length ≤ 64
 arc : ∀ a ∈ p.Arcs, zb9 x p.States a
structure z3A (x : za) : Prop where
 msg : 0 ≤ x.Messages ∧ x.Messages ≤ 16
 lab : 0 ≤ x.Labels ∧ x.Labels ≤ 16
 chl : x.Channels.length ≤ 4
 ch : ∀ n ∈ x.Channels, 0 ≤ n ∧ n ≤ 4
 pl : 1 ≤ x.Parts.length ∧ x.Parts.length ≤ 4
 part : ∀ p ∈ x.Parts, zds x p
structure zb8 (x : za) (c : z7) : Prop where
 sl : c.States.length = x.Parts.length
 ql : c.Queues.length = x.Channels.length
 st : ∀ (i : Nat) (p : zh) (v : Int), x.Parts[i]? = some p → c.States[i]? = some v → InR v p.States
 qu : ∀ (i : Nat) (q : List Int) (n : Int), c.Queues[i]? = some q → x.Channels[i]? = some n → (q.length : Int) ≤ n ∧ ∀ m ∈ q, InR m x.Messages
theorem z09 {α ρ : Type} (l : List α) (hl : l.length < 4611686018427387904) {step : Int → Option (LR Int (Unit ⊕ ρ))} (h : ∀ (i : Nat) (x : α), l[i]? = some x → step (i : Int) = some (.next (w64 ((i : Int) + 1)))) (h2 : step (l.length : Int) = some (.done (.inl ()))) :
  loop step 0 = some (.inl ()) := by
 rw [Yy l hl (fun _ _ => (none : Option ρ)) (fun i x hx => h i x hx) h2, JD (fun _ _ _ => rfl)]
 rfl
theorem z4V {α : Type} {l : List α} (hl : l.length < 4611686018427387904) (p : α → Bool) {step : Int → Option (LR Int (Unit ⊕ Int))} {F : Unit ⊕ Int → Option Int} (hF1 : F (.inl ()) = some (-1)) (hF2 : ∀ n, F (.inr n) = some n)
  (h : ∀ (i : Nat) (x : α), l[i]? = some x → step (i : Int) = some (bif p x then .done (.inr (i : Int)) else .next (w64 ((i : Int) + 1)))) (h2 : step (l.length : Int) = some (.done (.inl ()))) :
  Option.bind (Option.bind (loop step 0) F) (fun r => some (decide (r ≥ 0))) = some (l.any p) := by
 rw [Yy l hl (fun i x => bif p x then some (i : Int) else none) (fun i x hx => by rw [h i x hx]; cases p x <;> rfl) h2]
 cases hf : kP (fun (i : Nat) x => bif p x then some (i : Int) else none) l 0 with
 | none =>
  have ha : l.any p = false := by
   rw [List.any_eq_false]
   intro x hx
   obtain ⟨i, hi⟩ := List.mem_iff_getElem?.1 hx
   have := Zb hf i x hi
   cases hp : p x with
   | false => simp
   | true => rw [hp] at this; cases this
  rw [ha]
  show Option.bind (F (.inl ())) _ = _
  rw [hF1]; rfl
 | some r =>
  obtain ⟨i, x, h1, h3⟩ := Zz hf
  have hp : p x = true := by
   cases hp : p x with
   | true => rfl
   | false => rw [hp] at h3; cases h3
  rw [hp] at h3
  cases h3
  have ha : l.any p = true := List.any_eq_true.2 ⟨x, List.mem_of_getElem? h1, hp⟩
  rw [ha]
  show Option.bind (F (.inr _)) _ = _
  rw [hF2]
  simp only [oB]
  rw [decide_eq_true (by omega)]
theorem zaV (l : List Int) (hl : l.length < 4611686018427387904) : yK l () = some (l.any fun n => decide (n > 4)) := by
 unfold yK xL
 refine z4V hl (fun n => decide (n > 4)) rfl (fun _ => rfl) (fun i x hx => ?_) ?_
 ·have hi := x6 hx
  unfold yH jt
  rw [decide_eq_true (by omega), cond_true, yk hx, oB, oB]
  cases decide (x > 4) <;> rfl
 ·unfold yH
  rw [decide_eq_false (by omega), cond_false]
theorem zdm (l : List zh) (hl : l.length < 4611686018427387904) : zP l () = some (l.any fun p => decide (p.States > 64) || decide ((p.Arcs.length : Int) > 256)) := by
 unfold zP yh
 refine z4V hl (fun p => decide (p.States > 64) || decide ((p.Arcs.length : Int) > 256)) rfl (fun _ => rfl) (fun i x hx => ?_) ?_
 ·have hi := x6 hx
  unfold zO js
  rw [decide_eq_true (by omega), cond_true, yk hx, oB]
  cases decide (x.States > 64) <;> cases decide ((x.Arcs.length : Int) > 256) <;> rfl
 ·unfold zO
  rw [decide_eq_false (by omega), cond_false]
theorem zaU (l : List Int) (hl : l.length < 4611686018427387904) : yI l () = some (l.any fun n => decide (n < 0)) := by
 unfold yI xK
 refine z4V hl (fun n => decide (n < 0)) rfl (fun _ => rfl) (fun i x hx => ?_) ?_
 ·have hi := x6 hx
  unfold yG jC
  rw [decide_eq_true (by omega), cond_true, yk hx, oB, oB]
  cases decide (x < 0) <;> rfl
 ·unfold yG
  rw [decide_eq_false (by omega), cond_false]
theorem z3v (n m : Int) : uH n m = some (decide (InR n m)) := by
 unfold uH
 by_cases h : n ≥ 0
 ·rw [decide_eq_true h, cond_true]
  exact congrArg some (decide_eq_decide.2 ⟨fun q => ⟨h, q⟩, fun q => q.2⟩)
 ·rw [decide_eq_false h, cond_false]
  exact congrArg some (decide_eq_false (fun q : InR n m => h q.1)).symm
def UK (x : za) (st : Int) (a : ze) : Bool :=
 decide (InR a.From st) && decide (InR a.To st) && decide (a.Kind ≤ 2) && bif a.Kind == 0 then (a.Channel == 0 && decide (InR a.Message x.Labels)) else (decide (InR a.Channel x.Channels.length) && decide (InR a.Message x.Messages))
theorem z6h (x : za) (p : zh) (a : ze) : wK x p a = some (UK x p.States a) := by
 unfold wK UK
 rw [z3v, z3v, z3v, z3v, z3v]
 have hk : decide (a.Kind ≤ 2) = !decide (a.Kind > 2) := by
  by_cases h : a.Kind ≤ 2
  ·rw [decide_eq_true h, decide_eq_false (by omega)]; rfl
  ·rw [decide_eq_false h, decide_eq_true (by omega)]; rfl
 rw [hk]
 cases decide (InR a.From p.States) <;> cases decide (InR a.To p.States) <;> cases decide (a.Kind > 2) <;> cases (a.Kind == 0) <;> cases (a.Channel == 0) <;> cases decide (InR a.Channel x.Channels.length) <;> rfl
theorem z3n {x : za} {st : Int} {a : ze} (h0 : 0 ≤ a.Kind) : UK x st a = true ↔ zb9 x st a := by
 unfold UK
 constructor
 ·intro h
  simp only [Bool.and_eq_true, decide_eq_true_eq] at h
  obtain ⟨⟨⟨h1, h2⟩, h3⟩, h4⟩ := h
  refine ⟨h1, h2, ⟨h0, h3⟩, fun q => ?_, fun q => ?_⟩
  ·rw [q] at h4; simpa using h4
  ·rw [beq_false_of_ne q, cond_false] at h4; simpa using h4
 ·intro h
  by_cases q : a.Kind = 0
  ·simp [h.fr, h.to, q, h.inner q]
  ·simp [h.fr, h.to, h.kind.2, q, h.other q]
theorem zdn (x : za) (p : zh) (l : List ze) (hl : l.length < 4611686018427387904) : zU l (x, p) = some (l.any fun a => !UK x p.States a) := by
 unfold zU yl
 refine z4V hl (fun a => !UK x p.States a) rfl (fun _ => rfl) (fun i a hx => ?_) ?_
 ·have hi := x6 hx
  unfold zT jB
  rw [decide_eq_true (by omega), cond_true, yk hx, oB, z6h, oB, oB]
  cases UK x p.States a <;> rfl
 ·unfold zT
  rw [decide_eq_false (by omega), cond_false]
theorem z42 {l : List Int} {many : Int} (hl : l.length ≤ 64) (h : Ris l many) : uG l many = some true := by
 unfold uG
 rw [bdT (z09 l (by omega) ?_ ?_)]
 ·rfl
 ·intro i v hv
  have hi := x6 hv
  obtain ⟨h1, h2⟩ := h i v hv
  unfold vP
  rw [decide_eq_true (by omega), cond_true, yk hv, oB, z3v, oB, decide_eq_true h1, Bool.not_true, cond_false]
  by_cases q : 0 < i
  ·obtain ⟨u, hu, hlt⟩ := h2 q
   rw [decide_eq_true (by omega), cond_true, wR (by omega) (by omega), show (i : Int) - 1 = ((i - 1 : Nat) : Int) by omega, yk hu, oB, decide_eq_false (by omega), cond_false]
   rfl
  ·rw [decide_eq_false (by omega), cond_false]
   rfl
 ·unfold vP
  rw [decide_eq_false (by omega), cond_false]
theorem z6X {x : za} (h : z3A x) : uh x = some 0 := by
 have habove : ju x = some false := by
  unfold ju
  have h1 := h.chl; have h2 := h.pl.2
  rw [decide_eq_false (by have := h.msg.2; omega), cond_false, decide_eq_false (by have := h.lab.2; omega), cond_false, decide_eq_false (by omega), cond_false, decide_eq_false (by omega), cond_false, zaV _ (by omega), zdm _ (by omega)]
  have e1 : (x.Channels.any fun n => decide (n > 4)) = false := List.any_eq_false.2 fun n hn => by have := h.ch n hn; simp; omega
  have e2 : (x.Parts.any fun p => decide (p.States > 64) || decide ((p.Arcs.length : Int) > 256)) = false := List.any_eq_false.2 fun p hp => by have q1 := (h.part p hp).hi; have q2 := (h.part p hp).arcs; simp; omega
  rw [e1, e2]
  rfl
 have e3 : (x.Channels.any fun n => decide (n < 0)) = false := List.any_eq_false.2 fun n hn => by have := h.ch n hn; simp; omega
 unfold uh
 rw [habove, oB, cond_false, decide_eq_false (by have := h.msg.1; omega), cond_false, decide_eq_false (by have := h.lab.1; omega), cond_false, decide_eq_false (by have := h.pl.1; omega), cond_false, zaU _ (by have := h.chl; omega), e3, oB, cond_false]
 rw [bdT (z09 x.Parts (by have := h.pl.2; omega) ?_ ?_)]
 ·rfl
 ·intro i p hp
  have hi := x6 hp
  have hv := h.part p (List.mem_of_getElem? hp)
  have e4 : (p.Arcs.any fun a => !UK x p.States a) = false := List.any_eq_false.2 fun a ha => by
   have := (z3n (hv.arc a ha).kind.1).2 (hv.arc a ha)
   simp [this]
  unfold uw
  rw [decide_eq_true (by omega), cond_true, yk hp, oB, decide_eq_false (by have := hv.lo; omega), cond_false, z42 hv.fin hv.ris, oB, Bool.not_true, cond_false, zdn _ _ _ (by have := hv.arcs; omega), e4, oB, cond_false]
 ·unfold uw
  rw [decide_eq_false (by omega), cond_false]
section
variable {α : Type}
theorem y8.ext_toL {a b : y8 α} (h : a.toL = b.toL) : a = b := by
 cases a; cases b; simp only [y8.toL, List.cons.injEq, and_true] at h; simp only [y8.mk.injEq]; exact h
theorem y8.toL_setI (a : y8 α) (i : Nat) (v : α) : (y8.setI a (i : Int) v).toL = a.toL.set i v := by
 unfold y8.setI
 rw [y8.toL_ofL _ _ (by rw [List.length_set]; rfl)]
 rfl
end
def z16 {α : Type} (z : α) (l : List α) : List α := l ++ List.replicate (4 - l.length) z
theorem z03 {α : Type} {z : α} {l : List α} (h : l.length ≤ 4) : (z16 z l).length = 4 := by
 rw [z16, List.length_append, List.length_replicate]; omega
theorem z4e {α : Type} {z : α} {l : List α} {i : Nat} {v : α} (h : l[i]? = some v) : (z16 z l)[i]? = some v := by
 rw [z16, List.getElem?_append_left (x6 h)]; exact h
theorem z2S {α : Type} {z : α} {l : List α} {i : Nat} {v : α} (h : i < l.length) : (z16 z l).set i v = z16 z (l.set i v) := by
 rw [z16, z16, List.set_append_left _ _ h, List.length_set]
theorem z15 {α : Type} {z : α} {l : List α} : (z16 z l).take l.length = l := by
 rw [z16, List.take_left]
def pad (l : List Int) : y8 Int := y8.ofL (z16 0 l) ⟨0, 0, 0, 0⟩
theorem Jk {l : List Int} (h : l.length ≤ 4) : (pad l).toL = z16 0 l := y8.toL_ofL _ _ (z03 h)
def qOf (l : List Int) : zi := ⟨l.length, pad l⟩
def Jm (l : List (List Int)) : y8 zi := y8.ofL (z16 (qOf []) (l.map qOf)) ⟨qOf [], qOf [], qOf [], qOf []⟩
theorem z02 {l : List (List Int)} (h : l.length ≤ 4) : (Jm l).toL = z16 (qOf []) (l.map qOf) := y8.toL_ofL _ _ (z03 (by simpa using h))
def y4 (c : z7) : zb := ⟨pad c.States, Jm c.Queues⟩
theorem z01 {l : List Int} {i : Nat} {v : Int} (h : l.length ≤ 4) (hi : i < l.length) : y8.setI (pad l) (i : Int) v = pad (l.set i v) := by
 apply y8.ext_toL
 rw [y8.toL_setI, Jk h, Jk (by rw [List.length_set]; exact h), z2S hi]
theorem z6o {l : List (List Int)} {i : Nat} {v : List Int} (h : l.length ≤ 4) (hi : i < l.length) : y8.setI (Jm l) (i : Int) (qOf v) = Jm (l.set i v) := by
 apply y8.ext_toL
 rw [y8.toL_setI, z02 h, z02 (by rw [List.length_set]; exact h), z2S (by simpa using hi), List.map_set]
theorem Jl {l : List Int} {i : Nat} {v : Int} (h : l.length ≤ 4) (hi : l[i]? = some v) : idx (pad l).toL (i : Int) = some v := by
 rw [Jk h]; exact z4e hi
theorem z4d {l : List (List Int)} {i : Nat} {v : List Int} (h : l.length ≤ 4) (hi : l[i]? = some v) : idx (Jm l).toL (i : Int) = some (qOf v) := by
 rw [z02 h]; exact z4e (by rw [List.getElem?_map, hi]; rfl)
theorem zan {l : List Int} (m : Int) (h : l.length < 4) : qp (qOf l) m = some (qOf (l ++ [m])) := by
 match l, h with
 | [], _ => rfl
 | [a], _ => rfl
 | [a, b], _ => rfl
 | [a, b, c], _ => rfl
theorem z5T {a : Int} {l : List Int} (h : l.length < 4) : uS (qOf (a :: l)) = some (qOf l) := by
 match l, h with
 | [], _ => rfl
 | [x], _ => rfl
 | [x, y], _ => rfl
 | [x, y, z], _ => rfl
theorem z36 {l : List Int} (h : l.length ≤ 4294967296) : w7 l = some l := by
 unfold w7
 rw [gdT (by simpa using h)]
theorem z4W {l : List Int} : wk l = some l := by
 unfold wk
 rw [gdT (by omega)]
 simp
theorem JJ {x : za} {c : z7} (hs : c.States.length = x.Parts.length) (hq : c.Queues.length = x.Channels.length) (h4 : x.Parts.length ≤ 4) (h5 : x.Channels.length ≤ 4) (hb : ∀ q ∈ c.Queues, q.length ≤ 4) :
  xe x (y4 c) = some c := by
 unfold xe
 have e1 : [(y4 c).states_.e0, (y4 c).states_.e1, (y4 c).states_.e2, (y4 c).states_.e3] = z16 0 c.States := Jk (by omega)
 rw [gdT (by simp; omega), e1, show (((x.Parts.length : Nat) : Int)).toNat = c.States.length by omega, z15, z36 (by omega), oB, z4W, oB, gdT (by omega)]
 have hl : loop (fun s => xc x (y4 c) s.1 s.2) ((List.replicate ((x.Channels.length : Nat) : Int).toNat ([] : List Int)), 0) = some c.Queues := by
  rw [show (((x.Channels.length : Nat) : Int)).toNat = c.Queues.length by omega]
  have e0 : List.replicate c.Queues.length ([] : List Int) = c.Queues.take 0 ++ List.replicate (c.Queues.length - 0) [] := by simp
  rw [e0]
  refine kX (fun j => (c.Queues.take j ++ List.replicate (c.Queues.length - j) [], (j : Int))) c.Queues.length (by omega) (fun j hj => ?_) ?_
  ·have hv : c.Queues[j]? = some c.Queues[j] := List.getElem?_eq_getElem hj
   have hlen : (c.Queues.take j).length = j := by rw [List.length_take]; omega
   have hql := hb _ (List.mem_of_getElem? hv)
   have e2 : [(qOf c.Queues[j]).l_.e0, (qOf c.Queues[j]).l_.e1, (qOf c.Queues[j]).l_.e2, (qOf c.Queues[j]).l_.e3] = z16 0 c.Queues[j] := Jk hql
   unfold xc
   dsimp only
   rw [decide_eq_true (by rw [List.length_replicate]; omega), cond_true]
   rw [show idx (y4 c).queues_.toL (j : Int) = some (qOf c.Queues[j]) from z4d (by omega) hv, oB]
   rw [e2]
   rw [show (qOf c.Queues[j]).many_ = ((c.Queues[j].length : Nat) : Int) from rfl]
   rw [gdT (show (0 : Int) ≤ ((c.Queues[j].length : Nat) : Int) ∧ ((c.Queues[j].length : Nat) : Int) ≤ (((z16 0 c.Queues[j]).length : Nat) : Int) by rw [z03 hql]; omega)]
   rw [Int.toNat_natCast, z15, z36 (by omega), oB, z4W, oB]
   have hi : idx (c.Queues.take j ++ List.replicate (c.Queues.length - j) ([] : List Int)) (j : Int) = some [] := by
    show (c.Queues.take j ++ List.replicate (c.Queues.length - j) ([] : List Int))[j]? = some []
    rw [List.getElem?_append_right (by omega), hlen, Nat.sub_self, List.getElem?_replicate, if_pos (by omega)]
   rw [hi, oB, wR (by omega) (by omega), Int.toNat_natCast]
   have : (c.Queues.take j ++ List.replicate (c.Queues.length - j) ([] : List Int)).set j c.Queues[j] = c.Queues.take (j + 1) ++ List.replicate (c.Queues.length - (j + 1)) [] := by
    rw [List.set_append_right _ _ (by omega), hlen, Nat.sub_self, show c.Queues.length - j = (c.Queues.length - (j + 1)) + 1 by omega, List.replicate_succ, List.set_cons_zero, List.take_add_one, hv, List.append_assoc]
    rfl
   rw [this]
   rfl
  ·unfold xc
   dsimp only
   rw [decide_eq_false (by rw [List.length_replicate]; omega), cond_false, List.take_length, Nat.sub_self]
   simp
 rw [bdT hl]
 rfl
def vz (l : List ze) (st : Int) : List (Int × ze) := uD (fun k a => if a.From = st then [((k : Int), a)] else []) l 0
theorem Yx {l : List ze} {st : Int} {e : Int × ze} : e ∈ vz l st ↔ ∃ k : Nat, e.1 = k ∧ l[k]? = some e.2 ∧ e.2.From = st := by
 unfold vz
 rw [Ve]
 constructor
 ·rintro ⟨i, a, h1, h2⟩
  rw [Nat.zero_add] at h2
  split at h2
  ·rename_i h
   simp at h2
   subst h2
   exact ⟨i, rfl, h1, h⟩
  ·simp at h2
 ·rintro ⟨k, h1, h2, h3⟩
  refine ⟨k, e.2, h2, ?_⟩
  rw [if_pos h3, Nat.zero_add, ← h1]
  simp
def stv (c : z7) (o : Nat) : Int := (c.States[o]?).getD 0
def two (c : z7) (p : Nat) (i : Int) (a : ze) (o : Nat) (kb : Int × ze) : List (z8 × z7) :=
 if kb.2.Kind = 2 ∧ kb.2.Channel = a.Channel ∧ kb.2.Message = a.Message then [(⟨p, i, o, kb.1⟩, ⟨(c.States.set p a.To).set o kb.2.To, c.Queues⟩)] else []
def Vh (x : za) (c : z7) (p : Nat) (i : Int) (a : ze) : List (z8 × z7) :=
 uD (fun o P => if o = p then [] else (vz P.Arcs (stv c o)).flatMap (two c p i a o)) x.Parts 0
def quv (c : z7) (a : ze) : List Int := (c.Queues[a.Channel.toNat]?).getD []
def rmv (x : za) (a : ze) : Int := (x.Channels[a.Channel.toNat]?).getD 0
def one (x : za) (c : z7) (p : Nat) (e : Int × ze) : List (z8 × z7) :=
 if e.2.Kind = 0 then [(⟨p, e.1, -1, -1⟩, ⟨c.States.set p e.2.To, c.Queues⟩)]
 else if rmv x e.2 = 0 then (if e.2.Kind = 1 then Vh x c p e.1 e.2 else [])
 else if e.2.Kind = 1 then (if ((quv c e.2).length : Int) < rmv x e.2 then [(⟨p, e.1, -1, -1⟩, ⟨c.States.set p e.2.To, c.Queues.set e.2.Channel.toNat (quv c e.2 ++ [e.2.Message])⟩)] else [])
 else (if (quv c e.2).head? = some e.2.Message then [(⟨p, e.1, -1, -1⟩, ⟨c.States.set p e.2.To, c.Queues.set e.2.Channel.toNat (quv c e.2).tail⟩)] else [])
def mvs (x : za) (c : z7) : List (z8 × z7) :=
 uD (fun p P => (vz P.Arcs (stv c p)).flatMap (one x c p)) x.Parts 0
section
variable {σ : Type}
def z3r : LR σ σ → σ
 | .next s => s
 | .done s => s
def zay : LR σ σ → σ ⊕ σ
 | .next s => .inl s
 | .done s => .inr s
def yeM (yy : σ → (z8 × zb) → Option (σ × Bool)) (s : σ) (m : z8 × z7) : Option (σ × Bool) := yy s (m.1, y4 m.2)
theorem z9a {x : za} {c : z7} {p : Nat} {P : zh} {st : Int} (h1 : x.Parts[p]? = some P) (h2 : c.States[p]? = some st) (h3 : P.Arcs.length ≤ 256) (h4 : c.States.length ≤ 4)
  (yy : σ → (Int × ze) → Option (σ × Bool)) (sg : σ) : yn x (p : Int) (y4 c) yy sg = (uC yy (vz P.Arcs st) sg).map z3r := by
 unfold yn
 rw [yk h1, oB]
 have hc : idx (y4 c).states_.toL (p : Int) = some st := Jl h4 h2
 rw [Wf P.Arcs (by omega) (g := fun k a s => if a.From = st then Option.bind (yy s ((k : Int), a)) (fun r => some (bif r.2 then .next r.1 else .done r.1)) else some (.next s)) z3r sg ?_ ?_]
 ·rw [Wh yy (fun k a => if a.From = st then [((k : Int), a)] else [])]
  ·unfold vz
   cases (uC yy (uD (fun k a => if a.From = st then [((k : Int), a)] else []) P.Arcs 0) sg) <;> rfl
  ·intro i a s ha
   rw [Nat.zero_add]
   split
   ·simp only [uC]
    cases yy s ((i : Int), a) with
    | none => rfl
    | some r => obtain ⟨r1, r2⟩ := r; cases r2 <;> rfl
   ·rfl
 ·intro i a s ha
  have hi := x6 ha
  unfold xG
  dsimp only
  rw [decide_eq_true (by omega), cond_true, yk ha, oB, hc, oB]
  by_cases q : a.From = st
  ·rw [q, beq_self_eq_true, cond_true, if_pos rfl]
   cases yy s ((i : Int), a) with
   | none => rfl
   | some r => obtain ⟨r1, r2⟩ := r; cases r2 <;> rfl
  ·rw [beq_false_of_ne q, cond_false, if_neg q]
   rfl
 ·intro s
  unfold xG
  dsimp only
  rw [decide_eq_false (by omega), cond_false]
  rfl
theorem z31 {α : Type} {x : za} {c : z7} {p : Nat} {P : zh} {st : Int} (h1 : x.Parts[p]? = some P) (h2 : c.States[p]? = some st) (h3 : P.Arcs.length ≤ 256) (h4 : c.States.length ≤ 4)
  (yy : σ → α → Option (σ × Bool)) (f : Int × ze → List α) {step : σ → Int × ze → Option (LR σ σ)} (sg : σ) (h : ∀ e ∈ vz P.Arcs st, ∀ s, step s e = uC yy (f e) s) :
  yn x (p : Int) (y4 c) (yOf step) (.next sg) = uC yy ((vz P.Arcs st).flatMap f) sg := by
 rw [z9a h1 h2 h3 h4, z1u yy f h]
 cases uC yy ((vz P.Arcs st).flatMap f) sg with
 | none => rfl
 | some r => cases r <;> rfl
theorem zda {c : z7} (yy : σ → (z8 × zb) → Option (σ × Bool)) {p o : Nat} (i k : Int) (a b : ze) (h4 : c.States.length ≤ 4) (hp : p < c.States.length) (ho : o < c.States.length) (sg : σ) :
  yX (y4 c) yy (p : Int) i a (o : Int) sg k b = uC (yeM yy) (two c p i a o (k, b)) sg := by
 unfold yX two
 by_cases q1 : b.Kind = 2
 ·rw [q1, bne_self_eq_false, cond_false]
  by_cases q2 : b.Channel = a.Channel
  ·rw [q2, bne_self_eq_false, cond_false]
   by_cases q3 : b.Message = a.Message
   ·rw [q3, bne_self_eq_false, cond_false, if_pos ⟨rfl, rfl, rfl⟩]
    have e1 : idx (y4 c).states_.toL (p : Int) = some c.States[p] := Jl h4 (List.getElem?_eq_getElem hp)
    have e2 : y8.setI (y4 c).states_ (p : Int) a.To = pad (c.States.set p a.To) := z01 h4 hp
    have e3 : idx (pad (c.States.set p a.To)).toL (o : Int) = some ((c.States.set p a.To)[o]'(by rw [List.length_set]; exact ho)) := Jl (by rw [List.length_set]; exact h4) (List.getElem?_eq_getElem _)
    have e4 : y8.setI (pad (c.States.set p a.To)) (o : Int) b.To = pad ((c.States.set p a.To).set o b.To) := z01 (by rw [List.length_set]; exact h4) (by rw [List.length_set]; exact ho)
    rw [e1, oB, oB, e2, e3, oB, oB, e4]
    simp only [uC, yeM]
    show Option.bind (yy sg (_, y4 ⟨(c.States.set p a.To).set o b.To, c.Queues⟩)) _ = _
    cases yy sg (⟨(p : Int), i, (o : Int), k⟩, y4 ⟨(c.States.set p a.To).set o b.To, c.Queues⟩) with
    | none => rfl
    | some r => obtain ⟨r1, r2⟩ := r; cases r2 <;> rfl
   ·rw [if_neg (fun q => q3 q.2.2), bne_iff_ne.2 q3 |> fun h => (h : (b.Message != a.Message) = true), cond_true]
    rfl
  ·rw [if_neg (fun q => q2 q.2.1), bne_iff_ne.2 q2 |> fun h => (h : (b.Channel != a.Channel) = true), cond_true]
   rfl
 ·rw [if_neg (fun q => q1 q.1), bne_iff_ne.2 q1 |> fun h => (h : (b.Kind != 2) = true), cond_true]
  rfl
structure MOk (x : za) (c : z7) : Prop where
 sys : z3A x
 cfg : zb8 x c
theorem MOk.s4 {x : za} {c : z7} (h : MOk x c) : c.States.length ≤ 4 := by have := h.cfg.sl; have := h.sys.pl; omega
theorem MOk.q4 {x : za} {c : z7} (h : MOk x c) : c.Queues.length ≤ 4 := by have := h.cfg.ql; have := h.sys.chl; omega
theorem MOk.qb {x : za} {c : z7} (h : MOk x c) : ∀ q ∈ c.Queues, q.length ≤ 4 := by
 intro q hq
 obtain ⟨i, hi⟩ := List.mem_iff_getElem?.1 hq
 have e0 := h.cfg.ql
 have e1 := x6 hi
 have hn : x.Channels[i]? = some (x.Channels[i]'(by omega)) := List.getElem?_eq_getElem _
 have h1 := (h.cfg.qu i q _ hi hn).1
 have h2 := h.sys.ch _ (List.mem_of_getElem? hn)
 omega
theorem MOk.stat {x : za} {c : z7} (h : MOk x c) {p : Nat} {P : zh} (hp : x.Parts[p]? = some P) : p < c.States.length ∧ c.States[p]? = some (stv c p) := by
 have hl : p < c.States.length := by have := x6 hp; have := h.cfg.sl; omega
 refine ⟨hl, ?_⟩
 unfold stv
 rw [List.getElem?_eq_getElem hl]
 rfl
theorem zd7 {x : za} {c : z7} (h : MOk x c) (yy : σ → (z8 × zb) → Option (σ × Bool)) {p : Nat} (i : Int) (a : ze) (hp : p < x.Parts.length) (sg : σ) :
  loop (fun s => yW x (y4 c) yy (p : Int) i a s.1 s.2) (sg, 0) = (uC (yeM yy) (Vh x c p i a) sg).map zay := by
 have hpl := h.sys.pl
 rw [Wf x.Parts (by omega) (g := fun o P s => uC (yeM yy) (if o = p then [] else (vz P.Arcs (stv c o)).flatMap (two c p i a o)) s) zay sg ?_ ?_]
 ·rw [Wh (yeM yy) (fun o P => if o = p then [] else (vz P.Arcs (stv c o)).flatMap (two c p i a o)) (fun _ _ _ _ => by rw [Nat.zero_add])]
  rfl
 ·intro o P s hP
  have ho := x6 hP
  unfold yW
  dsimp only
  rw [decide_eq_true (by omega), cond_true]
  by_cases q : o = p
  ·subst q
   rw [beq_self_eq_true, cond_true, if_pos rfl]
   rfl
  ·rw [beq_false_of_ne (by omega), cond_false, if_neg q]
   unfold wc
   rw [oB]
   dsimp only
   obtain ⟨h1, h2⟩ := h.stat hP
   rw [z31 hP h2 (h.sys.part P (List.mem_of_getElem? hP)).arcs h.s4 (yeM yy) (two c p i a o) s (fun e _ s' => zda yy i e.1 a e.2 h.s4 (by have := h.cfg.sl; omega) h1 s')]
   cases uC (yeM yy) ((vz P.Arcs (stv c o)).flatMap (two c p i a o)) s with
   | none => rfl
   | some r => cases r <;> rfl
 ·intro s
  unfold yW
  dsimp only
  rw [decide_eq_false (by omega), cond_false]
  rfl
theorem z3j {x : za} {c : z7} (h : MOk x c) {p : Nat} (hp : p < c.States.length) {a : ze} (hk : a.Kind = 0) (hc : a.Channel = 0) :
  xD x (y4 c) (p : Int) a = some (y4 ⟨c.States.set p a.To, c.Queues⟩, false) := by
 unfold xD
 have e1 : idx (y4 c).states_.toL (p : Int) = some c.States[p] := Jl h.s4 (List.getElem?_eq_getElem hp)
 have e2 : y8.setI (y4 c).states_ (p : Int) a.To = pad (c.States.set p a.To) := z01 h.s4 hp
 rw [e1, oB, oB, e2, hc, show idx (y8.toL (y4 c).queues_) (mn 0 3) = some (y4 c).queues_.e0 from rfl, oB, hk, beq_self_eq_true, cond_true]
 rfl
theorem MOk.chan {x : za} {c : z7} (h : MOk x c) {st : Int} {a : ze} (ha : zb9 x st a) (hk : a.Kind ≠ 0) : ∃ n : Nat, a.Channel = (n : Int) ∧ n < 4 ∧ c.Queues[n]? = some (quv c a) ∧ x.Channels[n]? = some (rmv x a) ∧ ((quv c a).length : Int) ≤ rmv x a ∧ rmv x a ≤ 4 := by
 have hr := (ha.other hk).1
 have hql := h.cfg.ql
 have hcl := h.sys.chl
 obtain ⟨r1, r2⟩ := hr
 have e1 : c.Queues[a.Channel.toNat]? = some (quv c a) := by
  unfold quv
  rw [List.getElem?_eq_getElem (by omega)]
  rfl
 have e2 : x.Channels[a.Channel.toNat]? = some (rmv x a) := by
  unfold rmv
  rw [List.getElem?_eq_getElem (by omega)]
  rfl
 refine ⟨a.Channel.toNat, by omega, by omega, e1, e2, (h.cfg.qu _ _ _ e1 e2).1, (h.sys.ch _ (List.mem_of_getElem? e2)).2⟩
theorem z3i {x : za} {c : z7} (h : MOk x c) {p : Nat} (hp : p < c.States.length) {st : Int} {a : ze} (ha : zb9 x st a) (hk : a.Kind ≠ 0) :
  xD x (y4 c) (p : Int) a = (if rmv x a = 0 then some (⟨pad (c.States.set p a.To), (y4 c).queues_⟩, true)
   else if a.Kind = 1 then (if ((quv c a).length : Int) < rmv x a then some (y4 ⟨c.States.set p a.To, c.Queues.set a.Channel.toNat (quv c a ++ [a.Message])⟩, false) else some (⟨pad (c.States.set p a.To), (y4 c).queues_⟩, true))
   else (if (quv c a).head? = some a.Message then some (y4 ⟨c.States.set p a.To, c.Queues.set a.Channel.toNat (quv c a).tail⟩, false) else some (⟨pad (c.States.set p a.To), (y4 c).queues_⟩, true))) := by
 obtain ⟨n, hn, hn4, e1, e2, hle, h4⟩ := h.chan ha hk
 unfold xD
 have e3 : idx (y4 c).states_.toL (p : Int) = some c.States[p] := Jl h.s4 (List.getElem?_eq_getElem hp)
 have e4 : y8.setI (y4 c).states_ (p : Int) a.To = pad (c.States.set p a.To) := z01 h.s4 hp
 have e5 : idx (y8.toL (y4 c).queues_) (n : Int) = some (qOf (quv c a)) := z4d h.q4 e1
 have e6 : mn (n : Int) 3 = n := by unfold mn; rw [if_neg (by omega)]
 have hset : ∀ q : List Int, y8.setI (y4 c).queues_ (n : Int) (qOf q) = Jm (c.Queues.set n q) := fun q => z6o h.q4 (x6 e1)
 rw [e3, oB, oB, e4, hn, e6, e5, oB, beq_false_of_ne hk, cond_false, yk e2, oB, Int.toNat_natCast]
 by_cases q0 : rmv x a = 0
 ·rw [q0, beq_self_eq_true, cond_true, if_pos rfl]
  rfl
 ·rw [beq_false_of_ne q0, cond_false, if_neg q0]
  by_cases q1 : a.Kind = 1
  ·rw [q1, beq_self_eq_true, cond_true, if_pos rfl, oB, show ((1 : Int) == 2) = false from rfl, cond_false]
   by_cases q2 : ((quv c a).length : Int) < rmv x a
   ·rw [if_pos q2, beq_false_of_ne (show (qOf (quv c a)).many_ ≠ rmv x a from by show ((quv c a).length : Int) ≠ _; omega), cond_false]
    unfold zR
    rw [cond_false, q1, beq_self_eq_true, cond_true, zan _ (by omega), oB, hn, e5, oB, oB, hset]
    rfl
   ·rw [if_neg q2, show ((qOf (quv c a)).many_ == rmv x a) = true from beq_iff_eq.2 (by show ((quv c a).length : Int) = _; omega), cond_true]
    rfl
  ·have q2 : a.Kind = 2 := by have := ha.kind; omega
   rw [beq_false_of_ne q1, cond_false, if_neg q1, q2, beq_self_eq_true, cond_true]
   cases hq : quv c a with
   | nil => rfl
   | cons m l =>
    rw [hq] at hle e5
    simp only [List.length_cons] at hle
    rw [show ((qOf (m :: l)).many_ == 0) = false from beq_false_of_ne (by show (((m :: l).length : Nat) : Int) ≠ 0; simp; omega), cond_false]
    have e7 : (qOf (m :: l)).l_.e0 = m := by
     have := Jl (l := m :: l) (i := 0) (v := m) (by simp; omega) rfl
     exact Option.some.inj this
    rw [e7]
    unfold zR
    by_cases q3 : m = a.Message
    ·rw [q3, bne_self_eq_false, cond_false, q2, show ((2 : Int) == 1) = false from rfl, cond_false, if_pos (show (a.Message :: l).head? = some a.Message from rfl)]
     rw [q3] at e5
     rw [z5T (by omega), oB, hn, e5, oB, oB, hset]
     rfl
    ·rw [show (m != a.Message) = true from bne_iff_ne.2 q3, cond_true, if_neg (show ¬(m :: l).head? = some a.Message from fun q => q3 (Option.some.inj q))]
theorem zdc {x : za} {c : z7} (h : MOk x c) (yy : σ → (z8 × zb) → Option (σ × Bool)) {p : Nat} (hp : p < x.Parts.length) (i : Int) {a : ze} {st : Int} (ha : zb9 x st a) (sg : σ) :
  yY x (y4 c) yy (p : Int) sg i a = uC (yeM yy) (one x c p (i, a)) sg := by
 have hps : p < c.States.length := by have := h.cfg.sl; omega
 have key : ∀ (m : z8) (to : z7), (Option.bind (yy sg (m, y4 to)) fun yr => bif !yr.2 then some (LR.done yr.1) else some (LR.next yr.1)) = uC (yeM yy) [(m, to)] sg := by
  intro m to
  simp only [uC, yeM]
  cases yy sg (m, y4 to) with
  | none => rfl
  | some r => obtain ⟨r1, r2⟩ := r; cases r2 <;> rfl
 unfold yY one JG
 by_cases q : a.Kind = 0
 ·rw [z3j h hps q (ha.inner q).1, oB, cond_true, oB, Bool.not_false, cond_true, if_pos q]
  exact key _ _
 ·rw [z3i h hps ha q, if_neg q]
  obtain ⟨n, hn, hn4, e1, e2, hle, h4⟩ := h.chan ha q
  have er : idx x.Channels a.Channel = some (rmv x a) := by rw [hn]; exact yk e2
  by_cases q0 : rmv x a = 0
  ·rw [if_pos q0, if_pos q0, oB, cond_true, oB, Bool.not_true, cond_false]
   by_cases q1 : a.Kind = 1
   ·rw [q1, bne_self_eq_false, cond_false, er, oB, decide_eq_false (by omega), cond_false, zd7 h yy i a hp]
    show _ = uC (yeM yy) (Vh x c p i a) sg
    cases uC (yeM yy) (Vh x c p i a) sg with
    | none => rfl
    | some r => cases r <;> rfl
   ·rw [show (a.Kind != 1) = true from bne_iff_ne.2 q1, cond_true, if_neg q1]
    rfl
  ·rw [if_neg q0, if_neg q0]
   by_cases q1 : a.Kind = 1
   ·rw [if_pos q1, if_pos q1]
    by_cases q2 : ((quv c a).length : Int) < rmv x a
    ·rw [if_pos q2, if_pos q2, oB, cond_true, oB, Bool.not_false, cond_true]
     exact key _ _
    ·rw [if_neg q2, if_neg q2, oB, cond_true, oB, Bool.not_true, cond_false, q1, bne_self_eq_false, cond_false, er, oB, decide_eq_true (by have : (0 : Int) ≤ (quv c a).length := Int.natCast_nonneg _; omega), cond_true]
     rfl
   ·rw [if_neg q1, if_neg q1]
    by_cases q2 : (quv c a).head? = some a.Message
    ·rw [if_pos q2, if_pos q2, oB, cond_true, oB, Bool.not_false, cond_true]
     exact key _ _
    ·rw [if_neg q2, if_neg q2, oB, cond_true, oB, Bool.not_true, cond_false, show (a.Kind != 1) = true from bne_iff_ne.2 q1, cond_true]
     rfl
theorem z6q {x : za} {c : z7} (h : MOk x c) (yy : σ → (z8 × zb) → Option (σ × Bool)) (sg : σ) :
  xv x (y4 c) yy sg = (uC (yeM yy) (mvs x c) sg).map z3r := by
 unfold xv
 have hpl := h.sys.pl
 rw [Wf x.Parts (by omega) (g := fun p P s => uC (yeM yy) ((vz P.Arcs (stv c p)).flatMap (one x c p)) s) z3r sg ?_ ?_]
 ·rw [Wh (yeM yy) (fun p P => (vz P.Arcs (stv c p)).flatMap (one x c p)) (fun _ _ _ _ => by rw [Nat.zero_add])]
  show Option.bind (Option.map z3r (uC (yeM yy) (mvs x c) sg)) _ = _
  cases uC (yeM yy) (mvs x c) sg <;> rfl
 ·intro p P s hP
  have hp := x6 hP
  obtain ⟨h1, h2⟩ := h.stat hP
  have hv := h.sys.part P (List.mem_of_getElem? hP)
  unfold xw wc
  dsimp only
  rw [decide_eq_true (by omega), cond_true, oB]
  rw [z31 hP h2 hv.arcs h.s4 (yeM yy) (one x c p) s (fun e he s' => by
   obtain ⟨k, _, hk, _⟩ := Yx.1 he
   exact zdc h yy hp e.1 (hv.arc e.2 (List.mem_of_getElem? hk)) s')]
  cases uC (yeM yy) ((vz P.Arcs (stv c p)).flatMap (one x c p)) s with
  | none => rfl
  | some r => cases r <;> rfl
 ·intro s
  unfold xw
  dsimp only
  rw [decide_eq_false (by omega), cond_false]
  rfl
end
def dst (c : z7) (p : Nat) (a : ze) : z7 :=
 if a.Kind = 0 then ⟨c.States.set p a.To, c.Queues⟩
 else if a.Kind = 1 then ⟨c.States.set p a.To, c.Queues.set a.Channel.toNat (quv c a ++ [a.Message])⟩
 else ⟨c.States.set p a.To, c.Queues.set a.Channel.toNat (quv c a).tail⟩
def can (x : za) (c : z7) (a : ze) : Prop :=
 a.Kind = 0 ∨ rmv x a ≠ 0 ∧ (a.Kind = 1 ∧ ((quv c a).length : Int) < rmv x a ∨ a.Kind ≠ 0 ∧ a.Kind ≠ 1 ∧ (quv c a).head? = some a.Message)
def zfc (c : z7) (p : Nat) (a : ze) (o : Nat) (b : ze) : z7 := ⟨(c.States.set p a.To).set o b.To, c.Queues⟩
theorem z8S {x : za} {c : z7} {p : Nat} {k : Int} {a : ze} {e : z8 × z7} : e ∈ one x c p (k, a) ↔
  (e = (⟨p, k, -1, -1⟩, dst c p a) ∧ can x c a) ∨ (a.Kind = 1 ∧ rmv x a = 0 ∧ ∃ (o : Nat) (Po : zh) (kk : Nat) (b : ze), o ≠ p ∧ x.Parts[o]? = some Po ∧ Po.Arcs[kk]? = some b ∧ b.From = stv c o ∧ (b.Kind = 2 ∧ b.Channel = a.Channel ∧ b.Message = a.Message) ∧ e = (⟨p, k, o, kk⟩, zfc c p a o b)) := by
 have hh : e ∈ Vh x c p k a ↔ ∃ (o : Nat) (Po : zh) (kk : Nat) (b : ze), o ≠ p ∧ x.Parts[o]? = some Po ∧ Po.Arcs[kk]? = some b ∧ b.From = stv c o ∧ (b.Kind = 2 ∧ b.Channel = a.Channel ∧ b.Message = a.Message) ∧ e = (⟨p, k, o, kk⟩, zfc c p a o b) := by
  unfold Vh
  rw [Ve]
  constructor
  ·rintro ⟨o, Po, h1, h2⟩
   rw [Nat.zero_add] at h2
   split at h2
   ·simp at h2
   ·rename_i ho
    obtain ⟨kb, h3, h4⟩ := List.mem_flatMap.1 h2
    obtain ⟨kk, h5, h6, h7⟩ := Yx.1 h3
    unfold two at h4
    split at h4
    ·rename_i hq
     simp only [List.mem_singleton] at h4
     rw [h5] at h4
     exact ⟨o, Po, kk, kb.2, ho, h1, h6, h7, hq, h4⟩
    ·simp at h4
  ·rintro ⟨o, Po, kk, b, ho, h1, h6, h7, hq, rfl⟩
   refine ⟨o, Po, h1, ?_⟩
   rw [Nat.zero_add, if_neg ho]
   refine List.mem_flatMap.2 ⟨((kk : Int), b), Yx.2 ⟨kk, rfl, h6, h7⟩, ?_⟩
   unfold two
   rw [if_pos hq]
   exact List.mem_singleton.2 rfl
 unfold one dst can
 dsimp only
 by_cases q0 : a.Kind = 0
 ·simp [q0]
 ·by_cases q1 : rmv x a = 0
  ·by_cases q2 : a.Kind = 1
   ·rw [if_neg q0, if_pos q1, if_pos q2, hh]
    simp [q1, q2]
   ·simp [q0, q1, q2]
  ·by_cases q2 : a.Kind = 1
   ·by_cases q3 : ((quv c a).length : Int) < rmv x a
    ·simp [q1, q2, q3]
    ·simp [q1, q2, q3]
   ·by_cases q3 : (quv c a).head? = some a.Message
    ·simp [q0, q1, q2, q3]
    ·simp [q0, q1, q2, q3]
theorem z8T {x : za} {c : z7} {e : z8 × z7} : e ∈ mvs x c ↔
  ∃ (p : Nat) (P : zh) (k : Nat) (a : ze), x.Parts[p]? = some P ∧ P.Arcs[k]? = some a ∧ a.From = stv c p ∧ e ∈ one x c p ((k : Int), a) := by
 unfold mvs
 rw [Ve]
 constructor
 ·rintro ⟨p, P, h1, h2⟩
  rw [Nat.zero_add] at h2
  obtain ⟨e', h3, h4⟩ := List.mem_flatMap.1 h2
  obtain ⟨k, h5, h6, h7⟩ := Yx.1 h3
  obtain ⟨k', a⟩ := e'
  simp only at h5 h6 h7
  subst h5
  exact ⟨p, P, k, a, h1, h6, h7, h4⟩
 ·rintro ⟨p, P, k, a, h1, h6, h7, h4⟩
  refine ⟨p, P, h1, ?_⟩
  rw [Nat.zero_add]
  exact List.mem_flatMap.2 ⟨((k : Int), a), Yx.2 ⟨k, rfl, h6, h7⟩, h4⟩
theorem z7j {x : za} {c : z7} (hc : zb8 x c) {p : Nat} {P : zh} {t : Int} (hP : x.Parts[p]? = some P) (ht : InR t P.States) : zb8 x ⟨c.States.set p t, c.Queues⟩ := by
 refine ⟨by rw [List.length_set]; exact hc.sl, hc.ql, fun i q v h1 h2 => ?_, hc.qu⟩
 dsimp only at h2
 rw [List.getElem?_set] at h2
 split at h2
 ·rename_i hpi
  subst hpi
  split at h2
  ·cases h2
   rw [hP] at h1
   cases h1
   exact ht
  ·cases h2
 ·exact hc.st i q v h1 h2
theorem zef {x : za} {c : z7} (hc : zb8 x c) {n : Nat} {q : List Int} (hq : ∀ r, x.Channels[n]? = some r → (q.length : Int) ≤ r ∧ ∀ m ∈ q, InR m x.Messages) : zb8 x ⟨c.States, c.Queues.set n q⟩ := by
 refine ⟨hc.sl, by rw [List.length_set]; exact hc.ql, hc.st, fun i q' r h1 h2 => ?_⟩
 dsimp only at h1
 rw [List.getElem?_set] at h1
 split at h1
 ·rename_i hpi
  subst hpi
  split at h1
  ·cases h1
   exact hq r h2
  ·cases h1
 ·exact hc.qu i q' r h1 h2
theorem z2U {x : za} {c : z7} (h : MOk x c) {e : z8 × z7} (he : e ∈ mvs x c) : MOk x e.2 := by
 refine ⟨h.sys, ?_⟩
 obtain ⟨p, P, k, a, h1, h2, h3, h4⟩ := z8T.1 he
 have hv := (h.sys.part P (List.mem_of_getElem? h1)).arc a (List.mem_of_getElem? h2)
 have hs := z7j h.cfg h1 hv.to
 rcases z8S.1 h4 with ⟨rfl, hc⟩ | ⟨_, _, o, Po, kk, b, _, h5, h6, _, _, rfl⟩
 ·unfold dst
  dsimp only
  split
  ·exact hs
  ·rename_i q0
   obtain ⟨n, hn, _, e1, e2, hle, _⟩ := h.chan hv q0
   have hqm : ∀ m ∈ quv c a, InR m x.Messages := (h.cfg.qu n _ _ e1 e2).2
   have hnn : a.Channel.toNat = n := by omega
   rw [hnn]
   rcases hc with hc | ⟨_, ⟨q1, q2⟩ | ⟨_, q1, q2⟩⟩
   ·exact absurd hc q0
   ·rw [if_pos q1]
    refine zef hs (n := n) fun r hr => ?_
    rw [e2] at hr
    cases hr
    refine ⟨by rw [List.length_append, List.length_singleton]; omega, fun m hm => ?_⟩
    rcases List.mem_append.1 hm with hm | hm
    ·exact hqm m hm
    ·rw [List.mem_singleton.1 hm]
     exact (hv.other q0).2
   ·rw [if_neg q1]
    refine zef hs (n := n) fun r hr => ?_
    rw [e2] at hr
    cases hr
    exact ⟨by rw [List.length_tail]; omega, fun m hm => hqm m (List.mem_of_mem_tail hm)⟩
 ·exact z7j hs h5 ((h.sys.part Po (List.mem_of_getElem? h5)).arc b (List.mem_of_getElem? h6)).to
theorem X5 {α β : Type} {f : α → List β} {b : Nat} : ∀ {l : List α}, (∀ x ∈ l, (f x).length ≤ b) → (l.flatMap f).length ≤ l.length * b
 | [], _ => by simp
 | x :: l, h => by
  rw [List.flatMap_cons, List.length_append, List.length_cons, Nat.succ_mul]
  have h1 := h x List.mem_cons_self
  have h2 := X5 (f := f) (l := l) (b := b) fun y hy => h y (List.mem_cons_of_mem _ hy)
  omega
theorem U0 {l : List ze} {st : Int} (h : l.length ≤ 256) : (vz l st).length ≤ 256 := by
 have := Vk (f := fun (k : Nat) (a : ze) => if a.From = st then [((k : Int), a)] else []) (l := l) (k := 0) (b := 1) fun i x _ => by split <;> simp
 unfold vz
 omega
theorem z06 {x : za} {c : z7} (h : z3A x) : (mvs x c).length ≤ 1048576 := by
 have hpl := h.pl.2
 have hh : ∀ p i a, (Vh x c p i a).length ≤ 1024 := by
  intro p i a
  have := Vk (f := fun o P => if o = p then [] else (vz P.Arcs (stv c o)).flatMap (two c p i a o)) (l := x.Parts) (k := 0) (b := 256) fun o P hP => by
   split
   ·simp
   ·have h1 := U0 (st := stv c (0 + o)) (h.part P (List.mem_of_getElem? hP)).arcs
    have h2 := X5 (f := two c p i a (0 + o)) (l := vz P.Arcs (stv c (0 + o))) (b := 1) fun e _ => by unfold two; split <;> simp
    omega
  unfold Vh
  omega
 have ho : ∀ p e, (one x c p e).length ≤ 1024 := by
  intro p e
  have := hh p e.1 e.2
  unfold one
  split
  ·simp
  ·split
   ·split
    ·exact this
    ·simp
   ·split
    ·split <;> simp
    ·split <;> simp
 have := Vk (f := fun p P => (vz P.Arcs (stv c p)).flatMap (one x c p)) (l := x.Parts) (k := 0) (b := 262144) fun p P hP => by
  have h1 := U0 (st := stv c (0 + p)) (h.part P (List.mem_of_getElem? hP)).arcs
  have h2 := X5 (f := one x c (0 + p)) (l := vz P.Arcs (stv c (0 + p))) (b := 1024) fun e _ => ho _ e
  omega
 unfold mvs
 omega
def By (n : Int) : Prop := 0 ≤ n ∧ n ≤ 255
structure OkZ (z : xz) : Prop where
 st : By z.States
 arc : ∀ a ∈ z.Arcs, By a.e0 ∧ By a.e1 ∧ By a.e2 ∧ By a.e3 ∧ By a.e4
structure OkY (y : yf) : Prop where
 c0 : By y.Channels.e0
 c1 : By y.Channels.e1
 parts : ∀ z ∈ y.Parts, OkZ z
theorem z9J (s : Int) : (0 : Int) ≤ IntKind.u64.wrap s := by
 simp only [IntKind.wrap, IntKind.bits, IntKind.signed]
 simp
 omega
theorem z3g {n : Int} (h : By n) : 0 ≤ Int.tmod n 3 ∧ Int.tmod n 3 < 3 := by
 rw [Int.tmod_eq_emod_of_nonneg h.1]; omega
theorem z9M {n : Int} (h : By n) : 0 ≤ Int.tmod n 2 ∧ Int.tmod n 2 < 2 := by
 rw [Int.tmod_eq_emod_of_nonneg h.1]; omega
theorem z9L {n k : Int} (h : By n) (hk : 0 < k) : InR (Int.tmod n k) k := by
 rw [Int.tmod_eq_emod_of_nonneg h.1]
 exact ⟨Int.emod_nonneg _ (by omega), Int.emod_lt_of_pos _ hk⟩
theorem z8H {l : List Int} {n : Int} (hn : 0 ≤ n) (h : Ris l n) : Ris (l ++ [n]) (n + 1) := by
 intro i v hv
 rcases Nat.lt_or_ge i l.length with q | q
 ·rw [List.getElem?_append_left q] at hv
  obtain ⟨h1, h2⟩ := h i v hv
  refine ⟨⟨h1.1, by have := h1.2; omega⟩, fun hi => ?_⟩
  obtain ⟨u, h3, h4⟩ := h2 hi
  exact ⟨u, by rw [List.getElem?_append_left (by omega)]; exact h3, h4⟩
 ·rw [List.getElem?_append_right q] at hv
  have hi : i - l.length = 0 := by
   have := x6 hv
   simp at this
   omega
  rw [hi] at hv
  cases hv
  refine ⟨⟨hn, by omega⟩, fun hi' => ?_⟩
  have hl : i - 1 < l.length := by omega
  have hu : l[i - 1]? = some l[i - 1] := List.getElem?_eq_getElem hl
  exact ⟨l[i - 1], by rw [List.getElem?_append_left hl]; exact hu, (h _ _ hu).1.2⟩
theorem z2L {l : List Int} {n m : Int} (hn : n ≤ m) (h : Ris l n) : Ris l m := by
 intro i v hv
 obtain ⟨h1, h2⟩ := h i v hv
 exact ⟨⟨h1.1, by have := h1.2; omega⟩, h2⟩
structure VA (st : Int) (a : ze) : Prop where
 fr : InR a.From st
 to : InR a.To st
 kind : 0 ≤ a.Kind ∧ a.Kind ≤ 2
 inner : a.Kind = 0 → a.Channel = 0
 ch : InR a.Channel 2
 msg : InR a.Message 2
structure VP (p : zh) : Prop where
 lo : 1 ≤ p.States
 hi : p.States ≤ 3
 arcs : p.Arcs.length ≤ 6
 ris : Ris p.Final p.States
 fin : (p.Final.length : Int) ≤ p.States
 arc : ∀ a ∈ p.Arcs, VA p.States a
theorem zat {l : List zh} {i : Int} {s : Int} {arcs : List ze} {fin : List Int} (hl : l.length ≤ 3) (hp : VP ⟨s, arcs, fin⟩) (hlp : ∀ p ∈ l, VP p) :
  ∃ l', qE l i s arcs fin = some (.next (l', w64 (i + 1))) ∧ l'.length = l.length + 1 ∧ ∀ p ∈ l', VP p := by
 refine ⟨l ++ [⟨s, arcs, fin⟩], ?_, by simp, fun p hp' => ?_⟩
 ·unfold qE Za
  rw [gdT (by rw [List.length_singleton]; omega)]
 ·rcases List.mem_append.1 hp' with h | h
  ·exact hlp p h
  ·rw [List.mem_singleton.1 h]; exact hp
theorem zcW {y : yf} (h : OkY y) {l : List zh} {i : Nat} {b : Bool} (hl : l.length ≤ 3) (hlp : ∀ p ∈ l, VP p) :
  ∃ l', up y l (i : Int) b = some (.next (l', w64 ((i : Int) + 1))) ∧ l'.length = l.length + 1 ∧ ∀ p ∈ l', VP p := by
 unfold up
 by_cases hi : (i : Int) < ((y.Parts.length : Nat) : Int)
 ·have hz : y.Parts[i]? = some (y.Parts[i]'(by omega)) := List.getElem?_eq_getElem _
  generalize y.Parts[i]'(by omega) = z at hz
  have hok := h.parts z (List.mem_of_getElem? hz)
  have hm := z3g hok.st
  rw [decide_eq_true hi, cond_true, yk hz, oB, gdT (by omega)]
  have e0 : w64 (1 + (w64 (Int.tmod z.States 3))) = 1 + Int.tmod z.States 3 := by rw [wR (x := Int.tmod z.States 3) (by omega) (by omega), wR (by omega) (by omega)]
  generalize hst : 1 + Int.tmod z.States 3 = st at e0
  have r9 : Ret (loop (fun s => jM z s.1 s.2) (([] : List Int), 0)) (fun fl => Ris fl st ∧ (fl.length : Int) ≤ st) := by
   refine YT (fun s => ∃ n : Nat, s.2 = (n : Int) ∧ (n : Int) ≤ st ∧ Ris s.1 n ∧ s.1.length ≤ n) (fun s => 3 - s.2.toNat) ⟨0, rfl, by omega, fun i v hv => by simp at hv, Nat.le_refl _⟩ (by show 3 - 0 < _; omega) ?_
   rintro ⟨fl, s⟩ ⟨n, hs, hn, h1, h2⟩
   dsimp only at hs h1 h2 ⊢
   subst hs
   unfold jM qY
   rw [e0]
   by_cases q : (n : Int) < st
   ·rw [decide_eq_true q, cond_true, gdT (z9J _), wR (by omega) (by omega)]
    cases (zcs .u8 (Int.fdiv z.Final (2 ^ (min (IntKind.u64.wrap (n : Int)).toNat 8))) 1) == 1 with
    | true =>
     rw [cond_true, gdT (by rw [List.length_singleton]; omega)]
     refine wQ.2 ⟨⟨n + 1, rfl, by omega, z8H (by omega) h1, by rw [List.length_append, List.length_singleton]; omega⟩, ?_⟩
     show 3 - ((n : Int) + 1).toNat < 3 - (n : Int).toNat
     omega
    | false =>
     rw [cond_false]
     refine wQ.2 ⟨⟨n + 1, rfl, by omega, z2L (by omega) h1, by dsimp only; omega⟩, ?_⟩
     show 3 - ((n : Int) + 1).toNat < 3 - (n : Int).toNat
     omega
   ·rw [decide_eq_false q, cond_false]
    exact wQ.2 ⟨z2L (by omega) h1, by omega⟩
  obtain ⟨fl, e9, f1, f2⟩ := r9
  rw [bdT e9]
  unfold kZ
  have r7 : Ret (loop (fun s => jN z fl s.1 s.2) (([] : List ze), 0)) (fun t => t.1 = st ∧ t.2.2 = fl ∧ t.2.1.length ≤ 6 ∧ ∀ a ∈ t.2.1, VA st a) := by
   refine YT (fun s => ∃ n : Nat, s.2 = (n : Int) ∧ n ≤ 6 ∧ s.1.length ≤ n ∧ ∀ a ∈ s.1, VA st a) (fun s => 6 - s.2.toNat) ⟨0, rfl, by omega, Nat.le_refl _, fun a ha => by simp at ha⟩ (by show 6 - 0 < _; omega) ?_
   rintro ⟨arcs, s⟩ ⟨n, hs, hn, h1, h2⟩
   dsimp only at hs h1 h2 ⊢
   subst hs
   unfold jN
   by_cases q : (n : Int) < ((z.Arcs.length : Nat) : Int)
   ·rw [decide_eq_true q, cond_true]
    by_cases q6 : (n : Int) < 6
    ·have ha : z.Arcs[n]? = some (z.Arcs[n]'(by omega)) := List.getElem?_eq_getElem _
     generalize z.Arcs[n]'(by omega) = a at ha
     obtain ⟨b0, b1, b2, b3, b4⟩ := hok.arc a (List.mem_of_getElem? ha)
     have w0 : w64 a.e0 = a.e0 := wR (by have := b0.1; omega) (by have := b0.2; omega)
     have w4 : w64 a.e4 = a.e4 := wR (by have := b4.1; omega) (by have := b4.2; omega)
     have t2 := z9M b2
     have t3 := z9M b3
     have t1 := z3g b1
     have s0 := z9L b0 (k := st) (by omega)
     have s4 := z9L b4 (k := st) (by omega)
     have fin : ∀ ch : Int, InR ch 2 → (Int.tmod a.e1 3 = 0 → ch = 0) → Ret (qD z arcs (n : Int) a ch) (LRP (fun s' => (∃ n : Nat, s'.2 = (n : Int) ∧ n ≤ 6 ∧ s'.1.length ≤ n ∧ ∀ a ∈ s'.1, VA st a) ∧ 6 - s'.2.toNat < 6 - (n : Int).toNat) (fun t : Int × List ze × List Int => t.1 = st ∧ t.2.2 = fl ∧ t.2.1.length ≤ 6 ∧ ∀ a ∈ t.2.1, VA st a)) := by
      intro ch hch h0
      unfold qD
      rw [e0, w0, w4, wR (x := Int.tmod a.e3 2) (by omega) (by omega), gdT (by rw [List.length_singleton]; omega), wR (by omega) (by omega)]
      refine wQ.2 ⟨⟨n + 1, rfl, by omega, by rw [List.length_append, List.length_singleton]; omega, fun a' ha' => ?_⟩, ?_⟩
      ·rcases List.mem_append.1 ha' with hm | hm
       ·exact h2 a' hm
       ·rw [List.mem_singleton.1 hm]
        exact ⟨s0, s4, ⟨t1.1, by dsimp only; omega⟩, h0, hch, ⟨t3.1, t3.2⟩⟩
      ·show 6 - ((n : Int) + 1).toNat < 6 - (n : Int).toNat
       omega
     rw [decide_eq_true q6, cond_true, yk ha, oB, e0, gdT (by omega), gdT (by omega), gdT (by omega), gdT (by omega), gdT (by omega)]
     by_cases qk : Int.tmod a.e1 3 = 0
     ·rw [qk, beq_self_eq_true, cond_true]
      exact fin 0 ⟨by omega, by omega⟩ (fun _ => rfl)
     ·rw [beq_false_of_ne qk, cond_false, wR (x := Int.tmod a.e2 2) (by omega) (by omega)]
      exact fin _ ⟨t2.1, t2.2⟩ (fun q => absurd q qk)
    ·rw [decide_eq_false q6, cond_false, e0]
     exact wQ.2 ⟨rfl, rfl, by dsimp only; omega, h2⟩
   ·rw [decide_eq_false q, cond_false, e0]
    exact wQ.2 ⟨rfl, rfl, by dsimp only; omega, h2⟩
  obtain ⟨t, e7, g1, g2, g3, g4⟩ := r7
  rw [bdT e7, g1, g2]
  exact zat hl ⟨by dsimp only; omega, by dsimp only; omega, g3, f1, f2, g4⟩ hlp
 ·rw [decide_eq_false hi, cond_false]
  exact zat hl ⟨by decide, by decide, by simp, fun i v hv => by simp at hv, by simp, fun a ha => by simp at ha⟩ hlp
structure ze8 (y : yf) (x : za) : Prop where
 msg : x.Messages = 2
 lab : x.Labels = 2
 ch : x.Channels = [Int.tmod y.Channels.e0 3, Int.tmod y.Channels.e1 3]
 pl : 1 ≤ x.Parts.length ∧ x.Parts.length ≤ 3
 part : ∀ p ∈ x.Parts, VP p
theorem zas {y : yf} (h : OkY y) : ∃ x, YB y = some x ∧ ze8 y x := by
 unfold YB
 rw [gdT (by omega), gdT (by omega)]
 have r2 : Ret (loop (fun s => jO y s.1 s.2) (([] : List zh), 0)) (fun l => (1 ≤ l.length ∧ l.length ≤ 3) ∧ ∀ p ∈ l, VP p) := by
  refine YT (fun s => ∃ n : Nat, s.2 = (n : Int) ∧ n ≤ 3 ∧ s.1.length = n ∧ ∀ p ∈ s.1, VP p) (fun s => 3 - s.2.toNat) ⟨0, rfl, by omega, rfl, fun a ha => by simp at ha⟩ (by show 3 - 0 < _; omega) ?_
  rintro ⟨l, s⟩ ⟨n, hs, hn, h1, h2⟩
  dsimp only at hs h1 h2 ⊢
  subst hs
  unfold jO
  have go : ∀ b, n < 3 → Ret (up y l (n : Int) b) (LRP (fun s' => (∃ n : Nat, s'.2 = (n : Int) ∧ n ≤ 3 ∧ s'.1.length = n ∧ ∀ p ∈ s'.1, VP p) ∧ 3 - s'.2.toNat < 3 - (n : Int).toNat) (fun l : List zh => (1 ≤ l.length ∧ l.length ≤ 3) ∧ ∀ p ∈ l, VP p)) := by
   intro b q
   obtain ⟨l', e, h3, h4⟩ := zcW h (l := l) (i := n) (b := b) (by omega) h2
   rw [e, wR (by omega) (by omega)]
   refine wQ.2 ⟨⟨n + 1, rfl, by omega, by dsimp only; omega, h4⟩, ?_⟩
   show 3 - ((n : Int) + 1).toNat < 3 - (n : Int).toNat
   omega
  by_cases q : (n : Int) < 3
  ·rw [decide_eq_true q, cond_true]
   by_cases q1 : (n : Int) < ((y.Parts.length : Nat) : Int)
   ·rw [decide_eq_true q1, cond_true]
    exact go _ (by omega)
   ·rw [decide_eq_false q1, cond_false]
    by_cases q2 : n = 0
    ·subst q2
     exact go true (by omega)
    ·rw [beq_false_of_ne (by omega), cond_false]
     exact wQ.2 ⟨⟨by omega, by omega⟩, h2⟩
  ·rw [decide_eq_false q, cond_false]
   exact wQ.2 ⟨⟨by omega, by omega⟩, h2⟩
 obtain ⟨l, e, h1, h2⟩ := r2
 rw [bdT e]
 have t0 := z3g h.c0
 have t1 := z3g h.c1
 refine ⟨_, rfl, rfl, rfl, ?_, h1, h2⟩
 dsimp only
 rw [wR (x := Int.tmod y.Channels.e0 3) (by omega) (by omega), wR (x := Int.tmod y.Channels.e1 3) (by omega) (by omega)]
theorem z6F {y : yf} {x : za} (h : ze8 y x) {a b : Int} (ha : 0 ≤ a ∧ a ≤ 4) (hb : 0 ≤ b ∧ b ≤ 4) : z3A ⟨x.Messages, x.Labels, [a, b], x.Parts⟩ := by
 have hm := h.msg
 have hl := h.lab
 refine ⟨by dsimp only; omega, by dsimp only; omega, by simp, fun n hn => ?_, ⟨h.pl.1, by have := h.pl.2; dsimp only; omega⟩, fun p hp => ?_⟩
 ·simp at hn
  rcases hn with rfl | rfl <;> assumption
 ·have hv := h.part p hp
  have h1 := hv.hi
  have h2 := hv.fin
  refine ⟨hv.lo, by omega, by have := hv.arcs; omega, hv.ris, by omega, fun a ha' => ?_⟩
  have hva := hv.arc a ha'
  refine ⟨hva.fr, hva.to, hva.kind, fun q => ⟨hva.inner q, ?_⟩, fun _ => ⟨hva.ch, ?_⟩⟩
  ·dsimp only; rw [hl]; exact hva.msg
  ·dsimp only; rw [hm]; exact hva.msg
theorem z4A {y : yf} {x : za} (hy : OkY y) (h : ze8 y x) : z3A x := by
 have t0 := z3g hy.c0
 have t1 := z3g hy.c1
 have := z6F h (a := Int.tmod y.Channels.e0 3) (b := Int.tmod y.Channels.e1 3) (by omega) (by omega)
 rw [← h.ch] at this
 exact this
def beg (x : za) : z7 := ⟨List.replicate x.Parts.length 0, List.replicate x.Channels.length []⟩
theorem z78 {x : za} (h : z3A x) : Zt x = some (beg x) := by
 unfold Zt
 rw [gdT (by have := h.pl.2; omega), gdT (by have := h.chl; omega), Int.toNat_natCast, Int.toNat_natCast]
 rfl
theorem z7D {x : za} (h : z3A x) : MOk x (beg x) := by
 refine ⟨h, by simp [beg], by simp [beg], fun i p v hp hv => ?_, fun i q n hq hn => ?_⟩
 ·have := List.mem_of_getElem? hv
  have hv0 : v = 0 := List.eq_of_mem_replicate this
  subst hv0
  exact ⟨Int.le_refl _, by have := (h.part p (List.mem_of_getElem? hp)).lo; omega⟩
 ·have hq0 : q = [] := List.eq_of_mem_replicate (List.mem_of_getElem? hq)
  subst hq0
  exact ⟨(h.ch n (List.mem_of_getElem? hn)).1, fun m hm => by simp at hm⟩
theorem QF {c : z7} (hs : c.States.length ≤ 4) (hq : c.Queues.length ≤ 4) (p : Nat) (st ch : Int) (q : List Int) (hc : ch = -1 ∨ 0 ≤ ch) :
  qA c (p : Int) st ch q = some ⟨c.States.set p st, if ch = -1 then c.Queues else c.Queues.set ch.toNat q⟩ := by
 unfold qA
 have h5 : loop (fun s => qt c (p : Int) st s.1 s.2) (([] : List Int), 0) = some (c.States.set p st) := by
  have hl : (c.States.set p st).length = c.States.length := List.length_set
  refine kX (fun j => ((c.States.set p st).take j, (j : Int))) c.States.length (by omega) (fun j hj => ?_) ?_
  ·have hv : c.States[j]? = some c.States[j] := List.getElem?_eq_getElem hj
   unfold qt jI
   dsimp only
   rw [decide_eq_true (by omega), cond_true, yk hv, oB, wR (by omega) (by omega)]
   have e : (if p = j then st else c.States[j]) = (c.States.set p st)[j]'(by rw [hl]; exact hj) := by rw [List.getElem_set]
   by_cases q : j = p
   ·subst q
    rw [beq_self_eq_true, cond_true, gdT (by rw [List.length_take, List.length_singleton]; omega), List.take_add_one, List.getElem?_set_self hj]
    rfl
   ·rw [beq_false_of_ne (by omega), cond_false, gdT (by rw [List.length_take, List.length_singleton]; omega), List.take_add_one, List.getElem?_set_ne (fun h => q h.symm), hv]
    rfl
  ·unfold qt
   dsimp only
   rw [decide_eq_false (by omega), cond_false, List.take_of_length_le (by omega)]
 rw [bdT h5]
 unfold kV
 have h3 : loop (fun s => qw c ch q s.1 s.2) (([] : List (List Int)), 0) = some (if ch = -1 then c.Queues else c.Queues.set ch.toNat q) := by
  have hl : (if ch = -1 then c.Queues else c.Queues.set ch.toNat q).length = c.Queues.length := by split <;> simp
  refine kX (fun j => ((if ch = -1 then c.Queues else c.Queues.set ch.toNat q).take j, (j : Int))) c.Queues.length (by omega) (fun j hj => ?_) ?_
  ·have hv : c.Queues[j]? = some c.Queues[j] := List.getElem?_eq_getElem hj
   unfold qw jJ
   dsimp only
   rw [decide_eq_true (by omega), cond_true, yk hv, oB, wR (by omega) (by omega)]
   by_cases q1 : (j : Int) = ch
   ·subst q1
    rw [beq_self_eq_true, cond_true, gdT (by rw [List.length_take, List.length_singleton]; omega), List.take_add_one, if_neg (by omega), Int.toNat_natCast, List.getElem?_set_self hj]
    rfl
   ·rw [beq_false_of_ne q1, cond_false, gdT (by rw [List.length_take, List.length_singleton]; omega), List.take_add_one]
    have : (if ch = -1 then c.Queues else c.Queues.set ch.toNat q)[j]? = some c.Queues[j] := by
     split
     ·exact hv
     ·rw [List.getElem?_set_ne (by omega)]; exact hv
    rw [this]
    rfl
  ·unfold qw
   dsimp only
   rw [decide_eq_false (by omega), cond_false, List.take_of_length_le (by omega)]
 rw [bdT h3]
 rfl
theorem z1v {α β ρ : Type} {B : Nat} {f : Nat → α → List β} {g : Nat → α → List β → Option (LR (List β) ρ)} : ∀ {l : List α} {k : Nat} {acc : List β}, acc.length + (uD f l k).length ≤ B →
  (∀ (i : Nat) (x : α) (acc : List β), l[i]? = some x → acc.length + (f (k + i) x).length ≤ B → g (k + i) x acc = some (.next (acc ++ f (k + i) x))) → JC g l k acc = some (.next (acc ++ uD f l k))
 | [], k, acc, _, _ => by simp [JC, uD]
 | x :: l, k, acc, hb, h => by
  rw [uD, List.length_append] at hb
  have h0 := h 0 x acc rfl (by rw [Nat.add_zero]; omega)
  rw [Nat.add_zero] at h0
  rw [JC, h0, oB]
  show JC g l (k + 1) (acc ++ f k x) = _
  rw [z1v (f := f) (B := B) (by rw [List.length_append]; omega) (fun i y acc' hy hb' => by
   have := h (i + 1) y acc' (by simpa using hy)
   rw [show k + (i + 1) = k + 1 + i by omega] at this
   exact this hb'), uD, List.append_assoc]
theorem Wy {β : Type} (f : Int × ze → List β) (l : List ze) (st : Int) : (vz l st).flatMap f = uD (fun i a => if a.From = st then f ((i : Int), a) else []) l 0 := by
 have gen : ∀ (l : List ze) (k : Nat), (uD (fun k a => if a.From = st then [((k : Int), a)] else []) l k).flatMap f = uD (fun i a => if a.From = st then f ((i : Int), a) else []) l k := by
  intro l
  induction l with
  | nil => intro k; rfl
  | cons a l ih =>
   intro k
   rw [uD, uD, List.flatMap_append, ih]
   split <;> simp
 exact gen l 0
theorem kw {α β γ : Type} (h : β → γ) (f : Nat → α → List β) : ∀ (l : List α) (k : Nat), (uD f l k).map h = uD (fun i x => (f i x).map h) l k
 | [], _ => rfl
 | x :: l, k => by rw [uD, uD, List.map_append, kw h f l]
def zct {β ρ : Type} (L acc : List β) : Option (LR (List β) ρ) := match L with
 | [] => some (.next acc)
 | _ :: _ => gd (acc.length + L.length ≤ 4294967296) (some (.next (acc ++ L)))
theorem zaO {α β : Type} {p : Prop} [Decidable p] {x : Option α} {f : α → β} : (gd p x).map f = gd p (x.map f) := by
 unfold gd
 split <;> rfl
theorem z9r {β ρ : Type} {L acc : List β} (h : acc.length + L.length ≤ 4294967296) : zct (ρ := ρ) L acc = some (.next (acc ++ L)) := by
 cases L with
 | nil => simp [zct]
 | cons x l => exact gdT h
theorem z4L {α β ρ : Type} {f : Nat → α → List β} {l : List α} {acc : List β} (h : acc.length + (uD f l 0).length ≤ 4294967296) : JC (ρ := ρ) (fun k x acc => zct (f k x) acc) l 0 acc = some (.next (acc ++ uD f l 0)) :=
 z1v (B := 4294967296) h fun i x acc _ hb => z9r hb
theorem z08 {α β : Type} (l : List α) (hl : l.length < 4611686018427387904) {B : Nat} (f : Nat → α → List β) {step : List β × Int → Option (LR (List β × Int) (List β))} {acc : List β} (hb : acc.length + (uD f l 0).length ≤ B)
  (h : ∀ (i : Nat) (x : α) (s : List β), l[i]? = some x → s.length + (f i x).length ≤ B → step (s, (i : Int)) = some (.next (s ++ f i x, w64 ((i : Int) + 1)))) (h2 : ∀ s, step (s, (l.length : Int)) = some (.done s)) :
  loop step (acc, 0) = some (acc ++ uD f l 0) := by
 have gen : ∀ (n k : Nat) (acc : List β), k ≤ l.length → l.length - k < n → acc.length + (uD f (l.drop k) k).length ≤ B → Xt step n (acc, (k : Int)) = some (acc ++ uD f (l.drop k) k) := by
  intro n
  induction n with
  | zero => intro k acc _ h _; omega
  | succ n ih =>
   intro k acc hk hn hb
   rw [jg]
   rcases Nat.lt_or_ge k l.length with hlt | hge
   ·have hx : l[k]? = some l[k] := List.getElem?_eq_getElem hlt
    rw [List.drop_eq_getElem_cons hlt, uD, List.length_append] at hb
    rw [h k _ acc hx (by omega), List.drop_eq_getElem_cons hlt, uD]
    dsimp only
    rw [wR (by omega) (by omega)]
    have := ih (k + 1) (acc ++ f k l[k]) hlt (by omega) (by rw [List.length_append]; omega)
    rw [List.append_assoc] at this
    exact this
   ·have : k = l.length := by omega
    subst this
    rw [h2, List.drop_length]
    simp [uD]
 exact gen fuel 0 acc (Nat.zero_le _) (by show l.length - 0 < 18446744073709551616; omega) hb
theorem Jr {σ τ : Type} {step : σ → Option (LR σ τ)} {s : σ} {t : τ} (h : step s = some (.done t)) : loop step s = some t := by
 show Xt step (18446744073709551615 + 1) s = _
 rw [jg, h]
def kO (e : z8 × z7) : zg := ⟨e.1, e.2⟩
section
variable {x : za} {c : z7}
theorem zaC (h : MOk x c) {p o : Nat} (hp : p < x.Parts.length) {Po : zh} (ho : x.Parts[o]? = some Po) (hop : o ≠ p) (i : Int) (a : ze) {acc : List zg}
  (hb : acc.length + ((vz Po.Arcs (stv c o)).flatMap (two c p i a o)).length ≤ 4294967296) :
  loop (fun s => wu x c (p : Int) i a (o : Int) s.1 s.2) (acc, 0) = some (acc ++ ((vz Po.Arcs (stv c o)).flatMap (two c p i a o)).map kO) := by
 have hv := h.sys.part Po (List.mem_of_getElem? ho)
 have harc := hv.arcs
 obtain ⟨hol, hos⟩ := h.stat ho
 have hps : p < c.States.length := by have := h.cfg.sl; omega
 rw [Wy] at hb ⊢
 rw [kw]
 have hb' : acc.length + (uD (fun (k : Nat) b => (if b.From = stv c o then two c p i a o ((k : Int), b) else []).map kO) Po.Arcs 0).length ≤ 4294967296 := by
  rw [← kw, List.length_map]; exact hb
 rw [Wf Po.Arcs (by omega) (ρ := List zg) (fun k b acc => zct ((if b.From = stv c o then two c p i a o ((k : Int), b) else []).map kO) acc) z3r acc ?_ ?_]
 ·rw [z4L hb']
  rfl
 ·intro k b s hk
  have hkl := x6 hk
  unfold wu wv
  dsimp only
  rw [yk ho, oB, decide_eq_true (by omega), cond_true, show ((o : Int) != (p : Int)) = true from bne_iff_ne.2 (by omega), cond_true, oB, yk hk, oB, yk hos]
  unfold two
  dsimp only
  by_cases q1 : b.Kind = 2
  ·rw [q1, beq_self_eq_true, cond_true, oB]
   by_cases q2 : b.From = stv c o
   ·rw [q2, beq_self_eq_true, cond_true, if_pos rfl]
    by_cases q3 : b.Channel = a.Channel
    ·rw [q3, beq_self_eq_true, cond_true]
     by_cases q4 : b.Message = a.Message
     ·rw [q4, beq_self_eq_true, cond_true, if_pos ⟨rfl, rfl, rfl⟩, QF h.s4 h.q4 p _ _ _ (.inl rfl), oB, if_pos rfl, QF (c := ⟨c.States.set p a.To, c.Queues⟩) (by rw [List.length_set]; exact h.s4) h.q4 o _ _ _ (.inl rfl), oB, if_pos rfl]
      show gd _ _ = (gd (s.length + 1 ≤ 4294967296) _).map _
      rw [zaO]
      rfl
     ·rw [beq_false_of_ne q4, cond_false, if_neg (fun q => q4 q.2.2)]; rfl
    ·rw [beq_false_of_ne q3, cond_false, if_neg (fun q => q3 q.2.1)]; rfl
   ·rw [beq_false_of_ne q2, cond_false, if_neg q2]; rfl
  ·rw [beq_false_of_ne q1, cond_false]
   split
   ·rw [if_neg (fun q => q1 q.1)]; rfl
   ·rfl
 ·intro s
  unfold wu
  dsimp only
  rw [yk ho, oB, decide_eq_false (by omega), cond_false]
  rfl
theorem z6M (h : MOk x c) {p : Nat} (hp : p < x.Parts.length) (i : Int) (a : ze) (n : Int) {acc : List zg} (hb : acc.length + (Vh x c p i a).length ≤ 4294967296) :
  loop (fun s => wo x c (p : Int) i a n s.1 s.2) (acc, 0) = some (acc ++ (if a.Kind = 1 ∧ n = 0 then (Vh x c p i a).map kO else [])) := by
 have hpl := h.sys.pl
 by_cases q : a.Kind = 1 ∧ n = 0
 ·rw [if_pos q]
  unfold Vh at hb ⊢
  rw [kw]
  have hb' : acc.length + (uD (fun o (P : zh) => (if o = p then [] else (vz P.Arcs (stv c o)).flatMap (two c p i a o)).map kO) x.Parts 0).length ≤ 4294967296 := by
   rw [← kw, List.length_map]; exact hb
  have each : ∀ (o : Nat) (P : zh), x.Parts[o]? = some P → ((vz P.Arcs (stv c o)).flatMap (two c p i a o)).length ≤ 256 := by
   intro o P hP
   have h1 := U0 (st := stv c o) (h.sys.part P (List.mem_of_getElem? hP)).arcs
   have h2 := X5 (f := two c p i a o) (l := vz P.Arcs (stv c o)) (b := 1) fun e _ => by unfold two; split <;> simp
   omega
  refine z08 x.Parts (by omega) (B := 4294967296) (fun o P => (if o = p then [] else (vz P.Arcs (stv c o)).flatMap (two c p i a o)).map kO) hb' ?_ ?_
  ·intro o P s hP hbs
   have ho := x6 hP
   unfold wo kg
   dsimp only
   rw [decide_eq_true (by omega), cond_true, q.1, q.2, beq_self_eq_true, cond_true, beq_self_eq_true, cond_true]
   by_cases qo : o = p
   ·subst qo
    have : loop (fun s => wu x c (o : Int) i a (o : Int) s.1 s.2) (s, 0) = some s := by
     refine Jr ?_
     unfold wu
     rw [yk hP, oB, bne_self_eq_false, cond_false]
     cases decide ((0 : Int) < ((P.Arcs.length : Nat) : Int)) <;> rfl
    rw [this, oB, if_pos rfl, List.map_nil, List.append_nil]
   ·rw [if_neg qo] at hbs
    rw [List.length_map] at hbs
    rw [zaC h hp hP qo i a hbs, oB, if_neg qo]
  ·intro s
   unfold wo
   dsimp only
   rw [decide_eq_false (by omega), cond_false]
 ·rw [if_neg q, List.append_nil]
  refine Jr ?_
  unfold wo
  rw [decide_eq_true (by omega), cond_true]
  by_cases q1 : a.Kind = 1
  ·rw [q1, beq_self_eq_true, cond_true, beq_false_of_ne (fun h => q ⟨q1, h⟩), cond_false]
  ·rw [beq_false_of_ne q1, cond_false]
theorem z4v (h : MOk x c) {p : Nat} {P : zh} (hP : x.Parts[p]? = some P) {i : Nat} {a : ze} (ha : P.Arcs[i]? = some a) {acc : List zg}
  (hb : acc.length + (if a.From = stv c p then one x c p ((i : Int), a) else []).length ≤ 4294967296) :
  uJ x c (p : Int) acc (i : Int) = some (.next (acc ++ (if a.From = stv c p then one x c p ((i : Int), a) else []).map kO, w64 ((i : Int) + 1))) := by
 have hi := x6 ha
 have hp := x6 hP
 obtain ⟨hpl, hps⟩ := h.stat hP
 have hv := (h.sys.part P (List.mem_of_getElem? hP)).arc a (List.mem_of_getElem? ha)
 unfold uJ
 rw [yk hP, oB, decide_eq_true (by omega), cond_true, oB, yk ha, oB, yk hps, oB]
 by_cases q : a.From = stv c p
 ·rw [if_pos q] at hb ⊢
  rw [q, bne_self_eq_false, cond_false]
  unfold one at hb ⊢
  dsimp only at hb ⊢
  by_cases q0 : a.Kind = 0
  ·rw [if_pos q0] at hb ⊢
   rw [q0, beq_self_eq_true, cond_true, QF h.s4 h.q4 p _ _ _ (.inl rfl), oB, if_pos rfl]
   rw [gdT (by simp only [List.length_singleton] at hb ⊢; exact hb)]
   rfl
  ·rw [if_neg q0] at hb ⊢
   obtain ⟨n, hn, hn4, e1, e2, hle, h4⟩ := h.chan hv q0
   have eq1 : idx c.Queues a.Channel = some (quv c a) := by rw [hn]; exact yk e1
   have eq2 : idx x.Channels a.Channel = some (rmv x a) := by rw [hn]; exact yk e2
   rw [beq_false_of_ne q0, cond_false, eq1, oB, eq2, oB]
   have j7 : ∀ (acc' : List zg), (acc'.length + (if a.Kind = 1 ∧ rmv x a = 0 then Vh x c p (i : Int) a else []).length ≤ 4294967296) → wp x c (p : Int) (i : Int) a (rmv x a) acc' = some (.next (acc' ++ (if a.Kind = 1 ∧ rmv x a = 0 then (Vh x c p (i : Int) a).map kO else []), w64 ((i : Int) + 1))) := by
    intro acc' hb'
    unfold wp vE
    by_cases q1 : a.Kind = 1 ∧ rmv x a = 0
    ·rw [if_pos q1] at hb'
     rw [z6M h hp i a _ hb', oB]
    ·have : loop (fun s => wo x c (p : Int) (i : Int) a (rmv x a) s.1 s.2) (acc', 0) = some (acc' ++ []) := by
      rw [List.append_nil]
      refine Jr ?_
      unfold wo
      rw [decide_eq_true (by omega), cond_true]
      by_cases q2 : a.Kind = 1
      ·rw [q2, beq_self_eq_true, cond_true, beq_false_of_ne (fun h => q1 ⟨q2, h⟩), cond_false]
      ·rw [beq_false_of_ne q2, cond_false]
     rw [this, oB, if_neg q1]
   by_cases q1 : a.Kind = 1
   ·have j6 : ∀ acc', wS x c (p : Int) (i : Int) a (quv c a) (rmv x a) acc' = wp x c (p : Int) (i : Int) a (rmv x a) acc' := by
     intro acc'
     unfold wS
     rw [q1, show ((1 : Int) == 2) = false from rfl, cond_false]
    rw [show (a.Kind == 1) = true from beq_iff_eq.2 q1, cond_true, j6]
    by_cases q2 : rmv x a = 0
    ·rw [if_pos q2, if_pos q1] at hb ⊢
     rw [decide_eq_false (by omega), cond_false, j7 _ (by rw [if_pos ⟨q1, q2⟩]; exact hb), if_pos ⟨q1, q2⟩]
    ·rw [if_neg q2, if_pos q1] at hb ⊢
     by_cases q3 : ((quv c a).length : Int) < rmv x a
     ·rw [if_pos q3] at hb ⊢
      rw [decide_eq_true q3, cond_true, gdT (by simp; omega), gdT (by simp; omega), QF h.s4 h.q4 p _ _ _ (.inr (by omega)), oB, if_neg (by omega), gdT (by simp only [List.length_singleton] at hb ⊢; exact hb), j6, j7 _ (by rw [if_neg (fun h => q2 h.2)]; simp at hb ⊢; omega), if_neg (fun h => q2 h.2), List.append_nil]
      rfl
     ·rw [if_neg q3]
      rw [decide_eq_false q3, cond_false, j7 _ (by rw [if_neg (fun h => q2 h.2)]; rw [if_neg q3] at hb; exact hb), if_neg (fun h => q2 h.2)]
      rfl
   ·have q2 : a.Kind = 2 := by have := hv.kind; omega
    rw [beq_false_of_ne q1, cond_false]
    unfold wS
    rw [q2, show ((2 : Int) == 2) = true from rfl, cond_true]
    cases hq : quv c a with
    | nil =>
     rw [hq] at hb
     have e0 : (if rmv x a = 0 then if (2 : Int) = 1 then Vh x c p (i : Int) a else [] else if (2 : Int) = 1 then (if ((([] : List Int).length : Nat) : Int) < rmv x a then [(⟨(p : Int), (i : Int), -1, -1⟩, ⟨c.States.set p a.To, c.Queues.set a.Channel.toNat (([] : List Int) ++ [a.Message])⟩)] else []) else if ([] : List Int).head? = some a.Message then [(⟨(p : Int), (i : Int), -1, -1⟩, ⟨c.States.set p a.To, c.Queues.set a.Channel.toNat ([] : List Int).tail⟩)] else ([] : List (z8 × z7))) = [] := by
      simp
     rw [e0, decide_eq_false (by simp), cond_false, j7 acc (by rw [if_neg (fun h => q1 h.1)]; simp; simp at hb; omega), if_neg (fun h => q1 h.1)]
     rfl
    | cons m l =>
     rw [hq] at hb hle
     simp only [List.length_cons] at hle
     have hr : rmv x a ≠ 0 := by omega
     rw [if_neg hr, if_neg (by omega)]
     rw [if_neg hr, if_neg q1] at hb
     rw [decide_eq_true (by simp), cond_true, show idx (m :: l) 0 = some m from rfl, oB]
     by_cases q3 : m = a.Message
     ·have q3' : (m :: l).head? = some a.Message := by rw [q3]; rfl
      rw [if_pos q3'] at hb ⊢
      rw [show (m == a.Message) = true from beq_iff_eq.2 q3, cond_true, gdT (by simp only [List.length_cons]; omega), QF h.s4 h.q4 p _ _ _ (.inr (by omega)), oB, if_neg (by omega), gdT (by simp only [List.length_singleton] at hb ⊢; exact hb), j7 _ (by rw [if_neg (fun h => q1 h.1)]; simp at hb ⊢; omega), if_neg (fun h => q1 h.1), List.append_nil]
      rfl
     ·have q3' : ¬(m :: l).head? = some a.Message := fun h => q3 (Option.some.inj h)
      rw [if_neg q3'] at hb ⊢
      rw [beq_false_of_ne q3, cond_false, j7 _ (by rw [if_neg (fun h => q1 h.1)]; exact hb), if_neg (fun h => q1 h.1)]
      rfl
 ·rw [if_neg q, show (a.From != stv c p) = true from bne_iff_ne.2 q, cond_true]
  unfold vE
  rw [List.map_nil, List.append_nil]
theorem z6C (h : MOk x c) : Zr x c = some ((mvs x c).map kO) := by
 have hpl := h.sys.pl
 have hlen := z06 (c := c) h.sys
 unfold Zr
 have hl : loop (fun s => uK x c s.1 s.2) (([] : List zg), 0) = some ([] ++ (mvs x c).map kO) := by
  unfold mvs at hlen ⊢
  rw [kw]
  refine z08 x.Parts (by omega) (B := 2097152) (fun p P => ((vz P.Arcs (stv c p)).flatMap (one x c p)).map kO) (by rw [← kw, List.length_map, List.length_nil]; omega) ?_ ?_
  ·intro p P s hP hbs
   have hp := x6 hP
   have harc := (h.sys.part P (List.mem_of_getElem? hP)).arcs
   unfold uK kh
   dsimp only
   rw [decide_eq_true (by omega), cond_true]
   rw [Wy, kw] at hbs ⊢
   rw [z08 P.Arcs (by omega) (B := 2097152) (fun i a => (if a.From = stv c p then one x c p ((i : Int), a) else []).map kO) hbs ?_ ?_]
   ·rfl
   ·intro i a s' ha hb'
    rw [List.length_map] at hb'
    have := z4v h hP ha (acc := s') (by omega)
    exact this
   ·intro s'
    unfold uJ
    dsimp only
    rw [yk hP, oB, decide_eq_false (by omega), cond_false]
  ·intro s
   unfold uK
   dsimp only
   rw [decide_eq_false (by omega), cond_false]
 rw [bdT hl]
 rfl
end
def z5t : List Int → List Int → Int
 | x :: a, y :: b => if x = y then z5t a b else if x < y then 1 else 0
 | _, _ => 0
theorem JM : ∀ a, z5t a a = 0
 | [] => rfl
 | x :: a => by rw [z5t, if_pos rfl, JM a]
theorem z59 : ∀ {a b : List Int}, a.length = b.length → a ≠ b → z5t a b = 1 ∨ z5t b a = 1
 | [], [], _, h => absurd rfl h
 | x :: a, y :: b, hl, h => by
  simp only [z5t]
  by_cases q : x = y
  ·subst q
   rw [if_pos rfl, if_pos rfl]
   exact z59 (by simpa using hl) (fun e => h (by rw [e]))
  ·rw [if_neg q, if_neg (show ¬y = x from fun e => q e.symm)]
   by_cases q2 : x < y
   ·exact .inl (if_pos q2)
   ·exact .inr (if_pos (by omega))
theorem JL {a b : List Int} (hl : a.length = b.length) (hb : a.length < 4611686018427387904) : jf a b = some (z5t a b) := by
 unfold jf
 rw [hl, bne_self_eq_false, cond_false]
 rw [bdT (Yy a hb (fun i x => match b[i]? with | none => none | some y => if x = y then none else some (if x < y then (1 : Int) else 0)) ?_ ?_)]
 ·have gen : ∀ (l m : List Int) (k : Nat), b.drop k = m → l.length = m.length → (match oS (kP (fun i x => match b[i]? with | none => none | some y => if x = y then none else some (if x < y then (1 : Int) else 0)) l k) with | .inl _ => some 0 | .inr p => some p) = some (z5t l m) := by
   intro l
   induction l with
   | nil => intro m k _ hm; cases m with
    | nil => rfl
    | cons y m => simp at hm
   | cons x l ih =>
    intro m k hd hm
    cases m with
    | nil => simp at hm
    | cons y m =>
     have hk : b[k]? = some y := by
      have := congrArg (fun z => z[0]?) hd
      simpa using this
     have hd' : b.drop (k + 1) = m := by
      rw [← List.drop_drop, hd]; rfl
     rw [z5t, kP, hk]
     dsimp only
     by_cases q : x = y
     ·rw [if_pos q, if_pos q]
      exact ih m (k + 1) hd' (by simpa using hm)
     ·rw [if_neg q, if_neg q]
      rfl
  exact gen a b 0 rfl hl
 ·intro i x hx
  have hi := x6 hx
  have hy : b[i]? = some (b[i]'(by omega)) := List.getElem?_eq_getElem _
  generalize b[i]'(by omega) = y at hy
  unfold qj
  rw [decide_eq_true (by omega), cond_true, yk hx, oB, yk hy, oB, hy]
  dsimp only
  by_cases q : x = y
  ·rw [q, bne_self_eq_false, cond_false, if_pos rfl]
   rfl
  ·rw [show (x != y) = true from bne_iff_ne.2 q, cond_true, oB, oB, if_neg q]
   by_cases q2 : x < y
   ·rw [decide_eq_true q2, cond_true, if_pos q2]; rfl
   ·rw [decide_eq_false q2, cond_false, if_neg q2]; rfl
 ·unfold qj
  rw [decide_eq_false (by omega), cond_false]
theorem z0R {a b : List Int} (ha : a.length < 4611686018427387904) (hb : b.length < 4611686018427387904) : Zi a b = some (if a = b then 1 else 0) := by
 unfold Zi
 by_cases hl : a.length = b.length
 ·rw [hl, bne_self_eq_false, cond_false, JL hl ha, oB]
  by_cases q : a = b
  ·subst q
   rw [JM, show ((0 : Int) == 1) = false from rfl, cond_false, JL rfl ha, JM, oB, if_pos rfl]
   rfl
  ·rw [if_neg q]
   by_cases q1 : z5t a b = 1
   ·rw [q1, beq_self_eq_true, cond_true]
   ·rw [beq_false_of_ne q1, cond_false, JL hl.symm hb, oB, (z59 hl q).resolve_left q1, beq_self_eq_true, cond_true]
 ·rw [show (((a.length : Nat) : Int) != ((b.length : Nat) : Int)) = true from bne_iff_ne.2 (by omega), cond_true, if_neg (fun e => hl (by rw [e]))]
instance decCfg : DecidableEq z7 := fun a b => decidable_of_iff (a.States = b.States ∧ a.Queues = b.Queues) (by cases a; cases b; simp)
structure CS (c : z7) : Prop where
 s : c.States.length ≤ 4
 q : c.Queues.length ≤ 4
 b : ∀ q ∈ c.Queues, q.length ≤ 4
theorem MOk.cs {x : za} {c : z7} (h : MOk x c) : CS c := ⟨h.s4, h.q4, h.qb⟩
theorem z0Q {a b : z7} (ha : CS a) (hb : CS b) : uI a b = some (if a = b then 1 else 0) := by
 have a1 := ha.s; have a2 := ha.q; have b1 := hb.s; have b2 := hb.q
 unfold uI
 rw [z0R (by omega) (by omega), oB]
 by_cases q : a.States = b.States
 ·rw [if_pos q, show ((1 : Int) == 0) = false from rfl, cond_false]
  by_cases ql : a.Queues.length = b.Queues.length
  ·rw [ql, bne_self_eq_false, cond_false]
   rw [bdT (Yy a.Queues (by omega) (fun i x => if some x = b.Queues[i]? then none else some (0 : Int)) ?_ ?_)]
   ·cases hf : kP (fun i x => if some x = b.Queues[i]? then none else some (0 : Int)) a.Queues 0 with
    | none =>
     have hq : a.Queues = b.Queues := by
      refine List.ext_getElem? fun i => ?_
      rcases Nat.lt_or_ge i a.Queues.length with hi | hi
      ·have hx : a.Queues[i]? = some a.Queues[i] := List.getElem?_eq_getElem hi
       have := Zb hf i _ hx
       rw [Nat.zero_add] at this
       split at this
       ·rename_i e; rw [hx]; exact e
       ·cases this
      ·rw [List.getElem?_eq_none hi, List.getElem?_eq_none (by omega)]
     have : a = b := by
      cases a; cases b
      simp only at q hq
      rw [q, hq]
     rw [if_pos this]
     rfl
    | some r =>
     obtain ⟨i, x, h1, h2⟩ := Zz hf
     rw [Nat.zero_add] at h2
     split at h2
     ·cases h2
     ·rename_i hne
      cases h2
      rw [if_neg (fun e => hne (by rw [← e]; exact h1.symm))]
      rfl
   ·intro i x hx
    have hi := x6 hx
    have hy : b.Queues[i]? = some (b.Queues[i]'(by omega)) := List.getElem?_eq_getElem _
    generalize b.Queues[i]'(by omega) = y at hy
    have l1 := ha.b x (List.mem_of_getElem? hx)
    have l2 := hb.b y (List.mem_of_getElem? hy)
    unfold jK
    rw [decide_eq_true (by omega), cond_true, yk hx, oB, yk hy, oB, z0R (by omega) (by omega), oB, hy]
    by_cases e : x = y
    ·rw [if_pos e, if_pos (by rw [e])]; rfl
    ·rw [if_neg e, if_neg (fun h => e (Option.some.inj h))]; rfl
   ·unfold jK
    rw [decide_eq_false (by omega), cond_false]
  ·rw [show (((a.Queues.length : Nat) : Int) != ((b.Queues.length : Nat) : Int)) = true from bne_iff_ne.2 (by omega), cond_true, if_neg (fun e => ql (by rw [e]))]
 ·rw [if_neg q, show ((0 : Int) == 0) = true from rfl, cond_true, if_neg (fun e => q (by rw [e]))]
theorem z4s {α : Type} (l : List α) (hl : l.length < 4611686018427387904) (p : α → Bool) {step : Int → Option (LR Int Int)} (h : ∀ (i : Nat) (x : α), l[i]? = some x → step (i : Int) = some (bif p x then .done (i : Int) else .next (w64 ((i : Int) + 1)))) (h2 : step (l.length : Int) = some (.done (l.length : Int))) :
  loop step 0 = some ((l.findIdx p : Nat) : Int) := by
 have hle := List.findIdx_le_length (p := p) (xs := l)
 refine kX (fun j => (j : Int)) (l.findIdx p) (by omega) (fun j hj => ?_) ?_
 ·have hx : l[j]? = some (l[j]'(by omega)) := List.getElem?_eq_getElem _
  have hp := List.not_of_lt_findIdx hj
  rw [h j _ hx, show p (l[j]'(by omega)) = false by simpa using hp, cond_false, wR (by omega) (by omega)]
  rfl
 ·rcases Nat.lt_or_ge (l.findIdx p) l.length with q | q
  ·have hx : l[l.findIdx p]? = some (l[l.findIdx p]'q) := List.getElem?_eq_getElem _
   rw [h _ _ hx, List.findIdx_getElem (w := q), cond_true]
  ·have : l.findIdx p = l.length := by omega
   rw [this]
   exact h2
def fnd (l : List z7) (c : z7) : Nat := l.findIdx fun y => decide (y = c)
def u9 (s : List z7 × List z6) (e : z8 × z7) : List z7 × List z6 :=
 (if fnd s.1 e.2 = s.1.length then s.1 ++ [e.2] else s.1, s.2 ++ [⟨e.1, (fnd s.1 e.2 : Nat)⟩])
theorem Vi (l : List (z8 × z7)) : ∀ s, (l.foldl u9 s).1.length ≤ s.1.length + l.length ∧ (l.foldl u9 s).2.length = s.2.length + l.length ∧ s.1.length ≤ (l.foldl u9 s).1.length := by
 induction l with
 | nil => intro s; exact ⟨Nat.le_refl _, rfl, Nat.le_refl _⟩
 | cons e l ih =>
  intro s
  obtain ⟨h1, h2, h3⟩ := ih (u9 s e)
  have e1 : (u9 s e).1.length ≤ s.1.length + 1 ∧ s.1.length ≤ (u9 s e).1.length := by
   unfold u9
   dsimp only
   split
   ·rw [List.length_append, List.length_singleton]; omega
   ·omega
  have e2 : (u9 s e).2.length = s.2.length + 1 := by
   unfold u9
   dsimp only
   rw [List.length_append, List.length_singleton]
  rw [List.foldl_cons, List.length_cons]
  omega
theorem z1s {P : z7 → Prop} (l : List (z8 × z7)) : ∀ s, (∀ c ∈ s.1, P c) → (∀ e ∈ l, P e.2) → ∀ c ∈ (l.foldl u9 s).1, P c := by
 induction l with
 | nil => intro s h _; exact h
 | cons e l ih =>
  intro s h he
  refine ih (u9 s e) ?_ (fun e' h' => he e' (List.mem_cons_of_mem _ h'))
  intro c hc
  unfold u9 at hc
  dsimp only at hc
  split at hc
  ·rcases List.mem_append.1 hc with hc | hc
   ·exact h c hc
   ·rw [List.mem_singleton.1 hc]; exact he e List.mem_cons_self
  ·exact h c hc
section
variable {x : za}
theorem zd6 {c : z7} (h : MOk x c) {list : List z7} (hm : ∀ d ∈ list, MOk x d) (hl : list.length ≤ 1048576) :
  loop (fun s => uM ((mvs x c).map kO) s.1 s.2.1 s.2.2) (list, ([] : List z6), 0) = some ((mvs x c).foldl u9 (list, [])) := by
 have hlen := z06 (c := c) h.sys
 have hok : ∀ j, ∀ d ∈ (((mvs x c).take j).foldl u9 (list, [])).1, MOk x d := fun j => z1s _ _ hm fun e he => z2U h (List.mem_of_mem_take he)
 refine kX (fun j => ((((mvs x c).take j).foldl u9 (list, [])).1, (((mvs x c).take j).foldl u9 (list, [])).2, (j : Int))) (mvs x c).length (by omega) (fun j hj => ?_) ?_
 ·have he : (mvs x c)[j]? = some (mvs x c)[j] := List.getElem?_eq_getElem hj
  have hem := z2U h (List.mem_of_getElem? he)
  have hle : ((mvs x c).map kO)[j]? = some (kO (mvs x c)[j]) := by rw [List.getElem?_map, he]; rfl
  have hk := hok j
  obtain ⟨g1, g2, _⟩ := Vi ((mvs x c).take j) (list, [])
  rw [List.length_take] at g1 g2
  have hnext : ((mvs x c).take (j + 1)).foldl u9 (list, []) = u9 (((mvs x c).take j).foldl u9 (list, [])) (mvs x c)[j] := by
   rw [List.take_add_one, he, List.foldl_append]
   rfl
  dsimp only
  rw [hnext]
  generalize ((mvs x c).take j).foldl u9 (list, []) = st at *
  generalize (mvs x c)[j] = e at *
  obtain ⟨li, l⟩ := st
  dsimp only at *
  unfold uM
  rw [List.length_map, decide_eq_true (by omega), cond_true]
  have h9 : loop (fun s => uL ((mvs x c).map kO) li (j : Int) s) 0 = some ((fnd li e.2 : Nat) : Int) := by
   refine z4s li (by omega) (fun y => decide (y = e.2)) (fun i y hy => ?_) ?_
   ·have hi := x6 hy
    unfold uL
    rw [decide_eq_true (by omega), cond_true, yk hy, oB, yk hle, oB]
    show Option.bind (uI y e.2) _ = _
    rw [z0Q (hk y (List.mem_of_getElem? hy)).cs hem.cs, oB]
    by_cases q : y = e.2
    ·rw [if_pos q, decide_eq_true q]; rfl
    ·rw [if_neg q, decide_eq_false q]; rfl
   ·unfold uL
    rw [decide_eq_false (by omega), cond_false]
  rw [h9, oB]
  unfold ki qV kj u9
  dsimp only
  rw [wR (by omega) (by omega)]
  by_cases q : fnd li e.2 = li.length
  ·rw [q, beq_self_eq_true, cond_true, yk hle, oB, gdT (by rw [List.length_singleton]; omega), oB, gdT (by rw [List.length_singleton]; simp at g2; omega), if_pos rfl]
   rfl
  ·rw [beq_false_of_ne (by omega), cond_false, yk hle, oB, gdT (by rw [List.length_singleton]; simp at g2; omega), if_neg q]
   rfl
 ·dsimp only
  unfold uM
  rw [List.length_map, decide_eq_false (by omega), cond_false, List.take_length]
def z2h (x : za) (n : Nat) (s : List z7 × List (List z6)) : List z7 × List (List z6) :=
 match s.1[n]? with
 | none => s
 | some c => (((mvs x c).foldl u9 (s.1, [])).1, s.2 ++ [((mvs x c).foldl u9 (s.1, [])).2])
def xQ (x : za) : Nat → List z7 × List (List z6)
 | 0 => ([beg x], [])
 | n + 1 => z2h x n (xQ x n)
theorem z0c (hv : z3A x) : ∀ n, (∀ d ∈ (xQ x n).1, MOk x d) ∧ 1 ≤ (xQ x n).1.length
 | 0 => ⟨fun d hd => by rw [List.mem_singleton.1 hd]; exact z7D hv, Nat.le_refl _⟩
 | n + 1 => by
  obtain ⟨h1, h2⟩ := z0c hv n
  rw [xQ, z2h]
  split
  ·exact ⟨h1, h2⟩
  ·rename_i c hc
   have hco := h1 c (List.mem_of_getElem? hc)
   refine ⟨z1s _ _ h1 fun e he => z2U hco he, ?_⟩
   have := (Vi (mvs x c) ((xQ x n).1, [])).2.2
   dsimp only at this ⊢
   omega
theorem z4H (hv : z3A x) {most : Nat} (hmost : most ≤ 1048576) :
  ∃ n, Zs x (most : Int) = some (xQ x n) ∧ ((xQ x n).1.length ≤ n ∨ most < (xQ x n).1.length) ∧ ∀ m, m < n → m < (xQ x m).1.length ∧ (xQ x m).1.length ≤ most := by
 unfold Zs
 rw [z78 hv, oB]
 have hl : Ret (loop (fun s => qU x (most : Int) s.1 s.2.1 s.2.2) (([beg x] : List z7), ([] : List (List z6)), 0)) (fun r => ∃ n, r = xQ x n ∧ ((xQ x n).1.length ≤ n ∨ most < (xQ x n).1.length) ∧ ∀ m, m < n → m < (xQ x m).1.length ∧ (xQ x m).1.length ≤ most) := by
  refine YT (fun s => ∃ n : Nat, s = ((xQ x n).1, (xQ x n).2, (n : Int)) ∧ n ≤ most + 1 ∧ (xQ x n).2.length ≤ n ∧ ∀ m, m < n → m < (xQ x m).1.length ∧ (xQ x m).1.length ≤ most) (fun s => most + 1 - s.2.2.toNat) ⟨0, rfl, by omega, Nat.le_refl _, fun m hm => by omega⟩ (by show most + 1 - 0 < _; omega) ?_
  rintro s ⟨n, rfl, hn, hs, hm⟩
  dsimp only
  unfold qU
  obtain ⟨hok, h1⟩ := z0c hv n
  by_cases q : n < (xQ x n).1.length
  ·by_cases q2 : (xQ x n).1.length ≤ most
   ·have hc : (xQ x n).1[n]? = some (xQ x n).1[n] := List.getElem?_eq_getElem q
    have hco := hok _ (List.mem_of_getElem? hc)
    have hg : xQ x (n + 1) = (((mvs x (xQ x n).1[n]).foldl u9 ((xQ x n).1, [])).1, (xQ x n).2 ++ [((mvs x (xQ x n).1[n]).foldl u9 ((xQ x n).1, [])).2]) := by
     rw [xQ, z2h, hc]
    rw [decide_eq_true (by omega), cond_true, decide_eq_true (by omega), cond_true, yk hc, oB, z6C hco, oB, zd6 hco hok (by omega), oB]
    unfold kl km
    rw [gdT (by rw [List.length_singleton]; omega), wR (by omega) (by omega)]
    refine wQ.2 ⟨⟨n + 1, by rw [hg]; rfl, by omega, by rw [hg]; dsimp only; rw [List.length_append, List.length_singleton]; omega, fun m hm' => ?_⟩, ?_⟩
    ·rcases Nat.lt_or_ge m n with q3 | q3
     ·exact hm m q3
     ·have : m = n := by omega
      subst this
      exact ⟨q, q2⟩
    ·show most + 1 - ((n : Int) + 1).toNat < most + 1 - (n : Int).toNat
     omega
   ·rw [decide_eq_true (by omega), cond_true, decide_eq_false (by omega), cond_false]
    exact wQ.2 ⟨n, rfl, .inr (by omega), hm⟩
  ·rw [decide_eq_false (by omega), cond_false]
   exact wQ.2 ⟨n, rfl, .inl (by omega), hm⟩
 obtain ⟨r, e, n, rfl, h1, h2⟩ := hl
 rw [bdT e]
 exact ⟨n, rfl, h1, h2⟩
end
theorem z0o {α : Type} [BEq α] [LawfulBEq α] (a b : y8 α) : (a == b) = true ↔ a = b := by
 cases a; cases b
 show ((_ == _) && (_ == _) && (_ == _) && (_ == _)) = true ↔ _
 simp [and_assoc]
theorem z0Z (a b : zi) : (a == b) = true ↔ a = b := by
 cases a; cases b
 show ((_ == _) && (_ == _)) = true ↔ _
 rw [Bool.and_eq_true, z0o]
 simp
instance : LawfulBEq zi := {
 eq_of_beq h := (z0Z _ _).1 h
 rfl := (z0Z _ _).2 rfl }
theorem kc (a b : zb) : (a == b) = true ↔ a = b := by
 cases a; cases b
 show ((_ == _) && (_ == _)) = true ↔ _
 rw [Bool.and_eq_true, z0o, z0o]
 simp
theorem zax {V : Type} (l : List (zb × V)) (x : zb) (v : V) : JV (JU l x v) x = some v := by
 induction l with
 | nil =>
  simp only [JU, JV]
  rw [if_pos ((kc x x).2 rfl)]
 | cons p l ih =>
  simp only [JU]
  by_cases h : p.1 = x
  ·rw [if_pos ((kc _ _).2 h)]
   simp only [JV]
   rw [if_pos ((kc x x).2 rfl)]
  ·rw [if_neg (fun e => h ((kc _ _).1 e))]
   simp only [JV, ih]
   rw [if_neg (fun e => h ((kc _ _).1 e))]
theorem zaw {V : Type} (l : List (zb × V)) {x y : zb} (v : V) (q : x ≠ y) : JV (JU l x v) y = JV l y := by
 induction l with
 | nil =>
  simp only [JU, JV]
  rw [if_neg (fun e => q ((kc x y).1 e))]
 | cons p l ih =>
  simp only [JU]
  by_cases h : p.1 = x
  ·rw [if_pos ((kc _ _).2 h)]
   simp only [JV]
   rw [if_neg (fun e => q ((kc _ _).1 e)), if_neg (fun e => q (h ▸ (kc _ _).1 e))]
  ·rw [if_neg (fun e => h ((kc _ _).1 e))]
   simp only [JV, ih]
theorem z5Z {x : za} {a b : z7} (ha : MOk x a) (hb : MOk x b) (h : y4 a = y4 b) : a = b := by
 have h1 := JJ ha.cfg.sl ha.cfg.ql ha.sys.pl.2 ha.sys.chl ha.qb
 rw [h, JJ hb.cfg.sl hb.cfg.ql hb.sys.pl.2 hb.sys.chl hb.qb] at h1
 exact (Option.some.inj h1).symm
theorem z4N (l : List z7) (c : z7) : fnd l c ≤ l.length := List.findIdx_le_length
theorem z4O (l : List z7) (d c : z7) : fnd (l ++ [d]) c = if fnd l c < l.length then fnd l c else if d = c then l.length else l.length + 1 := by
 unfold fnd
 rw [List.findIdx_append]
 split
 ·rfl
 ·rw [List.findIdx_singleton]
  by_cases q : d = c
  ·simp [q]
  ·simp [q]; omega
def z9F (x : za) (L : List z7) (m : List (zb × Int)) : Prop :=
 ∀ c, MOk x c → JV m (y4 c) = if fnd L c < L.length then some ((fnd L c : Nat) : Int) else none
section
variable {x : za}
theorem z2E {L : List z7} {m : List (zb × Int)} {d : z7} (hd : MOk x d) (h : z9F x L m) (hn : fnd L d = L.length) : z9F x (L ++ [d]) (JU m (y4 d) (L.length : Int)) := by
 intro c hc
 rw [List.length_append, List.length_singleton]
 have hle := z4N L c
 by_cases q : d = c
 ·subst q
  have e : fnd (L ++ [d]) d = L.length := by rw [z4O, if_neg (by omega), if_pos rfl]
  rw [zax, e, if_pos (by omega)]
 ·rw [zaw _ _ (fun e => q (z5Z hd hc e)), h c hc, z4O]
  by_cases q2 : fnd L c < L.length
  ·rw [if_pos q2, if_pos q2, if_pos (by omega)]
  ·rw [if_neg q2, if_neg q2, if_neg q, if_neg (by omega)]
theorem zdb (z : Int) : ∀ (es : List (z8 × z7)) (L : List z7) (m : List (zb × Int)) (l : List z6), (∀ e ∈ es, MOk x e.2) → z9F x L m → L.length ≤ 1024 → l.length + es.length ≤ 4294967296 →
  ((es.foldl u9 (L, l)).1.length ≤ 1024 ∧ ∃ m', z9F x (es.foldl u9 (L, l)).1 m' ∧ uC (yeM (yOf (fun s (e : z8 × zb) => zL s.1 s.2.1 s.2.2.1 s.2.2.2 e.1 e.2))) es (.next (z, L.map y4, m, l)) = some (.next (.next (z, (es.foldl u9 (L, l)).1.map y4, m', (es.foldl u9 (L, l)).2)))) ∨
  (1024 < (es.foldl u9 (L, l)).1.length ∧ ∃ r, uC (yeM (yOf (fun s (e : z8 × zb) => zL s.1 s.2.1 s.2.2.1 s.2.2.2 e.1 e.2))) es (.next (z, L.map y4, m, l)) = some (.done (.done (3, r)))) := by
 intro es
 induction es with
 | nil => intro L m l _ hm hl _; exact .inl ⟨hl, m, hm, rfl⟩
 | cons e es ih =>
  intro L m l he hm hl hb
  have hed := he e List.mem_cons_self
  have hes := fun e' h' => he e' (List.mem_cons_of_mem e h')
  rw [List.length_cons] at hb
  have hg := hm e.2 hed
  have hfl := z4N L e.2
  rw [List.foldl_cons]
  by_cases q : fnd L e.2 < L.length
  ·rw [if_pos q] at hg
   have hst : u9 (L, l) e = (L, l ++ [⟨e.1, ((fnd L e.2 : Nat) : Int)⟩]) := by
    unfold u9; dsimp only; rw [if_neg (by omega)]
   have e1 : yeM (yOf (fun s (e : z8 × zb) => zL s.1 s.2.1 s.2.2.1 s.2.2.2 e.1 e.2)) (.next (z, L.map y4, m, l)) e = some (.next (z, L.map y4, m, l ++ [⟨e.1, ((fnd L e.2 : Nat) : Int)⟩]), true) := by
    unfold yeM yOf zL xk
    dsimp only
    rw [hg, oB, show (some ((fnd L e.2 : Nat) : Int)).isSome = true from rfl, Bool.not_true, cond_false, gdT (by rw [List.length_singleton]; omega)]
    rfl
   rw [uC, e1, oB, cond_true, hst]
   exact ih L m _ hes hm hl (by rw [List.length_append, List.length_singleton]; omega)
  ·rw [if_neg q] at hg
   have hst : u9 (L, l) e = (L ++ [e.2], l ++ [⟨e.1, ((L.length : Nat) : Int)⟩]) := by
    unfold u9; dsimp only; rw [if_pos (by omega), show fnd L e.2 = L.length by omega]
   rw [hst]
   by_cases q2 : L.length = 1024
   ·have hlen := (Vi es (L ++ [e.2], l ++ [⟨e.1, ((L.length : Nat) : Int)⟩])).2.2
    dsimp only at hlen
    rw [List.length_append, List.length_singleton] at hlen
    refine .inr ⟨by omega, (L.map y4, m, l), ?_⟩
    have e1 : yeM (yOf (fun s (e : z8 × zb) => zL s.1 s.2.1 s.2.2.1 s.2.2.2 e.1 e.2)) (.next (z, L.map y4, m, l)) e = some (.done (3, L.map y4, m, l), false) := by
     unfold yeM yOf zL
     dsimp only
     rw [hg, oB, show (none : Option Int).isSome = false from rfl, Bool.not_false, cond_true, List.length_map, q2, show (((1024 : Nat) : Int) == 1024) = true from rfl, cond_true]
    rw [uC, e1, oB, cond_false]
   ·have e1 : yeM (yOf (fun s (e : z8 × zb) => zL s.1 s.2.1 s.2.2.1 s.2.2.2 e.1 e.2)) (.next (z, L.map y4, m, l)) e = some (.next (z, (L ++ [e.2]).map y4, JU m (y4 e.2) ((L.length : Nat) : Int), l ++ [⟨e.1, ((L.length : Nat) : Int)⟩]), true) := by
     unfold yeM yOf zL xk
     dsimp only
     rw [hg, oB, show (none : Option Int).isSome = false from rfl, Bool.not_false, cond_true, List.length_map, beq_false_of_ne (by omega), cond_false, gdT (by rw [List.length_singleton]; omega), gdT (by rw [List.length_singleton]; omega), List.map_append]
     rfl
    rw [uC, e1, oB, cond_true]
    exact ih _ _ _ hes (z2E hed hm (by omega)) (by rw [List.length_append, List.length_singleton]; omega) (by rw [List.length_append, List.length_singleton]; omega)
theorem z6U (l : List z6) : yb l = some l := by
 unfold yb
 rw [gdT (by omega)]
 simp
theorem z60 : y4 (beg x) = ⟨⟨0, 0, 0, 0⟩, ⟨⟨0, ⟨0, 0, 0, 0⟩⟩, ⟨0, ⟨0, 0, 0, 0⟩⟩, ⟨0, ⟨0, 0, 0, 0⟩⟩, ⟨0, ⟨0, 0, 0, 0⟩⟩⟩⟩ ∨ 4 < x.Parts.length ∨ 4 < x.Channels.length := by
 by_cases h1 : 4 < x.Parts.length
 ·exact .inr (.inl h1)
 ·by_cases h2 : 4 < x.Channels.length
  ·exact .inr (.inr h2)
  ·refine .inl ?_
   unfold y4 beg
   dsimp only
   generalize x.Parts.length = a at h1
   generalize x.Channels.length = b at h2
   have e1 : pad (List.replicate a 0) = ⟨0, 0, 0, 0⟩ := by
    match a, h1 with
    | 0, _ => rfl
    | 1, _ => rfl
    | 2, _ => rfl
    | 3, _ => rfl
    | 4, _ => rfl
    | n + 5, h => omega
   have e2 : Jm (List.replicate b []) = ⟨⟨0, ⟨0, 0, 0, 0⟩⟩, ⟨0, ⟨0, 0, 0, 0⟩⟩, ⟨0, ⟨0, 0, 0, 0⟩⟩, ⟨0, ⟨0, 0, 0, 0⟩⟩⟩ := by
    match b, h2 with
    | 0, _ => rfl
    | 1, _ => rfl
    | 2, _ => rfl
    | 3, _ => rfl
    | 4, _ => rfl
    | n + 5, h => omega
   rw [e1, e2]
theorem z4G (hv : z3A x) :
  (∃ n, yj x = some ((xQ x n).1.map y4, (xQ x n).2, 0) ∧ (xQ x n).1.length ≤ n ∧ (xQ x n).1.length ≤ 1024 ∧ ∀ m, m < n → m < (xQ x m).1.length) ∨
  (∃ n, yj x = some ([], [], 3) ∧ 1024 < (xQ x n).1.length ∧ ∀ m, m < n → m < (xQ x m).1.length) := by
 unfold yj
 have hb : (⟨⟨0, 0, 0, 0⟩, ⟨⟨0, ⟨0, 0, 0, 0⟩⟩, ⟨0, ⟨0, 0, 0, 0⟩⟩, ⟨0, ⟨0, 0, 0, 0⟩⟩, ⟨0, ⟨0, 0, 0, 0⟩⟩⟩⟩ : zb) = y4 (beg x) := by
  rcases z60 (x := x) with h | h | h
  ·exact h.symm
  ·have := hv.pl.2; omega
  ·have := hv.chl; omega
 rw [hb]
 have hinv0 : z9F x [beg x] (JU ([] : List (zb × Int)) (y4 (beg x)) 0) := z2E (L := []) (z7D hv) (fun c hc => rfl) rfl
 have hl : Ret (loop (fun s => xV x s.1 s.2.1 s.2.2.1 s.2.2.2.1 s.2.2.2.2) (0, ([y4 (beg x)] : List zb), (JU ([] : List (zb × Int)) (y4 (beg x)) 0), ([] : List (List z6)), 0))
   (fun r => (∃ n, r = .inl (0, (xQ x n).1.map y4, (xQ x n).2) ∧ (xQ x n).1.length ≤ n ∧ (xQ x n).1.length ≤ 1024 ∧ ∀ m, m < n → m < (xQ x m).1.length) ∨ (∃ n, r = .inr ([], [], 3) ∧ 1024 < (xQ x n).1.length ∧ ∀ m, m < n → m < (xQ x m).1.length)) := by
  refine YT (fun s => ∃ (n : Nat) (m : List (zb × Int)), s = (0, (xQ x n).1.map y4, m, (xQ x n).2, (n : Int)) ∧ z9F x (xQ x n).1 m ∧ n ≤ 1024 ∧ (xQ x n).2.length ≤ n ∧ (xQ x n).1.length ≤ 1024 ∧ ∀ m, m < n → m < (xQ x m).1.length) (fun s => 1024 - s.2.2.2.2.toNat) ⟨0, _, rfl, hinv0, by omega, Nat.le_refl _, by show 1 ≤ 1024; omega, fun m hm => by omega⟩ (by show 1024 - 0 < _; omega) ?_
  rintro s ⟨n, m, rfl, hinv, hn, hs, hlen, hm⟩
  dsimp only
  unfold xV
  obtain ⟨hok, h1⟩ := z0c hv n
  rw [List.length_map]
  by_cases q : n < (xQ x n).1.length
  ·have hc : (xQ x n).1[n]? = some (xQ x n).1[n] := List.getElem?_eq_getElem q
   have hco := hok _ (List.mem_of_getElem? hc)
   have hg : xQ x (n + 1) = (((mvs x (xQ x n).1[n]).foldl u9 ((xQ x n).1, [])).1, (xQ x n).2 ++ [((mvs x (xQ x n).1[n]).foldl u9 ((xQ x n).1, [])).2]) := by
    rw [xQ, z2h, hc]
   generalize (xQ x n).1[n] = c at *
   have hml := z06 (c := c) hv
   have hlt : ∀ m, m < n + 1 → m < (xQ x m).1.length := by
    intro m hm'
    rcases Nat.lt_or_ge m n with q3 | q3
    ·exact hm m q3
    ·have : m = n := by omega
     subst this
     exact q
   rw [decide_eq_true (by omega), cond_true, yk (l := (xQ x n).1.map y4) (i := n) (x := y4 c) (by rw [List.getElem?_map, hc]; rfl), oB]
   unfold vK
   rw [oB]
   dsimp only
   rw [z6q hco]
   rcases zdb 0 (mvs x c) (xQ x n).1 m [] (fun e he => z2U hco he) hinv hlen (by rw [List.length_nil]; omega) with ⟨h2, m', h3, h4⟩ | ⟨h2, r, h4⟩
   ·rw [h4]
    show Ret (xW (xQ x n).2 (n : Int) 0 (((mvs x c).foldl u9 ((xQ x n).1, [])).1.map y4) m' ((mvs x c).foldl u9 ((xQ x n).1, [])).2) _
    unfold xW wP
    rw [z6U, oB, gdT (by rw [List.length_singleton]; omega), wR (by omega) (by omega)]
    refine wQ.2 ⟨⟨n + 1, m', by rw [hg]; rfl, by rw [hg]; exact h3, by omega, by rw [hg]; dsimp only; rw [List.length_append, List.length_singleton]; omega, by rw [hg]; exact h2, hlt⟩, ?_⟩
    show 1024 - ((n : Int) + 1).toNat < 1024 - (n : Int).toNat
    omega
   ·rw [h4]
    refine wQ.2 (.inr ⟨n + 1, rfl, by rw [hg]; exact h2, hlt⟩)
  ·rw [decide_eq_false (by omega), cond_false]
   exact wQ.2 (.inl ⟨n, rfl, by omega, hlen, hm⟩)
 obtain ⟨r, e, h⟩ := hl
 rw [bdT e]
 rcases h with ⟨n, rfl, h1, h2, h3⟩ | ⟨n, rfl, h1, h2⟩
 ·exact .inl ⟨n, rfl, h1, h2, h3⟩
 ·exact .inr ⟨n, rfl, h1, h2⟩
end
end Go.Own
end
