/- Walks, further. -/
import Derived.Test.YtcldlioffanjaaaGreatDoorPartF
import Derived.Test.YtcldlioffanjaaaGreatDoorPartC
import Derived.Test.YtcldlioffanjaaaGreatDoorPartE
import Derived.Test.YtcldlioffanjaaaGreatDoorPartB
import Derived.OpenShut
import Derived.ChangeShapes
import Derived.WalkKit
import Derived.ProofKit
import Derived.Carry
import Derived.Test.YtcldlioffanjaaaGreatDoorRows
import Derived.Test.YtcldlioffanjaaaGreatDoorChecked
import Derived.LaidMore
import Derived.Stop.Joined
import Derived.SevenTiedAt
import Derived.Test.YtcldlioffanjaaaGreatDoorCards
import Derived.Test.YtcldlioffanjaaaGreatDoorTie
import Derived.Stop.LaidErr
import Derived.MakeChecks
noncomputable section
set_option linter.unusedVariables false
set_option linter.unusedSimpArgs false
namespace Go.Own
theorem oB {α : Type _} {β : Type _} (a : α) (f : α → Option β) : Option.bind (some a) f = f a := rfl
open Go.Proofs
set_option maxRecDepth 100000
set_option maxHeartbeats 8000000
def wq : Code := (Tryz.f47.body).getD .skip
def wl : yV := spF (α := List Int × Int) (ρ := Int × Bool) 47 (fun x => [F2_ x.1, (eI .i64) x.2]) (fun r => .tup [(eI .i64) r.1, eB r.2]) (fun x => wL x.1 x.2) [] (VS)
abbrev jL (x_ : List Int) (target : Int) (i_ : Int) : List (Nat × T) := [(0, .d (eSl 1 false (eI .i64) x_)), (1, .d (I target)), (6, .d (I ((x_.length : Nat) : Int))), (7, .d (I i_))]
abbrev jK (x_ : List Int) (target : Int) (i_1 : Int) (j_ : Int) : List (Nat × T) := [(0, .d (eSl 1 false (eI .i64) x_)), (1, .d (I target)), (6, .d (I ((x_.length : Nat) : Int))), (7, .d (I i_1)), (8, .d (I j_))]
theorem kj {ctr : Ctr} (hC : zV Tryz.prog ctr) (h0Q : ctr.Has kU) (h0w : ctr.Has qZ) : wl.Ok Tryz.prog := by
 refine y5 ?_
 rintro ⟨x_, target⟩ r0 hf0
 try unfold wL at hf0
 refine yO false [(4, none), (5, none)] wq 54 Tryz.func47 fun E hE => ?_
 refine yJ X0 hC wq [1,1,1] [] [0,1,6,7] (fun z : Int => wn x_ target z = some r0) (fun z => jL x_ target z) [(0, .d (eSl 1 false (eI .i64) x_)), (1, .d (I target)), (6, .d (I ((x_.length : Nat) : Int))), (7, .d (I 0)), (8, .d (I ((x_.length : Nat) : Int)))] [Ha (lnM (eI .i64) x_), Hh (.cut 1)] ?_ fun J1 hJ1 => ?_
 ·rintro i_ hf0
  unfold wn at hf0
  rcases yc hf0 with ⟨c0, hf0⟩ | ⟨c0, hf0⟩
  ·obtain ⟨x__e, h0, hf0⟩ := zn hf0
   let Z0 : List HO := (Hq c0 :: Hq c0 :: Hq c0 :: Hi (eI .i64) h0 :: (rpN 4 (Hq c0) []))
   rcases yc hf0 with ⟨c1, hf0⟩ | ⟨c1, hf0⟩
   ·obtain rfl := zl hf0
    exact yE X0 hC hE (Z0 ++ (rpN 7 (Hq c1) [Hq c0, Hq c1, Hq c0]))
   ·obtain ⟨x__e1, h1, hf0⟩ := zn hf0
    obtain ⟨r_, h2, hf0⟩ := zn hf0
    let Z1 : List HO := (Z0 ++ [Hq c1, Hq c1, Hq c1, Hi (eI .i64) h1, Hq c1, Hq c1, Hc h0w (x := x__e1) h2 (loC (eI .i64) x__e1 <| loN), Hq c1])
    rcases yc hf0 with ⟨c2, hf0⟩ | ⟨c2, hf0⟩
    ·obtain ⟨r_1, h3, hf0⟩ := zn hf0
     obtain rfl := zl hf0
     exact yE X0 hC hE (Z1 ++ [Hq c2, Hq c2, Hc h0w (x := target) h3 (loC (eI .i64) target <| loN), Hq c1, Hq c2, Hq c0, Hq c1, Hq c0])
    ·obtain rfl := zl hf0
     exact yE X0 hC hE (Z1 ++ [Hq c2, Hq c2, Hq c1, Hq c2, Hq c0, Hq c1, Hq c0])
  ·obtain rfl := zl hf0
   exact yE X0 hC hE (rpN 9 (Hq c0) [])
 ·obtain ⟨t2, ht2, hf0⟩ := zn hf0
  refine yL X0 hC wq [1,1,1,2,0] [J1] (fun s => wm x_ target s.1 s.2) (fun x => jK x_ target x.1 x.2) (0, ((x_.length : Nat) : Int)) ht2  [] ?_
  rintro ⟨i_1, j_⟩ m2 lr1 hf1 hl1 J2 hJ2
  try unfold wm at hf1
  rcases yc hf1 with ⟨c3, hf1⟩ | ⟨c3, hf1⟩
  ·obtain ⟨x__e2, h4, hf1⟩ := zn hf1
   obtain ⟨r_2, h5, hf1⟩ := zn hf1
   let Z2 : List HO := [Hq c3, Hi (eI .i64) h4, Hc h0Q (x := (x__e2, target)) h5 (loC (eI .i64) x__e2 <| loC (eI .i64) target <| loN)]
   rcases yc hf1 with ⟨c4, hf1⟩ | ⟨c4, hf1⟩
   ·obtain rfl := zl hf1
    exact yB ((zc8 Tryz.prog).or X0) hC hJ2 (w64 ((w64 (Int.fdiv (IntKind.u64.wrap (w64 (i_1 + j_))) (2 ^ 1))) + 1), j_) hl1 (Z2 ++ [Hq c4])
   ·obtain rfl := zl hf1
    exact yB ((zc8 Tryz.prog).or X0) hC hJ2 (i_1, w64 (Int.fdiv (IntKind.u64.wrap (w64 (i_1 + j_))) (2 ^ 1))) hl1 (Z2 ++ [Hq c4])
  ·obtain rfl := zl hf1
   obtain rfl := hl1
   exact yB X0 hC hJ1 i_1 hf0 [Hq c3]
def WZ : Code := (Tryz.f80.body).getD .skip
def jC : yV := spF (α := Int) (ρ := Bool) 80 (fun x => [(eI .u8) x]) (fun r => eB r) (fun x => jI x) [] (Ue)
theorem Vb {ctr : Ctr} (hC : zV Tryz.prog ctr) : jC.Ok Tryz.prog := by
 refine y5 ?_
 rintro x_ r0 hf0
 try unfold jI at hf0
 refine yO true [(2, none)] WZ 6 Tryz.func80 fun E hE => ?_
 obtain rfl := zl hf0
 exact yE X0 hC hE []
def XT : Code := (Tryz.f51.body).getD .skip
def qt : yV := spF (α := Int × Int) (ρ := Int) 51 (fun x => [(eI .u8) x.1, (eI .u8) x.2]) (fun r => (eI .i64) r) (fun x => jW x.1 x.2) [] (VS)
theorem W8 {ctr : Ctr} (hC : zV Tryz.prog ctr) (h0x : ctr.Has jC) : qt.Ok Tryz.prog := by
 refine y5 ?_
 rintro ⟨x_, y_⟩ r0 hf0
 try unfold jW at hf0
 refine yO true [(4, none)] XT 20 Tryz.func51 fun E hE => ?_
 obtain ⟨r_, h0, hf0⟩ := zn hf0
 obtain ⟨r_1, h1, hf0⟩ := zn hf0
 let Z0 : List HO := [Hc h0x (x := x_) h0 (loC (eI .u8) x_ <| loN), Hc h0x (x := y_) h1 (loC (eI .u8) y_ <| loN)]
 rcases yc hf0 with ⟨c0, hf0⟩ | ⟨c0, hf0⟩
 ·rcases yc hf0 with ⟨c1, hf0⟩ | ⟨c1, hf0⟩
  ·obtain rfl := zl hf0
   exact yE X0 hC hE (Z0 ++ [Hq c0, Hq c1])
  ·obtain rfl := zl hf0
   exact yE X0 hC hE (Z0 ++ [Hq c0, Hq c1])
 ·rcases yc hf0 with ⟨c2, hf0⟩ | ⟨c2, hf0⟩
  ·obtain rfl := zl hf0
   exact yE X0 hC hE (Z0 ++ [Hq c0, Hq c2])
  ·rcases yc hf0 with ⟨c3, hf0⟩ | ⟨c3, hf0⟩
   ·obtain rfl := zl hf0
    exact yE X0 hC hE (Z0 ++ [Hq c0, Hq c2, Hq c3])
   ·rcases yc hf0 with ⟨c4, hf0⟩ | ⟨c4, hf0⟩
    ·obtain rfl := zl hf0
     exact yE X0 hC hE (Z0 ++ [Hq c0, Hq c2, Hq c3, Hq c4])
    ·obtain rfl := zl hf0
     exact yE X0 hC hE (Z0 ++ [Hq c0, Hq c2, Hq c3, Hq c4])
def V0 : Code := (Tryz.f52.body).getD .skip
def jD : yV := spF (α := Int × Int) (ρ := Int) 52 (fun x => [(eI .i64) x.1, (eI .i64) x.2]) (fun r => (eI .i64) r) (fun x => jJ x.1 x.2) [] (VS)
theorem Vc {ctr : Ctr} (hC : zV Tryz.prog ctr) (h0h : ctr.Has qK) : jD.Ok Tryz.prog := by
 refine y5 ?_
 rintro ⟨x_, y_⟩ r0 hf0
 try unfold jJ at hf0
 refine yO true [(4, none)] V0 20 Tryz.func52 fun E hE => ?_
 obtain ⟨r_, h0, hf0⟩ := zn hf0
 obtain ⟨r_1, h1, hf0⟩ := zn hf0
 let Z0 : List HO := [Hc h0h (x := x_) h0 (loC (eI .i64) x_ <| loN), Hc h0h (x := y_) h1 (loC (eI .i64) y_ <| loN)]
 rcases yc hf0 with ⟨c0, hf0⟩ | ⟨c0, hf0⟩
 ·rcases yc hf0 with ⟨c1, hf0⟩ | ⟨c1, hf0⟩
  ·obtain rfl := zl hf0
   exact yE X0 hC hE (Z0 ++ [Hq c0, Hq c1])
  ·obtain rfl := zl hf0
   exact yE X0 hC hE (Z0 ++ [Hq c0, Hq c1])
 ·rcases yc hf0 with ⟨c2, hf0⟩ | ⟨c2, hf0⟩
  ·obtain rfl := zl hf0
   exact yE X0 hC hE (Z0 ++ [Hq c0, Hq c2])
  ·rcases yc hf0 with ⟨c3, hf0⟩ | ⟨c3, hf0⟩
   ·obtain rfl := zl hf0
    exact yE X0 hC hE (Z0 ++ [Hq c0, Hq c2, Hq c3])
   ·rcases yc hf0 with ⟨c4, hf0⟩ | ⟨c4, hf0⟩
    ·obtain rfl := zl hf0
     exact yE X0 hC hE (Z0 ++ [Hq c0, Hq c2, Hq c3, Hq c4])
    ·obtain rfl := zl hf0
     exact yE X0 hC hE (Z0 ++ [Hq c0, Hq c2, Hq c3, Hq c4])
def YG : Code := (Tryz.f50.body).getD .skip
def Yl : yV := spF (α := List Int) (ρ := Int) 50 (fun x => [F2_ x]) (fun r => (eI .i64) r) (fun x => Vv x) [] (Ue)
abbrev Ux : List (Nat × T) := [(3, .d (I 0))]
abbrev Uw (vals : List Int) (x8 : Int) : List (Nat × T) := [(3, .d (I 0)), (6, .d (eSl 1 false (eI .i64) vals)), (7, .d (I ((vals.length : Nat) : Int))), (8, .d (I x8))]
theorem Kn {ctr : Ctr} (hC : zV Tryz.prog ctr) : Yl.Ok Tryz.prog := by
 refine y5 ?_
 rintro vals r0 hf0
 try unfold Vv at hf0
 refine yO true [(2, none)] YG 18 Tryz.func50 fun E hE => ?_
 refine yJ X0 hC YG [1,1] [] [3] (fun z : Unit => Yz = some r0) (fun z => Ux) [(0, .d (eSl 1 false (eI .i64) vals)), (3, .d (I 0))] [Hh (.cut 2)] ?_ fun J1 hJ1 => ?_
 ·rintro ⟨⟩ hf0
  unfold Yz at hf0
  obtain rfl := zl hf0
  exact yE X0 hC hE []
 ·obtain ⟨t2, ht2, hf0⟩ := zn hf0
  refine yL X0 hC YG [1,1,2,1,0] [J1] (fun s => Yy vals s) (fun x => Uw vals x) 0 ht2  [Ha (lnM (eI .i64) vals)] ?_
  rintro x8 m2 lr1 hf1 hl1 J2 hJ2
  try unfold Yy at hf1
  rcases yc hf1 with ⟨c0, hf1⟩ | ⟨c0, hf1⟩
  ·obtain ⟨val_e, h0, hf1⟩ := zn hf1
   rcases yc hf1 with ⟨c1, hf1⟩ | ⟨c1, hf1⟩
   ·obtain rfl := zl hf1
    obtain rfl := hl1
    obtain rfl := zl hf0
    exact yE X0 hC hE [Hq c0, Hi (eI .i64) h0, Hq c1]
   ·obtain rfl := zl hf1
    exact yB X0 hC hJ2 (w64 (x8 + 1)) hl1 [Hq c0, Hi (eI .i64) h0, Hq c1]
  ·obtain rfl := zl hf1
   obtain rfl := hl1
   exact yB X0 hC hJ1 () hf0 [Hq c0]
def XS : Code := (Tryz.f49.body).getD .skip
def qq : yV := spF (α := zg × zg) (ρ := Int) 49 (fun x => [F8_ x.1, F8_ x.2]) (fun r => (eI .i64) r) (fun x => jR x.1 x.2) [] (VS)
theorem W6 {ctr : Ctr} (hC : zV Tryz.prog ctr) (h0R : ctr.Has qt) (h0y : ctr.Has jD) (h0z : ctr.Has Yl) : qq.Ok Tryz.prog := by
 refine y5 ?_
 rintro ⟨a_, b_⟩ r0 hf0
 try unfold jR at hf0
 refine yO true [(4, none)] XS 22 Tryz.func49 fun E hE => ?_
 obtain ⟨r_, h0, hf0⟩ := zn hf0
 obtain ⟨r_1, h1, hf0⟩ := zn hf0
 obtain ⟨r_2, h2, hf0⟩ := zn hf0
 obtain ⟨r_3, h3, hf0⟩ := zn hf0
 obtain rfl := zl hf0
 exact yE X0 hC hE [Hc h0R (x := (a_.Kind, b_.Kind)) h0 (loC (eI .u8) a_.Kind <| loC (eI .u8) b_.Kind <| loN), Hc h0y (x := (a_.Label, b_.Label)) h1 (loC (eI .i64) a_.Label <| loC (eI .i64) b_.Label <| loN), Hc h0y (x := (a_.To, b_.To)) h2 (loC (eI .i64) a_.To <| loC (eI .i64) b_.To <| loN), Hg (z05 h0z), Hm (shM (eI .i64) (eI .i64) ([r_, r_1, r_2])), Hs (z06 h0z (x := [r_, r_1, r_2]) h3 (loC F1_ ([r_, r_1, r_2] : List Int) <| loN))]
def zI : Code := (Tryz.f54.body).getD .skip
def xe : yV := spF (α := List zg) (ρ := List zg) 54 (fun x => [(eOs 3 false F8_) x]) (fun r => (eOs 3 false F8_) r) (fun x => xI x) [true] (Ue)
abbrev uO (s_ : List zg) : List (Nat × T) := [(0, .own (eOs 3 false F8_ s_))]
abbrev uN (s_ : List zg) (k_ : Int) : List (Nat × T) := [(0, .own (eOs 3 false F8_ s_)), (3, .d (I k_))]
abbrev uM (s_1 : List zg) (k_1 : Int) : List (Nat × T) := [(0, .own (eOs 3 false F8_ s_1)), (3, .d (I k_1))]
abbrev uL (pv0 : Value) (k_ : Int) (k2 : Int) (s_3 : List zg) (k_3 : Int) : List (Nat × T) := [(0, .own (eOs 3 false F8_ s_3)), (3, .d (I k_3)), (4, .d (.atom (XQ 3 pv0 k_))), (5, .d (I k2))]
abbrev uJ (pv0 : Value) (k_ : Int) (s_2 : List zg) (k_2 : Int) (k2 : Int) : List (Nat × T) := [(0, .own (eOs 3 false F8_ s_2)), (3, .d (I k_2)), (4, .d (.atom (XQ 3 pv0 k_))), (5, .d (I k2))]
abbrev uK (s_ : List zg) (k_ : Int) : List (Nat × T) := [(0, .own (eOs 3 false F8_ s_)), (3, .d (I k_))]
def zo : XH Tryz.prog := ((zdq zQ 59).or X0)
theorem qB {ctr : Ctr} (hC : zV Tryz.prog ctr) : xe.Ok Tryz.prog := by
 refine y5 ?_
 rintro s_ r0 hf0
 try unfold xI at hf0
 refine yO true [(2, none)] zI 61 Tryz.func54 fun E hE => ?_
 refine z0T (y := eOs 3 false F8_ s_) rfl 0 (by kernel_rfl) (by kernel_rfl) fun pv0 hv0 => ?_
 let Z0 : List HO := [Ha (lnM F8_ s_)]
 rcases yc hf0 with ⟨c0, hf0⟩ | ⟨c0, hf0⟩
 ·obtain rfl := zl hf0
  exact yE zo hC hE (Z0 ++ [Hq c0])
 ·refine yJ zo hC zI [1,1] [] [0] (fun z : Unit => xk s_ = some r0) (fun z => uO s_) [(0, .own (eOs 3 false F8_ s_))] (Z0 ++ [Hq c0, Hh (.cut 0)]) ?_ fun J1 hJ1 => ?_
  ·rintro ⟨⟩ hf0
   unfold xk at hf0
   obtain rfl := zl hf0
   exact yE zo hC hE []
  ·obtain ⟨t2, ht2, hf0⟩ := zn hf0
   refine yL zo hC zI [1,1,2,1,0] [J1] (fun s => xh s_ s) (fun x => uK s_ x) 1 ht2  [] ?_
   rintro k_ m2 lr1 hf1 hl1 J2 hJ2
   try unfold xh at hf1
   let Z1 : List HO := [Ha (lnM F8_ s_)]
   rcases yc hf1 with ⟨c1, hf1⟩ | ⟨c1, hf1⟩
   ·refine yJ zo hC zI [1,1,2,1,0,0,1] [J1, J2] [0,3] (fun z : Unit => xj k_ = some lr1) (fun z => uN s_ k_) [(0, .own (eOs 3 false F8_ s_)), (3, .d (I k_))] (Z1 ++ [Hq c1, Hh (.cut 0)]) ?_ fun J3 hJ3 => ?_
    ·rintro ⟨⟩ hf1
     unfold xj at hf1
     obtain rfl := zl hf1
     exact yB zo hC hJ2 (w64 (k_ + 1)) hl1 []
    ·obtain ⟨s__e, h0, hf1⟩ := zn hf1
     obtain ⟨s__e1, h1, hf1⟩ := zn hf1
     let Z2 : List HO := [Hn (iL F8_ h0), Hs (iM F8_ h0), Hn (iL F8_ h1), Hs (iM F8_ h1)]
     rcases yc hf1 with ⟨c2, hf1⟩ | ⟨c2, hf1⟩
     ·obtain ⟨g0, hf1⟩ := gdE hf1
      refine yJ ((xAs Tryz.prog 4 (XQ 3 pv0 k_)).or ((xVw zQ 28 0 pv0).or zo)) hC zI [1,1,2,1,0,0,1,2,0,1,0,1] [J1, J2, J3] [0,3] (fun z : List zg × Int => xi z.1 z.2 = some lr1) (fun z => uM z.1 z.2) [(0, .own (eOs 3 false F8_ s_)), (3, .d (I k_)), (4, .d (.atom (XQ 3 pv0 k_)))] (Z2 ++ [Hq c2, Hn (⟨.inl rfl, rfl⟩ : (T.als 0 [] 0 0 = T.als 0 [] 0 0 ∨ T.als 0 [] 0 0 = T.d (.atom pv0)) ∧ some pv0 = some pv0), Hn (⟨g0.1, cuB F8_ g0⟩ : (0 : Int) ≤ k_ ∧ k_.toNat ≤ (s_.map F8_).length), Hn (rfl : T.d (.atom (XQ 3 pv0 k_)) = T.d (.atom (XQ 3 pv0 k_))), Hh (.cut 1)]) ?_ fun J4 hJ4 => ?_
      ·rintro ⟨s_1, k_1⟩ hf1
       unfold xi at hf1
       obtain ⟨g1, hf1⟩ := gdE hf1
       obtain ⟨g2, hf1⟩ := gdE hf1
       obtain ⟨g3, hf1⟩ := gdE hf1
       obtain rfl := zl hf1
       obtain rfl := hl1
       obtain rfl := zl hf0
       exact yE ((xVc zQ 56 3 0 pv0 k_1).or ((xVw zQ 56 0 pv0).or zo)) hC hE [Hn (⟨.inl rfl, rfl⟩ : (T.als 0 [] 0 0 = T.als 0 [] 0 0 ∨ T.als 0 [] 0 0 = T.d (.atom pv0)) ∧ some pv0 = some pv0), Hn (⟨g1.1, cuB F8_ g1⟩ : (0 : Int) ≤ k_1 ∧ k_1.toNat ≤ (s_1.map F8_).length), Hn (⟨rfl, rfl⟩ : T.d (.atom (XQ 3 pv0 k_1)) = T.d (.atom (XQ 3 pv0 k_1)) ∧ some pv0 = some pv0), Hn (⟨g2.1, cuB F8_ g2, dM F8_ s_1⟩ : (0 : Int) ≤ k_1 ∧ k_1.toNat ≤ (s_1.map F8_).length ∧ A.areD (s_1.map F8_) = true), Hx (.l ((s_1.take k_1.toNat ++ List.replicate (s_1.length - k_1.toNat) (zg.mk 0 0 0)).map F8_)) (vcM F8_ s_1 k_1.toNat (zg.mk 0 0 0)), Hn g3.1, Hn (cuB F8_ g3), Hl (cuM F8_ (s_1.take k_1.toNat ++ List.replicate (s_1.length - k_1.toNat) (zg.mk 0 0 0)) k_1)]
      ·obtain ⟨t5, ht5, hf1⟩ := zn hf1
       refine yL zo hC zI [1,1,2,1,0,0,1,2,0,1,0,1,2,1,0] [J1, J2, J3, J4] (fun s => xg k_ s.1 s.2.1 s.2.2) (fun x => uJ pv0 k_ x.1 x.2.1 x.2.2) (s_, k_, 1) ht5  [] ?_
       rintro ⟨s_2, k_2, k2⟩ m5 lr2 hf2 hl2 J5 hJ5
       try unfold xg at hf2
       let Z3 : List HO := [Hn (⟨rfl, rfl⟩ : T.d (.atom (XQ 3 pv0 k_)) = T.d (.atom (XQ 3 pv0 k_)) ∧ some pv0 = some pv0), Hx (.a (.atom (.int .i64 ((s_2.length - k_.toNat : Nat) : Int)))) (vlM F8_ s_2 k_.toNat)]
       rcases yc hf2 with ⟨c3, hf2⟩ | ⟨c3, hf2⟩
       ·refine yJ ((xVl zQ 31 59 3 0 pv0 k_ (by kernel_rfl)).or zo) hC zI [1,1,2,1,0,0,1,2,0,1,0,1,2,1,0,0,1] [J1, J2, J3, J4, J5] [0,3,4,5] (fun z : List zg × Int => yn k2 z.1 z.2 = some lr2) (fun z => uL pv0 k_ k2 z.1 z.2) [(0, .own (eOs 3 false F8_ s_2)), (3, .d (I k_2)), (4, .d (.atom (XQ 3 pv0 k_))), (5, .d (I k2))] (Z3 ++ [Hq c3, Hh (.cut 0)]) ?_ fun J6 hJ6 => ?_
        ·rintro ⟨s_3, k_3⟩ hf2
         unfold yn at hf2
         obtain rfl := zl hf2
         exact yB zo hC hJ5 (s_3, k_3, w64 (k2 + 1)) hl2 []
        ·obtain ⟨g4, hf2⟩ := gdE hf2
         obtain ⟨s__e2, h2, hf2⟩ := zn hf2
         obtain ⟨g5, hf2⟩ := gdE hf2
         obtain ⟨s__e3, h3, hf2⟩ := zn hf2
         let Z4 : List HO := [Hn (⟨rfl, rfl⟩ : T.d (.atom (XQ 3 pv0 k_)) = T.d (.atom (XQ 3 pv0 k_)) ∧ some pv0 = some pv0), Hn (⟨g4.1, g4.2, (iL F8_ h2).2⟩ : (0 : Int) ≤ k_ ∧ (0 : Int) ≤ k2 ∧ (k_ + k2).toNat < (s_2.map F8_).length), Hs (iM F8_ h2), Hn (⟨rfl, rfl⟩ : T.d (.atom (XQ 3 pv0 k_)) = T.d (.atom (XQ 3 pv0 k_)) ∧ some pv0 = some pv0), Hn (⟨g5.1, g5.2, (iL F8_ h3).2⟩ : (0 : Int) ≤ k_ ∧ (0 : Int) ≤ w64 (k2 - 1) ∧ (k_ + (w64 (k2 - 1))).toNat < (s_2.map F8_).length), Hs (iM F8_ h3)]
         rcases yc hf2 with ⟨c4, hf2⟩ | ⟨c4, hf2⟩
         ·obtain ⟨g6, hf2⟩ := gdE hf2
          obtain ⟨s__e4, h4, hf2⟩ := zn hf2
          obtain ⟨s__e5, h5, hf2⟩ := zn hf2
          exact yB ((xVi zQ 49 3 0 pv0 k_).or ((xVi zQ 42 3 0 pv0 k_).or ((xVi zQ 37 3 0 pv0 k_).or zo))) hC hJ6 ((s_2.set k_2.toNat s__e4), w64 (k_2 + 1)) hf2 (Z4 ++ [Hq c4, Hn (⟨rfl, rfl⟩ : T.d (.atom (XQ 3 pv0 k_)) = T.d (.atom (XQ 3 pv0 k_)) ∧ some pv0 = some pv0), Hn (⟨g6.1, g6.2, (iL F8_ h4).2⟩ : (0 : Int) ≤ k_ ∧ (0 : Int) ≤ k2 ∧ (k_ + k2).toNat < (s_2.map F8_).length), Hs (iM F8_ h4), Hn (iL F8_ h5), Hs (iM F8_ h5), Hs (iM F8_ h5), Hl (sM F8_ s_2 k_2 s__e4)])
         ·exact yB ((xVi zQ 42 3 0 pv0 k_).or ((xVi zQ 37 3 0 pv0 k_).or zo)) hC hJ6 (s_2, k_2) hf2 (Z4 ++ [Hq c4])
       ·obtain rfl := zl hf2
        obtain rfl := hl2
        exact yB ((xVl zQ 31 59 3 0 pv0 k_ (by kernel_rfl)).or zo) hC hJ4 (s_2, k_2) hf1 (Z3 ++ [Hq c3])
     ·exact yB zo hC hJ3 () hf1 (Z2 ++ [Hq c2])
   ·obtain rfl := zl hf1
    obtain rfl := hl1
    exact yB zo hC hJ1 () hf0 (Z1 ++ [Hq c1])
def jd : Code := (Tryz.f53.body).getD .skip
def xH : yV := spF (α := List zg) (ρ := List zg) 53 (fun x => [Y3 x]) (fun r => V4 r) (fun x => wc x) [] (Ue)
theorem jl {ctr : Ctr} (hC : zV Tryz.prog ctr) : xH.Ok Tryz.prog := by
 refine y5 ?_
 rintro s_ r0 hf0
 try unfold wc at hf0
 refine yO true [(2, none)] jd 9 Tryz.func53 fun E hE => ?_
 obtain ⟨g0, hf0⟩ := gdE hf0
 obtain rfl := zl hf0
 exact yE X0 hC hE [Ha (lnM F8_ s_), Ha (lnM F8_ s_), Hn (slB g0), Hn (slC g0), Hn (z1P F8_ g0), Ha (z7G 3 F8_ s_ 0 ((s_.length : Nat) : Int).toNat)]
def j4 : Code := (Tryz.f55.body).getD .skip
def xx : yV := spF (α := List (List zg)) (ρ := List (List zg)) 55 (fun x => [zdj x]) (fun r => zaz r) (fun x => xV x) [] (Ue)
theorem j8 {ctr : Ctr} (hC : zV Tryz.prog ctr) : xx.Ok Tryz.prog := by
 refine y5 ?_
 rintro s_ r0 hf0
 try unfold xV at hf0
 refine yO true [(2, none)] j4 9 Tryz.func55 fun E hE => ?_
 obtain ⟨g0, hf0⟩ := gdE hf0
 obtain rfl := zl hf0
 exact yE X0 hC hE [Ha (lnM Y3 s_), Ha (lnM Y3 s_), Hn (slB g0), Hn (slC g0), Hn (z1P Y3 g0), Ha (z7G 1 Y3 s_ 0 ((s_.length : Nat) : Int).toNat)]
def yK : Code := (Tryz.f17.body).getD .skip
def jz : yV := spF (α := z7 × List Int) (ρ := zF × Int) 17 (fun x => [xR x.1, F2_ x.2]) (fun r => .tup [(wN (eI .i64) (eI .i64) zaz) r.1, (eI .i64) r.2]) (fun x => ju x.1 x.2) [] (VS)
abbrev Xw (x_ : z7) (out_Rows : List (List zg)) : List (Nat × T) := [(4, .own (.box (.agg [I 0, I 0, eOs 1 true Y3 []]))), (10, .own (.box (.agg [I 0, I x_.Labels, eOs 1 false V4 out_Rows])))]
abbrev Xv (x_ : z7) (hidden : List Int) (r_2 : List za × List (List z6) × Int) (x51 : Int) (out_Rows2 : List (List zg)) : List (Nat × T) := [(1, .d (eSl 1 false (eI .i64) hidden)), (2, .own (.box (xR x_))), (4, .own (.box (.agg [I 0, I 0, eOs 1 true Y3 []]))), (10, .own (.box (.agg [I 0, I x_.Labels, eOs 1 false V4 out_Rows2]))), (49, .d (eSl 1 true wr r_2.2.1)), (50, .d (I ((r_2.2.1.length : Nat) : Int))), (51, .d (I x51))]
abbrev Xu (x_ : z7) (hidden : List Int) (r_2 : List za × List (List z6) × Int) (out_Rows1 : List (List zg)) (x51 : Int) (row : List zg) : List (Nat × T) := [(1, .d (eSl 1 false (eI .i64) hidden)), (2, .own (.box (xR x_))), (4, .own (.box (.agg [I 0, I 0, eOs 1 true Y3 []]))), (10, .own (.box (.agg [I 0, I x_.Labels, eOs 1 false V4 out_Rows1]))), (13, .own (eOs 3 false F8_ row)), (49, .d (eSl 1 true wr r_2.2.1)), (50, .d (I ((r_2.2.1.length : Nat) : Int))), (51, .d (I x51))]
abbrev Xt (x_ : z7) (hidden : List Int) (r_2 : List za × List (List z6) × Int) (out_Rows1 : List (List zg)) (x51 : Int) (u_ : List z6) (row1 : List zg) (x57 : Int) (u__e : z6) (arc_Kind : Int) (arc_Label : Int) : List (Nat × T) := [(1, .d (eSl 1 false (eI .i64) hidden)), (2, .own (.box (xR x_))), (4, .own (.box (.agg [I 0, I 0, eOs 1 true Y3 []]))), (10, .own (.box (.agg [I 0, I x_.Labels, eOs 1 false V4 out_Rows1]))), (13, .own (eOs 3 false F8_ row1)), (16, .own (.box (.agg [.atom (.int .u8 arc_Kind), I arc_Label, I u__e.To]))), (49, .d (eSl 1 true wr r_2.2.1)), (50, .d (I ((r_2.2.1.length : Nat) : Int))), (51, .d (I x51)), (55, .d (eSl 5 true jZ u_)), (56, .d (I ((u_.length : Nat) : Int))), (57, .d (I x57))]
abbrev Xr (x_ : z7) (hidden : List Int) (r_2 : List za × List (List z6) × Int) (out_Rows1 : List (List zg)) (x51 : Int) (u_ : List z6) (row1 : List zg) (x57 : Int) : List (Nat × T) := [(1, .d (eSl 1 false (eI .i64) hidden)), (2, .own (.box (xR x_))), (4, .own (.box (.agg [I 0, I 0, eOs 1 true Y3 []]))), (10, .own (.box (.agg [I 0, I x_.Labels, eOs 1 false V4 out_Rows1]))), (13, .own (eOs 3 false F8_ row1)), (49, .d (eSl 1 true wr r_2.2.1)), (50, .d (I ((r_2.2.1.length : Nat) : Int))), (51, .d (I x51)), (55, .d (eSl 5 true jZ u_)), (56, .d (I ((u_.length : Nat) : Int))), (57, .d (I x57))]
abbrev Xs (x_ : z7) (hidden : List Int) (r_2 : List za × List (List z6) × Int) (out_Rows1 : List (List zg)) (x51 : Int) : List (Nat × T) := [(1, .d (eSl 1 false (eI .i64) hidden)), (2, .own (.box (xR x_))), (4, .own (.box (.agg [I 0, I 0, eOs 1 true Y3 []]))), (10, .own (.box (.agg [I 0, I x_.Labels, eOs 1 false V4 out_Rows1]))), (49, .d (eSl 1 true wr r_2.2.1)), (50, .d (I ((r_2.2.1.length : Nat) : Int))), (51, .d (I x51))]
theorem V8 {ctr : Ctr} (hC : zV Tryz.prog ctr) (h06 : ctr.Has wW) (h0l : ctr.Has uZ) (h0e : ctr.Has xM) (h0S : ctr.Has wl) (h0T : ctr.Has qq) (h0U : ctr.Has xe) (h0A : ctr.Has xH) (h0B : ctr.Has xx) : jz.Ok Tryz.prog := by
 refine y5 ?_
 rintro ⟨x_, hidden⟩ r0 hf0
 try unfold ju at hf0
 refine yO false [(4, some 53), (5, none)] yK 121 Tryz.func17 fun E hE => ?_
 obtain ⟨r_, h0, hf0⟩ := zn hf0
 let Z0 : List HO := [Hc h06 (x := x_) h0 (loC xR x_ <| loN)]
 rcases yc hf0 with ⟨c0, hf0⟩ | ⟨c0, hf0⟩
 ·obtain rfl := zl hf0
  exact yE X0 hC hE (Z0 ++ [Hq c0, Hm (shM Y3 Y3 [])])
 ·obtain ⟨r_1, h1, hf0⟩ := zn hf0
  let Z1 : List HO := (Z0 ++ [Hq c0, Hc h0l (x := (hidden, x_.Labels)) h1 (loC F2_ hidden <| loC (eI .i64) x_.Labels <| loN)])
  rcases yc hf0 with ⟨c1, hf0⟩ | ⟨c1, hf0⟩
  ·obtain rfl := zl hf0
   exact yE X0 hC hE (Z1 ++ [Hq c1, Hm (shM Y3 Y3 [])])
  ·obtain ⟨r_2, h2, hf0⟩ := zn hf0
   let Z2 : List HO := (Z1 ++ [Hq c1, Hc h0e (x := x_) h2 (loC xR x_ <| loN)])
   rcases yc hf0 with ⟨c2, hf0⟩ | ⟨c2, hf0⟩
   ·obtain rfl := zl hf0
    exact yE X0 hC hE (Z2 ++ [Hq c2, Hm (shM Y3 Y3 [])])
   ·let Z3 : List HO := (Z2 ++ [Hq c2, Ha (lnM yG r_2.1)])
    rcases yc hf0 with ⟨c3, hf0⟩ | ⟨c3, hf0⟩
    ·obtain rfl := zl hf0
     exact yE X0 hC hE (Z3 ++ [Hq c3, Hm (shM Y3 Y3 [])])
    ·refine yJ X0 hC yK [1,1,1,1,1,1,1] [] [4,10] (fun z : List (List zg) => jt x_ z = some r0) (fun z => Xw x_ z) [(1, .d (eSl 1 false (eI .i64) hidden)), (2, .own (.box (xR x_))), (4, .own (.box (.agg [I 0, I 0, eOs 1 true Y3 []]))), (8, .d (eSl 1 true wr r_2.2.1)), (10, .own (.box (.agg [I 0, I x_.Labels, eOs 1 true Y3 []])))] (Z3 ++ [Hq c3, Hh (.cut 1)]) ?_ fun J1 hJ1 => ?_
     ·rintro out_Rows hf0
      unfold jt at hf0
      obtain ⟨r_3, h3, hf0⟩ := zn hf0
      obtain rfl := zl hf0
      exact yE X0 hC hE [Hg (z05 h0B), Hm (shM V4 V4 out_Rows), Hs (z06 h0B (x := out_Rows) h3 (loC (eSl 1 false V4) out_Rows <| loN)), Hm (shM V4 V4 out_Rows)]
     ·obtain ⟨t2, ht2, hf0⟩ := zn hf0
      refine yLx X0 hC yK [1,1,1,1,1,1,1,2,1,0] [J1] (fun s => jq x_ hidden r_2 s.1 s.2) (fun x => Xs x_ hidden r_2 x.1 x.2) (([] : List (List zg)), 0) ht2 [(1, .d (eSl 1 false (eI .i64) hidden)), (2, .own (.box (xR x_))), (4, .own (.box (.agg [I 0, I 0, eOs 1 true Y3 []]))), (10, .own (.box (.agg [I 0, I x_.Labels, eOs 1 true V4 []]))), (49, .d (eSl 1 true wr r_2.2.1)), (50, .d (I ((r_2.2.1.length : Nat) : Int))), (51, .d (I 0))] inferInstance [Ha (lnM wr r_2.2.1)] ?_
      rintro ⟨out_Rows1, x51⟩ m2 lr1 hf1 hl1 J2 hJ2
      try unfold jq at hf1
      rcases yc hf1 with ⟨c4, hf1⟩ | ⟨c4, hf1⟩
      ·refine yJ X0 hC yK [1,1,1,1,1,1,1,2,1,0,0,1,1] [J1, J2] [1,2,4,10,49,50,51] (fun z : List (List zg) => js x51 z = some lr1) (fun z => Xv x_ hidden r_2 x51 z) [(1, .d (eSl 1 false (eI .i64) hidden)), (2, .own (.box (xR x_))), (4, .own (.box (.agg [I 0, I 0, eOs 1 true Y3 []]))), (10, .own (.box (.agg [I 0, I x_.Labels, eOs 1 false V4 out_Rows1]))), (49, .d (eSl 1 true wr r_2.2.1)), (50, .d (I ((r_2.2.1.length : Nat) : Int))), (51, .d (I x51))] [Hq c4, Hh (.cut 0)] ?_ fun J3 hJ3 => ?_
       ·rintro out_Rows2 hf1
        unfold js at hf1
        obtain rfl := zl hf1
        exact yB X0 hC hJ2 (out_Rows2, w64 (x51 + 1)) hl1 []
       ·obtain ⟨u_, h4, hf1⟩ := zn hf1
        refine yJ X0 hC yK [1,1,1,1,1,1,1,2,1,0,0,1,1,2,0,1,1] [J1, J2, J3] [1,2,4,10,13,49,50,51] (fun z : List zg => jr out_Rows1 x51 z = some lr1) (fun z => Xu x_ hidden r_2 out_Rows1 x51 z) [(1, .d (eSl 1 false (eI .i64) hidden)), (2, .own (.box (xR x_))), (4, .own (.box (.agg [I 0, I 0, eOs 1 true Y3 []]))), (10, .own (.box (.agg [I 0, I x_.Labels, eOs 1 false V4 out_Rows1]))), (12, .d (eSl 5 true jZ u_)), (13, .own (eOs 3 true F8_ [])), (49, .d (eSl 1 true wr r_2.2.1)), (50, .d (I ((r_2.2.1.length : Nat) : Int))), (51, .d (I x51))] [Hi wr h4, Hh (.cut 1)] ?_ fun J4 hJ4 => ?_
        ·rintro row hf1
         unfold jr at hf1
         refine yA X0 hC yK [1,1,1,1,1,1,1,2,1,0,0,1,1,2,0,1,1,1] [J1, J2, J3] [(1, .d (eSl 1 false (eI .i64) hidden)), (2, .own (.box (xR x_))), (4, .own (.box (.agg [I 0, I 0, eOs 1 true Y3 []]))), (10, .own (.box (.agg [I 0, I x_.Labels, eOs 1 false V4 out_Rows1]))), (13, .own (eOs 3 false F8_ row)), (49, .d (eSl 1 true wr r_2.2.1)), (50, .d (I ((r_2.2.1.length : Nat) : Int))), (51, .d (I x51))] [Hh (.cut 0)] ?_
         obtain ⟨sorted, h5, hf1⟩ := zn hf1
         refine z0g (by kernel_rfl) (x := (sub [1,1,1,1,1,1,1,2,1,0,0,1,1,2,0,1,1,1,0] yK)) (y := (sub [1,1,1,1,1,1,1,2,1,0,0,1,1,2,0,1,1,1,1] yK)) 13 (fun st1 => Own.canon [1,2,4,10,13,49,50,51] st1 = ofL [(1, .d (eSl 1 false (eI .i64) hidden)), (2, .own (.box (xR x_))), (4, .own (.box (.agg [I 0, I 0, eOs 1 true Y3 []]))), (10, .own (.box (.agg [I 0, I x_.Labels, eOs 1 false V4 out_Rows1]))), (13, .own (eOs 3 false F8_ sorted)), (49, .d (eSl 1 true wr r_2.2.1)), (50, .d (I ((r_2.2.1.length : Nat) : Int))), (51, .d (I x51))]) (fun pv13 => yF ((j7 (P := Tryz.prog) xQ [13] (z2n zaL (f := F8_) (t := false) (v := pv13) (fun _ => rfl) (fun _ => rfl) (fun x y c h => xN hC h0T (x := (x, y)) h) h5) 101).or X0) hC .normal [(1, .d (eSl 1 false (eI .i64) hidden)), (2, .own (.box (xR x_))), (4, .own (.box (.agg [I 0, I 0, eOs 1 true Y3 []]))), (10, .own (.box (.agg [I 0, I x_.Labels, eOs 1 false V4 out_Rows1]))), (13, .own (eOs 3 false F8_ sorted)), (49, .d (eSl 1 true wr r_2.2.1)), (50, .d (I ((r_2.2.1.length : Nat) : Int))), (51, .d (I x51))] [Hn (Xd (f := .fn 48 []) (xs := [.atom pv13, .fn 49 []]) (ls := [(pv13, eOs 3 false F8_ row)]) (r := .tup []) (ys := [eOs 3 false F8_ sorted]) [.atom pv13, .fn 49 []] (show Kb [.atom pv13, .fn 49 []] [.atom pv13, .fn 49 []] from inferInstance))] fun st0 h0 => ⟨rfl, h0⟩) fun st1 h1 => K5 h1 ?_
         obtain ⟨r_4, h6, hf1⟩ := zn hf1
         obtain ⟨r_5, h7, hf1⟩ := zn hf1
         let Z4 : List HO := [Hc h0U (x := sorted) h6 (loC (eOs 3 false F8_) sorted <| loN), Hg (z05 h0A), Hm (shM F8_ F8_ r_4), Hs (z06 h0A (x := r_4) h7 (loC Y3 r_4 <| loN)), Hm (shM F8_ F8_ r_4), Ha (lnM F8_ r_5)]
         rcases yc hf1 with ⟨c5, hf1⟩ | ⟨c5, hf1⟩
         ·obtain rfl := zl hf1
          obtain rfl := hl1
          obtain rfl := zl hf0
          exact yE X0 hC hE (Z4 ++ [Hq c5, Hm (shM Y3 Y3 [])])
         ·obtain ⟨g0, hf1⟩ := gdE hf1
          exact yB X0 hC hJ3 (out_Rows1 ++ ([r_5] : List (List zg))) hf1 (Z4 ++ [Hq c5, Hq (dM V4 ([r_5] : List (List zg))), Hn (dM V4 ([r_5] : List (List zg))), Hn (aL V4 V4 g0), Hl (aM V4 out_Rows1 ([r_5] : List (List zg)))])
        ·obtain ⟨t5, ht5, hf1⟩ := zn hf1
         refine yLx X0 hC yK [1,1,1,1,1,1,1,2,1,0,0,1,1,2,0,1,1,2,1,0] [J1, J2, J3, J4] (fun s => jp x_ hidden u_ s.1 s.2) (fun x => Xr x_ hidden r_2 out_Rows1 x51 u_ x.1 x.2) (([] : List zg), 0) ht5 [(1, .d (eSl 1 false (eI .i64) hidden)), (2, .own (.box (xR x_))), (4, .own (.box (.agg [I 0, I 0, eOs 1 true Y3 []]))), (10, .own (.box (.agg [I 0, I x_.Labels, eOs 1 false V4 out_Rows1]))), (13, .own (eOs 3 true F8_ [])), (49, .d (eSl 1 true wr r_2.2.1)), (50, .d (I ((r_2.2.1.length : Nat) : Int))), (51, .d (I x51)), (55, .d (eSl 5 true jZ u_)), (56, .d (I ((u_.length : Nat) : Int))), (57, .d (I 0))] inferInstance [Ha (lnM jZ u_)] ?_
         rintro ⟨row1, x57⟩ m5 lr2 hf2 hl2 J5 hJ5
         try unfold jp at hf2
         rcases yc hf2 with ⟨c6, hf2⟩ | ⟨c6, hf2⟩
         ·obtain ⟨u__e, h8, hf2⟩ := zn hf2
          obtain ⟨Part_e, h9, hf2⟩ := zn hf2
          obtain ⟨Arc_e, h10, hf2⟩ := zn hf2
          refine yJ X0 hC yK [1,1,1,1,1,1,1,2,1,0,0,1,1,2,0,1,1,2,1,0,0,1,1,0,0,1,1,1] [J1, J2, J3, J4, J5] [1,2,4,10,13,16,49,50,51,55,56,57] (fun z : Int × Int => vb row1 x57 u__e z.1 z.2 = some lr2) (fun z => Xt x_ hidden r_2 out_Rows1 x51 u_ row1 x57 u__e z.1 z.2) [(1, .d (eSl 1 false (eI .i64) hidden)), (2, .own (.box (xR x_))), (4, .own (.box (.agg [I 0, I 0, eOs 1 true Y3 []]))), (10, .own (.box (.agg [I 0, I x_.Labels, eOs 1 false V4 out_Rows1]))), (13, .own (eOs 3 false F8_ row1)), (16, .own (.box (.agg [.atom (.int .u8 0), I 0, I u__e.To]))), (17, .own (.box (uV Arc_e))), (49, .d (eSl 1 true wr r_2.2.1)), (50, .d (I ((r_2.2.1.length : Nat) : Int))), (51, .d (I x51)), (55, .d (eSl 5 true jZ u_)), (56, .d (I ((u_.length : Nat) : Int))), (57, .d (I x57))] [Hq c6, Hi jZ h8, Hi wG h9, Hi uV h10, Hh (.cut 0)] ?_ fun J6 hJ6 => ?_
          ·rintro ⟨arc_Kind, arc_Label⟩ hf2
           unfold vb at hf2
           obtain ⟨g1, hf2⟩ := gdE hf2
           obtain rfl := zl hf2
           exact yB X0 hC hJ5 ((row1 ++ ([(zg.mk arc_Kind arc_Label u__e.To)] : List zg)), w64 (x57 + 1)) hl2 [Hq (dM F8_ ([(zg.mk arc_Kind arc_Label u__e.To)] : List zg)), Hn (dM F8_ ([(zg.mk arc_Kind arc_Label u__e.To)] : List zg)), Hn (aL F8_ F8_ g1), Hl (aM F8_ row1 ([(zg.mk arc_Kind arc_Label u__e.To)] : List zg))]
          ·obtain ⟨r_6, h11, hf2⟩ := zn hf2
           let Z5 : List HO := [Hc h0S (x := (hidden, Arc_e.Message)) h11 (loC F2_ hidden <| loC (eI .i64) Arc_e.Message <| loN)]
           rcases yc hf2 with ⟨c7, hf2⟩ | ⟨c7, hf2⟩
           ·rcases yc hf2 with ⟨c8, hf2⟩ | ⟨c8, hf2⟩
            ·exact yB X0 hC hJ6 (2, Arc_e.Message) hf2 (Z5 ++ [Hq c7, Hq c7, Hq c7, Hq c8])
            ·exact yB X0 hC hJ6 (0,0) hf2 (Z5 ++ [Hq c7, Hq c7, Hq c7, Hq c8])
           ·exact yB X0 hC hJ6 (0,0) hf2 (Z5 ++ [Hq c7, Hq c7, Hq c7, qF])
         ·obtain rfl := zl hf2
          obtain rfl := hl2
          exact yB X0 hC hJ4 row1 hf1 [Hq c6]
      ·obtain rfl := zl hf1
       obtain rfl := hl1
       exact yB X0 hC hJ1 out_Rows1 hf0 [Hq c4]
def uv : Code := (Tryz.f18.body).getD .skip
def ku : yV := spF (α := zF × zF) (ρ := Int) 18 (fun x => [z2c x.1, z2c x.2]) (fun r => (eI .i64) r) (fun x => kF x.1 x.2) [] (VS)
abbrev WE : List (Nat × T) := []
abbrev WD (a_ : zF) (b_ : zF) (i_ : Int) : List (Nat × T) := [(2, .own (.box (z2c a_))), (3, .own (.box (z2c b_))), (5, .d (I i_))]
abbrev WB (a_ : zF) (b_ : zF) (i_ : Int) (k_ : Int) : List (Nat × T) := [(2, .own (.box (z2c a_))), (3, .own (.box (z2c b_))), (5, .d (I i_)), (6, .d (I k_))]
abbrev WC (a_ : zF) (b_ : zF) (i_ : Int) : List (Nat × T) := [(2, .own (.box (z2c a_))), (3, .own (.box (z2c b_))), (5, .d (I i_))]
theorem UO {ctr : Ctr} (hC : zV Tryz.prog ctr) : ku.Ok Tryz.prog := by
 refine y5 ?_
 rintro ⟨a_, b_⟩ r0 hf0
 try unfold kF at hf0
 refine yO true [(4, none)] uv 75 Tryz.func18 fun E hE => ?_
 rcases yc hf0 with ⟨c0, hf0⟩ | ⟨c0, hf0⟩
 ·obtain rfl := zl hf0
  exact yE X0 hC hE (rpN 6 (Hq c0) (rpN 9 qT []))
 ·let Z0 : List HO := (rpN 6 (Hq c0) [])
  rcases yc hf0 with ⟨c1, hf0⟩ | ⟨c1, hf0⟩
  ·obtain rfl := zl hf0
   exact yE X0 hC hE (Z0 ++ (rpN 8 (Hq c1) [qT]))
  ·let Z1 : List HO := (Z0 ++ [Hq c1, Hq c1, Hq c1, Ha (lnM Y3 a_.Rows), Hq c1, Hq c1, Hq c1, Ha (lnM Y3 b_.Rows), Hq c1, Hq c1])
   rcases yc hf0 with ⟨c2, hf0⟩ | ⟨c2, hf0⟩
   ·obtain rfl := zl hf0
    exact yE X0 hC hE (Z1 ++ [Hq c2])
   ·refine yJ X0 hC uv [1,1] [] [] (fun z : Unit => kz = some r0) (fun z => WE) [(2, .own (.box (z2c a_))), (3, .own (.box (z2c b_)))] (Z1 ++ [Hq c2, Hh (.cut 0)]) ?_ fun J1 hJ1 => ?_
    ·rintro ⟨⟩ hf0
     unfold kz at hf0
     obtain rfl := zl hf0
     exact yE X0 hC hE []
    ·obtain ⟨t2, ht2, hf0⟩ := zn hf0
     refine yL X0 hC uv [1,1,2,1,0] [J1] (fun s => kx a_ b_ s) (fun x => WC a_ b_ x) 0 ht2  [] ?_
     rintro i_ m2 lr1 hf1 hl1 J2 hJ2
     try unfold kx at hf1
     let Z2 : List HO := [Ha (lnM Y3 a_.Rows)]
     rcases yc hf1 with ⟨c3, hf1⟩ | ⟨c3, hf1⟩
     ·refine yJ X0 hC uv [1,1,2,1,0,0,1] [J1, J2] [2,3,5] (fun z : Unit => ky i_ = some lr1) (fun z => WD a_ b_ i_) [(2, .own (.box (z2c a_))), (3, .own (.box (z2c b_))), (5, .d (I i_))] (Z2 ++ [Hq c3, Hh (.cut 0)]) ?_ fun J3 hJ3 => ?_
      ·rintro ⟨⟩ hf1
       unfold ky at hf1
       obtain rfl := zl hf1
       exact yB X0 hC hJ2 (w64 (i_ + 1)) hl1 []
      ·obtain ⟨Row_e, h0, hf1⟩ := zn hf1
       obtain ⟨Row_e1, h1, hf1⟩ := zn hf1
       let Z3 : List HO := [Hi Y3 h0, Ha (lnM F8_ Row_e), Hi Y3 h1, Ha (lnM F8_ Row_e1)]
       rcases yc hf1 with ⟨c4, hf1⟩ | ⟨c4, hf1⟩
       ·obtain rfl := zl hf1
        obtain rfl := hl1
        obtain rfl := zl hf0
        exact yE X0 hC hE (Z3 ++ [Hq c4])
       ·obtain ⟨t4, ht4, hf1⟩ := zn hf1
        refine yL X0 hC uv [1,1,2,1,0,0,1,2,0,1,1,0] [J1, J2, J3] (fun s => kw a_ b_ i_ s) (fun x => WB a_ b_ i_ x) 0 ht4  (Z3 ++ [Hq c4]) ?_
        rintro k_ m4 lr2 hf2 hl2 J4 hJ4
        try unfold kw at hf2
        obtain ⟨Row_e2, h2, hf2⟩ := zn hf2
        let Z4 : List HO := [Hi Y3 h2, Ha (lnM F8_ Row_e2)]
        rcases yc hf2 with ⟨c5, hf2⟩ | ⟨c5, hf2⟩
        ·obtain ⟨Row_e3, h3, hf2⟩ := zn hf2
         obtain ⟨Row_e_e, h4, hf2⟩ := zn hf2
         obtain ⟨Row_e4, h5, hf2⟩ := zn hf2
         obtain ⟨Row_e_e1, h6, hf2⟩ := zn hf2
         let Z5 : List HO := (Z4 ++ [Hq c5, Hi Y3 h3, Hi F8_ h4, Hi Y3 h5, Hi F8_ h6])
         rcases yc hf2 with ⟨c6, hf2⟩ | ⟨c6, hf2⟩
         ·obtain rfl := zl hf2
          obtain rfl := hl2
          obtain rfl := zl hf1
          obtain rfl := hl1
          obtain rfl := zl hf0
          exact yE X0 hC hE (Z5 ++ [Hq c6])
         ·obtain rfl := zl hf2
          exact yB X0 hC hJ4 (w64 (k_ + 1)) hl2 (Z5 ++ [Hq c6])
        ·obtain rfl := zl hf2
         obtain rfl := hl2
         exact yB X0 hC hJ3 () hf1 (Z4 ++ [Hq c5])
     ·obtain rfl := zl hf1
      obtain rfl := hl1
      exact yB X0 hC hJ1 () hf0 (Z2 ++ [Hq c3])
def um : Code := (Tryz.f92.body).getD .skip
def uf : yV := spF (α := List Int × Int) (ρ := Int) 92 (fun x => [F2_ x.1, (eI .i64) x.2]) (fun r => (eI .i64) r) (fun x => qw x.1 x.2) [] (VS)
abbrev ZB : List (Nat × T) := []
abbrev ZA (s_ : List Int) (v_ : Int) (x8 : Int) : List (Nat × T) := [(0, .d (eSl 1 false (eI .i64) s_)), (1, .d (I v_)), (7, .d (I ((s_.length : Nat) : Int))), (8, .d (I x8))]
theorem YT {ctr : Ctr} (hC : zV Tryz.prog ctr) : uf.Ok Tryz.prog := by
 refine y5 ?_
 rintro ⟨s_, v_⟩ r0 hf0
 try unfold qw at hf0
 refine yO true [(4, none)] um 19 Tryz.func92 fun E hE => ?_
 refine yJ X0 hC um [1] [] [] (fun z : Unit => ui = some r0) (fun z => ZB) [(0, .d (eSl 1 false (eI .i64) s_)), (1, .d (I v_))] [Hh (.cut 1)] ?_ fun J1 hJ1 => ?_
 ·rintro ⟨⟩ hf0
  unfold ui at hf0
  obtain rfl := zl hf0
  exact yE X0 hC hE []
 ·obtain ⟨t2, ht2, hf0⟩ := zn hf0
  refine yL X0 hC um [1,2,1,0] [J1] (fun s => uh s_ v_ s) (fun x => ZA s_ v_ x) 0 ht2  [Ha (lnM (eI .i64) s_)] ?_
  rintro x8 m2 lr1 hf1 hl1 J2 hJ2
  try unfold uh at hf1
  rcases yc hf1 with ⟨c0, hf1⟩ | ⟨c0, hf1⟩
  ·obtain ⟨s__e, h0, hf1⟩ := zn hf1
   rcases yc hf1 with ⟨c1, hf1⟩ | ⟨c1, hf1⟩
   ·obtain rfl := zl hf1
    obtain rfl := hl1
    obtain rfl := zl hf0
    exact yE X0 hC hE [Hq c0, Hi (eI .i64) h0, Hq c1]
   ·obtain rfl := zl hf1
    exact yB X0 hC hJ2 (w64 (x8 + 1)) hl1 [Hq c0, Hi (eI .i64) h0, Hq c1]
  ·obtain rfl := zl hf1
   obtain rfl := hl1
   exact yB X0 hC hJ1 () hf0 [Hq c0]
def Zq : Code := (Tryz.f73.body).getD .skip
def wT : yV := spF (α := List Int × Int) (ρ := Bool) 73 (fun x => [F2_ x.1, (eI .i64) x.2]) (fun r => eB r) (fun x => uj x.1 x.2) [] (VS)
theorem ZG {ctr : Ctr} (hC : zV Tryz.prog ctr) (h0V : ctr.Has uf) : wT.Ok Tryz.prog := by
 refine y5 ?_
 rintro ⟨s_, v_⟩ r0 hf0
 try unfold uj at hf0
 refine yO true [(4, none)] Zq 9 Tryz.func73 fun E hE => ?_
 obtain ⟨r_, h0, hf0⟩ := zn hf0
 obtain rfl := zl hf0
 exact yE X0 hC hE [Hc h0V (x := (s_, v_)) h0 (loC F2_ s_ <| loC (eI .i64) v_ <| loN)]
def ul : Code := (Tryz.f42.body).getD .skip
def ue : yV := spF (α := z7 × za) (ρ := Bool) 42 (fun x => [xR x.1, yG x.2]) (fun r => eB r) (fun x => qp x.1 x.2) [] (VS)
abbrev Zu (s_ : za) : List (Nat × T) := [(3, .own (.box (yG s_)))]
abbrev Zt (x_ : z7) (s_ : za) (x10 : Int) : List (Nat × T) := [(3, .own (.box (yG s_))), (8, .d (eSl 3 false wG x_.Parts)), (9, .d (I ((x_.Parts.length : Nat) : Int))), (10, .d (I x10))]
theorem YQ {ctr : Ctr} (hC : zV Tryz.prog ctr) (h0W : ctr.Has wT) : ue.Ok Tryz.prog := by
 refine y5 ?_
 rintro ⟨x_, s_⟩ r0 hf0
 try unfold qp at hf0
 refine yO true [(4, none)] ul 28 Tryz.func42 fun E hE => ?_
 refine yJ X0 hC ul [1] [] [3] (fun z : Unit => u6 s_ = some r0) (fun z => Zu s_) [(2, .own (.box (xR x_))), (3, .own (.box (yG s_)))] [Hh (.cut 1)] ?_ fun J1 hJ1 => ?_
 ·rintro ⟨⟩ hf0
  unfold u6 at hf0
  obtain rfl := zl hf0
  exact yE ((zaE zQ 27).or X0) hC hE []
 ·obtain ⟨t2, ht2, hf0⟩ := zn hf0
  refine yL X0 hC ul [1,2,1,0] [J1] (fun s => u4 x_ s_ s) (fun x => Zt x_ s_ x) 0 ht2  [Ha (lnM wG x_.Parts)] ?_
  rintro x10 m2 lr1 hf1 hl1 J2 hJ2
  try unfold u4 at hf1
  rcases yc hf1 with ⟨c0, hf1⟩ | ⟨c0, hf1⟩
  ·obtain ⟨Part_e, h0, hf1⟩ := zn hf1
   obtain ⟨cell, h1, hf1⟩ := zn hf1
   obtain ⟨r_, h2, hf1⟩ := zn hf1
   let Z0 : List HO := [Hq c0, Hi wG h0, Hn (⟨arJ (by kernel_rfl) (i0 h1), (iL (eI .i64) h1).2⟩ : Zs xQ 110 ((zC.toL s_.states_).map (eI .i64)) x10 = true ∧ x10.toNat < ((zC.toL s_.states_).map (eI .i64)).length), Hh (.op 9), Hh (.f), Hx (.a (.agg [I s_.states_.e0, I s_.states_.e1, I s_.states_.e2, I s_.states_.e3])) (rfl : some (.agg [I s_.states_.e0, I s_.states_.e1, I s_.states_.e2, I s_.states_.e3] : A) = some (.agg [I s_.states_.e0, I s_.states_.e1, I s_.states_.e2, I s_.states_.e3])), Hh (.f), Hs (iM (eI .i64) h1), Hc h0W (x := (Part_e.Final, cell)) h2 (loC F2_ Part_e.Final <| loC (eI .i64) cell <| loN)]
   rcases yc hf1 with ⟨c1, hf1⟩ | ⟨c1, hf1⟩
   ·obtain rfl := zl hf1
    obtain rfl := hl1
    obtain rfl := zl hf0
    exact yE X0 hC hE (Z0 ++ [Hq c1])
   ·obtain rfl := zl hf1
    exact yB X0 hC hJ2 (w64 (x10 + 1)) hl1 (Z0 ++ [Hq c1])
  ·obtain rfl := zl hf1
   obtain rfl := hl1
   exact yB X0 hC hJ1 () hf0 [Hq c0]
def xO : Code := (Tryz.f43.body).getD .skip
abbrev vA (s_1 : List zc) (i_ : Int) (j_ : Int) : List (Nat × T) := [(0, .own (eOs 4 false xK s_1)), (2, .d (I i_)), (3, .d (I j_))]
theorem un {ctr : Ctr} (hC : zV Tryz.prog ctr) (cv0 : Value) : ∀ (s_ : List zc) (r0 : List zc), yY s_ = some r0 → kC Tryz.prog (.fn 43 []) [.atom cv0] ([cv0].zip [eOs 4 false xK s_]) (.tup []) [eOs 4 false xK r0] := by
 intro s_ r0 hf0
 refine z4S (tt := xQ) (nt := 28) (body := xO) [0] zQ Tryz.func43 rfl (by kernel_rfl) rfl rfl (by show (1 : Nat) ≤ 28; decide) (by decide) rfl rfl (fun E hE => ?_) rfl
 unfold yY at hf0
 refine z97 0 (v := cv0) (y := eOs 4 false xK s_) (by kernel_rfl) (by kernel_rfl) (by kernel_rfl) fun hv0 => ?_
 obtain ⟨t1, ht1, hf0⟩ := zn hf0
 refine yL X0 hC xO [1,0] [] (fun s => yP s.1 s.2.1 s.2.2) (fun x => vA x.1 x.2.1 x.2.2) (s_, 0, w64 (((s_.length : Nat) : Int) - 1)) ht1  [Ha (lnM xK s_)] ?_
 rintro ⟨s_1, i_, j_⟩ m1 lr1 hf1 hl1 J1 hJ1
 try unfold yP at hf1
 rcases yc hf1 with ⟨c0, hf1⟩ | ⟨c0, hf1⟩
 ·obtain ⟨s__e, h0, hf1⟩ := zn hf1
  obtain ⟨s__e1, h1, hf1⟩ := zn hf1
  obtain ⟨s__e2, h2, hf1⟩ := zn hf1
  obtain ⟨u_e, h3, hf1⟩ := zn hf1
  obtain rfl := zl hf1
  exact yB ((xIx zQ 27 0 cv0).or ((xMv Tryz.prog 16 0 cv0 hv0).or X0)) hC hJ1 (((s_1.set i_.toNat s__e).set j_.toNat s__e1), w64 (i_ + 1), w64 (j_ - 1)) hl1 [Hq c0, Hn (rfl : some cv0 = some cv0), Hn (iL xK h0), Hs (iM xK h0), Hn (iL xK h1), Hs (iM xK h1), Hn (iL xK h2), Hs (iM xK h2), Hs (iM xK h2), Hl (sM xK s_1 i_ s__e), Hn (⟨rfl, rfl⟩ : T.d (.atom cv0) = T.d (.atom cv0) ∧ some cv0 = some cv0), Hn (iL xK h3), Hs (iM xK h3), Hs (iM xK h3), Hl (sM xK (s_1.set i_.toNat s__e) j_ s__e1)]
 ·obtain rfl := zl hf1
  obtain rfl := hl1
  obtain rfl := zl hf0
  exact yF X0 hC .normal [(0, .own (eOs 4 false xK s_1))] [Hq c0] fun st0 h0 => hE _ st0 (.inl rfl) (z2L h0 ⟨⟨rfl, rfl⟩, trivial⟩)
def zU : Code := (Tryz.f12.body).getD .skip
def qY : yV := spF (α := z7) (ρ := List zc × z8 × Int) 12 (fun x => [xR x]) (fun r => .tup [z3T r.1, Uz r.2.1, (eI .i64) r.2.2]) (fun x => qI x) [] (Ue)
abbrev X7 : List (Nat × T) := [(3, .own (.box (.agg [eOs 1 true (eI .i64) [], eOs 1 true F2_ []])))]
abbrev X6 (x_ : z7) (r_1 : List za × List (List z6) × Int) (by_ : List zt) (x69 : Int) : List (Nat × T) := [(1, .own (.box (xR x_))), (3, .own (.box (.agg [eOs 1 true (eI .i64) [], eOs 1 true F2_ []]))), (6, .d (eSl 24 false yG r_1.1)), (9, .own (eOs 5 true VZ by_)), (67, .d (eSl 1 true wr r_1.2.1)), (68, .d (I ((r_1.2.1.length : Nat) : Int))), (69, .d (I x69))]
abbrev X5 (x_ : z7) (r_1 : List za × List (List z6) × Int) (x69 : Int) (run : List zc) : List (Nat × T) := [(1, .own (.box (xR x_))), (3, .own (.box (.agg [eOs 1 true (eI .i64) [], eOs 1 true F2_ []]))), (6, .d (eSl 24 false yG r_1.1)), (15, .d (I x69)), (17, .own (eOs 4 false xK run))]
abbrev X2 (x_ : z7) (r_1 : List za × List (List z6) × Int) (by_ : List zt) (x69 : Int) (run1 : List zc) (n_ : Int) : List (Nat × T) := [(1, .own (.box (xR x_))), (3, .own (.box (.agg [eOs 1 true (eI .i64) [], eOs 1 true F2_ []]))), (6, .d (eSl 24 false yG r_1.1)), (9, .own (eOs 5 true VZ by_)), (15, .d (I x69)), (17, .own (eOs 4 false xK run1)), (18, .d (I n_))]
abbrev X3 (x_ : z7) (r_1 : List za × List (List z6) × Int) (by_ : List zt) (x69 : Int) : List (Nat × T) := [(1, .own (.box (xR x_))), (3, .own (.box (.agg [eOs 1 true (eI .i64) [], eOs 1 true F2_ []]))), (6, .d (eSl 24 false yG r_1.1)), (9, .own (eOs 5 true VZ by_)), (67, .d (eSl 1 true wr r_1.2.1)), (68, .d (I ((r_1.2.1.length : Nat) : Int))), (69, .d (I x69))]
abbrev X8 (x_ : z7) (r_1 : List za × List (List z6) × Int) (by_ : List zt) : List (Nat × T) := [(1, .own (.box (xR x_))), (3, .own (.box (.agg [eOs 1 true (eI .i64) [], eOs 1 true F2_ []]))), (6, .d (eSl 24 false yG r_1.1)), (7, .d (eSl 1 true wr r_1.2.1)), (9, .own (eOs 5 true VZ by_))]
abbrev X4 (x_ : z7) (r_1 : List za × List (List z6) × Int) (x40 : Int) (by_2 : List zt) (seen1 : Int) : List (Nat × T) := [(1, .own (.box (xR x_))), (3, .own (.box (.agg [eOs 1 true (eI .i64) [], eOs 1 true F2_ []]))), (6, .d (eSl 24 false yG r_1.1)), (7, .d (eSl 1 true wr r_1.2.1)), (9, .own (eOs 5 true VZ by_2)), (10, .d (I seen1)), (38, .d (eSl 1 true wr r_1.2.1)), (39, .d (I ((r_1.2.1.length : Nat) : Int))), (40, .d (I x40))]
abbrev YH (x_ : z7) (r_1 : List za × List (List z6) × Int) (x40 : Int) (u_3 : List z6) (x47 : Int) (by_4 : List zt) (seen3 : Int) : List (Nat × T) := [(1, .own (.box (xR x_))), (3, .own (.box (.agg [eOs 1 true (eI .i64) [], eOs 1 true F2_ []]))), (6, .d (eSl 24 false yG r_1.1)), (7, .d (eSl 1 true wr r_1.2.1)), (9, .own (eOs 5 true VZ by_4)), (10, .d (I seen3)), (11, .d (I x40)), (38, .d (eSl 1 true wr r_1.2.1)), (39, .d (I ((r_1.2.1.length : Nat) : Int))), (40, .d (I x40)), (45, .d (eSl 5 true jZ u_3)), (46, .d (I ((u_3.length : Nat) : Int))), (47, .d (I x47))]
abbrev YZ (x_ : z7) (r_1 : List za × List (List z6) × Int) (x40 : Int) (u_3 : List z6) (by_3 : List zt) (seen2 : Int) (x47 : Int) : List (Nat × T) := [(1, .own (.box (xR x_))), (3, .own (.box (.agg [eOs 1 true (eI .i64) [], eOs 1 true F2_ []]))), (6, .d (eSl 24 false yG r_1.1)), (7, .d (eSl 1 true wr r_1.2.1)), (9, .own (eOs 5 true VZ by_3)), (10, .d (I seen2)), (11, .d (I x40)), (38, .d (eSl 1 true wr r_1.2.1)), (39, .d (I ((r_1.2.1.length : Nat) : Int))), (40, .d (I x40)), (45, .d (eSl 5 true jZ u_3)), (46, .d (I ((u_3.length : Nat) : Int))), (47, .d (I x47))]
abbrev X1 (x_ : z7) (r_1 : List za × List (List z6) × Int) (by_1 : List zt) (seen : Int) (x40 : Int) : List (Nat × T) := [(1, .own (.box (xR x_))), (3, .own (.box (.agg [eOs 1 true (eI .i64) [], eOs 1 true F2_ []]))), (6, .d (eSl 24 false yG r_1.1)), (7, .d (eSl 1 true wr r_1.2.1)), (9, .own (eOs 5 true VZ by_1)), (10, .d (I seen)), (38, .d (eSl 1 true wr r_1.2.1)), (39, .d (I ((r_1.2.1.length : Nat) : Int))), (40, .d (I x40))]
theorem WG {ctr : Ctr} (hC : zV Tryz.prog ctr) (h06 : ctr.Has wW) (h0e : ctr.Has xM) (h0X : ctr.Has ue) (h0d : ctr.Has yd) (h0f : ctr.Has xz) : qY.Ok Tryz.prog := by
 refine y5 ?_
 rintro x_ r0 hf0
 try unfold qI at hf0
 refine yO false [(2, none), (3, some 39), (4, none)] zU 113 Tryz.func12 fun E hE => ?_
 obtain ⟨r_, h0, hf0⟩ := zn hf0
 let Z0 : List HO := [Hc h06 (x := x_) h0 (loC xR x_ <| loN)]
 rcases yc hf0 with ⟨c0, hf0⟩ | ⟨c0, hf0⟩
 ·obtain rfl := zl hf0
  exact yEx X0 hC hE (Z0 ++ [Hq c0, Hm (shM xK xK []), Hm (shM (eI .i64) (eI .i64) []), Hm (shM F2_ F2_ [])]) (.tup [eSl 4 true xK [], .agg [eSl 1 true (eI .i64) [], eSl 1 true F1_ []], I r_]) (show LeV (.tup [eSl 4 true xK [], .agg [eSl 1 true (eI .i64) [], eSl 1 true F1_ []], I r_]) (.tup [eSl 4 true xK ([] : List zc), .agg [eSl 1 true (eI .i64) [], eSl 1 true F1_ []], I r_]) from inferInstance)
 ·obtain ⟨r_1, h1, hf0⟩ := zn hf0
  let Z1 : List HO := (Z0 ++ [Hq c0, Hc h0e (x := x_) h1 (loC xR x_ <| loN)])
  rcases yc hf0 with ⟨c1, hf0⟩ | ⟨c1, hf0⟩
  ·obtain rfl := zl hf0
   exact yEx X0 hC hE (Z1 ++ [Hq c1, Hm (shM xK xK []), Hm (shM (eI .i64) (eI .i64) []), Hm (shM F2_ F2_ [])]) (.tup [eSl 4 true xK [], .agg [eSl 1 true (eI .i64) [], eSl 1 true F1_ []], I r_1.2.2]) (show LeV (.tup [eSl 4 true xK [], .agg [eSl 1 true (eI .i64) [], eSl 1 true F1_ []], I r_1.2.2]) (.tup [eSl 4 true xK ([] : List zc), .agg [eSl 1 true (eI .i64) [], eSl 1 true F1_ []], I r_1.2.2]) from inferInstance)
  ·obtain ⟨g0, hf0⟩ := gdE hf0
   refine yJ X0 hC zU [1,1,1,1,1,1] [] [1,3,6,7,9] (fun z : List zt => qX x_ r_1 z = some r0) (fun z => X8 x_ r_1 z) [(1, .own (.box (xR x_))), (3, .own (.box (.agg [eOs 1 true (eI .i64) [], eOs 1 true F2_ []]))), (6, .d (eSl 24 false yG r_1.1)), (7, .d (eSl 1 true wr r_1.2.1)), (9, .own (eOs 5 true VZ (List.replicate ((r_1.1.length : Nat) : Int).toNat (zt.mk 0 (zc.mk 0 0 0 0))))), (10, .d (I 1))] (Z1 ++ [Hq c1, Ha (lnM yG r_1.1), Hn (rL g0), Ha (rM 5 VZ ((r_1.1.length : Nat) : Int) (zt.mk 0 (zc.mk 0 0 0 0))), Hh (.cut 1)]) ?_ fun J1 hJ1 => ?_
   ·rintro by_ hf0
    unfold qX at hf0
    refine yJ X0 hC zU [1,1,1,1,1,1,1] [] [3] (fun z : Unit => qW = some r0) (fun z => X7) [(1, .own (.box (xR x_))), (3, .own (.box (.agg [eOs 1 true (eI .i64) [], eOs 1 true F2_ []]))), (6, .d (eSl 24 false yG r_1.1)), (7, .d (eSl 1 true wr r_1.2.1)), (9, .own (eOs 5 true VZ by_))] [Hh (.cut 0)] ?_ fun J2 hJ2 => ?_
    ·rintro ⟨⟩ hf0
     unfold qW at hf0
     obtain rfl := zl hf0
     exact yEx X0 hC hE [Hm (shM xK xK []), Hm (shM (eI .i64) (eI .i64) []), Hm (shM F2_ F2_ [])] (.tup [eSl 4 true xK [], .agg [eSl 1 true (eI .i64) [], eSl 1 true F1_ []], I 7]) (show LeV (.tup [eSl 4 true xK [], .agg [eSl 1 true (eI .i64) [], eSl 1 true F1_ []], I 7]) (.tup [eSl 4 true xK ([] : List zc), .agg [eSl 1 true (eI .i64) [], eSl 1 true F1_ []], I 7]) from inferInstance)
    ·obtain ⟨t3, ht3, hf0⟩ := zn hf0
     refine yL X0 hC zU [1,1,1,1,1,1,1,2,1,0] [J2] (fun s => qS x_ r_1 by_ s) (fun x => X3 x_ r_1 by_ x) 0 ht3  [Ha (lnM wr r_1.2.1)] ?_
     rintro x69 m3 lr1 hf1 hl1 J3 hJ3
     try unfold qS at hf1
     rcases yc hf1 with ⟨c2, hf1⟩ | ⟨c2, hf1⟩
     ·refine yJ X0 hC zU [1,1,1,1,1,1,1,2,1,0,0,1,1] [J2, J3] [1,3,6,9,67,68,69] (fun z : Unit => uc x69 = some lr1) (fun z => X6 x_ r_1 by_ x69) [(1, .own (.box (xR x_))), (3, .own (.box (.agg [eOs 1 true (eI .i64) [], eOs 1 true F2_ []]))), (6, .d (eSl 24 false yG r_1.1)), (9, .own (eOs 5 true VZ by_)), (67, .d (eSl 1 true wr r_1.2.1)), (68, .d (I ((r_1.2.1.length : Nat) : Int))), (69, .d (I x69))] [Hq c2, Hh (.cut 0)] ?_ fun J4 hJ4 => ?_
      ·rintro ⟨⟩ hf1
       unfold uc at hf1
       obtain rfl := zl hf1
       exact yB X0 hC hJ3 (w64 (x69 + 1)) hl1 []
      ·obtain ⟨u_, h2, hf1⟩ := zn hf1
       let Z2 : List HO := [Hi wr h2, Ha (lnM jZ u_)]
       rcases yc hf1 with ⟨c3, hf1⟩ | ⟨c3, hf1⟩
       ·exact yB X0 hC hJ4 () hf1 (Z2 ++ (rpN 7 (Hq c3) [qT]))
       ·obtain ⟨u_1, h3, hf1⟩ := zn hf1
        obtain ⟨r_2, h4, hf1⟩ := zn hf1
        let Z3 : List HO := (Z2 ++ (rpN 4 (Hq c3) [Hi yG h3, Hq c3, Hq c3, Hc h0X (x := (x_, u_1)) h4 (loC xR x_ <| loC yG u_1 <| loN), Hq c3]))
        rcases yc hf1 with ⟨c4, hf1⟩ | ⟨c4, hf1⟩
        ·exact yB X0 hC hJ4 () hf1 (Z3 ++ [Hq c4])
        ·refine yJ X0 hC zU [1,1,1,1,1,1,1,2,1,0,0,1,1,2,0,1,1,1] [J2, J3, J4] [1,3,6,15,17] (fun z : List zc => qV x_ r_1 x69 z = some lr1) (fun z => X5 x_ r_1 x69 z) [(1, .own (.box (xR x_))), (3, .own (.box (.agg [eOs 1 true (eI .i64) [], eOs 1 true F2_ []]))), (6, .d (eSl 24 false yG r_1.1)), (9, .own (eOs 5 true VZ by_)), (15, .d (I x69)), (17, .own (eOs 4 true xK []))] (Z3 ++ [Hq c4, Hh (.cut 1)]) ?_ fun J5 hJ5 => ?_
         ·rintro run hf1
          unfold qV at hf1
          refine yA X0 hC zU [1,1,1,1,1,1,1,2,1,0,0,1,1,2,0,1,1,1,1] [J2, J3, J4] [(1, .own (.box (xR x_))), (3, .own (.box (.agg [eOs 1 true (eI .i64) [], eOs 1 true F2_ []]))), (6, .d (eSl 24 false yG r_1.1)), (15, .d (I x69)), (17, .own (eOs 4 false xK run))] [Hh (.cut 0)] ?_
          obtain ⟨r_3, h5, hf1⟩ := zn hf1
          refine z0g (by kernel_rfl) (x := (sub [1,1,1,1,1,1,1,2,1,0,0,1,1,2,0,1,1,1,1,0] zU)) (y := (sub [1,1,1,1,1,1,1,2,1,0,0,1,1,2,0,1,1,1,1,1] zU)) 17 (fun st1 => Own.canon [1,3,6,15,17] st1 = ofL [(1, .own (.box (xR x_))), (3, .own (.box (.agg [eOs 1 true (eI .i64) [], eOs 1 true F2_ []]))), (6, .d (eSl 24 false yG r_1.1)), (15, .d (I x69)), (17, .own (eOs 4 false xK r_3))]) (fun pv17 => yF ((j7 (P := Tryz.prog) xQ [17] (un hC pv17 _ _ h5) 102).or X0) hC .normal [(1, .own (.box (xR x_))), (3, .own (.box (.agg [eOs 1 true (eI .i64) [], eOs 1 true F2_ []]))), (6, .d (eSl 24 false yG r_1.1)), (15, .d (I x69)), (17, .own (eOs 4 false xK r_3))] [Hn (Xd (f := .fn 43 []) (xs := [.atom pv17]) (ls := [(pv17, eOs 4 false xK run)]) (r := .tup []) (ys := [eOs 4 false xK r_3]) [.atom pv17] (show Kb [.atom pv17] [.atom pv17] from inferInstance))] fun st0 h0 => ⟨rfl, h0⟩) fun st1 h1 => K5 h1 ?_
          obtain ⟨r_4, h6, hf1⟩ := zn hf1
          obtain ⟨u_2, h7, hf1⟩ := zn hf1
          obtain ⟨r_5, h8, hf1⟩ := zn hf1
          obtain rfl := zl hf1
          obtain rfl := hl1
          obtain rfl := zl hf0
          exact yE X0 hC hE [Hg (z05 h0d), Hm (shM xK xK r_3), Hs (z06 h0d (x := r_3) h6 (loC z7R r_3 <| loN)), Hm (shM xK xK r_3), Hi yG h7, Hc h0f (x := (x_, u_2)) h8 (loC xR x_ <| loC yG u_2 <| loN)]
         ·obtain ⟨t6, ht6, hf1⟩ := zn hf1
          refine yLx X0 hC zU [1,1,1,1,1,1,1,2,1,0,0,1,1,2,0,1,1,1,2,1,0] [J2, J3, J4, J5] (fun s => qR by_ s.1 s.2) (fun x => X2 x_ r_1 by_ x69 x.1 x.2) (([] : List zc), x69) ht6 [(1, .own (.box (xR x_))), (3, .own (.box (.agg [eOs 1 true (eI .i64) [], eOs 1 true F2_ []]))), (6, .d (eSl 24 false yG r_1.1)), (9, .own (eOs 5 true VZ by_)), (15, .d (I x69)), (17, .own (eOs 4 true xK [])), (18, .d (I x69))] inferInstance [] ?_
          rintro ⟨run1, n_⟩ m6 lr2 hf2 hl2 J6 hJ6
          try unfold qR at hf2
          rcases yc hf2 with ⟨c5, hf2⟩ | ⟨c5, hf2⟩
          ·obtain ⟨by__e, h9, hf2⟩ := zn hf2
           obtain ⟨g1, hf2⟩ := gdE hf2
           obtain ⟨by__e1, h10, hf2⟩ := zn hf2
           obtain rfl := zl hf2
           exact yB X0 hC hJ6 ((run1 ++ ([by__e.move_] : List zc)), by__e1.from_) hl2 [Hq c5, Hn (iL VZ h9), Hs (iM VZ h9), Hs (iM VZ h9), Hq (dM xK ([by__e.move_] : List zc)), Hn (dM xK ([by__e.move_] : List zc)), Hn (aL xK xK g1), Hl (aM xK run1 ([by__e.move_] : List zc)), Hn (iL VZ h10), Hs (iM VZ h10), Hs (iM VZ h10)]
          ·obtain rfl := zl hf2
           obtain rfl := hl2
           exact yB X0 hC hJ5 run1 hf1 [Hq c5]
     ·obtain rfl := zl hf1
      obtain rfl := hl1
      exact yB X0 hC hJ2 () hf0 [Hq c2]
   ·obtain ⟨t7, ht7, hf0⟩ := zn hf0
    refine yL X0 hC zU [1,1,1,1,1,1,2,1,0] [J1] (fun s => qQ r_1 s.1 s.2.1 s.2.2) (fun x => X1 x_ r_1 x.1 x.2.1 x.2.2) ((List.replicate ((r_1.1.length : Nat) : Int).toNat (zt.mk 0 (zc.mk 0 0 0 0))), 1,0) ht7  [Ha (lnM wr r_1.2.1)] ?_
    rintro ⟨by_1, seen, x40⟩ m7 lr1 hf1 hl1 J7 hJ7
    try unfold qQ at hf1
    rcases yc hf1 with ⟨c6, hf1⟩ | ⟨c6, hf1⟩
    ·refine yJ X0 hC zU [1,1,1,1,1,1,2,1,0,0,1,1] [J1, J7] [1,3,6,7,9,10,38,39,40] (fun z : List zt × Int => qU x40 z.1 z.2 = some lr1) (fun z => X4 x_ r_1 x40 z.1 z.2) [(1, .own (.box (xR x_))), (3, .own (.box (.agg [eOs 1 true (eI .i64) [], eOs 1 true F2_ []]))), (6, .d (eSl 24 false yG r_1.1)), (7, .d (eSl 1 true wr r_1.2.1)), (9, .own (eOs 5 true VZ by_1)), (10, .d (I seen)), (38, .d (eSl 1 true wr r_1.2.1)), (39, .d (I ((r_1.2.1.length : Nat) : Int))), (40, .d (I x40))] [Hq c6, Hh (.cut 0)] ?_ fun J8 hJ8 => ?_
     ·rintro ⟨by_2, seen1⟩ hf1
      unfold qU at hf1
      obtain rfl := zl hf1
      exact yB X0 hC hJ7 (by_2, seen1, w64 (x40 + 1)) hl1 []
     ·obtain ⟨u_3, h11, hf1⟩ := zn hf1
      obtain ⟨t9, ht9, hf1⟩ := zn hf1
      refine yL X0 hC zU [1,1,1,1,1,1,2,1,0,0,1,1,2,0,1,1,0] [J1, J7, J8] (fun s => qP x40 u_3 s.1 s.2.1 s.2.2) (fun x => YZ x_ r_1 x40 u_3 x.1 x.2.1 x.2.2) (by_1, seen, 0) ht9  [Hi wr h11, Ha (lnM jZ u_3)] ?_
      rintro ⟨by_3, seen2, x47⟩ m9 lr2 hf2 hl2 J9 hJ9
      try unfold qP at hf2
      rcases yc hf2 with ⟨c7, hf2⟩ | ⟨c7, hf2⟩
      ·refine yJ X0 hC zU [1,1,1,1,1,1,2,1,0,0,1,1,2,0,1,1,0,0,1,1] [J1, J7, J8, J9] [1,3,6,7,9,10,11,38,39,40,45,46,47] (fun z : List zt × Int => vD x47 z.1 z.2 = some lr2) (fun z => YH x_ r_1 x40 u_3 x47 z.1 z.2) [(1, .own (.box (xR x_))), (3, .own (.box (.agg [eOs 1 true (eI .i64) [], eOs 1 true F2_ []]))), (6, .d (eSl 24 false yG r_1.1)), (7, .d (eSl 1 true wr r_1.2.1)), (9, .own (eOs 5 true VZ by_3)), (10, .d (I seen2)), (11, .d (I x40)), (38, .d (eSl 1 true wr r_1.2.1)), (39, .d (I ((r_1.2.1.length : Nat) : Int))), (40, .d (I x40)), (45, .d (eSl 5 true jZ u_3)), (46, .d (I ((u_3.length : Nat) : Int))), (47, .d (I x47))] [Hq c7, Hh (.cut 0)] ?_ fun J10 hJ10 => ?_
       ·rintro ⟨by_4, seen3⟩ hf2
        unfold vD at hf2
        obtain rfl := zl hf2
        exact yB X0 hC hJ9 (by_4, seen3, w64 (x47 + 1)) hl2 []
       ·obtain ⟨u__e, h12, hf2⟩ := zn hf2
        let Z4 : List HO := [Hi jZ h12]
        rcases yc hf2 with ⟨c8, hf2⟩ | ⟨c8, hf2⟩
        ·obtain ⟨by__e2, h13, hf2⟩ := zn hf2
         exact yB X0 hC hJ10 ((by_3.set u__e.To.toNat (zt.mk x40 u__e.Move)), w64 (seen2 + 1)) hf2 (Z4 ++ [Hq c8, Hn (iL VZ h13), Hs (iM VZ h13), Hs (iM VZ h13), Hl (sM VZ by_3 u__e.To (zt.mk x40 u__e.Move))])
        ·exact yB X0 hC hJ10 (by_3, seen2) hf2 (Z4 ++ [Hq c8])
      ·obtain rfl := zl hf2
       obtain rfl := hl2
       exact yB X0 hC hJ8 (by_3, seen2) hf1 [Hq c7]
    ·obtain rfl := zl hf1
     obtain rfl := hl1
     exact yB X0 hC hJ1 by_1 hf0 [Hq c6]
def ZV : Code := (Tryz.f15.body).getD .skip
def ZI : yV := spF (α := List zc × List zc) (ρ := Int) 15 (fun x => [z3T x.1, z7R x.2]) (fun r => (eI .i64) r) (fun x => Wf x.1 x.2) [] (VS)
abbrev Vx : List (Nat × T) := []
abbrev Vw (a_ : List zc) (b_ : List zc) (i_ : Int) : List (Nat × T) := [(0, .d (eSl 4 true xK a_)), (1, .d (eSl 4 false xK b_)), (5, .d (I i_))]
theorem Jy {ctr : Ctr} (hC : zV Tryz.prog ctr) : ZI.Ok Tryz.prog := by
 refine y5 ?_
 rintro ⟨a_, b_⟩ r0 hf0
 try unfold Wf at hf0
 refine yO true [(4, none)] ZV 33 Tryz.func15 fun E hE => ?_
 let Z0 : List HO := [Ha (lnM xK a_), Ha (lnM xK b_)]
 rcases yc hf0 with ⟨c0, hf0⟩ | ⟨c0, hf0⟩
 ·obtain rfl := zl hf0
  exact yE X0 hC hE (Z0 ++ (rpN 6 (Hq c0) [qT]))
 ·let Z1 : List HO := (Z0 ++ [Hq c0, Hq c0, Ha (lnM xK a_), Hq c0, Hq c0, Ha (lnM xK a_), Hq c0, Hq c0])
  rcases yc hf0 with ⟨c1, hf0⟩ | ⟨c1, hf0⟩
  ·obtain rfl := zl hf0
   exact yE X0 hC hE (Z1 ++ [Hq c1])
  ·refine yJ X0 hC ZV [1,1] [] [] (fun z : Unit => ZN = some r0) (fun z => Vx) [(0, .d (eSl 4 true xK a_)), (1, .d (eSl 4 false xK b_))] (Z1 ++ [Hq c1, Hh (.cut 0)]) ?_ fun J1 hJ1 => ?_
   ·rintro ⟨⟩ hf0
    unfold ZN at hf0
    obtain rfl := zl hf0
    exact yE X0 hC hE []
   ·obtain ⟨t2, ht2, hf0⟩ := zn hf0
    refine yL X0 hC ZV [1,1,2,1,0] [J1] (fun s => ZM a_ b_ s) (fun x => Vw a_ b_ x) 0 ht2  [] ?_
    rintro i_ m2 lr1 hf1 hl1 J2 hJ2
    try unfold ZM at hf1
    let Z2 : List HO := [Ha (lnM xK a_)]
    rcases yc hf1 with ⟨c2, hf1⟩ | ⟨c2, hf1⟩
    ·obtain ⟨a__e, h0, hf1⟩ := zn hf1
     obtain ⟨b__e, h1, hf1⟩ := zn hf1
     let Z3 : List HO := (Z2 ++ [Hq c2, Hi xK h0, Hi xK h1])
     rcases yc hf1 with ⟨c3, hf1⟩ | ⟨c3, hf1⟩
     ·obtain rfl := zl hf1
      obtain rfl := hl1
      obtain rfl := zl hf0
      exact yE X0 hC hE (Z3 ++ [Hq c3])
     ·obtain rfl := zl hf1
      exact yB X0 hC hJ2 (w64 (i_ + 1)) hl1 (Z3 ++ [Hq c3])
    ·obtain rfl := zl hf1
     obtain rfl := hl1
     exact yB X0 hC hJ1 () hf0 (Z2 ++ [Hq c2])
def W3 : Code := (Tryz.f11.body).getD .skip
def ZJ : yV := spF (α := Unit) (ρ := Bool) 11 (fun x => []) (fun r => eB r) (fun x => Zb) [] (fun _ _ _ => rfl)
theorem Jz {ctr : Ctr} (hC : zV Tryz.prog ctr) (h00 : ctr.Has Yi) (h0C : ctr.Has kr) (h03 : ctr.Has kT) (h05 : ctr.Has Yj) (h02 : ctr.Has ZK) (h0p : ctr.Has jz) (h0j : ctr.Has ku) (h0D : ctr.Has qY) (h0k : ctr.Has ZI) (h0g : ctr.Has jB) : ZJ.Ok Tryz.prog := by
 refine y5 ?_
 rintro ⟨⟩ r0 hf0
 try unfold Zb at hf0
 refine yO true [(0, none)] W3 166 Tryz.func11 fun E hE => ?_
 obtain ⟨r_, h0, hf0⟩ := zn hf0
 obtain ⟨r_1, h1, hf0⟩ := zn hf0
 obtain ⟨r_2, h2, hf0⟩ := zn hf0
 obtain ⟨r_3, h3, hf0⟩ := zn hf0
 obtain ⟨r_4, h4, hf0⟩ := zn hf0
 obtain ⟨r_5, h5, hf0⟩ := zn hf0
 obtain ⟨r_6, h6, hf0⟩ := zn hf0
 obtain ⟨r_7, h7, hf0⟩ := zn hf0
 obtain ⟨r_8, h8, hf0⟩ := zn hf0
 obtain ⟨r_9, h9, hf0⟩ := zn hf0
 obtain ⟨r_10, h10, hf0⟩ := zn hf0
 refine yA ((j7 (P := Tryz.prog) xQ [] (lentCall (xN hC h00 (x := (1, ([(ze.mk 0 2 0 0 0)] : List ze))) h0)) 19).or X0) hC W3 [1,1,1,1,1,0] [] [(1, .own (.box (z5W r_))), (2, .d (eSl 2 true kg r_1.1)), (3, .d (eSl 1 true wr r_1.2.1)), (4, .d (I r_1.2.2)), (5, .own (eOs 2 true z5Z ([r_2, r_3, r_4, r_5]))), (6, .own (eOs 1 true (eOs 5 true jZ) ([[(z6.mk r_6 1)], [(z6.mk r_7 2), (z6.mk r_8 3)], [(z6.mk r_9 0)], [(z6.mk r_10 0)]])))] [Hm (shM uV uV ([(ze.mk 0 2 0 0 0)])), Hn (Xd (f := .fn 37 []) (xs := [(eI .i64) 1, z1H ([(ze.mk 0 2 0 0 0)] : List ze)]) (ls := []) (r := .agg [I r_.Messages, I r_.Labels, eSl 1 true (eI .i64) r_.Channels, eSl 3 true z7P r_.Parts]) (ys := []) [(eI .i64) 1, z1H ([(ze.mk 0 2 0 0 0)] : List ze)] (show Kb [(eI .i64) 1, z1H ([(ze.mk 0 2 0 0 0)] : List ze)] [(eI .i64) 1, z1H ([(ze.mk 0 2 0 0 0)] : List ze)] from inferInstance)), Hc h0C (x := r_) h1 (loC z5W r_ <| loN), Hc h03 (x := (0,0, [])) h2 (loC (eI .i64) 0 <| loC (eI .i64) 0 <| loC F1_ ([] : List Int) <| loN), Hg (z05 h03), Hm (shM (eI .i64) (eI .i64) ([0])), Hs (z06 h03 (x := (1,0, [0])) h3 (loC (eI .i64) 1 <| loC (eI .i64) 0 <| loC F1_ ([0] : List Int) <| loN)), Hm (shM (eI .i64) (eI .i64) ([0])), Hg (z05 h03), Hm (shM (eI .i64) (eI .i64) ([0])), Hs (z06 h03 (x := (0,0, [0])) h4 (loC (eI .i64) 0 <| loC (eI .i64) 0 <| loC F1_ ([0] : List Int) <| loN)), Hm (shM (eI .i64) (eI .i64) ([0])), Hc h03 (x := (1,0, [])) h5 (loC (eI .i64) 1 <| loC (eI .i64) 0 <| loC F1_ ([] : List Int) <| loN), Hc h05 (x := (0,0)) h6 (loC (eI .i64) 0 <| loC (eI .i64) 0 <| loN), Hc h05 (x := (0,1)) h7 (loC (eI .i64) 0 <| loC (eI .i64) 1 <| loN), Hc h05 (x := (1,0)) h8 (loC (eI .i64) 1 <| loC (eI .i64) 0 <| loN), Hc h05 (x := (1,0)) h9 (loC (eI .i64) 1 <| loC (eI .i64) 0 <| loN), Hc h05 (x := (0,1)) h10 (loC (eI .i64) 0 <| loC (eI .i64) 1 <| loN), Hh (.cut 1)] ?_
 rcases yc hf0 with ⟨c0, hf0⟩ | ⟨c0, hf0⟩
 ·obtain rfl := zl hf0
  exact yE X0 hC hE (rpN 7 (Hq c0) [qT])
 ·obtain ⟨r_11, h11, hf0⟩ := zn hf0
  let Z0 : List HO := (rpN 5 (Hq c0) [Hm (shM z5Z z5Z ([r_2, r_3, r_4, r_5])), Hm (shM (eOs 5 true jZ) wr ([[(z6.mk r_6 1)], [(z6.mk r_7 2), (z6.mk r_8 3)], [(z6.mk r_9 0)], [(z6.mk r_10 0)]])), Hn (Xd (f := .fn 40 []) (xs := [z3L r_1.1, z0X r_1.2.1, z7Q ([r_2, r_3, r_4, r_5] : List z8), zao ([[(z6.mk r_6 1)], [(z6.mk r_7 2), (z6.mk r_8 3)], [(z6.mk r_9 0)], [(z6.mk r_10 0)]] : List (List z6))]) (ls := []) (r := I r_11) (ys := []) [z3L r_1.1, z0X r_1.2.1, zay ([r_2, r_3, r_4, r_5] : List z8), z0X ([[(z6.mk r_6 1)], [(z6.mk r_7 2), (z6.mk r_8 3)], [(z6.mk r_9 0)], [(z6.mk r_10 0)]] : List (List z6))] (show Kb [z3L r_1.1, z0X r_1.2.1, zay ([r_2, r_3, r_4, r_5] : List z8), z0X ([[(z6.mk r_6 1)], [(z6.mk r_7 2), (z6.mk r_8 3)], [(z6.mk r_9 0)], [(z6.mk r_10 0)]] : List (List z6))] [z3L r_1.1, z0X r_1.2.1, z7Q ([r_2, r_3, r_4, r_5] : List z8), zao ([[(z6.mk r_6 1)], [(z6.mk r_7 2), (z6.mk r_8 3)], [(z6.mk r_9 0)], [(z6.mk r_10 0)]] : List (List z6))] from inferInstance)), Hq c0, Hq c0])
  rcases yc hf0 with ⟨c1, hf0⟩ | ⟨c1, hf0⟩
  ·obtain rfl := zl hf0
   exact yE ((j7 (P := Tryz.prog) xQ [] (lentCall (xN hC h02 (x := (r_1.1, r_1.2.1, ([r_2, r_3, r_4, r_5] : List z8), ([[(z6.mk r_6 1)], [(z6.mk r_7 2), (z6.mk r_8 3)], [(z6.mk r_9 0)], [(z6.mk r_10 0)]] : List (List z6)))) h11)) 55).or X0) hC hE (Z0 ++ [Hq c1])
  ·obtain ⟨r_12, h12, hf0⟩ := zn hf0
   obtain ⟨r_13, h13, hf0⟩ := zn hf0
   let Z1 : List HO := (Z0 ++ [Hq c1, Hc h0p (x := (r_, [])) h12 (loC z5W r_ <| loC F1_ ([] : List Int) <| loN), Hg (z05 h0p), Hm (shM (eI .i64) (eI .i64) ([0])), Hs (z06 h0p (x := (r_, [0])) h13 (loC z5W r_ <| loC F1_ ([0] : List Int) <| loN)), Hm (shM (eI .i64) (eI .i64) ([0]))])
   rcases yc hf0 with ⟨c2, hf0⟩ | ⟨c2, hf0⟩
   ·obtain rfl := zl hf0
    exact yE ((j7 (P := Tryz.prog) xQ [] (lentCall (xN hC h02 (x := (r_1.1, r_1.2.1, ([r_2, r_3, r_4, r_5] : List z8), ([[(z6.mk r_6 1)], [(z6.mk r_7 2), (z6.mk r_8 3)], [(z6.mk r_9 0)], [(z6.mk r_10 0)]] : List (List z6)))) h11)) 55).or X0) hC hE (Z1 ++ (Hq c2 :: Hq c2 :: Hq c2 :: (rpN 10 qT [])))
   ·rcases yc hf0 with ⟨c3, hf0⟩ | ⟨c3, hf0⟩
    ·obtain rfl := zl hf0
     exact yE ((j7 (P := Tryz.prog) xQ [] (lentCall (xN hC h02 (x := (r_1.1, r_1.2.1, ([r_2, r_3, r_4, r_5] : List z8), ([[(z6.mk r_6 1)], [(z6.mk r_7 2), (z6.mk r_8 3)], [(z6.mk r_9 0)], [(z6.mk r_10 0)]] : List (List z6)))) h11)) 55).or X0) hC hE (Z1 ++ (Hq c2 :: Hq c2 :: Hq c2 :: (rpN 9 (Hq c3) [qT])))
    ·obtain ⟨r_14, h14, hf0⟩ := zn hf0
     obtain ⟨r_15, h15, hf0⟩ := zn hf0
     let Z2 : List HO := (Z1 ++ [Hq c2, Hq c2, Hq c2, Hq c3, Hq c3, Hq c3, Hg (z05 h0j), Hm (shM (eOs 3 true F8_) V4 ([[(zg.mk 0 0 1)], [(zg.mk 0 0 3), (zg.mk 2 0 2)], [(zg.mk 0 0 0)], [(zg.mk 2 0 0)]])), Hs (z06 h0j (x := (r_12.1, (zF.mk 0 1 ([[(zg.mk 0 0 1)], [(zg.mk 0 0 3), (zg.mk 2 0 2)], [(zg.mk 0 0 0)], [(zg.mk 2 0 0)]])))) h14 (loC (wN (eI .i64) (eI .i64) zaz) r_12.1 <| loC (wN (eI .i64) (eI .i64) (eSl 1 true V4)) (zF.mk 0 1 ([[(zg.mk 0 0 1)], [(zg.mk 0 0 3), (zg.mk 2 0 2)], [(zg.mk 0 0 0)], [(zg.mk 2 0 0)]])) <| loN)), Hq c3, Hq c3, Hq c3, Hg (z05 h0j), Hm (shM (eOs 3 true F8_) V4 ([[(zg.mk 0 0 1)], [(zg.mk 0 0 2), (zg.mk 0 0 3)], [(zg.mk 0 0 0)], [(zg.mk 0 0 0)]])), Hs (z06 h0j (x := (r_13.1, (zF.mk 0 1 ([[(zg.mk 0 0 1)], [(zg.mk 0 0 2), (zg.mk 0 0 3)], [(zg.mk 0 0 0)], [(zg.mk 0 0 0)]])))) h15 (loC (wN (eI .i64) (eI .i64) zaz) r_13.1 <| loC (wN (eI .i64) (eI .i64) (eSl 1 true V4)) (zF.mk 0 1 ([[(zg.mk 0 0 1)], [(zg.mk 0 0 2), (zg.mk 0 0 3)], [(zg.mk 0 0 0)], [(zg.mk 0 0 0)]])) <| loN)), Hq c3, Hq c3, Hq c3])
     rcases yc hf0 with ⟨c4, hf0⟩ | ⟨c4, hf0⟩
     ·obtain rfl := zl hf0
      exact yE ((j7 (P := Tryz.prog) xQ [] (lentCall (xN hC h02 (x := (r_1.1, r_1.2.1, ([r_2, r_3, r_4, r_5] : List z8), ([[(z6.mk r_6 1)], [(z6.mk r_7 2), (z6.mk r_8 3)], [(z6.mk r_9 0)], [(z6.mk r_10 0)]] : List (List z6)))) h11)) 55).or X0) hC hE (Z2 ++ [Hq c4])
     ·obtain ⟨r_16, h16, hf0⟩ := zn hf0
      obtain ⟨r_17, h17, hf0⟩ := zn hf0
      obtain ⟨r_18, h18, hf0⟩ := zn hf0
      obtain ⟨r_19, h19, hf0⟩ := zn hf0
      obtain ⟨r_20, h20, hf0⟩ := zn hf0
      let Z3 : List HO := (Z2 ++ [Hq c4, Hc h0D (x := r_) h16 (loC z5W r_ <| loN), Hn (Xd (f := .fn 37 []) (xs := [(eI .i64) 1, z1H ([] : List ze)]) (ls := []) (r := .agg [I r_17.Messages, I r_17.Labels, eSl 1 true (eI .i64) r_17.Channels, eSl 3 true z7P r_17.Parts]) (ys := []) [(eI .i64) 1, z1H ([] : List ze)] (show Kb [(eI .i64) 1, z1H ([] : List ze)] [(eI .i64) 1, z1H ([] : List ze)] from inferInstance)), Hc h0D (x := r_17) h18 (loC z5W r_17 <| loN), Hm (shM uV uV ([(ze.mk 0 2 0 0 0)])), Hn (Xd (f := .fn 37 []) (xs := [(eI .i64) 0, z1H ([(ze.mk 0 2 0 0 0)] : List ze)]) (ls := []) (r := .agg [I r_19.Messages, I r_19.Labels, eSl 1 true (eI .i64) r_19.Channels, eSl 3 true z7P r_19.Parts]) (ys := []) [(eI .i64) 0, z1H ([(ze.mk 0 2 0 0 0)] : List ze)] (show Kb [(eI .i64) 0, z1H ([(ze.mk 0 2 0 0 0)] : List ze)] [(eI .i64) 0, z1H ([(ze.mk 0 2 0 0 0)] : List ze)] from inferInstance)), Hc h0C (x := r_19) h20 (loC z5W r_19 <| loN)])
      rcases yc hf0 with ⟨c5, hf0⟩ | ⟨c5, hf0⟩
      ·obtain rfl := zl hf0
       exact yE ((j7 (P := Tryz.prog) xQ [] (lentCall (xN hC h00 (x := (0, ([(ze.mk 0 2 0 0 0)] : List ze))) h19)) 122).or ((j7 (P := Tryz.prog) xQ [] (lentCall (xN hC h00 (x := (1, ([] : List ze))) h17)) 114).or ((j7 (P := Tryz.prog) xQ [] (lentCall (xN hC h02 (x := (r_1.1, r_1.2.1, ([r_2, r_3, r_4, r_5] : List z8), ([[(z6.mk r_6 1)], [(z6.mk r_7 2), (z6.mk r_8 3)], [(z6.mk r_9 0)], [(z6.mk r_10 0)]] : List (List z6)))) h11)) 55).or X0))) hC hE (Z3 ++ (Hq c5 :: Hq c5 :: Hq c5 :: (rpN 17 qT [])))
      ·rcases yc hf0 with ⟨c6, hf0⟩ | ⟨c6, hf0⟩
       ·obtain rfl := zl hf0
        exact yE ((j7 (P := Tryz.prog) xQ [] (lentCall (xN hC h00 (x := (0, ([(ze.mk 0 2 0 0 0)] : List ze))) h19)) 122).or ((j7 (P := Tryz.prog) xQ [] (lentCall (xN hC h00 (x := (1, ([] : List ze))) h17)) 114).or ((j7 (P := Tryz.prog) xQ [] (lentCall (xN hC h02 (x := (r_1.1, r_1.2.1, ([r_2, r_3, r_4, r_5] : List z8), ([[(z6.mk r_6 1)], [(z6.mk r_7 2), (z6.mk r_8 3)], [(z6.mk r_9 0)], [(z6.mk r_10 0)]] : List (List z6)))) h11)) 55).or X0))) hC hE (Z3 ++ (Hq c5 :: Hq c5 :: Hq c5 :: (rpN 7 (Hq c6) (rpN 10 qT []))))
       ·obtain ⟨r_21, h21, hf0⟩ := zn hf0
        obtain ⟨r_22, h22, hf0⟩ := zn hf0
        obtain ⟨r_23, h23, hf0⟩ := zn hf0
        let Z4 : List HO := (Z3 ++ [Hq c5, Hq c5, Hq c5, Hq c6, Hq c6, Hc h05 (x := (0,0)) h21 (loC (eI .i64) 0 <| loC (eI .i64) 0 <| loN), Hq c6, Hc h05 (x := (0,1)) h22 (loC (eI .i64) 0 <| loC (eI .i64) 1 <| loN), Hq c6, Hq c6, Hm (shM xK xK ([r_21, r_22])), Hn (Xd (f := .fn 15 []) (xs := [z3T r_18.1, z7R ([r_21, r_22] : List zc)]) (ls := []) (r := I r_23) (ys := []) [z3T r_18.1, z3T ([r_21, r_22] : List zc)] (show Kb [z3T r_18.1, z3T ([r_21, r_22] : List zc)] [z3T r_18.1, z7R ([r_21, r_22] : List zc)] from inferInstance)), Hq c6, Hq c6])
        rcases yc hf0 with ⟨c7, hf0⟩ | ⟨c7, hf0⟩
        ·obtain rfl := zl hf0
         exact yE ((j7 (P := Tryz.prog) xQ [] (lentCall (xN hC h0k (x := (r_18.1, ([r_21, r_22] : List zc))) h23)) 138).or ((j7 (P := Tryz.prog) xQ [] (lentCall (xN hC h00 (x := (0, ([(ze.mk 0 2 0 0 0)] : List ze))) h19)) 122).or ((j7 (P := Tryz.prog) xQ [] (lentCall (xN hC h00 (x := (1, ([] : List ze))) h17)) 114).or ((j7 (P := Tryz.prog) xQ [] (lentCall (xN hC h02 (x := (r_1.1, r_1.2.1, ([r_2, r_3, r_4, r_5] : List z8), ([[(z6.mk r_6 1)], [(z6.mk r_7 2), (z6.mk r_8 3)], [(z6.mk r_9 0)], [(z6.mk r_10 0)]] : List (List z6)))) h11)) 55).or X0)))) hC hE (Z4 ++ (rpN 6 (Hq c7) (rpN 4 qT [])))
        ·obtain ⟨r_24, h24, hf0⟩ := zn hf0
         obtain ⟨r_25, h25, hf0⟩ := zn hf0
         let Z5 : List HO := (Z4 ++ [Hq c7, Hq c7, Hq c7, Hg (z05 h03), Hm (shM (eI .i64) (eI .i64) ([0])), Hs (z06 h03 (x := (0,0, [0])) h24 (loC (eI .i64) 0 <| loC (eI .i64) 0 <| loC F1_ ([0] : List Int) <| loN)), Hm (shM (eI .i64) (eI .i64) ([0])), Hq c7, Hc h0g (x := (r_18.2.1, r_24)) h25 (loC Uz r_18.2.1 <| loC z5Z r_24 <| loN), Hq c7, Hq c7])
         rcases yc hf0 with ⟨c8, hf0⟩ | ⟨c8, hf0⟩
         ·obtain rfl := zl hf0
          exact yE ((j7 (P := Tryz.prog) xQ [] (lentCall (xN hC h0k (x := (r_18.1, ([r_21, r_22] : List zc))) h23)) 138).or ((j7 (P := Tryz.prog) xQ [] (lentCall (xN hC h00 (x := (0, ([(ze.mk 0 2 0 0 0)] : List ze))) h19)) 122).or ((j7 (P := Tryz.prog) xQ [] (lentCall (xN hC h00 (x := (1, ([] : List ze))) h17)) 114).or ((j7 (P := Tryz.prog) xQ [] (lentCall (xN hC h02 (x := (r_1.1, r_1.2.1, ([r_2, r_3, r_4, r_5] : List z8), ([[(z6.mk r_6 1)], [(z6.mk r_7 2), (z6.mk r_8 3)], [(z6.mk r_9 0)], [(z6.mk r_10 0)]] : List (List z6)))) h11)) 55).or X0)))) hC hE (Z5 ++ [Hq c8, Hq c8, Hq c8, qT])
         ·rcases yc hf0 with ⟨c9, hf0⟩ | ⟨c9, hf0⟩
          ·obtain rfl := zl hf0
           exact yE ((j7 (P := Tryz.prog) xQ [] (lentCall (xN hC h0k (x := (r_18.1, ([r_21, r_22] : List zc))) h23)) 138).or ((j7 (P := Tryz.prog) xQ [] (lentCall (xN hC h00 (x := (0, ([(ze.mk 0 2 0 0 0)] : List ze))) h19)) 122).or ((j7 (P := Tryz.prog) xQ [] (lentCall (xN hC h00 (x := (1, ([] : List ze))) h17)) 114).or ((j7 (P := Tryz.prog) xQ [] (lentCall (xN hC h02 (x := (r_1.1, r_1.2.1, ([r_2, r_3, r_4, r_5] : List z8), ([[(z6.mk r_6 1)], [(z6.mk r_7 2), (z6.mk r_8 3)], [(z6.mk r_9 0)], [(z6.mk r_10 0)]] : List (List z6)))) h11)) 55).or X0)))) hC hE (Z5 ++ [Hq c8, Hq c8, Hq c8, Hq c9])
          ·obtain ⟨r_26, h26, hf0⟩ := zn hf0
           obtain ⟨r_27, h27, hf0⟩ := zn hf0
           obtain ⟨r_28, h28, hf0⟩ := zn hf0
           obtain ⟨r_29, h29, hf0⟩ := zn hf0
           obtain rfl := zl hf0
           exact yE ((j7 (P := Tryz.prog) xQ [] (lentCall (xN hC h02 (x := (r_20.1, r_20.2.1, ([r_26, r_27] : List z8), ([[(z6.mk (zc.mk 0 0 1 0) 1)], [(z6.mk r_28 0)]] : List (List z6)))) h29)) 164).or ((j7 (P := Tryz.prog) xQ [] (lentCall (xN hC h0k (x := (r_18.1, ([r_21, r_22] : List zc))) h23)) 138).or ((j7 (P := Tryz.prog) xQ [] (lentCall (xN hC h00 (x := (0, ([(ze.mk 0 2 0 0 0)] : List ze))) h19)) 122).or ((j7 (P := Tryz.prog) xQ [] (lentCall (xN hC h00 (x := (1, ([] : List ze))) h17)) 114).or ((j7 (P := Tryz.prog) xQ [] (lentCall (xN hC h02 (x := (r_1.1, r_1.2.1, ([r_2, r_3, r_4, r_5] : List z8), ([[(z6.mk r_6 1)], [(z6.mk r_7 2), (z6.mk r_8 3)], [(z6.mk r_9 0)], [(z6.mk r_10 0)]] : List (List z6)))) h11)) 55).or X0))))) hC hE (Z5 ++ [Hq c8, Hq c8, Hq c8, Hq c9, Hc h03 (x := (0,0, [])) h26 (loC (eI .i64) 0 <| loC (eI .i64) 0 <| loC F1_ ([] : List Int) <| loN), Hc h03 (x := (1,0, [])) h27 (loC (eI .i64) 1 <| loC (eI .i64) 0 <| loC F1_ ([] : List Int) <| loN), Hc h05 (x := (0,1)) h28 (loC (eI .i64) 0 <| loC (eI .i64) 1 <| loN), Hm (shM z5Z z5Z ([r_26, r_27])), Hm (shM (eOs 5 true jZ) wr ([[(z6.mk (zc.mk 0 0 1 0) 1)], [(z6.mk r_28 0)]])), Hn (Xd (f := .fn 40 []) (xs := [z3L r_20.1, z0X r_20.2.1, z7Q ([r_26, r_27] : List z8), zao ([[(z6.mk (zc.mk 0 0 1 0) 1)], [(z6.mk r_28 0)]] : List (List z6))]) (ls := []) (r := I r_29) (ys := []) [z3L r_20.1, z0X r_20.2.1, zay ([r_26, r_27] : List z8), z0X ([[(z6.mk (zc.mk 0 0 1 0) 1)], [(z6.mk r_28 0)]] : List (List z6))] (show Kb [z3L r_20.1, z0X r_20.2.1, zay ([r_26, r_27] : List z8), z0X ([[(z6.mk (zc.mk 0 0 1 0) 1)], [(z6.mk r_28 0)]] : List (List z6))] [z3L r_20.1, z0X r_20.2.1, z7Q ([r_26, r_27] : List z8), zao ([[(z6.mk (zc.mk 0 0 1 0) 1)], [(z6.mk r_28 0)]] : List (List z6))] from inferInstance))])
def qn : Code := (Tryz.f24.body).getD .skip
def Yg : yV := spF (α := z7 × z8 × zc) (ρ := z8 × Int) 24 (fun x => [xR x.1, kg x.2.1, xK x.2.2]) (fun r => .tup [Uz r.1, (eI .i64) r.2]) (fun x => uY x.1 x.2.1 x.2.2) [] (z8L)
abbrev Uk (x6_States : List Int) (x6_Queues : List (List Int)) : List (Nat × T) := [(6, .own (.box (.agg [eSl 1 true (eI .i64) x6_States, eSl 1 true F1_ x6_Queues]))), (7, .own (.box (I 0)))]
abbrev qO (x_ : z7) (m_ : zc) (r_2 : z7 × za) (x6_States1 : List Int) (x6_Queues1 : List (List Int)) : List (Nat × T) := [(3, .own (.box (xR x_))), (5, .own (.box (xK m_))), (6, .own (.box (.agg [eSl 1 true (eI .i64) x6_States1, eSl 1 true F1_ x6_Queues1]))), (7, .own (.box (I 0))), (21, .d (.fn 82 [.sptr (.agg [I r_2.1.Messages, I r_2.1.Labels, eSl 1 false (eI .i64) r_2.1.Channels, eSl 3 false wG r_2.1.Parts]), .sptr (.agg [.agg [I r_2.2.states_.e0, I r_2.2.states_.e1, I r_2.2.states_.e2, I r_2.2.states_.e3], .agg [.agg [I r_2.2.queues_.e0.many_, .agg [I r_2.2.queues_.e0.l_.e0, I r_2.2.queues_.e0.l_.e1, I r_2.2.queues_.e0.l_.e2, I r_2.2.queues_.e0.l_.e3]], .agg [I r_2.2.queues_.e1.many_, .agg [I r_2.2.queues_.e1.l_.e0, I r_2.2.queues_.e1.l_.e1, I r_2.2.queues_.e1.l_.e2, I r_2.2.queues_.e1.l_.e3]], .agg [I r_2.2.queues_.e2.many_, .agg [I r_2.2.queues_.e2.l_.e0, I r_2.2.queues_.e2.l_.e1, I r_2.2.queues_.e2.l_.e2, I r_2.2.queues_.e2.l_.e3]], .agg [I r_2.2.queues_.e3.many_, .agg [I r_2.2.queues_.e3.l_.e0, I r_2.2.queues_.e3.l_.e1, I r_2.2.queues_.e3.l_.e2, I r_2.2.queues_.e3.l_.e3]]]])]))]
theorem Kh {ctr : Ctr} (hC : zV Tryz.prog ctr) (h0n : ctr.Has wP) (h0o : ctr.Has qJ) (h0c : ctr.Has xL) (h04 : ctr.Has xo) (h07 : ctr.Has xm) (h08 : ctr.Has j5) (h0f : ctr.Has xz) : Yg.Ok Tryz.prog := by
 refine y5 ?_
 rintro ⟨x_, c_, m_⟩ r0 hf0
 try unfold uY at hf0
 refine yO false [(6, some 39), (7, some 40)] qn 31 Tryz.func24 fun E hE => ?_
 obtain ⟨r_, h0, hf0⟩ := zn hf0
 let Z0 : List HO := [Hh (.v 2 [6]), Hm (shM (eI .i64) (eI .i64) []), Hm (shM F2_ F2_ []), Hc h0n (x := (x_, c_)) h0 (loC xR x_ <| loC kg c_ <| loN)]
 rcases yc hf0 with ⟨c0, hf0⟩ | ⟨c0, hf0⟩
 ·obtain rfl := zl hf0
  exact yE X0 hC hE (Z0 ++ [Hq c0, Hm (shM (eI .i64) (eI .i64) []), Hm (shM F2_ F2_ [])])
 ·refine yJ X0 hC qn [1,1] [] [6,7] (fun z : List Int × List (List Int) => Yf z.1 z.2 = some r0) (fun z => Uk z.1 z.2) [(3, .own (.box (xR x_))), (4, .own (.box (kg c_))), (5, .own (.box (xK m_))), (6, .own (.box (.agg [eSl 1 true (eI .i64) [], eSl 1 true F2_ []]))), (7, .own (.box (I 0)))] (Z0 ++ [Hq c0, Hh (.cut 0)]) ?_ fun J1 hJ1 => ?_
  ·rintro ⟨x6_States, x6_Queues⟩ hf0
   unfold Yf at hf0
   obtain rfl := zl hf0
   exact yE X0 hC hE [Hm (shM (eI .i64) (eI .i64) []), Hm (shM F2_ F2_ [])]
  ·obtain ⟨r_1, h1, hf0⟩ := zn hf0
   obtain ⟨r_2, h2, hf0⟩ := zn hf0
   obtain ⟨t2, ht2, hf0⟩ := zn hf0
   refine yAt X0 hC (sub [1,1,2,1,0] qn) (frs [1,1,2,1,0] [J1] qn []) [(3, .own (.box (xR x_))), (5, .own (.box (xK m_))), (6, .own (.box (.agg [eSl 1 true (eI .i64) [], eSl 1 true F1_ []]))), (7, .own (.box (I 0))), (21, .d (.fn 82 [.sptr (.agg [I r_2.1.Messages, I r_2.1.Labels, eSl 1 false (eI .i64) r_2.1.Channels, eSl 3 false wG r_2.1.Parts]), .sptr (.agg [.agg [I r_2.2.states_.e0, I r_2.2.states_.e1, I r_2.2.states_.e2, I r_2.2.states_.e3], .agg [.agg [I r_2.2.queues_.e0.many_, .agg [I r_2.2.queues_.e0.l_.e0, I r_2.2.queues_.e0.l_.e1, I r_2.2.queues_.e0.l_.e2, I r_2.2.queues_.e0.l_.e3]], .agg [I r_2.2.queues_.e1.many_, .agg [I r_2.2.queues_.e1.l_.e0, I r_2.2.queues_.e1.l_.e1, I r_2.2.queues_.e1.l_.e2, I r_2.2.queues_.e1.l_.e3]], .agg [I r_2.2.queues_.e2.many_, .agg [I r_2.2.queues_.e2.l_.e0, I r_2.2.queues_.e2.l_.e1, I r_2.2.queues_.e2.l_.e2, I r_2.2.queues_.e2.l_.e3]], .agg [I r_2.2.queues_.e3.many_, .agg [I r_2.2.queues_.e3.l_.e0, I r_2.2.queues_.e3.l_.e1, I r_2.2.queues_.e3.l_.e2, I r_2.2.queues_.e3.l_.e3]]]])]))] [Hc h0o (x := c_) h1 (loC kg c_ <| loN), Hc h0c (x := (x_, r_1)) h2 (loC xR x_ <| loC yG r_1 <| loN)] fun st0 h0 => ?_
   refine QE (g := .tmp 21) (ps := [22,23]) (assign := (sub [1,1,2,1,0,0] qn)) (body := (sub [1,1,2,1,0,1] qn)) (K := 82) (caps := [.sptr (.agg [I r_2.1.Messages, I r_2.1.Labels, eSl 1 false (eI .i64) r_2.1.Channels, eSl 3 false wG r_2.1.Parts]), .sptr (.agg [.agg [I r_2.2.states_.e0, I r_2.2.states_.e1, I r_2.2.states_.e2, I r_2.2.states_.e3], .agg [.agg [I r_2.2.queues_.e0.many_, .agg [I r_2.2.queues_.e0.l_.e0, I r_2.2.queues_.e0.l_.e1, I r_2.2.queues_.e0.l_.e2, I r_2.2.queues_.e0.l_.e3]], .agg [I r_2.2.queues_.e1.many_, .agg [I r_2.2.queues_.e1.l_.e0, I r_2.2.queues_.e1.l_.e1, I r_2.2.queues_.e1.l_.e2, I r_2.2.queues_.e1.l_.e3]], .agg [I r_2.2.queues_.e2.many_, .agg [I r_2.2.queues_.e2.l_.e0, I r_2.2.queues_.e2.l_.e1, I r_2.2.queues_.e2.l_.e2, I r_2.2.queues_.e2.l_.e3]], .agg [I r_2.2.queues_.e3.many_, .agg [I r_2.2.queues_.e3.l_.e0, I r_2.2.queues_.e3.l_.e1, I r_2.2.queues_.e3.l_.e2, I r_2.2.queues_.e3.l_.e3]]]])]) (by kernel_rfl) [3,5,6,7,21] (fun s => qO x_ m_ r_2 s.1 s.2) (fun s => qO x_ m_ r_2 s.1 s.2) (fun s => Code.ret) ((fun (x : zc × za) (_ : Bool) (_ : Value) => [xK x.1, yG x.2])) (F := @y4 r_2.1 r_2.2) (fun s x => wj x_ m_ s.1 s.2 x.1 x.2) (([] : List Int), ([] : List (List Int))) t2 _ h0 inferInstance (by kernel_rfl) (by decide) (fun _ => rfl) (fun _ => rfl) (by kernel_rfl) (fun _ _ _ => rfl) (vH hC h04 h07 h08 r_2.1 r_2.2) ht2 ?_ ?_
   ·rintro tv2 ⟨x6_States1, x6_Queues1⟩ ⟨x22, x23⟩ vr lr1 hf1
    replace hf1 : wj x_ m_ x6_States1 x6_Queues1 x22 x23 = some lr1 := hf1
    unfold wj at hf1
    refine yF X0 hC .normal [(3, .own (.box (xR x_))), (5, .own (.box (xK m_))), (6, .own (.box (.agg [eSl 1 true (eI .i64) x6_States1, eSl 1 true F1_ x6_Queues1]))), (7, .own (.box (I 0))), (9, .own (.box (xK x22))), (10, .own (.box (yG x23))), (21, .d (.fn 82 [.sptr (.agg [I r_2.1.Messages, I r_2.1.Labels, eSl 1 false (eI .i64) r_2.1.Channels, eSl 3 false wG r_2.1.Parts]), .sptr (.agg [.agg [I r_2.2.states_.e0, I r_2.2.states_.e1, I r_2.2.states_.e2, I r_2.2.states_.e3], .agg [.agg [I r_2.2.queues_.e0.many_, .agg [I r_2.2.queues_.e0.l_.e0, I r_2.2.queues_.e0.l_.e1, I r_2.2.queues_.e0.l_.e2, I r_2.2.queues_.e0.l_.e3]], .agg [I r_2.2.queues_.e1.many_, .agg [I r_2.2.queues_.e1.l_.e0, I r_2.2.queues_.e1.l_.e1, I r_2.2.queues_.e1.l_.e2, I r_2.2.queues_.e1.l_.e3]], .agg [I r_2.2.queues_.e2.many_, .agg [I r_2.2.queues_.e2.l_.e0, I r_2.2.queues_.e2.l_.e1, I r_2.2.queues_.e2.l_.e2, I r_2.2.queues_.e2.l_.e3]], .agg [I r_2.2.queues_.e3.many_, .agg [I r_2.2.queues_.e3.l_.e0, I r_2.2.queues_.e3.l_.e1, I r_2.2.queues_.e3.l_.e2, I r_2.2.queues_.e3.l_.e3]]]])]))] [] fun st0 h0 => ⟨rfl, K5 h0 ?_⟩
    rcases yc hf1 with ⟨c1, hf1⟩ | ⟨c1, hf1⟩
    ·obtain ⟨r_3, h3, hf1⟩ := zn hf1
     obtain rfl := zl hf1
     exact yF X0 hC .ret (qO x_ m_ r_2 r_3.States r_3.Queues) [Hq c1, Hc h0f (x := (x_, x23)) h3 (loC xR x_ <| loC yG x23 <| loN)] fun st0 h0 => ⟨rfl, _, h0, LeL.refl _⟩
    ·obtain rfl := zl hf1
     exact yF X0 hC .normal (qO x_ m_ r_2 x6_States1 x6_Queues1) [Hq c1] fun st0 h0 => ⟨rfl, _, h0, LeL.refl _⟩
   ·rcases t2 with ⟨x6_States1, x6_Queues1⟩ | z
    ·dsimp only at hf0
     exact Yb (by kernel_rfl) (hJ1 _ [(6, .own (.box (.agg [eSl 1 true (eI .i64) x6_States1, eSl 1 true F1_ x6_Queues1]))), (7, .own (.box (I 0)))] (x6_States1, x6_Queues1) hf0 (show Own.canon [6,7] _ = ofL _ by kernel_rfl) inferInstance)
    ·obtain ⟨x6_States1, x6_Queues1⟩ := z
     dsimp only at hf0
     show AWP _ _ (Code.ret) _ _
     obtain rfl := zl hf0
     exact yE X0 hC hE []
def qA : Code := (Tryz.f6.body).getD .skip
def qr : yV := spF (α := y3 × List Int) (ρ := Bool) 6 (fun x => [UI x.1, (eSl 1 false (eI .u8)) x.2]) (fun r => eB r) (fun x => qh x.1 x.2) [] (VS)
abbrev YJ : List (Nat × T) := []
abbrev YI (which : List Int) (r_ : z7) (r_1 : z7) (Channel_e : Int) (Channel_e1 : Int) (a_States : List Int) (a_Queues : List (List Int)) (b_States : List Int) (b_Queues : List (List Int)) (i_ : Int) : List (Nat × T) := [(1, .d (eSl 1 false (eI .u8) which)), (5, .own (.box (z5V r_))), (6, .own (.box (.agg [I r_1.Messages, I r_1.Labels, eSl 1 true (eI .i64) ([w64 (Channel_e + 1), w64 (Channel_e1 + 2)]), eSl 3 false wG r_1.Parts]))), (7, .own (.box (.agg [eSl 1 true (eI .i64) a_States, eSl 1 true F1_ a_Queues]))), (8, .own (.box (.agg [eSl 1 true (eI .i64) b_States, eSl 1 true F1_ b_Queues]))), (9, .d (I i_))]
theorem W7 {ctr : Ctr} (hC : zV Tryz.prog ctr) (h0E : ctr.Has Yk) (h0q : ctr.Has ZH) (h0Y : ctr.Has kq) (h0F : ctr.Has ZJ) (h0G : ctr.Has Yg) (h0g : ctr.Has jB) : qr.Ok Tryz.prog := by
 refine y5 ?_
 rintro ⟨x_, which⟩ r0 hf0
 try unfold qh at hf0
 refine yO true [(4, none)] qA 110 Tryz.func6 fun E hE => ?_
 obtain ⟨g0, hf0⟩ := gdE hf0
 obtain ⟨g1, hf0⟩ := gdE hf0
 obtain ⟨r_, h0, hf0⟩ := zn hf0
 obtain ⟨r_1, h1, hf0⟩ := zn hf0
 obtain ⟨Channel_e, h2, hf0⟩ := zn hf0
 obtain ⟨Channel_e1, h3, hf0⟩ := zn hf0
 obtain ⟨r_2, h4, hf0⟩ := zn hf0
 obtain ⟨r_3, h5, hf0⟩ := zn hf0
 refine yJ X0 hC qA [1,1,1,1,1,1] [] [] (fun z : Unit => wE = some r0) (fun z => YJ) [(1, .d (eSl 1 false (eI .u8) which)), (5, .own (.box (z5V r_))), (6, .own (.box (.agg [I r_1.Messages, I r_1.Labels, eSl 1 true (eI .i64) ([w64 (Channel_e + 1), w64 (Channel_e1 + 2)]), eSl 3 false wG r_1.Parts]))), (7, .own (.box (Uz r_2))), (8, .own (.box (Uz r_3)))] [Hn (⟨rfl, by decide⟩ : true = true ∧ 0 < 2), Hn g0, Hn (⟨rfl, by decide⟩ : true = true ∧ 1 < 2), Hn g1, Hc h0E (x := (y3.mk (z0Y.mk (IntKind.u8.wrap (1 + (Int.tmod x_.Channels.e0 2))) (IntKind.u8.wrap (1 + (Int.tmod x_.Channels.e1 2)))) x_.Parts)) h0 (loC UI (y3.mk (z0Y.mk (IntKind.u8.wrap (1 + (Int.tmod x_.Channels.e0 2))) (IntKind.u8.wrap (1 + (Int.tmod x_.Channels.e1 2)))) x_.Parts) <| loN), Hc h0E (x := (y3.mk (z0Y.mk (IntKind.u8.wrap (1 + (Int.tmod x_.Channels.e0 2))) (IntKind.u8.wrap (1 + (Int.tmod x_.Channels.e1 2)))) x_.Parts)) h1 (loC UI (y3.mk (z0Y.mk (IntKind.u8.wrap (1 + (Int.tmod x_.Channels.e0 2))) (IntKind.u8.wrap (1 + (Int.tmod x_.Channels.e1 2)))) x_.Parts) <| loN), Hi (eI .i64) h2, Hi (eI .i64) h3, Hc h0q (x := r_) h4 (loC z5V r_ <| loN), Hg (z05 h0q), Hm (shM (eI .i64) (eI .i64) ([w64 (Channel_e + 1), w64 (Channel_e1 + 2)])), Hs (z06 h0q (x := (z7.mk r_1.Messages r_1.Labels ([w64 (Channel_e + 1), w64 (Channel_e1 + 2)]) r_1.Parts)) h5 (loC z5V (z7.mk r_1.Messages r_1.Labels ([w64 (Channel_e + 1), w64 (Channel_e1 + 2)]) r_1.Parts) <| loN)), Hm (shM (eI .i64) (eI .i64) ([w64 (Channel_e + 1), w64 (Channel_e1 + 2)])), Hh (.cut 0)] ?_ fun J1 hJ1 => ?_
 ·rintro ⟨⟩ hf0
  unfold wE at hf0
  obtain ⟨r_4, h6, hf0⟩ := zn hf0
  obtain rfl := zl hf0
  exact yE X0 hC hE [Hc h0F (x := ()) h6 (loN)]
 ·obtain ⟨t2, ht2, hf0⟩ := zn hf0
  refine yL X0 hC qA [1,1,1,1,1,1,2,1,0] [J1] (fun s => wD which r_ r_1 Channel_e Channel_e1 s.1 s.2.1 s.2.2.1 s.2.2.2.1 s.2.2.2.2) (fun x => YI which r_ r_1 Channel_e Channel_e1 x.1 x.2.1 x.2.2.1 x.2.2.2.1 x.2.2.2.2) (r_2.States, r_2.Queues, r_3.States, r_3.Queues, 0) ht2  [] ?_
  rintro ⟨a_States, a_Queues, b_States, b_Queues, i_⟩ m2 lr1 hf1 hl1 J2 hJ2
  try unfold wD at hf1
  rcases yc hf1 with ⟨c0, hf1⟩ | ⟨c0, hf1⟩
  ·let Z0 : List HO := [Ha (lnM (eI .u8) which), Hq c0, Hq c0, Hq c0]
   rcases yc hf1 with ⟨c1, hf1⟩ | ⟨c1, hf1⟩
   ·obtain ⟨r_5, h7, hf1⟩ := zn hf1
    let Z1 : List HO := (Z0 ++ [Hq c1, Hc h0Y (x := (r_, (z8.mk a_States a_Queues))) h7 (loC z5V r_ <| loC Uz (z8.mk a_States a_Queues) <| loN)])
    rcases yc hf1 with ⟨c2, hf1⟩ | ⟨c2, hf1⟩
    ·obtain rfl := zl hf1
     obtain rfl := hl1
     obtain rfl := zl hf0
     exact yE X0 hC hE (Z1 ++ [Hq c2])
    ·let Z2 : List HO := (Z1 ++ [Hq c2, Ha (lnM xK r_5.1)])
     rcases yc hf1 with ⟨c3, hf1⟩ | ⟨c3, hf1⟩
     ·obtain ⟨r_6, h8, hf1⟩ := zn hf1
      obtain rfl := zl hf1
      obtain rfl := hl1
      obtain rfl := zl hf0
      exact yE X0 hC hE (Z2 ++ [Hq c3, Hc h0F (x := ()) h8 (loN)])
     ·obtain ⟨which_e, h9, hf1⟩ := zn hf1
      obtain ⟨g2, hf1⟩ := gdE hf1
      obtain ⟨u_, h10, hf1⟩ := zn hf1
      obtain ⟨r_7, h11, hf1⟩ := zn hf1
      obtain ⟨r_8, h12, hf1⟩ := zn hf1
      let Z3 : List HO := (Z2 ++ [Hq c3, Hi (eI .u8) h9, Ha (lnM xK r_5.1), Hn g2, Hi xK h10, Hc h0G (x := (r_, (z8.mk a_States a_Queues), u_)) h11 (loC z5V r_ <| loC Uz (z8.mk a_States a_Queues) <| loC xK u_ <| loN), Hc h0G (x := ((z7.mk r_1.Messages r_1.Labels ([w64 (Channel_e + 1), w64 (Channel_e1 + 2)]) r_1.Parts), (z8.mk b_States b_Queues), u_)) h12 (loC z5V (z7.mk r_1.Messages r_1.Labels ([w64 (Channel_e + 1), w64 (Channel_e1 + 2)]) r_1.Parts) <| loC Uz (z8.mk b_States b_Queues) <| loC xK u_ <| loN)])
      rcases yc hf1 with ⟨c4, hf1⟩ | ⟨c4, hf1⟩
      ·obtain rfl := zl hf1
       obtain rfl := hl1
       obtain rfl := zl hf0
       exact yE X0 hC hE (Z3 ++ (Hq c4 :: Hq c4 :: Hq c4 :: (rpN 6 qT [])))
      ·rcases yc hf1 with ⟨c5, hf1⟩ | ⟨c5, hf1⟩
       ·obtain rfl := zl hf1
        obtain rfl := hl1
        obtain rfl := zl hf0
        exact yE X0 hC hE (Z3 ++ (Hq c4 :: Hq c4 :: Hq c4 :: (rpN 5 (Hq c5) [qT])))
       ·obtain ⟨r_9, h13, hf1⟩ := zn hf1
        let Z4 : List HO := (Z3 ++ [Hq c4, Hq c4, Hq c4, Hq c5, Hq c5, Hq c5, Hc h0g (x := (r_7.1, r_8.1)) h13 (loC Uz r_7.1 <| loC Uz r_8.1 <| loN), Hq c5, Hq c5])
        rcases yc hf1 with ⟨c6, hf1⟩ | ⟨c6, hf1⟩
        ·obtain rfl := zl hf1
         obtain rfl := hl1
         obtain rfl := zl hf0
         exact yE X0 hC hE (Z4 ++ [Hq c6])
        ·obtain rfl := zl hf1
         exact yB X0 hC hJ2 (r_7.1.States, r_7.1.Queues, r_8.1.States, r_8.1.Queues, w64 (i_ + 1)) hl1 (Z4 ++ [Hq c6])
   ·obtain rfl := zl hf1
    obtain rfl := hl1
    exact yB X0 hC hJ1 () hf0 (Z0 ++ [Hq c1])
  ·obtain rfl := zl hf1
   obtain rfl := hl1
   exact yB X0 hC hJ1 () hf0 [Ha (lnM (eI .u8) which), Hq c0, Hq c0, Hq c0, qF]
theorem xD {l : List yV} {s : yV} (h : ((l.map yV.k).contains s.k) = false) : ∀ t ∈ l, t.k ≠ s.k := by
 intro t ht e
 have : (l.map yV.k).contains s.k = true := by
  rw [List.contains_iff_mem, ← e]
  exact List.mem_map_of_mem ht
 rw [h] at this
 cases this
theorem zJ {l : List yV} {c : Ctr} (H : ∀ t ∈ l, c.Has t) (i : Nat) {s : yV} (h : l[i]? = some s) : c.Has s := H _ (List.mem_of_getElem? h)
def L0 : List yV := Yk :: []
def L1 : List yV := ZH :: L0
def L2 : List yV := vg :: L1
def L3 : List yV := jy :: L2
def L4 : List yV := yo :: L3
def L5 : List yV := yh :: L4
def L6 : List yV := kp :: L5
def L7 : List yV := vh :: L6
def L8 : List yV := qa :: L7
def L9 : List yV := uZ :: L8
def L10 : List yV := ud :: L9
def L11 : List yV := jA :: L10
def L12 : List yV := yN :: L11
def L13 : List yV := ym :: L12
def L14 : List yV := wW :: L13
def L15 : List yV := xA :: L14
def L16 : List yV := wP :: L15
def L17 : List yV := vE :: L16
def L18 : List yV := qJ :: L17
def L19 : List yV := xL :: L18
def L20 : List yV := xo :: L19
def L21 : List yV := uS :: L20
def L22 : List yV := xm :: L21
def L23 : List yV := j5 :: L22
def L24 : List yV := yd :: L23
def L25 : List yV := kq :: L24
def L26 : List yV := Yi :: L25
def L27 : List yV := yX :: L26
def L28 : List yV := xM :: L27
def L29 : List yV := ug :: L28
def L30 : List yV := uB :: L29
def L31 : List yV := xz :: L30
def L32 : List yV := yM :: L31
def L33 : List yV := kr :: L32
def L34 : List yV := kT :: L33
def L35 : List yV := Yj :: L34
def L36 : List yV := kS :: L35
def L37 : List yV := Yh :: L36
def L38 : List yV := jB :: L37
def L39 : List yV := ZK :: L38
def L40 : List yV := qK :: L39
def L41 : List yV := kU :: L40
def L42 : List yV := qZ :: L41
def L43 : List yV := wl :: L42
def L44 : List yV := jC :: L43
def L45 : List yV := qt :: L44
def L46 : List yV := jD :: L45
def L47 : List yV := Yl :: L46
def L48 : List yV := qq :: L47
def L49 : List yV := xe :: L48
def L50 : List yV := xH :: L49
def L51 : List yV := xx :: L50
def L52 : List yV := jz :: L51
def L53 : List yV := ku :: L52
def L54 : List yV := uf :: L53
def L55 : List yV := wT :: L54
def L56 : List yV := ue :: L55
def L57 : List yV := qY :: L56
def L58 : List yV := ZI :: L57
def L59 : List yV := ZJ :: L58
def L60 : List yV := Yg :: L59
def L61 : List yV := qr :: L60
theorem zc3 : zK Tryz.prog L0 := ⟨fun _ hC H => Km hC, xD (by kernel_rfl), trivial⟩
theorem zc2 : zK Tryz.prog L1 := ⟨fun _ hC H => Jx hC, xD (by kernel_rfl), zc3⟩
theorem zc1 : zK Tryz.prog L2 := ⟨fun _ hC H => V7 hC, xD (by kernel_rfl), zc2⟩
theorem zc0 : zK Tryz.prog L3 := ⟨fun _ hC H => V6 hC, xD (by kernel_rfl), zc1⟩
theorem zbZ : zK Tryz.prog L4 := ⟨fun _ hC H => vW hC (zJ H 0 rfl), xD (by kernel_rfl), zc0⟩
theorem zbY : zK Tryz.prog L5 := ⟨fun _ hC H => vt hC (zJ H 0 rfl), xD (by kernel_rfl), zbZ⟩
theorem zbX : zK Tryz.prog L6 := ⟨fun _ hC H => UK hC (zJ H 3 rfl) (zJ H 0 rfl), xD (by kernel_rfl), zbY⟩
theorem zbW : zK Tryz.prog L7 := ⟨fun _ hC H => Va hC, xD (by kernel_rfl), zbX⟩
theorem zbV : zK Tryz.prog L8 := ⟨fun _ hC H => Kg hC, xD (by kernel_rfl), zbW⟩
theorem zbU : zK Tryz.prog L9 := ⟨fun _ hC H => U0 hC (zJ H 0 rfl), xD (by kernel_rfl), zbV⟩
theorem zan : zK Tryz.prog L10 := ⟨fun _ hC H => YP hC (zJ H 1 rfl), xD (by kernel_rfl), zbU⟩
theorem zam : zK Tryz.prog L11 := ⟨fun _ hC H => V9 hC (zJ H 0 rfl), xD (by kernel_rfl), zan⟩
theorem zal : zK Tryz.prog L12 := ⟨fun _ hC H => uo hC (zJ H 0 rfl), xD (by kernel_rfl), zam⟩
theorem zak : zK Tryz.prog L13 := ⟨fun _ hC H => vI hC (zJ H 0 rfl), xD (by kernel_rfl), zal⟩
theorem zaj : zK Tryz.prog L14 := ⟨fun _ hC H => UN hC (zJ H 7 rfl) (zJ H 6 rfl) (zJ H 4 rfl) (zJ H 0 rfl), xD (by kernel_rfl), zak⟩
theorem zai : zK Tryz.prog L15 := ⟨fun _ hC H => Yd hC (zJ H 6 rfl), xD (by kernel_rfl), zaj⟩
theorem zah : zK Tryz.prog L16 := ⟨fun _ hC H => Xb hC (zJ H 1 rfl) (zJ H 7 rfl) (zJ H 0 rfl), xD (by kernel_rfl), zai⟩
theorem zag : zK Tryz.prog L17 := ⟨fun _ hC H => W5 hC, xD (by kernel_rfl), zah⟩
theorem zaf : zK Tryz.prog L18 := ⟨fun _ hC H => UJ hC (zJ H 0 rfl), xD (by kernel_rfl), zag⟩
theorem zae : zK Tryz.prog L19 := ⟨fun _ hC H => YR hC, xD (by kernel_rfl), zaf⟩
theorem zad : zK Tryz.prog L20 := ⟨fun _ hC H => Xa hC, xD (by kernel_rfl), zae⟩
theorem zac : zK Tryz.prog L21 := ⟨fun _ hC H => XN hC, xD (by kernel_rfl), zad⟩
theorem zab : zK Tryz.prog L22 := ⟨fun _ hC H => X9 hC (zJ H 4 rfl) (zJ H 0 rfl), xD (by kernel_rfl), zac⟩
theorem zaa : zK Tryz.prog L23 := ⟨fun _ hC H => z0p hC, xD (by kernel_rfl), zab⟩
theorem za9 : zK Tryz.prog L24 := ⟨fun _ hC H => uQ hC, xD (by kernel_rfl), zaa⟩
theorem za8 : zK Tryz.prog L25 := ⟨fun _ hC H => UL hC (zJ H 8 rfl) (zJ H 6 rfl) (zJ H 5 rfl) (zJ H 4 rfl) (zJ H 2 rfl) (zJ H 1 rfl) (zJ H 0 rfl), xD (by kernel_rfl), za9⟩
theorem za7 : zK Tryz.prog L26 := ⟨fun _ hC H => Kk hC, xD (by kernel_rfl), za8⟩
theorem za6 : zK Tryz.prog L27 := ⟨fun _ hC H => uP hC, xD (by kernel_rfl), za7⟩
theorem za5 : zK Tryz.prog L28 := ⟨fun _ hC H => YS hC (zJ H 8 rfl) (zJ H 7 rfl) (zJ H 5 rfl) (zJ H 4 rfl) (zJ H 0 rfl), xD (by kernel_rfl), za6⟩
theorem za4 : zK Tryz.prog L29 := ⟨fun _ hC H => YU hC, xD (by kernel_rfl), za5⟩
theorem za3 : zK Tryz.prog L30 := ⟨fun _ hC H => Xc hC, xD (by kernel_rfl), za4⟩
theorem za2 : zK Tryz.prog L31 := ⟨fun _ hC H => Yc hC (zJ H 1 rfl) (zJ H 0 rfl), xD (by kernel_rfl), za3⟩
theorem za1 : zK Tryz.prog L32 := ⟨fun _ hC H => u3 hC, xD (by kernel_rfl), za2⟩
theorem za0 : zK Tryz.prog L33 := ⟨fun _ hC H => UM hC (zJ H 18 rfl) (zJ H 4 rfl) (zJ H 1 rfl) (zJ H 0 rfl), xD (by kernel_rfl), za1⟩
theorem z9Z : zK Tryz.prog L34 := ⟨fun _ hC H => QK hC, xD (by kernel_rfl), za0⟩
theorem z9Y : zK Tryz.prog L35 := ⟨fun _ hC H => Kl hC, xD (by kernel_rfl), z9Z⟩
theorem z9X : zK Tryz.prog L36 := ⟨fun _ hC H => QJ hC, xD (by kernel_rfl), z9Y⟩
theorem z9W : zK Tryz.prog L37 := ⟨fun _ hC H => Kj hC (zJ H 0 rfl), xD (by kernel_rfl), z9X⟩
theorem z9V : zK Tryz.prog L38 := ⟨fun _ hC H => Ki hC (zJ H 0 rfl), xD (by kernel_rfl), z9W⟩
theorem z9U : zK Tryz.prog L39 := ⟨fun _ hC H => JA hC (zJ H 0 rfl), xD (by kernel_rfl), z9V⟩
theorem z9T : zK Tryz.prog L40 := ⟨fun _ hC H => UP hC, xD (by kernel_rfl), z9U⟩
theorem z9S : zK Tryz.prog L41 := ⟨fun _ hC H => QL hC (zJ H 0 rfl), xD (by kernel_rfl), z9T⟩
theorem z9R : zK Tryz.prog L42 := ⟨fun _ hC H => WH hC, xD (by kernel_rfl), z9S⟩
theorem z9Q : zK Tryz.prog L43 := ⟨fun _ hC H => kj hC (zJ H 1 rfl) (zJ H 0 rfl), xD (by kernel_rfl), z9R⟩
theorem z9P : zK Tryz.prog L44 := ⟨fun _ hC H => Vb hC, xD (by kernel_rfl), z9Q⟩
theorem z9O : zK Tryz.prog L45 := ⟨fun _ hC H => W8 hC (zJ H 0 rfl), xD (by kernel_rfl), z9P⟩
theorem z9N : zK Tryz.prog L46 := ⟨fun _ hC H => Vc hC (zJ H 5 rfl), xD (by kernel_rfl), z9O⟩
theorem z9M : zK Tryz.prog L47 := ⟨fun _ hC H => Kn hC, xD (by kernel_rfl), z9N⟩
theorem z9L : zK Tryz.prog L48 := ⟨fun _ hC H => W6 hC (zJ H 2 rfl) (zJ H 1 rfl) (zJ H 0 rfl), xD (by kernel_rfl), z9M⟩
theorem z9K : zK Tryz.prog L49 := ⟨fun _ hC H => qB hC, xD (by kernel_rfl), z9L⟩
theorem z9J : zK Tryz.prog L50 := ⟨fun _ hC H => jl hC, xD (by kernel_rfl), z9K⟩
theorem z9I : zK Tryz.prog L51 := ⟨fun _ hC H => j8 hC, xD (by kernel_rfl), z9J⟩
theorem z9H : zK Tryz.prog L52 := ⟨fun _ hC H => V8 hC (zJ H 37 rfl) (zJ H 42 rfl) (zJ H 23 rfl) (zJ H 8 rfl) (zJ H 3 rfl) (zJ H 2 rfl) (zJ H 1 rfl) (zJ H 0 rfl), xD (by kernel_rfl), z9I⟩
theorem z9G : zK Tryz.prog L53 := ⟨fun _ hC H => UO hC, xD (by kernel_rfl), z9H⟩
theorem z9F : zK Tryz.prog L54 := ⟨fun _ hC H => YT hC, xD (by kernel_rfl), z9G⟩
theorem z9E : zK Tryz.prog L55 := ⟨fun _ hC H => ZG hC (zJ H 0 rfl), xD (by kernel_rfl), z9F⟩
theorem z9D : zK Tryz.prog L56 := ⟨fun _ hC H => YQ hC (zJ H 0 rfl), xD (by kernel_rfl), z9E⟩
theorem z9C : zK Tryz.prog L57 := ⟨fun _ hC H => WG hC (zJ H 42 rfl) (zJ H 28 rfl) (zJ H 0 rfl) (zJ H 32 rfl) (zJ H 25 rfl), xD (by kernel_rfl), z9D⟩
theorem z9B : zK Tryz.prog L58 := ⟨fun _ hC H => Jy hC, xD (by kernel_rfl), z9C⟩
theorem z9A : zK Tryz.prog L59 := ⟨fun _ hC H => Jz hC (zJ H 32 rfl) (zJ H 25 rfl) (zJ H 24 rfl) (zJ H 23 rfl) (zJ H 19 rfl) (zJ H 6 rfl) (zJ H 5 rfl) (zJ H 1 rfl) (zJ H 0 rfl) (zJ H 20 rfl), xD (by kernel_rfl), z9B⟩
theorem z9z : zK Tryz.prog L60 := ⟨fun _ hC H => Kh hC (zJ H 43 rfl) (zJ H 41 rfl) (zJ H 40 rfl) (zJ H 39 rfl) (zJ H 37 rfl) (zJ H 36 rfl) (zJ H 28 rfl), xD (by kernel_rfl), z9A⟩
theorem z9y : zK Tryz.prog L61 := ⟨fun _ hC H => W7 hC (zJ H 60 rfl) (zJ H 59 rfl) (zJ H 35 rfl) (zJ H 1 rfl) (zJ H 0 rfl) (zJ H 22 rfl), xD (by kernel_rfl), z9z⟩
theorem uR {x : Int} (h1 : -9223372036854775808 ≤ x) (h2 : x ≤ 9223372036854775807) : w64 x = x := by
 simp only [w64, IntKind.wrap, IntKind.bits, IntKind.signed]
 simp
 omega
section
variable {α β σ τ ρ : Type}
def Ret (x : Option α) (Q : α → Prop) : Prop := ∃ a, x = some a ∧ Q a
theorem qd {a : α} {Q : α → Prop} : Ret (some a) Q ↔ Q a := ⟨fun ⟨b, e, q⟩ => by cases e; exact q, fun q => ⟨a, rfl, q⟩⟩
theorem gdT {p : Prop} [Decidable p] {x : Option α} (h : p) : gd p x = x := by unfold gd; rw [if_pos h]
theorem bdT {x : Option α} {u : α} {f : α → Option ρ} (h : x = some u) : Option.bind x f = f u := by rw [h]; rfl
theorem XI (step : σ → Option (LR σ τ)) (n : Nat) (s : σ) : WP step (n + 1) s = (match step s with | none => none | some (.next s') => WP step n s' | some (.done t) => some t) := rfl
def LRP (N : σ → Prop) (D : τ → Prop) : LR σ τ → Prop
 | .next s => N s
 | .done t => D t
theorem UA {step : σ → Option (LR σ τ)} (I : σ → Prop) (m : σ → Nat) {R : τ → Prop} {s : σ} (hs : I s) (hm : m s < 18446744073709551616)
  (h : ∀ s, I s → Ret (step s) (LRP (fun s' => I s' ∧ m s' < m s) R)) : Ret (loop step s) R := by
 have gen : ∀ (n : Nat) (s : σ), I s → m s < n → Ret (WP step n s) R := by
  intro n
  induction n with
  | zero => intro s _ h; omega
  | succ n ih =>
   intro s hs hm
   obtain ⟨a, e, q⟩ := h s hs
   rw [XI, e]
   cases a with
   | next s' => exact ih s' q.1 (by have := q.2; omega)
   | done t => exact ⟨t, rfl, q⟩
 exact gen fuel s hs hm
theorem JT {step : σ → Option (LR σ τ)} (st : Nat → σ) (n : Nat) {t : τ} (hn : n < 9223372036854775808) (h : ∀ i, i < n → step (st i) = some (.next (st (i + 1)))) (hd : step (st n) = some (.done t)) : loop step (st 0) = some t := by
 have gen : ∀ (k : Nat) (i : Nat), i ≤ n → n - i < k → WP step k (st i) = some t := by
  intro k
  induction k with
  | zero => intro i _ h; omega
  | succ k ih =>
   intro i hi hk
   rw [XI]
   rcases Nat.lt_or_ge i n with q | q
   ·rw [h i q]
    exact ih (i + 1) q (by omega)
   ·have : i = n := by omega
    subst this
    rw [hd]
 exact gen fuel 0 (Nat.zero_le _) (by show n - 0 < 18446744073709551616; omega)
def Xl (f : Nat → α → Option ρ) : List α → Nat → Option ρ
 | [], _ => none
 | x :: l, i => match f i x with | some r => some r | none => Xl f l (i + 1)
theorem Qw {f : Nat → α → Option ρ} : ∀ {l : List α} {k : Nat}, (∀ i x, l[i]? = some x → f (k + i) x = none) → Xl f l k = none
 | [], _, _ => rfl
 | x :: l, k, h => by
  have h0 := h 0 x rfl
  simp only [Nat.add_zero] at h0
  simp only [Xl, h0]
  exact Qw fun i y hy => by have := h (i + 1) y (by simpa using hy); rwa [show k + 1 + i = k + (i + 1) by omega]
theorem Qv {f : Nat → α → Option ρ} {r : ρ} : ∀ {l : List α} {k : Nat}, Xl f l k = some r → ∃ i x, l[i]? = some x ∧ f (k + i) x = some r
 | [], _, h => by cases h
 | x :: l, k, h => by
  simp only [Xl] at h
  cases hf : f k x with
  | some r' => rw [hf] at h; exact ⟨0, x, rfl, by rw [Nat.add_zero, hf]; exact h⟩
  | none =>
   rw [hf] at h
   obtain ⟨i, y, h1, h2⟩ := Qv h
   exact ⟨i + 1, y, by simpa using h1, by rw [← h2]; congr 1; omega⟩
theorem JY {f : Nat → α → Option ρ} {l : List α} {k : Nat} (h : Xl f l k = none) : ∀ i x, l[i]? = some x → f (k + i) x = none := by
 induction l generalizing k with
 | nil => intro i x h; simp at h
 | cons y l ih =>
  intro i x hx
  simp only [Xl] at h
  cases hf : f k y with
  | some r' => rw [hf] at h; cases h
  | none =>
   rw [hf] at h
   cases i with
   | zero => simp at hx; subst hx; simpa using hf
   | succ i => have := ih h i x (by simpa using hx); rwa [show k + (i + 1) = k + 1 + i by omega]
def oS : Option ρ → Unit ⊕ ρ
 | some r => .inr r
 | none => .inl ()
def nS (i : Nat) : Option ρ → LR Int (Unit ⊕ ρ)
 | some r => .done (.inr r)
 | none => .next (w64 ((i : Int) + 1))
theorem KT (l : List α) (hl : l.length < 4611686018427387904) {step : Int → Option (LR Int (Unit ⊕ ρ))} (f : Nat → α → Option ρ)
  (h : ∀ (i : Nat) (x : α), l[i]? = some x → step (i : Int) = some (nS i (f i x))) (h2 : step (l.length : Int) = some (.done (.inl ()))) :
  loop step 0 = some (oS (Xl f l 0)) := by
 have gen : ∀ (n : Nat) (k : Nat), k ≤ l.length → l.length - k < n → WP step n (k : Int) = some (oS (Xl f (l.drop k) k)) := by
  intro n
  induction n with
  | zero => intro k _ h; omega
  | succ n ih =>
   intro k hk hn
   rw [XI]
   rcases Nat.lt_or_ge k l.length with hlt | hge
   ·have hx : l[k]? = some l[k] := List.getElem?_eq_getElem hlt
    rw [h k _ hx, List.drop_eq_getElem_cons hlt]
    simp only [Xl]
    cases hf : f k l[k] with
    | some r => rfl
    | none =>
     simp only [nS]
     rw [uR (by omega) (by omega)]
     exact ih (k + 1) hlt (by omega)
   ·have : k = l.length := by omega
    subst this
    rw [h2, List.drop_length]
    rfl
 exact gen fuel 0 (Nat.zero_le _) (by show l.length - 0 < 18446744073709551616; omega)
end
theorem uG {α : Type} {l : List α} {i : Nat} {x : α} (h : l[i]? = some x) : idx l (i : Int) = some x := h
theorem wt {α : Type} {l : List α} {i : Nat} {x : α} (h : l[i]? = some x) : i < l.length := (List.getElem?_eq_some_iff.1 h).1
section
variable {α β σ τ ρ : Type}
def nxt (f : σ → Option (LR τ ρ)) : LR σ ρ → Option (LR τ ρ)
 | .next s => f s
 | .done r => some (.done r)
def z1X (g : Nat → α → σ → Option (LR σ ρ)) : List α → Nat → σ → Option (LR σ ρ)
 | [], _, s => some (.next s)
 | x :: l, k, s => Option.bind (g k x s) (nxt (z1X g l (k + 1)))
def zcG (k : Nat) (fin : LR σ ρ → τ) : LR σ ρ → LR (σ × Int) τ
 | .next s => .next (s, w64 ((k : Int) + 1))
 | .done r => .done (fin (.done r))
theorem Vn (l : List α) (hl : l.length < 4611686018427387904) {step : σ × Int → Option (LR (σ × Int) τ)} (g : Nat → α → σ → Option (LR σ ρ)) (fin : LR σ ρ → τ) (s : σ)
  (h : ∀ (i : Nat) (x : α) (s : σ), l[i]? = some x → step (s, (i : Int)) = (g i x s).map (zcG i fin)) (h2 : ∀ s, step (s, (l.length : Int)) = some (.done (fin (.next s)))) :
  loop step (s, 0) = (z1X g l 0 s).map fin := by
 have gen : ∀ (n : Nat) (k : Nat) (s : σ), k ≤ l.length → l.length - k < n → WP step n (s, (k : Int)) = (z1X g (l.drop k) k s).map fin := by
  intro n
  induction n with
  | zero => intro k s _ h; omega
  | succ n ih =>
   intro k s hk hn
   rw [XI]
   rcases Nat.lt_or_ge k l.length with hlt | hge
   ·have hx : l[k]? = some l[k] := List.getElem?_eq_getElem hlt
    rw [h k _ s hx, List.drop_eq_getElem_cons hlt]
    simp only [z1X]
    cases hg : g k l[k] s with
    | none => rfl
    | some r =>
     cases r with
     | done r => rfl
     | next s' =>
      simp only [Option.map_some, zcG, oB, nxt]
      rw [uR (by omega) (by omega)]
      exact ih (k + 1) s' hlt (by omega)
   ·have : k = l.length := by omega
    subst this
    rw [h2, List.drop_length]
    rfl
 exact gen fuel 0 s (Nat.zero_le _) (by show l.length - 0 < 18446744073709551616; omega)
def vZ (yy : σ → α → Option (σ × Bool)) : List α → σ → Option (LR σ σ)
 | [], s => some (.next s)
 | x :: l, s => Option.bind (yy s x) fun r => bif r.2 then vZ yy l r.1 else some (.done r.1)
theorem VU (yy : σ → α → Option (σ × Bool)) (l m : List α) (s : σ) : vZ yy (l ++ m) s = Option.bind (vZ yy l s) (nxt (vZ yy m)) := by
 induction l generalizing s with
 | nil => rfl
 | cons x l ih =>
  simp only [List.cons_append, vZ]
  cases yy s x with
  | none => rfl
  | some r =>
   simp only [oB]
   cases r.2 with
   | true => exact ih r.1
   | false => rfl
def Vs (f : Nat → α → List β) : List α → Nat → List β
 | [], _ => []
 | x :: l, k => f k x ++ Vs f l (k + 1)
theorem WO {f : Nat → α → List β} {y : β} : ∀ {l : List α} {k : Nat}, y ∈ Vs f l k ↔ ∃ i x, l[i]? = some x ∧ y ∈ f (k + i) x
 | [], k => by simp [Vs]
 | x :: l, k => by
  rw [Vs, List.mem_append, WO (l := l)]
  constructor
  ·rintro (h | ⟨i, z, h1, h2⟩)
   ·exact ⟨0, x, rfl, h⟩
   ·exact ⟨i + 1, z, by simpa using h1, by rwa [show k + (i + 1) = k + 1 + i by omega]⟩
  ·rintro ⟨i, z, h1, h2⟩
   cases i with
   | zero => simp at h1; subst h1; exact .inl h2
   | succ i => exact .inr ⟨i, z, by simpa using h1, by rwa [show k + 1 + i = k + (i + 1) by omega]⟩
theorem WT {f : Nat → α → List β} {b : Nat} : ∀ {l : List α} {k : Nat}, (∀ i x, l[i]? = some x → (f (k + i) x).length ≤ b) → (Vs f l k).length ≤ l.length * b
 | [], k, _ => by simp [Vs]
 | x :: l, k, h => by
  rw [Vs, List.length_append, List.length_cons, Nat.succ_mul]
  have h1 := h 0 x rfl
  have h2 := WT (f := f) (l := l) (k := k + 1) (b := b) fun i z hz => by
   have := h (i + 1) z (by simpa using hz)
   rwa [show k + 1 + i = k + (i + 1) by omega]
  simp only [Nat.add_zero] at h1
  omega
theorem XK (yy : σ → β → Option (σ × Bool)) (f : Nat → α → List β) {g : Nat → α → σ → Option (LR σ σ)} :
  ∀ {l : List α} {k : Nat} {s : σ}, (∀ i x s, l[i]? = some x → g (k + i) x s = vZ yy (f (k + i) x) s) → z1X g l k s = vZ yy (Vs f l k) s
 | [], k, s, _ => rfl
 | x :: l, k, s, h => by
  rw [Vs, VU, z1X]
  have h0 := h 0 x s rfl
  rw [Nat.add_zero] at h0
  rw [h0]
  congr 1
  funext r
  cases r with
  | done r => rfl
  | next s' =>
   exact XK yy f fun i z s hz => by
    have := h (i + 1) z s (by simpa using hz)
    rwa [show k + (i + 1) = k + 1 + i by omega] at this
theorem z0a (yy : σ → β → Option (σ × Bool)) (f : α → List β) {step : σ → α → Option (LR σ σ)} :
  ∀ {l : List α} {s : σ}, (∀ x ∈ l, ∀ s, step s x = vZ yy (f x) s) → vZ (yOf step) l (.next s) = (vZ yy (l.flatMap f) s).map (fun r => match r with | .next s => .next (.next s) | .done s => .done (.done s))
 | [], s, _ => rfl
 | x :: l, s, h => by
  rw [List.flatMap_cons, VU, vZ, yOf, h x List.mem_cons_self s]
  cases vZ yy (f x) s with
  | none => rfl
  | some r =>
   cases r with
   | done r => rfl
   | next s' => exact z0a yy f fun z hz => h z (List.mem_cons_of_mem _ hz)
end
def InR (n many : Int) : Prop := 0 ≤ n ∧ n < many
instance (n many : Int) : Decidable (InR n many) := by unfold InR; infer_instance
structure z9d (x : z7) (st : Int) (a : ze) : Prop where
 fr : InR a.From st
 to : InR a.To st
 kind : 0 ≤ a.Kind ∧ a.Kind ≤ 2
 inner : a.Kind = 0 → a.Channel = 0 ∧ InR a.Message x.Labels
 other : a.Kind ≠ 0 → InR a.Channel x.Channels.length ∧ InR a.Message x.Messages
def Ris (l : List Int) (many : Int) : Prop := ∀ (i : Nat) (v : Int), l[i]? = some v → InR v many ∧ (0 < i → ∃ u, l[i - 1]? = some u ∧ u < v)
structure zbo (x : z7) (p : zh) : Prop where
 lo : 1 ≤ p.States
 hi : p.States ≤ 64
 arcs : p.Arcs.length ≤ 256
 ris : Ris p.Final p.States
 fin : p.Final.length ≤ 64
 arc : ∀ a ∈ p.Arcs, z9d x p.States a
structure z5U (x : z7) : Prop where
 msg : 0 ≤ x.Messages ∧ x.Messages ≤ 16
 lab : 0 ≤ x.Labels ∧ x.Labels ≤ 16
 chl : x.Channels.length ≤ 4
 ch : ∀ n ∈ x.Channels, 0 ≤ n ∧ n ≤ 4
 pl : 1 ≤ x.Parts.length ∧ x.Parts.length ≤ 4
 part : ∀ p ∈ x.Parts, zbo x p
structure z7N (x : z7) (c : z8) : Prop where
 sl : c.States.length = x.Parts.length
 ql : c.Queues.length = x.Channels.length
 st : ∀ (i : Nat) (p : zh) (v : Int), x.Parts[i]? = some p → c.States[i]? = some v → InR v p.States
 qu : ∀ (i : Nat) (q : List Int) (n : Int), c.Queues[i]? = some q → x.Channels[i]? = some n → (q.length : Int) ≤ n ∧ ∀ m ∈ q, InR m x.Messages
theorem XG {α ρ : Type} (l : List α) (hl : l.length < 4611686018427387904) {step : Int → Option (LR Int (Unit ⊕ ρ))} (h : ∀ (i : Nat) (x : α), l[i]? = some x → step (i : Int) = some (.next (w64 ((i : Int) + 1)))) (h2 : step (l.length : Int) = some (.done (.inl ()))) :
  loop step 0 = some (.inl ()) := by
 rw [KT l hl (fun _ _ => (none : Option ρ)) (fun i x hx => h i x hx) h2, Qw (fun _ _ _ => rfl)]
 rfl
theorem z3o {α : Type} {l : List α} (hl : l.length < 4611686018427387904) (p : α → Bool) {step : Int → Option (LR Int (Unit ⊕ Int))} {F : Unit ⊕ Int → Option Int} (hF1 : F (.inl ()) = some (-1)) (hF2 : ∀ n, F (.inr n) = some n)
  (h : ∀ (i : Nat) (x : α), l[i]? = some x → step (i : Int) = some (bif p x then .done (.inr (i : Int)) else .next (w64 ((i : Int) + 1)))) (h2 : step (l.length : Int) = some (.done (.inl ()))) :
  Option.bind (Option.bind (loop step 0) F) (fun r => some (decide (r ≥ 0))) = some (l.any p) := by
 rw [KT l hl (fun i x => bif p x then some (i : Int) else none) (fun i x hx => by rw [h i x hx]; cases p x <;> rfl) h2]
 cases hf : Xl (fun (i : Nat) x => bif p x then some (i : Int) else none) l 0 with
 | none =>
  have ha : l.any p = false := by
   rw [List.any_eq_false]
   intro x hx
   obtain ⟨i, hi⟩ := List.mem_iff_getElem?.1 hx
   have := JY hf i x hi
   cases hp : p x with
   | false => simp
   | true => rw [hp] at this; cases this
  rw [ha]
  show Option.bind (F (.inl ())) _ = _
  rw [hF1]; rfl
 | some r =>
  obtain ⟨i, x, h1, h3⟩ := Qv hf
  have hp : p x = true := by
   cases hp : p x with
   | true => rfl
   | false => rw [hp] at h3; cases h3
  rw [hp] at h3
  cases h3
  have ha : l.any p = true := List.any_eq_true.2 ⟨x, List.mem_of_getElem? h1, hp⟩
  rw [ha]
  show Option.bind (F (.inr _)) _ = _
  rw [hF2]
  simp only [oB]
  rw [decide_eq_true (by omega)]
theorem z8Z (l : List Int) (hl : l.length < 4611686018427387904) : yC l () = some (l.any fun n => decide (n > 4)) := by
 unfold yC xG
 refine z3o hl (fun n => decide (n > 4)) rfl (fun _ => rfl) (fun i x hx => ?_) ?_
 ·have hi := wt hx
  unfold yw jn
  rw [decide_eq_true (by omega), cond_true, uG hx, oB, oB]
  cases decide (x > 4) <;> rfl
 ·unfold yw
  rw [decide_eq_false (by omega), cond_false]
theorem zbi (l : List zh) (hl : l.length < 4611686018427387904) : zO l () = some (l.any fun p => decide (p.States > 64) || decide ((p.Arcs.length : Int) > 256)) := by
 unfold zO ya
 refine z3o hl (fun p => decide (p.States > 64) || decide ((p.Arcs.length : Int) > 256)) rfl (fun _ => rfl) (fun i x hx => ?_) ?_
 ·have hi := wt hx
  unfold zN jm
  rw [decide_eq_true (by omega), cond_true, uG hx, oB]
  cases decide (x.States > 64) <;> cases decide ((x.Arcs.length : Int) > 256) <;> rfl
 ·unfold zN
  rw [decide_eq_false (by omega), cond_false]
theorem z8Y (l : List Int) (hl : l.length < 4611686018427387904) : yz l () = some (l.any fun n => decide (n < 0)) := by
 unfold yz xF
 refine z3o hl (fun n => decide (n < 0)) rfl (fun _ => rfl) (fun i x hx => ?_) ?_
 ·have hi := wt hx
  unfold yu jx
  rw [decide_eq_true (by omega), cond_true, uG hx, oB, oB]
  cases decide (x < 0) <;> rfl
 ·unfold yu
  rw [decide_eq_false (by omega), cond_false]
theorem z03 (n m : Int) : wV n m = some (decide (InR n m)) := by
 unfold wV
 by_cases h : n ≥ 0
 ·rw [decide_eq_true h, cond_true]
  exact congrArg some (decide_eq_decide.2 ⟨fun q => ⟨h, q⟩, fun q => q.2⟩)
 ·rw [decide_eq_false h, cond_false]
  exact congrArg some (decide_eq_false (fun q : InR n m => h q.1)).symm
def VL (x : z7) (st : Int) (a : ze) : Bool :=
 decide (InR a.From st) && decide (InR a.To st) && decide (a.Kind ≤ 2) && bif a.Kind == 0 then (a.Channel == 0 && decide (InR a.Message x.Labels)) else (decide (InR a.Channel x.Channels.length) && decide (InR a.Message x.Messages))
theorem z4D (x : z7) (p : zh) (a : ze) : wB x p a = some (VL x p.States a) := by
 unfold wB VL
 rw [z03, z03, z03, z03, z03]
 have hk : decide (a.Kind ≤ 2) = !decide (a.Kind > 2) := by
  by_cases h : a.Kind ≤ 2
  ·rw [decide_eq_true h, decide_eq_false (by omega)]; rfl
  ·rw [decide_eq_false h, decide_eq_true (by omega)]; rfl
 rw [hk]
 cases decide (InR a.From p.States) <;> cases decide (InR a.To p.States) <;> cases decide (a.Kind > 2) <;> cases (a.Kind == 0) <;> cases (a.Channel == 0) <;> cases decide (InR a.Channel x.Channels.length) <;> rfl
theorem z1R {x : z7} {st : Int} {a : ze} (h0 : 0 ≤ a.Kind) : VL x st a = true ↔ z9d x st a := by
 unfold VL
 constructor
 ·intro h
  simp only [Bool.and_eq_true, decide_eq_true_eq] at h
  obtain ⟨⟨⟨h1, h2⟩, h3⟩, h4⟩ := h
  refine ⟨h1, h2, ⟨h0, h3⟩, fun q => ?_, fun q => ?_⟩
  ·rw [q] at h4; simpa using h4
  ·rw [beq_false_of_ne q, cond_false] at h4; simpa using h4
 ·intro h
  by_cases q : a.Kind = 0
  ·simp [h.fr, h.to, q, h.inner q]
  ·simp [h.fr, h.to, h.kind.2, q, h.other q]
theorem zbj (x : z7) (p : zh) (l : List ze) (hl : l.length < 4611686018427387904) : zT l (x, p) = some (l.any fun a => !VL x p.States a) := by
 unfold zT ye
 refine z3o hl (fun a => !VL x p.States a) rfl (fun _ => rfl) (fun i a hx => ?_) ?_
 ·have hi := wt hx
  unfold zS jw
  rw [decide_eq_true (by omega), cond_true, uG hx, oB, z4D, oB, oB]
  cases VL x p.States a <;> rfl
 ·unfold zS
  rw [decide_eq_false (by omega), cond_false]
theorem z8X (x : z7) (l : List Int) (hl : l.length < 4611686018427387904) : yx l x = some (l.any fun m => !decide (InR m x.Messages)) := by
 unfold yx xE
 refine z3o hl (fun m => !decide (InR m x.Messages)) rfl (fun _ => rfl) (fun i m hx => ?_) ?_
 ·have hi := wt hx
  unfold yq vd
  rw [decide_eq_true (by omega), cond_true, uG hx, oB, z03, oB, oB]
  cases decide (InR m x.Messages) <;> rfl
 ·unfold yq
  rw [decide_eq_false (by omega), cond_false]
theorem z2B {l : List Int} {many : Int} (hl : l.length ≤ 64) (h : Ris l many) : uw l many = some true := by
 unfold uw
 rw [bdT (XG l (by omega) ?_ ?_)]
 ·rfl
 ·intro i v hv
  have hi := wt hv
  obtain ⟨h1, h2⟩ := h i v hv
  unfold vJ
  rw [decide_eq_true (by omega), cond_true, uG hv, oB, z03, oB, decide_eq_true h1, Bool.not_true, cond_false]
  by_cases q : 0 < i
  ·obtain ⟨u, hu, hlt⟩ := h2 q
   rw [decide_eq_true (by omega), cond_true, uR (by omega) (by omega), show (i : Int) - 1 = ((i - 1 : Nat) : Int) by omega, uG hu, oB, decide_eq_false (by omega), cond_false]
   rfl
  ·rw [decide_eq_false (by omega), cond_false]
   rfl
 ·unfold vJ
  rw [decide_eq_false (by omega), cond_false]
theorem z5e {x : z7} (h : z5U x) : ve x = some 0 := by
 have habove : jo x = some false := by
  unfold jo
  have h1 := h.chl; have h2 := h.pl.2
  rw [decide_eq_false (by have := h.msg.2; omega), cond_false, decide_eq_false (by have := h.lab.2; omega), cond_false, decide_eq_false (by omega), cond_false, decide_eq_false (by omega), cond_false, z8Z _ (by omega), zbi _ (by omega)]
  have e1 : (x.Channels.any fun n => decide (n > 4)) = false := List.any_eq_false.2 fun n hn => by have := h.ch n hn; simp; omega
  have e2 : (x.Parts.any fun p => decide (p.States > 64) || decide ((p.Arcs.length : Int) > 256)) = false := List.any_eq_false.2 fun p hp => by have q1 := (h.part p hp).hi; have q2 := (h.part p hp).arcs; simp; omega
  rw [e1, e2]
  rfl
 have e3 : (x.Channels.any fun n => decide (n < 0)) = false := List.any_eq_false.2 fun n hn => by have := h.ch n hn; simp; omega
 unfold ve
 rw [habove, oB, cond_false, decide_eq_false (by have := h.msg.1; omega), cond_false, decide_eq_false (by have := h.lab.1; omega), cond_false, decide_eq_false (by have := h.pl.1; omega), cond_false, z8Y _ (by have := h.chl; omega), e3, oB, cond_false]
 rw [bdT (XG x.Parts (by have := h.pl.2; omega) ?_ ?_)]
 ·rfl
 ·intro i p hp
  have hi := wt hp
  have hv := h.part p (List.mem_of_getElem? hp)
  have e4 : (p.Arcs.any fun a => !VL x p.States a) = false := List.any_eq_false.2 fun a ha => by
   have := (z1R (hv.arc a ha).kind.1).2 (hv.arc a ha)
   simp [this]
  unfold uq
  rw [decide_eq_true (by omega), cond_true, uG hp, oB, decide_eq_false (by have := hv.lo; omega), cond_false, z2B hv.fin hv.ris, oB, Bool.not_true, cond_false, zbj _ _ _ (by have := hv.arcs; omega), e4, oB, cond_false]
 ·unfold uq
  rw [decide_eq_false (by omega), cond_false]
theorem W2 {x : z7} {c : z8} (h : z5U x) (hc : z7N x c) : w8 x c = some 0 := by
 have hs := hc.sl; have hq := hc.ql; have hp2 := h.pl.2; have hcl := h.chl
 unfold w8
 rw [z5e h, oB, show ((0 : Int) != 0) = false from rfl, cond_false, hs, hq, bne_self_eq_false, cond_false, bne_self_eq_false, cond_false]
 rw [bdT (XG x.Parts (by omega) ?_ ?_)]
 ·show w5 x c = _
  unfold w5
  rw [bdT (XG c.Queues (by omega) ?_ ?_)]
  ·rfl
  ·intro i q hq'
   have hi := wt hq'
   have hn : x.Channels[i]? = some x.Channels[i] := List.getElem?_eq_getElem (by omega)
   obtain ⟨h1, h2⟩ := hc.qu i q _ hq' hn
   have hb := h.ch _ (List.mem_of_getElem? hn)
   have e : (q.any fun m => !decide (InR m x.Messages)) = false := List.any_eq_false.2 fun m hm => by simp [h2 m hm]
   unfold xZ
   rw [decide_eq_true (by omega), cond_true, uG hq', oB, uG hn, oB, decide_eq_false (by omega), cond_false, z8X _ _ (by omega), e, oB, cond_false]
  ·unfold xZ
   rw [decide_eq_false (by omega), cond_false]
 ·intro i p hp
  have hi := wt hp
  have hv : c.States[i]? = some c.States[i] := List.getElem?_eq_getElem (by omega)
  unfold xY
  rw [decide_eq_true (by omega), cond_true, uG hp, oB, uG hv, oB, z03, oB, decide_eq_true (hc.st i p _ hp hv), Bool.not_true, cond_false]
 ·unfold xY
  rw [decide_eq_false (by omega), cond_false]
theorem z0S {l : List Int} (hl : l.length < 4611686018427387904) : j6 l l = some 0 := by
 unfold j6
 rw [bne_self_eq_false, cond_false, bdT (XG l hl ?_ ?_)]
 ·rfl
 ·intro i v hv
  have hi := wt hv
  unfold uT
  rw [decide_eq_true (by omega), cond_true, uG hv, oB, oB, bne_self_eq_false, cond_false]
 ·unfold uT
  rw [decide_eq_false (by omega), cond_false]
theorem Q2 {l : List Int} (hl : l.length < 4611686018427387904) : kO l l = some 1 := by
 unfold kO
 rw [bne_self_eq_false, cond_false, z0S hl, oB, oB]
 rfl
theorem z2u {c : z8} (hs : c.States.length < 4611686018427387904) (hq : c.Queues.length < 4611686018427387904) (hb : ∀ q ∈ c.Queues, q.length < 4611686018427387904) : jT c c = some 1 := by
 unfold jT
 rw [Q2 hs, oB, show ((1 : Int) == 0) = false from rfl, cond_false, bne_self_eq_false, cond_false, bdT (XG c.Queues hq ?_ ?_)]
 ·rfl
 ·intro i q hq'
  have hi := wt hq'
  unfold jE
  rw [decide_eq_true (by omega), cond_true, uG hq', oB, oB, Q2 (hb q (List.mem_of_getElem? hq')), oB, show ((1 : Int) == 0) = false from rfl, cond_false]
 ·unfold jE
  rw [decide_eq_false (by omega), cond_false]
section
variable {α : Type}
theorem zC.ext_toL {a b : zC α} (h : a.toL = b.toL) : a = b := by
 cases a; cases b; simp only [zC.toL, List.cons.injEq, and_true] at h; simp only [zC.mk.injEq]; exact h
theorem zC.toL_setI (a : zC α) (i : Nat) (v : α) : (zC.setI a (i : Int) v).toL = a.toL.set i v := by
 unfold zC.setI
 rw [zC.toL_ofL _ _ (by rw [List.length_set]; rfl)]
 rfl
end
def Qj {α : Type} (z : α) (l : List α) : List α := l ++ List.replicate (4 - l.length) z
theorem JQ {α : Type} {z : α} {l : List α} (h : l.length ≤ 4) : (Qj z l).length = 4 := by
 rw [Qj, List.length_append, List.length_replicate]; omega
theorem z2K {α : Type} {z : α} {l : List α} {i : Nat} {v : α} (h : l[i]? = some v) : (Qj z l)[i]? = some v := by
 rw [Qj, List.getElem?_append_left (wt h)]; exact h
theorem z1l {α : Type} {z : α} {l : List α} {i : Nat} {v : α} (h : i < l.length) : (Qj z l).set i v = Qj z (l.set i v) := by
 rw [Qj, Qj, List.set_append_left _ _ h, List.length_set]
theorem KL {α : Type} {z : α} {l : List α} : (Qj z l).take l.length = l := by
 rw [Qj, List.take_left]
theorem KM {α : Type} {z : α} {l : List α} {v : α} (h : l.length < 4) : (Qj z l).set l.length v = Qj z (l ++ [v]) := by
 rw [Qj, Qj, List.set_append_right _ _ (Nat.le_refl _), Nat.sub_self, show 4 - l.length = (4 - (l ++ [v]).length) + 1 by simp; omega, List.replicate_succ, List.set_cons_zero, List.append_assoc]
 rfl
def pad (l : List Int) : zC Int := zC.ofL (Qj 0 l) ⟨0, 0, 0, 0⟩
theorem Qi {l : List Int} (h : l.length ≤ 4) : (pad l).toL = Qj 0 l := zC.toL_ofL _ _ (JQ h)
def qOf (l : List Int) : zf := ⟨l.length, pad l⟩
def z3O (l : List (List Int)) : zC zf := zC.ofL (Qj (qOf []) (l.map qOf)) ⟨qOf [], qOf [], qOf [], qOf []⟩
theorem XB {l : List (List Int)} (h : l.length ≤ 4) : (z3O l).toL = Qj (qOf []) (l.map qOf) := zC.toL_ofL _ _ (JQ (by simpa using h))
def xT (c : z8) : za := ⟨pad c.States, z3O c.Queues⟩
theorem JP {l : List Int} {i : Nat} {v : Int} (h : l.length ≤ 4) (hi : i < l.length) : zC.setI (pad l) (i : Int) v = pad (l.set i v) := by
 apply zC.ext_toL
 rw [zC.toL_setI, Qi h, Qi (by rw [List.length_set]; exact h), z1l hi]
theorem z4K {l : List (List Int)} {i : Nat} {v : List Int} (h : l.length ≤ 4) (hi : i < l.length) : zC.setI (z3O l) (i : Int) (qOf v) = z3O (l.set i v) := by
 apply zC.ext_toL
 rw [zC.toL_setI, XB h, XB (by rw [List.length_set]; exact h), z1l (by simpa using hi), List.map_set]
theorem Je {l : List Int} {i : Nat} {v : Int} (h : l.length ≤ 4) (hi : l[i]? = some v) : idx (pad l).toL (i : Int) = some v := by
 rw [Qi h]; exact z2K hi
theorem z2J {l : List (List Int)} {i : Nat} {v : List Int} (h : l.length ≤ 4) (hi : l[i]? = some v) : idx (z3O l).toL (i : Int) = some (qOf v) := by
 rw [XB h]; exact z2K (by rw [List.getElem?_map, hi]; rfl)
theorem z5E {l : List Int} (m : Int) (h : l.length < 4) : vK (qOf l) m = some (qOf (l ++ [m])) := by
 match l, h with
 | [], _ => rfl
 | [a], _ => rfl
 | [a, b], _ => rfl
 | [a, b, c], _ => rfl
theorem z4j {a : Int} {l : List Int} (h : l.length < 4) : uE (qOf (a :: l)) = some (qOf l) := by
 match l, h with
 | [], _ => rfl
 | [x], _ => rfl
 | [x, y], _ => rfl
 | [x, y, z], _ => rfl
theorem z4I {L : zC zf} {q : List Int} {k : Nat} (hk : k < 4) (hL : L.toL[k]? = some (qOf [])) (hq : q.length ≤ 4) :
  loop (fun s => wv (k : Int) q s.1 s.2) (L, 0) = some (zC.setI L (k : Int) (qOf q)) := by
 have e0 : zC.setI L (k : Int) (qOf (q.take 0)) = L := by
  apply zC.ext_toL
  rw [zC.toL_setI]
  obtain ⟨h1, h2⟩ := List.getElem?_eq_some_iff.1 hL
  exact h2 ▸ List.set_getElem_self h1
 have hlk : k < L.toL.length := hk
 refine (congrArg (fun a => loop (fun s => wv (k : Int) q s.1 s.2) (a, 0)) e0.symm).trans ?_
 refine JT (fun j => (zC.setI L (k : Int) (qOf (q.take j)), (j : Int))) q.length (by omega) (fun j hj => ?_) ?_
 ·have hv : q[j]? = some q[j] := List.getElem?_eq_getElem hj
  have hc : idx (zC.setI L (k : Int) (qOf (q.take j))).toL (k : Int) = some (qOf (q.take j)) := by
   rw [zC.toL_setI]
   show (L.toL.set k _)[k]? = _
   rw [List.getElem?_set_self hlk]
  unfold wv
  dsimp only
  rw [decide_eq_true (by omega), cond_true, uG hv, oB, hc, oB, z5E _ (by rw [List.length_take]; omega), oB, oB, oB, uR (by omega) (by omega)]
  have : zC.setI (zC.setI L (k : Int) (qOf (q.take j))) (k : Int) (qOf (q.take j ++ [q[j]])) = zC.setI L (k : Int) (qOf (q.take (j + 1))) := by
   apply zC.ext_toL
   rw [zC.toL_setI, zC.toL_setI, zC.toL_setI, List.set_set, List.take_add_one, hv]
   rfl
  rw [this]
  rfl
 ·unfold wv
  dsimp only
  rw [decide_eq_false (by omega), cond_false, List.take_length]
theorem z1j {c : z8} (hs : c.States.length ≤ 4) (hq : c.Queues.length ≤ 4) (hb : ∀ q ∈ c.Queues, q.length ≤ 4) : uX c = some (xT c) := by
 unfold uX
 have e1 : zC.ofL (cpA (zC.toL (zC.mk (0 : Int) 0 0 0)) 0 c.States) (zC.mk 0 0 0 0) = pad c.States := by
  unfold pad Qj
  congr 1
  simp only [cpA, zC.toL, List.take_zero, List.nil_append, List.length_cons, List.length_nil]
  rw [List.take_of_length_le (by omega)]
  congr 1
  generalize c.States.length = n at hs
  match n, hs with
  | 0, _ => rfl
  | 1, _ => rfl
  | 2, _ => rfl
  | 3, _ => rfl
  | 4, _ => rfl
 rw [oB, e1]
 have hl : loop (fun s => wU c s.1 s.2) ((zC.mk (zf.mk 0 (zC.mk 0 0 0 0)) (zf.mk 0 (zC.mk 0 0 0 0)) (zf.mk 0 (zC.mk 0 0 0 0)) (zf.mk 0 (zC.mk 0 0 0 0))), 0) = some (z3O c.Queues) := by
  refine JT (fun j => (z3O (c.Queues.take j), (j : Int))) c.Queues.length (by omega) (fun j hj => ?_) ?_
  ·have hv : c.Queues[j]? = some c.Queues[j] := List.getElem?_eq_getElem hj
   have hlen : (c.Queues.take j).length = j := by rw [List.length_take]; omega
   unfold wU
   dsimp only
   rw [decide_eq_true (by omega), cond_true, uG hv, oB, z4I (by omega) (by
    rw [XB (by omega), Qj, List.getElem?_append_right (by simp; omega), List.getElem?_replicate, if_pos (by simp; omega)]) (hb _ (List.mem_of_getElem? hv)), oB]
   unfold qH
   rw [uR (by omega) (by omega)]
   have : zC.setI (z3O (c.Queues.take j)) (j : Int) (qOf c.Queues[j]) = z3O (c.Queues.take (j + 1)) := by
    apply zC.ext_toL
    rw [zC.toL_setI, XB (by omega), XB (by rw [List.length_take]; omega), List.take_add_one, hv]
    have := KM (z := qOf []) (l := (c.Queues.take j).map qOf) (v := qOf c.Queues[j]) (by rw [List.length_map]; omega)
    rw [List.length_map, hlen] at this
    rw [this, List.map_append]
    rfl
   rw [this]
   rfl
  ·unfold wU
   dsimp only
   rw [decide_eq_false (by omega), cond_false, List.take_length]
 rw [bdT hl]
 rfl
theorem z1A {l : List Int} (h : l.length ≤ 4294967296) : xS l = some l := by
 unfold xS
 rw [gdT (by simpa using h)]
theorem z3q {l : List Int} : wd l = some l := by
 unfold wd
 rw [gdT (by omega)]
 simp
theorem z3p {x : z7} {c : z8} (hs : c.States.length = x.Parts.length) (hq : c.Queues.length = x.Channels.length) (h4 : x.Parts.length ≤ 4) (h5 : x.Channels.length ≤ 4) (hb : ∀ q ∈ c.Queues, q.length ≤ 4) :
  x5 x (xT c) = some c := by
 unfold x5
 have e1 : [(xT c).states_.e0, (xT c).states_.e1, (xT c).states_.e2, (xT c).states_.e3] = Qj 0 c.States := Qi (by omega)
 rw [gdT (by simp; omega), e1, show (((x.Parts.length : Nat) : Int)).toNat = c.States.length by omega, KL, z1A (by omega), oB, z3q, oB, gdT (by omega)]
 have hl : loop (fun s => yZ x (xT c) s.1 s.2) ((List.replicate ((x.Channels.length : Nat) : Int).toNat ([] : List Int)), 0) = some c.Queues := by
  rw [show (((x.Channels.length : Nat) : Int)).toNat = c.Queues.length by omega]
  have e0 : List.replicate c.Queues.length ([] : List Int) = c.Queues.take 0 ++ List.replicate (c.Queues.length - 0) [] := by simp
  rw [e0]
  refine JT (fun j => (c.Queues.take j ++ List.replicate (c.Queues.length - j) [], (j : Int))) c.Queues.length (by omega) (fun j hj => ?_) ?_
  ·have hv : c.Queues[j]? = some c.Queues[j] := List.getElem?_eq_getElem hj
   have hlen : (c.Queues.take j).length = j := by rw [List.length_take]; omega
   have hql := hb _ (List.mem_of_getElem? hv)
   have e2 : [(qOf c.Queues[j]).l_.e0, (qOf c.Queues[j]).l_.e1, (qOf c.Queues[j]).l_.e2, (qOf c.Queues[j]).l_.e3] = Qj 0 c.Queues[j] := Qi hql
   unfold yZ
   dsimp only
   rw [decide_eq_true (by rw [List.length_replicate]; omega), cond_true]
   rw [show idx (xT c).queues_.toL (j : Int) = some (qOf c.Queues[j]) from z2J (by omega) hv, oB]
   rw [e2]
   rw [show (qOf c.Queues[j]).many_ = ((c.Queues[j].length : Nat) : Int) from rfl]
   rw [gdT (show (0 : Int) ≤ ((c.Queues[j].length : Nat) : Int) ∧ ((c.Queues[j].length : Nat) : Int) ≤ (((Qj 0 c.Queues[j]).length : Nat) : Int) by rw [JQ hql]; omega)]
   rw [Int.toNat_natCast, KL, z1A (by omega), oB, z3q, oB]
   have hi : idx (c.Queues.take j ++ List.replicate (c.Queues.length - j) ([] : List Int)) (j : Int) = some [] := by
    show (c.Queues.take j ++ List.replicate (c.Queues.length - j) ([] : List Int))[j]? = some []
    rw [List.getElem?_append_right (by omega), hlen, Nat.sub_self, List.getElem?_replicate, if_pos (by omega)]
   rw [hi, oB, uR (by omega) (by omega), Int.toNat_natCast]
   have : (c.Queues.take j ++ List.replicate (c.Queues.length - j) ([] : List Int)).set j c.Queues[j] = c.Queues.take (j + 1) ++ List.replicate (c.Queues.length - (j + 1)) [] := by
    rw [List.set_append_right _ _ (by omega), hlen, Nat.sub_self, show c.Queues.length - j = (c.Queues.length - (j + 1)) + 1 by omega, List.replicate_succ, List.set_cons_zero, List.take_add_one, hv, List.append_assoc]
    rfl
   rw [this]
   rfl
  ·unfold yZ
   dsimp only
   rw [decide_eq_false (by rw [List.length_replicate]; omega), cond_false, List.take_length, Nat.sub_self]
   simp
 rw [bdT hl]
 rfl
def qG (l : List ze) (st : Int) : List (Int × ze) := Vs (fun k a => if a.From = st then [((k : Int), a)] else []) l 0
theorem Y5 {l : List ze} {st : Int} {e : Int × ze} : e ∈ qG l st ↔ ∃ k : Nat, e.1 = k ∧ l[k]? = some e.2 ∧ e.2.From = st := by
 unfold qG
 rw [WO]
 constructor
 ·rintro ⟨i, a, h1, h2⟩
  rw [Nat.zero_add] at h2
  split at h2
  ·rename_i h
   simp at h2
   subst h2
   exact ⟨i, rfl, h1, h⟩
  ·simp at h2
 ·rintro ⟨k, h1, h2, h3⟩
  refine ⟨k, e.2, h2, ?_⟩
  rw [if_pos h3, Nat.zero_add, ← h1]
  simp
def stv (c : z8) (o : Nat) : Int := (c.States[o]?).getD 0
def two (c : z8) (p : Nat) (i : Int) (a : ze) (o : Nat) (kb : Int × ze) : List (zc × z8) :=
 if kb.2.Kind = 2 ∧ kb.2.Channel = a.Channel ∧ kb.2.Message = a.Message then [(⟨p, i, o, kb.1⟩, ⟨(c.States.set p a.To).set o kb.2.To, c.Queues⟩)] else []
def z07 (x : z7) (c : z8) (p : Nat) (i : Int) (a : ze) : List (zc × z8) :=
 Vs (fun o P => if o = p then [] else (qG P.Arcs (stv c o)).flatMap (two c p i a o)) x.Parts 0
def quv (c : z8) (a : ze) : List Int := (c.Queues[a.Channel.toNat]?).getD []
def rmv (x : z7) (a : ze) : Int := (x.Channels[a.Channel.toNat]?).getD 0
def one (x : z7) (c : z8) (p : Nat) (e : Int × ze) : List (zc × z8) :=
 if e.2.Kind = 0 then [(⟨p, e.1, -1, -1⟩, ⟨c.States.set p e.2.To, c.Queues⟩)]
 else if rmv x e.2 = 0 then (if e.2.Kind = 1 then z07 x c p e.1 e.2 else [])
 else if e.2.Kind = 1 then (if ((quv c e.2).length : Int) < rmv x e.2 then [(⟨p, e.1, -1, -1⟩, ⟨c.States.set p e.2.To, c.Queues.set e.2.Channel.toNat (quv c e.2 ++ [e.2.Message])⟩)] else [])
 else (if (quv c e.2).head? = some e.2.Message then [(⟨p, e.1, -1, -1⟩, ⟨c.States.set p e.2.To, c.Queues.set e.2.Channel.toNat (quv c e.2).tail⟩)] else [])
def mvs (x : z7) (c : z8) : List (zc × z8) :=
 Vs (fun p P => (qG P.Arcs (stv c p)).flatMap (one x c p)) x.Parts 0
section
variable {σ : Type}
def z2Z : LR σ σ → σ
 | .next s => s
 | .done s => s
def z8D : LR σ σ → σ ⊕ σ
 | .next s => .inl s
 | .done s => .inr s
def yeM (yy : σ → (zc × za) → Option (σ × Bool)) (s : σ) (m : zc × z8) : Option (σ × Bool) := yy s (m.1, xT m.2)
theorem z7o {x : z7} {c : z8} {p : Nat} {P : zh} {st : Int} (h1 : x.Parts[p]? = some P) (h2 : c.States[p]? = some st) (h3 : P.Arcs.length ≤ 256) (h4 : c.States.length ≤ 4)
  (yy : σ → (Int × ze) → Option (σ × Bool)) (sg : σ) : yg x (p : Int) (xT c) yy sg = (vZ yy (qG P.Arcs st) sg).map z2Z := by
 unfold yg
 rw [uG h1, oB]
 have hc : idx (xT c).states_.toL (p : Int) = some st := Je h4 h2
 rw [Vn P.Arcs (by omega) (g := fun k a s => if a.From = st then Option.bind (yy s ((k : Int), a)) (fun r => some (bif r.2 then .next r.1 else .done r.1)) else some (.next s)) z2Z sg ?_ ?_]
 ·rw [XK yy (fun k a => if a.From = st then [((k : Int), a)] else [])]
  ·unfold qG
   cases (vZ yy (Vs (fun k a => if a.From = st then [((k : Int), a)] else []) P.Arcs 0) sg) <;> rfl
  ·intro i a s ha
   rw [Nat.zero_add]
   split
   ·simp only [vZ]
    cases yy s ((i : Int), a) with
    | none => rfl
    | some r => obtain ⟨r1, r2⟩ := r; cases r2 <;> rfl
   ·rfl
 ·intro i a s ha
  have hi := wt ha
  unfold xy
  dsimp only
  rw [decide_eq_true (by omega), cond_true, uG ha, oB, hc, oB]
  by_cases q : a.From = st
  ·rw [q, beq_self_eq_true, cond_true, if_pos rfl]
   cases yy s ((i : Int), a) with
   | none => rfl
   | some r => obtain ⟨r1, r2⟩ := r; cases r2 <;> rfl
  ·rw [beq_false_of_ne q, cond_false, if_neg q]
   rfl
 ·intro s
  unfold xy
  dsimp only
  rw [decide_eq_false (by omega), cond_false]
  rfl
theorem z1v {α : Type} {x : z7} {c : z8} {p : Nat} {P : zh} {st : Int} (h1 : x.Parts[p]? = some P) (h2 : c.States[p]? = some st) (h3 : P.Arcs.length ≤ 256) (h4 : c.States.length ≤ 4)
  (yy : σ → α → Option (σ × Bool)) (f : Int × ze → List α) {step : σ → Int × ze → Option (LR σ σ)} (sg : σ) (h : ∀ e ∈ qG P.Arcs st, ∀ s, step s e = vZ yy (f e) s) :
  yg x (p : Int) (xT c) (yOf step) (.next sg) = vZ yy ((qG P.Arcs st).flatMap f) sg := by
 rw [z7o h1 h2 h3 h4, z0a yy f h]
 cases vZ yy ((qG P.Arcs st).flatMap f) sg with
 | none => rfl
 | some r => cases r <;> rfl
theorem zb7 {c : z8} (yy : σ → (zc × za) → Option (σ × Bool)) {p o : Nat} (i k : Int) (a b : ze) (h4 : c.States.length ≤ 4) (hp : p < c.States.length) (ho : o < c.States.length) (sg : σ) :
  yT (xT c) yy (p : Int) i a (o : Int) sg k b = vZ (yeM yy) (two c p i a o (k, b)) sg := by
 unfold yT two
 by_cases q1 : b.Kind = 2
 ·rw [q1, bne_self_eq_false, cond_false]
  by_cases q2 : b.Channel = a.Channel
  ·rw [q2, bne_self_eq_false, cond_false]
   by_cases q3 : b.Message = a.Message
   ·rw [q3, bne_self_eq_false, cond_false, if_pos ⟨rfl, rfl, rfl⟩]
    have e1 : idx (xT c).states_.toL (p : Int) = some c.States[p] := Je h4 (List.getElem?_eq_getElem hp)
    have e2 : zC.setI (xT c).states_ (p : Int) a.To = pad (c.States.set p a.To) := JP h4 hp
    have e3 : idx (pad (c.States.set p a.To)).toL (o : Int) = some ((c.States.set p a.To)[o]'(by rw [List.length_set]; exact ho)) := Je (by rw [List.length_set]; exact h4) (List.getElem?_eq_getElem _)
    have e4 : zC.setI (pad (c.States.set p a.To)) (o : Int) b.To = pad ((c.States.set p a.To).set o b.To) := JP (by rw [List.length_set]; exact h4) (by rw [List.length_set]; exact ho)
    rw [e1, oB, oB, e2, e3, oB, oB, e4]
    simp only [vZ, yeM]
    show Option.bind (yy sg (_, xT ⟨(c.States.set p a.To).set o b.To, c.Queues⟩)) _ = _
    cases yy sg (⟨(p : Int), i, (o : Int), k⟩, xT ⟨(c.States.set p a.To).set o b.To, c.Queues⟩) with
    | none => rfl
    | some r => obtain ⟨r1, r2⟩ := r; cases r2 <;> rfl
   ·rw [if_neg (fun q => q3 q.2.2), bne_iff_ne.2 q3 |> fun h => (h : (b.Message != a.Message) = true), cond_true]
    rfl
  ·rw [if_neg (fun q => q2 q.2.1), bne_iff_ne.2 q2 |> fun h => (h : (b.Channel != a.Channel) = true), cond_true]
   rfl
 ·rw [if_neg (fun q => q1 q.1), bne_iff_ne.2 q1 |> fun h => (h : (b.Kind != 2) = true), cond_true]
  rfl
structure MOk (x : z7) (c : z8) : Prop where
 sys : z5U x
 cfg : z7N x c
theorem MOk.s4 {x : z7} {c : z8} (h : MOk x c) : c.States.length ≤ 4 := by have := h.cfg.sl; have := h.sys.pl; omega
theorem MOk.q4 {x : z7} {c : z8} (h : MOk x c) : c.Queues.length ≤ 4 := by have := h.cfg.ql; have := h.sys.chl; omega
theorem MOk.qb {x : z7} {c : z8} (h : MOk x c) : ∀ q ∈ c.Queues, q.length ≤ 4 := by
 intro q hq
 obtain ⟨i, hi⟩ := List.mem_iff_getElem?.1 hq
 have e0 := h.cfg.ql
 have e1 := wt hi
 have hn : x.Channels[i]? = some (x.Channels[i]'(by omega)) := List.getElem?_eq_getElem _
 have h1 := (h.cfg.qu i q _ hi hn).1
 have h2 := h.sys.ch _ (List.mem_of_getElem? hn)
 omega
theorem MOk.stat {x : z7} {c : z8} (h : MOk x c) {p : Nat} {P : zh} (hp : x.Parts[p]? = some P) : p < c.States.length ∧ c.States[p]? = some (stv c p) := by
 have hl : p < c.States.length := by have := wt hp; have := h.cfg.sl; omega
 refine ⟨hl, ?_⟩
 unfold stv
 rw [List.getElem?_eq_getElem hl]
 rfl
theorem zb4 {x : z7} {c : z8} (h : MOk x c) (yy : σ → (zc × za) → Option (σ × Bool)) {p : Nat} (i : Int) (a : ze) (hp : p < x.Parts.length) (sg : σ) :
  loop (fun s => yS x (xT c) yy (p : Int) i a s.1 s.2) (sg, 0) = (vZ (yeM yy) (z07 x c p i a) sg).map z8D := by
 have hpl := h.sys.pl
 rw [Vn x.Parts (by omega) (g := fun o P s => vZ (yeM yy) (if o = p then [] else (qG P.Arcs (stv c o)).flatMap (two c p i a o)) s) z8D sg ?_ ?_]
 ·rw [XK (yeM yy) (fun o P => if o = p then [] else (qG P.Arcs (stv c o)).flatMap (two c p i a o)) (fun _ _ _ _ => by rw [Nat.zero_add])]
  rfl
 ·intro o P s hP
  have ho := wt hP
  unfold yS
  dsimp only
  rw [decide_eq_true (by omega), cond_true]
  by_cases q : o = p
  ·subst q
   rw [beq_self_eq_true, cond_true, if_pos rfl]
   rfl
  ·rw [beq_false_of_ne (by omega), cond_false, if_neg q]
   unfold w7
   rw [oB]
   dsimp only
   obtain ⟨h1, h2⟩ := h.stat hP
   rw [z1v hP h2 (h.sys.part P (List.mem_of_getElem? hP)).arcs h.s4 (yeM yy) (two c p i a o) s (fun e _ s' => zb7 yy i e.1 a e.2 h.s4 (by have := h.cfg.sl; omega) h1 s')]
   cases vZ (yeM yy) ((qG P.Arcs (stv c o)).flatMap (two c p i a o)) s with
   | none => rfl
   | some r => cases r <;> rfl
 ·intro s
  unfold yS
  dsimp only
  rw [decide_eq_false (by omega), cond_false]
  rfl
theorem z1N {x : z7} {c : z8} (h : MOk x c) {p : Nat} (hp : p < c.States.length) {a : ze} (hk : a.Kind = 0) (hc : a.Channel = 0) :
  xw x (xT c) (p : Int) a = some (xT ⟨c.States.set p a.To, c.Queues⟩, false) := by
 unfold xw
 have e1 : idx (xT c).states_.toL (p : Int) = some c.States[p] := Je h.s4 (List.getElem?_eq_getElem hp)
 have e2 : zC.setI (xT c).states_ (p : Int) a.To = pad (c.States.set p a.To) := JP h.s4 hp
 rw [e1, oB, oB, e2, hc, show idx (zC.toL (xT c).queues_) (mn 0 3) = some (xT c).queues_.e0 from rfl, oB, hk, beq_self_eq_true, cond_true]
 rfl
theorem MOk.chan {x : z7} {c : z8} (h : MOk x c) {st : Int} {a : ze} (ha : z9d x st a) (hk : a.Kind ≠ 0) : ∃ n : Nat, a.Channel = (n : Int) ∧ n < 4 ∧ c.Queues[n]? = some (quv c a) ∧ x.Channels[n]? = some (rmv x a) ∧ ((quv c a).length : Int) ≤ rmv x a ∧ rmv x a ≤ 4 := by
 have hr := (ha.other hk).1
 have hql := h.cfg.ql
 have hcl := h.sys.chl
 obtain ⟨r1, r2⟩ := hr
 have e1 : c.Queues[a.Channel.toNat]? = some (quv c a) := by
  unfold quv
  rw [List.getElem?_eq_getElem (by omega)]
  rfl
 have e2 : x.Channels[a.Channel.toNat]? = some (rmv x a) := by
  unfold rmv
  rw [List.getElem?_eq_getElem (by omega)]
  rfl
 refine ⟨a.Channel.toNat, by omega, by omega, e1, e2, (h.cfg.qu _ _ _ e1 e2).1, (h.sys.ch _ (List.mem_of_getElem? e2)).2⟩
theorem z1M {x : z7} {c : z8} (h : MOk x c) {p : Nat} (hp : p < c.States.length) {st : Int} {a : ze} (ha : z9d x st a) (hk : a.Kind ≠ 0) :
  xw x (xT c) (p : Int) a = (if rmv x a = 0 then some (⟨pad (c.States.set p a.To), (xT c).queues_⟩, true)
   else if a.Kind = 1 then (if ((quv c a).length : Int) < rmv x a then some (xT ⟨c.States.set p a.To, c.Queues.set a.Channel.toNat (quv c a ++ [a.Message])⟩, false) else some (⟨pad (c.States.set p a.To), (xT c).queues_⟩, true))
   else (if (quv c a).head? = some a.Message then some (xT ⟨c.States.set p a.To, c.Queues.set a.Channel.toNat (quv c a).tail⟩, false) else some (⟨pad (c.States.set p a.To), (xT c).queues_⟩, true))) := by
 obtain ⟨n, hn, hn4, e1, e2, hle, h4⟩ := h.chan ha hk
 unfold xw
 have e3 : idx (xT c).states_.toL (p : Int) = some c.States[p] := Je h.s4 (List.getElem?_eq_getElem hp)
 have e4 : zC.setI (xT c).states_ (p : Int) a.To = pad (c.States.set p a.To) := JP h.s4 hp
 have e5 : idx (zC.toL (xT c).queues_) (n : Int) = some (qOf (quv c a)) := z2J h.q4 e1
 have e6 : mn (n : Int) 3 = n := by unfold mn; rw [if_neg (by omega)]
 have hset : ∀ q : List Int, zC.setI (xT c).queues_ (n : Int) (qOf q) = z3O (c.Queues.set n q) := fun q => z4K h.q4 (wt e1)
 rw [e3, oB, oB, e4, hn, e6, e5, oB, beq_false_of_ne hk, cond_false, uG e2, oB, Int.toNat_natCast]
 by_cases q0 : rmv x a = 0
 ·rw [q0, beq_self_eq_true, cond_true, if_pos rfl]
  rfl
 ·rw [beq_false_of_ne q0, cond_false, if_neg q0]
  by_cases q1 : a.Kind = 1
  ·rw [q1, beq_self_eq_true, cond_true, if_pos rfl, oB, show ((1 : Int) == 2) = false from rfl, cond_false]
   by_cases q2 : ((quv c a).length : Int) < rmv x a
   ·rw [if_pos q2, beq_false_of_ne (show (qOf (quv c a)).many_ ≠ rmv x a from by show ((quv c a).length : Int) ≠ _; omega), cond_false]
    unfold zR
    rw [cond_false, q1, beq_self_eq_true, cond_true, z5E _ (by omega), oB, hn, e5, oB, oB, hset]
    rfl
   ·rw [if_neg q2, show ((qOf (quv c a)).many_ == rmv x a) = true from beq_iff_eq.2 (by show ((quv c a).length : Int) = _; omega), cond_true]
    rfl
  ·have q2 : a.Kind = 2 := by have := ha.kind; omega
   rw [beq_false_of_ne q1, cond_false, if_neg q1, q2, beq_self_eq_true, cond_true]
   cases hq : quv c a with
   | nil => rfl
   | cons m l =>
    rw [hq] at hle e5
    simp only [List.length_cons] at hle
    rw [show ((qOf (m :: l)).many_ == 0) = false from beq_false_of_ne (by show (((m :: l).length : Nat) : Int) ≠ 0; simp; omega), cond_false]
    have e7 : (qOf (m :: l)).l_.e0 = m := by
     have := Je (l := m :: l) (i := 0) (v := m) (by simp; omega) rfl
     exact Option.some.inj this
    rw [e7]
    unfold zR
    by_cases q3 : m = a.Message
    ·rw [q3, bne_self_eq_false, cond_false, q2, show ((2 : Int) == 1) = false from rfl, cond_false, if_pos (show (a.Message :: l).head? = some a.Message from rfl)]
     rw [q3] at e5
     rw [z4j (by omega), oB, hn, e5, oB, oB, hset]
     rfl
    ·rw [show (m != a.Message) = true from bne_iff_ne.2 q3, cond_true, if_neg (show ¬(m :: l).head? = some a.Message from fun q => q3 (Option.some.inj q))]
theorem zb8 {x : z7} {c : z8} (h : MOk x c) (yy : σ → (zc × za) → Option (σ × Bool)) {p : Nat} (hp : p < x.Parts.length) (i : Int) {a : ze} {st : Int} (ha : z9d x st a) (sg : σ) :
  yU x (xT c) yy (p : Int) sg i a = vZ (yeM yy) (one x c p (i, a)) sg := by
 have hps : p < c.States.length := by have := h.cfg.sl; omega
 have key : ∀ (m : zc) (to : z8), (Option.bind (yy sg (m, xT to)) fun yr => bif !yr.2 then some (LR.done yr.1) else some (LR.next yr.1)) = vZ (yeM yy) [(m, to)] sg := by
  intro m to
  simp only [vZ, yeM]
  cases yy sg (m, xT to) with
  | none => rfl
  | some r => obtain ⟨r1, r2⟩ := r; cases r2 <;> rfl
 unfold yU one Qz
 by_cases q : a.Kind = 0
 ·rw [z1N h hps q (ha.inner q).1, oB, cond_true, oB, Bool.not_false, cond_true, if_pos q]
  exact key _ _
 ·rw [z1M h hps ha q, if_neg q]
  obtain ⟨n, hn, hn4, e1, e2, hle, h4⟩ := h.chan ha q
  have er : idx x.Channels a.Channel = some (rmv x a) := by rw [hn]; exact uG e2
  by_cases q0 : rmv x a = 0
  ·rw [if_pos q0, if_pos q0, oB, cond_true, oB, Bool.not_true, cond_false]
   by_cases q1 : a.Kind = 1
   ·rw [q1, bne_self_eq_false, cond_false, er, oB, decide_eq_false (by omega), cond_false, zb4 h yy i a hp]
    show _ = vZ (yeM yy) (z07 x c p i a) sg
    cases vZ (yeM yy) (z07 x c p i a) sg with
    | none => rfl
    | some r => cases r <;> rfl
   ·rw [show (a.Kind != 1) = true from bne_iff_ne.2 q1, cond_true, if_neg q1]
    rfl
  ·rw [if_neg q0, if_neg q0]
   by_cases q1 : a.Kind = 1
   ·rw [if_pos q1, if_pos q1]
    by_cases q2 : ((quv c a).length : Int) < rmv x a
    ·rw [if_pos q2, if_pos q2, oB, cond_true, oB, Bool.not_false, cond_true]
     exact key _ _
    ·rw [if_neg q2, if_neg q2, oB, cond_true, oB, Bool.not_true, cond_false, q1, bne_self_eq_false, cond_false, er, oB, decide_eq_true (by have : (0 : Int) ≤ (quv c a).length := Int.natCast_nonneg _; omega), cond_true]
     rfl
   ·rw [if_neg q1, if_neg q1]
    by_cases q2 : (quv c a).head? = some a.Message
    ·rw [if_pos q2, if_pos q2, oB, cond_true, oB, Bool.not_false, cond_true]
     exact key _ _
    ·rw [if_neg q2, if_neg q2, oB, cond_true, oB, Bool.not_true, cond_false, show (a.Kind != 1) = true from bne_iff_ne.2 q1, cond_true]
     rfl
theorem z1n {x : z7} {c : z8} (h : MOk x c) (yy : σ → (zc × za) → Option (σ × Bool)) (sg : σ) :
  y4 x (xT c) yy sg = (vZ (yeM yy) (mvs x c) sg).map z2Z := by
 unfold y4
 have hpl := h.sys.pl
 rw [Vn x.Parts (by omega) (g := fun p P s => vZ (yeM yy) ((qG P.Arcs (stv c p)).flatMap (one x c p)) s) z2Z sg ?_ ?_]
 ·rw [XK (yeM yy) (fun p P => (qG P.Arcs (stv c p)).flatMap (one x c p)) (fun _ _ _ _ => by rw [Nat.zero_add])]
  show Option.bind (Option.map z2Z (vZ (yeM yy) (mvs x c) sg)) _ = _
  cases vZ (yeM yy) (mvs x c) sg <;> rfl
 ·intro p P s hP
  have hp := wt hP
  obtain ⟨h1, h2⟩ := h.stat hP
  have hv := h.sys.part P (List.mem_of_getElem? hP)
  unfold xp w7
  dsimp only
  rw [decide_eq_true (by omega), cond_true, oB]
  rw [z1v hP h2 hv.arcs h.s4 (yeM yy) (one x c p) s (fun e he s' => by
   obtain ⟨k, _, hk, _⟩ := Y5.1 he
   exact zb8 h yy hp e.1 (hv.arc e.2 (List.mem_of_getElem? hk)) s')]
  cases vZ (yeM yy) ((qG P.Arcs (stv c p)).flatMap (one x c p)) s with
  | none => rfl
  | some r => cases r <;> rfl
 ·intro s
  unfold xp
  dsimp only
  rw [decide_eq_false (by omega), cond_false]
  rfl
end
def dst (c : z8) (p : Nat) (a : ze) : z8 :=
 if a.Kind = 0 then ⟨c.States.set p a.To, c.Queues⟩
 else if a.Kind = 1 then ⟨c.States.set p a.To, c.Queues.set a.Channel.toNat (quv c a ++ [a.Message])⟩
 else ⟨c.States.set p a.To, c.Queues.set a.Channel.toNat (quv c a).tail⟩
def can (x : z7) (c : z8) (a : ze) : Prop :=
 a.Kind = 0 ∨ rmv x a ≠ 0 ∧ (a.Kind = 1 ∧ ((quv c a).length : Int) < rmv x a ∨ a.Kind ≠ 0 ∧ a.Kind ≠ 1 ∧ (quv c a).head? = some a.Message)
def zd8 (c : z8) (p : Nat) (a : ze) (o : Nat) (b : ze) : z8 := ⟨(c.States.set p a.To).set o b.To, c.Queues⟩
theorem Vl {x : z7} {c : z8} {p : Nat} {k : Int} {a : ze} {e : zc × z8} : e ∈ one x c p (k, a) ↔
  (e = (⟨p, k, -1, -1⟩, dst c p a) ∧ can x c a) ∨ (a.Kind = 1 ∧ rmv x a = 0 ∧ ∃ (o : Nat) (Po : zh) (kk : Nat) (b : ze), o ≠ p ∧ x.Parts[o]? = some Po ∧ Po.Arcs[kk]? = some b ∧ b.From = stv c o ∧ (b.Kind = 2 ∧ b.Channel = a.Channel ∧ b.Message = a.Message) ∧ e = (⟨p, k, o, kk⟩, zd8 c p a o b)) := by
 have hh : e ∈ z07 x c p k a ↔ ∃ (o : Nat) (Po : zh) (kk : Nat) (b : ze), o ≠ p ∧ x.Parts[o]? = some Po ∧ Po.Arcs[kk]? = some b ∧ b.From = stv c o ∧ (b.Kind = 2 ∧ b.Channel = a.Channel ∧ b.Message = a.Message) ∧ e = (⟨p, k, o, kk⟩, zd8 c p a o b) := by
  unfold z07
  rw [WO]
  constructor
  ·rintro ⟨o, Po, h1, h2⟩
   rw [Nat.zero_add] at h2
   split at h2
   ·simp at h2
   ·rename_i ho
    obtain ⟨kb, h3, h4⟩ := List.mem_flatMap.1 h2
    obtain ⟨kk, h5, h6, h7⟩ := Y5.1 h3
    unfold two at h4
    split at h4
    ·rename_i hq
     simp only [List.mem_singleton] at h4
     rw [h5] at h4
     exact ⟨o, Po, kk, kb.2, ho, h1, h6, h7, hq, h4⟩
    ·simp at h4
  ·rintro ⟨o, Po, kk, b, ho, h1, h6, h7, hq, rfl⟩
   refine ⟨o, Po, h1, ?_⟩
   rw [Nat.zero_add, if_neg ho]
   refine List.mem_flatMap.2 ⟨((kk : Int), b), Y5.2 ⟨kk, rfl, h6, h7⟩, ?_⟩
   unfold two
   rw [if_pos hq]
   exact List.mem_singleton.2 rfl
 unfold one dst can
 dsimp only
 by_cases q0 : a.Kind = 0
 ·simp [q0]
 ·by_cases q1 : rmv x a = 0
  ·by_cases q2 : a.Kind = 1
   ·rw [if_neg q0, if_pos q1, if_pos q2, hh]
    simp [q1, q2]
   ·simp [q0, q1, q2]
  ·by_cases q2 : a.Kind = 1
   ·by_cases q3 : ((quv c a).length : Int) < rmv x a
    ·simp [q1, q2, q3]
    ·simp [q1, q2, q3]
   ·by_cases q3 : (quv c a).head? = some a.Message
    ·simp [q0, q1, q2, q3]
    ·simp [q0, q1, q2, q3]
theorem Qm {x : z7} {c : z8} {e : zc × z8} : e ∈ mvs x c ↔
  ∃ (p : Nat) (P : zh) (k : Nat) (a : ze), x.Parts[p]? = some P ∧ P.Arcs[k]? = some a ∧ a.From = stv c p ∧ e ∈ one x c p ((k : Int), a) := by
 unfold mvs
 rw [WO]
 constructor
 ·rintro ⟨p, P, h1, h2⟩
  rw [Nat.zero_add] at h2
  obtain ⟨e', h3, h4⟩ := List.mem_flatMap.1 h2
  obtain ⟨k, h5, h6, h7⟩ := Y5.1 h3
  obtain ⟨k', a⟩ := e'
  simp only at h5 h6 h7
  subst h5
  exact ⟨p, P, k, a, h1, h6, h7, h4⟩
 ·rintro ⟨p, P, k, a, h1, h6, h7, h4⟩
  refine ⟨p, P, h1, ?_⟩
  rw [Nat.zero_add]
  exact List.mem_flatMap.2 ⟨((k : Int), a), Y5.2 ⟨k, rfl, h6, h7⟩, h4⟩
theorem z2T {x y : z7} {c : z8} {e f : zc × z8} (hxy : x.Parts = y.Parts) (he : e ∈ mvs x c) (hf : f ∈ mvs y c) (h : e.1 = f.1) : e.2 = f.2 := by
 obtain ⟨p, P, k, a, h1, h2, h3, h4⟩ := Qm.1 he
 obtain ⟨p', P', k', a', g1, g2, g3, g4⟩ := Qm.1 hf
 rw [← hxy] at g1
 have fin : (p : Int) = p' → (k : Int) = k' → p = p' ∧ a = a' := by
  intro q1 q2
  have q1 : p = p' := by omega
  have q2 : k = k' := by omega
  subst q1 q2
  rw [h1] at g1
  cases g1
  rw [h2] at g2
  cases g2
  exact ⟨rfl, rfl⟩
 rcases Vl.1 h4 with ⟨rfl, _⟩ | ⟨_, _, o, Po, kk, b, _, h5, h6, _, _, rfl⟩
 ·rcases Vl.1 g4 with ⟨rfl, _⟩ | ⟨_, _, o', Po', kk', b', _, g5, g6, _, _, rfl⟩
  ·simp only [zc.mk.injEq] at h
   obtain ⟨rfl, rfl⟩ := fin h.1 h.2.1
   rfl
  ·simp only [zc.mk.injEq] at h
   omega
 ·rcases Vl.1 g4 with ⟨rfl, _⟩ | ⟨_, _, o', Po', kk', b', _, g5, g6, _, _, rfl⟩
  ·simp only [zc.mk.injEq] at h
   omega
  ·simp only [zc.mk.injEq] at h
   obtain ⟨rfl, rfl⟩ := fin h.1 h.2.1
   rw [← hxy] at g5
   have q1 : o = o' := by omega
   have q2 : kk = kk' := by omega
   subst q1 q2
   rw [h5] at g5
   cases g5
   rw [h6] at g6
   cases g6
   rfl
theorem z5v {x : z7} {c : z8} (hc : z7N x c) {p : Nat} {P : zh} {t : Int} (hP : x.Parts[p]? = some P) (ht : InR t P.States) : z7N x ⟨c.States.set p t, c.Queues⟩ := by
 refine ⟨by rw [List.length_set]; exact hc.sl, hc.ql, fun i q v h1 h2 => ?_, hc.qu⟩
 dsimp only at h2
 rw [List.getElem?_set] at h2
 split at h2
 ·rename_i hpi
  subst hpi
  split at h2
  ·cases h2
   rw [hP] at h1
   cases h1
   exact ht
  ·cases h2
 ·exact hc.st i q v h1 h2
theorem zcb {x : z7} {c : z8} (hc : z7N x c) {n : Nat} {q : List Int} (hq : ∀ r, x.Channels[n]? = some r → (q.length : Int) ≤ r ∧ ∀ m ∈ q, InR m x.Messages) : z7N x ⟨c.States, c.Queues.set n q⟩ := by
 refine ⟨hc.sl, by rw [List.length_set]; exact hc.ql, hc.st, fun i q' r h1 h2 => ?_⟩
 dsimp only at h1
 rw [List.getElem?_set] at h1
 split at h1
 ·rename_i hpi
  subst hpi
  split at h1
  ·cases h1
   exact hq r h2
  ·cases h1
 ·exact hc.qu i q' r h1 h2
theorem z5I {x : z7} {c : z8} (h : MOk x c) {e : zc × z8} (he : e ∈ mvs x c) : MOk x e.2 := by
 refine ⟨h.sys, ?_⟩
 obtain ⟨p, P, k, a, h1, h2, h3, h4⟩ := Qm.1 he
 have hv := (h.sys.part P (List.mem_of_getElem? h1)).arc a (List.mem_of_getElem? h2)
 have hs := z5v h.cfg h1 hv.to
 rcases Vl.1 h4 with ⟨rfl, hc⟩ | ⟨_, _, o, Po, kk, b, _, h5, h6, _, _, rfl⟩
 ·unfold dst
  dsimp only
  split
  ·exact hs
  ·rename_i q0
   obtain ⟨n, hn, _, e1, e2, hle, _⟩ := h.chan hv q0
   have hqm : ∀ m ∈ quv c a, InR m x.Messages := (h.cfg.qu n _ _ e1 e2).2
   have hnn : a.Channel.toNat = n := by omega
   rw [hnn]
   rcases hc with hc | ⟨_, ⟨q1, q2⟩ | ⟨_, q1, q2⟩⟩
   ·exact absurd hc q0
   ·rw [if_pos q1]
    refine zcb hs (n := n) fun r hr => ?_
    rw [e2] at hr
    cases hr
    refine ⟨by rw [List.length_append, List.length_singleton]; omega, fun m hm => ?_⟩
    rcases List.mem_append.1 hm with hm | hm
    ·exact hqm m hm
    ·rw [List.mem_singleton.1 hm]
     exact (hv.other q0).2
   ·rw [if_neg q1]
    refine zcb hs (n := n) fun r hr => ?_
    rw [e2] at hr
    cases hr
    exact ⟨by rw [List.length_tail]; omega, fun m hm => hqm m (List.mem_of_mem_tail hm)⟩
 ·exact z5v hs h5 ((h.sys.part Po (List.mem_of_getElem? h5)).arc b (List.mem_of_getElem? h6)).to
theorem Wj {α β : Type} {f : α → List β} {b : Nat} : ∀ {l : List α}, (∀ x ∈ l, (f x).length ≤ b) → (l.flatMap f).length ≤ l.length * b
 | [], _ => by simp
 | x :: l, h => by
  rw [List.flatMap_cons, List.length_append, List.length_cons, Nat.succ_mul]
  have h1 := h x List.mem_cons_self
  have h2 := Wj (f := f) (l := l) (b := b) fun y hy => h y (List.mem_cons_of_mem _ hy)
  omega
theorem Jr {l : List ze} {st : Int} (h : l.length ≤ 256) : (qG l st).length ≤ 256 := by
 have := WT (f := fun (k : Nat) (a : ze) => if a.From = st then [((k : Int), a)] else []) (l := l) (k := 0) (b := 1) fun i x _ => by split <;> simp
 unfold qG
 omega
theorem z73 {x : z7} {c : z8} (h : z5U x) : (mvs x c).length ≤ 1048576 := by
 have hpl := h.pl.2
 have hh : ∀ p i a, (z07 x c p i a).length ≤ 1024 := by
  intro p i a
  have := WT (f := fun o P => if o = p then [] else (qG P.Arcs (stv c o)).flatMap (two c p i a o)) (l := x.Parts) (k := 0) (b := 256) fun o P hP => by
   split
   ·simp
   ·have h1 := Jr (st := stv c (0 + o)) (h.part P (List.mem_of_getElem? hP)).arcs
    have h2 := Wj (f := two c p i a (0 + o)) (l := qG P.Arcs (stv c (0 + o))) (b := 1) fun e _ => by unfold two; split <;> simp
    omega
  unfold z07
  omega
 have ho : ∀ p e, (one x c p e).length ≤ 1024 := by
  intro p e
  have := hh p e.1 e.2
  unfold one
  split
  ·simp
  ·split
   ·split
    ·exact this
    ·simp
   ·split
    ·split <;> simp
    ·split <;> simp
 have := WT (f := fun p P => (qG P.Arcs (stv c p)).flatMap (one x c p)) (l := x.Parts) (k := 0) (b := 262144) fun p P hP => by
  have h1 := Jr (st := stv c (0 + p)) (h.part P (List.mem_of_getElem? hP)).arcs
  have h2 := Wj (f := one x c (0 + p)) (l := qG P.Arcs (stv c (0 + p))) (b := 1024) fun e _ => ho _ e
  omega
 unfold mvs
 omega
theorem z2V {x : z7} {c : z8} (h : MOk x c) : jv x c = some ((mvs x c).map (·.1), 0) := by
 have gen : ∀ (l : List (zc × z8)) (acc : List zc), acc.length + l.length ≤ 4294967296 →
   vZ (yeM (yOf (fun s (x : zc × za) => ww s x.1 x.2))) l (.next acc) = some (.next (.next (acc ++ l.map (·.1)))) := by
  intro l
  induction l with
  | nil => intro acc _; simp [vZ]
  | cons e l ih =>
   intro acc ha
   rw [List.length_cons] at ha
   have e1 : yeM (yOf (fun s (x : zc × za) => ww s x.1 x.2)) (.next acc) e = some (.next (acc ++ [e.1]), true) := by
    unfold yeM yOf ww
    dsimp only
    rw [gdT (by rw [List.length_singleton]; omega)]
   rw [vZ, e1, oB, cond_true, ih _ (by rw [List.length_append, List.length_singleton]; omega), List.map_cons, List.append_assoc]
   rfl
 unfold jv
 rw [W2 h.sys h.cfg, oB, bne_self_eq_false, cond_false, z1j h.s4 h.q4 h.qb, oB]
 unfold xc
 rw [oB]
 dsimp only
 have hl := z73 (c := c) h.sys
 rw [z1n h, gen _ [] (by simp; omega)]
 show up ([] ++ (mvs x c).map (·.1)) = _
 unfold up y6
 rw [gdT (by omega)]
 simp
 exact List.take_of_length_le (by simp)
theorem z5O {x : z7} {c : z8} (h : MOk x c) (m : zc) :
  (∃ to, (m, to) ∈ mvs x c ∧ uY x c m = some (to, 0)) ∨ ((∀ e ∈ mvs x c, e.1 ≠ m) ∧ uY x c m = some (⟨[], []⟩, 7)) := by
 have hmq : ∀ m' : zc, ((m'.Part == m.Part) && ((m'.Arc == m.Arc) && ((m'.Other == m.Other) && ((m'.With == m.With) && true)))) = true ↔ m' = m := by
  intro m'
  obtain ⟨a, b, c', d⟩ := m'
  obtain ⟨a2, b2, c2, d2⟩ := m
  simp
 have gen : ∀ (l : List (zc × z8)) (s : List Int × List (List Int)), (∀ e ∈ l, MOk x e.2) →
   (∃ to, (m, to) ∈ l ∧ vZ (yeM (yOf (fun s (e : zc × za) => wj x m s.1 s.2 e.1 e.2))) l (.next s) = some (.done (.done (to.States, to.Queues)))) ∨
   ((∀ e ∈ l, e.1 ≠ m) ∧ vZ (yeM (yOf (fun s (e : zc × za) => wj x m s.1 s.2 e.1 e.2))) l (.next s) = some (.next (.next s))) := by
  intro l
  induction l with
  | nil => intro s _; exact .inr ⟨fun _ h => (by cases h), rfl⟩
  | cons e l ih =>
   intro s hl
   have hk := hl e List.mem_cons_self
   by_cases q : e.1 = m
   ·refine .inl ⟨e.2, by rw [← q]; exact List.mem_cons_self, ?_⟩
    have e1 : yeM (yOf (fun s (e : zc × za) => wj x m s.1 s.2 e.1 e.2)) (.next s) e = some (.done (e.2.States, e.2.Queues), false) := by
     unfold yeM yOf wj
     dsimp only
     rw [(hmq e.1).2 q, cond_true, z3p hk.cfg.sl hk.cfg.ql hk.sys.pl.2 hk.sys.chl hk.qb]
     rfl
    rw [vZ, e1, oB, cond_false]
   ·have e1 : yeM (yOf (fun s (e : zc × za) => wj x m s.1 s.2 e.1 e.2)) (.next s) e = some (.next s, true) := by
     unfold yeM yOf wj
     dsimp only
     rw [Bool.eq_false_iff.2 (fun h => q ((hmq e.1).1 h)), cond_false]
    rw [vZ, e1, oB, cond_true]
    rcases ih s (fun e he => hl e (List.mem_cons_of_mem _ he)) with ⟨to, h1, h2⟩ | ⟨h1, h2⟩
    ·exact .inl ⟨to, List.mem_cons_of_mem _ h1, h2⟩
    ·refine .inr ⟨fun e' he' => ?_, h2⟩
     rcases List.mem_cons.1 he' with rfl | he'
     ·exact q
     ·exact h1 e' he'
 unfold uY
 rw [W2 h.sys h.cfg, oB, bne_self_eq_false, cond_false, z1j h.s4 h.q4 h.qb, oB]
 unfold xc
 rw [oB]
 dsimp only
 rw [z1n h]
 rcases gen (mvs x c) ([], []) (fun e he => z5I h he) with ⟨to, h1, h2⟩ | ⟨h1, h2⟩
 ·rw [h2]
  exact .inl ⟨to, h1, rfl⟩
 ·rw [h2]
  exact .inr ⟨h1, rfl⟩
def By (n : Int) : Prop := 0 ≤ n ∧ n ≤ 255
structure OkZ (z : xr) : Prop where
 st : By z.States
 arc : ∀ a ∈ z.Arcs, By a.e0 ∧ By a.e1 ∧ By a.e2 ∧ By a.e3 ∧ By a.e4
structure OkY (y : y3) : Prop where
 c0 : By y.Channels.e0
 c1 : By y.Channels.e1
 parts : ∀ z ∈ y.Parts, OkZ z
theorem z7U (s : Int) : (0 : Int) ≤ IntKind.u64.wrap s := by
 simp only [IntKind.wrap, IntKind.bits, IntKind.signed]
 simp
 omega
theorem z1K {n : Int} (h : By n) : 0 ≤ Int.tmod n 3 ∧ Int.tmod n 3 < 3 := by
 rw [Int.tmod_eq_emod_of_nonneg h.1]; omega
theorem z3Y {n : Int} (h : By n) : 0 ≤ Int.tmod n 2 ∧ Int.tmod n 2 < 2 := by
 rw [Int.tmod_eq_emod_of_nonneg h.1]; omega
theorem z7W {n k : Int} (h : By n) (hk : 0 < k) : InR (Int.tmod n k) k := by
 rw [Int.tmod_eq_emod_of_nonneg h.1]
 exact ⟨Int.emod_nonneg _ (by omega), Int.emod_lt_of_pos _ hk⟩
theorem z6U {l : List Int} {n : Int} (hn : 0 ≤ n) (h : Ris l n) : Ris (l ++ [n]) (n + 1) := by
 intro i v hv
 rcases Nat.lt_or_ge i l.length with q | q
 ·rw [List.getElem?_append_left q] at hv
  obtain ⟨h1, h2⟩ := h i v hv
  refine ⟨⟨h1.1, by have := h1.2; omega⟩, fun hi => ?_⟩
  obtain ⟨u, h3, h4⟩ := h2 hi
  exact ⟨u, by rw [List.getElem?_append_left (by omega)]; exact h3, h4⟩
 ·rw [List.getElem?_append_right q] at hv
  have hi : i - l.length = 0 := by
   have := wt hv
   simp at this
   omega
  rw [hi] at hv
  cases hv
  refine ⟨⟨hn, by omega⟩, fun hi' => ?_⟩
  have hl : i - 1 < l.length := by omega
  have hu : l[i - 1]? = some l[i - 1] := List.getElem?_eq_getElem hl
  exact ⟨l[i - 1], by rw [List.getElem?_append_left hl]; exact hu, (h _ _ hu).1.2⟩
theorem z1d {l : List Int} {n m : Int} (hn : n ≤ m) (h : Ris l n) : Ris l m := by
 intro i v hv
 obtain ⟨h1, h2⟩ := h i v hv
 exact ⟨⟨h1.1, by have := h1.2; omega⟩, h2⟩
structure VA (st : Int) (a : ze) : Prop where
 fr : InR a.From st
 to : InR a.To st
 kind : 0 ≤ a.Kind ∧ a.Kind ≤ 2
 inner : a.Kind = 0 → a.Channel = 0
 ch : InR a.Channel 2
 msg : InR a.Message 2
structure VP (p : zh) : Prop where
 lo : 1 ≤ p.States
 hi : p.States ≤ 3
 arcs : p.Arcs.length ≤ 6
 ris : Ris p.Final p.States
 fin : (p.Final.length : Int) ≤ p.States
 arc : ∀ a ∈ p.Arcs, VA p.States a
theorem z8A {l : List zh} {i : Int} {s : Int} {arcs : List ze} {fin : List Int} (hl : l.length ≤ 3) (hp : VP ⟨s, arcs, fin⟩) (hlp : ∀ p ∈ l, VP p) :
  ∃ l', qg l i s arcs fin = some (.next (l', w64 (i + 1))) ∧ l'.length = l.length + 1 ∧ ∀ p ∈ l', VP p := by
 refine ⟨l ++ [⟨s, arcs, fin⟩], ?_, by simp, fun p hp' => ?_⟩
 ·unfold qg kH
  rw [gdT (by rw [List.length_singleton]; omega)]
 ·rcases List.mem_append.1 hp' with h | h
  ·exact hlp p h
  ·rw [List.mem_singleton.1 h]; exact hp
theorem zaX {y : y3} (h : OkY y) {l : List zh} {i : Nat} {b : Bool} (hl : l.length ≤ 3) (hlp : ∀ p ∈ l, VP p) :
  ∃ l', uk y l (i : Int) b = some (.next (l', w64 ((i : Int) + 1))) ∧ l'.length = l.length + 1 ∧ ∀ p ∈ l', VP p := by
 unfold uk
 by_cases hi : (i : Int) < ((y.Parts.length : Nat) : Int)
 ·have hz : y.Parts[i]? = some (y.Parts[i]'(by omega)) := List.getElem?_eq_getElem _
  generalize y.Parts[i]'(by omega) = z at hz
  have hok := h.parts z (List.mem_of_getElem? hz)
  have hm := z1K hok.st
  rw [decide_eq_true hi, cond_true, uG hz, oB, gdT (by omega)]
  have e0 : w64 (1 + (w64 (Int.tmod z.States 3))) = 1 + Int.tmod z.States 3 := by rw [uR (x := Int.tmod z.States 3) (by omega) (by omega), uR (by omega) (by omega)]
  generalize hst : 1 + Int.tmod z.States 3 = st at e0
  have r9 : Ret (loop (fun s => jF z s.1 s.2) (([] : List Int), 0)) (fun fl => Ris fl st ∧ (fl.length : Int) ≤ st) := by
   refine UA (fun s => ∃ n : Nat, s.2 = (n : Int) ∧ (n : Int) ≤ st ∧ Ris s.1 n ∧ s.1.length ≤ n) (fun s => 3 - s.2.toNat) ⟨0, rfl, by omega, fun i v hv => by simp at hv, Nat.le_refl _⟩ (by show 3 - 0 < _; omega) ?_
   rintro ⟨fl, s⟩ ⟨n, hs, hn, h1, h2⟩
   dsimp only at hs h1 h2 ⊢
   subst hs
   unfold jF qE
   rw [e0]
   by_cases q : (n : Int) < st
   ·rw [decide_eq_true q, cond_true, gdT (z7U _), uR (by omega) (by omega)]
    cases (zaw .u8 (Int.fdiv z.Final (2 ^ (min (IntKind.u64.wrap (n : Int)).toNat 8))) 1) == 1 with
    | true =>
     rw [cond_true, gdT (by rw [List.length_singleton]; omega)]
     refine qd.2 ⟨⟨n + 1, rfl, by omega, z6U (by omega) h1, by rw [List.length_append, List.length_singleton]; omega⟩, ?_⟩
     show 3 - ((n : Int) + 1).toNat < 3 - (n : Int).toNat
     omega
    | false =>
     rw [cond_false]
     refine qd.2 ⟨⟨n + 1, rfl, by omega, z1d (by omega) h1, by dsimp only; omega⟩, ?_⟩
     show 3 - ((n : Int) + 1).toNat < 3 - (n : Int).toNat
     omega
   ·rw [decide_eq_false q, cond_false]
    exact qd.2 ⟨z1d (by omega) h1, by omega⟩
  obtain ⟨fl, e9, f1, f2⟩ := r9
  rw [bdT e9]
  unfold kG
  have r7 : Ret (loop (fun s => jG z fl s.1 s.2) (([] : List ze), 0)) (fun t => t.1 = st ∧ t.2.2 = fl ∧ t.2.1.length ≤ 6 ∧ ∀ a ∈ t.2.1, VA st a) := by
   refine UA (fun s => ∃ n : Nat, s.2 = (n : Int) ∧ n ≤ 6 ∧ s.1.length ≤ n ∧ ∀ a ∈ s.1, VA st a) (fun s => 6 - s.2.toNat) ⟨0, rfl, by omega, Nat.le_refl _, fun a ha => by simp at ha⟩ (by show 6 - 0 < _; omega) ?_
   rintro ⟨arcs, s⟩ ⟨n, hs, hn, h1, h2⟩
   dsimp only at hs h1 h2 ⊢
   subst hs
   unfold jG
   by_cases q : (n : Int) < ((z.Arcs.length : Nat) : Int)
   ·rw [decide_eq_true q, cond_true]
    by_cases q6 : (n : Int) < 6
    ·have ha : z.Arcs[n]? = some (z.Arcs[n]'(by omega)) := List.getElem?_eq_getElem _
     generalize z.Arcs[n]'(by omega) = a at ha
     obtain ⟨b0, b1, b2, b3, b4⟩ := hok.arc a (List.mem_of_getElem? ha)
     have w0 : w64 a.e0 = a.e0 := uR (by have := b0.1; omega) (by have := b0.2; omega)
     have w4 : w64 a.e4 = a.e4 := uR (by have := b4.1; omega) (by have := b4.2; omega)
     have t2 := z3Y b2
     have t3 := z3Y b3
     have t1 := z1K b1
     have s0 := z7W b0 (k := st) (by omega)
     have s4 := z7W b4 (k := st) (by omega)
     have fin : ∀ ch : Int, InR ch 2 → (Int.tmod a.e1 3 = 0 → ch = 0) → Ret (qe z arcs (n : Int) a ch) (LRP (fun s' => (∃ n : Nat, s'.2 = (n : Int) ∧ n ≤ 6 ∧ s'.1.length ≤ n ∧ ∀ a ∈ s'.1, VA st a) ∧ 6 - s'.2.toNat < 6 - (n : Int).toNat) (fun t : Int × List ze × List Int => t.1 = st ∧ t.2.2 = fl ∧ t.2.1.length ≤ 6 ∧ ∀ a ∈ t.2.1, VA st a)) := by
      intro ch hch h0
      unfold qe
      rw [e0, w0, w4, uR (x := Int.tmod a.e3 2) (by omega) (by omega), gdT (by rw [List.length_singleton]; omega), uR (by omega) (by omega)]
      refine qd.2 ⟨⟨n + 1, rfl, by omega, by rw [List.length_append, List.length_singleton]; omega, fun a' ha' => ?_⟩, ?_⟩
      ·rcases List.mem_append.1 ha' with hm | hm
       ·exact h2 a' hm
       ·rw [List.mem_singleton.1 hm]
        exact ⟨s0, s4, ⟨t1.1, by dsimp only; omega⟩, h0, hch, ⟨t3.1, t3.2⟩⟩
      ·show 6 - ((n : Int) + 1).toNat < 6 - (n : Int).toNat
       omega
     rw [decide_eq_true q6, cond_true, uG ha, oB, e0, gdT (by omega), gdT (by omega), gdT (by omega), gdT (by omega), gdT (by omega)]
     by_cases qk : Int.tmod a.e1 3 = 0
     ·rw [qk, beq_self_eq_true, cond_true]
      exact fin 0 ⟨by omega, by omega⟩ (fun _ => rfl)
     ·rw [beq_false_of_ne qk, cond_false, uR (x := Int.tmod a.e2 2) (by omega) (by omega)]
      exact fin _ ⟨t2.1, t2.2⟩ (fun q => absurd q qk)
    ·rw [decide_eq_false q6, cond_false, e0]
     exact qd.2 ⟨rfl, rfl, by dsimp only; omega, h2⟩
   ·rw [decide_eq_false q, cond_false, e0]
    exact qd.2 ⟨rfl, rfl, by dsimp only; omega, h2⟩
  obtain ⟨t, e7, g1, g2, g3, g4⟩ := r7
  rw [bdT e7, g1, g2]
  exact z8A hl ⟨by dsimp only; omega, by dsimp only; omega, g3, f1, f2, g4⟩ hlp
 ·rw [decide_eq_false hi, cond_false]
  exact z8A hl ⟨by decide, by decide, by simp, fun i v hv => by simp at hv, by simp, fun a ha => by simp at ha⟩ hlp
structure zc4 (y : y3) (x : z7) : Prop where
 msg : x.Messages = 2
 lab : x.Labels = 2
 ch : x.Channels = [Int.tmod y.Channels.e0 3, Int.tmod y.Channels.e1 3]
 pl : 1 ≤ x.Parts.length ∧ x.Parts.length ≤ 3
 part : ∀ p ∈ x.Parts, VP p
theorem z8z {y : y3} (h : OkY y) : ∃ x, kQ y = some x ∧ zc4 y x := by
 unfold kQ
 rw [gdT (by omega), gdT (by omega)]
 have r2 : Ret (loop (fun s => jH y s.1 s.2) (([] : List zh), 0)) (fun l => (1 ≤ l.length ∧ l.length ≤ 3) ∧ ∀ p ∈ l, VP p) := by
  refine UA (fun s => ∃ n : Nat, s.2 = (n : Int) ∧ n ≤ 3 ∧ s.1.length = n ∧ ∀ p ∈ s.1, VP p) (fun s => 3 - s.2.toNat) ⟨0, rfl, by omega, rfl, fun a ha => by simp at ha⟩ (by show 3 - 0 < _; omega) ?_
  rintro ⟨l, s⟩ ⟨n, hs, hn, h1, h2⟩
  dsimp only at hs h1 h2 ⊢
  subst hs
  unfold jH
  have go : ∀ b, n < 3 → Ret (uk y l (n : Int) b) (LRP (fun s' => (∃ n : Nat, s'.2 = (n : Int) ∧ n ≤ 3 ∧ s'.1.length = n ∧ ∀ p ∈ s'.1, VP p) ∧ 3 - s'.2.toNat < 3 - (n : Int).toNat) (fun l : List zh => (1 ≤ l.length ∧ l.length ≤ 3) ∧ ∀ p ∈ l, VP p)) := by
   intro b q
   obtain ⟨l', e, h3, h4⟩ := zaX h (l := l) (i := n) (b := b) (by omega) h2
   rw [e, uR (by omega) (by omega)]
   refine qd.2 ⟨⟨n + 1, rfl, by omega, by dsimp only; omega, h4⟩, ?_⟩
   show 3 - ((n : Int) + 1).toNat < 3 - (n : Int).toNat
   omega
  by_cases q : (n : Int) < 3
  ·rw [decide_eq_true q, cond_true]
   by_cases q1 : (n : Int) < ((y.Parts.length : Nat) : Int)
   ·rw [decide_eq_true q1, cond_true]
    exact go _ (by omega)
   ·rw [decide_eq_false q1, cond_false]
    by_cases q2 : n = 0
    ·subst q2
     exact go true (by omega)
    ·rw [beq_false_of_ne (by omega), cond_false]
     exact qd.2 ⟨⟨by omega, by omega⟩, h2⟩
  ·rw [decide_eq_false q, cond_false]
   exact qd.2 ⟨⟨by omega, by omega⟩, h2⟩
 obtain ⟨l, e, h1, h2⟩ := r2
 rw [bdT e]
 have t0 := z1K h.c0
 have t1 := z1K h.c1
 refine ⟨_, rfl, rfl, rfl, ?_, h1, h2⟩
 dsimp only
 rw [uR (x := Int.tmod y.Channels.e0 3) (by omega) (by omega), uR (x := Int.tmod y.Channels.e1 3) (by omega) (by omega)]
theorem z1s {y : y3} {x : z7} (h : zc4 y x) {a b : Int} (ha : 0 ≤ a ∧ a ≤ 4) (hb : 0 ≤ b ∧ b ≤ 4) : z5U ⟨x.Messages, x.Labels, [a, b], x.Parts⟩ := by
 have hm := h.msg
 have hl := h.lab
 refine ⟨by dsimp only; omega, by dsimp only; omega, by simp, fun n hn => ?_, ⟨h.pl.1, by have := h.pl.2; dsimp only; omega⟩, fun p hp => ?_⟩
 ·simp at hn
  rcases hn with rfl | rfl <;> assumption
 ·have hv := h.part p hp
  have h1 := hv.hi
  have h2 := hv.fin
  refine ⟨hv.lo, by omega, by have := hv.arcs; omega, hv.ris, by omega, fun a ha' => ?_⟩
  have hva := hv.arc a ha'
  refine ⟨hva.fr, hva.to, hva.kind, fun q => ⟨hva.inner q, ?_⟩, fun _ => ⟨hva.ch, ?_⟩⟩
  ·dsimp only; rw [hl]; exact hva.msg
  ·dsimp only; rw [hm]; exact hva.msg
theorem z36 {y : y3} {x : z7} (hy : OkY y) (h : zc4 y x) : z5U x := by
 have t0 := z1K hy.c0
 have t1 := z1K hy.c1
 have := z1s h (a := Int.tmod y.Channels.e0 3) (b := Int.tmod y.Channels.e1 3) (by omega) (by omega)
 rw [← h.ch] at this
 exact this
def beg (x : z7) : z8 := ⟨List.replicate x.Parts.length 0, List.replicate x.Channels.length []⟩
theorem z1C {x : z7} (h : z5U x) : jU x = some (beg x) := by
 unfold jU
 rw [gdT (by have := h.pl.2; omega), gdT (by have := h.chl; omega), Int.toNat_natCast, Int.toNat_natCast]
 rfl
theorem z96 {x : z7} (h : z5U x) : MOk x (beg x) := by
 refine ⟨h, by simp [beg], by simp [beg], fun i p v hp hv => ?_, fun i q n hq hn => ?_⟩
 ·have := List.mem_of_getElem? hv
  have hv0 : v = 0 := List.eq_of_mem_replicate this
  subst hv0
  exact ⟨Int.le_refl _, by have := (h.part p (List.mem_of_getElem? hp)).lo; omega⟩
 ·have hq0 : q = [] := List.eq_of_mem_replicate (List.mem_of_getElem? hq)
  subst hq0
  exact ⟨(h.ch n (List.mem_of_getElem? hn)).1, fun m hm => by simp at hm⟩
theorem VQ : Zb = some true := by kernel_rfl
def Ok5 (a : Int) : Prop := (0) ≤ a ∧ a ≤ 255
def zdi (a : z0Y Int) : Prop := Ok5 a.e0 ∧ Ok5 a.e1
def zbS (a : z21 Int) : Prop := Ok5 a.e0 ∧ Ok5 a.e1 ∧ Ok5 a.e2 ∧ Ok5 a.e3 ∧ Ok5 a.e4
def zde (l : List (z21 Int)) : Prop := ∀ a ∈ l, zbS a
def zbT (a : xr) : Prop := Ok5 a.States ∧ Ok5 a.Final ∧ zde a.Arcs
def zdh (l : List xr) : Prop := ∀ a ∈ l, zbT a
def zdg (a : y3) : Prop := zdi a.Channels ∧ zdh a.Parts
def zdf (l : List Int) : Prop := ∀ a ∈ l, Ok5 a
theorem z2A {x t : z7} {c : z8} (hx : MOk x c) (ht : MOk t c) (hp : t.Parts = x.Parts)
  (hc : ∀ (i : Nat) (n m : Int), x.Channels[i]? = some n → t.Channels[i]? = some m → 1 ≤ n ∧ n ≤ m) {e : zc × z8} (he : e ∈ mvs x c) : ∃ to, (e.1, to) ∈ mvs t c := by
 obtain ⟨p, P, k, a, h1, h2, h3, h4⟩ := Qm.1 he
 have hv := (hx.sys.part P (List.mem_of_getElem? h1)).arc a (List.mem_of_getElem? h2)
 have hvt := (ht.sys.part P (List.mem_of_getElem? (hp.symm ▸ h1))).arc a (List.mem_of_getElem? h2)
 refine ⟨dst c p a, ?_⟩
 have rooms : a.Kind ≠ 0 → 1 ≤ rmv x a ∧ rmv x a ≤ rmv t a := by
  intro q
  obtain ⟨n, hn, _, _, e2, _, _⟩ := hx.chan hv q
  obtain ⟨n', hn', _, _, e3, _, _⟩ := ht.chan hvt q
  have : n = n' := by omega
  subst this
  exact hc n _ _ e2 e3
 rcases Vl.1 h4 with ⟨rfl, hcn⟩ | ⟨q1, q2, _⟩
 ·refine Qm.2 ⟨p, P, k, a, hp.symm ▸ h1, h2, h3, Vl.2 (.inl ⟨rfl, ?_⟩)⟩
  rcases hcn with q | ⟨_, ⟨q1, q2⟩ | ⟨q0, q1, q2⟩⟩
  ·exact .inl q
  ·have := rooms (by omega)
   exact .inr ⟨by omega, .inl ⟨q1, by omega⟩⟩
  ·have := rooms q0
   exact .inr ⟨by omega, .inr ⟨q0, q1, q2⟩⟩
 ·have := rooms (by omega)
  omega
theorem z4W {x : y3} {which : List Int} (hx : zdg x) (hw : zdf which) : qh x which = some true := by
 obtain ⟨⟨hc0, hc1⟩, hps⟩ := hx
 have c0 := z3Y hc0
 have c1 := z3Y hc1
 have u8 : ∀ n : Int, 0 ≤ n → n ≤ 2 → IntKind.u8.wrap n = n := by
  intro n h1 h2
  simp only [IntKind.wrap, IntKind.bits, IntKind.signed]
  simp
  omega
 unfold qh
 rw [gdT (by omega), gdT (by omega), u8 _ (by omega) (by omega), u8 _ (by omega) (by omega)]
 generalize hk0 : 1 + Int.tmod x.Channels.e0 2 = k0
 generalize hk1 : 1 + Int.tmod x.Channels.e1 2 = k1
 have hy : OkY ⟨⟨k0, k1⟩, x.Parts⟩ := ⟨⟨by dsimp only; omega, by dsimp only; omega⟩, ⟨by dsimp only; omega, by dsimp only; omega⟩, fun z hz => ⟨(hps z hz).1, fun a ha => (hps z hz).2.2 a ha⟩⟩
 obtain ⟨s, e, hs⟩ := z8z hy
 rw [e, oB, oB]
 have hch : s.Channels = [k0, k1] := by
  have := hs.ch
  dsimp only at this
  rw [Int.tmod_eq_emod_of_nonneg (by omega), Int.tmod_eq_emod_of_nonneg (by omega)] at this
  rw [this]
  congr 1
  ·omega
  ·congr 1; omega
 have hvs := z36 hy hs
 rw [hch, show idx [k0, k1] 0 = some k0 from rfl, show idx [k0, k1] 1 = some k1 from rfl, oB, oB, z1C hvs, oB, uR (by omega) (by omega), uR (by omega) (by omega)]
 have hvt := z1s hs (a := k0 + 1) (b := k1 + 2) (by omega) (by omega)
 generalize ht : (⟨s.Messages, s.Labels, [k0 + 1, k1 + 2], s.Parts⟩ : z7) = t at hvt
 have htp : t.Parts = s.Parts := by rw [← ht]
 have htc : t.Channels = [k0 + 1, k1 + 2] := by rw [← ht]
 have htm : t.Messages = s.Messages := by rw [← ht]
 rw [z1C hvt, oB]
 have hbeg : beg t = beg s := by
  unfold beg
  rw [htp, htc, hch]
  rfl
 rw [hbeg]
 have chans : ∀ (i : Nat) (n m : Int), s.Channels[i]? = some n → t.Channels[i]? = some m → 1 ≤ n ∧ n ≤ m := by
  intro i n m h1 h2
  rw [hch] at h1
  rw [htc] at h2
  match i with
  | 0 => cases h1; cases h2; omega
  | 1 => cases h1; cases h2; omega
  | i + 2 => simp at h1
 have more : ∀ c, MOk s c → MOk t c := by
  intro c h
  refine ⟨hvt, ⟨by rw [htp]; exact h.cfg.sl, by rw [htc, h.cfg.ql, hch]; rfl, fun i p v h1 h2 => h.cfg.st i p v (htp ▸ h1) h2, fun i q n h1 h2 => ?_⟩⟩
  have hl : i < s.Channels.length := by
   have := wt h2
   rw [htc] at this
   rw [hch]
   exact this
  have h3 : s.Channels[i]? = some s.Channels[i] := List.getElem?_eq_getElem hl
  have h4 := chans i _ _ h3 h2
  have h5 := h.cfg.qu i q _ h1 h3
  exact ⟨by omega, fun m hm => by rw [htm]; exact h5.2 m hm⟩
 have hloop : Ret (loop (fun z => wD which s s k0 k1 z.1 z.2.1 z.2.2.1 z.2.2.2.1 z.2.2.2.2) ((beg s).States, (beg s).Queues, (beg s).States, (beg s).Queues, 0)) (fun r => r = .inl () ∨ r = .inr true) := by
  refine UA (fun z => ∃ (c : z8) (i : Nat), z = (c.States, c.Queues, c.States, c.Queues, (i : Int)) ∧ MOk s c ∧ i ≤ 20) (fun z => 20 - z.2.2.2.2.toNat) ⟨beg s, 0, rfl, z96 hvs, by omega⟩ (by show 20 - 0 < _; omega) ?_
  rintro z ⟨c, i, rfl, hc, hi⟩
  dsimp only
  unfold wD
  have eta : z8.mk c.States c.Queues = c := rfl
  rw [eta]
  by_cases q : (i : Int) < ((which.length : Nat) : Int)
  ·rw [decide_eq_true q, cond_true]
   by_cases q2 : (i : Int) < 20
   ·rw [decide_eq_true q2, cond_true, z2V hc, oB]
    dsimp only
    rw [bne_self_eq_false, cond_false, List.length_map]
    by_cases q3 : mvs s c = []
    ·rw [q3, show (((([] : List (zc × z8)).length : Nat) : Int) == 0) = true from rfl, cond_true, VQ, oB]
     exact qd.2 (.inr rfl)
    ·have hlen : 0 < (mvs s c).length := List.length_pos_iff.2 q3
     have hw' : which[i]? = some (which[i]'(by omega)) := List.getElem?_eq_getElem _
     generalize which[i]'(by omega) = w at hw'
     obtain ⟨w0, w1⟩ := hw w (List.mem_of_getElem? hw')
     rw [beq_false_of_ne (by omega), cond_false, uG hw', oB, gdT (by omega), uR (by omega) (by omega), Int.tmod_eq_emod_of_nonneg w0]
     have m0 := Int.emod_nonneg w (b := ((mvs s c).length : Int)) (by omega)
     have m1 := Int.emod_lt_of_pos w (b := ((mvs s c).length : Int)) (by omega)
     generalize hk : w % ((mvs s c).length : Int) = k at m0 m1
     have hkn : k.toNat < (mvs s c).length := by omega
     have he : (mvs s c)[k.toNat]? = some (mvs s c)[k.toNat] := List.getElem?_eq_getElem hkn
     generalize (mvs s c)[k.toNat] = e at he
     have hm : e ∈ mvs s c := List.mem_of_getElem? he
     have hki : idx ((mvs s c).map (·.1)) k = some e.1 := by
      rw [show k = ((k.toNat : Nat) : Int) by omega]
      exact uG (by rw [List.getElem?_map, he]; rfl)
     rw [hki, oB]
     have hct := more c hc
     have hgo : uY s c e.1 = some (e.2, 0) := by
      rcases z5O hc e.1 with ⟨to, h1, h2⟩ | ⟨h1, _⟩
      ·rw [h2, z2T rfl hm h1 rfl]
      ·exact absurd rfl (h1 e hm)
     have hgt : uY t c e.1 = some (e.2, 0) := by
      obtain ⟨to', hto⟩ := z2A hc hct htp chans hm
      rcases z5O hct e.1 with ⟨to, h1, h2⟩ | ⟨h1, _⟩
      ·rw [h2, z2T htp.symm hm h1 rfl]
      ·exact absurd rfl (h1 (e.1, to') hto)
     have hok := z5I hc hm
     rw [hgo, oB, uR (by omega) (by omega), uR (by omega) (by omega), ht, hgt, oB]
     dsimp only
     rw [bne_self_eq_false, cond_false, cond_false, z2u (by have := hok.s4; omega) (by have := hok.q4; omega) (fun q hq => by have := hok.qb q hq; omega), oB, show ((1 : Int) == 0) = false from rfl, cond_false, uR (by omega) (by omega)]
     refine qd.2 ⟨⟨e.2, i + 1, rfl, hok, by omega⟩, ?_⟩
     show 20 - ((i : Int) + 1).toNat < 20 - (i : Int).toNat
     omega
   ·rw [decide_eq_false q2, cond_false]
    exact qd.2 (.inl rfl)
  ·rw [decide_eq_false q, cond_false]
   exact qd.2 (.inl rfl)
 obtain ⟨r, e2, hr⟩ := hloop
 rw [bdT e2]
 rcases hr with rfl | rfl
 ·show wE = _
  unfold wE
  rw [VQ, oB]
 ·rfl
def Uj (w : World) : zq := fun b o => yl w.heap b o
theorem z0Q {w : World} {a : Addr} {v : Value} (h : w.cell? a = some v) : a.spot = none ∧ yl w.heap a.block a.off = some v := by
 unfold World.cell? at h
 unfold yl
 split at h
 ·rename_i c ty fr he
  rw [he]
  split at h
  ·cases h
  ·rename_i hs
   exact ⟨by simpa using hs, h⟩
 ·cases h
section
variable {H : Type} {enc : TypeId × Value → H} {P : Program} {w : World} {base : Nat} {spare : Nat → Bool} {held : Bool}
theorem z3r {a : Addr} {n : Nat} {cs : List Value} (h : w.cells? base a n = some cs) (hn : 0 < n) : a.spot = none ∧ cs.length = n ∧ QQ (Uj w) a.block a.off cs := by
 obtain ⟨_, h2, h3⟩ := World.cells?_some h
 have h0 : a.spot = none := by
  have h4 := h3 0 hn
  cases hc : cs[0]? with
  | none => rw [List.getElem?_eq_none_iff] at hc; omega
  | some v =>
   rw [hc] at h4
   have := (z0Q h4).1
   simpa [Addr.add] using this
 refine ⟨h0, h2, fun j v hj => ?_⟩
 have hlt := (List.getElem?_eq_some_iff.1 hj).1
 have h4 := h3 j (by omega)
 rw [hj] at h4
 have q := (z0Q h4).2
 unfold Addr.add at q
 split at q
 ·rename_i e; subst e; exact q
 ·exact q
theorem KC {S : zq} : ∀ {bs : List A} {cs : List Value} {a : A} {c : List Value}, yk S bs cs → Rep S a c → yk S (bs ++ [a]) (cs ++ c)
 | [], cs, a, c, h1, h2 => by
  simp only [yk] at h1
  subst h1
  simp only [List.nil_append, yk]
  exact ⟨c, [], by simp, h2, rfl⟩
 | x :: bs, cs, a, c, h1, h2 => by
  simp only [yk] at h1
  obtain ⟨c1, c2, rfl, r1, r2⟩ := h1
  simp only [List.cons_append, yk]
  exact ⟨c1, c2 ++ c, by simp, r1, KC r2 h2⟩
theorem z4Q {S : zq} {b o : Nat} {c1 c2 : List Value} (h1 : QQ S b o c1) (h2 : QQ S b (o + c1.length) c2) : QQ S b o (c1 ++ c2) := by
 intro j v hj
 rcases Nat.lt_or_ge j c1.length with q | q
 ·rw [List.getElem?_append_left q] at hj
  exact h1 j v hj
 ·rw [List.getElem?_append_right q] at hj
  have := h2 _ _ hj
  rwa [show o + c1.length + (j - c1.length) = o + j by omega] at this
theorem UT {α : Type} {t e sz : Nat} (f : α → A) (ok : α → Prop) (ht : P.underlying t = some (.slice e)) (hsz : P.cellsOf e = sz) (h0 : 0 < sz) (hf : ∀ a, (f a).size = sz)
    (hel : ∀ n cs x, DataW.trod enc P w base spare held n e cs = some x → ∃ a, ok a ∧ Rep (Uj w) (f a) cs)
    {fuel : Nat} {cs : List Value} {x : DataW H × List MemPlace} (h : DataW.trod enc P w base spare held fuel t cs = some x) : ∃ l : List α, (∀ a ∈ l, ok a) ∧ Rep (Uj w) (.sl sz false (l.map f)) cs := by
  rcases DataW.trod_slice ht h with ⟨rfl, _⟩ | ⟨a, len, cap, elems, rest, n, _, rfl, _, _, hlc, _, hlen, hall, _, _⟩
  · refine ⟨[], by simp, ?_⟩
    simp only [Rep, List.map_nil, List.length_nil]
    exact ⟨none, 0, rfl, by simp, Nat.le_refl _, by simp, .inl trivial⟩
  · have key : ∀ k, k ≤ len → ∃ (l : List α) (cells : List Value), l.length = k ∧ (∀ a ∈ l, ok a) ∧ yk (Uj w) (l.map f) cells ∧ cells.length = k * sz ∧ (0 < k → a.spot = none) ∧ QQ (Uj w) a.block a.off cells := by
      intro k
      induction k with
      | zero => intro _; exact ⟨[], [], rfl, by simp, by simp [yk], by simp, by simp, fun j v h => by simp at h⟩
      | succ k ih =>
        intro hk
        obtain ⟨l, cells, q1, q2, q3, q4, q5, q6⟩ := ih (by omega)
        have hk' := hall k (by omega)
        have hsome : elems[k]? = some elems[k] := List.getElem?_eq_getElem (by omega)
        rw [hsome, Option.bind_eq_some_iff, hsz] at hk'
        obtain ⟨c, hc, htr⟩ := hk'
        obtain ⟨y, hy, hr⟩ := hel _ _ _ htr
        obtain ⟨g1, g2, g3⟩ := z3r hc h0
        refine ⟨l ++ [y], cells ++ c, by simp [q1], ?_, ?_, ?_, ?_, ?_⟩
        · intro z hz
          rcases List.mem_append.1 hz with q | q
          · exact q2 z q
          · simp only [List.mem_cons, List.not_mem_nil, or_false] at q; subst q; exact hy
        · rw [List.map_append]; exact KC q3 hr
        · rw [List.length_append, q4, g2, Nat.succ_mul]
        · intro _
          rcases Nat.eq_zero_or_pos k with rfl | hk0
          · simpa [Addr.add] using g1
          · exact q5 hk0
        · refine z4Q q6 ?_
          rw [q4]
          unfold Addr.add at g3
          split at g3
          · rename_i e0
            rw [e0, Nat.add_zero]
            exact g3
          · exact g3
    obtain ⟨l, cells, q1, q2, q3, q4, q5, q6⟩ := key len (Nat.le_refl _)
    refine ⟨l, q2, ?_⟩
    simp only [Rep, List.length_map]
    refine ⟨some a, cap, by rw [q1], by simp, by omega, ?_, ?_⟩
    · intro y hy
      obtain ⟨z, _, rfl⟩ := List.mem_map.1 hy
      exact hf z
    · rcases Nat.eq_zero_or_pos len with rfl | hl
      · left; rw [List.length_eq_zero_iff.1 q1]; rfl
      · right
        refine ⟨a.block, a.off, cells, ?_, q3, q6⟩
        have := q5 hl
        obtain ⟨b, o, s⟩ := a
        simp only at this
        subst this
        rfl
theorem z7f {t : Nat} {k : IntKind} {lo hi : Int} (ht : P.underlying t = some (.int k)) (hlo : k.min = lo) (hhi : k.max = hi) {fuel : Nat} {cs : List Value} {x : DataW H × List MemPlace} (h : DataW.trod enc P w base spare held fuel t cs = some x) :
  ∃ n : Int, (lo ≤ n ∧ n ≤ hi) ∧ cs = [.int k n] ∧ Rep (Uj w) (.atom (.int k n)) cs := by
 obtain ⟨n, rfl, _, hw⟩ := DataW.trod_int ht h
 simp only [Lit.wf, Bool.and_eq_true, decide_eq_true_eq, hlo, hhi] at hw
 exact ⟨n, hw, rfl, by simp only [Rep]; exact ⟨trivial, rfl⟩⟩
theorem WK {t : Nat} {fs : List Field} (ht : P.underlying t = some (.struct ⟨fs⟩)) {fuel : Nat} {cs : List Value} {x : DataW H × List MemPlace} (h : DataW.trod enc P w base spare held fuel t cs = some x) :
  cs.length = P.cellsOf t ∧ ∀ (i : Nat) (f : Field), fs[i]? = some f → ∃ n y, DataW.trod enc P w base spare held n f.type ((cs.drop f.offset).take (P.cellsOf f.type)) = some y := by
 obtain ⟨xs, n, _, _, hl, hxl, hall⟩ := DataW.trod_struct ht h
 refine ⟨hl, fun i f hf => ?_⟩
 have hlt := (List.getElem?_eq_some_iff.1 hf).1
 have := hall i f (by simpa using hf)
 rw [List.getElem?_eq_getElem (by rw [hxl]; simpa using hlt)] at this
 exact ⟨n, _, this⟩
end
theorem ur {S : zq} {a : A} {bs : List A} {cs : List Value} {n : Nat} (h1 : Rep S a (cs.take n)) (h2 : yk S bs (cs.drop n)) : yk S (a :: bs) cs := by
 simp only [yk]
 exact ⟨cs.take n, cs.drop n, (List.take_append_drop n cs).symm, h1, h2⟩
section
open Go Go.ChangeShapes Go.WideShapes Go.ChangeAt Go.RowKit
theorem z2H {P : Program} {H : Type} {enc : TypeId × Value → H} {f : Func} {s : ChangeSpec} {apart fresh handsOn again : Bool} {W W' : World} {args : Array Value} {v : Value} {ds : List (DataW H)} {pa : List MemPlace}
  (hvar : s.vars = []) (hvars2 : (s.fn H (ds ++ [])).vars = []) (hW : DataW.Whole enc P f.params.toList s.vars apart W args.toList ds [] (pa ++ [])) (hb : Below W.heap.size W W')
  (hres : ∀ (b : Nat) (sp : Nat → Bool) (hd : Bool), DataW.TrodAll enc P W' b sp hd f.resultTypes.toList (v.resultList f.resultTypes.size) (s.fn H (ds ++ [])).results [])
  (hargs : ∀ sp : Nat → Bool, (∀ p ∈ pa ++ [], sp p.block = true) → DataW.TrodAll enc P W' 0 sp true f.params.toList args.toList (s.fn H (ds ++ [])).args pa)
  (hok : ∀ (j : Nat) (t : TypeId) (r : Value), f.resultTypes[j]? = some t → (v.resultList f.resultTypes.size)[j]? = some r → Value.okWide P W' .any 0 t r) :
  s.post enc P f apart fresh handsOn again W args v W' := by
 have hlt : ∀ p ∈ pa ++ [], p.block < W.heap.size := fun p hp => by simpa using hW.lt p hp
 have hvr : ∀ sp : Nat → Bool, DataW.TrodVars enc P W' sp s.vars (s.fn H (ds ++ [])).vars [] := fun sp => by rw [hvar, hvars2]; rfl
 refine ⟨ds, [], pa ++ [], [], pa, [], hW, hres _ _ _, hargs _ (fun p hp => by simpa using hlt p hp), hvr _, World.keptBut_mono (fun _ q => q.elim) (hb.frame fun _ => False), fun _ => ?_⟩
 obtain ⟨_, _, _, _, _, hz, hn⟩ := hW
 refine ⟨hok, _, _, ([] ++ pa) ++ [], ⟨[] ++ pa, [], trodAll_append (hargs _ (fun _ _ => rfl)) (hres _ _ _), hvr _, rfl, ?_, ?_⟩, ?_⟩
 ·intro b off hp
  have hp' : MemPlace.cell b off ∈ pa ++ [] := by simpa using hp
  rw [hb.frozen (p := ⟨b, off, none⟩) (hlt _ hp')]
  exact hz b off hp'
 ·intro ha
  simpa using hn ha
 ·intro p hp _
  simpa using hp
end
theorem z4p {P : Program} {k : Nat} {α ρ : Type} {enc : α → List A} {encR : ρ → A} {F : α → Option ρ} {gives : List Bool} {inj : ∀ x y, enc x = enc y → x = y} (h : (spF k enc encR F gives inj).Ok P) {x : α} {r : ρ} (hr : F x = some r) : YO P k (enc x) (encR r) := by
 have := h x ⟨r, hr⟩
 simpa only [spF, hr] using this
section
variable {P : Program} {w : World} {r : Reach} {base t : Nat} {v : Value}
theorem z2g (h : ∀ cs, v ≠ .agg cs) : v = v.cells.toList.headD undef := by
 cases v <;> first | rfl | exact (h _ rfl).elim
theorem z2f {e : TypeId} (hu : P.underlying t = some (.slice e)) (h : Value.okWide P w r base t v) : v = v.cells.toList.headD undef := by
 refine z2g fun cs e => ?_
 subst e
 unfold Value.okWide at h
 rw [hu] at h
 simp only [Cell.okWide, hu, Cell.ok] at h
theorem z1J {fs : Array Field} (hu : P.underlying t = some (.struct fs)) (h : Value.okWide P w r base t v) : v = .agg v.cells.toList.toArray := by
 unfold Value.okWide at h
 rw [hu] at h
 obtain ⟨cs, rfl, _⟩ := h
 rfl
theorem z1S {e : TypeId} {S : zq} {a : A} (hu : P.underlying t = some (.slice e)) (hr : Rep S a v.cells.toList) (h : Value.okWide P w r base t v) (ha : a.isAgg = false) : vG S a v := ⟨_, hr, by cases a <;> first | exact z2f hu h | cases ha⟩
theorem z0B {fs : Array Field} {S : zq} {a : A} (hu : P.underlying t = some (.struct fs)) (hr : Rep S a v.cells.toList) (h : Value.okWide P w r base t v) (ha : a.isAgg = true) : vG S a v := ⟨_, hr, by cases a <;> first | exact z1J hu h | cases ha⟩
theorem z54 {S : zq} {h : Array Obj} {v : Value} {F : List Nat} (q : Has S h (.atom (.bool true)) v F) : v = .bool true := by
 rcases q with ⟨q, _⟩ | ⟨cs, q, _, rfl⟩
 ·rw [(zy.1 q).1]
 ·simp only [zP, Rep] at q
  obtain ⟨⟨rfl, _⟩, _⟩ := q
  rfl
end
section
variable {H : Type} {enc : TypeId × Value → H} {w : World} {base : Nat} {spare : Nat → Bool} {held : Bool}
theorem z1B : Tryz.prog.cellsOf 5 = 1 := by kernel_rfl
theorem rd5 {fuel : Nat} {cs : List Value} {x : DataW H × List MemPlace} (h : DataW.trod enc Tryz.prog w base spare held fuel 5 cs = some x) : ∃ a : Int, Ok5 a ∧ Rep (Uj w) ((eI .u8) a) cs := by
 obtain ⟨n, h1, _, h2⟩ := z7f Tryz.underlying5 (lo := 0) (hi := 255) rfl rfl h
 exact ⟨n, h1, h2⟩
theorem z3u : Tryz.prog.cellsOf 22 = 2 := by kernel_rfl
theorem zdN {fuel : Nat} {cs : List Value} {x : DataW H × List MemPlace} (h : DataW.trod enc Tryz.prog w base spare held fuel 22 cs = some x) : ∃ a : z0Y Int, zdi a ∧ Rep (Uj w) ((QO (eI .u8)) a) cs := by
 obtain ⟨xs, m, _, _, hl, hx, hall⟩ := DataW.trod_array Tryz.underlying22 h
 rw [z3u] at hl
 rw [z1B] at hall
 have get : ∀ i, i < 2 → ∃ n : Int, Ok5 n ∧ Rep (Uj w) ((eI .u8) n) ((cs.drop (i * 1)).take 1) := by
  intro i hi
  have q := hall i hi
  rw [List.getElem?_eq_getElem (by omega)] at q
  exact rd5 q
 obtain ⟨a0, k0, r0⟩ := get 0 (by omega)
 obtain ⟨a1, k1, r1⟩ := get 1 (by omega)
 refine ⟨⟨a0, a1⟩, ⟨k0, k1⟩, ?_⟩
 show Rep (Uj w) (.agg [(eI .u8) a0, (eI .u8) a1]) cs
 simp only [Rep]
 refine ur (n := 1) (by simpa [List.drop_drop] using r0) (ur (n := 1) (by simpa [List.drop_drop] using r1) ?_)
 simp only [List.drop_drop, yk]
 exact List.drop_eq_nil_of_le (by omega)
theorem z3s : Tryz.prog.cellsOf 96 = 5 := by kernel_rfl
theorem zdH {fuel : Nat} {cs : List Value} {x : DataW H × List MemPlace} (h : DataW.trod enc Tryz.prog w base spare held fuel 96 cs = some x) : ∃ a : z21 Int, zbS a ∧ Rep (Uj w) ((YV (eI .u8)) a) cs := by
 obtain ⟨xs, m, _, _, hl, hx, hall⟩ := DataW.trod_array Tryz.underlying96 h
 rw [z3s] at hl
 rw [z1B] at hall
 have get : ∀ i, i < 5 → ∃ n : Int, Ok5 n ∧ Rep (Uj w) ((eI .u8) n) ((cs.drop (i * 1)).take 1) := by
  intro i hi
  have q := hall i hi
  rw [List.getElem?_eq_getElem (by omega)] at q
  exact rd5 q
 obtain ⟨a0, k0, r0⟩ := get 0 (by omega)
 obtain ⟨a1, k1, r1⟩ := get 1 (by omega)
 obtain ⟨a2, k2, r2⟩ := get 2 (by omega)
 obtain ⟨a3, k3, r3⟩ := get 3 (by omega)
 obtain ⟨a4, k4, r4⟩ := get 4 (by omega)
 refine ⟨⟨a0, a1, a2, a3, a4⟩, ⟨k0, k1, k2, k3, k4⟩, ?_⟩
 show Rep (Uj w) (.agg [(eI .u8) a0, (eI .u8) a1, (eI .u8) a2, (eI .u8) a3, (eI .u8) a4]) cs
 simp only [Rep]
 refine ur (n := 1) (by simpa [List.drop_drop] using r0) (ur (n := 1) (by simpa [List.drop_drop] using r1) (ur (n := 1) (by simpa [List.drop_drop] using r2) (ur (n := 1) (by simpa [List.drop_drop] using r3) (ur (n := 1) (by simpa [List.drop_drop] using r4) ?_))))
 simp only [List.drop_drop, yk]
 exact List.drop_eq_nil_of_le (by omega)
theorem z7t : Tryz.prog.cellsOf 93 = 1 := by kernel_rfl
theorem zdJ {fuel : Nat} {cs : List Value} {x : DataW H × List MemPlace} (h : DataW.trod enc Tryz.prog w base spare held fuel 93 cs = some x) : ∃ a : List (z21 Int), zde a ∧ Rep (Uj w) ((eSl 5 false (YV (eI .u8))) a) cs := by
 exact UT (YV (eI .u8)) zbS Tryz.underlying93 z3s (by omega) (fun _ => rfl) (fun _ _ _ q => zdH q) h
theorem z3t : Tryz.prog.cellsOf 95 = 3 := by kernel_rfl
theorem zdI {fuel : Nat} {cs : List Value} {x : DataW H × List MemPlace} (h : DataW.trod enc Tryz.prog w base spare held fuel 95 cs = some x) : ∃ a : xr, zbT a ∧ Rep (Uj w) ((uu (eI .u8) (eI .u8) (eSl 5 false (YV (eI .u8)))) a) cs := by
 obtain ⟨hl, hf⟩ := WK Tryz.underlying95 h
 rw [z3t] at hl
 obtain ⟨_, _, q0⟩ := hf 0 _ rfl
 obtain ⟨_, _, q1⟩ := hf 1 _ rfl
 obtain ⟨_, _, q2⟩ := hf 2 _ rfl
 simp only [z1B, z7t] at q0 q1 q2
 obtain ⟨a0, k0, r0⟩ := rd5 q0
 obtain ⟨a1, k1, r1⟩ := rd5 q1
 obtain ⟨a2, k2, r2⟩ := zdJ q2
 refine ⟨⟨a0, a1, a2⟩, ⟨k0, k1, k2⟩, ?_⟩
 show Rep (Uj w) (.agg [(eI .u8) a0, (eI .u8) a1, (eSl 5 false (YV (eI .u8))) a2]) cs
 simp only [Rep]
 refine ur (n := 1) (by simpa [List.drop_drop] using r0) (ur (n := 1) (by simpa [List.drop_drop] using r1) (ur (n := 1) (by simpa [List.drop_drop] using r2) ?_))
 simp only [List.drop_drop, yk]
 exact List.drop_eq_nil_of_le (by omega)
theorem z7v : Tryz.prog.cellsOf 23 = 1 := by kernel_rfl
theorem zdM {fuel : Nat} {cs : List Value} {x : DataW H × List MemPlace} (h : DataW.trod enc Tryz.prog w base spare held fuel 23 cs = some x) : ∃ a : List xr, zdh a ∧ Rep (Uj w) ((eSl 3 false (uu (eI .u8) (eI .u8) (eSl 5 false (YV (eI .u8))))) a) cs := by
 exact UT (uu (eI .u8) (eI .u8) (eSl 5 false (YV (eI .u8)))) zbT Tryz.underlying23 z3t (by omega) (fun _ => rfl) (fun _ _ _ q => zdI q) h
theorem z7u : Tryz.prog.cellsOf 25 = 3 := by kernel_rfl
theorem zdL {fuel : Nat} {cs : List Value} {x : DataW H × List MemPlace} (h : DataW.trod enc Tryz.prog w base spare held fuel 25 cs = some x) : ∃ a : y3, zdg a ∧ Rep (Uj w) ((kc (QO (eI .u8)) (eSl 3 false (uu (eI .u8) (eI .u8) (eSl 5 false (YV (eI .u8)))))) a) cs := by
 obtain ⟨hl, hf⟩ := WK Tryz.underlying25 h
 rw [z7u] at hl
 obtain ⟨_, _, q0⟩ := hf 0 _ rfl
 obtain ⟨_, _, q1⟩ := hf 1 _ rfl
 simp only [z3u, z7v] at q0 q1
 obtain ⟨a0, k0, r0⟩ := zdN q0
 obtain ⟨a1, k1, r1⟩ := zdM q1
 refine ⟨⟨a0, a1⟩, ⟨k0, k1⟩, ?_⟩
 show Rep (Uj w) (.agg [(QO (eI .u8)) a0, (eSl 3 false (uu (eI .u8) (eI .u8) (eSl 5 false (YV (eI .u8))))) a1]) cs
 simp only [Rep]
 refine ur (n := 2) (by simpa [List.drop_drop] using r0) (ur (n := 1) (by simpa [List.drop_drop] using r1) ?_)
 simp only [List.drop_drop, yk]
 exact List.drop_eq_nil_of_le (by omega)
theorem zdK {fuel : Nat} {cs : List Value} {x : DataW H × List MemPlace} (h : DataW.trod enc Tryz.prog w base spare held fuel 75 cs = some x) : ∃ a : List Int, zdf a ∧ Rep (Uj w) ((eSl 1 false (eI .u8)) a) cs := by
 exact UT (eI .u8) Ok5 Tryz.underlying75 z1B (by omega) (fun _ => rfl) (fun _ _ _ q => rd5 q) h
end
end Go.Own
namespace Go.Proofs.YtcldlioffanjaaaGreatDoor.systemsRoom
open Go Go.ChangeShapes Go.WideShapes Go.ChangeAt Go.RowKit
theorem own : ownKnob Tryz.prog.godebug = none := by kernel_rfl
theorem z7b : laidOutB Tryz.prog = true := by kernel_rfl
section
variable {H : Type} {enc : TypeId × Value → H} {W : World}
theorem z6T (u : TypeId) (h : Tryz.prog.typeName? 3 u = some "*errors.errorString") : u = 201 :=
 typeName_ptr_named (nm := "errors.errorString") (by rw [show "*" ++ "errors.errorString" = "*errors.errorString" by decide]; kernel_rfl) (by kernel_rfl) (by decide) u (by rw [show "*" ++ "errors.errorString" = "*errors.errorString" by decide]; exact h)
theorem z57 {W : World} (hL : laidMetH Tryz.prog Rows.systemsRoomRow.laid W) : Go.Own.Gok (Go.Own.Uj W) := by
 rw [MakeChecks.laidMetH_plain _ _ _ (by kernel_rfl)] at hL
 have hg : Tryz.prog.globalNamed "gauntlet/systems.errNo" = some 0 := by kernel_rfl
 obtain ⟨a, _, hv, _⟩ := laid_sentinel hL hg (show (Tryz.prog.globals[0]?).map (·.type) = some 154 by kernel_rfl) Tryz.underlying154 z6T Tryz.underlying201 Tryz.underlying226 rfl rfl Tryz.underlying9 (show Tryz.prog.cellsOf 226 = 1 by kernel_rfl) (show Tryz.prog.cellsOf 9 = 1 by kernel_rfl)
 have hw : W.cell? ⟨0, 0, none⟩ = some (.iface 201 (.pointer (some a))) := by
  have := World.var?_cell hg hv 0
  simpa using this
 have hc : Go.Own.Uj W 0 0 = some (.iface 201 (.pointer (some a))) := (Go.Own.z0Q hw).2
 intro g x e
 unfold Go.Own.zas at e
 split at e
 ·rename_i h0
  subst h0
  cases e
  refine ⟨[.iface 201 (.pointer (some a))], ⟨_, rfl, fun _ => ⟨hc, a, rfl⟩, fun h => by cases h⟩, fun j v hj => ?_⟩
  cases j with
  | zero => cases hj; exact hc
  | succ j => simp at hj
 ·cases e
set_option maxRecDepth 100000 in
theorem zdr {base : Nat} (hL : laidMetH Tryz.prog Rows.systemsRoomRow.laid W) {v0 : Value} {d0 : DataW H} {p0 : List MemPlace} {v1 : Value} {d1 : DataW H} {p1 : List MemPlace} (h0 : DataW.Trod enc Tryz.prog W 0 (fun _ => true) true 25 v0 d0 p0) (h1 : DataW.Trod enc Tryz.prog W 0 (fun _ => true) true 75 v1 d1 p1) (k0 : Value.okWide Tryz.prog W .any base (25 : Nat) v0) (k1 : Value.okWide Tryz.prog W .any base (75 : Nat) v1) :
  Calls Tryz.prog 6 #[v0, v1] W fun e w' => e = .returned (.bool true) ∧ Go.Own.Zo (fun k => W.heap.size ≤ k) W w' := by
 obtain ⟨n0, h0⟩ := h0
 obtain ⟨x0, o0, r0⟩ := Go.Own.zdL h0
 obtain ⟨n1, h1⟩ := h1
 obtain ⟨x1, o1, r1⟩ := Go.Own.zdK h1
 have q := (Go.Own.z4p (Go.Own.z20 Go.Own.z9y List.mem_cons_self : Go.Own.qr.Ok Tryz.prog) (x := (x0, x1)) (r := true) (Go.Own.z4W o0 o1)).2 (Go.Own.Uj W) W [v0, v1] [] ⟨fun _ _ _ h => h, z57 hL⟩ ?_ (by simp)
 ·refine Calls.mono q ?_
  rintro e w' ⟨v, S', F', rfl, hk, _, _, _, hr, _, _⟩
  refine ⟨?_, hk.mono (by rintro k (h | h) <;> simp_all)⟩
  rw [Go.Own.z54 hr]
 ·refine Go.Own.Zh ?_
  have g0 : Go.Own.vG (Go.Own.Uj W) ((Go.Own.kc (Go.Own.QO (Go.Own.eI .u8)) (Go.Own.eSl 3 false (Go.Own.uu (Go.Own.eI .u8) (Go.Own.eI .u8) (Go.Own.eSl 5 false (Go.Own.YV (Go.Own.eI .u8)))))) x0) v0 := Go.Own.z0B (t := (25 : Nat)) Tryz.underlying25 r0 k0 rfl
  have g1 : Go.Own.vG (Go.Own.Uj W) ((Go.Own.eSl 1 false (Go.Own.eI .u8)) x1) v1 := Go.Own.z1S (t := (75 : Nat)) Tryz.underlying75 r1 k1 rfl
  exact ⟨g0, g1, trivial⟩
end
set_option maxRecDepth 100000 in
theorem z59 (os : Os) (args : Array Value) : laidMetH Tryz.prog Rows.systemsRoomRow.laid ((World.doorLaid Tryz.prog 400 os).forCall (fun _ _ => 0) ⟨#[], args, []⟩).memory :=
 laidMetH_of_parts3 (fuel := 8) (laidMet_of_run' 8 (by kernel_rfl) (by kernel_rfl)) (by kernel_rfl) (by kernel_rfl)
set_option maxRecDepth 100000 in
theorem z8E (os : Os) (started : os.Started) (H : Type) (enc : TypeId × Value → H) :
  ReturnsInHanded {} Tryz.checked os 6 .any (fun w args => (Rows.systemsRoomSpec.pre enc Tryz.prog Tryz.f6 Rows.systemsRoomRow.domain false w args ∧ laidMetH Tryz.prog Rows.systemsRoomRow.laid w) ∧ sizedMet enc Tryz.prog Tryz.f6 (OpenSpec.ofChange Rows.systemsRoomSpec) false w args) (Rows.systemsRoomSpec.post enc Tryz.prog Tryz.f6 false true false false) := by
 refine returnsInHanded_of_change_and (C := Tryz.checked) (X := fun w _ => laidMetH Tryz.prog Rows.systemsRoomRow.laid w) (fun _ _ _ hh h => h.of_heap hh) own started (by kernel_rfl) Tryz.func6
  (ChangeSpec.witness_shaped (enc := enc) (C := Tryz.checked) (os := os) (X := fun w _ => laidMetH Tryz.prog Rows.systemsRoomRow.laid w) false (World.doorLaid Tryz.prog 400 os) #[.agg #[.int .u8 0, .int .u8 0, .slice none 0 0], .slice none 0 0] 8 rfl (World.shaped_of_RefB (by kernel_rfl) (by kernel_rfl)) (by kernel_rfl) (by kernel_rfl) (by kernel_rfl) (z59 os _)) ?_
 intro W base args ds gs before hval0 hW hcnd _ hL _
 have hval : ∀ (j : Nat) t v, Tryz.f6.params[j]? = some t → args[j]? = some v → Value.okWide Tryz.prog W .any base t v := hval0
 have hW' := hW
 obtain ⟨p, q, hA0, hV, rfl, hfz, hnd⟩ := hW
 have hA : DataW.TrodAll enc Tryz.prog W 0 (fun _ => true) true Tryz.f6.params.toList args.toList ds p := hA0
 rw [Tryz.params6] at hA hval
 obtain ⟨v0, v1, d0, d1, p0, p1, rfl, rfl, rfl, h0, h1⟩ := trodAll_two hA
 obtain ⟨rfl, rfl⟩ := trodVars_none hV
 clear hA0 hval0
 refine (zdr hL h0 h1 (hval 0 (25 : Nat) v0 rfl rfl) (hval 1 (75 : Nat) v1 rfl rfl)).mono fun e W' ⟨he, hk⟩ => ?_
 subst he
 have hb : Below W.heap.size W W' := ⟨hk.os, hk.tape, hk.output, hk.size, fun k q => hk.block k (by omega)⟩
 have hlt : ∀ x ∈ p0 ++ p1, x.block < W.heap.size := fun x hx => by simpa using hW'.lt x (by simpa using hx)
 refine ⟨_, rfl, Go.Own.z2H rfl rfl hW' hb (fun _ _ _ => trodAll_cons_mk (shut_bool Tryz.underlying4 _) trodAll_mk0) (fun sp hsp => ?_) (ok_one (by kernel_rfl) rfl (okWide_bool_mk Tryz.underlying4 _))⟩
 have st : ∀ {t : Nat} {v : Value} {d : DataW H} {p' : List MemPlace}, DataW.Trod enc Tryz.prog W 0 (fun _ => true) true t v d p' → Tryz.prog.readableRec t = true → t < Tryz.prog.types.size → (∀ x ∈ p', x ∈ p0 ++ p1) → DataW.Trod enc Tryz.prog W' 0 sp true t v d p' := by
  intro t v d p' hd h1 h2 hp
  exact WideElems.Trod_stays z7b h1 h2 hd (fun x hx => hb.same (hlt x (hp x hx))) (fun x hx => hsp x (by simpa using hp x hx))
 have := trodAll_mk2 (st h0 (by kernel_rfl) (of_decide_eq_true (by kernel_rfl)) (fun x hx => by simp [hx])) (st h1 (by kernel_rfl) (of_decide_eq_true (by kernel_rfl)) (fun x hx => by simp [hx]))
 rw [Tryz.params6]
 exact this
theorem Xh : Rows.systemsRoomRow.holds Tryz.pinned (OpenSpec.ofChange Rows.systemsRoomSpec) :=
 OpenClaim.holds_of_wide 6 Tryz.f6 rfl rfl rfl rfl rfl rfl rfl ⟨rfl, rfl, rfl, rfl, rfl⟩ rfl rfl rfl rfl rfl (by kernel_rfl) Tryz.func6 (by kernel_rfl)
  (of_decide_eq_true (by kernel_rfl)) (by unfold Func.isWrapper; first | (rw [if_pos (by decide +kernel)]; kernel_rfl) | (rw [if_neg (by decide +kernel)]; exact ⟨rfl, rfl⟩))
  (fun os started H enc _ => z8E os started H enc)
theorem proved : Rows.SystemsRoomCardSaid :=
 Claim7.holds_tied_plain_at .later [] [.sentinel] true (true, "7a337c67efc784e1f6936414ec661573001676227fe3319059bdf7cee06bd026") true
  Xh (fun _ h => by cases h) (by kernel_rfl) (fun _ h => by cases h) systemsRoom_row_tie rfl ⟨rfl, rfl⟩ (by kernel_rfl) rfl
  (fun f fn hf hfn => by
   obtain rfl : f = 6 := Option.some.inj ((show Tryz.prog.funcNamed "gauntlet/gauntletlaw31.SystemsRoom" = some 6 by kernel_rfl).symm.trans hf) |>.symm
   obtain rfl : fn = Tryz.f6 := (Option.some.inj (Tryz.func6.symm.trans hfn)).symm
   exact ⟨by kernel_rfl, fun j t ht => by
    rw [Tryz.params6] at ht
    have hm : t ∈ [25, 75] := by simpa using Array.mem_of_getElem? ht
    have hall : ([25, 75].all fun u => !Tryz.prog.wantsStandIn u) = true := by kernel_rfl
    exact (show Tryz.prog.wantsStandIn t = false by simpa using List.all_eq_true.1 hall t hm)⟩)
  (by kernel_rfl)
#print axioms proved
end Go.Proofs.YtcldlioffanjaaaGreatDoor.systemsRoom
end
