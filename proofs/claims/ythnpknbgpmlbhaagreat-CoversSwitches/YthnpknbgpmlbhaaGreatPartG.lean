/- Walks, further. -/
import Derived.Test.YthnpknbgpmlbhaaGreatPartF
import Derived.Test.YthnpknbgpmlbhaaGreatPartC
import Derived.Test.YthnpknbgpmlbhaaGreatPartE
import Derived.Test.YthnpknbgpmlbhaaGreatPartB
import Derived.OpenShut
import Derived.ChangeShapes
set_option linter.unusedVariables false
set_option linter.unusedSimpArgs false
namespace Go.Own
open Go.Proofs
set_option maxRecDepth 100000
set_option maxHeartbeats 8000000
noncomputable def vX : Code := (Tryz.f43.body).getD .skip
noncomputable def kK : zR := spF (α := List (List Int) × List (List Int)) (ρ := List (List Int)) 43 (fun x => [vo x.1, vo x.2]) (fun r => z2c r) (fun x => ju x.1 x.2) [] (X3)
abbrev Vd (out : List (List Int)) : List (Nat × T) := [(5, .own (eOs 1 false F3_ out))]
abbrev Vc (a_ : List (List Int)) (b_ : List (List Int)) (i_ : Int) (out2 : List (List Int)) : List (Nat × T) := [(0, .d (eSl 1 false F3_ a_)), (1, .d (eSl 1 false F3_ b_)), (5, .own (eOs 1 false F3_ out2)), (6, .d (I i_))]
abbrev Va (a_ : List (List Int)) (b_ : List (List Int)) (i_ : Int) (out3 : List (List Int)) (k_ : Int) : List (Nat × T) := [(0, .d (eSl 1 false F3_ a_)), (1, .d (eSl 1 false F3_ b_)), (5, .own (eOs 1 false F3_ out3)), (6, .d (I i_)), (7, .d (I k_))]
abbrev Vb (a_ : List (List Int)) (b_ : List (List Int)) (out1 : List (List Int)) (i_ : Int) : List (Nat × T) := [(0, .d (eSl 1 false F3_ a_)), (1, .d (eSl 1 false F3_ b_)), (5, .own (eOs 1 false F3_ out1)), (6, .d (I i_))]
theorem K5 {ctr : Ctr} (hC : zu Tryz.prog ctr) (h_ref12_put : ctr.Has Zs) : kK.Ok Tryz.prog := by
 refine zx ?_
 rintro ⟨a_, b_⟩ r0 hf0
 try unfold ju at hf0
 refine yO true [(4, none)] vX 34 Tryz.func43 fun E hE => ?_
 refine yJ X0 hC vX [1,1] [] [5] (fun z : List (List Int) => kO z = some r0) (fun z => Vd z) [(0, .d (eSl 1 false F3_ a_)), (1, .d (eSl 1 false F3_ b_)), (5, .own (eOs 1 true F3_ []))] [Hh (.cut 2)] ?_ fun J1 hJ1 => ?_
 ·rintro out hf0
  unfold kO at hf0
  obtain rfl := zb hf0
  exact yE X0 hC hE []
 ·obtain ⟨t2, ht2, hf0⟩ := zg hf0
  refine yLx X0 hC vX [1,1,2,1,0] [J1] (fun s => xh a_ b_ s.1 s.2) (fun x => Vb a_ b_ x.1 x.2) (([] : List (List Int)), 0) ht2 [(0, .d (eSl 1 false F3_ a_)), (1, .d (eSl 1 false F3_ b_)), (5, .own (eOs 1 true F3_ [])), (6, .d (I 0))] inferInstance [] ?_
  rintro ⟨out1, i_⟩ m2 lr1 hf1 hl1 J2 hJ2
  try unfold xh at hf1
  let Z0 : List HO := [Ha (lnM F3_ a_)]
  rcases zQ hf1 with ⟨c0, hf1⟩ | ⟨c0, hf1⟩
  ·refine yJ X0 hC vX [1,1,2,1,0,0,1] [J1, J2] [0,1,5,6] (fun z : List (List Int) => uR i_ z = some lr1) (fun z => Vc a_ b_ i_ z) [(0, .d (eSl 1 false F3_ a_)), (1, .d (eSl 1 false F3_ b_)), (5, .own (eOs 1 false F3_ out1)), (6, .d (I i_))] (Z0 ++ [Hq c0, Hh (.cut 0)]) ?_ fun J3 hJ3 => ?_
   ·rintro out2 hf1
    unfold uR at hf1
    obtain rfl := zb hf1
    exact yB X0 hC hJ2 (out2, w64 (i_ + 1)) hl1 []
   ·obtain ⟨t4, ht4, hf1⟩ := zg hf1
    refine yL X0 hC vX [1,1,2,1,0,0,1,2,0,1,0] [J1, J2, J3] (fun s => xg a_ b_ i_ s.1 s.2) (fun x => Va a_ b_ i_ x.1 x.2) (out1,0) ht4  [] ?_
    rintro ⟨out3, k_⟩ m4 lr2 hf2 hl2 J4 hJ4
    try unfold xg at hf2
    let Z1 : List HO := [Ha (lnM F3_ b_)]
    rcases zQ hf2 with ⟨c1, hf2⟩ | ⟨c1, hf2⟩
    ·obtain ⟨a__e, h0, hf2⟩ := zg hf2
     obtain ⟨g0, hf2⟩ := gdE hf2
     obtain ⟨b__e, h1, hf2⟩ := zg hf2
     obtain ⟨g1, hf2⟩ := gdE hf2
     obtain ⟨r_, h2, hf2⟩ := zg hf2
     obtain rfl := zb hf2
     exact yB X0 hC hJ4 (r_, w64 (k_ + 1)) hl2 (Z1 ++ [Hq c1, Hi F3_ h0, Hn (dM (eI .i64) a__e), Hn (aL (eI .i64) (eI .i64) g0), Hl (aM0 (eI .i64) a__e), Hi F3_ h1, Hn (dM (eI .i64) b__e), Hn (aL (eI .i64) (eI .i64) g1), Hl (aM (eI .i64) a__e b__e), Hg (z1Q h_ref12_put), Hm (shM (eI .i64) (eI .i64) (a__e ++ b__e)), Hs (z1R h_ref12_put (x := (out3, (a__e ++ b__e))) h2 (loC z2c out3 <| loC F3_ (a__e ++ b__e) <| loN))])
    ·obtain rfl := zb hf2
     obtain rfl := hl2
     exact yB X0 hC hJ3 out3 hf1 (Z1 ++ [Hq c1])
  ·obtain rfl := zb hf1
   obtain rfl := hl1
   exact yB X0 hC hJ1 out1 hf0 (Z0 ++ [Hq c0])
noncomputable def VE : Code := (Tryz.f16.body).getD .skip
noncomputable def u0 : zR := spF (α := z7 × Int) (ρ := List (List Int)) 16 (fun x => [xO x.1, (eI .i64) x.2]) (fun r => z2c r) (fun x => vw x.1 x.2) [] (X3)
theorem Uv {ctr : Ctr} (hC : zu Tryz.prog ctr) (h_ref13_States : ctr.Has uN) (h_ref12_Upto : ctr.Has Yj) (h_ref12_Concat : ctr.Has kK) : u0.Ok Tryz.prog := by
 refine zx ?_
 rintro ⟨m_, k_⟩ r0 hf0
 try unfold vw at hf0
 refine yO true [(4, none)] VE 12 Tryz.func16 fun E hE => ?_
 obtain ⟨r_, h0, hf0⟩ := zg hf0
 obtain ⟨r_1, h1, hf0⟩ := zg hf0
 obtain ⟨r_2, h2, hf0⟩ := zg hf0
 obtain rfl := zb hf0
 exact yE X0 hC hE [Hc h_ref13_States (x := m_) h0 (loC xO m_ <| loN), Hc h_ref12_Upto (x := (m_.Inputs, k_)) h1 (loC (eI .i64) m_.Inputs <| loC (eI .i64) k_ <| loN), Hg (z1Q h_ref12_Concat), Hm (shM F3_ F3_ r_), Hm (shM F3_ F3_ r_1), Hs (z1R h_ref12_Concat (x := (r_, r_1)) h2 (loC vo r_ <| loC vo r_1 <| loN)), Hm (shM F3_ F3_ r_), Hm (shM F3_ F3_ r_1)]
noncomputable def XZ : Code := (Tryz.f15.body).getD .skip
noncomputable def ue : zR := spF (α := z7) (ρ := List (List Int)) 15 (fun x => [xO x]) (fun r => z2c r) (fun x => wP x) [] (Ul)
theorem Wg {ctr : Ctr} (hC : zu Tryz.prog ctr) (h_ref13_Switches : ctr.Has u0) : ue.Ok Tryz.prog := by
 refine zx ?_
 rintro m_ r0 hf0
 try unfold wP at hf0
 refine yO true [(2, none)] XZ 5 Tryz.func15 fun E hE => ?_
 obtain ⟨r_, h0, hf0⟩ := zg hf0
 obtain rfl := zb hf0
 exact yE X0 hC hE [Hc h_ref13_Switches (x := (m_, 1)) h0 (loC xO m_ <| loC (eI .i64) 1 <| loN)]
noncomputable def YU : Code := (Tryz.f3.body).getD .skip
noncomputable def wX : zR := spF (α := zY × Int) (ρ := Bool) 3 (fun x => [z2e x.1, (eI .i64) x.2]) (fun r => eB r) (fun x => wI x.1 x.2) [] (X3)
theorem X7 {ctr : Ctr} (hC : zu Tryz.prog ctr) (h_law04_M_Of : ctr.Has Yo) (h_covers_States : ctr.Has vg) (h_covers_Transitions : ctr.Has wm) (h_covers_Switches : ctr.Has wn) (h_law13_reached : ctr.Has jL) (h_law13_lives : ctr.Has ZH) (h_ref13_States : ctr.Has uN) (h_law13_same : ctr.Has kc) (h_ref13_Transitions : ctr.Has ue) (h_ref13_Switches : ctr.Has u0) : wX.Ok Tryz.prog := by
 refine zx ?_
 rintro ⟨x_, k_⟩ r0 hf0
 try unfold wI at hf0
 refine yO true [(4, none)] YU 106 Tryz.func3 fun E hE => ?_
 rcases zQ hf0 with ⟨c0, hf0⟩ | ⟨c0, hf0⟩
 ·obtain rfl := zb hf0
  exact yE X0 hC hE [Hq c0]
 ·obtain ⟨r_, h0, hf0⟩ := zg hf0
  obtain ⟨r_1, h1, hf0⟩ := zg hf0
  obtain ⟨r_2, h2, hf0⟩ := zg hf0
  obtain ⟨r_3, h3, hf0⟩ := zg hf0
  obtain ⟨r_4, h4, hf0⟩ := zg hf0
  let Z0 : List HO := [Hq c0, Hc h_law04_M_Of (x := (zY.mk x_.States x_.Inputs x_.Outputs x_.Partial x_.Edges)) h0 (loC z2e (zY.mk x_.States x_.Inputs x_.Outputs x_.Partial x_.Edges) <| loN), Hc h_covers_States (x := r_) h1 (loC xO r_ <| loN), Hc h_covers_Transitions (x := r_) h2 (loC xO r_ <| loN), Hc h_covers_Switches (x := (r_, k_)) h3 (loC xO r_ <| loC (eI .i64) k_ <| loN), Hc h_law13_reached (x := r_) h4 (loC xO r_ <| loN), Ha (lnM vK r_.Rows)]
  rcases zQ hf0 with ⟨c1, hf0⟩ | ⟨c1, hf0⟩
  ·rcases zQ hf0 with ⟨c2, hf0⟩ | ⟨c2, hf0⟩
   ·let Z1 : List HO := (Z0 ++ [Hq c1, Hq c2, Hq c2, Hq c2])
    rcases zQ hf0 with ⟨c3, hf0⟩ | ⟨c3, hf0⟩
    ·rcases zQ hf0 with ⟨c4, hf0⟩ | ⟨c4, hf0⟩
     ·let Z2 : List HO := (Z1 ++ [Hq c3, Hq c3, Hq c3, Hq c4, Hq c4, Ha (lnM F0_ r_1.1), Hq c4, Hq c4, Ha (lnM F0_ r_2.1), Hq c4, Hq c4, Hq c4, Ha (lnM F0_ r_3.1), Hq c4, Hq c4, Hq c4])
      rcases zQ hf0 with ⟨c5, hf0⟩ | ⟨c5, hf0⟩
      ·obtain ⟨r_5, h5, hf0⟩ := zg hf0
       obtain rfl := zb hf0
       exact yE X0 hC hE (Z2 ++ [Hq c5, Hc h_law13_lives (x := ()) h5 (loN), Hq c5])
      ·obtain rfl := zb hf0
       exact yE X0 hC hE (Z2 ++ [Hq c5, Hq c5])
     ·obtain rfl := zb hf0
      exact yE X0 hC hE (Z1 ++ (Hq c3 :: Hq c3 :: Hq c3 :: (rpN 10 (Hq c4) [qF, qF])))
    ·obtain rfl := zb hf0
     exact yE X0 hC hE (Z1 ++ (Hq c3 :: Hq c3 :: Hq c3 :: (rpN 12 qF [])))
   ·obtain rfl := zb hf0
    exact yE X0 hC hE (Z0 ++ (Hq c1 :: Hq c2 :: Hq c2 :: Hq c2 :: (rpN 15 qF [])))
  ·rcases zQ hf0 with ⟨c6, hf0⟩ | ⟨c6, hf0⟩
   ·obtain rfl := zb hf0
    exact yE X0 hC hE (Z0 ++ (Hq c1 :: Hq c6 :: Hq c6 :: Hq c6 :: (rpN 13 qT [])))
   ·let Z3 : List HO := (Z0 ++ [Hq c1, Hq c6, Hq c6, Hq c6])
    rcases zQ hf0 with ⟨c7, hf0⟩ | ⟨c7, hf0⟩
    ·obtain rfl := zb hf0
     exact yE X0 hC hE (Z3 ++ (rpN 6 (Hq c7) (rpN 7 qT [])))
    ·obtain ⟨r_6, h6, hf0⟩ := zg hf0
     obtain ⟨r_7, h7, hf0⟩ := zg hf0
     let Z4 : List HO := (Z3 ++ [Hq c7, Hq c7, Hq c7, Hc h_ref13_States (x := r_) h6 (loC xO r_ <| loN), Hq c7, Hm (shM F3_ F3_ r_6), Hn (qL (f := .fn 13 []) (xs := [F9_ r_1.1, vo r_6]) (ls := []) (r := B r_7) (ys := []) [F9_ r_1.1, vo r_6] (show JY [F9_ r_1.1, vo r_6] [F9_ r_1.1, vo r_6] from inferInstance)), Hq c7, Hq c7])
     rcases zQ hf0 with ⟨c8, hf0⟩ | ⟨c8, hf0⟩
     ·obtain rfl := zb hf0
      exact yE ((yK (P := Tryz.prog) yw [] (lentCall (zK hC h_law13_same (x := (r_1.1, r_6)) h7)) 72).or X0) hC hE (Z4 ++ (rpN 6 (Hq c8) [qT]))
     ·obtain ⟨r_8, h8, hf0⟩ := zg hf0
      obtain ⟨r_9, h9, hf0⟩ := zg hf0
      let Z5 : List HO := (Z4 ++ [Hq c8, Hq c8, Hq c8, Hc h_ref13_Transitions (x := r_) h8 (loC xO r_ <| loN), Hq c8, Hm (shM F3_ F3_ r_8), Hn (qL (f := .fn 13 []) (xs := [F9_ r_2.1, vo r_8]) (ls := []) (r := B r_9) (ys := []) [F9_ r_2.1, vo r_8] (show JY [F9_ r_2.1, vo r_8] [F9_ r_2.1, vo r_8] from inferInstance)), Hq c8, Hq c8])
      rcases zQ hf0 with ⟨c9, hf0⟩ | ⟨c9, hf0⟩
      ·obtain rfl := zb hf0
       exact yE ((yK (P := Tryz.prog) yw [] (lentCall (zK hC h_law13_same (x := (r_2.1, r_8)) h9)) 79).or ((yK (P := Tryz.prog) yw [] (lentCall (zK hC h_law13_same (x := (r_1.1, r_6)) h7)) 72).or X0)) hC hE (Z5 ++ [Hq c9])
      ·rcases zQ hf0 with ⟨c10, hf0⟩ | ⟨c10, hf0⟩
       ·rcases zQ hf0 with ⟨c11, hf0⟩ | ⟨c11, hf0⟩
        ·let Z6 : List HO := (Z5 ++ [Hq c9, Hq c10, Hq c11, Hq c11, Ha (lnM F0_ r_3.1), Hq c11, Hq c11])
         rcases zQ hf0 with ⟨c12, hf0⟩ | ⟨c12, hf0⟩
         ·obtain ⟨r_10, h10, hf0⟩ := zg hf0
          obtain rfl := zb hf0
          exact yE ((yK (P := Tryz.prog) yw [] (lentCall (zK hC h_law13_same (x := (r_2.1, r_8)) h9)) 79).or ((yK (P := Tryz.prog) yw [] (lentCall (zK hC h_law13_same (x := (r_1.1, r_6)) h7)) 72).or X0)) hC hE (Z6 ++ [Hq c12, Hc h_law13_lives (x := ()) h10 (loN), Hq c12])
         ·obtain rfl := zb hf0
          exact yE ((yK (P := Tryz.prog) yw [] (lentCall (zK hC h_law13_same (x := (r_2.1, r_8)) h9)) 79).or ((yK (P := Tryz.prog) yw [] (lentCall (zK hC h_law13_same (x := (r_1.1, r_6)) h7)) 72).or X0)) hC hE (Z6 ++ [Hq c12, Hq c12])
        ·obtain rfl := zb hf0
         exact yE ((yK (P := Tryz.prog) yw [] (lentCall (zK hC h_law13_same (x := (r_2.1, r_8)) h9)) 79).or ((yK (P := Tryz.prog) yw [] (lentCall (zK hC h_law13_same (x := (r_1.1, r_6)) h7)) 72).or X0)) hC hE (Z5 ++ (Hq c9 :: Hq c10 :: (rpN 4 (Hq c11) [qF, qF])))
       ·rcases zQ hf0 with ⟨c13, hf0⟩ | ⟨c13, hf0⟩
        ·obtain ⟨r_11, h11, hf0⟩ := zg hf0
         obtain ⟨r_12, h12, hf0⟩ := zg hf0
         let Z7 : List HO := (Z5 ++ (Hq c9 :: Hq c10 :: (rpN 4 (Hq c13) [Hc h_ref13_Switches (x := (r_, k_)) h11 (loC xO r_ <| loC (eI .i64) k_ <| loN), Hq c13, Hm (shM F3_ F3_ r_11), Hn (qL (f := .fn 13 []) (xs := [F9_ r_3.1, vo r_11]) (ls := []) (r := B r_12) (ys := []) [F9_ r_3.1, vo r_11] (show JY [F9_ r_3.1, vo r_11] [F9_ r_3.1, vo r_11] from inferInstance)), Hq c13])))
         rcases zQ hf0 with ⟨c14, hf0⟩ | ⟨c14, hf0⟩
         ·obtain ⟨r_13, h13, hf0⟩ := zg hf0
          obtain rfl := zb hf0
          exact yE ((yK (P := Tryz.prog) yw [] (lentCall (zK hC h_law13_same (x := (r_3.1, r_11)) h12)) 101).or ((yK (P := Tryz.prog) yw [] (lentCall (zK hC h_law13_same (x := (r_2.1, r_8)) h9)) 79).or ((yK (P := Tryz.prog) yw [] (lentCall (zK hC h_law13_same (x := (r_1.1, r_6)) h7)) 72).or X0))) hC hE (Z7 ++ [Hq c14, Hc h_law13_lives (x := ()) h13 (loN), Hq c14])
         ·obtain rfl := zb hf0
          exact yE ((yK (P := Tryz.prog) yw [] (lentCall (zK hC h_law13_same (x := (r_3.1, r_11)) h12)) 101).or ((yK (P := Tryz.prog) yw [] (lentCall (zK hC h_law13_same (x := (r_2.1, r_8)) h9)) 79).or ((yK (P := Tryz.prog) yw [] (lentCall (zK hC h_law13_same (x := (r_1.1, r_6)) h7)) 72).or X0))) hC hE (Z7 ++ [Hq c14, Hq c14])
        ·obtain rfl := zb hf0
         exact yE ((yK (P := Tryz.prog) yw [] (lentCall (zK hC h_law13_same (x := (r_2.1, r_8)) h9)) 79).or ((yK (P := Tryz.prog) yw [] (lentCall (zK hC h_law13_same (x := (r_1.1, r_6)) h7)) 72).or X0)) hC hE (Z5 ++ (Hq c9 :: Hq c10 :: (rpN 6 (Hq c13) [qF, qF])))
end Go.Own

namespace Go.Own
open Go.Proofs
theorem y4 {l : List zR} {s : zR} (h : ((l.map zR.k).contains s.k) = false) : ∀ t ∈ l, t.k ≠ s.k := by
 intro t ht e
 have : (l.map zR.k).contains s.k = true := by
  rw [List.contains_iff_mem, ← e]
  exact List.mem_map_of_mem ht
 rw [h] at this
 cases this
theorem zr {l : List zR} {c : Ctr} (H : ∀ t ∈ l, c.Has t) (i : Nat) {s : zR} (h : l[i]? = some s) : c.Has s := H _ (List.mem_of_getElem? h)
noncomputable def L0 : List zR := Yo :: []
noncomputable def L1 : List zR := jJ :: L0
noncomputable def L2 : List zR := jK :: L1
noncomputable def L3 : List zR := ut :: L2
noncomputable def L4 : List zR := yh :: L3
noncomputable def L5 : List zR := yb :: L4
noncomputable def L6 : List zR := wN :: L5
noncomputable def L7 : List zR := wx :: L6
noncomputable def L8 : List zR := xD :: L7
noncomputable def L9 : List zR := vQ :: L8
noncomputable def L10 : List zR := qM :: L9
noncomputable def L11 : List zR := xE :: L10
noncomputable def L12 : List zR := yn :: L11
noncomputable def L13 : List zR := ZB :: L12
noncomputable def L14 : List zR := kI :: L13
noncomputable def L15 : List zR := jH :: L14
noncomputable def L16 : List zR := xR :: L15
noncomputable def L17 : List zR := x5 :: L16
noncomputable def L18 : List zR := ZA :: L17
noncomputable def L19 : List zR := jg :: L18
noncomputable def L20 : List zR := wM :: L19
noncomputable def L21 : List zR := jN :: L20
noncomputable def L22 : List zR := vD :: L21
noncomputable def L23 : List zR := wy :: L22
noncomputable def L24 : List zR := Yp :: L23
noncomputable def L25 : List zR := ve :: L24
noncomputable def L26 : List zR := qN :: L25
noncomputable def L27 : List zR := x6 :: L26
noncomputable def L28 : List zR := jf :: L27
noncomputable def L29 : List zR := vP :: L28
noncomputable def L30 : List zR := Yh :: L29
noncomputable def L31 : List zR := vg :: L30
noncomputable def L32 : List zR := Xn :: L31
noncomputable def L33 : List zR := Yg :: L32
noncomputable def L34 : List zR := ZC :: L33
noncomputable def L35 : List zR := jh :: L34
noncomputable def L36 : List zR := Yf :: L35
noncomputable def L37 : List zR := Xm :: L36
noncomputable def L38 : List zR := kJ :: L37
noncomputable def L39 : List zR := wn :: L38
noncomputable def L40 : List zR := wm :: L39
noncomputable def L41 : List zR := kb :: L40
noncomputable def L42 : List zR := ZG :: L41
noncomputable def L43 : List zR := Ym :: L42
noncomputable def L44 : List zR := ZF :: L43
noncomputable def L45 : List zR := uO :: L44
noncomputable def L46 : List zR := jL :: L45
noncomputable def L47 : List zR := jM :: L46
noncomputable def L48 : List zR := Yn :: L47
noncomputable def L49 : List zR := vR :: L48
noncomputable def L50 : List zR := uQ :: L49
noncomputable def L51 : List zR := qO :: L50
noncomputable def L52 : List zR := um :: L51
noncomputable def L53 : List zR := Yl :: L52
noncomputable def L54 : List zR := kc :: L53
noncomputable def L55 : List zR := Yi :: L54
noncomputable def L56 : List zR := ji :: L55
noncomputable def L57 : List zR := wO :: L56
noncomputable def L58 : List zR := vA :: L57
noncomputable def L59 : List zR := xr :: L58
noncomputable def L60 : List zR := yM :: L59
noncomputable def L61 : List zR := uf :: L60
noncomputable def L62 : List zR := vB :: L61
noncomputable def L63 : List zR := zD :: L62
noncomputable def L64 : List zR := xu :: L63
noncomputable def L65 : List zR := wY :: L64
noncomputable def L66 : List zR := x4 :: L65
noncomputable def L67 : List zR := yx :: L66
noncomputable def L68 : List zR := vS :: L67
noncomputable def L69 : List zR := xT :: L68
noncomputable def L70 : List zR := ZH :: L69
noncomputable def L71 : List zR := Zs :: L70
noncomputable def L72 : List zR := Yk :: L71
noncomputable def L73 : List zR := uN :: L72
noncomputable def L74 : List zR := ZD :: L73
noncomputable def L75 : List zR := Yj :: L74
noncomputable def L76 : List zR := kK :: L75
noncomputable def L77 : List zR := u0 :: L76
noncomputable def L78 : List zR := ue :: L77
noncomputable def L79 : List zR := wX :: L78
theorem zeB : zq Tryz.prog L0 := ⟨fun _ hC H => z12 hC, y4 (by kernel_rfl), trivial⟩
theorem zeA : zq Tryz.prog L1 := ⟨fun _ hC H => Qs hC, y4 (by kernel_rfl), zeB⟩
theorem zez : zq Tryz.prog L2 := ⟨fun _ hC H => Qt hC (zr H 0 rfl), y4 (by kernel_rfl), zeA⟩
theorem zey : zq Tryz.prog L3 := ⟨fun _ hC H => WE hC (zr H 0 rfl), y4 (by kernel_rfl), zez⟩
theorem zex : zq Tryz.prog L4 := ⟨fun _ hC H => ui hC (zr H 0 rfl), y4 (by kernel_rfl), zey⟩
theorem zew : zq Tryz.prog L5 := ⟨fun _ hC H => vL hC (zr H 0 rfl), y4 (by kernel_rfl), zex⟩
theorem zev : zq Tryz.prog L6 := ⟨fun _ hC H => Uw hC (zr H 0 rfl), y4 (by kernel_rfl), zew⟩
theorem zeu : zq Tryz.prog L7 := ⟨fun _ hC H => ZX hC, y4 (by kernel_rfl), zev⟩
theorem zet : zq Tryz.prog L8 := ⟨fun _ hC H => kG hC (zr H 0 rfl), y4 (by kernel_rfl), zeu⟩
theorem zes : zq Tryz.prog L9 := ⟨fun _ hC H => XU hC (zr H 2 rfl) (zr H 0 rfl), y4 (by kernel_rfl), zet⟩
theorem zd3 : zq Tryz.prog L10 := ⟨fun _ hC H => Ut hC, y4 (by kernel_rfl), zes⟩
theorem zd2 : zq Tryz.prog L11 := ⟨fun _ hC H => X5 hC, y4 (by kernel_rfl), zd3⟩
theorem zd1 : zq Tryz.prog L12 := ⟨fun _ hC H => Xh hC, y4 (by kernel_rfl), zd2⟩
theorem zd0 : zq Tryz.prog L13 := ⟨fun _ hC H => KR hC (zr H 2 rfl) (zr H 1 rfl) (zr H 0 rfl), y4 (by kernel_rfl), zd1⟩
theorem zcZ : zq Tryz.prog L14 := ⟨fun _ hC H => K1 hC (zr H 7 rfl) (zr H 0 rfl), y4 (by kernel_rfl), zd0⟩
theorem zcY : zq Tryz.prog L15 := ⟨fun _ hC H => Qp hC, y4 (by kernel_rfl), zcZ⟩
theorem zcX : zq Tryz.prog L16 := ⟨fun _ hC H => Ze hC (zr H 0 rfl), y4 (by kernel_rfl), zcY⟩
theorem zcW : zq Tryz.prog L17 := ⟨fun _ hC H => jF hC (zr H 0 rfl), y4 (by kernel_rfl), zcX⟩
theorem zcV : zq Tryz.prog L18 := ⟨fun _ hC H => KQ hC (zr H 0 rfl), y4 (by kernel_rfl), zcW⟩
theorem zcU : zq Tryz.prog L19 := ⟨fun _ hC H => KT hC (zr H 0 rfl), y4 (by kernel_rfl), zcV⟩
theorem zcT : zq Tryz.prog L20 := ⟨fun _ hC H => Yc hC, y4 (by kernel_rfl), zcU⟩
theorem zcS : zq Tryz.prog L21 := ⟨fun _ hC H => Qy hC, y4 (by kernel_rfl), zcT⟩
theorem zcR : zq Tryz.prog L22 := ⟨fun _ hC H => Vj hC (zr H 0 rfl), y4 (by kernel_rfl), zcS⟩
theorem zcQ : zq Tryz.prog L23 := ⟨fun _ hC H => ZY hC (zr H 0 rfl), y4 (by kernel_rfl), zcR⟩
theorem zcP : zq Tryz.prog L24 := ⟨fun _ hC H => z13 hC, y4 (by kernel_rfl), zcQ⟩
theorem zcO : zq Tryz.prog L25 := ⟨fun _ hC H => Qo hC (zr H 2 rfl) (zr H 1 rfl) (zr H 0 rfl), y4 (by kernel_rfl), zcP⟩
theorem zcN : zq Tryz.prog L26 := ⟨fun _ hC H => Uu hC (zr H 0 rfl), y4 (by kernel_rfl), zcO⟩
theorem zcM : zq Tryz.prog L27 := ⟨fun _ hC H => jG hC (zr H 0 rfl), y4 (by kernel_rfl), zcN⟩
theorem zcL : zq Tryz.prog L28 := ⟨fun _ hC H => KS hC, y4 (by kernel_rfl), zcM⟩
theorem zcK : zq Tryz.prog L29 := ⟨fun _ hC H => K2 hC (zr H 8 rfl) (zr H 3 rfl) (zr H 1 rfl) (zr H 0 rfl) (zr H 17 rfl) (zr H 16 rfl), y4 (by kernel_rfl), zcL⟩
theorem zcJ : zq Tryz.prog L30 := ⟨fun _ hC H => z0T hC (zr H 10 rfl) (zr H 0 rfl), y4 (by kernel_rfl), zcK⟩
theorem zcI : zq Tryz.prog L31 := ⟨fun _ hC H => Qx hC (zr H 21 rfl) (zr H 16 rfl) (zr H 0 rfl), y4 (by kernel_rfl), zcJ⟩
theorem zcH : zq Tryz.prog L32 := ⟨fun _ hC H => z2j hC (zr H 2 rfl) (zr H 19 rfl), y4 (by kernel_rfl), zcI⟩
theorem zcG : zq Tryz.prog L33 := ⟨fun _ hC H => z0S hC (zr H 0 rfl), y4 (by kernel_rfl), zcH⟩
theorem zcF : zq Tryz.prog L34 := ⟨fun _ hC H => KU hC (zr H 8 rfl), y4 (by kernel_rfl), zcG⟩
theorem zcE : zq Tryz.prog L35 := ⟨fun _ hC H => KV hC (zr H 15 rfl) (zr H 0 rfl) (zr H 6 rfl), y4 (by kernel_rfl), zcF⟩
theorem zcD : zq Tryz.prog L36 := ⟨fun _ hC H => z0R hC (zr H 0 rfl), y4 (by kernel_rfl), zcE⟩
theorem zcC : zq Tryz.prog L37 := ⟨fun _ hC H => z2i hC, y4 (by kernel_rfl), zcD⟩
theorem zcB : zq Tryz.prog L38 := ⟨fun _ hC H => K3 hC (zr H 1 rfl) (zr H 25 rfl) (zr H 0 rfl) (zr H 8 rfl), y4 (by kernel_rfl), zcC⟩
theorem zcA : zq Tryz.prog L39 := ⟨fun _ hC H => Vi hC (zr H 7 rfl) (zr H 5 rfl) (zr H 0 rfl), y4 (by kernel_rfl), zcB⟩
theorem zcz : zq Tryz.prog L40 := ⟨fun _ hC H => XW hC (zr H 0 rfl), y4 (by kernel_rfl), zcA⟩
theorem zcy : zq Tryz.prog L41 := ⟨fun _ hC H => z0Z hC, y4 (by kernel_rfl), zcz⟩
theorem zcx : zq Tryz.prog L42 := ⟨fun _ hC H => KY hC (zr H 0 rfl), y4 (by kernel_rfl), zcy⟩
theorem zcw : zq Tryz.prog L43 := ⟨fun _ hC H => z0Y hC, y4 (by kernel_rfl), zcx⟩
theorem zcv : zq Tryz.prog L44 := ⟨fun _ hC H => KX hC (zr H 1 rfl) (zr H 0 rfl), y4 (by kernel_rfl), zcw⟩
theorem zcu : zq Tryz.prog L45 := ⟨fun _ hC H => K6 hC (zr H 0 rfl), y4 (by kernel_rfl), zcv⟩
theorem zct : zq Tryz.prog L46 := ⟨fun _ hC H => Qu hC (zr H 0 rfl), y4 (by kernel_rfl), zcu⟩
theorem zcs : zq Tryz.prog L47 := ⟨fun _ hC H => Qv hC, y4 (by kernel_rfl), zct⟩
theorem zcr : zq Tryz.prog L48 := ⟨fun _ hC H => z11 hC, y4 (by kernel_rfl), zcs⟩
theorem zcq : zq Tryz.prog L49 := ⟨fun _ hC H => K7 hC (zr H 42 rfl) (zr H 13 rfl), y4 (by kernel_rfl), zcr⟩
theorem zcp : zq Tryz.prog L50 := ⟨fun _ hC H => K8 hC, y4 (by kernel_rfl), zcq⟩
theorem zco : zq Tryz.prog L51 := ⟨fun _ hC H => Ux hC (zr H 1 rfl) (zr H 0 rfl), y4 (by kernel_rfl), zcp⟩
theorem zcn : zq Tryz.prog L52 := ⟨fun _ hC H => Qq hC, y4 (by kernel_rfl), zco⟩
theorem zcm : zq Tryz.prog L53 := ⟨fun _ hC H => z0X hC (zr H 0 rfl), y4 (by kernel_rfl), zcn⟩
theorem zcl : zq Tryz.prog L54 := ⟨fun _ hC H => z10 hC (zr H 0 rfl), y4 (by kernel_rfl), zcm⟩
theorem zck : zq Tryz.prog L55 := ⟨fun _ hC H => z0U hC, y4 (by kernel_rfl), zcl⟩
theorem zcj : zq Tryz.prog L56 := ⟨fun _ hC H => z00 hC (zr H 5 rfl), y4 (by kernel_rfl), zck⟩
theorem zci : zq Tryz.prog L57 := ⟨fun _ hC H => Yd hC, y4 (by kernel_rfl), zcj⟩
theorem zch : zq Tryz.prog L58 := ⟨fun _ hC H => Xi hC (zr H 0 rfl), y4 (by kernel_rfl), zci⟩
theorem zcg : zq Tryz.prog L59 := ⟨fun _ hC H => jZ hC (zr H 0 rfl), y4 (by kernel_rfl), zch⟩
theorem zcf : zq Tryz.prog L60 := ⟨fun _ hC H => qH hC (zr H 0 rfl), y4 (by kernel_rfl), zcg⟩
theorem zce : zq Tryz.prog L61 := ⟨fun _ hC H => Wh hC (zr H 0 rfl), y4 (by kernel_rfl), zcf⟩
theorem zcd : zq Tryz.prog L62 := ⟨fun _ hC H => Xj hC (zr H 12 rfl) (zr H 5 rfl) (zr H 0 rfl), y4 (by kernel_rfl), zce⟩
theorem zcc : zq Tryz.prog L63 := ⟨fun _ hC H => jr hC, y4 (by kernel_rfl), zcd⟩
theorem zcb : zq Tryz.prog L64 := ⟨fun _ hC H => k9 hC (zr H 0 rfl), y4 (by kernel_rfl), zcc⟩
theorem zca : zq Tryz.prog L65 := ⟨fun _ hC H => X9 hC (zr H 0 rfl), y4 (by kernel_rfl), zcb⟩
theorem zc9 : zq Tryz.prog L66 := ⟨fun _ hC H => jE hC (zr H 0 rfl), y4 (by kernel_rfl), zca⟩
theorem zc8 : zq Tryz.prog L67 := ⟨fun _ hC H => qr hC (zr H 0 rfl), y4 (by kernel_rfl), zc9⟩
theorem zc7 : zq Tryz.prog L68 := ⟨fun _ hC H => XV hC (zr H 0 rfl), y4 (by kernel_rfl), zc8⟩
theorem zc6 : zq Tryz.prog L69 := ⟨fun _ hC H => Zf hC (zr H 19 rfl) (zr H 12 rfl) (zr H 0 rfl), y4 (by kernel_rfl), zc7⟩
theorem zc5 : zq Tryz.prog L70 := ⟨fun _ hC H => KZ hC (zr H 22 rfl) (zr H 21 rfl) (zr H 38 rfl) (zr H 29 rfl) (zr H 30 rfl) (zr H 18 rfl) (zr H 15 rfl) (zr H 14 rfl) (zr H 7 rfl) (zr H 0 rfl), y4 (by kernel_rfl), zc6⟩
theorem zc4 : zq Tryz.prog L71 := ⟨fun _ hC H => z2k hC (zr H 18 rfl), y4 (by kernel_rfl), zc5⟩
theorem zc3 : zq Tryz.prog L72 := ⟨fun _ hC H => z0W hC (zr H 0 rfl), y4 (by kernel_rfl), zc4⟩
theorem zc2 : zq Tryz.prog L73 := ⟨fun _ hC H => K4 hC (zr H 27 rfl) (zr H 0 rfl), y4 (by kernel_rfl), zc3⟩
theorem zc1 : zq Tryz.prog L74 := ⟨fun _ hC H => KW hC, y4 (by kernel_rfl), zc2⟩
theorem zc0 : zq Tryz.prog L75 := ⟨fun _ hC H => z0V hC (zr H 0 rfl), y4 (by kernel_rfl), zc1⟩
theorem zbZ : zq Tryz.prog L76 := ⟨fun _ hC H => K5 hC (zr H 4 rfl), y4 (by kernel_rfl), zc0⟩
theorem zbY : zq Tryz.prog L77 := ⟨fun _ hC H => Uv hC (zr H 3 rfl) (zr H 1 rfl) (zr H 0 rfl), y4 (by kernel_rfl), zbZ⟩
theorem zbX : zq Tryz.prog L78 := ⟨fun _ hC H => Wg hC (zr H 0 rfl), y4 (by kernel_rfl), zbY⟩
theorem zbW : zq Tryz.prog L79 := ⟨fun _ hC H => X7 hC (zr H 78 rfl) (zr H 47 rfl) (zr H 38 rfl) (zr H 39 rfl) (zr H 32 rfl) (zr H 8 rfl) (zr H 5 rfl) (zr H 24 rfl) (zr H 0 rfl) (zr H 1 rfl), y4 (by kernel_rfl), zbX⟩
end Go.Own

namespace Go.Own
theorem y9 {x : Int} (h1 : -9223372036854775808 ≤ x) (h2 : x ≤ 9223372036854775807) : w64 x = x := by
 simp only [w64, IntKind.wrap, IntKind.bits, IntKind.signed]
 simp
 omega
section
variable {α β σ τ ρ : Type}
def Ret (x : Option α) (Q : α → Prop) : Prop := ∃ a, x = some a ∧ Q a
theorem Ret.mono {x : Option α} {Q R : α → Prop} (h : Ret x Q) (q : ∀ a, Q a → R a) : Ret x R := by
 obtain ⟨a, e, h⟩ := h
 exact ⟨a, e, q a h⟩
theorem Ret.eq {x : Option α} {a : α} (h : Ret x fun b => b = a) : x = some a := by
 obtain ⟨b, e, rfl⟩ := h
 exact e
theorem zt {a : α} {Q : α → Prop} : Ret (some a) Q ↔ Q a := ⟨fun ⟨b, e, q⟩ => by cases e; exact q, fun q => ⟨a, rfl, q⟩⟩
theorem w7 {x : Option α} {f : α → Option β} {Q : β → Prop} : Ret (Option.bind x f) Q ↔ Ret x fun a => Ret (f a) Q := by
 cases x with
 | none => exact ⟨fun ⟨b, e, _⟩ => (by cases e), fun ⟨b, e, _⟩ => (by cases e)⟩
 | some a => exact ⟨fun h => ⟨a, rfl, h⟩, fun ⟨b, e, h⟩ => by cases e; exact h⟩
theorem z3h {p : Prop} [Decidable p] {x : Option α} {Q : α → Prop} : Ret (gd p x) Q ↔ p ∧ Ret x Q := by
 unfold gd
 by_cases h : p
 ·rw [if_pos h]; exact ⟨fun q => ⟨h, q⟩, fun q => q.2⟩
 ·rw [if_neg h]; exact ⟨fun ⟨b, e, _⟩ => by (cases e), fun q => (h q.1).elim⟩
theorem wB {c : Bool} {x y : Option α} {Q : α → Prop} : Ret (bif c then x else y) Q ↔ (c = true → Ret x Q) ∧ (c = false → Ret y Q) := by
 cases c <;> simp
theorem z9n {l : List α} {i : Int} {Q : α → Prop} : Ret (idx l i) Q ↔ 0 ≤ i ∧ ∃ x, l[i.toNat]? = some x ∧ Q x := by
 cases i with
 | ofNat n =>
  show (∃ a, l[n]? = some a ∧ Q a) ↔ _
  simp
 | negSucc n => exact ⟨fun ⟨b, e, _⟩ => by (cases e), fun ⟨h, _⟩ => by omega⟩
theorem qW (l : List α) (i : Nat) : idx l (i : Int) = l[i]? := rfl
theorem gdT {p : Prop} [Decidable p] {x : Option α} (h : p) : gd p x = x := by unfold gd; rw [if_pos h]
theorem bdT {x : Option α} {u : α} {f : α → Option ρ} (h : x = some u) : Option.bind x f = f u := by rw [h]; rfl
theorem kD (step : σ → Option (LR σ τ)) (n : Nat) (s : σ) : XY step (n + 1) s = (match step s with | none => none | some (.next s') => XY step n s' | some (.done t) => some t) := rfl
def LRP (N : σ → Prop) (D : τ → Prop) : LR σ τ → Prop
 | .next s => N s
 | .done t => D t
theorem u4 {step : σ → Option (LR σ τ)} (I : σ → Prop) (m : σ → Nat) {R : τ → Prop} {s : σ} (hs : I s) (hm : m s < 18446744073709551616)
  (h : ∀ s, I s → Ret (step s) (LRP (fun s' => I s' ∧ m s' < m s) R)) : Ret (loop step s) R := by
 have gen : ∀ (n : Nat) (s : σ), I s → m s < n → Ret (XY step n s) R := by
  intro n
  induction n with
  | zero => intro s _ h; omega
  | succ n ih =>
   intro s hs hm
   obtain ⟨a, e, q⟩ := h s hs
   rw [kD, e]
   cases a with
   | next s' => exact ih s' q.1 (by have := q.2; omega)
   | done t => exact ⟨t, rfl, q⟩
 exact gen YF s hs hm
theorem up {step : σ → Option (LR σ τ)} (st : Nat → σ) (n : Nat) {t : τ} (hn : n < 9223372036854775808) (h : ∀ i, i < n → step (st i) = some (.next (st (i + 1)))) (hd : step (st n) = some (.done t)) : loop step (st 0) = some t := by
 have gen : ∀ (k : Nat) (i : Nat), i ≤ n → n - i < k → XY step k (st i) = some t := by
  intro k
  induction k with
  | zero => intro i _ h; omega
  | succ k ih =>
   intro i hi hk
   rw [kD]
   rcases Nat.lt_or_ge i n with q | q
   ·rw [h i q]
    exact ih (i + 1) q (by omega)
   ·have : i = n := by omega
    subst this
    rw [hd]
 exact gen YF 0 (Nat.zero_le _) (by show n - 0 < 18446744073709551616; omega)
def yp (f : Nat → α → Option ρ) : List α → Nat → Option ρ
 | [], _ => none
 | x :: l, i => match f i x with | some r => some r | none => yp f l (i + 1)
theorem Wr {f : Nat → α → Option ρ} : ∀ {l : List α} {k : Nat}, (∀ i x, l[i]? = some x → f (k + i) x = none) → yp f l k = none
 | [], _, _ => rfl
 | x :: l, k, h => by
  have h0 := h 0 x rfl
  simp only [Nat.add_zero] at h0
  simp only [yp, h0]
  exact Wr fun i y hy => by have := h (i + 1) y (by simpa using hy); rwa [show k + 1 + i = k + (i + 1) by omega]
theorem qY {f : Nat → α → Option ρ} {r : ρ} : ∀ {l : List α} {k : Nat}, yp f l k = some r → ∃ i x, l[i]? = some x ∧ f (k + i) x = some r
 | [], _, h => by cases h
 | x :: l, k, h => by
  simp only [yp] at h
  cases hf : f k x with
  | some r' => rw [hf] at h; exact ⟨0, x, rfl, by rw [Nat.add_zero, hf]; exact h⟩
  | none =>
   rw [hf] at h
   obtain ⟨i, y, h1, h2⟩ := qY h
   exact ⟨i + 1, y, by simpa using h1, by rw [← h2]; congr 1; omega⟩
theorem ko {f : Nat → α → Option ρ} {l : List α} {k : Nat} (h : yp f l k = none) : ∀ i x, l[i]? = some x → f (k + i) x = none := by
 induction l generalizing k with
 | nil => intro i x h; simp at h
 | cons y l ih =>
  intro i x hx
  simp only [yp] at h
  cases hf : f k y with
  | some r' => rw [hf] at h; cases h
  | none =>
   rw [hf] at h
   cases i with
   | zero => simp at hx; subst hx; simpa using hf
   | succ i => have := ih h i x (by simpa using hx); rwa [show k + (i + 1) = k + 1 + i by omega]
def oS : Option ρ → Unit ⊕ ρ
 | some r => .inr r
 | none => .inl ()
def nS (i : Nat) : Option ρ → LR Int (Unit ⊕ ρ)
 | some r => .done (.inr r)
 | none => .next (w64 ((i : Int) + 1))
theorem ul (l : List α) (hl : l.length < 4611686018427387904) {step : Int → Option (LR Int (Unit ⊕ ρ))} (f : Nat → α → Option ρ)
  (h : ∀ (i : Nat) (x : α), l[i]? = some x → step (i : Int) = some (nS i (f i x))) (h2 : step (l.length : Int) = some (.done (.inl ()))) :
  loop step 0 = some (oS (yp f l 0)) := by
 have gen : ∀ (n : Nat) (k : Nat), k ≤ l.length → l.length - k < n → XY step n (k : Int) = some (oS (yp f (l.drop k) k)) := by
  intro n
  induction n with
  | zero => intro k _ h; omega
  | succ n ih =>
   intro k hk hn
   rw [kD]
   rcases Nat.lt_or_ge k l.length with hlt | hge
   ·have hx : l[k]? = some l[k] := List.getElem?_eq_getElem hlt
    rw [h k _ hx, List.drop_eq_getElem_cons hlt]
    simp only [yp]
    cases hf : f k l[k] with
    | some r => rfl
    | none =>
     simp only [nS]
     rw [y9 (by omega) (by omega)]
     exact ih (k + 1) hlt (by omega)
   ·have : k = l.length := by omega
    subst this
    rw [h2, List.drop_length]
    rfl
 exact gen YF 0 (Nat.zero_le _) (by show l.length - 0 < 18446744073709551616; omega)
end
end Go.Own

namespace Go.Own
def z2L (m : z7) (x : z8) : Bool := (x.To == -1 && x.Out == -1) || (decide (0 ≤ x.To) && decide (x.To < (m.Rows.length : Int)) && decide (0 ≤ x.Out) && decide (x.Out < m.Outputs))
def z44 (m : z7) (r : List z8) : Bool := decide ((r.length : Int) = m.Inputs) && r.all (z2L m)
def chk (m : z7) : Int :=
 if m.Inputs > 16 ∨ m.Outputs > 16 ∨ (m.Rows.length : Int) > 64 then 3 else if m.Inputs < 1 ∨ m.Outputs < 1 ∨ m.Rows.length = 0 then 1 else if m.Rows.all (z44 m) = true then 0 else 1
theorem z9I (m : z7) (x : z8) : uX m x = some (z2L m x) := by
 unfold uX ki
 simp only [Option.bind_some, Bool.and_true]
 rcases Bool.eq_false_or_eq_true (x.To == (-1) && x.Out == (-1)) with h | h
 ·simp [z2L, h]
 ·rw [h]
  simp only [z2L, h, Bool.false_or, cond_false]
  by_cases h1 : (0 : Int) ≤ x.To
  ·by_cases h2 : x.To < (m.Rows.length : Int)
   ·by_cases h3 : (0 : Int) ≤ x.Out
    ·simp [Bool.cond_eq_ite, h1, h2, h3]
    ·simp [Bool.cond_eq_ite, h1, h2, h3]
   ·simp [Bool.cond_eq_ite, h1, h2]
  ·simp [h1]
theorem z2Q (m : z7) (r : List z8) (hl : r.length < 4611686018427387904) : zL r m = some (!r.all (z2L m)) := by
 have hloop : loop (fun s => zB r m s) 0 = some (oS (yp (fun i x => if z2L m x = true then none else some (i : Int)) r 0)) := by
  refine ul r hl _ ?_ ?_
  ·intro i x hx
   have hi := (List.getElem?_eq_some_iff.1 hx).1
   unfold zB
   have hd : decide ((i : Int) < ((r.length : Nat) : Int)) = true := by simpa using hi
   rw [hd, cond_true, qW, bdT hx]
   unfold uo
   simp only [z9I, Option.bind_some]
   cases z2L m x <;> rfl
  ·unfold zB
   simp
 unfold zL y6
 rw [hloop]
 simp only [Option.bind_some]
 cases hf : yp (fun i x => if z2L m x = true then none else some (i : Int)) r 0 with
 | some q =>
  obtain ⟨i, x, h1, h2⟩ := qY hf
  have hx : z2L m x ≠ true := by
   intro h; rw [if_pos h] at h2; cases h2
  rw [if_neg hx] at h2
  simp only [Option.some.injEq] at h2
  have : r.all (z2L m) = false := by
   rw [List.all_eq_false]
   exact ⟨x, List.mem_of_getElem? h1, hx⟩
  rw [this]
  have : (q : Int) ≥ 0 := by rw [← h2]; omega
  show some (decide (q ≥ 0)) = _
  simp [this]
 | none =>
  have : r.all (z2L m) = true := by
   rw [List.all_eq_true]
   intro x hx
   obtain ⟨i, hi⟩ := List.getElem?_of_mem hx
   have := ko hf i x hi
   by_cases h : z2L m x = true
   ·exact h
   ·rw [if_neg h] at this; cases this
  rw [this]
  rfl
theorem z4h {m : z7} (h0 : (m.Rows.length : Int) ≤ 64) (h1 : m.Inputs ≤ 16) : loop (fun s => xM m s) 0 = some (oS (yp (fun _ r => if z44 m r = true then none else some (1 : Int)) m.Rows 0)) := by
 refine ul m.Rows (by omega) _ ?_ ?_
 ·intro i r hr
  have hi := (List.getElem?_eq_some_iff.1 hr).1
  unfold xM
  have hd : decide ((i : Int) < ((m.Rows.length : Nat) : Int)) = true := by simpa using hi
  rw [hd, cond_true, qW, bdT hr]
  by_cases hlen : (r.length : Int) = m.Inputs
  ·have hne : (((r.length : Nat) : Int) != m.Inputs) = false := by simpa using hlen
   rw [hne, cond_false, bdT (z2Q m r (by omega))]
   have : z44 m r = r.all (z2L m) := by simp [z44, hlen]
   rw [this]
   cases r.all (z2L m) <;> rfl
  ·have hne : (((r.length : Nat) : Int) != m.Inputs) = true := by simpa using hlen
   rw [hne, cond_true]
   have : z44 m r = false := by simp [z44, hlen]
   rw [this]; rfl
 ·unfold xM
  simp
theorem z43 (m : z7) : yp (fun _ r => if z44 m r = true then none else some (1 : Int)) m.Rows 0 = if m.Rows.all (z44 m) = true then none else some 1 := by
 by_cases h : m.Rows.all (z44 m) = true
 ·rw [if_pos h]
  refine Wr fun i r hr => ?_
  rw [if_pos (List.all_eq_true.1 h r (List.mem_of_getElem? hr))]
 ·rw [if_neg h]
  cases hf : yp (fun _ r => if z44 m r = true then none else some (1 : Int)) m.Rows 0 with
  | some q =>
   obtain ⟨i, x, h1, h2⟩ := qY hf
   split at h2
   ·cases h2
   ·exact h2.symm ▸ rfl
  | none =>
   exfalso
   apply h
   rw [List.all_eq_true]
   intro x hx
   obtain ⟨i, hi⟩ := List.getElem?_of_mem hx
   have := ko hf i x hi
   by_cases h : z44 m x = true
   ·exact h
   ·rw [if_neg h] at this; cases this
theorem z3P (m : z7) : wD m = some (chk m) := by
 unfold wD chk
 by_cases h1 : m.Inputs > 16
 ·simp [h1]
 by_cases h2 : m.Outputs > 16
 ·simp [Bool.cond_eq_ite, h1, h2]
 by_cases h3 : (m.Rows.length : Int) > 64
 ·simp [Bool.cond_eq_ite, h1, h2, h3]
 rw [if_neg (by simp [Bool.cond_eq_ite, h1, h2, h3])]
 by_cases h4 : m.Inputs < 1
 ·simp [Bool.cond_eq_ite, h1, h2, h3, h4]
 by_cases h5 : m.Outputs < 1
 ·simp [Bool.cond_eq_ite, h1, h2, h3, h4, h5]
 by_cases h6 : m.Rows.length = 0
 ·simp [Bool.cond_eq_ite, h1, h2, h4, h5, h6]
 rw [if_neg (by simp [h4, h5, h6])]
 have h6' : decide (((m.Rows.length : Nat) : Int) < 1) = false := by simp; omega
 have e1 : decide (m.Inputs > 16) = false := by simpa using h1
 have e2 : decide (m.Outputs > 16) = false := by simpa using h2
 have e3 : decide (((m.Rows.length : Nat) : Int) > 64) = false := by simpa using h3
 have e4 : decide (m.Inputs < 1) = false := by simpa using h4
 have e5 : decide (m.Outputs < 1) = false := by simpa using h5
 simp only [e1, e2, e3, e4, e5, h6', cond_false]
 rw [bdT (z4h (by omega) (by omega)), z43]
 by_cases h : m.Rows.all (z44 m) = true
 ·rw [if_pos h, if_pos h]; rfl
 ·rw [if_neg h, if_neg h]; rfl
end Go.Own

namespace Go.Own
structure VM (m : z7) : Prop where
 in1 : 1 ≤ m.Inputs
 in16 : m.Inputs ≤ 16
 out1 : 1 ≤ m.Outputs
 out16 : m.Outputs ≤ 16
 len1 : 1 ≤ m.Rows.length
 len64 : m.Rows.length ≤ 64
 row : ∀ r ∈ m.Rows, (r.length : Int) = m.Inputs
 edge : ∀ r ∈ m.Rows, ∀ x ∈ r, (x.To = -1 ∧ x.Out = -1) ∨ (0 ≤ x.To ∧ x.To < (m.Rows.length : Int) ∧ 0 ≤ x.Out ∧ x.Out < m.Outputs)
theorem z8v {m : z7} (h : VM m) : chk m = 0 := by
 unfold chk
 have := h.in1; have := h.in16; have := h.out1; have := h.out16; have := h.len1; have := h.len64
 rw [if_neg (by omega), if_neg (by omega), if_pos]
 rw [List.all_eq_true]
 intro r hr
 simp only [z44, Bool.and_eq_true, decide_eq_true_eq, List.all_eq_true]
 refine ⟨h.row r hr, fun x hx => ?_⟩
 simp only [z2L, Bool.or_eq_true, Bool.and_eq_true, beq_iff_eq, decide_eq_true_eq]
 rcases h.edge r hr x hx with ⟨a, b⟩ | ⟨a, b, c, d⟩
 ·exact .inl ⟨a, b⟩
 ·exact .inr ⟨⟨⟨a, b⟩, c⟩, d⟩
def kk (m : z7) : Nat := m.Inputs.toNat
def E (m : z7) (s i : Nat) : z8 := ((m.Rows[s]?.getD [])[i]?).getD ⟨-1, -1⟩
section
variable {m : z7} (h : VM m)
include h
theorem VM.kk_eq : ((kk m : Nat) : Int) = m.Inputs := by have := h.in1; unfold kk; omega
theorem VM.kk_pos : 1 ≤ kk m := by have := h.in1; unfold kk; omega
theorem VM.kk_le : kk m ≤ 16 := by have := h.in16; unfold kk; omega
theorem VM.rowAt {s : Nat} (hs : s < m.Rows.length) : ∃ r, m.Rows[s]? = some r ∧ r.length = kk m ∧ ∀ i, i < kk m → r[i]? = some (E m s i) := by
 have hr := List.getElem?_eq_getElem hs
 have hl := h.row _ (List.getElem_mem hs)
 have hl' : m.Rows[s].length = kk m := by unfold kk; omega
 refine ⟨_, hr, hl', fun i hi => ?_⟩
 have hi' : i < m.Rows[s].length := by omega
 unfold E
 rw [hr]
 simp only [Option.getD_some]
 rw [List.getElem?_eq_getElem hi']
 rfl
theorem VM.edgeAt {s i : Nat} (hs : s < m.Rows.length) (hi : i < kk m) : ((E m s i).To = -1 ∧ (E m s i).Out = -1) ∨ (0 ≤ (E m s i).To ∧ (E m s i).To < (m.Rows.length : Int) ∧ 0 ≤ (E m s i).Out ∧ (E m s i).Out < m.Outputs) := by
 obtain ⟨r, h1, _, h2⟩ := h.rowAt hs
 exact h.edge r (List.mem_of_getElem? h1) _ (List.mem_of_getElem? (h2 i hi))
theorem VM.edge_eq {s i : Nat} (hs : s < m.Rows.length) (hi : i < kk m) {β : Type} {f : z8 → Option β} :
  (Option.bind (idx m.Rows (s : Int)) fun r => Option.bind (idx r (i : Int)) f) = f (E m s i) := by
 obtain ⟨r, h1, _, h2⟩ := h.rowAt hs
 rw [qW, h1, Option.bind_some, qW, h2 i hi, Option.bind_some]
end
end Go.Own

namespace Go.Own
section
variable {S : Type}
def rv (k : Nat) : List Nat → Nat
 | [] => 0
 | i :: u => rv k u * k + i + 1
def z4l (k : Nat) (bad : S → Nat → Bool) (nx : S → Nat → Option S) (p0 : S) : List Nat → S → Prop
 | [], q => q = p0
 | i :: u, q => ∃ p, z4l k bad nx p0 u p ∧ i < k ∧ bad p i = false ∧ nx p i = some q
def ze5 (k : Nat) (bad : S → Nat → Bool) (nx : S → Nat → Option S) (p0 : S) : List Nat → Prop
 | [] => False
 | i :: u => ∃ p, z4l k bad nx p0 u p ∧ i < k ∧ bad p i = true
structure Bfs (k : Nat) (bad : S → Nat → Bool) (nx : S → Nat → Option S) (p0 : S) (L : List (S × List Nat)) (at_ i : Nat) : Prop where
 first : L[0]? = some (p0, [])
 mono : ∀ (j j' : Nat) (a b : S × List Nat), j < j' → L[j]? = some a → L[j']? = some b → rv k a.2 < rv k b.2
 path : ∀ a ∈ L, z4l k bad nx p0 a.2 a.1
 ahead : ∀ a c, L[at_]? = some c → a ∈ L → rv k a.2 < rv k c.2 * k + i + 1
 pos : i ≤ k
 lies : at_ ≤ L.length
 fin : at_ = L.length → i = 0
 short : ∀ (j : Nat) (a : S × List Nat), L[j]? = some a → a.2.length ≤ j
 seen : ∀ (j x : Nat) (a : S × List Nat), L[j]? = some a → x < k → (j < at_ ∨ j = at_ ∧ x < i) → bad a.1 x = false ∧ ∀ q, nx a.1 x = some q → ∃ b ∈ L, b.1 = q ∧ rv k b.2 ≤ rv k a.2 * k + x + 1
variable {k : Nat} {bad : S → Nat → Bool} {nx : S → Nat → Option S} {p0 : S}
theorem Bfs.start : Bfs k bad nx p0 [(p0, [])] 0 0 := {
 first := rfl
 mono := by
  intro j j' a b h h1 h2
  have := (List.getElem?_eq_some_iff.1 h2).1
  simp at this
  omega
 path := by intro a ha; simp at ha; subst ha; rfl
 ahead := by intro a c _ ha; simp at ha; subst ha; simp [rv]
 pos := Nat.zero_le _
 lies := by simp
 fin := by intro; rfl
 short := by
  intro j a h
  have := (List.getElem?_eq_some_iff.1 h).1
  simp at this
  subst this
  simp at h
  subst h
  simp
 seen := by rintro j x a h _ (q | ⟨_, q⟩) <;> omega }
theorem Bfs.old {L : List (S × List Nat)} {a i : Nat} (h : Bfs k bad nx p0 L a i) {c : S × List Nat} (hc : L[a]? = some c) (hi : i < k) (hb : bad c.1 i = false)
  (hn : ∀ q, nx c.1 i = some q → ∃ b ∈ L, b.1 = q) : Bfs k bad nx p0 L a (i + 1) := {
 first := h.first
 mono := h.mono
 path := h.path
 ahead := fun x y hy hx => by have := h.ahead x y hy hx; omega
 pos := hi
 lies := h.lies
 fin := fun e => by have := (List.getElem?_eq_some_iff.1 hc).1; omega
 short := h.short
 seen := by
  intro j x y hy hx q
  by_cases e : j = a ∧ x = i
  ·obtain ⟨rfl, rfl⟩ := e
   rw [hc] at hy
   cases hy
   refine ⟨hb, fun q hq => ?_⟩
   obtain ⟨b, h1, h2⟩ := hn q hq
   exact ⟨b, h1, h2, by have := h.ahead b c hc h1; omega⟩
  ·exact h.seen j x y hy hx (by omega) }
theorem Bfs.new {L : List (S × List Nat)} {a i : Nat} (h : Bfs k bad nx p0 L a i) {c : S × List Nat} (hc : L[a]? = some c) (hi : i < k) (hb : bad c.1 i = false) {q : S}
  (hn : nx c.1 i = some q) : Bfs k bad nx p0 (L ++ [(q, i :: c.2)]) a (i + 1) := by
 have hlt := (List.getElem?_eq_some_iff.1 hc).1
 refine ⟨?_, ?_, ?_, ?_, hi, by simp; omega, fun e => by simp at e; omega, ?_, ?_⟩
 ·rw [List.getElem?_append_left (by omega)]; exact h.first
 ·intro j j' x y hj h1 h2
  have hl := (List.getElem?_eq_some_iff.1 h2).1
  simp at hl
  rw [List.getElem?_append_left (by omega)] at h1
  rcases Nat.lt_or_ge j' L.length with g | g
  ·rw [List.getElem?_append_left g] at h2
   exact h.mono j j' x y hj h1 h2
  ·have : j' = L.length := by omega
   subst this
   simp at h2
   subst h2
   exact h.ahead x c hc (List.mem_of_getElem? h1)
 ·intro x hx
  rcases List.mem_append.1 hx with g | g
  ·exact h.path x g
  ·simp at g
   subst g
   exact ⟨c.1, h.path c (List.mem_of_getElem? hc), hi, hb, hn⟩
 ·intro x y hy hx
  rw [List.getElem?_append_left hlt] at hy
  rcases List.mem_append.1 hx with g | g
  ·have := h.ahead x y hy g; omega
  ·simp at g
   subst g
   rw [hc] at hy
   cases hy
   simp [rv]
 ·intro j y hy
  rcases Nat.lt_or_ge j L.length with g | g
  ·rw [List.getElem?_append_left g] at hy
   exact h.short j y hy
  ·have hl := (List.getElem?_eq_some_iff.1 hy).1
   simp at hl
   have : j = L.length := by omega
   subst this
   simp at hy
   subst hy
   have := h.short a c hc
   simp
   omega
 ·intro j x y hy hx g
  rw [List.getElem?_append_left (by omega)] at hy
  by_cases e : j = a ∧ x = i
  ·obtain ⟨rfl, rfl⟩ := e
   rw [hc] at hy
   cases hy
   refine ⟨hb, fun q' hq => ?_⟩
   rw [hn] at hq
   cases hq
   exact ⟨(q, x :: c.2), by simp, rfl, Nat.le_refl _⟩
  ·obtain ⟨h1, h2⟩ := h.seen j x y hy hx (by omega)
   refine ⟨h1, fun q' hq => ?_⟩
   obtain ⟨b, g1, g2⟩ := h2 q' hq
   exact ⟨b, List.mem_append_left _ g1, g2⟩
theorem Bfs.step {L : List (S × List Nat)} {a : Nat} (h : Bfs k bad nx p0 L a k) (ha : a < L.length) : Bfs k bad nx p0 L (a + 1) 0 := {
 first := h.first
 mono := h.mono
 path := h.path
 ahead := by
  intro x c hc hx
  have h1 := h.ahead x _ (List.getElem?_eq_getElem ha) hx
  have h2 := h.mono a (a + 1) _ _ (by omega) (List.getElem?_eq_getElem ha) hc
  have h3 : (rv k L[a].2 + 1) * k ≤ rv k c.2 * k := Nat.mul_le_mul_right _ h2
  rw [Nat.succ_mul] at h3
  omega
 pos := Nat.zero_le _
 lies := ha
 fin := fun _ => rfl
 short := h.short
 seen := fun j x b hb hx g => h.seen j x b hb hx (by rcases g with g | ⟨_, g⟩ <;> omega) }
theorem Bfs.reach {L : List (S × List Nat)} {a i : Nat} (h : Bfs k bad nx p0 L a i) : ∀ (u : List Nat) (q : S), z4l k bad nx p0 u q → (∀ c, L[a]? = some c → rv k u < rv k c.2 * k + i + 1) → ∃ (j : Nat) (b : S × List Nat), L[j]? = some b ∧ b.1 = q ∧ rv k b.2 ≤ rv k u
 | [], q, hp, _ => ⟨0, _, h.first, hp.symm, Nat.zero_le _⟩
 | x :: u, q, ⟨p, hp, hx, hb, hn⟩, hlt => by
  have hk : rv k u ≤ rv k u * k := Nat.le_mul_of_pos_right _ (by omega)
  obtain ⟨j, b, hj, rfl, hr⟩ := h.reach u p hp fun c hc => by have := hlt c hc; simp only [rv] at this; omega
  have hmul : rv k b.2 * k ≤ rv k u * k := Nat.mul_le_mul_right _ hr
  have hjl := (List.getElem?_eq_some_iff.1 hj).1
  have hpos : j < a ∨ j = a ∧ x < i := by
   rcases Nat.lt_trichotomy j a with g | g | g
   ·exact .inl g
   ·subst g
    refine .inr ⟨rfl, ?_⟩
    have := hlt b hj
    simp only [rv] at this
    omega
   ·exfalso
    have hal : a < L.length := by omega
    have h1 := hlt _ (List.getElem?_eq_getElem hal)
    have h2 := h.mono a j _ _ g (List.getElem?_eq_getElem hal) hj
    have h3 : (rv k L[a].2 + 1) * k ≤ rv k b.2 * k := Nat.mul_le_mul_right _ h2
    rw [Nat.succ_mul] at h3
    have := h.pos
    simp only [rv] at h1
    omega
  obtain ⟨_, h2⟩ := h.seen j x b hj hx hpos
  obtain ⟨c, g1, g2, g3⟩ := h2 q hn
  obtain ⟨j', g4⟩ := List.getElem?_of_mem g1
  exact ⟨j', c, g4, g2, by simp only [rv]; omega⟩
theorem Bfs.least {L : List (S × List Nat)} {a i : Nat} (h : Bfs k bad nx p0 L a i) {w : List Nat} (hw : ze5 k bad nx p0 w) (hlt : ∀ c, L[a]? = some c → rv k w < rv k c.2 * k + i + 1) : False := by
 cases w with
 | nil => exact hw
 | cons x u =>
  obtain ⟨p, hp, hx, hb⟩ := hw
  have hk : rv k u ≤ rv k u * k := Nat.le_mul_of_pos_right _ (by omega)
  obtain ⟨j, b, hj, rfl, hr⟩ := h.reach u p hp fun c hc => by have := hlt c hc; simp only [rv] at this; omega
  have hmul : rv k b.2 * k ≤ rv k u * k := Nat.mul_le_mul_right _ hr
  have hjl := (List.getElem?_eq_some_iff.1 hj).1
  have hpos : j < a ∨ j = a ∧ x < i := by
   rcases Nat.lt_trichotomy j a with g | g | g
   ·exact .inl g
   ·subst g
    refine .inr ⟨rfl, ?_⟩
    have := hlt b hj
    simp only [rv] at this
    omega
   ·exfalso
    have hal : a < L.length := by omega
    have h1 := hlt _ (List.getElem?_eq_getElem hal)
    have h2 := h.mono a j _ _ g (List.getElem?_eq_getElem hal) hj
    have h3 : (rv k L[a].2 + 1) * k ≤ rv k b.2 * k := Nat.mul_le_mul_right _ h2
    rw [Nat.succ_mul] at h3
    have := h.pos
    simp only [rv] at h1
    omega
  have := (h.seen j x b hj hx hpos).1
  rw [this] at hb
  cases hb
def Mk (k : Nat) (bad : S → Nat → Bool) (nx : S → Nat → Option S) : Nat → S → Prop
 | 0, _ => False
 | n + 1, p => Mk k bad nx n p ∨ ∃ i, i < k ∧ (bad p i = true ∨ ∃ q, nx p i = some q ∧ Mk k bad nx n q)
theorem Mk.mono {n m : Nat} {p : S} (h : Mk k bad nx n p) (hm : n ≤ m) : Mk k bad nx m p := by
 induction hm with
 | refl => exact h
 | step _ ih => exact .inl ih
end
end Go.Own

namespace Go.Own
theorem YD : ∀ (n : Nat) (l : List Nat), l.Nodup → (∀ x ∈ l, x < n) → l.length ≤ n
 | 0, l, _, h => by
  cases l with
  | nil => simp
  | cons x l => have := h x (by simp); omega
 | n + 1, l, hd, h => by
  by_cases hm : n ∈ l
  ·have h1 := List.length_erase_of_mem hm
   have h2 := YD n (l.erase n) (hd.erase n) fun x hx => by
    have h3 := (hd.mem_erase_iff).1 hx
    have := h x h3.2
    have := h3.1
    omega
   have : 0 < l.length := List.length_pos_of_mem hm
   omega
  ·have := YD n l hd fun x hx => by
    have := h x hx
    have : x ≠ n := fun e => hm (e ▸ hx)
    omega
   omega
abbrev LL := List ((Nat × Nat) × List Nat)
def zbT (a b : z7) (L : LL) : Prop := (L.map (·.1)).Nodup ∧ ∀ x ∈ L, x.1.1 < a.Rows.length ∧ x.1.2 < b.Rows.length
theorem zbT.length {a b : z7} {L : LL} (h : zbT a b L) (ha : a.Rows.length ≤ 64) (hb : b.Rows.length ≤ 64) : L.length ≤ 4096 := by
 have := YD 4096 (L.map fun x => x.1.1 * 64 + x.1.2) ?_ ?_
 ·simpa using this
 ·have : (L.map fun x => x.1.1 * 64 + x.1.2) = (L.map (·.1)).map fun q => q.1 * 64 + q.2 := by rw [List.map_map]; rfl
  rw [this]
  refine List.Pairwise.map _ ?_ (List.Pairwise.and_mem.1 h.1)
  rintro p q ⟨hp, hq, hne⟩ e
  apply hne
  obtain ⟨x, hx, rfl⟩ := List.mem_map.1 hp
  obtain ⟨y, hy, rfl⟩ := List.mem_map.1 hq
  have := h.2 x hx
  have := h.2 y hy
  obtain ⟨⟨p1, p2⟩, _⟩ := x
  obtain ⟨⟨q1, q2⟩, _⟩ := y
  simp only at *
  simp only [Prod.mk.injEq]
  omega
 ·intro x hx
  obtain ⟨y, hy, rfl⟩ := List.mem_map.1 hx
  have := h.2 y hy
  omega
end Go.Own

namespace Go.Own
theorem z2B {a k : Int} (h0 : 0 ≤ a) (hk : 1 ≤ k) (hk2 : k ≤ 1000000) : 1 ≤ w64 (1 + w64 (Int.tmod a k)) ∧ w64 (1 + w64 (Int.tmod a k)) ≤ k := by
 have h1 := Int.tmod_nonneg k h0
 have h2 := Int.tmod_lt_of_pos a (show 0 < k by omega)
 rw [y9 (x := Int.tmod a k) (by omega) (by omega), y9 (by omega) (by omega)]
 omega
structure MOk (x : zY) : Prop where
 s0 : 0 ≤ x.States
 i0 : 0 ≤ x.Inputs
 o0 : 0 ≤ x.Outputs
 e0 : ∀ v ∈ x.Edges, 0 ≤ v ∧ v ≤ 65535
theorem zdv {x : zY} {n o : Int} (hn : n = w64 (1 + w64 (Int.tmod x.States 6))) (ho : o = w64 (1 + w64 (Int.tmod x.Outputs 3))) (n1 : 1 ≤ n) (n2 : n ≤ 6) (o1 : 1 ≤ o) (o2 : o ≤ 3) (row : List z8) (i v : Int) (hl : row.length ≤ 1000) (v0 : 0 ≤ v) (v1 : v ≤ 65535) :
  ∃ e : z8, v6 x row i v = some (.next (row ++ [e], w64 (i + 1))) ∧ ((e.To = -1 ∧ e.Out = -1) ∨ (0 ≤ e.To ∧ e.To < n ∧ 0 ≤ e.Out ∧ e.Out < o)) := by
 have hv4 : Int.tdiv v 4 = v / 4 := Int.tdiv_eq_ediv_of_nonneg v0
 have w4 : w64 (Int.tdiv v 4) = v / 4 := by rw [hv4]; exact y9 (by omega) (by omega)
 have d0 : 0 ≤ v / 4 := by omega
 have hd : Int.tdiv (v / 4) n = v / 4 / n := Int.tdiv_eq_ediv_of_nonneg d0
 have d1 : 0 ≤ v / 4 / n := Int.ediv_nonneg d0 (by omega)
 have d2 : v / 4 / n ≤ v / 4 := Int.ediv_le_self _ d0
 have w5 : w64 (Int.tdiv (v / 4) n) = v / 4 / n := by rw [hd]; exact y9 (by omega) (by omega)
 have fit : (0 : Int) ≤ Int.tmod (v / 4) n ∧ Int.tmod (v / 4) n < n ∧ 0 ≤ Int.tmod (v / 4 / n) o ∧ Int.tmod (v / 4 / n) o < o :=
  ⟨Int.tmod_nonneg _ d0, Int.tmod_lt_of_pos _ (by omega), Int.tmod_nonneg _ d1, Int.tmod_lt_of_pos _ (by omega)⟩
 unfold v6
 rw [← hn, ← ho, w4, w5]
 have g4 : (4 : Int) ≠ 0 := by decide
 have gn : (n : Int) ≠ 0 := by omega
 have go : (o : Int) ≠ 0 := by omega
 have gl : ∀ e : z8, row.length + ([e] : List z8).length ≤ 4294967296 := fun e => by simp; omega
 simp only [gdT g4, gdT gn, gdT go, gdT (gl _)]
 cases x.Partial
 ·exact ⟨_, rfl, .inr fit⟩
 ·cases hc : (Int.tmod v 4 == 3)
  ·exact ⟨_, rfl, .inr fit⟩
  ·exact ⟨_, rfl, .inl ⟨rfl, rfl⟩⟩
theorem zb8 {x : zY} (h : MOk x) : Ret (kE x) fun m => VM m ∧ m.Inputs = w64 (1 + w64 (Int.tmod x.Inputs 3)) ∧ m.Inputs ≤ 3 ∧ m.Outputs ≤ 3 ∧ m.Rows.length ≤ 6 := by
 have hn' := z2B h.s0 (k := 6) (by omega) (by omega)
 have hi' := z2B h.i0 (k := 3) (by omega) (by omega)
 have ho' := z2B h.o0 (k := 3) (by omega) (by omega)
 obtain ⟨n, hn⟩ : ∃ n, n = w64 (1 + w64 (Int.tmod x.States 6)) := ⟨_, rfl⟩
 obtain ⟨k, hk⟩ : ∃ n, n = w64 (1 + w64 (Int.tmod x.Inputs 3)) := ⟨_, rfl⟩
 obtain ⟨o, ho⟩ : ∃ n, n = w64 (1 + w64 (Int.tmod x.Outputs 3)) := ⟨_, rfl⟩
 rw [← hn] at hn'
 rw [← hk] at hi'
 rw [← ho] at ho'
 have inner : ∀ s : Int, 0 ≤ s → s < n → Ret (loop (fun st => uZ x s st.1 st.2) (([] : List z8), 0)) (fun r => (r.length : Int) = k ∧ ∀ e ∈ r, (e.To = -1 ∧ e.Out = -1) ∨ (0 ≤ e.To ∧ e.To < n ∧ 0 ≤ e.Out ∧ e.Out < o)) := by
  intro s s0 s1
  refine u4 (fun st => (st.1.length : Int) = st.2 ∧ st.2 ≤ k ∧ ∀ e ∈ st.1, (e.To = -1 ∧ e.Out = -1) ∨ (0 ≤ e.To ∧ e.To < n ∧ 0 ≤ e.Out ∧ e.Out < o)) (fun st => 10 - st.2.toNat) ⟨by simp, by omega, by simp⟩ (by simp) ?_
  rintro ⟨row, i⟩ ⟨h1, h2, h3⟩
  simp only at h1 h2 h3
  unfold uZ
  rw [← hk, wB]
  have hsk : s * k ≤ 5 * k := Int.mul_le_mul_of_nonneg_right (by omega) (by omega)
  have hsk0 : 0 ≤ s * k := Int.mul_nonneg s0 (by omega)
  have w1 : w64 (s * k) = s * k := y9 (by omega) (by omega)
  have w2 : w64 (s * k + i) = s * k + i := y9 (by omega) (by omega)
  rw [w1, w2]
  refine ⟨fun hlt => ?_, fun hge => ?_⟩
  ·have hlt : i < k := of_decide_eq_true hlt
   have hw : w64 (i + 1) = i + 1 := y9 (by omega) (by omega)
   have fin : ∀ v : Int, 0 ≤ v → v ≤ 65535 → Ret (v6 x row i v) (LRP (fun s' => (((s'.1.length : Nat) : Int) = s'.2 ∧ s'.2 ≤ k ∧ ∀ e ∈ s'.1, (e.To = -1 ∧ e.Out = -1) ∨ (0 ≤ e.To ∧ e.To < n ∧ 0 ≤ e.Out ∧ e.Out < o)) ∧ 10 - s'.2.toNat < 10 - i.toNat) (fun r => (r.length : Int) = k ∧ ∀ e ∈ r, (e.To = -1 ∧ e.Out = -1) ∨ (0 ≤ e.To ∧ e.To < n ∧ 0 ≤ e.Out ∧ e.Out < o))) := by
    intro v v0 v1
    obtain ⟨e, g1, g2⟩ := zdv hn ho hn'.1 hn'.2 ho'.1 ho'.2 row i v (by omega) v0 v1
    rw [g1, hw, zt]
    refine ⟨⟨by simp; omega, by simp only; omega, fun e' he => ?_⟩, by simp only; omega⟩
    rcases List.mem_append.1 he with q | q
    ·exact h3 e' q
    ·simp only [List.mem_cons, List.not_mem_nil, or_false] at q; subst q; exact g2
   rw [wB]
   refine ⟨fun hc => ?_, fun _ => fin 0 (by omega) (by omega)⟩
   have hc : s * k + i < ((x.Edges.length : Nat) : Int) := of_decide_eq_true hc
   rw [w7, z9n]
   have hlt' : (s * k + i).toNat < x.Edges.length := by omega
   refine ⟨by omega, _, List.getElem?_eq_getElem hlt', ?_⟩
   have := h.e0 _ (List.getElem_mem hlt')
   rw [y9 (by omega) (by omega)]
   exact fin _ this.1 this.2
  ·have hge : ¬ i < k := of_decide_eq_false hge
   rw [zt]
   exact ⟨by simp only; omega, h3⟩
 unfold kE
 simp only [z3h, w7]
 refine ⟨by decide, by decide, by decide, ?_⟩
 refine (u4 (R := fun r => (r.length : Int) = n ∧ ∀ r' ∈ r, (r'.length : Int) = k ∧ ∀ e ∈ r', (e.To = -1 ∧ e.Out = -1) ∨ (0 ≤ e.To ∧ e.To < n ∧ 0 ≤ e.Out ∧ e.Out < o)) (fun st => (st.1.length : Int) = st.2 ∧ st.2 ≤ n ∧ ∀ r' ∈ st.1, (r'.length : Int) = k ∧ ∀ e ∈ r', (e.To = -1 ∧ e.Out = -1) ∨ (0 ≤ e.To ∧ e.To < n ∧ 0 ≤ e.Out ∧ e.Out < o)) (fun st => 10 - st.2.toNat) ⟨by simp, by omega, by simp⟩ (by simp) ?_).mono ?_
 ·rintro ⟨rows, s⟩ ⟨h1, h2, h3⟩
  simp only at h1 h2 h3
  unfold kj
  rw [← hn, wB]
  refine ⟨fun hlt => ?_, fun hge => ?_⟩
  ·have hlt : s < n := of_decide_eq_true hlt
   rw [w7]
   refine (inner s (by omega) hlt).mono fun row hrow => ?_
   unfold kl km
   rw [z3h, zt, y9 (by omega) (by omega)]
   refine ⟨by simp; omega, ⟨by simp; omega, by simp only; omega, fun r' hr => ?_⟩, by simp only; omega⟩
   rcases List.mem_append.1 hr with q | q
   ·exact h3 r' q
   ·simp only [List.mem_cons, List.not_mem_nil, or_false] at q; subst q; exact hrow
  ·have hge : ¬ s < n := of_decide_eq_false hge
   rw [zt]
   exact ⟨by simp only; omega, h3⟩
 ·rintro rows ⟨h1, h2⟩
  unfold kn
  rw [zt, ← hk, ← ho]
  refine ⟨⟨hi'.1, by simp only; omega, ho'.1, by simp only; omega, by simp only; omega, by simp only; omega, fun r hr => (h2 r hr).1, fun r hr e he => ?_⟩, rfl, hi'.2, ho'.2, by simp only; omega⟩
  simp only [h1]
  exact (h2 r hr).2 e he
end Go.Own

namespace Go.Own
def z6j (n k o : Int) (rows : List (List z8)) : Prop := (rows.length : Int) = n ∧ ∀ r ∈ rows, (r.length : Int) = k ∧ ∀ e ∈ r, (e.To = -1 ∧ e.Out = -1) ∨ (0 ≤ e.To ∧ e.To < n ∧ 0 ≤ e.Out ∧ e.Out < o)
theorem z6j.set {n k o : Int} {rows : List (List z8)} (h : z6j n k o rows) {s i : Nat} {r : List z8} (hr : rows[s]? = some r) {e : z8} (he : (e.To = -1 ∧ e.Out = -1) ∨ (0 ≤ e.To ∧ e.To < n ∧ 0 ≤ e.Out ∧ e.Out < o)) : z6j n k o (rows.set s (r.set i e)) := by
 refine ⟨by simpa using h.1, fun r' hr' => ?_⟩
 rcases List.mem_or_eq_of_mem_set hr' with g | g
 ·exact h.2 r' g
 ·subst g
  have := h.2 r (List.mem_of_getElem? hr)
  refine ⟨by simpa using this.1, fun e' he' => ?_⟩
  rcases List.mem_or_eq_of_mem_set he' with g | g
  ·exact this.2 e' g
  ·subst g; exact he
end Go.Own

namespace Go.Own
structure WM (m : z7) : Prop where
 in1 : 1 ≤ m.Inputs
 in16 : m.Inputs ≤ 16
 len1 : 1 ≤ m.Rows.length
 len : m.Rows.length ≤ 128
 row : ∀ r ∈ m.Rows, (r.length : Int) = m.Inputs
 edge : ∀ r ∈ m.Rows, ∀ x ∈ r, (x.To = -1 ∧ x.Out = -1) ∨ (0 ≤ x.To ∧ x.To < (m.Rows.length : Int) ∧ 0 ≤ x.Out)
section
variable {m : z7} (h : WM m)
include h
theorem WM.kk_eq : ((kk m : Nat) : Int) = m.Inputs := by have := h.in1; unfold kk; omega
theorem WM.kk_pos : 1 ≤ kk m := by have := h.in1; unfold kk; omega
theorem WM.kk_le : kk m ≤ 16 := by have := h.in16; unfold kk; omega
theorem WM.rowAt {s : Nat} (hs : s < m.Rows.length) : ∃ r, m.Rows[s]? = some r ∧ r.length = kk m ∧ ∀ i, i < kk m → r[i]? = some (E m s i) := by
 have hr := List.getElem?_eq_getElem hs
 have hl := h.row _ (List.getElem_mem hs)
 have hl' : m.Rows[s].length = kk m := by unfold kk; omega
 refine ⟨_, hr, hl', fun i hi => ?_⟩
 have hi' : i < m.Rows[s].length := by omega
 unfold E
 rw [hr]
 simp only [Option.getD_some]
 rw [List.getElem?_eq_getElem hi']
 rfl
theorem WM.edgeAt {s i : Nat} (hs : s < m.Rows.length) (hi : i < kk m) : ((E m s i).To = -1 ∧ (E m s i).Out = -1) ∨ (0 ≤ (E m s i).To ∧ (E m s i).To < (m.Rows.length : Int) ∧ 0 ≤ (E m s i).Out) := by
 obtain ⟨r, h1, _, h2⟩ := h.rowAt hs
 exact h.edge r (List.mem_of_getElem? h1) _ (List.mem_of_getElem? (h2 i hi))
theorem WM.edge_eq {s i : Nat} (hs : s < m.Rows.length) (hi : i < kk m) {β : Type} {f : z8 → Option β} :
  (Option.bind (idx m.Rows (s : Int)) fun r => Option.bind (idx r (i : Int)) f) = f (E m s i) := by
 obtain ⟨r, h1, _, h2⟩ := h.rowAt hs
 rw [qW, h1, Option.bind_some, qW, h2 i hi, Option.bind_some]
end
end Go.Own

namespace Go.Own
def nxE (m : z7) (s : Int) (i : Nat) : z8 := if s < 0 then ⟨-1, -1⟩ else E m s.toNat i
def rsp (m : z7) : Int → List Nat → List Int
 | _, [] => []
 | s, i :: w => (nxE m s i).Out :: rsp m (nxE m s i).To w
def aft (m : z7) : Int → List Nat → Int
 | s, [] => s
 | s, i :: w => aft m (nxE m s i).To w
theorem WO (m : z7) : ∀ (w : List Nat) (s : Int) (i : Nat), rsp m s (w ++ [i]) = rsp m s w ++ [(nxE m (aft m s w) i).Out] ∧ aft m s (w ++ [i]) = (nxE m (aft m s w) i).To
 | [], s, i => ⟨rfl, rfl⟩
 | j :: w, s, i => by
  have := WO m w (nxE m s j).To i
  simp only [List.cons_append, rsp, aft, this.1, this.2, and_self]
def z4r (m : z7) (s : Int) : Prop := -1 ≤ s ∧ s < (m.Rows.length : Int)
theorem z5o {m : z7} (h : VM m) {s : Int} (hs : z4r m s) {i : Nat} (hi : i < kk m) : Y5 m s (i : Int) = some (nxE m s i) ∧ z4r m (nxE m s i).To := by
 unfold Y5 nxE
 have := h.len1
 by_cases h0 : s < 0
 ·rw [decide_eq_true h0, cond_true, if_pos h0]
  exact ⟨rfl, by unfold z4r; simp only; omega⟩
 ·rw [decide_eq_false h0, cond_false, if_neg h0]
  have hl : s.toNat < m.Rows.length := by have := hs.2; omega
  have he := h.edge_eq hl hi (f := fun e => some e)
  have hc : ((s.toNat : Nat) : Int) = s := by omega
  rw [hc] at he
  refine ⟨he, ?_⟩
  have := h.edgeAt hl hi
  unfold z4r
  omega
end Go.Own

namespace Go.Own
def SEq (m : z7) (s t : Nat) : Prop := ∀ w : List Nat, (∀ i ∈ w, i < kk m) → rsp m (s : Int) w = rsp m (t : Int) w
theorem z0l (m : z7) (s i : Nat) : nxE m (s : Int) i = E m s i := by
 unfold nxE
 rw [if_neg (by omega), Int.toNat_natCast]
end Go.Own

namespace Go.Own
theorem z3V {m : z7} (h : VM m) : ∀ (w : List Nat) (n : Nat) (s : Int), z4r m s → (∀ i ∈ w, i < kk m) → w.length < n → uU n m s (w.map Int.ofNat) = some (aft m s w)
 | w, 0, _, _, _, hn => by omega
 | [], n + 1, s, hs, _, _ => by
  show u7 (uU n) m s [] = _
  rfl
 | i :: w, n + 1, s, hs, hw, hn => by
  show u7 (uU n) m s ((i : Int) :: w.map Int.ofNat) = _
  have hi := hw i (by simp)
  have hx := z5o h hs hi
  unfold u7
  have hz : (((((i : Int) :: w.map Int.ofNat).length : Nat) : Int) == 0) = false := by
   rw [beq_eq_false_iff_ne]
   simp only [List.length_cons]
   omega
  rw [hz, cond_false]
  have e0 : idx ((i : Int) :: w.map Int.ofNat) 0 = some (i : Int) := rfl
  rw [bdT e0, bdT hx.1, gdT (by simp; omega)]
  have e1 : ((i : Int) :: w.map Int.ofNat).drop (1 : Int).toNat = w.map Int.ofNat := rfl
  rw [e1, bdT (z3V h w n _ hx.2 (fun j hj => hw j (by simp [hj])) (by simp at hn; omega))]
  rfl
theorem z83 {m : z7} (h : VM m) {s : Int} (hs : z4r m s) (w : List Nat) (hw : ∀ i ∈ w, i < kk m) : YB m s (w.map Int.ofNat) = some (aft m s w) := by
 unfold YB
 exact z3V h w _ s hs hw (by simp)
def z1O (k : Nat) : List Nat → Option (List Nat)
 | [] => none
 | d :: r => if d + 1 < k then some ((d + 1) :: r) else (z1O k r).map (0 :: ·)
def WC (k : Nat) : List Nat → Nat
 | [] => 0
 | d :: r => d + k * WC k r
theorem z4y {k : Nat} : ∀ {r : List Nat}, (∀ d ∈ r, d < k) → WC k r < k ^ r.length
 | [], _ => by simp [WC]
 | d :: r, h => by
  have ih := z4y (k := k) (r := r) fun x hx => h x (by simp [hx])
  have hd := h d (by simp)
  simp only [WC, List.length_cons, Nat.pow_succ]
  have : k * (WC k r + 1) ≤ k * k ^ r.length := Nat.mul_le_mul_left k ih
  rw [Nat.mul_add, Nat.mul_one] at this
  rw [Nat.mul_comm (k ^ r.length) k]
  omega
theorem z2V {k : Nat} : ∀ {r s : List Nat}, r.length = s.length → (∀ d ∈ r, d < k) → (∀ d ∈ s, d < k) → WC k r = WC k s → r = s
 | [], [], _, _, _, _ => rfl
 | [], _ :: _, h, _, _, _ => by simp at h
 | _ :: _, [], h, _, _, _ => by simp at h
 | d :: r, e :: s, h, h1, h2, hv => by
  have hd := h1 d (by simp)
  have he := h2 e (by simp)
  simp only [WC] at hv
  have a1 : (d + k * WC k r) % k = d := by rw [Nat.add_mul_mod_self_left, Nat.mod_eq_of_lt hd]
  have a2 : (e + k * WC k s) % k = e := by rw [Nat.add_mul_mod_self_left, Nat.mod_eq_of_lt he]
  have hde : d = e := by rw [← a1, ← a2, hv]
  subst hde
  have hk : 0 < k := by omega
  have : k * WC k r = k * WC k s := by omega
  have := Nat.eq_of_mul_eq_mul_left hk this
  rw [z2V (by simpa using h) (fun x hx => h1 x (by simp [hx])) (fun x hx => h2 x (by simp [hx])) this]
theorem z1M {k : Nat} : ∀ {r s : List Nat}, (∀ d ∈ r, d < k) → z1O k r = some s → s.length = r.length ∧ (∀ d ∈ s, d < k) ∧ WC k s = WC k r + 1
 | [], s, _, h => by cases h
 | d :: r, s, hr, h => by
  have hd := hr d (by simp)
  unfold z1O at h
  split at h
  ·rename_i hc
   cases h
   exact ⟨rfl, fun x hx => by rcases List.mem_cons.1 hx with rfl | hx; exact hc; exact hr x (by simp [hx]), by simp only [WC]; omega⟩
  ·rename_i hc
   obtain ⟨s', h1, rfl⟩ := Option.map_eq_some_iff.1 h
   obtain ⟨g1, g2, g3⟩ := z1M (fun x hx => hr x (by simp [hx])) h1
   refine ⟨by simp [g1], fun x hx => by rcases List.mem_cons.1 hx with rfl | hx; omega; exact g2 x hx, ?_⟩
   simp only [WC, g3, Nat.mul_add, Nat.mul_one]
   omega
theorem z1N {k : Nat} (hk : 0 < k) : ∀ {r : List Nat}, (∀ d ∈ r, d < k) → z1O k r = none → WC k r + 1 = k ^ r.length
 | [], _, _ => by simp [WC]
 | d :: r, hr, h => by
  have hd := hr d (by simp)
  unfold z1O at h
  split at h
  ·cases h
  ·rename_i hc
   have h1 : z1O k r = none := by cases e : z1O k r with | none => rfl | some x => rw [e] at h; cases h
   have := z1N hk (fun x hx => hr x (by simp [hx])) h1
   simp only [WC, List.length_cons, Nat.pow_succ, ← this, Nat.add_mul, Nat.one_mul, Nat.mul_comm k]
   omega
def z2E (k : Nat) (w : List Nat) : List Nat := match z1O k w.reverse with | some r => r.reverse | none => List.replicate (w.length + 1) 0
theorem z5n {k : Nat} (hk : 1 ≤ k) (hk2 : k ≤ 1000) {w : List Nat} (hw : ∀ i ∈ w, i < k) (hl : w.length ≤ 100000) : kB (w.map Int.ofNat) (k : Int) = some ((z2E k w).map Int.ofNat) := by
 have hloop : Ret (loop (fun s => uS (k : Int) s.1 s.2) (w.map Int.ofNat, w64 ((((w.map Int.ofNat).length : Nat) : Int) - 1))) fun r => match r with
   | .inl o => z1O k w.reverse = none ∧ o = List.replicate w.length (0 : Int)
   | .inr o => ∃ r, z1O k w.reverse = some r ∧ o = r.reverse.map Int.ofNat := by
  refine u4 (fun q => ∃ (p : List Nat) (z : Nat), q.1 = (p ++ List.replicate z 0).map Int.ofNat ∧ q.2 = (p.length : Int) - 1 ∧ (∀ i ∈ p, i < k) ∧ p.length + z = w.length ∧ z1O k w.reverse = (z1O k p.reverse).map (fun r => List.replicate z 0 ++ r)) (fun q => (q.2 + 1).toNat) ⟨w, 0, by simp, by rw [y9 (by simp; omega) (by simp; omega)]; simp, hw, by simp, by cases z1O k w.reverse <;> simp⟩ (by simp only; rw [y9 (by simp; omega) (by simp; omega)]; simp; omega) ?_
  rintro ⟨out, j⟩ ⟨p, z, h1, h2, h3, h4, h5⟩
  simp only at h1 h2
  subst h1; subst h2
  unfold uS
  rw [wB]
  refine ⟨fun hc => ?_, fun hc => ?_⟩
  ·have hp : 1 ≤ p.length := by simp at hc; omega
   obtain ⟨p', d, rfl⟩ : ∃ p' d, p = p' ++ [d] := by
    rcases List.eq_nil_or_concat p with e | ⟨p', d, e⟩
    ·subst e; simp at hp
    ·exact ⟨p', d, by simpa using e⟩
   have hd := h3 d (by simp)
   have hj : (((p' ++ [d]).length : Nat) : Int) - 1 = ((p'.length : Nat) : Int) := by simp
   have hx : ((p' ++ [d] ++ List.replicate z 0).map Int.ofNat)[p'.length]? = some (d : Int) := by
    simp
   have hset : ∀ e : Nat, ((p' ++ [d] ++ List.replicate z 0).map Int.ofNat).set p'.length (e : Int) = (p' ++ e :: List.replicate z 0).map Int.ofNat := by
    intro e
    rw [List.append_assoc, List.map_append, List.set_append, if_neg (by simp)]
    simp
   have hr : (p' ++ [d]).reverse = d :: p'.reverse := by simp
   rw [hr] at h5
   have hin : z1O k (d :: p'.reverse) = if d + 1 < k then some ((d + 1) :: p'.reverse) else (z1O k p'.reverse).map (0 :: ·) := rfl
   have hw1 : w64 ((d : Int) + 1) = ((d + 1 : Nat) : Int) := by rw [y9 (by omega) (by omega)]; rfl
   rw [hj, qW, bdT hx, hw1, wB]
   refine ⟨fun hc => ?_, fun hc => ?_⟩
   ·have hdk : d + 1 < k := by simp at hc; omega
    rw [bdT hx, bdT hx, hw1, Int.toNat_natCast, hset]
    refine zt.2 ?_
    rw [hin, if_pos hdk] at h5
    exact ⟨_, h5, by simp⟩
   ·have hdk : ¬ d + 1 < k := by simp at hc; omega
    rw [bdT hx, Int.toNat_natCast, y9 (by omega) (by omega)]
    have h0 := hset 0
    simp only [Int.natCast_zero] at h0
    refine zt.2 ⟨⟨p', z + 1, ?_, rfl, fun i hi => h3 i (by simp [hi]), by simp at h4; omega, ?_⟩, ?_⟩
    ·rw [List.replicate_succ]; exact h0
    ·rw [hin, if_neg hdk] at h5
     rw [h5]
     cases z1O k p'.reverse with
     | none => rfl
     | some r => simp [List.replicate_succ']
    ·simp only
     omega
  ·have hp : p = [] := List.eq_nil_of_length_eq_zero (by simp at hc; omega)
   subst hp
   refine zt.2 ⟨?_, ?_⟩
   ·rw [h5]; rfl
   ·simp at h4; simp [h4]
 unfold kB
 rw [gdT (by simp; omega)]
 obtain ⟨r, e, hr⟩ := hloop
 rw [bdT e]
 unfold z2E
 cases r with
 | inl o =>
  obtain ⟨g1, rfl⟩ := hr
  show uT _ = _
  unfold uT
  rw [gdT (by simp; omega), g1]
  simp [List.replicate_succ']
 | inr o =>
  obtain ⟨r, g1, rfl⟩ := hr
  show some _ = _
  rw [g1]
end Go.Own

namespace Go.Own
def GG (k : Nat) : Nat → Nat
 | 0 => 0
 | n + 1 => GG k n + k ^ n
theorem z2U {k n m : Nat} (h : n ≤ m) : GG k n ≤ GG k m := by
 induction h with
 | refl => exact Nat.le_refl _
 | step _ ih => exact Nat.le_trans ih (Nat.le_add_right _ _)
def rk (k : Nat) (w : List Nat) : Nat := GG k w.length + WC k w.reverse
def Wd (k : Nat) (w : List Nat) : Prop := ∀ i ∈ w, i < k
theorem Wd.rev {k : Nat} {w : List Nat} (h : Wd k w) : ∀ d ∈ w.reverse, d < k := fun d hd => h d (by simpa using hd)
theorem z9l {k : Nat} {w : List Nat} (h : Wd k w) : rk k w < GG k (w.length + 1) := by
 have := z4y h.rev
 rw [List.length_reverse] at this
 show GG k w.length + WC k w.reverse < GG k w.length + k ^ w.length
 omega
theorem z8d {k : Nat} {w u : List Nat} (hw : Wd k w) (h : w.length < u.length) : rk k w < rk k u := by
 have h1 := z9l hw
 have h2 := z2U (k := k) (show w.length + 1 ≤ u.length from h)
 unfold rk at *
 omega
theorem z8e {k : Nat} {w u : List Nat} (hw : Wd k w) (hu : Wd k u) (h : rk k w = rk k u) : w = u := by
 have hl : w.length = u.length := by
  rcases Nat.lt_trichotomy w.length u.length with q | q | q
  ·have := z8d hw q; omega
  ·exact q
  ·have := z8d hu q; omega
 have hv : WC k w.reverse = WC k u.reverse := by unfold rk at h; rw [hl] at h; omega
 have := z2V (by simpa using hl) hw.rev hu.rev hv
 simpa using congrArg List.reverse this
theorem z14 (k : Nat) : ∀ n, WC k (List.replicate n 0) = 0
 | 0 => rfl
 | n + 1 => by simp [List.replicate_succ, WC, z14 k n]
theorem z7g {k : Nat} (hk : 1 ≤ k) {w : List Nat} (hw : Wd k w) : Wd k (z2E k w) ∧ rk k (z2E k w) = rk k w + 1 ∧ (z2E k w).length ≤ w.length + 1 := by
 unfold z2E
 cases e : z1O k w.reverse with
 | some r =>
  obtain ⟨h1, h2, h3⟩ := z1M hw.rev e
  rw [List.length_reverse] at h1
  refine ⟨fun i hi => h2 i (by simpa using hi), ?_, by simp [h1]⟩
  simp only [rk, List.length_reverse, List.reverse_reverse, h1, h3]
  omega
 | none =>
  have h := z1N (by omega) hw.rev e
  rw [List.length_reverse] at h
  refine ⟨fun i hi => by have := (List.mem_replicate.1 hi).2; omega, ?_, by simp⟩
  simp only [rk, List.length_replicate, List.reverse_replicate, z14, GG, ← h]
  omega
section
variable {m : z7}
def JV (m : z7) (from_ : Int) (l : List (List Int)) (is : List Bool) (r t : Nat) : Prop :=
 (is[t]? = some true ∧ ∃ v : List Nat, l[t]? = some (v.map Int.ofNat) ∧ rk (kk m) v < r ∧ Wd (kk m) v ∧ v.length < m.Rows.length ∧ aft m from_ v = (t : Int) ∧ ∀ u, Wd (kk m) u → aft m from_ u = (t : Int) → rk (kk m) v ≤ rk (kk m) u) ∨
 (is[t]? = some false ∧ l[t]? = some [] ∧ ∀ u, Wd (kk m) u → rk (kk m) u < r → aft m from_ u ≠ (t : Int))
theorem z2a (h : VM m) : ∀ (w : List Nat) (s : Int), z4r m s → Wd (kk m) w → z4r m (aft m s w)
 | [], s, hs, _ => hs
 | i :: w, s, hs, hw => z2a h w _ (z5o h hs (hw i (by simp))).2 fun j hj => hw j (by simp [hj])
theorem z5f (h : VM m) (hG : GG (kk m) m.Rows.length ≤ 1000000000) {from_ : Int} (hf : z4r m from_) :
  Ret (kP m from_) fun r => r.1.length = m.Rows.length ∧ r.2.length = m.Rows.length ∧ ∀ t, t < m.Rows.length → JV m from_ r.1 r.2 (GG (kk m) m.Rows.length) t := by
 have l64 := h.len64
 have l1 := h.len1
 have hk := h.kk_pos
 have hk2 := h.kk_le
 have hke := h.kk_eq
 unfold kP jn
 rw [z3h, z3h]
 refine ⟨by omega, by omega, ?_⟩
 rw [w7]
 refine Ret.mono ?_ fun r hr => zt.2 hr
 refine u4 (fun q => ∃ w : List Nat, q.2.2 = w.map Int.ofNat ∧ Wd (kk m) w ∧ w.length ≤ m.Rows.length ∧ rk (kk m) w ≤ GG (kk m) m.Rows.length ∧ q.1.length = m.Rows.length ∧ q.2.1.length = m.Rows.length ∧ ∀ t, t < m.Rows.length → JV m from_ q.1 q.2.1 (rk (kk m) w) t)
  (fun q => GG (kk m) m.Rows.length - rk (kk m) (q.2.2.map Int.toNat)) ⟨[], rfl, fun i hi => by simp at hi, by simp, by simp [rk, GG, WC], by simp, by simp, fun t ht => .inr ⟨by simp [ht], by simp [ht], fun u _ hu => by simp [rk, GG, WC] at hu⟩⟩ (by simp only; omega) ?_
 rintro ⟨l, is, wi⟩ ⟨w, h1, hw, hwl, hwr, h2, h3, h4⟩
 simp only at h1 h2 h3 h4
 subst h1
 have hback : ∀ w : List Nat, (w.map Int.ofNat).map Int.toNat = w := fun w => by induction w with | nil => rfl | cons a w ih => simp only [List.map_cons, ih]; rfl
 simp only [hback]
 unfold jm
 rw [wB]
 refine ⟨fun hc => ?_, fun hc => ?_⟩
 ·have hlt : w.length < m.Rows.length := by simpa using hc
  have hrk : rk (kk m) w < GG (kk m) m.Rows.length := Nat.lt_of_lt_of_le (z9l hw) (z2U hlt)
  obtain ⟨n1, n2, n3⟩ := z7g hk hw
  have hnx : kB (w.map Int.ofNat) m.Inputs = some ((z2E (kk m) w).map Int.ofNat) := by rw [← hke]; exact z5n hk (by omega) hw (by omega)
  have fin : ∀ (l2 : List (List Int)) (is2 : List Bool), l2.length = m.Rows.length → is2.length = m.Rows.length → (∀ t, t < m.Rows.length → JV m from_ l2 is2 (rk (kk m) w + 1) t) →
    Ret (wC m (w.map Int.ofNat) l2 is2) (LRP (fun s' => (∃ w : List Nat, s'.2.2 = w.map Int.ofNat ∧ Wd (kk m) w ∧ w.length ≤ m.Rows.length ∧ rk (kk m) w ≤ GG (kk m) m.Rows.length ∧ s'.1.length = m.Rows.length ∧ s'.2.1.length = m.Rows.length ∧ ∀ t, t < m.Rows.length → JV m from_ s'.1 s'.2.1 (rk (kk m) w) t) ∧ GG (kk m) m.Rows.length - rk (kk m) (s'.2.2.map Int.toNat) < GG (kk m) m.Rows.length - rk (kk m) w)
     fun r => r.1.length = m.Rows.length ∧ r.2.length = m.Rows.length ∧ ∀ t, t < m.Rows.length → JV m from_ r.1 r.2 (GG (kk m) m.Rows.length) t) := by
   intro l2 is2 a1 a2 a3
   unfold wC
   rw [bdT hnx]
   refine zt.2 ⟨⟨_, rfl, n1, by omega, by omega, a1, a2, fun t ht => by rw [n2]; exact a3 t ht⟩, ?_⟩
   rw [hback, n2]
   omega
  have hin := z2a h w from_ hf hw
  rw [bdT (z83 h hf w hw), wB]
  have stay : ∀ t, t < m.Rows.length → (aft m from_ w = (t : Int) → is[t]? = some true) → JV m from_ l is (rk (kk m) w + 1) t := by
   intro t ht hn
   rcases h4 t ht with ⟨g1, v, g2, g3, g4⟩ | ⟨g1, g2, g3⟩
   ·exact .inl ⟨g1, v, g2, by omega, g4⟩
   ·refine .inr ⟨g1, g2, fun u hu hr e => ?_⟩
    rcases Nat.lt_or_ge (rk (kk m) u) (rk (kk m) w) with q | q
    ·exact g3 u hu q e
    ·have := z8e hu hw (by omega)
     subst this
     rw [hn e] at g1
     cases g1
  refine ⟨fun hc => ?_, fun hc => ?_⟩
  ·have hs0 : 0 ≤ aft m from_ w := by simpa using hc
   obtain ⟨s, hs⟩ := Int.eq_ofNat_of_zero_le hs0
   have hsN : s < m.Rows.length := by have := hin.2; omega
   rw [hs]
   rcases h4 s hsN with ⟨g1, v, g2, g3⟩ | ⟨g1, g2, g3⟩
   ·rw [qW, bdT g1]
    simp only [Bool.not_true, cond_false]
    refine fin l is h2 h3 fun t ht => stay t ht fun e => ?_
    have : t = s := by omega
    subst this; exact g1
   ·rw [qW, bdT g1]
    simp only [Bool.not_false, cond_true]
    rw [bdT g1, qW, bdT g2, Int.toNat_natCast]
    refine fin _ _ (by simpa using h2) (by simpa using h3) fun t ht => ?_
    by_cases e : t = s
    ·subst e
     refine .inl ⟨by simp [h3, ht], w, by simp [h2, ht], by omega, hw, hlt, hs, fun u hu he => ?_⟩
     rcases Nat.lt_or_ge (rk (kk m) u) (rk (kk m) w) with q | q
     ·exact (g3 u hu q he).elim
     ·exact q
    ·have := stay t ht fun e2 => by omega
     unfold JV at this ⊢
     rw [List.getElem?_set_ne (by omega), List.getElem?_set_ne (by omega)]
     exact this
  ·have hs0 : ¬ 0 ≤ aft m from_ w := by simpa using hc
   exact fin l is h2 h3 fun t ht => stay t ht fun e => by omega
 ·have hlt : ¬ w.length < m.Rows.length := by simpa using hc
  have hle : w.length = m.Rows.length := by omega
  have hrk : rk (kk m) w = GG (kk m) m.Rows.length := by
   have : GG (kk m) m.Rows.length ≤ rk (kk m) w := by rw [← hle]; unfold rk; omega
   omega
  refine zt.2 ⟨h2, h3, fun t ht => ?_⟩
  rw [← hrk]
  exact h4 t ht
end
end Go.Own

namespace Go.Own
theorem z0K (m : z7) : ∀ (u w : List Nat) (s : Int), aft m s (u ++ w) = aft m (aft m s u) w
 | [], _, _ => rfl
 | i :: u, w, s => by simp only [List.cons_append, aft, z0K m u w]
theorem z6g (m : z7) : ∀ (w : List Nat) (s : Int), s < 0 → aft m s w < 0
 | [], s, h => h
 | i :: w, s, h => by
  simp only [aft, nxE, if_pos h]
  exact z6g m w (-1) (by omega)
section
variable {m : z7} (h : VM m)
include h
theorem QT : ∀ (n : Nat) (u : List Nat), u.length ≤ n → Wd (kk m) u → 0 ≤ aft m 0 u → ∃ w, Wd (kk m) w ∧ w.length < m.Rows.length ∧ w.length ≤ u.length ∧ aft m 0 w = aft m 0 u
 | n, u, hn, hu, h0 => by
  have l1 := h.len1
  rcases Nat.lt_or_ge u.length m.Rows.length with q | q
  ·exact ⟨u, hu, q, Nat.le_refl _, rfl⟩
  ·cases n with
   | zero => omega
   | succ n =>
    have hin0 : z4r m 0 := ⟨by omega, by omega⟩
    have hpre : ∀ i, 0 ≤ aft m 0 (u.take i) ∧ aft m 0 (u.take i) < (m.Rows.length : Int) := by
     intro i
     have e := z0K m (u.take i) (u.drop i) 0
     rw [List.take_append_drop] at e
     have h1 := z2a h (u.take i) 0 hin0 fun j hj => hu j (List.mem_of_mem_take hj)
     refine ⟨?_, h1.2⟩
     rcases Int.lt_or_le (aft m 0 (u.take i)) 0 with g | g
     ·have := z6g m (u.drop i) _ g
      omega
     ·exact g
    have hex : ∃ i j, i < j ∧ j ≤ m.Rows.length ∧ aft m 0 (u.take i) = aft m 0 (u.take j) := by
     refine Classical.byContradiction fun hno => ?_
     have hnd : ((List.range (m.Rows.length + 1)).map fun i => (aft m 0 (u.take i)).toNat).Nodup := by
      unfold List.Nodup
      rw [List.pairwise_map]
      refine List.Pairwise.imp_of_mem ?_ (List.pairwise_lt_range (n := m.Rows.length + 1))
      intro a b ha hb hab e
      have h1 := (hpre a).1
      have h2 := (hpre b).1
      exact hno ⟨a, b, hab, by have := List.mem_range.1 hb; omega, by omega⟩
     have := YD m.Rows.length _ hnd fun x hx => by
      obtain ⟨i, _, rfl⟩ := List.mem_map.1 hx
      have := hpre i
      omega
     simp at this
     omega
    obtain ⟨i, j, hij, hj, e⟩ := hex
    have e1 : aft m 0 (u.take i ++ u.drop j) = aft m 0 u := by
     rw [z0K, e, ← z0K, List.take_append_drop]
    have hlen : (u.take i ++ u.drop j).length ≤ n := by simp; omega
    obtain ⟨w, w1, w2, w3, w4⟩ := QT n (u.take i ++ u.drop j) hlen (fun x hx => by
     rcases List.mem_append.1 hx with q | q
     ·exact hu x (List.mem_of_mem_take q)
     ·exact hu x (List.mem_of_mem_drop q)) (by rw [e1]; exact h0)
    exact ⟨w, w1, w2, by simp at w3; omega, w4.trans e1⟩
end
structure Acc (m : z7) (t : Nat) (v : List Nat) : Prop where
 wd : Wd (kk m) v
 len : v.length < m.Rows.length
 aft : aft m 0 v = (t : Int)
 least : ∀ u, Wd (kk m) u → Go.Own.aft m 0 u = (t : Int) → rk (kk m) v ≤ rk (kk m) u
section
variable {m : z7} (h : VM m) (hG : GG (kk m) m.Rows.length ≤ 1000000000)
include h hG
def Qa (m : z7) (r : List (List Int) × List Bool) : Prop :=
 r.1.length = m.Rows.length ∧ r.2.length = m.Rows.length ∧ ∀ t, t < m.Rows.length →
  (r.2[t]? = some true ∧ ∃ v : List Nat, r.1[t]? = some (v.map Int.ofNat) ∧ Acc m t v) ∨ (r.2[t]? = some false ∧ ∀ u, Wd (kk m) u → aft m 0 u ≠ (t : Int))
theorem z4k : Ret (vV m) (Qa m) := by
 have l1 := h.len1
 unfold vV
 rw [w7]
 refine (z5f h hG (from_ := 0) ⟨by omega, by omega⟩).mono fun r hr => zt.2 ⟨hr.1, hr.2.1, fun t ht => ?_⟩
 rcases hr.2.2 t ht with ⟨g1, v, g2, g3, g4, g5, g6, g7⟩ | ⟨g1, g2, g3⟩
 ·exact .inl ⟨g1, v, g2, ⟨g4, g5, g6, g7⟩⟩
 ·refine .inr ⟨g1, fun u hu e => ?_⟩
  obtain ⟨w, w1, w2, w3, w4⟩ := QT h u.length u (Nat.le_refl _) hu (by omega)
  exact g3 w w1 (Nat.lt_of_lt_of_le (z9l w1) (z2U w2)) (w4.trans e)
end
end Go.Own

namespace Go.Own
theorem z80 {m : z7} {s : Nat} {v w : List Nat} (hv : Acc m s v) (hw : Acc m s w) : v = w :=
 z8e hv.wd hw.wd (Nat.le_antisymm (hv.least w hw.wd hw.aft) (hw.least v hv.wd hv.aft))
end Go.Own

namespace Go.Own
theorem SEq.refl {m : z7} (s : Nat) : SEq m s s := fun _ _ => rfl
theorem SEq.symm {m : z7} {s t : Nat} (h : SEq m s t) : SEq m t s := fun w hw => (h w hw).symm
theorem SEq.trans {m : z7} {s t u : Nat} (h : SEq m s t) (k : SEq m t u) : SEq m s u := fun w hw => (h w hw).trans (k w hw)
end Go.Own

namespace Go.Own
def Rch (m : z7) (t : Nat) : Prop := ∃ u, Wd (kk m) u ∧ aft m 0 u = (t : Int)
theorem z15 {out : List Bool} {j t : Nat} (hj : j < out.length) : (out.set j true)[t]? = some true ↔ t = j ∨ out[t]? = some true := by
 by_cases e : t = j
 ·subst e; simp [hj]
 ·rw [List.getElem?_set_ne (Ne.symm e)]
  exact ⟨.inr, fun q => q.resolve_left e⟩
section
variable {m : z7} (h : VM m)
include h
omit h in theorem rch_step {s i : Nat} (hs : Rch m s) (hi : i < kk m) (h0 : 0 ≤ (E m s i).To) : Rch m (E m s i).To.toNat := by
 obtain ⟨u, hu, e⟩ := hs
 refine ⟨u ++ [i], fun j hj => ?_, ?_⟩
 ·rcases List.mem_append.1 hj with q | q
  ·exact hu j q
  ·have : j = i := by simpa using q
   omega
 ·have := (WO m u 0 i).2
  rw [e, z0l] at this
  rw [this]
  omega
end
end Go.Own

namespace Go.Own
def xJ : List Int → List Int → Int
 | [], [] => 0
 | [], _ :: _ => -1
 | _ :: _, [] => 1
 | x :: a, y :: b => if x < y then -1 else if y < x then 1 else xJ a b
def uv (a b : List Int) : Int := if a.length < b.length then -1 else if b.length < a.length then 1 else xJ a b
theorem z5v : ∀ {a b : List Int}, xJ a b = 0 → a = b
 | [], [], _ => rfl
 | [], _ :: _, h => by simp [xJ] at h
 | _ :: _, [], h => by simp [xJ] at h
 | x :: a, y :: b, h => by
  simp only [xJ] at h
  split at h
  ·simp at h
  ·split at h
   ·simp at h
   ·rw [show x = y by omega, z5v h]
theorem z1E : ∀ a : List Int, xJ a a = 0
 | [] => rfl
 | x :: a => by simp [xJ, z1E a]
theorem z3v : ∀ a b : List Int, xJ b a = - xJ a b
 | [], [] => rfl
 | [], _ :: _ => rfl
 | _ :: _, [] => rfl
 | x :: a, y :: b => by
  simp only [xJ]
  split
  ·rw [if_neg (by omega)]
  ·split
   ·rfl
   ·exact z3v a b
theorem Ky : ∀ {a b c : List Int}, xJ a b < 0 → xJ b c < 0 → xJ a c < 0
 | [], [], _, h, _ => by simp [xJ] at h
 | [], _ :: _, [], _, h => by simp [xJ] at h
 | [], _ :: _, _ :: _, _, _ => by simp [xJ]
 | _ :: _, [], _, h, _ => by simp [xJ] at h
 | _ :: _, _ :: _, [], _, h => by simp [xJ] at h
 | x :: a, y :: b, z :: c, h1, h2 => by
  simp only [xJ] at h1 h2 ⊢
  by_cases e1 : x < y
  ·by_cases e2 : y < z
   ·rw [if_pos (by omega)]; omega
   ·rw [if_neg e2] at h2
    by_cases e3 : z < y
    ·rw [if_pos e3] at h2; omega
    ·rw [if_pos (by omega)]; omega
  ·rw [if_neg e1] at h1
   by_cases e3 : y < x
   ·rw [if_pos e3] at h1; omega
   ·rw [if_neg e3] at h1
    have : x = y := by omega
    subst this
    by_cases e2 : x < z
    ·rw [if_pos e2]; omega
    ·rw [if_neg e2] at h2 ⊢
     by_cases e4 : z < x
     ·rw [if_pos e4] at h2; omega
     ·rw [if_neg e4] at h2 ⊢
      exact Ky h1 h2
theorem Jw {a b : List Int} (h : uv a b = 0) : a = b := by
 unfold uv at h
 split at h
 ·simp at h
 ·split at h
  ·simp at h
  ·exact z5v h
theorem XB (a : List Int) : uv a a = 0 := by simp [uv, z1E]
theorem z3N {a b : List Int} : uv a b = 0 ↔ a = b := ⟨Jw, fun h => h ▸ XB a⟩
theorem z3M (a b : List Int) : uv b a = - uv a b := by
 unfold uv
 by_cases h1 : a.length < b.length
 ·rw [if_pos h1, if_neg (by omega), if_pos h1]; rfl
 ·by_cases h2 : b.length < a.length
  ·rw [if_pos h2, if_neg h1, if_pos h2]
  ·rw [if_neg h1, if_neg h2, if_neg h2, if_neg h1, z3v]
theorem ub {a b c : List Int} (h1 : uv a b < 0) (h2 : uv b c < 0) : uv a c < 0 := by
 unfold uv at *
 by_cases e1 : a.length < b.length
 ·by_cases e2 : b.length < c.length
  ·rw [if_pos (by omega)]; omega
  ·rw [if_neg e2] at h2
   by_cases e3 : c.length < b.length
   ·rw [if_pos e3] at h2; omega
   ·rw [if_pos (by omega)]; omega
 ·rw [if_neg e1] at h1
  by_cases e3 : b.length < a.length
  ·rw [if_pos e3] at h1; omega
  ·rw [if_neg e3] at h1
   have e : a.length = b.length := by omega
   rw [e]
   by_cases e2 : b.length < c.length
   ·rw [if_pos e2]; omega
   ·rw [if_neg e2] at h2 ⊢
    by_cases e4 : c.length < b.length
    ·rw [if_pos e4] at h2; omega
    ·rw [if_neg e4] at h2 ⊢
     exact Ky h1 h2
theorem Ql (a : List Int) : ¬ uv a a < 0 := by rw [XB]; omega
theorem z5U {a b : List Int} (h : uv a b < 0) : ¬ uv b a < 0 := by rw [z3M a b]; omega
theorem z0w {a b : List Int} : ¬ uv a b < 0 ↔ uv b a < 0 ∨ a = b := by
 rw [← z3N, z3M a b]; omega
def SW (l : List (List Int)) : Prop := l.Pairwise fun a b => uv a b < 0
theorem SW.nil : SW [] := List.Pairwise.nil
theorem SW.tail {x : List Int} {l : List (List Int)} (h : SW (x :: l)) : SW l := (List.pairwise_cons.1 h).2
theorem SW.head {x : List Int} {l : List (List Int)} (h : SW (x :: l)) : ∀ y ∈ l, uv x y < 0 := (List.pairwise_cons.1 h).1
theorem SW.unique : ∀ {l m : List (List Int)}, SW l → SW m → (∀ x, x ∈ l ↔ x ∈ m) → l = m
 | [], [], _, _, _ => rfl
 | [], y :: m, _, _, h => by have := (h y).2 (by simp); simp at this
 | x :: l, [], _, _, h => by have := (h x).1 (by simp); simp at this
 | x :: l, y :: m, h1, h2, h => by
  have hxy : x = y := by
   rcases List.mem_cons.1 ((h x).1 (by simp)) with e | e
   ·exact e
   ·rcases List.mem_cons.1 ((h y).2 (by simp)) with e' | e'
    ·exact e'.symm
    ·exact absurd (h2.head x e) (z5U (h1.head y e'))
  subst hxy
  rw [SW.unique h1.tail h2.tail fun z => ?_]
  constructor
  ·intro hz
   rcases List.mem_cons.1 ((h z).1 (by simp [hz])) with e | e
   ·subst e; exact absurd (h1.head _ hz) (Ql _)
   ·exact e
  ·intro hz
   rcases List.mem_cons.1 ((h z).2 (by simp [hz])) with e | e
   ·subst e; exact absurd (h2.head _ hz) (Ql _)
   ·exact e
theorem SW.sub {l m : List (List Int)} (h : SW l) (hs : List.Sublist m l) : SW m := List.Pairwise.sublist hs h
theorem SW.nodup {l : List (List Int)} (h : SW l) : l.Nodup := List.Pairwise.imp (fun {a b} q e => by subst e; exact Ql _ q) h
def Kq (w : List Int) : List (List Int) → List (List Int)
 | [] => [w]
 | x :: l => if uv x w < 0 then x :: Kq w l else if uv x w = 0 then x :: l else w :: x :: l
theorem WT {w x : List Int} : ∀ {l : List (List Int)}, x ∈ Kq w l ↔ x = w ∨ x ∈ l
 | [] => by simp [Kq]
 | y :: l => by
  simp only [Kq]
  split
  ·simp only [List.mem_cons, WT]
   constructor
   ·rintro (h | h | h) <;> simp [h]
   ·rintro (h | h | h) <;> simp [h]
  ·split
   ·rename_i h1 h2
    have := Jw h2
    subst this
    simp
   ·simp
theorem SW.put {w : List Int} : ∀ {l : List (List Int)}, SW l → SW (Kq w l)
 | [], _ => by simp [Kq, SW]
 | y :: l, h => by
  simp only [Kq]
  split
  ·rename_i h1
   refine List.pairwise_cons.2 ⟨fun z hz => ?_, SW.put h.tail⟩
   rcases WT.1 hz with rfl | hz
   ·exact h1
   ·exact h.head z hz
  ·split
   ·exact h
   ·rename_i h1 h2
    have hw : uv w y < 0 := by
     rcases z0w.1 h1 with q | q
     ·exact q
     ·exact absurd (z3N.2 q) h2
    refine List.pairwise_cons.2 ⟨fun z hz => ?_, h⟩
    rcases List.mem_cons.1 hz with rfl | hz
    ·exact hw
    ·exact ub hw (h.head z hz)
theorem z3l (w : List Int) : ∀ l, (Kq w l).length ≤ l.length + 1
 | [] => by simp [Kq]
 | y :: l => by
  simp only [Kq]
  split
  ·have := z3l w l; simp; omega
  ·split <;> simp
def srt (l : List (List Int)) : List (List Int) := l.foldl (fun m w => Kq w m) []
theorem z2q : ∀ (l m : List (List Int)), SW m → SW (l.foldl (fun m w => Kq w m) m) ∧ ∀ x, x ∈ l.foldl (fun m w => Kq w m) m ↔ x ∈ m ∨ x ∈ l
 | [], m, h => ⟨h, by simp⟩
 | w :: l, m, h => by
  obtain ⟨h1, h2⟩ := z2q l (Kq w m) h.put
  refine ⟨h1, fun x => ?_⟩
  rw [List.foldl_cons, h2, WT]
  simp only [List.mem_cons]
  constructor
  ·rintro ((h | h) | h) <;> simp [h]
  ·rintro (h | h | h) <;> simp [h]
theorem QG (l : List (List Int)) : SW (srt l) := (z2q l [] .nil).1
theorem ZJ {l : List (List Int)} {x : List Int} : x ∈ srt l ↔ x ∈ l := by rw [srt, (z2q l [] .nil).2]; simp
theorem z4H {l m : List (List Int)} (h : SW m) (hm : ∀ x, x ∈ m ↔ x ∈ l) : m = srt l := h.unique (QG l) fun x => by rw [hm, ZJ]
theorem QH {l : List (List Int)} (h : SW l) : srt l = l := (z4H h fun _ => .rfl).symm
theorem z1a {l m : List (List Int)} (h : ∀ x, x ∈ l ↔ x ∈ m) : srt l = srt m := z4H (QG l) fun x => by rw [ZJ, h]
theorem z36 (l : List (List Int)) (w : List Int) : srt (l ++ [w]) = Kq w (srt l) := by simp [srt]
theorem QI (l : List (List Int)) : (srt l).length ≤ l.length := by
 have : ∀ (l m : List (List Int)), (l.foldl (fun m w => Kq w m) m).length ≤ m.length + l.length := by
  intro l
  induction l with
  | nil => intro m; simp
  | cons w l ih => intro m; have := ih (Kq w m); have := z3l w m; simp only [List.foldl_cons, List.length_cons]; omega
 have q := this l []
 simp only [List.length_nil, Nat.zero_add] at q
 exact q
end Go.Own

namespace Go.Own
theorem zH {α : Type} {l : List α} {i : Nat} {x : α} (h : l[i]? = some x) : idx l (i : Int) = some x := h
theorem z5J (b : List Int) (g : Nat → Int → Option Int) (hg : ∀ i x y, b[i]? = some y → g i x = if x < y then some (-1) else if y < x then some 1 else none) :
  ∀ (a : List Int) (k : Nat), k + a.length = b.length → (yp g a k).getD 0 = xJ a (b.drop k)
 | [], k, h => by
  have : b.drop k = [] := List.drop_eq_nil_of_le (by simp at h; omega)
  rw [this]; rfl
 | x :: a, k, h => by
  simp only [List.length_cons] at h
  have hk : k < b.length := by omega
  rw [List.drop_eq_getElem_cons hk]
  simp only [yp, xJ, hg k x b[k] (List.getElem?_eq_getElem hk)]
  by_cases h1 : x < b[k]
  ·simp [h1]
  ·by_cases h2 : b[k] < x
   ·simp [h1, h2]
   ·simp only [h1, h2, if_false]
    exact z5J b g hg a (k + 1) (by omega)
theorem Jv (a b : List Int) (h : a.length = b.length → a.length < 4611686018427387904) : wZ a b = some (uv a b) := by
 unfold wZ
 by_cases hl : a.length = b.length
 ·have h' := h hl
  simp only [hl, bne_self_eq_false, cond_false]
  rw [bdT (ul a h' (fun i x => match b[i]? with | some y => if x < y then some (-1 : Int) else if y < x then some 1 else none | none => none) ?_ ?_)]
  ·have q := z5J b (fun i x => match b[i]? with | some y => if x < y then some (-1 : Int) else if y < x then some 1 else none | none => none) (fun i x y hy => by simp only [hy]) a 0 (by omega)
   rw [List.drop_zero] at q
   have hc : uv a b = xJ a b := by unfold uv; rw [if_neg (by omega), if_neg (by omega)]
   rw [hc, ← q]
   cases yp (fun i x => match b[i]? with | some y => if x < y then some (-1 : Int) else if y < x then some 1 else none | none => none) a 0 <;> rfl
  ·intro i x hx
   have hi : i < a.length := (List.getElem?_eq_some_iff.1 hx).1
   have hy : b[i]? = some b[i] := List.getElem?_eq_getElem (by omega)
   unfold vm
   have hc : decide ((i : Int) < (a.length : Int)) = true := by simpa using hi
   simp only [hc, cond_true, zH hx, zH hy, hy, Option.bind_some]
   by_cases h1 : x < b[i]
   ·simp [h1, nS]
   ·by_cases h2 : b[i] < x
    ·simp [h1, h2, nS]
    ·simp [h1, h2, nS]
  ·unfold vm
   simp
 ·have h1 : (((a.length : Nat) : Int) != ((b.length : Nat) : Int)) = true := by simp; omega
  simp only [h1, cond_true]
  unfold uv
  by_cases h2 : a.length < b.length
  ·simp [h2]
  ·have h3 : b.length < a.length := by omega
   simp [h2, h3]
def cI (x y : Int) : Int := if x < y then -1 else if y < x then 1 else 0
theorem z5T (x y : Int) : wS x y = some (cI x y) := by
 unfold wS qb cI
 simp only [bne_self_eq_false, Option.bind_some, cond_false]
 by_cases h1 : x < y
 ·simp [h1]
 ·by_cases h2 : y < x
  ·simp [h1, h2]
  ·simp [h1, h2]
theorem z9h (a b : List Int) (h : a.length < 4611686018427387904) : ∃ c, yT a b = some c ∧ (a.length = b.length → c = xJ a b) := by
 unfold yT
 have hloop := ul a h (step := fun s => y8 a b s) (fun i x => match b[i]? with | some y => if x < y then some (-1 : Int) else if y < x then some 1 else none | none => some 1) (by
  intro i x hx
  have hi : i < a.length := (List.getElem?_eq_some_iff.1 hx).1
  unfold y8
  have hc : decide ((i : Int) < (a.length : Int)) = true := by simpa using hi
  simp only [hc, cond_true, zH hx, Option.bind_some]
  by_cases hb : i < b.length
  ·have hy : b[i]? = some b[i] := List.getElem?_eq_getElem hb
   have hd : decide ((i : Int) ≥ (b.length : Int)) = false := by simp; omega
   simp only [hd, cond_false, zH hy, hy, Option.bind_some, z5T]
   unfold cI
   by_cases h1 : x < b[i]
   ·simp [h1, nS]
   ·by_cases h2 : b[i] < x
    ·simp [h1, h2, nS]
    ·simp [h1, h2, nS]
  ·have hy : b[i]? = none := List.getElem?_eq_none (by omega)
   have hd : decide ((i : Int) ≥ (b.length : Int)) = true := by simp; omega
   simp only [hd, cond_true, hy, nS]) (by unfold y8; simp)
 rw [bdT hloop]
 have q := fun hl => z5J b (fun i x => match b[i]? with | some y => if x < y then some (-1 : Int) else if y < x then some 1 else none | none => some 1) (fun i x y hy => by simp only [hy]) a 0 hl
 cases hf : yp (fun i x => match b[i]? with | some y => if x < y then some (-1 : Int) else if y < x then some 1 else none | none => some 1) a 0 with
 | some r =>
  refine ⟨r, rfl, fun hl => ?_⟩
  have := q (by omega)
  rw [hf] at this
  simpa using this
 | none =>
  unfold yX
  by_cases hl : a.length < b.length
  ·refine ⟨-1, by simp [oS, hl], fun hl2 => by omega⟩
  ·refine ⟨0, by simp [oS, hl], fun hl2 => ?_⟩
   have := q (by omega)
   rw [hf] at this
   simpa using this
theorem zfO (x y : Int) : Y8 [x, y] = some (if x = 0 then y else x) := by
 unfold Y8
 rw [bdT (ul [x, y] (by simp) (step := fun s => ua [x, y] s) (fun i v => if v ≠ 0 then some v else none) ?_ ?_)]
 ·by_cases h1 : x = 0
  ·by_cases h2 : y = 0
   ·simp [yp, h1, h2, oS, kq]
   ·simp [yp, h1, h2, oS]
  ·simp [yp, h1, oS]
 ·intro i v hv
  have hi : i < [x, y].length := (List.getElem?_eq_some_iff.1 hv).1
  unfold ua
  have hc : decide ((i : Int) < (([x, y] : List Int).length : Int)) = true := by simp only [decide_eq_true_eq]; omega
  simp only [hc, cond_true, zH hv, Option.bind_some]
  by_cases h : v = 0
  ·simp [h, nS]
  ·have hb : (v != 0) = true := by simpa using h
   simp [h, hb, nS]
 ·unfold ua; simp
theorem U0 (a b : List Int) (h : a.length < 4611686018427387904) : yq a b = some (uv a b) := by
 unfold yq
 obtain ⟨c, hc, hl⟩ := z9h a b h
 rw [z5T, hc]
 simp only [Option.bind_some, zfO]
 unfold cI uv
 by_cases h1 : a.length < b.length
 ·simp [h1]
 ·by_cases h2 : b.length < a.length
  ·simp [h1, h2]
  ·simp [h1, h2, hl (by omega)]
def wE (n : Int) (w : List Int) : Int := if 256 < w.length then 3 else if w.any (fun c => decide (c < 0) || decide (n ≤ c)) then 1 else 0
theorem z4v {n : Int} {w : List Int} : wE n w = 0 ↔ w.length ≤ 256 ∧ ∀ c ∈ w, 0 ≤ c ∧ c < n := by
 unfold wE
 by_cases h : 256 < w.length
 ·rw [if_pos h]
  exact ⟨fun q => by simp at q, fun q => by omega⟩
 ·rw [if_neg h]
  by_cases h2 : w.any (fun c => decide (c < 0) || decide (n ≤ c)) = true
  ·rw [if_pos h2]
   simp only [List.any_eq_true, Bool.or_eq_true, decide_eq_true_eq] at h2
   obtain ⟨c, h3, h4⟩ := h2
   refine ⟨fun q => by simp at q, fun q => ?_⟩
   have := q.2 c h3
   omega
  ·rw [if_neg h2]
   simp only [List.any_eq_true, Bool.or_eq_true, decide_eq_true_eq, not_exists, not_and, not_or] at h2
   refine ⟨fun _ => ⟨by omega, fun c hc => ?_⟩, fun _ => rfl⟩
   have := h2 c hc
   omega
theorem z8s {ρ : Type} (p : Int → Bool) (g : Nat → Int → Option ρ) (hg : ∀ i x, (g i x).isSome = p x) : ∀ (w : List Int) (k : Nat), (yp g w k).isSome = w.any p
 | [], k => rfl
 | x :: w, k => by
  simp only [yp, List.any_cons]
  have := hg k x
  cases hx : g k x with
  | some r => rw [hx] at this; simp at this; simp [← this]
  | none => rw [hx] at this; simp at this; rw [this, Bool.false_or]; exact z8s p g hg w (k + 1)
theorem z4w (n : Int) (w : List Int) : qE w n = some (if 16 < n then 3 else if 256 < w.length then 3 else if n < 1 then 1 else wE n w) := by
 unfold qE
 by_cases h0 : 16 < n
 ·simp [h0]
 by_cases h : 256 < w.length
 ·have h' : (256 : Int) < (w.length : Int) := by omega
  simp [h0, h, h']
 by_cases h1 : n < 1
 ·have h' : ¬ (256 : Int) < (w.length : Int) := by omega
  simp [h0, h, h', h1]
 ·have hd : decide (((w.length : Nat) : Int) > 256) = false := by simp; omega
  have hd0 : decide (n > 16) = false := by simp; omega
  have hd1 : decide (n < 1) = false := by simp; omega
  simp only [hd, hd0, hd1, cond_false, if_neg h, if_neg h0, if_neg h1]
  unfold yz xm wE
  have hl := ul w (by omega) (step := fun s => zW w n s) (fun i c => if c < 0 ∨ n ≤ c then some (i : Int) else none) (by
   intro i c hc
   have hi : i < w.length := (List.getElem?_eq_some_iff.1 hc).1
   unfold zW jY
   have hq : decide ((i : Int) < (w.length : Int)) = true := by simpa using hi
   simp only [hq, cond_true, zH hc, Option.bind_some]
   by_cases h1 : c < 0
   ·simp [h1, nS]
   ·by_cases h2 : n ≤ c
    ·simp [h1, h2, nS]
    ·simp [h1, h2, nS]) (by unfold zW; simp)
  rw [bdT hl, if_neg h]
  have q := z8s (fun c => decide (c < 0) || decide (n ≤ c)) (fun i c => if c < 0 ∨ n ≤ c then some (i : Int) else none) (fun i c => by by_cases h : c < 0 ∨ n ≤ c <;> simp [h] <;> simpa using h) w 0
  cases hf : yp (fun i c => if c < 0 ∨ n ≤ c then some (i : Int) else none) w 0 with
  | none => rw [hf] at q; rw [← q]; rfl
  | some r =>
   rw [hf] at q
   obtain ⟨i, x, h1, h2⟩ := qY hf
   rw [← q]
   split at h2
   ·cases h2
    simp [oS]
   ·cases h2
def eS (e : Int) : Option Int := if e = 0 then none else some e
def loE (n : Int) (l : List (List Int)) : Int := if 16 < n then 3 else if 4096 < l.length then 3 else if n < 1 then 1 else (yp (fun _ w => eS (wE n w)) l 0).getD 0
theorem z3H {n : Int} : ∀ {l : List (List Int)} {k : Nat}, (yp (fun _ w => eS (wE n w)) l k).getD 0 = 0 ↔ ∀ w ∈ l, wE n w = 0
 | [], _ => by simp [yp]
 | w :: l, k => by
  by_cases h : wE n w = 0
  ·have : eS (wE n w) = none := by simp [eS, h]
   simp only [yp, this]
   rw [z3H]
   simp [h]
  ·have : eS (wE n w) = some (wE n w) := by simp [eS, h]
   simp [yp, this, h]
theorem Qh {n : Int} {l : List (List Int)} : loE n l = 0 ↔ (1 ≤ n ∧ n ≤ 16) ∧ l.length ≤ 4096 ∧ ∀ w ∈ l, w.length ≤ 256 ∧ ∀ c ∈ w, 0 ≤ c ∧ c < n := by
 unfold loE
 by_cases h0 : 16 < n
 ·rw [if_pos h0]; exact ⟨fun q => by simp at q, fun q => by omega⟩
 by_cases h1 : 4096 < l.length
 ·rw [if_neg h0, if_pos h1]; exact ⟨fun q => by simp at q, fun q => by omega⟩
 by_cases h2 : n < 1
 ·rw [if_neg h0, if_neg h1, if_pos h2]; exact ⟨fun q => by simp at q, fun q => by omega⟩
 rw [if_neg h0, if_neg h1, if_neg h2, z3H]
 constructor
 ·intro q; exact ⟨by omega, by omega, fun w hw => z4v.1 (q w hw)⟩
 ·intro q w hw; exact z4v.2 (q.2.2 w hw)
theorem z3t (l : List (List Int)) (n : Int) : qJ l n = some (loE n l) := by
 unfold qJ loE
 by_cases h0 : 16 < n
 ·simp [h0]
 by_cases h1 : 4096 < l.length
 ·have h' : (4096 : Int) < (l.length : Int) := by omega
  simp [h0, h1, h']
 by_cases h2 : n < 1
 ·have h' : ¬ (4096 : Int) < (l.length : Int) := by omega
  simp [h0, h1, h2, h']
 have d0 : decide (n > 16) = false := by simp; omega
 have d1 : decide (((l.length : Nat) : Int) > 4096) = false := by simp; omega
 have d2 : decide (n < 1) = false := by simp; omega
 simp only [d0, d1, d2, cond_false, if_neg h0, if_neg h1, if_neg h2]
 rw [bdT (ul l (by omega) (step := fun s => vt l n s) (fun _ w => eS (wE n w)) ?_ ?_)]
 ·cases yp (fun _ w => eS (wE n w)) l 0 <;> rfl
 ·intro i w hw
  have hi : i < l.length := (List.getElem?_eq_some_iff.1 hw).1
  have hq : decide ((i : Int) < (l.length : Int)) = true := by simpa using hi
  have he : qE w n = some (wE n w) := by
   rw [z4w, if_neg h0, if_neg h2]
   by_cases h : 256 < w.length
   ·rw [if_pos h]; unfold wE; rw [if_pos h]
   ·rw [if_neg h]
  unfold vt
  simp only [hq, cond_true, zH hw, Option.bind_some, he]
  by_cases hz : wE n w = 0
  ·simp [hz, eS, nS]
  ·have hb : (wE n w != 0) = true := by simpa using hz
   simp [hz, hb, eS, nS]
 ·unfold vt; simp
theorem z7i (l : List (List Int)) (hl : l.length < 4611686018427387904) {step : Int × Int → Option (LR (Int × Int) Int)}
  (h : ∀ (n : Int) (i : Nat) (x : List Int), l[i]? = some x → step (n, (i : Int)) = some (.next (w64 (n + ((x.length : Nat) : Int)), w64 ((i : Int) + 1)))) (h2 : ∀ n, step (n, (l.length : Int)) = some (.done n)) :
  loop step (0, 0) = some (l.foldl (fun n x => w64 (n + ((x.length : Nat) : Int))) 0) := by
 have gen : ∀ (m k : Nat) (n : Int), k ≤ l.length → l.length - k < m → XY step m (n, (k : Int)) = some ((l.drop k).foldl (fun n x => w64 (n + ((x.length : Nat) : Int))) n) := by
  intro m
  induction m with
  | zero => intro k n _ h; omega
  | succ m ih =>
   intro k n hk hn
   rw [kD]
   rcases Nat.lt_or_ge k l.length with hlt | hge
   ·have hx : l[k]? = some l[k] := List.getElem?_eq_getElem hlt
    rw [h n k _ hx, List.drop_eq_getElem_cons hlt]
    simp only [List.foldl_cons]
    rw [y9 (x := (k : Int) + 1) (by omega) (by omega)]
    exact ih (k + 1) _ hlt (by omega)
   ·have : k = l.length := by omega
    subst this
    rw [h2, List.drop_length]
    rfl
 exact gen YF 0 0 (Nat.zero_le _) (by show l.length - 0 < 18446744073709551616; omega)
def stW (l : List (List Int)) : Int := l.foldl (fun n x => w64 (n + ((x.length : Nat) : Int))) 0
theorem z31 (l : List (List Int)) (hl : l.length < 4611686018427387904) : qI l = some (stW l) := by
 unfold qI
 rw [bdT (z7i l hl (step := fun s => vp l s.1 s.2) ?_ ?_)]
 ·rfl
 ·intro n i x hx
  have hi : i < l.length := (List.getElem?_eq_some_iff.1 hx).1
  have hq : decide ((i : Int) < (l.length : Int)) = true := by simpa using hi
  unfold vp
  simp only [hq, cond_true, zH hx, Option.bind_some]
 ·intro n; unfold vp; simp
def qt (l : List (List Int)) : Nat := (l.map List.length).sum
theorem z86 {l : List (List Int)} (h : qt l < 4611686018427387904) : stW l = (qt l : Int) := by
 have gen : ∀ (l : List (List Int)) (n : Nat), n + qt l < 4611686018427387904 → l.foldl (fun n x => w64 (n + ((x.length : Nat) : Int))) (n : Int) = ((n + qt l : Nat) : Int) := by
  intro l
  induction l with
  | nil => intro n _; simp [qt]
  | cons x l ih =>
   intro n hn
   have hs : qt (x :: l) = x.length + qt l := by simp [qt]
   rw [hs] at hn ⊢
   rw [List.foldl_cons, y9 (by omega) (by omega), ← Int.natCast_add, ih (n + x.length) (by omega)]
   congr 1; omega
 have := gen l 0 (by omega)
 simpa [stW] using this
theorem z2o {l : List (List Int)} {m : Nat} (h : ∀ w ∈ l, w.length ≤ m) : qt l ≤ l.length * m := by
 induction l with
 | nil => simp [qt]
 | cons x l ih =>
  have hs : qt (x :: l) = x.length + qt l := by simp [qt]
  have h1 := h x (by simp)
  have h2 := ih fun w hw => h w (by simp [hw])
  rw [hs, List.length_cons, Nat.add_mul]
  omega
theorem z2Z : ∀ {l : List (List Int)}, SW l ↔ ∀ i x y, l[i]? = some x → l[i + 1]? = some y → uv x y < 0
 | [] => by simp [SW]
 | [x] => ⟨fun _ i a b _ h2 => by simp at h2, fun _ => by simp [SW]⟩
 | x :: y :: l => by
  constructor
  ·intro h i a b h1 h2
   cases i with
   | zero =>
    simp at h1 h2
    subst h1; subst h2
    exact h.head y (by simp)
   | succ i => exact z2Z.1 h.tail i a b (by simpa using h1) (by simpa using h2)
  ·intro h
   have ht : SW (y :: l) := z2Z.2 fun i a b h1 h2 => h (i + 1) a b (by simpa using h1) (by simpa using h2)
   have h0 := h 0 x y rfl rfl
   refine List.pairwise_cons.2 ⟨fun z hz => ?_, ht⟩
   rcases List.mem_cons.1 hz with rfl | hz
   ·exact h0
   ·exact ub h0 (ht.head z hz)
theorem z4a {α ρ : Type} (l : List α) (hl : l.length < 4611686018427387904) {step : Int → Option (LR Int (Unit ⊕ ρ))} (f : Nat → α → Option ρ)
  (h : ∀ (i : Nat) (x : α), 1 ≤ i → l[i]? = some x → step (i : Int) = some (nS i (f i x))) (h2 : ∀ k : Nat, l.length ≤ k → step (k : Int) = some (.done (.inl ()))) :
  loop step 1 = some (oS (yp f (l.drop 1) 1)) := by
 have gen : ∀ (n : Nat) (k : Nat), 1 ≤ k → l.length - k < n → XY step n (k : Int) = some (oS (yp f (l.drop k) k)) := by
  intro n
  induction n with
  | zero => intro k _ h; omega
  | succ n ih =>
   intro k hk hn
   rw [kD]
   rcases Nat.lt_or_ge k l.length with hlt | hge
   ·have hx : l[k]? = some l[k] := List.getElem?_eq_getElem hlt
    rw [h k _ hk hx, List.drop_eq_getElem_cons hlt]
    simp only [yp]
    cases hf : f k l[k] with
    | some r => rfl
    | none =>
     simp only [nS]
     rw [y9 (by omega) (by omega)]
     exact ih (k + 1) (by omega) (by omega)
   ·rw [h2 k hge, List.drop_eq_nil_of_le hge]
    rfl
 exact gen YF 1 (Nat.le_refl _) (by show l.length - 1 < 18446744073709551616; omega)
instance (l : List (List Int)) : Decidable (SW l) := by unfold SW; infer_instance
theorem z7A {ρ : Type} (l : List (List Int)) (r : ρ) : yp (fun i x => match l[i - 1]? with | some y => if 0 ≤ uv y x then some r else none | none => none) (l.drop 1) 1 = if SW l then none else some r := by
 by_cases hs : SW l
 ·rw [if_pos hs]
  refine Wr fun i x hx => ?_
  rw [List.getElem?_drop] at hx
  have hi : 1 + i < l.length := (List.getElem?_eq_some_iff.1 hx).1
  have hy : l[1 + i - 1]? = some l[i] := by rw [show 1 + i - 1 = i by omega]; exact List.getElem?_eq_getElem (by omega)
  rw [hy]
  have := z2Z.1 hs i l[i] x (List.getElem?_eq_getElem (by omega)) (by rw [Nat.add_comm]; exact hx)
  simp only
  rw [if_neg (by omega)]
 ·rw [if_neg hs]
  cases hf : yp (fun i x => match l[i - 1]? with | some y => if 0 ≤ uv y x then some r else none | none => none) (l.drop 1) 1 with
  | some r' =>
   obtain ⟨i, x, h1, h2⟩ := qY hf
   split at h2
   ·split at h2
    ·exact h2.symm
    ·cases h2
   ·cases h2
  | none =>
   exfalso
   refine hs (z2Z.2 fun i x y hx hy => ?_)
   have := ko hf i y (by rw [List.getElem?_drop, Nat.add_comm]; exact hy)
   rw [show 1 + i - 1 = i by omega, hx] at this
   simp only at this
   split at this
   ·cases this
   ·omega
theorem z7Z (l : List (List Int)) (h : l.length ≤ 4096) (hw : ∀ w ∈ l, w.length < 4611686018427387904) : kH l = some (decide (SW l)) := by
 unfold kH
 rw [bdT (z4a l (by omega) (step := fun s => vu l s) (fun i x => match l[i - 1]? with | some y => if 0 ≤ uv y x then some false else none | none => none) ?_ ?_), z7A]
 ·by_cases hs : SW l
  ·simp [hs, oS, je]
  ·simp [hs, oS]
 ·intro i x hi hx
  have hil : i < l.length := (List.getElem?_eq_some_iff.1 hx).1
  have hy : l[i - 1]? = some l[i - 1] := List.getElem?_eq_getElem (by omega)
  have hq : decide ((i : Int) < (l.length : Int)) = true := by simpa using hil
  unfold vu
  rw [y9 (x := (i : Int) - 1) (by omega) (by omega), show ((i : Int) - 1) = ((i - 1 : Nat) : Int) by omega]
  have hE := U0 l[i - 1] x (hw _ (List.getElem_mem (by omega)))
  simp only [hq, cond_true, zH hx, zH hy, Option.bind_some, hy, hE]
  by_cases hc : 0 ≤ uv l[i - 1] x
  ·simp [hc, nS]
  ·simp [hc, nS]
 ·intro k hk; unfold vu; have : decide ((k : Int) < (l.length : Int)) = false := by simp; omega
  simp only [this, cond_false]
def chE (n : Int) (l : List (List Int)) : Int := if loE n l ≠ 0 then loE n l else if SW l then (if 65536 < qt l then 3 else 0) else 1
theorem z3Q {n : Int} {l : List (List Int)} : chE n l = 0 ↔ loE n l = 0 ∧ SW l ∧ qt l ≤ 65536 := by
 unfold chE
 by_cases h : loE n l = 0
 ·rw [if_neg (by simp [h])]
  by_cases h2 : SW l
  ·rw [if_pos h2]
   by_cases h3 : 65536 < qt l
   ·rw [if_pos h3]; exact ⟨fun q => by simp at q, fun q => by omega⟩
   ·rw [if_neg h3]; exact ⟨fun _ => ⟨h, h2, by omega⟩, fun _ => rfl⟩
  ·rw [if_neg h2]; exact ⟨fun q => by simp at q, fun q => absurd q.2.1 h2⟩
 ·rw [if_pos h]; exact ⟨fun q => absurd q h, fun q => absurd q.1 h⟩
theorem z1B {n : Int} {l : List (List Int)} (h : loE n l = 0) : l.length ≤ 4096 ∧ (∀ w ∈ l, w.length ≤ 256) ∧ qt l ≤ 1048576 := by
 obtain ⟨_, h1, h2⟩ := Qh.1 h
 refine ⟨h1, fun w hw => (h2 w hw).1, ?_⟩
 have := z2o (m := 256) fun w hw => (h2 w hw).1
 omega
theorem z4B (l : List (List Int)) (n : Int) : qK l n = some (chE n l) := by
 unfold qK chE
 rw [z3t]
 simp only [Option.bind_some]
 by_cases h : loE n l = 0
 ·obtain ⟨h1, h2, h3⟩ := z1B h
  rw [z7Z l h1 fun w hw => by have := h2 w hw; omega, z31 l (by omega), z86 (by omega)]
  simp only [h, bne_self_eq_false, cond_false, Option.bind_some, ne_eq, not_true, if_false]
  by_cases hs : SW l
  ·by_cases hq : 65536 < qt l
   ·have : (65536 : Int) < (qt l : Int) := by omega
    simp [hs, hq, this]
   ·have : ¬ (65536 : Int) < (qt l : Int) := by omega
    simp [hs, hq, this]
  ·simp [hs]
 ·have hb : (loE n l != 0) = true := by simpa using h
  simp [h, hb]
end Go.Own

namespace Go.Own
theorem z0x (w : List Int) : ye w = some w := by
 unfold ye
 rw [gdT (by omega)]
 simp
theorem z3O (w : List Int) (h : w.length ≤ 4294967296) : yj w = some w := by
 unfold yj
 rw [gdT (by simpa using h)]
theorem z3e (a b : List Int) (h : a.length < 4611686018427387904) : vq a b = some (decide (a = b)) := by
 unfold vq
 rw [U0 a b h]
 simp only [Option.bind_some]
 by_cases e : a = b
 ·subst e; simp [XB]
 ·have : uv a b ≠ 0 := fun q => e (Jw q)
  simp [e, this]
def QW (l : List (List Int)) : Prop := l.Pairwise fun a b => ¬ uv b a < 0
theorem kh {α : Type} {l : List α} {n : Nat} {x : α} : x ∈ l.take n ↔ ∃ i, i < n ∧ l[i]? = some x := by
 rw [List.mem_iff_getElem?]
 constructor
 ·rintro ⟨i, h⟩
  rw [List.getElem?_take] at h
  split at h
  ·exact ⟨i, by omega, h⟩
  ·cases h
 ·rintro ⟨i, h1, h2⟩
  exact ⟨i, by rw [List.getElem?_take, if_pos h1]; exact h2⟩
theorem z4C {l : List (List Int)} {x : List Int} (h : SW l) (hx : ∀ y ∈ l, uv y x < 0) : SW (l ++ [x]) := by
 unfold SW
 rw [List.pairwise_append]
 exact ⟨h, by simp, fun a ha b hb => by simp at hb; subst hb; exact hx a ha⟩
section
variable {s : List (List Int)} (hq : QW s) (hl : s.length ≤ 4294967296) (hw : ∀ w ∈ s, w.length < 4611686018427387904)
include hq hl hw
omit hl hw in
theorem z7c {i j : Nat} {x y : List Int} (hi : s[i]? = some x) (hj : s[j]? = some y) (h : i ≤ j) : uv x y < 0 ∨ x = y := by
 rcases Nat.lt_or_ge i j with h | h
 ·have := (List.pairwise_iff_getElem.1 hq) i j (List.getElem?_eq_some_iff.1 hi).1 (List.getElem?_eq_some_iff.1 hj).1 h
  rw [(List.getElem?_eq_some_iff.1 hi).2, (List.getElem?_eq_some_iff.1 hj).2] at this
  rcases z0w.1 this with q | q
  ·exact .inl q
  ·exact .inr q.symm
 ·have : i = j := by omega
  subst this
  rw [hi] at hj
  exact .inr (by simpa using hj)
theorem z20 {k : Nat} (h1 : 1 ≤ k) (hk : k < s.length) (hd : s[k - 1]? = s[k]?) (hs : SW (s.take k)) :
  Ret (Option.bind (loop (fun q => zN (k : Int) q.1 q.2.1 q.2.2) (s, (k : Int), 1)) fun t => zP t.1 t.2) fun r => r = .done (.inr (srt s)) := by
 rw [w7]
 refine Ret.mono (u4 (fun q => ∃ kk k2 : Nat, q.2.1 = (kk : Int) ∧ q.2.2 = (k2 : Int) ∧ 1 ≤ k2 ∧ k + k2 ≤ s.length ∧ kk < k + k2 ∧ q.1.length = s.length ∧ (∀ i, kk ≤ i → q.1[i]? = s[i]?) ∧ SW (q.1.take kk) ∧ ∀ x, x ∈ q.1.take kk ↔ x ∈ s.take (k + k2)) (fun q => s.length - q.2.2.toNat) (R := fun t => ∃ kk : Nat, t.2 = (kk : Int) ∧ kk ≤ s.length ∧ t.1.length = s.length ∧ t.1.take kk = srt s) ?_ ?_ ?_) ?_
 ·refine ⟨k, 1, rfl, rfl, Nat.le_refl _, hk, by omega, rfl, fun _ _ => rfl, hs, fun x => ?_⟩
  rw [kh, kh]
  constructor
  ·rintro ⟨i, h2, h3⟩; exact ⟨i, by omega, h3⟩
  ·rintro ⟨i, h2, h3⟩
   rcases Nat.lt_or_ge i k with h | h
   ·exact ⟨i, h, h3⟩
   ·have : i = k := by omega
    subst this
    exact ⟨i - 1, by omega, by rw [hd]; exact h3⟩
 ·show s.length - _ < _
  omega
 ·rintro ⟨S, a, b⟩ ⟨kk, k2, rfl, rfl, g1, g2, g3, g4, g5, g6, g7⟩
  simp only at g4 g5 g6 g7
  show Ret (zN (k : Int) S (kk : Int) (k2 : Int)) _
  unfold zN
  rw [wB]
  refine ⟨fun hc => ?_, fun hc => ?_⟩
  ·have hlt : k2 < s.length - k := by rw [g4] at hc; simpa using hc
   have e1 : s[k + k2]? = some s[k + k2] := List.getElem?_eq_getElem (by omega)
   have e2 : s[k + k2 - 1]? = some s[k + k2 - 1] := List.getElem?_eq_getElem (by omega)
   have f1 : idx S ((k : Int) + (k2 : Int)) = some s[k + k2] := by
    rw [← Int.natCast_add, qW, g5 _ (by omega), e1]
   have f2 : idx S ((k : Int) + w64 ((k2 : Int) - 1)) = some s[k + k2 - 1] := by
    rw [y9 (by omega) (by omega), show (k : Int) + ((k2 : Int) - 1) = ((k + k2 - 1 : Nat) : Int) by omega, qW, g5 _ (by omega), e2]
   rw [gdT (by omega), f1]
   simp only [Option.bind_some]
   rw [gdT (by rw [y9 (by omega) (by omega)]; omega), f2]
   simp only [Option.bind_some]
   rw [z3e _ _ (hw _ (List.getElem_mem (by omega)))]
   simp only [Option.bind_some]
   have hk2 : w64 ((k2 : Int) + 1) = ((k2 + 1 : Nat) : Int) := by rw [y9 (by omega) (by omega)]; omega
   by_cases he : s[k + k2] = s[k + k2 - 1]
   ·simp only [he, decide_true, Bool.not_true, cond_false]
    unfold zO
    rw [hk2, zt]
    refine ⟨⟨kk, k2 + 1, rfl, rfl, by omega, by omega, by omega, g4, g5, g6, fun x => ?_⟩, by simp only [Int.toNat_natCast]; omega⟩
    rw [g7, kh, kh]
    constructor
    ·rintro ⟨i, h2, h3⟩; exact ⟨i, by omega, h3⟩
    ·rintro ⟨i, h2, h3⟩
     rcases Nat.lt_or_ge i (k + k2) with h | h
     ·exact ⟨i, h, h3⟩
     ·have : i = k + k2 := by omega
      subst this
      exact ⟨k + k2 - 1, by omega, by rw [e2, ← he, ← e1]; exact h3⟩
   ·simp only [he, decide_false, Bool.not_false, cond_true]
    rw [gdT (by omega)]
    have e3 : idx S (kk : Int) = some s[kk] := by rw [qW, g5 _ (Nat.le_refl _), List.getElem?_eq_getElem (by omega)]
    rw [e3]
    simp only [Option.bind_some]
    unfold zO
    rw [hk2, y9 (x := (kk : Int) + 1) (by omega) (by omega), zt]
    have hset : (S.set ((kk : Int).toNat) s[k + k2]).take (kk + 1) = S.take kk ++ [s[k + k2]] := by
     rw [Int.toNat_natCast, List.take_add_one, List.take_set_of_le (Nat.le_refl _), List.getElem?_set_self (by omega)]
     rfl
    refine ⟨⟨kk + 1, k2 + 1, rfl, rfl, by omega, by omega, by omega, by simp [g4], fun i hi => ?_, ?_, fun x => ?_⟩, by simp only [Int.toNat_natCast]; omega⟩
    ·simp only
     rw [List.getElem?_set_ne (by omega), g5 _ (by omega)]
    ·simp only
     rw [hset]
     refine z4C g6 fun y hy => ?_
     obtain ⟨i, h2, h3⟩ := kh.1 ((g7 y).1 hy)
     have hlast : uv s[k + k2 - 1] s[k + k2] < 0 := by
      rcases z7c hq e2 e1 (by omega) with q | q
      ·exact q
      ·exact absurd q.symm he
     rcases z7c hq h3 e2 (by omega) with q | q
     ·exact ub q hlast
     ·rw [q]; exact hlast
    ·simp only
     rw [hset, List.mem_append, g7, kh, kh]
     constructor
     ·rintro (⟨i, h2, h3⟩ | h)
      ·exact ⟨i, by omega, h3⟩
      ·simp at h; subst h; exact ⟨k + k2, by omega, e1⟩
     ·rintro ⟨i, h2, h3⟩
      rcases Nat.lt_or_ge i (k + k2) with h | h
      ·exact .inl ⟨i, h, h3⟩
      ·have : i = k + k2 := by omega
       subst this
       rw [e1] at h3
       exact .inr (by simpa using h3.symm)
  ·have hge : s.length - k ≤ k2 := by rw [g4] at hc; simpa using hc
   have hkk : k + k2 = s.length := by omega
   rw [zt]
   refine ⟨kk, rfl, by omega, g4, z4H g6 fun x => ?_⟩
   rw [g7, hkk, List.take_length]
 ·rintro ⟨S, a⟩ ⟨kk, rfl, h1, h2, h3⟩
  simp only at h2 h3
  show Ret (zP S (kk : Int)) _
  unfold zP
  have hlen : (S.take (kk : Int).toNat ++ List.replicate (S.length - (kk : Int).toNat) ([] : List Int)).length = S.length := by simp [List.length_take]; omega
  rw [gdT (by omega), gdT (by omega), gdT (by rw [hlen]; omega), zt]
  simp only [Int.toNat_natCast]
  rw [List.take_left' (by rw [List.length_take]; omega), h3]
theorem z4g : yd s () = some (srt s) := by
 unfold yd
 by_cases h2 : s.length < 2
 ·have hd : decide (((s.length : Nat) : Int) < 2) = true := by simp; omega
  simp only [hd, cond_true]
  rw [QH]
  match s, h2 with
  | [], _ => exact SW.nil
  | [x], _ => simp [SW]
 ·have hd : decide (((s.length : Nat) : Int) < 2) = false := by simp; omega
  simp only [hd, cond_false]
  apply Ret.eq
  rw [w7]
  refine Ret.mono (u4 (fun q : Int => ∃ j : Nat, q = (j : Int) ∧ 1 ≤ j ∧ j ≤ s.length ∧ SW (s.take j)) (fun q => s.length - q.toNat) (R := fun t : Unit ⊕ List (List Int) => match t with | .inl _ => srt s = s | .inr p => p = srt s) ?_ ?_ ?_) ?_
  ·refine ⟨1, rfl, Nat.le_refl _, by omega, ?_⟩
   match s, h2 with
   | [], h2 => simp at h2
   | x :: l, _ => simp [SW]
  ·show s.length - _ < _
   omega
  ·rintro _ ⟨j, rfl, g1, g2, g3⟩
   show Ret (zZ s (j : Int)) _
   unfold zZ
   rw [wB]
   refine ⟨fun hc => ?_, fun hc => ?_⟩
   ·have hj : j < s.length := by simpa using hc
    have e1 : s[j]? = some s[j] := List.getElem?_eq_getElem hj
    have e2 : s[j - 1]? = some s[j - 1] := List.getElem?_eq_getElem (by omega)
    rw [y9 (x := (j : Int) - 1) (by omega) (by omega), show (j : Int) - 1 = ((j - 1 : Nat) : Int) by omega, zH e1, zH e2]
    simp only [Option.bind_some]
    rw [z3e _ _ (hw _ (List.getElem_mem hj))]
    simp only [Option.bind_some]
    by_cases he : s[j] = s[j - 1]
    ·simp only [he, decide_true, cond_true]
     rw [gdT (by omega)]
     refine (z20 hq hl hw g1 hj (by rw [e1, e2, he]) g3).mono ?_
     rintro _ rfl
     rfl
    ·simp only [he, decide_false, cond_false]
     unfold yl
     rw [y9 (by omega) (by omega), zt]
     refine ⟨⟨j + 1, rfl, by omega, hj, ?_⟩, by simp only [Int.toNat_natCast]; omega⟩
     have : s.take (j + 1) = s.take j ++ [s[j]] := by rw [List.take_add_one, e1]; rfl
     rw [this]
     refine z4C g3 fun y hy => ?_
     obtain ⟨i, h3, h4⟩ := kh.1 hy
     have hlast : uv s[j - 1] s[j] < 0 := by
      rcases z7c hq e2 e1 (by omega) with q | q
      ·exact q
      ·exact absurd q.symm he
     rcases z7c hq h4 e2 (by omega) with q | q
     ·exact ub q hlast
     ·rw [q]; exact hlast
   ·have hj : j = s.length := by
     have : ¬ j < s.length := by simpa using hc
     omega
    rw [zt]
    show srt s = s
    rw [hj, List.take_length] at g3
    exact QH g3
  ·rintro (u | p) h
   ·show Ret (some s) _
    rw [zt]
    exact h.symm
   ·show Ret (some p) _
    rw [zt]
    exact h
end
theorem z1b (l : List (List Int)) : SOk uv l :=
 ⟨fun x _ => Ql x, fun x _ y _ z _ h1 h2 => ub h1 h2, fun x _ y _ h1 h2 => by
  rcases z0w.1 h1 with q | q
  ·exact absurd q h2
  ·exact q⟩
theorem z6M {l m : List (List Int)} (h : l.Perm m) : srt l = srt m := z1a fun x => h.mem_iff
theorem Jj {c d : List Int → List Int → Int} : ∀ {l : List (List Int)}, (∀ x ∈ l, ∀ y ∈ l, c x y = d x y) → Wp c l = Wp d l
 | [], _ => rfl
 | x :: l, h => by
  have ih := Jj (c := c) (d := d) (l := l) fun a ha b hb => h a (by simp [ha]) b (by simp [hb])
  show z4p c x (Wp c l) = z4p d x (Wp d l)
  rw [ih]
  have gen : ∀ m : List (List Int), (∀ y ∈ m, y ∈ l) → z4p c x m = z4p d x m := by
   intro m
   induction m with
   | nil => intro _; rfl
   | cons y m ih2 =>
    intro hm
    simp only [z4p]
    rw [h y (by simp [hm y (by simp)]) x (by simp), ih2 fun z hz => hm z (by simp [hz])]
  exact gen _ fun y hy => (qV d l).mem_iff.1 hy
def soR (l : List (List Int)) : List (List Int) × Int := if 4096 < (srt l).length ∨ 65536 < qt (srt l) then ([], 3) else (srt l, 0)
theorem z05 {l : List (List Int)} (hl : l.length ≤ 100000) (hw : ∀ w ∈ l, w.length ≤ 4294967296) : yI l = some (soR l) := by
 unfold yI wo
 rw [gdT (by simp; omega)]
 simp only [Option.bind_some]
 have hc : ∀ x ∈ l, ∀ y, yq x y = some (uv x y) := fun x hx y => U0 x y (by have := hw x hx; omega)
 have hso : z4K (fun x y => yq x y) l = some (Wp uv l) := by
  unfold z4K
  rw [gdT ⟨by omega, fun x hx y hy => by simp only [hc x hx y]; rfl⟩]
  have hcc : ∀ x ∈ l, ∀ y ∈ l, (yq x y).getD 0 = uv x y := fun x hx y _ => by rw [hc x hx y]; rfl
  rw [gdT, Jj (c := fun x y => (yq x y).getD 0) (d := uv) hcc]
  have q := z1b l
  refine ⟨fun x hx => by show ¬ (yq x x).getD 0 < 0; rw [hcc x hx x hx]; exact q.1 x hx, fun x hx y hy z hz h1 h2 => ?_, fun x hx y hy h1 h2 => ?_⟩
  ·simp only [hcc x hx y hy, hcc y hy z hz, hcc x hx z hz] at h1 h2 ⊢
   exact q.2.1 x hx y hy z hz h1 h2
  ·simp only [hcc x hx y hy, hcc y hy x hx] at h1 h2
   exact q.2.2 x hx y hy h1 h2
 rw [hso]
 simp only [Option.bind_some]
 have hp := qV uv l
 have hq : QW (Wp uv l) := Xw (z1b l) (fun y hy => hy)
 rw [z4g hq (by rw [hp.length_eq]; omega) (fun w h => by have := hw w (hp.mem_iff.1 h); omega)]
 simp only [Option.bind_some]
 unfold yC
 simp only [Option.bind_some]
 rw [z6M hp]
 have hlen : (srt l).length ≤ 100000 := Nat.le_trans (QI l) hl
 have hws : ∀ w ∈ srt l, w.length ≤ 4294967296 := fun w h => hw w (ZJ.1 h)
 unfold soR
 generalize srt l = r at hlen hws
 have hsy : qt r ≤ 100000 * 4294967296 := Nat.le_trans (z2o hws) (Nat.mul_le_mul_right _ hlen)
 by_cases h1 : 4096 < r.length
 ·have : (4096 : Int) < (r.length : Int) := by omega
  simp [h1, this]
 ·have d1 : decide (((r.length : Nat) : Int) > 4096) = false := by simp; omega
  simp only [d1, cond_false]
  rw [z31 r (by omega), z86 (by omega)]
  simp only [Option.bind_some]
  by_cases h2 : 65536 < qt r
  ·have : (65536 : Int) < (qt r : Int) := by omega
   simp [h2, this]
  ·have d2 : decide (((qt r : Nat) : Int) > 65536) = false := by simp; omega
   simp only [d2, cond_false]
   rw [if_neg (by omega)]
   have hloop := up (step := fun s => x3 r s.1 s.2) (fun i => ((r.take i).map (fun q => (q, true)) ++ (r.drop i).map (fun q => (q, false)), (i : Int))) r.length (t := r.map fun q => (q, true)) (by omega) (by
    intro i hi
    have hA : ((r.take i).map (fun q : List Int => (q, true))).length = i := by rw [List.length_map, List.length_take]; omega
    have hd : r.drop i = r[i] :: r.drop (i + 1) := List.drop_eq_getElem_cons hi
    have hx : ((r.take i).map (fun q => (q, true)) ++ (r.drop i).map (fun q => (q, false)))[i]? = some (r[i], false) := by
     rw [List.getElem?_append_right (by omega), hA, hd]; simp
    show x3 r _ (i : Int) = _
    unfold x3
    have hq : decide ((i : Int) < ((r.length - (0 : Int).toNat : Nat) : Int)) = true := by simpa using hi
    simp only [hq, cond_true]
    rw [gdT (by omega), Int.zero_add, zH hx]
    simp only [Option.bind_some]
    rw [z3O _ (hws _ (List.getElem_mem hi))]
    simp only [Option.bind_some, z0x, Int.toNat_natCast]
    rw [y9 (by omega) (by omega)]
    congr 3
    rw [List.set_append_right _ _ (by omega), hA, hd, List.take_add_one, List.getElem?_eq_getElem hi]
    simp only [Nat.sub_self, List.map_cons, List.set_cons_zero, List.map_append, Option.toList_some, List.map_nil, List.append_assoc, List.cons_append, List.nil_append]) (by
    show x3 r _ (r.length : Int) = _
    unfold x3
    simp)
   have h0 : ((r.take 0).map (fun q => (q, true)) ++ (r.drop 0).map (fun q => (q, false)), ((0 : Nat) : Int)) = (r.map (fun q => (q, false)), (0 : Int)) := by simp
   rw [h0] at hloop
   rw [hloop]
   simp only [Option.bind_some]
   unfold uM
   rw [gdT (by intro q hq; obtain ⟨_, _, rfl⟩ := List.mem_map.1 hq; rfl)]
   simp [List.map_map, Function.comp_def]
end Go.Own

namespace Go.Own
def UB (a : Nat) (w : List Int) : List (List Int) := (List.range a).map fun s : Nat => w ++ [(s : Int)]
def exW (a : Nat) : Nat → List (List Int)
 | 0 => [[]]
 | k + 1 => (exW a k).flatMap (UB a)
theorem z7B (a : Nat) (w : List Int) : (UB a w).length = a := by simp [UB]
theorem z0p (a : Nat) (l : List (List Int)) : (l.flatMap (UB a)).length = l.length * a := by
 induction l with
 | nil => simp
 | cons w l ih => rw [List.flatMap_cons, List.length_append, ih, z7B, List.length_cons, Nat.succ_mul]; omega
theorem ZL (a : Nat) : ∀ k, (exW a k).length = a ^ k
 | 0 => rfl
 | k + 1 => by rw [exW, z0p, ZL, Nat.pow_succ]
theorem kp (a : Nat) : ∀ k, ∀ w ∈ exW a k, w.length = k
 | 0, w, h => by simp [exW] at h; subst h; rfl
 | k + 1, w, h => by
  rw [exW, List.mem_flatMap] at h
  obtain ⟨v, h1, h2⟩ := h
  simp only [UB, List.mem_map] at h2
  obtain ⟨s, _, rfl⟩ := h2
  simp [kp a k v h1]
theorem zbp {a : Nat} (ha : a ≤ 16) {w : List Int} (hw : w.length ≤ 1000) {nx : List (List Int)} (hn : nx.length ≤ 10000000) :
  loop (fun s => wk (a : Int) w s.1 s.2) (nx, 0) = some (nx ++ UB a w) := by
 have h := up (step := fun s => wk (a : Int) w s.1 s.2) (fun i => (nx ++ (List.range i).map (fun s : Nat => w ++ [(s : Int)]), (i : Int))) a (t := nx ++ UB a w) (by omega) (by
  intro i hi
  show wk (a : Int) w _ (i : Int) = _
  unfold wk
  have hq : decide ((i : Int) < (a : Int)) = true := by simpa using hi
  simp only [hq, cond_true, z0x, Option.bind_some]
  rw [gdT (by simp; omega), gdT (by simp; omega), y9 (by omega) (by omega), List.range_succ, List.map_append, List.append_assoc]
  rfl) (by
  show wk (a : Int) w _ (a : Int) = _
  unfold wk
  simp [UB])
 have h0 : ((nx ++ (List.range 0).map (fun s : Nat => w ++ [(s : Int)])), ((0 : Nat) : Int)) = (nx, (0 : Int)) := by simp
 rw [h0] at h
 exact h
theorem zba {a : Nat} (ha : a ≤ 16) {l : List (List Int)} (hw : ∀ w ∈ l, w.length ≤ 1000) (hl : l.length ≤ 100000) :
  loop (fun s => wl (a : Int) l s.1 s.2) (([] : List (List Int)), 0) = some (l.flatMap (UB a)) := by
 have h := up (step := fun s => wl (a : Int) l s.1 s.2) (fun i => ((l.take i).flatMap (UB a), (i : Int))) l.length (t := l.flatMap (UB a)) (by omega) (by
  intro i hi
  show wl (a : Int) l _ (i : Int) = _
  unfold wl
  have hq : decide ((i : Int) < (l.length : Int)) = true := by simpa using hi
  have hx : l[i]? = some l[i] := List.getElem?_eq_getElem hi
  have hlen : ((l.take i).flatMap (UB a)).length ≤ 10000000 := by
   rw [z0p, List.length_take]
   have : min i l.length * a ≤ 100000 * 16 := Nat.mul_le_mul (by omega) ha
   omega
  simp only [hq, cond_true, zH hx, Option.bind_some]
  rw [bdT (zbp ha (hw _ (List.getElem_mem hi)) hlen)]
  unfold Zp
  rw [y9 (by omega) (by omega), List.take_add_one, hx, List.flatMap_append]
  simp) (by
  show wl (a : Int) l _ (l.length : Int) = _
  unfold wl
  simp)
 simpa using h
def uW (a f : Nat) : Nat → List (List Int)
 | 0 => []
 | k + 1 => if f ≤ k then uW a f k ++ exW a k else uW a f k
def syW (a f : Nat) : Nat → Nat
 | 0 => 0
 | k + 1 => if f ≤ k then syW a f k + k * a ^ k else syW a f k
def Zg (a f t k : Nat) : Prop := 4096 < (uW a f (k + 1)).length ∨ 65536 < syW a f (k + 1) ∨ k < t ∧ 4096 < a ^ k * a
instance (a f t k : Nat) : Decidable (Zg a f t k) := by unfold Zg; infer_instance
theorem z6e {a f t k : Nat} (ha : 1 ≤ a ∧ a ≤ 16) (hf : f ≤ 256) (ht : t ≤ 256) (hk : k ≤ t) (ho : (uW a f k).length ≤ 4096) (hs : syW a f k ≤ 65536) (hl : a ^ k ≤ 4096) :
  wW (a : Int) (f : Int) (t : Int) (uW a f k) (exW a k) (syW a f k : Int) (k : Int) = if Zg a f t k then some (.done ([], 3)) else if k = t then Option.bind (yI (uW a f (k + 1))) (fun r => some (.done (r.1, r.2))) else some (.next (uW a f (k + 1), exW a (k + 1), (syW a f (k + 1) : Int), ((k + 1 : Nat) : Int))) := by
 have hmul : k * a ^ k ≤ 256 * 4096 := Nat.mul_le_mul (by omega) hl
 have hma : a ^ k * a ≤ 4096 * 16 := Nat.mul_le_mul hl ha.2
 have e : wW (a : Int) (f : Int) (t : Int) (uW a f k) (exW a k) (syW a f k : Int) (k : Int) = uC (a : Int) (t : Int) (exW a k) (k : Int) (uW a f (k + 1)) (syW a f (k + 1) : Int) := by
  unfold wW
  by_cases h : f ≤ k
  ·have hd : decide ((k : Int) ≥ (f : Int)) = true := by simpa using h
   simp only [hd, cond_true]
   have hm : w64 ((k : Int) * ((exW a k).length : Int)) = ((k * a ^ k : Nat) : Int) := by
    rw [ZL, ← Int.natCast_mul, y9 (by omega) (by omega)]
   rw [gdT (by rw [ZL]; omega), hm, y9 (by omega) (by omega)]
   simp only [uW, syW, if_pos h]
   congr 1
  ·have hd : decide ((k : Int) ≥ (f : Int)) = false := by simp; omega
   simp only [hd, cond_false, uW, syW, if_neg h]
 rw [e]
 unfold uC
 by_cases h1 : 4096 < (uW a f (k + 1)).length
 ·have : decide (((uW a f (k + 1)).length : Int) > 4096) = true := by simp only [decide_eq_true_eq]; omega
  simp only [this, cond_true]
  rw [if_pos (show Zg a f t k from .inl h1)]
 have d1 : decide (((uW a f (k + 1)).length : Int) > 4096) = false := by simp; omega
 simp only [d1, cond_false]
 by_cases h2 : 65536 < syW a f (k + 1)
 ·have : decide ((syW a f (k + 1) : Int) > 65536) = true := by simp only [decide_eq_true_eq]; omega
  simp only [this, cond_true]
  rw [if_pos (show Zg a f t k from .inr (.inl h2))]
 have d2 : decide ((syW a f (k + 1) : Int) > 65536) = false := by simp; omega
 simp only [d2, cond_false]
 have hm : w64 (((exW a k).length : Int) * (a : Int)) = ((a ^ k * a : Nat) : Int) := by
  rw [ZL, ← Int.natCast_mul, y9 (by omega) (by omega)]
 rw [hm]
 have J4 : ∀ (hns : ¬ (k < t ∧ 4096 < a ^ k * a)) (b : Bool), uB (a : Int) (t : Int) (exW a k) (k : Int) (uW a f (k + 1)) (syW a f (k + 1) : Int) b = if k = t then Option.bind (yI (uW a f (k + 1))) (fun r => some (.done (r.1, r.2))) else some (.next (uW a f (k + 1), exW a (k + 1), (syW a f (k + 1) : Int), ((k + 1 : Nat) : Int))) := by
  intro hns b
  unfold uB
  by_cases hkt : k = t
  ·subst hkt
   simp
  ·have hd : ((k : Int) == (t : Int)) = false := by simp; omega
   simp only [hd, cond_false, if_neg hkt]
   rw [bdT (zba ha.2 (fun w hw => by rw [kp a k w hw]; omega) (by rw [ZL]; omega))]
   unfold Zq Zr
   rw [y9 (by omega) (by omega)]
   rfl
 by_cases hkt : k < t
 ·have hd : decide ((k : Int) < (t : Int)) = true := by simpa using hkt
  simp only [hd, cond_true]
  by_cases h3 : 4096 < a ^ k * a
  ·have : decide (((a ^ k * a : Nat) : Int) > 4096) = true := by simp only [decide_eq_true_eq]; omega
   simp only [this, cond_true]
   rw [if_pos (show Zg a f t k from .inr (.inr ⟨hkt, h3⟩))]
  ·have : decide (((a ^ k * a : Nat) : Int) > 4096) = false := by simp only [decide_eq_false_iff_not]; omega
   simp only [this, cond_false]
   rw [J4 (by omega), if_neg (show ¬ Zg a f t k by unfold Zg; omega)]
 ·have hd : decide ((k : Int) < (t : Int)) = false := by simp; omega
  simp only [hd, cond_false]
  rw [J4 (by omega), if_neg (show ¬ Zg a f t k by unfold Zg; omega)]
theorem z0m {a f t k : Nat} (ha : 1 ≤ a) (hs : ¬ Zg a f t k) (hk : k < t) : (uW a f (k + 1)).length ≤ 4096 ∧ syW a f (k + 1) ≤ 65536 ∧ a ^ (k + 1) ≤ 4096 := by
 unfold Zg at hs
 rw [Nat.pow_succ]
 omega
theorem z6f {a f t : Nat} (ha : 1 ≤ a ∧ a ≤ 16) (hf : f ≤ 256) (ht : t ≤ 256) {r : Option (List (List Int) × Int)}
  (hr : (∃ j, j ≤ t ∧ Zg a f t j) → r = some ([], 3)) (hr2 : (∀ j, j ≤ t → ¬ Zg a f t j) → r = Option.bind (yI (uW a f (t + 1))) fun r => some (r.1, r.2)) :
  ∀ (m k : Nat), k ≤ t → t - k < m → (∀ j, j < k → ¬ Zg a f t j) → (uW a f k).length ≤ 4096 → syW a f k ≤ 65536 → a ^ k ≤ 4096 → XY (fun s => wW (a : Int) (f : Int) (t : Int) s.1 s.2.1 s.2.2.1 s.2.2.2) m (uW a f k, exW a k, (syW a f k : Int), (k : Int)) = r
 | 0, k, _, h, _, _, _, _ => by omega
 | m + 1, k, hk, hm, hns, h1, h2, h3 => by
  rw [kD]
  dsimp only
  rw [z6e ha hf ht hk h1 h2 h3]
  by_cases hst : Zg a f t k
  ·rw [if_pos hst, hr ⟨k, hk, hst⟩]
  ·rw [if_neg hst]
   by_cases hkt : k = t
   ·subst hkt
    rw [if_pos rfl, hr2 fun j hj => by
     rcases Nat.lt_or_ge j k with q | q
     ·exact hns j q
     ·rw [show j = k by omega]; exact hst]
    cases yI (uW a f (k + 1)) <;> rfl
   ·rw [if_neg hkt]
    obtain ⟨q1, q2, q3⟩ := z0m ha.1 hst (by omega)
    exact z6f ha hf ht hr hr2 m (k + 1) (by omega) (by omega) (fun j hj => by
     rcases Nat.lt_or_ge j k with q | q
     ·exact hns j q
     ·rw [show j = k by omega]; exact hst) q1 q2 q3
theorem zbC {a f t : Nat} (ha : 1 ≤ a ∧ a ≤ 16) (hf : f ≤ 256) (ht : t ≤ 256) {r : Option (List (List Int) × Int)}
  (hr : (∃ j, j ≤ t ∧ Zg a f t j) → r = some ([], 3)) (hr2 : (∀ j, j ≤ t → ¬ Zg a f t j) → r = Option.bind (yI (uW a f (t + 1))) fun r => some (r.1, r.2)) :
  Y0 (a : Int) (f : Int) (t : Int) = r := by
 unfold Y0
 have d1 : decide ((a : Int) > 16) = false := by simp; omega
 have d2 : decide ((a : Int) < 1) = false := by simp; omega
 have d3 : decide ((t : Int) < 0) = false := by simp
 have d4 : decide ((t : Int) > 256) = false := by simp; omega
 simp only [d1, d2, d3, d4, cond_false]
 have h := z6f ha hf ht hr hr2 YF 0 (Nat.zero_le _) (by show t - 0 < 18446744073709551616; omega) (fun j hj => by omega) (by simp [uW]) (by simp [syW]) (by simp)
 have h' : loop (fun s => wW (a : Int) (f : Int) (t : Int) s.1 s.2.1 s.2.2.1 s.2.2.2) (([] : List (List Int)), ([[]] : List (List Int)), 0, 0) = r := h
 rw [h']
 cases r <;> rfl
end Go.Own

namespace Go.Own
theorem z57 {l : List (List Int)} (hs : SW l) {w : List Int} {i : Nat} (hi : i ≤ l.length) (h1 : ∀ m x, m < i → l[m]? = some x → uv x w < 0) (h2 : ∀ m x, i ≤ m → l[m]? = some x → uv w x < 0) : l.take i ++ w :: l.drop i = Kq w l := by
 have ht : ∀ x ∈ l.take i, uv x w < 0 := fun x hx => by
  obtain ⟨m, q1, q2⟩ := kh.1 hx
  exact h1 m x q1 q2
 have hd : ∀ x ∈ l.drop i, uv w x < 0 := fun x hx => by
  obtain ⟨m, q⟩ := List.mem_iff_getElem?.1 hx
  rw [List.getElem?_drop] at q
  exact h2 (i + m) x (by omega) q
 refine SW.unique ?_ hs.put fun x => ?_
 ·unfold SW
  rw [List.pairwise_append, List.pairwise_cons]
  refine ⟨hs.sub (List.take_sublist _ _), ⟨hd, hs.sub (List.drop_sublist _ _)⟩, fun a ha b hb => ?_⟩
  rcases List.mem_cons.1 hb with rfl | hb
  ·exact ht a ha
  ·exact ub (ht a ha) (hd b hb)
 ·rw [WT]
  have : x ∈ l ↔ x ∈ l.take i ∨ x ∈ l.drop i := by rw [← List.mem_append, List.take_append_drop]
  rw [this]
  simp only [List.mem_append, List.mem_cons]
  constructor
  ·rintro (h | h | h) <;> simp [h]
  ·rintro (h | h | h) <;> simp [h]
theorem z8h {l : List (List Int)} (hs : SW l) (hl : l.length ≤ 1000000) (hw : ∀ x ∈ l, x.length < 4611686018427387904) {w : List Int} (hww : w.length ≤ 4294967296) : Y2 l w = some (Kq w l) := by
 unfold Y2
 apply Ret.eq
 rw [w7]
 refine Ret.mono (u4 (fun q : Int × Int => ∃ i j : Nat, q = ((i : Int), (j : Int)) ∧ i ≤ j ∧ j ≤ l.length ∧ (∀ m x, m < i → l[m]? = some x → uv x w < 0) ∧ ∀ m x, j ≤ m → l[m]? = some x → ¬ uv x w < 0) (fun q => (q.2 - q.1).toNat) (R := fun t => ∃ i : Nat, t = (i : Int) ∧ i ≤ l.length ∧ (∀ m x, m < i → l[m]? = some x → uv x w < 0) ∧ ∀ m x, i ≤ m → l[m]? = some x → ¬ uv x w < 0) ?_ ?_ ?_) ?_
 ·exact ⟨0, l.length, rfl, Nat.zero_le _, Nat.le_refl _, fun m x h => by omega, fun m x h hx => by have := (List.getElem?_eq_some_iff.1 hx).1; omega⟩
 ·simp only; omega
 ·rintro _ ⟨i, j, rfl, g1, g2, g3, g4⟩
  show Ret (js l w (i : Int) (j : Int)) _
  unfold js
  rw [wB]
  refine ⟨fun hc => ?_, fun hc => ?_⟩
  ·have hij : i < j := by simpa using hc
   have hh : w64 (Int.tdiv (w64 ((i : Int) + (j : Int))) 2) = (((i + j) / 2 : Nat) : Int) := by
    rw [y9 (x := (i : Int) + (j : Int)) (by omega) (by omega)]
    have : Int.tdiv ((i : Int) + (j : Int)) 2 = (((i + j) / 2 : Nat) : Int) := by
     rw [show ((i : Int) + (j : Int)) = ((i + j : Nat) : Int) by omega, Int.tdiv_eq_ediv_of_nonneg (by omega)]
     rfl
    rw [this, y9 (by omega) (by omega)]
   rw [gdT (by omega), hh]
   have hm : (i + j) / 2 < l.length := by omega
   have hx : l[(i + j) / 2]? = some l[(i + j) / 2] := List.getElem?_eq_getElem hm
   rw [zH hx]
   simp only [Option.bind_some]
   rw [Jv _ _ (fun _ => hw _ (List.getElem_mem hm))]
   simp only [Option.bind_some]
   by_cases hc2 : uv l[(i + j) / 2] w < 0
   ·simp only [hc2, decide_true, cond_true]
    rw [y9 (by omega) (by omega), zt]
    refine ⟨⟨(i + j) / 2 + 1, j, by simp, by omega, g2, fun m x h hmx => ?_, g4⟩, by simp only; omega⟩
    rcases Nat.lt_or_ge m ((i + j) / 2) with q | q
    ·have h1 := (List.pairwise_iff_getElem.1 hs) m ((i + j) / 2) (List.getElem?_eq_some_iff.1 hmx).1 hm q
     rw [(List.getElem?_eq_some_iff.1 hmx).2] at h1
     exact ub h1 hc2
    ·rw [show m = (i + j) / 2 by omega, hx] at hmx
     cases hmx
     exact hc2
   ·simp only [hc2, decide_false, cond_false]
    rw [zt]
    refine ⟨⟨i, (i + j) / 2, rfl, by omega, by omega, g3, fun m x h hmx hlt => ?_⟩, by simp only; omega⟩
    rcases Nat.lt_or_ge ((i + j) / 2) m with q | q
    ·have h1 := (List.pairwise_iff_getElem.1 hs) ((i + j) / 2) m hm (List.getElem?_eq_some_iff.1 hmx).1 q
     rw [(List.getElem?_eq_some_iff.1 hmx).2] at h1
     exact hc2 (ub h1 hlt)
    ·rw [show m = (i + j) / 2 by omega, hx] at hmx
     cases hmx
     exact hc2 hlt
  ·have hij : i = j := by
    have : ¬ i < j := by simpa using hc
    omega
   subst hij
   rw [zt]
   exact ⟨i, rfl, g2, g3, g4⟩
 ·rintro _ ⟨i, rfl, h1, h2, h3⟩
  have J2 : (∀ x, l[i]? = some x → x ≠ w) → Ret (uG l w (i : Int)) fun r => r = Kq w l := by
   intro hne
   have h4 : ∀ m x, i ≤ m → l[m]? = some x → uv w x < 0 := by
    intro m x hm hx
    have hil : i < l.length := by have := (List.getElem?_eq_some_iff.1 hx).1; omega
    have hxi : l[i]? = some l[i] := List.getElem?_eq_getElem hil
    have hlt : uv w l[i] < 0 := by
     rcases z0w.1 (h3 i _ (Nat.le_refl _) hxi) with q | q
     ·exact q
     ·exact absurd q (hne _ hxi)
    rcases Nat.lt_or_ge i m with q | q
    ·have h5 := (List.pairwise_iff_getElem.1 hs) i m hil (List.getElem?_eq_some_iff.1 hx).1 q
     rw [(List.getElem?_eq_some_iff.1 hx).2] at h5
     exact ub hlt h5
    ·rw [show m = i by omega, hxi] at hx
     cases hx
     exact hlt
   unfold uG
   rw [gdT (by simp; omega), w7]
   have hlen : w64 ((((l ++ ([[]] : List (List Int))).length : Nat) : Int) - 1) = ((l.length : Nat) : Int) := by
    rw [List.length_append, List.length_singleton, y9 (by omega) (by omega)]; omega
   rw [hlen]
   refine Ret.mono (u4 (fun q : List (List Int) × Int => ∃ (j : Nat) (x : List Int), q = (l.take j ++ x :: l.drop j, (j : Int)) ∧ i ≤ j ∧ j ≤ l.length) (fun q => q.2.toNat) (R := fun t => ∃ x : List Int, t = l.take i ++ x :: l.drop i) ⟨l.length, [], by simp, h1, Nat.le_refl _⟩ (by simp only [Int.toNat_natCast]; omega) ?_) ?_
   ·rintro _ ⟨j, x, rfl, g1, g2⟩
    show Ret (jt (i : Int) (l.take j ++ x :: l.drop j) (j : Int)) _
    unfold jt
    rw [wB]
    refine ⟨fun hc => ?_, fun hc => ?_⟩
    ·have hij : i < j := by simpa using hc
     have hA : (l.take j).length = j := by rw [List.length_take]; omega
     have hy : (l.take j ++ x :: l.drop j)[j - 1]? = some l[j - 1] := by
      rw [List.getElem?_append_left (by omega), List.getElem?_take, if_pos (by omega)]; exact List.getElem?_eq_getElem (by omega)
     have hz : (l.take j ++ x :: l.drop j)[j]? = some x := by
      rw [List.getElem?_append_right (by omega), hA]; simp
     rw [y9 (by omega) (by omega), show (j : Int) - 1 = ((j - 1 : Nat) : Int) by omega, zH hy, zH hz]
     simp only [Option.bind_some, zt, Int.toNat_natCast]
     refine ⟨⟨j - 1, l[j - 1], ?_, by omega, by omega⟩, by simp only [Int.toNat_natCast]; omega⟩
     rw [List.set_append_right _ _ (by omega), hA, Nat.sub_self, List.set_cons_zero]
     have e1 : l.take j = l.take (j - 1) ++ [l[j - 1]] := by
      have := List.take_add_one (l := l) (i := j - 1)
      rw [show j - 1 + 1 = j by omega, List.getElem?_eq_getElem (by omega)] at this
      exact this
     have e2 : l.drop (j - 1) = l[j - 1] :: l.drop j := by
      rw [List.drop_eq_getElem_cons (by omega), show j - 1 + 1 = j by omega]
     rw [e2, e1, List.append_assoc]
     rfl
    ·have hij : j = i := by
      have : ¬ i < j := by simpa using hc
      omega
     subst hij
     rw [zt]
     exact ⟨x, rfl⟩
   ·rintro _ ⟨x, rfl⟩
    unfold Zt
    have hA : (l.take i).length = i := by rw [List.length_take]; omega
    have hz : (l.take i ++ x :: l.drop i)[i]? = some x := by
     rw [List.getElem?_append_right (by omega), hA]; simp
    rw [gdT (by simpa using hww), zH hz]
    simp only [Option.bind_some, zt, Int.toNat_natCast]
    rw [List.set_append_right _ _ (by omega), hA, Nat.sub_self, List.set_cons_zero]
    exact z57 hs h1 h2 h4
  unfold Zu
  rw [wB]
  refine ⟨fun hc => ?_, fun hc => ?_⟩
  ·have hi : i < l.length := by simpa using hc
   have hx : l[i]? = some l[i] := List.getElem?_eq_getElem hi
   rw [zH hx]
   simp only [Option.bind_some]
   rw [Jv _ _ (fun _ => hw _ (List.getElem_mem hi))]
   simp only [Option.bind_some]
   by_cases he : l[i] = w
   ·have hb : (uv l[i] w == 0) = true := by rw [he, XB]; rfl
    rw [hb, cond_true, zt]
    refine SW.unique hs hs.put fun x => ?_
    rw [WT]
    refine ⟨fun q => .inr q, fun q => ?_⟩
    rcases q with rfl | q
    ·exact he ▸ List.getElem_mem hi
    ·exact q
   ·have hb : (uv l[i] w == 0) = false := by simp; exact fun q => he (Jw q)
    rw [hb, cond_false]
    exact J2 fun x hx2 => by rw [hx] at hx2; cases hx2; exact he
  ·have hi : ¬ i < l.length := by simpa using hc
   exact J2 fun x hx2 => by have := (List.getElem?_eq_some_iff.1 hx2).1; omega
theorem z7a {l : List (List Int)} (hl : l.length ≤ 1000000) (hw : ∀ x ∈ l, x.length ≤ 4294967296) : Y3 l = some (srt l) := by
 unfold Y3
 have h := up (step := fun s => wq l s.1 s.2) (fun i => (srt (l.take i), (i : Int))) l.length (t := srt l) (by omega) (by
  intro i hi
  show wq l _ (i : Int) = _
  unfold wq
  have hq : decide ((i : Int) < (l.length : Int)) = true := by simpa using hi
  have hx : l[i]? = some l[i] := List.getElem?_eq_getElem hi
  simp only [hq, cond_true, zH hx, Option.bind_some]
  have hlen : (srt (l.take i)).length ≤ 1000000 := by have := QI (l.take i); rw [List.length_take] at this; omega
  rw [z8h (QG _) hlen (fun x hx => by have := hw x (List.mem_of_mem_take (ZJ.1 hx)); omega) (hw _ (List.getElem_mem hi))]
  simp only [Option.bind_some]
  rw [y9 (by omega) (by omega), ← z36, List.take_add_one, hx]
  rfl) (by
  show wq l _ (l.length : Int) = _
  unfold wq
  simp)
 have h0 : (srt (l.take 0), ((0 : Nat) : Int)) = (([] : List (List Int)), (0 : Int)) := by simp [srt]
 rw [h0] at h
 rw [bdT h]
 rfl
theorem z7b (a b : List (List Int)) (hl : a.length < 4611686018427387904) (hw : ∀ x ∈ a, x.length < 4611686018427387904) : Y4 a b = some (decide (a = b)) := by
 unfold Y4
 by_cases he : a.length = b.length
 ·have hb : (((a.length : Nat) : Int) != ((b.length : Nat) : Int)) = false := by simp; omega
  simp only [hb, cond_false]
  rw [bdT (ul a hl (step := fun s => u6 a b s) (fun i x => if b[i]? = some x then none else some false) ?_ ?_)]
  ·cases hf : yp (fun i x => if b[i]? = some x then none else some false) a 0 with
   | some r =>
    obtain ⟨i, x, h1, h2⟩ := qY hf
    rw [Nat.zero_add] at h2
    split at h2
    ·cases h2
    ·rename_i h3
     have : a ≠ b := fun e => h3 (by rw [← e]; exact h1)
     cases h2
     simp [oS, this]
   | none =>
    have hab : a = b := by
     refine List.ext_getElem? fun i => ?_
     rcases Nat.lt_or_ge i a.length with q | q
     ·have hx : a[i]? = some a[i] := List.getElem?_eq_getElem q
      have := ko hf i _ hx
      rw [Nat.zero_add] at this
      split at this
      ·rename_i h3; rw [h3, hx]
      ·cases this
     ·rw [List.getElem?_eq_none q, List.getElem?_eq_none (by omega)]
    simp [oS, ke, hab]
  ·intro i x hx
   have hi : i < a.length := (List.getElem?_eq_some_iff.1 hx).1
   have hq : decide ((i : Int) < (a.length : Int)) = true := by simpa using hi
   have hy : b[i]? = some b[i] := List.getElem?_eq_getElem (by omega)
   have hxm : x ∈ a := (List.getElem?_eq_some_iff.1 hx).2 ▸ List.getElem_mem hi
   unfold u6
   simp only [hq, cond_true, zH hx, zH hy, Option.bind_some, Jv x b[i] (fun _ => hw x hxm), hy]
   by_cases h : b[i] = x
   ·rw [if_pos (by rw [h]), h, XB]; rfl
   ·have : (uv x b[i] != 0) = true := by simp; exact fun q => h (Jw q).symm
    rw [this, if_neg (by simpa using h)]
    rfl
  ·unfold u6; simp
 ·have hb : (((a.length : Nat) : Int) != ((b.length : Nat) : Int)) = true := by simp; omega
  have : a ≠ b := fun e => he (by rw [e])
  simp [hb, this]
theorem QE {l : List (List Int)} {m : Nat} {L : Nat} (hl : l.length ≤ L) (h : ∀ w ∈ l, w.length ≤ m) : qt l ≤ L * m := Nat.le_trans (z2o h) (Nat.mul_le_mul_right _ hl)
end Go.Own

namespace Go.Own
theorem XR {n : Int} {l : List (List Int)} (h : chE n l = 0) : l.length ≤ 4096 ∧ (∀ w ∈ l, w.length ≤ 256) ∧ qt l ≤ 65536 ∧ SW l ∧ (1 ≤ n ∧ n ≤ 16) ∧ ∀ w ∈ l, ∀ c ∈ w, 0 ≤ c ∧ c < n := by
 obtain ⟨h1, h2, h3⟩ := z3Q.1 h
 obtain ⟨q1, q2, _⟩ := z1B h1
 obtain ⟨r1, _, r3⟩ := Qh.1 h1
 exact ⟨q1, q2, h3, h2, r1, fun w hw => (r3 w hw).2⟩
theorem QF (l m : List (List Int)) : qt (l ++ m) = qt l + qt m := by simp [qt]
def Wq (n : Int) (L k : Nat) (l : List (List Int)) : Prop := SW l ∧ l.length ≤ L ∧ ∀ w ∈ l, w.length ≤ k ∧ ∀ c ∈ w, 0 ≤ c ∧ c < n
theorem Wq.ch {n : Int} {L k : Nat} {l : List (List Int)} (h : Wq n L k l) (hn : 1 ≤ n ∧ n ≤ 16) (hL : L ≤ 4096) (hk : k ≤ 256) (hLk : L * k ≤ 65536) : chE n l = 0 := by
 obtain ⟨h1, h2, h3⟩ := h
 refine z3Q.2 ⟨Qh.2 ⟨hn, by omega, fun w hw => ⟨by have := (h3 w hw).1; omega, (h3 w hw).2⟩⟩, h1, ?_⟩
 exact Nat.le_trans (QE h2 fun w hw => (h3 w hw).1) hLk
theorem Wq.take {n : Int} {L k : Nat} {l : List (List Int)} (h : Wq n L k l) (m : Nat) : Wq n m k (l.take m) :=
 ⟨h.1.sub (List.take_sublist _ _), by rw [List.length_take]; omega, fun w hw => h.2.2 w (List.mem_of_mem_take hw)⟩
end Go.Own

namespace Go.Own
theorem Xs {σ : Type} (f : Nat → σ → σ) (s : σ) (n : Nat) : (List.range (n + 1)).foldl (fun s i => f i s) s = f n ((List.range n).foldl (fun s i => f i s) s) := by
 rw [List.range_succ, List.foldl_append]; rfl
theorem W7 {σ : Type} {f : Nat → σ → σ} {I : Nat → σ → Prop} {s : σ} (h0 : I 0 s) : ∀ (n : Nat), (∀ i s, i < n → I i s → I (i + 1) (f i s)) → I n ((List.range n).foldl (fun s i => f i s) s)
 | 0, _ => h0
 | n + 1, h => by
  rw [Xs]
  exact h n _ (Nat.lt_succ_self n) (W7 h0 n fun i s hi => h i s (by omega))
theorem QU {σ α : Type} (g : α → σ → σ) (d : α) (l : List α) (s : σ) : (List.range l.length).foldl (fun s i => g ((l[i]?).getD d) s) s = l.foldl (fun s x => g x s) s := by
 have e : l = (List.range l.length).map fun i => (l[i]?).getD d := by
  apply List.ext_getElem (by simp)
  intro i h1 h2
  simp [List.getElem?_eq_getElem h1]
 have q : ((List.range l.length).map fun i => (l[i]?).getD d).foldl (fun s x => g x s) s = (List.range l.length).foldl (fun s i => g ((l[i]?).getD d) s) s := by rw [List.foldl_map]
 rw [← q, ← e]
theorem z5u {σ S τ : Type} {step : S → Option (LR S τ)} (st : σ → Nat → S) (f : Nat → σ → σ) (I : Nat → σ → Prop) (n : Nat) (hn : n < 9223372036854775808) {s0 : σ} {t : τ} (h0 : I 0 s0)
  (h : ∀ i s, i < n → I i s → step (st s i) = some (.next (st (f i s) (i + 1))) ∧ I (i + 1) (f i s))
  (hd : I n ((List.range n).foldl (fun s i => f i s) s0) → step (st ((List.range n).foldl (fun s i => f i s) s0) n) = some (.done t)) : loop step (st s0 0) = some t := by
 have inv : ∀ m, m ≤ n → I m ((List.range m).foldl (fun s i => f i s) s0) := fun m hm => W7 h0 m fun i s hi hI => (h i s (by omega) hI).2
 refine up (fun m => st ((List.range m).foldl (fun s i => f i s) s0) m) n hn (fun i hi => ?_) (hd (inv n (Nat.le_refl _)))
 show step (st ((List.range i).foldl (fun s i => f i s) s0) i) = _
 rw [(h i _ hi (inv i (by omega))).1, Xs]
theorem Qb {i : Nat} (h : i < 9223372036854775807) : w64 ((i : Int) + 1) = ((i + 1 : Nat) : Int) := by rw [y9 (by omega) (by omega)]; rfl
end Go.Own

namespace Go.Own
structure COk (m : z7) (c : zc) : Prop where
 st : c.States.length = m.Rows.length
 ed : c.Edges.length = m.Rows.length
 row : ∀ (s : Nat) (e : List Bool), c.Edges[s]? = some e → e.length = kk m
section
variable {m : z7} {c : zc}
theorem COk.rowAt (h : COk m c) {s : Nat} (hs : s < m.Rows.length) : ∃ e, c.Edges[s]? = some e ∧ e.length = kk m := by
 have hs' : s < c.Edges.length := by rw [h.ed]; exact hs
 exact ⟨_, List.getElem?_eq_getElem hs', h.row s _ (List.getElem?_eq_getElem hs')⟩
end
end Go.Own

namespace Go.Own
theorem z1C : qS = some true := by kernel_rfl
end Go.Own

namespace Go.Own
theorem z3w : ∀ {u v : List Int} (x y : List Int), u.length = v.length → xJ u v < 0 → xJ (u ++ x) (v ++ y) < 0
 | [], [], _, _, _, h => by simp [xJ] at h
 | [], _ :: _, _, _, h, _ => by simp at h
 | _ :: _, [], _, _, h, _ => by simp at h
 | a :: u, b :: v, x, y, hl, h => by
  simp only [List.cons_append, xJ] at h ⊢
  by_cases h1 : a < b
  ·simp [h1]
  ·by_cases h2 : b < a
   ·simp [h1, h2] at h
   ·simp only [h1, h2, if_false] at h ⊢
    exact z3w x y (by simpa using hl) h
theorem z1D : ∀ (u : List Int) {s t : Int}, s < t → xJ (u ++ [s]) (u ++ [t]) < 0
 | [], s, t, h => by simp [xJ, h]
 | a :: u, s, t, h => by
  simp only [List.cons_append, xJ, Int.lt_irrefl, if_false]
  exact z1D u h
theorem z0v {a b : List Int} (h : a.length = b.length) : uv a b = xJ a b := by unfold uv; rw [if_neg (by omega), if_neg (by omega)]
theorem z9M (a : Nat) (w : List Int) : SW (UB a w) := by
 unfold UB SW
 rw [List.pairwise_map]
 refine List.Pairwise.imp (fun {s t} h => ?_) List.pairwise_lt_range
 rw [z0v (by simp)]
 exact z1D w (by omega)
theorem z5L (a k : Nat) : ∀ {l : List (List Int)}, SW l → (∀ w ∈ l, w.length = k) → SW (l.flatMap (UB a))
 | [], _, _ => by simp [SW]
 | w :: l, h, hk => by
  rw [List.flatMap_cons]
  unfold SW
  rw [List.pairwise_append]
  refine ⟨z9M a w, z5L a k h.tail fun x hx => hk x (by simp [hx]), fun x hx y hy => ?_⟩
  simp only [UB, List.mem_map] at hx
  obtain ⟨s, _, rfl⟩ := hx
  rw [List.mem_flatMap] at hy
  obtain ⟨v, hv, hy⟩ := hy
  simp only [UB, List.mem_map] at hy
  obtain ⟨t, _, rfl⟩ := hy
  have e1 := hk w (by simp)
  have e2 := hk v (by simp [hv])
  rw [z0v (by simp [e1, e2])]
  have := h.head v hv
  rw [z0v (by omega)] at this
  exact z3w _ _ (by omega) this
theorem z8t (a : Nat) : ∀ k, SW (exW a k)
 | 0 => by simp [exW, SW]
 | k + 1 => z5L a k (z8t a k) (kp a k)
end Go.Own

namespace Go.Own
def boE (n : Int) (a b : List (List Int)) : Int := if chE n a ≠ 0 then chE n a else chE n b
theorem z7Q {n : Int} {a b : List (List Int)} : boE n a b = 0 ↔ chE n a = 0 ∧ chE n b = 0 := by
 unfold boE
 by_cases h : chE n a = 0
 ·rw [if_neg (by simp [h])]; simp [h]
 ·rw [if_pos h]; simp [h]
theorem zbx (n : Int) (a b : List (List Int)) : ZZ n [a, b] = some (boE n a b) := by
 unfold ZZ
 rw [bdT (ul [a, b] (by simp) (step := fun s => vZ n [a, b] s) (fun i v => eS (chE n v)) ?_ ?_)]
 ·unfold boE eS
  by_cases h1 : chE n a = 0
  ·by_cases h2 : chE n b = 0
   ·simp [yp, h1, h2, oS, ka]
   ·simp [yp, h1, h2, oS]
  ·simp [yp, h1, oS]
 ·intro i v hv
  have hi : i < [a, b].length := (List.getElem?_eq_some_iff.1 hv).1
  unfold vZ
  have hc : decide ((i : Int) < (([a, b] : List (List (List Int))).length : Int)) = true := by simp only [decide_eq_true_eq]; omega
  simp only [hc, cond_true, zH hv, Option.bind_some, z4B]
  by_cases h : chE n v = 0
  ·simp [h, nS, eS]
  ·have hb : (chE n v != 0) = true := by simpa using h
   simp [h, hb, nS, eS]
 ·unfold vZ; simp
def w9 (a b : List (List Int)) : List (List Int) := a.flatMap fun u => b.map fun v => u ++ v
theorem kS {a b : List (List Int)} {x : List Int} : x ∈ w9 a b ↔ ∃ u ∈ a, ∃ v ∈ b, u ++ v = x := by simp [w9]
theorem z1r (a b : List (List Int)) : (w9 a b).length = a.length * b.length := by
 induction a with
 | nil => simp [w9]
 | cons u a ih =>
  have e : w9 (u :: a) b = b.map (fun v => u ++ v) ++ w9 a b := rfl
  rw [e, List.length_append, ih, List.length_map, List.length_cons, Nat.succ_mul]; omega
theorem Ks {a b : List (List Int)} {i : Nat} (hi : i < a.length) : w9 (a.take (i + 1)) b = w9 (a.take i) b ++ b.map fun v => a[i] ++ v := by
 unfold w9
 rw [List.take_add_one, List.getElem?_eq_getElem hi, List.flatMap_append]
 simp
theorem z48 {a b : List (List Int)} (hp : a.length * b.length ≤ 100000) (ha : a.length ≤ 100000) (hb : b.length ≤ 100000) (hwa : ∀ w ∈ a, w.length ≤ 2147483648) (hwb : ∀ w ∈ b, w.length ≤ 2147483648) : ju a b = some (srt (w9 a b)) := by
 unfold ju
 have h := up (step := fun s => xh a b s.1 s.2) (fun i => (srt (w9 (a.take i) b), (i : Int))) a.length (t := srt (w9 a b)) (by omega) (by
  intro i hi
  show xh a b _ (i : Int) = _
  unfold xh
  have hq : decide ((i : Int) < (a.length : Int)) = true := by simpa using hi
  have hx : a[i]? = some a[i] := List.getElem?_eq_getElem hi
  simp only [hq, cond_true]
  have hin := up (step := fun s => xg a b (i : Int) s.1 s.2) (fun j => (srt (w9 (a.take i) b ++ (b.take j).map fun v => a[i] ++ v), (j : Int))) b.length (t := srt (w9 (a.take (i + 1)) b)) (by omega) (by
   intro j hj
   show xg a b (i : Int) _ (j : Int) = _
   unfold xg
   have hq2 : decide ((j : Int) < (b.length : Int)) = true := by simpa using hj
   have hy : b[j]? = some b[j] := List.getElem?_eq_getElem hj
   have wa := hwa _ (List.getElem_mem hi)
   have wb := hwb _ (List.getElem_mem hj)
   simp only [hq2, cond_true, zH hx, zH hy, Option.bind_some]
   rw [gdT (by simp; omega), gdT (by omega)]
   have hll : (srt (w9 (a.take i) b ++ (b.take j).map fun v => a[i] ++ v)).length ≤ 1000000 := by
    refine Nat.le_trans (QI _) ?_
    rw [List.length_append, z1r, List.length_map, List.length_take, List.length_take]
    have : min i a.length * b.length ≤ a.length * b.length := Nat.mul_le_mul_right _ (by omega)
    omega
   rw [z8h (QG _) hll (fun x hx => by
    rcases List.mem_append.1 (ZJ.1 hx) with q | q
    ·obtain ⟨u, q1, v, q2, rfl⟩ := kS.1 q
     have := hwa u (List.mem_of_mem_take q1)
     have := hwb v q2
     rw [List.length_append]; omega
    ·obtain ⟨v, q2, rfl⟩ := List.mem_map.1 q
     have := hwb v (List.mem_of_mem_take q2)
     rw [List.length_append]; omega) (by rw [List.length_append]; omega)]
   simp only [Option.bind_some]
   rw [y9 (by omega) (by omega), ← z36, List.take_add_one, hy, List.append_assoc, List.map_append]
   rfl) (by
   show xg a b (i : Int) _ (b.length : Int) = _
   unfold xg
   have : decide (((b.length : Nat) : Int) < (b.length : Int)) = false := by simp
   simp only [this, cond_false]
   rw [List.take_length, Ks hi])
  have h0 : (srt (w9 (a.take i) b ++ (b.take 0).map fun v => a[i] ++ v), ((0 : Nat) : Int)) = (srt (w9 (a.take i) b), (0 : Int)) := by simp
  rw [h0] at hin
  rw [bdT hin]
  unfold uR
  rw [y9 (by omega) (by omega)]
  rfl) (by
  show xh a b _ (a.length : Int) = _
  unfold xh
  simp)
 have h0 : (srt (w9 (a.take 0) b), ((0 : Nat) : Int)) = (([] : List (List Int)), (0 : Int)) := by simp [w9, srt]
 rw [h0] at h
 rw [bdT h]
 rfl
end Go.Own

namespace Go.Own
theorem z5s (l : List (List UInt8 × Bool)) (x y : List UInt8) (v : Bool) : Kv (z3s l x v) y = if x = y then some v else Kv l y := by
 induction l with
 | nil =>
  by_cases h : x = y
  ·simp [z3s, Kv, h]
  ·simp [z3s, Kv, h]
 | cons p l ih =>
  by_cases h : p.1 = x
  ·by_cases h2 : x = y
   ·simp [z3s, Kv, h, h2]
   ·simp [z3s, Kv, h, h2]
  ·by_cases h2 : p.1 = y
   ·have : ¬ x = y := fun e => h (h2.trans e.symm)
    have t2 : ¬ y = x := fun e => this e.symm
    simp [z3s, Kv, h2, this, t2]
   ·have hb : (p.1 == x) = false := beq_eq_false_iff_ne.2 h
    simp [z3s, Kv, hb, h2, ih]
def z5z (w : List Int) : List UInt8 := u8s (w.map fun c => IntKind.u8.wrap c)
theorem zbg {w : List Int} (h : w.length ≤ 1000) : Xl w = some (z5z w) := by
 unfold Xl
 rw [gdT (by omega)]
 have hl := up (step := fun s => wV w s.1 s.2) (fun i => ((w.take i).map (fun c => IntKind.u8.wrap c) ++ List.replicate (w.length - i) (0 : Int), (i : Int))) w.length (t := w.map fun c => IntKind.u8.wrap c) (by omega) (by
  intro i hi
  show wV w _ (i : Int) = _
  unfold wV
  have hq : decide ((i : Int) < (w.length : Int)) = true := by simpa using hi
  have hx : w[i]? = some w[i] := List.getElem?_eq_getElem hi
  have hA : ((w.take i).map (fun c => IntKind.u8.wrap c)).length = i := by rw [List.length_map, List.length_take]; omega
  have hr : List.replicate (w.length - i) (0 : Int) = 0 :: List.replicate (w.length - (i + 1)) 0 := by
   rw [show w.length - i = (w.length - (i + 1)) + 1 by omega]; rfl
  have hy : ((w.take i).map (fun c => IntKind.u8.wrap c) ++ List.replicate (w.length - i) (0 : Int))[i]? = some 0 := by
   rw [List.getElem?_append_right (by omega), hA, hr]; simp
  simp only [hq, cond_true, zH hx, zH hy, Option.bind_some, Int.toNat_natCast]
  rw [y9 (by omega) (by omega), List.set_append_right _ _ (by omega), hA, Nat.sub_self, hr, List.set_cons_zero, List.take_add_one, hx, List.map_append, List.append_assoc]
  rfl) (by
  show wV w _ (w.length : Int) = _
  unfold wV
  simp)
 have h0 : ((w.take 0).map (fun c => IntKind.u8.wrap c) ++ List.replicate (w.length - 0) (0 : Int), ((0 : Nat) : Int)) = (List.replicate ((w.length : Nat) : Int).toNat (0 : Int), (0 : Int)) := by simp
 rw [h0] at hl
 rw [bdT hl]
 rfl
theorem z3z : ∀ {v w : List Int}, (∀ c ∈ v, 0 ≤ c ∧ c < 16) → (∀ c ∈ w, 0 ≤ c ∧ c < 16) → z5z v = z5z w → v = w
 | [], [], _, _, _ => rfl
 | [], _ :: _, _, _, h => by simp [z5z, u8s] at h
 | _ :: _, [], _, _, h => by simp [z5z, u8s] at h
 | x :: v, y :: w, hv, hw, h => by
  simp only [z5z, u8s, List.map_cons, List.cons.injEq] at h
  have hx := hv x (by simp)
  have hy := hw y (by simp)
  have wr : ∀ z : Int, 0 ≤ z ∧ z < 16 → IntKind.u8.wrap z = z := by
   intro z hz
   simp only [IntKind.wrap, IntKind.bits, IntKind.signed]
   simp
   omega
  have e := h.1
  rw [wr x hx, wr y hy] at e
  have e2 := congrArg UInt8.toNat e
  rw [UInt8.toNat_ofNat', UInt8.toNat_ofNat', Nat.mod_eq_of_lt (by omega), Nat.mod_eq_of_lt (by omega)] at e2
  rw [show x = y by omega, z3z (fun c hc => hv c (by simp [hc])) (fun c hc => hw c (by simp [hc])) h.2]
theorem z18 {l m : List (List Int)} (h : l.Perm m) : qt l = qt m := (h.map _).sum_nat
theorem z30 : ∀ {o L : List (List Int)}, o.Nodup → (∀ x ∈ o, x ∈ L) → ∃ r, L.Perm (o ++ r)
 | [], L, _, _ => ⟨L, .refl _⟩
 | x :: o, L, h, hs => by
  have hx := hs x (by simp)
  obtain ⟨r, hr⟩ := z30 (o := o) (L := L.erase x) (List.nodup_cons.1 h).2 fun y hy => (List.mem_erase_of_ne (fun e => (List.nodup_cons.1 h).1 (by rw [← e]; exact hy))).2 (hs y (by simp [hy]))
  exact ⟨r, (List.perm_cons_erase hx).trans (hr.cons x)⟩
theorem zaJ {o L : List (List Int)} (h : o.Nodup) (hs : ∀ x ∈ o, x ∈ L) : o.length ≤ L.length ∧ qt o ≤ qt L := by
 obtain ⟨r, hr⟩ := z30 h hs
 have h1 := hr.length_eq
 have h2 := z18 hr
 rw [List.length_append] at h1
 rw [QF] at h2
 omega
def zdj (a b : List (List Int)) : Prop := (∃ w ∈ w9 a b, 256 < w.length) ∨ 4096 < (srt (w9 a b)).length ∨ 65536 < qt (srt (w9 a b))
def CI (P : List (List Int)) (seen : List (List UInt8 × Bool)) (n : Int) (out : List (List Int)) : Prop :=
 out.Nodup ∧ (∀ x, x ∈ out ↔ x ∈ P) ∧ (∀ x ∈ out, x.length ≤ 256) ∧ out.length ≤ 4096 ∧ qt out ≤ 65536 ∧ n = (qt out : Int) ∧ ∀ k, ((Kv seen k).getD false = true ↔ ∃ x ∈ out, z5z x = k)
section
variable {n : Int} {a b : List (List Int)} (ha : chE n a = 0) (hb : chE n b = 0)
include ha hb
theorem z3m {w : List Int} (hw : w ∈ w9 a b) : ∀ c ∈ w, 0 ≤ c ∧ c < 16 := by
 obtain ⟨_, _, _, _, a5, a6⟩ := XR ha
 obtain ⟨_, _, _, _, _, b6⟩ := XR hb
 obtain ⟨u, h1, v, h2, rfl⟩ := kS.1 hw
 intro c hc
 rcases List.mem_append.1 hc with q | q
 ·have := a6 u h1 c q; omega
 ·have := b6 v h2 c q; omega
theorem z9R {i : Nat} (hi : i < a.length) {seen : List (List UInt8 × Bool)} {m : Int} {out : List (List Int)} (h : CI (w9 (a.take i) b) seen m out) :
  Ret (loop (fun s => wK b a[i] s.1 s.2.1 s.2.2.1 s.2.2.2) (seen, m, out, 0)) fun t => match t with | .inl p => CI (w9 (a.take (i + 1)) b) p.1 p.2.1 p.2.2 | .inr p => p = ([], 3) ∧ zdj a b := by
 obtain ⟨a1, a2, _⟩ := XR ha
 obtain ⟨b1, b2, _⟩ := XR hb
 refine u4 (fun q => ∃ j : Nat, q.2.2.2 = (j : Int) ∧ j ≤ b.length ∧ CI (w9 (a.take i) b ++ (b.take j).map fun v => a[i] ++ v) q.1 q.2.1 q.2.2.1) (fun q => b.length - q.2.2.2.toNat) ⟨0, rfl, Nat.zero_le _, by simpa using h⟩ (by show b.length - _ < _; omega) ?_
 rintro ⟨seen, m, out, _⟩ ⟨j, rfl, g1, g2⟩
 show Ret (wK b a[i] seen m out (j : Int)) _
 unfold wK
 rw [wB]
 refine ⟨fun hc => ?_, fun hc => ?_⟩
 ·have hj : j < b.length := by simpa using hc
  have hy : b[j]? = some b[j] := List.getElem?_eq_getElem hj
  have wa := a2 _ (List.getElem_mem hi)
  have wb := b2 _ (List.getElem_mem hj)
  have hj2 : w64 ((j : Int) + 1) = ((j + 1 : Nat) : Int) := by rw [y9 (by omega) (by omega)]; omega
  have hmem : a[i] ++ b[j] ∈ w9 a b := kS.2 ⟨_, List.getElem_mem hi, _, List.getElem_mem hj, rfl⟩
  rw [zH hy]
  simp only [Option.bind_some, z0x]
  rw [gdT (by omega), wB]
  refine ⟨fun hc2 => ?_, fun hc2 => ?_⟩
  ·have hl : 256 < (a[i] ++ b[j]).length := by simp only [decide_eq_true_eq] at hc2; omega
   rw [zt]
   exact ⟨rfl, .inl ⟨_, hmem, hl⟩⟩
  ·have hl : (a[i] ++ b[j]).length ≤ 256 := by simp only [decide_eq_false_iff_not] at hc2; omega
   rw [zbg (by omega)]
   simp only [Option.bind_some]
   simp only at g2
   obtain ⟨c1, c2, c3, c4, c5, c6, c7⟩ := g2
   have hP : ∀ x, x ∈ w9 (a.take i) b ++ (b.take (j + 1)).map (fun v => a[i] ++ v) ↔ x ∈ out ∨ x = a[i] ++ b[j] := by
    intro x
    rw [c2, List.take_add_one, hy, List.map_append, ← List.append_assoc, List.mem_append]
    simp
   have hsub : ∀ x ∈ out, x ∈ w9 a b := by
    intro x hx
    rcases List.mem_append.1 ((c2 x).1 hx) with q | q
    ·obtain ⟨u, q1, v, q2, rfl⟩ := kS.1 q
     exact kS.2 ⟨u, List.mem_of_mem_take q1, v, q2, rfl⟩
    ·obtain ⟨v, q2, rfl⟩ := List.mem_map.1 q
     exact kS.2 ⟨_, List.getElem_mem hi, v, List.mem_of_mem_take q2, rfl⟩
   have hkey : (Kv seen (z5z (a[i] ++ b[j]))).getD false = true ↔ a[i] ++ b[j] ∈ out := by
    rw [c7]
    constructor
    ·rintro ⟨x, q1, q2⟩
     rw [z3z (z3m ha hb (hsub x q1)) (z3m ha hb hmem) q2] at q1
     exact q1
    ·intro q; exact ⟨_, q, rfl⟩
   by_cases hin : a[i] ++ b[j] ∈ out
   ·rw [hkey.2 hin]
    simp only [Bool.not_true, cond_false]
    unfold wL
    have d1 : decide (((out.length : Nat) : Int) > 4096) = false := by simp; omega
    have d2 : decide (m > 65536) = false := by rw [c6]; simp; omega
    simp only [d1, d2, cond_false]
    rw [hj2, zt]
    refine ⟨⟨j + 1, rfl, hj, c1, fun x => ?_, c3, c4, c5, c6, c7⟩, by simp only [Int.toNat_natCast]; omega⟩
    rw [hP]
    constructor
    ·intro q; exact .inl q
    ·rintro (q | rfl)
     ·exact q
     ·exact hin
   ·have hf : (Kv seen (z5z (a[i] ++ b[j]))).getD false = false := by
     cases hq : (Kv seen (z5z (a[i] ++ b[j]))).getD false
     ·rfl
     ·exact absurd (hkey.1 hq) hin
    rw [hf]
    simp only [Bool.not_false, cond_true]
    rw [gdT (by simp only [List.length_singleton]; omega)]
    have hnd : (out ++ [a[i] ++ b[j]]).Nodup := by
     rw [List.nodup_append]
     exact ⟨c1, by simp, fun x hx y hy => by simp at hy; subst hy; exact fun e => hin (e ▸ hx)⟩
    have hss : ∀ x ∈ out ++ [a[i] ++ b[j]], x ∈ srt (w9 a b) := fun x hx => ZJ.2 (by
     rcases List.mem_append.1 hx with q | q
     ·exact hsub x q
     ·simp at q; subst q; exact hmem)
    obtain ⟨s1, s2⟩ := zaJ hnd hss
    have hsy : qt (out ++ [a[i] ++ b[j]]) = qt out + (a[i] ++ b[j]).length := by rw [QF]; simp [qt]
    have hm : w64 (m + (((a[i] ++ b[j]).length : Nat) : Int)) = ((qt (out ++ [a[i] ++ b[j]]) : Nat) : Int) := by
     rw [c6, hsy, y9 (by omega) (by omega)]; omega
    rw [hm]
    unfold wL
    rw [wB]
    refine ⟨fun hc3 => ?_, fun hc3 => ?_⟩
    ·rw [zt]
     refine ⟨rfl, .inr (.inl ?_)⟩
     simp only [decide_eq_true_eq] at hc3
     omega
    ·rw [wB]
     refine ⟨fun hc4 => ?_, fun hc4 => ?_⟩
     ·rw [zt]
      refine ⟨rfl, .inr (.inr ?_)⟩
      simp only [decide_eq_true_eq] at hc4
      omega
     ·rw [hj2, zt]
      simp only [decide_eq_false_iff_not] at hc3 hc4
      refine ⟨⟨j + 1, rfl, hj, hnd, fun x => ?_, fun x hx => ?_, by simp only; omega, by simp only; omega, rfl, fun k => ?_⟩, by simp only [Int.toNat_natCast]; omega⟩
      ·rw [hP]; simp
      ·rcases List.mem_append.1 hx with q | q
       ·exact c3 x q
       ·simp at q; subst q; exact hl
      ·rw [z5s]
       by_cases hk : z5z (a[i] ++ b[j]) = k
       ·rw [if_pos hk]
        simp only [Option.getD_some, true_iff]
        exact ⟨_, by simp, hk⟩
       ·rw [if_neg hk, c7]
        constructor
        ·rintro ⟨x, q1, q2⟩; exact ⟨x, by simp [q1], q2⟩
        ·rintro ⟨x, q1, q2⟩
         rcases List.mem_append.1 q1 with q | q
         ·exact ⟨x, q, q2⟩
         ·simp at q; subst q; exact absurd q2 hk
 ·have hj : j = b.length := by
   have : ¬ j < b.length := by simpa using hc
   omega
  rw [zt]
  show CI (w9 (a.take (i + 1)) b) seen m out
  rw [Ks hi]
  simp only [hj, List.take_length] at g2
  exact g2
theorem z2n : Ret (uD a b n) fun r => zdj a b ∧ r = ([], 3) ∨ ¬ zdj a b ∧ r = (srt (w9 a b), 0) := by
 obtain ⟨a1, a2, _⟩ := XR ha
 obtain ⟨b1, b2, _⟩ := XR hb
 unfold uD
 rw [zbx, z7Q.2 ⟨ha, hb⟩]
 simp only [Option.bind_some, bne_self_eq_false, cond_false]
 rw [w7]
 refine Ret.mono (u4 (fun q => ∃ i : Nat, q.2.2.2 = (i : Int) ∧ i ≤ a.length ∧ CI (w9 (a.take i) b) q.1 q.2.1 q.2.2.1) (fun q => a.length - q.2.2.2.toNat) (R := fun t : List (List Int) ⊕ (List (List Int) × Int) => match t with | .inl out => ∃ seen m, CI (w9 a b) seen m out | .inr p => p = ([], 3) ∧ zdj a b) ?_ ?_ ?_) ?_
 ·refine ⟨0, rfl, Nat.zero_le _, List.nodup_nil, fun x => by simp [w9], by simp, by simp, by simp [qt], by simp [qt], fun k => ?_⟩
  simp [Kv]
 ·show a.length - _ < _
  omega
 ·rintro ⟨seen, m, out, _⟩ ⟨i, rfl, g1, g2⟩
  show Ret (vM a b seen m out (i : Int)) _
  unfold vM
  rw [wB]
  refine ⟨fun hc => ?_, fun hc => ?_⟩
  ·have hi : i < a.length := by simpa using hc
   have hx : a[i]? = some a[i] := List.getElem?_eq_getElem hi
   rw [zH hx]
   simp only [Option.bind_some]
   rw [w7]
   refine (z9R ha hb hi g2).mono ?_
   rintro (p | p) hp
   ·show Ret (vN (i : Int) p.1 p.2.1 p.2.2) _
    unfold vN
    rw [y9 (by omega) (by omega), zt]
    exact ⟨⟨i + 1, rfl, hi, hp⟩, by simp only; omega⟩
   ·show Ret (some (LR.done (Sum.inr p))) _
    rw [zt]
    exact hp
  ·have hi : i = a.length := by
    have : ¬ i < a.length := by simpa using hc
    omega
   rw [zt]
   refine ⟨seen, m, ?_⟩
   simp only [hi, List.take_length] at g2
   exact g2
 ·rintro (out | p) hp
  ·obtain ⟨seen, m, c1, c2, c3, c4, c5, _⟩ := hp
   show Ret (vO out) _
   unfold vO
   rw [z05 (by omega) (fun w hw => by have := c3 w hw; omega)]
   simp only [Option.bind_some]
   have hs : srt out = srt (w9 a b) := z1a c2
   have hp2 : out.Perm (srt (w9 a b)) := (List.perm_ext_iff_of_nodup c1 (QG _).nodup).2 fun x => by rw [c2, ZJ]
   have h1 := hp2.length_eq
   have h2 := z18 hp2
   unfold soR
   rw [hs, if_neg (by omega), zt]
   refine .inr ⟨?_, rfl⟩
   rintro (⟨w, q1, q2⟩ | q | q)
   ·have := c3 w ((c2 w).2 q1); omega
   ·omega
   ·omega
  ·show Ret (some p) _
   rw [zt]
   exact .inl ⟨hp.2, hp.1⟩
end
end Go.Own

namespace Go.Own
theorem Wq.prod {n : Int} {L M k j : Nat} {l m : List (List Int)} (h : Wq n L k l) (g : Wq n M j m) : Wq n (L * M) (k + j) (srt (w9 l m)) := by
 refine ⟨QG _, ?_, fun w hw => ?_⟩
 ·refine Nat.le_trans (QI _) ?_
  rw [z1r]
  exact Nat.mul_le_mul h.2.1 g.2.1
 ·obtain ⟨u, h1, v, h2, rfl⟩ := kS.1 (ZJ.1 hw)
  have q1 := h.2.2 u h1
  have q2 := g.2.2 v h2
  refine ⟨by rw [List.length_append]; omega, fun c hc => ?_⟩
  rcases List.mem_append.1 hc with q | q
  ·exact q1.2 c q
  ·exact q2.2 c q
theorem z4u {n : Int} {L M k j : Nat} {l m : List (List Int)} (h : Wq n L k l) (g : Wq n M j m) (hn : 1 ≤ n ∧ n ≤ 16) (h1 : chE n l = 0) (h2 : chE n m = 0) (hL : L * M ≤ 4096) (hk : k + j ≤ 256) (hLk : (L * M) * (k + j) ≤ 65536) : uD l m n = some (srt (w9 l m), 0) := by
 obtain ⟨r, hr, hc⟩ := z2n h1 h2
 have hu := h.prod g
 have hs : qt (srt (w9 l m)) ≤ 65536 := Nat.le_trans (QE hu.2.1 fun w hw => (hu.2.2 w hw).1) hLk
 rcases hc with ⟨q, _⟩ | ⟨_, rfl⟩
 ·rcases q with ⟨w, q1, q2⟩ | q | q
  ·have := (hu.2.2 w (ZJ.2 q1)).1; omega
  ·have := hu.2.1; omega
  ·omega
 ·exact hr
end Go.Own

namespace Go.Own
theorem z0i (a f : Nat) : ∀ k, ∀ w ∈ uW a f k, w.length < k
 | 0, w, h => by simp [uW] at h
 | k + 1, w, h => by
  unfold uW at h
  split at h
  ·rcases List.mem_append.1 h with h | h
   ·have := z0i a f k w h; omega
   ·have := kp a k w h; omega
  ·have := z0i a f k w h; omega
theorem z0h (a f : Nat) : ∀ k, SW (uW a f k)
 | 0 => by simp [uW, SW]
 | k + 1 => by
  unfold uW
  split
  ·unfold SW
   rw [List.pairwise_append]
   refine ⟨z0h a f k, z8t a k, fun x hx y hy => ?_⟩
   have h1 := z0i a f k x hx
   have h2 := kp a k y hy
   unfold uv
   rw [if_pos (by omega)]
   omega
  ·exact z0h a f k
def lnW (a f : Nat) : Nat → Nat
 | 0 => 0
 | k + 1 => if f ≤ k then lnW a f k + a ^ k else lnW a f k
theorem Qd (a f : Nat) : ∀ k, (uW a f k).length = lnW a f k
 | 0 => rfl
 | k + 1 => by
  unfold uW lnW
  split
  ·rw [List.length_append, Qd a f k, ZL]
  ·exact Qd a f k
theorem z3Z {l : List (List Int)} {k : Nat} (h : ∀ w ∈ l, w.length = k) : qt l = k * l.length := by
 induction l with
 | nil => simp [qt]
 | cons x l ih =>
  have hs : qt (x :: l) = x.length + qt l := by simp [qt]
  rw [hs, ih fun w hw => h w (by simp [hw]), h x (by simp), List.length_cons, Nat.mul_succ]; omega
theorem z6J (l m : List (List Int)) : qt (l ++ m) = qt l + qt m := by simp [qt]
theorem z2z (a f : Nat) : ∀ k, qt (uW a f k) = syW a f k
 | 0 => rfl
 | k + 1 => by
  unfold uW syW
  split
  ·rw [z6J, z2z a f k, z3Z (kp a k), ZL]
  ·exact z2z a f k
def z94 (a f t k : Nat) : Bool := decide (4096 < lnW a f (k + 1)) || decide (65536 < syW a f (k + 1)) || (decide (k < t) && decide (4096 < a ^ k * a))
theorem z4F (a f t k : Nat) : z94 a f t k = true ↔ Zg a f t k := by
 unfold z94 Zg
 simp only [Bool.or_eq_true, Bool.and_eq_true, decide_eq_true_eq, Qd, or_assoc]
def zbB (a f t : Nat) : Bool := (List.range (t + 1)).any (z94 a f t)
theorem z3S (a f t : Nat) : zbB a f t = true ↔ ∃ j, j ≤ t ∧ Zg a f t j := by
 unfold zbB
 simp only [List.any_eq_true, List.mem_range, z4F]
 constructor
 ·rintro ⟨j, h1, h2⟩; exact ⟨j, by omega, h2⟩
 ·rintro ⟨j, h1, h2⟩; exact ⟨j, by omega, h2⟩
theorem za4 {a f t : Nat} (ha : 1 ≤ a ∧ a ≤ 16) (hf : f ≤ 256) (ht : t ≤ 256) : Y0 (a : Int) (f : Int) (t : Int) = some (if zbB a f t then ([], 3) else (uW a f (t + 1), 0)) := by
 refine zbC ha hf ht (fun h => by rw [if_pos ((z3S a f t).2 h)]) fun h => ?_
 have hn : ¬ zbB a f t = true := fun q => by
  obtain ⟨j, h1, h2⟩ := (z3S a f t).1 q
  exact h j h1 h2
 rw [if_neg hn]
 have hs := h t (Nat.le_refl _)
 unfold Zg at hs
 have hlen : (uW a f (t + 1)).length ≤ 4096 := by omega
 have hsy : qt (uW a f (t + 1)) ≤ 65536 := by rw [z2z]; omega
 rw [z05 (by omega) (fun w hw => by have := z0i a f (t + 1) w hw; omega)]
 unfold soR
 rw [QH (z0h a f (t + 1)), if_neg (by omega)]
 rfl
theorem z9m {a : Nat} (ha : a ≤ 16) {o nx : List (List Int)} {i : Nat} (hi : i < o.length) (hw : o[i].length ≤ 1000) (hn : nx.length ≤ 10000000) :
  loop (fun s => yY (a : Int) o (i : Int) s.1 s.2) (nx, 0) = some (nx ++ UB a o[i]) := by
 have h := up (step := fun s => yY (a : Int) o (i : Int) s.1 s.2) (fun j => (nx ++ (List.range j).map (fun s : Nat => o[i] ++ [(s : Int)]), (j : Int))) a (t := nx ++ UB a o[i]) (by omega) (by
  intro j hj
  show yY (a : Int) o (i : Int) _ (j : Int) = _
  unfold yY
  have hq : decide ((j : Int) < (a : Int)) = true := by simpa using hj
  have hx : o[i]? = some o[i] := List.getElem?_eq_getElem hi
  simp only [hq, cond_true, zH hx, Option.bind_some]
  rw [gdT (by simp; omega), gdT (by simp; omega), gdT (by simp; omega), y9 (by omega) (by omega), List.range_succ, List.map_append, List.append_assoc]
  rfl) (by
  show yY (a : Int) o (i : Int) _ (a : Int) = _
  unfold yY
  simp [UB])
 have h0 : ((nx ++ (List.range 0).map (fun s : Nat => o[i] ++ [(s : Int)])), ((0 : Nat) : Int)) = (nx, (0 : Int)) := by simp
 rw [h0] at h
 exact h
theorem z6Z {a : Nat} (ha : a ≤ 16) {l : List (List Int)} (hw : ∀ w ∈ l, w.length ≤ 1000) (hl : l.length ≤ 100000) :
  loop (fun s => yZ (a : Int) l s.1 s.2) (([] : List (List Int)), 0) = some (l.flatMap (UB a)) := by
 have h := up (step := fun s => yZ (a : Int) l s.1 s.2) (fun i => ((l.take i).flatMap (UB a), (i : Int))) l.length (t := l.flatMap (UB a)) (by omega) (by
  intro i hi
  show yZ (a : Int) l _ (i : Int) = _
  unfold yZ
  have hq : decide ((i : Int) < (l.length : Int)) = true := by simpa using hi
  have hx : l[i]? = some l[i] := List.getElem?_eq_getElem hi
  have hlen : ((l.take i).flatMap (UB a)).length ≤ 10000000 := by
   rw [z0p, List.length_take]
   have : min i l.length * a ≤ 100000 * 16 := Nat.mul_le_mul (by omega) ha
   omega
  simp only [hq, cond_true]
  rw [bdT (z9m ha hi (hw _ (List.getElem_mem hi)) hlen)]
  unfold jj
  rw [y9 (by omega) (by omega), List.take_add_one, hx, List.flatMap_append]
  simp) (by
  show yZ (a : Int) l _ (l.length : Int) = _
  unfold yZ
  simp)
 simpa using h
theorem z54 {a k : Nat} (ha : 1 ≤ a ∧ a ≤ 16) (hk : k ≤ 256) (hl : a ^ k ≤ 100000) : kN (a : Int) (k : Int) = some (exW a k) := by
 unfold kN
 have h := up (step := fun s => xI (a : Int) (k : Int) s.1 s.2) (fun i => (exW a i, (i : Int))) k (t := exW a k) (by omega) (by
  intro i hi
  show xI (a : Int) (k : Int) _ (i : Int) = _
  unfold xI
  have hq : decide ((i : Int) < (k : Int)) = true := by simpa using hi
  have : a ^ i ≤ a ^ k := Nat.pow_le_pow_right ha.1 (by omega)
  simp only [hq, cond_true]
  rw [bdT (z6Z ha.2 (fun w hw => by rw [kp a i w hw]; omega) (by rw [ZL]; omega))]
  unfold jk jl
  rw [y9 (by omega) (by omega)]
  rfl) (by
  show xI (a : Int) (k : Int) _ (k : Int) = _
  unfold xI
  simp)
 have h0 : (exW a 0, ((0 : Nat) : Int)) = (([[]] : List (List Int)), (0 : Int)) := rfl
 rw [h0] at h
 rw [bdT h]
 rfl
theorem z79 {a k : Nat} (ha : 1 ≤ a ∧ a ≤ 16) (hk : k ≤ 256) (hl : a ^ k ≤ 100000) : kA (a : Int) (k : Int) = some (uW a 0 (k + 1)) := by
 unfold kA
 have hlen : ∀ i, i ≤ k + 1 → (uW a 0 i).length ≤ i * 100000 := by
  intro i
  induction i with
  | zero => intro _; simp [uW]
  | succ i ih =>
   intro hi
   have := ih (by omega)
   have h2 : a ^ i ≤ a ^ k := Nat.pow_le_pow_right ha.1 (by omega)
   simp only [uW, Nat.zero_le, if_true, List.length_append, ZL]
   omega
 have h := up (step := fun s => wp (a : Int) (k : Int) s.1 s.2) (fun i => (uW a 0 i, (i : Int))) (k + 1) (t := uW a 0 (k + 1)) (by omega) (by
  intro i hi
  show wp (a : Int) (k : Int) _ (i : Int) = _
  unfold wp
  have hq : decide ((i : Int) ≤ (k : Int)) = true := by simp; omega
  have h2 : a ^ i ≤ a ^ k := Nat.pow_le_pow_right ha.1 (by omega)
  have h3 := hlen i (by omega)
  simp only [hq, cond_true]
  rw [z54 ha (by omega) (by omega)]
  simp only [Option.bind_some]
  rw [gdT (by rw [ZL]; omega), y9 (by omega) (by omega)]
  simp only [uW, Nat.zero_le, if_true]
  rfl) (by
  show wp (a : Int) (k : Int) _ ((k + 1 : Nat) : Int) = _
  unfold wp
  have hq : decide (((k + 1 : Nat) : Int) ≤ (k : Int)) = false := by simp only [decide_eq_false_iff_not]; omega
  simp only [hq, cond_false])
 have h0 : (uW a 0 0, ((0 : Nat) : Int)) = (([] : List (List Int)), (0 : Int)) := rfl
 rw [h0] at h
 rw [bdT h]
 rfl
end Go.Own

namespace Go.Own
def un (x : List Bool) : Nat := x.countP fun b => !b
theorem zal {x : List Bool} {s : Nat} (h : x[s]? = some false) : un (x.set s true) < un x := by
 induction x generalizing s with
 | nil => simp at h
 | cons b x ih =>
  cases s with
  | zero => simp at h; subst h; simp [un]
  | succ s =>
   have := ih (s := s) (by simpa using h)
   unfold un at *
   rw [List.set_cons_succ, List.countP_cons, List.countP_cons]
   omega
theorem zam : ∀ {x y : List Bool}, y.length = x.length → (∀ t : Nat, x[t]? = some true → y[t]? = some true) → un y ≤ un x
 | [], [], _, _ => Nat.le_refl _
 | a :: x, b :: y, hl, h => by
  have ih := zam (x := x) (y := y) (by simpa using hl) fun t ht => by simpa using h (t + 1) (by simpa using ht)
  have h0 := h 0
  unfold un at *
  rw [List.countP_cons, List.countP_cons]
  cases a <;> cases b <;> simp at h0 ⊢ <;> omega
 | [], _ :: _, hl, _ => by simp at hl
 | _ :: _, [], hl, _ => by simp at hl
structure Dfs (m : z7) (P : Nat → Prop) (x y : List Bool) : Prop where
 len : y.length = x.length
 mono : ∀ t : Nat, x[t]? = some true → y[t]? = some true
 new : ∀ t : Nat, y[t]? = some true → x[t]? = some true ∨ P t ∧ ∀ i, i < kk m → 0 ≤ (E m t i).To → y[(E m t i).To.toNat]? = some true
theorem Dfs.refl {m : z7} {P : Nat → Prop} (x : List Bool) : Dfs m P x x := ⟨rfl, fun _ h => h, fun _ h => .inl h⟩
theorem Dfs.trans {m : z7} {P : Nat → Prop} {x y z : List Bool} (h : Dfs m P x y) (k : Dfs m P y z) : Dfs m P x z := {
 len := k.len.trans h.len
 mono := fun t q => k.mono t (h.mono t q)
 new := fun t q => by
  rcases k.new t q with g | g
  ·rcases h.new t g with r | ⟨r1, r2⟩
   ·exact .inl r
   ·exact .inr ⟨r1, fun i hi h0 => k.mono _ (r2 i hi h0)⟩
  ·exact .inr g }
section
variable {m : z7} (h : VM m)
include h
theorem z5R {P : Nat → Prop} (hP : ∀ t i, P t → t < m.Rows.length → i < kk m → 0 ≤ (E m t i).To → P (E m t i).To.toNat) : ∀ (fu : Nat) (x : List Bool), x.length = m.Rows.length → un x < fu → ∀ s : Int, z4r m s → (0 ≤ s → P s.toNat) →
  ∃ y, zT fu s x m = some (y, m) ∧ Dfs m P x y ∧ (0 ≤ s → y[s.toNat]? = some true)
 | 0, x, _, hu, _, _, _ => by omega
 | fu + 1, x, hx, hu, s, hs, hPs => by
  have hk := h.kk_le
  show ∃ y, yU (zT fu) s x m = some (y, m) ∧ _
  unfold yU
  by_cases h1 : s = -1
  ·have : (s == -1) = true := by simpa using h1
   rw [this, cond_true]
   exact ⟨x, rfl, Dfs.refl x, fun q => by omega⟩
  ·have e1 : (s == -1) = false := by simpa using h1
   obtain ⟨n, rfl⟩ : ∃ n : Nat, s = n := ⟨s.toNat, by have := hs.1; omega⟩
   have hn : n < m.Rows.length := by have := hs.2; omega
   have hxn : x[n]? = some x[n] := List.getElem?_eq_getElem (by omega)
   rw [e1, cond_false, zH hxn, Option.bind_some]
   by_cases hb : x[n] = true
   ·rw [hb, cond_true]
    exact ⟨x, rfl, Dfs.refl x, fun _ => by simp only [Int.toNat_natCast]; rw [hxn, hb]⟩
   ·have hb : x[n] = false := by simpa using hb
    obtain ⟨r, hr, hrl, hre⟩ := h.rowAt hn
    rw [hb, cond_false, Option.bind_some, zH hr, Option.bind_some]
    simp only [Int.toNat_natCast]
    rw [hb] at hxn
    have hu1 := zal hxn
    have hxl : (x.set n true).length = m.Rows.length := by simpa using hx
    have run : Ret (loop (fun s => yf (zT fu) r s.1 s.2.1 s.2.2.1 s.2.2.2.1 s.2.2.2.2) (x.set n true, m.Inputs, m.Outputs, m.Rows, 0)) fun q => q.2 = m ∧ Dfs m P (x.set n true) q.1 ∧ ∀ j, j < kk m → 0 ≤ (E m n j).To → q.1[(E m n j).To.toNat]? = some true := by
     refine u4 (fun q => ∃ i : Nat, q.2 = (m.Inputs, m.Outputs, m.Rows, (i : Int)) ∧ i ≤ kk m ∧ Dfs m P (x.set n true) q.1 ∧ ∀ j, j < i → 0 ≤ (E m n j).To → q.1[(E m n j).To.toNat]? = some true) (fun q => 100 - q.2.2.2.2.toNat) ⟨0, rfl, Nat.zero_le _, Dfs.refl _, fun j hj => by omega⟩ (by show 100 - _ < _; omega) ?_
     rintro ⟨q, _⟩ ⟨i, rfl, hi, hd, hall⟩
     simp only at hd hall
     show Ret (yf (zT fu) r q m.Inputs m.Outputs m.Rows (i : Int)) _
     unfold yf
     rw [wB]
     refine ⟨fun hc => ?_, fun hc => ?_⟩
     ·have hlt : i < kk m := by simp at hc; omega
      rw [zH (hre i hlt), Option.bind_some]
      have hst : z4r m (E m n i).To := by
       rcases h.edgeAt hn hlt with ⟨g, _⟩ | ⟨g1, g2, _⟩
       ·exact ⟨by omega, by have := h.len1; omega⟩
       ·exact ⟨by omega, g2⟩
      have hPn : P n := by simpa using hPs (by omega)
      obtain ⟨y, y1, y2, y3⟩ := z5R hP fu q (by rw [hd.len]; exact hxl) (by have := zam hd.len hd.mono; omega) (E m n i).To hst (fun h0 => hP n i hPn hn hlt h0)
      have y1' : zT fu (E m n i).To q (z7.mk m.Inputs m.Outputs m.Rows) = some (y, m) := y1
      rw [y1', Option.bind_some, zt, Qb (by omega)]
      refine ⟨⟨i + 1, rfl, hlt, hd.trans y2, fun j hj h0 => ?_⟩, by simp only; omega⟩
      by_cases e : j = i
      ·subst e; exact y3 h0
      ·exact y2.mono _ (hall j (by omega) h0)
     ·have : i = kk m := by simp at hc; omega
      subst this
      rw [zt]
      exact ⟨rfl, hd, hall⟩
    obtain ⟨⟨y, m'⟩, e, hm, hd, hall⟩ := run
    simp only at hm hd hall
    subst hm
    rw [e]
    refine ⟨y, rfl, ?_, fun _ => hd.mono _ ((z15 (by omega)).2 (.inl rfl))⟩
    refine ⟨by rw [hd.len]; simp, fun t ht => hd.mono t ((z15 (by omega)).2 (.inr ht)), fun t ht => ?_⟩
    rcases hd.new t ht with g | g
    ·rcases (z15 (by omega)).1 g with rfl | g
     ·exact .inr ⟨by simpa using hPs (by omega), hall⟩
     ·exact .inl g
    ·exact .inr g
omit h in
theorem Kb (l : List Bool) (hl : l.length < 4611686018427387904) : yo l false = some (!(l.all id)) := by
 unfold yo w6
 have hfs : ∀ (l : List Bool) (k : Nat), (yp (fun i x => if x = true then none else some ((i : Nat) : Int)) l k = none ∧ l.all id = true) ∨ ∃ i : Nat, yp (fun i x => if x = true then none else some ((i : Nat) : Int)) l k = some (i : Int) ∧ l.all id = false := by
  intro l
  induction l with
  | nil => intro k; exact .inl ⟨rfl, rfl⟩
  | cons x l ih =>
   intro k
   simp only [yp, List.all_cons]
   cases x with
   | true => simpa using ih (k + 1)
   | false => exact .inr ⟨k, by simp, by simp⟩
 rw [bdT (ul l hl (step := fun s => y7 l false s) (fun i x => if x = true then none else some ((i : Nat) : Int)) ?_ ?_)]
 ·rcases hfs l 0 with ⟨h1, h2⟩ | ⟨i, h1, h2⟩
  ·rw [h1, h2]; rfl
  ·rw [h1, h2]; simp [oS]
 ·intro i x hx
  have hi := (List.getElem?_eq_some_iff.1 hx).1
  unfold y7
  rw [decide_eq_true (by omega), cond_true, zH hx, Option.bind_some]
  cases x <;> rfl
 ·unfold y7
  rw [decide_eq_false (by omega), cond_false]
theorem z0u : Ret (wt m) fun r => r.2 = 0 ∧ (r.1 = true ↔ ∀ t, t < m.Rows.length → Rch m t) := by
 have l1 := h.len1
 have l64 := h.len64
 unfold wt
 rw [z3P, z8v h, Option.bind_some, bne_self_eq_false, cond_false, gdT (by omega)]
 have e0 : ((m.Rows.length : Nat) : Int).toNat = m.Rows.length := by simp
 rw [e0]
 have hun : un (List.replicate m.Rows.length false) < YF := by
  have : un (List.replicate m.Rows.length false) ≤ (List.replicate m.Rows.length false).length := List.countP_le_length
  rw [List.length_replicate] at this
  show _ < 18446744073709551616
  omega
 have hP : ∀ t i, Rch m t → t < m.Rows.length → i < kk m → 0 ≤ (E m t i).To → Rch m (E m t i).To.toNat := fun t i ht _ hi h0 => rch_step ht hi h0
 obtain ⟨y, y1, y2, y3⟩ := z5R h hP YF (List.replicate m.Rows.length false) (by simp) hun 0 ⟨by omega, by omega⟩ (fun _ => ⟨[], by simp [Wd], rfl⟩)
 have hyl : y.length = m.Rows.length := by rw [y2.len]; simp
 have no : ∀ t : Nat, (List.replicate m.Rows.length false)[t]? ≠ some true := fun t q => by
  rw [List.getElem?_replicate] at q
  split at q <;> cases q
 rw [y1, Option.bind_some, Kb y (by omega), Option.bind_some, zt]
 refine ⟨rfl, ?_⟩
 rw [Bool.not_not, List.all_eq_true]
 have clo : ∀ (u : List Nat) (t : Nat), Wd (kk m) u → aft m 0 u = (t : Int) → y[t]? = some true := by
  intro u
  generalize hlen : u.length = n
  induction n generalizing u with
  | zero =>
   intro t _ e
   rw [List.length_eq_zero_iff.1 hlen] at e
   have : t = 0 := by have : (0 : Int) = t := e; omega
   subst this
   exact y3 (by omega)
  | succ n ih =>
   intro t hu e
   have hne : u ≠ [] := by intro q; rw [q] at hlen; simp at hlen
   have hsplit := List.dropLast_concat_getLast hne
   have hu' : Wd (kk m) u.dropLast := fun i hi => hu i (List.dropLast_subset _ hi)
   have hi : u.getLast hne < kk m := hu _ (List.getLast_mem hne)
   have h2 := (WO m u.dropLast 0 (u.getLast hne)).2
   rw [hsplit, e] at h2
   have hin := z2a h u.dropLast 0 ⟨by omega, by omega⟩ hu'
   by_cases hneg : aft m 0 u.dropLast < 0
   ·exfalso
    unfold nxE at h2
    rw [if_pos hneg] at h2
    simp at h2
   ·obtain ⟨s, hs⟩ : ∃ s : Nat, aft m 0 u.dropLast = s := ⟨(aft m 0 u.dropLast).toNat, by omega⟩
    have hy := ih u.dropLast (by simp [hlen]) s hu' hs
    rw [hs, z0l] at h2
    rcases y2.new s hy with g | ⟨_, g⟩
    ·exact absurd g (no s)
    ·have := g _ hi (by omega)
     rw [← h2] at this
     simpa using this
 constructor
 ·intro q t ht
  have hx : y[t]? = some y[t] := List.getElem?_eq_getElem (by omega)
  have := q _ (List.mem_of_getElem? hx)
  rw [show y[t] = true from this] at hx
  rcases y2.new t hx with g | ⟨g, _⟩
  ·exact absurd g (no t)
  ·exact g
 ·intro q b hb
  obtain ⟨t, ht⟩ := List.mem_iff_getElem?.1 hb
  have htl := (List.getElem?_eq_some_iff.1 ht).1
  obtain ⟨u, hu, e⟩ := q t (by omega)
  have := clo u t hu e
  rw [ht] at this
  cases this
  rfl
end
end Go.Own

namespace Go.Own
theorem z6k (k : Nat) : ∀ n, GG k (n + 1) = k * GG k n + 1
 | 0 => by simp [GG]
 | n + 1 => by
  have ih := z6k k n
  show GG k (n + 1) + k ^ (n + 1) = k * (GG k n + k ^ n) + 1
  rw [ih, Nat.mul_add, Nat.pow_succ, Nat.mul_comm (k ^ n) k]
  omega
theorem z9j (k : Nat) : ∀ u : List Nat, rv k u = rk k u.reverse
 | [] => by simp [rv, rk, GG, WC]
 | i :: u => by
  have ih := z9j k u
  unfold rk at ih ⊢
  rw [List.reverse_reverse, List.length_reverse] at ih ⊢
  simp only [rv, List.length_cons, WC, ih, z6k, Nat.add_mul]
  rw [Nat.mul_comm (GG k u.length) k, Nat.mul_comm (WC k u) k]
  omega
def nx1 (m : z7) (s i : Nat) : Option Nat := if 0 ≤ (E m s i).To then some (E m s i).To.toNat else none
abbrev nob : Nat → Nat → Bool := fun _ _ => false
theorem z3q : ∀ (N : Nat) (l : List Nat), l.Nodup → (∀ t ∈ l, t < N) → l.length ≤ N
 | 0, l, _, h => by
  cases l with
  | nil => exact Nat.le_refl _
  | cons x l => have := h x (by simp); omega
 | N + 1, l, hn, h => by
  have ih := z3q N (l.erase N) (hn.erase N) fun t ht => by
   have h1 := h t (List.mem_of_mem_erase ht)
   have h2 : t ≠ N := fun e => by subst e; exact absurd ht (hn.not_mem_erase)
   omega
  by_cases hm : N ∈ l
  ·rw [List.length_erase_of_mem hm] at ih; omega
  ·rw [List.erase_of_not_mem hm] at ih; omega
section
variable {m : z7} (h : VM m)
include h
theorem XL : ∀ (u : List Nat) (q : Nat), z4l (kk m) nob (nx1 m) 0 u q → Wd (kk m) u.reverse ∧ aft m 0 u.reverse = (q : Int) ∧ q < m.Rows.length
 | [], q, e => by
  have e : q = 0 := e
  subst e
  exact ⟨by simp [Wd], rfl, h.len1⟩
 | i :: u, q, ⟨p, hp, hi, _, hn⟩ => by
  obtain ⟨g1, g2, g3⟩ := XL u p hp
  unfold nx1 at hn
  split at hn
  ·rename_i h0
   cases hn
   have q2 := (WO m u.reverse 0 i).2
   rw [g2, z0l] at q2
   rw [List.reverse_cons]
   refine ⟨fun j hj => ?_, by rw [q2]; omega, ?_⟩
   ·rcases List.mem_append.1 hj with g | g
    ·exact g1 j g
    ·rw [List.mem_singleton.1 g]; exact hi
   ·rcases h.edgeAt g3 hi with ⟨g, _⟩ | ⟨_, g, _⟩ <;> omega
  ·cases hn
theorem z0J : ∀ (u : List Nat) (q : Nat), Wd (kk m) u.reverse → aft m 0 u.reverse = (q : Int) → z4l (kk m) nob (nx1 m) 0 u q
 | [], q, _, e => by have : (0 : Int) = q := e; show q = 0; omega
 | i :: u, q, hu, e => by
  rw [List.reverse_cons] at hu e
  have hu' : Wd (kk m) u.reverse := fun j hj => hu j (by simp [List.mem_reverse.1 hj])
  have hi : i < kk m := hu i (by simp)
  have q2 := (WO m u.reverse 0 i).2
  rw [e] at q2
  have hin := z2a h u.reverse 0 ⟨by omega, by have := h.len1; omega⟩ hu'
  by_cases hneg : aft m 0 u.reverse < 0
  ·exfalso
   unfold nxE at q2
   rw [if_pos hneg] at q2
   simp at q2
  ·obtain ⟨s, hs⟩ : ∃ s : Nat, aft m 0 u.reverse = s := ⟨(aft m 0 u.reverse).toNat, by omega⟩
   rw [hs, z0l] at q2
   refine ⟨s, z0J u s hu' hs, hi, rfl, ?_⟩
   unfold nx1
   rw [if_pos (by omega), ← q2]
   simp
def zd6 (L : List (Nat × List Nat)) (a : Nat) (x : zf) (c : Nat × List Nat) : Prop :=
 x.state_ = (c.1 : Int) ∧ ((c.2 = [] ∧ x.from_ = -1) ∨ ∃ (i : Nat) (u : List Nat) (p j : Nat), c.2 = i :: u ∧ x.input_ = (i : Int) ∧ x.from_ = (p : Int) ∧ j < a ∧ L[j]? = some (p, u))
structure Que (m : z7) (L : List (Nat × List Nat)) (a : Nat) (seen : List Bool) (Q : List zf) : Prop where
 len : seen.length = m.Rows.length
 seen : ∀ t : Nat, seen[t]? = some true ↔ ∃ u, (t, u) ∈ L
 nodup : (L.map (·.1)).Nodup
 qlen : Q.length + a = L.length
 arr : ∀ (j : Nat) (x : zf), Q[j]? = some x → ∃ c, L[a + j]? = some c ∧ zd6 L (a + j) x c
theorem z2y {L : List (Nat × List Nat)} {a : Nat} {i : Nat} (hb : Bfs (kk m) nob (nx1 m) 0 L a i) (hn : (L.map (·.1)).Nodup) : L.length ≤ m.Rows.length := by
 have := z3q m.Rows.length (L.map (·.1)) hn fun t ht => by
  obtain ⟨c, hc, rfl⟩ := List.mem_map.1 ht
  exact (XL h c.2 c.1 (hb.path c hc)).2.2
 simpa using this
theorem z9k {L : List (Nat × List Nat)} {a : Nat} {c : Nat × List Nat} {seen : List Bool} {Q : List zf} {σ : Type} (yr : σ × Bool) (x : zf) (hc : L[a]? = some c) (hx : x.state_ = (c.1 : Int))
  (hb : Bfs (kk m) nob (nx1 m) 0 L a 0) (hq : Que m L (a + 1) seen Q) {r : List z8} (hr : r.length = kk m) (hre : ∀ i, i < kk m → r[i]? = some (E m c.1 i)) :
  Ret (loop (fun s => yV x yr r s.1 s.2.1 s.2.2) (seen, Q, 0)) fun t => t.1 = yr.1 ∧ ∃ L', L.length ≤ L'.length ∧ L'.take L.length = L ∧ Bfs (kk m) nob (nx1 m) 0 L' a (kk m) ∧ Que m L' (a + 1) t.2.1 t.2.2 := by
 have hk := h.kk_le
 have hal := (List.getElem?_eq_some_iff.1 hc).1
 have hcN := (XL h c.2 c.1 (hb.path c (List.mem_of_getElem? hc))).2.2
 refine u4 (fun s => ∃ (i : Nat) (L' : List (Nat × List Nat)), s.2.2 = (i : Int) ∧ i ≤ kk m ∧ L.length ≤ L'.length ∧ L'.take L.length = L ∧ Bfs (kk m) nob (nx1 m) 0 L' a i ∧ Que m L' (a + 1) s.1 s.2.1) (fun s => 100 - s.2.2.toNat) ⟨0, L, rfl, Nat.zero_le _, Nat.le_refl _, List.take_length, hb, hq⟩ (by show 100 - _ < _; omega) ?_
 rintro ⟨seen', Q', _⟩ ⟨i, L', rfl, hi, hll, htk, hb', hq'⟩
 simp only at hq'
 show Ret (yV x yr r seen' Q' (i : Int)) _
 unfold yV
 rw [wB]
 refine ⟨fun h1 => ?_, fun h1 => ?_⟩
 ·have hlt : i < kk m := by simp at h1; omega
  have hc' : L'[a]? = some c := by
   have : (L'.take L.length)[a]? = some c := by rw [htk]; exact hc
   rwa [List.getElem?_take, if_pos hal] at this
  rw [zH (hre i hlt), Option.bind_some]
  have old : (∀ q, nx1 m c.1 i = some q → ∃ b ∈ L', b.1 = q) → Ret (yc (σ := σ) (i : Int) seen' Q') (LRP (fun s' => (∃ (i : Nat) (L' : List (Nat × List Nat)), s'.2.2 = (i : Int) ∧ i ≤ kk m ∧ L.length ≤ L'.length ∧ L'.take L.length = L ∧ Bfs (kk m) nob (nx1 m) 0 L' a i ∧ Que m L' (a + 1) s'.1 s'.2.1) ∧ 100 - s'.2.2.toNat < 100 - ((i : Int)).toNat) (fun t => t.1 = yr.1 ∧ ∃ L', L.length ≤ L'.length ∧ L'.take L.length = L ∧ Bfs (kk m) nob (nx1 m) 0 L' a (kk m) ∧ Que m L' (a + 1) t.2.1 t.2.2)) := by
   intro hn
   unfold yc
   rw [zt, Qb (by omega)]
   exact ⟨⟨i + 1, L', rfl, hlt, hll, htk, hb'.old hc' hlt rfl hn, hq'⟩, by simp only; omega⟩
  rcases h.edgeAt hcN hlt with ⟨g1, _⟩ | ⟨g1, g2, _⟩
  ·have : ((E m c.1 i).To != -1) = false := by rw [g1]; rfl
   rw [this, cond_false]
   exact old fun q hq => by unfold nx1 at hq; rw [if_neg (by omega)] at hq; cases hq
  ·have e1 : ((E m c.1 i).To != -1) = true := by simp; omega
   obtain ⟨q, hq0⟩ : ∃ q : Nat, (E m c.1 i).To = q := ⟨(E m c.1 i).To.toNat, by omega⟩
   have hqN : q < m.Rows.length := by omega
   have hnx : nx1 m c.1 i = some q := by unfold nx1; rw [if_pos g1, hq0]; simp
   have hsq : seen'[q]? = some seen'[q]! := by
    have : q < seen'.length := by rw [hq'.len]; exact hqN
    rw [List.getElem?_eq_getElem this]; simp [this]
   rw [e1, cond_true, hq0, zH hsq, Option.bind_some]
   by_cases hs : seen'[q]! = true
   ·rw [hs]
    simp only [Bool.not_true, cond_false]
    refine old fun q' hq2 => ?_
    rw [hnx] at hq2
    cases hq2
    rw [hs] at hsq
    obtain ⟨u, hu⟩ := (hq'.seen q).1 hsq
    exact ⟨_, hu, rfl⟩
   ·have hs : seen'[q]! = false := by simpa using hs
    have hnot : ∀ u, (q, u) ∉ L' := fun u hu => by
     have := (hq'.seen q).2 ⟨u, hu⟩
     rw [hsq, hs] at this
     cases this
    have hL' := z2y h hb' hq'.nodup
    have hN := h.len64
    have hql := hq'.qlen
    rw [hs]
    simp only [Bool.not_false, cond_true]
    rw [Option.bind_some, gdT (by simp; omega)]
    unfold yc
    rw [zt, Qb (by omega)]
    refine ⟨⟨i + 1, L' ++ [(q, i :: c.2)], rfl, hlt, by simp; omega, by rw [List.take_append_of_le_length hll, htk], hb'.new hc' hlt rfl hnx, ?_⟩, by simp only; omega⟩
    refine ⟨by simp [hq'.len], fun t => ?_, ?_, by simp; omega, fun j y hy => ?_⟩
    ·simp only [Int.toNat_natCast]
     rw [z15 (by rw [hq'.len]; exact hqN), hq'.seen]
     constructor
     ·rintro (rfl | ⟨u, hu⟩)
      ·exact ⟨_, List.mem_append_right _ (List.mem_singleton.2 rfl)⟩
      ·exact ⟨u, List.mem_append_left _ hu⟩
     ·rintro ⟨u, hu⟩
      rcases List.mem_append.1 hu with g | g
      ·exact .inr ⟨u, g⟩
      ·have := List.mem_singleton.1 g
       cases this
       exact .inl rfl
    ·rw [List.map_append, List.nodup_append]
     refine ⟨hq'.nodup, by simp, fun t ht s hs' e => ?_⟩
     obtain ⟨b, hb1, rfl⟩ := List.mem_map.1 ht
     have hs2 : s = q := by simpa using hs'
     exact hnot b.2 (by rw [← hs2, ← e]; exact hb1)
    ·rcases Nat.lt_or_ge j Q'.length with g | g
     ·rw [List.getElem?_append_left g] at hy
      obtain ⟨d, d1, d2, d3⟩ := hq'.arr j y hy
      have dl := (List.getElem?_eq_some_iff.1 d1).1
      refine ⟨d, by rw [List.getElem?_append_left dl]; exact d1, d2, ?_⟩
      rcases d3 with d3 | ⟨i', u', p, j', e1, e2, e3, e4, e5⟩
      ·exact .inl d3
      ·exact .inr ⟨i', u', p, j', e1, e2, e3, e4, by rw [List.getElem?_append_left (List.getElem?_eq_some_iff.1 e5).1]; exact e5⟩
     ·have hjl := (List.getElem?_eq_some_iff.1 hy).1
      simp at hjl
      have hj : j = Q'.length := by omega
      subst hj
      simp at hy
      subst hy
      refine ⟨(q, i :: c.2), by rw [List.getElem?_append_right (by omega), show a + 1 + Q'.length - L'.length = 0 by omega]; rfl, rfl, .inr ⟨i, c.2, c.1, a, rfl, rfl, hx, by omega, ?_⟩⟩
      rw [List.getElem?_append_left (by omega), hc']
 ·have : i = kk m := by simp at h1; omega
  subst this
  rw [zt]
  exact ⟨rfl, L', hll, htk, hb', hq'⟩
structure zbS (m : z7) (L : List (Nat × List Nat)) (a : Nat) (l : List (List Int)) (is : List Bool) : Prop where
 l1 : l.length = m.Rows.length
 l2 : is.length = m.Rows.length
 got : ∀ (j : Nat) (c : Nat × List Nat), j < a → L[j]? = some c → is[c.1]? = some true ∧ l[c.1]? = some (c.2.reverse.map Int.ofNat)
 rest : ∀ t : Nat, t < m.Rows.length → (∀ (j : Nat) (c : Nat × List Nat), j < a → L[j]? = some c → c.1 ≠ t) → is[t]? = some false ∧ l[t]? = some []
omit h in
theorem zbs (w : List Int) (hw : w.length ≤ 4294967296) : yj w = some w := z3O w hw
theorem z7e {L : List (Nat × List Nat)} {a : Nat} {l : List (List Int)} {is : List Bool} (hp : zbS m L a l is) {c : Nat × List Nat} (hc : L[a]? = some c) {x : zf} (hx : zd6 L a x c) (hn : (L.map (·.1)).Nodup) (hb : Bfs (kk m) nob (nx1 m) 0 L a 0) :
  ∃ l' is', yW l is x = some (.next (l', is')) ∧ zbS m L (a + 1) l' is' := by
 have hal := (List.getElem?_eq_some_iff.1 hc).1
 have hcN := (XL h c.2 c.1 (hb.path c (List.mem_of_getElem? hc))).2.2
 obtain ⟨q1, q2⟩ := hx
 have hne : ∀ (j : Nat) (d : Nat × List Nat), j < a → L[j]? = some d → d.1 ≠ c.1 := fun j d hj hd e => by
  have h1 : (L.map (·.1))[j]? = some d.1 := by rw [List.getElem?_map, hd]; rfl
  have h2 : (L.map (·.1))[a]? = some c.1 := by rw [List.getElem?_map, hc]; rfl
  rw [← e] at h2
  have := ((List.getElem?_inj (List.getElem?_eq_some_iff.1 h1).1 hn).1 (h1.trans h2.symm))
  omega
 obtain ⟨r1, r2⟩ := hp.rest c.1 hcN hne
 have main : ∀ w : List Int, w = c.2.reverse.map Int.ofNat → zbS m L (a + 1) (l.set c.1 w) (is.set c.1 true) := by
  intro w hw
  refine ⟨by simp [hp.l1], by simp [hp.l2], fun j d hj hd => ?_, fun t ht hall => ?_⟩
  ·by_cases e : j = a
   ·subst e
    rw [hc] at hd
    cases hd
    rw [List.getElem?_set_self (by rw [hp.l2]; exact hcN), List.getElem?_set_self (by rw [hp.l1]; exact hcN), hw]
    exact ⟨rfl, rfl⟩
   ·have hne' := hne j d (by omega) hd
    rw [List.getElem?_set_ne (Ne.symm hne'), List.getElem?_set_ne (Ne.symm hne')]
    exact hp.got j d (by omega) hd
  ·have hne' : c.1 ≠ t := hall a c (by omega) hc
   rw [List.getElem?_set_ne hne', List.getElem?_set_ne hne']
   exact hp.rest t ht fun j d hj hd => hall j d (by omega) hd
 unfold yW
 rw [q1, zH r1, Option.bind_some]
 simp only [Int.toNat_natCast]
 rcases q2 with ⟨q2, q3⟩ | ⟨i, u, p, j, q2, q3, q4, q5, q6⟩
 ·have : (x.from_ != -1) = false := by rw [q3]; rfl
  rw [this, cond_false]
  refine ⟨l, is.set c.1 true, rfl, ?_⟩
  have := main [] (by rw [q2]; rfl)
  have e : l.set c.1 [] = l := by
   apply List.ext_getElem?
   intro t
   by_cases e : t = c.1
   ·subst e; rw [List.getElem?_set_self (by rw [hp.l1]; exact hcN), r2]
   ·rw [List.getElem?_set_ne (Ne.symm e)]
  rwa [e] at this
 ·have : (x.from_ != -1) = true := by rw [q4]; simp <;> omega
  obtain ⟨g1, g2⟩ := hp.got j (p, u) q5 q6
  have hul : u.length ≤ j := hb.short j (p, u) q6
  have hjL := (List.getElem?_eq_some_iff.1 q6).1
  have hLN := z2y h hb hn
  have hN := h.len64
  rw [this, cond_true, q4, zH g2, Option.bind_some, zbs _ (by simp; omega), Option.bind_some, gdT (by simp; omega), z0x, Option.bind_some, zH r2, Option.bind_some]
  refine ⟨_, _, rfl, main _ ?_⟩
  rw [q2, q3]
  simp
theorem KP : Ret (kF m 0) (Qa m) := by
 have l1 := h.len1
 have hN := h.len64
 have e0 : ((m.Rows.length : Nat) : Int).toNat = m.Rows.length := by simp
 unfold kF jd
 rw [gdT (by omega), gdT (by omega), Option.bind_some, e0, w7]
 refine Ret.mono (Q := fun t => ∃ l is, t = .next (l, is) ∧ Qa m (l, is)) ?_ ?_
 ·dsimp only
  unfold vd
  have hrep : (List.replicate m.Rows.length false)[(0 : Nat)]? = some false := by rw [List.getElem?_replicate, if_pos (by omega)]
  rw [gdT (by omega), e0, w7, show idx (List.replicate m.Rows.length false) 0 = some false from hrep, zt, w7]
  refine Ret.mono (Q := fun t => ∃ l is, t = .next (l, is) ∧ Qa m (l, is)) ?_ fun t ht => zt.2 ht
  have hst0 : Que m [(0, [])] 0 ((List.replicate m.Rows.length false).set (0 : Int).toNat true) [zf.mk 0 (-1) (-1)] := by
   refine ⟨by simp, fun t => ?_, by simp, by simp, fun j x hx => ?_⟩
   ·show ((List.replicate m.Rows.length false).set 0 true)[t]? = some true ↔ _
    rw [z15 (by simp; omega)]
    constructor
    ·rintro (rfl | q)
     ·exact ⟨[], by simp⟩
     ·rw [List.getElem?_replicate] at q; split at q <;> cases q
    ·rintro ⟨u, hu⟩
     simp at hu
     exact .inl hu.1
   ·have hj := (List.getElem?_eq_some_iff.1 hx).1
    simp at hj
    subst hj
    simp at hx
    subst hx
    exact ⟨(0, []), rfl, rfl, .inl ⟨rfl, rfl⟩⟩
  have hp0 : zbS m [(0, [])] 0 (List.replicate m.Rows.length ([] : List Int)) (List.replicate m.Rows.length false) := by
   refine ⟨by simp, by simp, fun j c hj => by omega, fun t ht _ => ?_⟩
   rw [List.getElem?_replicate, List.getElem?_replicate, if_pos ht, if_pos ht]
   exact ⟨rfl, rfl⟩
  refine u4 (fun s => ∃ (a : Nat) (L : List (Nat × List Nat)) (l : List (List Int)) (is : List Bool), s.1 = .next (l, is) ∧ a ≤ L.length ∧ Bfs (kk m) nob (nx1 m) 0 L a 0 ∧ Que m L a s.2.1 s.2.2 ∧ zbS m L a l is) (fun s => match s.1 with | .next (l, is) => 200 - (is.countP id) | .done _ => 0) ⟨0, _, _, _, rfl, by simp, Bfs.start, hst0, hp0⟩ (by show 200 - _ < _; omega) ?_
  rintro ⟨sg, seen, Q⟩ ⟨a, L, l, is, hsg, haL, hb, hq, hp⟩
  simp only at hsg hq
  subst hsg
  have hLN := z2y h hb hq.nodup
  have hql := hq.qlen
  show Ret (xQ m (yOf (fun s x => yW s.1 s.2 x)) (.next (l, is)) seen Q) _
  unfold xQ
  rw [wB]
  refine ⟨fun h1 => ?_, fun h1 => ?_⟩
  ·have hQ : 0 < Q.length := by simp at h1; omega
   have hx0 : Q[0]? = some Q[0] := List.getElem?_eq_getElem hQ
   obtain ⟨c, c1, c2⟩ := hq.arr 0 _ hx0
   rw [Nat.add_zero] at c1 c2
   have hal := (List.getElem?_eq_some_iff.1 c1).1
   have hcN := (XL h c.2 c.1 (hb.path c (List.mem_of_getElem? c1))).2.2
   obtain ⟨l', is', y1, y2⟩ := z7e h hp c1 c2 hq.nodup hb
   have yv : yOf (fun (s : List (List Int) × List Bool) x => yW s.1 s.2 x) (.next (l, is)) Q[0] = some (.next (l', is'), true) := by
    unfold yOf
    simp only
    rw [y1]
   obtain ⟨r, hr, hrl, hre⟩ := h.rowAt hcN
   have hs0 := c2.1
   rw [show idx Q 0 = some Q[0] from hx0, Option.bind_some, gdT (by omega), yv, Option.bind_some]
   simp only [Bool.not_true, cond_false]
   rw [hs0, zH hr, Option.bind_some, w7]
   have hq' : Que m L (a + 1) seen (Q.drop 1) := by
    refine ⟨hq.len, hq.seen, hq.nodup, by rw [List.length_drop]; omega, fun j x hx => ?_⟩
    rw [List.getElem?_drop] at hx
    have := hq.arr (1 + j) x hx
    rwa [show a + (1 + j) = a + 1 + j by omega] at this
   refine (z9k h (σ := LR (List (List Int) × List Bool) Empty) (LR.next (l', is'), true) Q[0] c1 hs0 hb hq' hrl hre).mono ?_
   rintro ⟨sg', seen', Q'⟩ ⟨e1, L', g1, g2, g3, g4⟩
   simp only at e1 g4
   rw [zt]
   have same : ∀ j, j < L.length → L'[j]? = L[j]? := fun j hj => by
    have : (L'.take L.length)[j]? = L[j]? := by rw [g2]
    rwa [List.getElem?_take, if_pos hj] at this
   have hal' : a < L'.length := by omega
   refine ⟨⟨a + 1, L', l', is', e1, hal', g3.step hal', g4, ?_⟩, ?_⟩
   ·refine ⟨y2.l1, y2.l2, fun j d hj hd => y2.got j d hj (by rw [← same j (by omega)]; exact hd), fun t ht hall => y2.rest t ht fun j d hj hd => hall j d hj (by rw [same j (by omega)]; exact hd)⟩
   ·subst e1
    have hfalse : is[c.1]? = some false := (hp.rest c.1 hcN fun j d hj hd e => by
     have h1 : (L.map (·.1))[j]? = some d.1 := by rw [List.getElem?_map, hd]; rfl
     have h2 : (L.map (·.1))[a]? = some c.1 := by rw [List.getElem?_map, c1]; rfl
     rw [← e] at h2
     have := ((List.getElem?_inj (List.getElem?_eq_some_iff.1 h1).1 hq.nodup).1 (h1.trans h2.symm))
     omega).1
    have hset : is' = is.set c.1 true := by
     unfold yW at y1
     rw [hs0, zH hfalse, Option.bind_some] at y1
     simp only [Int.toNat_natCast] at y1
     rcases zQ y1 with ⟨_, y1⟩ | ⟨_, y1⟩
     ·obtain ⟨_, _, y1⟩ := zg y1
      obtain ⟨_, _, y1⟩ := zg y1
      obtain ⟨_, y1⟩ := gdE y1
      obtain ⟨_, _, y1⟩ := zg y1
      obtain ⟨_, _, y1⟩ := zg y1
      cases y1; rfl
     ·cases y1; rfl
    subst hset
    have hcl : c.1 < is.length := by rw [hp.l2]; exact hcN
    have cnt : (is.set c.1 true).countP id = is.countP id + 1 := by
     rw [List.countP_set hcl]
     have : is[c.1] = false := by rw [List.getElem?_eq_getElem hcl] at hfalse; exact Option.some.inj hfalse
     simp [this]
    have cle : (is.set c.1 true).countP id ≤ (is.set c.1 true).length := List.countP_le_length
    rw [List.length_set, hp.l2] at cle
    show 200 - (is.set c.1 true).countP id < 200 - is.countP id
    omega
  ·have hQ : Q.length = 0 := by simp at h1; simp [h1]
   have ha : a = L.length := by omega
   rw [zt]
   refine ⟨l, is, rfl, hp.l1, hp.l2, fun t ht => ?_⟩
   have atEnd : ∀ c, L[a]? = some c → False := fun c hc => by have := (List.getElem?_eq_some_iff.1 hc).1; omega
   by_cases hex : ∃ u, (t, u) ∈ L
   ·obtain ⟨u, hu⟩ := hex
    obtain ⟨j, hj⟩ := List.getElem?_of_mem hu
    have hjl := (List.getElem?_eq_some_iff.1 hj).1
    obtain ⟨g1, g2⟩ := hp.got j (t, u) (by omega) hj
    obtain ⟨p1, p2, p3⟩ := XL h u t (hb.path _ hu)
    refine .inl ⟨g1, u.reverse, g2, p1, ?_, p2, fun v hv e => ?_⟩
    ·rw [List.length_reverse]
     have : u.length ≤ j := hb.short j (t, u) hj
     omega
    ·obtain ⟨j2, b, b1, b2, b3⟩ := hb.reach v.reverse t (z0J h v.reverse t (by rw [List.reverse_reverse]; exact hv) (by rw [List.reverse_reverse]; exact e)) fun c hc => (atEnd c hc).elim
     have hb2 : b.2 = u := by
      have h1 : (L.map (·.1))[j]? = some t := by rw [List.getElem?_map, hj]; rfl
      have h2 : (L.map (·.1))[j2]? = some t := by rw [List.getElem?_map, b1]; exact congrArg some b2
      have := ((List.getElem?_inj (List.getElem?_eq_some_iff.1 h1).1 hq.nodup).1 (h1.trans h2.symm))
      subst this
      rw [hj] at b1
      cases b1; rfl
     rw [hb2, z9j, z9j, List.reverse_reverse] at b3
     exact b3
   ·refine .inr ⟨(hp.rest t ht fun j c hj hc e => hex ⟨c.2, by rw [← e]; exact List.mem_of_getElem? hc⟩).1, fun v hv e => ?_⟩
    obtain ⟨j2, b, b1, b2, _⟩ := hb.reach v.reverse t (z0J h v.reverse t (by rw [List.reverse_reverse]; exact hv) (by rw [List.reverse_reverse]; exact e)) fun c hc => (atEnd c hc).elim
    exact hex ⟨b.2, by rw [← b2]; exact List.mem_of_getElem? b1⟩
 ·rintro t ⟨l, is, rfl, ha⟩
  simp only
  unfold jb
  exact zt.2 ha
theorem z2h : Ret (jq m) fun r => r.2.2 = 0 ∧ Qa m (r.1, r.2.1) := by
 unfold jq
 rw [z3P, z8v h, Option.bind_some, bne_self_eq_false, cond_false, w7]
 exact (KP h).mono fun r hr => zt.2 ⟨rfl, hr⟩
end
end Go.Own

namespace Go.Own
theorem z5N (a : Nat) : ∀ k, ∀ w ∈ exW a k, ∀ c ∈ w, 0 ≤ c ∧ c < (a : Int)
 | 0, w, hw, c, hc => by
  have : w = [] := by simpa [exW] using hw
  subst this; simp at hc
 | k + 1, w, hw, c, hc => by
  simp only [exW, List.mem_flatMap] at hw
  obtain ⟨u, hu, hw⟩ := hw
  simp only [UB, List.mem_map, List.mem_range] at hw
  obtain ⟨s, hs, rfl⟩ := hw
  rcases List.mem_append.1 hc with q | q
  ·exact z5N a k u hu c q
  ·rw [List.mem_singleton.1 q]; omega
theorem z0g (a f : Nat) : ∀ k, ∀ w ∈ uW a f k, ∀ c ∈ w, 0 ≤ c ∧ c < (a : Int)
 | 0, w, hw, c, hc => by simp [uW] at hw
 | k + 1, w, hw, c, hc => by
  simp only [uW] at hw
  split at hw
  ·rcases List.mem_append.1 hw with q | q
   ·exact z0g a f k w q c hc
   ·exact z5N a k w q c hc
  ·exact z0g a f k w hw c hc
theorem Jd (a f : Nat) : ∀ k, ∀ w ∈ uW a f (k + 1), w.length ≤ k
 | 0, w, hw => by
  simp only [uW] at hw
  split at hw
  ·have : w ∈ exW a 0 := by simpa using hw
   rw [kp a 0 w this]
   exact Nat.le_refl _
  ·simp at hw
 | k + 1, w, hw => by
  rw [uW] at hw
  split at hw
  ·rcases List.mem_append.1 hw with q | q
   ·exact Nat.le_succ_of_le (Jd a f k w q)
   ·rw [kp a (k + 1) w q]
    exact Nat.le_refl _
  ·exact Nat.le_succ_of_le (Jd a f k w hw)
theorem z7m : ∀ a, a ≤ 6 → ∀ k, k ≤ 3 → lnW a 0 (k + 1) ≤ 259 := by decide
theorem z69 : ∀ a, a ≤ 6 → ∀ k, k ≤ 3 → zbB a 0 k = false := by decide
theorem z5b : ∀ a, a ≤ 6 → ∀ k, k ≤ 3 → a ^ k ≤ 100000 := by decide
section
variable {a k : Nat} (ha : 1 ≤ a) (ha6 : a ≤ 6) (hk : k ≤ 3)
include ha ha6 hk
omit ha in
theorem zak : Wq (a : Int) 259 3 (uW a 0 (k + 1)) := ⟨z0h a 0 _, by rw [Qd]; exact z7m a ha6 k hk, fun w hw => ⟨Nat.le_trans (Jd a 0 k w hw) hk, z0g a 0 _ w hw⟩⟩
theorem zaI : Y1 (a : Int) (k : Int) = some (uW a 0 (k + 1), 0) := by
 unfold Y1
 have := za4 (a := a) (f := 0) (t := k) ⟨ha, by omega⟩ (by omega) (by omega)
 rw [z69 a ha6 k hk] at this
 rw [show ((0 : Nat) : Int) = 0 from rfl] at this
 rw [this]
 rfl
theorem zaZ : kA (a : Int) (k : Int) = some (uW a 0 (k + 1)) := z79 ⟨ha, by omega⟩ (by omega) (z5b a ha6 k hk)
end
section
variable {m : z7} (h : VM m)
include h
theorem z6h {L : Nat} (hN : m.Rows.length ≤ L) {l : List (List Int)} {is : List Bool} (ha : Qa m (l, is)) (hall : ∀ t, t < m.Rows.length → Rch m t) : Wq m.Inputs L (L - 1) (srt l) ∧ ∀ w ∈ l, w.length ≤ L - 1 ∧ ∀ c ∈ w, 0 ≤ c ∧ c < m.Inputs := by
 have hw : ∀ w ∈ l, w.length ≤ L - 1 ∧ ∀ c ∈ w, 0 ≤ c ∧ c < m.Inputs := by
  intro w hw
  obtain ⟨t, ht⟩ := List.mem_iff_getElem?.1 hw
  have htl : t < m.Rows.length := by have := (List.getElem?_eq_some_iff.1 ht).1; rw [ha.1] at this; exact this
  rcases ha.2.2 t htl with ⟨_, v, v1, v2⟩ | ⟨_, v⟩
  ·have v1 : l[t]? = some (v.map Int.ofNat) := v1
   rw [ht] at v1
   cases v1
   refine ⟨by rw [List.length_map]; have := v2.len; omega, fun c hc => ?_⟩
   obtain ⟨i, hi, rfl⟩ := List.mem_map.1 hc
   have := v2.wd i hi
   have := h.kk_eq
   exact ⟨Int.natCast_nonneg _, by show (i : Int) < _; omega⟩
  ·obtain ⟨u, u1, u2⟩ := hall t htl
   exact absurd u2 (v u u1)
 exact ⟨⟨QG l, Nat.le_trans (QI l) (by have : l.length = m.Rows.length := ha.1; omega), fun w hm => hw w (ZJ.1 hm)⟩, hw⟩
theorem Ki : Ret (v8 m) fun r => (∀ t, t < m.Rows.length → Rch m t) ∧ (∃ l is, Qa m (l, is) ∧ r = (srt l, 0)) ∨ (¬ ∀ t, t < m.Rows.length → Rch m t) ∧ r = ([], 11) := by
 obtain ⟨⟨b, e⟩, hc, he, hb⟩ := z0u h
 simp only at he hb
 subst he
 unfold v8
 rw [hc, Option.bind_some]
 simp only [bne_self_eq_false, cond_false]
 by_cases hr : b = true
 ·subst hr
  have hall := hb.1 rfl
  simp only [Bool.not_true, cond_false]
  obtain ⟨⟨l, is, e⟩, ha, he, hacc⟩ := z2h h
  simp only at he hacc
  subst he
  obtain ⟨hwq, hws⟩ := z6h h h.len64 hacc hall
  rw [ha, Option.bind_some]
  simp only [bne_self_eq_false, cond_false]
  have hl64 : l.length ≤ 64 := by have : l.length = m.Rows.length := hacc.1; have := h.len64; omega
  have hlo : loE m.Inputs l = 0 := Qh.2 ⟨⟨h.in1, h.in16⟩, by omega, fun w hw => ⟨by have := (hws w hw).1; omega, (hws w hw).2⟩⟩
  have hsy : qt (srt l) ≤ 65536 := Nat.le_trans (QE hwq.2.1 fun w hw => (hwq.2.2 w hw).1) (by omega)
  have hso : soR l = (srt l, 0) := by
   unfold soR
   rw [if_neg (by have := hwq.2.1; omega)]
  unfold XG
  rw [z3t, hlo, Option.bind_some, bne_self_eq_false, cond_false, z05 (by omega) (fun w hw => by have := (hws w hw).1; omega), hso, Option.bind_some, Option.bind_some, zt]
  exact .inl ⟨hall, l, is, hacc, rfl⟩
 ·have hr : b = false := by simpa using hr
  subst hr
  simp only [Bool.not_false, cond_true]
  rw [zt]
  exact .inr ⟨fun q => (by have := hb.2 q; cases this), rfl⟩
def zfl (m : z7) (k : Int) (r : List (List Int) × Int) : Prop :=
 ((¬ ∀ t, t < m.Rows.length → Rch m t) ∧ r = ([], 11)) ∨ (∀ t, t < m.Rows.length → Rch m t) ∧ (k < 0 ∧ r = ([], 1) ∨ 0 ≤ k ∧ ∃ l is, Qa m (l, is) ∧ r = (srt (w9 (srt l) (uW (kk m) 0 (k.toNat + 1))), 0))
theorem Ub (hN : m.Rows.length ≤ 8) (hk : kk m ≤ 6) {k : Int} (h3 : k ≤ 3) : Ret (xi m k) (zfl m k) := by
 have hkk := h.kk_eq
 have hk1 := h.kk_pos
 unfold xi
 rw [w7]
 refine (Ki h).mono fun r hr => ?_
 rcases hr with ⟨hall, l, is, hacc, rfl⟩ | ⟨hn, rfl⟩
 ·simp only [bne_self_eq_false, cond_false]
  rw [wB]
  refine ⟨fun hc => ?_, fun hc => ?_⟩
  ·rw [zt]
   exact .inr ⟨hall, .inl ⟨of_decide_eq_true hc, rfl⟩⟩
  ·have h0 : 0 ≤ k := by have := of_decide_eq_false hc; omega
   obtain ⟨n, rfl⟩ : ∃ n : Nat, k = n := ⟨k.toNat, by omega⟩
   have hn3 : n ≤ 3 := by omega
   have hup := zaI hk1 hk hn3
   have hwu := zak hk hn3
   rw [hkk] at hup hwu
   obtain ⟨hwq, _⟩ := z6h h hN hacc hall
   have hc1 := hwq.ch ⟨h.in1, h.in16⟩ (by omega) (by omega) (by omega)
   have hc2 := hwu.ch ⟨h.in1, h.in16⟩ (by omega) (by omega) (by omega)
   have hcc := z4u hwq hwu ⟨h.in1, h.in16⟩ hc1 hc2 (by omega) (by omega) (by omega)
   rw [hup, Option.bind_some]
   simp only [bne_self_eq_false, cond_false]
   rw [hcc, Option.bind_some, zt]
   exact .inr ⟨hall, .inr ⟨h0, l, is, hacc, rfl⟩⟩
 ·have : ((11 : Int) != 0) = true := rfl
  simp only [this, cond_true]
  rw [zt]
  exact .inl ⟨hn, rfl⟩
theorem QC (hN : m.Rows.length ≤ 8) (hk : kk m ≤ 6) : Ret (xp m) (zfl m 1) := by
 unfold xp
 rw [w7]
 exact (Ub h hN hk (k := 1) (by omega)).mono fun r hr => zt.2 hr
end
end Go.Own

namespace Go.Own
def Ok5 (a : Int) : Prop := (0) ≤ a ∧ a ≤ 255
def Ok4 (_ : Bool) : Prop := True
def zer (a : Int) : Prop := (0) ≤ a ∧ a ≤ 65535
def zfn (l : List Int) : Prop := ∀ a ∈ l, zer a
def zfm (a : zY) : Prop := Ok5 a.States ∧ Ok5 a.Inputs ∧ Ok5 a.Outputs ∧ Ok4 a.Partial ∧ zfn a.Edges
def Ok3 (a : Int) : Prop := (-9223372036854775808) ≤ a ∧ a ≤ 9223372036854775807
end Go.Own

namespace Go.Own
theorem z7z : ∀ a, a ≤ 3 → ∀ n, n ≤ 6 → GG a n ≤ 1000000000 := by decide
theorem z0L {m : z7} {l l' : List (List Int)} {is is' : List Bool} (h1 : Qa m (l, is)) (h2 : Qa m (l', is')) (hall : ∀ t, t < m.Rows.length → Rch m t) : l = l' := by
 have a1 : l.length = m.Rows.length := h1.1
 have a2 : l'.length = m.Rows.length := h2.1
 apply List.ext_getElem?
 intro t
 by_cases ht : t < m.Rows.length
 ·rcases h1.2.2 t ht with ⟨_, v, v1, v2⟩ | ⟨_, v⟩
  ·rcases h2.2.2 t ht with ⟨_, w, w1, w2⟩ | ⟨_, w⟩
   ·have v1 : l[t]? = some (v.map Int.ofNat) := v1
    have w1 : l'[t]? = some (w.map Int.ofNat) := w1
    rw [v1, w1, z80 v2 w2]
   ·obtain ⟨u, u1, u2⟩ := hall t ht
    exact absurd u2 (w u u1)
  ·obtain ⟨u, u1, u2⟩ := hall t ht
   exact absurd u2 (v u u1)
 ·rw [List.getElem?_eq_none (by omega), List.getElem?_eq_none (by omega)]
theorem z2b {m : z7} {l : List (List Int)} {is : List Bool} (h1 : Qa m (l, is)) {t : Nat} (ht : t < m.Rows.length) : is[t]? = some true ↔ Rch m t := by
 rcases h1.2.2 t ht with ⟨g, v, v1, v2⟩ | ⟨g, v⟩
 ·exact ⟨fun _ => ⟨v, v2.wd, v2.aft⟩, fun _ => g⟩
 ·have g : is[t]? = some false := g
  rw [g]
  exact ⟨fun q => (by cases q), fun ⟨u, u1, u2⟩ => absurd u2 (v u u1)⟩
theorem z47 {m : z7} (v : VM m) (hG : GG (kk m) m.Rows.length ≤ 1000000000) : ∃ (l : List (List Int)) (is : List Bool) (n : Nat), vV m = some (l, is) ∧ Qa m (l, is) ∧ uY m = some (n : Int) ∧ (n < m.Rows.length ↔ ¬ ∀ t, t < m.Rows.length → Rch m t) := by
 obtain ⟨⟨l, is⟩, ha, hacc⟩ := z4k v hG
 have hN := v.len64
 have hlen : is.length = m.Rows.length := hacc.2.1
 refine ⟨l, is, is.countP id, ha, hacc, ?_, ?_⟩
 ·unfold uY
  rw [ha, Option.bind_some]
  have hfl := QU (fun (b : Bool) (n : Int) => if b = true then n + 1 else n) false is 0
  have hcnt : ∀ (x : List Bool) (n : Int), x.foldl (fun n b => if b = true then n + 1 else n) n = n + (x.countP id : Nat) := by
   intro x
   induction x with
   | nil => intro n; simp
   | cons b x ih =>
    intro n
    rw [List.foldl_cons, ih, List.countP_cons]
    cases b <;> simp <;> omega
  have e : loop (fun s => wg (l, is) s.1 s.2) (0, 0) = some ((is.countP id : Nat) : Int) := by
   refine z5u (σ := Int) (fun n i => (n, (i : Int))) (fun i n => if ((is[i]?).getD false) = true then n + 1 else n) (fun i n => 0 ≤ n ∧ n ≤ i) is.length (by omega) ⟨by omega, by omega⟩ (fun i n hi hn => ?_) (fun _ => ?_)
   ·have hx : is[i]? = some is[i] := List.getElem?_eq_getElem hi
    simp only [hx, Option.getD_some]
    refine ⟨?_, ?_⟩
    ·unfold wg vn
     simp only
     rw [decide_eq_true (by omega), cond_true, zH hx, Option.bind_some, Qb (by omega)]
     cases is[i] with
     | true => rw [cond_true, y9 (by omega) (by omega)]; rfl
     | false => rfl
    ·split <;> constructor <;> omega
   ·rw [hfl, hcnt, Int.zero_add]
    simp only
    unfold wg
    simp only
    rw [decide_eq_false (by omega), cond_false]
  rw [e]
  rfl
 ·rw [← hlen]
  have hle : is.countP id ≤ is.length := List.countP_le_length
  have hiff : is.countP id = is.length ↔ ∀ b ∈ is, b = true := by rw [List.countP_eq_length]; simp
  constructor
  ·intro q hall
   have : is.countP id = is.length := hiff.2 fun b hb => by
    obtain ⟨t, ht⟩ := List.mem_iff_getElem?.1 hb
    have htl := (List.getElem?_eq_some_iff.1 ht).1
    have := (z2b hacc (by omega)).2 (hall t htl)
    rw [ht] at this
    cases this; rfl
   omega
  ·intro q
   rcases Nat.lt_or_ge (is.countP id) is.length with g | g
   ·exact g
   ·exfalso
    refine q fun t ht => ?_
    have hx : is[t]? = some is[t] := List.getElem?_eq_getElem ht
    have := hiff.1 (by omega) _ (List.mem_of_getElem? hx)
    rw [this] at hx
    exact (z2b hacc (by omega)).1 hx
theorem z4T {a b : List (List Int)} (hl : a.length ≤ 1000000) (hw : ∀ w ∈ a, w.length ≤ 1000000) (e : a = b) : wQ a b = some true := by
 unfold wQ
 rw [z7b a b (by omega) (fun w hm => by have := hw w hm; omega), decide_eq_true e, Option.bind_some, cond_true, beq_self_eq_true]
theorem z7s {x : zY} {k : Int} (hx : zfm x) (hk : Ok3 k) : wI x k = some true := by
 obtain ⟨a1, a2, a3, _, a5⟩ := hx
 obtain ⟨m, hm, v, _, hI, _, hR⟩ := zb8 (x := x) ⟨a1.1, a2.1, a3.1, a5⟩
 have hm' : kE (zY.mk x.States x.Inputs x.Outputs x.Partial x.Edges) = some m := hm
 unfold wI
 by_cases hk3 : k > 3
 ·rw [decide_eq_true hk3, cond_true]
 have hkk := v.kk_eq
 have hk1 := v.kk_pos
 have hkk3 : kk m ≤ 3 := by omega
 obtain ⟨l, is, n, ha, hacc, hn, hlt⟩ := z47 v (z7z _ hkk3 _ hR)
 obtain ⟨r1, g1, q1⟩ := Ki v
 obtain ⟨r2, g2, q2⟩ := QC v (by omega) (by omega)
 obtain ⟨r3, g3, q3⟩ := Ub v (by omega) (by omega) (k := k) (by omega)
 rw [decide_eq_false hk3, cond_false, hm', Option.bind_some, z1C, g1, Option.bind_some, g2, Option.bind_some, g3, Option.bind_some, hn, Option.bind_some]
 by_cases hall : ∀ t, t < m.Rows.length → Rch m t
 ·have hge : ¬ ((n : Int) < ((m.Rows.length : Nat) : Int)) := fun q => (hlt.1 (by omega)) hall
  rw [decide_eq_false hge, cond_false]
  rcases q1 with ⟨_, l1, i1, c1, rfl⟩ | ⟨q, _⟩
  rotate_left
  ·exact absurd hall q
  have e1 : l1 = l := z0L c1 hacc hall
  subst e1
  rcases q2 with ⟨q, _⟩ | ⟨_, ⟨q, _⟩ | ⟨_, l2, i2, c2, rfl⟩⟩
  ·exact absurd hall q
  ·omega
  have e2 : l2 = l1 := z0L c2 hacc hall
  subst e2
  obtain ⟨hwq, hws⟩ := z6h v hR hacc hall
  have hl6 : l2.length ≤ 6 := by have : l2.length = m.Rows.length := hacc.1; omega
  have hst : uF m = some (srt l2) := by
   unfold uF
   rw [ha, Option.bind_some]; simp only; rw [z7a (by omega) (fun w hw => by have := (hws w hw).1; omega), Option.bind_some]
  have hsw : ∀ j : Nat, j ≤ 3 → vw m (j : Int) = some (srt (w9 (srt l2) (uW (kk m) 0 (j + 1)))) ∧ wQ (srt (w9 (srt l2) (uW (kk m) 0 (j + 1)))) (srt (w9 (srt l2) (uW (kk m) 0 (j + 1)))) = some true := by
   intro j hj
   have hup := zaZ hk1 (by omega) hj
   have hwu := zak (a := kk m) (by omega) hj
   rw [hkk] at hup hwu
   have hp := hwq.prod hwu
   refine ⟨?_, z4T (by have := hp.2.1; omega) (fun w hw => by have := (hp.2.2 w hw).1; omega) rfl⟩
   unfold vw
   rw [hst, Option.bind_some, hup, Option.bind_some, z48 (by have := Nat.mul_le_mul hwq.2.1 hwu.2.1; omega) (by have := hwq.2.1; omega) (by have := hwu.2.1; omega) (fun w hw => by have := (hwq.2.2 w hw).1; omega) (fun w hw => by have := (hwu.2.2 w hw).1; omega), Option.bind_some]
  obtain ⟨s1, s2⟩ := hsw 1 (by omega)
  have htr : wP m = some (srt (w9 (srt l2) (uW (kk m) 0 (1 + 1)))) := by
   unfold wP
   rw [show (1 : Int) = ((1 : Nat) : Int) from rfl, s1, Option.bind_some]
  simp only [bne_self_eq_false, cond_false]
  rw [hst, Option.bind_some, z4T (by have := hwq.2.1; omega) (fun w hw => by have := (hwq.2.2 w hw).1; omega) rfl, Option.bind_some, Bool.not_true, cond_false, htr, Option.bind_some,
   show (1 : Int).toNat = 1 from rfl, s2, Option.bind_some, Bool.not_true, cond_false]
  rcases q3 with ⟨q, _⟩ | ⟨_, ⟨hneg, rfl⟩ | ⟨h0, l3, i3, c3, rfl⟩⟩
  ·exact absurd hall q
  ·rw [decide_eq_true hneg, cond_true]
   rfl
  ·have e3 : l3 = l2 := z0L c3 hacc hall
   subst e3
   obtain ⟨j, rfl⟩ : ∃ j : Nat, k = j := ⟨k.toNat, by omega⟩
   obtain ⟨t1, t2⟩ := hsw j (by omega)
   rw [decide_eq_false (by omega), cond_false]
   simp only [beq_self_eq_true, cond_true, Int.toNat_natCast]
   rw [t1, Option.bind_some, t2, Option.bind_some, cond_true, Option.bind_some]
 ·have hl : (n : Int) < ((m.Rows.length : Nat) : Int) := by have := hlt.2 hall; omega
  rw [decide_eq_true hl, cond_true]
  rcases q1 with ⟨q, _⟩ | ⟨_, rfl⟩
  ·exact absurd q hall
  rcases q2 with ⟨_, rfl⟩ | ⟨q, _⟩
  rotate_left
  ·exact absurd q hall
  rcases q3 with ⟨_, rfl⟩ | ⟨q, _⟩
  rotate_left
  ·exact absurd q hall
  rfl
end Go.Own

namespace Go.Own
def z28 (w : World) : zh := fun b o => zS w.heap b o
theorem z5W {w : World} {a : Addr} {v : Value} (h : w.cell? a = some v) : a.spot = none ∧ zS w.heap a.block a.off = some v := by
 unfold World.cell? at h
 unfold zS
 split at h
 ·rename_i c ty fr he
  rw [he]
  split at h
  ·cases h
  ·rename_i hs
   exact ⟨by simpa using hs, h⟩
 ·cases h
section
variable {H : Type} {enc : TypeId × Value → H} {P : Program} {w : World} {base : Nat} {spare : Nat → Bool} {held : Bool}
theorem z5V {a : Addr} {n : Nat} {cs : List Value} (h : w.cells? base a n = some cs) (hn : 0 < n) : a.spot = none ∧ cs.length = n ∧ KL (z28 w) a.block a.off cs := by
 obtain ⟨_, h2, h3⟩ := World.cells?_some h
 have h0 : a.spot = none := by
  have h4 := h3 0 hn
  cases hc : cs[0]? with
  | none => rw [List.getElem?_eq_none_iff] at hc; omega
  | some v =>
   rw [hc] at h4
   have := (z5W h4).1
   simpa [Addr.add] using this
 refine ⟨h0, h2, fun j v hj => ?_⟩
 have hlt := (List.getElem?_eq_some_iff.1 hj).1
 have h4 := h3 j (by omega)
 rw [hj] at h4
 have q := (z5W h4).2
 unfold Addr.add at q
 split at q
 ·rename_i e; subst e; exact q
 ·exact q
theorem z1m {S : zh} : ∀ {bs : List A} {cs : List Value} {a : A} {c : List Value}, zV S bs cs → Rep S a c → zV S (bs ++ [a]) (cs ++ c)
 | [], cs, a, c, h1, h2 => by
  simp only [zV] at h1
  subst h1
  simp only [List.nil_append, zV]
  exact ⟨c, [], by simp, h2, rfl⟩
 | x :: bs, cs, a, c, h1, h2 => by
  simp only [zV] at h1
  obtain ⟨c1, c2, rfl, r1, r2⟩ := h1
  simp only [List.cons_append, zV]
  exact ⟨c1, c2 ++ c, by simp, r1, z1m r2 h2⟩
theorem z7n {S : zh} {b o : Nat} {c1 c2 : List Value} (h1 : KL S b o c1) (h2 : KL S b (o + c1.length) c2) : KL S b o (c1 ++ c2) := by
 intro j v hj
 rcases Nat.lt_or_ge j c1.length with q | q
 ·rw [List.getElem?_append_left q] at hj
  exact h1 j v hj
 ·rw [List.getElem?_append_right q] at hj
  have := h2 _ _ hj
  rwa [show o + c1.length + (j - c1.length) = o + j by omega] at this
theorem z4L {α : Type} {t e sz : Nat} (f : α → A) (ok : α → Prop) (ht : P.underlying t = some (.slice e)) (hsz : P.cellsOf e = sz) (h0 : 0 < sz) (hf : ∀ a, (f a).size = sz)
    (hel : ∀ n cs x, DataW.trod enc P w base spare held n e cs = some x → ∃ a, ok a ∧ Rep (z28 w) (f a) cs)
    {YF : Nat} {cs : List Value} {x : DataW H × List MemPlace} (h : DataW.trod enc P w base spare held YF t cs = some x) : ∃ l : List α, (∀ a ∈ l, ok a) ∧ Rep (z28 w) (.sl sz false (l.map f)) cs := by
  rcases DataW.trod_slice ht h with ⟨rfl, _⟩ | ⟨a, len, cap, elems, rest, n, _, rfl, _, _, hlc, _, hlen, hall, _, _⟩
  · refine ⟨[], by simp, ?_⟩
    simp only [Rep, List.map_nil, List.length_nil]
    exact ⟨none, 0, rfl, by simp, Nat.le_refl _, by simp, .inl trivial⟩
  · have key : ∀ k, k ≤ len → ∃ (l : List α) (cells : List Value), l.length = k ∧ (∀ a ∈ l, ok a) ∧ zV (z28 w) (l.map f) cells ∧ cells.length = k * sz ∧ (0 < k → a.spot = none) ∧ KL (z28 w) a.block a.off cells := by
      intro k
      induction k with
      | zero => intro _; exact ⟨[], [], rfl, by simp, by simp [zV], by simp, by simp, fun j v h => by simp at h⟩
      | succ k ih =>
        intro hk
        obtain ⟨l, cells, q1, q2, q3, q4, q5, q6⟩ := ih (by omega)
        have hk' := hall k (by omega)
        have hsome : elems[k]? = some elems[k] := List.getElem?_eq_getElem (by omega)
        rw [hsome, Option.bind_eq_some_iff, hsz] at hk'
        obtain ⟨c, hc, htr⟩ := hk'
        obtain ⟨y, hy, hr⟩ := hel _ _ _ htr
        obtain ⟨g1, g2, g3⟩ := z5V hc h0
        refine ⟨l ++ [y], cells ++ c, by simp [q1], ?_, ?_, ?_, ?_, ?_⟩
        · intro z hz
          rcases List.mem_append.1 hz with q | q
          · exact q2 z q
          · simp only [List.mem_cons, List.not_mem_nil, or_false] at q; subst q; exact hy
        · rw [List.map_append]; exact z1m q3 hr
        · rw [List.length_append, q4, g2, Nat.succ_mul]
        · intro _
          rcases Nat.eq_zero_or_pos k with rfl | hk0
          · simpa [Addr.add] using g1
          · exact q5 hk0
        · refine z7n q6 ?_
          rw [q4]
          unfold Addr.add at g3
          split at g3
          · rename_i e0
            rw [e0, Nat.add_zero]
            exact g3
          · exact g3
    obtain ⟨l, cells, q1, q2, q3, q4, q5, q6⟩ := key len (Nat.le_refl _)
    refine ⟨l, q2, ?_⟩
    simp only [Rep, List.length_map]
    refine ⟨some a, cap, by rw [q1], by simp, by omega, ?_, ?_⟩
    · intro y hy
      obtain ⟨z, _, rfl⟩ := List.mem_map.1 hy
      exact hf z
    · rcases Nat.eq_zero_or_pos len with rfl | hl
      · left; rw [List.length_eq_zero_iff.1 q1]; rfl
      · right
        refine ⟨a.block, a.off, cells, ?_, q3, q6⟩
        have := q5 hl
        obtain ⟨b, o, s⟩ := a
        simp only at this
        subst this
        rfl
theorem z2J {t : Nat} {k : IntKind} {lo hi : Int} (ht : P.underlying t = some (.int k)) (hlo : k.min = lo) (hhi : k.max = hi) {YF : Nat} {cs : List Value} {x : DataW H × List MemPlace} (h : DataW.trod enc P w base spare held YF t cs = some x) :
  ∃ n : Int, (lo ≤ n ∧ n ≤ hi) ∧ cs = [.int k n] ∧ Rep (z28 w) (.atom (.int k n)) cs := by
 obtain ⟨n, rfl, _, hw⟩ := DataW.trod_int ht h
 simp only [Lit.wf, Bool.and_eq_true, decide_eq_true_eq, hlo, hhi] at hw
 exact ⟨n, hw, rfl, by simp only [Rep]; exact ⟨trivial, rfl⟩⟩
theorem z7P {t : Nat} (ht : P.underlying t = some .bool) {YF : Nat} {cs : List Value} {x : DataW H × List MemPlace} (h : DataW.trod enc P w base spare held YF t cs = some x) :
  ∃ b : Bool, Rep (z28 w) (.atom (.bool b)) cs := by
 obtain ⟨b, rfl, _⟩ := DataW.trod_bool ht h
 exact ⟨b, by simp only [Rep]; exact ⟨trivial, rfl⟩⟩
theorem z02 {t : Nat} {fs : List Field} (ht : P.underlying t = some (.struct ⟨fs⟩)) {YF : Nat} {cs : List Value} {x : DataW H × List MemPlace} (h : DataW.trod enc P w base spare held YF t cs = some x) :
  cs.length = P.cellsOf t ∧ ∀ (i : Nat) (f : Field), fs[i]? = some f → ∃ n y, DataW.trod enc P w base spare held n f.type ((cs.drop f.offset).take (P.cellsOf f.type)) = some y := by
 obtain ⟨xs, n, _, _, hl, hxl, hall⟩ := DataW.trod_struct ht h
 refine ⟨hl, fun i f hf => ?_⟩
 have hlt := (List.getElem?_eq_some_iff.1 hf).1
 have := hall i f (by simpa using hf)
 rw [List.getElem?_eq_getElem (by rw [hxl]; simpa using hlt)] at this
 exact ⟨n, _, this⟩
end
theorem Xr {S : zh} {a : A} {bs : List A} {cs : List Value} {n : Nat} (h1 : Rep S a (cs.take n)) (h2 : zV S bs (cs.drop n)) : zV S (a :: bs) cs := by
 simp only [zV]
 exact ⟨cs.take n, cs.drop n, (List.take_append_drop n cs).symm, h1, h2⟩
end Go.Own
