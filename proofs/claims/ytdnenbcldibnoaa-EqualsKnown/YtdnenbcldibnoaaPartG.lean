/- Walks, further. -/
import Derived.Test.YtdnenbcldibnoaaPartF
import Derived.Test.YtdnenbcldibnoaaPartC
import Derived.Test.YtdnenbcldibnoaaPartE
noncomputable section
set_option linter.unusedVariables false
set_option linter.unusedSimpArgs false
namespace Go.Own
open Go.Proofs
set_option maxRecDepth 100000
set_option maxHeartbeats 8000000
def xH : Code := (Try.f39.body).getD .skip
def jV : yj := spF (α := z6) (ρ := z6) 39 (fun x => [zl x]) (fun r => zl r) (fun x => ui x) [] (z1T)
abbrev WN (m_ : z6) (out_Rows : List (List z7)) : List (Nat × T) := [(2, .own (.box (.agg [I 0, I 0, eOs 1 true zP []]))), (5, .own (.box (.agg [I m_.Inputs, I m_.Outputs, eOs 1 false uv out_Rows])))]
abbrev WL (m_ : z6) (r_ : List Int) (r_1 : List Int) (k_ : Int) (out_Rows2 : List (List z7)) : List (Nat × T) := [(1, .own (.box (zl m_))), (2, .own (.box (.agg [I 0, I 0, eOs 1 true zP []]))), (3, .own (eOs 1 false (eI .i64) r_)), (4, .own (eOs 1 false (eI .i64) r_1)), (5, .own (.box (.agg [I m_.Inputs, I m_.Outputs, eOs 1 false uv out_Rows2]))), (6, .d (I k_))]
abbrev WK (m_ : z6) (r_ : List Int) (r_1 : List Int) (out_Rows1 : List (List z7)) (k_ : Int) (row : List z7) : List (Nat × T) := [(1, .own (.box (zl m_))), (2, .own (.box (.agg [I 0, I 0, eOs 1 true zP []]))), (3, .own (eOs 1 false (eI .i64) r_)), (4, .own (eOs 1 false (eI .i64) r_1)), (5, .own (.box (.agg [I m_.Inputs, I m_.Outputs, eOs 1 false uv out_Rows1]))), (6, .d (I k_)), (7, .own (eOs 2 false F7_ row))]
abbrev WJ (m_ : z6) (r_ : List Int) (r_1 : List Int) (out_Rows1 : List (List z7)) (k_ : Int) (row1 : List z7) (i_ : Int) (Row_e_e : z7) (x_To : Int) : List (Nat × T) := [(1, .own (.box (zl m_))), (2, .own (.box (.agg [I 0, I 0, eOs 1 true zP []]))), (3, .own (eOs 1 false (eI .i64) r_)), (4, .own (eOs 1 false (eI .i64) r_1)), (5, .own (.box (.agg [I m_.Inputs, I m_.Outputs, eOs 1 false uv out_Rows1]))), (6, .d (I k_)), (7, .own (eOs 2 false F7_ row1)), (8, .d (I i_)), (9, .own (.box (.agg [I x_To, I Row_e_e.Out])))]
abbrev WH (m_ : z6) (r_ : List Int) (r_1 : List Int) (out_Rows1 : List (List z7)) (k_ : Int) (row1 : List z7) (i_ : Int) : List (Nat × T) := [(1, .own (.box (zl m_))), (2, .own (.box (.agg [I 0, I 0, eOs 1 true zP []]))), (3, .own (eOs 1 false (eI .i64) r_)), (4, .own (eOs 1 false (eI .i64) r_1)), (5, .own (.box (.agg [I m_.Inputs, I m_.Outputs, eOs 1 false uv out_Rows1]))), (6, .d (I k_)), (7, .own (eOs 2 false F7_ row1)), (8, .d (I i_))]
abbrev WI (m_ : z6) (r_ : List Int) (r_1 : List Int) (out_Rows1 : List (List z7)) (k_ : Int) : List (Nat × T) := [(1, .own (.box (zl m_))), (2, .own (.box (.agg [I 0, I 0, eOs 1 true zP []]))), (3, .own (eOs 1 false (eI .i64) r_)), (4, .own (eOs 1 false (eI .i64) r_1)), (5, .own (.box (.agg [I m_.Inputs, I m_.Outputs, eOs 1 false uv out_Rows1]))), (6, .d (I k_))]
theorem QZ {ctr : Ctr} (hC : zM Try.prog ctr) (h0k : ctr.Has qt) (h0V : ctr.Has Xj) : jV.Ok Try.prog := by
 refine zV ?_
 rintro m_ r0 hf0
 try unfold ui at hf0
 refine yO false [(2, some 34)] xH 62 Try.func39 fun E hE => ?_
 obtain ⟨r_, h0, hf0⟩ := ze hf0
 obtain ⟨r_1, h1, hf0⟩ := ze hf0
 refine yJ X0 hC xH [1,1,1,1] [] [2,5] (fun z : List (List z7) => uQ m_ z = some r0) (fun z => WN m_ z) [(1, .own (.box (zl m_))), (2, .own (.box (.agg [I 0, I 0, eOs 1 true zP []]))), (3, .own (eOs 1 false (eI .i64) r_)), (4, .own (eOs 1 false (eI .i64) r_1)), (5, .own (.box (.agg [I m_.Inputs, I m_.Outputs, eOs 1 true zP []])))] [Hc h0k (x := m_) h0 (loC zl m_ <| loN), Hc h0V (x := m_) h1 (loC zl m_ <| loN), Hh (.cut 1)] ?_ fun J1 hJ1 => ?_
 ·rintro out_Rows hf0
  unfold uQ at hf0
  obtain rfl := zb hf0
  exact yE X0 hC hE [Hm (shM uv zP out_Rows)]
 ·obtain ⟨t2, ht2, hf0⟩ := ze hf0
  refine yLx X0 hC xH [1,1,1,1,2,1,0] [J1] (fun s => vh m_ r_ r_1 s.1 s.2) (fun x => WI m_ r_ r_1 x.1 x.2) (([] : List (List z7)), 0) ht2 [(1, .own (.box (zl m_))), (2, .own (.box (.agg [I 0, I 0, eOs 1 true zP []]))), (3, .own (eOs 1 false (eI .i64) r_)), (4, .own (eOs 1 false (eI .i64) r_1)), (5, .own (.box (.agg [I m_.Inputs, I m_.Outputs, eOs 1 true uv []]))), (6, .d (I 0))] inferInstance [] ?_
  rintro ⟨out_Rows1, k_⟩ m2 lr1 hf1 hl1 J2 hJ2
  try unfold vh at hf1
  rcases zD hf1 with ⟨c0, hf1⟩ | ⟨c0, hf1⟩
  ·refine yJ X0 hC xH [1,1,1,1,2,1,0,0,1] [J1, J2] [1,2,3,4,5,6] (fun z : List (List z7) => uP k_ z = some lr1) (fun z => WL m_ r_ r_1 k_ z) [(1, .own (.box (zl m_))), (2, .own (.box (.agg [I 0, I 0, eOs 1 true zP []]))), (3, .own (eOs 1 false (eI .i64) r_)), (4, .own (eOs 1 false (eI .i64) r_1)), (5, .own (.box (.agg [I m_.Inputs, I m_.Outputs, eOs 1 false uv out_Rows1]))), (6, .d (I k_))] [Ha (lnM (eI .i64) r_), Hq c0, Hh (.cut 0)] ?_ fun J3 hJ3 => ?_
   ·rintro out_Rows2 hf1
    unfold uP at hf1
    obtain rfl := zb hf1
    exact yB X0 hC hJ2 (out_Rows2, w64 (k_ + 1)) hl1 []
   ·refine yJ X0 hC xH [1,1,1,1,2,1,0,0,1,2,0,1] [J1, J2, J3] [1,2,3,4,5,6,7] (fun z : List z7 => uO out_Rows1 k_ z = some lr1) (fun z => WK m_ r_ r_1 out_Rows1 k_ z) [(1, .own (.box (zl m_))), (2, .own (.box (.agg [I 0, I 0, eOs 1 true zP []]))), (3, .own (eOs 1 false (eI .i64) r_)), (4, .own (eOs 1 false (eI .i64) r_1)), (5, .own (.box (.agg [I m_.Inputs, I m_.Outputs, eOs 1 false uv out_Rows1]))), (6, .d (I k_)), (7, .own (eOs 2 true F7_ []))] [Hh (.cut 1)] ?_ fun J4 hJ4 => ?_
    ·rintro row hf1
     unfold uO at hf1
     obtain ⟨g0, hf1⟩ := gdE hf1
     exact yB X0 hC hJ3 (out_Rows1 ++ ([row] : List (List z7))) hf1 [Hq (oC uv row []), Hn (aL uv uv g0), Hl (aM uv out_Rows1 ([row] : List (List z7)))]
    ·obtain ⟨t5, ht5, hf1⟩ := ze hf1
     refine yLx X0 hC xH [1,1,1,1,2,1,0,0,1,2,0,1,2,1,0] [J1, J2, J3, J4] (fun s => vg m_ r_ r_1 k_ s.1 s.2) (fun x => WH m_ r_ r_1 out_Rows1 k_ x.1 x.2) (([] : List z7), 0) ht5 [(1, .own (.box (zl m_))), (2, .own (.box (.agg [I 0, I 0, eOs 1 true zP []]))), (3, .own (eOs 1 false (eI .i64) r_)), (4, .own (eOs 1 false (eI .i64) r_1)), (5, .own (.box (.agg [I m_.Inputs, I m_.Outputs, eOs 1 false uv out_Rows1]))), (6, .d (I k_)), (7, .own (eOs 2 true F7_ [])), (8, .d (I 0))] inferInstance [] ?_
     rintro ⟨row1, i_⟩ m5 lr2 hf2 hl2 J5 hJ5
     try unfold vg at hf2
     rcases zD hf2 with ⟨c1, hf2⟩ | ⟨c1, hf2⟩
     ·obtain ⟨r__e, h2, hf2⟩ := ze hf2
      obtain ⟨Row_e, h3, hf2⟩ := ze hf2
      obtain ⟨Row_e_e, h4, hf2⟩ := ze hf2
      refine yJ X0 hC xH [1,1,1,1,2,1,0,0,1,2,0,1,2,1,0,0,1,0,0,1] [J1, J2, J3, J4, J5] [1,2,3,4,5,6,7,8,9] (fun z : Int => wh row1 i_ Row_e_e z = some lr2) (fun z => WJ m_ r_ r_1 out_Rows1 k_ row1 i_ Row_e_e z) [(1, .own (.box (zl m_))), (2, .own (.box (.agg [I 0, I 0, eOs 1 true zP []]))), (3, .own (eOs 1 false (eI .i64) r_)), (4, .own (eOs 1 false (eI .i64) r_1)), (5, .own (.box (.agg [I m_.Inputs, I m_.Outputs, eOs 1 false uv out_Rows1]))), (6, .d (I k_)), (7, .own (eOs 2 false F7_ row1)), (8, .d (I i_)), (9, .own (.box (F7_ Row_e_e)))] [Hq c1, Hn (iL (eI .i64) h2), Hs (iM (eI .i64) h2), Hi zP h3, Hi F7_ h4, Hh (.cut 0)] ?_ fun J6 hJ6 => ?_
      ·rintro x_To hf2
       unfold wh at hf2
       obtain ⟨g1, hf2⟩ := gdE hf2
       obtain rfl := zb hf2
       exact yB X0 hC hJ5 ((row1 ++ ([(z7.mk x_To Row_e_e.Out)] : List z7)), w64 (i_ + 1)) hl2 [Hq (dM F7_ ([(z7.mk x_To Row_e_e.Out)] : List z7)), Hn (dM F7_ ([(z7.mk x_To Row_e_e.Out)] : List z7)), Hn (aL F7_ F7_ g1), Hl (aM F7_ row1 ([(z7.mk x_To Row_e_e.Out)] : List z7))]
      ·rcases zD hf2 with ⟨c2, hf2⟩ | ⟨c2, hf2⟩
       ·obtain ⟨r__e1, h5, hf2⟩ := ze hf2
        exact yB X0 hC hJ6 r__e1 hf2 [Hq c2, Hn (iL (eI .i64) h5), Hs (iM (eI .i64) h5)]
       ·exact yB X0 hC hJ6 Row_e_e.To hf2 [Hq c2]
     ·obtain rfl := zb hf2
      obtain rfl := hl2
      exact yB X0 hC hJ4 row1 hf1 [Hq c1]
  ·obtain rfl := zb hf1
   obtain rfl := hl1
   exact yB X0 hC hJ1 out_Rows1 hf0 [Ha (lnM (eI .i64) r_), Hq c0]
def jm : Code := (Try.f40.body).getD .skip
def Yt : yj := spF (α := z6 × z6) (ρ := Bool) 40 (fun x => [zl x.1, zl x.2]) (fun r => eB r) (fun x => kG x.1 x.2) [] (Wf)
abbrev Qu : List (Nat × T) := []
abbrev Qt (a_ : z6) (b_ : z6) (s_ : Int) : List (Nat × T) := [(2, .own (.box (zl a_))), (3, .own (.box (zl b_))), (5, .d (I s_))]
abbrev Qr (a_ : z6) (b_ : z6) (s_ : Int) (i_ : Int) : List (Nat × T) := [(2, .own (.box (zl a_))), (3, .own (.box (zl b_))), (5, .d (I s_)), (6, .d (I i_))]
abbrev Qs (a_ : z6) (b_ : z6) (s_ : Int) : List (Nat × T) := [(2, .own (.box (zl a_))), (3, .own (.box (zl b_))), (5, .d (I s_))]
theorem z16 {ctr : Ctr} (hC : zM Try.prog ctr) : Yt.Ok Try.prog := by
 refine zV ?_
 rintro ⟨a_, b_⟩ r0 hf0
 try unfold kG at hf0
 refine yO true [(4, none)] jm 75 Try.func40 fun E hE => ?_
 rcases zD hf0 with ⟨c0, hf0⟩ | ⟨c0, hf0⟩
 ·obtain rfl := zb hf0
  exact yE X0 hC hE (rpN 6 (Hq c0) (rpN 9 qT []))
 ·let Z0 : List HO := (rpN 6 (Hq c0) [])
  rcases zD hf0 with ⟨c1, hf0⟩ | ⟨c1, hf0⟩
  ·obtain rfl := zb hf0
   exact yE X0 hC hE (Z0 ++ (rpN 8 (Hq c1) [qT]))
  ·let Z1 : List HO := (Z0 ++ [Hq c1, Hq c1, Hq c1, Ha (lnM zP a_.Rows), Hq c1, Hq c1, Hq c1, Ha (lnM zP b_.Rows), Hq c1, Hq c1])
   rcases zD hf0 with ⟨c2, hf0⟩ | ⟨c2, hf0⟩
   ·obtain rfl := zb hf0
    exact yE X0 hC hE (Z1 ++ [Hq c2])
   ·refine yJ X0 hC jm [1,1] [] [] (fun z : Unit => YC = some r0) (fun z => Qu) [(2, .own (.box (zl a_))), (3, .own (.box (zl b_)))] (Z1 ++ [Hq c2, Hh (.cut 0)]) ?_ fun J1 hJ1 => ?_
    ·rintro ⟨⟩ hf0
     unfold YC at hf0
     obtain rfl := zb hf0
     exact yE X0 hC hE []
    ·obtain ⟨t2, ht2, hf0⟩ := ze hf0
     refine yL X0 hC jm [1,1,2,1,0] [J1] (fun s => j8 a_ b_ s) (fun x => Qs a_ b_ x) 0 ht2  [] ?_
     rintro s_ m2 lr1 hf1 hl1 J2 hJ2
     try unfold j8 at hf1
     let Z2 : List HO := [Ha (lnM zP a_.Rows)]
     rcases zD hf1 with ⟨c3, hf1⟩ | ⟨c3, hf1⟩
     ·refine yJ X0 hC jm [1,1,2,1,0,0,1] [J1, J2] [2,3,5] (fun z : Unit => ki s_ = some lr1) (fun z => Qt a_ b_ s_) [(2, .own (.box (zl a_))), (3, .own (.box (zl b_))), (5, .d (I s_))] (Z2 ++ [Hq c3, Hh (.cut 0)]) ?_ fun J3 hJ3 => ?_
      ·rintro ⟨⟩ hf1
       unfold ki at hf1
       obtain rfl := zb hf1
       exact yB X0 hC hJ2 (w64 (s_ + 1)) hl1 []
      ·obtain ⟨Row_e, h0, hf1⟩ := ze hf1
       obtain ⟨Row_e1, h1, hf1⟩ := ze hf1
       let Z3 : List HO := [Hi zP h0, Ha (lnM F7_ Row_e), Hi zP h1, Ha (lnM F7_ Row_e1)]
       rcases zD hf1 with ⟨c4, hf1⟩ | ⟨c4, hf1⟩
       ·obtain rfl := zb hf1
        obtain rfl := hl1
        obtain rfl := zb hf0
        exact yE X0 hC hE (Z3 ++ [Hq c4])
       ·obtain ⟨t4, ht4, hf1⟩ := ze hf1
        refine yL X0 hC jm [1,1,2,1,0,0,1,2,0,1,1,0] [J1, J2, J3] (fun s => j7 a_ b_ s_ s) (fun x => Qr a_ b_ s_ x) 0 ht4  (Z3 ++ [Hq c4]) ?_
        rintro i_ m4 lr2 hf2 hl2 J4 hJ4
        try unfold j7 at hf2
        obtain ⟨Row_e2, h2, hf2⟩ := ze hf2
        let Z4 : List HO := [Hi zP h2, Ha (lnM F7_ Row_e2)]
        rcases zD hf2 with ⟨c5, hf2⟩ | ⟨c5, hf2⟩
        ·obtain ⟨Row_e3, h3, hf2⟩ := ze hf2
         obtain ⟨Row_e_e, h4, hf2⟩ := ze hf2
         obtain ⟨Row_e4, h5, hf2⟩ := ze hf2
         obtain ⟨Row_e_e1, h6, hf2⟩ := ze hf2
         let Z5 : List HO := (Z4 ++ [Hq c5, Hi zP h3, Hi F7_ h4, Hi zP h5, Hi F7_ h6])
         rcases zD hf2 with ⟨c6, hf2⟩ | ⟨c6, hf2⟩
         ·obtain rfl := zb hf2
          obtain rfl := hl2
          obtain rfl := zb hf1
          obtain rfl := hl1
          obtain rfl := zb hf0
          exact yE X0 hC hE (Z5 ++ [Hq c6])
         ·obtain rfl := zb hf2
          exact yB X0 hC hJ4 (w64 (i_ + 1)) hl2 (Z5 ++ [Hq c6])
        ·obtain rfl := zb hf2
         obtain rfl := hl2
         exact yB X0 hC hJ3 () hf1 (Z4 ++ [Hq c5])
     ·obtain rfl := zb hf1
      obtain rfl := hl1
      exact yB X0 hC hJ1 () hf0 (Z2 ++ [Hq c3])
def W3 : Code := (Try.f6.body).getD .skip
def ux : yj := spF (α := zB × v7) (ρ := Bool) 6 (fun x => [z4F x.1, (jk (eSl 1 false (eI .u8))) x.2]) (fun r => eB r) (fun x => wX x.1 x.2) [] (Wf)
theorem Wk {ctr : Ctr} (hC : zM Try.prog ctr) (h07 : ctr.Has ug) (h0W : ctr.Has Yw) (h0c : ctr.Has qC) (h0t : ctr.Has jV) (h0X : ctr.Has Yt) (h05 : ctr.Has wG) (h08 : ctr.Has Zu) (h06 : ctr.Has qA) : ux.Ok Try.prog := by
 refine zV ?_
 rintro ⟨x_, y_⟩ r0 hf0
 try unfold wX at hf0
 refine yO true [(4, none)] W3 59 Try.func6 fun E hE => ?_
 obtain ⟨r_, h0, hf0⟩ := ze hf0
 obtain ⟨r_1, h1, hf0⟩ := ze hf0
 obtain ⟨r_2, h2, hf0⟩ := ze hf0
 obtain ⟨r_3, h3, hf0⟩ := ze hf0
 obtain ⟨r_4, h4, hf0⟩ := ze hf0
 let Z0 : List HO := [Hc h07 (x := x_) h0 (loC z4F x_ <| loN), Hc h0W (x := (y_, r_.1.Inputs)) h1 (loC (jk (eSl 1 false (eI .u8))) y_ <| loC (eI .i64) r_.1.Inputs <| loN), Hc h0c (x := (r_.1, r_.2)) h2 (loC zl r_.1 <| loC zl r_.2 <| loN), Hc h0t (x := r_.1) h3 (loC zl r_.1 <| loN), Hc h0t (x := r_.2) h4 (loC zl r_.2 <| loN), Hh (.n 0 [7]), Hm (shM (eI .i64) (eI .i64) r_1)]
 rcases zD hf0 with ⟨c0, hf0⟩ | ⟨c0, hf0⟩
 ·obtain ⟨r_5, h5, hf0⟩ := ze hf0
  let Z1 : List HO := (Z0 ++ (rpN 4 (Hq c0) [Hc h0X (x := (r_3, (z6.mk r_4.Inputs r_3.Outputs r_4.Rows))) h5 (loC zl r_3 <| loC zl (z6.mk r_4.Inputs r_3.Outputs r_4.Rows) <| loN), Hq c0, Hq c0]))
  rcases zD hf0 with ⟨c1, hf0⟩ | ⟨c1, hf0⟩
  ·rcases zD hf0 with ⟨c2, hf0⟩ | ⟨c2, hf0⟩
   ·obtain ⟨r_6, h6, hf0⟩ := ze hf0
    obtain rfl := zb hf0
    exact yE X0 hC hE (Z1 ++ (Hq c1 :: Hq c1 :: Hq c1 :: (rpN 7 (Hq c2) [Hq c1, Hq c2, Hq c1, qT, Hc h05 (x := ()) h6 (loN), qT])))
   ·obtain ⟨r_7, h7, hf0⟩ := ze hf0
    obtain ⟨r_8, h8, hf0⟩ := ze hf0
    obtain ⟨r_9, h9, hf0⟩ := ze hf0
    let Z2 : List HO := (Z1 ++ [Hq c1, Hq c1, Hq c1, Hq c2, Hq c2, Hq c2, Hc h08 (x := (r_.1,0, r_1)) h7 (loC zl r_.1 <| loC (eI .i64) 0 <| loC F2_ r_1 <| loN), Hq c2, Hq c2, Hq c2, Hc h08 (x := (r_.2,0, r_1)) h8 (loC zl r_.2 <| loC (eI .i64) 0 <| loC F2_ r_1 <| loN), Hq c2, Hg (Qd h06), Hm (shM (eI .i64) (eI .i64) r_7), Hm (shM (eI .i64) (eI .i64) r_8), Hs (Qe h06 (x := (r_7, r_8)) h9 (loC F2_ r_7 <| loC F2_ r_8 <| loN)), Hq c1, Hq c2, Hq c1])
    rcases zD hf0 with ⟨c3, hf0⟩ | ⟨c3, hf0⟩
    ·obtain ⟨r_10, h10, hf0⟩ := ze hf0
     obtain rfl := zb hf0
     exact yE X0 hC hE (Z2 ++ [Hq c3, Hc h05 (x := ()) h10 (loN), Hq c3])
    ·obtain rfl := zb hf0
     exact yE X0 hC hE (Z2 ++ [Hq c3, Hq c3])
  ·obtain rfl := zb hf0
   exact yE X0 hC hE (Z1 ++ (rpN 5 (Hq c1) [qF, qF]))
 ·obtain rfl := zb hf0
  exact yE X0 hC hE (Z0 ++ (rpN 6 (Hq c0) (rpN 7 qF [])))
def Xz : Code := (Try.f7.body).getD .skip
def vS : yj := spF (α := zB × Int) (ρ := Bool) 7 (fun x => [z4F x.1, (eI .i64) x.2]) (fun r => eB r) (fun x => ww x.1 x.2) [] (Wf)
theorem XZ {ctr : Ctr} (hC : zM Try.prog ctr) (h07 : ctr.Has ug) (h09 : ctr.Has uM) (h05 : ctr.Has wG) (h0d : ctr.Has vR) : vS.Ok Try.prog := by
 refine zV ?_
 rintro ⟨x_, k_⟩ r0 hf0
 try unfold ww at hf0
 refine yO true [(4, none)] Xz 83 Try.func7 fun E hE => ?_
 obtain ⟨r_, h0, hf0⟩ := ze hf0
 obtain ⟨r_1, h1, hf0⟩ := ze hf0
 let Z0 : List HO := [Hc h07 (x := x_) h0 (loC z4F x_ <| loN), Hc h09 (x := (r_.1, r_.2, k_)) h1 (loC zl r_.1 <| loC zl r_.2 <| loC (eI .i64) k_ <| loN)]
 rcases zD hf0 with ⟨c0, hf0⟩ | ⟨c0, hf0⟩
 ·rcases zD hf0 with ⟨c1, hf0⟩ | ⟨c1, hf0⟩
  ·let Z1 : List HO := (Z0 ++ [Hq c0, Hq c1, Hq c1, Hq c1])
   rcases zD hf0 with ⟨c2, hf0⟩ | ⟨c2, hf0⟩
   ·obtain ⟨r_2, h2, hf0⟩ := ze hf0
    obtain rfl := zb hf0
    exact yE X0 hC hE (Z1 ++ [Hq c2, Hc h05 (x := ()) h2 (loN), Hq c2])
   ·obtain rfl := zb hf0
    exact yE X0 hC hE (Z1 ++ [Hq c2, Hq c2])
  ·obtain rfl := zb hf0
   exact yE X0 hC hE (Z0 ++ [Hq c0, Hq c1, Hq c1, Hq c1, qF, qF])
 ·obtain ⟨r_3, h3, hf0⟩ := ze hf0
  obtain ⟨r_4, h4, hf0⟩ := ze hf0
  let Z2 : List HO := (Z0 ++ [Hq c0, Hc h0d (x := (r_.1, r_.2)) h3 (loC zl r_.1 <| loC zl r_.2 <| loN), Ha (lnM zP r_.1.Rows), Ha (lnM zP r_.2.Rows), Hc h09 (x := (r_.1, r_.2, w64 ((w64 (((r_.1.Rows.length : Nat) : Int) + ((r_.2.Rows.length : Nat) : Int))) - 1))) h4 (loC zl r_.1 <| loC zl r_.2 <| loC (eI .i64) (w64 ((w64 (((r_.1.Rows.length : Nat) : Int) + ((r_.2.Rows.length : Nat) : Int))) - 1)) <| loN)])
  rcases zD hf0 with ⟨c3, hf0⟩ | ⟨c3, hf0⟩
  ·let Z3 : List HO := (Z2 ++ (rpN 4 (Hq c3) []))
   rcases zD hf0 with ⟨c4, hf0⟩ | ⟨c4, hf0⟩
   ·let Z4 : List HO := (Z3 ++ (rpN 4 (Hq c4) [Hq c3, Hq c4, Hq c3, Hq c3]))
    rcases zD hf0 with ⟨c5, hf0⟩ | ⟨c5, hf0⟩
    ·rcases zD hf0 with ⟨c6, hf0⟩ | ⟨c6, hf0⟩
     ·let Z5 : List HO := (Z4 ++ (Hq c5 :: Hq c5 :: Hq c5 :: (rpN 5 (Hq c6) [])))
      rcases zD hf0 with ⟨c7, hf0⟩ | ⟨c7, hf0⟩
      ·obtain ⟨r_5, h5, hf0⟩ := ze hf0
       obtain rfl := zb hf0
       exact yE X0 hC hE (Z5 ++ [Hq c7, Hc h05 (x := ()) h5 (loN), Hq c7])
      ·obtain rfl := zb hf0
       exact yE X0 hC hE (Z5 ++ [Hq c7, Hq c7])
     ·obtain rfl := zb hf0
      exact yE X0 hC hE (Z4 ++ (Hq c5 :: Hq c5 :: Hq c5 :: (rpN 5 (Hq c6) [qF, qF])))
    ·obtain rfl := zb hf0
     exact yE X0 hC hE (Z4 ++ (Hq c5 :: Hq c5 :: Hq c5 :: (rpN 7 qF [])))
   ·let Z6 : List HO := (Z3 ++ [Hq c4, Hq c4, Ha (lnM (eI .i64) r_3.1), Hq c4, Hq c4, Hq c3, Hq c4, Hq c3, Hq c3])
    rcases zD hf0 with ⟨c8, hf0⟩ | ⟨c8, hf0⟩
    ·rcases zD hf0 with ⟨c9, hf0⟩ | ⟨c9, hf0⟩
     ·let Z7 : List HO := (Z6 ++ (Hq c8 :: Hq c8 :: Hq c8 :: (rpN 5 (Hq c9) [])))
      rcases zD hf0 with ⟨c10, hf0⟩ | ⟨c10, hf0⟩
      ·obtain ⟨r_6, h6, hf0⟩ := ze hf0
       obtain rfl := zb hf0
       exact yE X0 hC hE (Z7 ++ [Hq c10, Hc h05 (x := ()) h6 (loN), Hq c10])
      ·obtain rfl := zb hf0
       exact yE X0 hC hE (Z7 ++ [Hq c10, Hq c10])
     ·obtain rfl := zb hf0
      exact yE X0 hC hE (Z6 ++ (Hq c8 :: Hq c8 :: Hq c8 :: (rpN 5 (Hq c9) [qF, qF])))
    ·obtain rfl := zb hf0
     exact yE X0 hC hE (Z6 ++ (Hq c8 :: Hq c8 :: Hq c8 :: (rpN 7 qF [])))
  ·obtain rfl := zb hf0
   exact yE X0 hC hE (Z2 ++ (rpN 7 (Hq c3) (rpN 10 qF [])))
def zW : Code := (Try.f44.body).getD .skip
def ZJ : yj := spF (α := z6 × z6) (ρ := List (zh Int)) 44 (fun x => [zl x.1, zl x.2]) (fun r => (eOs 2 false F0_) r) (fun x => kT x.1 x.2) [] (Wf)
abbrev Ux (out : List (zh Int)) : List (Nat × T) := [(13, .own (eOs 2 false F0_ out))]
abbrev Uw (a_ : z6) (b_ : z6) (in_1 : List (List Bool)) (s_ : Int) (out2 : List (zh Int)) : List (Nat × T) := [(2, .own (.box (zl a_))), (3, .own (.box (zl b_))), (5, .own (eOs 1 false (eOs 1 true eB) in_1)), (13, .own (eOs 2 false F0_ out2)), (14, .d (I s_))]
abbrev Uv (a_ : z6) (b_ : z6) (in_1 : List (List Bool)) (s_ : Int) (t_ : Int) (out4 : List (zh Int)) : List (Nat × T) := [(2, .own (.box (zl a_))), (3, .own (.box (zl b_))), (5, .own (eOs 1 false (eOs 1 true eB) in_1)), (13, .own (eOs 2 false F0_ out4)), (14, .d (I s_)), (15, .d (I t_))]
abbrev Us (a_ : z6) (b_ : z6) (in_1 : List (List Bool)) (s_ : Int) (out3 : List (zh Int)) (t_ : Int) : List (Nat × T) := [(2, .own (.box (zl a_))), (3, .own (.box (zl b_))), (5, .own (eOs 1 false (eOs 1 true eB) in_1)), (13, .own (eOs 2 false F0_ out3)), (14, .d (I s_)), (15, .d (I t_))]
abbrev Ut (a_ : z6) (b_ : z6) (in_1 : List (List Bool)) (out1 : List (zh Int)) (s_ : Int) : List (Nat × T) := [(2, .own (.box (zl a_))), (3, .own (.box (zl b_))), (5, .own (eOs 1 false (eOs 1 true eB) in_1)), (13, .own (eOs 2 false F0_ out1)), (14, .d (I s_))]
abbrev Uy (a_ : z6) (b_ : z6) (in_1 : List (List Bool)) : List (Nat × T) := [(2, .own (.box (zl a_))), (3, .own (.box (zl b_))), (5, .own (eOs 1 false (eOs 1 true eB) in_1))]
abbrev Uu (a_ : z6) (b_ : z6) (round : Int) (in_3 : List (List Bool)) : List (Nat × T) := [(2, .own (.box (zl a_))), (3, .own (.box (zl b_))), (5, .own (eOs 1 false (eOs 1 true eB) in_3)), (7, .d (I round))]
abbrev Vr (a_ : z6) (b_ : z6) (round : Int) (s_1 : Int) (in_5 : List (List Bool)) : List (Nat × T) := [(2, .own (.box (zl a_))), (3, .own (.box (zl b_))), (5, .own (eOs 1 false (eOs 1 true eB) in_5)), (7, .d (I round)), (8, .d (I s_1))]
abbrev Vq (a_ : z6) (b_ : z6) (round : Int) (s_1 : Int) (t_1 : Int) (in_7 : List (List Bool)) : List (Nat × T) := [(2, .own (.box (zl a_))), (3, .own (.box (zl b_))), (5, .own (eOs 1 false (eOs 1 true eB) in_7)), (7, .d (I round)), (8, .d (I s_1)), (9, .d (I t_1))]
abbrev Vp (a_ : z6) (b_ : z6) (round : Int) (s_1 : Int) (t_1 : Int) (i_ : Int) (in__e_e2 : Bool) (in_9 : List (List Bool)) : List (Nat × T) := [(2, .own (.box (zl a_))), (3, .own (.box (zl b_))), (5, .own (eOs 1 false (eOs 1 true eB) in_9)), (7, .d (I round)), (8, .d (I s_1)), (9, .d (I t_1)), (10, .d (I i_)), (65, .d (I s_1)), (68, .d (I t_1)), (70, .d (B in__e_e2))]
abbrev Vm (a_ : z6) (b_ : z6) (round : Int) (s_1 : Int) (t_1 : Int) (in_8 : List (List Bool)) (i_ : Int) : List (Nat × T) := [(2, .own (.box (zl a_))), (3, .own (.box (zl b_))), (5, .own (eOs 1 false (eOs 1 true eB) in_8)), (7, .d (I round)), (8, .d (I s_1)), (9, .d (I t_1)), (10, .d (I i_))]
abbrev Vn (a_ : z6) (b_ : z6) (round : Int) (s_1 : Int) (in_6 : List (List Bool)) (t_1 : Int) : List (Nat × T) := [(2, .own (.box (zl a_))), (3, .own (.box (zl b_))), (5, .own (eOs 1 false (eOs 1 true eB) in_6)), (7, .d (I round)), (8, .d (I s_1)), (9, .d (I t_1))]
abbrev Vo (a_ : z6) (b_ : z6) (round : Int) (in_4 : List (List Bool)) (s_1 : Int) : List (Nat × T) := [(2, .own (.box (zl a_))), (3, .own (.box (zl b_))), (5, .own (eOs 1 false (eOs 1 true eB) in_4)), (7, .d (I round)), (8, .d (I s_1))]
abbrev Ur (a_ : z6) (b_ : z6) (in_2 : List (List Bool)) (round : Int) : List (Nat × T) := [(2, .own (.box (zl a_))), (3, .own (.box (zl b_))), (5, .own (eOs 1 false (eOs 1 true eB) in_2)), (7, .d (I round))]
abbrev Uz (a_ : z6) (b_ : z6) (in_ : List (List Bool)) : List (Nat × T) := [(2, .own (.box (zl a_))), (3, .own (.box (zl b_))), (5, .own (eOs 1 false (eOs 1 true eB) in_))]
abbrev Vl (a_ : z6) (b_ : z6) (in_10 : List (List Bool)) (s_2 : Int) : List (Nat × T) := [(2, .own (.box (zl a_))), (3, .own (.box (zl b_))), (5, .own (eOs 1 false (eOs 1 true eB) in_10)), (6, .d (I s_2))]
theorem z0i {ctr : Ctr} (hC : zM Try.prog ctr) : ZJ.Ok Try.prog := by
 refine zV ?_
 rintro ⟨a_, b_⟩ r0 hf0
 try unfold kT at hf0
 refine yO true [(4, none)] zW 134 Try.func44 fun E hE => ?_
 refine yJ X0 hC zW [1,1] [] [2,3,5] (fun z : List (List Bool) => jC a_ b_ z = some r0) (fun z => Uz a_ b_ z) [(2, .own (.box (zl a_))), (3, .own (.box (zl b_))), (5, .own (eOs 1 true (eSl 1 false eB) []))] [Hh (.cut 2)] ?_ fun J1 hJ1 => ?_
 ·rintro in_ hf0
  unfold jC at hf0
  obtain ⟨in__e, h0, hf0⟩ := ze hf0
  obtain ⟨in__e_e, h1, hf0⟩ := ze hf0
  refine yJ X0 hC zW [1,1,1,1] [] [2,3,5] (fun z : List (List Bool) => jB a_ b_ z = some r0) (fun z => Uy a_ b_ z) [(2, .own (.box (zl a_))), (3, .own (.box (zl b_))), (5, .own (eOs 1 false (eOs 1 true eB) (in_.set (0 : Int).toNat (in__e.set (0 : Int).toNat true))))] [Hn (iL (eOs 1 true eB) h0), Hs (iM (eOs 1 true eB) h0), Hs (iM (eOs 1 true eB) h0), Hn (iL eB h1), Hs (iM (eOs 1 true eB) h0), Hs (iM eB h1), Hs (iM (eOs 1 true eB) h0), Hs (iM eB h1), Hl (sM eB in__e 0 true), Hl (sM (eOs 1 true eB) in_ 0 (in__e.set (0 : Int).toNat true)), Hh (.cut 0)] ?_ fun J2 hJ2 => ?_
  ·rintro in_1 hf0
   unfold jB at hf0
   refine yJ X0 hC zW [1,1,1,1,1,1] [] [13] (fun z : List (zh Int) => jA z = some r0) (fun z => Ux z) [(2, .own (.box (zl a_))), (3, .own (.box (zl b_))), (5, .own (eOs 1 false (eOs 1 true eB) in_1)), (13, .own (eOs 2 true F0_ []))] [Hh (.cut 1)] ?_ fun J3 hJ3 => ?_
   ·rintro out hf0
    unfold jA at hf0
    obtain rfl := zb hf0
    exact yE X0 hC hE []
   ·obtain ⟨t4, ht4, hf0⟩ := ze hf0
    refine yLx X0 hC zW [1,1,1,1,1,1,2,1,0] [J3] (fun s => wI a_ b_ in_1 s.1 s.2) (fun x => Ut a_ b_ in_1 x.1 x.2) (([] : List (zh Int)), 0) ht4 [(2, .own (.box (zl a_))), (3, .own (.box (zl b_))), (5, .own (eOs 1 false (eOs 1 true eB) in_1)), (13, .own (eOs 2 true F0_ [])), (14, .d (I 0))] inferInstance [] ?_
    rintro ⟨out1, s_⟩ m4 lr1 hf1 hl1 J4 hJ4
    try unfold wI at hf1
    let Z0 : List HO := [Ha (lnM zP a_.Rows)]
    rcases zD hf1 with ⟨c0, hf1⟩ | ⟨c0, hf1⟩
    ·refine yJ X0 hC zW [1,1,1,1,1,1,2,1,0,0,1] [J3, J4] [2,3,5,13,14] (fun z : List (zh Int) => jz s_ z = some lr1) (fun z => Uw a_ b_ in_1 s_ z) [(2, .own (.box (zl a_))), (3, .own (.box (zl b_))), (5, .own (eOs 1 false (eOs 1 true eB) in_1)), (13, .own (eOs 2 false F0_ out1)), (14, .d (I s_))] (Z0 ++ [Hq c0, Hh (.cut 0)]) ?_ fun J5 hJ5 => ?_
     ·rintro out2 hf1
      unfold jz at hf1
      obtain rfl := zb hf1
      exact yB X0 hC hJ4 (out2, w64 (s_ + 1)) hl1 []
     ·obtain ⟨t6, ht6, hf1⟩ := ze hf1
      refine yL X0 hC zW [1,1,1,1,1,1,2,1,0,0,1,2,0,1,0] [J3, J4, J5] (fun s => wH b_ in_1 s_ s.1 s.2) (fun x => Us a_ b_ in_1 s_ x.1 x.2) (out1,0) ht6  [] ?_
      rintro ⟨out3, t_⟩ m6 lr2 hf2 hl2 J6 hJ6
      try unfold wH at hf2
      let Z1 : List HO := [Ha (lnM zP b_.Rows)]
      rcases zD hf2 with ⟨c1, hf2⟩ | ⟨c1, hf2⟩
      ·refine yJ X0 hC zW [1,1,1,1,1,1,2,1,0,0,1,2,0,1,0,0,1] [J3, J4, J5, J6] [2,3,5,13,14,15] (fun z : List (zh Int) => uC t_ z = some lr2) (fun z => Uv a_ b_ in_1 s_ t_ z) [(2, .own (.box (zl a_))), (3, .own (.box (zl b_))), (5, .own (eOs 1 false (eOs 1 true eB) in_1)), (13, .own (eOs 2 false F0_ out3)), (14, .d (I s_)), (15, .d (I t_))] (Z1 ++ [Hq c1, Hh (.cut 0)]) ?_ fun J7 hJ7 => ?_
       ·rintro out4 hf2
        unfold uC at hf2
        obtain rfl := zb hf2
        exact yB X0 hC hJ6 (out4, w64 (t_ + 1)) hl2 []
       ·obtain ⟨in__e1, h2, hf2⟩ := ze hf2
        obtain ⟨in__e_e1, h3, hf2⟩ := ze hf2
        let Z2 : List HO := [Hn (iL (eOs 1 true eB) h2), Hs (iM (eOs 1 true eB) h2), Hs (iM (eOs 1 true eB) h2), Hn (iL eB h3), Hs (iM (eOs 1 true eB) h2), Hs (iM eB h3)]
        rcases zD hf2 with ⟨c2, hf2⟩ | ⟨c2, hf2⟩
        ·obtain ⟨g0, hf2⟩ := gdE hf2
         exact yB X0 hC hJ7 (out3 ++ ([(zh.mk s_ t_)] : List (zh Int))) hf2 (Z2 ++ [Hq c2, Hq (dM F0_ ([(zh.mk s_ t_)] : List (zh Int))), Hn (dM F0_ ([(zh.mk s_ t_)] : List (zh Int))), Hn (aL F0_ F0_ g0), Hl (aM F0_ out3 ([(zh.mk s_ t_)] : List (zh Int)))])
        ·exact yB X0 hC hJ7 out3 hf2 (Z2 ++ [Hq c2])
      ·obtain rfl := zb hf2
       obtain rfl := hl2
       exact yB X0 hC hJ5 out3 hf1 (Z1 ++ [Hq c1])
    ·obtain rfl := zb hf1
     obtain rfl := hl1
     exact yB X0 hC hJ3 out1 hf0 (Z0 ++ [Hq c0])
  ·obtain ⟨t8, ht8, hf0⟩ := ze hf0
   refine yL X0 hC zW [1,1,1,1,2,1,0] [J2] (fun s => uB a_ b_ s.1 s.2) (fun x => Ur a_ b_ x.1 x.2) ((in_.set (0 : Int).toNat (in__e.set (0 : Int).toNat true)), 0) ht8  [] ?_
   rintro ⟨in_2, round⟩ m8 lr1 hf1 hl1 J8 hJ8
   try unfold uB at hf1
   let Z3 : List HO := [Ha (lnM zP a_.Rows), Ha (lnM zP b_.Rows)]
   rcases zD hf1 with ⟨c3, hf1⟩ | ⟨c3, hf1⟩
   ·refine yJ X0 hC zW [1,1,1,1,2,1,0,0,1] [J2, J8] [2,3,5,7] (fun z : List (List Bool) => jy round z = some lr1) (fun z => Uu a_ b_ round z) [(2, .own (.box (zl a_))), (3, .own (.box (zl b_))), (5, .own (eOs 1 false (eOs 1 true eB) in_2)), (7, .d (I round))] (Z3 ++ [Hq c3, Hh (.cut 0)]) ?_ fun J9 hJ9 => ?_
    ·rintro in_3 hf1
     unfold jy at hf1
     obtain rfl := zb hf1
     exact yB X0 hC hJ8 (in_3, w64 (round + 1)) hl1 []
    ·obtain ⟨t10, ht10, hf1⟩ := ze hf1
     refine yL X0 hC zW [1,1,1,1,2,1,0,0,1,2,0,1,0] [J2, J8, J9] (fun s => vY a_ b_ s.1 s.2) (fun x => Vo a_ b_ round x.1 x.2) (in_2,0) ht10  [] ?_
     rintro ⟨in_4, s_1⟩ m10 lr2 hf2 hl2 J10 hJ10
     try unfold vY at hf2
     let Z4 : List HO := [Ha (lnM zP a_.Rows)]
     rcases zD hf2 with ⟨c4, hf2⟩ | ⟨c4, hf2⟩
     ·refine yJ X0 hC zW [1,1,1,1,2,1,0,0,1,2,0,1,0,0,1] [J2, J8, J9, J10] [2,3,5,7,8] (fun z : List (List Bool) => qG s_1 z = some lr2) (fun z => Vr a_ b_ round s_1 z) [(2, .own (.box (zl a_))), (3, .own (.box (zl b_))), (5, .own (eOs 1 false (eOs 1 true eB) in_4)), (7, .d (I round)), (8, .d (I s_1))] (Z4 ++ [Hq c4, Hh (.cut 0)]) ?_ fun J11 hJ11 => ?_
      ·rintro in_5 hf2
       unfold qG at hf2
       obtain rfl := zb hf2
       exact yB X0 hC hJ10 (in_5, w64 (s_1 + 1)) hl2 []
      ·obtain ⟨t12, ht12, hf2⟩ := ze hf2
       refine yL X0 hC zW [1,1,1,1,2,1,0,0,1,2,0,1,0,0,1,2,0,1,0] [J2, J8, J9, J10, J11] (fun s => vX a_ b_ s_1 s.1 s.2) (fun x => Vn a_ b_ round s_1 x.1 x.2) (in_4,0) ht12  [] ?_
       rintro ⟨in_6, t_1⟩ m12 lr3 hf3 hl3 J12 hJ12
       try unfold vX at hf3
       let Z5 : List HO := [Ha (lnM zP b_.Rows)]
       rcases zD hf3 with ⟨c5, hf3⟩ | ⟨c5, hf3⟩
       ·refine yJ X0 hC zW [1,1,1,1,2,1,0,0,1,2,0,1,0,0,1,2,0,1,0,0,1] [J2, J8, J9, J10, J11, J12] [2,3,5,7,8,9] (fun z : List (List Bool) => qE t_1 z = some lr3) (fun z => Vq a_ b_ round s_1 t_1 z) [(2, .own (.box (zl a_))), (3, .own (.box (zl b_))), (5, .own (eOs 1 false (eOs 1 true eB) in_6)), (7, .d (I round)), (8, .d (I s_1)), (9, .d (I t_1))] (Z5 ++ [Hq c5, Hh (.cut 0)]) ?_ fun J13 hJ13 => ?_
        ·rintro in_7 hf3
         unfold qE at hf3
         obtain rfl := zb hf3
         exact yB X0 hC hJ12 (in_7, w64 (t_1 + 1)) hl3 []
        ·obtain ⟨t14, ht14, hf3⟩ := ze hf3
         refine yL X0 hC zW [1,1,1,1,2,1,0,0,1,2,0,1,0,0,1,2,0,1,0,0,1,2,0,1,0] [J2, J8, J9, J10, J11, J12, J13] (fun s => vW a_ b_ s_1 t_1 s.1 s.2) (fun x => Vm a_ b_ round s_1 t_1 x.1 x.2) (in_6,0) ht14  [] ?_
         rintro ⟨in_8, i_⟩ m14 lr4 hf4 hl4 J14 hJ14
         try unfold vW at hf4
         rcases zD hf4 with ⟨c6, hf4⟩ | ⟨c6, hf4⟩
         ·obtain ⟨in__e2, h4, hf4⟩ := ze hf4
          obtain ⟨in__e_e2, h5, hf4⟩ := ze hf4
          let Z6 : List HO := [Hq c6, Hq c6, Hq c6, Hn (iL (eOs 1 true eB) h4), Hq c6, Hs (iM (eOs 1 true eB) h4), Hq c6, Hq c6, Hs (iM (eOs 1 true eB) h4), Hn (iL eB h5), Hq c6, Hs (iM (eOs 1 true eB) h4), Hs (iM eB h5), Hq c6]
          rcases zD hf4 with ⟨c7, hf4⟩ | ⟨c7, hf4⟩
          ·refine yJ X0 hC zW [1,1,1,1,2,1,0,0,1,2,0,1,0,0,1,2,0,1,0,0,1,2,0,1,0,0,1] [J2, J8, J9, J10, J11, J12, J13, J14] [2,3,5,7,8,9,10,65,68,70] (fun z : List (List Bool) => wT i_ z = some lr4) (fun z => Vp a_ b_ round s_1 t_1 i_ in__e_e2 z) [(2, .own (.box (zl a_))), (3, .own (.box (zl b_))), (5, .own (eOs 1 false (eOs 1 true eB) in_8)), (7, .d (I round)), (8, .d (I s_1)), (9, .d (I t_1)), (10, .d (I i_)), (64, .als 5 [] 0 0), (65, .d (I s_1)), (68, .d (I t_1)), (70, .d (B in__e_e2))] (Z6 ++ [Hq c7, Hh (.cut 0)]) ?_ fun J15 hJ15 => ?_
           ·rintro in_9 hf4
            unfold wT at hf4
            obtain rfl := zb hf4
            exact yB X0 hC hJ14 (in_9, w64 (i_ + 1)) hl4 []
           ·obtain ⟨Row_e, h6, hf4⟩ := ze hf4
            obtain ⟨Row_e_e, h7, hf4⟩ := ze hf4
            obtain ⟨Row_e1, h8, hf4⟩ := ze hf4
            obtain ⟨Row_e_e1, h9, hf4⟩ := ze hf4
            let Z7 : List HO := [Hi zP h6, Hi F7_ h7, Hi zP h8, Hi F7_ h9]
            rcases zD hf4 with ⟨c8, hf4⟩ | ⟨c8, hf4⟩
            ·let Z8 : List HO := (Z7 ++ (rpN 4 (Hq c8) []))
             rcases zD hf4 with ⟨c9, hf4⟩ | ⟨c9, hf4⟩
             ·obtain ⟨in__e3, h10, hf4⟩ := ze hf4
              obtain ⟨in__e_e3, h11, hf4⟩ := ze hf4
              exact yB X0 hC hJ15 (in_8.set Row_e_e.To.toNat (in__e3.set Row_e_e1.To.toNat true)) hf4 (Z8 ++ [Hq c9, Hn (iL (eOs 1 true eB) h10), Hs (iM (eOs 1 true eB) h10), Hs (iM (eOs 1 true eB) h10), Hn (iL eB h11), Hs (iM (eOs 1 true eB) h10), Hs (iM eB h11), Hs (iM (eOs 1 true eB) h10), Hs (iM eB h11), Hl (sM eB in__e3 Row_e_e1.To true), Hl (sM (eOs 1 true eB) in_8 Row_e_e.To (in__e3.set Row_e_e1.To.toNat true))])
             ·exact yB X0 hC hJ15 in_8 hf4 (Z8 ++ [Hq c9])
            ·exact yB X0 hC hJ15 in_8 hf4 (Z7 ++ (rpN 4 (Hq c8) [qF]))
          ·obtain rfl := zb hf4
           obtain rfl := hl4
           exact yB X0 hC hJ13 in_8 hf3 (Z6 ++ [Hq c7])
         ·obtain rfl := zb hf4
          obtain rfl := hl4
          exact yB X0 hC hJ13 in_8 hf3 (rpN 8 (Hq c6) [qF])
       ·obtain rfl := zb hf3
        obtain rfl := hl3
        exact yB X0 hC hJ11 in_6 hf2 (Z5 ++ [Hq c5])
     ·obtain rfl := zb hf2
      obtain rfl := hl2
      exact yB X0 hC hJ9 in_4 hf1 (Z4 ++ [Hq c4])
   ·obtain rfl := zb hf1
    obtain rfl := hl1
    exact yB X0 hC hJ2 in_2 hf0 (Z3 ++ [Hq c3])
 ·obtain ⟨t16, ht16, hf0⟩ := ze hf0
  refine yLx X0 hC zW [1,1,2,1,0] [J1] (fun s => xT a_ b_ s.1 s.2) (fun x => Vl a_ b_ x.1 x.2) (([] : List (List Bool)), 0) ht16 [(2, .own (.box (zl a_))), (3, .own (.box (zl b_))), (5, .own (eOs 1 true (eOs 1 true eB) [])), (6, .d (I 0))] inferInstance [] ?_
  rintro ⟨in_10, s_2⟩ m16 lr1 hf1 hl1 J16 hJ16
  try unfold xT at hf1
  let Z9 : List HO := [Ha (lnM zP a_.Rows)]
  rcases zD hf1 with ⟨c10, hf1⟩ | ⟨c10, hf1⟩
  ·obtain ⟨g1, hf1⟩ := gdE hf1
   obtain ⟨g2, hf1⟩ := gdE hf1
   obtain rfl := zb hf1
   exact yB X0 hC hJ16 ((in_10 ++ ([(List.replicate ((b_.Rows.length : Nat) : Int).toNat false)] : List (List Bool))), w64 (s_2 + 1)) hl1 (Z9 ++ [Hq c10, Ha (lnM zP b_.Rows), Hn (rL g1), Ha (rM 1 eB ((b_.Rows.length : Nat) : Int) false), Hq (oC (eOs 1 true eB) (List.replicate ((b_.Rows.length : Nat) : Int).toNat false) []), Hn (aL (eOs 1 true eB) (eOs 1 true eB) g2), Hl (aM (eOs 1 true eB) in_10 ([(List.replicate ((b_.Rows.length : Nat) : Int).toNat false)] : List (List Bool)))])
  ·obtain rfl := zb hf1
   obtain rfl := hl1
   exact yB X0 hC hJ1 in_10 hf0 (Z9 ++ [Hq c10])
def WC : Code := (Try.f82.body).getD .skip
def Wm : yj := spF (α := List (zh Int) × zh Int) (ρ := Int) 82 (fun x => [F6_ x.1, F0_ x.2]) (fun r => (eI .i64) r) (fun x => Zv x.1 x.2) [] (Wf)
abbrev KG : List (Nat × T) := []
abbrev KF (l_ : List (zh Int)) (p_ : zh Int) (k_ : Int) : List (Nat × T) := [(0, .d (eSl 2 false F0_ l_)), (3, .own (.box (F0_ p_))), (5, .d (I k_))]
theorem z4i {ctr : Ctr} (hC : zM Try.prog ctr) : Wm.Ok Try.prog := by
 refine zV ?_
 rintro ⟨l_, p_⟩ r0 hf0
 try unfold Zv at hf0
 refine yO true [(4, none)] WC 18 Try.func82 fun E hE => ?_
 refine yJ X0 hC WC [1] [] [] (fun z : Unit => Wr = some r0) (fun z => KG) [(0, .d (eSl 2 false F0_ l_)), (3, .own (.box (F0_ p_)))] [Hh (.cut 1)] ?_ fun J1 hJ1 => ?_
 ·rintro ⟨⟩ hf0
  unfold Wr at hf0
  obtain rfl := zb hf0
  exact yE X0 hC hE []
 ·obtain ⟨t2, ht2, hf0⟩ := ze hf0
  refine yL X0 hC WC [1,2,1,0] [J1] (fun s => jp l_ p_ s) (fun x => KF l_ p_ x) 0 ht2  [] ?_
  rintro k_ m2 lr1 hf1 hl1 J2 hJ2
  try unfold jp at hf1
  let Z0 : List HO := [Ha (lnM F0_ l_)]
  rcases zD hf1 with ⟨c0, hf1⟩ | ⟨c0, hf1⟩
  ·obtain ⟨l__e, h0, hf1⟩ := ze hf1
   let Z1 : List HO := (Z0 ++ [Hq c0, Hi F0_ h0])
   rcases zD hf1 with ⟨c1, hf1⟩ | ⟨c1, hf1⟩
   ·obtain rfl := zb hf1
    obtain rfl := hl1
    obtain rfl := zb hf0
    exact yE X0 hC hE (Z1 ++ [Hq c1])
   ·obtain rfl := zb hf1
    exact yB X0 hC hJ2 (w64 (k_ + 1)) hl1 (Z1 ++ [Hq c1])
  ·obtain rfl := zb hf1
   obtain rfl := hl1
   exact yB X0 hC hJ1 () hf0 (Z0 ++ [Hq c0])
def xD : Code := (Try.f46.body).getD .skip
def qr : yj := spF (α := z6 × z6 × List (zh Int)) (ρ := Int) 46 (fun x => [zl x.1, zl x.2.1, F6_ x.2.2]) (fun r => (eI .i64) r) (fun x => u4 x.1 x.2.1 x.2.2) [] (z8J)
abbrev XE : List (Nat × T) := []
abbrev XD (a_ : z6) (b_ : z6) (r_ : List (zh Int)) (k_ : Int) : List (Nat × T) := [(2, .d (eSl 2 false F0_ r_)), (3, .own (.box (zl a_))), (4, .own (.box (zl b_))), (7, .d (I k_))]
abbrev XC (a_ : z6) (b_ : z6) (r_ : List (zh Int)) (k_ : Int) (i_ : Int) (x58 : Int) (x59 : Bool) (x60 : Bool) (x69 : Bool) : List (Nat × T) := [(2, .d (eSl 2 false F0_ r_)), (3, .own (.box (zl a_))), (4, .own (.box (zl b_))), (7, .d (I k_)), (8, .d (I i_)), (58, .d (I x58)), (59, .d (B x59)), (60, .d (B x60)), (69, .d (B x69))]
abbrev XA (a_ : z6) (b_ : z6) (r_ : List (zh Int)) (k_ : Int) (i_ : Int) : List (Nat × T) := [(2, .d (eSl 2 false F0_ r_)), (3, .own (.box (zl a_))), (4, .own (.box (zl b_))), (7, .d (I k_)), (8, .d (I i_))]
abbrev XB (a_ : z6) (b_ : z6) (r_ : List (zh Int)) (k_ : Int) : List (Nat × T) := [(2, .d (eSl 2 false F0_ r_)), (3, .own (.box (zl a_))), (4, .own (.box (zl b_))), (7, .d (I k_))]
theorem VX {ctr : Ctr} (hC : zM Try.prog ctr) (h0u : ctr.Has Wm) : qr.Ok Try.prog := by
 refine zV ?_
 rintro ⟨a_, b_, r_⟩ r0 hf0
 try unfold u4 at hf0
 refine yO true [(6, none)] xD 71 Try.func46 fun E hE => ?_
 obtain ⟨r_1, h0, hf0⟩ := ze hf0
 let Z0 : List HO := [Hc h0u (x := (r_, (zh.mk 0 0))) h0 (loC F6_ r_ <| loC F0_ (zh.mk 0 0) <| loN)]
 rcases zD hf0 with ⟨c0, hf0⟩ | ⟨c0, hf0⟩
 ·obtain rfl := zb hf0
  exact yE X0 hC hE (Z0 ++ [Hq c0])
 ·refine yJ X0 hC xD [1,1] [] [] (fun z : Unit => qK = some r0) (fun z => XE) [(2, .d (eSl 2 false F0_ r_)), (3, .own (.box (zl a_))), (4, .own (.box (zl b_)))] (Z0 ++ [Hq c0, Hh (.cut 0)]) ?_ fun J1 hJ1 => ?_
  ·rintro ⟨⟩ hf0
   unfold qK at hf0
   obtain rfl := zb hf0
   exact yE X0 hC hE []
  ·obtain ⟨t2, ht2, hf0⟩ := ze hf0
   refine yL X0 hC xD [1,1,2,1,0] [J1] (fun s => xz a_ b_ r_ s) (fun x => XB a_ b_ r_ x) 0 ht2  [] ?_
   rintro k_ m2 lr1 hf1 hl1 J2 hJ2
   try unfold xz at hf1
   let Z1 : List HO := [Ha (lnM F0_ r_)]
   rcases zD hf1 with ⟨c1, hf1⟩ | ⟨c1, hf1⟩
   ·refine yJ X0 hC xD [1,1,2,1,0,0,1] [J1, J2] [2,3,4,7] (fun z : Unit => vH k_ = some lr1) (fun z => XD a_ b_ r_ k_) [(2, .d (eSl 2 false F0_ r_)), (3, .own (.box (zl a_))), (4, .own (.box (zl b_))), (7, .d (I k_))] (Z1 ++ [Hq c1, Hh (.cut 0)]) ?_ fun J3 hJ3 => ?_
    ·rintro ⟨⟩ hf1
     unfold vH at hf1
     obtain rfl := zb hf1
     exact yB X0 hC hJ2 (w64 (k_ + 1)) hl1 []
    ·obtain ⟨t4, ht4, hf1⟩ := ze hf1
     refine yL X0 hC xD [1,1,2,1,0,0,1,2,0,1,0] [J1, J2, J3] (fun s => xy a_ b_ r_ k_ s) (fun x => XA a_ b_ r_ k_ x) 0 ht4  [] ?_
     rintro i_ m4 lr2 hf2 hl2 J4 hJ4
     try unfold xy at hf2
     rcases zD hf2 with ⟨c2, hf2⟩ | ⟨c2, hf2⟩
     ·refine yJ X0 hC xD [1,1,2,1,0,0,1,2,0,1,0,0,1] [J1, J2, J3, J4] [2,3,4,7,8,58,59,60,69] (fun z : Int × Bool × Bool × Bool => wr i_ z.1 z.2.1 z.2.2.1 z.2.2.2 = some lr2) (fun z => XC a_ b_ r_ k_ i_ z.1 z.2.1 z.2.2.1 z.2.2.2) [(2, .d (eSl 2 false F0_ r_)), (3, .own (.box (zl a_))), (4, .own (.box (zl b_))), (7, .d (I k_)), (8, .d (I i_))] [Hq c2, Hh (.cut 0)] ?_ fun J5 hJ5 => ?_
      ·rintro ⟨x58, x59, x60, x69⟩ hf2
       unfold wr at hf2
       obtain rfl := zb hf2
       exact yB X0 hC hJ4 (w64 (i_ + 1)) hl2 []
      ·obtain ⟨r__e, h1, hf2⟩ := ze hf2
       obtain ⟨Row_e, h2, hf2⟩ := ze hf2
       obtain ⟨Row_e_e, h3, hf2⟩ := ze hf2
       obtain ⟨r__e1, h4, hf2⟩ := ze hf2
       obtain ⟨Row_e1, h5, hf2⟩ := ze hf2
       obtain ⟨Row_e_e1, h6, hf2⟩ := ze hf2
       let Z2 : List HO := [Hi F0_ h1, Hx (.a (I r__e.e0)) (rfl : some (I r__e.e0 : A) = some (I r__e.e0 : A)), Hn (rfl : true = true), Hi zP h2, Hi F7_ h3, Hi F0_ h4, Hx (.a (I r__e1.e1)) (rfl : some (I r__e1.e1 : A) = some (I r__e1.e1 : A)), Hn (rfl : true = true), Hi zP h5, Hi F7_ h6]
       rcases zD hf2 with ⟨c3, hf2⟩ | ⟨c3, hf2⟩
       ·obtain rfl := zb hf2
        obtain rfl := hl2
        obtain rfl := zb hf1
        obtain rfl := hl1
        obtain rfl := zb hf0
        exact yE X0 hC hE (Z2 ++ (rpN 6 (Hq c3) [qT]))
       ·let Z3 : List HO := (Z2 ++ (rpN 4 (Hq c3) []))
        rcases zD hf2 with ⟨c4, hf2⟩ | ⟨c4, hf2⟩
        ·obtain ⟨r_2, h7, hf2⟩ := ze hf2
         let Z4 : List HO := (Z3 ++ (rpN 7 (Hq c4) [Hc h0u (x := (r_, (zh.mk Row_e_e.To Row_e_e1.To))) h7 (loC F6_ r_ <| loC F0_ (zh.mk Row_e_e.To Row_e_e1.To) <| loN), Hq c4, Hq c3, Hq c4, Hq c3]))
         rcases zD hf2 with ⟨c5, hf2⟩ | ⟨c5, hf2⟩
         ·obtain rfl := zb hf2
          obtain rfl := hl2
          obtain rfl := zb hf1
          obtain rfl := hl1
          obtain rfl := zb hf0
          exact yE X0 hC hE (Z4 ++ [Hq c5])
         ·exact yB X0 hC hJ5 (Row_e_e.To, decide (Row_e_e.To ≥ 0), decide (Row_e_e.To ≥ 0), r_2 == 0) hf2 (Z4 ++ [Hq c5])
        ·exact yB X0 hC hJ5 (Row_e_e.To, decide (Row_e_e.To ≥ 0), decide (Row_e_e.To ≥ 0), false) hf2 (Z3 ++ (rpN 8 (Hq c4) [Hq c3, Hq c4, Hq c3, qF]))
     ·obtain rfl := zb hf2
      obtain rfl := hl2
      exact yB X0 hC hJ3 () hf1 [Hq c2]
   ·obtain rfl := zb hf1
    obtain rfl := hl1
    exact yB X0 hC hJ1 () hf0 (Z1 ++ [Hq c1])
def y6 : Code := (Try.f8.body).getD .skip
def vT : yj := spF (α := zB × List (zh Int)) (ρ := Bool) 8 (fun x => [z4F x.1, (eSl 2 false (yG (eI .u8))) x.2]) (fun r => eB r) (fun x => wy x.1 x.2) [] (Wf)
abbrev Ye : List (Nat × T) := []
abbrev Yd (r_ : z6 × z6) (less : List (zh Int)) : List (Nat × T) := [(5, .own (.box (zl r_.1))), (6, .own (.box (zl r_.2))), (18, .own (eOs 2 false F0_ less))]
abbrev Yc (more : List (zh Int)) (r_ : z6 × z6) (r_1 : List (zh Int) × Bool × Int) (all1 : List (zh Int)) (k_ : Int) (less2 : List (zh Int)) : List (Nat × T) := [(5, .own (.box (zl r_.1))), (6, .own (.box (zl r_.2))), (7, .d (eSl 2 true F0_ r_1.1)), (12, .own (eOs 2 false F0_ all1)), (18, .own (eOs 2 false F0_ less2)), (19, .d (I (Int.tmod ((more.length : Nat) : Int) ((r_1.1.length : Nat) : Int)))), (20, .d (I k_))]
abbrev Yb (more : List (zh Int)) (r_ : z6 × z6) (r_1 : List (zh Int) × Bool × Int) (all1 : List (zh Int)) (less1 : List (zh Int)) (k_ : Int) : List (Nat × T) := [(5, .own (.box (zl r_.1))), (6, .own (.box (zl r_.2))), (7, .d (eSl 2 true F0_ r_1.1)), (12, .own (eOs 2 false F0_ all1)), (18, .own (eOs 2 false F0_ less1)), (19, .d (I (Int.tmod ((more.length : Nat) : Int) ((r_1.1.length : Nat) : Int)))), (20, .d (I k_))]
abbrev Yf (more : List (zh Int)) (r_ : z6 × z6) (r_1 : List (zh Int) × Bool × Int) (all1 : List (zh Int)) : List (Nat × T) := [(1, .d (eSl 2 false (yG (eI .u8)) more)), (5, .own (.box (zl r_.1))), (6, .own (.box (zl r_.2))), (7, .d (eSl 2 true F0_ r_1.1)), (8, .d (B r_1.2.1)), (12, .own (eOs 2 false F0_ all1))]
abbrev Yg (more : List (zh Int)) (r_ : z6 × z6) (r_1 : List (zh Int) × Bool × Int) (all1 : List (zh Int)) : List (Nat × T) := [(1, .d (eSl 2 false (yG (eI .u8)) more)), (5, .own (.box (zl r_.1))), (6, .own (.box (zl r_.2))), (7, .d (eSl 2 true F0_ r_1.1)), (8, .d (B r_1.2.1)), (12, .own (eOs 2 false F0_ all1))]
abbrev Ya (more : List (zh Int)) (r_ : z6 × z6) (r_1 : List (zh Int) × Bool × Int) (all2 : List (zh Int)) (k_1 : Int) : List (Nat × T) := [(1, .d (eSl 2 false (yG (eI .u8)) more)), (5, .own (.box (zl r_.1))), (6, .own (.box (zl r_.2))), (7, .d (eSl 2 true F0_ r_1.1)), (8, .d (B r_1.2.1)), (12, .own (eOs 2 false F0_ all2)), (15, .d (I k_1))]
abbrev Yh (more : List (zh Int)) (r_ : z6 × z6) (r_1 : List (zh Int) × Bool × Int) (all : List (zh Int)) : List (Nat × T) := [(1, .d (eSl 2 false (yG (eI .u8)) more)), (5, .own (.box (zl r_.1))), (6, .own (.box (zl r_.2))), (7, .d (eSl 2 true F0_ r_1.1)), (8, .d (B r_1.2.1)), (12, .own (eOs 2 false F0_ all))]
theorem W0 {ctr : Ctr} (hC : zM Try.prog ctr) (h07 : ctr.Has ug) (h0i : ctr.Has uN) (h0d : ctr.Has vR) (h0Y : ctr.Has ZJ) (h01 : ctr.Has jx) (h03 : ctr.Has yW) (h0v : ctr.Has qr) (h05 : ctr.Has wG) : vT.Ok Try.prog := by
 refine zV ?_
 rintro ⟨x_, more⟩ r0 hf0
 try unfold wy at hf0
 refine yO true [(4, none)] y6 178 Try.func8 fun E hE => ?_
 let Z0 : List HO := [Ha (lnM (yG (eI .u8)) more)]
 rcases zD hf0 with ⟨c0, hf0⟩ | ⟨c0, hf0⟩
 ·obtain rfl := zb hf0
  exact yE X0 hC hE (Z0 ++ [Hq c0])
 ·obtain ⟨r_, h0, hf0⟩ := ze hf0
  obtain ⟨r_1, h1, hf0⟩ := ze hf0
  obtain ⟨r_2, h2, hf0⟩ := ze hf0
  let Z1 : List HO := (Z0 ++ [Hq c0, Hc h07 (x := x_) h0 (loC z4F x_ <| loN), Hc h0i (x := (r_.1, r_.2)) h1 (loC zl r_.1 <| loC zl r_.2 <| loN), Hc h0d (x := (r_.1, r_.2)) h2 (loC zl r_.1 <| loC zl r_.2 <| loN)])
  rcases zD hf0 with ⟨c1, hf0⟩ | ⟨c1, hf0⟩
  ·obtain rfl := zb hf0
   exact yE X0 hC hE (Z1 ++ (rpN 4 (Hq c1) [qT]))
  ·let Z2 : List HO := (Z1 ++ (rpN 4 (Hq c1) []))
   rcases zD hf0 with ⟨c2, hf0⟩ | ⟨c2, hf0⟩
   ·obtain rfl := zb hf0
    exact yE X0 hC hE (Z2 ++ [Hq c2])
   ·refine yJ X0 hC y6 [1,1,1,1,1,1,1] [] [1,5,6,7,8,12] (fun z : List (zh Int) => yT more r_ r_1 z = some r0) (fun z => Yh more r_ r_1 z) [(1, .d (eSl 2 false (yG (eI .u8)) more)), (5, .own (.box (zl r_.1))), (6, .own (.box (zl r_.2))), (7, .d (eSl 2 true F0_ r_1.1)), (8, .d (B r_1.2.1)), (12, .own (eOs 2 true F0_ []))] (Z2 ++ [Hq c2, Hh (.cut 1)]) ?_ fun J1 hJ1 => ?_
    ·rintro all hf0
     unfold yT at hf0
     refine yJ X0 hC y6 [1,1,1,1,1,1,1,1] [] [1,5,6,7,8,12] (fun z : List (zh Int) => xq more r_ r_1 z = some r0) (fun z => Yg more r_ r_1 z) [(1, .d (eSl 2 false (yG (eI .u8)) more)), (5, .own (.box (zl r_.1))), (6, .own (.box (zl r_.2))), (7, .d (eSl 2 true F0_ r_1.1)), (8, .d (B r_1.2.1)), (12, .own (eOs 2 false F0_ all))] [Hh (.cut 0)] ?_ fun J2 hJ2 => ?_
     ·rintro all1 hf0
      unfold xq at hf0
      obtain ⟨r_3, h3, hf0⟩ := ze hf0
      refine yJ X0 hC y6 [1,1,1,1,1,1,1,1,1,1] [] [1,5,6,7,8,12] (fun z : Unit => yS more r_ r_1 all1 = some r0) (fun z => Yf more r_ r_1 all1) [(1, .d (eSl 2 false (yG (eI .u8)) more)), (5, .own (.box (zl r_.1))), (6, .own (.box (zl r_.2))), (7, .d (eSl 2 true F0_ r_1.1)), (8, .d (B r_1.2.1)), (12, .own (eOs 2 false F0_ all1)), (16, .d (B r_3.1)), (17, .d (I r_3.2))] [Hg (Qd h03), Hm (shM F0_ F0_ all1), Hs (Qe h03 (x := (r_.1, r_.2, all1)) h3 (loC zl r_.1 <| loC zl r_.2 <| loC F6_ all1 <| loN)), Hh (.cut 0)] ?_ fun J3 hJ3 => ?_
      ·rintro ⟨⟩ hf0
       unfold yS at hf0
       refine yJ X0 hC y6 [1,1,1,1,1,1,1,1,1,1,1] [] [] (fun z : Unit => yl = some r0) (fun z => Ye) [(1, .d (eSl 2 false (yG (eI .u8)) more)), (5, .own (.box (zl r_.1))), (6, .own (.box (zl r_.2))), (7, .d (eSl 2 true F0_ r_1.1)), (8, .d (B r_1.2.1)), (12, .own (eOs 2 false F0_ all1))] [Hh (.cut 0)] ?_ fun J4 hJ4 => ?_
       ·rintro ⟨⟩ hf0
        unfold yl at hf0
        obtain ⟨r_4, h4, hf0⟩ := ze hf0
        obtain rfl := zb hf0
        exact yE X0 hC hE [Hc h05 (x := ()) h4 (loN)]
       ·rcases zD hf0 with ⟨c3, hf0⟩ | ⟨c3, hf0⟩
        ·let Z3 : List HO := [Hq c3, Hq c3, Ha (lnM F0_ r_1.1), Hq c3, Hq c3]
         rcases zD hf0 with ⟨c4, hf0⟩ | ⟨c4, hf0⟩
         ·obtain ⟨g0, hf0⟩ := gdE hf0
          refine yJ X0 hC y6 [1,1,1,1,1,1,1,1,1,1,1,2,1,0,1,1] [J4] [5,6,18] (fun z : List (zh Int) => wx r_ z = some r0) (fun z => Yd r_ z) [(5, .own (.box (zl r_.1))), (6, .own (.box (zl r_.2))), (7, .d (eSl 2 true F0_ r_1.1)), (12, .own (eOs 2 false F0_ all1)), (18, .own (eOs 2 true F0_ [])), (19, .d (I (Int.tmod ((more.length : Nat) : Int) ((r_1.1.length : Nat) : Int))))] (Z3 ++ [Hq c4, Ha (lnM (yG (eI .u8)) more), Ha (lnM F0_ r_1.1), Hn g0, Hh (.cut 0)]) ?_ fun J5 hJ5 => ?_
          ·rintro less hf0
           unfold wx at hf0
           obtain ⟨r_5, h5, hf0⟩ := ze hf0
           let Z4 : List HO := [Hg (Qd h03), Hm (shM F0_ F0_ less), Hs (Qe h03 (x := (r_.1, r_.2, less)) h5 (loC zl r_.1 <| loC zl r_.2 <| loC F6_ less <| loN))]
           rcases zD hf0 with ⟨c5, hf0⟩ | ⟨c5, hf0⟩
           ·obtain rfl := zb hf0
            exact yE X0 hC hE (Z4 ++ [Hq c5, Hq c5, Hq c5, qT])
           ·rcases zD hf0 with ⟨c6, hf0⟩ | ⟨c6, hf0⟩
            ·obtain rfl := zb hf0
             exact yE X0 hC hE (Z4 ++ [Hq c5, Hq c5, Hq c5, Hq c6])
            ·exact yB X0 hC hJ4 () hf0 (Z4 ++ [Hq c5, Hq c5, Hq c5, Hq c6])
          ·obtain ⟨t6, ht6, hf0⟩ := ze hf0
           refine yLx X0 hC y6 [1,1,1,1,1,1,1,1,1,1,1,2,1,0,1,1,2,1,0] [J4, J5] (fun s => xo more r_1 all1 s.1 s.2) (fun x => Yb more r_ r_1 all1 x.1 x.2) (([] : List (zh Int)), 0) ht6 [(5, .own (.box (zl r_.1))), (6, .own (.box (zl r_.2))), (7, .d (eSl 2 true F0_ r_1.1)), (12, .own (eOs 2 false F0_ all1)), (18, .own (eOs 2 true F0_ [])), (19, .d (I (Int.tmod ((more.length : Nat) : Int) ((r_1.1.length : Nat) : Int)))), (20, .d (I 0))] inferInstance [] ?_
           rintro ⟨less1, k_⟩ m6 lr1 hf1 hl1 J6 hJ6
           try unfold xo at hf1
           let Z5 : List HO := [Ha (lnM F0_ all1)]
           rcases zD hf1 with ⟨c7, hf1⟩ | ⟨c7, hf1⟩
           ·refine yJ X0 hC y6 [1,1,1,1,1,1,1,1,1,1,1,2,1,0,1,1,2,1,0,0,1] [J4, J5, J6] [5,6,7,12,18,19,20] (fun z : List (zh Int) => xp k_ z = some lr1) (fun z => Yc more r_ r_1 all1 k_ z) [(5, .own (.box (zl r_.1))), (6, .own (.box (zl r_.2))), (7, .d (eSl 2 true F0_ r_1.1)), (12, .own (eOs 2 false F0_ all1)), (18, .own (eOs 2 false F0_ less1)), (19, .d (I (Int.tmod ((more.length : Nat) : Int) ((r_1.1.length : Nat) : Int)))), (20, .d (I k_))] (Z5 ++ [Hq c7, Hh (.cut 0)]) ?_ fun J7 hJ7 => ?_
            ·rintro less2 hf1
             unfold xp at hf1
             obtain rfl := zb hf1
             exact yB X0 hC hJ6 (less2, w64 (k_ + 1)) hl1 []
            ·obtain ⟨all_e, h6, hf1⟩ := ze hf1
             obtain ⟨u_, h7, hf1⟩ := ze hf1
             let Z6 : List HO := [Hn (iL F0_ h6), Hs (iM F0_ h6), Hi F0_ h7]
             rcases zD hf1 with ⟨c8, hf1⟩ | ⟨c8, hf1⟩
             ·obtain ⟨all_e1, h8, hf1⟩ := ze hf1
              obtain ⟨g1, hf1⟩ := gdE hf1
              exact yB X0 hC hJ7 (less1 ++ ([all_e1] : List (zh Int))) hf1 (Z6 ++ [Hq c8, Hn (iL F0_ h8), Hs (iM F0_ h8), Hq (dM F0_ ([all_e1] : List (zh Int))), Hn (dM F0_ ([all_e1] : List (zh Int))), Hn (aL F0_ F0_ g1), Hl (aM F0_ less1 ([all_e1] : List (zh Int)))])
             ·exact yB X0 hC hJ7 less1 hf1 (Z6 ++ [Hq c8])
           ·obtain rfl := zb hf1
            obtain rfl := hl1
            exact yB X0 hC hJ5 less1 hf0 (Z5 ++ [Hq c7])
         ·exact yB X0 hC hJ4 () hf0 (Z3 ++ [Hq c4])
        ·exact yB X0 hC hJ4 () hf0 (rpN 4 (Hq c3) [qF])
      ·rcases zD hf0 with ⟨c9, hf0⟩ | ⟨c9, hf0⟩
       ·obtain rfl := zb hf0
        exact yE X0 hC hE (rpN 8 (Hq c9) (rpN 5 qT []))
       ·obtain ⟨r_6, h9, hf0⟩ := ze hf0
        let Z7 : List HO := (rpN 5 (Hq c9) [Hg (Qd h0v), Hm (shM F0_ F0_ all1), Hs (Qe h0v (x := (r_.1, r_.2, all1)) h9 (loC zl r_.1 <| loC zl r_.2 <| loC F6_ all1 <| loN)), Hq c9, Hq c9, Hq c9])
        rcases zD hf0 with ⟨c10, hf0⟩ | ⟨c10, hf0⟩
        ·obtain rfl := zb hf0
         exact yE X0 hC hE (Z7 ++ (rpN 4 (Hq c10) [qT]))
        ·rcases zD hf0 with ⟨c11, hf0⟩ | ⟨c11, hf0⟩
         ·let Z8 : List HO := (Z7 ++ [Hq c10, Hq c10, Hq c11, Hq c11, Hq c10, Hq c11, Hq c10])
          rcases zD hf0 with ⟨c12, hf0⟩ | ⟨c12, hf0⟩
          ·obtain rfl := zb hf0
           exact yE X0 hC hE (Z8 ++ [Hq c12])
          ·exact yB X0 hC hJ3 () hf0 (Z8 ++ [Hq c12])
         ·exact yB X0 hC hJ3 () hf0 (Z7 ++ [Hq c10, Hq c10, Hq c11, Hq c11, Hq c10, Hq c11, Hq c10, qF])
     ·obtain ⟨t8, ht8, hf0⟩ := ze hf0
      refine yL X0 hC y6 [1,1,1,1,1,1,1,1,2,1,0] [J2] (fun s => xm more r_ s.1 s.2) (fun x => Ya more r_ r_1 x.1 x.2) (all, 0) ht8  [] ?_
      rintro ⟨all2, k_1⟩ m8 lr1 hf1 hl1 J8 hJ8
      try unfold xm at hf1
      let Z9 : List HO := [Ha (lnM (yG (eI .u8)) more)]
      rcases zD hf1 with ⟨c13, hf1⟩ | ⟨c13, hf1⟩
      ·obtain ⟨more_e, h10, hf1⟩ := ze hf1
       obtain ⟨g2, hf1⟩ := gdE hf1
       obtain ⟨more_e1, h11, hf1⟩ := ze hf1
       obtain ⟨g3, hf1⟩ := gdE hf1
       obtain ⟨g4, hf1⟩ := gdE hf1
       obtain rfl := zb hf1
       exact yB X0 hC hJ8 ((all2 ++ ([(zh.mk (Int.tmod (w64 (more_e.e0)) ((r_.1.Rows.length : Nat) : Int)) (Int.tmod (w64 (more_e1.e1)) ((r_.2.Rows.length : Nat) : Int)))] : List (zh Int))), w64 (k_1 + 1)) hl1 (Z9 ++ [Hq c13, Hi (yG (eI .u8)) h10, Hx (.a (.atom (.int .u8 more_e.e0))) (rfl : some (.atom (.int .u8 more_e.e0) : A) = some (.atom (.int .u8 more_e.e0) : A)), Hn (rfl : true = true), Ha (lnM zP r_.1.Rows), Hn g2, Hi (yG (eI .u8)) h11, Hx (.a (.atom (.int .u8 more_e1.e1))) (rfl : some (.atom (.int .u8 more_e1.e1) : A) = some (.atom (.int .u8 more_e1.e1) : A)), Hn (rfl : true = true), Ha (lnM zP r_.2.Rows), Hn g3, Hq (dM F0_ ([(zh.mk (Int.tmod (w64 (more_e.e0)) ((r_.1.Rows.length : Nat) : Int)) (Int.tmod (w64 (more_e1.e1)) ((r_.2.Rows.length : Nat) : Int)))] : List (zh Int))), Hn (dM F0_ ([(zh.mk (Int.tmod (w64 (more_e.e0)) ((r_.1.Rows.length : Nat) : Int)) (Int.tmod (w64 (more_e1.e1)) ((r_.2.Rows.length : Nat) : Int)))] : List (zh Int))), Hn (aL F0_ F0_ g4), Hl (aM F0_ all2 ([(zh.mk (Int.tmod (w64 (more_e.e0)) ((r_.1.Rows.length : Nat) : Int)) (Int.tmod (w64 (more_e1.e1)) ((r_.2.Rows.length : Nat) : Int)))] : List (zh Int)))])
      ·obtain rfl := zb hf1
       obtain rfl := hl1
       exact yB X0 hC hJ2 all2 hf0 (Z9 ++ [Hq c13])
    ·rcases zD hf0 with ⟨c14, hf0⟩ | ⟨c14, hf0⟩
     ·obtain ⟨r_7, h12, hf0⟩ := ze hf0
      obtain ⟨r_8, h13, hf0⟩ := ze hf0
      let Z10 : List HO := [Hq c14, Hc h0Y (x := (r_.1, r_.2)) h12 (loC zl r_.1 <| loC zl r_.2 <| loN), Hm (shM F0_ F0_ r_7), Hn (Wl (f := .fn 43 []) (xs := [F5_ r_1.1, F6_ r_7]) (ls := []) (r := B r_8) (ys := []) [F5_ r_1.1, F6_ r_7] (show z2i [F5_ r_1.1, F6_ r_7] [F5_ r_1.1, F6_ r_7] from inferInstance))]
      rcases zD hf0 with ⟨c15, hf0⟩ | ⟨c15, hf0⟩
      ·obtain rfl := zb hf0
       exact yE ((yP (P := Try.prog) x9 [] (lentCall (zG hC h01 (x := (r_1.1, r_7)) h13)) 56).or X0) hC hE (Z10 ++ [Hq c15])
      ·obtain ⟨r_9, h14, hf0⟩ := ze hf0
       let Z11 : List HO := (Z10 ++ [Hq c15, Hc h03 (x := (r_.1, r_.2, r_1.1)) h14 (loC zl r_.1 <| loC zl r_.2 <| loC F5_ r_1.1 <| loN)])
       rcases zD hf0 with ⟨c16, hf0⟩ | ⟨c16, hf0⟩
       ·obtain rfl := zb hf0
        exact yE ((yP (P := Try.prog) x9 [] (lentCall (zG hC h01 (x := (r_1.1, r_7)) h13)) 56).or X0) hC hE (Z11 ++ [Hq c16, Hq c16, Hq c16, qT])
       ·rcases zD hf0 with ⟨c17, hf0⟩ | ⟨c17, hf0⟩
        ·obtain rfl := zb hf0
         exact yE ((yP (P := Try.prog) x9 [] (lentCall (zG hC h01 (x := (r_1.1, r_7)) h13)) 56).or X0) hC hE (Z11 ++ [Hq c16, Hq c16, Hq c16, Hq c17])
        ·obtain ⟨g5, hf0⟩ := gdE hf0
         exact yB ((yP (P := Try.prog) x9 [] (lentCall (zG hC h01 (x := (r_1.1, r_7)) h13)) 56).or X0) hC hJ1 r_1.1 hf0 (Z11 ++ [Hq c16, Hq c16, Hq c16, Hq c17, Hn (dM F0_ r_1.1), Hn (aL F0_ F0_ g5), Hl (aM0 F0_ r_1.1)])
     ·let Z12 : List HO := [Hq c14, Ha (lnM F0_ r_1.1)]
      rcases zD hf0 with ⟨c18, hf0⟩ | ⟨c18, hf0⟩
      ·obtain rfl := zb hf0
       exact yE X0 hC hE (Z12 ++ [Hq c18])
      ·exact yBx X0 hC hJ1 ([] : List (zh Int)) hf0 [(1, .d (eSl 2 false (yG (eI .u8)) more)), (5, .own (.box (zl r_.1))), (6, .own (.box (zl r_.2))), (7, .d (eSl 2 true F0_ r_1.1)), (8, .d (B r_1.2.1)), (12, .own (eOs 2 true F0_ []))] inferInstance (Z12 ++ [Hq c18])
def zH : Code := (Try.f10.body).getD .skip
def uw : yj := spF (α := Unit) (ρ := Bool) 10 (fun x => []) (fun r => eB r) (fun x => um) [] (fun _ _ _ => rfl)
abbrev X1 : List (Nat × T) := []
abbrev YZ (n_ : Int) (k_1 : Int) (x177_M_Edges : List Int) (x177_X_States : Int) (x177_X_Edges : List Int) (x177_Swap_e1 : Int) (x177_Place_e0 : Int) (x177_To_To : Int) (x177_To_Out : Int) (x178 : Int) (x179 : Int) (x183_Symbols : List Int) (x184 : Bool) (x185 : Bool) (x188_M_Edges : List Int) (x188_X_States : Int) (x188_X_Edges : List Int) (x188_Swap_e1 : Int) (x188_Place_e0 : Int) (x188_To_To : Int) (x188_To_Out : Int) (x191 : Bool) (x192 : Bool) (x195_M_Edges : List Int) (x195_X_States : Int) (x195_X_Edges : List Int) (x195_Swap_e1 : Int) (x195_Place_e0 : Int) (x195_To_To : Int) (x195_To_Out : Int) (x198 : Int) (x199 : Int) (x200_e1 : Int) (x202 : List (zh Int)) (x203 : Bool) (x204 : Bool) : List (Nat × T) := [(13, .d (I k_1)), (14, .d (I n_)), (177, .d (.agg [.agg [.atom (.int .u8 (IntKind.u8.wrap (n_))), .atom (.int .u8 (IntKind.u8.wrap (w64 (Int.tdiv n_ 3)))), .atom (.int .u8 1), B ((Int.tmod n_ 2) == 0), eSl 1 false (eI .u16) x177_M_Edges], .agg [.atom (.int .u8 x177_X_States), .atom (.int .u8 0), .atom (.int .u8 1), B ((Int.tmod n_ 3) == 0), eSl 1 false (eI .u16) x177_X_Edges], B ((Int.tmod n_ 4) != 0), .agg [.atom (.int .u8 (IntKind.u8.wrap (n_))), .atom (.int .u8 x177_Swap_e1)], .agg [.atom (.int .u8 x177_Place_e0), .atom (.int .u8 (IntKind.u8.wrap (n_)))], .agg [I x177_To_To, I x177_To_Out]])), (178, .d (I x178)), (179, .d (.atom (.int .u8 x179))), (180, .d (I n_)), (181, .d (.atom (.int .u8 (IntKind.u8.wrap (n_))))), (183, .own (.agg [eOs 1 true (eI .u8) x183_Symbols])), (184, .d (B x184)), (185, .d (B x185)), (188, .d (.agg [.agg [.atom (.int .u8 (IntKind.u8.wrap (n_))), .atom (.int .u8 (IntKind.u8.wrap (w64 (Int.tdiv n_ 3)))), .atom (.int .u8 1), B ((Int.tmod n_ 2) == 0), eSl 1 false (eI .u16) x188_M_Edges], .agg [.atom (.int .u8 x188_X_States), .atom (.int .u8 0), .atom (.int .u8 1), B ((Int.tmod n_ 3) == 0), eSl 1 false (eI .u16) x188_X_Edges], B ((Int.tmod n_ 4) != 0), .agg [.atom (.int .u8 (IntKind.u8.wrap (n_))), .atom (.int .u8 x188_Swap_e1)], .agg [.atom (.int .u8 x188_Place_e0), .atom (.int .u8 (IntKind.u8.wrap (n_)))], .agg [I x188_To_To, I x188_To_Out]])), (189, .d (I n_)), (190, .d (I (Int.tmod n_ 8))), (191, .d (B x191)), (192, .d (B x192)), (195, .d (.agg [.agg [.atom (.int .u8 (IntKind.u8.wrap (n_))), .atom (.int .u8 (IntKind.u8.wrap (w64 (Int.tdiv n_ 3)))), .atom (.int .u8 1), B ((Int.tmod n_ 2) == 0), eSl 1 false (eI .u16) x195_M_Edges], .agg [.atom (.int .u8 x195_X_States), .atom (.int .u8 0), .atom (.int .u8 1), B ((Int.tmod n_ 3) == 0), eSl 1 false (eI .u16) x195_X_Edges], B ((Int.tmod n_ 4) != 0), .agg [.atom (.int .u8 (IntKind.u8.wrap (n_))), .atom (.int .u8 x195_Swap_e1)], .agg [.atom (.int .u8 x195_Place_e0), .atom (.int .u8 (IntKind.u8.wrap (n_)))], .agg [I x195_To_To, I x195_To_Out]])), (196, .d (I n_)), (197, .d (.atom (.int .u8 (IntKind.u8.wrap (n_))))), (198, .d (I x198)), (199, .d (.atom (.int .u8 x199))), (200, .d (.agg [.atom (.int .u8 (IntKind.u8.wrap (n_))), .atom (.int .u8 x200_e1)])), (201, .d (.agg [.atom (.int .u8 0), .atom (.int .u8 1)])), (202, .own (eOs 2 true (yG (eI .u8)) x202)), (203, .d (B x203)), (204, .d (B x204))]
abbrev YX (n_ : Int) (k_2 : Int) (l_ : List Int) : List (Nat × T) := [(13, .d (I k_2)), (14, .d (I n_)), (15, .own (eOs 1 false (eI .u16) l_))]
abbrev YT (n_ : Int) (k_3 : Int) (l_1 : List Int) (i_ : Int) : List (Nat × T) := [(13, .d (I k_3)), (14, .d (I n_)), (15, .own (eOs 1 false (eI .u16) l_1)), (16, .d (I i_))]
abbrev YU (k_ : Int) (n_ : Int) : List (Nat × T) := [(13, .d (I k_)), (14, .d (I n_))]
abbrev X2 : List (Nat × T) := []
abbrev YW (n_1 : Int) (x72 : Bool) (x73 : Bool) (x76 : List Int) (x77 : Int) (x79 : Bool) : List (Nat × T) := [(1, .d (I n_1)), (72, .d (B x72)), (73, .d (B x73)), (76, .d (eSl 1 true (eI .i64) x76)), (77, .d (I x77)), (78, .d (I n_1)), (79, .d (B x79))]
abbrev YV (n_1 : Int) (l_e0_Rows : List (List z7)) (l_e1_Rows : List (List z7)) : List (Nat × T) := [(1, .d (I n_1)), (2, .own (.box (.agg [.agg [I 1, I 2, eOs 1 false F8_ l_e0_Rows], .agg [I 1, I 2, eOs 1 false F8_ l_e1_Rows]])))]
abbrev Yk (n_1 : Int) (l_e0_Rows1 : List (List z7)) (l_e1_Rows1 : List (List z7)) : List (Nat × T) := [(1, .d (I n_1)), (2, .own (.box (.agg [.agg [I 1, I 2, eOs 1 false F8_ l_e0_Rows1], .agg [I 1, I 2, eOs 1 false F8_ l_e1_Rows1]]))), (3, .d (I 1))]
abbrev Yj (n_1 : Int) (l_e0_Rows1 : List (List z7)) (l_e1_Rows2 : List (List z7)) (s_ : Int) : List (Nat × T) := [(1, .d (I n_1)), (2, .own (.box (.agg [.agg [I 1, I 2, eOs 1 false F8_ l_e0_Rows1], .agg [I 1, I 2, eOs 1 false F8_ l_e1_Rows2]]))), (3, .d (I 1)), (4, .d (I s_))]
abbrev Yl (n_1 : Int) (l_e0_Rows1 : List (List z7)) : List (Nat × T) := [(1, .d (I n_1)), (2, .own (.box (.agg [.agg [I 1, I 2, eOs 1 false F8_ l_e0_Rows1], .agg [I 0, I 0, eOs 1 true zP []]]))), (3, .d (I 0))]
abbrev Yi (n_1 : Int) (l_e0_Rows2 : List (List z7)) (s_1 : Int) : List (Nat × T) := [(1, .d (I n_1)), (2, .own (.box (.agg [.agg [I 1, I 2, eOs 1 false F8_ l_e0_Rows2], .agg [I 0, I 0, eOs 1 true zP []]]))), (3, .d (I 0)), (4, .d (I s_1))]
abbrev YS (n_1 : Int) : List (Nat × T) := [(1, .d (I n_1))]
def zg : XH Try.prog := ((z4Q xg (.inl 144) [15]).or X0)
theorem Wj {ctr : Ctr} (hC : zM Try.prog ctr) (h02 : ctr.Has kh) (h04 : ctr.Has xE) (h03 : ctr.Has yW) (h0Z : ctr.Has vU) (h0w : ctr.Has ux) (h1a : ctr.Has vS) (h0x : ctr.Has vT) (h05 : ctr.Has wG) : uw.Ok Try.prog := by
 refine zV ?_
 rintro ⟨⟩ r0 hf0
 try unfold um at hf0
 refine yO true [(0, none)] zH 207 Try.func10 fun E hE => ?_
 refine yJ zg hC zH [1] [] [] (fun z : Unit => xJ = some r0) (fun z => X2) [] [Hh (.cut 1)] ?_ fun J1 hJ1 => ?_
 ·rintro ⟨⟩ hf0
  unfold xJ at hf0
  obtain ⟨r_, h0, hf0⟩ := ze hf0
  obtain ⟨g0, hf0⟩ := gdE hf0
  obtain ⟨r_1, h1, hf0⟩ := ze hf0
  obtain ⟨g1, hf0⟩ := gdE hf0
  obtain ⟨r_2, h2, hf0⟩ := ze hf0
  let Z0 : List HO := [Hc h02 (x := (0,0)) h0 (loC (eI .i64) 0 <| loC (eI .i64) 0 <| loN), Hh (.n 0 [8]), Hm (shM F8_ F9_ ([[r_]])), Hn (rL g0), Ha (rM 2 F0_ 4096 (zh.mk 0 0)), Hg (Qd h03), Hm (shM F0_ F0_ (List.replicate (4096 : Int).toNat (zh.mk 0 0))), Hs (Qe h03 (x := ((z6.mk 1 1 ([[r_]])), (z6.mk 1 1 ([[r_]])), (List.replicate (4096 : Int).toNat (zh.mk 0 0)))) h1 (loC Q6 (z6.mk 1 1 ([[r_]])) <| loC Q6 (z6.mk 1 1 ([[r_]])) <| loC F5_ (List.replicate (4096 : Int).toNat (zh.mk 0 0)) <| loN)), Hn (rL g1), Ha (rM 2 F0_ 4097 (zh.mk 0 0)), Hg (Qd h03), Hm (shM F0_ F0_ (List.replicate (4097 : Int).toNat (zh.mk 0 0))), Hs (Qe h03 (x := ((z6.mk 1 1 ([[r_]])), (z6.mk 1 1 ([[r_]])), (List.replicate (4097 : Int).toNat (zh.mk 0 0)))) h2 (loC Q6 (z6.mk 1 1 ([[r_]])) <| loC Q6 (z6.mk 1 1 ([[r_]])) <| loC F5_ (List.replicate (4097 : Int).toNat (zh.mk 0 0)) <| loN))]
  rcases zD hf0 with ⟨c0, hf0⟩ | ⟨c0, hf0⟩
  ·obtain rfl := zb hf0
   exact yE zg hC hE (Z0 ++ (Hq c0 :: Hq c0 :: Hq c0 :: (rpN 6 qT [])))
  ·rcases zD hf0 with ⟨c1, hf0⟩ | ⟨c1, hf0⟩
   ·obtain rfl := zb hf0
    exact yE zg hC hE (Z0 ++ (Hq c0 :: Hq c0 :: Hq c0 :: Hq c1 :: Hq c1 :: (rpN 4 qT [])))
   ·let Z1 : List HO := (Z0 ++ [Hq c0, Hq c0, Hq c0, Hq c1, Hq c1])
    rcases zD hf0 with ⟨c2, hf0⟩ | ⟨c2, hf0⟩
    ·obtain rfl := zb hf0
     exact yE zg hC hE (Z1 ++ [Hq c2, Hq c2, Hq c2, qT])
    ·rcases zD hf0 with ⟨c3, hf0⟩ | ⟨c3, hf0⟩
     ·obtain rfl := zb hf0
      exact yE zg hC hE (Z1 ++ [Hq c2, Hq c2, Hq c2, Hq c3])
     ·refine yJ zg hC zH [1,1,1,1,1,1,1] [] [] (fun z : Unit => xc = some r0) (fun z => X1) [(13, .d (I 1))] (Z1 ++ [Hq c2, Hq c2, Hq c2, Hq c3, Hh (.cut 1)]) ?_ fun J2 hJ2 => ?_
      ·rintro ⟨⟩ hf0
       unfold xc at hf0
       obtain ⟨r_3, h3, hf0⟩ := ze hf0
       obtain rfl := zb hf0
       exact yE zg hC hE [Hc h05 (x := ()) h3 (loN)]
      ·obtain ⟨t3, ht3, hf0⟩ := ze hf0
       refine yL zg hC zH [1,1,1,1,1,1,1,2,1,0] [J2] (fun s => yw s.1 s.2) (fun x => YU x.1 x.2) (1,0) ht3  [] ?_
       rintro ⟨k_, n_⟩ m3 lr1 hf1 hl1 J3 hJ3
       try unfold yw at hf1
       rcases zD hf1 with ⟨c4, hf1⟩ | ⟨c4, hf1⟩
       ·refine yJ zg hC zH [1,1,1,1,1,1,1,2,1,0,0,1] [J2, J3] [13,14,177,178,179,180,181,183,184,185,188,189,190,191,192,195,196,197,198,199,200,201,202,203,204] (fun z : Int × List Int × Int × List Int × Int × Int × Int × Int × Int × Int × List Int × Bool × Bool × List Int × Int × List Int × Int × Int × Int × Int × Bool × Bool × List Int × Int × List Int × Int × Int × Int × Int × Int × Int × Int × List (zh Int) × Bool × Bool => wS n_ z.1 z.2.1 z.2.2.1 z.2.2.2.1 z.2.2.2.2.1 z.2.2.2.2.2.1 z.2.2.2.2.2.2.1 z.2.2.2.2.2.2.2.1 z.2.2.2.2.2.2.2.2.1 z.2.2.2.2.2.2.2.2.2.1 z.2.2.2.2.2.2.2.2.2.2.1 z.2.2.2.2.2.2.2.2.2.2.2.1 z.2.2.2.2.2.2.2.2.2.2.2.2.1 z.2.2.2.2.2.2.2.2.2.2.2.2.2.1 z.2.2.2.2.2.2.2.2.2.2.2.2.2.2.1 z.2.2.2.2.2.2.2.2.2.2.2.2.2.2.2.1 z.2.2.2.2.2.2.2.2.2.2.2.2.2.2.2.2.1 z.2.2.2.2.2.2.2.2.2.2.2.2.2.2.2.2.2.1 z.2.2.2.2.2.2.2.2.2.2.2.2.2.2.2.2.2.2.1 z.2.2.2.2.2.2.2.2.2.2.2.2.2.2.2.2.2.2.2.1 z.2.2.2.2.2.2.2.2.2.2.2.2.2.2.2.2.2.2.2.2.1 z.2.2.2.2.2.2.2.2.2.2.2.2.2.2.2.2.2.2.2.2.2.1 z.2.2.2.2.2.2.2.2.2.2.2.2.2.2.2.2.2.2.2.2.2.2.1 z.2.2.2.2.2.2.2.2.2.2.2.2.2.2.2.2.2.2.2.2.2.2.2.1 z.2.2.2.2.2.2.2.2.2.2.2.2.2.2.2.2.2.2.2.2.2.2.2.2.1 z.2.2.2.2.2.2.2.2.2.2.2.2.2.2.2.2.2.2.2.2.2.2.2.2.2.1 z.2.2.2.2.2.2.2.2.2.2.2.2.2.2.2.2.2.2.2.2.2.2.2.2.2.2.1 z.2.2.2.2.2.2.2.2.2.2.2.2.2.2.2.2.2.2.2.2.2.2.2.2.2.2.2.1 z.2.2.2.2.2.2.2.2.2.2.2.2.2.2.2.2.2.2.2.2.2.2.2.2.2.2.2.2.1 z.2.2.2.2.2.2.2.2.2.2.2.2.2.2.2.2.2.2.2.2.2.2.2.2.2.2.2.2.2.1 z.2.2.2.2.2.2.2.2.2.2.2.2.2.2.2.2.2.2.2.2.2.2.2.2.2.2.2.2.2.2.1 z.2.2.2.2.2.2.2.2.2.2.2.2.2.2.2.2.2.2.2.2.2.2.2.2.2.2.2.2.2.2.2.1 z.2.2.2.2.2.2.2.2.2.2.2.2.2.2.2.2.2.2.2.2.2.2.2.2.2.2.2.2.2.2.2.2.1 z.2.2.2.2.2.2.2.2.2.2.2.2.2.2.2.2.2.2.2.2.2.2.2.2.2.2.2.2.2.2.2.2.2.1 z.2.2.2.2.2.2.2.2.2.2.2.2.2.2.2.2.2.2.2.2.2.2.2.2.2.2.2.2.2.2.2.2.2.2 = some lr1) (fun z => YZ n_ z.1 z.2.1 z.2.2.1 z.2.2.2.1 z.2.2.2.2.1 z.2.2.2.2.2.1 z.2.2.2.2.2.2.1 z.2.2.2.2.2.2.2.1 z.2.2.2.2.2.2.2.2.1 z.2.2.2.2.2.2.2.2.2.1 z.2.2.2.2.2.2.2.2.2.2.1 z.2.2.2.2.2.2.2.2.2.2.2.1 z.2.2.2.2.2.2.2.2.2.2.2.2.1 z.2.2.2.2.2.2.2.2.2.2.2.2.2.1 z.2.2.2.2.2.2.2.2.2.2.2.2.2.2.1 z.2.2.2.2.2.2.2.2.2.2.2.2.2.2.2.1 z.2.2.2.2.2.2.2.2.2.2.2.2.2.2.2.2.1 z.2.2.2.2.2.2.2.2.2.2.2.2.2.2.2.2.2.1 z.2.2.2.2.2.2.2.2.2.2.2.2.2.2.2.2.2.2.1 z.2.2.2.2.2.2.2.2.2.2.2.2.2.2.2.2.2.2.2.1 z.2.2.2.2.2.2.2.2.2.2.2.2.2.2.2.2.2.2.2.2.1 z.2.2.2.2.2.2.2.2.2.2.2.2.2.2.2.2.2.2.2.2.2.1 z.2.2.2.2.2.2.2.2.2.2.2.2.2.2.2.2.2.2.2.2.2.2.1 z.2.2.2.2.2.2.2.2.2.2.2.2.2.2.2.2.2.2.2.2.2.2.2.1 z.2.2.2.2.2.2.2.2.2.2.2.2.2.2.2.2.2.2.2.2.2.2.2.2.1 z.2.2.2.2.2.2.2.2.2.2.2.2.2.2.2.2.2.2.2.2.2.2.2.2.2.1 z.2.2.2.2.2.2.2.2.2.2.2.2.2.2.2.2.2.2.2.2.2.2.2.2.2.2.1 z.2.2.2.2.2.2.2.2.2.2.2.2.2.2.2.2.2.2.2.2.2.2.2.2.2.2.2.1 z.2.2.2.2.2.2.2.2.2.2.2.2.2.2.2.2.2.2.2.2.2.2.2.2.2.2.2.2.1 z.2.2.2.2.2.2.2.2.2.2.2.2.2.2.2.2.2.2.2.2.2.2.2.2.2.2.2.2.2.1 z.2.2.2.2.2.2.2.2.2.2.2.2.2.2.2.2.2.2.2.2.2.2.2.2.2.2.2.2.2.2.1 z.2.2.2.2.2.2.2.2.2.2.2.2.2.2.2.2.2.2.2.2.2.2.2.2.2.2.2.2.2.2.2.1 z.2.2.2.2.2.2.2.2.2.2.2.2.2.2.2.2.2.2.2.2.2.2.2.2.2.2.2.2.2.2.2.2.1 z.2.2.2.2.2.2.2.2.2.2.2.2.2.2.2.2.2.2.2.2.2.2.2.2.2.2.2.2.2.2.2.2.2.1 z.2.2.2.2.2.2.2.2.2.2.2.2.2.2.2.2.2.2.2.2.2.2.2.2.2.2.2.2.2.2.2.2.2.2) [(13, .d (I k_)), (14, .d (I n_))] [Hq c4, Hh (.cut 0)] ?_ fun J4 hJ4 => ?_
        ·rintro ⟨k_1, x177_M_Edges, x177_X_States, x177_X_Edges, x177_Swap_e1, x177_Place_e0, x177_To_To, x177_To_Out, x178, x179, x183_Symbols, x184, x185, x188_M_Edges, x188_X_States, x188_X_Edges, x188_Swap_e1, x188_Place_e0, x188_To_To, x188_To_Out, x191, x192, x195_M_Edges, x195_X_States, x195_X_Edges, x195_Swap_e1, x195_Place_e0, x195_To_To, x195_To_Out, x198, x199, x200_e1, x202, x203, x204⟩ hf1
         unfold wS at hf1
         obtain rfl := zb hf1
         exact yB zg hC hJ3 (k_1, w64 (n_ + 1)) hl1 []
        ·refine yJ zg hC zH [1,1,1,1,1,1,1,2,1,0,0,1,2,0,1] [J2, J3, J4] [13,14,15] (fun z : Int × List Int => wR n_ z.1 z.2 = some lr1) (fun z => YX n_ z.1 z.2) [(13, .d (I k_)), (14, .d (I n_)), (15, .own (eOs 1 true (eI .u16) []))] [Hh (.cut 1)] ?_ fun J5 hJ5 => ?_
         ·rintro ⟨k_2, l_⟩ hf1
          unfold wR at hf1
          obtain ⟨g2, hf1⟩ := gdE hf1
          obtain ⟨g3, hf1⟩ := gdE hf1
          obtain ⟨g4, hf1⟩ := gdE hf1
          obtain ⟨g5, hf1⟩ := gdE hf1
          obtain ⟨g6, hf1⟩ := gdE hf1
          obtain ⟨g7, hf1⟩ := gdE hf1
          obtain ⟨g8, hf1⟩ := gdE hf1
          obtain ⟨r_4, h4, hf1⟩ := ze hf1
          obtain ⟨r_5, h5, hf1⟩ := ze hf1
          let Z2 : List HO := [Hn g2, Hn g3, Hm (shM (eI .u16) (eI .u16) l_), Hn g4, Hn (slA g5), Hn (z9h (eI .u16) g5), Ha (slE 1 false (eI .u16) l_ (3 : Int).toNat), Hn g6, Hn g7, Hn g8, Hc h02 (x := (Int.tmod n_ 5, Int.tmod n_ 4)) h4 (loC (eI .i64) (Int.tmod n_ 5) <| loC (eI .i64) (Int.tmod n_ 4) <| loN), Hc h0Z (x := (zB.mk (zp.mk (IntKind.u8.wrap (n_)) (IntKind.u8.wrap (w64 (Int.tdiv n_ 3))) 1 ((Int.tmod n_ 2) == 0) l_) (zp.mk (IntKind.u8.wrap (k_2)) 0 1 ((Int.tmod n_ 3) == 0) (l_.drop (3 : Int).toNat)) ((Int.tmod n_ 4) != 0) (zh.mk (IntKind.u8.wrap (n_)) (IntKind.u8.wrap (k_2))) (zh.mk (IntKind.u8.wrap (k_2)) (IntKind.u8.wrap (n_))) r_4)) h5 (loC z4F (zB.mk (zp.mk (IntKind.u8.wrap (n_)) (IntKind.u8.wrap (w64 (Int.tdiv n_ 3))) 1 ((Int.tmod n_ 2) == 0) l_) (zp.mk (IntKind.u8.wrap (k_2)) 0 1 ((Int.tmod n_ 3) == 0) (l_.drop (3 : Int).toNat)) ((Int.tmod n_ 4) != 0) (zh.mk (IntKind.u8.wrap (n_)) (IntKind.u8.wrap (k_2))) (zh.mk (IntKind.u8.wrap (k_2)) (IntKind.u8.wrap (n_))) r_4) <| loN)]
          rcases zD hf1 with ⟨c5, hf1⟩ | ⟨c5, hf1⟩
          ·obtain rfl := zb hf1
           obtain rfl := hl1
           obtain rfl := zb hf0
           exact yE zg hC hE (Z2 ++ (rpN 10 (Hq c5) (rpN 18 qT [])))
          ·obtain ⟨r_6, h6, hf1⟩ := ze hf1
           let Z3 : List HO := (Z2 ++ (rpN 8 (Hq c5) [Hg (Qd h0w), Hm (shM (eI .u8) (eI .u8) ([IntKind.u8.wrap (k_2), IntKind.u8.wrap (n_), 1,2])), Hs (Qe h0w (x := ((zB.mk (zp.mk (IntKind.u8.wrap (n_)) (IntKind.u8.wrap (w64 (Int.tdiv n_ 3))) 1 ((Int.tmod n_ 2) == 0) l_) (zp.mk (IntKind.u8.wrap (k_2)) 0 1 ((Int.tmod n_ 3) == 0) (l_.drop (3 : Int).toNat)) ((Int.tmod n_ 4) != 0) (zh.mk (IntKind.u8.wrap (n_)) (IntKind.u8.wrap (k_2))) (zh.mk (IntKind.u8.wrap (k_2)) (IntKind.u8.wrap (n_))) r_4), (v7.mk ([IntKind.u8.wrap (k_2), IntKind.u8.wrap (n_), 1,2])))) h6 (loC z4F (zB.mk (zp.mk (IntKind.u8.wrap (n_)) (IntKind.u8.wrap (w64 (Int.tdiv n_ 3))) 1 ((Int.tmod n_ 2) == 0) l_) (zp.mk (IntKind.u8.wrap (k_2)) 0 1 ((Int.tmod n_ 3) == 0) (l_.drop (3 : Int).toNat)) ((Int.tmod n_ 4) != 0) (zh.mk (IntKind.u8.wrap (n_)) (IntKind.u8.wrap (k_2))) (zh.mk (IntKind.u8.wrap (k_2)) (IntKind.u8.wrap (n_))) r_4) <| loC (jk (eSl 1 true (eI .u8))) (v7.mk ([IntKind.u8.wrap (k_2), IntKind.u8.wrap (n_), 1,2])) <| loN)), Hq c5, Hq c5]))
           rcases zD hf1 with ⟨c6, hf1⟩ | ⟨c6, hf1⟩
           ·obtain rfl := zb hf1
            obtain rfl := hl1
            obtain rfl := zb hf0
            exact yE zg hC hE (Z3 ++ (rpN 6 (Hq c6) (rpN 12 qT [])))
           ·obtain ⟨g9, hf1⟩ := gdE hf1
            obtain ⟨r_7, h7, hf1⟩ := ze hf1
            let Z4 : List HO := (Z3 ++ [Hq c6, Hq c6, Hq c6, Hn g9, Hq c6, Hc h1a (x := ((zB.mk (zp.mk (IntKind.u8.wrap (n_)) (IntKind.u8.wrap (w64 (Int.tdiv n_ 3))) 1 ((Int.tmod n_ 2) == 0) l_) (zp.mk (IntKind.u8.wrap (k_2)) 0 1 ((Int.tmod n_ 3) == 0) (l_.drop (3 : Int).toNat)) ((Int.tmod n_ 4) != 0) (zh.mk (IntKind.u8.wrap (n_)) (IntKind.u8.wrap (k_2))) (zh.mk (IntKind.u8.wrap (k_2)) (IntKind.u8.wrap (n_))) r_4), Int.tmod n_ 8)) h7 (loC z4F (zB.mk (zp.mk (IntKind.u8.wrap (n_)) (IntKind.u8.wrap (w64 (Int.tdiv n_ 3))) 1 ((Int.tmod n_ 2) == 0) l_) (zp.mk (IntKind.u8.wrap (k_2)) 0 1 ((Int.tmod n_ 3) == 0) (l_.drop (3 : Int).toNat)) ((Int.tmod n_ 4) != 0) (zh.mk (IntKind.u8.wrap (n_)) (IntKind.u8.wrap (k_2))) (zh.mk (IntKind.u8.wrap (k_2)) (IntKind.u8.wrap (n_))) r_4) <| loC (eI .i64) (Int.tmod n_ 8) <| loN), Hq c6, Hq c6])
            rcases zD hf1 with ⟨c7, hf1⟩ | ⟨c7, hf1⟩
            ·obtain rfl := zb hf1
             obtain rfl := hl1
             obtain rfl := zb hf0
             exact yE zg hC hE (Z4 ++ (rpN 11 (Hq c7) [qT]))
            ·obtain ⟨r_8, h8, hf1⟩ := ze hf1
             let Z5 : List HO := (Z4 ++ (rpN 9 (Hq c7) [Hg (Qd h0x), Hm (shM (yG (eI .u8)) (yG (eI .u8)) ([(zh.mk (IntKind.u8.wrap (n_)) (IntKind.u8.wrap (k_2))), (zh.mk 0 1)])), Hs (Qe h0x (x := ((zB.mk (zp.mk (IntKind.u8.wrap (n_)) (IntKind.u8.wrap (w64 (Int.tdiv n_ 3))) 1 ((Int.tmod n_ 2) == 0) l_) (zp.mk (IntKind.u8.wrap (k_2)) 0 1 ((Int.tmod n_ 3) == 0) (l_.drop (3 : Int).toNat)) ((Int.tmod n_ 4) != 0) (zh.mk (IntKind.u8.wrap (n_)) (IntKind.u8.wrap (k_2))) (zh.mk (IntKind.u8.wrap (k_2)) (IntKind.u8.wrap (n_))) r_4), [(zh.mk (IntKind.u8.wrap (n_)) (IntKind.u8.wrap (k_2))), (zh.mk 0 1)])) h8 (loC z4F (zB.mk (zp.mk (IntKind.u8.wrap (n_)) (IntKind.u8.wrap (w64 (Int.tdiv n_ 3))) 1 ((Int.tmod n_ 2) == 0) l_) (zp.mk (IntKind.u8.wrap (k_2)) 0 1 ((Int.tmod n_ 3) == 0) (l_.drop (3 : Int).toNat)) ((Int.tmod n_ 4) != 0) (zh.mk (IntKind.u8.wrap (n_)) (IntKind.u8.wrap (k_2))) (zh.mk (IntKind.u8.wrap (k_2)) (IntKind.u8.wrap (n_))) r_4) <| loC (eSl 2 true (yG (eI .u8))) ([(zh.mk (IntKind.u8.wrap (n_)) (IntKind.u8.wrap (k_2))), (zh.mk 0 1)] : List (zh Int)) <| loN)), Hq c7, Hq c7]))
             rcases zD hf1 with ⟨c8, hf1⟩ | ⟨c8, hf1⟩
             ·obtain rfl := zb hf1
              obtain rfl := hl1
              obtain rfl := zb hf0
              exact yE zg hC hE (Z5 ++ [Hq c8])
             ·exact yBx zg hC hJ4 (k_2, l_, IntKind.u8.wrap (k_2), (l_.drop (3 : Int).toNat), IntKind.u8.wrap (k_2), IntKind.u8.wrap (k_2), r_4.To, r_4.Out, k_2, IntKind.u8.wrap (k_2), ([IntKind.u8.wrap (k_2), IntKind.u8.wrap (n_), 1,2] : List Int), r_6, !r_6, l_, IntKind.u8.wrap (k_2), (l_.drop (3 : Int).toNat), IntKind.u8.wrap (k_2), IntKind.u8.wrap (k_2), r_4.To, r_4.Out, r_7, !r_7, l_, IntKind.u8.wrap (k_2), (l_.drop (3 : Int).toNat), IntKind.u8.wrap (k_2), IntKind.u8.wrap (k_2), r_4.To, r_4.Out, k_2, IntKind.u8.wrap (k_2), IntKind.u8.wrap (k_2), ([(zh.mk (IntKind.u8.wrap (n_)) (IntKind.u8.wrap (k_2))), (zh.mk 0 1)] : List (zh Int)), r_8, !r_8) hf1 [(13, .d (I k_2)), (14, .d (I n_)), (177, .d (.agg [.agg [.atom (.int .u8 (IntKind.u8.wrap (n_))), .atom (.int .u8 (IntKind.u8.wrap (w64 (Int.tdiv n_ 3)))), .atom (.int .u8 1), B ((Int.tmod n_ 2) == 0), eSl 1 false (eI .u16) l_], .agg [.atom (.int .u8 (IntKind.u8.wrap (k_2))), .atom (.int .u8 0), .atom (.int .u8 1), B ((Int.tmod n_ 3) == 0), eSl 1 false (eI .u16) (l_.drop (3 : Int).toNat)], B ((Int.tmod n_ 4) != 0), .agg [.atom (.int .u8 (IntKind.u8.wrap (n_))), .atom (.int .u8 (IntKind.u8.wrap (k_2)))], .agg [.atom (.int .u8 (IntKind.u8.wrap (k_2))), .atom (.int .u8 (IntKind.u8.wrap (n_)))], .agg [I r_4.To, I r_4.Out]])), (178, .d (I k_2)), (179, .d (.atom (.int .u8 (IntKind.u8.wrap (k_2))))), (180, .d (I n_)), (181, .d (.atom (.int .u8 (IntKind.u8.wrap (n_))))), (183, .own (.agg [eOs 1 true (eI .u8) ([IntKind.u8.wrap (k_2), IntKind.u8.wrap (n_), 1,2])])), (184, .d (B r_6)), (185, .d (B (!r_6))), (188, .d (.agg [.agg [.atom (.int .u8 (IntKind.u8.wrap (n_))), .atom (.int .u8 (IntKind.u8.wrap (w64 (Int.tdiv n_ 3)))), .atom (.int .u8 1), B ((Int.tmod n_ 2) == 0), eSl 1 false (eI .u16) l_], .agg [.atom (.int .u8 (IntKind.u8.wrap (k_2))), .atom (.int .u8 0), .atom (.int .u8 1), B ((Int.tmod n_ 3) == 0), eSl 1 false (eI .u16) (l_.drop (3 : Int).toNat)], B ((Int.tmod n_ 4) != 0), .agg [.atom (.int .u8 (IntKind.u8.wrap (n_))), .atom (.int .u8 (IntKind.u8.wrap (k_2)))], .agg [.atom (.int .u8 (IntKind.u8.wrap (k_2))), .atom (.int .u8 (IntKind.u8.wrap (n_)))], .agg [I r_4.To, I r_4.Out]])), (189, .d (I n_)), (190, .d (I (Int.tmod n_ 8))), (191, .d (B r_7)), (192, .d (B (!r_7))), (195, .d (.agg [.agg [.atom (.int .u8 (IntKind.u8.wrap (n_))), .atom (.int .u8 (IntKind.u8.wrap (w64 (Int.tdiv n_ 3)))), .atom (.int .u8 1), B ((Int.tmod n_ 2) == 0), eSl 1 false (eI .u16) l_], .agg [.atom (.int .u8 (IntKind.u8.wrap (k_2))), .atom (.int .u8 0), .atom (.int .u8 1), B ((Int.tmod n_ 3) == 0), eSl 1 false (eI .u16) (l_.drop (3 : Int).toNat)], B ((Int.tmod n_ 4) != 0), .agg [.atom (.int .u8 (IntKind.u8.wrap (n_))), .atom (.int .u8 (IntKind.u8.wrap (k_2)))], .agg [.atom (.int .u8 (IntKind.u8.wrap (k_2))), .atom (.int .u8 (IntKind.u8.wrap (n_)))], .agg [I r_4.To, I r_4.Out]])), (196, .d (I n_)), (197, .d (.atom (.int .u8 (IntKind.u8.wrap (n_))))), (198, .d (I k_2)), (199, .d (.atom (.int .u8 (IntKind.u8.wrap (k_2))))), (200, .d (.agg [.atom (.int .u8 (IntKind.u8.wrap (n_))), .atom (.int .u8 (IntKind.u8.wrap (k_2)))])), (201, .d (.agg [.atom (.int .u8 0), .atom (.int .u8 1)])), (202, .own (eOs 2 true (yG (eI .u8)) ([(zh.mk (IntKind.u8.wrap (n_)) (IntKind.u8.wrap (k_2))), (zh.mk 0 1)]))), (203, .d (B r_8)), (204, .d (B (!r_8)))] inferInstance (Z5 ++ [Hq c8])
         ·obtain ⟨t6, ht6, hf1⟩ := ze hf1
          refine yLx zg hC zH [1,1,1,1,1,1,1,2,1,0,0,1,2,0,1,2,1,0] [J2, J3, J4, J5] (fun s => xa n_ s.1 s.2.1 s.2.2) (fun x => YT n_ x.1 x.2.1 x.2.2) (k_, ([] : List Int), 0) ht6 [(13, .d (I k_)), (14, .d (I n_)), (15, .own (eOs 1 true (eI .u16) [])), (16, .d (I 0))] inferInstance [] ?_
          rintro ⟨k_3, l_1, i_⟩ m6 lr2 hf2 hl2 J6 hJ6
          try unfold xa at hf2
          rcases zD hf2 with ⟨c9, hf2⟩ | ⟨c9, hf2⟩
          ·obtain ⟨g10, hf2⟩ := gdE hf2
           obtain ⟨g11, hf2⟩ := gdE hf2
           obtain ⟨g12, hf2⟩ := gdE hf2
           obtain rfl := zb hf2
           exact yB zg hC hJ6 (Int.tmod (w64 ((w64 ((w64 (k_3 * 31)) + (w64 (7 * i_)))) + 11)) 100003, (l_1 ++ ([IntKind.u16.wrap (Int.tmod (Int.tmod (w64 ((w64 ((w64 (k_3 * 31)) + (w64 (7 * i_)))) + 11)) 100003) (w64 (8 + n_)))] : List Int)), w64 (i_ + 1)) hl2 [Hq c9, Hn g10, Hn g11, Hq (dM (eI .u16) ([IntKind.u16.wrap (Int.tmod (Int.tmod (w64 ((w64 ((w64 (k_3 * 31)) + (w64 (7 * i_)))) + 11)) 100003) (w64 (8 + n_)))] : List Int)), Hn (dM (eI .u16) ([IntKind.u16.wrap (Int.tmod (Int.tmod (w64 ((w64 ((w64 (k_3 * 31)) + (w64 (7 * i_)))) + 11)) 100003) (w64 (8 + n_)))] : List Int)), Hn (aL (eI .u16) (eI .u16) g12), Hl (aM (eI .u16) l_1 ([IntKind.u16.wrap (Int.tmod (Int.tmod (w64 ((w64 ((w64 (k_3 * 31)) + (w64 (7 * i_)))) + 11)) 100003) (w64 (8 + n_)))] : List Int))]
          ·obtain rfl := zb hf2
           obtain rfl := hl2
           exact yB zg hC hJ5 (k_3, l_1) hf1 [Hq c9]
       ·obtain rfl := zb hf1
        obtain rfl := hl1
        exact yB zg hC hJ2 () hf0 [Hq c4]
 ·obtain ⟨t7, ht7, hf0⟩ := ze hf0
  refine yL zg hC zH [1,2,1,0] [J1] (fun s => xI s) (fun x => YS x) 1 ht7  [] ?_
  rintro n_1 m7 lr1 hf1 hl1 J7 hJ7
  try unfold xI at hf1
  rcases zD hf1 with ⟨c10, hf1⟩ | ⟨c10, hf1⟩
  ·refine yJ zg hC zH [1,2,1,0,0,1] [J1, J7] [1,72,73,76,77,78,79] (fun z : Bool × Bool × List Int × Int × Bool => wQ n_1 z.1 z.2.1 z.2.2.1 z.2.2.2.1 z.2.2.2.2 = some lr1) (fun z => YW n_1 z.1 z.2.1 z.2.2.1 z.2.2.2.1 z.2.2.2.2) [(1, .d (I n_1))] [Hq c10, Hh (.cut 0)] ?_ fun J8 hJ8 => ?_
   ·rintro ⟨x72, x73, x76, x77, x79⟩ hf1
    unfold wQ at hf1
    obtain rfl := zb hf1
    exact yB zg hC hJ7 (w64 (n_1 + 1)) hl1 []
   ·refine yJ zg hC zH [1,2,1,0,0,1,2,0,1] [J1, J7, J8] [1,2] (fun z : List (List z7) × List (List z7) => wP n_1 z.1 z.2 = some lr1) (fun z => YV n_1 z.1 z.2) [(1, .d (I n_1)), (2, .own (.box (.agg [.agg [I 0, I 0, eOs 1 true zP []], .agg [I 0, I 0, eOs 1 true zP []]])))] [Hh (.cut 1)] ?_ fun J9 hJ9 => ?_
    ·rintro ⟨l_e0_Rows, l_e1_Rows⟩ hf1
     unfold wP at hf1
     obtain ⟨r_9, h9, hf1⟩ := ze hf1
     let Z6 : List HO := [Hh (.n 0 [2]), Hm (shM F8_ F9_ l_e0_Rows), Hm (shM F8_ F9_ l_e1_Rows), Hx (.a (.agg [I 1, I 2, eSl 1 false F9_ l_e0_Rows])) (rfl : some (.agg [I 1, I 2, eSl 1 false F9_ l_e0_Rows] : A) = some (.agg [I 1, I 2, eSl 1 false F9_ l_e0_Rows] : A)), Hn (rfl : true = true), Hx (.a (.agg [I 1, I 2, eSl 1 false F9_ l_e1_Rows])) (rfl : some (.agg [I 1, I 2, eSl 1 false F9_ l_e1_Rows] : A) = some (.agg [I 1, I 2, eSl 1 false F9_ l_e1_Rows] : A)), Hn (rfl : true = true), Hc h04 (x := ((z6.mk 1 2 l_e0_Rows), (z6.mk 1 2 l_e1_Rows))) h9 (loC (x6 (eI .i64) (eI .i64) (eSl 1 false F9_)) (z6.mk 1 2 l_e0_Rows) <| loC (x6 (eI .i64) (eI .i64) (eSl 1 false F9_)) (z6.mk 1 2 l_e1_Rows) <| loN)]
     rcases zD hf1 with ⟨c11, hf1⟩ | ⟨c11, hf1⟩
     ·obtain rfl := zb hf1
      obtain rfl := hl1
      obtain rfl := zb hf0
      exact yE zg hC hE (Z6 ++ (Hq c11 :: Hq c11 :: Hq c11 :: (rpN 6 qT [])))
     ·rcases zD hf1 with ⟨c12, hf1⟩ | ⟨c12, hf1⟩
      ·obtain rfl := zb hf1
       obtain rfl := hl1
       obtain rfl := zb hf0
       exact yE zg hC hE (Z6 ++ (Hq c11 :: Hq c11 :: Hq c11 :: (rpN 5 (Hq c12) [qT])))
      ·let Z7 : List HO := (Z6 ++ [Hq c11, Hq c11, Hq c11, Hq c12, Hq c12, Ha (lnM (eI .i64) r_9.1), Hq c12, Hq c12, Hq c12])
       rcases zD hf1 with ⟨c13, hf1⟩ | ⟨c13, hf1⟩
       ·obtain rfl := zb hf1
        obtain rfl := hl1
        obtain rfl := zb hf0
        exact yE zg hC hE (Z7 ++ [Hq c13])
       ·exact yB zg hC hJ8 (r_9.2.1, !r_9.2.1, r_9.1, ((r_9.1.length : Nat) : Int), ((r_9.1.length : Nat) : Int) != n_1) hf1 (Z7 ++ [Hq c13])
    ·refine yJ zg hC zH [1,2,1,0,0,1,2,0,1,2,1,0,73,1] [J1, J7, J8, J9] [1,2,3] (fun z : List (List z7) => wB n_1 z = some lr1) (fun z => Yl n_1 z) [(1, .d (I n_1)), (2, .own (.box (.agg [.agg [I 0, I 0, eOs 1 true zP []], .agg [I 0, I 0, eOs 1 true zP []]]))), (3, .d (I 0))] [Hh (.u 70), qT, Hh (.cut 0)] ?_ fun J10 hJ10 => ?_
     ·rintro l_e0_Rows1 hf1
      unfold wB at hf1
      refine yJ zg hC zH [1,2,1,0,0,1,2,0,1,2,1,0,72,1] [J1, J7, J8, J9] [1,2,3] (fun z : List (List z7) => wz n_1 l_e0_Rows1 z = some lr1) (fun z => Yk n_1 l_e0_Rows1 z) [(1, .d (I n_1)), (2, .own (.box (.agg [.agg [I 1, I 2, eOs 1 false F8_ l_e0_Rows1], .agg [I 0, I 0, eOs 1 true zP []]]))), (3, .d (I 1))] [qT, Hh (.cut 0)] ?_ fun J11 hJ11 => ?_
      ·rintro l_e1_Rows1 hf1
       unfold wz at hf1
       exact yB zg hC hJ9 (l_e0_Rows1, l_e1_Rows1) hf1 [qF]
      ·obtain ⟨t12, ht12, hf1⟩ := ze hf1
       refine yLx zg hC zH [1,2,1,0,0,1,2,0,1,2,1,0,72,1,2,0,1,1,0] [J1, J7, J8, J9, J11] (fun s => zZ n_1 s.1 s.2) (fun x => Yj n_1 l_e0_Rows1 x.1 x.2) (([] : List (List z7)), 0) ht12 [(1, .d (I n_1)), (2, .own (.box (.agg [.agg [I 1, I 2, eOs 1 false F8_ l_e0_Rows1], .agg [I 1, I 2, eOs 1 true F8_ []]]))), (3, .d (I 1)), (4, .d (I 0))] inferInstance [Hn (⟨rfl, by decide⟩ : true = true ∧ 1 < 2)] ?_
       rintro ⟨l_e1_Rows2, s_⟩ m12 lr2 hf2 hl2 J12 hJ12
       try unfold zZ at hf2
       rcases zD hf2 with ⟨c14, hf2⟩ | ⟨c14, hf2⟩
       ·obtain ⟨g13, hf2⟩ := gdE hf2
        obtain ⟨g14, hf2⟩ := gdE hf2
        obtain ⟨r_10, h10, hf2⟩ := ze hf2
        obtain ⟨g15, hf2⟩ := gdE hf2
        obtain rfl := zb hf2
        exact yB zg hC hJ12 ((l_e1_Rows2 ++ ([[r_10]] : List (List z7))), w64 (s_ + 1)) hl2 [Hq c14, Hn (⟨rfl, by decide⟩ : true = true ∧ 1 < 2), Hn g13, Hn g14, Hc h02 (x := (Int.tmod (w64 (s_ + 1)) (w64 (n_1 + 1)), w64 (Int.tdiv (w64 (s_ + 1)) (w64 (n_1 + 1))))) h10 (loC (eI .i64) (Int.tmod (w64 (s_ + 1)) (w64 (n_1 + 1))) <| loC (eI .i64) (w64 (Int.tdiv (w64 (s_ + 1)) (w64 (n_1 + 1)))) <| loN), Hq (oC F8_ ([r_10]) []), Hn (aL F8_ F8_ g15), Hl (aM F8_ l_e1_Rows2 ([[r_10]] : List (List z7))), Hn (⟨rfl, by decide⟩ : true = true ∧ 1 < 2)]
       ·obtain rfl := zb hf2
        obtain rfl := hl2
        exact yB zg hC hJ11 l_e1_Rows2 hf1 [Hq c14]
     ·obtain ⟨t13, ht13, hf1⟩ := ze hf1
      refine yLx zg hC zH [1,2,1,0,0,1,2,0,1,2,1,0,73,1,2,0,1,1,0] [J1, J7, J8, J9, J10] (fun s => zY n_1 s.1 s.2) (fun x => Yi n_1 x.1 x.2) (([] : List (List z7)), 0) ht13 [(1, .d (I n_1)), (2, .own (.box (.agg [.agg [I 1, I 2, eOs 1 true F8_ []], .agg [I 0, I 0, eOs 1 true zP []]]))), (3, .d (I 0)), (4, .d (I 0))] inferInstance [Hn (⟨rfl, by decide⟩ : true = true ∧ 0 < 2)] ?_
      rintro ⟨l_e0_Rows2, s_1⟩ m13 lr2 hf2 hl2 J13 hJ13
      try unfold zY at hf2
      rcases zD hf2 with ⟨c15, hf2⟩ | ⟨c15, hf2⟩
      ·obtain ⟨g16, hf2⟩ := gdE hf2
       obtain ⟨g17, hf2⟩ := gdE hf2
       obtain ⟨r_11, h11, hf2⟩ := ze hf2
       obtain ⟨g18, hf2⟩ := gdE hf2
       obtain rfl := zb hf2
       exact yB zg hC hJ13 ((l_e0_Rows2 ++ ([[r_11]] : List (List z7))), w64 (s_1 + 1)) hl2 [Hq c15, Hn (⟨rfl, by decide⟩ : true = true ∧ 0 < 2), Hn g16, Hn g17, Hc h02 (x := (Int.tmod (w64 (s_1 + 1)) (w64 (n_1 + 0)), w64 (Int.tdiv (w64 (s_1 + 1)) (w64 (n_1 + 0))))) h11 (loC (eI .i64) (Int.tmod (w64 (s_1 + 1)) (w64 (n_1 + 0))) <| loC (eI .i64) (w64 (Int.tdiv (w64 (s_1 + 1)) (w64 (n_1 + 0)))) <| loN), Hq (oC F8_ ([r_11]) []), Hn (aL F8_ F8_ g18), Hl (aM F8_ l_e0_Rows2 ([[r_11]] : List (List z7))), Hn (⟨rfl, by decide⟩ : true = true ∧ 0 < 2)]
      ·obtain rfl := zb hf2
       obtain rfl := hl2
       exact yB zg hC hJ10 l_e0_Rows2 hf1 [Hq c15]
  ·obtain rfl := zb hf1
   obtain rfl := hl1
   exact yB zg hC hJ1 () hf0 [Hq c10]
theorem yQ {l : List yj} {s : yj} (h : ((l.map yj.k).contains s.k) = false) : ∀ t ∈ l, t.k ≠ s.k := by
 intro t ht e
 have : (l.map yj.k).contains s.k = true := by
  rw [List.contains_iff_mem, ← e]
  exact List.mem_map_of_mem ht
 rw [h] at this
 cases this
theorem zz {l : List yj} {c : Ctr} (H : ∀ t ∈ l, c.Has t) (i : Nat) {s : yj} (h : l[i]? = some s) : c.Has s := H _ (List.mem_of_getElem? h)
def L0 : List yj := kh :: []
def L1 : List yj := jZ :: L0
def L2 : List yj := k7 :: L1
def L3 : List yj := qa :: L2
def L4 : List yj := yq :: L3
def L5 : List yj := yi :: L4
def L6 : List yj := jo :: L5
def L7 : List yj := qb :: L6
def L8 : List yj := uA :: L7
def L9 : List yj := kQ :: L8
def L10 : List yj := vF :: L9
def L11 : List yj := ZP :: L10
def L12 : List yj := xR :: L11
def L13 : List yj := xl :: L12
def L14 : List yj := uL :: L13
def L15 : List yj := xE :: L14
def L16 : List yj := yW :: L15
def L17 : List yj := Yv :: L16
def L18 : List yj := Yu :: L17
def L19 : List yj := ZN :: L18
def L20 : List yj := ug :: L19
def L21 : List yj := kN :: L20
def L22 : List yj := ZK :: L21
def L23 : List yj := qw :: L22
def L24 : List yj := vR :: L23
def L25 : List yj := jY :: L24
def L26 : List yj := qA :: L25
def L27 : List yj := kg :: L26
def L28 : List yj := qz :: L27
def L29 : List yj := Zu :: L28
def L30 : List yj := qC :: L29
def L31 : List yj := k8 :: L30
def L32 : List yj := qD :: L31
def L33 : List yj := wF :: L32
def L34 : List yj := qB :: L33
def L35 : List yj := wf :: L34
def L36 : List yj := uN :: L35
def L37 : List yj := uM :: L36
def L38 : List yj := jx :: L37
def L39 : List yj := wG :: L38
def L40 : List yj := vU :: L39
def L41 : List yj := Yw :: L40
def L42 : List yj := qu :: L41
def L43 : List yj := kO :: L42
def L44 : List yj := uK :: L43
def L45 : List yj := ZO :: L44
def L46 : List yj := Yr :: L45
def L47 : List yj := ZL :: L46
def L48 : List yj := kP :: L47
def L49 : List yj := Ys :: L48
def L50 : List yj := ZM :: L49
def L51 : List yj := qt :: L50
def L52 : List yj := jW :: L51
def L53 : List yj := Xj :: L52
def L54 : List yj := jV :: L53
def L55 : List yj := Yt :: L54
def L56 : List yj := ux :: L55
def L57 : List yj := vS :: L56
def L58 : List yj := ZJ :: L57
def L59 : List yj := Wm :: L58
def L60 : List yj := qr :: L59
def L61 : List yj := vT :: L60
def L62 : List yj := uw :: L61
theorem zdM : zC Try.prog L0 := ⟨fun _ hC H => z1b hC, yQ (by kernel_rfl), trivial⟩
theorem zdL : zC Try.prog L1 := ⟨fun _ hC H => Jd hC, yQ (by kernel_rfl), zdM⟩
theorem zdK : zC Try.prog L2 := ⟨fun _ hC H => Je hC (zz H 0 rfl), yQ (by kernel_rfl), zdL⟩
theorem zdJ : zC Try.prog L3 := ⟨fun _ hC H => WZ hC (zz H 0 rfl), yQ (by kernel_rfl), zdK⟩
theorem zdI : zC Try.prog L4 := ⟨fun _ hC H => uz hC (zz H 0 rfl), yQ (by kernel_rfl), zdJ⟩
theorem zdH : zC Try.prog L5 := ⟨fun _ hC H => vQ hC (zz H 0 rfl), yQ (by kernel_rfl), zdI⟩
theorem zdG : zC Try.prog L6 := ⟨fun _ hC H => Q8 hC (zz H 0 rfl), yQ (by kernel_rfl), zdH⟩
theorem zdF : zC Try.prog L7 := ⟨fun _ hC H => V0 hC, yQ (by kernel_rfl), zdG⟩
theorem zdE : zC Try.prog L8 := ⟨fun _ hC H => z0r hC (zz H 1 rfl) (zz H 0 rfl), yQ (by kernel_rfl), zdF⟩
theorem zdD : zC Try.prog L9 := ⟨fun _ hC H => Kx hC, yQ (by kernel_rfl), zdE⟩
theorem zcM : zC Try.prog L10 := ⟨fun _ hC H => Xh hC, yQ (by kernel_rfl), zdD⟩
theorem zcL : zC Try.prog L11 := ⟨fun _ hC H => z0q hC (zz H 0 rfl), yQ (by kernel_rfl), zcM⟩
theorem zcK : zC Try.prog L12 := ⟨fun _ hC H => Zh hC, yQ (by kernel_rfl), zcL⟩
theorem zcJ : zC Try.prog L13 := ⟨fun _ hC H => jU hC (zz H 0 rfl), yQ (by kernel_rfl), zcK⟩
theorem zcI : zC Try.prog L14 := ⟨fun _ hC H => Jf hC (zz H 4 rfl) (zz H 2 rfl) (zz H 0 rfl), yQ (by kernel_rfl), zcJ⟩
theorem zcH : zC Try.prog L15 := ⟨fun _ hC H => Ji hC (zz H 6 rfl) (zz H 0 rfl), yQ (by kernel_rfl), zcI⟩
theorem zcG : zC Try.prog L16 := ⟨fun _ hC H => Xa hC (zz H 7 rfl), yQ (by kernel_rfl), zcH⟩
theorem zcF : zC Try.prog L17 := ⟨fun _ hC H => z1d hC, yQ (by kernel_rfl), zcG⟩
theorem zcE : zC Try.prog L18 := ⟨fun _ hC H => z18 hC, yQ (by kernel_rfl), zcF⟩
theorem zcD : zC Try.prog L19 := ⟨fun _ hC H => z0m hC, yQ (by kernel_rfl), zcE⟩
theorem zcC : zC Try.prog L20 := ⟨fun _ hC H => z1c hC (zz H 2 rfl) (zz H 1 rfl) (zz H 0 rfl), yQ (by kernel_rfl), zcD⟩
theorem zcB : zC Try.prog L21 := ⟨fun _ hC H => Ks hC, yQ (by kernel_rfl), zcC⟩
theorem zcA : zC Try.prog L22 := ⟨fun _ hC H => z0j hC, yQ (by kernel_rfl), zcB⟩
theorem zcz : zC Try.prog L23 := ⟨fun _ hC H => Kv hC (zz H 0 rfl), yQ (by kernel_rfl), zcA⟩
theorem zcy : zC Try.prog L24 := ⟨fun _ hC H => Kr hC (zz H 2 rfl) (zz H 0 rfl), yQ (by kernel_rfl), zcz⟩
theorem zcx : zC Try.prog L25 := ⟨fun _ hC H => Jc hC, yQ (by kernel_rfl), zcy⟩
theorem zcw : zC Try.prog L26 := ⟨fun _ hC H => z19 hC (zz H 0 rfl), yQ (by kernel_rfl), zcx⟩
theorem zcv : zC Try.prog L27 := ⟨fun _ hC H => z1a hC (zz H 0 rfl), yQ (by kernel_rfl), zcw⟩
theorem zcu : zC Try.prog L28 := ⟨fun _ hC H => z17 hC, yQ (by kernel_rfl), zcv⟩
theorem zct : zC Try.prog L29 := ⟨fun _ hC H => z2n hC (zz H 0 rfl), yQ (by kernel_rfl), zcu⟩
theorem zcs : zC Try.prog L30 := ⟨fun _ hC H => Ky hC (zz H 14 rfl), yQ (by kernel_rfl), zct⟩
theorem zcr : zC Try.prog L31 := ⟨fun _ hC H => Jj hC, yQ (by kernel_rfl), zcs⟩
theorem zcq : zC Try.prog L32 := ⟨fun _ hC H => U0 hC (zz H 0 rfl), yQ (by kernel_rfl), zcr⟩
theorem zcp : zC Try.prog L33 := ⟨fun _ hC H => ZZ hC (zz H 0 rfl), yQ (by kernel_rfl), zcq⟩
theorem zco : zC Try.prog L34 := ⟨fun _ hC H => VZ hC (zz H 0 rfl), yQ (by kernel_rfl), zcp⟩
theorem zcn : zC Try.prog L35 := ⟨fun _ hC H => ZI hC, yQ (by kernel_rfl), zco⟩
theorem zcm : zC Try.prog L36 := ⟨fun _ hC H => Jh hC (zz H 27 rfl) (zz H 21 rfl) (zz H 1 rfl) (zz H 0 rfl), yQ (by kernel_rfl), zcn⟩
theorem zcl : zC Try.prog L37 := ⟨fun _ hC H => Jg hC (zz H 21 rfl), yQ (by kernel_rfl), zcm⟩
theorem zck : zC Try.prog L38 := ⟨fun _ hC H => z0o hC, yQ (by kernel_rfl), zcl⟩
theorem zcj : zC Try.prog L39 := ⟨fun _ hC H => z0p hC (zz H 38 rfl) (zz H 23 rfl) (zz H 8 rfl) (zz H 2 rfl) (zz H 1 rfl) (zz H 22 rfl) (zz H 11 rfl) (zz H 0 rfl), yQ (by kernel_rfl), zck⟩
theorem zci : zC Try.prog L40 := ⟨fun _ hC H => W1 hC (zz H 19 rfl) (zz H 24 rfl) (zz H 15 rfl) (zz H 12 rfl) (zz H 10 rfl) (zz H 13 rfl) (zz H 0 rfl), yQ (by kernel_rfl), zcj⟩
theorem zch : zC Try.prog L41 := ⟨fun _ hC H => z1e hC, yQ (by kernel_rfl), zci⟩
theorem zcg : zC Try.prog L42 := ⟨fun _ hC H => VY hC, yQ (by kernel_rfl), zch⟩
theorem zcf : zC Try.prog L43 := ⟨fun _ hC H => Ku hC (zz H 19 rfl) (zz H 0 rfl), yQ (by kernel_rfl), zcg⟩
theorem zce : zC Try.prog L44 := ⟨fun _ hC H => J0 hC (zz H 0 rfl), yQ (by kernel_rfl), zcf⟩
theorem zcd : zC Try.prog L45 := ⟨fun _ hC H => z0n hC (zz H 16 rfl), yQ (by kernel_rfl), zce⟩
theorem zcc : zC Try.prog L46 := ⟨fun _ hC H => z14 hC, yQ (by kernel_rfl), zcd⟩
theorem zcb : zC Try.prog L47 := ⟨fun _ hC H => z0k hC (zz H 1 rfl) (zz H 0 rfl), yQ (by kernel_rfl), zcc⟩
theorem zca : zC Try.prog L48 := ⟨fun _ hC H => Kw hC (zz H 0 rfl), yQ (by kernel_rfl), zcb⟩
theorem zc9 : zC Try.prog L49 := ⟨fun _ hC H => z15 hC, yQ (by kernel_rfl), zca⟩
theorem zc8 : zC Try.prog L50 := ⟨fun _ hC H => z0l hC (zz H 1 rfl) (zz H 0 rfl), yQ (by kernel_rfl), zc9⟩
theorem zc7 : zC Try.prog L51 := ⟨fun _ hC H => Kt hC (zz H 6 rfl) (zz H 0 rfl), yQ (by kernel_rfl), zc8⟩
theorem zc6 : zC Try.prog L52 := ⟨fun _ hC H => Ja hC, yQ (by kernel_rfl), zc7⟩
theorem zc5 : zC Try.prog L53 := ⟨fun _ hC H => z2m hC (zz H 8 rfl) (zz H 1 rfl) (zz H 0 rfl), yQ (by kernel_rfl), zc6⟩
theorem zc4 : zC Try.prog L54 := ⟨fun _ hC H => QZ hC (zz H 2 rfl) (zz H 0 rfl), yQ (by kernel_rfl), zc5⟩
theorem zc3 : zC Try.prog L55 := ⟨fun _ hC H => z16 hC, yQ (by kernel_rfl), zc4⟩
theorem zc2 : zC Try.prog L56 := ⟨fun _ hC H => Wk hC (zz H 35 rfl) (zz H 14 rfl) (zz H 25 rfl) (zz H 1 rfl) (zz H 0 rfl) (zz H 16 rfl) (zz H 26 rfl) (zz H 29 rfl), yQ (by kernel_rfl), zc3⟩
theorem zc1 : zC Try.prog L57 := ⟨fun _ hC H => XZ hC (zz H 36 rfl) (zz H 19 rfl) (zz H 17 rfl) (zz H 32 rfl), yQ (by kernel_rfl), zc2⟩
theorem zc0 : zC Try.prog L58 := ⟨fun _ hC H => z0i hC, yQ (by kernel_rfl), zc1⟩
theorem zbZ : zC Try.prog L59 := ⟨fun _ hC H => z4i hC, yQ (by kernel_rfl), zc0⟩
theorem zbY : zC Try.prog L60 := ⟨fun _ hC H => VX hC (zz H 0 rfl), yQ (by kernel_rfl), zbZ⟩
theorem zbX : zC Try.prog L61 := ⟨fun _ hC H => W0 hC (zz H 40 rfl) (zz H 24 rfl) (zz H 36 rfl) (zz H 2 rfl) (zz H 22 rfl) (zz H 44 rfl) (zz H 0 rfl) (zz H 21 rfl), yQ (by kernel_rfl), zbY⟩
theorem zbW : zC Try.prog L62 := ⟨fun _ hC H => Wj hC (zz H 61 rfl) (zz H 46 rfl) (zz H 45 rfl) (zz H 21 rfl) (zz H 5 rfl) (zz H 4 rfl) (zz H 0 rfl) (zz H 22 rfl), yQ (by kernel_rfl), zbX⟩
theorem zF {x : Int} (h1 : -9223372036854775808 ≤ x) (h2 : x ≤ 9223372036854775807) : w64 x = x := by
 simp only [w64, IntKind.wrap, IntKind.bits, IntKind.signed]
 simp
 omega
section
variable {α β σ τ ρ : Type}
def Ret (x : Option α) (Q : α → Prop) : Prop := ∃ a, x = some a ∧ Q a
theorem Ret.mono {x : Option α} {Q R : α → Prop} (h : Ret x Q) (q : ∀ a, Q a → R a) : Ret x R := by
 obtain ⟨a, e, h⟩ := h
 exact ⟨a, e, q a h⟩
theorem Ret.eq {x : Option α} {a : α} (h : Ret x fun b => b = a) : x = some a := by
 obtain ⟨b, e, rfl⟩ := h
 exact e
theorem zc {a : α} {Q : α → Prop} : Ret (some a) Q ↔ Q a := ⟨fun ⟨b, e, q⟩ => by cases e; exact q, fun q => ⟨a, rfl, q⟩⟩
theorem zy {x : Option α} {f : α → Option β} {Q : β → Prop} : Ret (Option.bind x f) Q ↔ Ret x fun a => Ret (f a) Q := by
 cases x with
 | none => exact ⟨fun ⟨b, e, _⟩ => (by cases e), fun ⟨b, e, _⟩ => (by cases e)⟩
 | some a => exact ⟨fun h => ⟨a, rfl, h⟩, fun ⟨b, e, h⟩ => by cases e; exact h⟩
theorem uu {p : Prop} [Decidable p] {x : Option α} {Q : α → Prop} : Ret (gd p x) Q ↔ p ∧ Ret x Q := by
 unfold gd
 by_cases h : p
 ·rw [if_pos h]; exact ⟨fun q => ⟨h, q⟩, fun q => q.2⟩
 ·rw [if_neg h]; exact ⟨fun ⟨b, e, _⟩ => by (cases e), fun q => (h q.1).elim⟩
theorem zo {c : Bool} {x y : Option α} {Q : α → Prop} : Ret (bif c then x else y) Q ↔ (c = true → Ret x Q) ∧ (c = false → Ret y Q) := by
 cases c <;> simp
theorem k9 {l : List α} {i : Int} {Q : α → Prop} : Ret (idx l i) Q ↔ 0 ≤ i ∧ ∃ x, l[i.toNat]? = some x ∧ Q x := by
 cases i with
 | ofNat n =>
  show (∃ a, l[n]? = some a ∧ Q a) ↔ _
  simp
 | negSucc n => exact ⟨fun ⟨b, e, _⟩ => by (cases e), fun ⟨h, _⟩ => by omega⟩
theorem zA (l : List α) (i : Nat) : idx l (i : Int) = l[i]? := rfl
theorem gdT {p : Prop} [Decidable p] {x : Option α} (h : p) : gd p x = x := by unfold gd; rw [if_pos h]
theorem bdT {x : Option α} {u : α} {f : α → Option ρ} (h : x = some u) : Option.bind x f = f u := by rw [h]; rfl
theorem Ui (step : σ → Option (LR σ τ)) (n : Nat) (s : σ) : Uj step (n + 1) s = (match step s with | none => none | some (.next s') => Uj step n s' | some (.done t) => some t) := rfl
def LRP (N : σ → Prop) (D : τ → Prop) : LR σ τ → Prop
 | .next s => N s
 | .done t => D t
theorem zK {step : σ → Option (LR σ τ)} (I : σ → Prop) (m : σ → Nat) {R : τ → Prop} {s : σ} (hs : I s) (hm : m s < 18446744073709551616)
  (h : ∀ s, I s → Ret (step s) (LRP (fun s' => I s' ∧ m s' < m s) R)) : Ret (loop step s) R := by
 have gen : ∀ (n : Nat) (s : σ), I s → m s < n → Ret (Uj step n s) R := by
  intro n
  induction n with
  | zero => intro s _ h; omega
  | succ n ih =>
   intro s hs hm
   obtain ⟨a, e, q⟩ := h s hs
   rw [Ui, e]
   cases a with
   | next s' => exact ih s' q.1 (by have := q.2; omega)
   | done t => exact ⟨t, rfl, q⟩
 exact gen z4L s hs hm
theorem uZ {step : σ → Option (LR σ τ)} (st : Nat → σ) (n : Nat) {t : τ} (hn : n < 9223372036854775808) (h : ∀ i, i < n → step (st i) = some (.next (st (i + 1)))) (hd : step (st n) = some (.done t)) : loop step (st 0) = some t := by
 have gen : ∀ (k : Nat) (i : Nat), i ≤ n → n - i < k → Uj step k (st i) = some t := by
  intro k
  induction k with
  | zero => intro i _ h; omega
  | succ k ih =>
   intro i hi hk
   rw [Ui]
   rcases Nat.lt_or_ge i n with q | q
   ·rw [h i q]
    exact ih (i + 1) q (by omega)
   ·have : i = n := by omega
    subst this
    rw [hd]
 exact gen z4L 0 (Nat.zero_le _) (by show n - 0 < 18446744073709551616; omega)
def yN (f : Nat → α → Option ρ) : List α → Nat → Option ρ
 | [], _ => none
 | x :: l, i => match f i x with | some r => some r | none => yN f l (i + 1)
theorem YH {f : Nat → α → Option ρ} : ∀ {l : List α} {k : Nat}, (∀ i x, l[i]? = some x → f (k + i) x = none) → yN f l k = none
 | [], _, _ => rfl
 | x :: l, k, h => by
  have h0 := h 0 x rfl
  simp only [Nat.add_zero] at h0
  simp only [yN, h0]
  exact YH fun i y hy => by have := h (i + 1) y (by simpa using hy); rwa [show k + 1 + i = k + (i + 1) by omega]
theorem wL {f : Nat → α → Option ρ} {r : ρ} : ∀ {l : List α} {k : Nat}, yN f l k = some r → ∃ i x, l[i]? = some x ∧ f (k + i) x = some r
 | [], _, h => by cases h
 | x :: l, k, h => by
  simp only [yN] at h
  cases hf : f k x with
  | some r' => rw [hf] at h; exact ⟨0, x, rfl, by rw [Nat.add_zero, hf]; exact h⟩
  | none =>
   rw [hf] at h
   obtain ⟨i, y, h1, h2⟩ := wL h
   exact ⟨i + 1, y, by simpa using h1, by rw [← h2]; congr 1; omega⟩
theorem xK {f : Nat → α → Option ρ} {l : List α} {k : Nat} (h : yN f l k = none) : ∀ i x, l[i]? = some x → f (k + i) x = none := by
 induction l generalizing k with
 | nil => intro i x h; simp at h
 | cons y l ih =>
  intro i x hx
  simp only [yN] at h
  cases hf : f k y with
  | some r' => rw [hf] at h; cases h
  | none =>
   rw [hf] at h
   cases i with
   | zero => simp at hx; subst hx; simpa using hf
   | succ i => have := ih h i x (by simpa using hx); rwa [show k + (i + 1) = k + 1 + i by omega]
def oS : Option ρ → Unit ⊕ ρ
 | some r => .inr r
 | none => .inl ()
def nS (i : Nat) : Option ρ → LR Int (Unit ⊕ ρ)
 | some r => .done (.inr r)
 | none => .next (w64 ((i : Int) + 1))
theorem wW (l : List α) (hl : l.length < 4611686018427387904) {step : Int → Option (LR Int (Unit ⊕ ρ))} (f : Nat → α → Option ρ)
  (h : ∀ (i : Nat) (x : α), l[i]? = some x → step (i : Int) = some (nS i (f i x))) (h2 : step (l.length : Int) = some (.done (.inl ()))) :
  loop step 0 = some (oS (yN f l 0)) := by
 have gen : ∀ (n : Nat) (k : Nat), k ≤ l.length → l.length - k < n → Uj step n (k : Int) = some (oS (yN f (l.drop k) k)) := by
  intro n
  induction n with
  | zero => intro k _ h; omega
  | succ n ih =>
   intro k hk hn
   rw [Ui]
   rcases Nat.lt_or_ge k l.length with hlt | hge
   ·have hx : l[k]? = some l[k] := List.getElem?_eq_getElem hlt
    rw [h k _ hx, List.drop_eq_getElem_cons hlt]
    simp only [yN]
    cases hf : f k l[k] with
    | some r => rfl
    | none =>
     simp only [nS]
     rw [zF (by omega) (by omega)]
     exact ih (k + 1) hlt (by omega)
   ·have : k = l.length := by omega
    subst this
    rw [h2, List.drop_length]
    rfl
 exact gen z4L 0 (Nat.zero_le _) (by show l.length - 0 < 18446744073709551616; omega)
end
def QU (m : z6) (x : z7) : Bool := (x.To == -1 && x.Out == -1) || (decide (0 ≤ x.To) && decide (x.To < (m.Rows.length : Int)) && decide (0 ≤ x.Out) && decide (x.Out < m.Outputs))
def KA (m : z6) (r : List z7) : Bool := decide ((r.length : Int) = m.Inputs) && r.all (QU m)
def chk (m : z6) : Int :=
 if m.Inputs > 16 ∨ m.Outputs > 16 ∨ (m.Rows.length : Int) > 64 then 3 else if m.Inputs < 1 ∨ m.Outputs < 1 ∨ m.Rows.length = 0 then 1 else if m.Rows.all (KA m) = true then 0 else 1
theorem za2 (m : z6) (x : z7) : jd m x = some (QU m x) := by
 unfold jd km
 simp only [Option.bind_some, Bool.and_true]
 rcases Bool.eq_false_or_eq_true (x.To == (-1) && x.Out == (-1)) with h | h
 ·simp [QU, h]
 ·rw [h]
  simp only [QU, h, Bool.false_or, cond_false]
  by_cases h1 : (0 : Int) ≤ x.To
  ·by_cases h2 : x.To < (m.Rows.length : Int)
   ·by_cases h3 : (0 : Int) ≤ x.Out
    ·simp [Bool.cond_eq_ite, h1, h2, h3]
    ·simp [Bool.cond_eq_ite, h1, h2, h3]
   ·simp [Bool.cond_eq_ite, h1, h2]
  ·simp [h1]
theorem z30 (m : z6) (r : List z7) (hl : r.length < 4611686018427387904) : zT r m = some (!r.all (QU m)) := by
 have hloop : loop (fun s => zJ r m s) 0 = some (oS (yN (fun i x => if QU m x = true then none else some (i : Int)) r 0)) := by
  refine wW r hl _ ?_ ?_
  ·intro i x hx
   have hi := (List.getElem?_eq_some_iff.1 hx).1
   unfold zJ
   have hd : decide ((i : Int) < ((r.length : Nat) : Int)) = true := by simpa using hi
   rw [hd, cond_true, zA, bdT hx]
   unfold uY
   simp only [za2, Option.bind_some]
   cases QU m x <;> rfl
  ·unfold zJ
   simp
 unfold zT yd
 rw [hloop]
 simp only [Option.bind_some]
 cases hf : yN (fun i x => if QU m x = true then none else some (i : Int)) r 0 with
 | some q =>
  obtain ⟨i, x, h1, h2⟩ := wL hf
  have hx : QU m x ≠ true := by
   intro h; rw [if_pos h] at h2; cases h2
  rw [if_neg hx] at h2
  simp only [Option.some.injEq] at h2
  have : r.all (QU m) = false := by
   rw [List.all_eq_false]
   exact ⟨x, List.mem_of_getElem? h1, hx⟩
  rw [this]
  have : (q : Int) ≥ 0 := by rw [← h2]; omega
  show some (decide (q ≥ 0)) = _
  simp [this]
 | none =>
  have : r.all (QU m) = true := by
   rw [List.all_eq_true]
   intro x hx
   obtain ⟨i, hi⟩ := List.getElem?_of_mem hx
   have := xK hf i x hi
   by_cases h : QU m x = true
   ·exact h
   ·rw [if_neg h] at this; cases this
  rw [this]
  rfl
theorem z4D {m : z6} (h0 : (m.Rows.length : Int) ≤ 64) (h1 : m.Inputs ≤ 16) : loop (fun s => xP m s) 0 = some (oS (yN (fun _ r => if KA m r = true then none else some (1 : Int)) m.Rows 0)) := by
 refine wW m.Rows (by omega) _ ?_ ?_
 ·intro i r hr
  have hi := (List.getElem?_eq_some_iff.1 hr).1
  unfold xP
  have hd : decide ((i : Int) < ((m.Rows.length : Nat) : Int)) = true := by simpa using hi
  rw [hd, cond_true, zA, bdT hr]
  by_cases hlen : (r.length : Int) = m.Inputs
  ·have hne : (((r.length : Nat) : Int) != m.Inputs) = false := by simpa using hlen
   rw [hne, cond_false, bdT (z30 m r (by omega))]
   have : KA m r = r.all (QU m) := by simp [KA, hlen]
   rw [this]
   cases r.all (QU m) <;> rfl
  ·have hne : (((r.length : Nat) : Int) != m.Inputs) = true := by simpa using hlen
   rw [hne, cond_true]
   have : KA m r = false := by simp [KA, hlen]
   rw [this]; rfl
 ·unfold xP
  simp
theorem KU (m : z6) : yN (fun _ r => if KA m r = true then none else some (1 : Int)) m.Rows 0 = if m.Rows.all (KA m) = true then none else some 1 := by
 by_cases h : m.Rows.all (KA m) = true
 ·rw [if_pos h]
  refine YH fun i r hr => ?_
  rw [if_pos (List.all_eq_true.1 h r (List.mem_of_getElem? hr))]
 ·rw [if_neg h]
  cases hf : yN (fun _ r => if KA m r = true then none else some (1 : Int)) m.Rows 0 with
  | some q =>
   obtain ⟨i, x, h1, h2⟩ := wL hf
   split at h2
   ·cases h2
   ·exact h2.symm ▸ rfl
  | none =>
   exfalso
   apply h
   rw [List.all_eq_true]
   intro x hx
   obtain ⟨i, hi⟩ := List.getElem?_of_mem hx
   have := xK hf i x hi
   by_cases h : KA m x = true
   ·exact h
   ·rw [if_neg h] at this; cases this
theorem z41 (m : z6) : vz m = some (chk m) := by
 unfold vz chk
 by_cases h1 : m.Inputs > 16
 ·simp [h1]
 by_cases h2 : m.Outputs > 16
 ·simp [Bool.cond_eq_ite, h1, h2]
 by_cases h3 : (m.Rows.length : Int) > 64
 ·simp [Bool.cond_eq_ite, h1, h2, h3]
 rw [if_neg (by simp [Bool.cond_eq_ite, h1, h2, h3])]
 by_cases h4 : m.Inputs < 1
 ·simp [Bool.cond_eq_ite, h1, h2, h3, h4]
 by_cases h5 : m.Outputs < 1
 ·simp [Bool.cond_eq_ite, h1, h2, h3, h4, h5]
 by_cases h6 : m.Rows.length = 0
 ·simp [Bool.cond_eq_ite, h1, h2, h4, h5, h6]
 rw [if_neg (by simp [h4, h5, h6])]
 have h6' : decide (((m.Rows.length : Nat) : Int) < 1) = false := by simp; omega
 have e1 : decide (m.Inputs > 16) = false := by simpa using h1
 have e2 : decide (m.Outputs > 16) = false := by simpa using h2
 have e3 : decide (((m.Rows.length : Nat) : Int) > 64) = false := by simpa using h3
 have e4 : decide (m.Inputs < 1) = false := by simpa using h4
 have e5 : decide (m.Outputs < 1) = false := by simpa using h5
 simp only [e1, e2, e3, e4, e5, h6', cond_false]
 rw [bdT (z4D (by omega) (by omega)), KU]
 by_cases h : m.Rows.all (KA m) = true
 ·rw [if_pos h, if_pos h]; rfl
 ·rw [if_neg h, if_neg h]; rfl
theorem z5t {m : z6} {s : Nat} {r : List z7} (hr : m.Rows[s]? = some r) (hlen : (r.length : Int) = m.Inputs) (h1 : m.Inputs ≤ 16) : loop (fun q => wK m (s : Int) q) 0 = some (if r.all (QU m) = true then .inl () else .inr 1) := by
 have hl : loop (fun q => wK m (s : Int) q) 0 = some (oS (yN (fun _ x => if QU m x = true then none else some (1 : Int)) r 0)) := by
  refine wW r (by omega) _ ?_ ?_
  ·intro i x hx
   have hi := (List.getElem?_eq_some_iff.1 hx).1
   unfold wK
   have hd : decide ((i : Int) < m.Inputs) = true := by rw [← hlen]; simpa using hi
   rw [hd, cond_true, zA, bdT hr, zA, bdT hx]
   unfold uF uG QU
   by_cases a1 : x.To = -1
   ·by_cases a2 : x.Out = -1
    ·simp [nS, Bool.cond_eq_ite, a1, a2]
    ·simp [nS, Bool.cond_eq_ite, a1, a2]
   ·by_cases a2 : x.To < 0
    ·have : ¬ 0 ≤ x.To := by omega
     simp [nS, Bool.cond_eq_ite, a1, a2, this]
    ·by_cases a3 : (m.Rows.length : Int) ≤ x.To
     ·have : ¬ x.To < (m.Rows.length : Int) := by omega
      simp [nS, Bool.cond_eq_ite, a1, a2, a3, this]
     ·by_cases a4 : x.Out < 0
      ·have : ¬ 0 ≤ x.Out := by omega
       simp [nS, Bool.cond_eq_ite, a1, a2, a3, a4, this]
      ·by_cases a5 : m.Outputs ≤ x.Out
       ·have : ¬ x.Out < m.Outputs := by omega
        simp [nS, Bool.cond_eq_ite, a1, a2, a3, a4, a5, this]
       ·have b1 : 0 ≤ x.To := by omega
        have b2 : x.To < (m.Rows.length : Int) := by omega
        have b3 : 0 ≤ x.Out := by omega
        have b4 : x.Out < m.Outputs := by omega
        simp [nS, Bool.cond_eq_ite, a1, a2, a3, a4, a5, b1, b2, b3, b4]
  ·unfold wK
   simp [hlen]
 rw [hl]
 by_cases h : r.all (QU m) = true
 ·rw [if_pos h]
  rw [YH fun i x hx => by rw [if_pos (List.all_eq_true.1 h x (List.mem_of_getElem? hx))]]
  rfl
 ·rw [if_neg h]
  cases hf : yN (fun _ x => if QU m x = true then none else some (1 : Int)) r 0 with
  | some q =>
   obtain ⟨i, x, h1, h2⟩ := wL hf
   split at h2
   ·cases h2
   ·simp only [Option.some.injEq] at h2; rw [← h2]; rfl
  | none =>
   exfalso
   apply h
   rw [List.all_eq_true]
   intro x hx
   obtain ⟨i, hi⟩ := List.getElem?_of_mem hx
   have := xK hf i x hi
   by_cases h : QU m x = true
   ·exact h
   ·rw [if_neg h] at this; cases this
theorem z5u (m : z6) : kX m = some (chk m) := by
 unfold kX chk
 by_cases h1 : m.Inputs > 16
 ·simp [h1]
 by_cases h2 : m.Outputs > 16
 ·simp [Bool.cond_eq_ite, h1, h2]
 by_cases h3 : (m.Rows.length : Int) > 64
 ·simp [Bool.cond_eq_ite, h1, h2, h3]
 rw [if_neg (by simp [Bool.cond_eq_ite, h1, h2, h3])]
 by_cases h4 : m.Inputs < 1
 ·simp [Bool.cond_eq_ite, h1, h2, h3, h4]
 by_cases h5 : m.Outputs < 1
 ·simp [Bool.cond_eq_ite, h1, h2, h3, h4, h5]
 by_cases h6 : m.Rows.length = 0
 ·simp [Bool.cond_eq_ite, h1, h2, h4, h5, h6]
 rw [if_neg (by simp [h4, h5, h6])]
 have e1 : decide (m.Inputs > 16) = false := by simpa using h1
 have e2 : decide (m.Outputs > 16) = false := by simpa using h2
 have e3 : decide (((m.Rows.length : Nat) : Int) > 64) = false := by simpa using h3
 have e4 : decide (m.Inputs < 1) = false := by simpa using h4
 have e5 : decide (m.Outputs < 1) = false := by simpa using h5
 have e6 : (((m.Rows.length : Nat) : Int) == 0) = false := by simp; intro h; rw [h] at h6; exact h6 rfl
 simp only [e1, e2, e3, e4, e5, e6, cond_false]
 have hl : loop (fun s => vw m s) 0 = some (oS (yN (fun _ r => if KA m r = true then none else some (1 : Int)) m.Rows 0)) := by
  refine wW m.Rows (by omega) _ ?_ ?_
  ·intro i r hr
   have hi := (List.getElem?_eq_some_iff.1 hr).1
   unfold vw
   have hd : decide ((i : Int) < ((m.Rows.length : Nat) : Int)) = true := by simpa using hi
   rw [hd, cond_true, zA, bdT hr]
   by_cases hlen : (r.length : Int) = m.Inputs
   ·have hne : (((r.length : Nat) : Int) != m.Inputs) = false := by simpa using hlen
    rw [hne, cond_false, bdT (z5t hr hlen (by omega))]
    have : KA m r = r.all (QU m) := by simp [KA, hlen]
    rw [this]
    cases r.all (QU m) <;> rfl
   ·have hne : (((r.length : Nat) : Int) != m.Inputs) = true := by simpa using hlen
    rw [hne, cond_true]
    have : KA m r = false := by simp [KA, hlen]
    rw [this]; rfl
  ·unfold vw
   simp
 rw [bdT hl, KU]
 by_cases h : m.Rows.all (KA m) = true
 ·rw [if_pos h, if_pos h]; rfl
 ·rw [if_neg h, if_neg h]; rfl
structure VM (m : z6) : Prop where
 in1 : 1 ≤ m.Inputs
 in16 : m.Inputs ≤ 16
 out1 : 1 ≤ m.Outputs
 out16 : m.Outputs ≤ 16
 len1 : 1 ≤ m.Rows.length
 len64 : m.Rows.length ≤ 64
 row : ∀ r ∈ m.Rows, (r.length : Int) = m.Inputs
 edge : ∀ r ∈ m.Rows, ∀ x ∈ r, (x.To = -1 ∧ x.Out = -1) ∨ (0 ≤ x.To ∧ x.To < (m.Rows.length : Int) ∧ 0 ≤ x.Out ∧ x.Out < m.Outputs)
theorem z6P {m : z6} (h : chk m = 0) : VM m := by
 unfold chk at h
 split at h
 ·cases h
 split at h
 ·cases h
 split at h
 ·rename_i h1 h2 h3
  rw [List.all_eq_true] at h3
  refine ⟨by omega, by omega, by omega, by omega, by omega, by omega, fun r hr => ?_, fun r hr x hx => ?_⟩
  ·have := h3 r hr
   simp only [KA, Bool.and_eq_true, decide_eq_true_eq] at this
   exact this.1
  ·have := h3 r hr
   simp only [KA, Bool.and_eq_true, decide_eq_true_eq, List.all_eq_true] at this
   have := this.2 x hx
   simp only [QU, Bool.or_eq_true, Bool.and_eq_true, beq_iff_eq, decide_eq_true_eq] at this
   rcases this with ⟨a, b⟩ | ⟨⟨⟨a, b⟩, c⟩, d⟩
   ·exact .inl ⟨a, b⟩
   ·exact .inr ⟨a, b, c, d⟩
 ·cases h
theorem z8N {m : z6} (h : VM m) : chk m = 0 := by
 unfold chk
 have := h.in1; have := h.in16; have := h.out1; have := h.out16; have := h.len1; have := h.len64
 rw [if_neg (by omega), if_neg (by omega), if_pos]
 rw [List.all_eq_true]
 intro r hr
 simp only [KA, Bool.and_eq_true, decide_eq_true_eq, List.all_eq_true]
 refine ⟨h.row r hr, fun x hx => ?_⟩
 simp only [QU, Bool.or_eq_true, Bool.and_eq_true, beq_iff_eq, decide_eq_true_eq]
 rcases h.edge r hr x hx with ⟨a, b⟩ | ⟨a, b, c, d⟩
 ·exact .inl ⟨a, b⟩
 ·exact .inr ⟨⟨⟨a, b⟩, c⟩, d⟩
def kk (m : z6) : Nat := m.Inputs.toNat
def E (m : z6) (s i : Nat) : z7 := ((m.Rows[s]?.getD [])[i]?).getD ⟨-1, -1⟩
section
variable {m : z6} (h : VM m)
include h
theorem VM.kk_eq : ((kk m : Nat) : Int) = m.Inputs := by have := h.in1; unfold kk; omega
theorem VM.kk_pos : 1 ≤ kk m := by have := h.in1; unfold kk; omega
theorem VM.kk_le : kk m ≤ 16 := by have := h.in16; unfold kk; omega
theorem VM.rowAt {s : Nat} (hs : s < m.Rows.length) : ∃ r, m.Rows[s]? = some r ∧ r.length = kk m ∧ ∀ i, i < kk m → r[i]? = some (E m s i) := by
 have hr := List.getElem?_eq_getElem hs
 have hl := h.row _ (List.getElem_mem hs)
 have hl' : m.Rows[s].length = kk m := by unfold kk; omega
 refine ⟨_, hr, hl', fun i hi => ?_⟩
 have hi' : i < m.Rows[s].length := by omega
 unfold E
 rw [hr]
 simp only [Option.getD_some]
 rw [List.getElem?_eq_getElem hi']
 rfl
theorem VM.edgeAt {s i : Nat} (hs : s < m.Rows.length) (hi : i < kk m) : ((E m s i).To = -1 ∧ (E m s i).Out = -1) ∨ (0 ≤ (E m s i).To ∧ (E m s i).To < (m.Rows.length : Int) ∧ 0 ≤ (E m s i).Out ∧ (E m s i).Out < m.Outputs) := by
 obtain ⟨r, h1, _, h2⟩ := h.rowAt hs
 exact h.edge r (List.mem_of_getElem? h1) _ (List.mem_of_getElem? (h2 i hi))
theorem VM.edge_eq {s i : Nat} (hs : s < m.Rows.length) (hi : i < kk m) {β : Type} {f : z7 → Option β} :
  (Option.bind (idx m.Rows (s : Int)) fun r => Option.bind (idx r (i : Int)) f) = f (E m s i) := by
 obtain ⟨r, h1, _, h2⟩ := h.rowAt hs
 rw [zA, h1, Option.bind_some, zA, h2 i hi, Option.bind_some]
end
section
variable {K V : Type} [BEq K] [LawfulBEq K]
theorem z3M (l : List (K × V)) (x y : K) (v : V) : JT (KC l x v) y = if (x == y) = true then some v else JT l y := by
 induction l with
 | nil => simp only [KC, JT]
 | cons p l ih =>
  simp only [KC]
  by_cases h : p.1 = x
  ·rw [if_pos (by simpa using h)]
   simp only [JT]
   by_cases q : x = y
   ·rw [if_pos (by simpa using q), if_pos (by simpa using q)]
   ·rw [if_neg (by simpa using q), if_neg (by simpa using q), if_neg (by rw [h]; simpa using q)]
  ·rw [if_neg (by simpa using h)]
   simp only [JT, ih]
   by_cases q : p.1 = y
   ·have q' : ¬ x = y := by rintro rfl; exact h q
    have e1 : (p.1 == y) = true := by simpa using q
    have e2 : (x == y) = false := by simpa using q'
    simp [e1, e2]
   ·have e1 : (p.1 == y) = false := by simpa using q
    simp [e1]
end
instance : LawfulBEq (zh Int) := {
 eq_of_beq := by
  intro a b h
  obtain ⟨a0, a1⟩ := a
  obtain ⟨b0, b1⟩ := b
  simp only [BEq.beq, Bool.and_eq_true, decide_eq_true_eq] at h
  rw [h.1, h.2]
 rfl := by
  intro a
  obtain ⟨a0, a1⟩ := a
  simp [BEq.beq] }
section
variable {S : Type}
def rv (k : Nat) : List Nat → Nat
 | [] => 0
 | i :: u => rv k u * k + i + 1
def uy (k : Nat) (bad : S → Nat → Bool) (nx : S → Nat → Option S) (p0 : S) : List Nat → S → Prop
 | [], q => q = p0
 | i :: u, q => ∃ p, uy k bad nx p0 u p ∧ i < k ∧ bad p i = false ∧ nx p i = some q
def qp (k : Nat) (bad : S → Nat → Bool) (nx : S → Nat → Option S) (p0 : S) : List Nat → Prop
 | [] => False
 | i :: u => ∃ p, uy k bad nx p0 u p ∧ i < k ∧ bad p i = true
def Qm (k : Nat) (bad : S → Nat → Bool) (nx : S → Nat → Option S) : S → List Nat → Prop
 | _, [] => False
 | p, [i] => i < k ∧ bad p i = true
 | p, i :: w => i < k ∧ bad p i = false ∧ ∃ q, nx p i = some q ∧ Qm k bad nx q w
structure Bfs (k : Nat) (bad : S → Nat → Bool) (nx : S → Nat → Option S) (p0 : S) (L : List (S × List Nat)) (at_ i : Nat) : Prop where
 first : L[0]? = some (p0, [])
 mono : ∀ (j j' : Nat) (a b : S × List Nat), j < j' → L[j]? = some a → L[j']? = some b → rv k a.2 < rv k b.2
 path : ∀ a ∈ L, uy k bad nx p0 a.2 a.1
 ahead : ∀ a c, L[at_]? = some c → a ∈ L → rv k a.2 < rv k c.2 * k + i + 1
 pos : i ≤ k
 lies : at_ ≤ L.length
 fin : at_ = L.length → i = 0
 short : ∀ (j : Nat) (a : S × List Nat), L[j]? = some a → a.2.length ≤ j
 seen : ∀ (j x : Nat) (a : S × List Nat), L[j]? = some a → x < k → (j < at_ ∨ j = at_ ∧ x < i) → bad a.1 x = false ∧ ∀ q, nx a.1 x = some q → ∃ b ∈ L, b.1 = q ∧ rv k b.2 ≤ rv k a.2 * k + x + 1
variable {k : Nat} {bad : S → Nat → Bool} {nx : S → Nat → Option S} {p0 : S}
theorem Bfs.start : Bfs k bad nx p0 [(p0, [])] 0 0 := {
 first := rfl
 mono := by
  intro j j' a b h h1 h2
  have := (List.getElem?_eq_some_iff.1 h2).1
  simp at this
  omega
 path := by intro a ha; simp at ha; subst ha; rfl
 ahead := by intro a c _ ha; simp at ha; subst ha; simp [rv]
 pos := Nat.zero_le _
 lies := by simp
 fin := by intro; rfl
 short := by
  intro j a h
  have := (List.getElem?_eq_some_iff.1 h).1
  simp at this
  subst this
  simp at h
  subst h
  simp
 seen := by rintro j x a h _ (q | ⟨_, q⟩) <;> omega }
theorem Bfs.old {L : List (S × List Nat)} {a i : Nat} (h : Bfs k bad nx p0 L a i) {c : S × List Nat} (hc : L[a]? = some c) (hi : i < k) (hb : bad c.1 i = false)
  (hn : ∀ q, nx c.1 i = some q → ∃ b ∈ L, b.1 = q) : Bfs k bad nx p0 L a (i + 1) := {
 first := h.first
 mono := h.mono
 path := h.path
 ahead := fun x y hy hx => by have := h.ahead x y hy hx; omega
 pos := hi
 lies := h.lies
 fin := fun e => by have := (List.getElem?_eq_some_iff.1 hc).1; omega
 short := h.short
 seen := by
  intro j x y hy hx q
  by_cases e : j = a ∧ x = i
  ·obtain ⟨rfl, rfl⟩ := e
   rw [hc] at hy
   cases hy
   refine ⟨hb, fun q hq => ?_⟩
   obtain ⟨b, h1, h2⟩ := hn q hq
   exact ⟨b, h1, h2, by have := h.ahead b c hc h1; omega⟩
  ·exact h.seen j x y hy hx (by omega) }
theorem Bfs.new {L : List (S × List Nat)} {a i : Nat} (h : Bfs k bad nx p0 L a i) {c : S × List Nat} (hc : L[a]? = some c) (hi : i < k) (hb : bad c.1 i = false) {q : S}
  (hn : nx c.1 i = some q) : Bfs k bad nx p0 (L ++ [(q, i :: c.2)]) a (i + 1) := by
 have hlt := (List.getElem?_eq_some_iff.1 hc).1
 refine ⟨?_, ?_, ?_, ?_, hi, by simp; omega, fun e => by simp at e; omega, ?_, ?_⟩
 ·rw [List.getElem?_append_left (by omega)]; exact h.first
 ·intro j j' x y hj h1 h2
  have hl := (List.getElem?_eq_some_iff.1 h2).1
  simp at hl
  rw [List.getElem?_append_left (by omega)] at h1
  rcases Nat.lt_or_ge j' L.length with g | g
  ·rw [List.getElem?_append_left g] at h2
   exact h.mono j j' x y hj h1 h2
  ·have : j' = L.length := by omega
   subst this
   simp at h2
   subst h2
   exact h.ahead x c hc (List.mem_of_getElem? h1)
 ·intro x hx
  rcases List.mem_append.1 hx with g | g
  ·exact h.path x g
  ·simp at g
   subst g
   exact ⟨c.1, h.path c (List.mem_of_getElem? hc), hi, hb, hn⟩
 ·intro x y hy hx
  rw [List.getElem?_append_left hlt] at hy
  rcases List.mem_append.1 hx with g | g
  ·have := h.ahead x y hy g; omega
  ·simp at g
   subst g
   rw [hc] at hy
   cases hy
   simp [rv]
 ·intro j y hy
  rcases Nat.lt_or_ge j L.length with g | g
  ·rw [List.getElem?_append_left g] at hy
   exact h.short j y hy
  ·have hl := (List.getElem?_eq_some_iff.1 hy).1
   simp at hl
   have : j = L.length := by omega
   subst this
   simp at hy
   subst hy
   have := h.short a c hc
   simp
   omega
 ·intro j x y hy hx g
  rw [List.getElem?_append_left (by omega)] at hy
  by_cases e : j = a ∧ x = i
  ·obtain ⟨rfl, rfl⟩ := e
   rw [hc] at hy
   cases hy
   refine ⟨hb, fun q' hq => ?_⟩
   rw [hn] at hq
   cases hq
   exact ⟨(q, x :: c.2), by simp, rfl, Nat.le_refl _⟩
  ·obtain ⟨h1, h2⟩ := h.seen j x y hy hx (by omega)
   refine ⟨h1, fun q' hq => ?_⟩
   obtain ⟨b, g1, g2⟩ := h2 q' hq
   exact ⟨b, List.mem_append_left _ g1, g2⟩
theorem Bfs.step {L : List (S × List Nat)} {a : Nat} (h : Bfs k bad nx p0 L a k) (ha : a < L.length) : Bfs k bad nx p0 L (a + 1) 0 := {
 first := h.first
 mono := h.mono
 path := h.path
 ahead := by
  intro x c hc hx
  have h1 := h.ahead x _ (List.getElem?_eq_getElem ha) hx
  have h2 := h.mono a (a + 1) _ _ (by omega) (List.getElem?_eq_getElem ha) hc
  have h3 : (rv k L[a].2 + 1) * k ≤ rv k c.2 * k := Nat.mul_le_mul_right _ h2
  rw [Nat.succ_mul] at h3
  omega
 pos := Nat.zero_le _
 lies := ha
 fin := fun _ => rfl
 short := h.short
 seen := fun j x b hb hx g => h.seen j x b hb hx (by rcases g with g | ⟨_, g⟩ <;> omega) }
theorem Bfs.reach {L : List (S × List Nat)} {a i : Nat} (h : Bfs k bad nx p0 L a i) : ∀ (u : List Nat) (q : S), uy k bad nx p0 u q → (∀ c, L[a]? = some c → rv k u < rv k c.2 * k + i + 1) → ∃ (j : Nat) (b : S × List Nat), L[j]? = some b ∧ b.1 = q ∧ rv k b.2 ≤ rv k u
 | [], q, hp, _ => ⟨0, _, h.first, hp.symm, Nat.zero_le _⟩
 | x :: u, q, ⟨p, hp, hx, hb, hn⟩, hlt => by
  have hk : rv k u ≤ rv k u * k := Nat.le_mul_of_pos_right _ (by omega)
  obtain ⟨j, b, hj, rfl, hr⟩ := h.reach u p hp fun c hc => by have := hlt c hc; simp only [rv] at this; omega
  have hmul : rv k b.2 * k ≤ rv k u * k := Nat.mul_le_mul_right _ hr
  have hjl := (List.getElem?_eq_some_iff.1 hj).1
  have hpos : j < a ∨ j = a ∧ x < i := by
   rcases Nat.lt_trichotomy j a with g | g | g
   ·exact .inl g
   ·subst g
    refine .inr ⟨rfl, ?_⟩
    have := hlt b hj
    simp only [rv] at this
    omega
   ·exfalso
    have hal : a < L.length := by omega
    have h1 := hlt _ (List.getElem?_eq_getElem hal)
    have h2 := h.mono a j _ _ g (List.getElem?_eq_getElem hal) hj
    have h3 : (rv k L[a].2 + 1) * k ≤ rv k b.2 * k := Nat.mul_le_mul_right _ h2
    rw [Nat.succ_mul] at h3
    have := h.pos
    simp only [rv] at h1
    omega
  obtain ⟨_, h2⟩ := h.seen j x b hj hx hpos
  obtain ⟨c, g1, g2, g3⟩ := h2 q hn
  obtain ⟨j', g4⟩ := List.getElem?_of_mem g1
  exact ⟨j', c, g4, g2, by simp only [rv]; omega⟩
theorem Bfs.least {L : List (S × List Nat)} {a i : Nat} (h : Bfs k bad nx p0 L a i) {w : List Nat} (hw : qp k bad nx p0 w) (hlt : ∀ c, L[a]? = some c → rv k w < rv k c.2 * k + i + 1) : False := by
 cases w with
 | nil => exact hw
 | cons x u =>
  obtain ⟨p, hp, hx, hb⟩ := hw
  have hk : rv k u ≤ rv k u * k := Nat.le_mul_of_pos_right _ (by omega)
  obtain ⟨j, b, hj, rfl, hr⟩ := h.reach u p hp fun c hc => by have := hlt c hc; simp only [rv] at this; omega
  have hmul : rv k b.2 * k ≤ rv k u * k := Nat.mul_le_mul_right _ hr
  have hjl := (List.getElem?_eq_some_iff.1 hj).1
  have hpos : j < a ∨ j = a ∧ x < i := by
   rcases Nat.lt_trichotomy j a with g | g | g
   ·exact .inl g
   ·subst g
    refine .inr ⟨rfl, ?_⟩
    have := hlt b hj
    simp only [rv] at this
    omega
   ·exfalso
    have hal : a < L.length := by omega
    have h1 := hlt _ (List.getElem?_eq_getElem hal)
    have h2 := h.mono a j _ _ g (List.getElem?_eq_getElem hal) hj
    have h3 : (rv k L[a].2 + 1) * k ≤ rv k b.2 * k := Nat.mul_le_mul_right _ h2
    rw [Nat.succ_mul] at h3
    have := h.pos
    simp only [rv] at h1
    omega
  have := (h.seen j x b hj hx hpos).1
  rw [this] at hb
  cases hb
theorem z1E {i : Nat} {q : S} (hi : i < k) (hb : bad p0 i = false) (hn : nx p0 i = some q) : ∀ {u : List Nat} {r : S}, uy k bad nx q u r → uy k bad nx p0 (u ++ [i]) r
 | [], r, h => ⟨p0, rfl, hi, hb, by rw [hn]; exact congrArg some h.symm⟩
 | x :: u, r, ⟨p, hp, h⟩ => ⟨p, z1E hi hb hn hp, h⟩
theorem V2 : ∀ {w : List Nat} {p : S}, Qm k bad nx p w → qp k bad nx p w.reverse
 | [], _, h => h.elim
 | [i], p, h => ⟨p, rfl, h⟩
 | i :: j :: w, p, ⟨hi, hb, q, hn, h⟩ => by
  have := V2 h
  rw [List.reverse_cons]
  cases hr : (j :: w).reverse with
  | nil => simp at hr
  | cons x u =>
   rw [hr] at this
   obtain ⟨r, h1, h2⟩ := this
   exact ⟨r, z1E hi hb hn h1, h2⟩
theorem z1D : ∀ {u : List Nat} {q : S} {i : Nat} {w : List Nat}, uy k bad nx p0 u q → Qm k bad nx q (i :: w) → Qm k bad nx p0 (u.reverse ++ i :: w)
 | [], q, i, w, h, t => by
  simp only [uy] at h
  subst h
  exact t
 | x :: u, q, i, w, ⟨p, hp, hx, hb, hn⟩, t => by
  have := z1D (i := x) (w := i :: w) hp ⟨hx, hb, q, hn, t⟩
  simpa using this
theorem z0t {w : List Nat} (h : qp k bad nx p0 w) : Qm k bad nx p0 w.reverse := by
 cases w with
 | nil => exact h
 | cons i u =>
  obtain ⟨p, h1, h2⟩ := h
  have := z1D (i := i) (w := []) h1 h2
  simpa using this
def fv (k : Nat) : Nat → List Nat → Nat
 | n, [] => n
 | n, i :: w => fv k (n * k + i + 1) w
theorem za1 : ∀ (w u : List Nat), fv k (rv k u) w = rv k (w.reverse ++ u)
 | [], u => rfl
 | i :: w, u => by
  have := za1 w (i :: u)
  simp only [rv] at this
  simp only [fv, List.reverse_cons, List.append_assoc, List.singleton_append]
  exact this
theorem zbo : ∀ {w v : List Nat} {n m : Nat}, n < m → w.length = v.length → (∀ x ∈ w, x < k) → fv k n w < fv k m v
 | [], [], n, m, h, _, _ => h
 | i :: w, j :: v, n, m, h, hl, hw => by
  simp only [fv]
  refine zbo ?_ (by simpa using hl) fun x hx => hw x (by simp [hx])
  have h1 : (n + 1) * k ≤ m * k := Nat.mul_le_mul_right _ h
  rw [Nat.succ_mul] at h1
  have := hw i (by simp)
  omega
theorem z8u : ∀ {u v : List Nat}, u.length < v.length → (∀ x ∈ u, x < k) → rv k u < rv k v
 | [], j :: v, _, _ => by simp [rv]
 | i :: u, j :: v, h, hu => by
  have := z8u (u := u) (v := v) (by simpa using h) fun x hx => hu x (by simp [hx])
  have h1 : (rv k u + 1) * k ≤ rv k v * k := Nat.mul_le_mul_right _ this
  rw [Nat.succ_mul] at h1
  have := hu i (by simp)
  simp only [rv]
  omega
def z8f : List Nat → List Nat → Prop
 | [], _ => True
 | i :: u, j :: v => i < j ∨ i = j ∧ z8f u v
 | _ :: _, [] => False
theorem z8M : ∀ {w v : List Nat} {n : Nat}, z8f w v → w.length = v.length → (∀ x ∈ w, x < k) → w = v ∨ fv k n w < fv k n v
 | [], [], n, _, _, _ => .inl rfl
 | i :: w, j :: v, n, h, hl, hw => by
  rcases h with h | ⟨rfl, h⟩
  ·refine .inr ?_
   show fv k (n * k + i + 1) w < fv k (n * k + j + 1) v
   exact zbo (by omega) (by simpa using hl) fun x hx => hw x (by simp [hx])
  ·rcases z8M (n := n * k + i + 1) h (by simpa using hl) fun x hx => hw x (by simp [hx]) with rfl | h
   ·exact .inl rfl
   ·exact .inr h
theorem z0s : ∀ {w : List Nat} {p : S}, Qm k bad nx p w → ∀ x ∈ w, x < k
 | [], _, h => h.elim
 | [i], _, h => by simpa using h.1
 | i :: j :: w, _, ⟨hi, _, q, _, h⟩ => by
  intro x hx
  rcases List.mem_cons.1 hx with rfl | hx
  ·exact hi
  ·exact z0s h x hx
theorem z4v {u v : List Nat} (hu : qp k bad nx p0 u) (h1 : ∀ w, qp k bad nx p0 w → rv k u ≤ rv k w) (hv : Qm k bad nx p0 v) (h2 : ∀ w, Qm k bad nx p0 w → v.length ≤ w.length ∧ (v.length = w.length → z8f v w)) : u.reverse = v := by
 have hu' := z0t hu
 have hv' := V2 hv
 have l1 := (h2 _ hu').1
 have hlt := z0s hu'
 have g := h1 _ hv'
 have hl : v.length = u.reverse.length := by
  rcases Nat.lt_or_ge v.length u.reverse.length with q | q
  ·have := z8u (k := k) (u := v.reverse) (v := u) (by simpa using q) (fun x hx => z0s hv x (by simpa using hx))
   omega
  ·omega
 have l2 := (h2 _ hu').2 hl
 rcases z8M (k := k) (n := 0) l2 hl (z0s hv) with e | e
 ·exact e.symm
 ·have e1 := za1 (k := k) v []
  have e2 := za1 (k := k) u.reverse []
  simp only [rv, List.append_nil, List.reverse_reverse] at e1 e2
  omega
def Mk (k : Nat) (bad : S → Nat → Bool) (nx : S → Nat → Option S) : Nat → S → Prop
 | 0, _ => False
 | n + 1, p => Mk k bad nx n p ∨ ∃ i, i < k ∧ (bad p i = true ∨ ∃ q, nx p i = some q ∧ Mk k bad nx n q)
theorem Mk.mono {n m : Nat} {p : S} (h : Mk k bad nx n p) (hm : n ≤ m) : Mk k bad nx m p := by
 induction hm with
 | refl => exact h
 | step _ ih => exact .inl ih
theorem Mk.tell : ∀ {n : Nat} {p : S}, Mk k bad nx n p → ∃ w, Qm k bad nx p w ∧ w.length ≤ n
 | 0, _, h => h.elim
 | n + 1, p, .inl h => by
  obtain ⟨w, h1, h2⟩ := Mk.tell h
  exact ⟨w, h1, by omega⟩
 | n + 1, p, .inr ⟨i, hi, h⟩ => by
  by_cases hb : bad p i = true
  ·exact ⟨[i], ⟨hi, hb⟩, by simp⟩
  ·rcases h with h | ⟨q, hq, h⟩
   ·exact (hb h).elim
   ·obtain ⟨w, h1, h2⟩ := Mk.tell h
    refine ⟨i :: w, ?_, by simp; omega⟩
    cases w with
    | nil => exact h1.elim
    | cons j w => exact ⟨hi, by simpa using hb, q, hq, h1⟩
theorem Jn : ∀ {w : List Nat} {p : S}, Qm k bad nx p w → Mk k bad nx w.length p
 | [], _, h => h.elim
 | [i], p, h => .inr ⟨i, h.1, .inl h.2⟩
 | i :: j :: w, p, ⟨hi, hb, q, hn, h⟩ => .inr ⟨i, hi, .inr ⟨q, hn, Jn h⟩⟩
def X8 (k : Nat) (bad : S → Nat → Bool) (nx : S → Nat → Option S) : Nat → S → List Nat → Prop
 | 0, _, w => w = []
 | n + 1, p, w => ∃ i u, w = i :: u ∧ i < k ∧ (bad p i = true ∨ ∃ q, nx p i = some q ∧ Mk k bad nx n q) ∧ (∀ j, j < i → ¬ (bad p j = true ∨ ∃ q, nx p j = some q ∧ Mk k bad nx n q)) ∧ (0 < n → ∃ q, nx p i = some q ∧ X8 k bad nx n q u) ∧ (n = 0 → u = [])
theorem Xt : ∀ {n : Nat} {p : S} {w : List Nat}, Mk k bad nx (n + 1) p → ¬ Mk k bad nx n p → X8 k bad nx (n + 1) p w → Qm k bad nx p w ∧ w.length = n + 1 ∧ ∀ v, Qm k bad nx p v → w.length ≤ v.length ∧ (w.length = v.length → z8f w v)
 | 0, p, w, h, _, ⟨i, u, ew, hi, hb, hl, _, hu⟩ => by
  subst ew
  have hu := hu rfl
  subst hu
  have hb : bad p i = true := by
   rcases hb with hb | ⟨q, _, h⟩
   ·exact hb
   ·exact h.elim
  refine ⟨⟨hi, hb⟩, rfl, fun v hv => ?_⟩
  cases v with
  | nil => exact hv.elim
  | cons j v =>
   refine ⟨by simp, fun e => ?_⟩
   have : v = [] := by simpa using e.symm
   subst this
   rcases Nat.lt_trichotomy i j with q | q | q
   ·exact .inl q
   ·exact .inr ⟨q, trivial⟩
   ·exact (hl j q (.inl hv.2)).elim
 | n + 1, p, w, h, hn, ⟨i, u, ew, hi, hb, hl, hq, _⟩ => by
  subst ew
  obtain ⟨q, hq1, hq2⟩ := hq (by omega)
  have nb : ∀ j, j < k → bad p j = false := by
   intro j hj
   cases hc : bad p j with
   | false => rfl
   | true => exact (hn ((Mk.mono (n := 1) (.inr ⟨j, hj, .inl hc⟩) (by omega)))).elim
  have hm : Mk k bad nx (n + 1) q := by
   rcases hb with hb | ⟨q', e, h⟩
   ·rw [nb i hi] at hb; cases hb
   ·rw [hq1] at e; cases e; exact h
  have hm' : ¬ Mk k bad nx n q := fun g => hn (.inr ⟨i, hi, .inr ⟨q, hq1, g⟩⟩)
  obtain ⟨t, tl, tm⟩ := Xt hm hm' hq2
  refine ⟨?_, by simp [tl], fun v hv => ?_⟩
  ·cases u with
   | nil => exact t.elim
   | cons j u => exact ⟨hi, nb i hi, q, hq1, t⟩
  ·have hlen : n + 2 ≤ v.length := by
    rcases Nat.lt_or_ge v.length (n + 2) with g | g
    ·exact (hn (Mk.mono (Jn hv) (by omega))).elim
    ·exact g
   refine ⟨by simp [tl]; omega, fun e => ?_⟩
   match v, hv with
   | [], hv => exact hv.elim
   | [j], hv => simp [tl] at e
   | j :: x :: v, ⟨hj, hjb, r, hr, hv⟩ =>
    have hmj : Mk k bad nx (n + 1) r := Mk.mono (Jn hv) (by simp at e ⊢; omega)
    rcases Nat.lt_trichotomy i j with g | rfl | g
    ·exact .inl g
    ·rw [hq1] at hr
     cases hr
     exact .inr ⟨rfl, (tm _ hv).2 (by simpa using e)⟩
    ·exact (hl j g (.inr ⟨r, hr, hmj⟩)).elim
theorem z2t {n : Nat} {u w : List Nat} (hu : qp k bad nx p0 u) (h1 : ∀ w, qp k bad nx p0 w → rv k u ≤ rv k w) (hm : Mk k bad nx (n + 1) p0) (hm' : ¬ Mk k bad nx n p0) (hw : X8 k bad nx (n + 1) p0 w) : u.reverse = w := by
 obtain ⟨a, b, c⟩ := Xt hm hm' hw
 exact z4v hu h1 a c
end
theorem qd : ∀ (n : Nat) (l : List Nat), l.Nodup → (∀ x ∈ l, x < n) → l.length ≤ n
 | 0, l, _, h => by
  cases l with
  | nil => simp
  | cons x l => have := h x (by simp); omega
 | n + 1, l, hd, h => by
  by_cases hm : n ∈ l
  ·have h1 := List.length_erase_of_mem hm
   have h2 := qd n (l.erase n) (hd.erase n) fun x hx => by
    have h3 := (hd.mem_erase_iff).1 hx
    have := h x h3.2
    have := h3.1
    omega
   have : 0 < l.length := List.length_pos_of_mem hm
   omega
  ·have := qd n l hd fun x hx => by
    have := h x hx
    have : x ≠ n := fun e => hm (e ▸ hx)
    omega
   omega
def yH (a b : z6) (p : Nat × Nat) (i : Nat) : Bool := (E a p.1 i).Out != (E b p.2 i).Out
def nxP (a b : z6) (p : Nat × Nat) (i : Nat) : Option (Nat × Nat) := if 0 ≤ (E a p.1 i).To ∧ 0 ≤ (E b p.2 i).To then some ((E a p.1 i).To.toNat, (E b p.2 i).To.toNat) else none
abbrev LL := List ((Nat × Nat) × List Nat)
def pA (q : Nat × Nat) : zh Int := ⟨q.1, q.2⟩
def vn (L : LL) : List (zh Int) := L.map fun x => pA x.1
def z8j (l : List za) (L : LL) : Prop :=
 l.length = L.length ∧ ∀ (j : Nat) (c : (Nat × Nat) × List Nat), L[j]? = some c → ∃ x, l[j]? = some x ∧ x.pair_ = pA c.1 ∧ ((c.2 = [] ∧ x.from_ = -1) ∨ ∃ (f i : Nat) (d : (Nat × Nat) × List Nat), f < j ∧ c.2 = i :: d.2 ∧ x.from_ = f ∧ x.input_ = i ∧ L[f]? = some d)
def z6z (seen : List (zh Int × Bool)) (L : LL) : Prop := ∀ q : zh Int, (JT seen q).getD false = true ↔ q ∈ vn L
def z2h (a b : z6) (L : LL) : Prop := (L.map (·.1)).Nodup ∧ ∀ x ∈ L, x.1.1 < a.Rows.length ∧ x.1.2 < b.Rows.length
theorem z8y {p q : Nat × Nat} (h : pA p = pA q) : p = q := by
 obtain ⟨p1, p2⟩ := p
 obtain ⟨q1, q2⟩ := q
 simp only [pA, zh.mk.injEq] at h
 simp only [Prod.mk.injEq]
 omega
theorem Vd {L : LL} {q : Nat × Nat} : pA q ∈ vn L ↔ ∃ b ∈ L, b.1 = q := by
 unfold vn
 rw [List.mem_map]
 constructor
 ·rintro ⟨x, h1, h2⟩; exact ⟨x, h1, z8y h2⟩
 ·rintro ⟨x, h1, h2⟩; exact ⟨x, h1, by rw [h2]⟩
theorem z2h.length {a b : z6} {L : LL} (h : z2h a b L) (ha : a.Rows.length ≤ 64) (hb : b.Rows.length ≤ 64) : L.length ≤ 4096 := by
 have := qd 4096 (L.map fun x => x.1.1 * 64 + x.1.2) ?_ ?_
 ·simpa using this
 ·have : (L.map fun x => x.1.1 * 64 + x.1.2) = (L.map (·.1)).map fun q => q.1 * 64 + q.2 := by rw [List.map_map]; rfl
  rw [this]
  refine List.Pairwise.map _ ?_ (List.Pairwise.and_mem.1 h.1)
  rintro p q ⟨hp, hq, hne⟩ e
  apply hne
  obtain ⟨x, hx, rfl⟩ := List.mem_map.1 hp
  obtain ⟨y, hy, rfl⟩ := List.mem_map.1 hq
  have := h.2 x hx
  have := h.2 y hy
  obtain ⟨⟨p1, p2⟩, _⟩ := x
  obtain ⟨⟨q1, q2⟩, _⟩ := y
  simp only at *
  simp only [Prod.mk.injEq]
  omega
 ·intro x hx
  obtain ⟨y, hy, rfl⟩ := List.mem_map.1 hx
  have := h.2 y hy
  omega
theorem z6O {l : List za} {L : LL} (h : z8j l L) (hl : L.length ≤ 4096) {j : Nat} {c : (Nat × Nat) × List Nat} (hc : L[j]? = some c) (more : List Int) (hm : more.length ≤ 4096) :
  Zc l (j : Int) more = some (c.2.reverse.map Int.ofNat ++ more) ∧ c.2.length ≤ j := by
 have clip : ∀ s : List Int, xS s = some s := by
  intro s
  unfold xS
  rw [gdT (by omega)]
  simp
 have lenw : ∀ (j : Nat) (c : (Nat × Nat) × List Nat), L[j]? = some c → c.2.length ≤ j := by
  intro j
  induction j using Nat.strongRecOn with
  | ind j ih =>
   intro c hc
   obtain ⟨x, _, _, h1⟩ := h.2 j c hc
   rcases h1 with ⟨e, _⟩ | ⟨f, i, d, hf, e, _, _, hd⟩
   ·rw [e]; simp
   ·have := ih f hf d hd
    rw [e]; simp; omega
 refine ⟨?_, lenw j c hc⟩
 have main : Ret (loop (fun s => uI l s.1 s.2) ((j : Int), more)) fun r => r = c.2.reverse.map Int.ofNat ++ more := by
  refine zK (fun s => ∃ (n : Nat) (d : (Nat × Nat) × List Nat), s.1 = (n : Int) ∧ L[n]? = some d ∧ d.2.reverse.map Int.ofNat ++ s.2 = c.2.reverse.map Int.ofNat ++ more) (fun s => s.1.toNat) ⟨j, c, rfl, hc, rfl⟩ ?_ ?_
  ·have := (List.getElem?_eq_some_iff.1 hc).1
   simp only [Int.toNat_natCast]
   omega
  ·rintro ⟨s1, s2⟩ ⟨n, d, hn, hd, hs⟩
   simp only at hn hs
   subst hn
   obtain ⟨x, hx, hp, h1⟩ := h.2 n d hd
   unfold uI
   simp only [zy, k9, Int.toNat_natCast, hx, zo, uu, zc, LRP]
   refine ⟨by omega, x, rfl, ?_, ?_⟩
   ·intro hne
    rcases h1 with ⟨_, e⟩ | ⟨f, i, g, hf, e, hfr, hin, hg⟩
    ·rw [e] at hne; exact absurd hne (by decide)
    ·refine ⟨by omega, x, rfl, ?_, by omega, x, rfl, ⟨f, g, hfr, hg, ?_⟩, by omega⟩
     ·have l1 := lenw n d hd
      have l2 := lenw j c hc
      have l3 := (List.getElem?_eq_some_iff.1 hc).1
      have l4 := congrArg List.length hs
      simp only [List.length_append, List.length_map, List.length_reverse] at l4
      simp only [List.length_cons, List.length_nil]
      omega
     ·rw [hin, ← hs, e]
      simp
   ·intro he
    rcases h1 with ⟨e, _⟩ | ⟨f, i, g, hf, e, hfr, _⟩
    ·rw [e] at hs
     simpa using hs
    ·rw [hfr] at he
     have : ((f : Int) != -1) = true := by simp
     rw [this] at he
     cases he
 unfold Zc jG
 rw [bdT (Ret.eq main), bdT (clip _)]
theorem Zb {a b : z6} (hab : a.Inputs = b.Inputs) : kk a = kk b := by unfold kk; rw [hab]
section
variable {a b : z6} (va : VM a) (vb : VM b) (hab : a.Inputs = b.Inputs)
include va vb hab
theorem z3v {p : Nat × Nat} {i : Nat} (h1 : p.1 < a.Rows.length) (h2 : p.2 < b.Rows.length) (hi : i < kk a) (hb : yH a b p i = false) :
  ((E a p.1 i).To = -1 ∧ (E b p.2 i).To = -1 ∧ nxP a b p i = none) ∨ (0 ≤ (E a p.1 i).To ∧ 0 ≤ (E b p.2 i).To ∧ (E a p.1 i).To.toNat < a.Rows.length ∧ (E b p.2 i).To.toNat < b.Rows.length ∧ nxP a b p i = some ((E a p.1 i).To.toNat, (E b p.2 i).To.toNat)) := by
 have hi' : i < kk b := by rw [← Zb hab]; exact hi
 have e : (E a p.1 i).Out = (E b p.2 i).Out := by simpa [yH] using hb
 rcases va.edgeAt h1 hi with ⟨x1, x2⟩ | ⟨x1, x2, x3, x4⟩ <;> rcases vb.edgeAt h2 hi' with ⟨y1, y2⟩ | ⟨y1, y2, y3, y4⟩
 ·exact .inl ⟨x1, y1, by unfold nxP; rw [if_neg (by omega)]⟩
 ·omega
 ·omega
 ·exact .inr ⟨x1, y1, by omega, by omega, by unfold nxP; rw [if_pos ⟨x1, y1⟩]⟩
end
theorem z5V (s : List (zh Int)) (v : zh Int) (hl : s.length ≤ 4611686018427387903) : yk s v = some (decide (v ∈ s)) := by
 have hloop : loop (fun q => y8 s v q) 0 = some (oS (yN (fun i x => if v = x then some (i : Int) else none) s 0)) := by
  refine wW s (by omega) _ ?_ ?_
  ·intro i x hx
   have hi := (List.getElem?_eq_some_iff.1 hx).1
   unfold y8
   have hd : decide ((i : Int) < ((s.length : Nat) : Int)) = true := by simpa using hi
   rw [hd, cond_true, zA, bdT hx]
   obtain ⟨v0, v1⟩ := v
   obtain ⟨x0, x1⟩ := x
   by_cases e : v0 = x0 ∧ v1 = x1
   ·simp [nS, e.1, e.2]
   ·have : (v0 == x0 && (v1 == x1 && true)) = false := by
     simp only [Bool.and_true, Bool.and_eq_false_iff, beq_eq_false_iff_ne]
     omega
    simp only [this, cond_false, nS, zh.mk.injEq, e, if_false]
  ·unfold y8
   simp
 unfold yk xw
 rw [hloop]
 simp only [Option.bind_some]
 cases hf : yN (fun i x => if v = x then some (i : Int) else none) s 0 with
 | some q =>
  obtain ⟨i, x, h1, h2⟩ := wL hf
  split at h2
  ·rename_i e
   subst e
   simp only [Option.some.injEq] at h2
   have : v ∈ s := List.mem_of_getElem? h1
   simp only [oS, Option.bind_some, decide_eq_true this]
   rw [decide_eq_true (by omega)]
  ·cases h2
 | none =>
  have : ¬ v ∈ s := by
   intro hx
   obtain ⟨i, hi⟩ := List.getElem?_of_mem hx
   have := xK hf i v hi
   simp at this
  simp only [oS, yX, Option.bind_some, decide_eq_false this]
  rfl
theorem z8a {l : List za} {L : LL} (h : z8j l L) {f i : Nat} {d : (Nat × Nat) × List Nat} (hd : L[f]? = some d) (q : Nat × Nat) : z8j (l ++ [⟨pA q, (f : Int), (i : Int)⟩]) (L ++ [(q, i :: d.2)]) := by
 have hf := (List.getElem?_eq_some_iff.1 hd).1
 refine ⟨by simp [h.1], fun j c hc => ?_⟩
 rcases Nat.lt_or_ge j L.length with g | g
 ·rw [List.getElem?_append_left g] at hc
  obtain ⟨x, h1, h2, h3⟩ := h.2 j c hc
  refine ⟨x, by rw [List.getElem?_append_left (by rw [h.1]; exact g)]; exact h1, h2, ?_⟩
  rcases h3 with h3 | ⟨f', i', d', h3, h4, h5, h6, h7⟩
  ·exact .inl h3
  ·exact .inr ⟨f', i', d', h3, h4, h5, h6, by rw [List.getElem?_append_left (by omega)]; exact h7⟩
 ·have hj : j = L.length := by
   have := (List.getElem?_eq_some_iff.1 hc).1
   simp at this
   omega
  subst hj
  simp only [List.getElem?_append_right (Nat.le_refl _), Nat.sub_self, List.getElem?_cons_zero, Option.some.injEq] at hc
  subst hc
  refine ⟨⟨pA q, f, i⟩, ?_, rfl, .inr ⟨f, i, d, hf, rfl, rfl, rfl, by rw [List.getElem?_append_left hf]; exact hd⟩⟩
  have h0 := h.1
  rw [List.getElem?_append_right (by omega), h0]
  simp
theorem z7f {seen : List (zh Int × Bool)} {L : LL} (h : z6z seen L) (q : Nat × Nat) (u : List Nat) : z6z (KC seen (pA q) true) (L ++ [(q, u)]) := by
 intro r
 rw [z3M]
 unfold vn
 rw [List.map_append, List.mem_append]
 by_cases e : pA q = r
 ·subst e
  simp
 ·have : (pA q == r) = false := by simpa using e
  rw [this]
  simp only [Bool.false_eq_true, if_false]
  rw [h r]
  constructor
  ·exact .inl
  ·rintro (g | g)
   ·exact g
   ·simp at g; exact (e g.symm).elim
theorem z4s {a b : z6} {L : LL} (h : z2h a b L) {q : Nat × Nat} (u : List Nat) (hq : ¬ ∃ b ∈ L, b.1 = q) (h1 : q.1 < a.Rows.length) (h2 : q.2 < b.Rows.length) : z2h a b (L ++ [(q, u)]) := by
 refine ⟨?_, fun x hx => ?_⟩
 ·rw [List.map_append, List.nodup_append]
  refine ⟨h.1, by simp, fun x hx y hy e => ?_⟩
  simp at hy
  subst hy
  subst e
  obtain ⟨z, g1, g2⟩ := List.mem_map.1 hx
  exact hq ⟨z, g1, g2⟩
 ·rcases List.mem_append.1 hx with g | g
  ·exact h.2 x g
  ·simp at g
   subst g
   exact ⟨h1, h2⟩
def zdP (a b : z6) (r : List Int × List (zh Int)) : Prop :=
 (∃ u, qp (kk a) (yH a b) (nxP a b) (0, 0) u ∧ (∀ w, qp (kk a) (yH a b) (nxP a b) (0, 0) w → rv (kk a) u ≤ rv (kk a) w) ∧ u.length ≤ 4096 ∧ r = (u.reverse.map Int.ofNat, [])) ∨
 (∃ L : LL, Bfs (kk a) (yH a b) (nxP a b) (0, 0) L L.length 0 ∧ z2h a b L ∧ r = ([], vn L))
section
variable {a b : z6} (va : VM a) (vb : VM b) (hab : a.Inputs = b.Inputs)
include va vb hab
theorem z08 : Ret (ur a b) (zdP a b) := by
 have hka : ((kk a : Nat) : Int) = a.Inputs := va.kk_eq
 have la := va.len64
 have lb := vb.len64
 have k16 := va.kk_le
 let Inv (L : LL) (at_ i : Nat) (s : LR (List Int × List (zh Int)) (List Int × List (zh Int))) (seen : List (zh Int × Bool)) (l : List za) : Prop :=
  Bfs (kk a) (yH a b) (nxP a b) (0, 0) L at_ i ∧ z8j l L ∧ z6z seen L ∧ z2h a b L ∧ s = .next ([], vn L)
 let Fnd (s : LR (List Int × List (zh Int)) (List Int × List (zh Int))) : Prop := ∃ u p, qp (kk a) (yH a b) (nxP a b) (0, 0) u ∧ (∀ w, qp (kk a) (yH a b) (nxP a b) (0, 0) w → rv (kk a) u ≤ rv (kk a) w) ∧ u.length ≤ 4096 ∧ s = .done (u.reverse.map Int.ofNat, p)
 have inner : ∀ (L : LL) (at_ : Nat) (sg : LR (List Int × List (zh Int)) (List Int × List (zh Int))) (seen : List (zh Int × Bool)) (l : List za) (x : za), at_ < L.length → l[at_]? = some x → Inv L at_ 0 sg seen l →
   Ret (loop (fun s => wY a b (yOf (fun s x => xG s.1 s.2 x.1 x.2)) (at_ : Int) x x s.1 s.2.1 s.2.2.1 s.2.2.2) (sg, seen, l, 0)) (fun r => match r with
    | .inl (sg', seen', l') => ∃ L', L.length ≤ L'.length ∧ Inv L' at_ (kk a) sg' seen' l'
    | .inr sg' => Fnd sg') := by
  intro L at_ sg seen l x hat hx hI
  refine zK (fun s => ∃ (L' : LL) (i : Nat), s.2.2.2 = (i : Int) ∧ i ≤ kk a ∧ L.length ≤ L'.length ∧ s.2.2.1[at_]? = some x ∧ Inv L' at_ i s.1 s.2.1 s.2.2.1) (fun s => kk a - s.2.2.2.toNat) ⟨L, 0, rfl, Nat.zero_le _, Nat.le_refl _, hx, hI⟩ (by omega) ?_
  rintro ⟨sg, seen, l, i'⟩ ⟨L', i, hi', hik, hLL, hx, hB, hA, hS, hN, hsg⟩
  simp only at hi' hA hS hx
  subst hi'
  subst hsg
  have hat' : at_ < L'.length := by omega
  obtain ⟨c, hc⟩ : ∃ c, L'[at_]? = some c := ⟨_, List.getElem?_eq_getElem hat'⟩
  obtain ⟨x', hx', hpair, hw⟩ := hA.2 at_ c hc
  rw [hx] at hx'
  cases hx'
  have hcn := hN.2 c (List.mem_of_getElem? hc)
  have hL4 := hN.length la lb
  unfold wY
  rw [zo]
  refine ⟨fun hlt => ?_, fun hge => ?_⟩
  ·have hi : i < kk a := by rw [← hka] at hlt; simpa using hlt
   have hib : i < kk b := by rw [← Zb hab]; exact hi
   have e0 : x.pair_.e0 = (c.1.1 : Int) := by rw [hpair]; rfl
   have e1 : x.pair_.e1 = (c.1.2 : Int) := by rw [hpair]; rfl
   rw [e0, e1]
   rw [va.edge_eq hcn.1 hi, vb.edge_eq hcn.2 hib]
   simp only [yOf, xG]
   by_cases hbad : yH a b c.1 i = true
   ·have hne : ((E a c.1.1 i).Out != (E b c.1.2 i).Out) = true := hbad
    obtain ⟨hwd, hwl⟩ := z6O hA hL4 hc [(i : Int)] (by simp)
    simp only [hne, cond_true, hwd, Option.bind_some, cond_false, zc, LRP]
    refine ⟨i :: c.2, vn L', ⟨c.1, hB.path c (List.mem_of_getElem? hc), hi, hbad⟩, fun w hw => ?_, by simp; omega, by simp⟩
    rcases Nat.lt_or_ge (rv (kk a) w) (rv (kk a) (i :: c.2)) with g | g
    ·exact (hB.least hw fun c' hc' => by rw [hc] at hc'; cases hc'; simpa [rv] using g).elim
    ·exact g
   ·have hbad' : yH a b c.1 i = false := by simpa using hbad
    have hne : ((E a c.1.1 i).Out != (E b c.1.2 i).Out) = false := hbad'
    have hw1 : w64 ((i : Int) + 1) = ((i + 1 : Nat) : Int) := by rw [zF (by omega) (by omega)]; rfl
    rcases z3v va vb hab hcn.1 hcn.2 hi hbad' with ⟨t1, t2, t3⟩ | ⟨t1, t2, t3, t4, t5⟩
    ·simp only [hne, cond_false, t1, bne_self_eq_false, Option.bind_some, cond_true, ym, hw1, zc, LRP]
     exact ⟨⟨L', i + 1, rfl, hi, hLL, hx, hB.old hc hi hbad' (by rw [t3]; intro q hq; cases hq), hA, hS, hN, rfl⟩, by omega⟩
    ·have u1 : ((E a c.1.1 i).To != -1) = true := by simp; omega
     have u2 : ((E b c.1.2 i).To != -1) = true := by simp; omega
     have hq : (zh.mk (E a c.1.1 i).To (E b c.1.2 i).To) = pA ((E a c.1.1 i).To.toNat, (E b c.1.2 i).To.toNat) := by
      simp only [pA, zh.mk.injEq]; omega
     have hq' : (zh.mk (E b c.1.1 i).To (E b c.1.2 i).To) = (zh.mk (E b c.1.1 i).To (E b c.1.2 i).To) := rfl
     generalize hqn : ((E a c.1.1 i).To.toNat, (E b c.1.2 i).To.toNat) = q at hq t5
     have hq1 : q.1 < a.Rows.length := by rw [← hqn]; exact t3
     have hq2 : q.2 < b.Rows.length := by rw [← hqn]; exact t4
     have hlen : (vn L').length = L'.length := by simp [vn]
     simp only [hne, cond_false, u1, u2, cond_true, hq, z5V _ _ (show (vn L').length ≤ 4611686018427387903 by omega), Option.bind_some]
     by_cases hmem : pA q ∈ vn L'
     ·have hs : (JT seen (pA q)).getD false = true := (hS (pA q)).2 hmem
      simp only [decide_eq_true hmem, Bool.not_true, cond_false, Option.bind_some, cond_true, hs, ym, hw1, zc, LRP]
      exact ⟨⟨L', i + 1, rfl, hi, hLL, hx, hB.old hc hi hbad' (by rw [t5]; intro q' e; cases e; exact Vd.1 hmem), hA, hS, hN, rfl⟩, by omega⟩
     ·have hs : (JT seen (pA q)).getD false = false := by
       cases hv : (JT seen (pA q)).getD false with
       | true => exact (hmem ((hS (pA q)).1 hv)).elim
       | false => rfl
      have hnew : ¬ ∃ b ∈ L', b.1 = q := fun e => hmem (Vd.2 e)
      have hln : l.length = L'.length := hA.1
      have hg1 : (vn L').length + ([pA q] : List (zh Int)).length ≤ 4294967296 := by rw [hlen]; simp; omega
      have hg2 : l.length + ([(za.mk (pA q) (at_ : Int) (i : Int))] : List za).length ≤ 4294967296 := by rw [hln]; simp; omega
      simp only [decide_eq_false hmem, Bool.not_false, cond_true, gdT hg1, Option.bind_some, hs, gdT hg2, ym, hw1, zc, LRP]
      refine ⟨⟨L' ++ [(q, i :: c.2)], i + 1, rfl, hi, by simp; omega, ?_, hB.new hc hi hbad' t5, z8a hA hc q, z7f hS q _, z4s hN _ hnew hq1 hq2, ?_⟩, by omega⟩
      ·rw [List.getElem?_append_left (by omega)]; exact hx
      ·simp [vn]
  ·have hik' : i = kk a := by
    rw [← hka] at hge
    simp at hge
    omega
   subst hik'
   simp only [zc, LRP]
   exact ⟨L', hLL, hB, hA, hS, hN, rfl⟩
 have outer : Ret (loop (fun s => wZ a b (yOf (fun s x => xG s.1 s.2 x.1 x.2)) s.1 s.2.1 s.2.2.1 s.2.2.2) ((.next ([], [zh.mk 0 0]) : LR (List Int × List (zh Int)) (List Int × List (zh Int))), (KC ([] : List (zh Int × Bool)) (zh.mk 0 0) true), ([(za.mk (zh.mk 0 0) (-1) 0)] : List za), 0))
   (fun s => Fnd s ∨ ∃ L : LL, Bfs (kk a) (yH a b) (nxP a b) (0, 0) L L.length 0 ∧ z2h a b L ∧ s = .next ([], vn L)) := by
  refine zK (fun s => ∃ (L : LL) (j : Nat), s.2.2.2 = (j : Int) ∧ j ≤ L.length ∧ Inv L j 0 s.1 s.2.1 s.2.2.1) (fun s => 4097 - s.2.2.2.toNat) ⟨[((0, 0), [])], 0, rfl, Nat.zero_le _, Bfs.start, ?_, ?_, ?_, rfl⟩ (by simp) ?_
  ·refine ⟨rfl, fun j c hc => ?_⟩
   cases j with
   | zero => simp at hc; subst hc; exact ⟨_, rfl, rfl, .inl ⟨rfl, rfl⟩⟩
   | succ j => simp at hc
  ·intro q
   simp only [KC, JT, vn, List.map_cons, List.map_nil, List.mem_cons, List.not_mem_nil, or_false]
   by_cases e : (zh.mk 0 0 : zh Int) = q
   ·subst e; simp [pA]
   ·have : ((zh.mk 0 0 : zh Int) == q) = false := by simpa using e
    rw [this]
    simp only [Bool.false_eq_true, if_false, Option.getD_none, false_iff]
    intro g
    exact e g.symm
  ·refine ⟨by simp, fun x hx => ?_⟩
   simp at hx
   subst hx
   exact ⟨va.len1, vb.len1⟩
  ·rintro ⟨sg, seen, l, j'⟩ ⟨L, j, hj, hjl, hI⟩
   simp only at hj
   subst hj
   obtain ⟨hB, hA, hS, hN, hsg⟩ := hI
   simp only at hA hS hsg
   have hL4 := hN.length la lb
   unfold wZ
   rw [zo]
   refine ⟨fun hlt => ?_, fun hge => ?_⟩
   ·have hlt' : j < L.length := by simp [hA.1] at hlt; exact hlt
    obtain ⟨x, hx, _⟩ := hA.2 j _ (List.getElem?_eq_getElem hlt')
    rw [zA, bdT hx, bdT hx, zy]
    refine (inner L j sg seen l x hlt' hx ⟨hB, hA, hS, hN, hsg⟩).mono ?_
    rintro (⟨sg', seen', l'⟩ | sg') h
    ·obtain ⟨L', hl, hB', hA', hS', hN', hsg'⟩ := h
     have hL4' := hN'.length la lb
     have hw1 : w64 ((j : Int) + 1) = ((j + 1 : Nat) : Int) := by rw [zF (by omega) (by omega)]; rfl
     simp only [uq, hw1, zc, LRP]
     exact ⟨⟨L', j + 1, rfl, by omega, hB'.step (by omega), hA', hS', hN', hsg'⟩, by omega⟩
    ·simp only [zc, LRP]
     exact .inl h
   ·have : j = L.length := by
     simp [hA.1] at hge
     omega
    subst this
    simp only [zc, LRP]
    exact .inr ⟨L, hB, hN, hsg⟩
 unfold ur ZD uJ
 simp only [Option.bind_some]
 obtain ⟨t, e, h⟩ := outer
 rw [e]
 simp only [Option.bind_some]
 rcases h with ⟨u, p, h1, h2, h3, rfl⟩ | ⟨L, h1, h2, rfl⟩
 ·simp only [zc]
  exact .inl ⟨u, h1, h2, h3, rfl⟩
 ·simp only [q0, zc]
  exact .inr ⟨L, h1, h2, rfl⟩
end
theorem z2K {a k : Int} (h0 : 0 ≤ a) (hk : 1 ≤ k) (hk2 : k ≤ 1000000) : 1 ≤ w64 (1 + w64 (Int.tmod a k)) ∧ w64 (1 + w64 (Int.tmod a k)) ≤ k := by
 have h1 := Int.tmod_nonneg k h0
 have h2 := Int.tmod_lt_of_pos a (show 0 < k by omega)
 rw [zF (x := Int.tmod a k) (by omega) (by omega), zF (by omega) (by omega)]
 omega
structure MOk (x : zp) : Prop where
 s0 : 0 ≤ x.States
 i0 : 0 ≤ x.Inputs
 o0 : 0 ≤ x.Outputs
 e0 : ∀ v ∈ x.Edges, 0 ≤ v ∧ v ≤ 65535
theorem zcU {x : zp} {n o : Int} (hn : n = w64 (1 + w64 (Int.tmod x.States 6))) (ho : o = w64 (1 + w64 (Int.tmod x.Outputs 3))) (n1 : 1 ≤ n) (n2 : n ≤ 6) (o1 : 1 ≤ o) (o2 : o ≤ 3) (row : List z7) (i v : Int) (hl : row.length ≤ 1000) (v0 : 0 ≤ v) (v1 : v ≤ 65535) :
  ∃ e : z7, v8 x row i v = some (.next (row ++ [e], w64 (i + 1))) ∧ ((e.To = -1 ∧ e.Out = -1) ∨ (0 ≤ e.To ∧ e.To < n ∧ 0 ≤ e.Out ∧ e.Out < o)) := by
 have hv4 : Int.tdiv v 4 = v / 4 := Int.tdiv_eq_ediv_of_nonneg v0
 have w4 : w64 (Int.tdiv v 4) = v / 4 := by rw [hv4]; exact zF (by omega) (by omega)
 have d0 : 0 ≤ v / 4 := by omega
 have hd : Int.tdiv (v / 4) n = v / 4 / n := Int.tdiv_eq_ediv_of_nonneg d0
 have d1 : 0 ≤ v / 4 / n := Int.ediv_nonneg d0 (by omega)
 have d2 : v / 4 / n ≤ v / 4 := Int.ediv_le_self _ d0
 have w5 : w64 (Int.tdiv (v / 4) n) = v / 4 / n := by rw [hd]; exact zF (by omega) (by omega)
 have fit : (0 : Int) ≤ Int.tmod (v / 4) n ∧ Int.tmod (v / 4) n < n ∧ 0 ≤ Int.tmod (v / 4 / n) o ∧ Int.tmod (v / 4 / n) o < o :=
  ⟨Int.tmod_nonneg _ d0, Int.tmod_lt_of_pos _ (by omega), Int.tmod_nonneg _ d1, Int.tmod_lt_of_pos _ (by omega)⟩
 unfold v8
 rw [← hn, ← ho, w4, w5]
 have g4 : (4 : Int) ≠ 0 := by decide
 have gn : (n : Int) ≠ 0 := by omega
 have go : (o : Int) ≠ 0 := by omega
 have gl : ∀ e : z7, row.length + ([e] : List z7).length ≤ 4294967296 := fun e => by simp; omega
 simp only [gdT g4, gdT gn, gdT go, gdT (gl _)]
 cases x.Partial
 ·exact ⟨_, rfl, .inr fit⟩
 ·cases hc : (Int.tmod v 4 == 3)
  ·exact ⟨_, rfl, .inr fit⟩
  ·exact ⟨_, rfl, .inl ⟨rfl, rfl⟩⟩
theorem z8B {x : zp} (h : MOk x) : Ret (kI x) fun m => VM m ∧ m.Inputs = w64 (1 + w64 (Int.tmod x.Inputs 3)) ∧ m.Inputs ≤ 3 ∧ m.Outputs ≤ 3 ∧ m.Rows.length ≤ 6 := by
 have hn' := z2K h.s0 (k := 6) (by omega) (by omega)
 have hi' := z2K h.i0 (k := 3) (by omega) (by omega)
 have ho' := z2K h.o0 (k := 3) (by omega) (by omega)
 obtain ⟨n, hn⟩ : ∃ n, n = w64 (1 + w64 (Int.tmod x.States 6)) := ⟨_, rfl⟩
 obtain ⟨k, hk⟩ : ∃ n, n = w64 (1 + w64 (Int.tmod x.Inputs 3)) := ⟨_, rfl⟩
 obtain ⟨o, ho⟩ : ∃ n, n = w64 (1 + w64 (Int.tmod x.Outputs 3)) := ⟨_, rfl⟩
 rw [← hn] at hn'
 rw [← hk] at hi'
 rw [← ho] at ho'
 have inner : ∀ s : Int, 0 ≤ s → s < n → Ret (loop (fun st => jh x s st.1 st.2) (([] : List z7), 0)) (fun r => (r.length : Int) = k ∧ ∀ e ∈ r, (e.To = -1 ∧ e.Out = -1) ∨ (0 ≤ e.To ∧ e.To < n ∧ 0 ≤ e.Out ∧ e.Out < o)) := by
  intro s s0 s1
  refine zK (fun st => (st.1.length : Int) = st.2 ∧ st.2 ≤ k ∧ ∀ e ∈ st.1, (e.To = -1 ∧ e.Out = -1) ∨ (0 ≤ e.To ∧ e.To < n ∧ 0 ≤ e.Out ∧ e.Out < o)) (fun st => 10 - st.2.toNat) ⟨by simp, by omega, by simp⟩ (by simp) ?_
  rintro ⟨row, i⟩ ⟨h1, h2, h3⟩
  simp only at h1 h2 h3
  unfold jh
  rw [← hk, zo]
  have hsk : s * k ≤ 5 * k := Int.mul_le_mul_of_nonneg_right (by omega) (by omega)
  have hsk0 : 0 ≤ s * k := Int.mul_nonneg s0 (by omega)
  have w1 : w64 (s * k) = s * k := zF (by omega) (by omega)
  have w2 : w64 (s * k + i) = s * k + i := zF (by omega) (by omega)
  rw [w1, w2]
  refine ⟨fun hlt => ?_, fun hge => ?_⟩
  ·have hlt : i < k := of_decide_eq_true hlt
   have hw : w64 (i + 1) = i + 1 := zF (by omega) (by omega)
   have fin : ∀ v : Int, 0 ≤ v → v ≤ 65535 → Ret (v8 x row i v) (LRP (fun s' => (((s'.1.length : Nat) : Int) = s'.2 ∧ s'.2 ≤ k ∧ ∀ e ∈ s'.1, (e.To = -1 ∧ e.Out = -1) ∨ (0 ≤ e.To ∧ e.To < n ∧ 0 ≤ e.Out ∧ e.Out < o)) ∧ 10 - s'.2.toNat < 10 - i.toNat) (fun r => (r.length : Int) = k ∧ ∀ e ∈ r, (e.To = -1 ∧ e.Out = -1) ∨ (0 ≤ e.To ∧ e.To < n ∧ 0 ≤ e.Out ∧ e.Out < o))) := by
    intro v v0 v1
    obtain ⟨e, g1, g2⟩ := zcU hn ho hn'.1 hn'.2 ho'.1 ho'.2 row i v (by omega) v0 v1
    rw [g1, hw, zc]
    refine ⟨⟨by simp; omega, by simp only; omega, fun e' he => ?_⟩, by simp only; omega⟩
    rcases List.mem_append.1 he with q | q
    ·exact h3 e' q
    ·simp only [List.mem_cons, List.not_mem_nil, or_false] at q; subst q; exact g2
   rw [zo]
   refine ⟨fun hc => ?_, fun _ => fin 0 (by omega) (by omega)⟩
   have hc : s * k + i < ((x.Edges.length : Nat) : Int) := of_decide_eq_true hc
   rw [zy, k9]
   have hlt' : (s * k + i).toNat < x.Edges.length := by omega
   refine ⟨by omega, _, List.getElem?_eq_getElem hlt', ?_⟩
   have := h.e0 _ (List.getElem_mem hlt')
   rw [zF (by omega) (by omega)]
   exact fin _ this.1 this.2
  ·have hge : ¬ i < k := of_decide_eq_false hge
   rw [zc]
   exact ⟨by simp only; omega, h3⟩
 unfold kI
 simp only [uu, zy]
 refine ⟨by decide, by decide, by decide, ?_⟩
 refine (zK (R := fun r => (r.length : Int) = n ∧ ∀ r' ∈ r, (r'.length : Int) = k ∧ ∀ e ∈ r', (e.To = -1 ∧ e.Out = -1) ∨ (0 ≤ e.To ∧ e.To < n ∧ 0 ≤ e.Out ∧ e.Out < o)) (fun st => (st.1.length : Int) = st.2 ∧ st.2 ≤ n ∧ ∀ r' ∈ st.1, (r'.length : Int) = k ∧ ∀ e ∈ r', (e.To = -1 ∧ e.Out = -1) ∨ (0 ≤ e.To ∧ e.To < n ∧ 0 ≤ e.Out ∧ e.Out < o)) (fun st => 10 - st.2.toNat) ⟨by simp, by omega, by simp⟩ (by simp) ?_).mono ?_
 ·rintro ⟨rows, s⟩ ⟨h1, h2, h3⟩
  simp only at h1 h2 h3
  unfold kq
  rw [← hn, zo]
  refine ⟨fun hlt => ?_, fun hge => ?_⟩
  ·have hlt : s < n := of_decide_eq_true hlt
   rw [zy]
   refine (inner s (by omega) hlt).mono fun row hrow => ?_
   unfold kr ku
   rw [uu, zc, zF (by omega) (by omega)]
   refine ⟨by simp; omega, ⟨by simp; omega, by simp only; omega, fun r' hr => ?_⟩, by simp only; omega⟩
   rcases List.mem_append.1 hr with q | q
   ·exact h3 r' q
   ·simp only [List.mem_cons, List.not_mem_nil, or_false] at q; subst q; exact hrow
  ·have hge : ¬ s < n := of_decide_eq_false hge
   rw [zc]
   exact ⟨by simp only; omega, h3⟩
 ·rintro rows ⟨h1, h2⟩
  unfold kw
  rw [zc, ← hk, ← ho]
  refine ⟨⟨hi'.1, by simp only; omega, ho'.1, by simp only; omega, by simp only; omega, by simp only; omega, fun r hr => (h2 r hr).1, fun r hr e he => ?_⟩, rfl, hi'.2, ho'.2, by simp only; omega⟩
  simp only [h1]
  exact (h2 r hr).2 e he
def Xb (a b : z6) : Int := if chk a ≠ 0 then chk a else if chk b ≠ 0 then chk b else if a.Inputs ≠ b.Inputs then 5 else 0
theorem zd3 (x y : Int) : vo [x, y] = some (if x ≠ 0 then x else y) := by
 have hl : loop (fun s => w8 [x, y] s) 0 = some (oS (yN (fun _ v => if v ≠ 0 then some v else none) [x, y] 0)) := by
  refine wW [x, y] (by simp) _ ?_ ?_
  ·intro i v hv
   have hi := (List.getElem?_eq_some_iff.1 hv).1
   unfold w8
   have hd : decide ((i : Int) < (([x, y].length : Nat) : Int)) = true := by simp at hi ⊢; omega
   rw [hd, cond_true, zA, bdT hv]
   by_cases h : v = 0
   ·simp [nS, h]
   ·simp [nS, h, Bool.cond_eq_ite]
  ·rfl
 unfold vo
 rw [bdT hl]
 by_cases h : x = 0
 ·by_cases q : y = 0
  ·simp [yN, oS, h, q, vd]
  ·simp [yN, oS, h, q]
 ·simp [yN, oS, h]
theorem K8 (a b : z6) : qe a b = some (Xb a b) := by
 unfold qe vB Xb
 rw [bdT (z41 a), bdT (z41 b), bdT (zd3 _ _)]
 by_cases h : chk a = 0
 ·by_cases q : chk b = 0
  ·by_cases r : a.Inputs = b.Inputs
   ·simp [h, q, r]
   ·simp [h, q, r, Bool.cond_eq_ite]
  ·simp [h, q, Bool.cond_eq_ite]
 ·simp [h, Bool.cond_eq_ite]
theorem z32 {a b : z6} (h : Xb a b = 0) : VM a ∧ VM b ∧ a.Inputs = b.Inputs := by
 unfold Xb at h
 split at h
 ·rename_i q; exact (q h).elim
 split at h
 ·rename_i q; exact (q h).elim
 split at h
 ·cases h
 ·rename_i h1 h2 h3
  exact ⟨z6P (by simpa using h1), z6P (by simpa using h2), by simpa using h3⟩
theorem YM {a b : z6} (ha : VM a) (hb : VM b) (h : a.Inputs = b.Inputs) : Xb a b = 0 := by
 unfold Xb
 simp [z8N ha, z8N hb, h]
def z8i (a b : z6) (w : List Int) (is : Bool) : Prop :=
 (∃ u, qp (kk a) (yH a b) (nxP a b) (0, 0) u ∧ (∀ w, qp (kk a) (yH a b) (nxP a b) (0, 0) w → rv (kk a) u ≤ rv (kk a) w) ∧ w = u.reverse.map Int.ofNat ∧ is = true) ∨
 ((∀ u, ¬ qp (kk a) (yH a b) (nxP a b) (0, 0) u) ∧ w = [] ∧ is = false)
theorem z44 {a b : z6} {L : LL} (h : Bfs (kk a) (yH a b) (nxP a b) (0, 0) L L.length 0) (u : List Nat) : ¬ qp (kk a) (yH a b) (nxP a b) (0, 0) u := fun hu =>
 h.least hu fun c hc => by have := (List.getElem?_eq_some_iff.1 hc).1; omega
theorem Yo {a b : z6} (h : Xb a b = 0) : Ret (yh a b) fun r => r.2.2 = 0 ∧ z8i a b r.1 r.2.1 := by
 obtain ⟨va, vb, hab⟩ := z32 h
 unfold yh
 rw [bdT (K8 a b), h]
 simp only [bne_self_eq_false, cond_false, zy]
 refine (z08 va vb hab).mono fun r hr => ?_
 rw [zc]
 refine ⟨rfl, ?_⟩
 rcases hr with ⟨u, h1, h2, h3, rfl⟩ | ⟨L, h1, h2, rfl⟩
 ·refine .inl ⟨u, h1, h2, rfl, ?_⟩
  cases u with
  | nil => exact h1.elim
  | cons x u => simp
 ·exact .inr ⟨z44 h1, rfl, rfl⟩
def z6D : List Int → List Int → Int
 | [], [] => 0
 | [], _ :: _ => -1
 | _ :: _, [] => 1
 | x :: s, y :: t => if x < y then -1 else if y < x then 1 else z6D s t
theorem zbt (x y : Int) : ue x y = some (if x < y then -1 else if y < x then 1 else 0) := by
 unfold ue jl
 simp only [Option.bind_some, bne_self_eq_false, cond_false]
 by_cases h1 : x < y
 ·simp [h1]
 ·by_cases h2 : y < x
  ·simp [h1, h2]
  ·simp [h1, h2]
theorem z4C (s t : List Int) (hs : s.length < 4611686018427387904) : xh s t = some (z6D s t) := by
 have hl : loop (fun q => ye s t q) 0 = some (oS (yN (fun i x => match t[i]? with | none => some 1 | some y => if x < y then some (-1) else if y < x then some (1 : Int) else none) s 0)) := by
  refine wW s hs _ ?_ ?_
  ·intro i x hx
   have hi := (List.getElem?_eq_some_iff.1 hx).1
   unfold ye
   have hd : decide ((i : Int) < ((s.length : Nat) : Int)) = true := by simpa using hi
   rw [hd, cond_true, zA, bdT hx]
   cases ht : t[i]? with
   | none =>
    have : decide ((i : Int) ≥ ((t.length : Nat) : Int)) = true := by
     have := List.getElem?_eq_none_iff.1 ht
     simpa using this
    rw [this]
    rfl
   | some y =>
    have : decide ((i : Int) ≥ ((t.length : Nat) : Int)) = false := by
     have := (List.getElem?_eq_some_iff.1 ht).1
     simp; omega
    rw [this, cond_false, zA, bdT ht, bdT (zbt x y)]
    by_cases h1 : x < y
    ·simp [h1, nS]
    ·by_cases h2 : y < x
     ·simp [h1, h2, nS]
     ·simp [h1, h2, nS]
  ·unfold ye
   simp
 unfold xh
 rw [bdT hl]
 clear hl hs
 have gen : ∀ (s t : List Int) (k : Nat) (p : List Int), p.length = k → (match oS (yN (fun i x => match (p ++ t)[i]? with | none => some 1 | some y => if x < y then some (-1) else if y < x then some (1 : Int) else none) s k) with | .inl _ => (if s.length < t.length then -1 else 0) | .inr r => r) = z6D s t := by
  intro s
  induction s with
  | nil =>
   intro t k p hp
   cases t with
   | nil => simp [yN, oS, z6D]
   | cons y t => simp [yN, oS, z6D]
  | cons x s ih =>
   intro t k p hp
   cases t with
   | nil =>
    have : (p ++ ([] : List Int))[k]? = none := by rw [List.getElem?_eq_none_iff]; simp [hp]
    simp only [yN, this, oS, z6D]
   | cons y t =>
    have : (p ++ y :: t)[k]? = some y := by rw [List.getElem?_append_right (by omega), hp]; simp
    simp only [yN, this, z6D]
    by_cases h1 : x < y
    ·simp [h1, oS]
    ·by_cases h2 : y < x
     ·simp [h1, h2, oS]
     ·simp only [h1, h2, if_false]
      have := ih t (k + 1) (p ++ [y]) (by simp [hp])
      simp only [List.append_assoc, List.singleton_append] at this
      rw [← this]
      simp only [List.length_cons, Nat.add_lt_add_iff_right]
 have := gen s t 0 [] rfl
 simp only [List.nil_append] at this
 rw [← this]
 generalize yN _ s 0 = w
 cases w with
 | none =>
  simp only [oS, xj, Bool.cond_eq_ite, decide_eq_true_eq]
  by_cases h : s.length < t.length
  ·rw [if_pos (by omega), if_pos h]
  ·rw [if_neg (by omega), if_neg h]
 | some r => rfl
def pc (x y : zh Int) : Int := z6D [x.e0, x.e1] [y.e0, y.e1]
theorem z2I (x y : zh Int) : pc x y < 0 ↔ x.e0 < y.e0 ∨ x.e0 = y.e0 ∧ x.e1 < y.e1 := by
 have e0 : ∀ u v : Int, z6D [u] [v] = if u < v then -1 else if v < u then 1 else 0 := fun u v => rfl
 have e1 : pc x y = if x.e0 < y.e0 then -1 else if y.e0 < x.e0 then 1 else z6D [x.e1] [y.e1] := rfl
 rw [e1, e0]
 by_cases h1 : x.e0 < y.e0
 ·rw [if_pos h1]
  exact ⟨fun _ => .inl h1, fun _ => by decide⟩
 ·rw [if_neg h1]
  by_cases h2 : y.e0 < x.e0
  ·rw [if_pos h2]
   exact ⟨fun h => absurd h (by decide), fun h => by omega⟩
  ·rw [if_neg h2]
   by_cases h3 : x.e1 < y.e1
   ·rw [if_pos h3]
    exact ⟨fun _ => .inr ⟨by omega, h3⟩, fun _ => by decide⟩
   ·rw [if_neg h3]
    by_cases h4 : y.e1 < x.e1
    ·rw [if_pos h4]
     exact ⟨fun h => absurd h (by decide), fun h => by omega⟩
    ·rw [if_neg h4]
     exact ⟨fun h => absurd h (by decide), fun h => by omega⟩
theorem KW (x y : zh Int) : xu x y = some (pc x y) := by
 unfold xu
 rw [bdT (z4C _ _ (by simp))]
 rfl
theorem zba (l : List (zh Int)) : SOk pc l := by
 refine ⟨fun x _ => ?_, fun x _ y _ z _ h1 h2 => ?_, fun x _ y _ h1 h2 => ?_⟩
 ·rw [z2I]; omega
 ·rw [z2I] at *; omega
 ·rw [z2I] at h1 h2
  obtain ⟨x0, x1⟩ := x
  obtain ⟨y0, y1⟩ := y
  simp only at h1 h2
  simp only [zh.mk.injEq]
  omega
theorem KM (l : List (zh Int)) (h : l.length ≤ 4096) : z58 (fun x y => xu x y) l = some (Qc pc l) := by
 have e : (fun x y => (xu x y).getD 0) = pc := by
  funext x y
  rw [KW]
  rfl
 unfold z58
 rw [gdT ⟨by omega, fun x _ y _ => by show (xu x y).isSome = true; rw [KW]; rfl⟩, gdT (by rw [e]; exact zba l), e]
theorem z09 (l : List (zh Int)) : yY l = some l := by
 unfold yY
 rw [gdT (by omega)]
 simp
theorem z4E {a b : z6} (h : Xb a b = 0) : Ret (ut a b) fun r => r.2.2 = 0 ∧
  ((∃ u, qp (kk a) (yH a b) (nxP a b) (0, 0) u) ∧ r.1 = [] ∧ r.2.1 = false ∨ ∃ L : LL, Bfs (kk a) (yH a b) (nxP a b) (0, 0) L L.length 0 ∧ z2h a b L ∧ r.1 = Qc pc (vn L) ∧ r.2.1 = true) := by
 obtain ⟨va, vb, hab⟩ := z32 h
 unfold ut
 rw [bdT (K8 a b), h]
 simp only [bne_self_eq_false, cond_false, zy]
 refine (z08 va vb hab).mono fun r hr => ?_
 rcases hr with ⟨u, h1, h2, h3, rfl⟩ | ⟨L, h1, h2, rfl⟩
 ·rw [KM _ (by simp), zc, z09, zc, zc]
  refine ⟨rfl, .inl ⟨⟨u, h1⟩, rfl, ?_⟩⟩
  cases u with
  | nil => exact h1.elim
  | cons x u => simp; omega
 ·have := h2.length va.len64 vb.len64
  rw [KM _ (by simp [vn]; omega), zc, z09, zc, zc]
  exact ⟨rfl, .inr ⟨L, h1, h2, rfl, rfl⟩⟩
def KH (a b : z6) (p : zh Int) : Prop := 0 ≤ p.e0 ∧ 0 ≤ p.e1 ∧ p.e0 < (a.Rows.length : Int) ∧ p.e1 < (b.Rows.length : Int)
instance (a b : z6) (p : zh Int) : Decidable (KH a b p) := by unfold KH; infer_instance
def z9H (a b : z6) (r : List (zh Int)) : Int := if Xb a b ≠ 0 then Xb a b else if r.length > 4096 then 3 else if ∀ p ∈ r, KH a b p then 0 else 1
def JQ (a b : z6) (r : List (zh Int)) (p : zh Int) (i : Nat) : Prop :=
 (E a p.e0.toNat i).Out = (E b p.e1.toNat i).Out ∧ ((E a p.e0.toNat i).To = -1 ∨ (zh.mk (E a p.e0.toNat i).To (E b p.e1.toNat i).To) ∈ r)
def zak (a b : z6) (r : List (zh Int)) : Prop := zh.mk 0 0 ∈ r ∧ ∀ p ∈ r, ∀ i, i < kk a → JQ a b r p i
theorem z2F (a b : z6) (r : List (zh Int)) : Ret (zw a b r) fun q => q.2 = z9H a b r ∧ (q.1 = true ↔ z9H a b r = 0 ∧ zak a b r) := by
 unfold zw z9H
 rw [bdT (K8 a b)]
 by_cases hb : Xb a b = 0
 ·rw [hb]
  obtain ⟨va, vb, hab⟩ := z32 hb
  simp only [bne_self_eq_false, cond_false, ne_eq, not_true_eq_false, if_false]
  by_cases hl : r.length > 4096
  ·rw [if_pos hl, decide_eq_true (by omega)]
   simp only [cond_true, zc]
   exact ⟨trivial, by simp⟩
  ·rw [if_neg hl, decide_eq_false (by omega)]
   simp only [cond_false, zy]
   let MapOk (m : List (zh Int × Bool)) (i : Nat) : Prop := ∀ q, (JT m q).getD false = true ↔ q ∈ r.take i
   have l6 : Ret (loop (fun s => y5 a b r s.1 s.2) (([] : List (zh Int × Bool)), 0)) (fun t => match t with
     | .inl m => (∀ p ∈ r, KH a b p) ∧ MapOk m r.length
     | .inr q => (¬ ∀ p ∈ r, KH a b p) ∧ q = (false, 1)) := by
    refine zK (fun s => ∃ i : Nat, s.2 = (i : Int) ∧ i ≤ r.length ∧ MapOk s.1 i ∧ ∀ p ∈ r.take i, KH a b p) (fun s => 5000 - s.2.toNat) ⟨0, rfl, Nat.zero_le _, ?_, by simp⟩ (by simp) ?_
    ·intro q; simp [JT]
    ·rintro ⟨m, i'⟩ ⟨i, hi, hir, hm, hp⟩
     simp only at hi hm
     subst hi
     unfold y5
     rw [zo]
     refine ⟨fun hlt => ?_, fun hge => ?_⟩
     ·have hlt : i < r.length := by simpa using hlt
      have hx : r[i]? = some r[i] := List.getElem?_eq_getElem hlt
      rw [zA, bdT hx]
      have hin : r[i] ∈ r := List.getElem_mem hlt
      have hw : w64 ((i : Int) + 1) = ((i + 1 : Nat) : Int) := by rw [zF (by omega) (by omega)]; rfl
      by_cases c : KH a b r[i]
      ·obtain ⟨c1, c2, c3, c4⟩ := c
       have d1 : decide (mn r[i].e0 r[i].e1 < 0) = false := by unfold mn; simp; split <;> omega
       have d2 : decide (r[i].e0 ≥ ((a.Rows.length : Nat) : Int)) = false := by simp; omega
       have d3 : decide (r[i].e1 ≥ ((b.Rows.length : Nat) : Int)) = false := by simp; omega
       rw [d1, d2, d3]
       simp only [cond_false, zc, LRP, hw]
       have tk : r.take (i + 1) = r.take i ++ [r[i]] := by rw [List.take_add_one, hx]; rfl
       refine ⟨⟨i + 1, rfl, hlt, ?_, ?_⟩, by omega⟩
       ·intro q
        rw [z3M, tk, List.mem_append]
        by_cases e : r[i] = q
        ·subst e; simp
        ·have : (r[i] == q) = false := by simpa using e
         rw [this]
         simp only [Bool.false_eq_true, if_false]
         rw [hm q]
         constructor
         ·exact .inl
         ·rintro (g | g)
          ·exact g
          ·simp at g; exact (e g.symm).elim
       ·intro p hpm
        rw [tk, List.mem_append] at hpm
        rcases hpm with g | g
        ·exact hp p g
        ·simp at g; subst g; exact ⟨c1, c2, c3, c4⟩
      ·have bad : ¬ ∀ p ∈ r, KH a b p := fun h => c (h _ hin)
       have done : Ret (some (.done (.inr (false, 1))) : Option (LR (List (zh Int × Bool) × Int) (List (zh Int × Bool) ⊕ Bool × Int))) (LRP (fun s' => (∃ j : Nat, s'.2 = (j : Int) ∧ j ≤ r.length ∧ MapOk s'.1 j ∧ ∀ p ∈ r.take j, KH a b p) ∧ 5000 - s'.2.toNat < 5000 - (i : Int).toNat) (fun t => match t with
        | .inl m => (∀ p ∈ r, KH a b p) ∧ MapOk m r.length
        | .inr q => (¬ ∀ p ∈ r, KH a b p) ∧ q = (false, 1))) := zc.2 ⟨bad, rfl⟩
       rw [zo]
       refine ⟨fun _ => done, fun e1 => ?_⟩
       rw [zo]
       refine ⟨fun _ => done, fun e2 => ?_⟩
       rw [zo]
       refine ⟨fun _ => done, fun e3 => ?_⟩
       exfalso
       apply c
       simp only [decide_eq_false_iff_not] at e1 e2 e3
       unfold mn at e1
       unfold KH
       split at e1 <;> omega
     ·have : i = r.length := by
       simp at hge
       omega
      subst this
      rw [zc]
      rw [List.take_length] at hp
      exact ⟨hp, hm⟩
   refine l6.mono ?_
   rintro (m | q) hm
   ·obtain ⟨hall, hm⟩ := hm
    rw [if_pos hall]
    have hm' : ∀ q, (JT m q).getD false = true ↔ q ∈ r := fun q => by rw [hm q, List.take_length]
    unfold x5 xM
    simp only [Option.bind_some, zy, zc]
    have hka := va.kk_eq
    have k16 := va.kk_le
    have l5 : ∀ (p : zh Int) (row : List z7) (is : Bool), p ∈ r → a.Rows[p.e0.toNat]? = some row → Ret (loop (fun s => yn b m p row s.1 s.2) (is, 0)) (fun t => t = true ↔ is = true ∧ ∀ i, i < kk a → JQ a b r p i) := by
     intro p row is hp hrow
     obtain ⟨p0, p1, p2, p3⟩ := hall p hp
     have h1 : p.e0.toNat < a.Rows.length := by omega
     have h2 : p.e1.toNat < b.Rows.length := by omega
     obtain ⟨row', g1, g2, g3⟩ := va.rowAt h1
     rw [hrow] at g1
     cases g1
     refine zK (fun s => ∃ i : Nat, s.2 = (i : Int) ∧ i ≤ kk a ∧ (s.1 = true ↔ is = true ∧ ∀ j, j < i → JQ a b r p j)) (fun s => 100 - s.2.toNat) ⟨0, rfl, Nat.zero_le _, by simp⟩ (by simp) ?_
     rintro ⟨q, i'⟩ ⟨i, hi, hik, hq⟩
     simp only at hi hq
     subst hi
     unfold yn
     rw [zo]
     refine ⟨fun hlt => ?_, fun hge => ?_⟩
     ·have hlt : i < kk a := by simp [g2] at hlt; exact hlt
      have hib : i < kk b := by rw [← Zb hab]; exact hlt
      have hpe : p.e1 = ((p.e1.toNat : Nat) : Int) := by omega
      have hw : w64 ((i : Int) + 1) = ((i + 1 : Nat) : Int) := by rw [zF (by omega) (by omega)]; rfl
      rw [zA, bdT (g3 i hlt), hpe, vb.edge_eq h2 hib]
      have fin : ∀ z : Bool, (z = true ↔ q = true ∧ JQ a b r p i) → Ret (some (.next (z, w64 ((i : Int) + 1))) : Option (LR (Bool × Int) Bool)) (LRP (fun s' => (∃ j : Nat, s'.2 = (j : Int) ∧ j ≤ kk a ∧ (s'.1 = true ↔ is = true ∧ ∀ n, n < j → JQ a b r p n)) ∧ 100 - s'.2.toNat < 100 - (i : Int).toNat) (fun t => t = true ↔ is = true ∧ ∀ i, i < kk a → JQ a b r p i)) := by
       intro z hz
       rw [zc, hw]
       refine ⟨⟨i + 1, rfl, hlt, ?_⟩, by simp only; omega⟩
       rw [hz, hq]
       constructor
       ·rintro ⟨⟨e1, e2⟩, e3⟩
        refine ⟨e1, fun j hj => ?_⟩
        by_cases e : j = i
        ·subst e; exact e3
        ·exact e2 j (by omega)
       ·rintro ⟨e1, e2⟩
        exact ⟨⟨e1, fun j hj => e2 j (by omega)⟩, e2 i (by omega)⟩
      rw [zo]
      refine ⟨fun hq1 => ?_, fun hq1 => fin false (by have hq1 : q = false := hq1; rw [hq1]; simp)⟩
      have hq1 : q = true := hq1
      rw [zo]
      refine ⟨fun ho => ?_, fun ho => fin false ?_⟩
      ·have ho : (E a p.e0.toNat i).Out = (E b p.e1.toNat i).Out := by simpa using ho
       rw [zo]
       refine ⟨fun ht => ?_, fun ht => ?_⟩
       ·have ht : (E a p.e0.toNat i).To = -1 := by simpa using ht
        exact fin true (by simp [hq1, JQ, ho, ht])
       ·have ht : ¬ (E a p.e0.toNat i).To = -1 := by simpa using ht
        simp only [Option.bind_some]
        refine fin _ ?_
        rw [hm']
        simp [hq1, JQ, ho, ht]
      ·have ho : ¬ (E a p.e0.toNat i).Out = (E b p.e1.toNat i).Out := by simpa using ho
       simp [JQ, ho]
     ·have : i = kk a := by simp [g2] at hge; omega
      subst this
      rw [zc]
      exact hq
    refine (zK (R := fun t => t = true ↔ zak a b r) (fun s => ∃ i : Nat, s.2 = (i : Int) ∧ i ≤ r.length ∧ (s.1 = true ↔ zh.mk 0 0 ∈ r ∧ ∀ p ∈ r.take i, ∀ j, j < kk a → JQ a b r p j)) (fun s => 5000 - s.2.toNat) ⟨0, rfl, Nat.zero_le _, by simp [hm']⟩ (by simp) ?_).mono ?_
    ·rintro ⟨q, i'⟩ ⟨i, hi, hir, hq⟩
     simp only at hi hq
     subst hi
     unfold ya yZ
     rw [zo]
     refine ⟨fun hlt => ?_, fun hge => ?_⟩
     ·have hlt : i < r.length := by simpa using hlt
      have hx : r[i]? = some r[i] := List.getElem?_eq_getElem hlt
      have hin : r[i] ∈ r := List.getElem_mem hlt
      have hw : w64 ((i : Int) + 1) = ((i + 1 : Nat) : Int) := by rw [zF (by omega) (by omega)]; rfl
      obtain ⟨p0, p1, p2, p3⟩ := hall _ hin
      have h1 : r[i].e0.toNat < a.Rows.length := by omega
      rw [zA, bdT hx, zy, k9]
      refine ⟨p0, _, List.getElem?_eq_getElem h1, ?_⟩
      rw [zy]
      refine (l5 r[i] _ q hin (List.getElem?_eq_getElem h1)).mono fun z hz => ?_
      rw [zc, hw]
      have tk : r.take (i + 1) = r.take i ++ [r[i]] := by rw [List.take_add_one, hx]; rfl
      refine ⟨⟨i + 1, rfl, hlt, ?_⟩, by simp only; omega⟩
      rw [hz, hq, tk]
      constructor
      ·rintro ⟨⟨e1, e2⟩, e3⟩
       refine ⟨e1, fun p hp => ?_⟩
       rcases List.mem_append.1 hp with g | g
       ·exact e2 p g
       ·simp at g; subst g; exact e3
      ·rintro ⟨e1, e2⟩
       exact ⟨⟨e1, fun p hp => e2 p (List.mem_append_left _ hp)⟩, e2 _ (List.mem_append_right _ (List.mem_singleton.2 rfl))⟩
     ·have : i = r.length := by simp at hge; omega
      subst this
      rw [zc]
      rw [List.take_length] at hq
      exact hq
    ·intro t ht
     exact ⟨trivial, by simp [ht]⟩
   ·obtain ⟨hbad, rfl⟩ := hm
    rw [if_neg hbad, zc]
    exact ⟨rfl, by simp⟩
 ·simp only [bne_iff_ne, ne_eq, hb, not_false_eq_true, if_true]
  have : (Xb a b != 0) = true := by simpa using hb
  rw [this]
  simp only [cond_true, zc]
  exact ⟨trivial, by simp [hb]⟩
structure DOk (x : zB) : Prop where
 m : MOk x.M
 x2 : MOk x.X
 s0 : 0 ≤ x.Swap.e0 ∧ x.Swap.e0 ≤ 255
 s1 : 0 ≤ x.Swap.e1 ∧ x.Swap.e1 ≤ 255
 p0 : 0 ≤ x.Place.e0 ∧ x.Place.e0 ≤ 255
 p1 : 0 ≤ x.Place.e1 ∧ x.Place.e1 ≤ 255
theorem z6d (m : z6) (h : m.Rows.length ≤ 100) (h2 : ∀ r ∈ m.Rows, r.length ≤ 1000) : jq m = some m := by
 have hl : loop (fun s => ja m s.1 s.2) (([] : List (List z7)), 0) = some m.Rows := by
  refine Ret.eq (zK (fun s => ∃ i : Nat, s.2 = (i : Int) ∧ i ≤ m.Rows.length ∧ s.1 = m.Rows.take i) (fun s => 200 - s.2.toNat) ⟨0, rfl, Nat.zero_le _, rfl⟩ (by simp) ?_)
  rintro ⟨out, i'⟩ ⟨i, hi, hil, ho⟩
  simp only at hi ho
  subst hi ho
  unfold ja
  rw [zo]
  refine ⟨fun hlt => ?_, fun hge => ?_⟩
  ·have hlt : i < m.Rows.length := by simpa using hlt
   have hx : m.Rows[i]? = some m.Rows[i] := List.getElem?_eq_getElem hlt
   have := h2 _ (List.getElem_mem hlt)
   have hw : w64 ((i : Int) + 1) = ((i + 1 : Nat) : Int) := by rw [zF (by omega) (by omega)]; rfl
   rw [zA, bdT hx, gdT (by simp; omega), gdT (by simp; omega), zc, hw]
   exact ⟨⟨i + 1, rfl, hlt, by rw [List.take_add_one, hx]; rfl⟩, by simp only; omega⟩
  ·have : i = m.Rows.length := by simp at hge; omega
   subst this
   rw [zc, List.take_length]
   rfl
 unfold jq kj
 rw [bdT hl]
def X7 (n k o : Int) (rows : List (List z7)) : Prop := (rows.length : Int) = n ∧ ∀ r ∈ rows, (r.length : Int) = k ∧ ∀ e ∈ r, (e.To = -1 ∧ e.Out = -1) ∨ (0 ≤ e.To ∧ e.To < n ∧ 0 ≤ e.Out ∧ e.Out < o)
theorem z9x {m : z6} (h : VM m) : X7 m.Rows.length m.Inputs m.Outputs m.Rows := ⟨rfl, fun r hr => ⟨h.row r hr, fun e he => h.edge r hr e he⟩⟩
theorem X7.set {n k o : Int} {rows : List (List z7)} (h : X7 n k o rows) {s i : Nat} {r : List z7} (hr : rows[s]? = some r) {e : z7} (he : (e.To = -1 ∧ e.Out = -1) ∨ (0 ≤ e.To ∧ e.To < n ∧ 0 ≤ e.Out ∧ e.Out < o)) : X7 n k o (rows.set s (r.set i e)) := by
 refine ⟨by simpa using h.1, fun r' hr' => ?_⟩
 rcases List.mem_or_eq_of_mem_set hr' with g | g
 ·exact h.2 r' g
 ·subst g
  have := h.2 r (List.mem_of_getElem? hr)
  refine ⟨by simpa using this.1, fun e' he' => ?_⟩
  rcases List.mem_or_eq_of_mem_set he' with g | g
  ·exact this.2 e' g
  ·subst g; exact he
theorem z8T {m : z6} (h : VM m) {rows : List (List z7)} (hr : X7 m.Rows.length m.Inputs m.Outputs rows) : VM ⟨m.Inputs, m.Outputs, rows⟩ := by
 have e : rows.length = m.Rows.length := by have := hr.1; omega
 refine ⟨h.in1, h.in16, h.out1, h.out16, by rw [e]; exact h.len1, by rw [e]; exact h.len64, fun r q => (hr.2 r q).1, fun r q x hx => ?_⟩
 have := (hr.2 r q).2 x hx
 simp only [e]
 exact this
theorem zcP {x : zB} (h : DOk x) : Ret (qn x) fun r => VM r.1 ∧ VM r.2 ∧ r.1.Inputs = r.2.Inputs ∧ r.1.Rows.length ≤ 6 ∧ r.2.Rows.length ≤ 6 := by
 unfold qn
 rw [zy]
 refine (z8B h.m).mono fun a ha => ?_
 obtain ⟨va, ia, i3, o3, l6⟩ := ha
 rw [zo]
 refine ⟨fun _ => ?_, fun _ => ?_⟩
 ·rw [zy]
  refine (z8B (x := ⟨x.X.States, x.M.Inputs, x.X.Outputs, x.X.Partial, x.X.Edges⟩) ⟨h.x2.s0, h.m.i0, h.x2.o0, h.x2.e0⟩).mono fun b hb => ?_
  rw [zc]
  exact ⟨va, hb.1, by rw [ia, hb.2.1], l6, hb.2.2.2.2⟩
 have hto : Ret (loop (fun s => je a s.1 s.2) (([] : List Int), 0)) fun t => t.length = a.Rows.length ∧ ∀ v ∈ t, 0 ≤ v ∧ v < (a.Rows.length : Int) := by
  refine zK (fun s => ∃ i : Nat, s.2 = (i : Int) ∧ i ≤ a.Rows.length ∧ s.1.length = i ∧ ∀ v ∈ s.1, 0 ≤ v ∧ v < (a.Rows.length : Int)) (fun s => 200 - s.2.toNat) ⟨0, rfl, Nat.zero_le _, rfl, by simp⟩ (by simp) ?_
  rintro ⟨t, i'⟩ ⟨i, hi, hil, hl, hv⟩
  simp only at hi hl hv
  subst hi
  unfold je
  rw [zo]
  refine ⟨fun hlt => ?_, fun hge => ?_⟩
  ·have hlt : i < a.Rows.length := by simpa using hlt
   have hw : w64 ((i : Int) + 1) = ((i + 1 : Nat) : Int) := by rw [zF (by omega) (by omega)]; rfl
   rw [gdT (by simp; omega), zc, hw]
   refine ⟨⟨i + 1, rfl, hlt, by simp [hl], fun v hm => ?_⟩, by simp only; omega⟩
   rcases List.mem_append.1 hm with g | g
   ·exact hv v g
   ·rw [List.mem_singleton.1 g]; omega
  ·have : i = a.Rows.length := by simp at hge; omega
   subst this
   rw [zc]
   exact ⟨hl, hv⟩
 have rest : ∀ t : List Int, t.length = a.Rows.length → (∀ v ∈ t, 0 ≤ v ∧ v < (a.Rows.length : Int)) → Ret (uo x a t) fun r => VM r.1 ∧ VM r.2 ∧ r.1.Inputs = r.2.Inputs ∧ r.1.Rows.length ≤ 6 ∧ r.2.Rows.length ≤ 6 := by
  intro t tl tv
  have hrl : ∀ r ∈ a.Rows, r.length ≤ 1000 := fun r hr => by have := va.row r hr; omega
  unfold uo
  rw [bdT (z6d a (by omega) hrl), zy]
  have hk := va.kk_eq
  have k16 := va.kk_le
  have tAt : ∀ s : Nat, s < a.Rows.length → ∃ v, t[s]? = some v ∧ 0 ≤ v ∧ v < (a.Rows.length : Int) := fun s hs => by
   have hs' : s < t.length := by omega
   exact ⟨_, List.getElem?_eq_getElem hs', tv _ (List.getElem_mem hs')⟩
  have inner : ∀ (s : Nat) (rows : List (List z7)), s < a.Rows.length → X7 a.Rows.length a.Inputs a.Outputs rows → Ret (loop (fun q => jf a t (s : Int) q.1 q.2) (rows, 0)) fun r => X7 a.Rows.length a.Inputs a.Outputs r := by
   intro s rows hs hrows
   refine zK (fun q => ∃ i : Nat, q.2 = (i : Int) ∧ i ≤ kk a ∧ X7 a.Rows.length a.Inputs a.Outputs q.1) (fun q => 200 - q.2.toNat) ⟨0, rfl, Nat.zero_le _, hrows⟩ (by simp) ?_
   rintro ⟨q, i'⟩ ⟨i, hi, hil, hq⟩
   simp only at hi hq
   subst hi
   unfold jf
   rw [zo]
   refine ⟨fun hlt => ?_, fun hge => ?_⟩
   ·have hlt : i < kk a := by rw [← hk] at hlt; simpa using hlt
    have hw : w64 ((i : Int) + 1) = ((i + 1 : Nat) : Int) := by rw [zF (by omega) (by omega)]; rfl
    have hed := va.edgeAt hs hlt
    rw [va.edge_eq hs hlt]
    have fin : ∀ z : Int, ((z = -1 ∧ (E a s i).Out = -1) ∨ (0 ≤ z ∧ z < (a.Rows.length : Int) ∧ 0 ≤ (E a s i).Out ∧ (E a s i).Out < a.Outputs)) →
      Ret (un t (s : Int) q (i : Int) (E a s i) z) (LRP (fun s' => (∃ j : Nat, s'.2 = (j : Int) ∧ j ≤ kk a ∧ X7 a.Rows.length a.Inputs a.Outputs s'.1) ∧ 200 - s'.2.toNat < 200 - (i : Int).toNat) (fun r => X7 a.Rows.length a.Inputs a.Outputs r)) := by
     intro z hz
     obtain ⟨v, v1, v2, v3⟩ := tAt s hs
     unfold un
     rw [zA, bdT v1, zy, k9]
     have hql : v.toNat < q.length := by have := hq.1; omega
     have hqr : q[v.toNat]? = some q[v.toNat] := List.getElem?_eq_getElem hql
     have hrow := (hq.2 _ (List.getElem_mem hql)).1
     have hi2 : i < q[v.toNat].length := by omega
     refine ⟨v2, _, hqr, ?_⟩
     rw [zA, bdT (List.getElem?_eq_getElem hi2), zc, hw]
     exact ⟨⟨i + 1, rfl, hlt, hq.set hqr hz⟩, by simp only; omega⟩
    rw [zo]
    refine ⟨fun hto => ?_, fun hto => ?_⟩
    ·have hto : (E a s i).To ≥ 0 := of_decide_eq_true hto
     rcases hed with ⟨g1, _⟩ | ⟨g1, g2, g3, g4⟩
     ·omega
     ·obtain ⟨v, v1, v2, v3⟩ := tAt (E a s i).To.toNat (by omega)
      rw [zy, k9]
      exact ⟨g1, v, v1, fin v (.inr ⟨v2, v3, g3, g4⟩)⟩
    ·have hto : ¬ (E a s i).To ≥ 0 := of_decide_eq_false hto
     rcases hed with ⟨g1, g2⟩ | ⟨g1, g2, g3, g4⟩
     ·exact fin _ (.inl ⟨g1, g2⟩)
     ·omega
   ·rw [zc]
    exact hq
  have outer : Ret (loop (fun s => jg a t s.1 s.2) (a.Rows, 0)) fun r => X7 a.Rows.length a.Inputs a.Outputs r := by
   refine zK (fun q => ∃ i : Nat, q.2 = (i : Int) ∧ i ≤ a.Rows.length ∧ X7 a.Rows.length a.Inputs a.Outputs q.1) (fun q => 200 - q.2.toNat) ⟨0, rfl, Nat.zero_le _, z9x va⟩ (by simp) ?_
   rintro ⟨q, i'⟩ ⟨i, hi, hil, hq⟩
   simp only at hi hq
   subst hi
   unfold jg kn
   rw [zo]
   refine ⟨fun hlt => ?_, fun hge => ?_⟩
   ·have hlt : i < a.Rows.length := by simpa using hlt
    have hw : w64 ((i : Int) + 1) = ((i + 1 : Nat) : Int) := by rw [zF (by omega) (by omega)]; rfl
    rw [zy]
    refine (inner i q hlt hq).mono fun r hr => ?_
    rw [zc, hw]
    exact ⟨⟨i + 1, rfl, hlt, hr⟩, by simp only; omega⟩
   ·rw [zc]
    exact hq
  refine outer.mono fun rows hrows => ?_
  have vb := z8T va hrows
  have hrl' : ∀ r ∈ rows, r.length ≤ 1000 := fun r hr => by have := (hrows.2 r hr).1; omega
  have hrn := hrows.1
  unfold ko
  have hcp : jq (z6.mk a.Inputs a.Outputs rows) = some ⟨a.Inputs, a.Outputs, rows⟩ := z6d _ (by simp only; omega) hrl'
  rw [bdT hcp]
  have n0 : 1 ≤ a.Rows.length := va.len1
  have k0 : 1 ≤ a.Inputs := va.in1
  have w0 : w64 x.Place.e0 = x.Place.e0 := zF (by have := h.p0; omega) (by have := h.p0; omega)
  have w1 : w64 x.Place.e1 = x.Place.e1 := zF (by have := h.p1; omega) (by have := h.p1; omega)
  rw [w0, w1]
  have m0 := Int.tmod_nonneg (a.Rows.length : Int) h.p0.1
  have m1 := Int.tmod_lt_of_pos x.Place.e0 (show (0 : Int) < (a.Rows.length : Int) by omega)
  have m2 := Int.tmod_nonneg a.Inputs h.p1.1
  have m3 := Int.tmod_lt_of_pos x.Place.e1 (show (0 : Int) < a.Inputs by omega)
  generalize Int.tmod x.Place.e0 (a.Rows.length : Int) = ps at m0 m1 ⊢
  generalize Int.tmod x.Place.e1 a.Inputs = pi at m2 m3 ⊢
  have hpl : ps.toNat < rows.length := by omega
  rw [uu]
  refine ⟨by omega, ?_⟩
  rw [zy, k9]
  refine ⟨m0, _, List.getElem?_eq_getElem hpl, ?_⟩
  have hrow := (hrows.2 _ (List.getElem_mem hpl)).1
  rw [uu]
  refine ⟨by omega, ?_⟩
  rw [zy, k9]
  refine ⟨m2, _, List.getElem?_eq_getElem (show pi.toNat < rows[ps.toNat].length by omega), ?_⟩
  rw [bdT (z5u _), zo]
  refine ⟨fun hc => ?_, fun _ => ?_⟩
  ·rw [zc]
   have hc := z6P (show chk _ = 0 by simpa using hc)
   refine ⟨va, hc, rfl, l6, ?_⟩
   simp only [List.length_set]
   omega
  ·rw [zc]
   exact ⟨va, vb, rfl, l6, by simp only; omega⟩
 rw [zy]
 refine hto.mono fun t ht => ?_
 obtain ⟨tl, tv⟩ := ht
 unfold kp
 rw [zo]
 refine ⟨fun hn => ?_, fun _ => rest t tl tv⟩
 have hn : (a.Rows.length : Int) > 1 := of_decide_eq_true hn
 have wn : w64 ((a.Rows.length : Int) - 1) = (a.Rows.length : Int) - 1 := zF (by omega) (by omega)
 have w0 : w64 x.Swap.e0 = x.Swap.e0 := zF (by have := h.s0; omega) (by have := h.s0; omega)
 have w1 : w64 x.Swap.e1 = x.Swap.e1 := zF (by have := h.s1; omega) (by have := h.s1; omega)
 rw [wn, w0, w1]
 have m0 := Int.tmod_nonneg ((a.Rows.length : Int) - 1) h.s0.1
 have m1 := Int.tmod_lt_of_pos x.Swap.e0 (show (0 : Int) < (a.Rows.length : Int) - 1 by omega)
 have m2 := Int.tmod_nonneg ((a.Rows.length : Int) - 1) h.s1.1
 have m3 := Int.tmod_lt_of_pos x.Swap.e1 (show (0 : Int) < (a.Rows.length : Int) - 1 by omega)
 generalize Int.tmod x.Swap.e0 ((a.Rows.length : Int) - 1) = p at m0 m1 ⊢
 generalize Int.tmod x.Swap.e1 ((a.Rows.length : Int) - 1) = q at m2 m3 ⊢
 have wp : w64 (1 + p) = 1 + p := zF (by omega) (by omega)
 have wq : w64 (1 + q) = 1 + q := zF (by omega) (by omega)
 rw [wp, wq, uu]
 refine ⟨by omega, ?_⟩
 rw [uu]
 refine ⟨by omega, ?_⟩
 have hq : (1 + q).toNat < t.length := by omega
 have hp : (1 + p).toNat < t.length := by omega
 rw [zy, k9]
 refine ⟨by omega, _, List.getElem?_eq_getElem hq, ?_⟩
 rw [zy, k9]
 refine ⟨by omega, _, List.getElem?_eq_getElem hp, ?_⟩
 rw [zy, k9]
 refine ⟨by omega, _, List.getElem?_eq_getElem hp, ?_⟩
 rw [zy, k9]
 refine ⟨by omega, _, List.getElem?_eq_getElem (by simpa using hq), ?_⟩
 refine rest _ (by simpa using tl) fun v hv => ?_
 rcases List.mem_or_eq_of_mem_set hv with g | g
 ·rcases List.mem_or_eq_of_mem_set g with g | g
  ·exact tv v g
  ·subst g; exact tv _ (List.getElem_mem hq)
 ·subst g; exact tv _ (List.getElem_mem hp)
theorem z2a {α : Type} {p q : α → Bool} : ∀ {l : List α}, (∀ x ∈ l, p x = true → q x = true) → (∃ x ∈ l, q x = true ∧ p x = false) → l.countP p < l.countP q
 | [], _, ⟨x, hx, _⟩ => by cases hx
 | y :: l, h, ⟨x, hx, h1, h2⟩ => by
  have hm : l.countP p ≤ l.countP q := List.countP_mono_left fun z hz => h z (List.mem_cons_of_mem _ hz)
  simp only [List.countP_cons]
  rcases List.mem_cons.1 hx with rfl | hx
  ·simp only [h1, h2, if_true, Bool.false_eq_true, if_false]
   omega
  ·have := z2a (fun z hz => h z (List.mem_cons_of_mem _ hz)) ⟨x, hx, h1, h2⟩
   cases hp : p y with
   | true => simp only [h y (by simp) hp, if_true]; omega
   | false =>
    simp only [Bool.false_eq_true, if_false]
    split <;> omega
open Classical in
def z8v (N : Nat) (R : Nat → Nat → Prop) : Nat := (List.range N).countP fun s => decide (∀ t, t < s → ¬ R s t)
theorem zer {N : Nat} (hN : 0 < N) (R : Nat → Nat → Nat → Prop) (symm : ∀ k s t, s < N → t < N → R k s t → R k t s) (trans : ∀ k s t u, s < N → t < N → u < N → R k s t → R k t u → R k s u)
  (refl : ∀ k s, s < N → R k s s) (mono : ∀ k s t, s < N → t < N → R (k + 1) s t → R k s t) (stat : ∀ k, (∀ s t, s < N → t < N → R k s t → R (k + 1) s t) → ∀ s t, s < N → t < N → R (k + 1) s t → R (k + 2) s t) :
  ∀ s t, s < N → t < N → R (N - 1) s t → ∀ j, R j s t := by
 classical
 have step : ∀ k, (¬ ∀ s t, s < N → t < N → R k s t → R (k + 1) s t) → z8v N (R k) < z8v N (R (k + 1)) := by
  intro k hk
  simp only [Classical.not_forall] at hk
  obtain ⟨s, t, hs, ht, h1, h2⟩ := hk
  unfold z8v
  refine z2a (fun x hx => ?_) ?_
  ·have hx := List.mem_range.1 hx
   simp only [decide_eq_true_eq]
   exact fun h t ht q => h t ht (mono k x t hx (by omega) q)
  ·
   have hmin : ∃ z, z < N ∧ R k z s ∧ ∀ y, y < z → ¬ R k y s := by
    have key : ∀ n, ∀ z, z ≤ n → z < N → R k z s → ∃ z, z < N ∧ R k z s ∧ ∀ y, y < z → ¬ R k y s := by
     intro n
     induction n with
     | zero => intro z hz hzN hr; exact ⟨z, hzN, hr, fun y hy => by omega⟩
     | succ n ih =>
      intro z hz hzN hr
      by_cases q : ∃ y, y < z ∧ R k y s
      ·obtain ⟨y, y1, y2⟩ := q
       exact ih y (by omega) (by omega) y2
      ·exact ⟨z, hzN, hr, fun y hy g => q ⟨y, hy, g⟩⟩
    exact key s s (Nat.le_refl _) hs (refl k s hs)
   obtain ⟨z, hz, hzs, hzm⟩ := hmin
   have hzt : R k z t := trans k z s t hz hs ht hzs h1
   obtain ⟨u, hu, hzu, hne⟩ : ∃ u, u < N ∧ R k z u ∧ ¬ R (k + 1) z u := by
    by_cases q : R (k + 1) z s
    ·by_cases g : R (k + 1) z t
     ·exact (h2 (trans (k + 1) s z t hs hz ht (symm _ _ _ hz hs q) g)).elim
     ·exact ⟨t, ht, hzt, g⟩
    ·exact ⟨s, hs, hzs, q⟩
   have hmin : ∃ y, y < N ∧ R (k + 1) y u ∧ ∀ x, x < y → ¬ R (k + 1) x u := by
    have key : ∀ n, ∀ z, z ≤ n → z < N → R (k + 1) z u → ∃ z, z < N ∧ R (k + 1) z u ∧ ∀ y, y < z → ¬ R (k + 1) y u := by
     intro n
     induction n with
     | zero => intro z hz hzN hr; exact ⟨z, hzN, hr, fun y hy => by omega⟩
     | succ n ih =>
      intro z hz hzN hr
      by_cases q : ∃ y, y < z ∧ R (k + 1) y u
      ·obtain ⟨y, y1, y2⟩ := q
       exact ih y (by omega) (by omega) y2
      ·exact ⟨z, hzN, hr, fun y hy g => q ⟨y, hy, g⟩⟩
    exact key u u (Nat.le_refl _) hu (refl _ u hu)
   obtain ⟨y, hy, hyu, hym⟩ := hmin
   have hyk : R k y u := mono k y u hy hu hyu
   have hyz : R k y z := trans k y u z hy hu hz hyk (symm _ _ _ hz hu hzu)
   have hzy : z < y := by
    rcases Nat.lt_trichotomy z y with g | g | g
    ·exact g
    ·subst g; exact (hne hyu).elim
    ·exact (hzm y g (trans k y z s hy hz hs hyz hzs)).elim
   refine ⟨y, List.mem_range.2 hy, ?_, ?_⟩
   ·simp only [decide_eq_true_eq]
    intro x hx q
    exact hym x hx (trans (k + 1) x y u (by omega) hy hu (symm _ _ _ hy (by omega) q) hyu)
   ·simp only [decide_eq_false_iff_not]
    intro q
    exact q z hzy hyz
 have le : ∀ k, z8v N (R k) ≤ N := by
  intro k
  unfold z8v
  refine Nat.le_trans (List.countP_le_length) ?_
  simp
 have one : ∀ k, 1 ≤ z8v N (R k) := by
  intro k
  unfold z8v
  refine List.countP_pos_iff.2 ⟨0, List.mem_range.2 hN, ?_⟩
  simp
 have rest : ∃ k, k < N ∧ ∀ s t, s < N → t < N → R k s t → R (k + 1) s t := by
  refine Classical.byContradiction fun hno => ?_
  have : ∀ k, k ≤ N → k + 1 ≤ z8v N (R k) := by
   intro k
   induction k with
   | zero => intro _; exact one 0
   | succ k ih =>
    intro hk
    have := step k fun h => hno ⟨k, by omega, h⟩
    have := ih (by omega)
    omega
  have := this N (Nat.le_refl _)
  have := le N
  omega
 obtain ⟨k, hk, hst⟩ := rest
 have up : ∀ d, ∀ s t, s < N → t < N → R (k + d) s t → R (k + d + 1) s t := by
  intro d
  induction d with
  | zero => exact hst
  | succ d ih => exact stat (k + d) ih
 have down : ∀ d j s t, s < N → t < N → R (j + d) s t → R j s t := by
  intro d
  induction d with
  | zero => intro j s t _ _ h; exact h
  | succ d ih => intro j s t hs ht h; exact ih j s t hs ht (mono _ s t hs ht h)
 intro s t hs ht h j
 have hk' : R k s t := down (N - 1 - k) k s t hs ht (by rw [show k + (N - 1 - k) = N - 1 by omega]; exact h)
 have far : ∀ d, R (k + d) s t := by
  intro d
  induction d with
  | zero => exact hk'
  | succ d ih => exact up d s t hs ht ih
 exact down k j s t hs ht (by rw [Nat.add_comm]; exact far j)
section
variable {S S' : Type} {k : Nat} {bad : S → Nat → Bool} {nx : S → Nat → Option S} {bad' : S' → Nat → Bool} {nx' : S' → Nat → Option S'} (φ : S → S') (I : S → Prop)
 (hI : ∀ p i q, I p → i < k → nx p i = some q → I q) (hb : ∀ p i, I p → i < k → bad' (φ p) i = bad p i) (hn : ∀ p i, I p → i < k → nx' (φ p) i = (nx p i).map φ)
include hI hb hn
theorem XV : ∀ (n : Nat) (p : S), I p → (Mk k bad' nx' n (φ p) ↔ Mk k bad nx n p)
 | 0, _, _ => Iff.rfl
 | n + 1, p, hp => by
  simp only [Mk]
  rw [XV n p hp]
  constructor
  ·rintro (h | ⟨i, hi, h | ⟨q, hq, h⟩⟩)
   ·exact .inl h
   ·exact .inr ⟨i, hi, .inl (by rw [← hb p i hp hi]; exact h)⟩
   ·rw [hn p i hp hi] at hq
    obtain ⟨r, hr, rfl⟩ := Option.map_eq_some_iff.1 hq
    exact .inr ⟨i, hi, .inr ⟨r, hr, (XV n r (hI p i r hp hi hr)).1 h⟩⟩
  ·rintro (h | ⟨i, hi, h | ⟨q, hq, h⟩⟩)
   ·exact .inl h
   ·exact .inr ⟨i, hi, .inl (by rw [hb p i hp hi]; exact h)⟩
   ·exact .inr ⟨i, hi, .inr ⟨φ q, by rw [hn p i hp hi, hq]; rfl, (XV n q (hI p i q hp hi hq)).2 h⟩⟩
theorem Q2 : ∀ (n : Nat) (p : S) (w : List Nat), I p → X8 k bad' nx' n (φ p) w → X8 k bad nx n p w
 | 0, _, _, _, h => h
 | n + 1, p, w, hp, ⟨i, u, e, hi, h1, h2, h3, h4⟩ => by
  refine ⟨i, u, e, hi, ?_, ?_, ?_, h4⟩
  ·rcases h1 with h | ⟨q, hq, h⟩
   ·exact .inl (by rw [← hb p i hp hi]; exact h)
   ·rw [hn p i hp hi] at hq
    obtain ⟨r, hr, rfl⟩ := Option.map_eq_some_iff.1 hq
    exact .inr ⟨r, hr, (XV φ I hI hb hn n r (hI p i r hp hi hr)).1 h⟩
  ·intro j hj h
   apply h2 j hj
   rcases h with h | ⟨q, hq, h⟩
   ·exact .inl (by rw [hb p j hp (by omega)]; exact h)
   ·exact .inr ⟨φ q, by rw [hn p j hp (by omega), hq]; rfl, (XV φ I hI hb hn n q (hI p j q hp (by omega) hq)).2 h⟩
  ·intro hn0
   obtain ⟨q, hq, h⟩ := h3 hn0
   rw [hn p i hp hi] at hq
   obtain ⟨r, hr, rfl⟩ := Option.map_eq_some_iff.1 hq
   exact ⟨r, hr, Q2 n r u (hI p i r hp hi hr) h⟩
end
structure WM (m : z6) : Prop where
 in1 : 1 ≤ m.Inputs
 in16 : m.Inputs ≤ 16
 len1 : 1 ≤ m.Rows.length
 len : m.Rows.length ≤ 128
 row : ∀ r ∈ m.Rows, (r.length : Int) = m.Inputs
 edge : ∀ r ∈ m.Rows, ∀ x ∈ r, (x.To = -1 ∧ x.Out = -1) ∨ (0 ≤ x.To ∧ x.To < (m.Rows.length : Int) ∧ 0 ≤ x.Out)
theorem VM.wm {m : z6} (h : VM m) : WM m := ⟨h.in1, h.in16, h.len1, by have := h.len64; omega, h.row, fun r hr x hx => by
 rcases h.edge r hr x hx with g | ⟨g1, g2, g3, _⟩
 ·exact .inl g
 ·exact .inr ⟨g1, g2, g3⟩⟩
section
variable {m : z6} (h : WM m)
include h
theorem WM.kk_eq : ((kk m : Nat) : Int) = m.Inputs := by have := h.in1; unfold kk; omega
theorem WM.kk_le : kk m ≤ 16 := by have := h.in16; unfold kk; omega
theorem WM.rowAt {s : Nat} (hs : s < m.Rows.length) : ∃ r, m.Rows[s]? = some r ∧ r.length = kk m ∧ ∀ i, i < kk m → r[i]? = some (E m s i) := by
 have hr := List.getElem?_eq_getElem hs
 have hl := h.row _ (List.getElem_mem hs)
 have hl' : m.Rows[s].length = kk m := by unfold kk; omega
 refine ⟨_, hr, hl', fun i hi => ?_⟩
 have hi' : i < m.Rows[s].length := by omega
 unfold E
 rw [hr]
 simp only [Option.getD_some]
 rw [List.getElem?_eq_getElem hi']
 rfl
theorem WM.edgeAt {s i : Nat} (hs : s < m.Rows.length) (hi : i < kk m) : ((E m s i).To = -1 ∧ (E m s i).Out = -1) ∨ (0 ≤ (E m s i).To ∧ (E m s i).To < (m.Rows.length : Int) ∧ 0 ≤ (E m s i).Out) := by
 obtain ⟨r, h1, _, h2⟩ := h.rowAt hs
 exact h.edge r (List.mem_of_getElem? h1) _ (List.mem_of_getElem? (h2 i hi))
theorem WM.edge_eq {s i : Nat} (hs : s < m.Rows.length) (hi : i < kk m) {β : Type} {f : z7 → Option β} :
  (Option.bind (idx m.Rows (s : Int)) fun r => Option.bind (idx r (i : Int)) f) = f (E m s i) := by
 obtain ⟨r, h1, _, h2⟩ := h.rowAt hs
 rw [zA, h1, Option.bind_some, zA, h2 i hi, Option.bind_some]
theorem WM.nx_in {p : Nat × Nat} {i : Nat} {q : Nat × Nat} (h1 : p.1 < m.Rows.length) (h2 : p.2 < m.Rows.length) (hi : i < kk m) (hq : nxP m m p i = some q) : q.1 < m.Rows.length ∧ q.2 < m.Rows.length := by
 unfold nxP at hq
 split at hq
 ·rename_i hc
  cases hq
  have a := h.edgeAt h1 hi
  have b := h.edgeAt h2 hi
  simp only
  omega
 ·cases hq
end
def mkb (k : Nat) (bad : Nat × Nat → Nat → Bool) (nx : Nat × Nat → Nat → Option (Nat × Nat)) : Nat → Nat × Nat → Bool
 | 0, _ => false
 | n + 1, p => mkb k bad nx n p || (List.range k).any fun i => bad p i || (match nx p i with | some q => mkb k bad nx n q | none => false)
theorem YE (k : Nat) (bad : Nat × Nat → Nat → Bool) (nx : Nat × Nat → Nat → Option (Nat × Nat)) : ∀ (n : Nat) (p : Nat × Nat), mkb k bad nx n p = true ↔ Mk k bad nx n p
 | 0, p => by simp [mkb, Mk]
 | n + 1, p => by
  simp only [mkb, Mk, Bool.or_eq_true, List.any_eq_true, List.mem_range, YE k bad nx n p]
  constructor
  ·rintro (h | ⟨i, hi, h | h⟩)
   ·exact .inl h
   ·exact .inr ⟨i, hi, .inl h⟩
   ·cases hq : nx p i with
    | none => rw [hq] at h; cases h
    | some q => rw [hq] at h; exact .inr ⟨i, hi, .inr ⟨q, hq, (YE k bad nx n q).1 h⟩⟩
  ·rintro (h | ⟨i, hi, h | ⟨q, hq, h⟩⟩)
   ·exact .inl h
   ·exact .inr ⟨i, hi, .inl h⟩
   ·exact .inr ⟨i, hi, .inr (by rw [hq]; exact (YE k bad nx n q).2 h)⟩
def tab (N : Nat) (f : Nat → Nat → Bool) : List (List Bool) := (List.range N).map fun s => (List.range N).map fun t => f s t
theorem z1i {N s t : Nat} (f : Nat → Nat → Bool) (hs : s < N) (ht : t < N) {β : Type} {g : Bool → Option β} : (Option.bind (idx (tab N f) (s : Int)) fun r => Option.bind (idx r (t : Int)) g) = g (f s t) := by
 have e1 : (tab N f)[s]? = some ((List.range N).map fun t => f s t) := by simp [tab, hs]
 have e2 : ((List.range N).map fun t => f s t)[t]? = some (f s t) := by simp [ht]
 rw [zA, e1, Option.bind_some, zA, e2, Option.bind_some]
theorem Jt {α : Type} (N t : Nat) (g : Nat → α) (v : α) : ((List.range N).map g).set t v = (List.range N).map fun x => if x = t then v else g x := by
 refine List.ext_getElem (by simp) fun n h1 h2 => ?_
 simp only [List.getElem_set, List.getElem_map, List.getElem_range]
 by_cases e : t = n
 ·rw [if_pos e, if_pos e.symm]
 ·rw [if_neg e, if_neg (Ne.symm e)]
def XO (m : z6) (f : Nat → Nat → Bool) (p : Nat × Nat) (i : Nat) : Bool := yH m m p i || (match nxP m m p i with | some q => f q.1 q.2 | none => false)
theorem z8c {m : z6} (h : WM m) (f : Nat → Nat → Bool) {s t : Nat} (hs : s < m.Rows.length) (ht : t < m.Rows.length) :
  kU m (tab m.Rows.length f) (s : Int) (t : Int) = some (if (List.range (kk m)).any (XO m f (s, t)) = true then 1 else 0) := by
 have hk := h.kk_eq
 have k16 := h.kk_le
 have hl : loop (fun q => vq m (tab m.Rows.length f) (s : Int) (t : Int) q) 0 = some (oS (yN (fun _ i => if XO m f (s, t) i = true then some (1 : Int) else none) (List.range (kk m)) 0)) := by
  refine wW (List.range (kk m)) (by simp; omega) _ ?_ ?_
  ·intro i x hx
   have hi : i < kk m := by have := (List.getElem?_eq_some_iff.1 hx).1; simpa using this
   have : x = i := by rw [List.getElem?_range hi] at hx; exact (Option.some.inj hx).symm
   subst this
   unfold vq vt
   have hd : decide ((x : Int) < m.Inputs) = true := by rw [← hk]; simpa using hi
   rw [hd, cond_true, h.edge_eq hs hi, h.edge_eq ht hi]
   have e1 := h.edgeAt hs hi
   have e2 := h.edgeAt ht hi
   by_cases hbad : (E m s x).Out = (E m t x).Out
   ·have n1 : ((E m s x).Out != (E m t x).Out) = false := by simpa using hbad
    rw [n1, cond_false]
    by_cases t1 : (E m s x).To ≥ 0
    ·by_cases t2 : (E m t x).To ≥ 0
     ·have hnx : nxP m m (s, t) x = some ((E m s x).To.toNat, (E m t x).To.toNat) := by unfold nxP; rw [if_pos ⟨t1, t2⟩]
      have hin := h.nx_in hs ht hi hnx
      have c1 : (E m s x).To = (((E m s x).To.toNat : Nat) : Int) := by omega
      have c2 : (E m t x).To = (((E m t x).To.toNat : Nat) : Int) := by omega
      have ht1 : XO m f (s, t) x = f (E m s x).To.toNat (E m t x).To.toNat := by
       unfold XO yH
       rw [hnx]
       simp only [n1, Bool.false_or]
      rw [decide_eq_true t1, decide_eq_true t2]
      simp only [cond_true]
      have := z1i f hin.1 hin.2 (g := fun v => bif v then some (LR.done (Sum.inr (1 : Int)) : LR Int (Unit ⊕ Int)) else some (LR.next (w64 ((x : Int) + 1))))
      rw [← c1, ← c2] at this
      rw [this, ht1]
      cases f (E m s x).To.toNat (E m t x).To.toNat <;> rfl
     ·have ht1 : XO m f (s, t) x = false := by
       unfold XO yH nxP
       rw [if_neg (by simp only; omega)]
       simp only [n1, Bool.false_or]
      rw [decide_eq_true t1, decide_eq_false t2, ht1]
      rfl
    ·have ht1 : XO m f (s, t) x = false := by
      unfold XO yH nxP
      rw [if_neg (by simp only; omega)]
      simp only [n1, Bool.false_or]
     rw [decide_eq_false t1, ht1]
     rfl
   ·have n1 : ((E m s x).Out != (E m t x).Out) = true := by simpa using hbad
    have ht1 : XO m f (s, t) x = true := by
     unfold XO yH
     simp only [n1, Bool.true_or]
    rw [n1, ht1]
    rfl
  ·unfold vq
   rw [List.length_range, hk]
   simp
 unfold kU
 rw [bdT hl]
 cases hf : yN (fun (_ : Nat) i => if XO m f (s, t) i = true then some (1 : Int) else none) (List.range (kk m)) 0 with
 | some q =>
  obtain ⟨i, x, h1, h2⟩ := wL hf
  split at h2
  ·rename_i hx
   cases h2
   have : (List.range (kk m)).any (XO m f (s, t)) = true := List.any_eq_true.2 ⟨x, List.mem_of_getElem? h1, hx⟩
   rw [if_pos this]
   rfl
  ·cases h2
 | none =>
  have : ¬ (List.range (kk m)).any (XO m f (s, t)) = true := by
   rw [List.any_eq_true]
   rintro ⟨x, hx, hx2⟩
   obtain ⟨i, hi⟩ := List.getElem?_of_mem hx
   have := xK hf i x hi
   rw [if_pos hx2] at this
   cases this
  rw [if_neg this]
  rfl
theorem z2D (N : Nat) : List.replicate ((N : Nat) : Int).toNat false = (List.range N).map fun _ => false := by
 refine List.ext_getElem (by simp) fun n h1 h2 => ?_
 simp
def Zj (m : z6) (f : Nat → Nat → Bool) (s t : Nat) : Bool := f s t || (List.range (kk m)).any (XO m f (s, t))
theorem z7q {m : z6} (h : WM m) (f : Nat → Nat → Bool) : loop (fun q => xZ m (tab m.Rows.length f) q.1 q.2) (([] : List (List Bool)), 0) = some (tab m.Rows.length (Zj m f)) := by
 have l128 := h.len
 have row : ∀ (s : Nat), s < m.Rows.length → loop (fun q => xY m (tab m.Rows.length f) (s : Int) q.1 q.2) (((List.range s).map fun s => (List.range m.Rows.length).map fun t => Zj m f s t) ++ [(List.range m.Rows.length).map fun _ => false], 0) = some ((List.range (s + 1)).map fun s => (List.range m.Rows.length).map fun t => Zj m f s t) := by
  intro s hs
  have hst := uZ (step := fun q => xY m (tab m.Rows.length f) (s : Int) q.1 q.2) (fun t : Nat => (((List.range s).map fun s => (List.range m.Rows.length).map fun t => Zj m f s t) ++ [(List.range m.Rows.length).map fun t' => if t' < t then Zj m f s t' else false], (t : Int))) m.Rows.length (t := (List.range (s + 1)).map fun s => (List.range m.Rows.length).map fun t => Zj m f s t) (by omega) ?_ ?_
  ·simpa using hst
  ·intro t ht
   unfold xY
   have hd : decide ((t : Int) < ((m.Rows.length : Nat) : Int)) = true := by simpa using ht
   have hw : w64 ((t : Int) + 1) = ((t + 1 : Nat) : Int) := by rw [zF (by omega) (by omega)]; rfl
   simp only [hd, cond_true]
   have e1 : (((List.range s).map fun s => (List.range m.Rows.length).map fun t => Zj m f s t) ++ [(List.range m.Rows.length).map fun t' => if t' < t then Zj m f s t' else false])[s]? = some ((List.range m.Rows.length).map fun t' => if t' < t then Zj m f s t' else false) := by
    rw [List.getElem?_append_right (by simp)]
    simp
   have e2 : ∀ x, ((List.range m.Rows.length).map fun t' => if t' < t then Zj m f s t' else false)[t]? = some x ↔ x = false := by
    intro x
    simp [ht, eq_comm]
   have e2' := (e2 false).2 rfl
   have fin : ∀ v : Bool, v = Zj m f s t → (((List.range s).map fun s => (List.range m.Rows.length).map fun t => Zj m f s t) ++ [(List.range m.Rows.length).map fun t' => if t' < t then Zj m f s t' else false]).set s (((List.range m.Rows.length).map fun t' => if t' < t then Zj m f s t' else false).set t v) = ((List.range s).map fun s => (List.range m.Rows.length).map fun t => Zj m f s t) ++ [(List.range m.Rows.length).map fun t' => if t' < t + 1 then Zj m f s t' else false] := by
    intro v hv
    rw [List.set_append, if_neg (by simp), Jt]
    simp only [List.length_map, List.length_range, Nat.sub_self, List.set_cons_zero]
    congr 3
    funext x
    by_cases e : x = t
    ·subst e; rw [if_pos rfl, if_pos (by omega)]; exact hv
    ·rw [if_neg e]
     by_cases g : x < t
     ·rw [if_pos g, if_pos (by omega)]
     ·rw [if_neg g, if_neg (by omega)]
   rw [zA, bdT e1, z1i f hs ht]
   cases hf : f s t with
   | true =>
    simp only [cond_true]
    rw [zA, bdT e2', hw, Int.toNat_natCast, Int.toNat_natCast, fin true (by simp [Zj, hf])]
   | false =>
    simp only [cond_false]
    rw [bdT (z8c h f hs ht), zA, bdT e2', hw, Int.toNat_natCast, Int.toNat_natCast, fin _ ?_]
    unfold Zj
    rw [hf, Bool.false_or]
    cases (List.range (kk m)).any (XO m f (s, t)) <;> rfl
  ·unfold xY
   simp only [Int.lt_irrefl, decide_false, cond_false]
   congr 3
   rw [List.range_succ, List.map_append]
   congr 1
   simp only [List.map_cons, List.map_nil]
   congr 1
   refine List.map_congr_left fun x hx => ?_
   rw [if_pos (List.mem_range.1 hx)]
 have := uZ (step := fun q => xZ m (tab m.Rows.length f) q.1 q.2) (fun s : Nat => ((List.range s).map fun s => (List.range m.Rows.length).map fun t => Zj m f s t, (s : Int))) m.Rows.length (t := tab m.Rows.length (Zj m f)) (by omega) ?_ ?_
 ·exact this
 ·intro s hs
  unfold xZ qU
  have hd : decide ((s : Int) < ((m.Rows.length : Nat) : Int)) = true := by simpa using hs
  have hw : w64 ((s : Int) + 1) = ((s + 1 : Nat) : Int) := by rw [zF (by omega) (by omega)]; rfl
  simp only [hd, cond_true]
  rw [gdT (by omega), gdT (by simp; omega), z2D, bdT (row s hs), hw]
 ·unfold xZ
  simp only [Int.lt_irrefl, decide_false, cond_false]
  rfl
def mrk (m : z6) (n s t : Nat) : Bool := mkb (kk m) (yH m m) (nxP m m) n (s, t)
theorem z7B (m : z6) (n : Nat) : Zj m (mrk m n) = mrk m (n + 1) := by
 funext s t
 unfold Zj mrk
 simp only [mkb]
 congr 1
theorem JU {m : z6} (h : WM m) (n : Nat) (hn : n ≤ 1000000) : uc m (n : Int) = some (tab m.Rows.length (mrk m n)) := by
 have l128 := h.len
 have l9 : loop (fun q => xX m q.1 q.2) (([] : List (List Bool)), 0) = some (tab m.Rows.length (mrk m 0)) := by
  have := uZ (step := fun q => xX m q.1 q.2) (fun s : Nat => ((List.range s).map fun _ => (List.range m.Rows.length).map fun _ => false, (s : Int))) m.Rows.length (t := tab m.Rows.length (mrk m 0)) (by omega) ?_ ?_
  ·exact this
  ·intro s hs
   unfold xX
   have hd : decide ((s : Int) < ((m.Rows.length : Nat) : Int)) = true := by simpa using hs
   have hw : w64 ((s : Int) + 1) = ((s + 1 : Nat) : Int) := by rw [zF (by omega) (by omega)]; rfl
   simp only [hd, cond_true]
   rw [gdT (by omega), gdT (by simp; omega), z2D, hw, List.range_succ, List.map_append]
   rfl
  ·unfold xX
   simp only [Int.lt_irrefl, decide_false, cond_false]
   rfl
 have l3 := uZ (step := fun q => w6 m (n : Int) q.1 q.2) (fun r : Nat => (tab m.Rows.length (mrk m r), (r : Int))) n (t := tab m.Rows.length (mrk m n)) (by omega) ?_ ?_
 ·unfold uc qY qX
  rw [bdT l9]
  have l3' : loop (fun q => w6 m (n : Int) q.1 q.2) (tab m.Rows.length (mrk m 0), 0) = some (tab m.Rows.length (mrk m n)) := l3
  rw [bdT l3']
 ·intro r hr
  unfold w6 qV qW
  have hd : decide ((r : Int) < (n : Int)) = true := by simpa using hr
  have hw : w64 ((r : Int) + 1) = ((r + 1 : Nat) : Int) := by rw [zF (by omega) (by omega)]; rfl
  simp only [hd, cond_true]
  rw [bdT (z7q h (mrk m r)), z7B, hw]
 ·unfold w6
  simp only [Int.lt_irrefl, decide_false, cond_false]
theorem z3L {m : z6} (h : WM m) {s t : Nat} (hs : s < m.Rows.length) (ht : t < m.Rows.length) {j : Nat} (hj : Mk (kk m) (yH m m) (nxP m m) j (s, t)) : Mk (kk m) (yH m m) (nxP m m) (m.Rows.length - 1) (s, t) := by
 refine Classical.byContradiction fun hno => ?_
 have same : ∀ {p : Nat × Nat} {i : Nat}, p.1 < m.Rows.length → p.2 < m.Rows.length → i < kk m → yH m m p i = false → ((E m p.1 i).To ≥ 0 ↔ (E m p.2 i).To ≥ 0) := by
  intro p i h1 h2 hi hb
  have e : (E m p.1 i).Out = (E m p.2 i).Out := by simpa [yH] using hb
  have a := h.edgeAt h1 hi
  have b := h.edgeAt h2 hi
  omega
 have symm : ∀ k s t, Mk (kk m) (yH m m) (nxP m m) k (s, t) → Mk (kk m) (yH m m) (nxP m m) k (t, s) := by
  intro k
  induction k with
  | zero => intro s t h; exact h
  | succ k ih =>
   rintro s t (h | ⟨i, hi, h | ⟨q, hq, h⟩⟩)
   ·exact .inl (ih _ _ h)
   ·exact .inr ⟨i, hi, .inl (by
     unfold yH at h ⊢
     simp only [bne_iff_ne, ne_eq] at h ⊢
     exact fun e => h e.symm)⟩
   ·refine .inr ⟨i, hi, .inr ⟨(q.2, q.1), ?_, ih _ _ h⟩⟩
    unfold nxP at hq ⊢
    split at hq
    ·rename_i hc
     cases hq
     rw [if_pos ⟨hc.2, hc.1⟩]
    ·cases hq
 have trans : ∀ k s t u, s < m.Rows.length → t < m.Rows.length → u < m.Rows.length → Mk (kk m) (yH m m) (nxP m m) k (s, u) → Mk (kk m) (yH m m) (nxP m m) k (s, t) ∨ Mk (kk m) (yH m m) (nxP m m) k (t, u) := by
  intro k
  induction k with
  | zero => intro s t u _ _ _ h; exact h.elim
  | succ k ih =>
   rintro s t u hs ht hu (g | ⟨i, hi, g | ⟨q, hq, g⟩⟩)
   ·rcases ih s t u hs ht hu g with g | g
    ·exact .inl (.inl g)
    ·exact .inr (.inl g)
   ·cases b1 : yH m m (s, t) i with
    | true => exact .inl (.inr ⟨i, hi, .inl b1⟩)
    | false =>
     refine .inr (.inr ⟨i, hi, .inl ?_⟩)
     unfold yH at b1 g ⊢
     simp only [bne_iff_ne, ne_eq, bne_eq_false_iff_eq] at b1 g ⊢
     rw [← b1]
     exact g
   ·cases b1 : yH m m (s, t) i with
    | true => exact .inl (.inr ⟨i, hi, .inl b1⟩)
    | false =>
     cases b2 : yH m m (t, u) i with
     | true => exact .inr (.inr ⟨i, hi, .inl b2⟩)
     | false =>
      have c1 := same (p := (s, t)) hs ht hi b1
      have c2 := same (p := (t, u)) ht hu hi b2
      simp only at c1 c2
      unfold nxP at hq
      split at hq
      ·rename_i hc
       cases hq
       simp only at hc g
       have e1 := h.edgeAt hs hi
       have e2 := h.edgeAt ht hi
       have e3 := h.edgeAt hu hi
       rcases ih (E m s i).To.toNat (E m t i).To.toNat (E m u i).To.toNat (by omega) (by omega) (by omega) g with g | g
       ·exact .inl (.inr ⟨i, hi, .inr ⟨_, by unfold nxP; rw [if_pos ⟨hc.1, by simp only; omega⟩], g⟩⟩)
       ·exact .inr (.inr ⟨i, hi, .inr ⟨_, by unfold nxP; rw [if_pos ⟨by simp only; omega, hc.2⟩], g⟩⟩)
      ·cases hq
 have refl : ∀ k s, ¬ Mk (kk m) (yH m m) (nxP m m) k (s, s) := by
  intro k
  induction k with
  | zero => intro s h; exact h
  | succ k ih =>
   rintro s (g | ⟨i, hi, g | ⟨q, hq, g⟩⟩)
   ·exact ih s g
   ·simp [yH] at g
   ·unfold nxP at hq
    split at hq
    ·cases hq; exact ih _ g
    ·cases hq
 exact zer (N := m.Rows.length) h.len1 (fun k s t => ¬ Mk (kk m) (yH m m) (nxP m m) k (s, t)) (fun k s t _ _ g q => g (symm k t s q)) (fun k s t u hs ht hu g1 g2 q => by
   rcases trans k s t u hs ht hu q with g | g
   ·exact g1 g
   ·exact g2 g) (fun k s _ => refl k s) (fun k s t _ _ g q => g (.inl q)) (fun k hk s t hs ht g q => by
   rcases q with q | ⟨i, hi, q | ⟨r, hr, q⟩⟩
   ·exact g q
   ·exact g (.inr ⟨i, hi, .inl q⟩)
   ·have hin := h.nx_in (p := (s, t)) hs ht hi hr
    have : Mk (kk m) (yH m m) (nxP m m) k r := Classical.byContradiction fun c => hk r.1 r.2 hin.1 hin.2 c q
    exact g (.inr ⟨i, hi, .inr ⟨r, hr, this⟩⟩)) s t hs ht hno j hj
end Go.Own
end
