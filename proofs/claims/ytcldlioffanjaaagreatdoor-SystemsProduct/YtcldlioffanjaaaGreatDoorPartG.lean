/- Walks, further. -/
import Derived.Test.YtcldlioffanjaaaGreatDoorPartF
import Derived.Test.YtcldlioffanjaaaGreatDoorPartC
import Derived.Test.YtcldlioffanjaaaGreatDoorPartE
noncomputable section
set_option linter.unusedVariables false
set_option linter.unusedSimpArgs false
namespace Go.Own
theorem oB {α : Type _} {β : Type _} (a : α) (f : α → Option β) : Option.bind (some a) f = f a := rfl
open Go.Proofs
set_option maxRecDepth 100000
set_option maxHeartbeats 8000000
def zI : Code := (Tryz.f54.body).getD .skip
def xz : xi := spF (α := List za) (ρ := List za) 54 (fun x => [Vf x]) (fun r => Vf r) (fun x => yq x) [true] (Ja)
abbrev qK (s_ : List za) : List (Nat × T) := [(0,.own (eOs 3 false F8_ s_))]
abbrev qJ (s_ : List za) (k_ : Int) : List (Nat × T) := [(0,.own (eOs 3 false F8_ s_)),(3,.d (I k_))]
abbrev qI (s_1 : List za) (k_1 : Int) : List (Nat × T) := [(0,.own (eOs 3 false F8_ s_1)),(3,.d (I k_1))]
abbrev qH (pv0 : Value) (k_ : Int) (k2 : Int) (s_3 : List za) (k_3 : Int) : List (Nat × T) := [(0,.own (eOs 3 false F8_ s_3)),(3,.d (I k_3)),(4,.d (.atom (WU 3 pv0 k_))),(5,.d (I k2))]
abbrev qE (pv0 : Value) (k_ : Int) (s_2 : List za) (k_2 : Int) (k2 : Int) : List (Nat × T) := [(0,.own (eOs 3 false F8_ s_2)),(3,.d (I k_2)),(4,.d (.atom (WU 3 pv0 k_))),(5,.d (I k2))]
abbrev qG (s_ : List za) (k_ : Int) : List (Nat × T) := [(0,.own (eOs 3 false F8_ s_)),(3,.d (I k_))]
def zp : XH Tryz.prog := ((zgT y5 59).or X0)
theorem jg {ctr : Ctr} (hC : zZ Tryz.prog ctr) : xz.Ok Tryz.prog := by
 refine yc ?_
 rintro s_ r0 hf0
 try unfold yq at hf0
 refine yO true [(2,none)] zI 61 Tryz.func54 fun E hE => ?_
 refine z6h (y := eOs 3 false F8_ s_) rfl 0 (by kernel_rfl) (by kernel_rfl) fun pv0 hv0 => ?_
 let Z0 : List HO := [Ha (lnM F8_ s_)]
 rcases zS hf0 with ⟨c0,hf0⟩ | ⟨c0,hf0⟩
 ·obtain rfl := zl hf0
  exact yE zp hC hE (Z0 ++ [Hq c0])
 ·refine yJ zp hC zI [1,1] [] [0] (fun z : Unit => xA s_ = some r0) (fun z => qK s_) [(0,.own (eOs 3 false F8_ s_))] (Z0 ++ [Hq c0,Hh (.cut 0)]) ?_ fun J1 hJ1 => ?_
  ·rintro ⟨⟩ hf0
   unfold xA at hf0
   obtain rfl := zl hf0
   exact yE zp hC hE []
  ·obtain ⟨t2,ht2,hf0⟩ := zo hf0
   refine yL zp hC zI [1,1,2,1,0] [J1] (fun s => yd s_ s) (fun x => qG s_ x) 1 ht2  [] ?_
   rintro k_ m2 lr1 hf1 hl1 J2 hJ2
   try unfold yd at hf1
   let Z1 : List HO := [Ha (lnM F8_ s_)]
   rcases zS hf1 with ⟨c1,hf1⟩ | ⟨c1,hf1⟩
   ·refine yJ zp hC zI [1,1,2,1,0,0,1] [J1,J2] [0,3] (fun z : Unit => yM k_ = some lr1) (fun z => qJ s_ k_) [(0,.own (eOs 3 false F8_ s_)),(3,.d (I k_))] (Z1 ++ [Hq c1,Hh (.cut 0)]) ?_ fun J3 hJ3 => ?_
    ·rintro ⟨⟩ hf1
     unfold yM at hf1
     obtain rfl := zl hf1
     exact yB zp hC hJ2 (w64 (k_ + 1)) hl1 []
    ·obtain ⟨s__e,h0,hf1⟩ := zo hf1
     obtain ⟨s__e1,h1,hf1⟩ := zo hf1
     let Z2 : List HO := [Hn (iL F8_ h0),Hs (iM F8_ h0),Hn (iL F8_ h1),Hs (iM F8_ h1)]
     rcases zS hf1 with ⟨c2,hf1⟩ | ⟨c2,hf1⟩
     ·obtain ⟨g0,hf1⟩ := gdE hf1
      refine yJ ((xAs Tryz.prog 4 (WU 3 pv0 k_)).or ((xVw y5 28 0 pv0).or zp)) hC zI [1,1,2,1,0,0,1,2,0,1,0,1] [J1,J2,J3] [0,3] (fun z : List za × Int => zY z.1 z.2 = some lr1) (fun z => qI z.1 z.2) [(0,.own (eOs 3 false F8_ s_)),(3,.d (I k_)),(4,.d (.atom (WU 3 pv0 k_)))] (Z2 ++ [Hq c2,Hn (⟨.inl rfl,rfl⟩ : (T.als 0 [] 0 0 = T.als 0 [] 0 0 ∨ T.als 0 [] 0 0 = T.d (.atom pv0)) ∧ some pv0 = some pv0),Hn (⟨g0.1,cuB F8_ g0⟩ : (0 : Int) ≤ k_ ∧ k_.toNat ≤ (s_.map F8_).length),Hn (rfl : T.d (.atom (WU 3 pv0 k_)) = T.d (.atom (WU 3 pv0 k_))),Hh (.cut 1)]) ?_ fun J4 hJ4 => ?_
      ·rintro ⟨s_1,k_1⟩ hf1
       unfold zY at hf1
       obtain ⟨g1,hf1⟩ := gdE hf1
       obtain ⟨g2,hf1⟩ := gdE hf1
       obtain ⟨g3,hf1⟩ := gdE hf1
       obtain rfl := zl hf1
       obtain rfl := hl1
       obtain rfl := zl hf0
       exact yE ((xVc y5 56 3 0 pv0 k_1).or ((xVw y5 56 0 pv0).or zp)) hC hE [Hn (⟨.inl rfl,rfl⟩ : (T.als 0 [] 0 0 = T.als 0 [] 0 0 ∨ T.als 0 [] 0 0 = T.d (.atom pv0)) ∧ some pv0 = some pv0),Hn (⟨g1.1,cuB F8_ g1⟩ : (0 : Int) ≤ k_1 ∧ k_1.toNat ≤ (s_1.map F8_).length),Hn (⟨rfl,rfl⟩ : T.d (.atom (WU 3 pv0 k_1)) = T.d (.atom (WU 3 pv0 k_1)) ∧ some pv0 = some pv0),Hn (⟨g2.1,cuB F8_ g2,dM F8_ s_1⟩ : (0 : Int) ≤ k_1 ∧ k_1.toNat ≤ (s_1.map F8_).length ∧ A.areD (s_1.map F8_) = true),Hx (.l ((s_1.take k_1.toNat ++ List.replicate (s_1.length - k_1.toNat) (za.mk 0 0 0)).map F8_)) (vcM F8_ s_1 k_1.toNat (za.mk 0 0 0)),Hn g3.1,Hn (cuB F8_ g3),Hl (cuM F8_ (s_1.take k_1.toNat ++ List.replicate (s_1.length - k_1.toNat) (za.mk 0 0 0)) k_1)]
      ·obtain ⟨t5,ht5,hf1⟩ := zo hf1
       refine yL zp hC zI [1,1,2,1,0,0,1,2,0,1,0,1,2,1,0] [J1,J2,J3,J4] (fun s => zW k_ s.1 s.2.1 s.2.2) (fun x => qE pv0 k_ x.1 x.2.1 x.2.2) (s_,k_,1) ht5  [] ?_
       rintro ⟨s_2,k_2,k2⟩ m5 lr2 hf2 hl2 J5 hJ5
       try unfold zW at hf2
       let Z3 : List HO := [Hn (⟨rfl,rfl⟩ : T.d (.atom (WU 3 pv0 k_)) = T.d (.atom (WU 3 pv0 k_)) ∧ some pv0 = some pv0),Hx (.a (.atom (.int .i64 ((s_2.length - k_.toNat : Nat) : Int)))) (vlM F8_ s_2 k_.toNat)]
       rcases zS hf2 with ⟨c3,hf2⟩ | ⟨c3,hf2⟩
       ·refine yJ ((xVl y5 31 59 3 0 pv0 k_ (by kernel_rfl)).or zp) hC zI [1,1,2,1,0,0,1,2,0,1,0,1,2,1,0,0,1] [J1,J2,J3,J4,J5] [0,3,4,5] (fun z : List za × Int => zX k2 z.1 z.2 = some lr2) (fun z => qH pv0 k_ k2 z.1 z.2) [(0,.own (eOs 3 false F8_ s_2)),(3,.d (I k_2)),(4,.d (.atom (WU 3 pv0 k_))),(5,.d (I k2))] (Z3 ++ [Hq c3,Hh (.cut 0)]) ?_ fun J6 hJ6 => ?_
        ·rintro ⟨s_3,k_3⟩ hf2
         unfold zX at hf2
         obtain rfl := zl hf2
         exact yB zp hC hJ5 (s_3,k_3,w64 (k2 + 1)) hl2 []
        ·obtain ⟨g4,hf2⟩ := gdE hf2
         obtain ⟨s__e2,h2,hf2⟩ := zo hf2
         obtain ⟨g5,hf2⟩ := gdE hf2
         obtain ⟨s__e3,h3,hf2⟩ := zo hf2
         let Z4 : List HO := [Hn (⟨rfl,rfl⟩ : T.d (.atom (WU 3 pv0 k_)) = T.d (.atom (WU 3 pv0 k_)) ∧ some pv0 = some pv0),Hn (⟨g4.1,g4.2,(iL F8_ h2).2⟩ : (0 : Int) ≤ k_ ∧ (0 : Int) ≤ k2 ∧ (k_ + k2).toNat < (s_2.map F8_).length),Hs (iM F8_ h2),Hn (⟨rfl,rfl⟩ : T.d (.atom (WU 3 pv0 k_)) = T.d (.atom (WU 3 pv0 k_)) ∧ some pv0 = some pv0),Hn (⟨g5.1,g5.2,(iL F8_ h3).2⟩ : (0 : Int) ≤ k_ ∧ (0 : Int) ≤ w64 (k2 - 1) ∧ (k_ + (w64 (k2 - 1))).toNat < (s_2.map F8_).length),Hs (iM F8_ h3)]
         rcases zS hf2 with ⟨c4,hf2⟩ | ⟨c4,hf2⟩
         ·obtain ⟨g6,hf2⟩ := gdE hf2
          obtain ⟨s__e4,h4,hf2⟩ := zo hf2
          obtain ⟨s__e5,h5,hf2⟩ := zo hf2
          exact yB ((xVi y5 49 3 0 pv0 k_).or ((xVi y5 42 3 0 pv0 k_).or ((xVi y5 37 3 0 pv0 k_).or zp))) hC hJ6 ((s_2.set k_2.toNat s__e4),w64 (k_2 + 1)) hf2 (Z4 ++ [Hq c4,Hn (⟨rfl,rfl⟩ : T.d (.atom (WU 3 pv0 k_)) = T.d (.atom (WU 3 pv0 k_)) ∧ some pv0 = some pv0),Hn (⟨g6.1,g6.2,(iL F8_ h4).2⟩ : (0 : Int) ≤ k_ ∧ (0 : Int) ≤ k2 ∧ (k_ + k2).toNat < (s_2.map F8_).length),Hs (iM F8_ h4),Hn (iL F8_ h5),Hs (iM F8_ h5),Hs (iM F8_ h5),Hl (sM F8_ s_2 k_2 s__e4)])
         ·exact yB ((xVi y5 42 3 0 pv0 k_).or ((xVi y5 37 3 0 pv0 k_).or zp)) hC hJ6 (s_2,k_2) hf2 (Z4 ++ [Hq c4])
       ·obtain rfl := zl hf2
        obtain rfl := hl2
        exact yB ((xVl y5 31 59 3 0 pv0 k_ (by kernel_rfl)).or zp) hC hJ4 (s_2,k_2) hf1 (Z3 ++ [Hq c3])
     ·exact yB zp hC hJ3 () hf1 (Z2 ++ [Hq c2])
   ·obtain rfl := zl hf1
    obtain rfl := hl1
    exact yB zp hC hJ1 () hf0 (Z1 ++ [Hq c1])
def jV : Code := (Tryz.f53.body).getD .skip
def xV : xi := spF (α := List za) (ρ := List za) 53 (fun x => [ul x]) (fun r => UA r) (fun x => yU x) [] (Ja)
theorem k9 {ctr : Ctr} (hC : zZ Tryz.prog ctr) : xV.Ok Tryz.prog := by
 refine yc ?_
 rintro s_ r0 hf0
 try unfold yU at hf0
 refine yO true [(2,none)] jV 9 Tryz.func53 fun E hE => ?_
 obtain ⟨g0,hf0⟩ := gdE hf0
 obtain rfl := zl hf0
 exact yE X0 hC hE [Ha (lnM F8_ s_),Ha (lnM F8_ s_),Hn (slB g0),Hn (slC g0),Hn (z4r F8_ g0),Ha (zaQ 3 F8_ s_ 0 ((s_.length : Nat) : Int).toNat)]
def jN : Code := (Tryz.f55.body).getD .skip
def xO : xi := spF (α := List (List za)) (ρ := List (List za)) 55 (fun x => [zgL x]) (fun r => zgM r) (fun x => yI x) [] (Ja)
theorem jS {ctr : Ctr} (hC : zZ Tryz.prog ctr) : xO.Ok Tryz.prog := by
 refine yc ?_
 rintro s_ r0 hf0
 try unfold yI at hf0
 refine yO true [(2,none)] jN 9 Tryz.func55 fun E hE => ?_
 obtain ⟨g0,hf0⟩ := gdE hf0
 obtain rfl := zl hf0
 exact yE X0 hC hE [Ha (lnM ul s_),Ha (lnM ul s_),Hn (slB g0),Hn (slC g0),Hn (z4r ul g0),Ha (zaQ 1 ul s_ 0 ((s_.length : Nat) : Int).toNat)]
def yZ : Code := (Tryz.f17.body).getD .skip
def qw : xi := spF (α := z8 × List Int) (ρ := zr × Int) 17 (fun x => [x6 x.1,F2_ x.2]) (fun r => .tup [z4H r.1,(eI .i64) r.2]) (fun x => yo x.1 x.2) [] (UV)
abbrev WF (x_ : z8) (out_Rows : List (List za)) : List (Nat × T) := [(4,.own (.box (.agg [I 0,I 0,eOs 1 true ul []]))),(10,.own (.box (.agg [I 0,I x_.Labels,eOs 1 false UA out_Rows])))]
abbrev WE (x_ : z8) (hidden : List Int) (r_2 : List zb × List (List z6) × Int) (x51 : Int) (out_Rows2 : List (List za)) : List (Nat × T) := [(1,.d (eSl 1 false (eI .i64) hidden)),(2,.own (.box (x6 x_))),(4,.own (.box (.agg [I 0,I 0,eOs 1 true ul []]))),(10,.own (.box (.agg [I 0,I x_.Labels,eOs 1 false UA out_Rows2]))),(49,.d (eSl 1 true wH r_2.2.1)),(50,.d (I ((r_2.2.1.length : Nat) : Int))),(51,.d (I x51))]
abbrev WD (x_ : z8) (hidden : List Int) (r_2 : List zb × List (List z6) × Int) (out_Rows1 : List (List za)) (x51 : Int) (row : List za) : List (Nat × T) := [(1,.d (eSl 1 false (eI .i64) hidden)),(2,.own (.box (x6 x_))),(4,.own (.box (.agg [I 0,I 0,eOs 1 true ul []]))),(10,.own (.box (.agg [I 0,I x_.Labels,eOs 1 false UA out_Rows1]))),(13,.own (eOs 3 false F8_ row)),(49,.d (eSl 1 true wH r_2.2.1)),(50,.d (I ((r_2.2.1.length : Nat) : Int))),(51,.d (I x51))]
abbrev WC (x_ : z8) (hidden : List Int) (r_2 : List zb × List (List z6) × Int) (out_Rows1 : List (List za)) (x51 : Int) (u_ : List z6) (row1 : List za) (x57 : Int) (u__e : z6) (arc_Kind : Int) (arc_Label : Int) : List (Nat × T) := [(1,.d (eSl 1 false (eI .i64) hidden)),(2,.own (.box (x6 x_))),(4,.own (.box (.agg [I 0,I 0,eOs 1 true ul []]))),(10,.own (.box (.agg [I 0,I x_.Labels,eOs 1 false UA out_Rows1]))),(13,.own (eOs 3 false F8_ row1)),(16,.own (.box (.agg [.atom (.int .u8 arc_Kind),I arc_Label,I u__e.To]))),(49,.d (eSl 1 true wH r_2.2.1)),(50,.d (I ((r_2.2.1.length : Nat) : Int))),(51,.d (I x51)),(55,.d (eSl 5 true qB u_)),(56,.d (I ((u_.length : Nat) : Int))),(57,.d (I x57))]
abbrev WA (x_ : z8) (hidden : List Int) (r_2 : List zb × List (List z6) × Int) (out_Rows1 : List (List za)) (x51 : Int) (u_ : List z6) (row1 : List za) (x57 : Int) : List (Nat × T) := [(1,.d (eSl 1 false (eI .i64) hidden)),(2,.own (.box (x6 x_))),(4,.own (.box (.agg [I 0,I 0,eOs 1 true ul []]))),(10,.own (.box (.agg [I 0,I x_.Labels,eOs 1 false UA out_Rows1]))),(13,.own (eOs 3 false F8_ row1)),(49,.d (eSl 1 true wH r_2.2.1)),(50,.d (I ((r_2.2.1.length : Nat) : Int))),(51,.d (I x51)),(55,.d (eSl 5 true qB u_)),(56,.d (I ((u_.length : Nat) : Int))),(57,.d (I x57))]
abbrev WB (x_ : z8) (hidden : List Int) (r_2 : List zb × List (List z6) × Int) (out_Rows1 : List (List za)) (x51 : Int) : List (Nat × T) := [(1,.d (eSl 1 false (eI .i64) hidden)),(2,.own (.box (x6 x_))),(4,.own (.box (.agg [I 0,I 0,eOs 1 true ul []]))),(10,.own (.box (.agg [I 0,I x_.Labels,eOs 1 false UA out_Rows1]))),(49,.d (eSl 1 true wH r_2.2.1)),(50,.d (I ((r_2.2.1.length : Nat) : Int))),(51,.d (I x51))]
theorem UE {ctr : Ctr} (hC : zZ Tryz.prog ctr) (h0c : ctr.Has uQ) (h0h : ctr.Has qV) (h0d : ctr.Has w6) (h0Q : ctr.Has wB) (h0R : ctr.Has jb) (h0S : ctr.Has xz) (h0t : ctr.Has xV) (h0u : ctr.Has xO) : qw.Ok Tryz.prog := by
 refine yc ?_
 rintro ⟨x_,hidden⟩ r0 hf0
 try unfold yo at hf0
 refine yO false [(4,some 53),(5,none)] yZ 121 Tryz.func17 fun E hE => ?_
 obtain ⟨r_,h0,hf0⟩ := zo hf0
 let Z0 : List HO := [Hc h0c (x := x_) h0 (loC x6 x_ <| loN)]
 rcases zS hf0 with ⟨c0,hf0⟩ | ⟨c0,hf0⟩
 ·obtain rfl := zl hf0
  exact yE X0 hC hE (Z0 ++ [Hq c0,Hm (shM ul ul [])])
 ·obtain ⟨r_1,h1,hf0⟩ := zo hf0
  let Z1 : List HO := (Z0 ++ [Hq c0,Hc h0h (x := (hidden,x_.Labels)) h1 (loC F2_ hidden <| loC (eI .i64) x_.Labels <| loN)])
  rcases zS hf0 with ⟨c1,hf0⟩ | ⟨c1,hf0⟩
  ·obtain rfl := zl hf0
   exact yE X0 hC hE (Z1 ++ [Hq c1,Hm (shM ul ul [])])
  ·obtain ⟨r_2,h2,hf0⟩ := zo hf0
   let Z2 : List HO := (Z1 ++ [Hq c1,Hc h0d (x := x_) h2 (loC x6 x_ <| loN)])
   rcases zS hf0 with ⟨c2,hf0⟩ | ⟨c2,hf0⟩
   ·obtain rfl := zl hf0
    exact yE X0 hC hE (Z2 ++ [Hq c2,Hm (shM ul ul [])])
   ·let Z3 : List HO := (Z2 ++ [Hq c2,Ha (lnM xh r_2.1)])
    rcases zS hf0 with ⟨c3,hf0⟩ | ⟨c3,hf0⟩
    ·obtain rfl := zl hf0
     exact yE X0 hC hE (Z3 ++ [Hq c3,Hm (shM ul ul [])])
    ·refine yJ X0 hC yZ [1,1,1,1,1,1,1] [] [4,10] (fun z : List (List za) => vt x_ z = some r0) (fun z => WF x_ z) [(1,.d (eSl 1 false (eI .i64) hidden)),(2,.own (.box (x6 x_))),(4,.own (.box (.agg [I 0,I 0,eOs 1 true ul []]))),(8,.d (eSl 1 true wH r_2.2.1)),(10,.own (.box (.agg [I 0,I x_.Labels,eOs 1 true ul []])))] (Z3 ++ [Hq c3,Hh (.cut 1)]) ?_ fun J1 hJ1 => ?_
     ·rintro out_Rows hf0
      unfold vt at hf0
      obtain ⟨r_3,h3,hf0⟩ := zo hf0
      obtain rfl := zl hf0
      exact yE X0 hC hE [Hg (z2f h0u),Hm (shM UA UA out_Rows),Hs (z2g h0u (x := out_Rows) h3 (loC (eSl 1 false UA) out_Rows <| loN)),Hm (shM UA UA out_Rows)]
     ·obtain ⟨t2,ht2,hf0⟩ := zo hf0
      refine yLx X0 hC yZ [1,1,1,1,1,1,1,2,1,0] [J1] (fun s => vq x_ hidden r_2 s.1 s.2) (fun x => WB x_ hidden r_2 x.1 x.2) (([] : List (List za)),0) ht2 [(1,.d (eSl 1 false (eI .i64) hidden)),(2,.own (.box (x6 x_))),(4,.own (.box (.agg [I 0,I 0,eOs 1 true ul []]))),(10,.own (.box (.agg [I 0,I x_.Labels,eOs 1 true UA []]))),(49,.d (eSl 1 true wH r_2.2.1)),(50,.d (I ((r_2.2.1.length : Nat) : Int))),(51,.d (I 0))] inferInstance [Ha (lnM wH r_2.2.1)] ?_
      rintro ⟨out_Rows1,x51⟩ m2 lr1 hf1 hl1 J2 hJ2
      try unfold vq at hf1
      rcases zS hf1 with ⟨c4,hf1⟩ | ⟨c4,hf1⟩
      ·refine yJ X0 hC yZ [1,1,1,1,1,1,1,2,1,0,0,1,1] [J1,J2] [1,2,4,10,49,50,51] (fun z : List (List za) => qt x51 z = some lr1) (fun z => WE x_ hidden r_2 x51 z) [(1,.d (eSl 1 false (eI .i64) hidden)),(2,.own (.box (x6 x_))),(4,.own (.box (.agg [I 0,I 0,eOs 1 true ul []]))),(10,.own (.box (.agg [I 0,I x_.Labels,eOs 1 false UA out_Rows1]))),(49,.d (eSl 1 true wH r_2.2.1)),(50,.d (I ((r_2.2.1.length : Nat) : Int))),(51,.d (I x51))] [Hq c4,Hh (.cut 0)] ?_ fun J3 hJ3 => ?_
       ·rintro out_Rows2 hf1
        unfold qt at hf1
        obtain rfl := zl hf1
        exact yB X0 hC hJ2 (out_Rows2,w64 (x51 + 1)) hl1 []
       ·obtain ⟨u_,h4,hf1⟩ := zo hf1
        refine yJ X0 hC yZ [1,1,1,1,1,1,1,2,1,0,0,1,1,2,0,1,1] [J1,J2,J3] [1,2,4,10,13,49,50,51] (fun z : List za => qr out_Rows1 x51 z = some lr1) (fun z => WD x_ hidden r_2 out_Rows1 x51 z) [(1,.d (eSl 1 false (eI .i64) hidden)),(2,.own (.box (x6 x_))),(4,.own (.box (.agg [I 0,I 0,eOs 1 true ul []]))),(10,.own (.box (.agg [I 0,I x_.Labels,eOs 1 false UA out_Rows1]))),(12,.d (eSl 5 true qB u_)),(13,.own (eOs 3 true F8_ [])),(49,.d (eSl 1 true wH r_2.2.1)),(50,.d (I ((r_2.2.1.length : Nat) : Int))),(51,.d (I x51))] [Hi wH h4,Hh (.cut 1)] ?_ fun J4 hJ4 => ?_
        ·rintro row hf1
         unfold qr at hf1
         refine yA X0 hC yZ [1,1,1,1,1,1,1,2,1,0,0,1,1,2,0,1,1,1] [J1,J2,J3] [(1,.d (eSl 1 false (eI .i64) hidden)),(2,.own (.box (x6 x_))),(4,.own (.box (.agg [I 0,I 0,eOs 1 true ul []]))),(10,.own (.box (.agg [I 0,I x_.Labels,eOs 1 false UA out_Rows1]))),(13,.own (eOs 3 false F8_ row)),(49,.d (eSl 1 true wH r_2.2.1)),(50,.d (I ((r_2.2.1.length : Nat) : Int))),(51,.d (I x51))] [Hh (.cut 0)] ?_
         obtain ⟨sorted,h5,hf1⟩ := zo hf1
         refine z2B (by kernel_rfl) (x := (sub [1,1,1,1,1,1,1,2,1,0,0,1,1,2,0,1,1,1,0] yZ)) (y := (sub [1,1,1,1,1,1,1,2,1,0,0,1,1,2,0,1,1,1,1] yZ)) 13 (fun st1 => Own.canon [1,2,4,10,13,49,50,51] st1 = ofL [(1,.d (eSl 1 false (eI .i64) hidden)),(2,.own (.box (x6 x_))),(4,.own (.box (.agg [I 0,I 0,eOs 1 true ul []]))),(10,.own (.box (.agg [I 0,I x_.Labels,eOs 1 false UA out_Rows1]))),(13,.own (eOs 3 false F8_ sorted)),(49,.d (eSl 1 true wH r_2.2.1)),(50,.d (I ((r_2.2.1.length : Nat) : Int))),(51,.d (I x51))]) (fun pv13 => yF ((jR (P := Tryz.prog) wl [13] (z4Q zeb (f := F8_) (t := false) (v := pv13) (fun _ => rfl) (fun _ => rfl) (fun x y c h => we hC h0R (x := (x,y)) h) h5) 101).or X0) hC .normal [(1,.d (eSl 1 false (eI .i64) hidden)),(2,.own (.box (x6 x_))),(4,.own (.box (.agg [I 0,I 0,eOs 1 true ul []]))),(10,.own (.box (.agg [I 0,I x_.Labels,eOs 1 false UA out_Rows1]))),(13,.own (eOs 3 false F8_ sorted)),(49,.d (eSl 1 true wH r_2.2.1)),(50,.d (I ((r_2.2.1.length : Nat) : Int))),(51,.d (I x51))] [Hn (Wh (f := .fn 48 []) (xs := [.atom pv13,.fn 49 []]) (ls := [(pv13,eOs 3 false F8_ row)]) (r := .tup []) (ys := [eOs 3 false F8_ sorted]) [.atom pv13,.fn 49 []] (show z1f [.atom pv13,.fn 49 []] [.atom pv13,.fn 49 []] from inferInstance))] fun st0 h0 => ⟨rfl,h0⟩) fun st1 h1 => z3r h1 ?_
         obtain ⟨r_4,h6,hf1⟩ := zo hf1
         obtain ⟨r_5,h7,hf1⟩ := zo hf1
         let Z4 : List HO := [Hc h0S (x := sorted) h6 (loC Vf sorted <| loN),Hg (z2f h0t),Hm (shM F8_ F8_ r_4),Hs (z2g h0t (x := r_4) h7 (loC ul r_4 <| loN)),Hm (shM F8_ F8_ r_4),Ha (lnM F8_ r_5)]
         rcases zS hf1 with ⟨c5,hf1⟩ | ⟨c5,hf1⟩
         ·obtain rfl := zl hf1
          obtain rfl := hl1
          obtain rfl := zl hf0
          exact yE X0 hC hE (Z4 ++ [Hq c5,Hm (shM ul ul [])])
         ·obtain ⟨g0,hf1⟩ := gdE hf1
          exact yB X0 hC hJ3 (out_Rows1 ++ ([r_5] : List (List za))) hf1 (Z4 ++ [Hq c5,Hq (dM UA ([r_5] : List (List za))),Hn (dM UA ([r_5] : List (List za))),Hn (aL UA UA g0),Hl (aM UA out_Rows1 ([r_5] : List (List za)))])
        ·obtain ⟨t5,ht5,hf1⟩ := zo hf1
         refine yLx X0 hC yZ [1,1,1,1,1,1,1,2,1,0,0,1,1,2,0,1,1,2,1,0] [J1,J2,J3,J4] (fun s => wJ x_ hidden u_ s.1 s.2) (fun x => WA x_ hidden r_2 out_Rows1 x51 u_ x.1 x.2) (([] : List za),0) ht5 [(1,.d (eSl 1 false (eI .i64) hidden)),(2,.own (.box (x6 x_))),(4,.own (.box (.agg [I 0,I 0,eOs 1 true ul []]))),(10,.own (.box (.agg [I 0,I x_.Labels,eOs 1 false UA out_Rows1]))),(13,.own (eOs 3 true F8_ [])),(49,.d (eSl 1 true wH r_2.2.1)),(50,.d (I ((r_2.2.1.length : Nat) : Int))),(51,.d (I x51)),(55,.d (eSl 5 true qB u_)),(56,.d (I ((u_.length : Nat) : Int))),(57,.d (I 0))] inferInstance [Ha (lnM qB u_)] ?_
         rintro ⟨row1,x57⟩ m5 lr2 hf2 hl2 J5 hJ5
         try unfold wJ at hf2
         rcases zS hf2 with ⟨c6,hf2⟩ | ⟨c6,hf2⟩
         ·obtain ⟨u__e,h8,hf2⟩ := zo hf2
          obtain ⟨Part_e,h9,hf2⟩ := zo hf2
          obtain ⟨Arc_e,h10,hf2⟩ := zo hf2
          refine yJ X0 hC yZ [1,1,1,1,1,1,1,2,1,0,0,1,1,2,0,1,1,2,1,0,0,1,1,0,0,1,1,1] [J1,J2,J3,J4,J5] [1,2,4,10,13,16,49,50,51,55,56,57] (fun z : Int × Int => wK row1 x57 u__e z.1 z.2 = some lr2) (fun z => WC x_ hidden r_2 out_Rows1 x51 u_ row1 x57 u__e z.1 z.2) [(1,.d (eSl 1 false (eI .i64) hidden)),(2,.own (.box (x6 x_))),(4,.own (.box (.agg [I 0,I 0,eOs 1 true ul []]))),(10,.own (.box (.agg [I 0,I x_.Labels,eOs 1 false UA out_Rows1]))),(13,.own (eOs 3 false F8_ row1)),(16,.own (.box (.agg [.atom (.int .u8 0),I 0,I u__e.To]))),(17,.own (.box (vN Arc_e))),(49,.d (eSl 1 true wH r_2.2.1)),(50,.d (I ((r_2.2.1.length : Nat) : Int))),(51,.d (I x51)),(55,.d (eSl 5 true qB u_)),(56,.d (I ((u_.length : Nat) : Int))),(57,.d (I x57))] [Hq c6,Hi qB h8,Hi ve h9,Hi vN h10,Hh (.cut 0)] ?_ fun J6 hJ6 => ?_
          ·rintro ⟨arc_Kind,arc_Label⟩ hf2
           unfold wK at hf2
           obtain ⟨g1,hf2⟩ := gdE hf2
           obtain rfl := zl hf2
           exact yB X0 hC hJ5 ((row1 ++ ([(za.mk arc_Kind arc_Label u__e.To)] : List za)),w64 (x57 + 1)) hl2 [Hq (dM F8_ ([(za.mk arc_Kind arc_Label u__e.To)] : List za)),Hn (dM F8_ ([(za.mk arc_Kind arc_Label u__e.To)] : List za)),Hn (aL F8_ F8_ g1),Hl (aM F8_ row1 ([(za.mk arc_Kind arc_Label u__e.To)] : List za))]
          ·obtain ⟨r_6,h11,hf2⟩ := zo hf2
           let Z5 : List HO := [Hc h0Q (x := (hidden,Arc_e.Message)) h11 (loC F2_ hidden <| loC (eI .i64) Arc_e.Message <| loN)]
           rcases zS hf2 with ⟨c7,hf2⟩ | ⟨c7,hf2⟩
           ·rcases zS hf2 with ⟨c8,hf2⟩ | ⟨c8,hf2⟩
            ·exact yB X0 hC hJ6 (2,Arc_e.Message) hf2 (Z5 ++ [Hq c7,Hq c7,Hq c7,Hq c8])
            ·exact yB X0 hC hJ6 (0,0) hf2 (Z5 ++ [Hq c7,Hq c7,Hq c7,Hq c8])
           ·exact yB X0 hC hJ6 (0,0) hf2 (Z5 ++ [Hq c7,Hq c7,Hq c7,qF])
         ·obtain rfl := zl hf2
          obtain rfl := hl2
          exact yB X0 hC hJ4 row1 hf1 [Hq c6]
      ·obtain rfl := zl hf1
       obtain rfl := hl1
       exact yB X0 hC hJ1 out_Rows1 hf0 [Hq c4]
def z17 : Code := (Tryz.f37.body).getD .skip
def Xj : xi := spF (α := Int × List zf) (ρ := z8) 37 (fun x => [(eI .i64) x.1,z4i x.2]) (fun r => z8Y r) (fun x => Xa x.1 x.2) [] (UV)
def z2G : XH Tryz.prog := ((ze1 y5 (.inl 13) [10,12]).or X0)
theorem z1p {ctr : Ctr} (hC : zZ Tryz.prog ctr) : Xj.Ok Tryz.prog := by
 refine yc ?_
 rintro ⟨capacity,arcs⟩ r0 hf0
 try unfold Xa at hf0
 refine yO false [(4,some 29)] z17 15 Tryz.func37 fun E hE => ?_
 obtain rfl := zl hf0
 exact yE z2G hC hE [Hm (shM vN vN ([(zf.mk 0 1 0 0 1),(zf.mk 1 0 0 0 0)])),Hm (shM (eI .i64) (eI .i64) []),Hm (shM (eI .i64) (eI .i64) []),Hm (shM (eI .i64) (eI .i64) ([capacity])),Hm (shM zaZ zaZ ([(zh.mk 2 ([(zf.mk 0 1 0 0 1),(zf.mk 1 0 0 0 0)]) []),(zh.mk 1 arcs [])]))]
def XK : Code := (Tryz.f75.body).getD .skip
def uA : xi := spF (α := List Int) (ρ := List Int) 75 (fun x => [F2_ x]) (fun r => F3_ r) (fun x => wi x) [] (Ja)
theorem XY {ctr : Ctr} (hC : zZ Tryz.prog ctr) : uA.Ok Tryz.prog := by
 refine yc ?_
 rintro s_ r0 hf0
 try unfold wi at hf0
 refine yO true [(2,none)] XK 8 Tryz.func75 fun E hE => ?_
 refine zaG rfl 0 (sz := 1) (t := false) (es := s_.map (eI .i64)) (by kernel_rfl) fun pv0 hv0 hn => ?_
 rcases hn with ⟨hn0,he0⟩ | hn0
 ·obtain ⟨_,hf0⟩ := gdE hf0
  rw [show s_ = [] from List.map_eq_nil_iff.1 he0] at hf0
  obtain rfl := zl hf0
  exact yEx ((zfE y5 4 26 (by kernel_rfl) hn0).or ((xMv Tryz.prog 3 0 pv0 hv0).or X0)) hC hE [Hn (rfl : some pv0 = some pv0),Hn (⟨rfl,rfl⟩ : T.d (.atom pv0) = T.d (.atom pv0) ∧ T.d (.atom (.slice none 0 0)) = T.d (.atom (.slice none 0 0))),qT] (eOs 1 true (eI .i64) []) (show LeV (eOs 1 true (eI .i64) []) (eOs 1 false (eI .i64) ([] : List Int)) from inferInstance)
 ·obtain ⟨g0,hf0⟩ := gdE hf0
  obtain rfl := zl hf0
  exact yE ((zfE y5 4 26 (by kernel_rfl) hn0).or ((xMv Tryz.prog 3 0 pv0 hv0).or X0)) hC hE [Hn (rfl : some pv0 = some pv0),Hn (⟨rfl,rfl⟩ : T.d (.atom pv0) = T.d (.atom pv0) ∧ T.d (.atom (.slice none 0 0)) = T.d (.atom (.slice none 0 0))),qF,Hn (dM (eI .i64) s_),Hn (aL (eI .i64) (eI .i64) g0),Hl (aM0 (eI .i64) s_)]
def W3 : Code := (Tryz.f74.body).getD .skip
def qm : xi := spF (α := List Int) (ρ := List Int) 74 (fun x => [F2_ x]) (fun r => F1_ r) (fun x => wt x) [] (Ja)
theorem Wg {ctr : Ctr} (hC : zZ Tryz.prog ctr) : qm.Ok Tryz.prog := by
 refine yc ?_
 rintro s_ r0 hf0
 try unfold wt at hf0
 refine yO true [(2,none)] W3 9 Tryz.func74 fun E hE => ?_
 obtain ⟨g0,hf0⟩ := gdE hf0
 obtain rfl := zl hf0
 exact yE X0 hC hE [Ha (lnM (eI .i64) s_),Ha (lnM (eI .i64) s_),Hn (slB g0),Hn (slC g0),Hn (z4r (eI .i64) g0),Ha (zaQ 1 (eI .i64) s_ 0 ((s_.length : Nat) : Int).toNat)]
def ue : Code := (Tryz.f45.body).getD .skip
def wL : xi := spF (α := z8 × zb) (ρ := z7) 45 (fun x => [x6 x.1,xh x.2]) (fun r => z1g r) (fun x => xQ x.1 x.2) [] (UV)
abbrev Y8 (r_1 : List Int) (c_Queues : List (List Int)) : List (Nat × T) := [(4,.own (.box (.agg [eOs 1 true (eI .i64) [],eOs 1 true F2_ []]))),(5,.own (.box (.agg [eSl 1 true (eI .i64) r_1,eOs 1 true F1_ c_Queues])))]
abbrev Y7 (x_ : z8) (s_ : zb) (r_1 : List Int) (c_Queues1 : List (List Int)) (x23 : Int) : List (Nat × T) := [(3,.d (.sptr (xh s_))),(4,.own (.box (.agg [eOs 1 true (eI .i64) [],eOs 1 true F2_ []]))),(5,.own (.box (.agg [eSl 1 true (eI .i64) r_1,eOs 1 true F1_ c_Queues1]))),(22,.d (I (((List.replicate ((x_.Channels.length : Nat) : Int).toNat ([] : List Int)).length : Nat) : Int))),(23,.d (I x23))]
theorem Xf {ctr : Ctr} (hC : zZ Tryz.prog ctr) (h0v : ctr.Has uA) (h0f : ctr.Has qm) : wL.Ok Tryz.prog := by
 refine yc ?_
 rintro ⟨x_,s_⟩ r0 hf0
 try unfold xQ at hf0
 refine yO false [(4,some 39)] ue 42 Tryz.func45 fun E hE => ?_
 obtain ⟨g0,hf0⟩ := gdE hf0
 obtain ⟨r_,h0,hf0⟩ := zo hf0
 obtain ⟨r_1,h1,hf0⟩ := zo hf0
 obtain ⟨g1,hf0⟩ := gdE hf0
 refine yJ ((xMs y5 18 26).or ((xAh y5 12).or X0)) hC ue [1,1] [] [4,5] (fun z : List (List Int) => vZ r_1 z = some r0) (fun z => Y8 r_1 z) [(3,.d (.sptr (xh s_))),(4,.own (.box (.agg [eOs 1 true (eI .i64) [],eOs 1 true F2_ []]))),(5,.own (.box (.agg [eSl 1 true (eI .i64) r_1,eOs 1 true F1_ (List.replicate ((x_.Channels.length : Nat) : Int).toNat ([] : List Int))])))] [Hh (.n 2 [3]),Ha (lnM ve x_.Parts),Hn g0.1,Hn (cuB (eI .i64) g0),Hl (cuM (eI .i64) [s_.states_.e0,s_.states_.e1,s_.states_.e2,s_.states_.e3] ((x_.Parts.length : Nat) : Int)),Hc h0v (x := ([s_.states_.e0,s_.states_.e1,s_.states_.e2,s_.states_.e3].take ((x_.Parts.length : Nat) : Int).toNat)) h0 (loC F2_ ([s_.states_.e0,s_.states_.e1,s_.states_.e2,s_.states_.e3].take ((x_.Parts.length : Nat) : Int).toNat) <| loN),Hg (z2f h0f),Hm (shM (eI .i64) (eI .i64) r_),Hs (z2g h0f (x := r_) h1 (loC F2_ r_ <| loN)),Hm (shM (eI .i64) (eI .i64) r_),Ha (lnM (eI .i64) x_.Channels),Hn (rL g1),Ha (rM 1 F1_ ((x_.Channels.length : Nat) : Int) ([] : List Int)),Hh (.cut 0)] ?_ fun J1 hJ1 => ?_
 ·rintro c_Queues hf0
  unfold vZ at hf0
  obtain rfl := zl hf0
  exact yE X0 hC hE [Hm (shM F1_ F1_ c_Queues)]
 ·obtain ⟨t2,ht2,hf0⟩ := zo hf0
  refine yL X0 hC ue [1,1,2,1,0] [J1] (fun s => xr x_ s_ s.1 s.2) (fun x => Y7 x_ s_ r_1 x.1 x.2) ((List.replicate ((x_.Channels.length : Nat) : Int).toNat ([] : List Int)),0) ht2  [Ha (lnM F1_ (List.replicate ((x_.Channels.length : Nat) : Int).toNat ([] : List Int)))] ?_
  rintro ⟨c_Queues1,x23⟩ m2 lr1 hf1 hl1 J2 hJ2
  try unfold xr at hf1
  rcases zS hf1 with ⟨c0,hf1⟩ | ⟨c0,hf1⟩
  ·obtain ⟨cell,h2,hf1⟩ := zo hf1
   obtain ⟨g2,hf1⟩ := gdE hf1
   obtain ⟨r_2,h3,hf1⟩ := zo hf1
   obtain ⟨r_3,h4,hf1⟩ := zo hf1
   obtain ⟨c_Queue_e,h5,hf1⟩ := zo hf1
   obtain rfl := zl hf1
   exact yB ((xAh y5 36).or X0) hC hJ2 ((c_Queues1.set x23.toNat r_3),w64 (x23 + 1)) hl1 [Hq c0,Hs (iM F9_ h2),Hn (arJ (by kernel_rfl) (i0 h2) : Xe wl 113 ((ya.toL s_.queues_).map F9_) x23 = true),Hh (.n 0 [7]),Hn g2.1,Hn (cuB (eI .i64) g2),Hl (cuM (eI .i64) [cell.l_.e0,cell.l_.e1,cell.l_.e2,cell.l_.e3] cell.many_),Hc h0v (x := ([cell.l_.e0,cell.l_.e1,cell.l_.e2,cell.l_.e3].take cell.many_.toNat)) h3 (loC F2_ ([cell.l_.e0,cell.l_.e1,cell.l_.e2,cell.l_.e3].take cell.many_.toNat) <| loN),Hg (z2f h0f),Hm (shM (eI .i64) (eI .i64) r_2),Hs (z2g h0f (x := r_2) h4 (loC F2_ r_2 <| loN)),Hm (shM (eI .i64) (eI .i64) r_2),Hn (iL F1_ h5),Hs (iM F1_ h5),Hs (iM F1_ h5),Hl (sM F1_ c_Queues1 x23 r_3)]
  ·obtain rfl := zl hf1
   obtain rfl := hl1
   exact yB X0 hC hJ1 c_Queues1 hf0 [Hq c0]
def uk : Code := (Tryz.f69.body).getD .skip
def x5 : xi := spF (α := List z7) (ρ := List z7) 69 (fun x => [zaM x]) (fun r => z6u r) (fun x => xm x) [] (Ja)
theorem un {ctr : Ctr} (hC : zZ Tryz.prog ctr) : x5.Ok Tryz.prog := by
 refine yc ?_
 rintro s_ r0 hf0
 try unfold xm at hf0
 refine yO true [(2,none)] uk 9 Tryz.func69 fun E hE => ?_
 obtain ⟨g0,hf0⟩ := gdE hf0
 obtain rfl := zl hf0
 exact yE X0 hC hE [Ha (lnM wm s_),Ha (lnM wm s_),Hn (slB g0),Hn (slC g0),Hn (z4r wm g0),Ha (zaQ 2 wm s_ 0 ((s_.length : Nat) : Int).toNat)]
def Zn : Code := (Tryz.f30.body).getD .skip
def Zj : xi := spF (α := z8) (ρ := List z7 × List (List z6) × Int) 30 (fun x => [x6 x]) (fun r => .tup [z6u r.1,z3v r.2.1,(eI .i64) r.2.2]) (fun x => Zt x) [] (Ja)
abbrev VE (r_1 : List zb × List (List z6) × Int) (out : List z7) : List (Nat × T) := [(7,.d (eSl 1 true wH r_1.2.1)),(9,.own (eOs 2 false z1g out))]
abbrev VD (x_ : z8) (r_1 : List zb × List (List z6) × Int) (out1 : List z7) (x28 : Int) : List (Nat × T) := [(1,.own (.box (x6 x_))),(7,.d (eSl 1 true wH r_1.2.1)),(9,.own (eOs 2 false z1g out1)),(26,.d (eSl 24 false xh r_1.1)),(27,.d (I ((r_1.1.length : Nat) : Int))),(28,.d (I x28))]
theorem JM {ctr : Ctr} (hC : zZ Tryz.prog ctr) (h0c : ctr.Has uQ) (h0d : ctr.Has w6) (h0k : ctr.Has wL) (h0w : ctr.Has x5) : Zj.Ok Tryz.prog := by
 refine yc ?_
 rintro x_ r0 hf0
 try unfold Zt at hf0
 refine yO false [(2,none),(3,none),(4,none)] Zn 42 Tryz.func30 fun E hE => ?_
 obtain ⟨r_,h0,hf0⟩ := zo hf0
 let Z0 : List HO := [Hc h0c (x := x_) h0 (loC x6 x_ <| loN)]
 rcases zS hf0 with ⟨c0,hf0⟩ | ⟨c0,hf0⟩
 ·obtain rfl := zl hf0
  exact yEx X0 hC hE (Z0 ++ [Hq c0,Hm (shM wm wm []),Hm (shM qR qR [])]) (.tup [eSl 2 true wm [],eSl 1 true wH [],I r_]) (show LeV (.tup [eSl 2 true wm [],eSl 1 true wH [],I r_]) (.tup [eSl 2 true wm ([] : List z7),eSl 1 true wH ([] : List (List z6)),I r_]) from inferInstance)
 ·obtain ⟨r_1,h1,hf0⟩ := zo hf0
  let Z1 : List HO := (Z0 ++ [Hq c0,Hc h0d (x := x_) h1 (loC x6 x_ <| loN)])
  rcases zS hf0 with ⟨c1,hf0⟩ | ⟨c1,hf0⟩
  ·obtain rfl := zl hf0
   exact yEx X0 hC hE (Z1 ++ [Hq c1,Hm (shM wm wm []),Hm (shM qR qR [])]) (.tup [eSl 2 true wm [],eSl 1 true wH [],I r_1.2.2]) (show LeV (.tup [eSl 2 true wm [],eSl 1 true wH [],I r_1.2.2]) (.tup [eSl 2 true wm ([] : List z7),eSl 1 true wH ([] : List (List z6)),I r_1.2.2]) from inferInstance)
  ·refine yJ X0 hC Zn [1,1,1,1,1] [] [7,9] (fun z : List z7 => Zg r_1 z = some r0) (fun z => VE r_1 z) [(1,.own (.box (x6 x_))),(6,.d (eSl 24 false xh r_1.1)),(7,.d (eSl 1 true wH r_1.2.1)),(9,.own (eOs 2 true wm []))] (Z1 ++ [Hq c1,Hh (.cut 1)]) ?_ fun J1 hJ1 => ?_
   ·rintro out hf0
    unfold Zg at hf0
    obtain ⟨r_2,h2,hf0⟩ := zo hf0
    obtain rfl := zl hf0
    exact yE X0 hC hE [Hg (z2f h0w),Hm (shM z1g z1g out),Hs (z2g h0w (x := out) h2 (loC (eSl 2 false z1g) out <| loN)),Hm (shM z1g z1g out)]
   ·obtain ⟨t2,ht2,hf0⟩ := zo hf0
    refine yLx X0 hC Zn [1,1,1,1,1,2,1,0] [J1] (fun s => Zf x_ r_1 s.1 s.2) (fun x => VD x_ r_1 x.1 x.2) (([] : List z7),0) ht2 [(1,.own (.box (x6 x_))),(7,.d (eSl 1 true wH r_1.2.1)),(9,.own (eOs 2 true z1g [])),(26,.d (eSl 24 false xh r_1.1)),(27,.d (I ((r_1.1.length : Nat) : Int))),(28,.d (I 0))] inferInstance [Ha (lnM xh r_1.1)] ?_
    rintro ⟨out1,x28⟩ m2 lr1 hf1 hl1 J2 hJ2
    try unfold Zf at hf1
    rcases zS hf1 with ⟨c2,hf1⟩ | ⟨c2,hf1⟩
    ·obtain ⟨u_,h3,hf1⟩ := zo hf1
     obtain ⟨r_3,h4,hf1⟩ := zo hf1
     obtain ⟨g0,hf1⟩ := gdE hf1
     obtain rfl := zl hf1
     exact yB X0 hC hJ2 ((out1 ++ ([r_3] : List z7)),w64 (x28 + 1)) hl1 [Hq c2,Hi xh h3,Hc h0k (x := (x_,u_)) h4 (loC x6 x_ <| loC xh u_ <| loN),Hq (dM z1g ([r_3] : List z7)),Hn (dM z1g ([r_3] : List z7)),Hn (aL z1g z1g g0),Hl (aM z1g out1 ([r_3] : List z7))]
    ·obtain rfl := zl hf1
     obtain rfl := hl1
     exact yB X0 hC hJ1 out1 hf0 [Hq c2]
def KC : Code := (Tryz.f38.body).getD .skip
def ZL : xi := spF (α := Int × Int × List Int) (ρ := z7) 38 (fun x => [(eI .i64) x.1,(eI .i64) x.2.1,F2_ x.2.2]) (fun r => z92 r) (fun x => vA x.1 x.2.1 x.2.2) [] (zc4)
theorem KP {ctr : Ctr} (hC : zZ Tryz.prog ctr) : ZL.Ok Tryz.prog := by
 refine yc ?_
 rintro ⟨a_,b_,queue⟩ r0 hf0
 try unfold vA at hf0
 refine yO false [(6,some 39)] KC 13 Tryz.func38 fun E hE => ?_
 obtain rfl := zl hf0
 exact yE X0 hC hE [Hm (shM (eI .i64) (eI .i64) ([a_,b_])),Hm (shM F2_ F2_ ([queue]))]
def z18 : Code := (Tryz.f39.body).getD .skip
def Xk : xi := spF (α := Int × Int) (ρ := ze) 39 (fun x => [(eI .i64) x.1,(eI .i64) x.2]) (fun r => vM r) (fun x => qj x.1 x.2) [] (UV)
theorem z1q {ctr : Ctr} (hC : zZ Tryz.prog ctr) : Xk.Ok Tryz.prog := by
 refine yc ?_
 rintro ⟨part,arc⟩ r0 hf0
 try unfold qj at hf0
 refine yO false [(4,some 65)] z18 8 Tryz.func39 fun E hE => ?_
 obtain rfl := zl hf0
 exact yE X0 hC hE []
def vL : Code := (Tryz.f40.body).getD .skip
def YI : xi := spF (α := List z7 × List (List z6) × List z7 × List (List z6)) (ρ := Int) 40 (fun x => [z6u x.1,z3v x.2.1,zaM x.2.2.1,z91 x.2.2.2]) (fun r => (eI .i64) r) (fun x => Xw x.1 x.2.1 x.2.2.1 x.2.2.2) [] (zgu)
abbrev QC : List (Nat × T) := []
abbrev QB (s_ : List (List z6)) (steps : List (List z6)) (i_ : Int) (x74 : List z6) (x75 : List z6) (x76 : Int) (x79 : List z6) (x80 : List z6) (x81 : Int) (x82 : Bool) : List (Nat × T) := [(1,.d (eSl 1 true wH s_)),(3,.d (eSl 1 false qR steps)),(10,.d (I i_)),(72,.d (eSl 1 true wH s_)),(73,.d (I i_)),(74,.d (.sptr (eSl 5 true qB x74))),(75,.d (eSl 5 true qB x75)),(76,.d (I x76)),(77,.d (eSl 1 true wH s_)),(78,.d (I i_)),(79,.d (.sptr (eSl 5 true qB x79))),(80,.d (eSl 5 true qB x80)),(81,.d (I x81)),(82,.d (B x82))]
abbrev Qz (s_ : List (List z6)) (steps : List (List z6)) (i_ : Int) (s__e1 : List z6) (s__e2 : List z6) (k_ : Int) : List (Nat × T) := [(1,.d (eSl 1 true wH s_)),(3,.d (eSl 1 false qR steps)),(10,.d (I i_)),(11,.d (I k_)),(72,.d (eSl 1 true wH s_)),(73,.d (I i_)),(74,.d (.sptr (eSl 5 true qB s__e1))),(75,.d (eSl 5 true qB s__e1)),(76,.d (I ((s__e1.length : Nat) : Int))),(77,.d (eSl 1 true wH s_)),(78,.d (I i_)),(79,.d (.sptr (eSl 5 true qB s__e2))),(80,.d (eSl 5 true qB s__e2)),(81,.d (I ((s__e2.length : Nat) : Int))),(82,.d (B (((s__e1.length : Nat) : Int) != ((s__e2.length : Nat) : Int))))]
abbrev QA (s_ : List (List z6)) (steps : List (List z6)) (i_ : Int) : List (Nat × T) := [(1,.d (eSl 1 true wH s_)),(3,.d (eSl 1 false qR steps)),(10,.d (I i_))]
abbrev QD (s_ : List (List z6)) (steps : List (List z6)) : List (Nat × T) := [(1,.d (eSl 1 true wH s_)),(3,.d (eSl 1 false qR steps))]
abbrev Qy (c_ : List z7) (s_ : List (List z6)) (list : List z7) (steps : List (List z6)) (i_1 : Int) : List (Nat × T) := [(0,.d (eSl 2 true wm c_)),(1,.d (eSl 1 true wH s_)),(2,.d (eSl 2 false wm list)),(3,.d (eSl 1 false qR steps)),(9,.d (I i_1))]
theorem z0C {ctr : Ctr} (hC : zZ Tryz.prog ctr) (h0a : ctr.Has kl) : YI.Ok Tryz.prog := by
 refine yc ?_
 rintro ⟨c_,s_,list,steps⟩ r0 hf0
 try unfold Xw at hf0
 refine yO true [(8,none)] vL 108 Tryz.func40 fun E hE => ?_
 let Z0 : List HO := [Ha (lnM wm c_),Ha (lnM wm list)]
 rcases zS hf0 with ⟨c0,hf0⟩ | ⟨c0,hf0⟩
 ·obtain rfl := zl hf0
  exact yE X0 hC hE (Z0 ++ (rpN 6 (Hq c0) (rpN 13 qT [])))
 ·let Z1 : List HO := (Z0 ++ [Hq c0,Hq c0,Ha (lnM wH s_),Hq c0,Hq c0,Ha (lnM qR steps),Hq c0,Hq c0])
  rcases zS hf0 with ⟨c1,hf0⟩ | ⟨c1,hf0⟩
  ·obtain rfl := zl hf0
   exact yE X0 hC hE (Z1 ++ (rpN 6 (Hq c1) (rpN 7 qT [])))
  ·let Z2 : List HO := (Z1 ++ [Hq c1,Hq c1,Ha (lnM wm c_),Hq c1,Hq c1,Ha (lnM wm c_),Hq c1,Hq c1])
   rcases zS hf0 with ⟨c2,hf0⟩ | ⟨c2,hf0⟩
   ·obtain rfl := zl hf0
    exact yE X0 hC hE (Z2 ++ (rpN 6 (Hq c2) [qT]))
   ·let Z3 : List HO := (Z2 ++ [Hq c2,Hq c2,Ha (lnM wH s_),Hq c2,Hq c2,Ha (lnM wH s_),Hq c2,Hq c2])
    rcases zS hf0 with ⟨c3,hf0⟩ | ⟨c3,hf0⟩
    ·obtain rfl := zl hf0
     exact yE X0 hC hE (Z3 ++ [Hq c3])
    ·refine yJ X0 hC vL [1,1] [] [1,3] (fun z : Unit => YV s_ steps = some r0) (fun z => QD s_ steps) [(0,.d (eSl 2 true wm c_)),(1,.d (eSl 1 true wH s_)),(2,.d (eSl 2 false wm list)),(3,.d (eSl 1 false qR steps))] (Z3 ++ [Hq c3,Hh (.cut 0)]) ?_ fun J1 hJ1 => ?_
     ·rintro ⟨⟩ hf0
      unfold YV at hf0
      refine yJ X0 hC vL [1,1,1] [] [] (fun z : Unit => YU = some r0) (fun z => QC) [(1,.d (eSl 1 true wH s_)),(3,.d (eSl 1 false qR steps))] [Hh (.cut 0)] ?_ fun J2 hJ2 => ?_
      ·rintro ⟨⟩ hf0
       unfold YU at hf0
       obtain rfl := zl hf0
       exact yE X0 hC hE []
      ·obtain ⟨t3,ht3,hf0⟩ := zo hf0
       refine yL X0 hC vL [1,1,1,2,1,0] [J2] (fun s => YS s_ steps s) (fun x => QA s_ steps x) 0 ht3  [] ?_
       rintro i_ m3 lr1 hf1 hl1 J3 hJ3
       try unfold YS at hf1
       let Z4 : List HO := [Ha (lnM wH s_)]
       rcases zS hf1 with ⟨c4,hf1⟩ | ⟨c4,hf1⟩
       ·refine yJ X0 hC vL [1,1,1,2,1,0,0,1] [J2,J3] [1,3,10,72,73,74,75,76,77,78,79,80,81,82] (fun z : List z6 × List z6 × Int × List z6 × List z6 × Int × Bool => YT i_ z.1 z.2.1 z.2.2.1 z.2.2.2.1 z.2.2.2.2.1 z.2.2.2.2.2.1 z.2.2.2.2.2.2 = some lr1) (fun z => QB s_ steps i_ z.1 z.2.1 z.2.2.1 z.2.2.2.1 z.2.2.2.2.1 z.2.2.2.2.2.1 z.2.2.2.2.2.2) [(1,.d (eSl 1 true wH s_)),(3,.d (eSl 1 false qR steps)),(10,.d (I i_))] (Z4 ++ [Hq c4,Hh (.cut 0)]) ?_ fun J4 hJ4 => ?_
        ·rintro ⟨x74,x75,x76,x79,x80,x81,x82⟩ hf1
         unfold YT at hf1
         obtain rfl := zl hf1
         exact yB X0 hC hJ3 (w64 (i_ + 1)) hl1 []
        ·obtain ⟨s__e,h0,hf1⟩ := zo hf1
         obtain ⟨step_e,h1,hf1⟩ := zo hf1
         let Z5 : List HO := [Hi wH h0,Ha (lnM qB s__e),Hi qR h1,Ha (lnM qB step_e)]
         rcases zS hf1 with ⟨c5,hf1⟩ | ⟨c5,hf1⟩
         ·obtain rfl := zl hf1
          obtain rfl := hl1
          obtain rfl := zl hf0
          exact yE X0 hC hE (Z5 ++ (rpN 12 (Hq c5) [qT]))
         ·obtain ⟨s__e1,h2,hf1⟩ := zo hf1
          obtain ⟨s__e2,h3,hf1⟩ := zo hf1
          let Z6 : List HO := (Z5 ++ [Hq c5,Hq c5,Hq c5,Hi wH h2,Hq c5,Hq c5,Ha (lnM qB s__e1),Hq c5,Hq c5,Hq c5,Hi wH h3,Hq c5,Hq c5,Ha (lnM qB s__e2),Hq c5,Hq c5])
          rcases zS hf1 with ⟨c6,hf1⟩ | ⟨c6,hf1⟩
          ·obtain rfl := zl hf1
           obtain rfl := hl1
           obtain rfl := zl hf0
           exact yE X0 hC hE (Z6 ++ [Hq c6])
          ·obtain ⟨t5,ht5,hf1⟩ := zo hf1
           refine yL X0 hC vL [1,1,1,2,1,0,0,1,2,0,1,1,0] [J2,J3,J4] (fun s => YR s_ steps i_ s__e1 s__e2 s) (fun x => Qz s_ steps i_ s__e1 s__e2 x) 0 ht5  (Z6 ++ [Hq c6]) ?_
           rintro k_ m5 lr2 hf2 hl2 J5 hJ5
           try unfold YR at hf2
           obtain ⟨s__e3,h4,hf2⟩ := zo hf2
           let Z7 : List HO := [Hi wH h4,Ha (lnM qB s__e3)]
           rcases zS hf2 with ⟨c7,hf2⟩ | ⟨c7,hf2⟩
           ·obtain ⟨s__e4,h5,hf2⟩ := zo hf2
            obtain ⟨s__e_e,h6,hf2⟩ := zo hf2
            obtain ⟨step_e1,h7,hf2⟩ := zo hf2
            obtain ⟨step_e_e,h8,hf2⟩ := zo hf2
            let Z8 : List HO := (Z7 ++ [Hq c7,Hi wH h5,Hi qB h6,Hi qR h7,Hi qB h8])
            rcases zS hf2 with ⟨c8,hf2⟩ | ⟨c8,hf2⟩
            ·obtain rfl := zl hf2
             obtain rfl := hl2
             obtain rfl := zl hf1
             obtain rfl := hl1
             obtain rfl := zl hf0
             exact yE ((ze4 y5 107).or X0) hC hE (Z8 ++ [Hq c8])
            ·obtain rfl := zl hf2
             exact yB ((ze4 y5 107).or X0) hC hJ5 (w64 (k_ + 1)) hl2 (Z8 ++ [Hq c8])
           ·obtain rfl := zl hf2
            obtain rfl := hl2
            exact yB X0 hC hJ4 (s__e1,s__e1,((s__e1.length : Nat) : Int),s__e2,s__e2,((s__e2.length : Nat) : Int),((s__e1.length : Nat) : Int) != ((s__e2.length : Nat) : Int)) hf1 (Z7 ++ [Hq c7])
       ·obtain rfl := zl hf1
        obtain rfl := hl1
        exact yB X0 hC hJ2 () hf0 (Z4 ++ [Hq c4])
     ·obtain ⟨t6,ht6,hf0⟩ := zo hf0
      refine yL X0 hC vL [1,1,2,1,0] [J1] (fun s => YQ c_ list s) (fun x => Qy c_ s_ list steps x) 0 ht6  [] ?_
      rintro i_1 m6 lr1 hf1 hl1 J6 hJ6
      try unfold YQ at hf1
      let Z9 : List HO := [Ha (lnM wm c_)]
      rcases zS hf1 with ⟨c9,hf1⟩ | ⟨c9,hf1⟩
      ·obtain ⟨c__e,h9,hf1⟩ := zo hf1
       obtain ⟨list_e,h10,hf1⟩ := zo hf1
       obtain ⟨r_,h11,hf1⟩ := zo hf1
       let Z10 : List HO := (Z9 ++ [Hq c9,Hi wm h9,Hi wm h10,Hc h0a (x := (c__e,list_e)) h11 (loC wm c__e <| loC wm list_e <| loN)])
       rcases zS hf1 with ⟨c10,hf1⟩ | ⟨c10,hf1⟩
       ·obtain rfl := zl hf1
        obtain rfl := hl1
        obtain rfl := zl hf0
        exact yE X0 hC hE (Z10 ++ [Hq c10])
       ·obtain rfl := zl hf1
        exact yB X0 hC hJ6 (w64 (i_1 + 1)) hl1 (Z10 ++ [Hq c10])
      ·obtain rfl := zl hf1
       obtain rfl := hl1
       exact yB X0 hC hJ1 () hf0 (Z9 ++ [Hq c9])
def uY : Code := (Tryz.f18.body).getD .skip
def jt : xi := spF (α := zr × zr) (ρ := Int) 18 (fun x => [Uz x.1,Uz x.2]) (fun r => (eI .i64) r) (fun x => uF x.1 x.2) [] (UV)
abbrev VU : List (Nat × T) := []
abbrev VT (a_ : zr) (b_ : zr) (i_ : Int) : List (Nat × T) := [(2,.own (.box (Uz a_))),(3,.own (.box (Uz b_))),(5,.d (I i_))]
abbrev VR (a_ : zr) (b_ : zr) (i_ : Int) (k_ : Int) : List (Nat × T) := [(2,.own (.box (Uz a_))),(3,.own (.box (Uz b_))),(5,.d (I i_)),(6,.d (I k_))]
abbrev VS (a_ : zr) (b_ : zr) (i_ : Int) : List (Nat × T) := [(2,.own (.box (Uz a_))),(3,.own (.box (Uz b_))),(5,.d (I i_))]
theorem JP {ctr : Ctr} (hC : zZ Tryz.prog ctr) : jt.Ok Tryz.prog := by
 refine yc ?_
 rintro ⟨a_,b_⟩ r0 hf0
 try unfold uF at hf0
 refine yO true [(4,none)] uY 75 Tryz.func18 fun E hE => ?_
 rcases zS hf0 with ⟨c0,hf0⟩ | ⟨c0,hf0⟩
 ·obtain rfl := zl hf0
  exact yE X0 hC hE (rpN 6 (Hq c0) (rpN 9 qT []))
 ·let Z0 : List HO := (rpN 6 (Hq c0) [])
  rcases zS hf0 with ⟨c1,hf0⟩ | ⟨c1,hf0⟩
  ·obtain rfl := zl hf0
   exact yE X0 hC hE (Z0 ++ (rpN 8 (Hq c1) [qT]))
  ·let Z1 : List HO := (Z0 ++ [Hq c1,Hq c1,Hq c1,Ha (lnM ul a_.Rows),Hq c1,Hq c1,Hq c1,Ha (lnM ul b_.Rows),Hq c1,Hq c1])
   rcases zS hf0 with ⟨c2,hf0⟩ | ⟨c2,hf0⟩
   ·obtain rfl := zl hf0
    exact yE X0 hC hE (Z1 ++ [Hq c2])
   ·refine yJ X0 hC uY [1,1] [] [] (fun z : Unit => Zm = some r0) (fun z => VU) [(2,.own (.box (Uz a_))),(3,.own (.box (Uz b_)))] (Z1 ++ [Hq c2,Hh (.cut 0)]) ?_ fun J1 hJ1 => ?_
    ·rintro ⟨⟩ hf0
     unfold Zm at hf0
     obtain rfl := zl hf0
     exact yE X0 hC hE []
    ·obtain ⟨t2,ht2,hf0⟩ := zo hf0
     refine yL X0 hC uY [1,1,2,1,0] [J1] (fun s => uV a_ b_ s) (fun x => VS a_ b_ x) 0 ht2  [] ?_
     rintro i_ m2 lr1 hf1 hl1 J2 hJ2
     try unfold uV at hf1
     let Z2 : List HO := [Ha (lnM ul a_.Rows)]
     rcases zS hf1 with ⟨c3,hf1⟩ | ⟨c3,hf1⟩
     ·refine yJ X0 hC uY [1,1,2,1,0,0,1] [J1,J2] [2,3,5] (fun z : Unit => Zl i_ = some lr1) (fun z => VT a_ b_ i_) [(2,.own (.box (Uz a_))),(3,.own (.box (Uz b_))),(5,.d (I i_))] (Z2 ++ [Hq c3,Hh (.cut 0)]) ?_ fun J3 hJ3 => ?_
      ·rintro ⟨⟩ hf1
       unfold Zl at hf1
       obtain rfl := zl hf1
       exact yB X0 hC hJ2 (w64 (i_ + 1)) hl1 []
      ·obtain ⟨Row_e,h0,hf1⟩ := zo hf1
       obtain ⟨Row_e1,h1,hf1⟩ := zo hf1
       let Z3 : List HO := [Hi ul h0,Ha (lnM F8_ Row_e),Hi ul h1,Ha (lnM F8_ Row_e1)]
       rcases zS hf1 with ⟨c4,hf1⟩ | ⟨c4,hf1⟩
       ·obtain rfl := zl hf1
        obtain rfl := hl1
        obtain rfl := zl hf0
        exact yE X0 hC hE (Z3 ++ [Hq c4])
       ·obtain ⟨t4,ht4,hf1⟩ := zo hf1
        refine yL X0 hC uY [1,1,2,1,0,0,1,2,0,1,1,0] [J1,J2,J3] (fun s => uU a_ b_ i_ s) (fun x => VR a_ b_ i_ x) 0 ht4  (Z3 ++ [Hq c4]) ?_
        rintro k_ m4 lr2 hf2 hl2 J4 hJ4
        try unfold uU at hf2
        obtain ⟨Row_e2,h2,hf2⟩ := zo hf2
        let Z4 : List HO := [Hi ul h2,Ha (lnM F8_ Row_e2)]
        rcases zS hf2 with ⟨c5,hf2⟩ | ⟨c5,hf2⟩
        ·obtain ⟨Row_e3,h3,hf2⟩ := zo hf2
         obtain ⟨Row_e_e,h4,hf2⟩ := zo hf2
         obtain ⟨Row_e4,h5,hf2⟩ := zo hf2
         obtain ⟨Row_e_e1,h6,hf2⟩ := zo hf2
         let Z5 : List HO := (Z4 ++ [Hq c5,Hi ul h3,Hi F8_ h4,Hi ul h5,Hi F8_ h6])
         rcases zS hf2 with ⟨c6,hf2⟩ | ⟨c6,hf2⟩
         ·obtain rfl := zl hf2
          obtain rfl := hl2
          obtain rfl := zl hf1
          obtain rfl := hl1
          obtain rfl := zl hf0
          exact yE X0 hC hE (Z5 ++ [Hq c6])
         ·obtain rfl := zl hf2
          exact yB X0 hC hJ4 (w64 (k_ + 1)) hl2 (Z5 ++ [Hq c6])
        ·obtain rfl := zl hf2
         obtain rfl := hl2
         exact yB X0 hC hJ3 () hf1 (Z4 ++ [Hq c5])
     ·obtain rfl := zl hf1
      obtain rfl := hl1
      exact yB X0 hC hJ1 () hf0 (Z2 ++ [Hq c3])
def uK : Code := (Tryz.f92.body).getD .skip
def uz : xi := spF (α := List Int × Int) (ρ := Int) 92 (fun x => [F2_ x.1,(eI .i64) x.2]) (fun r => (eI .i64) r) (fun x => je x.1 x.2) [] (UV)
abbrev Ym : List (Nat × T) := []
abbrev Yl (s_ : List Int) (v_ : Int) (x8 : Int) : List (Nat × T) := [(0,.d (eSl 1 false (eI .i64) s_)),(1,.d (I v_)),(7,.d (I ((s_.length : Nat) : Int))),(8,.d (I x8))]
theorem XX {ctr : Ctr} (hC : zZ Tryz.prog ctr) : uz.Ok Tryz.prog := by
 refine yc ?_
 rintro ⟨s_,v_⟩ r0 hf0
 try unfold je at hf0
 refine yO true [(4,none)] uK 19 Tryz.func92 fun E hE => ?_
 refine yJ X0 hC uK [1] [] [] (fun z : Unit => uD = some r0) (fun z => Ym) [(0,.d (eSl 1 false (eI .i64) s_)),(1,.d (I v_))] [Hh (.cut 1)] ?_ fun J1 hJ1 => ?_
 ·rintro ⟨⟩ hf0
  unfold uD at hf0
  obtain rfl := zl hf0
  exact yE X0 hC hE []
 ·obtain ⟨t2,ht2,hf0⟩ := zo hf0
  refine yL X0 hC uK [1,2,1,0] [J1] (fun s => uC s_ v_ s) (fun x => Yl s_ v_ x) 0 ht2  [Ha (lnM (eI .i64) s_)] ?_
  rintro x8 m2 lr1 hf1 hl1 J2 hJ2
  try unfold uC at hf1
  rcases zS hf1 with ⟨c0,hf1⟩ | ⟨c0,hf1⟩
  ·obtain ⟨s__e,h0,hf1⟩ := zo hf1
   rcases zS hf1 with ⟨c1,hf1⟩ | ⟨c1,hf1⟩
   ·obtain rfl := zl hf1
    obtain rfl := hl1
    obtain rfl := zl hf0
    exact yE X0 hC hE [Hq c0,Hi (eI .i64) h0,Hq c1]
   ·obtain rfl := zl hf1
    exact yB X0 hC hJ2 (w64 (x8 + 1)) hl1 [Hq c0,Hi (eI .i64) h0,Hq c1]
  ·obtain rfl := zl hf1
   obtain rfl := hl1
   exact yB X0 hC hJ1 () hf0 [Hq c0]
def Yc : Code := (Tryz.f73.body).getD .skip
def vd : xi := spF (α := List Int × Int) (ρ := Bool) 73 (fun x => [F2_ x.1,(eI .i64) x.2]) (fun r => eB r) (fun x => uE x.1 x.2) [] (UV)
theorem YB {ctr : Ctr} (hC : zZ Tryz.prog ctr) (h0T : ctr.Has uz) : vd.Ok Tryz.prog := by
 refine yc ?_
 rintro ⟨s_,v_⟩ r0 hf0
 try unfold uE at hf0
 refine yO true [(4,none)] Yc 9 Tryz.func73 fun E hE => ?_
 obtain ⟨r_,h0,hf0⟩ := zo hf0
 obtain rfl := zl hf0
 exact yE X0 hC hE [Hc h0T (x := (s_,v_)) h0 (loC F2_ s_ <| loC (eI .i64) v_ <| loN)]
def uJ : Code := (Tryz.f42.body).getD .skip
def uv : xi := spF (α := z8 × zb) (ρ := Bool) 42 (fun x => [x6 x.1,xh x.2]) (fun r => eB r) (fun x => j9 x.1 x.2) [] (UV)
abbrev Yf (s_ : zb) : List (Nat × T) := [(3,.own (.box (xh s_)))]
abbrev Ye (x_ : z8) (s_ : zb) (x10 : Int) : List (Nat × T) := [(3,.own (.box (xh s_))),(8,.d (eSl 3 false ve x_.Parts)),(9,.d (I ((x_.Parts.length : Nat) : Int))),(10,.d (I x10))]
theorem XU {ctr : Ctr} (hC : zZ Tryz.prog ctr) (h0U : ctr.Has vd) : uv.Ok Tryz.prog := by
 refine yc ?_
 rintro ⟨x_,s_⟩ r0 hf0
 try unfold j9 at hf0
 refine yO true [(4,none)] uJ 28 Tryz.func42 fun E hE => ?_
 refine yJ X0 hC uJ [1] [] [3] (fun z : Unit => up s_ = some r0) (fun z => Yf s_) [(2,.own (.box (x6 x_))),(3,.own (.box (xh s_)))] [Hh (.cut 1)] ?_ fun J1 hJ1 => ?_
 ·rintro ⟨⟩ hf0
  unfold up at hf0
  obtain rfl := zl hf0
  exact yE ((ze4 y5 27).or X0) hC hE []
 ·obtain ⟨t2,ht2,hf0⟩ := zo hf0
  refine yL X0 hC uJ [1,2,1,0] [J1] (fun s => uo x_ s_ s) (fun x => Ye x_ s_ x) 0 ht2  [Ha (lnM ve x_.Parts)] ?_
  rintro x10 m2 lr1 hf1 hl1 J2 hJ2
  try unfold uo at hf1
  rcases zS hf1 with ⟨c0,hf1⟩ | ⟨c0,hf1⟩
  ·obtain ⟨Part_e,h0,hf1⟩ := zo hf1
   obtain ⟨cell,h1,hf1⟩ := zo hf1
   obtain ⟨r_,h2,hf1⟩ := zo hf1
   let Z0 : List HO := [Hq c0,Hi ve h0,Hn (⟨arJ (by kernel_rfl) (i0 h1),(iL (eI .i64) h1).2⟩ : Xe wl 110 ((ya.toL s_.states_).map (eI .i64)) x10 = true ∧ x10.toNat < ((ya.toL s_.states_).map (eI .i64)).length),Hh (.op 9),Hh (.f),Hx (.a (.agg [I s_.states_.e0,I s_.states_.e1,I s_.states_.e2,I s_.states_.e3])) (rfl : some (.agg [I s_.states_.e0,I s_.states_.e1,I s_.states_.e2,I s_.states_.e3] : A) = some (.agg [I s_.states_.e0,I s_.states_.e1,I s_.states_.e2,I s_.states_.e3])),Hh (.f),Hs (iM (eI .i64) h1),Hc h0U (x := (Part_e.Final,cell)) h2 (loC F2_ Part_e.Final <| loC (eI .i64) cell <| loN)]
   rcases zS hf1 with ⟨c1,hf1⟩ | ⟨c1,hf1⟩
   ·obtain rfl := zl hf1
    obtain rfl := hl1
    obtain rfl := zl hf0
    exact yE X0 hC hE (Z0 ++ [Hq c1])
   ·obtain rfl := zl hf1
    exact yB X0 hC hJ2 (w64 (x10 + 1)) hl1 (Z0 ++ [Hq c1])
  ·obtain rfl := zl hf1
   obtain rfl := hl1
   exact yB X0 hC hJ1 () hf0 [Hq c0]
def wg : Code := (Tryz.f43.body).getD .skip
abbrev vP (s_1 : List ze) (i_ : Int) (j_ : Int) : List (Nat × T) := [(0,.own (eOs 4 false vM s_1)),(2,.d (I i_)),(3,.d (I j_))]
theorem uM {ctr : Ctr} (hC : zZ Tryz.prog ctr) (cv0 : Value) : ∀ (s_ : List ze) (r0 : List ze),xq s_ = some r0 → Zr Tryz.prog (.fn 43 []) [.atom cv0] ([cv0].zip [eOs 4 false vM s_]) (.tup []) [eOs 4 false vM r0] := by
 intro s_ r0 hf0
 refine z7M (tt := wl) (nt := 28) (body := wg) [0] y5 Tryz.func43 rfl (by kernel_rfl) rfl rfl (by show (1 : Nat) ≤ 28; decide) (by decide) rfl rfl (fun E hE => ?_) rfl
 unfold xq at hf0
 refine zcq 0 (v := cv0) (y := eOs 4 false vM s_) (by kernel_rfl) (by kernel_rfl) (by kernel_rfl) fun hv0 => ?_
 obtain ⟨t1,ht1,hf0⟩ := zo hf0
 refine yL X0 hC wg [1,0] [] (fun s => xc s.1 s.2.1 s.2.2) (fun x => vP x.1 x.2.1 x.2.2) (s_,0,w64 (((s_.length : Nat) : Int) - 1)) ht1  [Ha (lnM vM s_)] ?_
 rintro ⟨s_1,i_,j_⟩ m1 lr1 hf1 hl1 J1 hJ1
 try unfold xc at hf1
 rcases zS hf1 with ⟨c0,hf1⟩ | ⟨c0,hf1⟩
 ·obtain ⟨s__e,h0,hf1⟩ := zo hf1
  obtain ⟨s__e1,h1,hf1⟩ := zo hf1
  obtain ⟨s__e2,h2,hf1⟩ := zo hf1
  obtain ⟨u_e,h3,hf1⟩ := zo hf1
  obtain rfl := zl hf1
  exact yB ((xIx y5 27 0 cv0).or ((xMv Tryz.prog 16 0 cv0 hv0).or X0)) hC hJ1 (((s_1.set i_.toNat s__e).set j_.toNat s__e1),w64 (i_ + 1),w64 (j_ - 1)) hl1 [Hq c0,Hn (rfl : some cv0 = some cv0),Hn (iL vM h0),Hs (iM vM h0),Hn (iL vM h1),Hs (iM vM h1),Hn (iL vM h2),Hs (iM vM h2),Hs (iM vM h2),Hl (sM vM s_1 i_ s__e),Hn (⟨rfl,rfl⟩ : T.d (.atom cv0) = T.d (.atom cv0) ∧ some cv0 = some cv0),Hn (iL vM h3),Hs (iM vM h3),Hs (iM vM h3),Hl (sM vM (s_1.set i_.toNat s__e) j_ s__e1)]
 ·obtain rfl := zl hf1
  obtain rfl := hl1
  obtain rfl := zl hf0
  exact yF X0 hC .normal [(0,.own (eOs 4 false vM s_1))] [Hq c0] fun st0 h0 => hE _ st0 (.inl rfl) (z5n h0 ⟨⟨rfl,rfl⟩,trivial⟩)
def qD : Code := (Tryz.f44.body).getD .skip
def xp : xi := spF (α := List ze) (ρ := List ze) 44 (fun x => [zdM x]) (fun r => z8w r) (fun x => xC x) [] (Ja)
theorem qM {ctr : Ctr} (hC : zZ Tryz.prog ctr) : xp.Ok Tryz.prog := by
 refine yc ?_
 rintro s_ r0 hf0
 try unfold xC at hf0
 refine yO true [(2,none)] qD 9 Tryz.func44 fun E hE => ?_
 obtain ⟨g0,hf0⟩ := gdE hf0
 obtain rfl := zl hf0
 exact yE X0 hC hE [Ha (lnM vM s_),Ha (lnM vM s_),Hn (slB g0),Hn (slC g0),Hn (z4r vM g0),Ha (zaQ 4 vM s_ 0 ((s_.length : Nat) : Int).toNat)]
def zV : Code := (Tryz.f12.body).getD .skip
def jK : xi := spF (α := z8) (ρ := List ze × z7 × Int) 12 (fun x => [x6 x]) (fun r => .tup [z8w r.1,z1g r.2.1,(eI .i64) r.2.2]) (fun x => js x) [] (Ja)
abbrev Wb : List (Nat × T) := [(3,.own (.box (.agg [eOs 1 true (eI .i64) [],eOs 1 true F2_ []])))]
abbrev Wa (x_ : z8) (r_1 : List zb × List (List z6) × Int) (by_ : List zw) (x69 : Int) : List (Nat × T) := [(1,.own (.box (x6 x_))),(3,.own (.box (.agg [eOs 1 true (eI .i64) [],eOs 1 true F2_ []]))),(6,.d (eSl 24 false xh r_1.1)),(9,.own (eOs 5 true QV by_)),(67,.d (eSl 1 true wH r_1.2.1)),(68,.d (I ((r_1.2.1.length : Nat) : Int))),(69,.d (I x69))]
abbrev W9 (x_ : z8) (r_1 : List zb × List (List z6) × Int) (x69 : Int) (run : List ze) : List (Nat × T) := [(1,.own (.box (x6 x_))),(3,.own (.box (.agg [eOs 1 true (eI .i64) [],eOs 1 true F2_ []]))),(6,.d (eSl 24 false xh r_1.1)),(15,.d (I x69)),(17,.own (eOs 4 false vM run))]
abbrev W6 (x_ : z8) (r_1 : List zb × List (List z6) × Int) (by_ : List zw) (x69 : Int) (run1 : List ze) (n_ : Int) : List (Nat × T) := [(1,.own (.box (x6 x_))),(3,.own (.box (.agg [eOs 1 true (eI .i64) [],eOs 1 true F2_ []]))),(6,.d (eSl 24 false xh r_1.1)),(9,.own (eOs 5 true QV by_)),(15,.d (I x69)),(17,.own (eOs 4 false vM run1)),(18,.d (I n_))]
abbrev W7 (x_ : z8) (r_1 : List zb × List (List z6) × Int) (by_ : List zw) (x69 : Int) : List (Nat × T) := [(1,.own (.box (x6 x_))),(3,.own (.box (.agg [eOs 1 true (eI .i64) [],eOs 1 true F2_ []]))),(6,.d (eSl 24 false xh r_1.1)),(9,.own (eOs 5 true QV by_)),(67,.d (eSl 1 true wH r_1.2.1)),(68,.d (I ((r_1.2.1.length : Nat) : Int))),(69,.d (I x69))]
abbrev Wc (x_ : z8) (r_1 : List zb × List (List z6) × Int) (by_ : List zw) : List (Nat × T) := [(1,.own (.box (x6 x_))),(3,.own (.box (.agg [eOs 1 true (eI .i64) [],eOs 1 true F2_ []]))),(6,.d (eSl 24 false xh r_1.1)),(7,.d (eSl 1 true wH r_1.2.1)),(9,.own (eOs 5 true QV by_))]
abbrev W8 (x_ : z8) (r_1 : List zb × List (List z6) × Int) (x40 : Int) (by_2 : List zw) (seen1 : Int) : List (Nat × T) := [(1,.own (.box (x6 x_))),(3,.own (.box (.agg [eOs 1 true (eI .i64) [],eOs 1 true F2_ []]))),(6,.d (eSl 24 false xh r_1.1)),(7,.d (eSl 1 true wH r_1.2.1)),(9,.own (eOs 5 true QV by_2)),(10,.d (I seen1)),(38,.d (eSl 1 true wH r_1.2.1)),(39,.d (I ((r_1.2.1.length : Nat) : Int))),(40,.d (I x40))]
abbrev XN (x_ : z8) (r_1 : List zb × List (List z6) × Int) (x40 : Int) (u_3 : List z6) (x47 : Int) (by_4 : List zw) (seen3 : Int) : List (Nat × T) := [(1,.own (.box (x6 x_))),(3,.own (.box (.agg [eOs 1 true (eI .i64) [],eOs 1 true F2_ []]))),(6,.d (eSl 24 false xh r_1.1)),(7,.d (eSl 1 true wH r_1.2.1)),(9,.own (eOs 5 true QV by_4)),(10,.d (I seen3)),(11,.d (I x40)),(38,.d (eSl 1 true wH r_1.2.1)),(39,.d (I ((r_1.2.1.length : Nat) : Int))),(40,.d (I x40)),(45,.d (eSl 5 true qB u_3)),(46,.d (I ((u_3.length : Nat) : Int))),(47,.d (I x47))]
abbrev W4 (x_ : z8) (r_1 : List zb × List (List z6) × Int) (x40 : Int) (u_3 : List z6) (by_3 : List zw) (seen2 : Int) (x47 : Int) : List (Nat × T) := [(1,.own (.box (x6 x_))),(3,.own (.box (.agg [eOs 1 true (eI .i64) [],eOs 1 true F2_ []]))),(6,.d (eSl 24 false xh r_1.1)),(7,.d (eSl 1 true wH r_1.2.1)),(9,.own (eOs 5 true QV by_3)),(10,.d (I seen2)),(11,.d (I x40)),(38,.d (eSl 1 true wH r_1.2.1)),(39,.d (I ((r_1.2.1.length : Nat) : Int))),(40,.d (I x40)),(45,.d (eSl 5 true qB u_3)),(46,.d (I ((u_3.length : Nat) : Int))),(47,.d (I x47))]
abbrev W5 (x_ : z8) (r_1 : List zb × List (List z6) × Int) (by_1 : List zw) (seen : Int) (x40 : Int) : List (Nat × T) := [(1,.own (.box (x6 x_))),(3,.own (.box (.agg [eOs 1 true (eI .i64) [],eOs 1 true F2_ []]))),(6,.d (eSl 24 false xh r_1.1)),(7,.d (eSl 1 true wH r_1.2.1)),(9,.own (eOs 5 true QV by_1)),(10,.d (I seen)),(38,.d (eSl 1 true wH r_1.2.1)),(39,.d (I ((r_1.2.1.length : Nat) : Int))),(40,.d (I x40))]
theorem VW {ctr : Ctr} (hC : zZ Tryz.prog ctr) (h0c : ctr.Has uQ) (h0d : ctr.Has w6) (h0V : ctr.Has uv) (h0x : ctr.Has xp) (h0k : ctr.Has wL) : jK.Ok Tryz.prog := by
 refine yc ?_
 rintro x_ r0 hf0
 try unfold js at hf0
 refine yO false [(2,none),(3,some 39),(4,none)] zV 113 Tryz.func12 fun E hE => ?_
 obtain ⟨r_,h0,hf0⟩ := zo hf0
 let Z0 : List HO := [Hc h0c (x := x_) h0 (loC x6 x_ <| loN)]
 rcases zS hf0 with ⟨c0,hf0⟩ | ⟨c0,hf0⟩
 ·obtain rfl := zl hf0
  exact yEx X0 hC hE (Z0 ++ [Hq c0,Hm (shM vM vM []),Hm (shM (eI .i64) (eI .i64) []),Hm (shM F2_ F2_ [])]) (.tup [eSl 4 true vM [],.agg [eSl 1 true (eI .i64) [],eSl 1 true F1_ []],I r_]) (show LeV (.tup [eSl 4 true vM [],.agg [eSl 1 true (eI .i64) [],eSl 1 true F1_ []],I r_]) (.tup [eSl 4 true vM ([] : List ze),.agg [eSl 1 true (eI .i64) [],eSl 1 true F1_ []],I r_]) from inferInstance)
 ·obtain ⟨r_1,h1,hf0⟩ := zo hf0
  let Z1 : List HO := (Z0 ++ [Hq c0,Hc h0d (x := x_) h1 (loC x6 x_ <| loN)])
  rcases zS hf0 with ⟨c1,hf0⟩ | ⟨c1,hf0⟩
  ·obtain rfl := zl hf0
   exact yEx X0 hC hE (Z1 ++ [Hq c1,Hm (shM vM vM []),Hm (shM (eI .i64) (eI .i64) []),Hm (shM F2_ F2_ [])]) (.tup [eSl 4 true vM [],.agg [eSl 1 true (eI .i64) [],eSl 1 true F1_ []],I r_1.2.2]) (show LeV (.tup [eSl 4 true vM [],.agg [eSl 1 true (eI .i64) [],eSl 1 true F1_ []],I r_1.2.2]) (.tup [eSl 4 true vM ([] : List ze),.agg [eSl 1 true (eI .i64) [],eSl 1 true F1_ []],I r_1.2.2]) from inferInstance)
  ·obtain ⟨g0,hf0⟩ := gdE hf0
   refine yJ X0 hC zV [1,1,1,1,1,1] [] [1,3,6,7,9] (fun z : List zw => jJ x_ r_1 z = some r0) (fun z => Wc x_ r_1 z) [(1,.own (.box (x6 x_))),(3,.own (.box (.agg [eOs 1 true (eI .i64) [],eOs 1 true F2_ []]))),(6,.d (eSl 24 false xh r_1.1)),(7,.d (eSl 1 true wH r_1.2.1)),(9,.own (eOs 5 true QV (List.replicate ((r_1.1.length : Nat) : Int).toNat (zw.mk 0 (ze.mk 0 0 0 0))))),(10,.d (I 1))] (Z1 ++ [Hq c1,Ha (lnM xh r_1.1),Hn (rL g0),Ha (rM 5 QV ((r_1.1.length : Nat) : Int) (zw.mk 0 (ze.mk 0 0 0 0))),Hh (.cut 1)]) ?_ fun J1 hJ1 => ?_
   ·rintro by_ hf0
    unfold jJ at hf0
    refine yJ X0 hC zV [1,1,1,1,1,1,1] [] [3] (fun z : Unit => jI = some r0) (fun z => Wb) [(1,.own (.box (x6 x_))),(3,.own (.box (.agg [eOs 1 true (eI .i64) [],eOs 1 true F2_ []]))),(6,.d (eSl 24 false xh r_1.1)),(7,.d (eSl 1 true wH r_1.2.1)),(9,.own (eOs 5 true QV by_))] [Hh (.cut 0)] ?_ fun J2 hJ2 => ?_
    ·rintro ⟨⟩ hf0
     unfold jI at hf0
     obtain rfl := zl hf0
     exact yEx X0 hC hE [Hm (shM vM vM []),Hm (shM (eI .i64) (eI .i64) []),Hm (shM F2_ F2_ [])] (.tup [eSl 4 true vM [],.agg [eSl 1 true (eI .i64) [],eSl 1 true F1_ []],I 7]) (show LeV (.tup [eSl 4 true vM [],.agg [eSl 1 true (eI .i64) [],eSl 1 true F1_ []],I 7]) (.tup [eSl 4 true vM ([] : List ze),.agg [eSl 1 true (eI .i64) [],eSl 1 true F1_ []],I 7]) from inferInstance)
    ·obtain ⟨t3,ht3,hf0⟩ := zo hf0
     refine yL X0 hC zV [1,1,1,1,1,1,1,2,1,0] [J2] (fun s => jF x_ r_1 by_ s) (fun x => W7 x_ r_1 by_ x) 0 ht3  [Ha (lnM wH r_1.2.1)] ?_
     rintro x69 m3 lr1 hf1 hl1 J3 hJ3
     try unfold jF at hf1
     rcases zS hf1 with ⟨c2,hf1⟩ | ⟨c2,hf1⟩
     ·refine yJ X0 hC zV [1,1,1,1,1,1,1,2,1,0,0,1,1] [J2,J3] [1,3,6,9,67,68,69] (fun z : Unit => ur x69 = some lr1) (fun z => Wa x_ r_1 by_ x69) [(1,.own (.box (x6 x_))),(3,.own (.box (.agg [eOs 1 true (eI .i64) [],eOs 1 true F2_ []]))),(6,.d (eSl 24 false xh r_1.1)),(9,.own (eOs 5 true QV by_)),(67,.d (eSl 1 true wH r_1.2.1)),(68,.d (I ((r_1.2.1.length : Nat) : Int))),(69,.d (I x69))] [Hq c2,Hh (.cut 0)] ?_ fun J4 hJ4 => ?_
      ·rintro ⟨⟩ hf1
       unfold ur at hf1
       obtain rfl := zl hf1
       exact yB X0 hC hJ3 (w64 (x69 + 1)) hl1 []
      ·obtain ⟨u_,h2,hf1⟩ := zo hf1
       let Z2 : List HO := [Hi wH h2,Ha (lnM qB u_)]
       rcases zS hf1 with ⟨c3,hf1⟩ | ⟨c3,hf1⟩
       ·exact yB X0 hC hJ4 () hf1 (Z2 ++ (rpN 7 (Hq c3) [qT]))
       ·obtain ⟨u_1,h3,hf1⟩ := zo hf1
        obtain ⟨r_2,h4,hf1⟩ := zo hf1
        let Z3 : List HO := (Z2 ++ (rpN 4 (Hq c3) [Hi xh h3,Hq c3,Hq c3,Hc h0V (x := (x_,u_1)) h4 (loC x6 x_ <| loC xh u_1 <| loN),Hq c3]))
        rcases zS hf1 with ⟨c4,hf1⟩ | ⟨c4,hf1⟩
        ·exact yB X0 hC hJ4 () hf1 (Z3 ++ [Hq c4])
        ·refine yJ X0 hC zV [1,1,1,1,1,1,1,2,1,0,0,1,1,2,0,1,1,1] [J2,J3,J4] [1,3,6,15,17] (fun z : List ze => jH x_ r_1 x69 z = some lr1) (fun z => W9 x_ r_1 x69 z) [(1,.own (.box (x6 x_))),(3,.own (.box (.agg [eOs 1 true (eI .i64) [],eOs 1 true F2_ []]))),(6,.d (eSl 24 false xh r_1.1)),(9,.own (eOs 5 true QV by_)),(15,.d (I x69)),(17,.own (eOs 4 true vM []))] (Z3 ++ [Hq c4,Hh (.cut 1)]) ?_ fun J5 hJ5 => ?_
         ·rintro run hf1
          unfold jH at hf1
          refine yA X0 hC zV [1,1,1,1,1,1,1,2,1,0,0,1,1,2,0,1,1,1,1] [J2,J3,J4] [(1,.own (.box (x6 x_))),(3,.own (.box (.agg [eOs 1 true (eI .i64) [],eOs 1 true F2_ []]))),(6,.d (eSl 24 false xh r_1.1)),(15,.d (I x69)),(17,.own (eOs 4 false vM run))] [Hh (.cut 0)] ?_
          obtain ⟨r_3,h5,hf1⟩ := zo hf1
          refine z2B (by kernel_rfl) (x := (sub [1,1,1,1,1,1,1,2,1,0,0,1,1,2,0,1,1,1,1,0] zV)) (y := (sub [1,1,1,1,1,1,1,2,1,0,0,1,1,2,0,1,1,1,1,1] zV)) 17 (fun st1 => Own.canon [1,3,6,15,17] st1 = ofL [(1,.own (.box (x6 x_))),(3,.own (.box (.agg [eOs 1 true (eI .i64) [],eOs 1 true F2_ []]))),(6,.d (eSl 24 false xh r_1.1)),(15,.d (I x69)),(17,.own (eOs 4 false vM r_3))]) (fun pv17 => yF ((jR (P := Tryz.prog) wl [17] (uM hC pv17 _ _ h5) 102).or X0) hC .normal [(1,.own (.box (x6 x_))),(3,.own (.box (.agg [eOs 1 true (eI .i64) [],eOs 1 true F2_ []]))),(6,.d (eSl 24 false xh r_1.1)),(15,.d (I x69)),(17,.own (eOs 4 false vM r_3))] [Hn (Wh (f := .fn 43 []) (xs := [.atom pv17]) (ls := [(pv17,eOs 4 false vM run)]) (r := .tup []) (ys := [eOs 4 false vM r_3]) [.atom pv17] (show z1f [.atom pv17] [.atom pv17] from inferInstance))] fun st0 h0 => ⟨rfl,h0⟩) fun st1 h1 => z3r h1 ?_
          obtain ⟨r_4,h6,hf1⟩ := zo hf1
          obtain ⟨u_2,h7,hf1⟩ := zo hf1
          obtain ⟨r_5,h8,hf1⟩ := zo hf1
          obtain rfl := zl hf1
          obtain rfl := hl1
          obtain rfl := zl hf0
          exact yE X0 hC hE [Hg (z2f h0x),Hm (shM vM vM r_3),Hs (z2g h0x (x := r_3) h6 (loC zdM r_3 <| loN)),Hm (shM vM vM r_3),Hi xh h7,Hc h0k (x := (x_,u_2)) h8 (loC x6 x_ <| loC xh u_2 <| loN)]
         ·obtain ⟨t6,ht6,hf1⟩ := zo hf1
          refine yLx X0 hC zV [1,1,1,1,1,1,1,2,1,0,0,1,1,2,0,1,1,1,2,1,0] [J2,J3,J4,J5] (fun s => jE by_ s.1 s.2) (fun x => W6 x_ r_1 by_ x69 x.1 x.2) (([] : List ze),x69) ht6 [(1,.own (.box (x6 x_))),(3,.own (.box (.agg [eOs 1 true (eI .i64) [],eOs 1 true F2_ []]))),(6,.d (eSl 24 false xh r_1.1)),(9,.own (eOs 5 true QV by_)),(15,.d (I x69)),(17,.own (eOs 4 true vM [])),(18,.d (I x69))] inferInstance [] ?_
          rintro ⟨run1,n_⟩ m6 lr2 hf2 hl2 J6 hJ6
          try unfold jE at hf2
          rcases zS hf2 with ⟨c5,hf2⟩ | ⟨c5,hf2⟩
          ·obtain ⟨by__e,h9,hf2⟩ := zo hf2
           obtain ⟨g1,hf2⟩ := gdE hf2
           obtain ⟨by__e1,h10,hf2⟩ := zo hf2
           obtain rfl := zl hf2
           exact yB X0 hC hJ6 ((run1 ++ ([by__e.move_] : List ze)),by__e1.from_) hl2 [Hq c5,Hn (iL QV h9),Hs (iM QV h9),Hs (iM QV h9),Hq (dM vM ([by__e.move_] : List ze)),Hn (dM vM ([by__e.move_] : List ze)),Hn (aL vM vM g1),Hl (aM vM run1 ([by__e.move_] : List ze)),Hn (iL QV h10),Hs (iM QV h10),Hs (iM QV h10)]
          ·obtain rfl := zl hf2
           obtain rfl := hl2
           exact yB X0 hC hJ5 run1 hf1 [Hq c5]
     ·obtain rfl := zl hf1
      obtain rfl := hl1
      exact yB X0 hC hJ2 () hf0 [Hq c2]
   ·obtain ⟨t7,ht7,hf0⟩ := zo hf0
    refine yL X0 hC zV [1,1,1,1,1,1,2,1,0] [J1] (fun s => jD r_1 s.1 s.2.1 s.2.2) (fun x => W5 x_ r_1 x.1 x.2.1 x.2.2) ((List.replicate ((r_1.1.length : Nat) : Int).toNat (zw.mk 0 (ze.mk 0 0 0 0))),1,0) ht7  [Ha (lnM wH r_1.2.1)] ?_
    rintro ⟨by_1,seen,x40⟩ m7 lr1 hf1 hl1 J7 hJ7
    try unfold jD at hf1
    rcases zS hf1 with ⟨c6,hf1⟩ | ⟨c6,hf1⟩
    ·refine yJ X0 hC zV [1,1,1,1,1,1,2,1,0,0,1,1] [J1,J7] [1,3,6,7,9,10,38,39,40] (fun z : List zw × Int => jG x40 z.1 z.2 = some lr1) (fun z => W8 x_ r_1 x40 z.1 z.2) [(1,.own (.box (x6 x_))),(3,.own (.box (.agg [eOs 1 true (eI .i64) [],eOs 1 true F2_ []]))),(6,.d (eSl 24 false xh r_1.1)),(7,.d (eSl 1 true wH r_1.2.1)),(9,.own (eOs 5 true QV by_1)),(10,.d (I seen)),(38,.d (eSl 1 true wH r_1.2.1)),(39,.d (I ((r_1.2.1.length : Nat) : Int))),(40,.d (I x40))] [Hq c6,Hh (.cut 0)] ?_ fun J8 hJ8 => ?_
     ·rintro ⟨by_2,seen1⟩ hf1
      unfold jG at hf1
      obtain rfl := zl hf1
      exact yB X0 hC hJ7 (by_2,seen1,w64 (x40 + 1)) hl1 []
     ·obtain ⟨u_3,h11,hf1⟩ := zo hf1
      obtain ⟨t9,ht9,hf1⟩ := zo hf1
      refine yL X0 hC zV [1,1,1,1,1,1,2,1,0,0,1,1,2,0,1,1,0] [J1,J7,J8] (fun s => jC x40 u_3 s.1 s.2.1 s.2.2) (fun x => W4 x_ r_1 x40 u_3 x.1 x.2.1 x.2.2) (by_1,seen,0) ht9  [Hi wH h11,Ha (lnM qB u_3)] ?_
      rintro ⟨by_3,seen2,x47⟩ m9 lr2 hf2 hl2 J9 hJ9
      try unfold jC at hf2
      rcases zS hf2 with ⟨c7,hf2⟩ | ⟨c7,hf2⟩
      ·refine yJ X0 hC zV [1,1,1,1,1,1,2,1,0,0,1,1,2,0,1,1,0,0,1,1] [J1,J7,J8,J9] [1,3,6,7,9,10,11,38,39,40,45,46,47] (fun z : List zw × Int => vT x47 z.1 z.2 = some lr2) (fun z => XN x_ r_1 x40 u_3 x47 z.1 z.2) [(1,.own (.box (x6 x_))),(3,.own (.box (.agg [eOs 1 true (eI .i64) [],eOs 1 true F2_ []]))),(6,.d (eSl 24 false xh r_1.1)),(7,.d (eSl 1 true wH r_1.2.1)),(9,.own (eOs 5 true QV by_3)),(10,.d (I seen2)),(11,.d (I x40)),(38,.d (eSl 1 true wH r_1.2.1)),(39,.d (I ((r_1.2.1.length : Nat) : Int))),(40,.d (I x40)),(45,.d (eSl 5 true qB u_3)),(46,.d (I ((u_3.length : Nat) : Int))),(47,.d (I x47))] [Hq c7,Hh (.cut 0)] ?_ fun J10 hJ10 => ?_
       ·rintro ⟨by_4,seen3⟩ hf2
        unfold vT at hf2
        obtain rfl := zl hf2
        exact yB X0 hC hJ9 (by_4,seen3,w64 (x47 + 1)) hl2 []
       ·obtain ⟨u__e,h12,hf2⟩ := zo hf2
        let Z4 : List HO := [Hi qB h12]
        rcases zS hf2 with ⟨c8,hf2⟩ | ⟨c8,hf2⟩
        ·obtain ⟨by__e2,h13,hf2⟩ := zo hf2
         exact yB X0 hC hJ10 ((by_3.set u__e.To.toNat (zw.mk x40 u__e.Move)),w64 (seen2 + 1)) hf2 (Z4 ++ [Hq c8,Hn (iL QV h13),Hs (iM QV h13),Hs (iM QV h13),Hl (sM QV by_3 u__e.To (zw.mk x40 u__e.Move))])
        ·exact yB X0 hC hJ10 (by_3,seen2) hf2 (Z4 ++ [Hq c8])
      ·obtain rfl := zl hf2
       obtain rfl := hl2
       exact yB X0 hC hJ8 (by_3,seen2) hf1 [Hq c7]
    ·obtain rfl := zl hf1
     obtain rfl := hl1
     exact yB X0 hC hJ1 by_1 hf0 [Hq c6]
def YX : Code := (Tryz.f15.body).getD .skip
def YG : xi := spF (α := List ze × List ze) (ρ := Int) 15 (fun x => [z8w x.1,zdM x.2]) (fun r => (eI .i64) r) (fun x => Vp x.1 x.2) [] (UV)
abbrev Qx : List (Nat × T) := []
abbrev Qw (a_ : List ze) (b_ : List ze) (i_ : Int) : List (Nat × T) := [(0,.d (eSl 4 true vM a_)),(1,.d (eSl 4 false vM b_)),(5,.d (I i_))]
theorem z0A {ctr : Ctr} (hC : zZ Tryz.prog ctr) : YG.Ok Tryz.prog := by
 refine yc ?_
 rintro ⟨a_,b_⟩ r0 hf0
 try unfold Vp at hf0
 refine yO true [(4,none)] YX 33 Tryz.func15 fun E hE => ?_
 let Z0 : List HO := [Ha (lnM vM a_),Ha (lnM vM b_)]
 rcases zS hf0 with ⟨c0,hf0⟩ | ⟨c0,hf0⟩
 ·obtain rfl := zl hf0
  exact yE X0 hC hE (Z0 ++ (rpN 6 (Hq c0) [qT]))
 ·let Z1 : List HO := (Z0 ++ [Hq c0,Hq c0,Ha (lnM vM a_),Hq c0,Hq c0,Ha (lnM vM a_),Hq c0,Hq c0])
  rcases zS hf0 with ⟨c1,hf0⟩ | ⟨c1,hf0⟩
  ·obtain rfl := zl hf0
   exact yE X0 hC hE (Z1 ++ [Hq c1])
  ·refine yJ X0 hC YX [1,1] [] [] (fun z : Unit => YP = some r0) (fun z => Qx) [(0,.d (eSl 4 true vM a_)),(1,.d (eSl 4 false vM b_))] (Z1 ++ [Hq c1,Hh (.cut 0)]) ?_ fun J1 hJ1 => ?_
   ·rintro ⟨⟩ hf0
    unfold YP at hf0
    obtain rfl := zl hf0
    exact yE X0 hC hE []
   ·obtain ⟨t2,ht2,hf0⟩ := zo hf0
    refine yL X0 hC YX [1,1,2,1,0] [J1] (fun s => YO a_ b_ s) (fun x => Qw a_ b_ x) 0 ht2  [] ?_
    rintro i_ m2 lr1 hf1 hl1 J2 hJ2
    try unfold YO at hf1
    let Z2 : List HO := [Ha (lnM vM a_)]
    rcases zS hf1 with ⟨c2,hf1⟩ | ⟨c2,hf1⟩
    ·obtain ⟨a__e,h0,hf1⟩ := zo hf1
     obtain ⟨b__e,h1,hf1⟩ := zo hf1
     let Z3 : List HO := (Z2 ++ [Hq c2,Hi vM h0,Hi vM h1])
     rcases zS hf1 with ⟨c3,hf1⟩ | ⟨c3,hf1⟩
     ·obtain rfl := zl hf1
      obtain rfl := hl1
      obtain rfl := zl hf0
      exact yE X0 hC hE (Z3 ++ [Hq c3])
     ·obtain rfl := zl hf1
      exact yB X0 hC hJ2 (w64 (i_ + 1)) hl1 (Z3 ++ [Hq c3])
    ·obtain rfl := zl hf1
     obtain rfl := hl1
     exact yB X0 hC hJ1 () hf0 (Z2 ++ [Hq c2])
def Vd : Code := (Tryz.f11.body).getD .skip
def YH : xi := spF (α := Unit) (ρ := Bool) 11 (fun x => []) (fun r => eB r) (fun x => ZX) [] (fun _ _ _ => rfl)
theorem z0B {ctr : Ctr} (hC : zZ Tryz.prog ctr) (h00 : ctr.Has Xj) (h0y : ctr.Has Zj) (h02 : ctr.Has ZL) (h03 : ctr.Has Xk) (h01 : ctr.Has YI) (h08 : ctr.Has qw) (h09 : ctr.Has jt) (h0z : ctr.Has jK) (h0g : ctr.Has YG) (h0a : ctr.Has kl) : YH.Ok Tryz.prog := by
 refine yc ?_
 rintro ⟨⟩ r0 hf0
 try unfold ZX at hf0
 refine yO true [(0,none)] Vd 166 Tryz.func11 fun E hE => ?_
 obtain ⟨r_,h0,hf0⟩ := zo hf0
 obtain ⟨r_1,h1,hf0⟩ := zo hf0
 obtain ⟨r_2,h2,hf0⟩ := zo hf0
 obtain ⟨r_3,h3,hf0⟩ := zo hf0
 obtain ⟨r_4,h4,hf0⟩ := zo hf0
 obtain ⟨r_5,h5,hf0⟩ := zo hf0
 obtain ⟨r_6,h6,hf0⟩ := zo hf0
 obtain ⟨r_7,h7,hf0⟩ := zo hf0
 obtain ⟨r_8,h8,hf0⟩ := zo hf0
 obtain ⟨r_9,h9,hf0⟩ := zo hf0
 obtain ⟨r_10,h10,hf0⟩ := zo hf0
 refine yA ((jR (P := Tryz.prog) wl [] (lentCall (we hC h00 (x := (1,([(zf.mk 0 2 0 0 0)] : List zf))) h0)) 19).or X0) hC Vd [1,1,1,1,1,0] [] [(1,.own (.box (z8Y r_))),(2,.d (eSl 2 true wm r_1.1)),(3,.d (eSl 1 true wH r_1.2.1)),(4,.d (I r_1.2.2)),(5,.own (eOs 2 true z92 ([r_2,r_3,r_4,r_5]))),(6,.own (eOs 1 true (eOs 5 true qB) ([[(z6.mk r_6 1)],[(z6.mk r_7 2),(z6.mk r_8 3)],[(z6.mk r_9 0)],[(z6.mk r_10 0)]])))] [Hm (shM vN vN ([(zf.mk 0 2 0 0 0)])),Hn (Wh (f := .fn 37 []) (xs := [(eI .i64) 1,z4i ([(zf.mk 0 2 0 0 0)] : List zf)]) (ls := []) (r := .agg [I r_.Messages,I r_.Labels,eSl 1 true (eI .i64) r_.Channels,eSl 3 true zaZ r_.Parts]) (ys := []) [(eI .i64) 1,z4i ([(zf.mk 0 2 0 0 0)] : List zf)] (show z1f [(eI .i64) 1,z4i ([(zf.mk 0 2 0 0 0)] : List zf)] [(eI .i64) 1,z4i ([(zf.mk 0 2 0 0 0)] : List zf)] from inferInstance)),Hc h0y (x := r_) h1 (loC z8Y r_ <| loN),Hc h02 (x := (0,0,[])) h2 (loC (eI .i64) 0 <| loC (eI .i64) 0 <| loC F1_ ([] : List Int) <| loN),Hg (z2f h02),Hm (shM (eI .i64) (eI .i64) ([0])),Hs (z2g h02 (x := (1,0,[0])) h3 (loC (eI .i64) 1 <| loC (eI .i64) 0 <| loC F1_ ([0] : List Int) <| loN)),Hm (shM (eI .i64) (eI .i64) ([0])),Hg (z2f h02),Hm (shM (eI .i64) (eI .i64) ([0])),Hs (z2g h02 (x := (0,0,[0])) h4 (loC (eI .i64) 0 <| loC (eI .i64) 0 <| loC F1_ ([0] : List Int) <| loN)),Hm (shM (eI .i64) (eI .i64) ([0])),Hc h02 (x := (1,0,[])) h5 (loC (eI .i64) 1 <| loC (eI .i64) 0 <| loC F1_ ([] : List Int) <| loN),Hc h03 (x := (0,0)) h6 (loC (eI .i64) 0 <| loC (eI .i64) 0 <| loN),Hc h03 (x := (0,1)) h7 (loC (eI .i64) 0 <| loC (eI .i64) 1 <| loN),Hc h03 (x := (1,0)) h8 (loC (eI .i64) 1 <| loC (eI .i64) 0 <| loN),Hc h03 (x := (1,0)) h9 (loC (eI .i64) 1 <| loC (eI .i64) 0 <| loN),Hc h03 (x := (0,1)) h10 (loC (eI .i64) 0 <| loC (eI .i64) 1 <| loN),Hh (.cut 1)] ?_
 rcases zS hf0 with ⟨c0,hf0⟩ | ⟨c0,hf0⟩
 ·obtain rfl := zl hf0
  exact yE X0 hC hE (rpN 7 (Hq c0) [qT])
 ·obtain ⟨r_11,h11,hf0⟩ := zo hf0
  let Z0 : List HO := (rpN 5 (Hq c0) [Hm (shM z92 z92 ([r_2,r_3,r_4,r_5])),Hm (shM (eOs 5 true qB) wH ([[(z6.mk r_6 1)],[(z6.mk r_7 2),(z6.mk r_8 3)],[(z6.mk r_9 0)],[(z6.mk r_10 0)]])),Hn (Wh (f := .fn 40 []) (xs := [z6u r_1.1,z3v r_1.2.1,zaM ([r_2,r_3,r_4,r_5] : List z7),z91 ([[(z6.mk r_6 1)],[(z6.mk r_7 2),(z6.mk r_8 3)],[(z6.mk r_9 0)],[(z6.mk r_10 0)]] : List (List z6))]) (ls := []) (r := I r_11) (ys := []) [z6u r_1.1,z3v r_1.2.1,zdZ ([r_2,r_3,r_4,r_5] : List z7),z3v ([[(z6.mk r_6 1)],[(z6.mk r_7 2),(z6.mk r_8 3)],[(z6.mk r_9 0)],[(z6.mk r_10 0)]] : List (List z6))] (show z1f [z6u r_1.1,z3v r_1.2.1,zdZ ([r_2,r_3,r_4,r_5] : List z7),z3v ([[(z6.mk r_6 1)],[(z6.mk r_7 2),(z6.mk r_8 3)],[(z6.mk r_9 0)],[(z6.mk r_10 0)]] : List (List z6))] [z6u r_1.1,z3v r_1.2.1,zaM ([r_2,r_3,r_4,r_5] : List z7),z91 ([[(z6.mk r_6 1)],[(z6.mk r_7 2),(z6.mk r_8 3)],[(z6.mk r_9 0)],[(z6.mk r_10 0)]] : List (List z6))] from inferInstance)),Hq c0,Hq c0])
  rcases zS hf0 with ⟨c1,hf0⟩ | ⟨c1,hf0⟩
  ·obtain rfl := zl hf0
   exact yE ((jR (P := Tryz.prog) wl [] (lentCall (we hC h01 (x := (r_1.1,r_1.2.1,([r_2,r_3,r_4,r_5] : List z7),([[(z6.mk r_6 1)],[(z6.mk r_7 2),(z6.mk r_8 3)],[(z6.mk r_9 0)],[(z6.mk r_10 0)]] : List (List z6)))) h11)) 55).or X0) hC hE (Z0 ++ [Hq c1])
  ·obtain ⟨r_12,h12,hf0⟩ := zo hf0
   obtain ⟨r_13,h13,hf0⟩ := zo hf0
   let Z1 : List HO := (Z0 ++ [Hq c1,Hc h08 (x := (r_,[])) h12 (loC z8Y r_ <| loC F1_ ([] : List Int) <| loN),Hg (z2f h08),Hm (shM (eI .i64) (eI .i64) ([0])),Hs (z2g h08 (x := (r_,[0])) h13 (loC z8Y r_ <| loC F1_ ([0] : List Int) <| loN)),Hm (shM (eI .i64) (eI .i64) ([0]))])
   rcases zS hf0 with ⟨c2,hf0⟩ | ⟨c2,hf0⟩
   ·obtain rfl := zl hf0
    exact yE ((jR (P := Tryz.prog) wl [] (lentCall (we hC h01 (x := (r_1.1,r_1.2.1,([r_2,r_3,r_4,r_5] : List z7),([[(z6.mk r_6 1)],[(z6.mk r_7 2),(z6.mk r_8 3)],[(z6.mk r_9 0)],[(z6.mk r_10 0)]] : List (List z6)))) h11)) 55).or X0) hC hE (Z1 ++ (Hq c2 :: Hq c2 :: Hq c2 :: (rpN 10 qT [])))
   ·rcases zS hf0 with ⟨c3,hf0⟩ | ⟨c3,hf0⟩
    ·obtain rfl := zl hf0
     exact yE ((jR (P := Tryz.prog) wl [] (lentCall (we hC h01 (x := (r_1.1,r_1.2.1,([r_2,r_3,r_4,r_5] : List z7),([[(z6.mk r_6 1)],[(z6.mk r_7 2),(z6.mk r_8 3)],[(z6.mk r_9 0)],[(z6.mk r_10 0)]] : List (List z6)))) h11)) 55).or X0) hC hE (Z1 ++ (Hq c2 :: Hq c2 :: Hq c2 :: (rpN 9 (Hq c3) [qT])))
    ·obtain ⟨r_14,h14,hf0⟩ := zo hf0
     obtain ⟨r_15,h15,hf0⟩ := zo hf0
     let Z2 : List HO := (Z1 ++ [Hq c2,Hq c2,Hq c2,Hq c3,Hq c3,Hq c3,Hg (z2f h09),Hm (shM (eOs 3 true F8_) UA ([[(za.mk 0 0 1)],[(za.mk 0 0 3),(za.mk 2 0 2)],[(za.mk 0 0 0)],[(za.mk 2 0 0)]])),Hs (z2g h09 (x := (r_12.1,(zr.mk 0 1 ([[(za.mk 0 0 1)],[(za.mk 0 0 3),(za.mk 2 0 2)],[(za.mk 0 0 0)],[(za.mk 2 0 0)]])))) h14 (loC z4H r_12.1 <| loC (uI (eI .i64) (eI .i64) (eSl 1 true UA)) (zr.mk 0 1 ([[(za.mk 0 0 1)],[(za.mk 0 0 3),(za.mk 2 0 2)],[(za.mk 0 0 0)],[(za.mk 2 0 0)]])) <| loN)),Hq c3,Hq c3,Hq c3,Hg (z2f h09),Hm (shM (eOs 3 true F8_) UA ([[(za.mk 0 0 1)],[(za.mk 0 0 2),(za.mk 0 0 3)],[(za.mk 0 0 0)],[(za.mk 0 0 0)]])),Hs (z2g h09 (x := (r_13.1,(zr.mk 0 1 ([[(za.mk 0 0 1)],[(za.mk 0 0 2),(za.mk 0 0 3)],[(za.mk 0 0 0)],[(za.mk 0 0 0)]])))) h15 (loC z4H r_13.1 <| loC (uI (eI .i64) (eI .i64) (eSl 1 true UA)) (zr.mk 0 1 ([[(za.mk 0 0 1)],[(za.mk 0 0 2),(za.mk 0 0 3)],[(za.mk 0 0 0)],[(za.mk 0 0 0)]])) <| loN)),Hq c3,Hq c3,Hq c3])
     rcases zS hf0 with ⟨c4,hf0⟩ | ⟨c4,hf0⟩
     ·obtain rfl := zl hf0
      exact yE ((jR (P := Tryz.prog) wl [] (lentCall (we hC h01 (x := (r_1.1,r_1.2.1,([r_2,r_3,r_4,r_5] : List z7),([[(z6.mk r_6 1)],[(z6.mk r_7 2),(z6.mk r_8 3)],[(z6.mk r_9 0)],[(z6.mk r_10 0)]] : List (List z6)))) h11)) 55).or X0) hC hE (Z2 ++ [Hq c4])
     ·obtain ⟨r_16,h16,hf0⟩ := zo hf0
      obtain ⟨r_17,h17,hf0⟩ := zo hf0
      obtain ⟨r_18,h18,hf0⟩ := zo hf0
      obtain ⟨r_19,h19,hf0⟩ := zo hf0
      obtain ⟨r_20,h20,hf0⟩ := zo hf0
      let Z3 : List HO := (Z2 ++ [Hq c4,Hc h0z (x := r_) h16 (loC z8Y r_ <| loN),Hn (Wh (f := .fn 37 []) (xs := [(eI .i64) 1,z4i ([] : List zf)]) (ls := []) (r := .agg [I r_17.Messages,I r_17.Labels,eSl 1 true (eI .i64) r_17.Channels,eSl 3 true zaZ r_17.Parts]) (ys := []) [(eI .i64) 1,z4i ([] : List zf)] (show z1f [(eI .i64) 1,z4i ([] : List zf)] [(eI .i64) 1,z4i ([] : List zf)] from inferInstance)),Hc h0z (x := r_17) h18 (loC z8Y r_17 <| loN),Hm (shM vN vN ([(zf.mk 0 2 0 0 0)])),Hn (Wh (f := .fn 37 []) (xs := [(eI .i64) 0,z4i ([(zf.mk 0 2 0 0 0)] : List zf)]) (ls := []) (r := .agg [I r_19.Messages,I r_19.Labels,eSl 1 true (eI .i64) r_19.Channels,eSl 3 true zaZ r_19.Parts]) (ys := []) [(eI .i64) 0,z4i ([(zf.mk 0 2 0 0 0)] : List zf)] (show z1f [(eI .i64) 0,z4i ([(zf.mk 0 2 0 0 0)] : List zf)] [(eI .i64) 0,z4i ([(zf.mk 0 2 0 0 0)] : List zf)] from inferInstance)),Hc h0y (x := r_19) h20 (loC z8Y r_19 <| loN)])
      rcases zS hf0 with ⟨c5,hf0⟩ | ⟨c5,hf0⟩
      ·obtain rfl := zl hf0
       exact yE ((jR (P := Tryz.prog) wl [] (lentCall (we hC h00 (x := (0,([(zf.mk 0 2 0 0 0)] : List zf))) h19)) 122).or ((jR (P := Tryz.prog) wl [] (lentCall (we hC h00 (x := (1,([] : List zf))) h17)) 114).or ((jR (P := Tryz.prog) wl [] (lentCall (we hC h01 (x := (r_1.1,r_1.2.1,([r_2,r_3,r_4,r_5] : List z7),([[(z6.mk r_6 1)],[(z6.mk r_7 2),(z6.mk r_8 3)],[(z6.mk r_9 0)],[(z6.mk r_10 0)]] : List (List z6)))) h11)) 55).or X0))) hC hE (Z3 ++ (Hq c5 :: Hq c5 :: Hq c5 :: (rpN 17 qT [])))
      ·rcases zS hf0 with ⟨c6,hf0⟩ | ⟨c6,hf0⟩
       ·obtain rfl := zl hf0
        exact yE ((jR (P := Tryz.prog) wl [] (lentCall (we hC h00 (x := (0,([(zf.mk 0 2 0 0 0)] : List zf))) h19)) 122).or ((jR (P := Tryz.prog) wl [] (lentCall (we hC h00 (x := (1,([] : List zf))) h17)) 114).or ((jR (P := Tryz.prog) wl [] (lentCall (we hC h01 (x := (r_1.1,r_1.2.1,([r_2,r_3,r_4,r_5] : List z7),([[(z6.mk r_6 1)],[(z6.mk r_7 2),(z6.mk r_8 3)],[(z6.mk r_9 0)],[(z6.mk r_10 0)]] : List (List z6)))) h11)) 55).or X0))) hC hE (Z3 ++ (Hq c5 :: Hq c5 :: Hq c5 :: (rpN 7 (Hq c6) (rpN 10 qT []))))
       ·obtain ⟨r_21,h21,hf0⟩ := zo hf0
        obtain ⟨r_22,h22,hf0⟩ := zo hf0
        obtain ⟨r_23,h23,hf0⟩ := zo hf0
        let Z4 : List HO := (Z3 ++ [Hq c5,Hq c5,Hq c5,Hq c6,Hq c6,Hc h03 (x := (0,0)) h21 (loC (eI .i64) 0 <| loC (eI .i64) 0 <| loN),Hq c6,Hc h03 (x := (0,1)) h22 (loC (eI .i64) 0 <| loC (eI .i64) 1 <| loN),Hq c6,Hq c6,Hm (shM vM vM ([r_21,r_22])),Hn (Wh (f := .fn 15 []) (xs := [z8w r_18.1,zdM ([r_21,r_22] : List ze)]) (ls := []) (r := I r_23) (ys := []) [z8w r_18.1,z8w ([r_21,r_22] : List ze)] (show z1f [z8w r_18.1,z8w ([r_21,r_22] : List ze)] [z8w r_18.1,zdM ([r_21,r_22] : List ze)] from inferInstance)),Hq c6,Hq c6])
        rcases zS hf0 with ⟨c7,hf0⟩ | ⟨c7,hf0⟩
        ·obtain rfl := zl hf0
         exact yE ((jR (P := Tryz.prog) wl [] (lentCall (we hC h0g (x := (r_18.1,([r_21,r_22] : List ze))) h23)) 138).or ((jR (P := Tryz.prog) wl [] (lentCall (we hC h00 (x := (0,([(zf.mk 0 2 0 0 0)] : List zf))) h19)) 122).or ((jR (P := Tryz.prog) wl [] (lentCall (we hC h00 (x := (1,([] : List zf))) h17)) 114).or ((jR (P := Tryz.prog) wl [] (lentCall (we hC h01 (x := (r_1.1,r_1.2.1,([r_2,r_3,r_4,r_5] : List z7),([[(z6.mk r_6 1)],[(z6.mk r_7 2),(z6.mk r_8 3)],[(z6.mk r_9 0)],[(z6.mk r_10 0)]] : List (List z6)))) h11)) 55).or X0)))) hC hE (Z4 ++ (rpN 6 (Hq c7) (rpN 4 qT [])))
        ·obtain ⟨r_24,h24,hf0⟩ := zo hf0
         obtain ⟨r_25,h25,hf0⟩ := zo hf0
         let Z5 : List HO := (Z4 ++ [Hq c7,Hq c7,Hq c7,Hg (z2f h02),Hm (shM (eI .i64) (eI .i64) ([0])),Hs (z2g h02 (x := (0,0,[0])) h24 (loC (eI .i64) 0 <| loC (eI .i64) 0 <| loC F1_ ([0] : List Int) <| loN)),Hm (shM (eI .i64) (eI .i64) ([0])),Hq c7,Hc h0a (x := (r_18.2.1,r_24)) h25 (loC z1g r_18.2.1 <| loC z92 r_24 <| loN),Hq c7,Hq c7])
         rcases zS hf0 with ⟨c8,hf0⟩ | ⟨c8,hf0⟩
         ·obtain rfl := zl hf0
          exact yE ((jR (P := Tryz.prog) wl [] (lentCall (we hC h0g (x := (r_18.1,([r_21,r_22] : List ze))) h23)) 138).or ((jR (P := Tryz.prog) wl [] (lentCall (we hC h00 (x := (0,([(zf.mk 0 2 0 0 0)] : List zf))) h19)) 122).or ((jR (P := Tryz.prog) wl [] (lentCall (we hC h00 (x := (1,([] : List zf))) h17)) 114).or ((jR (P := Tryz.prog) wl [] (lentCall (we hC h01 (x := (r_1.1,r_1.2.1,([r_2,r_3,r_4,r_5] : List z7),([[(z6.mk r_6 1)],[(z6.mk r_7 2),(z6.mk r_8 3)],[(z6.mk r_9 0)],[(z6.mk r_10 0)]] : List (List z6)))) h11)) 55).or X0)))) hC hE (Z5 ++ [Hq c8,Hq c8,Hq c8,qT])
         ·rcases zS hf0 with ⟨c9,hf0⟩ | ⟨c9,hf0⟩
          ·obtain rfl := zl hf0
           exact yE ((jR (P := Tryz.prog) wl [] (lentCall (we hC h0g (x := (r_18.1,([r_21,r_22] : List ze))) h23)) 138).or ((jR (P := Tryz.prog) wl [] (lentCall (we hC h00 (x := (0,([(zf.mk 0 2 0 0 0)] : List zf))) h19)) 122).or ((jR (P := Tryz.prog) wl [] (lentCall (we hC h00 (x := (1,([] : List zf))) h17)) 114).or ((jR (P := Tryz.prog) wl [] (lentCall (we hC h01 (x := (r_1.1,r_1.2.1,([r_2,r_3,r_4,r_5] : List z7),([[(z6.mk r_6 1)],[(z6.mk r_7 2),(z6.mk r_8 3)],[(z6.mk r_9 0)],[(z6.mk r_10 0)]] : List (List z6)))) h11)) 55).or X0)))) hC hE (Z5 ++ [Hq c8,Hq c8,Hq c8,Hq c9])
          ·obtain ⟨r_26,h26,hf0⟩ := zo hf0
           obtain ⟨r_27,h27,hf0⟩ := zo hf0
           obtain ⟨r_28,h28,hf0⟩ := zo hf0
           obtain ⟨r_29,h29,hf0⟩ := zo hf0
           obtain rfl := zl hf0
           exact yE ((jR (P := Tryz.prog) wl [] (lentCall (we hC h01 (x := (r_20.1,r_20.2.1,([r_26,r_27] : List z7),([[(z6.mk (ze.mk 0 0 1 0) 1)],[(z6.mk r_28 0)]] : List (List z6)))) h29)) 164).or ((jR (P := Tryz.prog) wl [] (lentCall (we hC h0g (x := (r_18.1,([r_21,r_22] : List ze))) h23)) 138).or ((jR (P := Tryz.prog) wl [] (lentCall (we hC h00 (x := (0,([(zf.mk 0 2 0 0 0)] : List zf))) h19)) 122).or ((jR (P := Tryz.prog) wl [] (lentCall (we hC h00 (x := (1,([] : List zf))) h17)) 114).or ((jR (P := Tryz.prog) wl [] (lentCall (we hC h01 (x := (r_1.1,r_1.2.1,([r_2,r_3,r_4,r_5] : List z7),([[(z6.mk r_6 1)],[(z6.mk r_7 2),(z6.mk r_8 3)],[(z6.mk r_9 0)],[(z6.mk r_10 0)]] : List (List z6)))) h11)) 55).or X0))))) hC hE (Z5 ++ [Hq c8,Hq c8,Hq c8,Hq c9,Hc h02 (x := (0,0,[])) h26 (loC (eI .i64) 0 <| loC (eI .i64) 0 <| loC F1_ ([] : List Int) <| loN),Hc h02 (x := (1,0,[])) h27 (loC (eI .i64) 1 <| loC (eI .i64) 0 <| loC F1_ ([] : List Int) <| loN),Hc h03 (x := (0,1)) h28 (loC (eI .i64) 0 <| loC (eI .i64) 1 <| loN),Hm (shM z92 z92 ([r_26,r_27])),Hm (shM (eOs 5 true qB) wH ([[(z6.mk (ze.mk 0 0 1 0) 1)],[(z6.mk r_28 0)]])),Hn (Wh (f := .fn 40 []) (xs := [z6u r_20.1,z3v r_20.2.1,zaM ([r_26,r_27] : List z7),z91 ([[(z6.mk (ze.mk 0 0 1 0) 1)],[(z6.mk r_28 0)]] : List (List z6))]) (ls := []) (r := I r_29) (ys := []) [z6u r_20.1,z3v r_20.2.1,zdZ ([r_26,r_27] : List z7),z3v ([[(z6.mk (ze.mk 0 0 1 0) 1)],[(z6.mk r_28 0)]] : List (List z6))] (show z1f [z6u r_20.1,z3v r_20.2.1,zdZ ([r_26,r_27] : List z7),z3v ([[(z6.mk (ze.mk 0 0 1 0) 1)],[(z6.mk r_28 0)]] : List (List z6))] [z6u r_20.1,z3v r_20.2.1,zaM ([r_26,r_27] : List z7),z91 ([[(z6.mk (ze.mk 0 0 1 0) 1)],[(z6.mk r_28 0)]] : List (List z6))] from inferInstance))])
def Wx : Code := (Tryz.f21.body).getD .skip
def Yx : xi := spF (α := List Int × Int) (ρ := Int) 21 (fun x => [F2_ x.1,(eI .i64) x.2]) (fun r => (eI .i64) r) (fun x => X4 x.1 x.2) [] (UV)
abbrev KG : List (Nat × T) := []
abbrev KF (l_ : List Int) (n_ : Int) (i_ : Int) : List (Nat × T) := [(0,.d (eSl 1 false (eI .i64) l_)),(1,.d (I n_)),(5,.d (I i_))]
theorem z2M {ctr : Ctr} (hC : zZ Tryz.prog ctr) : Yx.Ok Tryz.prog := by
 refine yc ?_
 rintro ⟨l_,n_⟩ r0 hf0
 try unfold X4 at hf0
 refine yO true [(4,none)] Wx 18 Tryz.func21 fun E hE => ?_
 refine yJ X0 hC Wx [1] [] [] (fun z : Unit => Wk = some r0) (fun z => KG) [(0,.d (eSl 1 false (eI .i64) l_)),(1,.d (I n_))] [Hh (.cut 1)] ?_ fun J1 hJ1 => ?_
 ·rintro ⟨⟩ hf0
  unfold Wk at hf0
  obtain rfl := zl hf0
  exact yE X0 hC hE []
 ·obtain ⟨t2,ht2,hf0⟩ := zo hf0
  refine yL X0 hC Wx [1,2,1,0] [J1] (fun s => kU l_ n_ s) (fun x => KF l_ n_ x) 0 ht2  [] ?_
  rintro i_ m2 lr1 hf1 hl1 J2 hJ2
  try unfold kU at hf1
  rcases zS hf1 with ⟨c0,hf1⟩ | ⟨c0,hf1⟩
  ·obtain ⟨l__e,h0,hf1⟩ := zo hf1
   let Z0 : List HO := [Ha (lnM (eI .i64) l_),Hq c0,Hi (eI .i64) h0]
   rcases zS hf1 with ⟨c1,hf1⟩ | ⟨c1,hf1⟩
   ·obtain rfl := zl hf1
    obtain rfl := hl1
    obtain rfl := zl hf0
    exact yE X0 hC hE (Z0 ++ [Hq c1])
   ·obtain rfl := zl hf1
    exact yB X0 hC hJ2 (w64 (i_ + 1)) hl1 (Z0 ++ [Hq c1])
  ·obtain rfl := zl hf1
   obtain rfl := hl1
   exact yB X0 hC hJ1 () hf0 [Ha (lnM (eI .i64) l_),Hq c0]
def yb : Code := (Tryz.f19.body).getD .skip
def Zk : xi := spF (α := z8 × List (List z6) × List Int) (ρ := zr) 19 (fun x => [x6 x.1,z91 x.2.1,F2_ x.2.2]) (fun r => Uz r) (fun x => kr x.1 x.2.1 x.2.2) [] (zc4)
abbrev VQ (x_ : z8) (out_Rows : List (List za)) : List (Nat × T) := [(6,.own (.box (.agg [I 0,I 0,eOs 1 true ul []]))),(7,.own (.box (.agg [I 0,I x_.Labels,eOs 1 false Vf out_Rows])))]
abbrev VO (x_ : z8) (steps : List (List z6)) (hidden : List Int) (n_ : Int) (out_Rows2 : List (List za)) : List (Nat × T) := [(1,.d (eSl 1 false qR steps)),(2,.d (eSl 1 false (eI .i64) hidden)),(3,.own (.box (x6 x_))),(6,.own (.box (.agg [I 0,I 0,eOs 1 true ul []]))),(7,.own (.box (.agg [I 0,I x_.Labels,eOs 1 false Vf out_Rows2]))),(8,.d (I n_))]
abbrev VN (x_ : z8) (steps : List (List z6)) (hidden : List Int) (out_Rows1 : List (List za)) (n_ : Int) (row : List za) : List (Nat × T) := [(1,.d (eSl 1 false qR steps)),(2,.d (eSl 1 false (eI .i64) hidden)),(3,.own (.box (x6 x_))),(6,.own (.box (.agg [I 0,I 0,eOs 1 true ul []]))),(7,.own (.box (.agg [I 0,I x_.Labels,eOs 1 false Vf out_Rows1]))),(8,.d (I n_)),(9,.own (eOs 3 false F8_ row))]
abbrev VM (x_ : z8) (steps : List (List z6)) (hidden : List Int) (out_Rows1 : List (List za)) (n_ : Int) (kind : Int) (row2 : List za) : List (Nat × T) := [(1,.d (eSl 1 false qR steps)),(2,.d (eSl 1 false (eI .i64) hidden)),(3,.own (.box (x6 x_))),(6,.own (.box (.agg [I 0,I 0,eOs 1 true ul []]))),(7,.own (.box (.agg [I 0,I x_.Labels,eOs 1 false Vf out_Rows1]))),(8,.d (I n_)),(9,.own (eOs 3 false F8_ row2)),(10,.d (.atom (.int .u8 kind)))]
abbrev VL (x_ : z8) (steps : List (List z6)) (hidden : List Int) (out_Rows1 : List (List za)) (n_ : Int) (kind : Int) (label : Int) (row4 : List za) : List (Nat × T) := [(1,.d (eSl 1 false qR steps)),(2,.d (eSl 1 false (eI .i64) hidden)),(3,.own (.box (x6 x_))),(6,.own (.box (.agg [I 0,I 0,eOs 1 true ul []]))),(7,.own (.box (.agg [I 0,I x_.Labels,eOs 1 false Vf out_Rows1]))),(8,.d (I n_)),(9,.own (eOs 3 false F8_ row4)),(10,.d (.atom (.int .u8 kind))),(11,.d (I label))]
abbrev V5 (x_ : z8) (steps : List (List z6)) (hidden : List Int) (out_Rows1 : List (List za)) (n_ : Int) (kind : Int) (label : Int) (to : Int) (row6 : List za) : List (Nat × T) := [(1,.d (eSl 1 false qR steps)),(2,.d (eSl 1 false (eI .i64) hidden)),(3,.own (.box (x6 x_))),(6,.own (.box (.agg [I 0,I 0,eOs 1 true ul []]))),(7,.own (.box (.agg [I 0,I x_.Labels,eOs 1 false Vf out_Rows1]))),(8,.d (I n_)),(9,.own (eOs 3 false F8_ row6)),(10,.d (.atom (.int .u8 kind))),(11,.d (I label)),(12,.d (I to))]
abbrev V4 (x_ : z8) (steps : List (List z6)) (hidden : List Int) (out_Rows1 : List (List za)) (n_ : Int) (kind : Int) (label : Int) (row5 : List za) (to : Int) (there : Int) : List (Nat × T) := [(1,.d (eSl 1 false qR steps)),(2,.d (eSl 1 false (eI .i64) hidden)),(3,.own (.box (x6 x_))),(6,.own (.box (.agg [I 0,I 0,eOs 1 true ul []]))),(7,.own (.box (.agg [I 0,I x_.Labels,eOs 1 false Vf out_Rows1]))),(8,.d (I n_)),(9,.own (eOs 3 false F8_ row5)),(10,.d (.atom (.int .u8 kind))),(11,.d (I label)),(12,.d (I to)),(13,.d (I there))]
abbrev V3 (x_ : z8) (steps : List (List z6)) (hidden : List Int) (out_Rows1 : List (List za)) (n_ : Int) (kind : Int) (label : Int) (row5 : List za) (to : Int) (i_ : Int) (there2 : Int) : List (Nat × T) := [(1,.d (eSl 1 false qR steps)),(2,.d (eSl 1 false (eI .i64) hidden)),(3,.own (.box (x6 x_))),(6,.own (.box (.agg [I 0,I 0,eOs 1 true ul []]))),(7,.own (.box (.agg [I 0,I x_.Labels,eOs 1 false Vf out_Rows1]))),(8,.d (I n_)),(9,.own (eOs 3 false F8_ row5)),(10,.d (.atom (.int .u8 kind))),(11,.d (I label)),(12,.d (I to)),(13,.d (I there2)),(14,.d (I i_))]
abbrev V2 (x_ : z8) (steps : List (List z6)) (hidden : List Int) (out_Rows1 : List (List za)) (n_ : Int) (kind : Int) (label : Int) (row5 : List za) (to : Int) (there1 : Int) (i_ : Int) (step_e_e : z6) (shown_Kind : Int) (shown_Label : Int) : List (Nat × T) := [(1,.d (eSl 1 false qR steps)),(2,.d (eSl 1 false (eI .i64) hidden)),(3,.own (.box (x6 x_))),(6,.own (.box (.agg [I 0,I 0,eOs 1 true ul []]))),(7,.own (.box (.agg [I 0,I x_.Labels,eOs 1 false Vf out_Rows1]))),(8,.d (I n_)),(9,.own (eOs 3 false F8_ row5)),(10,.d (.atom (.int .u8 kind))),(11,.d (I label)),(12,.d (I to)),(13,.d (I there1)),(14,.d (I i_)),(17,.own (.box (.agg [.atom (.int .u8 shown_Kind),I shown_Label,I step_e_e.To])))]
abbrev V1 (x_ : z8) (steps : List (List z6)) (hidden : List Int) (out_Rows1 : List (List za)) (n_ : Int) (kind : Int) (label : Int) (row5 : List za) (to : Int) (there1 : Int) (i_ : Int) : List (Nat × T) := [(1,.d (eSl 1 false qR steps)),(2,.d (eSl 1 false (eI .i64) hidden)),(3,.own (.box (x6 x_))),(6,.own (.box (.agg [I 0,I 0,eOs 1 true ul []]))),(7,.own (.box (.agg [I 0,I x_.Labels,eOs 1 false Vf out_Rows1]))),(8,.d (I n_)),(9,.own (eOs 3 false F8_ row5)),(10,.d (.atom (.int .u8 kind))),(11,.d (I label)),(12,.d (I to)),(13,.d (I there1)),(14,.d (I i_))]
abbrev VH (x_ : z8) (steps : List (List z6)) (hidden : List Int) (out_Rows1 : List (List za)) (n_ : Int) (kind : Int) (label : Int) (row5 : List za) (to : Int) : List (Nat × T) := [(1,.d (eSl 1 false qR steps)),(2,.d (eSl 1 false (eI .i64) hidden)),(3,.own (.box (x6 x_))),(6,.own (.box (.agg [I 0,I 0,eOs 1 true ul []]))),(7,.own (.box (.agg [I 0,I x_.Labels,eOs 1 false Vf out_Rows1]))),(8,.d (I n_)),(9,.own (eOs 3 false F8_ row5)),(10,.d (.atom (.int .u8 kind))),(11,.d (I label)),(12,.d (I to))]
abbrev VI (x_ : z8) (steps : List (List z6)) (hidden : List Int) (out_Rows1 : List (List za)) (n_ : Int) (kind : Int) (row3 : List za) (label : Int) : List (Nat × T) := [(1,.d (eSl 1 false qR steps)),(2,.d (eSl 1 false (eI .i64) hidden)),(3,.own (.box (x6 x_))),(6,.own (.box (.agg [I 0,I 0,eOs 1 true ul []]))),(7,.own (.box (.agg [I 0,I x_.Labels,eOs 1 false Vf out_Rows1]))),(8,.d (I n_)),(9,.own (eOs 3 false F8_ row3)),(10,.d (.atom (.int .u8 kind))),(11,.d (I label))]
abbrev VJ (x_ : z8) (steps : List (List z6)) (hidden : List Int) (out_Rows1 : List (List za)) (n_ : Int) (row1 : List za) (kind : Int) : List (Nat × T) := [(1,.d (eSl 1 false qR steps)),(2,.d (eSl 1 false (eI .i64) hidden)),(3,.own (.box (x6 x_))),(6,.own (.box (.agg [I 0,I 0,eOs 1 true ul []]))),(7,.own (.box (.agg [I 0,I x_.Labels,eOs 1 false Vf out_Rows1]))),(8,.d (I n_)),(9,.own (eOs 3 false F8_ row1)),(10,.d (.atom (.int .u8 kind)))]
abbrev VK (x_ : z8) (steps : List (List z6)) (hidden : List Int) (out_Rows1 : List (List za)) (n_ : Int) : List (Nat × T) := [(1,.d (eSl 1 false qR steps)),(2,.d (eSl 1 false (eI .i64) hidden)),(3,.own (.box (x6 x_))),(6,.own (.box (.agg [I 0,I 0,eOs 1 true ul []]))),(7,.own (.box (.agg [I 0,I x_.Labels,eOs 1 false Vf out_Rows1]))),(8,.d (I n_))]
theorem JO {ctr : Ctr} (hC : zZ Tryz.prog ctr) (h0l : ctr.Has Yx) : Zk.Ok Tryz.prog := by
 refine yc ?_
 rintro ⟨x_,steps,hidden⟩ r0 hf0
 try unfold kr at hf0
 refine yO false [(6,some 53)] yb 113 Tryz.func19 fun E hE => ?_
 refine yJ X0 hC yb [1,1] [] [6,7] (fun z : List (List za) => jA x_ z = some r0) (fun z => VQ x_ z) [(1,.d (eSl 1 false qR steps)),(2,.d (eSl 1 false (eI .i64) hidden)),(3,.own (.box (x6 x_))),(6,.own (.box (.agg [I 0,I 0,eOs 1 true ul []]))),(7,.own (.box (.agg [I 0,I x_.Labels,eOs 1 true ul []])))] [Hh (.cut 2)] ?_ fun J1 hJ1 => ?_
 ·rintro out_Rows hf0
  unfold jA at hf0
  obtain rfl := zl hf0
  exact yE X0 hC hE [Hm (shM Vf ul out_Rows)]
 ·obtain ⟨t2,ht2,hf0⟩ := zo hf0
  refine yLx X0 hC yb [1,1,2,1,0] [J1] (fun s => vj x_ steps hidden s.1 s.2) (fun x => VK x_ steps hidden x.1 x.2) (([] : List (List za)),0) ht2 [(1,.d (eSl 1 false qR steps)),(2,.d (eSl 1 false (eI .i64) hidden)),(3,.own (.box (x6 x_))),(6,.own (.box (.agg [I 0,I 0,eOs 1 true ul []]))),(7,.own (.box (.agg [I 0,I x_.Labels,eOs 1 true Vf []]))),(8,.d (I 0))] inferInstance [] ?_
  rintro ⟨out_Rows1,n_⟩ m2 lr1 hf1 hl1 J2 hJ2
  try unfold vj at hf1
  let Z0 : List HO := [Ha (lnM qR steps)]
  rcases zS hf1 with ⟨c0,hf1⟩ | ⟨c0,hf1⟩
  ·refine yJ X0 hC yb [1,1,2,1,0,0,1] [J1,J2] [1,2,3,6,7,8] (fun z : List (List za) => jz n_ z = some lr1) (fun z => VO x_ steps hidden n_ z) [(1,.d (eSl 1 false qR steps)),(2,.d (eSl 1 false (eI .i64) hidden)),(3,.own (.box (x6 x_))),(6,.own (.box (.agg [I 0,I 0,eOs 1 true ul []]))),(7,.own (.box (.agg [I 0,I x_.Labels,eOs 1 false Vf out_Rows1]))),(8,.d (I n_))] (Z0 ++ [Hq c0,Hh (.cut 0)]) ?_ fun J3 hJ3 => ?_
   ·rintro out_Rows2 hf1
    unfold jz at hf1
    obtain rfl := zl hf1
    exact yB X0 hC hJ2 (out_Rows2,w64 (n_ + 1)) hl1 []
   ·refine yJ X0 hC yb [1,1,2,1,0,0,1,2,0,1] [J1,J2,J3] [1,2,3,6,7,8,9] (fun z : List za => jy out_Rows1 n_ z = some lr1) (fun z => VN x_ steps hidden out_Rows1 n_ z) [(1,.d (eSl 1 false qR steps)),(2,.d (eSl 1 false (eI .i64) hidden)),(3,.own (.box (x6 x_))),(6,.own (.box (.agg [I 0,I 0,eOs 1 true ul []]))),(7,.own (.box (.agg [I 0,I x_.Labels,eOs 1 false Vf out_Rows1]))),(8,.d (I n_)),(9,.own (eOs 3 true F8_ []))] [Hh (.cut 1)] ?_ fun J4 hJ4 => ?_
    ·rintro row hf1
     unfold jy at hf1
     obtain ⟨g0,hf1⟩ := gdE hf1
     exact yB X0 hC hJ3 (out_Rows1 ++ ([row] : List (List za))) hf1 [Hq (oC Vf row []),Hn (aL Vf Vf g0),Hl (aM Vf out_Rows1 ([row] : List (List za)))]
    ·obtain ⟨t5,ht5,hf1⟩ := zo hf1
     refine yLx X0 hC yb [1,1,2,1,0,0,1,2,0,1,2,1,0] [J1,J2,J3,J4] (fun s => wN x_ steps hidden n_ s.1 s.2) (fun x => VJ x_ steps hidden out_Rows1 n_ x.1 x.2) (([] : List za),0) ht5 [(1,.d (eSl 1 false qR steps)),(2,.d (eSl 1 false (eI .i64) hidden)),(3,.own (.box (x6 x_))),(6,.own (.box (.agg [I 0,I 0,eOs 1 true ul []]))),(7,.own (.box (.agg [I 0,I x_.Labels,eOs 1 false Vf out_Rows1]))),(8,.d (I n_)),(9,.own (eOs 3 true F8_ [])),(10,.d (.atom (.int .u8 0)))] inferInstance [] ?_
     rintro ⟨row1,kind⟩ m5 lr2 hf2 hl2 J5 hJ5
     try unfold wN at hf2
     rcases zS hf2 with ⟨c1,hf2⟩ | ⟨c1,hf2⟩
     ·refine yJ X0 hC yb [1,1,2,1,0,0,1,2,0,1,2,1,0,0,1] [J1,J2,J3,J4,J5] [1,2,3,6,7,8,9,10] (fun z : List za => jx kind z = some lr2) (fun z => VM x_ steps hidden out_Rows1 n_ kind z) [(1,.d (eSl 1 false qR steps)),(2,.d (eSl 1 false (eI .i64) hidden)),(3,.own (.box (x6 x_))),(6,.own (.box (.agg [I 0,I 0,eOs 1 true ul []]))),(7,.own (.box (.agg [I 0,I x_.Labels,eOs 1 false Vf out_Rows1]))),(8,.d (I n_)),(9,.own (eOs 3 false F8_ row1)),(10,.d (.atom (.int .u8 kind)))] [Hq c1,Hh (.cut 0)] ?_ fun J6 hJ6 => ?_
      ·rintro row2 hf2
       unfold jx at hf2
       obtain rfl := zl hf2
       exact yB X0 hC hJ5 (row2,IntKind.u8.wrap (kind + 1)) hl2 []
      ·obtain ⟨t7,ht7,hf2⟩ := zo hf2
       refine yL X0 hC yb [1,1,2,1,0,0,1,2,0,1,2,1,0,0,1,2,0,1,0] [J1,J2,J3,J4,J5,J6] (fun s => vh x_ steps hidden n_ kind s.1 s.2) (fun x => VI x_ steps hidden out_Rows1 n_ kind x.1 x.2) (row1,0) ht7  [] ?_
       rintro ⟨row3,label⟩ m7 lr3 hf3 hl3 J7 hJ7
       try unfold vh at hf3
       rcases zS hf3 with ⟨c2,hf3⟩ | ⟨c2,hf3⟩
       ·refine yJ X0 hC yb [1,1,2,1,0,0,1,2,0,1,2,1,0,0,1,2,0,1,0,0,1] [J1,J2,J3,J4,J5,J6,J7] [1,2,3,6,7,8,9,10,11] (fun z : List za => jw label z = some lr3) (fun z => VL x_ steps hidden out_Rows1 n_ kind label z) [(1,.d (eSl 1 false qR steps)),(2,.d (eSl 1 false (eI .i64) hidden)),(3,.own (.box (x6 x_))),(6,.own (.box (.agg [I 0,I 0,eOs 1 true ul []]))),(7,.own (.box (.agg [I 0,I x_.Labels,eOs 1 false Vf out_Rows1]))),(8,.d (I n_)),(9,.own (eOs 3 false F8_ row3)),(10,.d (.atom (.int .u8 kind))),(11,.d (I label))] [Hq c2,Hh (.cut 0)] ?_ fun J8 hJ8 => ?_
        ·rintro row4 hf3
         unfold jw at hf3
         obtain rfl := zl hf3
         exact yB X0 hC hJ7 (row4,w64 (label + 1)) hl3 []
        ·obtain ⟨t9,ht9,hf3⟩ := zo hf3
         refine yL X0 hC yb [1,1,2,1,0,0,1,2,0,1,2,1,0,0,1,2,0,1,0,0,1,2,0,1,0] [J1,J2,J3,J4,J5,J6,J7,J8] (fun s => vg x_ steps hidden n_ kind label s.1 s.2) (fun x => VH x_ steps hidden out_Rows1 n_ kind label x.1 x.2) (row3,0) ht9  [] ?_
         rintro ⟨row5,to⟩ m9 lr4 hf4 hl4 J9 hJ9
         try unfold vg at hf4
         let Z1 : List HO := [Ha (lnM qR steps)]
         rcases zS hf4 with ⟨c3,hf4⟩ | ⟨c3,hf4⟩
         ·refine yJ X0 hC yb [1,1,2,1,0,0,1,2,0,1,2,1,0,0,1,2,0,1,0,0,1,2,0,1,0,0,1] [J1,J2,J3,J4,J5,J6,J7,J8,J9] [1,2,3,6,7,8,9,10,11,12] (fun z : List za => u6 to z = some lr4) (fun z => V5 x_ steps hidden out_Rows1 n_ kind label to z) [(1,.d (eSl 1 false qR steps)),(2,.d (eSl 1 false (eI .i64) hidden)),(3,.own (.box (x6 x_))),(6,.own (.box (.agg [I 0,I 0,eOs 1 true ul []]))),(7,.own (.box (.agg [I 0,I x_.Labels,eOs 1 false Vf out_Rows1]))),(8,.d (I n_)),(9,.own (eOs 3 false F8_ row5)),(10,.d (.atom (.int .u8 kind))),(11,.d (I label)),(12,.d (I to))] (Z1 ++ [Hq c3,Hh (.cut 0)]) ?_ fun J10 hJ10 => ?_
          ·rintro row6 hf4
           unfold u6 at hf4
           obtain rfl := zl hf4
           exact yB X0 hC hJ9 (row6,w64 (to + 1)) hl4 []
          ·refine yJ X0 hC yb [1,1,2,1,0,0,1,2,0,1,2,1,0,0,1,2,0,1,0,0,1,2,0,1,0,0,1,2,0,1] [J1,J2,J3,J4,J5,J6,J7,J8,J9,J10] [1,2,3,6,7,8,9,10,11,12,13] (fun z : Int => qZ kind label row5 to z = some lr4) (fun z => V4 x_ steps hidden out_Rows1 n_ kind label row5 to z) [(1,.d (eSl 1 false qR steps)),(2,.d (eSl 1 false (eI .i64) hidden)),(3,.own (.box (x6 x_))),(6,.own (.box (.agg [I 0,I 0,eOs 1 true ul []]))),(7,.own (.box (.agg [I 0,I x_.Labels,eOs 1 false Vf out_Rows1]))),(8,.d (I n_)),(9,.own (eOs 3 false F8_ row5)),(10,.d (.atom (.int .u8 kind))),(11,.d (I label)),(12,.d (I to)),(13,.d (I 0))] [Hh (.cut 1)] ?_ fun J11 hJ11 => ?_
           ·rintro there hf4
            unfold qZ at hf4
            rcases zS hf4 with ⟨c4,hf4⟩ | ⟨c4,hf4⟩
            ·obtain ⟨g1,hf4⟩ := gdE hf4
             exact yB X0 hC hJ10 (row5 ++ ([(za.mk kind label to)] : List za)) hf4 [Hq c4,Hq (dM F8_ ([(za.mk kind label to)] : List za)),Hn (dM F8_ ([(za.mk kind label to)] : List za)),Hn (aL F8_ F8_ g1),Hl (aM F8_ row5 ([(za.mk kind label to)] : List za))]
            ·exact yB X0 hC hJ10 row5 hf4 [Hq c4]
           ·obtain ⟨t12,ht12,hf4⟩ := zo hf4
            refine yL X0 hC yb [1,1,2,1,0,0,1,2,0,1,2,1,0,0,1,2,0,1,0,0,1,2,0,1,0,0,1,2,0,1,2,1,0] [J1,J2,J3,J4,J5,J6,J7,J8,J9,J10,J11] (fun s => wX x_ steps hidden n_ kind label to s.1 s.2) (fun x => V1 x_ steps hidden out_Rows1 n_ kind label row5 to x.1 x.2) (0,0) ht12  [] ?_
            rintro ⟨there1,i_⟩ m12 lr5 hf5 hl5 J12 hJ12
            try unfold wX at hf5
            obtain ⟨step_e,h0,hf5⟩ := zo hf5
            let Z2 : List HO := [Hi qR h0,Ha (lnM qB step_e)]
            rcases zS hf5 with ⟨c5,hf5⟩ | ⟨c5,hf5⟩
            ·refine yJ X0 hC yb [1,1,2,1,0,0,1,2,0,1,2,1,0,0,1,2,0,1,0,0,1,2,0,1,0,0,1,2,0,1,2,1,0,0,1] [J1,J2,J3,J4,J5,J6,J7,J8,J9,J10,J11,J12] [1,2,3,6,7,8,9,10,11,12,13,14] (fun z : Int => u4 i_ z = some lr5) (fun z => V3 x_ steps hidden out_Rows1 n_ kind label row5 to i_ z) [(1,.d (eSl 1 false qR steps)),(2,.d (eSl 1 false (eI .i64) hidden)),(3,.own (.box (x6 x_))),(6,.own (.box (.agg [I 0,I 0,eOs 1 true ul []]))),(7,.own (.box (.agg [I 0,I x_.Labels,eOs 1 false Vf out_Rows1]))),(8,.d (I n_)),(9,.own (eOs 3 false F8_ row5)),(10,.d (.atom (.int .u8 kind))),(11,.d (I label)),(12,.d (I to)),(13,.d (I there1)),(14,.d (I i_))] (Z2 ++ [Hq c5,Hh (.cut 0)]) ?_ fun J13 hJ13 => ?_
             ·rintro there2 hf5
              unfold u4 at hf5
              obtain rfl := zl hf5
              exact yB X0 hC hJ12 (there2,w64 (i_ + 1)) hl5 []
             ·obtain ⟨step_e1,h1,hf5⟩ := zo hf5
              obtain ⟨step_e_e,h2,hf5⟩ := zo hf5
              obtain ⟨Part_e,h3,hf5⟩ := zo hf5
              obtain ⟨Arc_e,h4,hf5⟩ := zo hf5
              refine yJ X0 hC yb [1,1,2,1,0,0,1,2,0,1,2,1,0,0,1,2,0,1,0,0,1,2,0,1,0,0,1,2,0,1,2,1,0,0,1,2,0,1,1,1] [J1,J2,J3,J4,J5,J6,J7,J8,J9,J10,J11,J12,J13] [1,2,3,6,7,8,9,10,11,12,13,14,17] (fun z : Int × Int => xy kind label to there1 i_ step_e_e z.1 z.2 = some lr5) (fun z => V2 x_ steps hidden out_Rows1 n_ kind label row5 to there1 i_ step_e_e z.1 z.2) [(1,.d (eSl 1 false qR steps)),(2,.d (eSl 1 false (eI .i64) hidden)),(3,.own (.box (x6 x_))),(6,.own (.box (.agg [I 0,I 0,eOs 1 true ul []]))),(7,.own (.box (.agg [I 0,I x_.Labels,eOs 1 false Vf out_Rows1]))),(8,.d (I n_)),(9,.own (eOs 3 false F8_ row5)),(10,.d (.atom (.int .u8 kind))),(11,.d (I label)),(12,.d (I to)),(13,.d (I there1)),(14,.d (I i_)),(15,.own (.box (qB step_e_e))),(16,.own (.box (vN Arc_e))),(17,.own (.box (.agg [.atom (.int .u8 0),I 0,I step_e_e.To])))] [Hi qR h1,Hi qB h2,Hi ve h3,Hi vN h4,Hh (.cut 1)] ?_ fun J14 hJ14 => ?_
              ·rintro ⟨shown_Kind,shown_Label⟩ hf5
               unfold xy at hf5
               rcases zS hf5 with ⟨c6,hf5⟩ | ⟨c6,hf5⟩
               ·exact yB X0 hC hJ13 1 hf5 [Hq c6]
               ·exact yB X0 hC hJ13 there1 hf5 [Hq c6]
              ·rcases zS hf5 with ⟨c7,hf5⟩ | ⟨c7,hf5⟩
               ·obtain ⟨r_,h5,hf5⟩ := zo hf5
                let Z3 : List HO := (rpN 4 (Hq c7) [Hc h0l (x := (hidden,Arc_e.Message)) h5 (loC F2_ hidden <| loC (eI .i64) Arc_e.Message <| loN),Hq c7,Hq c7])
                rcases zS hf5 with ⟨c8,hf5⟩ | ⟨c8,hf5⟩
                ·exact yB X0 hC hJ14 (2,Arc_e.Message) hf5 (Z3 ++ [Hq c8])
                ·exact yB X0 hC hJ14 (0,0) hf5 (Z3 ++ [Hq c8])
               ·exact yB X0 hC hJ14 (0,0) hf5 (rpN 6 (Hq c7) [qF])
            ·obtain rfl := zl hf5
             obtain rfl := hl5
             exact yB X0 hC hJ11 there1 hf4 (Z2 ++ [Hq c5])
         ·obtain rfl := zl hf4
          obtain rfl := hl4
          exact yB X0 hC hJ8 row5 hf3 (Z1 ++ [Hq c3])
       ·obtain rfl := zl hf3
        obtain rfl := hl3
        exact yB X0 hC hJ6 row3 hf2 [Hq c2]
     ·obtain rfl := zl hf2
      obtain rfl := hl2
      exact yB X0 hC hJ4 row1 hf1 [Hq c1]
  ·obtain rfl := zl hf1
   obtain rfl := hl1
   exact yB X0 hC hJ1 out_Rows1 hf0 (Z0 ++ [Hq c0])
def Wy : Code := (Tryz.f56.body).getD .skip
def ZJ : xi := spF (α := za × za) (ρ := Int) 56 (fun x => [F8_ x.1,F8_ x.2]) (fun r => (eI .i64) r) (fun x => kV x.1 x.2) [] (UV)
abbrev Uw : List (Nat × T) := []
theorem KN {ctr : Ctr} (hC : zZ Tryz.prog ctr) : ZJ.Ok Tryz.prog := by
 refine yc ?_
 rintro ⟨a_,b_⟩ r0 hf0
 try unfold kV at hf0
 refine yO true [(4,none)] Wy 38 Tryz.func56 fun E hE => ?_
 refine yJ X0 hC Wy [1] [] [] (fun z : Unit => qO = some r0) (fun z => Uw) [(2,.own (.box (F8_ a_))),(3,.own (.box (F8_ b_)))] [Hh (.cut 1)] ?_ fun J1 hJ1 => ?_
 ·rintro ⟨⟩ hf0
  unfold qO at hf0
  obtain rfl := zl hf0
  exact yE X0 hC hE []
 ·rcases zS hf0 with ⟨c0,hf0⟩ | ⟨c0,hf0⟩
  ·obtain rfl := zl hf0
   exact yE X0 hC hE (rpN 8 (Hq c0) [qT])
  ·let Z0 : List HO := (rpN 6 (Hq c0) [])
   rcases zS hf0 with ⟨c1,hf0⟩ | ⟨c1,hf0⟩
   ·let Z1 : List HO := (Z0 ++ (rpN 6 (Hq c1) []))
    rcases zS hf0 with ⟨c2,hf0⟩ | ⟨c2,hf0⟩
    ·obtain rfl := zl hf0
     exact yE X0 hC hE (Z1 ++ (rpN 7 (Hq c2) [Hq c1,Hq c2,Hq c0,Hq c1,Hq c0,qT]))
    ·let Z2 : List HO := (Z1 ++ (rpN 6 (Hq c2) []))
     rcases zS hf0 with ⟨c3,hf0⟩ | ⟨c3,hf0⟩
     ·let Z3 : List HO := (Z2 ++ (rpN 5 (Hq c3) [Hq c2,Hq c3,Hq c1,Hq c2,Hq c0,Hq c1,Hq c0]))
      rcases zS hf0 with ⟨c4,hf0⟩ | ⟨c4,hf0⟩
      ·obtain rfl := zl hf0
       exact yE X0 hC hE (Z3 ++ [Hq c4])
      ·exact yB X0 hC hJ1 () hf0 (Z3 ++ [Hq c4])
     ·exact yB X0 hC hJ1 () hf0 (Z2 ++ (rpN 5 (Hq c3) [Hq c2,Hq c3,Hq c1,Hq c2,Hq c0,Hq c1,Hq c0,qF]))
   ·exact yB X0 hC hJ1 () hf0 (Z0 ++ (rpN 7 (Hq c1) [Hq c0,Hq c1,Hq c0,qF]))
def xY : Code := (Tryz.f20.body).getD .skip
def YF : xi := spF (α := zr) (ρ := Int) 20 (fun x => [Uz x]) (fun r => (eI .i64) r) (fun x => ZS x) [] (Ja)
abbrev Qu : List (Nat × T) := []
abbrev Qt (x_ : zr) (s_ : Int) : List (Nat × T) := [(1,.own (.box (Uz x_))),(3,.d (I ((x_.Rows.length : Nat) : Int))),(5,.d (I s_))]
abbrev Qs (x_ : zr) (s_ : Int) (k_ : Int) (x86 : Int) (x87 : Bool) (x91 : Int) (x92 : Int) (x93 : Bool) (x97 : Int) (x98 : Bool) (x102 : Int) (x104 : Bool) : List (Nat × T) := [(1,.own (.box (Uz x_))),(3,.d (I ((x_.Rows.length : Nat) : Int))),(5,.d (I s_)),(6,.d (I k_)),(86,.d (I x86)),(87,.d (B x87)),(91,.d (I x91)),(92,.d (I x92)),(93,.d (B x93)),(97,.d (I x97)),(98,.d (B x98)),(102,.d (I x102)),(103,.d (I ((x_.Rows.length : Nat) : Int))),(104,.d (B x104))]
abbrev Qq (x_ : zr) (s_ : Int) (k_ : Int) (Row_e_e : za) (most1 : Int) : List (Nat × T) := [(1,.own (.box (Uz x_))),(3,.d (I ((x_.Rows.length : Nat) : Int))),(5,.d (I s_)),(6,.d (I k_)),(7,.own (.box (F8_ Row_e_e))),(8,.d (I most1))]
abbrev Qr (x_ : zr) (s_ : Int) (k_ : Int) (Row_e_e : za) (most : Int) : List (Nat × T) := [(1,.own (.box (Uz x_))),(3,.d (I ((x_.Rows.length : Nat) : Int))),(5,.d (I s_)),(6,.d (I k_)),(7,.own (.box (F8_ Row_e_e))),(8,.d (I most))]
abbrev Qo (x_ : zr) (s_ : Int) (k_ : Int) : List (Nat × T) := [(1,.own (.box (Uz x_))),(3,.d (I ((x_.Rows.length : Nat) : Int))),(5,.d (I s_)),(6,.d (I k_))]
abbrev Qp (x_ : zr) (s_ : Int) : List (Nat × T) := [(1,.own (.box (Uz x_))),(3,.d (I ((x_.Rows.length : Nat) : Int))),(5,.d (I s_))]
abbrev Qv (x_ : zr) : List (Nat × T) := [(1,.own (.box (Uz x_))),(3,.d (I ((x_.Rows.length : Nat) : Int)))]
abbrev Qn (x_ : zr) (s_1 : Int) : List (Nat × T) := [(1,.own (.box (Uz x_))),(3,.d (I ((x_.Rows.length : Nat) : Int))),(4,.d (I s_1))]
theorem z0z {ctr : Ctr} (hC : zZ Tryz.prog ctr) (h0W : ctr.Has ZJ) : YF.Ok Tryz.prog := by
 refine yc ?_
 rintro x_ r0 hf0
 try unfold ZS at hf0
 refine yO true [(2,none)] xY 122 Tryz.func20 fun E hE => ?_
 let Z0 : List HO := [Ha (lnM ul x_.Rows)]
 rcases zS hf0 with ⟨c0,hf0⟩ | ⟨c0,hf0⟩
 ·obtain rfl := zl hf0
  exact yE X0 hC hE (Z0 ++ (rpN 4 (Hq c0) (rpN 4 qT [])))
 ·let Z1 : List HO := (Z0 ++ (rpN 4 (Hq c0) []))
  rcases zS hf0 with ⟨c1,hf0⟩ | ⟨c1,hf0⟩
  ·obtain rfl := zl hf0
   exact yE X0 hC hE (Z1 ++ [Hq c1,Hq c1,Hq c1,qT])
  ·rcases zS hf0 with ⟨c2,hf0⟩ | ⟨c2,hf0⟩
   ·obtain rfl := zl hf0
    exact yE X0 hC hE (Z1 ++ [Hq c1,Hq c1,Hq c1,Hq c2])
   ·refine yJ X0 hC xY [1,1,1] [] [1,3] (fun z : Unit => jp x_ = some r0) (fun z => Qv x_) [(1,.own (.box (Uz x_))),(3,.d (I ((x_.Rows.length : Nat) : Int)))] (Z1 ++ [Hq c1,Hq c1,Hq c1,Hq c2,Hh (.cut 0)]) ?_ fun J1 hJ1 => ?_
    ·rintro ⟨⟩ hf0
     unfold jp at hf0
     rcases zS hf0 with ⟨c3,hf0⟩ | ⟨c3,hf0⟩
     ·obtain rfl := zl hf0
      exact yE X0 hC hE (rpN 4 (Hq c3) (rpN 4 qT []))
     ·let Z2 : List HO := (rpN 4 (Hq c3) [])
      rcases zS hf0 with ⟨c4,hf0⟩ | ⟨c4,hf0⟩
      ·obtain rfl := zl hf0
       exact yE X0 hC hE (Z2 ++ [Hq c4,Hq c4,Hq c4,qT])
      ·rcases zS hf0 with ⟨c5,hf0⟩ | ⟨c5,hf0⟩
       ·obtain rfl := zl hf0
        exact yE X0 hC hE (Z2 ++ [Hq c4,Hq c4,Hq c4,Hq c5])
       ·refine yJ X0 hC xY [1,1,1,1,1] [] [] (fun z : Unit => YM = some r0) (fun z => Qu) [(1,.own (.box (Uz x_))),(3,.d (I ((x_.Rows.length : Nat) : Int)))] (Z2 ++ [Hq c4,Hq c4,Hq c4,Hq c5,Hh (.cut 0)]) ?_ fun J2 hJ2 => ?_
        ·rintro ⟨⟩ hf0
         unfold YM at hf0
         obtain rfl := zl hf0
         exact yE X0 hC hE []
        ·obtain ⟨t3,ht3,hf0⟩ := zo hf0
         refine yL X0 hC xY [1,1,1,1,1,2,1,0] [J2] (fun s => jm x_ s) (fun x => Qp x_ x) 0 ht3  [] ?_
         rintro s_ m3 lr1 hf1 hl1 J3 hJ3
         try unfold jm at hf1
         rcases zS hf1 with ⟨c6,hf1⟩ | ⟨c6,hf1⟩
         ·refine yJ X0 hC xY [1,1,1,1,1,2,1,0,0,1] [J2,J3] [1,3,5] (fun z : Unit => YL s_ = some lr1) (fun z => Qt x_ s_) [(1,.own (.box (Uz x_))),(3,.d (I ((x_.Rows.length : Nat) : Int))),(5,.d (I s_))] [Hq c6,Hh (.cut 0)] ?_ fun J4 hJ4 => ?_
          ·rintro ⟨⟩ hf1
           unfold YL at hf1
           obtain rfl := zl hf1
           exact yB X0 hC hJ3 (w64 (s_ + 1)) hl1 []
          ·obtain ⟨t5,ht5,hf1⟩ := zo hf1
           refine yL X0 hC xY [1,1,1,1,1,2,1,0,0,1,2,0,1,0] [J2,J3,J4] (fun s => jl x_ s_ s) (fun x => Qo x_ s_ x) 0 ht5  [] ?_
           rintro k_ m5 lr2 hf2 hl2 J5 hJ5
           try unfold jl at hf2
           obtain ⟨Row_e,h0,hf2⟩ := zo hf2
           let Z3 : List HO := [Hi ul h0,Ha (lnM F8_ Row_e)]
           rcases zS hf2 with ⟨c7,hf2⟩ | ⟨c7,hf2⟩
           ·refine yJ X0 hC xY [1,1,1,1,1,2,1,0,0,1,2,0,1,0,0,1] [J2,J3,J4,J5] [1,3,5,6,86,87,91,92,93,97,98,102,103,104] (fun z : Int × Bool × Int × Int × Bool × Int × Bool × Int × Bool => jo k_ z.1 z.2.1 z.2.2.1 z.2.2.2.1 z.2.2.2.2.1 z.2.2.2.2.2.1 z.2.2.2.2.2.2.1 z.2.2.2.2.2.2.2.1 z.2.2.2.2.2.2.2.2 = some lr2) (fun z => Qs x_ s_ k_ z.1 z.2.1 z.2.2.1 z.2.2.2.1 z.2.2.2.2.1 z.2.2.2.2.2.1 z.2.2.2.2.2.2.1 z.2.2.2.2.2.2.2.1 z.2.2.2.2.2.2.2.2) [(1,.own (.box (Uz x_))),(3,.d (I ((x_.Rows.length : Nat) : Int))),(5,.d (I s_)),(6,.d (I k_))] (Z3 ++ [Hq c7,Hh (.cut 0)]) ?_ fun J6 hJ6 => ?_
            ·rintro ⟨x86,x87,x91,x92,x93,x97,x98,x102,x104⟩ hf2
             unfold jo at hf2
             obtain rfl := zl hf2
             exact yB X0 hC hJ5 (w64 (k_ + 1)) hl2 []
            ·obtain ⟨Row_e1,h1,hf2⟩ := zo hf2
             obtain ⟨Row_e_e,h2,hf2⟩ := zo hf2
             refine yJ X0 hC xY [1,1,1,1,1,2,1,0,0,1,2,0,1,0,0,1,2,0,1,1] [J2,J3,J4,J5,J6] [1,3,5,6,7,8] (fun z : Int => jn x_ s_ k_ Row_e_e z = some lr2) (fun z => Qr x_ s_ k_ Row_e_e z) [(1,.own (.box (Uz x_))),(3,.d (I ((x_.Rows.length : Nat) : Int))),(5,.d (I s_)),(6,.d (I k_)),(7,.own (.box (F8_ Row_e_e))),(8,.d (I 1))] [Hi ul h1,Hi F8_ h2,Hh (.cut 1)] ?_ fun J7 hJ7 => ?_
             ·rintro most hf2
              unfold jn at hf2
              refine yJ X0 hC xY [1,1,1,1,1,2,1,0,0,1,2,0,1,0,0,1,2,0,1,1,1] [J2,J3,J4,J5,J6] [1,3,5,6,7,8] (fun z : Int => qh x_ s_ k_ Row_e_e z = some lr2) (fun z => Qq x_ s_ k_ Row_e_e z) [(1,.own (.box (Uz x_))),(3,.d (I ((x_.Rows.length : Nat) : Int))),(5,.d (I s_)),(6,.d (I k_)),(7,.own (.box (F8_ Row_e_e))),(8,.d (I most))] [Hh (.cut 0)] ?_ fun J8 hJ8 => ?_
              ·rintro most1 hf2
               unfold qh at hf2
               rcases zS hf2 with ⟨c8,hf2⟩ | ⟨c8,hf2⟩
               ·obtain rfl := zl hf2
                obtain rfl := hl2
                obtain rfl := zl hf1
                obtain rfl := hl1
                obtain rfl := zl hf0
                exact yE X0 hC hE (rpN 4 (Hq c8) (rpN 15 qT []))
               ·let Z4 : List HO := (rpN 4 (Hq c8) [])
                rcases zS hf2 with ⟨c9,hf2⟩ | ⟨c9,hf2⟩
                ·obtain rfl := zl hf2
                 obtain rfl := hl2
                 obtain rfl := zl hf1
                 obtain rfl := hl1
                 obtain rfl := zl hf0
                 exact yE X0 hC hE (Z4 ++ (rpN 5 (Hq c9) (rpN 10 qT [])))
                ·let Z5 : List HO := (Z4 ++ (rpN 5 (Hq c9) []))
                 rcases zS hf2 with ⟨c10,hf2⟩ | ⟨c10,hf2⟩
                 ·obtain rfl := zl hf2
                  obtain rfl := hl2
                  obtain rfl := zl hf1
                  obtain rfl := hl1
                  obtain rfl := zl hf0
                  exact yE X0 hC hE (Z5 ++ (rpN 4 (Hq c10) (rpN 6 qT [])))
                 ·let Z6 : List HO := (Z5 ++ (rpN 4 (Hq c10) []))
                  rcases zS hf2 with ⟨c11,hf2⟩ | ⟨c11,hf2⟩
                  ·obtain rfl := zl hf2
                   obtain rfl := hl2
                   obtain rfl := zl hf1
                   obtain rfl := hl1
                   obtain rfl := zl hf0
                   exact yE X0 hC hE (Z6 ++ (rpN 5 (Hq c11) [qT]))
                  ·let Z7 : List HO := (Z6 ++ (rpN 5 (Hq c11) []))
                   rcases zS hf2 with ⟨c12,hf2⟩ | ⟨c12,hf2⟩
                   ·obtain rfl := zl hf2
                    obtain rfl := hl2
                    obtain rfl := zl hf1
                    obtain rfl := hl1
                    obtain rfl := zl hf0
                    exact yE X0 hC hE (Z7 ++ [Hq c12])
                   ·rcases zS hf2 with ⟨c13,hf2⟩ | ⟨c13,hf2⟩
                    ·obtain ⟨Row_e2,h3,hf2⟩ := zo hf2
                     obtain ⟨Row_e_e1,h4,hf2⟩ := zo hf2
                     obtain ⟨r_,h5,hf2⟩ := zo hf2
                     let Z8 : List HO := (Z7 ++ (Hq c12 :: (rpN 4 (Hq c13) (Hi ul h3 :: (rpN 4 (Hq c13) [Hi F8_ h4,Hq c13,Hq c13,Hq c13,Hc h0W (x := (Row_e_e1,Row_e_e)) h5 (loC F8_ Row_e_e1 <| loC F8_ Row_e_e <| loN),Hq c13,Hq c13])))))
                     rcases zS hf2 with ⟨c14,hf2⟩ | ⟨c14,hf2⟩
                     ·obtain rfl := zl hf2
                      obtain rfl := hl2
                      obtain rfl := zl hf1
                      obtain rfl := hl1
                      obtain rfl := zl hf0
                      exact yE X0 hC hE (Z8 ++ [Hq c14])
                     ·exact yB X0 hC hJ6 (Row_e_e.Label,decide (Row_e_e.Label < 0),Row_e_e.Label,most1,decide (Row_e_e.Label ≥ most1),Row_e_e.To,decide (Row_e_e.To < 0),Row_e_e.To,decide (Row_e_e.To ≥ ((x_.Rows.length : Nat) : Int))) hf2 (Z8 ++ [Hq c14])
                    ·exact yB X0 hC hJ6 (Row_e_e.Label,decide (Row_e_e.Label < 0),Row_e_e.Label,most1,decide (Row_e_e.Label ≥ most1),Row_e_e.To,decide (Row_e_e.To < 0),Row_e_e.To,decide (Row_e_e.To ≥ ((x_.Rows.length : Nat) : Int))) hf2 (Z7 ++ (Hq c12 :: (rpN 13 (Hq c13) [qF])))
              ·rcases zS hf2 with ⟨c15,hf2⟩ | ⟨c15,hf2⟩
               ·exact yB X0 hC hJ8 x_.Outputs hf2 [Hq c15]
               ·exact yB X0 hC hJ8 most hf2 [Hq c15]
             ·rcases zS hf2 with ⟨c16,hf2⟩ | ⟨c16,hf2⟩
              ·exact yB X0 hC hJ7 x_.Inputs hf2 [Hq c16]
              ·exact yB X0 hC hJ7 1 hf2 [Hq c16]
           ·obtain rfl := zl hf2
            obtain rfl := hl2
            exact yB X0 hC hJ4 () hf1 (Z3 ++ [Hq c7])
         ·obtain rfl := zl hf1
          obtain rfl := hl1
          exact yB X0 hC hJ2 () hf0 [Hq c6]
    ·obtain ⟨t9,ht9,hf0⟩ := zo hf0
     refine yL X0 hC xY [1,1,1,2,1,0] [J1] (fun s => jk x_ s) (fun x => Qn x_ x) 0 ht9  [] ?_
     rintro s_1 m9 lr1 hf1 hl1 J9 hJ9
     try unfold jk at hf1
     rcases zS hf1 with ⟨c17,hf1⟩ | ⟨c17,hf1⟩
     ·obtain ⟨Row_e3,h6,hf1⟩ := zo hf1
      let Z9 : List HO := [Hq c17,Hi ul h6,Ha (lnM F8_ Row_e3)]
      rcases zS hf1 with ⟨c18,hf1⟩ | ⟨c18,hf1⟩
      ·obtain rfl := zl hf1
       obtain rfl := hl1
       obtain rfl := zl hf0
       exact yE X0 hC hE (Z9 ++ [Hq c18])
      ·obtain rfl := zl hf1
       exact yB X0 hC hJ9 (w64 (s_1 + 1)) hl1 (Z9 ++ [Hq c18])
     ·obtain rfl := zl hf1
      obtain rfl := hl1
      exact yB X0 hC hJ1 () hf0 [Hq c17]
def yg : Code := (Tryz.f4.body).getD .skip
def uB : xi := spF (α := yk × Int) (ρ := Bool) 4 (fun x => [KH x.1,(eI .u8) x.2]) (fun r => eB r) (fun x => vV x.1 x.2) [] (UV)
abbrev Yt : List (Nat × T) := []
abbrev Ys (hidden : List Int) (r_2 : zr × Int) (i_ : Int) : List (Nat × T) := [(8,.d (eSl 1 false (eI .i64) hidden)),(10,.own (.box (z4H r_2.1))),(12,.d (I i_))]
abbrev Yr (hidden : List Int) (r_2 : zr × Int) (i_ : Int) (k_ : Int) : List (Nat × T) := [(8,.d (eSl 1 false (eI .i64) hidden)),(10,.own (.box (z4H r_2.1))),(12,.d (I i_)),(13,.d (I k_))]
abbrev Yo (hidden : List Int) (r_2 : zr × Int) (i_ : Int) (k_ : Int) : List (Nat × T) := [(8,.d (eSl 1 false (eI .i64) hidden)),(10,.own (.box (z4H r_2.1))),(12,.d (I i_)),(13,.d (I k_))]
abbrev Yp (hidden : List Int) (r_2 : zr × Int) (i_ : Int) : List (Nat × T) := [(8,.d (eSl 1 false (eI .i64) hidden)),(10,.own (.box (z4H r_2.1))),(12,.d (I i_))]
abbrev Yu (r_ : z8) (r_1 : List z7 × List (List z6)) (hidden : List Int) : List (Nat × T) := [(5,.own (.box (z6E r_))),(6,.d (eSl 2 false wm r_1.1)),(7,.d (eSl 1 false qR r_1.2)),(8,.own (eOs 1 false (eI .i64) hidden))]
abbrev Yq (hide : Int) (r_ : z8) (r_1 : List z7 × List (List z6)) (i_1 : Int) (hidden2 : List Int) : List (Nat × T) := [(1,.d (.atom (.int .u8 hide))),(5,.own (.box (z6E r_))),(6,.d (eSl 2 false wm r_1.1)),(7,.d (eSl 1 false qR r_1.2)),(8,.own (eOs 1 false (eI .i64) hidden2)),(9,.d (I i_1))]
abbrev Yn (hide : Int) (r_ : z8) (r_1 : List z7 × List (List z6)) (hidden1 : List Int) (i_1 : Int) : List (Nat × T) := [(1,.d (.atom (.int .u8 hide))),(5,.own (.box (z6E r_))),(6,.d (eSl 2 false wm r_1.1)),(7,.d (eSl 1 false qR r_1.2)),(8,.own (eOs 1 false (eI .i64) hidden1)),(9,.d (I i_1))]
theorem XZ {ctr : Ctr} (hC : zZ Tryz.prog ctr) (h0X : ctr.Has Xl) (h0Y : ctr.Has YD) (h08 : ctr.Has qw) (h0A : ctr.Has YH) (h0Z : ctr.Has Zk) (h09 : ctr.Has jt) (h1a : ctr.Has YF) (h0l : ctr.Has Yx) : uB.Ok Tryz.prog := by
 refine yc ?_
 rintro ⟨x_,hide⟩ r0 hf0
 try unfold vV at hf0
 refine yO true [(4,none)] yg 125 Tryz.func4 fun E hE => ?_
 obtain ⟨r_,h0,hf0⟩ := zo hf0
 obtain ⟨r_1,h1,hf0⟩ := zo hf0
 refine yJ X0 hC yg [1,1,1,1] [] [5,6,7,8] (fun z : List Int => wd r_ r_1 z = some r0) (fun z => Yu r_ r_1 z) [(1,.d (.atom (.int .u8 hide))),(5,.own (.box (z6E r_))),(6,.d (eSl 2 false wm r_1.1)),(7,.d (eSl 1 false qR r_1.2)),(8,.own (eOs 1 true (eI .i64) []))] [Hc h0X (x := (yk.mk x_.Channels x_.Parts)) h0 (loC KH (yk.mk x_.Channels x_.Parts) <| loN),Hc h0Y (x := (r_,64)) h1 (loC z6E r_ <| loC (eI .i64) 64 <| loN),Hh (.cut 1)] ?_ fun J1 hJ1 => ?_
 ·rintro hidden hf0
  unfold wd at hf0
  obtain ⟨r_2,h2,hf0⟩ := zo hf0
  let Z0 : List HO := [Hg (z2f h08),Hm (shM (eI .i64) (eI .i64) hidden),Hs (z2g h08 (x := (r_,hidden)) h2 (loC z6E r_ <| loC F2_ hidden <| loN)),Hm (shM (eI .i64) (eI .i64) hidden),Ha (lnM wm r_1.1)]
  rcases zS hf0 with ⟨c0,hf0⟩ | ⟨c0,hf0⟩
  ·rcases zS hf0 with ⟨c1,hf0⟩ | ⟨c1,hf0⟩
   ·let Z1 : List HO := (Z0 ++ (Hq c0 :: Hq c1 :: Hq c1 :: Hq c1 :: Ha (lnM ul r_2.1.Rows) :: (rpN 5 (Hq c1) [])))
    rcases zS hf0 with ⟨c2,hf0⟩ | ⟨c2,hf0⟩
    ·obtain ⟨r_3,h3,hf0⟩ := zo hf0
     obtain rfl := zl hf0
     exact yE X0 hC hE (Z1 ++ [Hq c2,Hc h0A (x := ()) h3 (loN),Hq c2])
    ·obtain rfl := zl hf0
     exact yE X0 hC hE (Z1 ++ [Hq c2,Hq c2])
   ·obtain rfl := zl hf0
    exact yE X0 hC hE (Z0 ++ (Hq c0 :: (rpN 8 (Hq c1) [qF,qF])))
  ·rcases zS hf0 with ⟨c3,hf0⟩ | ⟨c3,hf0⟩
   ·obtain rfl := zl hf0
    exact yE X0 hC hE (Z0 ++ (Hq c0 :: (rpN 8 (Hq c3) (rpN 13 qT []))))
   ·obtain ⟨r_4,h4,hf0⟩ := zo hf0
    obtain ⟨r_5,h5,hf0⟩ := zo hf0
    let Z2 : List HO := (Z0 ++ (Hq c0 :: (rpN 5 (Hq c3) [Hc h0Z (x := (r_,r_1.2,hidden)) h4 (loC z6E r_ <| loC z91 r_1.2 <| loC F2_ hidden <| loN),Hq c3,Hc h09 (x := (r_2.1,r_4)) h5 (loC z4H r_2.1 <| loC Uz r_4 <| loN),Hq c3,Hq c3])))
    rcases zS hf0 with ⟨c4,hf0⟩ | ⟨c4,hf0⟩
    ·obtain rfl := zl hf0
     exact yE X0 hC hE (Z2 ++ (rpN 8 (Hq c4) (rpN 5 qT [])))
    ·let Z3 : List HO := (Z2 ++ [Hq c4,Hq c4,Hq c4,Ha (lnM ul r_2.1.Rows),Hq c4,Hq c4,Hq c4,Ha (lnM ul r_2.1.Rows),Hq c4,Hq c4])
     rcases zS hf0 with ⟨c5,hf0⟩ | ⟨c5,hf0⟩
     ·obtain rfl := zl hf0
      exact yE X0 hC hE (Z3 ++ (rpN 4 (Hq c5) [qT]))
     ·obtain ⟨r_6,h6,hf0⟩ := zo hf0
      let Z4 : List HO := (Z3 ++ [Hq c5,Hq c5,Hc h1a (x := r_2.1) h6 (loC z4H r_2.1 <| loN),Hq c5,Hq c5])
      rcases zS hf0 with ⟨c6,hf0⟩ | ⟨c6,hf0⟩
      ·obtain rfl := zl hf0
       exact yE X0 hC hE (Z4 ++ [Hq c6])
      ·refine yJ X0 hC yg [1,1,1,1,1,1,1,1] [] [] (fun z : Unit => wc = some r0) (fun z => Yt) [(8,.d (eSl 1 false (eI .i64) hidden)),(10,.own (.box (z4H r_2.1)))] (Z4 ++ [Hq c6,Hh (.cut 0)]) ?_ fun J2 hJ2 => ?_
       ·rintro ⟨⟩ hf0
        unfold wc at hf0
        obtain ⟨r_7,h7,hf0⟩ := zo hf0
        obtain rfl := zl hf0
        exact yE X0 hC hE [Hc h0A (x := ()) h7 (loN)]
       ·obtain ⟨t3,ht3,hf0⟩ := zo hf0
        refine yL X0 hC yg [1,1,1,1,1,1,1,1,2,1,0] [J2] (fun s => w9 hidden r_2 s) (fun x => Yp hidden r_2 x) 0 ht3  [] ?_
        rintro i_ m3 lr1 hf1 hl1 J3 hJ3
        try unfold w9 at hf1
        let Z5 : List HO := [Ha (lnM ul r_2.1.Rows)]
        rcases zS hf1 with ⟨c7,hf1⟩ | ⟨c7,hf1⟩
        ·refine yJ X0 hC yg [1,1,1,1,1,1,1,1,2,1,0,0,1] [J2,J3] [8,10,12] (fun z : Unit => uH i_ = some lr1) (fun z => Ys hidden r_2 i_) [(8,.d (eSl 1 false (eI .i64) hidden)),(10,.own (.box (z4H r_2.1))),(12,.d (I i_))] (Z5 ++ [Hq c7,Hh (.cut 0)]) ?_ fun J4 hJ4 => ?_
         ·rintro ⟨⟩ hf1
          unfold uH at hf1
          obtain rfl := zl hf1
          exact yB X0 hC hJ3 (w64 (i_ + 1)) hl1 []
         ·obtain ⟨t5,ht5,hf1⟩ := zo hf1
          refine yL X0 hC yg [1,1,1,1,1,1,1,1,2,1,0,0,1,2,0,1,0] [J2,J3,J4] (fun s => w8 hidden r_2 i_ s) (fun x => Yo hidden r_2 i_ x) 0 ht5  [] ?_
          rintro k_ m5 lr2 hf2 hl2 J5 hJ5
          try unfold w8 at hf2
          obtain ⟨Row_e,h8,hf2⟩ := zo hf2
          let Z6 : List HO := [Hi ul h8,Ha (lnM F8_ Row_e)]
          rcases zS hf2 with ⟨c8,hf2⟩ | ⟨c8,hf2⟩
          ·refine yJ X0 hC yg [1,1,1,1,1,1,1,1,2,1,0,0,1,2,0,1,0,0,1] [J2,J3,J4,J5] [8,10,12,13] (fun z : Unit => wb k_ = some lr2) (fun z => Yr hidden r_2 i_ k_) [(8,.d (eSl 1 false (eI .i64) hidden)),(10,.own (.box (z4H r_2.1))),(12,.d (I i_)),(13,.d (I k_))] (Z6 ++ [Hq c8,Hh (.cut 0)]) ?_ fun J6 hJ6 => ?_
           ·rintro ⟨⟩ hf2
            unfold wb at hf2
            obtain rfl := zl hf2
            exact yB X0 hC hJ5 (w64 (k_ + 1)) hl2 []
           ·obtain ⟨Row_e1,h9,hf2⟩ := zo hf2
            obtain ⟨Row_e_e,h10,hf2⟩ := zo hf2
            let Z7 : List HO := [Hi ul h9,Hi F8_ h10]
            rcases zS hf2 with ⟨c9,hf2⟩ | ⟨c9,hf2⟩
            ·obtain ⟨Row_e2,h11,hf2⟩ := zo hf2
             obtain ⟨Row_e_e1,h12,hf2⟩ := zo hf2
             obtain ⟨r_8,h13,hf2⟩ := zo hf2
             let Z8 : List HO := (Z7 ++ (rpN 5 (Hq c9) [Hi ul h11,Hq c9,Hq c9,Hq c9,Hi F8_ h12,Hq c9,Hq c9,Hq c9,Hc h0l (x := (hidden,Row_e_e1.Label)) h13 (loC F2_ hidden <| loC (eI .i64) Row_e_e1.Label <| loN),Hq c9,Hq c9]))
             rcases zS hf2 with ⟨c10,hf2⟩ | ⟨c10,hf2⟩
             ·obtain rfl := zl hf2
              obtain rfl := hl2
              obtain rfl := zl hf1
              obtain rfl := hl1
              obtain rfl := zl hf0
              exact yE X0 hC hE (Z8 ++ [Hq c10])
             ·exact yB X0 hC hJ6 () hf2 (Z8 ++ [Hq c10])
            ·exact yB X0 hC hJ6 () hf2 (Z7 ++ (rpN 13 (Hq c9) [qF]))
          ·obtain rfl := zl hf2
           obtain rfl := hl2
           exact yB X0 hC hJ4 () hf1 (Z6 ++ [Hq c8])
        ·obtain rfl := zl hf1
         obtain rfl := hl1
         exact yB X0 hC hJ2 () hf0 (Z5 ++ [Hq c7])
 ·obtain ⟨t7,ht7,hf0⟩ := zo hf0
  refine yLx X0 hC yg [1,1,1,1,2,1,0] [J1] (fun s => w7 hide s.1 s.2) (fun x => Yn hide r_ r_1 x.1 x.2) (([] : List Int),0) ht7 [(1,.d (.atom (.int .u8 hide))),(5,.own (.box (z6E r_))),(6,.d (eSl 2 false wm r_1.1)),(7,.d (eSl 1 false qR r_1.2)),(8,.own (eOs 1 true (eI .i64) [])),(9,.d (I 0))] inferInstance [] ?_
  rintro ⟨hidden1,i_1⟩ m7 lr1 hf1 hl1 J7 hJ7
  try unfold w7 at hf1
  rcases zS hf1 with ⟨c11,hf1⟩ | ⟨c11,hf1⟩
  ·refine yJ X0 hC yg [1,1,1,1,2,1,0,0,1] [J1,J7] [1,5,6,7,8,9] (fun z : List Int => wa i_1 z = some lr1) (fun z => Yq hide r_ r_1 i_1 z) [(1,.d (.atom (.int .u8 hide))),(5,.own (.box (z6E r_))),(6,.d (eSl 2 false wm r_1.1)),(7,.d (eSl 1 false qR r_1.2)),(8,.own (eOs 1 false (eI .i64) hidden1)),(9,.d (I i_1))] [Hq c11,Hh (.cut 0)] ?_ fun J8 hJ8 => ?_
   ·rintro hidden2 hf1
    unfold wa at hf1
    obtain rfl := zl hf1
    exact yB X0 hC hJ7 (hidden2,w64 (i_1 + 1)) hl1 []
   ·obtain ⟨g0,hf1⟩ := gdE hf1
    rcases zS hf1 with ⟨c12,hf1⟩ | ⟨c12,hf1⟩
    ·obtain ⟨g1,hf1⟩ := gdE hf1
     exact yB ((zdP Tryz.prog).or ((zdO Tryz.prog).or X0)) hC hJ8 (hidden1 ++ ([i_1] : List Int)) hf1 [Hn g0,Hq c12,Hq (dM (eI .i64) ([i_1] : List Int)),Hn (dM (eI .i64) ([i_1] : List Int)),Hn (aL (eI .i64) (eI .i64) g1),Hl (aM (eI .i64) hidden1 ([i_1] : List Int))]
    ·exact yB ((zdP Tryz.prog).or ((zdO Tryz.prog).or X0)) hC hJ8 hidden1 hf1 [Hn g0,Hq c12]
  ·obtain rfl := zl hf1
   obtain rfl := hl1
   exact yB X0 hC hJ1 hidden1 hf0 [Hq c11]
theorem xK {l : List xi} {s : xi} (h : ((l.map xi.k).contains s.k) = false) : ∀ t ∈ l,t.k ≠ s.k := by
 intro t ht e
 have : (l.map xi.k).contains s.k = true := by
  rw [List.contains_iff_mem,← e]
  exact List.mem_map_of_mem ht
 rw [h] at this
 cases this
theorem y4 {l : List xi} {c : Ctr} (H : ∀ t ∈ l,c.Has t) (i : Nat) {s : xi} (h : l[i]? = some s) : c.Has s := H _ (List.mem_of_getElem? h)
def L0 : List xi := Xl :: []
def L1 : List xi := YE :: L0
def L2 : List xi := Xh :: L1
def L3 : List xi := YC :: L2
def L4 : List xi := ZK :: L3
def L5 : List xi := Xi :: L4
def L6 : List xi := kl :: L5
def L7 : List xi := YD :: L6
def L8 : List xi := vu :: L7
def L9 : List xi := ki :: L8
def L10 : List xi := yN :: L9
def L11 : List xi := yz :: L10
def L12 : List xi := Zi :: L11
def L13 : List xi := vw :: L12
def L14 : List xi := Zu :: L13
def L15 : List xi := qV :: L14
def L16 : List xi := uu :: L15
def L17 : List xi := kj :: L16
def L18 : List xi := xa :: L17
def L19 : List xi := yK :: L18
def L20 : List xi := uQ :: L19
def L21 : List xi := uw :: L20
def L22 : List xi := v8 :: L21
def L23 : List xi := ja :: L22
def L24 : List xi := qN :: L23
def L25 : List xi := v7 :: L24
def L26 : List xi := Yy :: L25
def L27 : List xi := xo :: L26
def L28 : List xi := w6 :: L27
def L29 : List xi := ju :: L28
def L30 : List xi := ZM :: L29
def L31 : List xi := jL :: L30
def L32 : List xi := wB :: L31
def L33 : List xi := km :: L32
def L34 : List xi := jd :: L33
def L35 : List xi := kn :: L34
def L36 : List xi := Xm :: L35
def L37 : List xi := jb :: L36
def L38 : List xi := xz :: L37
def L39 : List xi := xV :: L38
def L40 : List xi := xO :: L39
def L41 : List xi := qw :: L40
def L42 : List xi := Xj :: L41
def L43 : List xi := uA :: L42
def L44 : List xi := qm :: L43
def L45 : List xi := wL :: L44
def L46 : List xi := x5 :: L45
def L47 : List xi := Zj :: L46
def L48 : List xi := ZL :: L47
def L49 : List xi := Xk :: L48
def L50 : List xi := YI :: L49
def L51 : List xi := jt :: L50
def L52 : List xi := uz :: L51
def L53 : List xi := vd :: L52
def L54 : List xi := uv :: L53
def L55 : List xi := xp :: L54
def L56 : List xi := jK :: L55
def L57 : List xi := YG :: L56
def L58 : List xi := YH :: L57
def L59 : List xi := Yx :: L58
def L60 : List xi := Zk :: L59
def L61 : List xi := ZJ :: L60
def L62 : List xi := YF :: L61
def L63 : List xi := uB :: L62
theorem zfz : zJ Tryz.prog L0 := ⟨fun _ hC H => z1r hC,xK (by kernel_rfl),trivial⟩
theorem zfy : zJ Tryz.prog L1 := ⟨fun _ hC H => z0y hC,xK (by kernel_rfl),zfz⟩
theorem zfx : zJ Tryz.prog L2 := ⟨fun _ hC H => z1m hC,xK (by kernel_rfl),zfy⟩
theorem zfw : zJ Tryz.prog L3 := ⟨fun _ hC H => z0w hC (y4 H 0 rfl),xK (by kernel_rfl),zfx⟩
theorem zfv : zJ Tryz.prog L4 := ⟨fun _ hC H => KO hC,xK (by kernel_rfl),zfw⟩
theorem zfu : zJ Tryz.prog L5 := ⟨fun _ hC H => z1o hC (y4 H 0 rfl),xK (by kernel_rfl),zfv⟩
theorem zft : zJ Tryz.prog L6 := ⟨fun _ hC H => z1n hC (y4 H 0 rfl),xK (by kernel_rfl),zfu⟩
theorem zfs : zJ Tryz.prog L7 := ⟨fun _ hC H => z0x hC (y4 H 5 rfl) (y4 H 3 rfl) (y4 H 0 rfl),xK (by kernel_rfl),zft⟩
theorem zfr : zJ Tryz.prog L8 := ⟨fun _ hC H => UD hC,xK (by kernel_rfl),zfs⟩
theorem zfq : zJ Tryz.prog L9 := ⟨fun _ hC H => UC hC,xK (by kernel_rfl),zfr⟩
theorem zdL : zJ Tryz.prog L10 := ⟨fun _ hC H => ug hC (y4 H 0 rfl),xK (by kernel_rfl),zfq⟩
theorem zdK : zJ Tryz.prog L11 := ⟨fun _ hC H => vH hC (y4 H 0 rfl),xK (by kernel_rfl),zdL⟩
theorem zdJ : zJ Tryz.prog L12 := ⟨fun _ hC H => JL hC (y4 H 3 rfl) (y4 H 0 rfl),xK (by kernel_rfl),zdK⟩
theorem zdI : zJ Tryz.prog L13 := ⟨fun _ hC H => UG hC,xK (by kernel_rfl),zdJ⟩
theorem zdH : zJ Tryz.prog L14 := ⟨fun _ hC H => z1l hC,xK (by kernel_rfl),zdI⟩
theorem zdG : zJ Tryz.prog L15 := ⟨fun _ hC H => QW hC (y4 H 0 rfl),xK (by kernel_rfl),zdH⟩
theorem zdF : zJ Tryz.prog L16 := ⟨fun _ hC H => XT hC (y4 H 1 rfl),xK (by kernel_rfl),zdG⟩
theorem zdE : zJ Tryz.prog L17 := ⟨fun _ hC H => UF hC (y4 H 0 rfl),xK (by kernel_rfl),zdF⟩
theorem zdD : zJ Tryz.prog L18 := ⟨fun _ hC H => uO hC (y4 H 0 rfl),xK (by kernel_rfl),zdE⟩
theorem zdC : zJ Tryz.prog L19 := ⟨fun _ hC H => vX hC (y4 H 0 rfl),xK (by kernel_rfl),zdD⟩
theorem zdB : zJ Tryz.prog L20 := ⟨fun _ hC H => JN hC (y4 H 7 rfl) (y4 H 6 rfl) (y4 H 4 rfl) (y4 H 0 rfl),xK (by kernel_rfl),zdC⟩
theorem zdA : zJ Tryz.prog L21 := ⟨fun _ hC H => XV hC,xK (by kernel_rfl),zdB⟩
theorem zdz : zJ Tryz.prog L22 := ⟨fun _ hC H => Wf hC,xK (by kernel_rfl),zdA⟩
theorem zdy : zJ Tryz.prog L23 := ⟨fun _ hC H => Vg hC,xK (by kernel_rfl),zdz⟩
theorem zdx : zJ Tryz.prog L24 := ⟨fun _ hC H => WR hC,xK (by kernel_rfl),zdy⟩
theorem zdw : zJ Tryz.prog L25 := ⟨fun _ hC H => We hC (y4 H 1 rfl) (y4 H 0 rfl),xK (by kernel_rfl),zdx⟩
theorem zdv : zJ Tryz.prog L26 := ⟨fun _ hC H => z2N hC,xK (by kernel_rfl),zdw⟩
theorem zdu : zJ Tryz.prog L27 := ⟨fun _ hC H => qL hC,xK (by kernel_rfl),zdv⟩
theorem zdt : zJ Tryz.prog L28 := ⟨fun _ hC H => XW hC (y4 H 6 rfl) (y4 H 5 rfl) (y4 H 2 rfl) (y4 H 1 rfl) (y4 H 0 rfl),xK (by kernel_rfl),zdu⟩
theorem zds : zJ Tryz.prog L29 := ⟨fun _ hC H => JQ hC,xK (by kernel_rfl),zdt⟩
theorem zdr : zJ Tryz.prog L30 := ⟨fun _ hC H => KQ hC (y4 H 0 rfl),xK (by kernel_rfl),zds⟩
theorem zdq : zJ Tryz.prog L31 := ⟨fun _ hC H => VX hC,xK (by kernel_rfl),zdr⟩
theorem zdp : zJ Tryz.prog L32 := ⟨fun _ hC H => Ze hC (y4 H 1 rfl) (y4 H 0 rfl),xK (by kernel_rfl),zdq⟩
theorem zdo : zJ Tryz.prog L33 := ⟨fun _ hC H => UH hC,xK (by kernel_rfl),zdp⟩
theorem zdn : zJ Tryz.prog L34 := ⟨fun _ hC H => Vi hC (y4 H 0 rfl),xK (by kernel_rfl),zdo⟩
theorem zdm : zJ Tryz.prog L35 := ⟨fun _ hC H => UI hC (y4 H 5 rfl),xK (by kernel_rfl),zdn⟩
theorem zdl : zJ Tryz.prog L36 := ⟨fun _ hC H => z1s hC,xK (by kernel_rfl),zdm⟩
theorem zdk : zJ Tryz.prog L37 := ⟨fun _ hC H => Vh hC (y4 H 2 rfl) (y4 H 1 rfl) (y4 H 0 rfl),xK (by kernel_rfl),zdl⟩
theorem zdj : zJ Tryz.prog L38 := ⟨fun _ hC H => jg hC,xK (by kernel_rfl),zdk⟩
theorem zdi : zJ Tryz.prog L39 := ⟨fun _ hC H => k9 hC,xK (by kernel_rfl),zdj⟩
theorem zdh : zJ Tryz.prog L40 := ⟨fun _ hC H => jS hC,xK (by kernel_rfl),zdi⟩
theorem zdg : zJ Tryz.prog L41 := ⟨fun _ hC H => UE hC (y4 H 20 rfl) (y4 H 25 rfl) (y4 H 12 rfl) (y4 H 8 rfl) (y4 H 3 rfl) (y4 H 2 rfl) (y4 H 1 rfl) (y4 H 0 rfl),xK (by kernel_rfl),zdh⟩
theorem zdf : zJ Tryz.prog L42 := ⟨fun _ hC H => z1p hC,xK (by kernel_rfl),zdg⟩
theorem zde : zJ Tryz.prog L43 := ⟨fun _ hC H => XY hC,xK (by kernel_rfl),zdf⟩
theorem zdd : zJ Tryz.prog L44 := ⟨fun _ hC H => Wg hC,xK (by kernel_rfl),zde⟩
theorem zdc : zJ Tryz.prog L45 := ⟨fun _ hC H => Xf hC (y4 H 1 rfl) (y4 H 0 rfl),xK (by kernel_rfl),zdd⟩
theorem zdb : zJ Tryz.prog L46 := ⟨fun _ hC H => un hC,xK (by kernel_rfl),zdc⟩
theorem zda : zJ Tryz.prog L47 := ⟨fun _ hC H => JM hC (y4 H 26 rfl) (y4 H 18 rfl) (y4 H 1 rfl) (y4 H 0 rfl),xK (by kernel_rfl),zdb⟩
theorem zd9 : zJ Tryz.prog L48 := ⟨fun _ hC H => KP hC,xK (by kernel_rfl),zda⟩
theorem zd8 : zJ Tryz.prog L49 := ⟨fun _ hC H => z1q hC,xK (by kernel_rfl),zd9⟩
theorem zd7 : zJ Tryz.prog L50 := ⟨fun _ hC H => z0C hC (y4 H 43 rfl),xK (by kernel_rfl),zd8⟩
theorem zd6 : zJ Tryz.prog L51 := ⟨fun _ hC H => JP hC,xK (by kernel_rfl),zd7⟩
theorem zd5 : zJ Tryz.prog L52 := ⟨fun _ hC H => XX hC,xK (by kernel_rfl),zd6⟩
theorem zd4 : zJ Tryz.prog L53 := ⟨fun _ hC H => YB hC (y4 H 0 rfl),xK (by kernel_rfl),zd5⟩
theorem zd3 : zJ Tryz.prog L54 := ⟨fun _ hC H => XU hC (y4 H 0 rfl),xK (by kernel_rfl),zd4⟩
theorem zd2 : zJ Tryz.prog L55 := ⟨fun _ hC H => qM hC,xK (by kernel_rfl),zd3⟩
theorem zd1 : zJ Tryz.prog L56 := ⟨fun _ hC H => VW hC (y4 H 35 rfl) (y4 H 27 rfl) (y4 H 1 rfl) (y4 H 0 rfl) (y4 H 10 rfl),xK (by kernel_rfl),zd2⟩
theorem zd0 : zJ Tryz.prog L57 := ⟨fun _ hC H => z0A hC,xK (by kernel_rfl),zd1⟩
theorem zcZ : zJ Tryz.prog L58 := ⟨fun _ hC H => z0B hC (y4 H 15 rfl) (y4 H 10 rfl) (y4 H 9 rfl) (y4 H 8 rfl) (y4 H 7 rfl) (y4 H 16 rfl) (y4 H 6 rfl) (y4 H 1 rfl) (y4 H 0 rfl) (y4 H 51 rfl),xK (by kernel_rfl),zd0⟩
theorem zcY : zJ Tryz.prog L59 := ⟨fun _ hC H => z2M hC,xK (by kernel_rfl),zcZ⟩
theorem zcX : zJ Tryz.prog L60 := ⟨fun _ hC H => JO hC (y4 H 0 rfl),xK (by kernel_rfl),zcY⟩
theorem zcW : zJ Tryz.prog L61 := ⟨fun _ hC H => KN hC,xK (by kernel_rfl),zcX⟩
theorem zcV : zJ Tryz.prog L62 := ⟨fun _ hC H => z0z hC (y4 H 0 rfl),xK (by kernel_rfl),zcW⟩
theorem zcU : zJ Tryz.prog L63 := ⟨fun _ hC H => XZ hC (y4 H 62 rfl) (y4 H 55 rfl) (y4 H 21 rfl) (y4 H 4 rfl) (y4 H 2 rfl) (y4 H 11 rfl) (y4 H 0 rfl) (y4 H 3 rfl),xK (by kernel_rfl),zcV⟩
theorem wj {x : Int} (h1 : -9223372036854775808 ≤ x) (h2 : x ≤ 9223372036854775807) : w64 x = x := by
 simp only [w64,IntKind.wrap,IntKind.bits,IntKind.signed]
 simp
 omega
section
variable {α β σ τ ρ : Type}
def Ret (x : Option α) (Q : α → Prop) : Prop := ∃ a,x = some a ∧ Q a
theorem Ret.mono {x : Option α} {Q R : α → Prop} (h : Ret x Q) (q : ∀ a,Q a → R a) : Ret x R := by
 obtain ⟨a,e,h⟩ := h
 exact ⟨a,e,q a h⟩
theorem yp {a : α} {Q : α → Prop} : Ret (some a) Q ↔ Q a := ⟨fun ⟨b,e,q⟩ => by cases e; exact q,fun q => ⟨a,rfl,q⟩⟩
theorem z3O {x : Option α} {f : α → Option β} {Q : β → Prop} : Ret (Option.bind x f) Q ↔ Ret x fun a => Ret (f a) Q := by
 cases x with
 | none => exact ⟨fun ⟨b,e,_⟩ => (by cases e),fun ⟨b,e,_⟩ => (by cases e)⟩
 | some a => exact ⟨fun h => ⟨a,rfl,h⟩,fun ⟨b,e,h⟩ => by cases e; exact h⟩
theorem z9Y {c : Bool} {x y : Option α} {Q : α → Prop} : Ret (bif c then x else y) Q ↔ (c = true → Ret x Q) ∧ (c = false → Ret y Q) := by
 cases c <;> simp
theorem z3f (l : List α) (i : Nat) : idx l (i : Int) = l[i]? := rfl
theorem gdT {p : Prop} [Decidable p] {x : Option α} (h : p) : gd p x = x := by unfold gd; rw [if_pos h]
theorem bdT {x : Option α} {u : α} {f : α → Option ρ} (h : x = some u) : Option.bind x f = f u := by rw [h]; rfl
theorem jQ (step : σ → Option (LR σ τ)) (n : Nat) (s : σ) : W0 step (n + 1) s = (match step s with | none => none | some (.next s') => W0 step n s' | some (.done t) => some t) := rfl
def LRP (N : σ → Prop) (D : τ → Prop) : LR σ τ → Prop
 | .next s => N s
 | .done t => D t
theorem kK {step : σ → Option (LR σ τ)} (I : σ → Prop) (m : σ → Nat) {R : τ → Prop} {s : σ} (hs : I s) (hm : m s < 18446744073709551616)
  (h : ∀ s,I s → Ret (step s) (LRP (fun s' => I s' ∧ m s' < m s) R)) : Ret (loop step s) R := by
 have gen : ∀ (n : Nat) (s : σ),I s → m s < n → Ret (W0 step n s) R := by
  intro n
  induction n with
  | zero => intro s _ h; omega
  | succ n ih =>
   intro s hs hm
   obtain ⟨a,e,q⟩ := h s hs
   rw [jQ,e]
   cases a with
   | next s' => exact ih s' q.1 (by have := q.2; omega)
   | done t => exact ⟨t,rfl,q⟩
 exact gen fuel s hs hm
theorem Xu {step : σ → Option (LR σ τ)} (st : Nat → σ) (n : Nat) {t : τ} (hn : n < 9223372036854775808) (h : ∀ i,i < n → step (st i) = some (.next (st (i + 1)))) (hd : step (st n) = some (.done t)) : loop step (st 0) = some t := by
 have gen : ∀ (k : Nat) (i : Nat),i ≤ n → n - i < k → W0 step k (st i) = some t := by
  intro k
  induction k with
  | zero => intro i _ h; omega
  | succ k ih =>
   intro i hi hk
   rw [jQ]
   rcases Nat.lt_or_ge i n with q | q
   ·rw [h i q]
    exact ih (i + 1) q (by omega)
   ·have : i = n := by omega
    subst this
    rw [hd]
 exact gen fuel 0 (Nat.zero_le _) (by show n - 0 < 18446744073709551616; omega)
def Zq (f : Nat → α → Option ρ) : List α → Nat → Option ρ
 | [],_ => none
 | x :: l,i => match f i x with | some r => some r | none => Zq f l (i + 1)
theorem Ks {f : Nat → α → Option ρ} : ∀ {l : List α} {k : Nat},(∀ i x,l[i]? = some x → f (k + i) x = none) → Zq f l k = none
 | [],_,_ => rfl
 | x :: l,k,h => by
  have h0 := h 0 x rfl
  simp only [Nat.add_zero] at h0
  simp only [Zq,h0]
  exact Ks fun i y hy => by have := h (i + 1) y (by simpa using hy); rwa [show k + 1 + i = k + (i + 1) by omega]
theorem XA {f : Nat → α → Option ρ} {r : ρ} : ∀ {l : List α} {k : Nat},Zq f l k = some r → ∃ i x,l[i]? = some x ∧ f (k + i) x = some r
 | [],_,h => by cases h
 | x :: l,k,h => by
  simp only [Zq] at h
  cases hf : f k x with
  | some r' => rw [hf] at h; exact ⟨0,x,rfl,by rw [Nat.add_zero,hf]; exact h⟩
  | none =>
   rw [hf] at h
   obtain ⟨i,y,h1,h2⟩ := XA h
   exact ⟨i + 1,y,by simpa using h1,by rw [← h2]; congr 1; omega⟩
theorem XB {f : Nat → α → Option ρ} {l : List α} {k : Nat} (h : Zq f l k = none) : ∀ i x,l[i]? = some x → f (k + i) x = none := by
 induction l generalizing k with
 | nil => intro i x h; simp at h
 | cons y l ih =>
  intro i x hx
  simp only [Zq] at h
  cases hf : f k y with
  | some r' => rw [hf] at h; cases h
  | none =>
   rw [hf] at h
   cases i with
   | zero => simp at hx; subst hx; simpa using hf
   | succ i => have := ih h i x (by simpa using hx); rwa [show k + (i + 1) = k + 1 + i by omega]
def oS : Option ρ → Unit ⊕ ρ
 | some r => .inr r
 | none => .inl ()
def nS (i : Nat) : Option ρ → LR Int (Unit ⊕ ρ)
 | some r => .done (.inr r)
 | none => .next (w64 ((i : Int) + 1))
theorem X7 (l : List α) (hl : l.length < 4611686018427387904) {step : Int → Option (LR Int (Unit ⊕ ρ))} (f : Nat → α → Option ρ)
  (h : ∀ (i : Nat) (x : α),l[i]? = some x → step (i : Int) = some (nS i (f i x))) (h2 : step (l.length : Int) = some (.done (.inl ()))) :
  loop step 0 = some (oS (Zq f l 0)) := by
 have gen : ∀ (n : Nat) (k : Nat),k ≤ l.length → l.length - k < n → W0 step n (k : Int) = some (oS (Zq f (l.drop k) k)) := by
  intro n
  induction n with
  | zero => intro k _ h; omega
  | succ n ih =>
   intro k hk hn
   rw [jQ]
   rcases Nat.lt_or_ge k l.length with hlt | hge
   ·have hx : l[k]? = some l[k] := List.getElem?_eq_getElem hlt
    rw [h k _ hx,List.drop_eq_getElem_cons hlt]
    simp only [Zq]
    cases hf : f k l[k] with
    | some r => rfl
    | none =>
     simp only [nS]
     rw [wj (by omega) (by omega)]
     exact ih (k + 1) hlt (by omega)
   ·have : k = l.length := by omega
    subst this
    rw [h2,List.drop_length]
    rfl
 exact gen fuel 0 (Nat.zero_le _) (by show l.length - 0 < 18446744073709551616; omega)
end
theorem yf {α : Type} {l : List α} {i : Nat} {x : α} (h : l[i]? = some x) : idx l (i : Int) = some x := h
theorem y6 {α : Type} {l : List α} {i : Nat} {x : α} (h : l[i]? = some x) : i < l.length := (List.getElem?_eq_some_iff.1 h).1
section
variable {α β σ τ ρ : Type}
def nxt (f : σ → Option (LR τ ρ)) : LR σ ρ → Option (LR τ ρ)
 | .next s => f s
 | .done r => some (.done r)
def Uj (g : Nat → α → σ → Option (LR σ ρ)) : List α → Nat → σ → Option (LR σ ρ)
 | [],_,s => some (.next s)
 | x :: l,k,s => Option.bind (g k x s) (nxt (Uj g l (k + 1)))
def zg9 (k : Nat) (fin : LR σ ρ → τ) : LR σ ρ → LR (σ × Int) τ
 | .next s => .next (s,w64 ((k : Int) + 1))
 | .done r => .done (fin (.done r))
theorem X8 (l : List α) (hl : l.length < 4611686018427387904) {step : σ × Int → Option (LR (σ × Int) τ)} (g : Nat → α → σ → Option (LR σ ρ)) (fin : LR σ ρ → τ) (s : σ)
  (h : ∀ (i : Nat) (x : α) (s : σ),l[i]? = some x → step (s,(i : Int)) = (g i x s).map (zg9 i fin)) (h2 : ∀ s,step (s,(l.length : Int)) = some (.done (fin (.next s)))) :
  loop step (s,0) = (Uj g l 0 s).map fin := by
 have gen : ∀ (n : Nat) (k : Nat) (s : σ),k ≤ l.length → l.length - k < n → W0 step n (s,(k : Int)) = (Uj g (l.drop k) k s).map fin := by
  intro n
  induction n with
  | zero => intro k s _ h; omega
  | succ n ih =>
   intro k s hk hn
   rw [jQ]
   rcases Nat.lt_or_ge k l.length with hlt | hge
   ·have hx : l[k]? = some l[k] := List.getElem?_eq_getElem hlt
    rw [h k _ s hx,List.drop_eq_getElem_cons hlt]
    simp only [Uj]
    cases hg : g k l[k] s with
    | none => rfl
    | some r =>
     cases r with
     | done r => rfl
     | next s' =>
      simp only [Option.map_some,zg9,oB,nxt]
      rw [wj (by omega) (by omega)]
      exact ih (k + 1) s' hlt (by omega)
   ·have : k = l.length := by omega
    subst this
    rw [h2,List.drop_length]
    rfl
 exact gen fuel 0 s (Nat.zero_le _) (by show l.length - 0 < 18446744073709551616; omega)
def uW (yy : σ → α → Option (σ × Bool)) : List α → σ → Option (LR σ σ)
 | [],s => some (.next s)
 | x :: l,s => Option.bind (yy s x) fun r => bif r.2 then uW yy l r.1 else some (.done r.1)
theorem QQ (yy : σ → α → Option (σ × Bool)) (l m : List α) (s : σ) : uW yy (l ++ m) s = Option.bind (uW yy l s) (nxt (uW yy m)) := by
 induction l generalizing s with
 | nil => rfl
 | cons x l ih =>
  simp only [List.cons_append,uW]
  cases yy s x with
  | none => rfl
  | some r =>
   simp only [oB]
   cases r.2 with
   | true => exact ih r.1
   | false => rfl
def vK (f : Nat → α → List β) : List α → Nat → List β
 | [],_ => []
 | x :: l,k => f k x ++ vK f l (k + 1)
theorem kW {f : Nat → α → List β} {y : β} : ∀ {l : List α} {k : Nat},y ∈ vK f l k ↔ ∃ i x,l[i]? = some x ∧ y ∈ f (k + i) x
 | [],k => by simp [vK]
 | x :: l,k => by
  rw [vK,List.mem_append,kW (l := l)]
  constructor
  ·rintro (h | ⟨i,z,h1,h2⟩)
   ·exact ⟨0,x,rfl,h⟩
   ·exact ⟨i + 1,z,by simpa using h1,by rwa [show k + (i + 1) = k + 1 + i by omega]⟩
  ·rintro ⟨i,z,h1,h2⟩
   cases i with
   | zero => simp at h1; subst h1; exact .inl h2
   | succ i => exact .inr ⟨i,z,by simpa using h1,by rwa [show k + 1 + i = k + (i + 1) by omega]⟩
theorem ZY {f : Nat → α → List β} {b : Nat} : ∀ {l : List α} {k : Nat},(∀ i x,l[i]? = some x → (f (k + i) x).length ≤ b) → (vK f l k).length ≤ l.length * b
 | [],k,_ => by simp [vK]
 | x :: l,k,h => by
  rw [vK,List.length_append,List.length_cons,Nat.succ_mul]
  have h1 := h 0 x rfl
  have h2 := ZY (f := f) (l := l) (k := k + 1) (b := b) fun i z hz => by
   have := h (i + 1) z (by simpa using hz)
   rwa [show k + 1 + i = k + (i + 1) by omega]
  simp only [Nat.add_zero] at h1
  omega
theorem WP (yy : σ → β → Option (σ × Bool)) (f : Nat → α → List β) {g : Nat → α → σ → Option (LR σ σ)} :
  ∀ {l : List α} {k : Nat} {s : σ},(∀ i x s,l[i]? = some x → g (k + i) x s = uW yy (f (k + i) x) s) → Uj g l k s = uW yy (vK f l k) s
 | [],k,s,_ => rfl
 | x :: l,k,s,h => by
  rw [vK,QQ,Uj]
  have h0 := h 0 x s rfl
  rw [Nat.add_zero] at h0
  rw [h0]
  congr 1
  funext r
  cases r with
  | done r => rfl
  | next s' =>
   exact WP yy f fun i z s hz => by
    have := h (i + 1) z s (by simpa using hz)
    rwa [show k + (i + 1) = k + 1 + i by omega] at this
theorem z2r (yy : σ → β → Option (σ × Bool)) (f : α → List β) {step : σ → α → Option (LR σ σ)} :
  ∀ {l : List α} {s : σ},(∀ x ∈ l,∀ s,step s x = uW yy (f x) s) → uW (yOf step) l (.next s) = (uW yy (l.flatMap f) s).map (fun r => match r with | .next s => .next (.next s) | .done s => .done (.done s))
 | [],s,_ => rfl
 | x :: l,s,h => by
  rw [List.flatMap_cons,QQ,uW,yOf,h x List.mem_cons_self s]
  cases uW yy (f x) s with
  | none => rfl
  | some r =>
   cases r with
   | done r => rfl
   | next s' => exact z2r yy f fun z hz => h z (List.mem_cons_of_mem _ hz)
end
def InR (n many : Int) : Prop := 0 ≤ n ∧ n < many
instance (n many : Int) : Decidable (InR n many) := by unfold InR; infer_instance
structure zcz (x : z8) (st : Int) (a : zf) : Prop where
 fr : InR a.From st
 to : InR a.To st
 kind : 0 ≤ a.Kind ∧ a.Kind ≤ 2
 inner : a.Kind = 0 → a.Channel = 0 ∧ InR a.Message x.Labels
 other : a.Kind ≠ 0 → InR a.Channel x.Channels.length ∧ InR a.Message x.Messages
def Ris (l : List Int) (many : Int) : Prop := ∀ (i : Nat) (v : Int),l[i]? = some v → InR v many ∧ (0 < i → ∃ u,l[i - 1]? = some u ∧ u < v)
structure zeV (x : z8) (p : zh) : Prop where
 lo : 1 ≤ p.States
 hi : p.States ≤ 64
 arcs : p.Arcs.length ≤ 256
 ris : Ris p.Final p.States
 fin : p.Final.length ≤ 64
 arc : ∀ a ∈ p.Arcs,zcz x p.States a
structure z1i (x : z8) : Prop where
 msg : 0 ≤ x.Messages ∧ x.Messages ≤ 16
 lab : 0 ≤ x.Labels ∧ x.Labels ≤ 16
 chl : x.Channels.length ≤ 4
 ch : ∀ n ∈ x.Channels,0 ≤ n ∧ n ≤ 4
 pl : 1 ≤ x.Parts.length ∧ x.Parts.length ≤ 4
 part : ∀ p ∈ x.Parts,zeV x p
structure zcy (x : z8) (c : z7) : Prop where
 sl : c.States.length = x.Parts.length
 ql : c.Queues.length = x.Channels.length
 st : ∀ (i : Nat) (p : zh) (v : Int),x.Parts[i]? = some p → c.States[i]? = some v → InR v p.States
 qu : ∀ (i : Nat) (q : List Int) (n : Int),c.Queues[i]? = some q → x.Channels[i]? = some n → (q.length : Int) ≤ n ∧ ∀ m ∈ q,InR m x.Messages
theorem Zw {α ρ : Type} (l : List α) (hl : l.length < 4611686018427387904) {step : Int → Option (LR Int (Unit ⊕ ρ))} (h : ∀ (i : Nat) (x : α),l[i]? = some x → step (i : Int) = some (.next (w64 ((i : Int) + 1)))) (h2 : step (l.length : Int) = some (.done (.inl ()))) :
  loop step 0 = some (.inl ()) := by
 rw [X7 l hl (fun _ _ => (none : Option ρ)) (fun i x hx => h i x hx) h2,Ks (fun _ _ _ => rfl)]
 rfl
theorem z86 {α : Type} {l : List α} (hl : l.length < 4611686018427387904) (p : α → Bool) {step : Int → Option (LR Int (Unit ⊕ Int))} {F : Unit ⊕ Int → Option Int} (hF1 : F (.inl ()) = some (-1)) (hF2 : ∀ n,F (.inr n) = some n)
  (h : ∀ (i : Nat) (x : α),l[i]? = some x → step (i : Int) = some (bif p x then .done (.inr (i : Int)) else .next (w64 ((i : Int) + 1)))) (h2 : step (l.length : Int) = some (.done (.inl ()))) :
  Option.bind (Option.bind (loop step 0) F) (fun r => some (decide (r ≥ 0))) = some (l.any p) := by
 rw [X7 l hl (fun i x => bif p x then some (i : Int) else none) (fun i x hx => by rw [h i x hx]; cases p x <;> rfl) h2]
 cases hf : Zq (fun (i : Nat) x => bif p x then some (i : Int) else none) l 0 with
 | none =>
  have ha : l.any p = false := by
   rw [List.any_eq_false]
   intro x hx
   obtain ⟨i,hi⟩ := List.mem_iff_getElem?.1 hx
   have := XB hf i x hi
   cases hp : p x with
   | false => simp
   | true => rw [hp] at this; cases this
  rw [ha]
  show Option.bind (F (.inl ())) _ = _
  rw [hF1]; rfl
 | some r =>
  obtain ⟨i,x,h1,h3⟩ := XA hf
  have hp : p x = true := by
   cases hp : p x with
   | true => rfl
   | false => rw [hp] at h3; cases h3
  rw [hp] at h3
  cases h3
  have ha : l.any p = true := List.any_eq_true.2 ⟨x,List.mem_of_getElem? h1,hp⟩
  rw [ha]
  show Option.bind (F (.inr _)) _ = _
  rw [hF2]
  simp only [oB]
  rw [decide_eq_true (by omega)]
theorem zci (l : List Int) (hl : l.length < 4611686018427387904) : yT l () = some (l.any fun n => decide (n > 4)) := by
 unfold yT xU
 refine z86 hl (fun n => decide (n > 4)) rfl (fun _ => rfl) (fun i x hx => ?_) ?_
 ·have hi := y6 hx
  unfold yR kc
  rw [decide_eq_true (by omega),cond_true,yf hx,oB,oB]
  cases decide (x > 4) <;> rfl
 ·unfold yR
  rw [decide_eq_false (by omega),cond_false]
theorem zeP (l : List zh) (hl : l.length < 4611686018427387904) : zP l () = some (l.any fun p => decide (p.States > 64) || decide ((p.Arcs.length : Int) > 256)) := by
 unfold zP ym
 refine z86 hl (fun p => decide (p.States > 64) || decide ((p.Arcs.length : Int) > 256)) rfl (fun _ => rfl) (fun i x hx => ?_) ?_
 ·have hi := y6 hx
  unfold zO ka
  rw [decide_eq_true (by omega),cond_true,yf hx,oB]
  cases decide (x.States > 64) <;> cases decide ((x.Arcs.length : Int) > 256) <;> rfl
 ·unfold zO
  rw [decide_eq_false (by omega),cond_false]
theorem zch (l : List Int) (hl : l.length < 4611686018427387904) : yS l () = some (l.any fun n => decide (n < 0)) := by
 unfold yS xT
 refine z86 hl (fun n => decide (n < 0)) rfl (fun _ => rfl) (fun i x hx => ?_) ?_
 ·have hi := y6 hx
  unfold yQ kh
  rw [decide_eq_true (by omega),cond_true,yf hx,oB,oB]
  cases decide (x < 0) <;> rfl
 ·unfold yQ
  rw [decide_eq_false (by omega),cond_false]
theorem z3e (n m : Int) : uZ n m = some (decide (InR n m)) := by
 unfold uZ
 by_cases h : n ≥ 0
 ·rw [decide_eq_true h,cond_true]
  exact congrArg some (decide_eq_decide.2 ⟨fun q => ⟨h,q⟩,fun q => q.2⟩)
 ·rw [decide_eq_false h,cond_false]
  exact congrArg some (decide_eq_false (fun q : InR n m => h q.1)).symm
def QK (x : z8) (st : Int) (a : zf) : Bool :=
 decide (InR a.From st) && decide (InR a.To st) && decide (a.Kind ≤ 2) && bif a.Kind == 0 then (a.Channel == 0 && decide (InR a.Message x.Labels)) else (decide (InR a.Channel x.Channels.length) && decide (InR a.Message x.Messages))
theorem z7t (x : z8) (p : zh) (a : zf) : wR x p a = some (QK x p.States a) := by
 unfold wR QK
 rw [z3e,z3e,z3e,z3e,z3e]
 have hk : decide (a.Kind ≤ 2) = !decide (a.Kind > 2) := by
  by_cases h : a.Kind ≤ 2
  ·rw [decide_eq_true h,decide_eq_false (by omega)]; rfl
  ·rw [decide_eq_false h,decide_eq_true (by omega)]; rfl
 rw [hk]
 cases decide (InR a.From p.States) <;> cases decide (InR a.To p.States) <;> cases decide (a.Kind > 2) <;> cases (a.Kind == 0) <;> cases (a.Channel == 0) <;> cases decide (InR a.Channel x.Channels.length) <;> rfl
theorem z4t {x : z8} {st : Int} {a : zf} (h0 : 0 ≤ a.Kind) : QK x st a = true ↔ zcz x st a := by
 unfold QK
 constructor
 ·intro h
  simp only [Bool.and_eq_true,decide_eq_true_eq] at h
  obtain ⟨⟨⟨h1,h2⟩,h3⟩,h4⟩ := h
  refine ⟨h1,h2,⟨h0,h3⟩,fun q => ?_,fun q => ?_⟩
  ·rw [q] at h4; simpa using h4
  ·rw [beq_false_of_ne q,cond_false] at h4; simpa using h4
 ·intro h
  by_cases q : a.Kind = 0
  ·simp [h.fr,h.to,q,h.inner q]
  ·simp [h.fr,h.to,h.kind.2,q,h.other q]
theorem zeQ (x : z8) (p : zh) (l : List zf) (hl : l.length < 4611686018427387904) : zU l (x,p) = some (l.any fun a => !QK x p.States a) := by
 unfold zU yu
 refine z86 hl (fun a => !QK x p.States a) rfl (fun _ => rfl) (fun i a hx => ?_) ?_
 ·have hi := y6 hx
  unfold zT kg
  rw [decide_eq_true (by omega),cond_true,yf hx,oB,z7t,oB,oB]
  cases QK x p.States a <;> rfl
 ·unfold zT
  rw [decide_eq_false (by omega),cond_false]
theorem z58 {l : List Int} {many : Int} (hl : l.length ≤ 64) (h : Ris l many) : wV l many = some true := by
 unfold wV
 rw [bdT (Zw l (by omega) ?_ ?_)]
 ·rfl
 ·intro i v hv
  have hi := y6 hv
  obtain ⟨h1,h2⟩ := h i v hv
  unfold wp
  rw [decide_eq_true (by omega),cond_true,yf hv,oB,z3e,oB,decide_eq_true h1,Bool.not_true,cond_false]
  by_cases q : 0 < i
  ·obtain ⟨u,hu,hlt⟩ := h2 q
   rw [decide_eq_true (by omega),cond_true,wj (by omega) (by omega),show (i : Int) - 1 = ((i - 1 : Nat) : Int) by omega,yf hu,oB,decide_eq_false (by omega),cond_false]
   rfl
  ·rw [decide_eq_false (by omega),cond_false]
   rfl
 ·unfold wp
  rw [decide_eq_false (by omega),cond_false]
theorem z12 {x : z8} (h : z1i x) : ut x = some 0 := by
 have habove : ke x = some false := by
  unfold ke
  have h1 := h.chl; have h2 := h.pl.2
  rw [decide_eq_false (by have := h.msg.2; omega),cond_false,decide_eq_false (by have := h.lab.2; omega),cond_false,decide_eq_false (by omega),cond_false,decide_eq_false (by omega),cond_false,zci _ (by omega),zeP _ (by omega)]
  have e1 : (x.Channels.any fun n => decide (n > 4)) = false := List.any_eq_false.2 fun n hn => by have := h.ch n hn; simp; omega
  have e2 : (x.Parts.any fun p => decide (p.States > 64) || decide ((p.Arcs.length : Int) > 256)) = false := List.any_eq_false.2 fun p hp => by have q1 := (h.part p hp).hi; have q2 := (h.part p hp).arcs; simp; omega
  rw [e1,e2]
  rfl
 have e3 : (x.Channels.any fun n => decide (n < 0)) = false := List.any_eq_false.2 fun n hn => by have := h.ch n hn; simp; omega
 unfold ut
 rw [habove,oB,cond_false,decide_eq_false (by have := h.msg.1; omega),cond_false,decide_eq_false (by have := h.lab.1; omega),cond_false,decide_eq_false (by have := h.pl.1; omega),cond_false,zch _ (by have := h.chl; omega),e3,oB,cond_false]
 rw [bdT (Zw x.Parts (by have := h.pl.2; omega) ?_ ?_)]
 ·rfl
 ·intro i p hp
  have hi := y6 hp
  have hv := h.part p (List.mem_of_getElem? hp)
  have e4 : (p.Arcs.any fun a => !QK x p.States a) = false := List.any_eq_false.2 fun a ha => by
   have := (z4t (hv.arc a ha).kind.1).2 (hv.arc a ha)
   simp [this]
  unfold uP
  rw [decide_eq_true (by omega),cond_true,yf hp,oB,decide_eq_false (by have := hv.lo; omega),cond_false,z58 hv.fin hv.ris,oB,Bool.not_true,cond_false,zeQ _ _ _ (by have := hv.arcs; omega),e4,oB,cond_false]
 ·unfold uP
  rw [decide_eq_false (by omega),cond_false]
section
variable {α : Type}
theorem ya.ext_toL {a b : ya α} (h : a.toL = b.toL) : a = b := by
 cases a; cases b; simp only [ya.toL,List.cons.injEq,and_true] at h; simp only [ya.mk.injEq]; exact h
theorem ya.toL_setI (a : ya α) (i : Nat) (v : α) : (ya.setI a (i : Int) v).toL = a.toL.set i v := by
 unfold ya.setI
 rw [ya.toL_ofL _ _ (by rw [List.length_set]; rfl)]
 rfl
end
def z1V {α : Type} (z : α) (l : List α) : List α := l ++ List.replicate (4 - l.length) z
theorem z0U {α : Type} {z : α} {l : List α} (h : l.length ≤ 4) : (z1V z l).length = 4 := by
 rw [z1V,List.length_append,List.length_replicate]; omega
theorem z5m {α : Type} {z : α} {l : List α} {i : Nat} {v : α} (h : l[i]? = some v) : (z1V z l)[i]? = some v := by
 rw [z1V,List.getElem?_append_left (y6 h)]; exact h
theorem z3W {α : Type} {z : α} {l : List α} {i : Nat} {v : α} (h : i < l.length) : (z1V z l).set i v = z1V z (l.set i v) := by
 rw [z1V,z1V,List.set_append_left _ _ h,List.length_set]
theorem z1U {α : Type} {z : α} {l : List α} : (z1V z l).take l.length = l := by
 rw [z1V,List.take_left]
def pad (l : List Int) : ya Int := ya.ofL (z1V 0 l) ⟨0,0,0,0⟩
theorem Kg {l : List Int} (h : l.length ≤ 4) : (pad l).toL = z1V 0 l := ya.toL_ofL _ _ (z0U h)
def qOf (l : List Int) : zi := ⟨l.length,pad l⟩
def za4 (l : List (List Int)) : ya zi := ya.ofL (z1V (qOf []) (l.map qOf)) ⟨qOf [],qOf [],qOf [],qOf []⟩
theorem z0T {l : List (List Int)} (h : l.length ≤ 4) : (za4 l).toL = z1V (qOf []) (l.map qOf) := ya.toL_ofL _ _ (z0U (by simpa using h))
def yj (c : z7) : zb := ⟨pad c.States,za4 c.Queues⟩
theorem z0S {l : List Int} {i : Nat} {v : Int} (h : l.length ≤ 4) (hi : i < l.length) : ya.setI (pad l) (i : Int) v = pad (l.set i v) := by
 apply ya.ext_toL
 rw [ya.toL_setI,Kg h,Kg (by rw [List.length_set]; exact h),z3W hi]
theorem z7C {l : List (List Int)} {i : Nat} {v : List Int} (h : l.length ≤ 4) (hi : i < l.length) : ya.setI (za4 l) (i : Int) (qOf v) = za4 (l.set i v) := by
 apply ya.ext_toL
 rw [ya.toL_setI,z0T h,z0T (by rw [List.length_set]; exact h),z3W (by simpa using hi),List.map_set]
theorem z0f {l : List Int} {i : Nat} {v : Int} (h : l.length ≤ 4) (hi : l[i]? = some v) : idx (pad l).toL (i : Int) = some v := by
 rw [Kg h]; exact z5m hi
theorem z5l {l : List (List Int)} {i : Nat} {v : List Int} (h : l.length ≤ 4) (hi : l[i]? = some v) : idx (za4 l).toL (i : Int) = some (qOf v) := by
 rw [z0T h]; exact z5m (by rw [List.getElem?_map,hi]; rfl)
theorem zbH {l : List Int} (m : Int) (h : l.length < 4) : qU (qOf l) m = some (qOf (l ++ [m])) := by
 match l,h with
 | [],_ => rfl
 | [a],_ => rfl
 | [a,b],_ => rfl
 | [a,b,c],_ => rfl
theorem z72 {a : Int} {l : List Int} (h : l.length < 4) : qq (qOf (a :: l)) = some (qOf l) := by
 match l,h with
 | [],_ => rfl
 | [x],_ => rfl
 | [x,y],_ => rfl
 | [x,y,z],_ => rfl
theorem z4d {l : List Int} (h : l.length ≤ 4294967296) : wi l = some l := by
 unfold wi
 rw [gdT (by simpa using h)]
theorem z62 {l : List Int} : wt l = some l := by
 unfold wt
 rw [gdT (by omega)]
 simp
theorem z2y {x : z8} {c : z7} (hs : c.States.length = x.Parts.length) (hq : c.Queues.length = x.Channels.length) (h4 : x.Parts.length ≤ 4) (h5 : x.Channels.length ≤ 4) (hb : ∀ q ∈ c.Queues,q.length ≤ 4) :
  xQ x (yj c) = some c := by
 unfold xQ
 have e1 : [(yj c).states_.e0,(yj c).states_.e1,(yj c).states_.e2,(yj c).states_.e3] = z1V 0 c.States := Kg (by omega)
 rw [gdT (by simp; omega),e1,show (((x.Parts.length : Nat) : Int)).toNat = c.States.length by omega,z1U,z4d (by omega),oB,z62,oB,gdT (by omega)]
 have hl : loop (fun s => xr x (yj c) s.1 s.2) ((List.replicate ((x.Channels.length : Nat) : Int).toNat ([] : List Int)),0) = some c.Queues := by
  rw [show (((x.Channels.length : Nat) : Int)).toNat = c.Queues.length by omega]
  have e0 : List.replicate c.Queues.length ([] : List Int) = c.Queues.take 0 ++ List.replicate (c.Queues.length - 0) [] := by simp
  rw [e0]
  refine Xu (fun j => (c.Queues.take j ++ List.replicate (c.Queues.length - j) [],(j : Int))) c.Queues.length (by omega) (fun j hj => ?_) ?_
  ·have hv : c.Queues[j]? = some c.Queues[j] := List.getElem?_eq_getElem hj
   have hlen : (c.Queues.take j).length = j := by rw [List.length_take]; omega
   have hql := hb _ (List.mem_of_getElem? hv)
   have e2 : [(qOf c.Queues[j]).l_.e0,(qOf c.Queues[j]).l_.e1,(qOf c.Queues[j]).l_.e2,(qOf c.Queues[j]).l_.e3] = z1V 0 c.Queues[j] := Kg hql
   unfold xr
   dsimp only
   rw [decide_eq_true (by rw [List.length_replicate]; omega),cond_true]
   rw [show idx (yj c).queues_.toL (j : Int) = some (qOf c.Queues[j]) from z5l (by omega) hv,oB]
   rw [e2]
   rw [show (qOf c.Queues[j]).many_ = ((c.Queues[j].length : Nat) : Int) from rfl]
   rw [gdT (show (0 : Int) ≤ ((c.Queues[j].length : Nat) : Int) ∧ ((c.Queues[j].length : Nat) : Int) ≤ (((z1V 0 c.Queues[j]).length : Nat) : Int) by rw [z0U hql]; omega)]
   rw [Int.toNat_natCast,z1U,z4d (by omega),oB,z62,oB]
   have hi : idx (c.Queues.take j ++ List.replicate (c.Queues.length - j) ([] : List Int)) (j : Int) = some [] := by
    show (c.Queues.take j ++ List.replicate (c.Queues.length - j) ([] : List Int))[j]? = some []
    rw [List.getElem?_append_right (by omega),hlen,Nat.sub_self,List.getElem?_replicate,if_pos (by omega)]
   rw [hi,oB,wj (by omega) (by omega),Int.toNat_natCast]
   have : (c.Queues.take j ++ List.replicate (c.Queues.length - j) ([] : List Int)).set j c.Queues[j] = c.Queues.take (j + 1) ++ List.replicate (c.Queues.length - (j + 1)) [] := by
    rw [List.set_append_right _ _ (by omega),hlen,Nat.sub_self,show c.Queues.length - j = (c.Queues.length - (j + 1)) + 1 by omega,List.replicate_succ,List.set_cons_zero,List.take_add_one,hv,List.append_assoc]
    rfl
   rw [this]
   rfl
  ·unfold xr
   dsimp only
   rw [decide_eq_false (by rw [List.length_replicate]; omega),cond_false,List.take_length,Nat.sub_self]
   simp
 rw [bdT hl]
 rfl
def vE (l : List zf) (st : Int) : List (Int × zf) := vK (fun k a => if a.From = st then [((k : Int),a)] else []) l 0
theorem X6 {l : List zf} {st : Int} {e : Int × zf} : e ∈ vE l st ↔ ∃ k : Nat,e.1 = k ∧ l[k]? = some e.2 ∧ e.2.From = st := by
 unfold vE
 rw [kW]
 constructor
 ·rintro ⟨i,a,h1,h2⟩
  rw [Nat.zero_add] at h2
  split at h2
  ·rename_i h
   simp at h2
   subst h2
   exact ⟨i,rfl,h1,h⟩
  ·simp at h2
 ·rintro ⟨k,h1,h2,h3⟩
  refine ⟨k,e.2,h2,?_⟩
  rw [if_pos h3,Nat.zero_add,← h1]
  simp
def stv (c : z7) (o : Nat) : Int := (c.States[o]?).getD 0
def two (c : z7) (p : Nat) (i : Int) (a : zf) (o : Nat) (kb : Int × zf) : List (ze × z7) :=
 if kb.2.Kind = 2 ∧ kb.2.Channel = a.Channel ∧ kb.2.Message = a.Message then [(⟨p,i,o,kb.1⟩,⟨(c.States.set p a.To).set o kb.2.To,c.Queues⟩)] else []
def Ug (x : z8) (c : z7) (p : Nat) (i : Int) (a : zf) : List (ze × z7) :=
 vK (fun o P => if o = p then [] else (vE P.Arcs (stv c o)).flatMap (two c p i a o)) x.Parts 0
def quv (c : z7) (a : zf) : List Int := (c.Queues[a.Channel.toNat]?).getD []
def rmv (x : z8) (a : zf) : Int := (x.Channels[a.Channel.toNat]?).getD 0
def one (x : z8) (c : z7) (p : Nat) (e : Int × zf) : List (ze × z7) :=
 if e.2.Kind = 0 then [(⟨p,e.1,-1,-1⟩,⟨c.States.set p e.2.To,c.Queues⟩)]
 else if rmv x e.2 = 0 then (if e.2.Kind = 1 then Ug x c p e.1 e.2 else [])
 else if e.2.Kind = 1 then (if ((quv c e.2).length : Int) < rmv x e.2 then [(⟨p,e.1,-1,-1⟩,⟨c.States.set p e.2.To,c.Queues.set e.2.Channel.toNat (quv c e.2 ++ [e.2.Message])⟩)] else [])
 else (if (quv c e.2).head? = some e.2.Message then [(⟨p,e.1,-1,-1⟩,⟨c.States.set p e.2.To,c.Queues.set e.2.Channel.toNat (quv c e.2).tail⟩)] else [])
def mvs (x : z8) (c : z7) : List (ze × z7) :=
 vK (fun p P => (vE P.Arcs (stv c p)).flatMap (one x c p)) x.Parts 0
section
variable {σ : Type}
def z37 : LR σ σ → σ
 | .next s => s
 | .done s => s
def zbU : LR σ σ → σ ⊕ σ
 | .next s => .inl s
 | .done s => .inr s
def yeM (yy : σ → (ze × zb) → Option (σ × Bool)) (s : σ) (m : ze × z7) : Option (σ × Bool) := yy s (m.1,yj m.2)
theorem zaq {x : z8} {c : z7} {p : Nat} {P : zh} {st : Int} (h1 : x.Parts[p]? = some P) (h2 : c.States[p]? = some st) (h3 : P.Arcs.length ≤ 256) (h4 : c.States.length ≤ 4)
  (yy : σ → (Int × zf) → Option (σ × Bool)) (sg : σ) : yx x (p : Int) (yj c) yy sg = (uW yy (vE P.Arcs st) sg).map z37 := by
 unfold yx
 rw [yf h1,oB]
 have hc : idx (yj c).states_.toL (p : Int) = some st := z0f h4 h2
 rw [X8 P.Arcs (by omega) (g := fun k a s => if a.From = st then Option.bind (yy s ((k : Int),a)) (fun r => some (bif r.2 then .next r.1 else .done r.1)) else some (.next s)) z37 sg ?_ ?_]
 ·rw [WP yy (fun k a => if a.From = st then [((k : Int),a)] else [])]
  ·unfold vE
   cases (uW yy (vK (fun k a => if a.From = st then [((k : Int),a)] else []) P.Arcs 0) sg) <;> rfl
  ·intro i a s ha
   rw [Nat.zero_add]
   split
   ·simp only [uW]
    cases yy s ((i : Int),a) with
    | none => rfl
    | some r => obtain ⟨r1,r2⟩ := r; cases r2 <;> rfl
   ·rfl
 ·intro i a s ha
  have hi := y6 ha
  unfold xP
  dsimp only
  rw [decide_eq_true (by omega),cond_true,yf ha,oB,hc,oB]
  by_cases q : a.From = st
  ·rw [q,beq_self_eq_true,cond_true,if_pos rfl]
   cases yy s ((i : Int),a) with
   | none => rfl
   | some r => obtain ⟨r1,r2⟩ := r; cases r2 <;> rfl
  ·rw [beq_false_of_ne q,cond_false,if_neg q]
   rfl
 ·intro s
  unfold xP
  dsimp only
  rw [decide_eq_false (by omega),cond_false]
  rfl
theorem z48 {α : Type} {x : z8} {c : z7} {p : Nat} {P : zh} {st : Int} (h1 : x.Parts[p]? = some P) (h2 : c.States[p]? = some st) (h3 : P.Arcs.length ≤ 256) (h4 : c.States.length ≤ 4)
  (yy : σ → α → Option (σ × Bool)) (f : Int × zf → List α) {step : σ → Int × zf → Option (LR σ σ)} (sg : σ) (h : ∀ e ∈ vE P.Arcs st,∀ s,step s e = uW yy (f e) s) :
  yx x (p : Int) (yj c) (yOf step) (.next sg) = uW yy ((vE P.Arcs st).flatMap f) sg := by
 rw [zaq h1 h2 h3 h4,z2r yy f h]
 cases uW yy ((vE P.Arcs st).flatMap f) sg with
 | none => rfl
 | some r => cases r <;> rfl
theorem zeD {c : z7} (yy : σ → (ze × zb) → Option (σ × Bool)) {p o : Nat} (i k : Int) (a b : zf) (h4 : c.States.length ≤ 4) (hp : p < c.States.length) (ho : o < c.States.length) (sg : σ) :
  xk (yj c) yy (p : Int) i a (o : Int) sg k b = uW (yeM yy) (two c p i a o (k,b)) sg := by
 unfold xk two
 by_cases q1 : b.Kind = 2
 ·rw [q1,bne_self_eq_false,cond_false]
  by_cases q2 : b.Channel = a.Channel
  ·rw [q2,bne_self_eq_false,cond_false]
   by_cases q3 : b.Message = a.Message
   ·rw [q3,bne_self_eq_false,cond_false,if_pos ⟨rfl,rfl,rfl⟩]
    have e1 : idx (yj c).states_.toL (p : Int) = some c.States[p] := z0f h4 (List.getElem?_eq_getElem hp)
    have e2 : ya.setI (yj c).states_ (p : Int) a.To = pad (c.States.set p a.To) := z0S h4 hp
    have e3 : idx (pad (c.States.set p a.To)).toL (o : Int) = some ((c.States.set p a.To)[o]'(by rw [List.length_set]; exact ho)) := z0f (by rw [List.length_set]; exact h4) (List.getElem?_eq_getElem _)
    have e4 : ya.setI (pad (c.States.set p a.To)) (o : Int) b.To = pad ((c.States.set p a.To).set o b.To) := z0S (by rw [List.length_set]; exact h4) (by rw [List.length_set]; exact ho)
    rw [e1,oB,oB,e2,e3,oB,oB,e4]
    simp only [uW,yeM]
    show Option.bind (yy sg (_,yj ⟨(c.States.set p a.To).set o b.To,c.Queues⟩)) _ = _
    cases yy sg (⟨(p : Int),i,(o : Int),k⟩,yj ⟨(c.States.set p a.To).set o b.To,c.Queues⟩) with
    | none => rfl
    | some r => obtain ⟨r1,r2⟩ := r; cases r2 <;> rfl
   ·rw [if_neg (fun q => q3 q.2.2),bne_iff_ne.2 q3 |> fun h => (h : (b.Message != a.Message) = true),cond_true]
    rfl
  ·rw [if_neg (fun q => q2 q.2.1),bne_iff_ne.2 q2 |> fun h => (h : (b.Channel != a.Channel) = true),cond_true]
   rfl
 ·rw [if_neg (fun q => q1 q.1),bne_iff_ne.2 q1 |> fun h => (h : (b.Kind != 2) = true),cond_true]
  rfl
structure MOk (x : z8) (c : z7) : Prop where
 sys : z1i x
 cfg : zcy x c
theorem MOk.s4 {x : z8} {c : z7} (h : MOk x c) : c.States.length ≤ 4 := by have := h.cfg.sl; have := h.sys.pl; omega
theorem MOk.q4 {x : z8} {c : z7} (h : MOk x c) : c.Queues.length ≤ 4 := by have := h.cfg.ql; have := h.sys.chl; omega
theorem MOk.qb {x : z8} {c : z7} (h : MOk x c) : ∀ q ∈ c.Queues,q.length ≤ 4 := by
 intro q hq
 obtain ⟨i,hi⟩ := List.mem_iff_getElem?.1 hq
 have e0 := h.cfg.ql
 have e1 := y6 hi
 have hn : x.Channels[i]? = some (x.Channels[i]'(by omega)) := List.getElem?_eq_getElem _
 have h1 := (h.cfg.qu i q _ hi hn).1
 have h2 := h.sys.ch _ (List.mem_of_getElem? hn)
 omega
theorem MOk.stat {x : z8} {c : z7} (h : MOk x c) {p : Nat} {P : zh} (hp : x.Parts[p]? = some P) : p < c.States.length ∧ c.States[p]? = some (stv c p) := by
 have hl : p < c.States.length := by have := y6 hp; have := h.cfg.sl; omega
 refine ⟨hl,?_⟩
 unfold stv
 rw [List.getElem?_eq_getElem hl]
 rfl
theorem zeA {x : z8} {c : z7} (h : MOk x c) (yy : σ → (ze × zb) → Option (σ × Bool)) {p : Nat} (i : Int) (a : zf) (hp : p < x.Parts.length) (sg : σ) :
  loop (fun s => xj x (yj c) yy (p : Int) i a s.1 s.2) (sg,0) = (uW (yeM yy) (Ug x c p i a) sg).map zbU := by
 have hpl := h.sys.pl
 rw [X8 x.Parts (by omega) (g := fun o P s => uW (yeM yy) (if o = p then [] else (vE P.Arcs (stv c o)).flatMap (two c p i a o)) s) zbU sg ?_ ?_]
 ·rw [WP (yeM yy) (fun o P => if o = p then [] else (vE P.Arcs (stv c o)).flatMap (two c p i a o)) (fun _ _ _ _ => by rw [Nat.zero_add])]
  rfl
 ·intro o P s hP
  have ho := y6 hP
  unfold xj
  dsimp only
  rw [decide_eq_true (by omega),cond_true]
  by_cases q : o = p
  ·subst q
   rw [beq_self_eq_true,cond_true,if_pos rfl]
   rfl
  ·rw [beq_false_of_ne (by omega),cond_false,if_neg q]
   unfold wq
   rw [oB]
   dsimp only
   obtain ⟨h1,h2⟩ := h.stat hP
   rw [z48 hP h2 (h.sys.part P (List.mem_of_getElem? hP)).arcs h.s4 (yeM yy) (two c p i a o) s (fun e _ s' => zeD yy i e.1 a e.2 h.s4 (by have := h.cfg.sl; omega) h1 s')]
   cases uW (yeM yy) ((vE P.Arcs (stv c o)).flatMap (two c p i a o)) s with
   | none => rfl
   | some r => cases r <;> rfl
 ·intro s
  unfold xj
  dsimp only
  rw [decide_eq_false (by omega),cond_false]
  rfl
theorem z4p {x : z8} {c : z7} (h : MOk x c) {p : Nat} (hp : p < c.States.length) {a : zf} (hk : a.Kind = 0) (hc : a.Channel = 0) :
  xN x (yj c) (p : Int) a = some (yj ⟨c.States.set p a.To,c.Queues⟩,false) := by
 unfold xN
 have e1 : idx (yj c).states_.toL (p : Int) = some c.States[p] := z0f h.s4 (List.getElem?_eq_getElem hp)
 have e2 : ya.setI (yj c).states_ (p : Int) a.To = pad (c.States.set p a.To) := z0S h.s4 hp
 rw [e1,oB,oB,e2,hc,show idx (ya.toL (yj c).queues_) (mn 0 3) = some (yj c).queues_.e0 from rfl,oB,hk,beq_self_eq_true,cond_true]
 rfl
theorem MOk.chan {x : z8} {c : z7} (h : MOk x c) {st : Int} {a : zf} (ha : zcz x st a) (hk : a.Kind ≠ 0) : ∃ n : Nat,a.Channel = (n : Int) ∧ n < 4 ∧ c.Queues[n]? = some (quv c a) ∧ x.Channels[n]? = some (rmv x a) ∧ ((quv c a).length : Int) ≤ rmv x a ∧ rmv x a ≤ 4 := by
 have hr := (ha.other hk).1
 have hql := h.cfg.ql
 have hcl := h.sys.chl
 obtain ⟨r1,r2⟩ := hr
 have e1 : c.Queues[a.Channel.toNat]? = some (quv c a) := by
  unfold quv
  rw [List.getElem?_eq_getElem (by omega)]
  rfl
 have e2 : x.Channels[a.Channel.toNat]? = some (rmv x a) := by
  unfold rmv
  rw [List.getElem?_eq_getElem (by omega)]
  rfl
 refine ⟨a.Channel.toNat,by omega,by omega,e1,e2,(h.cfg.qu _ _ _ e1 e2).1,(h.sys.ch _ (List.mem_of_getElem? e2)).2⟩
theorem z4o {x : z8} {c : z7} (h : MOk x c) {p : Nat} (hp : p < c.States.length) {st : Int} {a : zf} (ha : zcz x st a) (hk : a.Kind ≠ 0) :
  xN x (yj c) (p : Int) a = (if rmv x a = 0 then some (⟨pad (c.States.set p a.To),(yj c).queues_⟩,true)
   else if a.Kind = 1 then (if ((quv c a).length : Int) < rmv x a then some (yj ⟨c.States.set p a.To,c.Queues.set a.Channel.toNat (quv c a ++ [a.Message])⟩,false) else some (⟨pad (c.States.set p a.To),(yj c).queues_⟩,true))
   else (if (quv c a).head? = some a.Message then some (yj ⟨c.States.set p a.To,c.Queues.set a.Channel.toNat (quv c a).tail⟩,false) else some (⟨pad (c.States.set p a.To),(yj c).queues_⟩,true))) := by
 obtain ⟨n,hn,hn4,e1,e2,hle,h4⟩ := h.chan ha hk
 unfold xN
 have e3 : idx (yj c).states_.toL (p : Int) = some c.States[p] := z0f h.s4 (List.getElem?_eq_getElem hp)
 have e4 : ya.setI (yj c).states_ (p : Int) a.To = pad (c.States.set p a.To) := z0S h.s4 hp
 have e5 : idx (ya.toL (yj c).queues_) (n : Int) = some (qOf (quv c a)) := z5l h.q4 e1
 have e6 : mn (n : Int) 3 = n := by unfold mn; rw [if_neg (by omega)]
 have hset : ∀ q : List Int,ya.setI (yj c).queues_ (n : Int) (qOf q) = za4 (c.Queues.set n q) := fun q => z7C h.q4 (y6 e1)
 rw [e3,oB,oB,e4,hn,e6,e5,oB,beq_false_of_ne hk,cond_false,yf e2,oB,Int.toNat_natCast]
 by_cases q0 : rmv x a = 0
 ·rw [q0,beq_self_eq_true,cond_true,if_pos rfl]
  rfl
 ·rw [beq_false_of_ne q0,cond_false,if_neg q0]
  by_cases q1 : a.Kind = 1
  ·rw [q1,beq_self_eq_true,cond_true,if_pos rfl,oB,show ((1 : Int) == 2) = false from rfl,cond_false]
   by_cases q2 : ((quv c a).length : Int) < rmv x a
   ·rw [if_pos q2,beq_false_of_ne (show (qOf (quv c a)).many_ ≠ rmv x a from by show ((quv c a).length : Int) ≠ _; omega),cond_false]
    unfold zR
    rw [cond_false,q1,beq_self_eq_true,cond_true,zbH _ (by omega),oB,hn,e5,oB,oB,hset]
    rfl
   ·rw [if_neg q2,show ((qOf (quv c a)).many_ == rmv x a) = true from beq_iff_eq.2 (by show ((quv c a).length : Int) = _; omega),cond_true]
    rfl
  ·have q2 : a.Kind = 2 := by have := ha.kind; omega
   rw [beq_false_of_ne q1,cond_false,if_neg q1,q2,beq_self_eq_true,cond_true]
   cases hq : quv c a with
   | nil => rfl
   | cons m l =>
    rw [hq] at hle e5
    simp only [List.length_cons] at hle
    rw [show ((qOf (m :: l)).many_ == 0) = false from beq_false_of_ne (by show (((m :: l).length : Nat) : Int) ≠ 0; simp; omega),cond_false]
    have e7 : (qOf (m :: l)).l_.e0 = m := by
     have := z0f (l := m :: l) (i := 0) (v := m) (by simp; omega) rfl
     exact Option.some.inj this
    rw [e7]
    unfold zR
    by_cases q3 : m = a.Message
    ·rw [q3,bne_self_eq_false,cond_false,q2,show ((2 : Int) == 1) = false from rfl,cond_false,if_pos (show (a.Message :: l).head? = some a.Message from rfl)]
     rw [q3] at e5
     rw [z72 (by omega),oB,hn,e5,oB,oB,hset]
     rfl
    ·rw [show (m != a.Message) = true from bne_iff_ne.2 q3,cond_true,if_neg (show ¬(m :: l).head? = some a.Message from fun q => q3 (Option.some.inj q))]
theorem zeF {x : z8} {c : z7} (h : MOk x c) (yy : σ → (ze × zb) → Option (σ × Bool)) {p : Nat} (hp : p < x.Parts.length) (i : Int) {a : zf} {st : Int} (ha : zcz x st a) (sg : σ) :
  xl x (yj c) yy (p : Int) sg i a = uW (yeM yy) (one x c p (i,a)) sg := by
 have hps : p < c.States.length := by have := h.cfg.sl; omega
 have key : ∀ (m : ze) (to : z7),(Option.bind (yy sg (m,yj to)) fun yr => bif !yr.2 then some (LR.done yr.1) else some (LR.next yr.1)) = uW (yeM yy) [(m,to)] sg := by
  intro m to
  simp only [uW,yeM]
  cases yy sg (m,yj to) with
  | none => rfl
  | some r => obtain ⟨r1,r2⟩ := r; cases r2 <;> rfl
 unfold xl one Kw
 by_cases q : a.Kind = 0
 ·rw [z4p h hps q (ha.inner q).1,oB,cond_true,oB,Bool.not_false,cond_true,if_pos q]
  exact key _ _
 ·rw [z4o h hps ha q,if_neg q]
  obtain ⟨n,hn,hn4,e1,e2,hle,h4⟩ := h.chan ha q
  have er : idx x.Channels a.Channel = some (rmv x a) := by rw [hn]; exact yf e2
  by_cases q0 : rmv x a = 0
  ·rw [if_pos q0,if_pos q0,oB,cond_true,oB,Bool.not_true,cond_false]
   by_cases q1 : a.Kind = 1
   ·rw [q1,bne_self_eq_false,cond_false,er,oB,decide_eq_false (by omega),cond_false,zeA h yy i a hp]
    show _ = uW (yeM yy) (Ug x c p i a) sg
    cases uW (yeM yy) (Ug x c p i a) sg with
    | none => rfl
    | some r => cases r <;> rfl
   ·rw [show (a.Kind != 1) = true from bne_iff_ne.2 q1,cond_true,if_neg q1]
    rfl
  ·rw [if_neg q0,if_neg q0]
   by_cases q1 : a.Kind = 1
   ·rw [if_pos q1,if_pos q1]
    by_cases q2 : ((quv c a).length : Int) < rmv x a
    ·rw [if_pos q2,if_pos q2,oB,cond_true,oB,Bool.not_false,cond_true]
     exact key _ _
    ·rw [if_neg q2,if_neg q2,oB,cond_true,oB,Bool.not_true,cond_false,q1,bne_self_eq_false,cond_false,er,oB,decide_eq_true (by have : (0 : Int) ≤ (quv c a).length := Int.natCast_nonneg _; omega),cond_true]
     rfl
   ·rw [if_neg q1,if_neg q1]
    by_cases q2 : (quv c a).head? = some a.Message
    ·rw [if_pos q2,if_pos q2,oB,cond_true,oB,Bool.not_false,cond_true]
     exact key _ _
    ·rw [if_neg q2,if_neg q2,oB,cond_true,oB,Bool.not_true,cond_false,show (a.Kind != 1) = true from bne_iff_ne.2 q1,cond_true]
     rfl
theorem z7D {x : z8} {c : z7} (h : MOk x c) (yy : σ → (ze × zb) → Option (σ × Bool)) (sg : σ) :
  xF x (yj c) yy sg = (uW (yeM yy) (mvs x c) sg).map z37 := by
 unfold xF
 have hpl := h.sys.pl
 rw [X8 x.Parts (by omega) (g := fun p P s => uW (yeM yy) ((vE P.Arcs (stv c p)).flatMap (one x c p)) s) z37 sg ?_ ?_]
 ·rw [WP (yeM yy) (fun p P => (vE P.Arcs (stv c p)).flatMap (one x c p)) (fun _ _ _ _ => by rw [Nat.zero_add])]
  show Option.bind (Option.map z37 (uW (yeM yy) (mvs x c) sg)) _ = _
  cases uW (yeM yy) (mvs x c) sg <;> rfl
 ·intro p P s hP
  have hp := y6 hP
  obtain ⟨h1,h2⟩ := h.stat hP
  have hv := h.sys.part P (List.mem_of_getElem? hP)
  unfold xG wq
  dsimp only
  rw [decide_eq_true (by omega),cond_true,oB]
  rw [z48 hP h2 hv.arcs h.s4 (yeM yy) (one x c p) s (fun e he s' => by
   obtain ⟨k,_,hk,_⟩ := X6.1 he
   exact zeF h yy hp e.1 (hv.arc e.2 (List.mem_of_getElem? hk)) s')]
  cases uW (yeM yy) ((vE P.Arcs (stv c p)).flatMap (one x c p)) s with
  | none => rfl
  | some r => cases r <;> rfl
 ·intro s
  unfold xG
  dsimp only
  rw [decide_eq_false (by omega),cond_false]
  rfl
end
def dst (c : z7) (p : Nat) (a : zf) : z7 :=
 if a.Kind = 0 then ⟨c.States.set p a.To,c.Queues⟩
 else if a.Kind = 1 then ⟨c.States.set p a.To,c.Queues.set a.Channel.toNat (quv c a ++ [a.Message])⟩
 else ⟨c.States.set p a.To,c.Queues.set a.Channel.toNat (quv c a).tail⟩
def can (x : z8) (c : z7) (a : zf) : Prop :=
 a.Kind = 0 ∨ rmv x a ≠ 0 ∧ (a.Kind = 1 ∧ ((quv c a).length : Int) < rmv x a ∨ a.Kind ≠ 0 ∧ a.Kind ≠ 1 ∧ (quv c a).head? = some a.Message)
def zgB (c : z7) (p : Nat) (a : zf) (o : Nat) (b : zf) : z7 := ⟨(c.States.set p a.To).set o b.To,c.Queues⟩
theorem z5y {x : z8} {c : z7} {p : Nat} {k : Int} {a : zf} {e : ze × z7} : e ∈ one x c p (k,a) ↔
  (e = (⟨p,k,-1,-1⟩,dst c p a) ∧ can x c a) ∨ (a.Kind = 1 ∧ rmv x a = 0 ∧ ∃ (o : Nat) (Po : zh) (kk : Nat) (b : zf),o ≠ p ∧ x.Parts[o]? = some Po ∧ Po.Arcs[kk]? = some b ∧ b.From = stv c o ∧ (b.Kind = 2 ∧ b.Channel = a.Channel ∧ b.Message = a.Message) ∧ e = (⟨p,k,o,kk⟩,zgB c p a o b)) := by
 have hh : e ∈ Ug x c p k a ↔ ∃ (o : Nat) (Po : zh) (kk : Nat) (b : zf),o ≠ p ∧ x.Parts[o]? = some Po ∧ Po.Arcs[kk]? = some b ∧ b.From = stv c o ∧ (b.Kind = 2 ∧ b.Channel = a.Channel ∧ b.Message = a.Message) ∧ e = (⟨p,k,o,kk⟩,zgB c p a o b) := by
  unfold Ug
  rw [kW]
  constructor
  ·rintro ⟨o,Po,h1,h2⟩
   rw [Nat.zero_add] at h2
   split at h2
   ·simp at h2
   ·rename_i ho
    obtain ⟨kb,h3,h4⟩ := List.mem_flatMap.1 h2
    obtain ⟨kk,h5,h6,h7⟩ := X6.1 h3
    unfold two at h4
    split at h4
    ·rename_i hq
     simp only [List.mem_singleton] at h4
     rw [h5] at h4
     exact ⟨o,Po,kk,kb.2,ho,h1,h6,h7,hq,h4⟩
    ·simp at h4
  ·rintro ⟨o,Po,kk,b,ho,h1,h6,h7,hq,rfl⟩
   refine ⟨o,Po,h1,?_⟩
   rw [Nat.zero_add,if_neg ho]
   refine List.mem_flatMap.2 ⟨((kk : Int),b),X6.2 ⟨kk,rfl,h6,h7⟩,?_⟩
   unfold two
   rw [if_pos hq]
   exact List.mem_singleton.2 rfl
 unfold one dst can
 dsimp only
 by_cases q0 : a.Kind = 0
 ·simp [q0]
 ·by_cases q1 : rmv x a = 0
  ·by_cases q2 : a.Kind = 1
   ·rw [if_neg q0,if_pos q1,if_pos q2,hh]
    simp [q1,q2]
   ·simp [q0,q1,q2]
  ·by_cases q2 : a.Kind = 1
   ·by_cases q3 : ((quv c a).length : Int) < rmv x a
    ·simp [q1,q2,q3]
    ·simp [q1,q2,q3]
   ·by_cases q3 : (quv c a).head? = some a.Message
    ·simp [q0,q1,q2,q3]
    ·simp [q0,q1,q2,q3]
theorem z5z {x : z8} {c : z7} {e : ze × z7} : e ∈ mvs x c ↔
  ∃ (p : Nat) (P : zh) (k : Nat) (a : zf),x.Parts[p]? = some P ∧ P.Arcs[k]? = some a ∧ a.From = stv c p ∧ e ∈ one x c p ((k : Int),a) := by
 unfold mvs
 rw [kW]
 constructor
 ·rintro ⟨p,P,h1,h2⟩
  rw [Nat.zero_add] at h2
  obtain ⟨e',h3,h4⟩ := List.mem_flatMap.1 h2
  obtain ⟨k,h5,h6,h7⟩ := X6.1 h3
  obtain ⟨k',a⟩ := e'
  simp only at h5 h6 h7
  subst h5
  exact ⟨p,P,k,a,h1,h6,h7,h4⟩
 ·rintro ⟨p,P,k,a,h1,h6,h7,h4⟩
  refine ⟨p,P,h1,?_⟩
  rw [Nat.zero_add]
  exact List.mem_flatMap.2 ⟨((k : Int),a),X6.2 ⟨k,rfl,h6,h7⟩,h4⟩
theorem z8y {x : z8} {c : z7} (hc : zcy x c) {p : Nat} {P : zh} {t : Int} (hP : x.Parts[p]? = some P) (ht : InR t P.States) : zcy x ⟨c.States.set p t,c.Queues⟩ := by
 refine ⟨by rw [List.length_set]; exact hc.sl,hc.ql,fun i q v h1 h2 => ?_,hc.qu⟩
 dsimp only at h2
 rw [List.getElem?_set] at h2
 split at h2
 ·rename_i hpi
  subst hpi
  split at h2
  ·cases h2
   rw [hP] at h1
   cases h1
   exact ht
  ·cases h2
 ·exact hc.st i q v h1 h2
theorem zfF {x : z8} {c : z7} (hc : zcy x c) {n : Nat} {q : List Int} (hq : ∀ r,x.Channels[n]? = some r → (q.length : Int) ≤ r ∧ ∀ m ∈ q,InR m x.Messages) : zcy x ⟨c.States,c.Queues.set n q⟩ := by
 refine ⟨hc.sl,by rw [List.length_set]; exact hc.ql,hc.st,fun i q' r h1 h2 => ?_⟩
 dsimp only at h1
 rw [List.getElem?_set] at h1
 split at h1
 ·rename_i hpi
  subst hpi
  split at h1
  ·cases h1
   exact hq r h2
  ·cases h1
 ·exact hc.qu i q' r h1 h2
theorem z3Y {x : z8} {c : z7} (h : MOk x c) {e : ze × z7} (he : e ∈ mvs x c) : MOk x e.2 := by
 refine ⟨h.sys,?_⟩
 obtain ⟨p,P,k,a,h1,h2,h3,h4⟩ := z5z.1 he
 have hv := (h.sys.part P (List.mem_of_getElem? h1)).arc a (List.mem_of_getElem? h2)
 have hs := z8y h.cfg h1 hv.to
 rcases z5y.1 h4 with ⟨rfl,hc⟩ | ⟨_,_,o,Po,kk,b,_,h5,h6,_,_,rfl⟩
 ·unfold dst
  dsimp only
  split
  ·exact hs
  ·rename_i q0
   obtain ⟨n,hn,_,e1,e2,hle,_⟩ := h.chan hv q0
   have hqm : ∀ m ∈ quv c a,InR m x.Messages := (h.cfg.qu n _ _ e1 e2).2
   have hnn : a.Channel.toNat = n := by omega
   rw [hnn]
   rcases hc with hc | ⟨_,⟨q1,q2⟩ | ⟨_,q1,q2⟩⟩
   ·exact absurd hc q0
   ·rw [if_pos q1]
    refine zfF hs (n := n) fun r hr => ?_
    rw [e2] at hr
    cases hr
    refine ⟨by rw [List.length_append,List.length_singleton]; omega,fun m hm => ?_⟩
    rcases List.mem_append.1 hm with hm | hm
    ·exact hqm m hm
    ·rw [List.mem_singleton.1 hm]
     exact (hv.other q0).2
   ·rw [if_neg q1]
    refine zfF hs (n := n) fun r hr => ?_
    rw [e2] at hr
    cases hr
    exact ⟨by rw [List.length_tail]; omega,fun m hm => hqm m (List.mem_of_mem_tail hm)⟩
 ·exact z8y hs h5 ((h.sys.part Po (List.mem_of_getElem? h5)).arc b (List.mem_of_getElem? h6)).to
theorem Xz {α β : Type} {f : α → List β} {b : Nat} : ∀ {l : List α},(∀ x ∈ l,(f x).length ≤ b) → (l.flatMap f).length ≤ l.length * b
 | [],_ => by simp
 | x :: l,h => by
  rw [List.flatMap_cons,List.length_append,List.length_cons,Nat.succ_mul]
  have h1 := h x List.mem_cons_self
  have h2 := Xz (f := f) (l := l) (b := b) fun y hy => h y (List.mem_cons_of_mem _ hy)
  omega
theorem Q2 {l : List zf} {st : Int} (h : l.length ≤ 256) : (vE l st).length ≤ 256 := by
 have := ZY (f := fun (k : Nat) (a : zf) => if a.From = st then [((k : Int),a)] else []) (l := l) (k := 0) (b := 1) fun i x _ => by split <;> simp
 unfold vE
 omega
theorem z0W {x : z8} {c : z7} (h : z1i x) : (mvs x c).length ≤ 1048576 := by
 have hpl := h.pl.2
 have hh : ∀ p i a,(Ug x c p i a).length ≤ 1024 := by
  intro p i a
  have := ZY (f := fun o P => if o = p then [] else (vE P.Arcs (stv c o)).flatMap (two c p i a o)) (l := x.Parts) (k := 0) (b := 256) fun o P hP => by
   split
   ·simp
   ·have h1 := Q2 (st := stv c (0 + o)) (h.part P (List.mem_of_getElem? hP)).arcs
    have h2 := Xz (f := two c p i a (0 + o)) (l := vE P.Arcs (stv c (0 + o))) (b := 1) fun e _ => by unfold two; split <;> simp
    omega
  unfold Ug
  omega
 have ho : ∀ p e,(one x c p e).length ≤ 1024 := by
  intro p e
  have := hh p e.1 e.2
  unfold one
  split
  ·simp
  ·split
   ·split
    ·exact this
    ·simp
   ·split
    ·split <;> simp
    ·split <;> simp
 have := ZY (f := fun p P => (vE P.Arcs (stv c p)).flatMap (one x c p)) (l := x.Parts) (k := 0) (b := 262144) fun p P hP => by
  have h1 := Q2 (st := stv c (0 + p)) (h.part P (List.mem_of_getElem? hP)).arcs
  have h2 := Xz (f := one x c (0 + p)) (l := vE P.Arcs (stv c (0 + p))) (b := 1024) fun e _ => ho _ e
  omega
 unfold mvs
 omega
def By (n : Int) : Prop := 0 ≤ n ∧ n ≤ 255
structure OkZ (z : xI) : Prop where
 st : By z.States
 arc : ∀ a ∈ z.Arcs,By a.e0 ∧ By a.e1 ∧ By a.e2 ∧ By a.e3 ∧ By a.e4
structure OkY (y : yk) : Prop where
 c0 : By y.Channels.e0
 c1 : By y.Channels.e1
 parts : ∀ z ∈ y.Parts,OkZ z
theorem zb2 (s : Int) : (0 : Int) ≤ IntKind.u64.wrap s := by
 simp only [IntKind.wrap,IntKind.bits,IntKind.signed]
 simp
 omega
theorem z4m {n : Int} (h : By n) : 0 ≤ Int.tmod n 3 ∧ Int.tmod n 3 < 3 := by
 rw [Int.tmod_eq_emod_of_nonneg h.1]; omega
theorem zb6 {n : Int} (h : By n) : 0 ≤ Int.tmod n 2 ∧ Int.tmod n 2 < 2 := by
 rw [Int.tmod_eq_emod_of_nonneg h.1]; omega
theorem zb5 {n k : Int} (h : By n) (hk : 0 < k) : InR (Int.tmod n k) k := by
 rw [Int.tmod_eq_emod_of_nonneg h.1]
 exact ⟨Int.emod_nonneg _ (by omega),Int.emod_lt_of_pos _ hk⟩
theorem z9X {l : List Int} {n : Int} (hn : 0 ≤ n) (h : Ris l n) : Ris (l ++ [n]) (n + 1) := by
 intro i v hv
 rcases Nat.lt_or_ge i l.length with q | q
 ·rw [List.getElem?_append_left q] at hv
  obtain ⟨h1,h2⟩ := h i v hv
  refine ⟨⟨h1.1,by have := h1.2; omega⟩,fun hi => ?_⟩
  obtain ⟨u,h3,h4⟩ := h2 hi
  exact ⟨u,by rw [List.getElem?_append_left (by omega)]; exact h3,h4⟩
 ·rw [List.getElem?_append_right q] at hv
  have hi : i - l.length = 0 := by
   have := y6 hv
   simp at this
   omega
  rw [hi] at hv
  cases hv
  refine ⟨⟨hn,by omega⟩,fun hi' => ?_⟩
  have hl : i - 1 < l.length := by omega
  have hu : l[i - 1]? = some l[i - 1] := List.getElem?_eq_getElem hl
  exact ⟨l[i - 1],by rw [List.getElem?_append_left hl]; exact hu,(h _ _ hu).1.2⟩
theorem z3N {l : List Int} {n m : Int} (hn : n ≤ m) (h : Ris l n) : Ris l m := by
 intro i v hv
 obtain ⟨h1,h2⟩ := h i v hv
 exact ⟨⟨h1.1,by have := h1.2; omega⟩,h2⟩
structure VA (st : Int) (a : zf) : Prop where
 fr : InR a.From st
 to : InR a.To st
 kind : 0 ≤ a.Kind ∧ a.Kind ≤ 2
 inner : a.Kind = 0 → a.Channel = 0
 ch : InR a.Channel 2
 msg : InR a.Message 2
structure VP (p : zh) : Prop where
 lo : 1 ≤ p.States
 hi : p.States ≤ 3
 arcs : p.Arcs.length ≤ 6
 ris : Ris p.Final p.States
 fin : (p.Final.length : Int) ≤ p.States
 arc : ∀ a ∈ p.Arcs,VA p.States a
theorem zbO {l : List zh} {i : Int} {s : Int} {arcs : List zf} {fin : List Int} (hl : l.length ≤ 3) (hp : VP ⟨s,arcs,fin⟩) (hlp : ∀ p ∈ l,VP p) :
  ∃ l',j4 l i s arcs fin = some (.next (l',w64 (i + 1))) ∧ l'.length = l.length + 1 ∧ ∀ p ∈ l',VP p := by
 refine ⟨l ++ [⟨s,arcs,fin⟩],?_,by simp,fun p hp' => ?_⟩
 ·unfold j4 Zy
  rw [gdT (by rw [List.length_singleton]; omega)]
 ·rcases List.mem_append.1 hp' with h | h
  ·exact hlp p h
  ·rw [List.mem_singleton.1 h]; exact hp
theorem zes {y : yk} (h : OkY y) {l : List zh} {i : Nat} {b : Bool} (hl : l.length ≤ 3) (hlp : ∀ p ∈ l,VP p) :
  ∃ l',uG y l (i : Int) b = some (.next (l',w64 ((i : Int) + 1))) ∧ l'.length = l.length + 1 ∧ ∀ p ∈ l',VP p := by
 unfold uG
 by_cases hi : (i : Int) < ((y.Parts.length : Nat) : Int)
 ·have hz : y.Parts[i]? = some (y.Parts[i]'(by omega)) := List.getElem?_eq_getElem _
  generalize y.Parts[i]'(by omega) = z at hz
  have hok := h.parts z (List.mem_of_getElem? hz)
  have hm := z4m hok.st
  rw [decide_eq_true hi,cond_true,yf hz,oB,gdT (by omega)]
  have e0 : w64 (1 + (w64 (Int.tmod z.States 3))) = 1 + Int.tmod z.States 3 := by rw [wj (x := Int.tmod z.States 3) (by omega) (by omega),wj (by omega) (by omega)]
  generalize hst : 1 + Int.tmod z.States 3 = st at e0
  have r9 : Ret (loop (fun s => ku z s.1 s.2) (([] : List Int),0)) (fun fl => Ris fl st ∧ (fl.length : Int) ≤ st) := by
   refine kK (fun s => ∃ n : Nat,s.2 = (n : Int) ∧ (n : Int) ≤ st ∧ Ris s.1 n ∧ s.1.length ≤ n) (fun s => 3 - s.2.toNat) ⟨0,rfl,by omega,fun i v hv => by simp at hv,Nat.le_refl _⟩ (by show 3 - 0 < _; omega) ?_
   rintro ⟨fl,s⟩ ⟨n,hs,hn,h1,h2⟩
   dsimp only at hs h1 h2 ⊢
   subst hs
   unfold ku jr
   rw [e0]
   by_cases q : (n : Int) < st
   ·rw [decide_eq_true q,cond_true,gdT (zb2 _),wj (by omega) (by omega)]
    cases (z8X .u8 (Int.fdiv z.Final (2 ^ (min (IntKind.u64.wrap (n : Int)).toNat 8))) 1) == 1 with
    | true =>
     rw [cond_true,gdT (by rw [List.length_singleton]; omega)]
     refine yp.2 ⟨⟨n + 1,rfl,by omega,z9X (by omega) h1,by rw [List.length_append,List.length_singleton]; omega⟩,?_⟩
     show 3 - ((n : Int) + 1).toNat < 3 - (n : Int).toNat
     omega
    | false =>
     rw [cond_false]
     refine yp.2 ⟨⟨n + 1,rfl,by omega,z3N (by omega) h1,by dsimp only; omega⟩,?_⟩
     show 3 - ((n : Int) + 1).toNat < 3 - (n : Int).toNat
     omega
   ·rw [decide_eq_false q,cond_false]
    exact yp.2 ⟨z3N (by omega) h1,by omega⟩
  obtain ⟨fl,e9,f1,f2⟩ := r9
  rw [bdT e9]
  unfold Zx
  have r7 : Ret (loop (fun s => kw z fl s.1 s.2) (([] : List zf),0)) (fun t => t.1 = st ∧ t.2.2 = fl ∧ t.2.1.length ≤ 6 ∧ ∀ a ∈ t.2.1,VA st a) := by
   refine kK (fun s => ∃ n : Nat,s.2 = (n : Int) ∧ n ≤ 6 ∧ s.1.length ≤ n ∧ ∀ a ∈ s.1,VA st a) (fun s => 6 - s.2.toNat) ⟨0,rfl,by omega,Nat.le_refl _,fun a ha => by simp at ha⟩ (by show 6 - 0 < _; omega) ?_
   rintro ⟨arcs,s⟩ ⟨n,hs,hn,h1,h2⟩
   dsimp only at hs h1 h2 ⊢
   subst hs
   unfold kw
   by_cases q : (n : Int) < ((z.Arcs.length : Nat) : Int)
   ·rw [decide_eq_true q,cond_true]
    by_cases q6 : (n : Int) < 6
    ·have ha : z.Arcs[n]? = some (z.Arcs[n]'(by omega)) := List.getElem?_eq_getElem _
     generalize z.Arcs[n]'(by omega) = a at ha
     obtain ⟨b0,b1,b2,b3,b4⟩ := hok.arc a (List.mem_of_getElem? ha)
     have w0 : w64 a.e0 = a.e0 := wj (by have := b0.1; omega) (by have := b0.2; omega)
     have w4 : w64 a.e4 = a.e4 := wj (by have := b4.1; omega) (by have := b4.2; omega)
     have t2 := zb6 b2
     have t3 := zb6 b3
     have t1 := z4m b1
     have s0 := zb5 b0 (k := st) (by omega)
     have s4 := zb5 b4 (k := st) (by omega)
     have fin : ∀ ch : Int,InR ch 2 → (Int.tmod a.e1 3 = 0 → ch = 0) → Ret (j0 z arcs (n : Int) a ch) (LRP (fun s' => (∃ n : Nat,s'.2 = (n : Int) ∧ n ≤ 6 ∧ s'.1.length ≤ n ∧ ∀ a ∈ s'.1,VA st a) ∧ 6 - s'.2.toNat < 6 - (n : Int).toNat) (fun t : Int × List zf × List Int => t.1 = st ∧ t.2.2 = fl ∧ t.2.1.length ≤ 6 ∧ ∀ a ∈ t.2.1,VA st a)) := by
      intro ch hch h0
      unfold j0
      rw [e0,w0,w4,wj (x := Int.tmod a.e3 2) (by omega) (by omega),gdT (by rw [List.length_singleton]; omega),wj (by omega) (by omega)]
      refine yp.2 ⟨⟨n + 1,rfl,by omega,by rw [List.length_append,List.length_singleton]; omega,fun a' ha' => ?_⟩,?_⟩
      ·rcases List.mem_append.1 ha' with hm | hm
       ·exact h2 a' hm
       ·rw [List.mem_singleton.1 hm]
        exact ⟨s0,s4,⟨t1.1,by dsimp only; omega⟩,h0,hch,⟨t3.1,t3.2⟩⟩
      ·show 6 - ((n : Int) + 1).toNat < 6 - (n : Int).toNat
       omega
     rw [decide_eq_true q6,cond_true,yf ha,oB,e0,gdT (by omega),gdT (by omega),gdT (by omega),gdT (by omega),gdT (by omega)]
     by_cases qk : Int.tmod a.e1 3 = 0
     ·rw [qk,beq_self_eq_true,cond_true]
      exact fin 0 ⟨by omega,by omega⟩ (fun _ => rfl)
     ·rw [beq_false_of_ne qk,cond_false,wj (x := Int.tmod a.e2 2) (by omega) (by omega)]
      exact fin _ ⟨t2.1,t2.2⟩ (fun q => absurd q qk)
    ·rw [decide_eq_false q6,cond_false,e0]
     exact yp.2 ⟨rfl,rfl,by dsimp only; omega,h2⟩
   ·rw [decide_eq_false q,cond_false,e0]
    exact yp.2 ⟨rfl,rfl,by dsimp only; omega,h2⟩
  obtain ⟨t,e7,g1,g2,g3,g4⟩ := r7
  rw [bdT e7,g1,g2]
  exact zbO hl ⟨by dsimp only; omega,by dsimp only; omega,g3,f1,f2,g4⟩ hlp
 ·rw [decide_eq_false hi,cond_false]
  exact zbO hl ⟨by decide,by decide,by simp,fun i v hv => by simp at hv,by simp,fun a ha => by simp at ha⟩ hlp
structure zfA (y : yk) (x : z8) : Prop where
 msg : x.Messages = 2
 lab : x.Labels = 2
 ch : x.Channels = [Int.tmod y.Channels.e0 3,Int.tmod y.Channels.e1 3]
 pl : 1 ≤ x.Parts.length ∧ x.Parts.length ≤ 3
 part : ∀ p ∈ x.Parts,VP p
theorem zbN {y : yk} (h : OkY y) : ∃ x,Xb y = some x ∧ zfA y x := by
 unfold Xb
 rw [gdT (by omega),gdT (by omega)]
 have r2 : Ret (loop (fun s => kx y s.1 s.2) (([] : List zh),0)) (fun l => (1 ≤ l.length ∧ l.length ≤ 3) ∧ ∀ p ∈ l,VP p) := by
  refine kK (fun s => ∃ n : Nat,s.2 = (n : Int) ∧ n ≤ 3 ∧ s.1.length = n ∧ ∀ p ∈ s.1,VP p) (fun s => 3 - s.2.toNat) ⟨0,rfl,by omega,rfl,fun a ha => by simp at ha⟩ (by show 3 - 0 < _; omega) ?_
  rintro ⟨l,s⟩ ⟨n,hs,hn,h1,h2⟩
  dsimp only at hs h1 h2 ⊢
  subst hs
  unfold kx
  have go : ∀ b,n < 3 → Ret (uG y l (n : Int) b) (LRP (fun s' => (∃ n : Nat,s'.2 = (n : Int) ∧ n ≤ 3 ∧ s'.1.length = n ∧ ∀ p ∈ s'.1,VP p) ∧ 3 - s'.2.toNat < 3 - (n : Int).toNat) (fun l : List zh => (1 ≤ l.length ∧ l.length ≤ 3) ∧ ∀ p ∈ l,VP p)) := by
   intro b q
   obtain ⟨l',e,h3,h4⟩ := zes h (l := l) (i := n) (b := b) (by omega) h2
   rw [e,wj (by omega) (by omega)]
   refine yp.2 ⟨⟨n + 1,rfl,by omega,by dsimp only; omega,h4⟩,?_⟩
   show 3 - ((n : Int) + 1).toNat < 3 - (n : Int).toNat
   omega
  by_cases q : (n : Int) < 3
  ·rw [decide_eq_true q,cond_true]
   by_cases q1 : (n : Int) < ((y.Parts.length : Nat) : Int)
   ·rw [decide_eq_true q1,cond_true]
    exact go _ (by omega)
   ·rw [decide_eq_false q1,cond_false]
    by_cases q2 : n = 0
    ·subst q2
     exact go true (by omega)
    ·rw [beq_false_of_ne (by omega),cond_false]
     exact yp.2 ⟨⟨by omega,by omega⟩,h2⟩
  ·rw [decide_eq_false q,cond_false]
   exact yp.2 ⟨⟨by omega,by omega⟩,h2⟩
 obtain ⟨l,e,h1,h2⟩ := r2
 rw [bdT e]
 have t0 := z4m h.c0
 have t1 := z4m h.c1
 refine ⟨_,rfl,rfl,rfl,?_,h1,h2⟩
 dsimp only
 rw [wj (x := Int.tmod y.Channels.e0 3) (by omega) (by omega),wj (x := Int.tmod y.Channels.e1 3) (by omega) (by omega)]
theorem z7T {y : yk} {x : z8} (h : zfA y x) {a b : Int} (ha : 0 ≤ a ∧ a ≤ 4) (hb : 0 ≤ b ∧ b ≤ 4) : z1i ⟨x.Messages,x.Labels,[a,b],x.Parts⟩ := by
 have hm := h.msg
 have hl := h.lab
 refine ⟨by dsimp only; omega,by dsimp only; omega,by simp,fun n hn => ?_,⟨h.pl.1,by have := h.pl.2; dsimp only; omega⟩,fun p hp => ?_⟩
 ·simp at hn
  rcases hn with rfl | rfl <;> assumption
 ·have hv := h.part p hp
  have h1 := hv.hi
  have h2 := hv.fin
  refine ⟨hv.lo,by omega,by have := hv.arcs; omega,hv.ris,by omega,fun a ha' => ?_⟩
  have hva := hv.arc a ha'
  refine ⟨hva.fr,hva.to,hva.kind,fun q => ⟨hva.inner q,?_⟩,fun _ => ⟨hva.ch,?_⟩⟩
  ·dsimp only; rw [hl]; exact hva.msg
  ·dsimp only; rw [hm]; exact hva.msg
theorem z5J {y : yk} {x : z8} (hy : OkY y) (h : zfA y x) : z1i x := by
 have t0 := z4m hy.c0
 have t1 := z4m hy.c1
 have := z7T h (a := Int.tmod y.Channels.e0 3) (b := Int.tmod y.Channels.e1 3) (by omega) (by omega)
 rw [← h.ch] at this
 exact this
def beg (x : z8) : z7 := ⟨List.replicate x.Parts.length 0,List.replicate x.Channels.length []⟩
theorem z8j {x : z8} (h : z1i x) : ZR x = some (beg x) := by
 unfold ZR
 rw [gdT (by have := h.pl.2; omega),gdT (by have := h.chl; omega),Int.toNat_natCast,Int.toNat_natCast]
 rfl
theorem z8U {x : z8} (h : z1i x) : MOk x (beg x) := by
 refine ⟨h,by simp [beg],by simp [beg],fun i p v hp hv => ?_,fun i q n hq hn => ?_⟩
 ·have := List.mem_of_getElem? hv
  have hv0 : v = 0 := List.eq_of_mem_replicate this
  subst hv0
  exact ⟨Int.le_refl _,by have := (h.part p (List.mem_of_getElem? hp)).lo; omega⟩
 ·have hq0 : q = [] := List.eq_of_mem_replicate (List.mem_of_getElem? hq)
  subst hq0
  exact ⟨(h.ch n (List.mem_of_getElem? hn)).1,fun m hm => by simp at hm⟩
end Go.Own
end
