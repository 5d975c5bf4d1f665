/- Walks, further. -/
import Derived.Test.YtkalhfmehmcofaaGreatPartF
import Derived.Test.YtkalhfmehmcofaaGreatPartC
import Derived.Test.YtkalhfmehmcofaaGreatPartE
import Derived.Test.YtkalhfmehmcofaaGreatPartB
import Derived.OpenShut
import Derived.ChangeShapes
import Derived.WalkKit
import Derived.ProofKit
import Derived.Carry
import Derived.Test.YtkalhfmehmcofaaGreatRows
import Derived.Test.YtkalhfmehmcofaaGreatChecked
noncomputable section
set_option linter.unusedVariables false
set_option linter.unusedSimpArgs false
namespace Go.Own
open Go.Proofs
set_option maxRecDepth 100000
set_option maxHeartbeats 8000000
def l94 : List y6 := kA 63 (eSp Wp) zcG ZT :: l93
abbrev Ym (out : List (List Int)) : List (Nat × T) := [(2, .own (eOs 1 false F3_ out))]
abbrev Yl (b_ : zk) (ay : List (List Int)) (next : List zh) : List (Nat × T) := [(0, .d (.sptr (Wp b_))), (2, .own (eOs 1 false F3_ ay)), (4, .own (eOs 2 false Yz next))]
abbrev Yk (b_ : zk) (av : List zh) (ba : Int) (im : List (List Int)) (fm : List zh) : List (Nat × T) := [(0, .d (.sptr (Wp b_))), (2, .own (eOs 1 false F3_ im)), (3, .own (eOs 2 false Yz av)), (4, .own (eOs 2 false Yz fm)), (15, .als 3 [] 0 0), (16, .d (I ((av.length : Nat) : Int))), (17, .d (I ba))]
abbrev Yj (b_ : zk) (av : List zh) (cu : List (List Int)) (ba : Int) (bt : zh) (cm : List zh) (pt : Bool) : List (Nat × T) := [(0, .d (.sptr (Wp b_))), (2, .own (eOs 1 false F3_ cu)), (3, .own (eOs 2 false Yz av)), (4, .own (eOs 2 false Yz cm)), (6, .own (.box (Yz bt))), (7, .d (B pt)), (15, .als 3 [] 0 0), (16, .d (I ((av.length : Nat) : Int))), (17, .d (I ba))]
abbrev Yi (b_ : zk) (av : List zh) (cu : List (List Int)) (ba : Int) (bt : zh) (bh : zD Int) (dz : Int) (nn : List zh) (nq : Bool) : List (Nat × T) := [(0, .d (.sptr (Wp b_))), (2, .own (eOs 1 false F3_ cu)), (3, .own (eOs 2 false Yz av)), (4, .own (eOs 2 false Yz nn)), (6, .own (.box (Yz bt))), (7, .d (B nq)), (15, .als 3 [] 0 0), (16, .d (I ((av.length : Nat) : Int))), (17, .d (I ba)), (28, .d (F1_ bh)), (29, .d (I dz))]
abbrev Yf (b_ : zk) (av : List zh) (cu : List (List Int)) (ba : Int) (bt : zh) (bh : zD Int) (gv : List zh) (lu : Bool) (dz : Int) : List (Nat × T) := [(0, .d (.sptr (Wp b_))), (2, .own (eOs 1 false F3_ cu)), (3, .own (eOs 2 false Yz av)), (4, .own (eOs 2 false Yz gv)), (6, .own (.box (Yz bt))), (7, .d (B lu)), (15, .als 3 [] 0 0), (16, .d (I ((av.length : Nat) : Int))), (17, .d (I ba)), (28, .d (F1_ bh)), (29, .d (I dz))]
abbrev Yg (b_ : zk) (av : List zh) (cu : List (List Int)) (cr : List zh) (ba : Int) : List (Nat × T) := [(0, .d (.sptr (Wp b_))), (2, .own (eOs 1 false F3_ cu)), (3, .own (eOs 2 false Yz av)), (4, .own (eOs 2 false Yz cr)), (15, .als 3 [] 0 0), (16, .d (I ((av.length : Nat) : Int))), (17, .d (I ba))]
abbrev Yh (b_ : zk) (aj : List (List Int)) (av : List zh) : List (Nat × T) := [(0, .d (.sptr (Wp b_))), (2, .own (eOs 1 false F3_ aj)), (3, .own (eOs 2 false Yz av))]
def wn : XH Tryz.prog := ((YB zo (.inl 52) [51]).or ((YB zo (.inl 43) [42]).or ((YB zo (.inl 11) [10]).or X0)))
theorem Wt [H : HS wn l93] : OkH l94 := yS1 true Tryz.func63 fun b_ r0 aa E hE => by
 refine yJ 111 [] [2] (fun z : List (List Int) => vg z = some r0) (fun z => Ym z) [(0, .d (.sptr (Wp b_))), (2, .own (eOs 1 true F5_ [])), (3, .own (eOs 2 true (yh (eI .i32) F3_) ([(zh.mk 0 [])])))] [Hm (shM (eI .i64) (eI .i64) []), Hh (.cut 0)] ?_ fun J1 au => ?_
 ·rintro out aa
  unfold vg at aa
  obtain ⟨r_, h0, aa⟩ := zt aa
  obtain rfl := yY aa
  exact yE (H := zx ((Kt zo (jB (H := zd 0)) 57).or wn)) hE [Hh (.g [true]), Hn jb, Hx (.a (zcG r_)) (qZ out _ h0)]
 ·obtain ⟨t2, ht2, aa⟩ := zt aa
  refine yLx 11120 [J1] (fun s => v8 b_ s.1 s.2) (fun x => Yh b_ x.1 x.2) (([] : List (List Int)), ([(zh.mk 0 [])] : List zh)) ht2 [(0, .d (.sptr (Wp b_))), (2, .own (eOs 1 true F3_ [])), (3, .own (eOs 2 true (yh (eI .i32) F3_) ([(zh.mk 0 [])])))] inferInstance [] fun ⟨aj, av⟩ m2 aw ae hl1 J2 ax => ?_
  try unfold v8 at ae
  let Z0 : List HO := [Ha (lnM Yz av)]
  obtain c0 | c0 := zy ae
  ·refine yJ 111200101 [J1, J2] [0,2,4] (fun z : List (List Int) × List zh => ve z.1 z.2 = some aw) (fun z => Yl b_ z.1 z.2) [(0, .d (.sptr (Wp b_))), (2, .own (eOs 1 false F3_ aj)), (3, .own (eOs 2 false Yz av)), (4, .own (eOs 2 true Yz []))] (Z0 ++ [c0, Hh (.cut 1)]) ?_ fun J3 bk => ?_
   ·rintro ⟨ay, next⟩ ae
    unfold ve at ae
    obtain rfl := yY ae
    exact yB ax _ hl1 []
   ·obtain ⟨t4, ht4, ae⟩ := zt c0.2
    refine yLx 111200101210 [J1, J2, J3] (fun s => v7 b_ av s.1 s.2.1 s.2.2) (fun x => Yg b_ av x.1 x.2.1 x.2.2) (aj, ([] : List zh), 0) ht4 [(0, .d (.sptr (Wp b_))), (2, .own (eOs 1 false F3_ aj)), (3, .own (eOs 2 false Yz av)), (4, .own (eOs 2 true Yz [])), (15, .als 3 [] 0 0), (16, .d (I ((av.length : Nat) : Int))), (17, .d (I 0))] inferInstance [Ha (lnM Yz av)] fun ⟨cu, cr, ba⟩ m4 dc ah hl2 J4 cx => ?_
    try unfold v7 at ah
    obtain c1 | c1 := zy ah
    ·refine yJ 111200101210011 [J1, J2, J3, J4] [0,2,3,4,15,16,17] (fun z : List (List Int) × List zh => w8 ba z.1 z.2 = some dc) (fun z => Yk b_ av ba z.1 z.2) [(0, .d (.sptr (Wp b_))), (2, .own (eOs 1 false F3_ cu)), (3, .own (eOs 2 false Yz av)), (4, .own (eOs 2 false Yz cr)), (15, .als 3 [] 0 0), (16, .d (I ((av.length : Nat) : Int))), (17, .d (I ba))] [c1, Hh (.cut 0)] ?_ fun J5 dh => ?_
     ·rintro ⟨im, fm⟩ ah
      unfold w8 at ah
      obtain rfl := yY ah
      exact yB cx _ hl2 []
     ·obtain ⟨bt, h1, ah⟩ := zt c1.2
      refine yJ 1112001012100112011 [J1, J2, J3, J4, J5] [0,2,3,4,6,7,15,16,17] (fun z : List zh × Bool => vd cu ba bt z.1 z.2 = some dc) (fun z => Yj b_ av cu ba bt z.1 z.2) [(0, .d (.sptr (Wp b_))), (2, .own (eOs 1 false F3_ cu)), (3, .own (eOs 2 false Yz av)), (4, .own (eOs 2 false Yz cr)), (6, .own (.box (Yz bt))), (7, .d (B true)), (15, .als 3 [] 0 0), (16, .d (I ((av.length : Nat) : Int))), (17, .d (I ba))] [Hn (iL Yz h1), Hs (iM Yz h1), Hh (.cut 1)] ?_ fun J6 fz => ?_
      ·rintro ⟨cm, pt⟩ ah
       unfold vd at ah
       obtain c2 | c2 := zy ah
       ·obtain ⟨ai, h2, ah⟩ := zt c2.2
        obtain ⟨g0, ah⟩ := gdE ah
        exact yB dh ((cu ++ [ai]), cm) ah [c2, zC1 41 h2, Hq (dM F3_ [ai]), Hn (dM F3_ [ai]), Hn (aL F3_ F3_ g0), Hl (aM F3_ cu [ai])]
       ·exact yB dh (cu, cm) c2.2 [c2]
      ·obtain ⟨bh, h3, t7, ht7, ah⟩ := ye ah
       refine yL 1112001012100112011210 [J1, J2, J3, J4, J5, J6] (fun s => v6 bt bh s.1 s.2.1 s.2.2) (fun x => Yf b_ av cu ba bt bh x.1 x.2.1 x.2.2) (cr, true, 0) ht7  [Hi F1_ h3] fun ⟨gv, lu, dz⟩ m7 oa a8 hl3 J7 j5 => ?_
       try unfold v6 at a8
       obtain c3 | c3 := zy a8
       ·refine yJ 1112001012100112011210011 [J1, J2, J3, J4, J5, J6, J7] [0,2,3,4,6,7,15,16,17,28,29] (fun z : List zh × Bool => w7 dz z.1 z.2 = some oa) (fun z => Yi b_ av cu ba bt bh dz z.1 z.2) [(0, .d (.sptr (Wp b_))), (2, .own (eOs 1 false F3_ cu)), (3, .own (eOs 2 false Yz av)), (4, .own (eOs 2 false Yz gv)), (6, .own (.box (Yz bt))), (7, .d (B lu)), (15, .als 3 [] 0 0), (16, .d (I ((av.length : Nat) : Int))), (17, .d (I ba)), (28, .d (F1_ bh)), (29, .d (I dz))] [c3, Hh (.cut 0)] ?_ fun J8 mb => ?_
        ·rintro ⟨nn, nq⟩ a8
         unfold w7 at a8
         obtain rfl := yY a8
         exact yB j5 _ hl3 []
        ·obtain ⟨cell, h4, a8⟩ := zt c3.2
         let Z1 : List HO := [Hs (iM (eI .i32) h4), Hn (ixV (k := .i32) (tt := wp) (e := 21) (l := [bh.e0, bh.e1, bh.e2, bh.e3, bh.e4, bh.e5, bh.e6, bh.e7, bh.e8, bh.e9, bh.e10, bh.e11, bh.e12, bh.e13, bh.e14, bh.e15]) (fun _ => by kernel_rfl) h4 (m := 16) rfl)]
         obtain c4 | c4 := zy a8
         ·obtain ⟨am, h5, a8⟩ := zt c4.2
          obtain ⟨g1, a8⟩ := gdE a8
          obtain ⟨g2, a8⟩ := gdE a8
          exact yB (H := zx ((zeb zo 32).or wn)) mb ((gv ++ [(zh.mk cell (am ++ [dz]))]), false) a8 (Z1 ++ [c4, zC1 41 h5, Hq (dM (eI .i64) [dz]), Hn (dM (eI .i64) [dz]), Hn (aN (eI .i64) (eI .i64) g1 (by simp)), Hl (aM (eI .i64) am [dz]), Hm (shM (eI .i64) (eI .i64) (am ++ [dz])), Hq (dM Yz [(zh.mk cell (am ++ [dz]))]), Hn (dM Yz [(zh.mk cell (am ++ [dz]))]), Hn (aL Yz Yz g2), Hl (aM Yz gv [(zh.mk cell (am ++ [dz]))])])
         ·exact yB (H := zx ((zeb zo 32).or wn)) mb (gv, lu) c4.2 (Z1 ++ [c4])
       ·obtain rfl := yY c3.2
        obtain rfl := hl3
        exact yB fz (gv, lu) ah [c3]
    ·obtain rfl := yY c1.2
     obtain rfl := hl2
     exact yB bk (cu, cr) ae [c1]
  ·obtain rfl := yY c0.2
   obtain rfl := hl1
   exact yB au aj aa (Z0 ++ [c0])
def l95 : List y6 := zbc 40 (eIf 81) zO (eI .i64) (eI .i64) (eT2 XV (eI .i64)) Ud :: l94
theorem Jx [H : HS X0 l94] : OkH l95 := yS4 false Tryz.func40 fun s_ m_ bound fc r0 aa E hE => by
 obtain ⟨r_, h0, aa⟩ := zt aa
 let Z0 : List HO := [zC2 45 h0]
 obtain c0 | c0 := zy aa
 ·cases c0.2
  exact yE hE (Z0 ++ [c0, Hm (shM F5_ F5_ [])])
 ·obtain c1 | c1 := zy c0.2
  ·cases c1.2
   exact yE hE (Z0 ++ [c0, c1, c1, c1, qT, Hm (shM F5_ F5_ [])])
  ·let Z1 : List HO := (Z0 ++ [c0, c1, c1, c1])
   obtain c2 | c2 := zy c1.2
   ·cases c2.2
    exact yE hE (Z1 ++ [c2, Hm (shM F5_ F5_ [])])
   ·obtain ⟨ai, h1, aa⟩ := zt c2.2
    let Z2 : List HO := (Z1 ++ [c2, zC2 12 h1, Hn (rfl : T.d (ePo Kr ai.1) = T.d (ePo Kr ai.1))])
    obtain c3 | c3 := zy aa
    ·cases c3.2
     exact yE (H := zx ((xRe Tryz.prog 11 (ePo Kr ai.1) (ePo Kr ai.1) (fun _ _ q => q)).or X0)) hE (Z2 ++ [c3, Hm (shM F5_ F5_ [])])
    ·obtain ⟨there, h2, am, h3, aa⟩ := ye c3.2
     let Z3 : List HO := (Z2 ++ [c3, Hn (rfl : T.d (ePo Kr ai.1) = T.d (ePo Kr ai.1)), zC3 1 h3, Hn (rfl : T.d (ePo Wp am.1) = T.d (ePo Wp am.1))])
     obtain c4 | c4 := zy aa
     ·cases c4.2
      exact yE (H := zx ((xRe Tryz.prog 13 (ePo Wp am.1) (ePo Wp am.1) (fun _ _ q => q)).or ((xRe Tryz.prog 38 (ePo Kr ai.1) (.sptr (.agg [.agg [I there.m_.Inputs, I there.m_.Outputs, eSl 1 false yj there.m_.Rows], eSl 1 false F5_ there.q_, eSl 1 false F5_ there.p_, eSl 1 false F5_ there.all_, eSl 1 false yS there.each_, eSl 1 false F5_ there.short_, eSl 1 false F5_ there.exact_])) (poM (f := Kr) h2)).or ((xRe Tryz.prog 11 (ePo Kr ai.1) (ePo Kr ai.1) (fun _ _ q => q)).or X0)))) hE (Z3 ++ [c4, Hm (shM F5_ F5_ [])])
     ·obtain ⟨ft, h4, az, h5, cp, h6, aa⟩ := jG c4.2
      let Z4 : List HO := (Z3 ++ [c4, Hn (rfl : T.d (ePo Wp am.1) = T.d (ePo Wp am.1)), zC1 0 h5, zg 53, Hm (shM F3_ F3_ az), Hs (zf2 53 h6 (loC XV az <| loC (eI .i64) m_.Inputs <| loN))])
      obtain c5 | c5 := zy aa
      ·cases c5.2
       exact yE (H := zx ((xRe Tryz.prog 46 (ePo Wp am.1) (.sptr (.agg [eSl 16 false F1_ ft.nodes_, I ft.leaves_, I ft.most_])) (poM (f := Wp) h4)).or ((xRe Tryz.prog 13 (ePo Wp am.1) (ePo Wp am.1) (fun _ _ q => q)).or ((xRe Tryz.prog 38 (ePo Kr ai.1) (.sptr (.agg [.agg [I there.m_.Inputs, I there.m_.Outputs, eSl 1 false yj there.m_.Rows], eSl 1 false F5_ there.q_, eSl 1 false F5_ there.p_, eSl 1 false F5_ there.all_, eSl 1 false yS there.each_, eSl 1 false F5_ there.short_, eSl 1 false F5_ there.exact_])) (poM (f := Kr) h2)).or ((xRe Tryz.prog 11 (ePo Kr ai.1) (ePo Kr ai.1) (fun _ _ q => q)).or X0))))) hE (Z4 ++ [c5, Hm (shM F5_ F5_ [])])
      ·cases c5.2
       exact yE (H := zx ((xRe Tryz.prog 46 (ePo Wp am.1) (.sptr (.agg [eSl 16 false F1_ ft.nodes_, I ft.leaves_, I ft.most_])) (poM (f := Wp) h4)).or ((xRe Tryz.prog 13 (ePo Wp am.1) (ePo Wp am.1) (fun _ _ q => q)).or ((xRe Tryz.prog 38 (ePo Kr ai.1) (.sptr (.agg [.agg [I there.m_.Inputs, I there.m_.Outputs, eSl 1 false yj there.m_.Rows], eSl 1 false F5_ there.q_, eSl 1 false F5_ there.p_, eSl 1 false F5_ there.all_, eSl 1 false yS there.each_, eSl 1 false F5_ there.short_, eSl 1 false F5_ there.exact_])) (poM (f := Kr) h2)).or ((xRe Tryz.prog 11 (ePo Kr ai.1) (ePo Kr ai.1) (fun _ _ q => q)).or X0))))) hE (Z4 ++ [c5, Hm (shM F3_ F3_ az)])
def l96 : List y6 := Jp 18 zO (eI .i64) (eI .i64) (eT2 XV (eI .i64)) KP :: l95
theorem z3h [H : HS X0 l95] : OkH l96 := yS3 false Tryz.func18 fun m_ bound fc r0 aa E hE => by
 obtain ⟨r_, h0, aa⟩ := zt aa
 cases aa
 exact yE (H := zx ((zec Tryz.prog 9 81 Tryz.underlying81).or X0)) hE [zC4 0 h0]
def l97 : List y6 := kA 32 yj zgb xZ :: l96
theorem vU [H : HS X0 l96] : OkH l97 := yS1 true Tryz.func32 fun s_ r0 aa E hE => by
 refine z2g rfl 0 (sz := 2) (t := false) (es := s_.map F9_) (by kernel_rfl) fun bn hv0 hn => ?_
 rcases hn with ⟨hn0, he0⟩ | hn0
 ·obtain ⟨_, aa⟩ := gdE aa
  rw [show s_ = [] from List.map_eq_nil_iff.1 he0] at aa
  cases aa
  exact yEl (H := zx ((z9Q zo 4 72 (by kernel_rfl) hn0).or ((xMv Tryz.prog 3 0 bn hv0).or X0))) hE [Hn (rfl : some bn = some bn), Hn (⟨rfl, rfl⟩ : T.d (.atom bn) = T.d (.atom bn) ∧ T.d (.atom (.slice none 0 0)) = T.d (.atom (.slice none 0 0))), qT]
 ·obtain ⟨g0, aa⟩ := gdE aa
  cases aa
  exact yE (H := zx ((z9Q zo 4 72 (by kernel_rfl) hn0).or ((xMv Tryz.prog 3 0 bn hv0).or X0))) hE [Hn (rfl : some bn = some bn), Hn (⟨rfl, rfl⟩ : T.d (.atom bn) = T.d (.atom bn) ∧ T.d (.atom (.slice none 0 0)) = T.d (.atom (.slice none 0 0))), qF, Hn (dM F9_ s_), Hn (aL F9_ F9_ g0), Hl (aM0 F9_ s_)]
def l98 : List y6 := kA 31 yj z1H wf :: l97
theorem ub [H : HS X0 l97] : OkH l98 := yS1 true Tryz.func31 fun s_ r0 aa E hE => by
 obtain ⟨g0, aa⟩ := gdE aa
 cases aa
 exact yE hE [Ha (lnM F9_ s_), Ha (lnM F9_ s_), Hn (slB g0), Hn (slC g0), Hn (z8L F9_ g0), Ha (zcU 2 F9_ s_ 0 ((s_.length : Nat) : Int).toNat)]
def l99 : List y6 := Jp 10 zO yS (eI .i64) (eT2 z9N (eI .i64)) vQ :: l98
theorem z3i [H : HS X0 l98] : OkH l99 := yS3 false Tryz.func10 fun m_ l_ states r0 aa E hE => by
 obtain ⟨r_, h0, aa⟩ := zt aa
 let Z0 : List HO := [zC3 56 h0]
 obtain c0 | c0 := zy aa
 ·cases c0.2
  exact yE hE (Z0 ++ [c0, Hm (shM yj yj [])])
 ·refine yC 1111 [] [1,2,3,6,9] (Z0 ++ [c0, Hh (.cut 1)]) ?_
  refine z1z (by kernel_rfl) 9 fun lz => ?_
  obtain ⟨ai, h1, aa⟩ := zt c0.2
  let Z1 : List HO := [Hh (.v 2 [9]), Hm (shM yj yj []), Hh (.v 1 [9]), Hn (Zp (f := .fn 30 []) (xs := [.agg [zO m_, yS l_, .fn 29 [.atom lz]], I states]) (ls := [(lz, .box ((yb (eI .i64) (eI .i64) (eSl 1 true yj)) (z6.mk 0 0 [])))]) (r := .tup []) (ys := [.box (zO ai)]) [.agg [zO m_, yS l_, .fn 29 [.atom lz]], I states] (show Yy [.agg [zO m_, yS l_, .fn 29 [.atom lz]], I states] [.agg [zO m_, yS l_, .fn 29 [.atom lz]], I states] from inferInstance)), Ha (lnM yj ai.Rows)]
  obtain c1 | c1 := zy aa
  ·cases c1.2
   exact yE (H := zx ((Jt (P := Tryz.prog) wp [9] (yl.pre (show LeA (.box ((yb (eI .i64) (eI .i64) (eSl 1 true yj)) (z6.mk 0 0 []))) (.box (zO (z6.mk 0 0 []))) from inferInstance) (uc (H := zd 51) (K := 29) (c := zO) (fun v s x s' b h => z3D (H := zd 51) h) (fun _ _ _ h => by cases h) _ _ _ _ (UN rfl) _ h1 lz)) 28).or ((xMk Tryz.prog wp).or X0))) hE (Z1 ++ [c1, Hm (shM yj yj [])])
  ·obtain ⟨g0, aa⟩ := gdE c1.2
   refine yN (H := zx ((xMs zo 38 72).or ((Jt (P := Tryz.prog) wp [9] (yl.pre (show LeA (.box ((yb (eI .i64) (eI .i64) (eSl 1 true yj)) (z6.mk 0 0 []))) (.box (zO (z6.mk 0 0 []))) from inferInstance) (uc (H := zd 51) (K := 29) (c := zO) (fun v s x s' b h => z3D (H := zd 51) h) (fun _ _ _ h => by cases h) _ _ _ _ (UN rfl) _ h1 lz)) 28).or ((xMk Tryz.prog wp).or X0)))) 111111111 [] [6,9] (zI (Jc ai) r0) (fun z => [(9, .own (.box (.agg [I ai.Inputs, I ai.Outputs, eOs 1 true z1H z])))]) [6,9,11] (Z1 ++ [c1, Ha (lnM yj ai.Rows), Hn (rL g0), Ha (rM 1 z1H ((ai.Rows.length : Nat) : Int) ([] : List z7)), Hh (.cut 0)]) ?_ fun J1 au => ?_
   ·rintro gu aa
    cases aa
    exact yE hE [Hm (shM z1H z1H gu)]
   ·refine yMb 111111111210 [J1] [6,9,40,41,42] (fun x => [(9, .own (.box (.agg [I ai.Inputs, I ai.Outputs, eOs 1 true z1H x.1]))), (42, .d (I x.2))]) aa  [Ha (lnM yj ai.Rows)] fun t2 aa ⟨bj, lk⟩ m2 aw ae hl1 J2 ax => ?_
    obtain c2 | c2 := zy ae
    ·obtain ⟨al, h2, am, h3, az, h4, p8, h5, ae⟩ := z7x c2.2
     cases ae
     exact yB ax _ hl1 [c2, Hi yj h2, zC1 1 h3, zg 0, Hm (shM F9_ F9_ am), Hs (zf1 0 h4 (loC yj am <| loN)), Hm (shM F9_ F9_ am), Hn (iL z1H h5), Hs (iM z1H h5), Hs (iM z1H h5), Hl (sM z1H bj lk az)]
    ·cases c2.2
     cases hl1
     exact yB au bj aa [c2]
def zdA : List y6 := uV 16 zO zO eB qm :: l99
theorem z0w [H : HS X0 l99] : OkH zdA := yS2 true Tryz.func16 fun a_ b_ r0 aa E hE => by
 obtain c0 | c0 := zy aa
 ·cases c0.2
  exact yE hE (rpN 6 (Hb c0) (rpN 9 qT []))
 ·let Z0 : List HO := (rpN 6 (Hb c0) [])
  obtain c1 | c1 := zy c0.2
  ·cases c1.2
   exact yE hE (Z0 ++ (rpN 8 (Hb c1) [qT]))
  ·let Z1 : List HO := (Z0 ++ [c1, c1, c1, Ha (lnM yj a_.Rows), c1, c1, c1, Ha (lnM yj b_.Rows), c1, c1])
   obtain c2 | c2 := zy c1.2
   ·cases c2.2
    exact yE hE (Z1 ++ [c2])
   ·refine yK 111 [] [] (fun z : Unit => WP = some r0) (fun z => []) [2,3] (Z1 ++ [c2, Hh (.cut 0)]) ?_ fun J1 au => ?_
    ·rintro ⟨⟩ aa
     cases aa
     exact yE hE []
    ·refine yMb 111210 [J1] [2,3,5] (fun x => [(5, .d (I x))]) c2.2  [] fun t2 aa s_ m2 aw ae hl1 J2 ax => ?_
     let Z2 : List HO := [Ha (lnM yj a_.Rows)]
     obtain c3 | c3 := zy ae
     ·refine yNs 11121001 [J1, J2] [2,3,5] (fun z : Unit => WO s_ = some aw) (fun z => []) (Z2 ++ [c3, Hh (.cut 0)]) ?_ fun J3 bk => ?_
      ·rintro ⟨⟩ ae
       cases ae
       exact yB ax _ hl1 []
      ·obtain ⟨al, h0, dp, h1, ae⟩ := ye c3.2
       let Z3 : List HO := [Hi yj h0, Ha (lnM F9_ al), Hi yj h1, Ha (lnM F9_ dp)]
       obtain c4 | c4 := zy ae
       ·cases c4.2
        cases hl1
        cases aa
        exact yE hE (Z3 ++ [c4])
       ·refine yMb 1112100120110 [J1, J2, J3] [2,3,5,6] (fun x => [(6, .d (I x))]) c4.2  (Z3 ++ [c4]) fun t4 ae i_ m4 dc ah hl2 J4 cx => ?_
        obtain ⟨pb, h2, ah⟩ := zt ah
        let Z4 : List HO := [Hi yj h2, Ha (lnM F9_ pb)]
        obtain c5 | c5 := zy ah
        ·obtain ⟨p9, h3, ak, h4, qd, h5, ar, h6, ah⟩ := z7x c5.2
         let Z5 : List HO := (Z4 ++ [c5, Hi yj h3, Hi F9_ h4, Hi yj h5, Hi F9_ h6])
         obtain c6 | c6 := zy ah
         ·cases c6.2
          cases hl2
          cases ae
          cases hl1
          cases aa
          exact yE hE (Z5 ++ [c6])
         ·cases c6.2
          exact yB cx _ hl2 (Z5 ++ [c6])
        ·cases c5.2
         cases hl2
         exact yB bk () ae (Z4 ++ [c5])
     ·cases c3.2
      cases hl1
      exact yB au () aa (Z2 ++ [c3])
def zdz : List y6 := kA 39 (eI .i64) F2_ vq :: zdA
theorem KF [H : HS X0 zdA] : OkH zdz := yS1 true Tryz.func39 fun n_ r0 aa E hE => by
 obtain ⟨g0, aa⟩ := gdE aa
 cases aa
 exact yE hE [Hn (rL g0), Ha (rM 1 (eI .i64) n_ (0 : Int))]
def zdy : List y6 := Jp 41 zO zO yS (eI .i64) Kd :: zdz
theorem z0y [H : HS X0 zdz] : OkH zdy := yS3 true Tryz.func41 fun m_ other l_ r0 aa E hE => by
 refine yNs 11 [] [2,3,4] (fun z : Unit => WX m_ other l_ = some r0) (fun z => []) [Hh (.cut 1)] ?_ fun J1 au => ?_
 ·rintro ⟨⟩ aa
  obtain c0 | c0 := zy aa
  ·cases c0.2
   exact yE hE [c0]
  ·obtain ⟨r_, h0, aa⟩ := zt c0.2
   cases aa
   exact yE hE [c0, zC2 60 h0]
 ·refine yMb 11210 [J1] [2,3,4,12,13,14] (fun x => [(14, .d (I x))]) aa  [Ha (lnM zO [m_, other])] fun t2 aa k9 m2 aw ae hl1 J2 ax => ?_
  obtain c1 | c1 := zy ae
  ·obtain ⟨l5, h1, ai, h2, ae⟩ := ye c1.2
   let Z0 : List HO := [c1, Hn (iL zO h1), Hs (iM zO h1), zC1 94 h2]
   obtain c2 | c2 := zy ae
   ·cases c2.2
    cases hl1
    cases aa
    exact yE hE (Z0 ++ [c2])
   ·cases c2.2
    exact yB ax _ hl1 (Z0 ++ [c2])
  ·cases c1.2
   cases hl1
   exact yB au () aa [c1]
def zdx : List y6 := Jp 21 zO zO yS (eT3 (eI .i64) (eI .i64) (eI .i64)) Jb :: zdy
theorem KK [H : HS X0 zdy] : OkH zdx := yS3 false Tryz.func21 fun m_ other l_ r0 aa E hE => by
 obtain ⟨r_, h0, aa⟩ := zt aa
 let Z0 : List HO := [zC3 0 h0]
 obtain c0 | c0 := zy aa
 ·cases c0.2
  exact yE hE (Z0 ++ [c0])
 ·refine yK 111 [] [] (fun z : Unit => XT = some r0) (fun z => []) [2,3,4] (Z0 ++ [c0, Hh (.cut 0)]) ?_ fun J1 au => ?_
  ·rintro ⟨⟩ aa
   cases aa
   exact yE hE []
  ·refine yMb 111210 [J1] [3,4,20,21,22] (fun x => [(22, .d (I x))]) c0.2  [Ha (lnM F5_ l_)] fun t2 aa fj m2 aw ae hl1 J2 ax => ?_
   obtain c1 | c1 := zy ae
   ·obtain ⟨cq, h1, ai, h2, ae⟩ := ye c1.2
    let Z1 : List HO := [c1, Hi F5_ h1, zC3 57 h2]
    obtain c2 | c2 := zy ae
    ·cases c2.2
     cases hl1
     cases aa
     exact yE hE (Z1 ++ [c2])
    ·cases c2.2
     exact yB ax _ hl1 (Z1 ++ [c2])
   ·cases c1.2
    cases hl1
    exact yB au () aa [c1]
def zdw : List y6 := z9S 15 eB Wc :: zdx
theorem KG [H : HS X0 zdx] : OkH zdw := yS0 true Tryz.func15 fun r0 aa E hE => by
 obtain ⟨r_, h0, ai, h1, am, h2, az, h3, cp, h4, aa⟩ := z3x aa
 obtain ⟨gh, h5, aa⟩ := zt aa
 let Z0 : List HO := [zg 102, Hm (shM F9_ F9_ ([(z7.mk 1 0), (z7.mk 0 1)])), Hs (zf1 102 h0 (loC z1H ([(z7.mk 1 0), (z7.mk 0 1)] : List z7) <| loN)), Hm (shM F9_ F9_ ([(z7.mk 1 0), (z7.mk 0 1)])), zC2 75 h1, zC2 75 h2, zC2 75 h3, Hk [] (Us (hat 55)) (zf3 55 h4 (loC zO r_ <| loC z0s ([] : List (List Int)) <| loC (eI .i64) 1 <| loN)), Hk [] (Us (hat 55)) (zf3 55 h5 (loC zO r_ <| loC z0s ([] : List (List Int)) <| loC (eI .i64) 2 <| loN))]
 obtain c0 | c0 := zy aa
 ·cases c0.2
  exact yE hE (Z0 ++ (Hb c0 :: Hb c0 :: Hb c0 :: (rpN 22 qT [])))
 ·obtain c1 | c1 := zy c0.2
  ·cases c1.2
   exact yE hE (Z0 ++ (Hb c0 :: Hb c0 :: Hb c0 :: Hb c1 :: Hb c1 :: Hb c1 :: (rpN 19 qT [])))
  ·let Z1 : List HO := (Z0 ++ [c0, c0, c0, c1, c1, c1])
   obtain c2 | c2 := zy c1.2
   ·cases c2.2
    exact yE hE (Z1 ++ (Hb c2 :: Hb c2 :: Hb c2 :: (rpN 16 qT [])))
   ·obtain c3 | c3 := zy c2.2
    ·cases c3.2
     exact yE hE (Z1 ++ (Hb c2 :: Hb c2 :: Hb c2 :: Hb c3 :: Hb c3 :: Hb c3 :: (rpN 13 qT [])))
    ·let Z2 : List HO := (Z1 ++ [c2, c2, c2, c3, c3, c3])
     obtain c4 | c4 := zy c3.2
     ·cases c4.2
      exact yE hE (Z2 ++ (Hb c4 :: Hb c4 :: Hb c4 :: (rpN 10 qT [])))
     ·obtain c5 | c5 := zy c4.2
      ·cases c5.2
       exact yE hE (Z2 ++ (Hb c4 :: Hb c4 :: Hb c4 :: Hb c5 :: Hb c5 :: Hb c5 :: (rpN 7 qT [])))
      ·let Z3 : List HO := (Z2 ++ [c4, c4, c4, c5, c5, c5])
       obtain c6 | c6 := zy c5.2
       ·cases c6.2
        exact yE hE (Z3 ++ (Hb c6 :: Hb c6 :: Hb c6 :: (rpN 4 qT [])))
       ·obtain c7 | c7 := zy c6.2
        ·cases c7.2
         exact yE hE (Z3 ++ [c6, c6, c6, c7, c7, c7, qT])
        ·let Z4 : List HO := (Z3 ++ [c6, c6, c6, c7, c7, c7])
         obtain c8 | c8 := zy c7.2
         ·cases c8.2
          exact yE hE (Z4 ++ [c8])
         ·obtain ⟨iz, h6, jk, h7, kg, h8, kh, h9, js, h10, aa⟩ := z3x c8.2
          obtain ⟨gm, h11, od, h12, mf, h13, l4, h14, k0, h15, aa⟩ := z3x aa
          obtain ⟨j9, h16, aa⟩ := zt aa
          refine yC 11111111111111110 [] [1,3,5,7,9,11,12,13,14,15,16] (Z4 ++ [c8, Hk [] (Us (hat 4)) (zf3 4 h6 (loC zO r_ <| loC z0s ([] : List (List Int)) <| loC (eI .i64) 2 <| loN)), zC1 2 h7, zg 4, Hm (shM F2_ F3_ ([jk])), Hs (zf3 4 h8 (loC zO r_ <| loC XV [jk] <| loC (eI .i64) 2 <| loN)), Hm (shM F2_ F3_ ([jk])), zC1 2 h9, zg 4, Hm (shM F2_ F3_ ([kh])), Hs (zf3 4 h10 (loC zO r_ <| loC XV [kh] <| loC (eI .i64) 2 <| loN)), Hm (shM F2_ F3_ ([kh])), zC1 2 h11, zg 4, Hm (shM F2_ F3_ ([gm])), Hs (zf3 4 h12 (loC zO r_ <| loC XV [gm] <| loC (eI .i64) 2 <| loN)), Hm (shM F2_ F3_ ([gm])), zC1 2 h13, zg 4, Hm (shM F2_ F3_ ([mf])), Hs (zf3 4 h14 (loC zO r_ <| loC XV [mf] <| loC (eI .i64) 2 <| loN)), Hm (shM F2_ F3_ ([mf])), zg 102, Hm (shM F9_ F9_ ([(z7.mk 0 0)])), Hs (zf1 102 h15 (loC z1H ([(z7.mk 0 0)] : List z7) <| loN)), Hm (shM F9_ F9_ ([(z7.mk 0 0)])), zg 102, Hm (shM F9_ F9_ ([(z7.mk 1 0), (z7.mk 1 1)])), Hs (zf1 102 h16 (loC z1H ([(z7.mk 1 0), (z7.mk 1 1)] : List z7) <| loN)), Hm (shM F9_ F9_ ([(z7.mk 1 0), (z7.mk 1 1)])), Hh (.cut 1)]) ?_
          obtain c9 | c9 := zy aa
          ·cases c9.2
           exact yE hE (Hb c9 :: Hb c9 :: Hb c9 :: (rpN 25 qT []))
          ·obtain c10 | c10 := zy c9.2
           ·cases c10.2
            exact yE hE (Hb c9 :: Hb c9 :: Hb c9 :: Hb c10 :: Hb c10 :: Hb c10 :: (rpN 22 qT []))
           ·let Z5 : List HO := [c9, c9, c9, c10, c10, c10]
            obtain c11 | c11 := zy c10.2
            ·cases c11.2
             exact yE hE (Z5 ++ (Hb c11 :: Hb c11 :: Hb c11 :: (rpN 19 qT [])))
            ·obtain c12 | c12 := zy c11.2
             ·cases c12.2
              exact yE hE (Z5 ++ (Hb c11 :: Hb c11 :: Hb c11 :: Hb c12 :: Hb c12 :: Hb c12 :: (rpN 16 qT [])))
             ·let Z6 : List HO := (Z5 ++ [c11, c11, c11, c12, c12, c12])
              obtain c13 | c13 := zy c12.2
              ·cases c13.2
               exact yE hE (Z6 ++ (rpN 5 (Hb c13) (rpN 11 qT [])))
              ·obtain ⟨mv, h17, aa⟩ := zt c13.2
               let Z7 : List HO := (Z6 ++ [c13, c13, c13, Hk [] (Us (hat 3)) (zf2 3 h17 (loC z9N iz.1 <| loC zO k0 <| loN)), c13, c13])
               obtain c14 | c14 := zy aa
               ·cases c14.2
                exact yE hE (Z7 ++ (rpN 5 (Hb c14) (rpN 6 qT [])))
               ·obtain ⟨mw, h18, aa⟩ := zt c14.2
                let Z8 : List HO := (Z7 ++ [c14, c14, c14, Hk [] (Us (hat 3)) (zf2 3 h18 (loC z9N kg.1 <| loC zO k0 <| loN)), c14, c14])
                obtain c15 | c15 := zy aa
                ·cases c15.2
                 exact yE hE (Z8 ++ (rpN 5 (Hb c15) [qT]))
                ·obtain ⟨rc, h19, aa⟩ := zt c15.2
                 let Z9 : List HO := (Z8 ++ [c15, c15, c15, Hk [] (Us (hat 3)) (zf2 3 h19 (loC z9N l4.1 <| loC zO j9 <| loN)), c15, c15])
                 obtain c16 | c16 := zy aa
                 ·cases c16.2
                  exact yE hE (Z9 ++ [c16])
                 ·obtain ⟨pc, h20, pd, h21, pu, h22, aa⟩ := jG c16.2
                  let Z10 : List HO := (Z9 ++ [c16, zC1 2 h20, zC1 2 h21, zg 0, Hm (shM F2_ F3_ ([pc, pd])), Hs (zf3 0 h22 (loC zO r_ <| loC zO j9 <| loC XV [pc, pd] <| loN))])
                  obtain c17 | c17 := zy aa
                  ·obtain c18 | c18 := zy c17.2
                   ·cases c18.2
                    exact yE hE (Z10 ++ [c17, c17, c17, c18, c18, c18])
                   ·cases c18.2
                    exact yE hE (Z10 ++ [c17, c17, c17, c18, c18, c18])
                  ·cases c17.2
                   exact yE hE (Z10 ++ [c17, c17, c17, qF, qF, qF])
def zdv : List y6 := z9S 4 eB qX :: zdw
theorem Vj [H : HS X0 zdw] : OkH zdv := yS0 true Tryz.func4 fun r0 aa E hE => by
 obtain ⟨r_, h0, aa⟩ := zt aa
 refine yN 1111 [] [1] (fun z : Unit => wm r_ = some r0) (fun z => []) [1,2] [zg 103, Hm (shM F9_ F9_ ([(z7.mk 0 0)])), Hs (zf1 103 h0 (loC z1H ([(z7.mk 0 0)] : List z7) <| loN)), Hm (shM F9_ F9_ ([(z7.mk 0 0)])), Hh (.cut 1)] ?_ fun J1 au => ?_
 ·rintro ⟨⟩ aa
  obtain ⟨ai, h1, am, h2, az, h3, cp, h4, gh, h5, aa⟩ := z3x aa
  obtain ⟨iz, h6, jk, h7, aa⟩ := ye aa
  let Z0 : List HO := [zC3 8 h1, Hk [] (Us (hat 56)) (zf3 56 h2 (loC zO r_ <| loC XV ai.1 <| loC (eI .i64) 3 <| loN)), Hk [] (Us (hat 5)) (zf3 5 h3 (loC zO r_ <| loC XV ai.1 <| loC (eI .i64) 4 <| loN)), zg 103, Hm (shM F9_ F9_ ([(z7.mk 1 0), (z7.mk 2 0), (z7.mk 3 0), (z7.mk 0 1)])), Hs (zf1 103 h4 (loC z1H ([(z7.mk 1 0), (z7.mk 2 0), (z7.mk 3 0), (z7.mk 0 1)] : List z7) <| loN)), Hm (shM F9_ F9_ ([(z7.mk 1 0), (z7.mk 2 0), (z7.mk 3 0), (z7.mk 0 1)])), zC2 76 h5, zC2 76 h6, zg 5, Hm (shM F2_ F3_ ([[1]])), Hs (zf3 5 h7 (loC zO r_ <| loC XV ([[1]] : List (List Int)) <| loC (eI .i64) 2 <| loN)), Hm (shM F2_ F3_ ([[1]]))]
  obtain c0 | c0 := zy aa
  ·obtain c1 | c1 := zy c0.2
   ·let Z1 : List HO := (Z0 ++ [c0, c0, c0, c1, c1, c1])
    obtain c2 | c2 := zy c1.2
    ·obtain c3 | c3 := zy c2.2
     ·obtain ⟨kg, h8, aa⟩ := zt c3.2
      let Z2 : List HO := (Z1 ++ [c2, c2, c2, c3, c3, c3, Hk [] (Us (hat 4)) (zf2 4 h8 (loC z9N az.1 <| loC zO cp <| loN)), c3])
      obtain c4 | c4 := zy aa
      ·obtain c5 | c5 := zy c4.2
       ·let Z3 : List HO := (Z2 ++ [c4, c4, c4, c5, c5, c5])
        obtain c6 | c6 := zy c5.2
        ·obtain c7 | c7 := zy c6.2
         ·obtain ⟨kh, h9, aa⟩ := zt c7.2
          cases aa
          exact yE hE (Z3 ++ [c6, c6, c6, c7, zC0 0 h9, c7])
         ·cases c7.2
          exact yE hE (Z3 ++ [c6, c6, c6, c7, c7])
        ·cases c6.2
         exact yE hE (Z3 ++ [c6, c6, c6, qF, qF])
       ·cases c5.2
        exact yE hE (Z2 ++ (Hb c4 :: Hb c4 :: Hb c4 :: Hb c5 :: Hb c5 :: Hb c5 :: (rpN 5 qF [])))
      ·cases c4.2
       exact yE hE (Z2 ++ (Hb c4 :: Hb c4 :: Hb c4 :: (rpN 8 qF [])))
     ·cases c3.2
      exact yE hE (Z1 ++ (Hb c2 :: Hb c2 :: Hb c2 :: (rpN 4 (Hb c3) (rpN 11 qF []))))
    ·cases c2.2
     exact yE hE (Z1 ++ (Hb c2 :: Hb c2 :: Hb c2 :: (rpN 15 qF [])))
   ·cases c1.2
    exact yE hE (Z0 ++ (Hb c0 :: Hb c0 :: Hb c0 :: Hb c1 :: Hb c1 :: Hb c1 :: (rpN 18 qF [])))
  ·cases c0.2
   exact yE hE (Z0 ++ (Hb c0 :: Hb c0 :: Hb c0 :: (rpN 21 qF [])))
 ·refine yMb 1111210 [J1] [1,2,3] (fun x => [(2, .d (I x.1)), (3, .d (I x.2))]) aa  [] fun t2 aa ⟨total, s_⟩ m2 aw ae hl1 J2 ax => ?_
  obtain c8 | c8 := zy ae
  ·refine yN 111121001 [J1, J2] [1,2,3,61,62,65,66,67,70,71,72] (fun z : Int × Bool × Int × Int × Bool × Int × Bool => jR total s_ z.1 z.2.1 z.2.2.1 z.2.2.2.1 z.2.2.2.2.1 z.2.2.2.2.2.1 z.2.2.2.2.2.2 = some aw) (fun z => [(2, .d (I (w64 (total + (w64 ((z0N .i64 s_ s_) - s_)))))), (61, .d (I z.1)), (62, .d (B z.2.1)), (65, .d (I z.2.2.1)), (66, .d (I z.2.2.2.1)), (67, .d (B z.2.2.2.2.1)), (70, .d (I z.2.2.2.2.2.1)), (71, .d (I (w64 (total + (w64 ((z0N .i64 s_ s_) - s_)))))), (72, .d (B z.2.2.2.2.2.2))]) [1,2,3] [c8, Hh (.cut 0)] ?_ fun J3 bk => ?_
   ·rintro ⟨re, rf, rh, ri, rj, rk, rl⟩ ae
    cases ae
    exact yB ax _ hl1 []
   ·refine yNs 111121001201 [J1, J2, J3] [1,2,3,4] (zI (vN r_ total s_) aw) (fun z => [(4, .d (I z))]) [Hh (.cut 1)] ?_ fun J4 cx => ?_
    ·rintro tables ae
     obtain ⟨js, h10, gm, h11, ae⟩ := ye ae
     obtain ⟨g0, ae⟩ := gdE ae
     let Z4 : List HO := [zC2 76 h10, Hk [] (Us (hat 56)) (zf3 56 h11 (loC zO r_ <| loC z0s ([] : List (List Int)) <| loC (eI .i64) s_ <| loN)), Hn g0]
     obtain c9 | c9 := zy ae
     ·cases c9.2
      cases hl1
      cases aa
      exact yE (H := zx ((za7 Tryz.prog).or X0)) hE (Z4 ++ (Hb c9 :: Hb c9 :: Hb c9 :: (rpN 9 qT [])))
     ·obtain c10 | c10 := zy c9.2
      ·cases c10.2
       cases hl1
       cases aa
       exact yE (H := zx ((za7 Tryz.prog).or X0)) hE (Z4 ++ (Hb c9 :: Hb c9 :: Hb c9 :: (rpN 4 (Hb c10) (rpN 5 qT []))))
      ·let Z5 : List HO := (Z4 ++ (Hb c9 :: Hb c9 :: Hb c9 :: (rpN 4 (Hb c10) [])))
       obtain c11 | c11 := zy c10.2
       ·cases c11.2
        cases hl1
        cases aa
        exact yE (H := zx ((za7 Tryz.prog).or X0)) hE (Z5 ++ (rpN 4 (Hb c11) [qT]))
       ·let Z6 : List HO := (Z5 ++ (rpN 4 (Hb c11) []))
        obtain c12 | c12 := zy c11.2
        ·cases c12.2
         cases hl1
         cases aa
         exact yE (H := zx ((za7 Tryz.prog).or X0)) hE (Z6 ++ [c12])
        ·exact yB (H := zx ((za7 Tryz.prog).or X0)) bk (gm.2, gm.2 != 0, js.1, tables, js.1 != tables, gm.1, gm.1 != (w64 (total + (w64 ((z0N .i64 s_ s_) - s_))))) c12.2 (Z6 ++ [c12])
    ·refine yMb 111121001201210 [J1, J2, J3, J4] [1,2,3,4,5] (fun x => [(4, .d (I x.1)), (5, .d (I x.2))]) c8.2  [] fun t5 ae ⟨kl, i_⟩ m5 dc ah hl2 J5 dh => ?_
     obtain c13 | c13 := zy ah
     ·cases c13.2
      exact yB dh _ hl2 [c13]
     ·cases c13.2
      cases hl2
      exact yB cx kl ae [c13]
  ·cases c8.2
   cases hl1
   exact yB au () aa [c8]
theorem spc {X : XH Tryz.prog} {s : y6} {l : List y6} (w : ∀ [HS X l], OkH (s :: l)) (r : VW Tryz.prog l) (h : ((l.map y6.k).contains s.k) = false := by kernel_rfl) : VW Tryz.prog (s :: l) := ⟨fun c a b => @w ⟨c, a, b⟩, zbS h, r⟩
theorem z9L : VW Tryz.prog zdv := spc Vj <|
 spc KG <|
 spc KK <|
 spc z0y <|
 spc KF <|
 spc z0w <|
 spc z3i <|
 spc ub <|
 spc vU <|
 spc z3h <|
 spc Jx <|
 spc Wt <|
 spc Q7 <|
 spc XX <|
 spc UI <|
 spc JC <|
 spc UF <|
 spc KB <|
 spc uY <|
 spc qB <|
 spc Q6 <|
 spc z3g <|
 spc wE <|
 spc UB <|
 spc z1N <|
 spc KH <|
 spc KE <|
 spc KC <|
 spc z0x <|
 spc JD <|
 spc Vf <|
 spc Wu <|
 spc Zl <|
 spc JA <|
 spc Jz <|
 spc UC <|
 spc JF <|
 spc JE <|
 spc Xt <|
 spc Vl <|
 spc Jw <|
 spc z1L <|
 spc z0t <|
 spc z0u <|
 spc z1M <|
 spc Qc <|
 spc z0v <|
 spc Jv <|
 spc uK <|
 spc UA <|
 spc Zm <|
 spc Ju <|
 spc Kx <|
 spc YD <|
 spc Y4 <|
 spc Uz <|
 spc Jy <|
 spc z1P <|
 spc Vk <|
 spc z0A <|
 spc z1O <|
 spc UJ <|
 spc KI <|
 spc z0z <|
 spc KD <|
 spc Ky <|
 spc KA <|
 spc Q4 <|
 spc z0D <|
 spc kD <|
 spc Vm <|
 spc Qd <|
 spc Kz <|
 spc Kw <|
 spc uJ <|
 spc jA <|
 spc Q5 <|
 spc KJ <|
 spc z0C <|
 spc z0B <|
 spc Wx <|
 spc XY <|
 spc Xq <|
 spc Vh <|
 spc Y3 <|
 spc Vg <|
 spc JB <|
 spc UE <|
 spc XZ <|
 spc Xs <|
 spc qC <|
 spc kC <|
 spc W0 <|
 spc W1 <|
 spc Xr <|
 spc jX <|
 spc UG <|
 spc Vi <|
 spc UH <|
 spc wq <|
 spc wN <|
 spc Wz <|
 spc Q9 <|
 spc Q8 <|
 spc Qa <|
 trivial
theorem XG {x : Int} (h1 : -9223372036854775808 ≤ x) (h2 : x ≤ 9223372036854775807) : w64 x = x := by
 simp only [w64, IntKind.wrap, IntKind.bits, IntKind.signed]
 simp
 omega
section
variable {α β σ τ ρ : Type}
def Ret (x : Option α) (Q : α → Prop) : Prop := ∃ a, x = some a ∧ Q a
theorem Ret.mono {x : Option α} {Q R : α → Prop} (h : Ret x Q) (q : ∀ a, Q a → R a) : Ret x R := by
 have ⟨a, e, h⟩ := h
 exact ⟨a, e, q a h⟩
theorem UQ {a : α} {Q : α → Prop} : Ret (some a) Q ↔ Q a := ⟨fun ⟨b, e, q⟩ => by cases e; exact q, fun q => ⟨a, rfl, q⟩⟩
theorem z1Z {c : Bool} {x y : Option α} {Q : α → Prop} : Ret (bif c then x else y) Q ↔ (c = true → Ret x Q) ∧ (c = false → Ret y Q) := by
 cases c <;> simp
theorem QY (l : List α) (i : Nat) : idx l (i : Int) = l[i]? := rfl
theorem gdT {p : Prop} [Decidable p] {x : Option α} (h : p) : gd p x = x := by unfold gd; rw [if_pos h]
theorem bdT {x : Option α} {u : α} {f : α → Option ρ} (h : x = some u) : Option.bind x f = f u := by rw [h]; rfl
theorem K9 (step : σ → Option (LR σ τ)) (n : Nat) (s : σ) : JN step (n + 1) s = (match step s with | none => none | some (.next s') => JN step n s' | some (.done t) => some t) := rfl
def LRP (N : σ → Prop) (D : τ → Prop) : LR σ τ → Prop
 | .next s => N s
 | .done t => D t
theorem z6B {step : σ → Option (LR σ τ)} (I : σ → Prop) (m : σ → Nat) {R : τ → Prop} {s : σ} (hs : I s) (hm : m s < 18446744073709551616)
  (h : ∀ s, I s → Ret (step s) (LRP (fun s' => I s' ∧ m s' < m s) R)) : Ret (loop step s) R := by
 have gen : ∀ (n : Nat) (s : σ), I s → m s < n → Ret (JN step n s) R := by
  intro n
  induction n with
  | zero => intro s _ h; omega
  | succ n ih =>
   intro s hs hm
   have ⟨a, e, q⟩ := h s hs
   rw [K9, e]
   cases a with
   | next s' => exact ih s' q.1 (by have := q.2; omega)
   | done t => exact ⟨t, rfl, q⟩
 exact gen z3s s hs hm
theorem Xl {step : σ → Option (LR σ τ)} (st : Nat → σ) (n : Nat) {t : τ} (hn : n < 9223372036854775808) (h : ∀ i, i < n → step (st i) = some (.next (st (i + 1)))) (hd : step (st n) = some (.done t)) : loop step (st 0) = some t := by
 have gen : ∀ (k : Nat) (i : Nat), i ≤ n → n - i < k → JN step k (st i) = some t := by
  intro k
  induction k with
  | zero => intro i _ h; omega
  | succ k ih =>
   intro i hi hk
   rw [K9]
   rcases Nat.lt_or_ge i n with q | q
   ·rw [h i q]
    exact ih (i + 1) q (by omega)
   ·have : i = n := by omega
    subst this
    rw [hd]
 exact gen z3s 0 (Nat.zero_le _) (by show n - 0 < 18446744073709551616; omega)
end
structure VM (m : z6) : Prop where
 in1 : 1 ≤ m.Inputs
 in16 : m.Inputs ≤ 16
 out1 : 1 ≤ m.Outputs
 out16 : m.Outputs ≤ 16
 len1 : 1 ≤ m.Rows.length
 len64 : m.Rows.length ≤ 64
 row : ∀ r ∈ m.Rows, (r.length : Int) = m.Inputs
 edge : ∀ r ∈ m.Rows, ∀ x ∈ r, (x.To = -1 ∧ x.Out = -1) ∨ (0 ≤ x.To ∧ x.To < (m.Rows.length : Int) ∧ 0 ≤ x.Out ∧ x.Out < m.Outputs)
def kk (m : z6) : Nat := m.Inputs.toNat
def E (m : z6) (s i : Nat) : z7 := ((m.Rows[s]?.getD [])[i]?).getD ⟨-1, -1⟩
section
variable {m : z6} (h : VM m)
include h
theorem VM.kk_eq : ((kk m : Nat) : Int) = m.Inputs := by have := h.in1; unfold kk; omega
theorem VM.kk_le : kk m ≤ 16 := by have := h.in16; unfold kk; omega
end
structure WM (m : z6) : Prop where
 in1 : 1 ≤ m.Inputs
 in16 : m.Inputs ≤ 16
 len1 : 1 ≤ m.Rows.length
 len : m.Rows.length ≤ 128
 row : ∀ r ∈ m.Rows, (r.length : Int) = m.Inputs
 edge : ∀ r ∈ m.Rows, ∀ x ∈ r, (x.To = -1 ∧ x.Out = -1) ∨ (0 ≤ x.To ∧ x.To < (m.Rows.length : Int) ∧ 0 ≤ x.Out)
variable {α : Type}
theorem z3K (N t : Nat) (g : Nat → α) (v : α) : ((List.range N).map g).set t v = (List.range N).map fun x => if x = t then v else g x := by
 refine List.ext_getElem (by simp) fun n h1 h2 => ?_
 simp [List.getElem_set, List.getElem_map, List.getElem_range]
 by_cases e : t = n
 ·rw [if_pos e, if_pos e.symm]
 ·rw [if_neg e, if_neg (Ne.symm e)]
def nxE (m : z6) (s : Int) (i : Nat) : z7 := if s < 0 then ⟨-1, -1⟩ else E m s.toNat i
def rsp (m : z6) : Int → List Nat → List Int
 | _, [] => []
 | s, i :: w => (nxE m s i).Out :: rsp m (nxE m s i).To w
def aft (m : z6) : Int → List Nat → Int
 | s, [] => s
 | s, i :: w => aft m (nxE m s i).To w
theorem z2C (m : z6) : ∀ (w : List Nat) (s : Int) (i : Nat), rsp m s (w ++ [i]) = rsp m s w ++ [(nxE m (aft m s w) i).Out] ∧ aft m s (w ++ [i]) = (nxE m (aft m s w) i).To
 | [], s, i => ⟨rfl, rfl⟩
 | j :: w, s, i => by
  have := z2C m w (nxE m s j).To i
  simp only [List.cons_append, rsp, aft, this.1, this.2, and_self]
def SEq (m : z6) (s t : Nat) : Prop := ∀ w : List Nat, (∀ i ∈ w, i < kk m) → rsp m (s : Int) w = rsp m (t : Int) w
theorem z9b (m : z6) (s i : Nat) : nxE m (s : Int) i = E m s i := by
 unfold nxE
 rw [if_neg (by omega), Int.toNat_natCast]
def zed (k : Nat) : List Nat → Nat
 | [] => 0
 | d :: r => d + k * zed k r
def GG (k : Nat) : Nat → Nat
 | 0 => 0
 | n + 1 => GG k n + k ^ n
def rk (k : Nat) (w : List Nat) : Nat := GG k w.length + zed k w.reverse
def Wd (k : Nat) (w : List Nat) : Prop := ∀ i ∈ w, i < k
structure Acc (m : z6) (t : Nat) (v : List Nat) : Prop where
 wd : Wd (kk m) v
 len : v.length < m.Rows.length
 aft : aft m 0 v = (t : Int)
 least : ∀ u, Wd (kk m) u → Go.Own.aft m 0 u = (t : Int) → rk (kk m) v ≤ rk (kk m) u
def zcj (m : z6) (L : List Nat) : Prop := L.Pairwise fun s t => ∀ v w, Acc m s v → Acc m t w → rk (kk m) v < rk (kk m) w
def z81 : List Int → List Int → Int
 | [], [] => 0
 | [], _ :: _ => -1
 | _ :: _, [] => 1
 | x :: a, y :: b => if x < y then -1 else if y < x then 1 else z81 a b
def zg7 (a b : List Int) : Int := if a.length < b.length then -1 else if b.length < a.length then 1 else z81 a b
structure ze7 (m : z6) (F : List Nat) : Prop where
 sorted : zcj m F
 acc : ∀ t ∈ F, t < m.Rows.length ∧ ∃ v, Acc m t v
 dist : F.Pairwise fun s t => ¬ SEq m s t
 all : ∀ t v, t < m.Rows.length → Acc m t v → ∃ s ∈ F, SEq m s t ∧ ∃ w, Acc m s w ∧ rk (kk m) w ≤ rk (kk m) v
def Rch (m : z6) (t : Nat) : Prop := ∃ u, Wd (kk m) u ∧ aft m 0 u = (t : Int)
section
variable {m : z6} (h : VM m)
include h
omit h in theorem rch_step {s i : Nat} (hs : Rch m s) (hi : i < kk m) (h0 : 0 ≤ (E m s i).To) : Rch m (E m s i).To.toNat := by
 obtain ⟨u, hu, e⟩ := hs
 refine ⟨u ++ [i], fun j hj => ?_, ?_⟩
 ·rcases List.mem_append.1 hj with q | q
  ·exact hu j q
  ·have : j = i := by simpa using q
   omega
 ·have := (z2C m u 0 i).2
  rw [e, z9b] at this
  rw [this]
  omega
end
def QW (l : List (List Int)) : Prop := l.Pairwise fun a b => ¬ zg7 b a < 0
def Cpl (m : z6) : Prop := ∀ s i, s < m.Rows.length → i < kk m → 0 ≤ (E m s i).To
def dg (O d : Nat) : z7 := ⟨((d / O : Nat) : Int), ((d % O : Nat) : Int)⟩
def esR (O B : Nat) : Nat → Nat → List z7
 | 0, _ => []
 | L + 1, k => dg O (k % B) :: esR O B L (k / B)
def InE (O S : Nat) (e : z7) : Prop := 0 ≤ e.Out ∧ e.Out < (O : Int) ∧ 0 ≤ e.To ∧ e.To < (S : Int)
def z2W (O S : Nat) : List z7 → Option (List z7)
 | [] => none
 | e :: r => if e.Out + 1 < (O : Int) then some (⟨e.To, e.Out + 1⟩ :: r) else if e.To + 1 < (S : Int) then some (⟨e.To + 1, 0⟩ :: r) else (z2W O S r).map (⟨0, 0⟩ :: ·)
theorem zdJ {O S d : Nat} (hO : 1 ≤ O) (hd : d < S * O) : InE O S (dg O d) := by
 have h1 := Nat.mod_lt d hO
 have h2 := (Nat.div_lt_iff_lt_mul hO).2 hd
 exact ⟨Int.natCast_nonneg _, Int.ofNat_lt.2 h1, Int.natCast_nonneg _, Int.ofNat_lt.2 h2⟩
theorem VS (O B : Nat) : ∀ L k, (esR O B L k).length = L
 | 0, _ => rfl
 | L + 1, k => by simp [esR, VS O B L]
theorem z4K {O B : Nat} : ∀ {L k j}, j < L → (esR O B L k)[j]? = some (dg O (k / B ^ j % B))
 | L + 1, k, 0, _ => by simp [esR]
 | L + 1, k, j + 1, h => by
  rw [esR, List.getElem?_cons_succ, z4K (by omega), Nat.div_div_eq_div_mul, Nat.pow_succ, Nat.mul_comm B]
theorem z31 (O B : Nat) : ∀ L, esR O B L 0 = List.replicate L ⟨0, 0⟩
 | 0 => rfl
 | L + 1 => by rw [esR, Nat.zero_mod, Nat.zero_div, z31 O B L, List.replicate_succ]; unfold dg; rw [Nat.zero_div, Nat.zero_mod]; rfl
variable {O S : Nat}
theorem z2V (hO : 1 ≤ O) (hS : 1 ≤ S) : ∀ (L k : Nat), k < (S * O) ^ L → z2W O S (esR O (S * O) L k) = if k + 1 < (S * O) ^ L then some (esR O (S * O) L (k + 1)) else none
 | 0, k, h => by rw [Nat.pow_zero] at h ⊢; rw [if_neg (by omega)]; rfl
 | L + 1, k, h => by
  have hB : 0 < S * O := Nat.mul_pos hS hO
  obtain ⟨B, hBe⟩ : ∃ B, B = S * O := ⟨_, rfl⟩
  have h2 : k / (S * O) < (S * O) ^ L := by rw [Nat.div_lt_iff_lt_mul hB, ← Nat.pow_succ]; exact h
  have ih := z2V hO hS L (k / (S * O)) h2
  have hd := Nat.mod_lt k hB
  have hk := Nat.div_add_mod k (S * O)
  obtain ⟨d, hde⟩ : ∃ d, d = k % (S * O) := ⟨_, rfl⟩
  have hdd := Nat.div_add_mod d O
  have hdm := Nat.mod_lt d hO
  have hdl := (Nat.div_lt_iff_lt_mul hO).2 (show d < S * O by omega)
  have hp := Nat.pow_succ (S * O) L
  have up : d + 1 < S * O → k + 1 < (S * O) ^ (L + 1) ∧ (k + 1) % (S * O) = d + 1 ∧ (k + 1) / (S * O) = k / (S * O) := fun q => by
   have e : k + 1 = S * O * (k / (S * O)) + (d + 1) := by omega
   refine ⟨?_, by rw [e, Nat.mul_add_mod, Nat.mod_eq_of_lt q], by rw [e, Nat.mul_add_div hB, Nat.div_eq_of_lt q, Nat.add_zero]⟩
   have := Nat.mul_le_mul_left (S * O) (Nat.succ_le_of_lt h2)
   rw [Nat.mul_succ] at this
   rw [hp, e, Nat.mul_comm ((S * O) ^ L)]
   omega
  rw [esR, ← hde]
  unfold z2W
  show (if ((d % O : Nat) : Int) + 1 < (O : Int) then _ else if ((d / O : Nat) : Int) + 1 < (S : Int) then _ else _) = _
  by_cases c1 : d % O + 1 < O
  ·rw [if_pos (by omega)]
   have q : d + 1 < S * O := by
    have := Nat.mul_le_mul_left O (Nat.succ_le_of_lt hdl)
    rw [Nat.mul_succ, Nat.mul_comm O S] at this
    omega
   obtain ⟨u1, u2, u3⟩ := up q
   have e : d + 1 = O * (d / O) + (d % O + 1) := by omega
   rw [if_pos u1, esR, u2, u3]
   unfold dg
   have e1 : (d + 1) / O = d / O := by rw [e, Nat.mul_add_div hO, Nat.div_eq_of_lt c1, Nat.add_zero]
   have e2 : (d + 1) % O = d % O + 1 := by rw [e, Nat.mul_add_mod, Nat.mod_eq_of_lt c1]
   rw [e1, e2]
   rfl
  ·rw [if_neg (by omega)]
   have e : d + 1 = O * (d / O + 1) := by rw [Nat.mul_add, Nat.mul_one]; omega
   by_cases c2 : d / O + 1 < S
   ·rw [if_pos (by omega)]
    have q : d + 1 < S * O := by
     have := Nat.mul_lt_mul_of_pos_left c2 hO
     rw [Nat.mul_comm O S] at this
     omega
    obtain ⟨u1, u2, u3⟩ := up q
    rw [if_pos u1, esR, u2, u3]
    unfold dg
    rw [e, Nat.mul_div_cancel_left _ hO, Nat.mul_mod_right]
    rfl
   ·rw [if_neg (by omega), ih]
    have q : d + 1 = S * O := by rw [e, show d / O + 1 = S by omega, Nat.mul_comm]
    have e3 : k + 1 = S * O * (k / (S * O) + 1) := by rw [Nat.mul_add, Nat.mul_one]; omega
    have e4 : (k + 1) % (S * O) = 0 := by rw [e3, Nat.mul_mod_right]
    have e5 : (k + 1) / (S * O) = k / (S * O) + 1 := by rw [e3, Nat.mul_div_cancel_left _ hB]
    have e6 : k + 1 < (S * O) ^ (L + 1) ↔ k / (S * O) + 1 < (S * O) ^ L := by
     rw [hp, e3, Nat.mul_comm ((S * O) ^ L)]
     exact Nat.mul_lt_mul_left hB
    by_cases c3 : k / (S * O) + 1 < (S * O) ^ L
    ·rw [if_pos c3, if_pos (e6.2 c3), esR, e4, e5]
     unfold dg
     rw [Nat.zero_div, Nat.zero_mod]
     rfl
    ·rw [if_neg c3, if_neg (fun g => c3 (e6.1 g))]
     rfl
variable {n : Nat}
theorem z5p (h : n < 4611686018427387904) : w64 ((n : Int) + 1) = ((n + 1 : Nat) : Int) := by rw [XG (by omega) (by omega)]; rfl
variable {m : z6}
theorem z9h (hm : m.Outputs = (O : Int)) (hO : O ≤ 10000) (hS : S ≤ 10000) {all : List z7} (hl : all.length ≤ 10000) (ha : ∀ e ∈ all, InE O S e) :
  Ret (loop (fun q => xC m (S : Int) q.1 q.2) (all, w64 (((all.length : Nat) : Int) - 1))) fun r => match z2W O S all.reverse with | some x => r.1 = x.reverse ∧ 0 ≤ r.2 | none => r.2 < 0 := by
 refine z6B (fun q => ∃ (p : List z7) (z : Nat), q.1 = p ++ List.replicate z (⟨0, 0⟩ : z7) ∧ q.2 = (p.length : Int) - 1 ∧ (∀ e ∈ p, InE O S e) ∧ p.length + z = all.length ∧ z2W O S all.reverse = (z2W O S p.reverse).map (List.replicate z (⟨0, 0⟩ : z7) ++ ·)) (fun q => (q.2 + 1).toNat) ⟨all, 0, by simp, by rw [XG (by omega) (by omega)], ha, rfl, by cases z2W O S all.reverse <;> simp⟩ (by simp only; rw [XG (by omega) (by omega)]; omega) ?_
 rintro ⟨_, _⟩ ⟨p, z, rfl, rfl, h3, h4, h5⟩
 show Ret (xC m (S : Int) _ _) _
 unfold xC
 rw [z1Z]
 refine ⟨fun c => ?_, fun c => ?_⟩
 ·have hp : 1 ≤ p.length := by have := of_decide_eq_true c; omega
  obtain ⟨p', e, rfl⟩ : ∃ p' e, p = p' ++ [e] := by
   rcases List.eq_nil_or_concat p with g | ⟨p', e, g⟩
   ·subst g; simp at hp
   ·exact ⟨p', e, by simpa using g⟩
  obtain ⟨i1, i2, i3, i4⟩ := h3 e (by simp)
  have hj : (((p' ++ [e]).length : Nat) : Int) - 1 = ((p'.length : Nat) : Int) := by simp
  have hset : ∀ x y : z7, (p' ++ [x] ++ List.replicate z (⟨0, 0⟩ : z7)).set p'.length y = p' ++ [y] ++ List.replicate z (⟨0, 0⟩ : z7) := fun x y => by
   rw [List.append_assoc, List.set_append, if_neg (by omega), Nat.sub_self, List.append_assoc]; rfl
  have hget : ∀ x : z7, (p' ++ [x] ++ List.replicate z (⟨0, 0⟩ : z7))[p'.length]? = some x := fun x => by
   rw [List.append_assoc, List.getElem?_append_right (Nat.le_refl _), Nat.sub_self]; rfl
  have hr : (p' ++ [e]).reverse = e :: p'.reverse := by simp
  rw [hr] at h5
  have hw1 : w64 (e.Out + 1) = e.Out + 1 := XG (by omega) (by omega)
  have hw2 : w64 (e.To + 1) = e.To + 1 := XG (by omega) (by omega)
  rw [hj, Int.toNat_natCast, QY, bdT (hget e), bdT (hget e), hset, hw1, QY, bdT (hget _), z1Z, hm]
  refine ⟨fun c => ?_, fun c => ?_⟩
  ·have c : e.Out + 1 < (O : Int) := of_decide_eq_true c
   have hin : z2W O S (e :: p'.reverse) = some (⟨e.To, e.Out + 1⟩ :: p'.reverse) := by unfold z2W; rw [if_pos c]
   rw [hin] at h5
   refine UQ.2 ?_
   rw [h5]
   exact ⟨by simp, by simp only; omega⟩
  ·have c : ¬ e.Out + 1 < (O : Int) := of_decide_eq_false c
   rw [bdT (hget _), hset, QY, bdT (hget _), hset, QY, hw2, bdT (hget _), z1Z]
   refine ⟨fun c2 => ?_, fun c2 => ?_⟩
   ·have c2 : e.To + 1 < (S : Int) := of_decide_eq_true c2
    have hin : z2W O S (e :: p'.reverse) = some (⟨e.To + 1, 0⟩ :: p'.reverse) := by unfold z2W; rw [if_neg c, if_pos c2]
    rw [hin] at h5
    refine UQ.2 ?_
    rw [h5]
    exact ⟨by simp, by simp only; omega⟩
   ·have c2 : ¬ e.To + 1 < (S : Int) := of_decide_eq_false c2
    have hin : z2W O S (e :: p'.reverse) = (z2W O S p'.reverse).map (⟨0, 0⟩ :: ·) := by
     show (if e.Out + 1 < (O : Int) then _ else if e.To + 1 < (S : Int) then _ else _) = _
     rw [if_neg c, if_neg c2]
    rw [bdT (hget _), hset]
    have hpl : p'.length ≤ 10000 := by simp at h4; omega
    rw [XG (by omega) (by omega)]
    refine UQ.2 ⟨⟨p', z + 1, by rw [List.replicate_succ, List.append_assoc]; rfl, rfl, fun x hx => h3 x (by simp [hx]), by simp at h4; omega, ?_⟩, ?_⟩
    ·rw [hin] at h5
     rw [h5]
     cases z2W O S p'.reverse with
     | none => rfl
     | some r => simp [List.replicate_succ']
    ·simp only
     omega
 ·have hp : p.length = 0 := by have := of_decide_eq_false c; omega
  rw [List.length_eq_zero_iff.1 hp] at h5 ⊢
  refine UQ.2 ?_
  rw [h5]
  show _ < (0 : Int)
  simp
def tb (m : z6) (S k : Nat) : z6 :=
 ⟨m.Inputs, m.Outputs, (List.range S).map fun s => (List.range (kk m)).map fun i => dg m.Outputs.toNat (k / (S * m.Outputs.toNat) ^ (S * kk m - 1 - (s * kk m + i)) % (S * m.Outputs.toNat))⟩
def tot (m : z6) (S : Nat) : Nat := (S * m.Outputs.toNat) ^ (S * kk m)
theorem z0Y (es : List α) (I : Nat) : ∀ l : List Nat, (∀ s ∈ l, (s + 1) * I ≤ es.length) → Qx es (l.map fun s => some (((s * I : Nat) : Int), (((s + 1) * I : Nat) : Int), (((s + 1) * I : Nat) : Int))) = some (l.map fun s => (es.drop (s * I)).take I)
 | [], _ => rfl
 | s :: l, h => by
  have h1 := h s List.mem_cons_self
  have e : (s + 1) * I = s * I + I := by rw [Nat.add_mul, Nat.one_mul]
  rw [List.map_cons, Qx]
  rw [gdT ⟨Int.natCast_nonneg _, Int.ofNat_le.2 (by omega), rfl, h1⟩, bdT (z0Y es I l fun t ht => h t (List.mem_cons_of_mem _ ht))]
  simp only [Int.toNat_natCast]
  rw [show (s + 1) * I - s * I = I by omega, List.map_cons]
section
variable {m : z6} (h : VM m) {S : Nat} (hS : 1 ≤ S ∧ S ≤ 20)
include h hS
omit h hS in
theorem z90 (k : Nat) : Qx (esR m.Outputs.toNat (S * m.Outputs.toNat) (S * kk m) k).reverse ((List.range S).map fun s => some (((s * kk m : Nat) : Int), (((s + 1) * kk m : Nat) : Int), (((s + 1) * kk m : Nat) : Int))) = some (tb m S k).Rows := by
 have hl : (esR m.Outputs.toNat (S * m.Outputs.toNat) (S * kk m) k).reverse.length = S * kk m := by rw [List.length_reverse, VS]
 rw [z0Y _ _ _ (fun s hs => by rw [hl]; exact Nat.mul_le_mul_right _ (List.mem_range.1 hs))]
 unfold tb
 refine congrArg some (List.map_congr_left fun s hs => ?_)
 have hs := List.mem_range.1 hs
 have hle := Nat.mul_le_mul_right (kk m) (show s + 1 ≤ S from hs)
 rw [Nat.add_mul, Nat.one_mul] at hle
 refine List.ext_getElem? fun i => ?_
 by_cases hi : i < kk m
 ·rw [List.getElem?_take_of_lt hi, List.getElem?_drop, List.getElem?_reverse (by rw [VS]; omega), VS, z4K (by omega), List.getElem?_map, List.getElem?_range hi]
  rfl
 ·rw [List.getElem?_eq_none (by rw [List.length_take]; omega), List.getElem?_eq_none (by simp; omega)]
theorem z6F : loop (fun s => yx m (S : Int) s.1 s.2) ((List.replicate S none), 0) = some ((List.range S).map fun s => some (((s * kk m : Nat) : Int), (((s + 1) * kk m : Nat) : Int), (((s + 1) * kk m : Nat) : Int))) := by
 have hk := h.kk_eq
 have k16 := h.kk_le
 have hN : S * kk m ≤ 20 * 16 := Nat.mul_le_mul hS.2 k16
 have e0 : w64 ((S : Int) * m.Inputs) = ((S * kk m : Nat) : Int) := by rw [← hk, ← Int.natCast_mul, XG (by omega) (by omega)]
 have := Xl (step := fun s => yx m (S : Int) s.1 s.2) (fun i => ((List.range S).map fun s => if s < i then some (((s * kk m : Nat) : Int), (((s + 1) * kk m : Nat) : Int), (((s + 1) * kk m : Nat) : Int)) else none, (i : Int))) S (t := (List.range S).map fun s => some (((s * kk m : Nat) : Int), (((s + 1) * kk m : Nat) : Int), (((s + 1) * kk m : Nat) : Int))) (by omega) (fun i hi => ?_) ?_
 ·rw [show (List.replicate S (none : Option (Int × Int × Int)), (0 : Int)) = ((List.range S).map fun s => if s < 0 then some (((s * kk m : Nat) : Int), (((s + 1) * kk m : Nat) : Int), (((s + 1) * kk m : Nat) : Int)) else none, ((0 : Nat) : Int)) from Prod.ext (by simp [List.map_const']) rfl]
  exact this
 ·show yx m (S : Int) _ (i : Int) = _
  have hle := Nat.mul_le_mul_right (kk m) (show i + 1 ≤ S from hi)
  have hle2 : i * kk m ≤ (i + 1) * kk m := Nat.mul_le_mul_right _ (Nat.le_succ i)
  have e1 : w64 ((i : Int) * m.Inputs) = ((i * kk m : Nat) : Int) := by rw [← hk, ← Int.natCast_mul, XG (by omega) (by omega)]
  have e2 : w64 (((i + 1 : Nat) : Int) * m.Inputs) = (((i + 1) * kk m : Nat) : Int) := by rw [← hk, ← Int.natCast_mul, XG (by omega) (by omega)]
  unfold yx
  rw [decide_eq_true (by omega), cond_true, z5p (by omega), e1, e2, e0, gdT (by simp only [List.length_replicate, Int.toNat_natCast]; omega), QY, bdT (u := none) (by rw [List.getElem?_map, List.getElem?_range hi]; simp), gdT rfl, Int.toNat_natCast, z3K]
  refine congrArg some (congrArg LR.next (Prod.ext ?_ rfl))
  refine List.map_congr_left fun s hs => ?_
  by_cases q : s = i
  ·rw [if_pos q, if_pos (by omega), q]
  ·rw [if_neg q]
   by_cases q2 : s < i
   ·rw [if_pos q2, if_pos (by omega)]
   ·rw [if_neg q2, if_neg (by omega)]
 ·show yx m (S : Int) _ (S : Int) = _
  unfold yx
  rw [decide_eq_false (by omega), cond_false]
  refine congrArg some (congrArg LR.done (List.map_congr_left fun s hs => ?_))
  rw [if_pos (List.mem_range.1 hs)]
end
set_option linter.unusedSectionVars false
variable {τ : Type}{k : Nat}
section
variable {m : z6} (h : VM m) {S : Nat} (hS : 1 ≤ S ∧ S ≤ 20) (ht : tot m S ≤ 65536)
include h hS ht
theorem zbZ (hk : k < tot m S) : Ret (loop (fun q => xC m (S : Int) q.1 q.2) ((esR m.Outputs.toNat (S * m.Outputs.toNat) (S * kk m) k).reverse, w64 ((((esR m.Outputs.toNat (S * m.Outputs.toNat) (S * kk m) k).reverse.length : Nat) : Int) - 1))) fun r => if k + 1 < tot m S then r.1 = (esR m.Outputs.toNat (S * m.Outputs.toNat) (S * kk m) (k + 1)).reverse ∧ 0 ≤ r.2 else r.2 < 0 := by
 have o1 := h.out1
 have o2 := h.out16
 have k16 := h.kk_le
 have hN : S * kk m ≤ 20 * 16 := Nat.mul_le_mul hS.2 k16
 have hO : 1 ≤ m.Outputs.toNat := by omega
 refine (z9h (m := m) (O := m.Outputs.toNat) (S := S) (by omega) (by omega) (by omega) (by rw [List.length_reverse, VS]; omega) (fun e he => ?_)).mono fun r hr => ?_
 ·obtain ⟨j, hj⟩ := List.getElem?_of_mem (List.mem_reverse.1 he)
  have hlt := (List.getElem?_eq_some_iff.1 hj).1
  rw [VS] at hlt
  rw [z4K hlt] at hj
  cases hj
  exact zdJ hO (Nat.mod_lt _ (Nat.mul_pos hS.1 hO))
 ·rw [List.reverse_reverse, z2V hO hS.1 _ _ hk] at hr
  unfold tot
  by_cases c : k + 1 < (S * m.Outputs.toNat) ^ (S * kk m)
  ·rw [if_pos c] at hr ⊢; exact hr
  ·rw [if_neg c] at hr ⊢; exact hr
theorem UP {yy : τ → z6 → Option (τ × Bool)} {s s' : τ}  (hk : k < tot m S) {b : Bool} (hy : yy s (tb m S k) = some (s', b)) :
  y4 m (S : Int) yy ((List.range S).map fun s => some (((s * kk m : Nat) : Int), (((s + 1) * kk m : Nat) : Int), (((s + 1) * kk m : Nat) : Int))) s (esR m.Outputs.toNat (S * m.Outputs.toNat) (S * kk m) k).reverse = some (if b = true ∧ k + 1 < tot m S then .next (s', (esR m.Outputs.toNat (S * m.Outputs.toNat) (S * kk m) (k + 1)).reverse) else .done s') := by
 unfold y4
 rw [bdT (z90 k), show z6.mk m.Inputs m.Outputs (tb m S k).Rows = tb m S k from rfl, bdT hy]
 cases b with
 | false => rw [if_neg (fun q => by cases q.1)]; rfl
 | true =>
  obtain ⟨r, r1, r2⟩ := zbZ h hS ht hk
  rw [cond_true, bdT r1]
  unfold uR
  by_cases c : k + 1 < tot m S
  ·rw [if_pos c] at r2
   rw [if_pos ⟨rfl, c⟩, decide_eq_false (by omega), cond_false, r2.1]
  ·rw [if_neg c] at r2
   rw [if_neg (fun q => c q.2), decide_eq_true r2, cond_true]
theorem z2s {yy : τ → z6 → Option (τ × Bool)} {s r : τ} (hl : loop (fun q => y4 m (S : Int) yy ((List.range S).map fun s => some (((s * kk m : Nat) : Int), (((s + 1) * kk m : Nat) : Int), (((s + 1) * kk m : Nat) : Int))) q.1 q.2) (s, (esR m.Outputs.toNat (S * m.Outputs.toNat) (S * kk m) 0).reverse) = some r) : xk m (S : Int) yy s = some r := by
 have hk := h.kk_eq
 have k16 := h.kk_le
 have hN : S * kk m ≤ 20 * 16 := Nat.mul_le_mul hS.2 k16
 have e0 : w64 ((S : Int) * m.Inputs) = ((S * kk m : Nat) : Int) := by rw [← hk, ← Int.natCast_mul, XG (by omega) (by omega)]
 unfold xk
 rw [e0, gdT (by omega), gdT (by omega), Int.toNat_natCast, bdT (z6F h hS)]
 unfold uS
 rw [z31, List.reverse_replicate] at hl
 rw [e0, Int.toNat_natCast, bdT hl]
theorem z8e : 1 ≤ tot m S := by
 have o1 := h.out1
 exact Nat.pow_pos (Nat.mul_pos hS.1 (show 0 < m.Outputs.toNat by omega))
theorem JV {yy : τ → z6 → Option (τ × Bool)} (st : Nat → τ) (hy : ∀ k, k < tot m S → yy (st k) (tb m S k) = some (st (k + 1), true)) : xk m (S : Int) yy (st 0) = some (st (tot m S)) := by
 have hp := z8e h hS ht
 refine z2s h hS ht ?_
 refine Xl (step := fun q => y4 m (S : Int) yy _ q.1 q.2) (fun k => (st k, (esR m.Outputs.toNat (S * m.Outputs.toNat) (S * kk m) k).reverse)) (tot m S - 1) (by omega) (fun k hk => ?_) ?_
 ·show y4 m (S : Int) yy _ (st k) _ = _
  rw [UP h hS ht (by omega) (hy k (by omega)), if_pos ⟨rfl, by omega⟩]
 ·show y4 m (S : Int) yy _ (st (tot m S - 1)) _ = _
  rw [UP h hS ht (by omega) (hy (tot m S - 1) (by omega)), if_neg (by omega), show tot m S - 1 + 1 = tot m S by omega]
theorem z1T {yy : τ → z6 → Option (τ × Bool)} {K : Nat} (hK : K < tot m S) {s r : τ} (hy : ∀ k, k < K → yy s (tb m S k) = some (s, true)) (hr : yy s (tb m S K) = some (r, false)) : xk m (S : Int) yy s = some r := by
 refine z2s h hS ht ?_
 refine Xl (step := fun q => y4 m (S : Int) yy _ q.1 q.2) (fun k => (s, (esR m.Outputs.toNat (S * m.Outputs.toNat) (S * kk m) k).reverse)) K (by omega) (fun k hk => ?_) ?_
 ·show y4 m (S : Int) yy _ s _ = _
  rw [UP h hS ht (by omega) (hy k hk), if_pos ⟨rfl, by omega⟩]
 ·show y4 m (S : Int) yy _ s _ = _
  rw [UP h hS ht hK hr, if_neg (fun q => by cases q.1)]
end
def z3r (m : z6) (l : List (List Int)) (S k : Nat) : Bool := (zS ⟨m, l, ()⟩ (tb m S k)).getD false
abbrev G18 : Type := Option z6 × Nat
def z0L (g : Bool) (t : z6) (q : G18) : G18 := if g = true then (some (q.1.getD t), q.2 + 1) else q
def Zx (m : z6) (l : List (List Int)) (S : Nat) (q : G18) : Nat → G18
 | 0 => q
 | K + 1 => z0L (z3r m l S K) (tb m S K) (Zx m l S q K)
def wX (m : z6) (l : List (List Int)) : Nat → G18
 | 0 => (none, 0)
 | S + 1 => Zx m l (S + 1) (wX m l S) (tot m (S + 1))
def z18 : z6 := ⟨0, 0, []⟩
theorem z3T (m : z6) (l : List (List Int)) (S : Nat) (q : G18) : ∀ K, (Zx m l S q K).2 ≤ q.2 + K
 | 0 => Nat.le_refl _
 | K + 1 => by
  have := z3T m l S q K
  show (z0L _ _ _).2 ≤ _
  unfold z0L
  split
  ·simp only; omega
  ·omega
def z9Y (m : z6) (l : List (List Int)) (S b : Nat) : Nat → Option Nat
 | 0 => some 0
 | n + 1 => match zS ⟨m, l, ()⟩ (tb m S (b - (n + 1))) with
  | some true => (z9Y m l S b n).map (· + 1)
  | some false => z9Y m l S b n
  | none => none
variable {l : List (List Int)}
theorem z9m {S b : Nat} : ∀ {n c : Nat}, z9Y m l S b n = some c → n ≤ b →
  (∀ k, b - n ≤ k → k < b → zS ⟨m, l, ()⟩ (tb m S k) = some (z3r m l S k)) ∧ (∀ q, (Zx m l S q b).2 = (Zx m l S q (b - n)).2 + c) ∧ (c = 0 → ∀ k, b - n ≤ k → k < b → z3r m l S k = false)
 | 0, c, e, h => by
  cases e
  exact ⟨fun k h1 h2 => by omega, fun q => rfl, fun _ k h1 h2 => by omega⟩
 | n + 1, c, e, h => by
  unfold z9Y at e
  have key : ∀ v, zS ⟨m, l, ()⟩ (tb m S (b - (n + 1))) = some v → z3r m l S (b - (n + 1)) = v := fun v q => by unfold z3r; rw [q]; rfl
  have sp : ∀ {P : Nat → Prop}, P (b - (n + 1)) → (∀ k, b - n ≤ k → k < b → P k) → ∀ k, b - (n + 1) ≤ k → k < b → P k := fun p1 p2 k h1 h2 => by
   by_cases q : k = b - (n + 1)
   ·rw [q]; exact p1
   ·exact p2 k (by omega) h2
  have st : ∀ q, (Zx m l S q (b - n)) = z0L (z3r m l S (b - (n + 1))) (tb m S (b - (n + 1))) (Zx m l S q (b - (n + 1))) := fun q => by
   rw [show b - n = (b - (n + 1)) + 1 by omega]; rfl
  split at e
  ·rename_i g
   have gk := key _ g
   cases r : z9Y m l S b n with
   | none => rw [r] at e; cases e
   | some c' =>
    rw [r] at e
    cases e
    obtain ⟨i1, i2, i3⟩ := z9m r (by omega)
    refine ⟨sp (by rw [gk]; exact g) i1, fun q => ?_, fun z => absurd z (Nat.succ_ne_zero c')⟩
    rw [i2 q, st q, gk]
    unfold z0L
    rw [if_pos rfl]
    simp only
    omega
  ·rename_i g
   have gk := key _ g
   obtain ⟨i1, i2, i3⟩ := z9m e (by omega)
   refine ⟨sp (by rw [gk]; exact g) i1, fun q => ?_, fun z => sp gk (i3 z)⟩
   rw [i2 q, st q, gk]
   unfold z0L
   rw [if_neg (by decide)]
  ·cases e
def Zk (m : z6) (l : List (List Int)) (S a b c : Nat) : Prop :=
 (∀ k, a ≤ k → k < b → zS ⟨m, l, ()⟩ (tb m S k) = some (z3r m l S k)) ∧ (∀ q, (Zx m l S q b).2 = (Zx m l S q a).2 + c) ∧ (c = 0 → ∀ k, a ≤ k → k < b → z3r m l S k = false)
theorem vV {S a b c : Nat} (e : z9Y m l S b (b - a) = some c) (h : a ≤ b) : Zk m l S a b c := by
 have := z9m e (by omega)
 rwa [show b - (b - a) = a by omega] at this
theorem vD {S a b c x y : Nat} (h1 : Zk m l S a b x) (h2 : Zk m l S b c y) : Zk m l S a c (x + y) := by
 obtain ⟨a1, a2, a3⟩ := h1
 obtain ⟨b1, b2, b3⟩ := h2
 refine ⟨fun k k1 k2 => ?_, fun q => by rw [b2, a2]; omega, fun z k k1 k2 => ?_⟩
 ·rcases Nat.lt_or_ge k b with g | g
  ·exact a1 k k1 g
  ·exact b1 k g k2
 ·rcases Nat.lt_or_ge k b with g | g
  ·exact a3 (by omega) k k1 g
  ·exact b3 (by omega) k g k2
section
variable {m : z6} (hm : VM m) {l : List (List Int)} {n : Nat} (hn : 1 ≤ n ∧ n ≤ 5) (ht : ∀ S, 1 ≤ S → S ≤ n → tot m S ≤ 65536)
include hm hn ht
theorem z5c : ∀ S, S ≤ n → (wX m l S).2 ≤ S * 65536
 | 0, _ => Nat.zero_le _
 | S + 1, h => by
  have h1 := z5c S (by omega)
  have h2 := z3T m l (S + 1) (wX m l S) (tot m (S + 1))
  have h3 := ht (S + 1) (by omega) h
  show (Zx m l (S + 1) (wX m l S) (tot m (S + 1))).2 ≤ _
  omega
theorem zfk (gb : ∀ S k, 1 ≤ S → S ≤ n → k < tot m S → zS ⟨m, l, ()⟩ (tb m S k) = some (z3r m l S k)) : y8 (fun (s : Int) _ => some (w64 (s + 1), true)) m l (n : Int) 0 = some (((wX m l n).2 : Nat) : Int) := by
 unfold y8
 refine Xl (step := fun q : Int × Int => zQ (fun s _ => some (w64 (s + 1), true)) m l (n : Int) q.1 q.2) (fun S => ((S : Int) + 1, (((wX m l S).2 : Nat) : Int))) n (by omega) (fun S hS => ?_) ?_
 ·have h1 := z5c hm hn ht (l := l) S (by omega)
  have h2 := ht (S + 1) (by omega) hS
  have ta := JV (S := S + 1) hm (by omega) h2 (yy := yOf fun s x => zX (fun (s : Int) _ => some (w64 (s + 1), true)) m l s x) (fun k => LR.next (((Zx m l (S + 1) (wX m l S) k).2 : Nat) : Int)) (fun k hk => by
   have hle := z3T m l (S + 1) (wX m l S) k
   unfold yOf zX
   simp only
   rw [bdT (gb (S + 1) k (by omega) hS hk)]
   show _ = some (LR.next (((z0L _ _ _).2 : Nat) : Int), true)
   unfold z0L
   cases z3r m l (S + 1) k with
   | false => rfl
   | true =>
    rw [cond_true, if_pos rfl]
    simp only [Option.bind_some, cond_true]
    rw [z5p (by omega)])
  show zQ _ m l (n : Int) ((S : Int) + 1) _ = _
  unfold zQ
  rw [decide_eq_true (by omega), cond_true, show ((S : Int) + 1) = ((S + 1 : Nat) : Int) by omega]
  unfold jd
  rw [Option.bind_some]
  show Option.bind (xk m ((S + 1 : Nat) : Int) _ (LR.next (((Zx m l (S + 1) (wX m l S) 0).2 : Nat) : Int))) _ = _
  rw [bdT ta]
  simp only
  rw [z5p (by omega)]
  rfl
 ·show zQ _ m l (n : Int) ((n : Int) + 1) _ = _
  unfold zQ
  rw [decide_eq_false (by omega), cond_false]
theorem zg5 {K : Nat} (g0 : ∀ S k, 1 ≤ S → S < n → k < tot m S → zS ⟨m, l, ()⟩ (tb m S k) = some false) (hK : K < tot m n) (g1 : ∀ k, k < K → zS ⟨m, l, ()⟩ (tb m n k) = some false) (g2 : zS ⟨m, l, ()⟩ (tb m n K) = some true) : y8 (fun (_ : z6) x => some (x, false)) m l (n : Int) z18 = some (tb m n K) := by
 have yn : ∀ S k, zS ⟨m, l, ()⟩ (tb m S k) = some false → (yOf fun s x => zX (fun (_ : z6) x => some (x, false)) m l s x) (LR.next z18) (tb m S k) = some (LR.next z18, true) := fun S k e => by
  unfold yOf zX
  simp only
  rw [bdT e]
  rfl
 have yd : (yOf fun s x => zX (fun (_ : z6) x => some (x, false)) m l s x) (LR.next z18) (tb m n K) = some (LR.done (tb m n K), false) := by
  unfold yOf zX
  simp only
  rw [bdT g2]
  rfl
 unfold y8
 obtain ⟨j, rfl⟩ : ∃ j, n = j + 1 := ⟨n - 1, by omega⟩
 refine Xl (step := fun q : Int × z6 => zQ (fun _ x => some (x, false)) m l ((j + 1 : Nat) : Int) q.1 q.2) (fun S => ((S : Int) + 1, z18)) j (by omega) (fun S hS => ?_) ?_
 ·have h2 := ht (S + 1) (by omega) (by omega)
  show zQ _ m l _ ((S : Int) + 1) z18 = _
  unfold zQ
  rw [decide_eq_true (by omega), cond_true, show ((S : Int) + 1) = ((S + 1 : Nat) : Int) by omega]
  unfold jd
  rw [Option.bind_some]
  show Option.bind (xk m ((S + 1 : Nat) : Int) _ (LR.next z18)) _ = _
  rw [bdT (JV (S := S + 1) hm (by omega) h2 (fun _ => LR.next z18) (fun k hk => yn (S + 1) k (g0 (S + 1) k (by omega) (by omega) hk)))]
  simp only
  rw [z5p (by omega)]
  rfl
 ·have h2 := ht (j + 1) (by omega) (by omega)
  show zQ _ m l _ ((j : Int) + 1) z18 = _
  unfold zQ
  rw [decide_eq_true (by omega), cond_true, show ((j : Int) + 1) = ((j + 1 : Nat) : Int) by omega]
  unfold jd
  rw [Option.bind_some]
  show Option.bind (xk m ((j + 1 : Nat) : Int) _ (LR.next z18)) _ = _
  rw [bdT (z1T (S := j + 1) hm (by omega) h2 hK (fun k hk => yn (j + 1) k (g1 k hk)) yd)]
end
theorem z1f : Wc = some true := by kernel_rfl
def zF : z6 := ⟨1, 2, [[⟨0, 0⟩]]⟩
theorem z4e : VM zF := by
 refine ⟨by decide, by decide, by decide, by decide, by decide, by decide, fun r hr => ?_, fun r hr x hx => .inr ?_⟩
 ·have hr : r ∈ [[(⟨0, 0⟩ : z7)]] := hr
  rw [List.mem_singleton.1 hr]; rfl
 ·have hr : r ∈ [[(⟨0, 0⟩ : z7)]] := hr
  rw [List.mem_singleton.1 hr] at hx
  rw [List.mem_singleton.1 hx]
  exact ⟨by decide, by decide, by decide, by decide⟩
theorem VC : tot zF 1 = 2 ∧ tot zF 2 = 16 ∧ tot zF 3 = 216 ∧ tot zF 4 = 4096 := ⟨by kernel_rfl, by kernel_rfl, by kernel_rfl, by kernel_rfl⟩
theorem z4f (hn : n ≤ 4) : ∀ S, 1 ≤ S → S ≤ n → tot zF S ≤ 65536 := fun S h1 h2 => by
 obtain ⟨a, b, c, d⟩ := VC
 rcases (show S = 1 ∨ S = 2 ∨ S = 3 ∨ S = 4 by omega) with rfl | rfl | rfl | rfl <;> omega
theorem zdT : Zk zF [] 1 0 2 1 := vV (by kernel_rfl) (by decide)
theorem ca1 : Zk zF [] 1 0 2 1 := zdT
theorem zdS : Zk zF [] 2 0 16 6 := vV (by kernel_rfl) (by decide)
theorem ca2 : Zk zF [] 2 0 16 6 := zdS
theorem zdR : Zk zF [] 3 0 216 21 := vV (by kernel_rfl) (by decide)
theorem ca3 : Zk zF [] 3 0 216 21 := zdR
theorem zdQ : Zk zF [] 4 0 256 0 := vV (by kernel_rfl) (by decide)
theorem z9B : Zk zF [] 4 256 512 0 := vV (by kernel_rfl) (by decide)
theorem z9A : Zk zF [] 4 512 768 0 := vV (by kernel_rfl) (by decide)
theorem z9z : Zk zF [] 4 768 1024 0 := vV (by kernel_rfl) (by decide)
theorem z7u : Zk zF [] 4 1024 1280 0 := vV (by kernel_rfl) (by decide)
theorem z7t : Zk zF [] 4 1280 1536 28 := vV (by kernel_rfl) (by decide)
theorem z7s : Zk zF [] 4 1536 1792 0 := vV (by kernel_rfl) (by decide)
theorem z7r : Zk zF [] 4 1792 2048 32 := vV (by kernel_rfl) (by decide)
theorem z7q : Zk zF [] 4 2048 2304 0 := vV (by kernel_rfl) (by decide)
theorem z7p : Zk zF [] 4 2304 2560 0 := vV (by kernel_rfl) (by decide)
theorem z7o : Zk zF [] 4 2560 2816 0 := vV (by kernel_rfl) (by decide)
theorem z7n : Zk zF [] 4 2816 3072 0 := vV (by kernel_rfl) (by decide)
theorem z7m : Zk zF [] 4 3072 3328 0 := vV (by kernel_rfl) (by decide)
theorem z7l : Zk zF [] 4 3328 3584 0 := vV (by kernel_rfl) (by decide)
theorem z7k : Zk zF [] 4 3584 3840 0 := vV (by kernel_rfl) (by decide)
theorem z7j : Zk zF [] 4 3840 4096 0 := vV (by kernel_rfl) (by decide)
theorem ca4 : Zk zF [] 4 0 4096 60 := vD (vD (vD (vD (vD (vD (vD (vD (vD (vD (vD (vD (vD (vD (vD (zdQ) z9B) z9A) z9z) z7u) z7t) z7s) z7r) z7q) z7p) z7o) z7n) z7m) z7l) z7k) z7j
theorem zdO : Zk zF [[0, 0, 0]] 1 0 2 0 := vV (by kernel_rfl) (by decide)
theorem cb1 : Zk zF [[0, 0, 0]] 1 0 2 0 := zdO
theorem zdN : Zk zF [[0, 0, 0]] 2 0 16 0 := vV (by kernel_rfl) (by decide)
theorem cb2 : Zk zF [[0, 0, 0]] 2 0 16 0 := zdN
theorem zdM : Zk zF [[0, 0, 0]] 3 0 216 0 := vV (by kernel_rfl) (by decide)
theorem cb3 : Zk zF [[0, 0, 0]] 3 0 216 0 := zdM
theorem zdL : Zk zF [[0, 0, 0]] 4 0 256 0 := vV (by kernel_rfl) (by decide)
theorem z9w : Zk zF [[0, 0, 0]] 4 256 512 0 := vV (by kernel_rfl) (by decide)
theorem z9v : Zk zF [[0, 0, 0]] 4 512 768 0 := vV (by kernel_rfl) (by decide)
theorem z9u : Zk zF [[0, 0, 0]] 4 768 1024 0 := vV (by kernel_rfl) (by decide)
theorem z7e : Zk zF [[0, 0, 0]] 4 1024 1280 0 := vV (by kernel_rfl) (by decide)
theorem z7d : Zk zF [[0, 0, 0]] 4 1280 1329 0 := vV (by kernel_rfl) (by decide)
theorem cb4 : Zk zF [[0, 0, 0]] 4 0 1329 0 := vD (vD (vD (vD (vD (zdL) z9w) z9v) z9u) z7e) z7d
theorem zbH : ∀ S k, 1 ≤ S → S ≤ 4 → k < tot zF S → zS ⟨zF, [], ()⟩ (tb zF S k) = some (z3r zF [] S k) := fun S k h1 h2 hk => by
 obtain ⟨a, b, c, d⟩ := VC
 rcases (show S = 1 ∨ S = 2 ∨ S = 3 ∨ S = 4 by omega) with rfl | rfl | rfl | rfl
 ·exact ca1.1 k (Nat.zero_le _) (by omega)
 ·exact ca2.1 k (Nat.zero_le _) (by omega)
 ·exact ca3.1 k (Nat.zero_le _) (by omega)
 ·exact ca4.1 k (Nat.zero_le _) (by omega)
theorem z99 : (wX zF [] 1).2 = 1 ∧ (wX zF [] 2).2 = 7 ∧ (wX zF [] 3).2 = 28 ∧ (wX zF [] 4).2 = 88 := by
 obtain ⟨a, b, c, d⟩ := VC
 have e1 : (wX zF [] 1).2 = 1 := by
  show (Zx zF [] 1 (wX zF [] 0) (tot zF 1)).2 = 1
  rw [a, ca1.2.1]; rfl
 have e2 : (wX zF [] 2).2 = 7 := by
  show (Zx zF [] 2 (wX zF [] 1) (tot zF 2)).2 = 7
  rw [b, ca2.2.1]; show (wX zF [] 1).2 + 6 = 7; rw [e1]
 have e3 : (wX zF [] 3).2 = 28 := by
  show (Zx zF [] 3 (wX zF [] 2) (tot zF 3)).2 = 28
  rw [c, ca3.2.1]; show (wX zF [] 2).2 + 21 = 28; rw [e2]
 refine ⟨e1, e2, e3, ?_⟩
 show (Zx zF [] 4 (wX zF [] 3) (tot zF 4)).2 = 88
 rw [d, ca4.2.1]; show (wX zF [] 3).2 + 60 = 88; rw [e3]
theorem US (hn : 1 ≤ n ∧ n ≤ 4) (hf : qq zF [] (n : Int) = some 0) : xG zF [] (n : Int) = some ((((wX zF [] n).2 : Nat) : Int), 0) := by
 unfold xG
 rw [bdT hf, show ((0 : Int) != 0) = false from rfl, cond_false, bdT (zfk z4e (by omega) (z4f hn.2) fun S k h1 h2 hk => zbH S k h1 (by omega) hk)]
theorem zdm : KP zF 3 9 = some ([[0, 0, 0]], 0) := by kernel_rfl
theorem KL : ∀ S k, 1 ≤ S → S < 4 → k < tot zF S → zS ⟨zF, [[0, 0, 0]], ()⟩ (tb zF S k) = some false := fun S k h1 h2 hk => by
 obtain ⟨a, b, c, d⟩ := VC
 rcases (show S = 1 ∨ S = 2 ∨ S = 3 by omega) with rfl | rfl | rfl
 ·rw [cb1.1 k (Nat.zero_le _) (by omega), cb1.2.2 rfl k (Nat.zero_le _) (by omega)]
 ·rw [cb2.1 k (Nat.zero_le _) (by omega), cb2.2.2 rfl k (Nat.zero_le _) (by omega)]
 ·rw [cb3.1 k (Nat.zero_le _) (by omega), cb3.2.2 rfl k (Nat.zero_le _) (by omega)]
theorem z5r : xG zF [[0, 0, 0]] 3 = some (0, 0) := by
 obtain ⟨a, b, c, d⟩ := VC
 have hf : qq zF [[0, 0, 0]] 3 = some 0 := by kernel_rfl
 have e1 : (wX zF [[0, 0, 0]] 1).2 = 0 := by
  show (Zx zF [[0, 0, 0]] 1 (wX zF [[0, 0, 0]] 0) (tot zF 1)).2 = 0
  rw [a, cb1.2.1]; rfl
 have e2 : (wX zF [[0, 0, 0]] 2).2 = 0 := by
  show (Zx zF [[0, 0, 0]] 2 (wX zF [[0, 0, 0]] 1) (tot zF 2)).2 = 0
  rw [b, cb2.2.1]; show (wX zF [[0, 0, 0]] 1).2 + 0 = 0; rw [e1]
 have e3 : (wX zF [[0, 0, 0]] 3).2 = 0 := by
  show (Zx zF [[0, 0, 0]] 3 (wX zF [[0, 0, 0]] 2) (tot zF 3)).2 = 0
  rw [c, cb3.2.1]; show (wX zF [[0, 0, 0]] 2).2 + 0 = 0; rw [e2]
 unfold xG
 rw [bdT hf, show ((0 : Int) != 0) = false from rfl, cond_false]
 have := zfk (l := [[0, 0, 0]]) z4e (n := 3) (by omega) (z4f (by omega)) fun S k h1 h2 hk => by
  rw [KL S k h1 (by omega) hk]
  have : z3r zF [[0, 0, 0]] S k = false := by unfold z3r; rw [KL S k h1 (by omega) hk]; rfl
  rw [this]
 rw [e3] at this
 have this : y8 (fun (s : Int) _ => some (w64 (s + 1), true)) zF [[0, 0, 0]] 3 0 = some 0 := this
 rw [bdT this]
theorem z8d : ∃ a : z6, vQ zF [[0, 0, 0]] 4 = some (a, 0) ∧ qm a ⟨1, 2, [[⟨1, 0⟩], [⟨2, 0⟩], [⟨3, 0⟩], [⟨0, 1⟩]]⟩ = some true := by
 obtain ⟨a, b, c, d⟩ := VC
 have hf : qq zF [[0, 0, 0]] 4 = some 0 := by kernel_rfl
 have hr := zg5 (l := [[0, 0, 0]]) z4e (n := 4) (by omega) (z4f (by omega)) (K := 1329) KL (by omega) (fun k hk => by rw [cb4.1 k (Nat.zero_le _) hk, cb4.2.2 rfl k (Nat.zero_le _) hk]) (by kernel_rfl)
 refine ⟨tb zF 4 1329, ?_, by kernel_rfl⟩
 have hr : y8 (fun (_ : z6) x => some (x, false)) zF [[0, 0, 0]] 4 z18 = some (tb zF 4 1329) := hr
 unfold vQ
 rw [bdT hf, show ((0 : Int) != 0) = false from rfl, cond_false]
 show Option.bind (y8 _ zF [[0, 0, 0]] 4 z18) _ = _
 rw [bdT hr]
 kernel_rfl
theorem z6V : qX = some true := by
 obtain ⟨c1, c2, c3, c4⟩ := z99
 have m1 : xF [⟨0, 0⟩] = some zF := by kernel_rfl
 have g1 := US (n := 1) (by omega) (by kernel_rfl)
 have g2 := US (n := 2) (by omega) (by kernel_rfl)
 have g3 := US (n := 3) (by omega) (by kernel_rfl)
 have g4 := US (n := 4) (by omega) (by kernel_rfl)
 rw [c1] at g1
 rw [c2] at g2
 rw [c3] at g3
 rw [c4] at g4
 have rd : ∀ (T s t : Int), loop (fun q => jQ s q.1 q.2) (1, 0) = some t → decide (s < 5) = true → 0 ≤ s → xL zF s = some (t, 0) → xG zF [] s = some (w64 (T + w64 (z0N .i64 s s - s)), 0) → zZ zF T s = some (.next (w64 (T + w64 (z0N .i64 s s - s)), w64 (s + 1))) := fun T s t h1 h2 h3 h4 h5 => by
  unfold zZ
  rw [h2, cond_true, bdT h1]
  unfold vN
  rw [bdT h4, bdT h5, gdT h3]
  simp only [bne_self_eq_false, cond_false]
  rfl
 have h1 : xG zF [] 1 = some (w64 (0 + w64 (z0N .i64 1 1 - 1)), 0) := Eq.trans g1 (by kernel_rfl)
 have q1 : zZ zF 0 1 = some (.next (1, 2)) := Eq.trans (rd 0 1 2 (by kernel_rfl) (by kernel_rfl) (by decide) (by kernel_rfl) h1) (by kernel_rfl)
 have h2 : xG zF [] 2 = some (w64 (1 + w64 (z0N .i64 2 2 - 2)), 0) := Eq.trans g2 (by kernel_rfl)
 have q2 : zZ zF 1 2 = some (.next (7, 3)) := Eq.trans (rd 1 2 16 (by kernel_rfl) (by kernel_rfl) (by decide) (by kernel_rfl) h2) (by kernel_rfl)
 have h3 : xG zF [] 3 = some (w64 (7 + w64 (z0N .i64 3 3 - 3)), 0) := Eq.trans g3 (by kernel_rfl)
 have q3 : zZ zF 7 3 = some (.next (28, 4)) := Eq.trans (rd 7 3 216 (by kernel_rfl) (by kernel_rfl) (by decide) (by kernel_rfl) h3) (by kernel_rfl)
 have h4 : xG zF [] 4 = some (w64 (28 + w64 (z0N .i64 4 4 - 4)), 0) := Eq.trans g4 (by kernel_rfl)
 have q4 : zZ zF 28 4 = some (.next (88, 5)) := Eq.trans (rd 28 4 4096 (by kernel_rfl) (by kernel_rfl) (by decide) (by kernel_rfl) h4) (by kernel_rfl)
 have lp : loop (fun s => zZ zF s.1 s.2) (0, 1) = some (.inl ()) := by
  let st : Nat → Int × Int := fun | 0 => (0, 1) | 1 => (1, 2) | 2 => (7, 3) | 3 => (28, 4) | _ => (88, 5)
  have q5 : zZ zF 88 5 = some (.done (.inl ())) := by kernel_rfl
  refine Xl (step := fun s => zZ zF s.1 s.2) st 4 (t := .inl ()) (by omega) (fun i hi => ?_) q5
  rcases (show i = 0 ∨ i = 1 ∨ i = 2 ∨ i = 3 by omega) with rfl | rfl | rfl | rfl
  ·exact q1
  ·exact q2
  ·exact q3
  ·exact q4
 obtain ⟨a, a1, a2⟩ := z8d
 have m2 : xF [⟨1, 0⟩, ⟨2, 0⟩, ⟨3, 0⟩, ⟨0, 1⟩] = some ⟨1, 2, [[⟨1, 0⟩], [⟨2, 0⟩], [⟨3, 0⟩], [⟨0, 1⟩]]⟩ := by kernel_rfl
 have t1 : xL zF 4611686018427387904 = some (0, 3) := by kernel_rfl
 have t2 : xL zF 0 = some (0, 1) := by kernel_rfl
 have e1 : vQ zF [[1]] 2 = some (⟨0, 0, []⟩, 1) := by kernel_rfl
 unfold qX
 rw [bdT m1, bdT lp]
 show wm zF = _
 unfold wm
 rw [bdT zdm, bdT z5r, bdT a1, bdT m2, bdT t1, bdT t2, bdT e1]
 simp only [beq_self_eq_true, cond_true]
 rw [bdT a2, z1f]
 rfl
def zg8 (w : World) : zf := fun b o => zP w.heap b o
variable {P : Program}{v : Value}
section
open Go Go.ChangeShapes Go.WideShapes Go.ChangeAt Go.RowKit
theorem z49 {P : Program} {H : Type} {enc : TypeId × Value → H} {f : Func} {s : ChangeSpec} {apart fresh handsOn again : Bool} {W W' : World} {args : Array Value} {v : Value} {ds : List (DataW H)} {pa : List MemPlace}
  (hvar : s.vars = []) (hvars2 : (s.fn H (ds ++ [])).vars = []) (hW : DataW.Whole enc P f.params.toList s.vars apart W args.toList ds [] (pa ++ [])) (hb : Below W.heap.size W W')
  (hres : ∀ (b : Nat) (sp : Nat → Bool) (hd : Bool), DataW.TrodAll enc P W' b sp hd f.resultTypes.toList (v.resultList f.resultTypes.size) (s.fn H (ds ++ [])).results [])
  (hargs : ∀ sp : Nat → Bool, (∀ p ∈ pa ++ [], sp p.block = true) → DataW.TrodAll enc P W' 0 sp true f.params.toList args.toList (s.fn H (ds ++ [])).args pa)
  (hok : ∀ (j : Nat) (t : TypeId) (r : Value), f.resultTypes[j]? = some t → (v.resultList f.resultTypes.size)[j]? = some r → Value.okWide P W' .any 0 t r) :
  s.post enc P f apart fresh handsOn again W args v W' := by
 have hlt : ∀ p ∈ pa ++ [], p.block < W.heap.size := fun p hp => by simpa using hW.lt p hp
 have hvr : ∀ sp : Nat → Bool, DataW.TrodVars enc P W' sp s.vars (s.fn H (ds ++ [])).vars [] := fun sp => by rw [hvar, hvars2]; rfl
 refine ⟨ds, [], pa ++ [], [], pa, [], hW, hres _ _ _, hargs _ (fun p hp => by simpa using hlt p hp), hvr _, World.keptBut_mono (fun _ q => q.elim) (hb.frame fun _ => False), fun _ => ?_⟩
 have ⟨_, _, _, _, _, hz, hn⟩ := hW
 refine ⟨hok, _, _, ([] ++ pa) ++ [], ⟨[] ++ pa, [], trodAll_append (hargs _ (fun _ _ => rfl)) (hres _ _ _), hvr _, rfl, ?_, ?_⟩, ?_⟩
 ·intro b off hp
  have hp' : MemPlace.cell b off ∈ pa ++ [] := by simpa using hp
  rw [hb.frozen (p := ⟨b, off, none⟩) (hlt _ hp')]
  exact hz b off hp'
 ·intro ha
  simpa using hn ha
 ·intro p hp _
  simpa using hp
end
theorem z6n {α ρ : Type} {enc : α → List A} {encR : ρ → A} {F : α → Option ρ} {gives : List Bool} {inj : ∀ x y, enc x = enc y → x = y} (h : (spF k enc encR F gives inj).Ok P) {x : α} {r : ρ} (hr : F x = some r) : wB P k (enc x) (encR r) := by
 have := h x ⟨r, hr⟩
 simpa only [spF, hr] using this
section
variable {P : Program} {w : World} {r : Reach} {base t : Nat} {v : Value}
theorem z6Z {S : zf} {h : Array Obj}  {F : List Nat} (q : Has S h (.atom (.bool true)) v F) : v = .bool true := by
 rcases q with ⟨q, _⟩ | ⟨cs, q, _, rfl⟩
 ·rw [(zj.1 q).1]
 ·simp [zw, Rep] at q
  obtain ⟨⟨rfl, _⟩, _⟩ := q
  rfl
end
end Go.Own
namespace Go.Proofs.YtkalhfmehmcofaaGreat.gapsKnown
open Go Go.ChangeShapes Go.WideShapes Go.ChangeAt Go.RowKit
theorem own : ownKnob Tryz.prog.godebug = none := by kernel_rfl
section
variable {H : Type} {enc : TypeId × Value → H} {W : World}
set_option maxRecDepth 100000 in
theorem zfB {base : Nat} :
  Calls Tryz.prog 4 #[] W fun e w' => e = .returned (.bool true) ∧ Go.Own.uG (fun k => W.heap.size ≤ k) W w' := by
 have q := (Go.Own.z6n (Go.Own.z3w Go.Own.z9L List.mem_cons_self : Go.Own.OkH Go.Own.zdv) (x := ()) (r := true) (Go.Own.z6V)).2 (Go.Own.zg8 W) W [] [] ⟨fun _ _ _ h => h, fun _ _ e => (by cases e), fun _ _ e => (by cases e)⟩ ?_ (by simp)
 ·refine Calls.mono q ?_
  rintro e w' ⟨v, S', F', rfl, hk, _, _, _, hr, _, _⟩
  refine ⟨?_, hk.mono (by rintro k (h | h) <;> simp_all)⟩
  rw [Go.Own.z6Z hr]
 ·refine Go.Own.Xb ?_
  exact trivial
end
set_option maxRecDepth 100000 in
theorem zbP (os : Os) (started : os.Started) (H : Type) (enc : TypeId × Value → H) :
  ReturnsInHanded {} Tryz.checked os 4 .any (Rows.gapsKnownSpec.pre6 enc Tryz.prog Tryz.f4 Rows.gapsKnownRow.domain false) (Rows.gapsKnownSpec.post enc Tryz.prog Tryz.f4 false true false false) := by
 refine returnsInHanded_of_change (C := Tryz.checked) own started (by kernel_rfl) Tryz.func4
  (ChangeSpec.witness6 (enc := enc) (C := Tryz.checked) false ⟨#[], #[], []⟩ 8 (by kernel_rfl) (by kernel_rfl) (by kernel_rfl) (by kernel_rfl)) ?_
 intro W base args ds gs before hval0 hW hcnd _
 have hval : ∀ (j : Nat) t v, Tryz.f4.params[j]? = some t → args[j]? = some v → Value.okWide Tryz.prog W .any base t v := hval0
 have hW' := hW
 obtain ⟨p, q, hA0, hV, rfl, hfz, hnd⟩ := hW
 have hA : DataW.TrodAll enc Tryz.prog W 0 (fun _ => true) true Tryz.f4.params.toList args.toList ds p := hA0
 rw [Tryz.params4] at hA hval
 obtain ⟨rfl, rfl, rfl⟩ := trodAll_none hA
 obtain ⟨rfl, rfl⟩ := trodVars_none hV
 clear hA0 hval0
 refine (zfB (base := base)).mono fun e W' ⟨he, hk⟩ => ?_
 subst he
 have hb : Below W.heap.size W W' := ⟨hk.os, hk.tape, hk.output, hk.size, fun k q => hk.block k (by omega)⟩
 have hlt : ∀ x ∈ ([] : List MemPlace), x.block < W.heap.size := fun x hx => by cases hx
 refine ⟨_, rfl, Go.Own.z49 rfl rfl hW' hb (fun _ _ _ => trodAll_cons_mk (shut_bool Tryz.underlying4 _) trodAll_mk0) (fun sp hsp => ?_) (ok_one (by kernel_rfl) rfl (okWide_bool_mk Tryz.underlying4 _))⟩
 rw [Tryz.params4]
 exact trodAll_mk0
theorem ZA : Rows.gapsKnownRow.holds Tryz.pinned (OpenSpec.ofChange Rows.gapsKnownSpec) :=
 OpenClaim.holds_of_wide 4 Tryz.f4 rfl rfl rfl rfl rfl rfl rfl ⟨rfl, rfl, rfl, rfl, rfl⟩ rfl rfl rfl rfl rfl (by kernel_rfl) Tryz.func4 (by kernel_rfl)
  (of_decide_eq_true (by kernel_rfl)) (by unfold Func.isWrapper; first | (rw [if_pos (by decide +kernel)]; kernel_rfl) | (rw [if_neg (by decide +kernel)]; exact ⟨rfl, rfl⟩))
  (fun os started H enc _ => zbP os started H enc)
theorem proved : Rows.GapsKnownSaid :=
 ZA
#print axioms proved
end Go.Proofs.YtkalhfmehmcofaaGreat.gapsKnown
end
