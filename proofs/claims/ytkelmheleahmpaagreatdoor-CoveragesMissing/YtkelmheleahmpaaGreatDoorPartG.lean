/- Walks, further. -/
import Derived.Test.YtkelmheleahmpaaGreatDoorPartF
import Derived.Test.YtkelmheleahmpaaGreatDoorPartC
import Derived.Test.YtkelmheleahmpaaGreatDoorPartE
noncomputable section
set_option linter.unusedVariables false
set_option linter.unusedSimpArgs false
namespace Go.Own
theorem oB {α : Type _} {β : Type _} (a : α) (f : α → Option β) : Option.bind (some a) f = f a := rfl
open Go.Proofs
set_option maxRecDepth 100000
set_option maxHeartbeats 8000000
def y6 : Code := (Tryz.f15.body).getD .skip
def qp : yf := spF (α := z6 × List (List Int) × Int) (ρ := List (List Int) × Int) 15 (fun x => [yj x.1, Zh x.2.1, (eI .i64) x.2.2]) (fun r => .tup [z4o r.1, (eI .i64) r.2]) (fun x => kp x.1 x.2.1 x.2.2) [] (z6H)
abbrev XG : List (Nat × T) := []
abbrev XF (l_ : List (List Int)) (ah : List zb) (ap : List Int) (cg : List (List Int)) (d0 : Int) : List (Nat × T) := [(1, .d (eSl 1 false F7_ l_)), (9, .d (eSl 5 false (zc F7_ zD zF) ah)), (10, .d (.sptr (.agg [eSl 1 false F4_ cg, eSl 1 true (eI .u64) ap]))), (68, .d (I (w64 (((l_.length : Nat) : Int) + 1)))), (69, .d (I d0))]
abbrev XE (ax : List Int × Bool) (out : List (List Int)) : List (Nat × T) := [(16, .own (z2O 1 ((ax.1.length : Nat) : Int).toNat F2_ out))]
abbrev XC (l_ : List (List Int)) (ax : List Int × Bool) (ai : List (List Int)) (gv : Int) : List (Nat × T) := [(1, .d (eSl 1 false F7_ l_)), (16, .own (z2O 1 ((ax.1.length : Nat) : Int).toNat F2_ ai)), (86, .d (eSl 1 false (eI .i64) ax.1)), (87, .d (I ((ax.1.length : Nat) : Int))), (88, .d (I gv))]
abbrev XD (l_ : List (List Int)) (ah : List zb) (ap : List Int) (cg : List (List Int)) (d0 : Int) : List (Nat × T) := [(1, .d (eSl 1 false F7_ l_)), (9, .d (eSl 5 false (zc F7_ zD zF) ah)), (10, .d (.sptr (.agg [eSl 1 false F4_ cg, eSl 1 true (eI .u64) ap]))), (68, .d (I (w64 (((l_.length : Nat) : Int) + 1)))), (69, .d (I d0))]
abbrev XI (l_ : List (List Int)) (ah : List zb) (ap : List Int) (cg : List (List Int)) : List (Nat × T) := [(1, .d (eSl 1 false F7_ l_)), (9, .d (eSl 5 false (zc F7_ zD zF) ah)), (10, .own (.box (.agg [eOs 1 false F4_ cg, eSl 1 true (eI .u64) ap])))]
abbrev XB (m_ : z6) (l_ : List (List Int)) (ah : List zb) (ap : List Int) (cq : List (List Int)) (de : Int) : List (Nat × T) := [(1, .d (eSl 1 false F7_ l_)), (3, .own (.box (yj m_))), (9, .d (eSl 5 false (zc F7_ zD zF) ah)), (10, .own (.box (.agg [eOs 1 false F4_ cq, eSl 1 true (eI .u64) ap]))), (44, .d (eSl 1 false F7_ l_)), (45, .d (I ((l_.length : Nat) : Int))), (46, .d (I de))]
def zB : XH Tryz.prog := ((z3Z zC (.inl 99) [98]).or X0)
variable {ctr : Ctr}
theorem Vm (hC : zN Tryz.prog ctr) (h03 : ctr.Has xZ) (h04 : ctr.Has wP) (h02 : ctr.Has xh) (h0g : ctr.Has uC) (h0V : ctr.Has ww) (h01 : ctr.Has yg) (h00 : ctr.Has ym) : qp.Ok Tryz.prog := by
 refine zU ?_
 rintro ⟨m_, l_, goal⟩ r0 aa
 try unfold kp at aa
 refine yO false [(6, none), (7, none)] y6 104 Tryz.func15 fun E hE => ?_
 obtain ⟨r_, h0, aa⟩ := zk aa
 let Z0 : List HO := [Hc h03 (x := (m_, l_)) h0 (loC yj m_ <| loC Zh l_ <| loN)]
 rcases y4 aa with ⟨c0, aa⟩ | ⟨c0, aa⟩
 ·obtain rfl := zi aa
  exact yEx zB hC hE (Z0 ++ [Hq c0, Hm (shM F7_ F7_ [])]) (.tup [eSl 1 true F2_ [], I r_]) (show LeV (.tup [eSl 1 true F2_ [], I r_]) (.tup [eSl 1 true F2_ ([] : List (List Int)), I r_]) from inferInstance)
 ·rcases y4 aa with ⟨c1, aa⟩ | ⟨c1, aa⟩
  ·obtain rfl := zi aa
   exact yEx zB hC hE (Z0 ++ [Hq c0, Hq c1, Hq c1, Hq c1, qT, Hm (shM F7_ F7_ [])]) (.tup [eSl 1 true F2_ [], I 1]) (show LeV (.tup [eSl 1 true F2_ [], I 1]) (.tup [eSl 1 true F2_ ([] : List (List Int)), I 1]) from inferInstance)
  ·let Z1 : List HO := (Z0 ++ [Hq c0, Hq c1, Hq c1, Hq c1])
   rcases y4 aa with ⟨c2, aa⟩ | ⟨c2, aa⟩
   ·obtain rfl := zi aa
    exact yEx zB hC hE (Z1 ++ [Hq c2, Hm (shM F7_ F7_ [])]) (.tup [eSl 1 true F2_ [], I 1]) (show LeV (.tup [eSl 1 true F2_ [], I 1]) (.tup [eSl 1 true F2_ ([] : List (List Int)), I 1]) from inferInstance)
   ·let Z2 : List HO := (Z1 ++ [Hq c2, Ha (lnM F7_ l_)])
    rcases y4 aa with ⟨c3, aa⟩ | ⟨c3, aa⟩
    ·obtain rfl := zi aa
     exact yEx zB hC hE (Z2 ++ [Hq c3, Hm (shM F7_ F7_ [])]) (.tup [eSl 1 true F2_ [], I 3]) (show LeV (.tup [eSl 1 true F2_ [], I 3]) (.tup [eSl 1 true F2_ ([] : List (List Int)), I 3]) from inferInstance)
    ·obtain ⟨ah, h1, aa⟩ := zk aa
     obtain ⟨al, h2, aa⟩ := zk aa
     obtain ⟨ap, h3, aa⟩ := zk aa
     refine yJ ((Ym (P := Tryz.prog) wt 40 1 [] (fa := .fn 37 []) (r := eSl 1 true (eI .u64) ap) (xl := [(eSl 5 false (zc F7_ zD zF)) ah]) (xr := []) (qs := [(ya (zt (eI .i64) eB al.states_)), (ya (zt F0_ eB al.edges_)), (ya (zt zD eB al.pairs_))]) (qs' := [(ya (zt (eI .i64) eB al.states_)), (ya (zt F0_ eB al.edges_)), (ya (zt zD eB al.pairs_))]) (es := [(zt (eI .i64) eB al.states_), (zt F0_ eB al.edges_), (zt zD eB al.pairs_)]) (es' := [(zt (eI .i64) eB al.states_), (zt F0_ eB al.edges_), (zt zD eB al.pairs_)]) (.inl rfl) (z4c (by kernel_rfl)) (.cons (wm (zt (eI .i64) eB al.states_)) (.cons (wm (zt F0_ eB al.edges_)) (.cons (wm (zt zD eB al.pairs_)) (.nil)))) (fun us hu => uX hC _ _ _ h3 us hu) (some 41)).or zB) hC y6 [1,1,1,1,1,1] [] [1,9,10] (fun z : List (List Int) => qB l_ ah ap z = some r0) (fun z => XI l_ ah ap z) [(1, .d (eSl 1 false F7_ l_)), (3, .own (.box (yj m_))), (9, .d (eSl 5 false (zc F7_ zD zF) ah)), (10, .own (.box (.agg [eOs 1 true F8_ [], eSl 1 true (eI .u64) ap])))] (Z2 ++ [Hq c3, Hc h04 (x := (m_, goal)) h1 (loC yj m_ <| loC (eI .i64) goal <| loN), Hc h02 (x := (m_, l_)) h2 (loC yj m_ <| loC Zh l_ <| loN), Hm (shM (zc F7_ zD zF) (zc F7_ zD zF) ah), Hn (⟨rfl, leP (show VR [(eSl 5 false (zc F7_ zD zF)) ah] [(eSl 5 false (zc F7_ zD zF)) ah] from inferInstance), leP (show VR [] [] from inferInstance), rfl, rfl⟩ : ([.fn 37 []] : List A) = [.fn 37 []] ∧ LeP [(eSl 5 false (zc F7_ zD zF)) ah] [(eSl 5 false (zc F7_ zD zF)) ah] ∧ LeP [] [] ∧ T.als 40 [] 1 1 = T.als 40 [] 1 1 ∧ (some (.agg [.opq (ya (zt (eI .i64) eB al.states_)), .opq (ya (zt F0_ eB al.edges_)), .opq (ya (zt zD eB al.pairs_))]) : Option A) = some (.agg [.opq (ya (zt (eI .i64) eB al.states_)), .opq (ya (zt F0_ eB al.edges_)), .opq (ya (zt zD eB al.pairs_))])), Hh (.cut 0)]) ?_ fun J1 ay => ?_
     ·rintro cg aa
      unfold qB at aa
      refine yJ zB hC y6 [1,1,1,1,1,1,1] [] [] (fun z : Unit => qA = some r0) (fun z => XG) [(1, .d (eSl 1 false F7_ l_)), (9, .d (eSl 5 false (zc F7_ zD zF) ah)), (10, .own (.box (.agg [eOs 1 false F4_ cg, eSl 1 true (eI .u64) ap])))] [Hh (.cut 0)] ?_ fun J2 a6 => ?_
      ·rintro ⟨⟩ aa
       unfold qA at aa
       obtain rfl := zi aa
       exact yEx zB hC hE [Hm (shM F7_ F7_ [])] (.tup [eSl 1 true F2_ [], I 0]) (show LeV (.tup [eSl 1 true F2_ [], I 0]) (.tup [eSl 1 true F2_ ([] : List (List Int)), I 0]) from inferInstance)
      ·obtain ⟨t3, ht3, aa⟩ := zk aa
       refine yL zB hC y6 [1,1,1,1,1,1,1,2,1,0] [J2] (fun s => qu l_ ah ap cg s) (fun x => XD l_ ah ap cg x) 0 ht3  [Ha (lnM F7_ l_), Hh (.n 1 [10]), Hm (shM F4_ F4_ cg)] ?_
       rintro d0 m3 bi ae hl1 J3 ca
       try unfold qu at ae
       rcases y4 ae with ⟨c4, ae⟩ | ⟨c4, ae⟩
       ·refine yJ zB hC y6 [1,1,1,1,1,1,1,2,1,0,0,1,1] [J2, J3] [1,9,10,68,69] (fun z : Unit => qz d0 = some bi) (fun z => XF l_ ah ap cg d0) [(1, .d (eSl 1 false F7_ l_)), (9, .d (eSl 5 false (zc F7_ zD zF) ah)), (10, .d (.sptr (.agg [eSl 1 false F4_ cg, eSl 1 true (eI .u64) ap]))), (68, .d (I (w64 (((l_.length : Nat) : Int) + 1)))), (69, .d (I d0))] [Hq c4, Hh (.cut 0)] ?_ fun J4 dv => ?_
        ·rintro ⟨⟩ ae
         unfold qz at ae
         obtain rfl := zi ae
         exact yB zB hC ca (w64 (d0 + 1)) hl1 []
        ·obtain ⟨av, h4, ae⟩ := zk ae
         obtain ⟨a9, h5, ae⟩ := zk ae
         obtain ⟨ax, h6, ae⟩ := zk ae
         let Z3 : List HO := [Hc h0g (x := ()) h4 (loN), Hn (⟨rfl, leP (show VR [(eSl 5 false (zc F7_ zD zF)) ah] [(eSl 5 false (zc F7_ zD zF)) ah] from inferInstance), leP (show VR [] [] from inferInstance), rfl, rfl⟩ : ([.fn 37 []] : List A) = [.fn 37 []] ∧ LeP [(eSl 5 false (zc F7_ zD zF)) ah] [(eSl 5 false (zc F7_ zD zF)) ah] ∧ LeP [] [] ∧ T.als 75 [] 1 1 = T.als 75 [] 1 1 ∧ (some (.agg [.opq (ya (zt (eI .i64) eB av.states_)), .opq (ya (zt F0_ eB av.edges_)), .opq (ya (zt zD eB av.pairs_))]) : Option A) = some (.agg [.opq (ya (zt (eI .i64) eB av.states_)), .opq (ya (zt F0_ eB av.edges_)), .opq (ya (zt zD eB av.pairs_))])), Hc h0V (x := ((zz.mk cg ap), a9,0, d0)) h6 (loC (eSp (yX (eSl 1 false F4_) F4_)) (zz.mk cg ap) <| loC F4_ a9 <| loC (eI .i64) 0 <| loC (eI .i64) d0 <| loN)]
         rcases y4 ae with ⟨c5, ae⟩ | ⟨c5, ae⟩
         ·exact yB ((Ym (P := Tryz.prog) wt 75 1 [] (fa := .fn 37 []) (r := eSl 1 true (eI .u64) a9) (xl := [(eSl 5 false (zc F7_ zD zF)) ah]) (xr := []) (qs := [(ya (zt (eI .i64) eB av.states_)), (ya (zt F0_ eB av.edges_)), (ya (zt zD eB av.pairs_))]) (qs' := [(ya (zt (eI .i64) eB av.states_)), (ya (zt F0_ eB av.edges_)), (ya (zt zD eB av.pairs_))]) (es := [(zt (eI .i64) eB av.states_), (zt F0_ eB av.edges_), (zt zD eB av.pairs_)]) (es' := [(zt (eI .i64) eB av.states_), (zt F0_ eB av.edges_), (zt zD eB av.pairs_)]) (.inl rfl) (z4c (by kernel_rfl)) (.cons (wm (zt (eI .i64) eB av.states_)) (.cons (wm (zt F0_ eB av.edges_)) (.cons (wm (zt zD eB av.pairs_)) (.nil)))) (fun us hu => uX hC _ _ _ h5 us hu) (some 76)).or zB) hC dv () ae (Z3 ++ [Hq c5])
         ·obtain ⟨g0, ae⟩ := gdE ae
          refine yJ ((xCm zC 85 1).or ((Ym (P := Tryz.prog) wt 75 1 [] (fa := .fn 37 []) (r := eSl 1 true (eI .u64) a9) (xl := [(eSl 5 false (zc F7_ zD zF)) ah]) (xr := []) (qs := [(ya (zt (eI .i64) eB av.states_)), (ya (zt F0_ eB av.edges_)), (ya (zt zD eB av.pairs_))]) (qs' := [(ya (zt (eI .i64) eB av.states_)), (ya (zt F0_ eB av.edges_)), (ya (zt zD eB av.pairs_))]) (es := [(zt (eI .i64) eB av.states_), (zt F0_ eB av.edges_), (zt zD eB av.pairs_)]) (es' := [(zt (eI .i64) eB av.states_), (zt F0_ eB av.edges_), (zt zD eB av.pairs_)]) (.inl rfl) (z4c (by kernel_rfl)) (.cons (wm (zt (eI .i64) eB av.states_)) (.cons (wm (zt F0_ eB av.edges_)) (.cons (wm (zt zD eB av.pairs_)) (.nil)))) (fun us hu => uX hC _ _ _ h5 us hu) (some 76)).or zB)) hC y6 [1,1,1,1,1,1,1,2,1,0,0,1,1,2,0,1,1,1,1] [J2, J3, J4] [16] (fun z : List (List Int) => qw ax z = some bi) (fun z => XE ax z) [(1, .d (eSl 1 false F7_ l_)), (14, .d (eSl 1 false (eI .i64) ax.1)), (16, .own (z2O 1 ((ax.1.length : Nat) : Int).toNat F7_ ([] : List (List Int))))] (Z3 ++ [Hq c5, Ha (lnM (eI .i64) ax.1), Hn (zfp g0), Hh (.cut 0)]) ?_ fun J5 dh => ?_
          ·rintro out ae
           unfold qw at ae
           obtain ⟨g1, ae⟩ := gdE ae
           obtain rfl := zi ae
           obtain rfl := hl1
           obtain rfl := zi aa
           exact yE ((xCe Tryz.prog 6 1 (((ax.1.length : Nat) : Int).toNat) (out.map F2_)).or zB) hC hE [Hn (⟨rfl, zfr F2_ g1⟩ : z2O 1 (((ax.1.length : Nat) : Int).toNat) F2_ out = A.opq (z0M 1 (((ax.1.length : Nat) : Int).toNat) (out.map F2_)).q ∧ (out.map F2_).length = ((ax.1.length : Nat) : Int).toNat), Hm (shM F2_ F2_ out)]
          ·obtain ⟨t6, ht6, ae⟩ := zk ae
           refine yL zB hC y6 [1,1,1,1,1,1,1,2,1,0,0,1,1,2,0,1,1,1,1,2,1,0] [J2, J3, J4, J5] (fun s => qt l_ ax s.1 s.2) (fun x => XC l_ ax x.1 x.2) (([] : List (List Int)), 0) ht6  [Ha (lnM (eI .i64) ax.1)] ?_
           rintro ⟨ai, gv⟩ m6 fh aj hl2 J6 d8
           try unfold qt at aj
           rcases y4 aj with ⟨c6, aj⟩ | ⟨c6, aj⟩
           ·obtain ⟨u_, h7, aj⟩ := zk aj
            obtain ⟨bf, h8, aj⟩ := zk aj
            obtain ⟨dm, h9, aj⟩ := zk aj
            obtain ⟨dr, h10, aj⟩ := zk aj
            obtain ⟨g2, aj⟩ := gdE aj
            obtain rfl := zi aj
            exact yB ((xCa zC 100 1 (((ax.1.length : Nat) : Int).toNat) (ai.map F2_) ((ai ++ ([dr] : List (List Int))).map F2_)).or zB) hC d8 ((ai ++ ([dr] : List (List Int))), w64 (gv + 1)) hl2 [Hq c6, Hi (eI .i64) h7, Hi F7_ h8, Hc h01 (x := bf) h9 (loC F7_ bf <| loN), Hg (KT h00), Hm (shM (eI .i64) (eI .i64) dm), Hs (KU h00 (x := dm) h10 (loC F7_ dm <| loN)), Hm (shM (eI .i64) (eI .i64) dm), Hn (⟨rfl, dM F2_ ([dr] : List (List Int)), rfl⟩ : 1 = 1 ∧ A.areD (([dr] : List (List Int)).map F2_) = true ∧ true = true), Hn (⟨rfl, zfq F2_ F2_ g2⟩ : z2O 1 (((ax.1.length : Nat) : Int).toNat) F2_ ai = A.opq (z0M 1 (((ax.1.length : Nat) : Int).toNat) (ai.map F2_)).q ∧ (ai.map F2_).length + (([dr] : List (List Int)).map F2_).length ≤ ((ax.1.length : Nat) : Int).toNat), Hn (aM F2_ ai ([dr] : List (List Int)))]
           ·obtain rfl := zi aj
            obtain rfl := hl2
            exact yB zB hC dh ai ae [Hq c6]
       ·obtain rfl := zi ae
        obtain rfl := hl1
        exact yB zB hC a6 () aa [Hq c4]
     ·obtain ⟨t7, ht7, aa⟩ := zk aa
      refine yLx zB hC y6 [1,1,1,1,1,1,2,1,0] [J1] (fun s => qr m_ l_ ah s.1 s.2) (fun x => XB m_ l_ ah ap x.1 x.2) (([] : List (List Int)), 0) ht7 [(1, .d (eSl 1 false F7_ l_)), (3, .own (.box (yj m_))), (9, .d (eSl 5 false (zc F7_ zD zF) ah)), (10, .own (.box (.agg [eOs 1 true F4_ [], eSl 1 true (eI .u64) ap]))), (44, .d (eSl 1 false F7_ l_)), (45, .d (I ((l_.length : Nat) : Int))), (46, .d (I 0))] inferInstance [Ha (lnM F7_ l_)] ?_
      rintro ⟨cq, de⟩ m7 bi ae hl1 J7 fp
      try unfold qr at ae
      rcases y4 ae with ⟨c7, ae⟩ | ⟨c7, ae⟩
      ·refine yA zB hC y6 [1,1,1,1,1,1,2,1,0,0,1,1] [J1, J7] [(1, .d (eSl 1 false F7_ l_)), (3, .own (.box (yj m_))), (9, .d (eSl 5 false (zc F7_ zD zF) ah)), (10, .own (.box (.agg [eOs 1 false F4_ cq, eSl 1 true (eI .u64) ap]))), (44, .d (eSl 1 false F7_ l_)), (45, .d (I ((l_.length : Nat) : Int))), (46, .d (I de))] [Hq c7, Hh (.cut 0)] ?_
       obtain ⟨cn, h11, ae⟩ := zk ae
       obtain ⟨cm, h12, ae⟩ := zk ae
       obtain ⟨fe, h13, ae⟩ := zk ae
       obtain ⟨g3, ae⟩ := gdE ae
       refine z6l (by kernel_rfl) (x := (sub [1,1,1,1,1,1,2,1,0,0,1,1,0] y6)) (y := (sub [1,1,1,1,1,1,2,1,0,0,1,1,1] y6)) 10 (fun st1 => Own.canon [1,3,9,10,44,45,46] st1 = ofL [(1, .d (eSl 1 false F7_ l_)), (3, .own (.box (yj m_))), (9, .d (eSl 5 false (zc F7_ zD zF) ah)), (10, .own (.box (.agg [eOs 1 false F4_ (cq ++ ([fe] : List (List Int))), eSl 1 true (eI .u64) ap]))), (44, .d (eSl 1 false F7_ l_)), (45, .d (I ((l_.length : Nat) : Int))), (46, .d (I de))]) ⟨_, rfl⟩ (fun b10 => yF ((xNc Tryz.prog 63 10 (z5g b10)).or ((Ym (P := Tryz.prog) wt 59 1 [] (fa := .fn 37 []) (r := eSl 1 true (eI .u64) fe) (xl := [(eSl 5 false (zc F7_ zD zF)) ah]) (xr := []) (qs := [(ya (zt (eI .i64) eB cm.states_)), (ya (zt F0_ eB cm.edges_)), (ya (zt zD eB cm.pairs_))]) (qs' := [(ya (zt (eI .i64) eB cm.states_)), (ya (zt F0_ eB cm.edges_)), (ya (zt zD eB cm.pairs_))]) (es := [(zt (eI .i64) eB cm.states_), (zt F0_ eB cm.edges_), (zt zD eB cm.pairs_)]) (es' := [(zt (eI .i64) eB cm.states_), (zt F0_ eB cm.edges_), (zt zD eB cm.pairs_)]) (.inl rfl) (z4c (by kernel_rfl)) (.cons (wm (zt (eI .i64) eB cm.states_)) (.cons (wm (zt F0_ eB cm.edges_)) (.cons (wm (zt zD eB cm.pairs_)) (.nil)))) (fun us hu => uX hC _ _ _ h13 us hu) (some 60)).or ((xMv Tryz.prog 50 10 (z5g b10) rfl).or zB))) hC .normal [(1, .d (eSl 1 false F7_ l_)), (3, .own (.box (yj m_))), (9, .d (eSl 5 false (zc F7_ zD zF) ah)), (10, .own (.box (.agg [eOs 1 false F4_ (cq ++ ([fe] : List (List Int))), eSl 1 true (eI .u64) ap]))), (44, .d (eSl 1 false F7_ l_)), (45, .d (I ((l_.length : Nat) : Int))), (46, .d (I de))] [Hi F7_ h11, Hn (rfl : some (z5g b10) = some (z5g b10)), Hg (KT h02), Hm (shM F7_ F7_ ([cn])), Hs (KU h02 (x := (m_, [cn])) h12 (loC yj m_ <| loC zbo ([cn] : List (List Int)) <| loN)), Hm (shM F7_ F7_ ([cn])), Hn (⟨rfl, leP (show VR [(eSl 5 false (zc F7_ zD zF)) ah] [(eSl 5 false (zc F7_ zD zF)) ah] from inferInstance), leP (show VR [] [] from inferInstance), rfl, rfl⟩ : ([.fn 37 []] : List A) = [.fn 37 []] ∧ LeP [(eSl 5 false (zc F7_ zD zF)) ah] [(eSl 5 false (zc F7_ zD zF)) ah] ∧ LeP [] [] ∧ T.als 59 [] 1 1 = T.als 59 [] 1 1 ∧ (some (.agg [.opq (ya (zt (eI .i64) eB cm.states_)), .opq (ya (zt F0_ eB cm.edges_)), .opq (ya (zt zD eB cm.pairs_))]) : Option A) = some (.agg [.opq (ya (zt (eI .i64) eB cm.states_)), .opq (ya (zt F0_ eB cm.edges_)), .opq (ya (zt zD eB cm.pairs_))])), Hq (dM F4_ ([fe] : List (List Int))), Hn (dM F4_ ([fe] : List (List Int))), Hn (aL F4_ F4_ g3), Hl (aM F4_ cq ([fe] : List (List Int))), Hn (⟨rfl, rfl⟩ : T.d (.atom (z5g b10)) = T.d (.atom (z5g b10)) ∧ some (z5g b10) = some (z5g b10))] fun st0 h0 => ⟨rfl, h0⟩) fun st1 h1 => z6n h1 ?_
       obtain rfl := zi ae
       exact yB zB hC fp ((cq ++ ([fe] : List (List Int))), w64 (de + 1)) hl1 []
      ·obtain rfl := zi ae
       obtain rfl := hl1
       exact yB zB hC ay cq aa [Hq c7]
def Yi : Code := (Tryz.f86.body).getD .skip
def vj : yf := spF (α := Int) (ρ := List UInt8) 86 (fun x => [(eI .i64) x]) (fun r => QL r) (fun x => uc x) [] (Ke)
theorem Yp (hC : zN Tryz.prog ctr) : vj.Ok Tryz.prog := by
 refine zU ?_
 rintro i_ r0 aa
 try unfold uc at aa
 refine yO true [(2, none)] Yi 15 Tryz.func86 fun E hE => ?_
 rcases y4 aa with ⟨c0, aa⟩ | ⟨c0, aa⟩
 ·obtain ⟨g0, aa⟩ := gdE aa
  obtain rfl := zi aa
  exact yE ((zgg zC 8).or X0) hC hE [Hq c0, Hn (stB (s := ([48,49,50,51,52,53,54,55,56,57,97,98,99,100,101,102,103,104,105,106,107,108,109,110,111,112,113,114,115,116,117,118,119,120,121,122] : List UInt8)) g0), Hx (.a (QL ((([48,49,50,51,52,53,54,55,56,57,97,98,99,100,101,102,103,104,105,106,107,108,109,110,111,112,113,114,115,116,117,118,119,120,121,122] : List UInt8).take (w64 (i_ + 1)).toNat).drop i_.toNat))) (zbR ([48,49,50,51,52,53,54,55,56,57,97,98,99,100,101,102,103,104,105,106,107,108,109,110,111,112,113,114,115,116,117,118,119,120,121,122] : List UInt8) i_ (w64 (i_ + 1)))]
 ·obtain ⟨g1, aa⟩ := gdE aa
  obtain rfl := zi aa
  exact yE ((zgg zC 14).or X0) hC hE [Hq c0, Hn (stB (s := ([48,48,48,49,48,50,48,51,48,52,48,53,48,54,48,55,48,56,48,57,49,48,49,49,49,50,49,51,49,52,49,53,49,54,49,55,49,56,49,57,50,48,50,49,50,50,50,51,50,52,50,53,50,54,50,55,50,56,50,57,51,48,51,49,51,50,51,51,51,52,51,53,51,54,51,55,51,56,51,57,52,48,52,49,52,50,52,51,52,52,52,53,52,54,52,55,52,56,52,57,53,48,53,49,53,50,53,51,53,52,53,53,53,54,53,55,53,56,53,57,54,48,54,49,54,50,54,51,54,52,54,53,54,54,54,55,54,56,54,57,55,48,55,49,55,50,55,51,55,52,55,53,55,54,55,55,55,56,55,57,56,48,56,49,56,50,56,51,56,52,56,53,56,54,56,55,56,56,56,57,57,48,57,49,57,50,57,51,57,52,57,53,57,54,57,55,57,56,57,57] : List UInt8)) g1), Hx (.a (QL ((([48,48,48,49,48,50,48,51,48,52,48,53,48,54,48,55,48,56,48,57,49,48,49,49,49,50,49,51,49,52,49,53,49,54,49,55,49,56,49,57,50,48,50,49,50,50,50,51,50,52,50,53,50,54,50,55,50,56,50,57,51,48,51,49,51,50,51,51,51,52,51,53,51,54,51,55,51,56,51,57,52,48,52,49,52,50,52,51,52,52,52,53,52,54,52,55,52,56,52,57,53,48,53,49,53,50,53,51,53,52,53,53,53,54,53,55,53,56,53,57,54,48,54,49,54,50,54,51,54,52,54,53,54,54,54,55,54,56,54,57,55,48,55,49,55,50,55,51,55,52,55,53,55,54,55,55,55,56,55,57,56,48,56,49,56,50,56,51,56,52,56,53,56,54,56,55,56,56,56,57,57,48,57,49,57,50,57,51,57,52,57,53,57,54,57,55,57,56,57,57] : List UInt8).take (w64 ((w64 (i_ * 2)) + 2)).toNat).drop (w64 (i_ * 2)).toNat))) (zbR ([48,48,48,49,48,50,48,51,48,52,48,53,48,54,48,55,48,56,48,57,49,48,49,49,49,50,49,51,49,52,49,53,49,54,49,55,49,56,49,57,50,48,50,49,50,50,50,51,50,52,50,53,50,54,50,55,50,56,50,57,51,48,51,49,51,50,51,51,51,52,51,53,51,54,51,55,51,56,51,57,52,48,52,49,52,50,52,51,52,52,52,53,52,54,52,55,52,56,52,57,53,48,53,49,53,50,53,51,53,52,53,53,53,54,53,55,53,56,53,57,54,48,54,49,54,50,54,51,54,52,54,53,54,54,54,55,54,56,54,57,55,48,55,49,55,50,55,51,55,52,55,53,55,54,55,55,55,56,55,57,56,48,56,49,56,50,56,51,56,52,56,53,56,54,56,55,56,56,56,57,57,48,57,49,57,50,57,51,57,52,57,53,57,54,57,55,57,56,57,57] : List UInt8) (w64 (i_ * 2)) (w64 ((w64 (i_ * 2)) + 2)))]
def wh : Code := (Tryz.f76.body).getD .skip
def wa : yf := spF (α := Int × Int) (ρ := List UInt8) 76 (fun x => [(eI .i64) x.1, (eI .i64) x.2]) (fun r => QL r) (fun x => wM x.1 x.2) [] (VS)
abbrev jl (i_ : Int) (u_ : Int) : List (Nat × T) := [(0, .d (I i_)), (5, .own (.box (.agg [.atom (.int .u8 0), .atom (.int .u8 0), .atom (.int .u8 0), .atom (.int .u8 0), .atom (.int .u8 0), .atom (.int .u8 0), .atom (.int .u8 0), .atom (.int .u8 0), .atom (.int .u8 0), .atom (.int .u8 0), .atom (.int .u8 0), .atom (.int .u8 0), .atom (.int .u8 0), .atom (.int .u8 0), .atom (.int .u8 0), .atom (.int .u8 0), .atom (.int .u8 0), .atom (.int .u8 0), .atom (.int .u8 0), .atom (.int .u8 0), .atom (.int .u8 0), .atom (.int .u8 0), .atom (.int .u8 0), .atom (.int .u8 0)]))), (6, .d (.atom (.int .u64 u_)))]
abbrev jm (i_ : Int) : List (Nat × T) := [(0, .d (I i_))]
theorem kE (hC : zN Tryz.prog ctr) (h0W : ctr.Has vj) : wa.Ok Tryz.prog := by
 refine zU ?_
 rintro ⟨i_, base⟩ r0 aa
 try unfold wM at aa
 refine yO true [(4, none)] wh 54 Tryz.func76 fun E hE => ?_
 rcases y4 aa with ⟨c0, aa⟩ | ⟨c0, aa⟩
 ·refine yJ X0 hC wh [1,0,1,0] [] [0] (fun z : Unit => yS i_ = some r0) (fun z => jm i_) [(0, .d (I i_))] [Hq c0, Hh (.cut 0)] ?_ fun J1 ay => ?_
  ·rintro ⟨⟩ aa
   unfold yS at aa
   refine yJ X0 hC wh [1,0,1,0,1,1,1] [] [0,5,6] (fun z : Int => yR z = some r0) (fun z => jl i_ z) [(0, .d (I i_)), (5, .own (.box (.agg [.atom (.int .u8 0), .atom (.int .u8 0), .atom (.int .u8 0), .atom (.int .u8 0), .atom (.int .u8 0), .atom (.int .u8 0), .atom (.int .u8 0), .atom (.int .u8 0), .atom (.int .u8 0), .atom (.int .u8 0), .atom (.int .u8 0), .atom (.int .u8 0), .atom (.int .u8 0), .atom (.int .u8 0), .atom (.int .u8 0), .atom (.int .u8 0), .atom (.int .u8 0), .atom (.int .u8 0), .atom (.int .u8 0), .atom (.int .u8 0), .atom (.int .u8 0), .atom (.int .u8 0), .atom (.int .u8 0), .atom (.int .u8 0)]))), (6, .d (.atom (.int .u64 (IntKind.u64.wrap (i_)))))] [Hh (.cut 2)] ?_ fun J2 a6 => ?_
   ·rintro u_ aa
    unfold yR at aa
    cases aa
   ·rcases y4 aa with ⟨c1, aa⟩ | ⟨c1, aa⟩
    ·exact yB X0 hC a6 (IntKind.u64.wrap (0 - (IntKind.u64.wrap (i_)))) aa [Hq c1]
    ·exact yB X0 hC a6 (IntKind.u64.wrap (i_)) aa [Hq c1]
  ·rcases y4 aa with ⟨c2, aa⟩ | ⟨c2, aa⟩
   ·rcases y4 aa with ⟨c3, aa⟩ | ⟨c3, aa⟩
    ·obtain ⟨r_, h0, aa⟩ := zk aa
     obtain rfl := zi aa
     exact yE X0 hC hE [Hq c2, Hq c2, Hq c2, Hq c3, Hc h0W (x := i_) h0 (loC (eI .i64) i_ <| loN)]
    ·exact yB X0 hC ay () aa [Hq c2, Hq c2, Hq c2, Hq c3]
   ·exact yB X0 hC ay () aa [Hq c2, Hq c2, Hq c2, qF]
 ·cases aa
def YE : Code := (Tryz.f63.body).getD .skip
def vA : yf := spF (α := Int) (ρ := List UInt8) 63 (fun x => [(eI .i64) x]) (fun r => QL r) (fun x => uu x) [] (Ke)
theorem YJ (hC : zN Tryz.prog ctr) (h0X : ctr.Has wa) : vA.Ok Tryz.prog := by
 refine zU ?_
 rintro i_ r0 aa
 try unfold uu at aa
 refine yO true [(2, none)] YE 5 Tryz.func63 fun E hE => ?_
 obtain ⟨r_, h0, aa⟩ := zk aa
 obtain rfl := zi aa
 exact yE X0 hC hE [Hc h0X (x := (i_, 10)) h0 (loC (eI .i64) i_ <| loC (eI .i64) 10 <| loN)]
def K1 : Code := (Tryz.f49.body).getD .skip
def Zq : yf := spF (α := Int) (ρ := List UInt8) 49 (fun x => [(eI .i64) x]) (fun r => QL r) (fun x => vI x) [] (Ke)
theorem Kk (hC : zN Tryz.prog ctr) (h0Y : ctr.Has vA) : Zq.Ok Tryz.prog := by
 refine zU ?_
 rintro i_ r0 aa
 try unfold vI at aa
 refine yO true [(2, none)] K1 5 Tryz.func49 fun E hE => ?_
 obtain ⟨r_, h0, aa⟩ := zk aa
 obtain rfl := zi aa
 exact yE X0 hC hE [Hc h0Y (x := i_) h0 (loC (eI .i64) i_ <| loN)]
def YG : Code := (Tryz.f29.body).getD .skip
def jw : yf := spF (α := yb) (ρ := List UInt8) 29 (fun x => [zeB x]) (fun r => QL r) (fun x => Ye x) [] (Ke)
abbrev WD (s_ : List UInt8) : List (Nat × T) := [(3, .d (QL s_))]
theorem UY (hC : zN Tryz.prog ctr) (h05 : ctr.Has Zq) : jw.Ok Tryz.prog := by
 refine zU ?_
 rintro c_ r0 aa
 try unfold Ye at aa
 refine yO true [(2, none)] YG 33 Tryz.func29 fun E hE => ?_
 refine yJ X0 hC YG [1,1] [] [3] (fun z : List UInt8 => jD z = some r0) (fun z => WD z) [(1, .own (.box (zeB c_))), (3, .d (QL ([] : List UInt8)))] [Hh (.cut 2)] ?_ fun J1 ay => ?_
 ·rintro s_ aa
  unfold jD at aa
  obtain rfl := zi aa
  exact yE X0 hC hE []
 ·obtain ⟨r_, h0, aa⟩ := zk aa
  obtain ⟨g0, aa⟩ := gdE aa
  obtain ⟨g1, aa⟩ := gdE aa
  obtain ⟨ah, h1, aa⟩ := zk aa
  obtain ⟨g2, aa⟩ := gdE aa
  obtain ⟨g3, aa⟩ := gdE aa
  obtain ⟨al, h2, aa⟩ := zk aa
  obtain ⟨g4, aa⟩ := gdE aa
  obtain ⟨g5, aa⟩ := gdE aa
  obtain ⟨ap, h3, aa⟩ := zk aa
  obtain ⟨g6, aa⟩ := gdE aa
  obtain ⟨g7, aa⟩ := gdE aa
  obtain ⟨av, h4, aa⟩ := zk aa
  obtain ⟨g8, aa⟩ := gdE aa
  obtain ⟨g9, aa⟩ := gdE aa
  obtain ⟨a9, h5, aa⟩ := zk aa
  obtain ⟨g10, aa⟩ := gdE aa
  obtain ⟨g11, aa⟩ := gdE aa
  exact yB ((z6E Tryz.prog 30).or ((z6E Tryz.prog 29).or ((z6E Tryz.prog 25).or ((z6E Tryz.prog 24).or X0)))) hC ay (((([] : List UInt8) ++ (((([115,116,97,116,101,115,32] : List UInt8) ++ r_) ++ ([47] : List UInt8)) ++ ah)) ++ (((([44,32,101,100,103,101,115,32] : List UInt8) ++ al) ++ ([47] : List UInt8)) ++ ap)) ++ (((([44,32,112,97,105,114,115,32] : List UInt8) ++ av) ++ ([47] : List UInt8)) ++ a9)) aa [Hh (.u 70), qT, Hn (⟨rfl, by decide⟩ : true = true ∧ 0 < 2), Hc h05 (x := c_.States.e0) h0 (loC (eI .i64) c_.States.e0 <| loN), Hx (.a (QL (([115,116,97,116,101,115,32] : List UInt8) ++ r_))) (UZ (l := ([115,116,97,116,101,115,32] : List UInt8)) (m := r_) g0), Hx (.a (QL ((([115,116,97,116,101,115,32] : List UInt8) ++ r_) ++ ([47] : List UInt8)))) (UZ (l := (([115,116,97,116,101,115,32] : List UInt8) ++ r_)) (m := ([47] : List UInt8)) g1), Hn (⟨rfl, by decide⟩ : true = true ∧ 1 < 2), Hc h05 (x := c_.States.e1) h1 (loC (eI .i64) c_.States.e1 <| loN), Hx (.a (QL (((([115,116,97,116,101,115,32] : List UInt8) ++ r_) ++ ([47] : List UInt8)) ++ ah))) (UZ (l := ((([115,116,97,116,101,115,32] : List UInt8) ++ r_) ++ ([47] : List UInt8))) (m := ah) g2), Hx (.a (QL (([] : List UInt8) ++ (((([115,116,97,116,101,115,32] : List UInt8) ++ r_) ++ ([47] : List UInt8)) ++ ah)))) (UZ (l := ([] : List UInt8)) (m := (((([115,116,97,116,101,115,32] : List UInt8) ++ r_) ++ ([47] : List UInt8)) ++ ah)) g3), qT, Hn (⟨rfl, by decide⟩ : true = true ∧ 0 < 2), Hc h05 (x := c_.Edges.e0) h2 (loC (eI .i64) c_.Edges.e0 <| loN), Hx (.a (QL (([44,32,101,100,103,101,115,32] : List UInt8) ++ al))) (UZ (l := ([44,32,101,100,103,101,115,32] : List UInt8)) (m := al) g4), Hx (.a (QL ((([44,32,101,100,103,101,115,32] : List UInt8) ++ al) ++ ([47] : List UInt8)))) (UZ (l := (([44,32,101,100,103,101,115,32] : List UInt8) ++ al)) (m := ([47] : List UInt8)) g5), Hn (⟨rfl, by decide⟩ : true = true ∧ 1 < 2), Hc h05 (x := c_.Edges.e1) h3 (loC (eI .i64) c_.Edges.e1 <| loN), Hx (.a (QL (((([44,32,101,100,103,101,115,32] : List UInt8) ++ al) ++ ([47] : List UInt8)) ++ ap))) (UZ (l := ((([44,32,101,100,103,101,115,32] : List UInt8) ++ al) ++ ([47] : List UInt8))) (m := ap) g6), Hx (.a (QL ((([] : List UInt8) ++ (((([115,116,97,116,101,115,32] : List UInt8) ++ r_) ++ ([47] : List UInt8)) ++ ah)) ++ (((([44,32,101,100,103,101,115,32] : List UInt8) ++ al) ++ ([47] : List UInt8)) ++ ap)))) (UZ (l := (([] : List UInt8) ++ (((([115,116,97,116,101,115,32] : List UInt8) ++ r_) ++ ([47] : List UInt8)) ++ ah))) (m := (((([44,32,101,100,103,101,115,32] : List UInt8) ++ al) ++ ([47] : List UInt8)) ++ ap)) g7), qT, Hn (⟨rfl, by decide⟩ : true = true ∧ 0 < 2), Hc h05 (x := c_.Pairs.e0) h4 (loC (eI .i64) c_.Pairs.e0 <| loN), Hx (.a (QL (([44,32,112,97,105,114,115,32] : List UInt8) ++ av))) (UZ (l := ([44,32,112,97,105,114,115,32] : List UInt8)) (m := av) g8), Hx (.a (QL ((([44,32,112,97,105,114,115,32] : List UInt8) ++ av) ++ ([47] : List UInt8)))) (UZ (l := (([44,32,112,97,105,114,115,32] : List UInt8) ++ av)) (m := ([47] : List UInt8)) g9), Hn (⟨rfl, by decide⟩ : true = true ∧ 1 < 2), Hc h05 (x := c_.Pairs.e1) h5 (loC (eI .i64) c_.Pairs.e1 <| loN), Hx (.a (QL (((([44,32,112,97,105,114,115,32] : List UInt8) ++ av) ++ ([47] : List UInt8)) ++ a9))) (UZ (l := ((([44,32,112,97,105,114,115,32] : List UInt8) ++ av) ++ ([47] : List UInt8))) (m := a9) g10), Hx (.a (QL (((([] : List UInt8) ++ (((([115,116,97,116,101,115,32] : List UInt8) ++ r_) ++ ([47] : List UInt8)) ++ ah)) ++ (((([44,32,101,100,103,101,115,32] : List UInt8) ++ al) ++ ([47] : List UInt8)) ++ ap)) ++ (((([44,32,112,97,105,114,115,32] : List UInt8) ++ av) ++ ([47] : List UInt8)) ++ a9)))) (UZ (l := ((([] : List UInt8) ++ (((([115,116,97,116,101,115,32] : List UInt8) ++ r_) ++ ([47] : List UInt8)) ++ ah)) ++ (((([44,32,101,100,103,101,115,32] : List UInt8) ++ al) ++ ([47] : List UInt8)) ++ ap))) (m := (((([44,32,112,97,105,114,115,32] : List UInt8) ++ av) ++ ([47] : List UInt8)) ++ a9)) g11), qF]
def Xf : Code := (Tryz.f12.body).getD .skip
def YP : yf := spF (α := List (List Int) × List (List Int)) (ρ := Bool) 12 (fun x => [Zh x.1, Zh x.2]) (fun r => eB r) (fun x => Wi x.1 x.2) [] (VS)
abbrev Qi : List (Nat × T) := []
abbrev Qh (a_ : List (List Int)) (b_ : List (List Int)) (i_ : Int) : List (Nat × T) := [(0, .d (eSl 1 false F7_ a_)), (1, .d (eSl 1 false F7_ b_)), (5, .d (I i_))]
theorem z18 (hC : zN Tryz.prog ctr) (h08 : ctr.Has uY) : YP.Ok Tryz.prog := by
 refine zU ?_
 rintro ⟨a_, b_⟩ r0 aa
 try unfold Wi at aa
 refine yO true [(4, none)] Xf 27 Tryz.func12 fun E hE => ?_
 let Z0 : List HO := [Ha (lnM F7_ a_), Ha (lnM F7_ b_)]
 rcases y4 aa with ⟨c0, aa⟩ | ⟨c0, aa⟩
 ·obtain rfl := zi aa
  exact yE X0 hC hE (Z0 ++ [Hq c0])
 ·refine yJ X0 hC Xf [1,1] [] [] (fun z : Unit => X2 = some r0) (fun z => Qi) [(0, .d (eSl 1 false F7_ a_)), (1, .d (eSl 1 false F7_ b_))] (Z0 ++ [Hq c0, Hh (.cut 0)]) ?_ fun J1 ay => ?_
  ·rintro ⟨⟩ aa
   unfold X2 at aa
   obtain rfl := zi aa
   exact yE X0 hC hE []
  ·obtain ⟨t2, ht2, aa⟩ := zk aa
   refine yL X0 hC Xf [1,1,2,1,0] [J1] (fun s => X1 a_ b_ s) (fun x => Qh a_ b_ x) 0 ht2  [] ?_
   rintro i_ m2 bi ae hl1 J2 a6
   try unfold X1 at ae
   let Z1 : List HO := [Ha (lnM F7_ a_)]
   rcases y4 ae with ⟨c1, ae⟩ | ⟨c1, ae⟩
   ·obtain ⟨ft, h0, ae⟩ := zk ae
    obtain ⟨fw, h1, ae⟩ := zk ae
    obtain ⟨r_, h2, ae⟩ := zk ae
    let Z2 : List HO := (Z1 ++ [Hq c1, Hi F7_ h0, Hi F7_ h1, Hc h08 (x := (ft, fw)) h2 (loC F7_ ft <| loC F7_ fw <| loN)])
    rcases y4 ae with ⟨c2, ae⟩ | ⟨c2, ae⟩
    ·obtain rfl := zi ae
     obtain rfl := hl1
     obtain rfl := zi aa
     exact yE X0 hC hE (Z2 ++ [Hq c2])
    ·obtain rfl := zi ae
     exact yB X0 hC a6 (w64 (i_ + 1)) hl1 (Z2 ++ [Hq c2])
   ·obtain rfl := zi ae
    obtain rfl := hl1
    exact yB X0 hC ay () aa (Z1 ++ [Hq c1])
def Kv : Code := (Tryz.f10.body).getD .skip
def Yb : yf := spF (α := Unit) (ρ := Bool) 10 (fun x => []) (fun r => eB r) (fun x => X5) [] (fun _ _ _ => rfl)
theorem z0h (hC : zN Tryz.prog ctr) (h0Z : ctr.Has Zt) (h0k : ctr.Has Zu) (h0b : ctr.Has ug) (h17 : ctr.Has qq) (h0s : ctr.Has qp) (h18 : ctr.Has jw) (h0c : ctr.Has YP) : Yb.Ok Tryz.prog := by
 refine zU ?_
 rintro ⟨⟩ r0 aa
 try unfold X5 at aa
 refine yO true [(0, none)] Kv 117 Tryz.func10 fun E hE => ?_
 obtain ⟨r_, h0, aa⟩ := zk aa
 obtain ⟨ah, h1, aa⟩ := zk aa
 obtain ⟨al, h2, aa⟩ := zk aa
 obtain ⟨ap, h3, aa⟩ := zk aa
 obtain ⟨av, h4, aa⟩ := zk aa
 obtain ⟨a9, h5, aa⟩ := zk aa
 let Z0 : List HO := [Hc h0Z (x := ()) h0 (loN), Hc h0k (x := (r_, [])) h1 (loC zbn r_ <| loC zbo ([] : List (List Int)) <| loN), Hg (KT h0k), Hm (shM F3_ F2_ ([[1], [0,0,1]])), Hs (KU h0k (x := (r_, [[1], [0,0,1]])) h2 (loC zbn r_ <| loC z4o ([[1], [0,0,1]] : List (List Int)) <| loN)), Hg (KT h0b), Hm (shM F3_ F2_ ([[1], [0,0,1]])), Hs (KU h0b (x := (r_, [[1], [0,0,1]])) h3 (loC zbn r_ <| loC z4o ([[1], [0,0,1]] : List (List Int)) <| loN)), Hm (shM F3_ F2_ ([[1], [0,0,1]])), Hc h17 (x := (r_, [], 1)) h4 (loC zbn r_ <| loC zbo ([] : List (List Int)) <| loC (eI .i64) 1 <| loN), Hg (KT h0s), Hm (shM F3_ F2_ ([[0], [1], [0,0], [0,1,1]])), Hs (KU h0s (x := (r_, [[0], [1], [0,0], [0,1,1]], 1)) h5 (loC zbn r_ <| loC z4o ([[0], [1], [0,0], [0,1,1]] : List (List Int)) <| loC (eI .i64) 1 <| loN)), Hm (shM F3_ F2_ ([[0], [1], [0,0], [0,1,1]]))]
 rcases y4 aa with ⟨c0, aa⟩ | ⟨c0, aa⟩
 ·rcases y4 aa with ⟨c1, aa⟩ | ⟨c1, aa⟩
  ·let Z1 : List HO := (Z0 ++ [Hq c0, Hq c0, Hq c0, Hq c1, Hq c1, Hq c1])
   rcases y4 aa with ⟨c2, aa⟩ | ⟨c2, aa⟩
   ·rcases y4 aa with ⟨c3, aa⟩ | ⟨c3, aa⟩
    ·let Z2 : List HO := (Z1 ++ [Hq c2, Hq c2, Hq c2, Hq c3, Hq c3, Hq c3])
     rcases y4 aa with ⟨c4, aa⟩ | ⟨c4, aa⟩
     ·let Z3 : List HO := (Z2 ++ (rpN 7 (Hq c4) []))
      rcases y4 aa with ⟨c5, aa⟩ | ⟨c5, aa⟩
      ·obtain ⟨ax, h6, aa⟩ := zk aa
       let Z4 : List HO := (Z3 ++ [Hq c5, Hq c5, Hc h18 (x := ah.1) h6 (loC zeB ah.1 <| loN), Hq c5, Hx (.a (.atom (.bool (ax == ([115,116,97,116,101,115,32,49,47,50,44,32,101,100,103,101,115,32,48,47,52,44,32,112,97,105,114,115,32,48,47,56] : List UInt8))))) (zhD ax ([115,116,97,116,101,115,32,49,47,50,44,32,101,100,103,101,115,32,48,47,52,44,32,112,97,105,114,115,32,48,47,56] : List UInt8)), Hq c5])
       rcases y4 aa with ⟨c6, aa⟩ | ⟨c6, aa⟩
       ·let Z5 : List HO := (Z4 ++ (rpN 7 (Hq c6) []))
        rcases y4 aa with ⟨c7, aa⟩ | ⟨c7, aa⟩
        ·let Z6 : List HO := (Z5 ++ [Hq c7, Hq c7, Ha (lnM F0_ ap.1), Hq c7, Hq c7])
         rcases y4 aa with ⟨c8, aa⟩ | ⟨c8, aa⟩
         ·obtain ⟨u_, h7, aa⟩ := zk aa
          let Z7 : List HO := (Z6 ++ (Hq c8 :: Hq c8 :: Hi F0_ h7 :: (rpN 4 (Hq c8) [])))
          rcases y4 aa with ⟨c9, aa⟩ | ⟨c9, aa⟩
          ·obtain ⟨dm, h8, aa⟩ := zk aa
           let Z8 : List HO := (Z7 ++ (rpN 7 (Hq c9) [Hg (KT h0c), Hm (shM F3_ F2_ ([[0], [1], [0,0], [0,1]])), Hs (KU h0c (x := (av.1, [[0], [1], [0,0], [0,1]])) h8 (loC z4o av.1 <| loC z4o ([[0], [1], [0,0], [0,1]] : List (List Int)) <| loN)), Hq c9]))
           rcases y4 aa with ⟨c10, aa⟩ | ⟨c10, aa⟩
           ·obtain ⟨dr, h9, aa⟩ := zk aa
            obtain rfl := zi aa
            exact yE ((z4r zC 86).or ((z6E Tryz.prog 78).or ((z4r zC 73).or X0))) hC hE (Z8 ++ (rpN 6 (Hq c10) [Hg (KT h0c), Hm (shM F3_ F2_ ([[1], [0,0], [0,1,1]])), Hs (KU h0c (x := (a9.1, [[1], [0,0], [0,1,1]])) h9 (loC z4o a9.1 <| loC z4o ([[1], [0,0], [0,1,1]] : List (List Int)) <| loN)), Hq c10]))
           ·obtain rfl := zi aa
            exact yE ((z4r zC 86).or ((z6E Tryz.prog 78).or ((z4r zC 73).or X0))) hC hE (Z8 ++ (rpN 7 (Hq c10) []))
          ·obtain rfl := zi aa
           exact yE ((z4r zC 86).or ((z6E Tryz.prog 78).or ((z4r zC 73).or X0))) hC hE (Z7 ++ (rpN 8 (Hq c9) (rpN 7 qF [])))
         ·obtain rfl := zi aa
          exact yE ((z4r zC 86).or ((z6E Tryz.prog 78).or ((z4r zC 73).or X0))) hC hE (Z6 ++ (rpN 6 (Hq c8) (rpN 15 qF [])))
        ·obtain rfl := zi aa
         exact yE ((z4r zC 86).or ((z6E Tryz.prog 78).or ((z4r zC 73).or X0))) hC hE (Z5 ++ (rpN 4 (Hq c7) (rpN 21 qF [])))
       ·obtain rfl := zi aa
        exact yE ((z6E Tryz.prog 78).or ((z4r zC 73).or X0)) hC hE (Z4 ++ (rpN 7 (Hq c6) (rpN 25 qF [])))
      ·obtain rfl := zi aa
       exact yE ((z4r zC 73).or X0) hC hE (Z3 ++ (rpN 4 (Hq c5) (rpN 32 qF [])))
     ·obtain rfl := zi aa
      exact yE X0 hC hE (Z2 ++ (rpN 7 (Hq c4) (rpN 36 qF [])))
    ·obtain rfl := zi aa
     exact yE X0 hC hE (Z1 ++ (Hq c2 :: Hq c2 :: Hq c2 :: Hq c3 :: Hq c3 :: Hq c3 :: (rpN 43 qF [])))
   ·obtain rfl := zi aa
    exact yE X0 hC hE (Z1 ++ (Hq c2 :: Hq c2 :: Hq c2 :: (rpN 46 qF [])))
  ·obtain rfl := zi aa
   exact yE X0 hC hE (Z0 ++ (Hq c0 :: Hq c0 :: Hq c0 :: Hq c1 :: Hq c1 :: Hq c1 :: (rpN 49 qF [])))
 ·obtain rfl := zi aa
  exact yE X0 hC hE (Z0 ++ (Hq c0 :: Hq c0 :: Hq c0 :: (rpN 52 qF [])))
def zZ : Code := (Tryz.f6.body).getD .skip
def vg : yf := spF (α := wn) (ρ := Bool) 6 (fun x => [(uS Kx (eSl 1 false F1_)) x]) (fun r => eB r) (fun x => wI x) [] (Ke)
abbrev kZ : List (Nat × T) := []
abbrev kY (ap : List z8 × Int) (ax : List za) (i_ : Int) : List (Nat × T) := [(9, .d (eSl 3 true zD ap.1)), (13, .own (eOs 3 false xX ax)), (16, .d (I i_))]
abbrev Za (ap : List z8 × Int) (ax : List za) : List (Nat × T) := [(9, .d (eSl 3 true zD ap.1)), (13, .own (eOs 3 false xX ax))]
abbrev kX (al : List (x5 Int) × Int) (ap : List z8 × Int) (a9 : List za) (ax : List za) (fz : Int) : List (Nat × T) := [(7, .d (eSl 2 true F0_ al.1)), (9, .d (eSl 3 true zD ap.1)), (12, .own (eOs 3 false xX a9)), (13, .own (eOs 3 false xX ax)), (15, .d (I fz))]
abbrev Zb (al : List (x5 Int) × Int) (ap : List z8 × Int) (a9 : List za) (ax : List za) : List (Nat × T) := [(7, .d (eSl 2 true F0_ al.1)), (9, .d (eSl 3 true zD ap.1)), (12, .own (eOs 3 false xX a9)), (13, .own (eOs 3 false xX ax))]
abbrev kW (ah : List Int × Int) (al : List (x5 Int) × Int) (ap : List z8 × Int) (av : List za) (a9 : List za) (ax : List za) (gb : Int) : List (Nat × T) := [(5, .d (eSl 1 true (eI .i64) ah.1)), (7, .d (eSl 2 true F0_ al.1)), (9, .d (eSl 3 true zD ap.1)), (11, .own (eOs 3 false xX av)), (12, .own (eOs 3 false xX a9)), (13, .own (eOs 3 false xX ax)), (14, .d (I gb))]
abbrev Zc (ah : List Int × Int) (al : List (x5 Int) × Int) (ap : List z8 × Int) (av : List za) (a9 : List za) (ax : List za) : List (Nat × T) := [(5, .d (eSl 1 true (eI .i64) ah.1)), (7, .d (eSl 2 true F0_ al.1)), (9, .d (eSl 3 true zD ap.1)), (11, .own (eOs 3 false xX av)), (12, .own (eOs 3 false xX a9)), (13, .own (eOs 3 false xX ax))]
theorem Yo (hC : zN Tryz.prog ctr) (h19 : ctr.Has YR) (h1a : ctr.Has qo) (h0b : ctr.Has ug) (h1b : ctr.Has qQ) (h0l : ctr.Has kg) (h1d : ctr.Has Yb) : vg.Ok Tryz.prog := by
 refine zU ?_
 rintro x_ r0 aa
 try unfold wI at aa
 refine yO true [(2, none)] zZ 177 Tryz.func6 fun E hE => ?_
 obtain ⟨r_, h0, aa⟩ := zk aa
 obtain ⟨ah, h1, aa⟩ := zk aa
 obtain ⟨al, h2, aa⟩ := zk aa
 obtain ⟨ap, h3, aa⟩ := zk aa
 obtain ⟨av, h4, aa⟩ := zk aa
 obtain ⟨a9, h5, aa⟩ := zk aa
 obtain ⟨ax, h6, aa⟩ := zk aa
 refine yJ X0 hC zZ [1,1,1,1,1,1,1,1] [] [5,7,9,11,12,13] (fun z : Unit => yl ah al ap av a9 ax = some r0) (fun z => Zc ah al ap av a9 ax) [(5, .d (eSl 1 true (eI .i64) ah.1)), (6, .d (I ah.2)), (7, .d (eSl 2 true F0_ al.1)), (8, .d (I al.2)), (9, .d (eSl 3 true zD ap.1)), (10, .d (I ap.2)), (11, .own (eOs 3 false xX av)), (12, .own (eOs 3 false xX a9)), (13, .own (eOs 3 false xX ax))] [Hc h19 (x := (wn.mk x_.M x_.L)) h0 (loC (uS Kx (eSl 1 false F1_)) (wn.mk x_.M x_.L) <| loN), Hc h1a (x := (r_.1, r_.2)) h1 (loC yj r_.1 <| loC Zh r_.2 <| loN), Hc h0b (x := (r_.1, r_.2)) h2 (loC yj r_.1 <| loC Zh r_.2 <| loN), Hc h1b (x := (r_.1, r_.2)) h3 (loC yj r_.1 <| loC Zh r_.2 <| loN), Hc h0l (x := (r_.1, r_.2,0)) h4 (loC yj r_.1 <| loC Zh r_.2 <| loC (eI .i64) 0 <| loN), Hc h0l (x := (r_.1, r_.2,1)) h5 (loC yj r_.1 <| loC Zh r_.2 <| loC (eI .i64) 1 <| loN), Hc h0l (x := (r_.1, r_.2,2)) h6 (loC yj r_.1 <| loC Zh r_.2 <| loC (eI .i64) 2 <| loN), Hh (.cut 0)] ?_ fun J1 ay => ?_
 ·rintro ⟨⟩ aa
  unfold yl at aa
  refine yJ X0 hC zZ [1,1,1,1,1,1,1,1,1] [] [7,9,12,13] (fun z : Unit => xM al ap a9 ax = some r0) (fun z => Zb al ap a9 ax) [(5, .d (eSl 1 true (eI .i64) ah.1)), (7, .d (eSl 2 true F0_ al.1)), (9, .d (eSl 3 true zD ap.1)), (11, .own (eOs 3 false xX av)), (12, .own (eOs 3 false xX a9)), (13, .own (eOs 3 false xX ax))] [Hh (.cut 0)] ?_ fun J2 a6 => ?_
  ·rintro ⟨⟩ aa
   unfold xM at aa
   refine yJ X0 hC zZ [1,1,1,1,1,1,1,1,1,1] [] [9,13] (fun z : Unit => xL ap ax = some r0) (fun z => Za ap ax) [(7, .d (eSl 2 true F0_ al.1)), (9, .d (eSl 3 true zD ap.1)), (12, .own (eOs 3 false xX a9)), (13, .own (eOs 3 false xX ax))] [Hh (.cut 0)] ?_ fun J3 ca => ?_
   ·rintro ⟨⟩ aa
    unfold xL at aa
    refine yJ X0 hC zZ [1,1,1,1,1,1,1,1,1,1,1] [] [] (fun z : Unit => xK = some r0) (fun z => kZ) [(9, .d (eSl 3 true zD ap.1)), (13, .own (eOs 3 false xX ax))] [Hh (.cut 0)] ?_ fun J4 dv => ?_
    ·rintro ⟨⟩ aa
     unfold xK at aa
     obtain ⟨dm, h7, aa⟩ := zk aa
     obtain rfl := zi aa
     exact yE X0 hC hE [Hc h1d (x := ()) h7 (loN)]
    ·obtain ⟨t5, ht5, aa⟩ := zk aa
     refine yL X0 hC zZ [1,1,1,1,1,1,1,1,1,1,1,2,1,0] [J4] (fun s => yM ap ax s) (fun x => kY ap ax x) 0 ht5  [] ?_
     rintro i_ m5 bi ae hl1 J5 dh
     try unfold yM at ae
     let Z0 : List HO := [Ha (lnM zD ap.1)]
     rcases y4 ae with ⟨c0, ae⟩ | ⟨c0, ae⟩
     ·obtain ⟨u_, h8, ae⟩ := zk ae
      obtain ⟨bt, h9, ae⟩ := zk ae
      obtain ⟨dx, h10, ae⟩ := zk ae
      obtain ⟨io, h11, ae⟩ := zk ae
      let Z1 : List HO := (Z0 ++ [Hq c0, Hi zD h8, Hn (iL xX h9), Hs (iM xX h9), Hs (iM xX h9), Hn (iL xX h10), Hs (iM xX h10), Hs (iM xX h10), Hn (iL xX h11), Hs (iM xX h11), Hs (iM xX h11)])
      rcases y4 ae with ⟨c1, ae⟩ | ⟨c1, ae⟩
      ·obtain rfl := zi ae
       obtain rfl := hl1
       obtain rfl := zi aa
       exact yE X0 hC hE (Z1 ++ [Hq c1])
      ·obtain rfl := zi ae
       exact yB X0 hC dh (w64 (i_ + 1)) hl1 (Z1 ++ [Hq c1])
     ·obtain rfl := zi ae
      obtain rfl := hl1
      exact yB X0 hC dv () aa (Z0 ++ [Hq c0])
   ·obtain ⟨t6, ht6, aa⟩ := zk aa
    refine yL X0 hC zZ [1,1,1,1,1,1,1,1,1,1,2,1,0] [J3] (fun s => yK al a9 s) (fun x => kX al ap a9 ax x) 0 ht6  [] ?_
    rintro fz m6 bi ae hl1 J6 d8
    try unfold yK at ae
    let Z2 : List HO := [Ha (lnM F0_ al.1)]
    rcases y4 ae with ⟨c2, ae⟩ | ⟨c2, ae⟩
    ·obtain ⟨ee, h12, ae⟩ := zk ae
     obtain ⟨ip, h13, ae⟩ := zk ae
     obtain ⟨iq, h14, ae⟩ := zk ae
     let Z3 : List HO := (Z2 ++ [Hq c2, Hi F0_ h12, Hn (iL xX h13), Hs (iM xX h13), Hs (iM xX h13), Hn (iL xX h14), Hs (iM xX h14), Hs (iM xX h14)])
     rcases y4 ae with ⟨c3, ae⟩ | ⟨c3, ae⟩
     ·obtain rfl := zi ae
      obtain rfl := hl1
      obtain rfl := zi aa
      exact yE X0 hC hE (Z3 ++ [Hq c3])
     ·obtain rfl := zi ae
      exact yB X0 hC d8 (w64 (fz + 1)) hl1 (Z3 ++ [Hq c3])
    ·obtain rfl := zi ae
     obtain rfl := hl1
     exact yB X0 hC ca () aa (Z2 ++ [Hq c2])
  ·obtain ⟨t7, ht7, aa⟩ := zk aa
   refine yL X0 hC zZ [1,1,1,1,1,1,1,1,1,2,1,0] [J2] (fun s => yI ah av s) (fun x => kW ah al ap av a9 ax x) 0 ht7  [] ?_
   rintro gb m7 bi ae hl1 J7 fp
   try unfold yI at ae
   let Z4 : List HO := [Ha (lnM (eI .i64) ah.1)]
   rcases y4 ae with ⟨c4, ae⟩ | ⟨c4, ae⟩
   ·obtain ⟨gq, h15, ae⟩ := zk ae
    obtain ⟨ir, h16, ae⟩ := zk ae
    let Z5 : List HO := (Z4 ++ [Hq c4, Hi (eI .i64) h15, Hn (iL xX h16), Hs (iM xX h16), Hs (iM xX h16)])
    rcases y4 ae with ⟨c5, ae⟩ | ⟨c5, ae⟩
    ·obtain rfl := zi ae
     obtain rfl := hl1
     obtain rfl := zi aa
     exact yE X0 hC hE (Z5 ++ [Hq c5])
    ·obtain rfl := zi ae
     exact yB X0 hC fp (w64 (gb + 1)) hl1 (Z5 ++ [Hq c5])
   ·obtain rfl := zi ae
    obtain rfl := hl1
    exact yB X0 hC a6 () aa (Z4 ++ [Hq c4])
 ·rcases y4 aa with ⟨c6, aa⟩ | ⟨c6, aa⟩
  ·obtain rfl := zi aa
   exact yE X0 hC hE (Hq c6 :: Hq c6 :: Hq c6 :: (rpN 46 qT []))
  ·rcases y4 aa with ⟨c7, aa⟩ | ⟨c7, aa⟩
   ·obtain rfl := zi aa
    exact yE X0 hC hE (Hq c6 :: Hq c6 :: Hq c6 :: Hq c7 :: Hq c7 :: Hq c7 :: (rpN 43 qT []))
   ·let Z6 : List HO := [Hq c6, Hq c6, Hq c6, Hq c7, Hq c7, Hq c7]
    rcases y4 aa with ⟨c8, aa⟩ | ⟨c8, aa⟩
    ·obtain rfl := zi aa
     exact yE X0 hC hE (Z6 ++ (rpN 6 (Hq c8) (rpN 37 qT [])))
    ·let Z7 : List HO := (Z6 ++ [Hq c8, Hq c8, Ha (lnM (eI .i64) ah.1), Hq c8, Hq c8, Ha (lnM xX av), Hq c8, Hq c8])
     rcases y4 aa with ⟨c9, aa⟩ | ⟨c9, aa⟩
     ·obtain rfl := zi aa
      exact yE X0 hC hE (Z7 ++ (rpN 6 (Hq c9) (rpN 31 qT [])))
     ·let Z8 : List HO := (Z7 ++ [Hq c9, Hq c9, Ha (lnM F0_ al.1), Hq c9, Hq c9, Ha (lnM xX a9), Hq c9, Hq c9])
      rcases y4 aa with ⟨c10, aa⟩ | ⟨c10, aa⟩
      ·obtain rfl := zi aa
       exact yE X0 hC hE (Z8 ++ (rpN 6 (Hq c10) (rpN 25 qT [])))
      ·let Z9 : List HO := (Z8 ++ [Hq c10, Hq c10, Ha (lnM zD ap.1), Hq c10, Hq c10, Ha (lnM xX ax), Hq c10, Hq c10])
       rcases y4 aa with ⟨c11, aa⟩ | ⟨c11, aa⟩
       ·obtain rfl := zi aa
        exact yE X0 hC hE (Z9 ++ (rpN 6 (Hq c11) (rpN 19 qT [])))
       ·let Z10 : List HO := (Z9 ++ [Hq c11, Hq c11, Ha (lnM (eI .i64) ah.1), Hq c11, Hq c11, Ha (lnM (eI .i64) ah.1), Hq c11, Hq c11])
        rcases y4 aa with ⟨c12, aa⟩ | ⟨c12, aa⟩
        ·obtain rfl := zi aa
         exact yE X0 hC hE (Z10 ++ (rpN 6 (Hq c12) (rpN 13 qT [])))
        ·let Z11 : List HO := (Z10 ++ [Hq c12, Hq c12, Ha (lnM F0_ al.1), Hq c12, Hq c12, Ha (lnM F0_ al.1), Hq c12, Hq c12])
         rcases y4 aa with ⟨c13, aa⟩ | ⟨c13, aa⟩
         ·obtain rfl := zi aa
          exact yE X0 hC hE (Z11 ++ (rpN 6 (Hq c13) (rpN 7 qT [])))
         ·let Z12 : List HO := (Z11 ++ [Hq c13, Hq c13, Ha (lnM zD ap.1), Hq c13, Hq c13, Ha (lnM zD ap.1), Hq c13, Hq c13])
          rcases y4 aa with ⟨c14, aa⟩ | ⟨c14, aa⟩
          ·obtain rfl := zi aa
           exact yE X0 hC hE (Z12 ++ (rpN 6 (Hq c14) [qT]))
          ·let Z13 : List HO := (Z12 ++ [Hq c14, Hq c14, Ha (lnM F0_ al.1), Hq c14, Hq c14])
           rcases y4 aa with ⟨c15, aa⟩ | ⟨c15, aa⟩
           ·let Z14 : List HO := (Z13 ++ [Hq c15, Hq c15, Ha (lnM (eI .i64) ah.1), Hq c15, Hq c14, Hq c15, Hq c14])
            rcases y4 aa with ⟨c16, aa⟩ | ⟨c16, aa⟩
            ·obtain rfl := zi aa
             exact yE X0 hC hE (Z14 ++ [Hq c16])
            ·exact yB X0 hC ay () aa (Z14 ++ [Hq c16])
           ·exact yB X0 hC ay () aa (Z13 ++ [Hq c15, Hq c15, Hq c15, Hq c14, Hq c15, Hq c14, qF])
theorem yw {l : List yf} {s : yf} (h : ((l.map yf.k).contains s.k) = false) : ∀ t ∈ l, t.k ≠ s.k := by
 intro t ht e
 have : (l.map yf.k).contains s.k = true := by
  rw [List.contains_iff_mem, ← e]
  exact List.mem_map_of_mem ht
 rw [h] at this
 cases this
theorem zG {l : List yf} {c : Ctr} (H : ∀ t ∈ l, c.Has t) (i : Nat) {s : yf} (h : l[i]? = some s) : c.Has s := H _ (List.mem_of_getElem? h)
def L0 : List yf := YT :: []
def L1 : List yf := YS :: L0
def L2 : List yf := uY :: L1
def L3 : List yf := XR :: L2
def L4 : List yf := YO :: L3
def L5 : List yf := YR :: L4
def L6 : List yf := kj :: L5
def L7 : List yf := kl :: L6
def L8 : List yf := qn :: L7
def L9 : List yf := yx :: L8
def L10 : List yf := yo :: L9
def L11 : List yf := uB :: L10
def L12 : List yf := ke :: L11
def L13 : List yf := wv :: L12
def L14 : List yf := xN :: L13
def L15 : List yf := Y5 :: L14
def L16 : List yf := jL :: L15
def L17 : List yf := km :: L16
def L18 : List yf := uh :: L17
def L19 : List yf := ve :: L18
def L20 : List yf := YU :: L19
def L21 : List yf := vX :: L20
def L22 : List yf := Y7 :: L21
def L23 : List yf := jK :: L22
def L24 : List yf := Y8 :: L23
def L25 : List yf := xZ :: L24
def L26 : List yf := uC :: L25
def L27 : List yf := xh :: L26
def L28 : List yf := jt :: L27
def L29 : List yf := yg :: L28
def L30 : List yf := ym :: L29
def L31 : List yf := Y6 :: L30
def L32 : List yf := Zo :: L31
def L33 : List yf := wP :: L32
def L34 : List yf := ye :: L33
def L35 : List yf := wk :: L34
def L36 : List yf := qo :: L35
def L37 : List yf := ug :: L36
def L38 : List yf := qQ :: L37
def L39 : List yf := kG :: L38
def L40 : List yf := Ya :: L39
def L41 : List yf := YQ :: L40
def L42 : List yf := Y9 :: L41
def L43 : List yf := Zs :: L42
def L44 : List yf := YN :: L43
def L45 : List yf := Zr :: L44
def L46 : List yf := kh :: L45
def L47 : List yf := kg :: L46
def L48 : List yf := Zt :: L47
def L49 : List yf := Zu :: L48
def L50 : List yf := vz :: L49
def L51 : List yf := ju :: L50
def L52 : List yf := xO :: L51
def L53 : List yf := Zp :: L52
def L54 : List yf := YM :: L53
def L55 : List yf := qq :: L54
def L56 : List yf := yP :: L55
def L57 : List yf := yQ :: L56
def L58 : List yf := ww :: L57
def L59 : List yf := qp :: L58
def L60 : List yf := vj :: L59
def L61 : List yf := wa :: L60
def L62 : List yf := vA :: L61
def L63 : List yf := Zq :: L62
def L64 : List yf := jw :: L63
def L65 : List yf := YP :: L64
def L66 : List yf := Yb :: L65
def L67 : List yf := vg :: L66
theorem zgc : zH Tryz.prog L0 := ⟨fun _ hC H => z1d hC, yw (by kernel_rfl), trivial⟩
theorem zgb : zH Tryz.prog L1 := ⟨fun _ hC H => z1c hC, yw (by kernel_rfl), zgc⟩
theorem zga : zH Tryz.prog L2 := ⟨fun _ hC H => QT hC, yw (by kernel_rfl), zgb⟩
theorem zg9 : zH Tryz.prog L3 := ⟨fun _ hC H => z2k hC (zG H 0 rfl), yw (by kernel_rfl), zga⟩
theorem zg8 : zH Tryz.prog L4 := ⟨fun _ hC H => z17 hC (zG H 0 rfl), yw (by kernel_rfl), zg9⟩
theorem zg7 : zH Tryz.prog L5 := ⟨fun _ hC H => z1b hC (zG H 4 rfl) (zG H 3 rfl) (zG H 0 rfl), yw (by kernel_rfl), zg8⟩
theorem zg6 : zH Tryz.prog L6 := ⟨fun _ hC H => QV hC, yw (by kernel_rfl), zg7⟩
theorem zg5 : zH Tryz.prog L7 := ⟨fun _ hC H => QX hC (zG H 0 rfl), yw (by kernel_rfl), zg6⟩
theorem zg4 : zH Tryz.prog L8 := ⟨fun _ hC H => Vk hC (zG H 0 rfl), yw (by kernel_rfl), zg5⟩
theorem zg3 : zH Tryz.prog L9 := ⟨fun _ hC H => uQ hC (zG H 0 rfl), yw (by kernel_rfl), zg4⟩
theorem zel : zH Tryz.prog L10 := ⟨fun _ hC H => uq hC (zG H 0 rfl), yw (by kernel_rfl), zg3⟩
theorem zek : zH Tryz.prog L11 := ⟨fun _ hC H => UW hC (zG H 0 rfl), yw (by kernel_rfl), zel⟩
theorem zej : zH Tryz.prog L12 := ⟨fun _ hC H => QQ hC, yw (by kernel_rfl), zek⟩
theorem zei : zH Tryz.prog L13 := ⟨fun _ hC H => ZR hC (zG H 0 rfl), yw (by kernel_rfl), zej⟩
theorem zeh : zH Tryz.prog L14 := ⟨fun _ hC H => kb hC (zG H 0 rfl), yw (by kernel_rfl), zei⟩
theorem zeg : zH Tryz.prog L15 := ⟨fun _ hC H => z09 hC (zG H 0 rfl), yw (by kernel_rfl), zeh⟩
theorem zef : zH Tryz.prog L16 := ⟨fun _ hC H => z0c hC (zG H 0 rfl), yw (by kernel_rfl), zeg⟩
theorem zee : zH Tryz.prog L17 := ⟨fun _ hC H => QZ hC, yw (by kernel_rfl), zef⟩
theorem zed : zH Tryz.prog L18 := ⟨fun _ hC H => Ua hC (zG H 0 rfl), yw (by kernel_rfl), zee⟩
theorem zec : zH Tryz.prog L19 := ⟨fun _ hC H => Yn hC (zG H 0 rfl), yw (by kernel_rfl), zed⟩
theorem zeb : zH Tryz.prog L20 := ⟨fun _ hC H => z1e hC, yw (by kernel_rfl), zec⟩
theorem zea : zH Tryz.prog L21 := ⟨fun _ hC H => QP hC (zG H 2 rfl) (zG H 1 rfl) (zG H 0 rfl), yw (by kernel_rfl), zeb⟩
theorem ze9 : zH Tryz.prog L22 := ⟨fun _ hC H => z0d hC (zG H 0 rfl), yw (by kernel_rfl), zea⟩
theorem ze8 : zH Tryz.prog L23 := ⟨fun _ hC H => z0b hC, yw (by kernel_rfl), ze9⟩
theorem ze7 : zH Tryz.prog L24 := ⟨fun _ hC H => z0e hC (zG H 7 rfl) (zG H 1 rfl) (zG H 0 rfl), yw (by kernel_rfl), ze8⟩
theorem ze6 : zH Tryz.prog L25 := ⟨fun _ hC H => VU hC (zG H 13 rfl) (zG H 0 rfl), yw (by kernel_rfl), ze7⟩
theorem ze5 : zH Tryz.prog L26 := ⟨fun _ hC H => UX hC, yw (by kernel_rfl), ze6⟩
theorem ze4 : zH Tryz.prog L27 := ⟨fun _ hC H => WK hC (zG H 0 rfl), yw (by kernel_rfl), ze5⟩
theorem ze3 : zH Tryz.prog L28 := ⟨fun _ hC H => UU hC, yw (by kernel_rfl), ze4⟩
theorem ze2 : zH Tryz.prog L29 := ⟨fun _ hC H => Xt hC, yw (by kernel_rfl), ze3⟩
theorem ze1 : zH Tryz.prog L30 := ⟨fun _ hC H => XO hC, yw (by kernel_rfl), ze2⟩
theorem ze0 : zH Tryz.prog L31 := ⟨fun _ hC H => z0a hC (zG H 2 rfl) (zG H 1 rfl) (zG H 0 rfl), yw (by kernel_rfl), ze1⟩
theorem zdZ : zH Tryz.prog L32 := ⟨fun _ hC H => Ki hC (zG H 20 rfl) (zG H 0 rfl), yw (by kernel_rfl), ze0⟩
theorem zdY : zH Tryz.prog L33 := ⟨fun _ hC H => QY hC (zG H 0 rfl) (zG H 3 rfl) (zG H 2 rfl), yw (by kernel_rfl), zdZ⟩
theorem zdX : zH Tryz.prog L34 := ⟨fun _ hC H => vM hC, yw (by kernel_rfl), zdY⟩
theorem zdW : zH Tryz.prog L35 := ⟨fun _ hC H => WJ hC (zG H 9 rfl) (zG H 7 rfl) (zG H 1 rfl) (zG H 0 rfl), yw (by kernel_rfl), zdX⟩
theorem zdV : zH Tryz.prog L36 := ⟨fun _ hC H => Vl hC (zG H 0 rfl), yw (by kernel_rfl), zdW⟩
theorem zdU : zH Tryz.prog L37 := ⟨fun _ hC H => VZ hC (zG H 1 rfl), yw (by kernel_rfl), zdV⟩
theorem zdT : zH Tryz.prog L38 := ⟨fun _ hC H => VY hC (zG H 2 rfl), yw (by kernel_rfl), zdU⟩
theorem zdS : zH Tryz.prog L39 := ⟨fun _ hC H => z1a hC, yw (by kernel_rfl), zdT⟩
theorem zdR : zH Tryz.prog L40 := ⟨fun _ hC H => z0g hC (zG H 0 rfl), yw (by kernel_rfl), zdS⟩
theorem zdQ : zH Tryz.prog L41 := ⟨fun _ hC H => z19 hC, yw (by kernel_rfl), zdR⟩
theorem zdP : zH Tryz.prog L42 := ⟨fun _ hC H => z0f hC (zG H 1 rfl) (zG H 0 rfl), yw (by kernel_rfl), zdQ⟩
theorem zdO : zH Tryz.prog L43 := ⟨fun _ hC H => Km hC (zG H 0 rfl), yw (by kernel_rfl), zdP⟩
theorem zdN : zH Tryz.prog L44 := ⟨fun _ hC H => z16 hC (zG H 0 rfl), yw (by kernel_rfl), zdO⟩
theorem zdM : zH Tryz.prog L45 := ⟨fun _ hC H => Kl hC, yw (by kernel_rfl), zdN⟩
theorem zdL : zH Tryz.prog L46 := ⟨fun _ hC H => QS hC (zG H 0 rfl), yw (by kernel_rfl), zdM⟩
theorem zdK : zH Tryz.prog L47 := ⟨fun _ hC H => QR hC (zG H 2 rfl) (zG H 0 rfl), yw (by kernel_rfl), zdL⟩
theorem zdJ : zH Tryz.prog L48 := ⟨fun _ hC H => Kn hC, yw (by kernel_rfl), zdK⟩
theorem zdI : zH Tryz.prog L49 := ⟨fun _ hC H => Ko hC (zG H 23 rfl) (zG H 21 rfl) (zG H 15 rfl), yw (by kernel_rfl), zdJ⟩
theorem zdH : zH Tryz.prog L50 := ⟨fun _ hC H => YI hC, yw (by kernel_rfl), zdI⟩
theorem zdG : zH Tryz.prog L51 := ⟨fun _ hC H => UV hC (zG H 29 rfl), yw (by kernel_rfl), zdH⟩
theorem zdF : zH Tryz.prog L52 := ⟨fun _ hC H => kc hC (zG H 0 rfl), yw (by kernel_rfl), zdG⟩
theorem zdE : zH Tryz.prog L53 := ⟨fun _ hC H => Kj hC (zG H 2 rfl) (zG H 31 rfl) (zG H 0 rfl) (zG H 29 rfl) (zG H 23 rfl) (zG H 22 rfl), yw (by kernel_rfl), zdF⟩
theorem zdD : zH Tryz.prog L54 := ⟨fun _ hC H => z15 hC (zG H 37 rfl) (zG H 0 rfl), yw (by kernel_rfl), zdE⟩
theorem zdC : zH Tryz.prog L55 := ⟨fun _ hC H => Vn hC (zG H 29 rfl) (zG H 27 rfl) (zG H 25 rfl) (zG H 24 rfl) (zG H 21 rfl) (zG H 0 rfl), yw (by kernel_rfl), zdD⟩
theorem zdB : zH Tryz.prog L56 := ⟨fun _ hC H => kC hC, yw (by kernel_rfl), zdC⟩
theorem zdA : zH Tryz.prog L57 := ⟨fun _ hC H => kD hC, yw (by kernel_rfl), zdB⟩
theorem zdz : zH Tryz.prog L58 := ⟨fun _ hC H => ZS hC (zG H 1 rfl) (zG H 0 rfl), yw (by kernel_rfl), zdA⟩
theorem zdy : zH Tryz.prog L59 := ⟨fun _ hC H => Vm hC (zG H 33 rfl) (zG H 25 rfl) (zG H 31 rfl) (zG H 32 rfl) (zG H 0 rfl) (zG H 29 rfl) (zG H 28 rfl), yw (by kernel_rfl), zdz⟩
theorem zdx : zH Tryz.prog L60 := ⟨fun _ hC H => Yp hC, yw (by kernel_rfl), zdy⟩
theorem zdw : zH Tryz.prog L61 := ⟨fun _ hC H => kE hC (zG H 0 rfl), yw (by kernel_rfl), zdx⟩
theorem zdv : zH Tryz.prog L62 := ⟨fun _ hC H => YJ hC (zG H 0 rfl), yw (by kernel_rfl), zdw⟩
theorem zdu : zH Tryz.prog L63 := ⟨fun _ hC H => Kk hC (zG H 0 rfl), yw (by kernel_rfl), zdv⟩
theorem zdt : zH Tryz.prog L64 := ⟨fun _ hC H => UY hC (zG H 0 rfl), yw (by kernel_rfl), zdu⟩
theorem zds : zH Tryz.prog L65 := ⟨fun _ hC H => z18 hC (zG H 62 rfl), yw (by kernel_rfl), zdt⟩
theorem zdr : zH Tryz.prog L66 := ⟨fun _ hC H => z0h hC (zG H 17 rfl) (zG H 16 rfl) (zG H 28 rfl) (zG H 10 rfl) (zG H 6 rfl) (zG H 1 rfl) (zG H 0 rfl), yw (by kernel_rfl), zds⟩
theorem zdq : zH Tryz.prog L67 := ⟨fun _ hC H => Yo hC (zG H 61 rfl) (zG H 30 rfl) (zG H 29 rfl) (zG H 28 rfl) (zG H 19 rfl) (zG H 0 rfl), yw (by kernel_rfl), zdr⟩
theorem vH {x : Int} (h1 : -9223372036854775808 ≤ x) (h2 : x ≤ 9223372036854775807) : w64 x = x := by
 simp only [w64, IntKind.wrap, IntKind.bits, IntKind.signed]
 simp
 omega
variable {k : Nat}
section
variable {α β σ τ ρ : Type}
def Ret (x : Option α) (Q : α → Prop) : Prop := ∃ a, x = some a ∧ Q a
theorem Ret.mono {x : Option α} {Q R : α → Prop} (h : Ret x Q) (q : ∀ a, Q a → R a) : Ret x R := by
 obtain ⟨a, e, h⟩ := h
 exact ⟨a, e, q a h⟩
theorem Ret.eq {x : Option α} {a : α} (h : Ret x fun b => b = a) : x = some a := by
 obtain ⟨b, e, rfl⟩ := h
 exact e
theorem zL {a : α} {Q : α → Prop} : Ret (some a) Q ↔ Q a := ⟨fun ⟨b, e, q⟩ => by cases e; exact q, fun q => ⟨a, rfl, q⟩⟩
theorem uj {x : Option α} {f : α → Option β} {Q : β → Prop} : Ret (Option.bind x f) Q ↔ Ret x fun a => Ret (f a) Q := by
 cases x with
 | none => exact ⟨fun ⟨b, e, _⟩ => (by cases e), fun ⟨b, e, _⟩ => (by cases e)⟩
 | some a => exact ⟨fun h => ⟨a, rfl, h⟩, fun ⟨b, e, h⟩ => by cases e; exact h⟩
theorem z3g {p : Prop} [Decidable p] {x : Option α} {Q : α → Prop} : Ret (gd p x) Q ↔ p ∧ Ret x Q := by
 unfold gd
 by_cases h : p
 ·rw [if_pos h]; exact ⟨fun q => ⟨h, q⟩, fun q => q.2⟩
 ·rw [if_neg h]; exact ⟨fun ⟨b, e, _⟩ => by (cases e), fun q => (h q.1).elim⟩
theorem yV {c : Bool} {x y : Option α} {Q : α → Prop} : Ret (bif c then x else y) Q ↔ (c = true → Ret x Q) ∧ (c = false → Ret y Q) := by
 cases c <;> simp
theorem zak {l : List α} {i : Int} {Q : α → Prop} : Ret (idx l i) Q ↔ 0 ≤ i ∧ ∃ x, l[i.toNat]? = some x ∧ Q x := by
 cases i with
 | ofNat n =>
  show (∃ a, l[n]? = some a ∧ Q a) ↔ _
  simp
 | negSucc n => exact ⟨fun ⟨b, e, _⟩ => by (cases e), fun ⟨h, _⟩ => by omega⟩
theorem yW (l : List α) (i : Nat) : idx l (i : Int) = l[i]? := rfl
theorem gdT {p : Prop} [Decidable p] {x : Option α} (h : p) : gd p x = x := by unfold gd; rw [if_pos h]
theorem bdT {x : Option α} {u : α} {f : α → Option ρ} (h : x = some u) : Option.bind x f = f u := by rw [h]; rfl
theorem Yw (step : σ → Option (LR σ τ)) (n : Nat) (s : σ) : WT step (n + 1) s = (match step s with | none => none | some (.next s') => WT step n s' | some (.done t) => some t) := rfl
def LRP (N : σ → Prop) (D : τ → Prop) : LR σ τ → Prop
 | .next s => N s
 | .done t => D t
theorem ui {step : σ → Option (LR σ τ)} (I : σ → Prop) (m : σ → Nat) {R : τ → Prop} {s : σ} (hs : I s) (hm : m s < 18446744073709551616)
  (h : ∀ s, I s → Ret (step s) (LRP (fun s' => I s' ∧ m s' < m s) R)) : Ret (loop step s) R := by
 have gen : ∀ (n : Nat) (s : σ), I s → m s < n → Ret (WT step n s) R := by
  intro n
  induction n with
  | zero => intro s _ h; omega
  | succ n ih =>
   intro s hs hm
   obtain ⟨a, e, q⟩ := h s hs
   rw [Yw, e]
   cases a with
   | next s' => exact ih s' q.1 (by have := q.2; omega)
   | done t => exact ⟨t, rfl, q⟩
 exact gen fuel s hs hm
theorem QF {step : σ → Option (LR σ τ)} (st : Nat → σ) (n : Nat) {t : τ} (hn : n < 9223372036854775808) (h : ∀ i, i < n → step (st i) = some (.next (st (i + 1)))) (hd : step (st n) = some (.done t)) : loop step (st 0) = some t := by
 have gen : ∀ (k : Nat) (i : Nat), i ≤ n → n - i < k → WT step k (st i) = some t := by
  intro k
  induction k with
  | zero => intro i _ h; omega
  | succ k ih =>
   intro i hi hk
   rw [Yw]
   rcases Nat.lt_or_ge i n with q | q
   ·rw [h i q]
    exact ih (i + 1) q (by omega)
   ·have : i = n := by omega
    subst this
    rw [hd]
 exact gen fuel 0 (Nat.zero_le _) (by show n - 0 < 18446744073709551616; omega)
def xH (f : Nat → α → Option ρ) : List α → Nat → Option ρ
 | [], _ => none
 | x :: l, i => match f i x with | some r => some r | none => xH f l (i + 1)
theorem WX {f : Nat → α → Option ρ} : ∀ {l : List α} {k : Nat}, (∀ i x, l[i]? = some x → f (k + i) x = none) → xH f l k = none
 | [], _, _ => rfl
 | x :: l, k, h => by
  have h0 := h 0 x rfl
  simp only [Nat.add_zero] at h0
  simp only [xH, h0]
  exact WX fun i y hy => by have := h (i + 1) y (by simpa using hy); rwa [show k + 1 + i = k + (i + 1) by omega]
theorem ZG {f : Nat → α → Option ρ} {r : ρ} : ∀ {l : List α} {k : Nat}, xH f l k = some r → ∃ i x, l[i]? = some x ∧ f (k + i) x = some r
 | [], _, h => by cases h
 | x :: l, k, h => by
  simp only [xH] at h
  cases hf : f k x with
  | some r' => rw [hf] at h; exact ⟨0, x, rfl, by rw [Nat.add_zero, hf]; exact h⟩
  | none =>
   rw [hf] at h
   obtain ⟨i, y, h1, h2⟩ := ZG h
   exact ⟨i + 1, y, by simpa using h1, by rw [← h2]; congr 1; omega⟩
theorem X6 {f : Nat → α → Option ρ} {l : List α}  (h : xH f l k = none) : ∀ i x, l[i]? = some x → f (k + i) x = none := by
 induction l generalizing k with
 | nil => intro i x h; simp at h
 | cons y l ih =>
  intro i x hx
  simp only [xH] at h
  cases hf : f k y with
  | some r' => rw [hf] at h; cases h
  | none =>
   rw [hf] at h
   cases i with
   | zero => simp at hx; subst hx; simpa using hf
   | succ i => have := ih h i x (by simpa using hx); rwa [show k + (i + 1) = k + 1 + i by omega]
def oS : Option ρ → Unit ⊕ ρ
 | some r => .inr r
 | none => .inl ()
def nS (i : Nat) : Option ρ → LR Int (Unit ⊕ ρ)
 | some r => .done (.inr r)
 | none => .next (w64 ((i : Int) + 1))
theorem ZB (l : List α) (hl : l.length < 4611686018427387904) {step : Int → Option (LR Int (Unit ⊕ ρ))} (f : Nat → α → Option ρ)
  (h : ∀ (i : Nat) (x : α), l[i]? = some x → step (i : Int) = some (nS i (f i x))) (h2 : step (l.length : Int) = some (.done (.inl ()))) :
  loop step 0 = some (oS (xH f l 0)) := by
 have gen : ∀ (n : Nat) (k : Nat), k ≤ l.length → l.length - k < n → WT step n (k : Int) = some (oS (xH f (l.drop k) k)) := by
  intro n
  induction n with
  | zero => intro k _ h; omega
  | succ n ih =>
   intro k hk hn
   rw [Yw]
   rcases Nat.lt_or_ge k l.length with hlt | hge
   ·have hx : l[k]? = some l[k] := List.getElem?_eq_getElem hlt
    rw [h k _ hx, List.drop_eq_getElem_cons hlt]
    simp only [xH]
    cases hf : f k l[k] with
    | some r => rfl
    | none =>
     simp only [nS]
     rw [vH (by omega) (by omega)]
     exact ih (k + 1) hlt (by omega)
   ·have : k = l.length := by omega
    subst this
    rw [h2, List.drop_length]
    rfl
 exact gen fuel 0 (Nat.zero_le _) (by show l.length - 0 < 18446744073709551616; omega)
end
section
variable {S : Type}
def rv (k : Nat) : List Nat → Nat
 | [] => 0
 | i :: u => rv k u * k + i + 1
def z6A (k : Nat) (bad : S → Nat → Bool) (nx : S → Nat → Option S) (p0 : S) : List Nat → S → Prop
 | [], q => q = p0
 | i :: u, q => ∃ p, z6A k bad nx p0 u p ∧ i < k ∧ bad p i = false ∧ nx p i = some q
structure Bfs (k : Nat) (bad : S → Nat → Bool) (nx : S → Nat → Option S) (p0 : S) (L : List (S × List Nat)) (at_ i : Nat) : Prop where
 first : L[0]? = some (p0, [])
 mono : ∀ (j j' : Nat) (a b : S × List Nat), j < j' → L[j]? = some a → L[j']? = some b → rv k a.2 < rv k b.2
 path : ∀ a ∈ L, z6A k bad nx p0 a.2 a.1
 ahead : ∀ a c, L[at_]? = some c → a ∈ L → rv k a.2 < rv k c.2 * k + i + 1
 pos : i ≤ k
 lies : at_ ≤ L.length
 fin : at_ = L.length → i = 0
 short : ∀ (j : Nat) (a : S × List Nat), L[j]? = some a → a.2.length ≤ j
 seen : ∀ (j x : Nat) (a : S × List Nat), L[j]? = some a → x < k → (j < at_ ∨ j = at_ ∧ x < i) → bad a.1 x = false ∧ ∀ q, nx a.1 x = some q → ∃ b ∈ L, b.1 = q ∧ rv k b.2 ≤ rv k a.2 * k + x + 1
variable {k : Nat} {bad : S → Nat → Bool} {nx : S → Nat → Option S} {p0 : S}
theorem Bfs.start : Bfs k bad nx p0 [(p0, [])] 0 0 := {
 first := rfl
 mono := by
  intro j j' a b h h1 h2
  have := (List.getElem?_eq_some_iff.1 h2).1
  simp at this
  omega
 path := by intro a ha; simp at ha; subst ha; rfl
 ahead := by intro a c _ ha; simp at ha; subst ha; simp [rv]
 pos := Nat.zero_le _
 lies := by simp
 fin := by intro; rfl
 short := by
  intro j a h
  have := (List.getElem?_eq_some_iff.1 h).1
  simp at this
  subst this
  simp at h
  subst h
  simp
 seen := by rintro j x a h _ (q | ⟨_, q⟩) <;> omega }
theorem Bfs.old {L : List (S × List Nat)} {a i : Nat} (h : Bfs k bad nx p0 L a i) {c : S × List Nat} (hc : L[a]? = some c) (hi : i < k) (hb : bad c.1 i = false)
  (hn : ∀ q, nx c.1 i = some q → ∃ b ∈ L, b.1 = q) : Bfs k bad nx p0 L a (i + 1) := {
 first := h.first
 mono := h.mono
 path := h.path
 ahead := fun x y hy hx => by have := h.ahead x y hy hx; omega
 pos := hi
 lies := h.lies
 fin := fun e => by have := (List.getElem?_eq_some_iff.1 hc).1; omega
 short := h.short
 seen := by
  intro j x y hy hx q
  by_cases e : j = a ∧ x = i
  ·obtain ⟨rfl, rfl⟩ := e
   rw [hc] at hy
   cases hy
   refine ⟨hb, fun q hq => ?_⟩
   obtain ⟨b, h1, h2⟩ := hn q hq
   exact ⟨b, h1, h2, by have := h.ahead b c hc h1; omega⟩
  ·exact h.seen j x y hy hx (by omega) }
theorem Bfs.new {L : List (S × List Nat)} {a i : Nat} (h : Bfs k bad nx p0 L a i) {c : S × List Nat} (hc : L[a]? = some c) (hi : i < k) (hb : bad c.1 i = false) {q : S}
  (hn : nx c.1 i = some q) : Bfs k bad nx p0 (L ++ [(q, i :: c.2)]) a (i + 1) := by
 have hlt := (List.getElem?_eq_some_iff.1 hc).1
 refine ⟨?_, ?_, ?_, ?_, hi, by simp; omega, fun e => by simp at e; omega, ?_, ?_⟩
 ·rw [List.getElem?_append_left (by omega)]; exact h.first
 ·intro j j' x y hj h1 h2
  have hl := (List.getElem?_eq_some_iff.1 h2).1
  simp at hl
  rw [List.getElem?_append_left (by omega)] at h1
  rcases Nat.lt_or_ge j' L.length with g | g
  ·rw [List.getElem?_append_left g] at h2
   exact h.mono j j' x y hj h1 h2
  ·have : j' = L.length := by omega
   subst this
   simp at h2
   subst h2
   exact h.ahead x c hc (List.mem_of_getElem? h1)
 ·intro x hx
  rcases List.mem_append.1 hx with g | g
  ·exact h.path x g
  ·simp at g
   subst g
   exact ⟨c.1, h.path c (List.mem_of_getElem? hc), hi, hb, hn⟩
 ·intro x y hy hx
  rw [List.getElem?_append_left hlt] at hy
  rcases List.mem_append.1 hx with g | g
  ·have := h.ahead x y hy g; omega
  ·simp at g
   subst g
   rw [hc] at hy
   cases hy
   simp [rv]
 ·intro j y hy
  rcases Nat.lt_or_ge j L.length with g | g
  ·rw [List.getElem?_append_left g] at hy
   exact h.short j y hy
  ·have hl := (List.getElem?_eq_some_iff.1 hy).1
   simp at hl
   have : j = L.length := by omega
   subst this
   simp at hy
   subst hy
   have := h.short a c hc
   simp
   omega
 ·intro j x y hy hx g
  rw [List.getElem?_append_left (by omega)] at hy
  by_cases e : j = a ∧ x = i
  ·obtain ⟨rfl, rfl⟩ := e
   rw [hc] at hy
   cases hy
   refine ⟨hb, fun q' hq => ?_⟩
   rw [hn] at hq
   cases hq
   exact ⟨(q, x :: c.2), by simp, rfl, Nat.le_refl _⟩
  ·obtain ⟨h1, h2⟩ := h.seen j x y hy hx (by omega)
   refine ⟨h1, fun q' hq => ?_⟩
   obtain ⟨b, g1, g2⟩ := h2 q' hq
   exact ⟨b, List.mem_append_left _ g1, g2⟩
theorem Bfs.step {L : List (S × List Nat)} {a : Nat} (h : Bfs k bad nx p0 L a k) (ha : a < L.length) : Bfs k bad nx p0 L (a + 1) 0 := {
 first := h.first
 mono := h.mono
 path := h.path
 ahead := by
  intro x c hc hx
  have h1 := h.ahead x _ (List.getElem?_eq_getElem ha) hx
  have h2 := h.mono a (a + 1) _ _ (by omega) (List.getElem?_eq_getElem ha) hc
  have h3 : (rv k L[a].2 + 1) * k ≤ rv k c.2 * k := Nat.mul_le_mul_right _ h2
  rw [Nat.succ_mul] at h3
  omega
 pos := Nat.zero_le _
 lies := ha
 fin := fun _ => rfl
 short := h.short
 seen := fun j x b hb hx g => h.seen j x b hb hx (by rcases g with g | ⟨_, g⟩ <;> omega) }
theorem Bfs.reach {L : List (S × List Nat)} {a i : Nat} (h : Bfs k bad nx p0 L a i) : ∀ (u : List Nat) (q : S), z6A k bad nx p0 u q → (∀ c, L[a]? = some c → rv k u < rv k c.2 * k + i + 1) → ∃ (j : Nat) (b : S × List Nat), L[j]? = some b ∧ b.1 = q ∧ rv k b.2 ≤ rv k u
 | [], q, hp, _ => ⟨0, _, h.first, hp.symm, Nat.zero_le _⟩
 | x :: u, q, ⟨p, hp, hx, hb, hn⟩, hlt => by
  have hk : rv k u ≤ rv k u * k := Nat.le_mul_of_pos_right _ (by omega)
  obtain ⟨j, b, hj, rfl, hr⟩ := h.reach u p hp fun c hc => by have := hlt c hc; simp only [rv] at this; omega
  have hmul : rv k b.2 * k ≤ rv k u * k := Nat.mul_le_mul_right _ hr
  have hjl := (List.getElem?_eq_some_iff.1 hj).1
  have hpos : j < a ∨ j = a ∧ x < i := by
   rcases Nat.lt_trichotomy j a with g | g | g
   ·exact .inl g
   ·subst g
    refine .inr ⟨rfl, ?_⟩
    have := hlt b hj
    simp only [rv] at this
    omega
   ·exfalso
    have hal : a < L.length := by omega
    have h1 := hlt _ (List.getElem?_eq_getElem hal)
    have h2 := h.mono a j _ _ g (List.getElem?_eq_getElem hal) hj
    have h3 : (rv k L[a].2 + 1) * k ≤ rv k b.2 * k := Nat.mul_le_mul_right _ h2
    rw [Nat.succ_mul] at h3
    have := h.pos
    simp only [rv] at h1
    omega
  obtain ⟨_, h2⟩ := h.seen j x b hj hx hpos
  obtain ⟨c, g1, g2, g3⟩ := h2 q hn
  obtain ⟨j', g4⟩ := List.getElem?_of_mem g1
  exact ⟨j', c, g4, g2, by simp only [rv]; omega⟩
end
def z2K (m : z6) (x : ze) : Bool := (x.To == -1 && x.Out == -1) || (decide (0 ≤ x.To) && decide (x.To < (m.Rows.length : Int)) && decide (0 ≤ x.Out) && decide (x.Out < m.Outputs))
def z48 (m : z6) (r : List ze) : Bool := decide ((r.length : Int) = m.Inputs) && r.all (z2K m)
def chk (m : z6) : Int :=
 if m.Inputs > 16 ∨ m.Outputs > 16 ∨ (m.Rows.length : Int) > 64 then 3 else if m.Inputs < 1 ∨ m.Outputs < 1 ∨ m.Rows.length = 0 then 1 else if m.Rows.all (z48 m) = true then 0 else 1
theorem zaP (m : z6) (x : ze) : qX m x = some (z2K m x) := by
 unfold qX kJ
 simp only [oB, Bool.and_true]
 rcases Bool.eq_false_or_eq_true (x.To == (-1) && x.Out == (-1)) with h | h
 ·simp [z2K, h]
 ·rw [h]
  simp only [z2K, h, Bool.false_or, cond_false]
  by_cases h1 : (0 : Int) ≤ x.To
  ·by_cases h2 : x.To < (m.Rows.length : Int)
   ·by_cases h3 : (0 : Int) ≤ x.Out
    ·simp [Bool.cond_eq_ite, h1, h2, h3]
    ·simp [Bool.cond_eq_ite, h1, h2, h3]
   ·simp [Bool.cond_eq_ite, h1, h2]
  ·simp [h1]
theorem z2Q (m : z6) (r : List ze) (hl : r.length < 4611686018427387904) : zY r m = some (!r.all (z2K m)) := by
 have hloop : loop (fun s => zQ r m s) 0 = some (oS (xH (fun i x => if z2K m x = true then none else some (i : Int)) r 0)) := by
  refine ZB r hl _ ?_ ?_
  ·intro i x hx
   have hi := (List.getElem?_eq_some_iff.1 hx).1
   unfold zQ
   have hd : decide ((i : Int) < ((r.length : Nat) : Int)) = true := by simpa using hi
   rw [hd, cond_true, yW, bdT hx]
   unfold qd
   simp only [zaP, oB]
   cases z2K m x <;> rfl
  ·unfold zQ
   simp
 unfold zY yi
 rw [hloop]
 simp only [oB]
 cases hf : xH (fun i x => if z2K m x = true then none else some (i : Int)) r 0 with
 | some q =>
  obtain ⟨i, x, h1, h2⟩ := ZG hf
  have hx : z2K m x ≠ true := by
   intro h; rw [if_pos h] at h2; cases h2
  rw [if_neg hx] at h2
  simp only [Option.some.injEq] at h2
  have : r.all (z2K m) = false := by
   rw [List.all_eq_false]
   exact ⟨x, List.mem_of_getElem? h1, hx⟩
  rw [this]
  have : (q : Int) ≥ 0 := by rw [← h2]; omega
  show some (decide (q ≥ 0)) = _
  simp [this]
 | none =>
  have : r.all (z2K m) = true := by
   rw [List.all_eq_true]
   intro x hx
   obtain ⟨i, hi⟩ := List.getElem?_of_mem hx
   have := X6 hf i x hi
   by_cases h : z2K m x = true
   ·exact h
   ·rw [if_neg h] at this; cases this
  rw [this]
  rfl
variable {m : z6}
theorem z4k (h0 : (m.Rows.length : Int) ≤ 64) (h1 : m.Inputs ≤ 16) : loop (fun s => ws m s) 0 = some (oS (xH (fun _ r => if z48 m r = true then none else some (1 : Int)) m.Rows 0)) := by
 refine ZB m.Rows (by omega) _ ?_ ?_
 ·intro i r hr
  have hi := (List.getElem?_eq_some_iff.1 hr).1
  unfold ws
  have hd : decide ((i : Int) < ((m.Rows.length : Nat) : Int)) = true := by simpa using hi
  rw [hd, cond_true, yW, bdT hr]
  by_cases hlen : (r.length : Int) = m.Inputs
  ·have hne : (((r.length : Nat) : Int) != m.Inputs) = false := by simpa using hlen
   rw [hne, cond_false, bdT (z2Q m r (by omega))]
   have : z48 m r = r.all (z2K m) := by simp [z48, hlen]
   rw [this]
   cases r.all (z2K m) <;> rfl
  ·have hne : (((r.length : Nat) : Int) != m.Inputs) = true := by simpa using hlen
   rw [hne, cond_true]
   have : z48 m r = false := by simp [z48, hlen]
   rw [this]; rfl
 ·unfold ws
  simp
theorem z47 (m : z6) : xH (fun _ r => if z48 m r = true then none else some (1 : Int)) m.Rows 0 = if m.Rows.all (z48 m) = true then none else some 1 := by
 by_cases h : m.Rows.all (z48 m) = true
 ·rw [if_pos h]
  refine WX fun i r hr => ?_
  rw [if_pos (List.all_eq_true.1 h r (List.mem_of_getElem? hr))]
 ·rw [if_neg h]
  cases hf : xH (fun _ r => if z48 m r = true then none else some (1 : Int)) m.Rows 0 with
  | some q =>
   obtain ⟨i, x, h1, h2⟩ := ZG hf
   split at h2
   ·cases h2
   ·exact h2.symm ▸ rfl
  | none =>
   exfalso
   apply h
   rw [List.all_eq_true]
   intro x hx
   obtain ⟨i, hi⟩ := List.getElem?_of_mem hx
   have := X6 hf i x hi
   by_cases h : z48 m x = true
   ·exact h
   ·rw [if_neg h] at this; cases this
theorem z3Q (m : z6) : ua m = some (chk m) := by
 unfold ua chk
 by_cases h1 : m.Inputs > 16
 ·simp [h1]
 by_cases h2 : m.Outputs > 16
 ·simp [Bool.cond_eq_ite, h1, h2]
 by_cases h3 : (m.Rows.length : Int) > 64
 ·simp [Bool.cond_eq_ite, h1, h2, h3]
 rw [if_neg (by simp [Bool.cond_eq_ite, h1, h2, h3])]
 by_cases h4 : m.Inputs < 1
 ·simp [Bool.cond_eq_ite, h1, h2, h3, h4]
 by_cases h5 : m.Outputs < 1
 ·simp [Bool.cond_eq_ite, h1, h2, h3, h4, h5]
 by_cases h6 : m.Rows.length = 0
 ·simp [Bool.cond_eq_ite, h1, h2, h4, h5, h6]
 rw [if_neg (by simp [h4, h5, h6])]
 have h6' : decide (((m.Rows.length : Nat) : Int) < 1) = false := by simp; omega
 have e1 : decide (m.Inputs > 16) = false := by simpa using h1
 have e2 : decide (m.Outputs > 16) = false := by simpa using h2
 have e3 : decide (((m.Rows.length : Nat) : Int) > 64) = false := by simpa using h3
 have e4 : decide (m.Inputs < 1) = false := by simpa using h4
 have e5 : decide (m.Outputs < 1) = false := by simpa using h5
 simp only [e1, e2, e3, e4, e5, h6', cond_false]
 rw [bdT (z4k (by omega) (by omega)), z47]
 by_cases h : m.Rows.all (z48 m) = true
 ·rw [if_pos h, if_pos h]; rfl
 ·rw [if_neg h, if_neg h]; rfl
structure VM (m : z6) : Prop where
 in1 : 1 ≤ m.Inputs
 in16 : m.Inputs ≤ 16
 out1 : 1 ≤ m.Outputs
 out16 : m.Outputs ≤ 16
 len1 : 1 ≤ m.Rows.length
 len64 : m.Rows.length ≤ 64
 row : ∀ r ∈ m.Rows, (r.length : Int) = m.Inputs
 edge : ∀ r ∈ m.Rows, ∀ x ∈ r, (x.To = -1 ∧ x.Out = -1) ∨ (0 ≤ x.To ∧ x.To < (m.Rows.length : Int) ∧ 0 ≤ x.Out ∧ x.Out < m.Outputs)
theorem z97 (h : VM m) : chk m = 0 := by
 unfold chk
 have := h.in1; have := h.in16; have := h.out1; have := h.out16; have := h.len1; have := h.len64
 rw [if_neg (by omega), if_neg (by omega), if_pos]
 rw [List.all_eq_true]
 intro r hr
 simp only [z48, Bool.and_eq_true, decide_eq_true_eq, List.all_eq_true]
 refine ⟨h.row r hr, fun x hx => ?_⟩
 simp only [z2K, Bool.or_eq_true, Bool.and_eq_true, beq_iff_eq, decide_eq_true_eq]
 rcases h.edge r hr x hx with ⟨a, b⟩ | ⟨a, b, c, d⟩
 ·exact .inl ⟨a, b⟩
 ·exact .inr ⟨⟨⟨a, b⟩, c⟩, d⟩
def kk (m : z6) : Nat := m.Inputs.toNat
def E (m : z6) (s i : Nat) : ze := ((m.Rows[s]?.getD [])[i]?).getD ⟨-1, -1⟩
section
variable {m : z6} (h : VM m)
include h
theorem VM.kk_eq : ((kk m : Nat) : Int) = m.Inputs := by have := h.in1; unfold kk; omega
theorem VM.kk_pos : 1 ≤ kk m := by have := h.in1; unfold kk; omega
theorem VM.kk_le : kk m ≤ 16 := by have := h.in16; unfold kk; omega
theorem VM.rowAt {s : Nat} (hs : s < m.Rows.length) : ∃ r, m.Rows[s]? = some r ∧ r.length = kk m ∧ ∀ i, i < kk m → r[i]? = some (E m s i) := by
 have hr := List.getElem?_eq_getElem hs
 have hl := h.row _ (List.getElem_mem hs)
 have hl' : m.Rows[s].length = kk m := by unfold kk; omega
 refine ⟨_, hr, hl', fun i hi => ?_⟩
 have hi' : i < m.Rows[s].length := by omega
 unfold E
 rw [hr]
 simp only [Option.getD_some]
 rw [List.getElem?_eq_getElem hi']
 rfl
theorem VM.edgeAt {s i : Nat} (hs : s < m.Rows.length) (hi : i < kk m) : ((E m s i).To = -1 ∧ (E m s i).Out = -1) ∨ (0 ≤ (E m s i).To ∧ (E m s i).To < (m.Rows.length : Int) ∧ 0 ≤ (E m s i).Out ∧ (E m s i).Out < m.Outputs) := by
 obtain ⟨r, h1, _, h2⟩ := h.rowAt hs
 exact h.edge r (List.mem_of_getElem? h1) _ (List.mem_of_getElem? (h2 i hi))
theorem VM.edge_eq {s i : Nat} (hs : s < m.Rows.length) (hi : i < kk m) {β : Type} {f : ze → Option β} :
  (Option.bind (idx m.Rows (s : Int)) fun r => Option.bind (idx r (i : Int)) f) = f (E m s i) := by
 obtain ⟨r, h1, _, h2⟩ := h.rowAt hs
 rw [yW, h1, oB, yW, h2 i hi, oB]
end
theorem WR : ∀ (n : Nat) (l : List Nat), l.Nodup → (∀ x ∈ l, x < n) → l.length ≤ n
 | 0, l, _, h => by
  cases l with
  | nil => simp
  | cons x l => have := h x (by simp); omega
 | n + 1, l, hd, h => by
  by_cases hm : n ∈ l
  ·have h1 := List.length_erase_of_mem hm
   have h2 := WR n (l.erase n) (hd.erase n) fun x hx => by
    have h3 := (hd.mem_erase_iff).1 hx
    have := h x h3.2
    have := h3.1
    omega
   have : 0 < l.length := List.length_pos_of_mem hm
   omega
  ·have := WR n l hd fun x hx => by
    have := h x hx
    have : x ≠ n := fun e => hm (e ▸ hx)
    omega
   omega
structure WM (m : z6) : Prop where
 in1 : 1 ≤ m.Inputs
 in16 : m.Inputs ≤ 16
 len1 : 1 ≤ m.Rows.length
 len : m.Rows.length ≤ 128
 row : ∀ r ∈ m.Rows, (r.length : Int) = m.Inputs
 edge : ∀ r ∈ m.Rows, ∀ x ∈ r, (x.To = -1 ∧ x.Out = -1) ∨ (0 ≤ x.To ∧ x.To < (m.Rows.length : Int) ∧ 0 ≤ x.Out)
theorem z2y {a k : Int} (h0 : 0 ≤ a) (hk : 1 ≤ k) (hk2 : k ≤ 1000000) : 1 ≤ w64 (1 + w64 (Int.tmod a k)) ∧ w64 (1 + w64 (Int.tmod a k)) ≤ k := by
 have h1 := Int.tmod_nonneg k h0
 have h2 := Int.tmod_lt_of_pos a (show 0 < k by omega)
 rw [vH (x := Int.tmod a k) (by omega) (by omega), vH (by omega) (by omega)]
 omega
structure MOk (x : yh) : Prop where
 s0 : 0 ≤ x.States
 i0 : 0 ≤ x.Inputs
 o0 : 0 ≤ x.Outputs
 e0 : ∀ v ∈ x.Edges, 0 ≤ v ∧ v ≤ 65535
theorem zeI {x : yh} {n o : Int} (hn : n = w64 (1 + w64 (Int.tmod x.States 6))) (ho : o = w64 (1 + w64 (Int.tmod x.Outputs 3))) (n1 : 1 ≤ n) (n2 : n ≤ 6) (o1 : 1 ≤ o) (o2 : o ≤ 3) (row : List ze) (i v : Int) (hl : row.length ≤ 1000) (v0 : 0 ≤ v) (v1 : v ≤ 65535) :
  ∃ e : ze, vS x row i v = some (.next (row ++ [e], w64 (i + 1))) ∧ ((e.To = -1 ∧ e.Out = -1) ∨ (0 ≤ e.To ∧ e.To < n ∧ 0 ≤ e.Out ∧ e.Out < o)) := by
 have hv4 : Int.tdiv v 4 = v / 4 := Int.tdiv_eq_ediv_of_nonneg v0
 have w4 : w64 (Int.tdiv v 4) = v / 4 := by rw [hv4]; exact vH (by omega) (by omega)
 have d0 : 0 ≤ v / 4 := by omega
 have hd : Int.tdiv (v / 4) n = v / 4 / n := Int.tdiv_eq_ediv_of_nonneg d0
 have d1 : 0 ≤ v / 4 / n := Int.ediv_nonneg d0 (by omega)
 have d2 : v / 4 / n ≤ v / 4 := Int.ediv_le_self _ d0
 have w5 : w64 (Int.tdiv (v / 4) n) = v / 4 / n := by rw [hd]; exact vH (by omega) (by omega)
 have fit : (0 : Int) ≤ Int.tmod (v / 4) n ∧ Int.tmod (v / 4) n < n ∧ 0 ≤ Int.tmod (v / 4 / n) o ∧ Int.tmod (v / 4 / n) o < o :=
  ⟨Int.tmod_nonneg _ d0, Int.tmod_lt_of_pos _ (by omega), Int.tmod_nonneg _ d1, Int.tmod_lt_of_pos _ (by omega)⟩
 unfold vS
 rw [← hn, ← ho, w4, w5]
 have g4 : (4 : Int) ≠ 0 := by decide
 have gn : (n : Int) ≠ 0 := by omega
 have go : (o : Int) ≠ 0 := by omega
 have gl : ∀ e : ze, row.length + ([e] : List ze).length ≤ 4294967296 := fun e => by simp; omega
 simp only [gdT g4, gdT gn, gdT go, gdT (gl _)]
 cases x.Partial
 ·exact ⟨_, rfl, .inr fit⟩
 ·cases hc : (Int.tmod v 4 == 3)
  ·exact ⟨_, rfl, .inr fit⟩
  ·exact ⟨_, rfl, .inl ⟨rfl, rfl⟩⟩
theorem zcn {x : yh} (h : MOk x) : Ret (Yz x) fun m => VM m ∧ m.Inputs = w64 (1 + w64 (Int.tmod x.Inputs 3)) ∧ m.Inputs ≤ 3 ∧ m.Outputs ≤ 3 ∧ m.Rows.length ≤ 6 := by
 have hn' := z2y h.s0 (k := 6) (by omega) (by omega)
 have hi' := z2y h.i0 (k := 3) (by omega) (by omega)
 have ho' := z2y h.o0 (k := 3) (by omega) (by omega)
 obtain ⟨n, hn⟩ : ∃ n, n = w64 (1 + w64 (Int.tmod x.States 6)) := ⟨_, rfl⟩
 obtain ⟨k, hk⟩ : ∃ n, n = w64 (1 + w64 (Int.tmod x.Inputs 3)) := ⟨_, rfl⟩
 obtain ⟨o, ho⟩ : ∃ n, n = w64 (1 + w64 (Int.tmod x.Outputs 3)) := ⟨_, rfl⟩
 rw [← hn] at hn'
 rw [← hk] at hi'
 rw [← ho] at ho'
 have inner : ∀ s : Int, 0 ≤ s → s < n → Ret (loop (fun st => qY x s st.1 st.2) (([] : List ze), 0)) (fun r => (r.length : Int) = k ∧ ∀ e ∈ r, (e.To = -1 ∧ e.Out = -1) ∨ (0 ≤ e.To ∧ e.To < n ∧ 0 ≤ e.Out ∧ e.Out < o)) := by
  intro s s0 s1
  refine ui (fun st => (st.1.length : Int) = st.2 ∧ st.2 ≤ k ∧ ∀ e ∈ st.1, (e.To = -1 ∧ e.Out = -1) ∨ (0 ≤ e.To ∧ e.To < n ∧ 0 ≤ e.Out ∧ e.Out < o)) (fun st => 10 - st.2.toNat) ⟨by simp, by omega, by simp⟩ (by simp) ?_
  rintro ⟨row, i⟩ ⟨h1, h2, h3⟩
  simp only at h1 h2 h3
  unfold qY
  rw [← hk, yV]
  have hsk : s * k ≤ 5 * k := Int.mul_le_mul_of_nonneg_right (by omega) (by omega)
  have hsk0 : 0 ≤ s * k := Int.mul_nonneg s0 (by omega)
  have w1 : w64 (s * k) = s * k := vH (by omega) (by omega)
  have w2 : w64 (s * k + i) = s * k + i := vH (by omega) (by omega)
  rw [w1, w2]
  refine ⟨fun hlt => ?_, fun hge => ?_⟩
  ·have hlt : i < k := of_decide_eq_true hlt
   have hw : w64 (i + 1) = i + 1 := vH (by omega) (by omega)
   have fin : ∀ v : Int, 0 ≤ v → v ≤ 65535 → Ret (vS x row i v) (LRP (fun s' => (((s'.1.length : Nat) : Int) = s'.2 ∧ s'.2 ≤ k ∧ ∀ e ∈ s'.1, (e.To = -1 ∧ e.Out = -1) ∨ (0 ≤ e.To ∧ e.To < n ∧ 0 ≤ e.Out ∧ e.Out < o)) ∧ 10 - s'.2.toNat < 10 - i.toNat) (fun r => (r.length : Int) = k ∧ ∀ e ∈ r, (e.To = -1 ∧ e.Out = -1) ∨ (0 ≤ e.To ∧ e.To < n ∧ 0 ≤ e.Out ∧ e.Out < o))) := by
    intro v v0 v1
    obtain ⟨e, g1, g2⟩ := zeI hn ho hn'.1 hn'.2 ho'.1 ho'.2 row i v (by omega) v0 v1
    rw [g1, hw, zL]
    refine ⟨⟨by simp; omega, by simp only; omega, fun e' he => ?_⟩, by simp only; omega⟩
    rcases List.mem_append.1 he with q | q
    ·exact h3 e' q
    ·simp only [List.mem_cons, List.not_mem_nil, or_false] at q; subst q; exact g2
   rw [yV]
   refine ⟨fun hc => ?_, fun _ => fin 0 (by omega) (by omega)⟩
   have hc : s * k + i < ((x.Edges.length : Nat) : Int) := of_decide_eq_true hc
   rw [uj, zak]
   have hlt' : (s * k + i).toNat < x.Edges.length := by omega
   refine ⟨by omega, _, List.getElem?_eq_getElem hlt', ?_⟩
   have := h.e0 _ (List.getElem_mem hlt')
   rw [vH (by omega) (by omega)]
   exact fin _ this.1 this.2
  ·have hge : ¬ i < k := of_decide_eq_false hge
   rw [zL]
   exact ⟨by simp only; omega, h3⟩
 unfold Yz
 simp only [z3g, uj]
 refine ⟨by decide, by decide, by decide, ?_⟩
 refine (ui (R := fun r => (r.length : Int) = n ∧ ∀ r' ∈ r, (r'.length : Int) = k ∧ ∀ e ∈ r', (e.To = -1 ∧ e.Out = -1) ∨ (0 ≤ e.To ∧ e.To < n ∧ 0 ≤ e.Out ∧ e.Out < o)) (fun st => (st.1.length : Int) = st.2 ∧ st.2 ≤ n ∧ ∀ r' ∈ st.1, (r'.length : Int) = k ∧ ∀ e ∈ r', (e.To = -1 ∧ e.Out = -1) ∨ (0 ≤ e.To ∧ e.To < n ∧ 0 ≤ e.Out ∧ e.Out < o)) (fun st => 10 - st.2.toNat) ⟨by simp, by omega, by simp⟩ (by simp) ?_).mono ?_
 ·rintro ⟨rows, s⟩ ⟨h1, h2, h3⟩
  simp only at h1 h2 h3
  unfold kO
  rw [← hn, yV]
  refine ⟨fun hlt => ?_, fun hge => ?_⟩
  ·have hlt : s < n := of_decide_eq_true hlt
   rw [uj]
   refine (inner s (by omega) hlt).mono fun row hrow => ?_
   unfold kP kQ
   rw [z3g, zL, vH (by omega) (by omega)]
   refine ⟨by simp; omega, ⟨by simp; omega, by simp only; omega, fun r' hr => ?_⟩, by simp only; omega⟩
   rcases List.mem_append.1 hr with q | q
   ·exact h3 r' q
   ·simp only [List.mem_cons, List.not_mem_nil, or_false] at q; subst q; exact hrow
  ·have hge : ¬ s < n := of_decide_eq_false hge
   rw [zL]
   exact ⟨by simp only; omega, h3⟩
 ·rintro rows ⟨h1, h2⟩
  unfold kR
  rw [zL, ← hk, ← ho]
  refine ⟨⟨hi'.1, by simp only; omega, ho'.1, by simp only; omega, by simp only; omega, by simp only; omega, fun r hr => (h2 r hr).1, fun r hr e he => ?_⟩, rfl, hi'.2, ho'.2, by simp only; omega⟩
  simp only [h1]
  exact (h2 r hr).2 e he
def nxE (m : z6) (s : Int) (i : Nat) : ze := if s < 0 then ⟨-1, -1⟩ else E m s.toNat i
def rsp (m : z6) : Int → List Nat → List Int
 | _, [] => []
 | s, i :: w => (nxE m s i).Out :: rsp m (nxE m s i).To w
def aft (m : z6) : Int → List Nat → Int
 | s, [] => s
 | s, i :: w => aft m (nxE m s i).To w
theorem Qz (m : z6) : ∀ (w : List Nat) (s : Int) (i : Nat), rsp m s (w ++ [i]) = rsp m s w ++ [(nxE m (aft m s w) i).Out] ∧ aft m s (w ++ [i]) = (nxE m (aft m s w) i).To
 | [], s, i => ⟨rfl, rfl⟩
 | j :: w, s, i => by
  have := Qz m w (nxE m s j).To i
  simp only [List.cons_append, rsp, aft, this.1, this.2, and_self]
def z3U (m : z6) (s : Int) : Prop := -1 ≤ s ∧ s < (m.Rows.length : Int)
variable {i : Nat}{s : Int}
theorem zf4 (h : VM m)  (hs : z3U m s)  (hi : i < kk m) : z3U m (nxE m s i).To := by
 unfold nxE
 have := h.len1
 by_cases h0 : s < 0
 ·rw [if_pos h0]
  unfold z3U
  simp only
  omega
 ·rw [if_neg h0]
  have hl : s.toNat < m.Rows.length := by have := hs.2; omega
  have := h.edgeAt hl hi
  unfold z3U
  omega
theorem zav (h : VM m)  (hs : z3U m s)  (hi : i < kk m) : Yt m s (i : Int) = some (nxE m s i) ∧ z3U m (nxE m s i).To := by
 unfold Yt nxE
 have := h.len1
 by_cases h0 : s < 0
 ·rw [decide_eq_true h0, cond_true, if_pos h0]
  exact ⟨rfl, by unfold z3U; simp only; omega⟩
 ·rw [decide_eq_false h0, cond_false, if_neg h0]
  have hl : s.toNat < m.Rows.length := by have := hs.2; omega
  have he := h.edge_eq hl hi (f := fun e => some e)
  have hc : ((s.toNat : Nat) : Int) = s := by omega
  rw [hc] at he
  refine ⟨he, ?_⟩
  have := h.edgeAt hl hi
  unfold z3U
  omega
theorem z0A (m : z6) (s i : Nat) : nxE m (s : Int) i = E m s i := by
 unfold nxE
 rw [if_neg (by omega), Int.toNat_natCast]
theorem z3T (h : VM m) : ∀ (w : List Nat) (n : Nat) (s : Int), z3U m s → (∀ i ∈ w, i < kk m) → w.length < n → qW n m s (w.map Int.ofNat) = some (aft m s w)
 | w, 0, _, _, _, hn => by omega
 | [], n + 1, s, hs, _, _ => by
  show uH (qW n) m s [] = _
  rfl
 | i :: w, n + 1, s, hs, hw, hn => by
  show uH (qW n) m s ((i : Int) :: w.map Int.ofNat) = _
  have hi := hw i (by simp)
  have hx := zav h hs hi
  unfold uH
  have hz : (((((i : Int) :: w.map Int.ofNat).length : Nat) : Int) == 0) = false := by
   rw [beq_eq_false_iff_ne]
   simp only [List.length_cons]
   omega
  rw [hz, cond_false]
  have e0 : idx ((i : Int) :: w.map Int.ofNat) 0 = some (i : Int) := rfl
  rw [bdT e0, bdT hx.1, gdT (by simp; omega)]
  have e1 : ((i : Int) :: w.map Int.ofNat).drop (1 : Int).toNat = w.map Int.ofNat := rfl
  rw [e1, bdT (z3T h w n _ hx.2 (fun j hj => hw j (by simp [hj])) (by simp at hn; omega))]
  rfl
theorem z8y (h : VM m)  (hs : z3U m s) (w : List Nat) (hw : ∀ i ∈ w, i < kk m) : X3 m s (w.map Int.ofNat) = some (aft m s w) := by
 unfold X3
 exact z3T h w _ s hs hw (by simp)
def z1V (k : Nat) : List Nat → Option (List Nat)
 | [] => none
 | d :: r => if d + 1 < k then some ((d + 1) :: r) else (z1V k r).map (0 :: ·)
def Vg (k : Nat) : List Nat → Nat
 | [] => 0
 | d :: r => d + k * Vg k r
theorem z4D {k : Nat} : ∀ {r : List Nat}, (∀ d ∈ r, d < k) → Vg k r < k ^ r.length
 | [], _ => by simp [Vg]
 | d :: r, h => by
  have ih := z4D (k := k) (r := r) fun x hx => h x (by simp [hx])
  have hd := h d (by simp)
  simp only [Vg, List.length_cons, Nat.pow_succ]
  have : k * (Vg k r + 1) ≤ k * k ^ r.length := Nat.mul_le_mul_left k ih
  rw [Nat.mul_add, Nat.mul_one] at this
  rw [Nat.mul_comm (k ^ r.length) k]
  omega
theorem z30 : ∀ {r s : List Nat}, r.length = s.length → (∀ d ∈ r, d < k) → (∀ d ∈ s, d < k) → Vg k r = Vg k s → r = s
 | [], [], _, _, _, _ => rfl
 | [], _ :: _, h, _, _, _ => by simp at h
 | _ :: _, [], h, _, _, _ => by simp at h
 | d :: r, e :: s, h, h1, h2, hv => by
  have hd := h1 d (by simp)
  have he := h2 e (by simp)
  simp only [Vg] at hv
  have a1 : (d + k * Vg k r) % k = d := by rw [Nat.add_mul_mod_self_left, Nat.mod_eq_of_lt hd]
  have a2 : (e + k * Vg k s) % k = e := by rw [Nat.add_mul_mod_self_left, Nat.mod_eq_of_lt he]
  have hde : d = e := by rw [← a1, ← a2, hv]
  subst hde
  have hk : 0 < k := by omega
  have : k * Vg k r = k * Vg k s := by omega
  have := Nat.eq_of_mul_eq_mul_left hk this
  rw [z30 (by simpa using h) (fun x hx => h1 x (by simp [hx])) (fun x hx => h2 x (by simp [hx])) this]
theorem z1T : ∀ {r s : List Nat}, (∀ d ∈ r, d < k) → z1V k r = some s → s.length = r.length ∧ (∀ d ∈ s, d < k) ∧ Vg k s = Vg k r + 1
 | [], s, _, h => by cases h
 | d :: r, s, hr, h => by
  have hd := hr d (by simp)
  unfold z1V at h
  split at h
  ·rename_i hc
   cases h
   exact ⟨rfl, fun x hx => by rcases List.mem_cons.1 hx with rfl | hx; exact hc; exact hr x (by simp [hx]), by simp only [Vg]; omega⟩
  ·rename_i hc
   obtain ⟨s', h1, rfl⟩ := Option.map_eq_some_iff.1 h
   obtain ⟨g1, g2, g3⟩ := z1T (fun x hx => hr x (by simp [hx])) h1
   refine ⟨by simp [g1], fun x hx => by rcases List.mem_cons.1 hx with rfl | hx; omega; exact g2 x hx, ?_⟩
   simp only [Vg, g3, Nat.mul_add, Nat.mul_one]
   omega
theorem z1U (hk : 0 < k) : ∀ {r : List Nat}, (∀ d ∈ r, d < k) → z1V k r = none → Vg k r + 1 = k ^ r.length
 | [], _, _ => by simp [Vg]
 | d :: r, hr, h => by
  have hd := hr d (by simp)
  unfold z1V at h
  split at h
  ·cases h
  ·rename_i hc
   have h1 : z1V k r = none := by cases e : z1V k r with | none => rfl | some x => rw [e] at h; cases h
   have := z1U hk (fun x hx => hr x (by simp [hx])) h1
   simp only [Vg, List.length_cons, Nat.pow_succ, ← this, Nat.add_mul, Nat.one_mul, Nat.mul_comm k]
   omega
def z2C (k : Nat) (w : List Nat) : List Nat := match z1V k w.reverse with | some r => r.reverse | none => List.replicate (w.length + 1) 0
variable {w : List Nat}
theorem z5u (hk : 1 ≤ k) (hk2 : k ≤ 1000)  (hw : ∀ i ∈ w, i < k) (hl : w.length ≤ 100000) : Zd (w.map Int.ofNat) (k : Int) = some ((z2C k w).map Int.ofNat) := by
 have hloop : Ret (loop (fun s => qU (k : Int) s.1 s.2) (w.map Int.ofNat, w64 ((((w.map Int.ofNat).length : Nat) : Int) - 1))) fun r => match r with
   | .inl o => z1V k w.reverse = none ∧ o = List.replicate w.length (0 : Int)
   | .inr o => ∃ r, z1V k w.reverse = some r ∧ o = r.reverse.map Int.ofNat := by
  refine ui (fun q => ∃ (p : List Nat) (z : Nat), q.1 = (p ++ List.replicate z 0).map Int.ofNat ∧ q.2 = (p.length : Int) - 1 ∧ (∀ i ∈ p, i < k) ∧ p.length + z = w.length ∧ z1V k w.reverse = (z1V k p.reverse).map (fun r => List.replicate z 0 ++ r)) (fun q => (q.2 + 1).toNat) ⟨w, 0, by simp, by rw [vH (by simp; omega) (by simp; omega)]; simp, hw, by simp, by cases z1V k w.reverse <;> simp⟩ (by simp only; rw [vH (by simp; omega) (by simp; omega)]; simp; omega) ?_
  rintro ⟨out, j⟩ ⟨p, z, h1, h2, h3, h4, h5⟩
  simp only at h1 h2
  subst h1; subst h2
  unfold qU
  rw [yV]
  refine ⟨fun hc => ?_, fun hc => ?_⟩
  ·have hp : 1 ≤ p.length := by simp at hc; omega
   obtain ⟨p', d, rfl⟩ : ∃ p' d, p = p' ++ [d] := by
    rcases List.eq_nil_or_concat p with e | ⟨p', d, e⟩
    ·subst e; simp at hp
    ·exact ⟨p', d, by simpa using e⟩
   have hd := h3 d (by simp)
   have hj : (((p' ++ [d]).length : Nat) : Int) - 1 = ((p'.length : Nat) : Int) := by simp
   have hx : ((p' ++ [d] ++ List.replicate z 0).map Int.ofNat)[p'.length]? = some (d : Int) := by
    simp
   have hset : ∀ e : Nat, ((p' ++ [d] ++ List.replicate z 0).map Int.ofNat).set p'.length (e : Int) = (p' ++ e :: List.replicate z 0).map Int.ofNat := by
    intro e
    rw [List.append_assoc, List.map_append, List.set_append, if_neg (by simp)]
    simp
   have hr : (p' ++ [d]).reverse = d :: p'.reverse := by simp
   rw [hr] at h5
   have hin : z1V k (d :: p'.reverse) = if d + 1 < k then some ((d + 1) :: p'.reverse) else (z1V k p'.reverse).map (0 :: ·) := rfl
   have hw1 : w64 ((d : Int) + 1) = ((d + 1 : Nat) : Int) := by rw [vH (by omega) (by omega)]; rfl
   rw [hj, yW, bdT hx, hw1, yV]
   refine ⟨fun hc => ?_, fun hc => ?_⟩
   ·have hdk : d + 1 < k := by simp at hc; omega
    rw [bdT hx, bdT hx, hw1, Int.toNat_natCast, hset]
    refine zL.2 ?_
    rw [hin, if_pos hdk] at h5
    exact ⟨_, h5, by simp⟩
   ·have hdk : ¬ d + 1 < k := by simp at hc; omega
    rw [bdT hx, Int.toNat_natCast, vH (by omega) (by omega)]
    have h0 := hset 0
    simp only [Int.natCast_zero] at h0
    refine zL.2 ⟨⟨p', z + 1, ?_, rfl, fun i hi => h3 i (by simp [hi]), by simp at h4; omega, ?_⟩, ?_⟩
    ·rw [List.replicate_succ]; exact h0
    ·rw [hin, if_neg hdk] at h5
     rw [h5]
     cases z1V k p'.reverse with
     | none => rfl
     | some r => simp [List.replicate_succ']
    ·simp only
     omega
  ·have hp : p = [] := List.eq_nil_of_length_eq_zero (by simp at hc; omega)
   subst hp
   refine zL.2 ⟨?_, ?_⟩
   ·rw [h5]; rfl
   ·simp at h4; simp [h4]
 unfold Zd
 rw [gdT (by simp; omega)]
 obtain ⟨r, e, hr⟩ := hloop
 rw [bdT e]
 unfold z2C
 cases r with
 | inl o =>
  obtain ⟨g1, rfl⟩ := hr
  show qV _ = _
  unfold qV
  rw [gdT (by simp; omega), g1]
  simp [List.replicate_succ']
 | inr o =>
  obtain ⟨r, g1, rfl⟩ := hr
  show some _ = _
  rw [g1]
def GG (k : Nat) : Nat → Nat
 | 0 => 0
 | n + 1 => GG k n + k ^ n
theorem z11 {k n m : Nat} (h : n ≤ m) : GG k n ≤ GG k m := by
 induction h with
 | refl => exact Nat.le_refl _
 | step _ ih => exact Nat.le_trans ih (Nat.le_add_right _ _)
def rk (k : Nat) (w : List Nat) : Nat := GG k w.length + Vg k w.reverse
def Wd (k : Nat) (w : List Nat) : Prop := ∀ i ∈ w, i < k
theorem Wd.rev (h : Wd k w) : ∀ d ∈ w.reverse, d < k := fun d hd => h d (by simpa using hd)
theorem zaj (h : Wd k w) : rk k w < GG k (w.length + 1) := by
 have := z4D h.rev
 rw [List.length_reverse] at this
 show GG k w.length + Vg k w.reverse < GG k w.length + k ^ w.length
 omega
theorem z8L {k : Nat} {w u : List Nat} (hw : Wd k w) (h : w.length < u.length) : rk k w < rk k u := by
 have h1 := zaj hw
 have h2 := z11 (k := k) (show w.length + 1 ≤ u.length from h)
 unfold rk at *
 omega
theorem z8M {w u : List Nat} (hw : Wd k w) (hu : Wd k u) (h : rk k w = rk k u) : w = u := by
 have hl : w.length = u.length := by
  rcases Nat.lt_trichotomy w.length u.length with q | q | q
  ·have := z8L hw q; omega
  ·exact q
  ·have := z8L hu q; omega
 have hv : Vg k w.reverse = Vg k u.reverse := by unfold rk at h; rw [hl] at h; omega
 have := z30 (by simpa using hl) hw.rev hu.rev hv
 simpa using congrArg List.reverse this
theorem z1f (k : Nat) : ∀ n, Vg k (List.replicate n 0) = 0
 | 0 => rfl
 | n + 1 => by simp [List.replicate_succ, Vg, z1f k n]
theorem z7B (hk : 1 ≤ k)  (hw : Wd k w) : Wd k (z2C k w) ∧ rk k (z2C k w) = rk k w + 1 ∧ (z2C k w).length ≤ w.length + 1 := by
 unfold z2C
 cases e : z1V k w.reverse with
 | some r =>
  obtain ⟨h1, h2, h3⟩ := z1T hw.rev e
  rw [List.length_reverse] at h1
  refine ⟨fun i hi => h2 i (by simpa using hi), ?_, by simp [h1]⟩
  simp only [rk, List.length_reverse, List.reverse_reverse, h1, h3]
  omega
 | none =>
  have h := z1U (by omega) hw.rev e
  rw [List.length_reverse] at h
  refine ⟨fun i hi => by have := (List.mem_replicate.1 hi).2; omega, ?_, by simp⟩
  simp only [rk, List.length_replicate, List.reverse_replicate, z1f, GG, ← h]
  omega
section
variable {m : z6}
def Kc (m : z6) (from_ : Int) (l : List (List Int)) (is : List Bool) (r t : Nat) : Prop :=
 (is[t]? = some true ∧ ∃ v : List Nat, l[t]? = some (v.map Int.ofNat) ∧ rk (kk m) v < r ∧ Wd (kk m) v ∧ v.length < m.Rows.length ∧ aft m from_ v = (t : Int) ∧ ∀ u, Wd (kk m) u → aft m from_ u = (t : Int) → rk (kk m) v ≤ rk (kk m) u) ∨
 (is[t]? = some false ∧ l[t]? = some [] ∧ ∀ u, Wd (kk m) u → rk (kk m) u < r → aft m from_ u ≠ (t : Int))
theorem z2g (h : VM m) : ∀ (w : List Nat) (s : Int), z3U m s → Wd (kk m) w → z3U m (aft m s w)
 | [], s, hs, _ => hs
 | i :: w, s, hs, hw => z2g h w _ (zf4 h hs (hw i (by simp))) fun j hj => hw j (by simp [hj])
theorem z5k (h : VM m) (hG : GG (kk m) m.Rows.length ≤ 1000000000) {from_ : Int} (hf : z3U m from_) :
  Ret (Zy m from_) fun r => r.1.length = m.Rows.length ∧ r.2.length = m.Rows.length ∧ ∀ t, t < m.Rows.length → Kc m from_ r.1 r.2 (GG (kk m) m.Rows.length) t := by
 have l64 := h.len64
 have l1 := h.len1
 have hk := h.kk_pos
 have hk2 := h.kk_le
 have hke := h.kk_eq
 unfold Zy jN
 rw [z3g, z3g]
 refine ⟨by omega, by omega, ?_⟩
 rw [uj]
 refine Ret.mono ?_ fun r hr => zL.2 hr
 refine ui (fun q => ∃ w : List Nat, q.2.2 = w.map Int.ofNat ∧ Wd (kk m) w ∧ w.length ≤ m.Rows.length ∧ rk (kk m) w ≤ GG (kk m) m.Rows.length ∧ q.1.length = m.Rows.length ∧ q.2.1.length = m.Rows.length ∧ ∀ t, t < m.Rows.length → Kc m from_ q.1 q.2.1 (rk (kk m) w) t)
  (fun q => GG (kk m) m.Rows.length - rk (kk m) (q.2.2.map Int.toNat)) ⟨[], rfl, fun i hi => by simp at hi, by simp, by simp [rk, GG, Vg], by simp, by simp, fun t ht => .inr ⟨by simp [ht], by simp [ht], fun u _ hu => by simp [rk, GG, Vg] at hu⟩⟩ (by simp only; omega) ?_
 rintro ⟨l, is, wi⟩ ⟨w, h1, hw, hwl, hwr, h2, h3, h4⟩
 simp only at h1 h2 h3 h4
 subst h1
 have hback : ∀ w : List Nat, (w.map Int.ofNat).map Int.toNat = w := fun w => by induction w with | nil => rfl | cons a w ih => simp only [List.map_cons, ih]; rfl
 simp only [hback]
 unfold jM
 rw [yV]
 refine ⟨fun hc => ?_, fun hc => ?_⟩
 ·have hlt : w.length < m.Rows.length := by simpa using hc
  have hrk : rk (kk m) w < GG (kk m) m.Rows.length := Nat.lt_of_lt_of_le (zaj hw) (z11 hlt)
  obtain ⟨n1, n2, n3⟩ := z7B hk hw
  have hnx : Zd (w.map Int.ofNat) m.Inputs = some ((z2C (kk m) w).map Int.ofNat) := by rw [← hke]; exact z5u hk (by omega) hw (by omega)
  have fin : ∀ (l2 : List (List Int)) (is2 : List Bool), l2.length = m.Rows.length → is2.length = m.Rows.length → (∀ t, t < m.Rows.length → Kc m from_ l2 is2 (rk (kk m) w + 1) t) →
    Ret (vn m (w.map Int.ofNat) l2 is2) (LRP (fun s' => (∃ w : List Nat, s'.2.2 = w.map Int.ofNat ∧ Wd (kk m) w ∧ w.length ≤ m.Rows.length ∧ rk (kk m) w ≤ GG (kk m) m.Rows.length ∧ s'.1.length = m.Rows.length ∧ s'.2.1.length = m.Rows.length ∧ ∀ t, t < m.Rows.length → Kc m from_ s'.1 s'.2.1 (rk (kk m) w) t) ∧ GG (kk m) m.Rows.length - rk (kk m) (s'.2.2.map Int.toNat) < GG (kk m) m.Rows.length - rk (kk m) w)
     fun r => r.1.length = m.Rows.length ∧ r.2.length = m.Rows.length ∧ ∀ t, t < m.Rows.length → Kc m from_ r.1 r.2 (GG (kk m) m.Rows.length) t) := by
   intro l2 is2 a1 a2 a3
   unfold vn
   rw [bdT hnx]
   refine zL.2 ⟨⟨_, rfl, n1, by omega, by omega, a1, a2, fun t ht => by rw [n2]; exact a3 t ht⟩, ?_⟩
   rw [hback, n2]
   omega
  have hin := z2g h w from_ hf hw
  rw [bdT (z8y h hf w hw), yV]
  have stay : ∀ t, t < m.Rows.length → (aft m from_ w = (t : Int) → is[t]? = some true) → Kc m from_ l is (rk (kk m) w + 1) t := by
   intro t ht hn
   rcases h4 t ht with ⟨g1, v, g2, g3, g4⟩ | ⟨g1, g2, g3⟩
   ·exact .inl ⟨g1, v, g2, by omega, g4⟩
   ·refine .inr ⟨g1, g2, fun u hu hr e => ?_⟩
    rcases Nat.lt_or_ge (rk (kk m) u) (rk (kk m) w) with q | q
    ·exact g3 u hu q e
    ·have := z8M hu hw (by omega)
     subst this
     rw [hn e] at g1
     cases g1
  refine ⟨fun hc => ?_, fun hc => ?_⟩
  ·have hs0 : 0 ≤ aft m from_ w := by simpa using hc
   obtain ⟨s, hs⟩ := Int.eq_ofNat_of_zero_le hs0
   have hsN : s < m.Rows.length := by have := hin.2; omega
   rw [hs]
   rcases h4 s hsN with ⟨g1, v, g2, g3⟩ | ⟨g1, g2, g3⟩
   ·rw [yW, bdT g1]
    simp only [Bool.not_true, cond_false]
    refine fin l is h2 h3 fun t ht => stay t ht fun e => ?_
    have : t = s := by omega
    subst this; exact g1
   ·rw [yW, bdT g1]
    simp only [Bool.not_false, cond_true]
    rw [bdT g1, yW, bdT g2, Int.toNat_natCast]
    refine fin _ _ (by simpa using h2) (by simpa using h3) fun t ht => ?_
    by_cases e : t = s
    ·subst e
     refine .inl ⟨by simp [h3, ht], w, by simp [h2, ht], by omega, hw, hlt, hs, fun u hu he => ?_⟩
     rcases Nat.lt_or_ge (rk (kk m) u) (rk (kk m) w) with q | q
     ·exact (g3 u hu q he).elim
     ·exact q
    ·have := stay t ht fun e2 => by omega
     unfold Kc at this ⊢
     rw [List.getElem?_set_ne (by omega), List.getElem?_set_ne (by omega)]
     exact this
  ·have hs0 : ¬ 0 ≤ aft m from_ w := by simpa using hc
   exact fin l is h2 h3 fun t ht => stay t ht fun e => by omega
 ·have hlt : ¬ w.length < m.Rows.length := by simpa using hc
  have hle : w.length = m.Rows.length := by omega
  have hrk : rk (kk m) w = GG (kk m) m.Rows.length := by
   have : GG (kk m) m.Rows.length ≤ rk (kk m) w := by rw [← hle]; unfold rk; omega
   omega
  refine zL.2 ⟨h2, h3, fun t ht => ?_⟩
  rw [← hrk]
  exact h4 t ht
end
theorem K6 (m : z6) : ∀ (u w : List Nat) (s : Int), aft m s (u ++ w) = aft m (aft m s u) w
 | [], _, _ => rfl
 | i :: u, w, s => by simp only [List.cons_append, aft, K6 m u w]
theorem z2X (m : z6) : ∀ (w : List Nat) (s : Int), s < 0 → aft m s w < 0
 | [], s, h => h
 | i :: w, s, h => by
  simp only [aft, nxE, if_pos h]
  exact z2X m w (-1) (by omega)
section
variable {m : z6} (h : VM m)
include h
theorem Jt : ∀ (n : Nat) (u : List Nat), u.length ≤ n → Wd (kk m) u → 0 ≤ aft m 0 u → ∃ w, Wd (kk m) w ∧ w.length < m.Rows.length ∧ w.length ≤ u.length ∧ aft m 0 w = aft m 0 u
 | n, u, hn, hu, h0 => by
  have l1 := h.len1
  rcases Nat.lt_or_ge u.length m.Rows.length with q | q
  ·exact ⟨u, hu, q, Nat.le_refl _, rfl⟩
  ·cases n with
   | zero => omega
   | succ n =>
    have hin0 : z3U m 0 := ⟨by omega, by omega⟩
    have hpre : ∀ i, 0 ≤ aft m 0 (u.take i) ∧ aft m 0 (u.take i) < (m.Rows.length : Int) := by
     intro i
     have e := K6 m (u.take i) (u.drop i) 0
     rw [List.take_append_drop] at e
     have h1 := z2g h (u.take i) 0 hin0 fun j hj => hu j (List.mem_of_mem_take hj)
     refine ⟨?_, h1.2⟩
     rcases Int.lt_or_le (aft m 0 (u.take i)) 0 with g | g
     ·have := z2X m (u.drop i) _ g
      omega
     ·exact g
    have hex : ∃ i j, i < j ∧ j ≤ m.Rows.length ∧ aft m 0 (u.take i) = aft m 0 (u.take j) := by
     refine Classical.byContradiction fun hno => ?_
     have hnd : ((List.range (m.Rows.length + 1)).map fun i => (aft m 0 (u.take i)).toNat).Nodup := by
      unfold List.Nodup
      rw [List.pairwise_map]
      refine List.Pairwise.imp_of_mem ?_ (List.pairwise_lt_range (n := m.Rows.length + 1))
      intro a b ha hb hab e
      have h1 := (hpre a).1
      have h2 := (hpre b).1
      exact hno ⟨a, b, hab, by have := List.mem_range.1 hb; omega, by omega⟩
     have := WR m.Rows.length _ hnd fun x hx => by
      obtain ⟨i, _, rfl⟩ := List.mem_map.1 hx
      have := hpre i
      omega
     simp at this
     omega
    obtain ⟨i, j, hij, hj, e⟩ := hex
    have e1 : aft m 0 (u.take i ++ u.drop j) = aft m 0 u := by
     rw [K6, e, ← K6, List.take_append_drop]
    have hlen : (u.take i ++ u.drop j).length ≤ n := by simp; omega
    obtain ⟨w, w1, w2, w3, w4⟩ := Jt n (u.take i ++ u.drop j) hlen (fun x hx => by
     rcases List.mem_append.1 hx with q | q
     ·exact hu x (List.mem_of_mem_take q)
     ·exact hu x (List.mem_of_mem_drop q)) (by rw [e1]; exact h0)
    exact ⟨w, w1, w2, by simp at w3; omega, w4.trans e1⟩
end
structure Acc (m : z6) (t : Nat) (v : List Nat) : Prop where
 wd : Wd (kk m) v
 len : v.length < m.Rows.length
 aft : aft m 0 v = (t : Int)
 least : ∀ u, Wd (kk m) u → Go.Own.aft m 0 u = (t : Int) → rk (kk m) v ≤ rk (kk m) u
section
variable {m : z6} (h : VM m) (hG : GG (kk m) m.Rows.length ≤ 1000000000)
include h hG
def z4q (m : z6) (r : List (List Int) × List Bool) : Prop :=
 r.1.length = m.Rows.length ∧ r.2.length = m.Rows.length ∧ ∀ t, t < m.Rows.length →
  (r.2[t]? = some true ∧ ∃ v : List Nat, r.1[t]? = some (v.map Int.ofNat) ∧ Acc m t v) ∨ (r.2[t]? = some false ∧ ∀ u, Wd (kk m) u → aft m 0 u ≠ (t : Int))
theorem z4n : Ret (jU m) (z4q m) := by
 have l1 := h.len1
 unfold jU
 rw [uj]
 refine (z5k h hG (from_ := 0) ⟨by omega, by omega⟩).mono fun r hr => zL.2 ⟨hr.1, hr.2.1, fun t ht => ?_⟩
 rcases hr.2.2 t ht with ⟨g1, v, g2, g3, g4, g5, g6, g7⟩ | ⟨g1, g2, g3⟩
 ·exact .inl ⟨g1, v, g2, ⟨g4, g5, g6, g7⟩⟩
 ·refine .inr ⟨g1, fun u hu e => ?_⟩
  obtain ⟨w, w1, w2, w3, w4⟩ := Jt h u.length u (Nat.le_refl _) hu (by omega)
  exact g3 w w1 (Nat.lt_of_lt_of_le (zaj w1) (z11 w2)) (w4.trans e)
end
theorem z8t {s : Nat} {v w : List Nat} (hv : Acc m s v) (hw : Acc m s w) : v = w :=
 z8M hv.wd hw.wd (Nat.le_antisymm (hv.least w hw.wd hw.aft) (hw.least v hv.wd hv.aft))
def Rch (m : z6) (t : Nat) : Prop := ∃ u, Wd (kk m) u ∧ aft m 0 u = (t : Int)
theorem z8A {out : List Bool} {j t : Nat} (hj : j < out.length) : (out.set j true)[t]? = some true ↔ t = j ∨ out[t]? = some true := by
 by_cases e : t = j
 ·subst e; simp [hj]
 ·rw [List.getElem?_set_ne (Ne.symm e)]
  exact ⟨.inr, fun q => q.resolve_left e⟩
section
variable {m : z6} (h : VM m)
include h
omit h in theorem rch_step {s i : Nat} (hs : Rch m s) (hi : i < kk m) (h0 : 0 ≤ (E m s i).To) : Rch m (E m s i).To.toNat := by
 obtain ⟨u, hu, e⟩ := hs
 refine ⟨u ++ [i], fun j hj => ?_, ?_⟩
 ·rcases List.mem_append.1 hj with q | q
  ·exact hu j q
  ·have : j = i := by simpa using q
   omega
 ·have := (Qz m u 0 i).2
  rw [e, z0A] at this
  rw [this]
  omega
end
def ul : List Int → List Int → Int
 | [], [] => 0
 | [], _ :: _ => -1
 | _ :: _, [] => 1
 | x :: a, y :: b => if x < y then -1 else if y < x then 1 else ul a b
def ZL (a b : List Int) : Int := if a.length < b.length then -1 else if b.length < a.length then 1 else ul a b
theorem z5E : ∀ {a b : List Int}, ul a b = 0 → a = b
 | [], [], _ => rfl
 | [], _ :: _, h => by simp [ul] at h
 | _ :: _, [], h => by simp [ul] at h
 | x :: a, y :: b, h => by
  simp only [ul] at h
  split at h
  ·simp at h
  ·split at h
   ·simp at h
   ·rw [show x = y by omega, z5E h]
theorem z1L : ∀ a : List Int, ul a a = 0
 | [] => rfl
 | x :: a => by simp [ul, z1L a]
theorem z3x : ∀ a b : List Int, ul b a = - ul a b
 | [], [] => rfl
 | [], _ :: _ => rfl
 | _ :: _, [] => rfl
 | x :: a, y :: b => by
  simp only [ul]
  split
  ·rw [if_neg (by omega)]
  ·split
   ·rfl
   ·exact z3x a b
theorem KQ : ∀ {a b c : List Int}, ul a b < 0 → ul b c < 0 → ul a c < 0
 | [], [], _, h, _ => by simp [ul] at h
 | [], _ :: _, [], _, h => by simp [ul] at h
 | [], _ :: _, _ :: _, _, _ => by simp [ul]
 | _ :: _, [], _, h, _ => by simp [ul] at h
 | _ :: _, _ :: _, [], _, h => by simp [ul] at h
 | x :: a, y :: b, z :: c, h1, h2 => by
  simp only [ul] at h1 h2 ⊢
  by_cases e1 : x < y
  ·by_cases e2 : y < z
   ·rw [if_pos (by omega)]; omega
   ·rw [if_neg e2] at h2
    by_cases e3 : z < y
    ·rw [if_pos e3] at h2; omega
    ·rw [if_pos (by omega)]; omega
  ·rw [if_neg e1] at h1
   by_cases e3 : y < x
   ·rw [if_pos e3] at h1; omega
   ·rw [if_neg e3] at h1
    have : x = y := by omega
    subst this
    by_cases e2 : x < z
    ·rw [if_pos e2]; omega
    ·rw [if_neg e2] at h2 ⊢
     by_cases e4 : z < x
     ·rw [if_pos e4] at h2; omega
     ·rw [if_neg e4] at h2 ⊢
      exact KQ h1 h2
variable {a b : List Int}
theorem z2S (h : ZL a b = 0) : a = b := by
 unfold ZL at h
 split at h
 ·simp at h
 ·split at h
  ·simp at h
  ·exact z5E h
theorem JX (a : List Int) : ZL a a = 0 := by simp [ZL, z1L]
theorem z3P : ZL a b = 0 ↔ a = b := ⟨z2S, fun h => h ▸ JX a⟩
theorem z3N (a b : List Int) : ZL b a = - ZL a b := by
 unfold ZL
 by_cases h1 : a.length < b.length
 ·rw [if_pos h1, if_neg (by omega), if_pos h1]; rfl
 ·by_cases h2 : b.length < a.length
  ·rw [if_pos h2, if_neg h1, if_pos h2]
  ·rw [if_neg h1, if_neg h2, if_neg h2, if_neg h1, z3x]
theorem Zg {a b c : List Int} (h1 : ZL a b < 0) (h2 : ZL b c < 0) : ZL a c < 0 := by
 unfold ZL at *
 by_cases e1 : a.length < b.length
 ·by_cases e2 : b.length < c.length
  ·rw [if_pos (by omega)]; omega
  ·rw [if_neg e2] at h2
   by_cases e3 : c.length < b.length
   ·rw [if_pos e3] at h2; omega
   ·rw [if_pos (by omega)]; omega
 ·rw [if_neg e1] at h1
  by_cases e3 : b.length < a.length
  ·rw [if_pos e3] at h1; omega
  ·rw [if_neg e3] at h1
   have e : a.length = b.length := by omega
   rw [e]
   by_cases e2 : b.length < c.length
   ·rw [if_pos e2]; omega
   ·rw [if_neg e2] at h2 ⊢
    by_cases e4 : c.length < b.length
    ·rw [if_pos e4] at h2; omega
    ·rw [if_neg e4] at h2 ⊢
     exact KQ h1 h2
theorem z3O (a : List Int) : ¬ ZL a a < 0 := by rw [JX]; omega
theorem z6a (h : ZL a b < 0) : ¬ ZL b a < 0 := by rw [z3N a b]; omega
theorem z69 : ¬ ZL a b < 0 ↔ ZL b a < 0 ∨ a = b := by
 rw [← z3P, z3N a b]; omega
def SW (l : List (List Int)) : Prop := l.Pairwise fun a b => ZL a b < 0
theorem SW.nil : SW [] := List.Pairwise.nil
variable {l : List (List Int)}{x : List Int}
theorem SW.tail (h : SW (x :: l)) : SW l := (List.pairwise_cons.1 h).2
theorem SW.head (h : SW (x :: l)) : ∀ y ∈ l, ZL x y < 0 := (List.pairwise_cons.1 h).1
theorem SW.unique : ∀ {l m : List (List Int)}, SW l → SW m → (∀ x, x ∈ l ↔ x ∈ m) → l = m
 | [], [], _, _, _ => rfl
 | [], y :: m, _, _, h => by have := (h y).2 (by simp); simp at this
 | x :: l, [], _, _, h => by have := (h x).1 (by simp); simp at this
 | x :: l, y :: m, h1, h2, h => by
  have hxy : x = y := by
   rcases List.mem_cons.1 ((h x).1 (by simp)) with e | e
   ·exact e
   ·rcases List.mem_cons.1 ((h y).2 (by simp)) with e' | e'
    ·exact e'.symm
    ·exact absurd (h2.head x e) (z6a (h1.head y e'))
  subst hxy
  rw [SW.unique h1.tail h2.tail fun z => ?_]
  constructor
  ·intro hz
   rcases List.mem_cons.1 ((h z).1 (by simp [hz])) with e | e
   ·subst e; exact absurd (h1.head _ hz) (z3O _)
   ·exact e
  ·intro hz
   rcases List.mem_cons.1 ((h z).2 (by simp [hz])) with e | e
   ·subst e; exact absurd (h2.head _ hz) (z3O _)
   ·exact e
theorem SW.sub {l m : List (List Int)} (h : SW l) (hs : List.Sublist m l) : SW m := List.Pairwise.sublist hs h
def KK (w : List Int) : List (List Int) → List (List Int)
 | [] => [w]
 | x :: l => if ZL x w < 0 then x :: KK w l else if ZL x w = 0 then x :: l else w :: x :: l
theorem Vx {w x : List Int} : ∀ {l : List (List Int)}, x ∈ KK w l ↔ x = w ∨ x ∈ l
 | [] => by simp [KK]
 | y :: l => by
  simp only [KK]
  split
  ·simp only [List.mem_cons, Vx]
   constructor
   ·rintro (h | h | h) <;> simp [h]
   ·rintro (h | h | h) <;> simp [h]
  ·split
   ·rename_i h1 h2
    have := z2S h2
    subst this
    simp
   ·simp
theorem SW.put {w : List Int} : ∀ {l : List (List Int)}, SW l → SW (KK w l)
 | [], _ => by simp [KK, SW]
 | y :: l, h => by
  simp only [KK]
  split
  ·rename_i h1
   refine List.pairwise_cons.2 ⟨fun z hz => ?_, SW.put h.tail⟩
   rcases Vx.1 hz with rfl | hz
   ·exact h1
   ·exact h.head z hz
  ·split
   ·exact h
   ·rename_i h1 h2
    have hw : ZL w y < 0 := by
     rcases z69.1 h1 with q | q
     ·exact q
     ·exact absurd (z3P.2 q) h2
    refine List.pairwise_cons.2 ⟨fun z hz => ?_, h⟩
    rcases List.mem_cons.1 hz with rfl | hz
    ·exact hw
    ·exact Zg hw (h.head z hz)
theorem z3k (w : List Int) : ∀ l, (KK w l).length ≤ l.length + 1
 | [] => by simp [KK]
 | y :: l => by
  simp only [KK]
  split
  ·have := z3k w l; simp; omega
  ·split <;> simp
def srt (l : List (List Int)) : List (List Int) := l.foldl (fun m w => KK w m) []
theorem z2p : ∀ (l m : List (List Int)), SW m → SW (l.foldl (fun m w => KK w m) m) ∧ ∀ x, x ∈ l.foldl (fun m w => KK w m) m ↔ x ∈ m ∨ x ∈ l
 | [], m, h => ⟨h, by simp⟩
 | w :: l, m, h => by
  obtain ⟨h1, h2⟩ := z2p l (KK w m) h.put
  refine ⟨h1, fun x => ?_⟩
  rw [List.foldl_cons, h2, Vx]
  simp only [List.mem_cons]
  constructor
  ·rintro ((h | h) | h) <;> simp [h]
  ·rintro (h | h | h) <;> simp [h]
theorem z8D (l : List (List Int)) : SW (srt l) := (z2p l [] .nil).1
theorem z2D : x ∈ srt l ↔ x ∈ l := by rw [srt, (z2p l [] .nil).2]; simp
theorem z7c (l : List (List Int)) (w : List Int) : srt (l ++ [w]) = KK w (srt l) := by simp [srt]
theorem z4O (l : List (List Int)) : (srt l).length ≤ l.length := by
 have : ∀ (l m : List (List Int)), (l.foldl (fun m w => KK w m) m).length ≤ m.length + l.length := by
  intro l
  induction l with
  | nil => intro m; simp
  | cons w l ih => intro m; have := ih (KK w m); have := z3k w m; simp only [List.foldl_cons, List.length_cons]; omega
 have q := this l []
 simp only [List.length_nil, Nat.zero_add] at q
 exact q
variable {α : Type}
theorem xa {l : List α}  {x : α} (h : l[i]? = some x) : idx l (i : Int) = some x := h
theorem z5S (b : List Int) (g : Nat → Int → Option Int) (hg : ∀ i x y, b[i]? = some y → g i x = if x < y then some (-1) else if y < x then some 1 else none) :
  ∀ (a : List Int) (k : Nat), k + a.length = b.length → (xH g a k).getD 0 = ul a (b.drop k)
 | [], k, h => by
  have : b.drop k = [] := List.drop_eq_nil_of_le (by simp at h; omega)
  rw [this]; rfl
 | x :: a, k, h => by
  simp only [List.length_cons] at h
  have hk : k < b.length := by omega
  rw [List.drop_eq_getElem_cons hk]
  simp only [xH, ul, hg k x b[k] (List.getElem?_eq_getElem hk)]
  by_cases h1 : x < b[k]
  ·simp [h1]
  ·by_cases h2 : b[k] < x
   ·simp [h1, h2]
   ·simp only [h1, h2, if_false]
    exact z5S b g hg a (k + 1) (by omega)
theorem z29 (a b : List Int) (h : a.length = b.length → a.length < 4611686018427387904) : vR a b = some (ZL a b) := by
 unfold vR
 by_cases hl : a.length = b.length
 ·have h' := h hl
  simp only [hl, bne_self_eq_false, cond_false]
  rw [bdT (ZB a h' (fun i x => match b[i]? with | some y => if x < y then some (-1 : Int) else if y < x then some 1 else none | none => none) ?_ ?_)]
  ·have q := z5S b (fun i x => match b[i]? with | some y => if x < y then some (-1 : Int) else if y < x then some 1 else none | none => none) (fun i x y hy => by simp only [hy]) a 0 (by omega)
   rw [List.drop_zero] at q
   have hc : ZL a b = ul a b := by unfold ZL; rw [if_neg (by omega), if_neg (by omega)]
   rw [hc, ← q]
   cases xH (fun i x => match b[i]? with | some y => if x < y then some (-1 : Int) else if y < x then some 1 else none | none => none) a 0 <;> rfl
  ·intro i x hx
   have hi : i < a.length := (List.getElem?_eq_some_iff.1 hx).1
   have hy : b[i]? = some b[i] := List.getElem?_eq_getElem (by omega)
   unfold u3
   have hc : decide ((i : Int) < (a.length : Int)) = true := by simpa using hi
   simp only [hc, cond_true, xa hx, xa hy, hy, oB]
   by_cases h1 : x < b[i]
   ·simp [h1, nS]
   ·by_cases h2 : b[i] < x
    ·simp [h1, h2, nS]
    ·simp [h1, h2, nS]
  ·unfold u3
   simp
 ·have h1 : (((a.length : Nat) : Int) != ((b.length : Nat) : Int)) = true := by simp; omega
  simp only [h1, cond_true]
  unfold ZL
  by_cases h2 : a.length < b.length
  ·simp [h2]
  ·have h3 : b.length < a.length := by omega
   simp [h2, h3]
def cI (x y : Int) : Int := if x < y then -1 else if y < x then 1 else 0
theorem z68 (x y : Int) : vF x y = some (cI x y) := by
 unfold vF j8 cI
 simp only [bne_self_eq_false, oB, cond_false]
 by_cases h1 : x < y
 ·simp [h1]
 ·by_cases h2 : y < x
  ·simp [h1, h2]
  ·simp [h1, h2]
theorem zag (a b : List Int) (h : a.length < 4611686018427387904) : ∃ c, xx a b = some c ∧ (a.length = b.length → c = ul a b) := by
 unfold xx
 have hloop := ZB a h (step := fun s => yk a b s) (fun i x => match b[i]? with | some y => if x < y then some (-1 : Int) else if y < x then some 1 else none | none => some 1) (by
  intro i x hx
  have hi : i < a.length := (List.getElem?_eq_some_iff.1 hx).1
  unfold yk
  have hc : decide ((i : Int) < (a.length : Int)) = true := by simpa using hi
  simp only [hc, cond_true, xa hx, oB]
  by_cases hb : i < b.length
  ·have hy : b[i]? = some b[i] := List.getElem?_eq_getElem hb
   have hd : decide ((i : Int) ≥ (b.length : Int)) = false := by simp; omega
   simp only [hd, cond_false, xa hy, hy, oB, z68]
   unfold cI
   by_cases h1 : x < b[i]
   ·simp [h1, nS]
   ·by_cases h2 : b[i] < x
    ·simp [h1, h2, nS]
    ·simp [h1, h2, nS]
  ·have hy : b[i]? = none := List.getElem?_eq_none (by omega)
   have hd : decide ((i : Int) ≥ (b.length : Int)) = true := by simp; omega
   simp only [hd, cond_true, hy, nS]) (by unfold yk; simp)
 rw [bdT hloop]
 have q := fun hl => z5S b (fun i x => match b[i]? with | some y => if x < y then some (-1 : Int) else if y < x then some 1 else none | none => some 1) (fun i x y hy => by simp only [hy]) a 0 hl
 cases hf : xH (fun i x => match b[i]? with | some y => if x < y then some (-1 : Int) else if y < x then some 1 else none | none => some 1) a 0 with
 | some r =>
  refine ⟨r, rfl, fun hl => ?_⟩
  have := q (by omega)
  rw [hf] at this
  simpa using this
 | none =>
  unfold xJ
  by_cases hl : a.length < b.length
  ·refine ⟨-1, by simp [oS, hl], fun hl2 => by omega⟩
  ·refine ⟨0, by simp [oS, hl], fun hl2 => ?_⟩
   have := q (by omega)
   rw [hf] at this
   simpa using this
theorem zi0 (x y : Int) : YC [x, y] = some (if x = 0 then y else x) := by
 unfold YC
 rw [bdT (ZB [x, y] (by simp) (step := fun s => uL [x, y] s) (fun i v => if v ≠ 0 then some v else none) ?_ ?_)]
 ·by_cases h1 : x = 0
  ·by_cases h2 : y = 0
   ·simp [xH, h1, h2, oS, kS]
   ·simp [xH, h1, h2, oS]
  ·simp [xH, h1, oS]
 ·intro i v hv
  have hi : i < [x, y].length := (List.getElem?_eq_some_iff.1 hv).1
  unfold uL
  have hc : decide ((i : Int) < (([x, y] : List Int).length : Int)) = true := by simp only [decide_eq_true_eq]; omega
  simp only [hc, cond_true, xa hv, oB]
  by_cases h : v = 0
  ·simp [h, nS]
  ·have hb : (v != 0) = true := by simpa using h
   simp [h, hb, nS]
 ·unfold uL; simp
theorem z4p (a b : List Int) (h : a.length < 4611686018427387904) : vL a b = some (ZL a b) := by
 unfold vL
 obtain ⟨c, hc, hl⟩ := zag a b h
 rw [z68, hc]
 simp only [oB, zi0]
 unfold cI ZL
 by_cases h1 : a.length < b.length
 ·simp [h1]
 ·by_cases h2 : b.length < a.length
  ·simp [h1, h2]
  ·simp [h1, h2, hl (by omega)]
def wE (n : Int) (w : List Int) : Int := if 256 < w.length then 3 else if w.any (fun c => decide (c < 0) || decide (n ≤ c)) then 1 else 0
variable {n : Int}
theorem z4B {w : List Int} : wE n w = 0 ↔ w.length ≤ 256 ∧ ∀ c ∈ w, 0 ≤ c ∧ c < n := by
 unfold wE
 by_cases h : 256 < w.length
 ·rw [if_pos h]
  exact ⟨fun q => by simp at q, fun q => by omega⟩
 ·rw [if_neg h]
  by_cases h2 : w.any (fun c => decide (c < 0) || decide (n ≤ c)) = true
  ·rw [if_pos h2]
   simp only [List.any_eq_true, Bool.or_eq_true, decide_eq_true_eq] at h2
   obtain ⟨c, h3, h4⟩ := h2
   refine ⟨fun q => by simp at q, fun q => ?_⟩
   have := q.2 c h3
   omega
  ·rw [if_neg h2]
   simp only [List.any_eq_true, Bool.or_eq_true, decide_eq_true_eq, not_exists, not_and, not_or] at h2
   refine ⟨fun _ => ⟨by omega, fun c hc => ?_⟩, fun _ => rfl⟩
   have := h2 c hc
   omega
variable {ρ : Type}
theorem z93 (p : Int → Bool) (g : Nat → Int → Option ρ) (hg : ∀ i x, (g i x).isSome = p x) : ∀ (w : List Int) (k : Nat), (xH g w k).isSome = w.any p
 | [], k => rfl
 | x :: w, k => by
  simp only [xH, List.any_cons]
  have := hg k x
  cases hx : g k x with
  | some r => rw [hx] at this; simp at this; simp [← this]
  | none => rw [hx] at this; simp at this; rw [this, Bool.false_or]; exact z93 p g hg w (k + 1)
theorem z4C (n : Int) (w : List Int) : jp w n = some (if 16 < n then 3 else if 256 < w.length then 3 else if n < 1 then 1 else wE n w) := by
 unfold jp
 by_cases h0 : 16 < n
 ·simp [h0]
 by_cases h : 256 < w.length
 ·have h' : (256 : Int) < (w.length : Int) := by omega
  simp [h0, h, h']
 by_cases h1 : n < 1
 ·have h' : ¬ (256 : Int) < (w.length : Int) := by omega
  simp [h0, h, h', h1]
 ·have hd : decide (((w.length : Nat) : Int) > 256) = false := by simp; omega
  have hd0 : decide (n > 16) = false := by simp; omega
  have hd1 : decide (n < 1) = false := by simp; omega
  simp only [hd, hd0, hd1, cond_false, if_neg h, if_neg h0, if_neg h1]
  unfold x6 w6 wE
  have hl := ZB w (by omega) (step := fun s => yc w n s) (fun i c => if c < 0 ∨ n ≤ c then some (i : Int) else none) (by
   intro i c hc
   have hi : i < w.length := (List.getElem?_eq_some_iff.1 hc).1
   unfold yc kB
   have hq : decide ((i : Int) < (w.length : Int)) = true := by simpa using hi
   simp only [hq, cond_true, xa hc, oB]
   by_cases h1 : c < 0
   ·simp [h1, nS]
   ·by_cases h2 : n ≤ c
    ·simp [h1, h2, nS]
    ·simp [h1, h2, nS]) (by unfold yc; simp)
  rw [bdT hl, if_neg h]
  have q := z93 (fun c => decide (c < 0) || decide (n ≤ c)) (fun i c => if c < 0 ∨ n ≤ c then some (i : Int) else none) (fun i c => by by_cases h : c < 0 ∨ n ≤ c <;> simp [h] <;> simpa using h) w 0
  cases hf : xH (fun i c => if c < 0 ∨ n ≤ c then some (i : Int) else none) w 0 with
  | none => rw [hf] at q; rw [← q]; rfl
  | some r =>
   rw [hf] at q
   obtain ⟨i, x, h1, h2⟩ := ZG hf
   rw [← q]
   split at h2
   ·cases h2
    simp [oS]
   ·cases h2
def eS (e : Int) : Option Int := if e = 0 then none else some e
def loE (n : Int) (l : List (List Int)) : Int := if 16 < n then 3 else if 4096 < l.length then 3 else if n < 1 then 1 else (xH (fun _ w => eS (wE n w)) l 0).getD 0
theorem z3G : ∀ {l : List (List Int)} {k : Nat}, (xH (fun _ w => eS (wE n w)) l k).getD 0 = 0 ↔ ∀ w ∈ l, wE n w = 0
 | [], _ => by simp [xH]
 | w :: l, k => by
  by_cases h : wE n w = 0
  ·have : eS (wE n w) = none := by simp [eS, h]
   simp only [xH, this]
   rw [z3G]
   simp [h]
  ·have : eS (wE n w) = some (wE n w) := by simp [eS, h]
   simp [xH, this, h]
theorem z3w : loE n l = 0 ↔ (1 ≤ n ∧ n ≤ 16) ∧ l.length ≤ 4096 ∧ ∀ w ∈ l, w.length ≤ 256 ∧ ∀ c ∈ w, 0 ≤ c ∧ c < n := by
 unfold loE
 by_cases h0 : 16 < n
 ·rw [if_pos h0]; exact ⟨fun q => by simp at q, fun q => by omega⟩
 by_cases h1 : 4096 < l.length
 ·rw [if_neg h0, if_pos h1]; exact ⟨fun q => by simp at q, fun q => by omega⟩
 by_cases h2 : n < 1
 ·rw [if_neg h0, if_neg h1, if_pos h2]; exact ⟨fun q => by simp at q, fun q => by omega⟩
 rw [if_neg h0, if_neg h1, if_neg h2, z3G]
 constructor
 ·intro q; exact ⟨by omega, by omega, fun w hw => z4B.1 (q w hw)⟩
 ·intro q w hw; exact z4B.2 (q.2.2 w hw)
theorem z7H (l : List (List Int)) (n : Int) : js l n = some (loE n l) := by
 unfold js loE
 by_cases h0 : 16 < n
 ·simp [h0]
 by_cases h1 : 4096 < l.length
 ·have h' : (4096 : Int) < (l.length : Int) := by omega
  simp [h0, h1, h']
 by_cases h2 : n < 1
 ·have h' : ¬ (4096 : Int) < (l.length : Int) := by omega
  simp [h0, h1, h2, h']
 have d0 : decide (n > 16) = false := by simp; omega
 have d1 : decide (((l.length : Nat) : Int) > 4096) = false := by simp; omega
 have d2 : decide (n < 1) = false := by simp; omega
 simp only [d0, d1, d2, cond_false, if_neg h0, if_neg h1, if_neg h2]
 rw [bdT (ZB l (by omega) (step := fun s => u7 l n s) (fun _ w => eS (wE n w)) ?_ ?_)]
 ·cases xH (fun _ w => eS (wE n w)) l 0 <;> rfl
 ·intro i w hw
  have hi : i < l.length := (List.getElem?_eq_some_iff.1 hw).1
  have hq : decide ((i : Int) < (l.length : Int)) = true := by simpa using hi
  have he : jp w n = some (wE n w) := by
   rw [z4C, if_neg h0, if_neg h2]
   by_cases h : 256 < w.length
   ·rw [if_pos h]; unfold wE; rw [if_pos h]
   ·rw [if_neg h]
  unfold u7
  simp only [hq, cond_true, xa hw, oB, he]
  by_cases hz : wE n w = 0
  ·simp [hz, eS, nS]
  ·have hb : (wE n w != 0) = true := by simpa using hz
   simp [hz, hb, eS, nS]
 ·unfold u7; simp
theorem z7I (l : List (List Int)) (hl : l.length < 4611686018427387904) {step : Int × Int → Option (LR (Int × Int) Int)}
  (h : ∀ (n : Int) (i : Nat) (x : List Int), l[i]? = some x → step (n, (i : Int)) = some (.next (w64 (n + ((x.length : Nat) : Int)), w64 ((i : Int) + 1)))) (h2 : ∀ n, step (n, (l.length : Int)) = some (.done n)) :
  loop step (0, 0) = some (l.foldl (fun n x => w64 (n + ((x.length : Nat) : Int))) 0) := by
 have gen : ∀ (m k : Nat) (n : Int), k ≤ l.length → l.length - k < m → WT step m (n, (k : Int)) = some ((l.drop k).foldl (fun n x => w64 (n + ((x.length : Nat) : Int))) n) := by
  intro m
  induction m with
  | zero => intro k n _ h; omega
  | succ m ih =>
   intro k n hk hn
   rw [Yw]
   rcases Nat.lt_or_ge k l.length with hlt | hge
   ·have hx : l[k]? = some l[k] := List.getElem?_eq_getElem hlt
    rw [h n k _ hx, List.drop_eq_getElem_cons hlt]
    simp only [List.foldl_cons]
    rw [vH (x := (k : Int) + 1) (by omega) (by omega)]
    exact ih (k + 1) _ hlt (by omega)
   ·have : k = l.length := by omega
    subst this
    rw [h2, List.drop_length]
    rfl
 exact gen fuel 0 0 (Nat.zero_le _) (by show l.length - 0 < 18446744073709551616; omega)
def stW (l : List (List Int)) : Int := l.foldl (fun n x => w64 (n + ((x.length : Nat) : Int))) 0
theorem z7a (l : List (List Int)) (hl : l.length < 4611686018427387904) : jr l = some (stW l) := by
 unfold jr
 rw [bdT (z7I l hl (step := fun s => u6 l s.1 s.2) ?_ ?_)]
 ·rfl
 ·intro n i x hx
  have hi : i < l.length := (List.getElem?_eq_some_iff.1 hx).1
  have hq : decide ((i : Int) < (l.length : Int)) = true := by simpa using hi
  unfold u6
  simp only [hq, cond_true, xa hx, oB]
 ·intro n; unfold u6; simp
def KC (l : List (List Int)) : Nat := (l.map List.length).sum
theorem zbQ (h : KC l < 4611686018427387904) : stW l = (KC l : Int) := by
 have gen : ∀ (l : List (List Int)) (n : Nat), n + KC l < 4611686018427387904 → l.foldl (fun n x => w64 (n + ((x.length : Nat) : Int))) (n : Int) = ((n + KC l : Nat) : Int) := by
  intro l
  induction l with
  | nil => intro n _; simp [KC]
  | cons x l ih =>
   intro n hn
   have hs : KC (x :: l) = x.length + KC l := by simp [KC]
   rw [hs] at hn ⊢
   rw [List.foldl_cons, vH (by omega) (by omega), ← Int.natCast_add, ih (n + x.length) (by omega)]
   congr 1; omega
 have := gen l 0 (by omega)
 simpa [stW] using this
theorem z4K {m : Nat} (h : ∀ w ∈ l, w.length ≤ m) : KC l ≤ l.length * m := by
 induction l with
 | nil => simp [KC]
 | cons x l ih =>
  have hs : KC (x :: l) = x.length + KC l := by simp [KC]
  have h1 := h x (by simp)
  have h2 := ih fun w hw => h w (by simp [hw])
  rw [hs, List.length_cons, Nat.add_mul]
  omega
theorem z33 : ∀ {l : List (List Int)}, SW l ↔ ∀ i x y, l[i]? = some x → l[i + 1]? = some y → ZL x y < 0
 | [] => by simp [SW]
 | [x] => ⟨fun _ i a b _ h2 => by simp at h2, fun _ => by simp [SW]⟩
 | x :: y :: l => by
  constructor
  ·intro h i a b h1 h2
   cases i with
   | zero =>
    simp at h1 h2
    subst h1; subst h2
    exact h.head y (by simp)
   | succ i => exact z33.1 h.tail i a b (by simpa using h1) (by simpa using h2)
  ·intro h
   have ht : SW (y :: l) := z33.2 fun i a b h1 h2 => h (i + 1) a b (by simpa using h1) (by simpa using h2)
   have h0 := h 0 x y rfl rfl
   refine List.pairwise_cons.2 ⟨fun z hz => ?_, ht⟩
   rcases List.mem_cons.1 hz with rfl | hz
   ·exact h0
   ·exact Zg h0 (ht.head z hz)
theorem z4d {α ρ : Type} (l : List α) (hl : l.length < 4611686018427387904) {step : Int → Option (LR Int (Unit ⊕ ρ))} (f : Nat → α → Option ρ)
  (h : ∀ (i : Nat) (x : α), 1 ≤ i → l[i]? = some x → step (i : Int) = some (nS i (f i x))) (h2 : ∀ k : Nat, l.length ≤ k → step (k : Int) = some (.done (.inl ()))) :
  loop step 1 = some (oS (xH f (l.drop 1) 1)) := by
 have gen : ∀ (n : Nat) (k : Nat), 1 ≤ k → l.length - k < n → WT step n (k : Int) = some (oS (xH f (l.drop k) k)) := by
  intro n
  induction n with
  | zero => intro k _ h; omega
  | succ n ih =>
   intro k hk hn
   rw [Yw]
   rcases Nat.lt_or_ge k l.length with hlt | hge
   ·have hx : l[k]? = some l[k] := List.getElem?_eq_getElem hlt
    rw [h k _ hk hx, List.drop_eq_getElem_cons hlt]
    simp only [xH]
    cases hf : f k l[k] with
    | some r => rfl
    | none =>
     simp only [nS]
     rw [vH (by omega) (by omega)]
     exact ih (k + 1) (by omega) (by omega)
   ·rw [h2 k hge, List.drop_eq_nil_of_le hge]
    rfl
 exact gen fuel 1 (Nat.le_refl _) (by show l.length - 1 < 18446744073709551616; omega)
instance (l : List (List Int)) : Decidable (SW l) := by unfold SW; infer_instance
theorem z7Z (l : List (List Int)) (r : ρ) : xH (fun i x => match l[i - 1]? with | some y => if 0 ≤ ZL y x then some r else none | none => none) (l.drop 1) 1 = if SW l then none else some r := by
 by_cases hs : SW l
 ·rw [if_pos hs]
  refine WX fun i x hx => ?_
  rw [List.getElem?_drop] at hx
  have hi : 1 + i < l.length := (List.getElem?_eq_some_iff.1 hx).1
  have hy : l[1 + i - 1]? = some l[i] := by rw [show 1 + i - 1 = i by omega]; exact List.getElem?_eq_getElem (by omega)
  rw [hy]
  have := z33.1 hs i l[i] x (List.getElem?_eq_getElem (by omega)) (by rw [Nat.add_comm]; exact hx)
  simp only
  rw [if_neg (by omega)]
 ·rw [if_neg hs]
  cases hf : xH (fun i x => match l[i - 1]? with | some y => if 0 ≤ ZL y x then some r else none | none => none) (l.drop 1) 1 with
  | some r' =>
   obtain ⟨i, x, h1, h2⟩ := ZG hf
   split at h2
   ·split at h2
    ·exact h2.symm
    ·cases h2
   ·cases h2
  | none =>
   exfalso
   refine hs (z33.2 fun i x y hx hy => ?_)
   have := X6 hf i y (by rw [List.getElem?_drop, Nat.add_comm]; exact hy)
   rw [show 1 + i - 1 = i by omega, hx] at this
   simp only at this
   split at this
   ·cases this
   ·omega
theorem z8r (l : List (List Int)) (h : l.length ≤ 4096) (hw : ∀ w ∈ l, w.length < 4611686018427387904) : Zm l = some (decide (SW l)) := by
 unfold Zm
 rw [bdT (z4d l (by omega) (step := fun s => u9 l s) (fun i x => match l[i - 1]? with | some y => if 0 ≤ ZL y x then some false else none | none => none) ?_ ?_), z7Z]
 ·by_cases hs : SW l
  ·simp [hs, oS, jJ]
  ·simp [hs, oS]
 ·intro i x hi hx
  have hil : i < l.length := (List.getElem?_eq_some_iff.1 hx).1
  have hy : l[i - 1]? = some l[i - 1] := List.getElem?_eq_getElem (by omega)
  have hq : decide ((i : Int) < (l.length : Int)) = true := by simpa using hil
  unfold u9
  rw [vH (x := (i : Int) - 1) (by omega) (by omega), show ((i : Int) - 1) = ((i - 1 : Nat) : Int) by omega]
  have hE := z4p l[i - 1] x (hw _ (List.getElem_mem (by omega)))
  simp only [hq, cond_true, xa hx, xa hy, oB, hy, hE]
  by_cases hc : 0 ≤ ZL l[i - 1] x
  ·simp [hc, nS]
  ·simp [hc, nS]
 ·intro k hk; unfold u9; have : decide ((k : Int) < (l.length : Int)) = false := by simp; omega
  simp only [this, cond_false]
def chE (n : Int) (l : List (List Int)) : Int := if loE n l ≠ 0 then loE n l else if SW l then (if 65536 < KC l then 3 else 0) else 1
theorem z88 : chE n l = 0 ↔ loE n l = 0 ∧ SW l ∧ KC l ≤ 65536 := by
 unfold chE
 by_cases h : loE n l = 0
 ·rw [if_neg (by simp [h])]
  by_cases h2 : SW l
  ·rw [if_pos h2]
   by_cases h3 : 65536 < KC l
   ·rw [if_pos h3]; exact ⟨fun q => by simp at q, fun q => by omega⟩
   ·rw [if_neg h3]; exact ⟨fun _ => ⟨h, h2, by omega⟩, fun _ => rfl⟩
  ·rw [if_neg h2]; exact ⟨fun q => by simp at q, fun q => absurd q.2.1 h2⟩
 ·rw [if_pos h]; exact ⟨fun q => absurd q h, fun q => absurd q.1 h⟩
theorem z5D (h : loE n l = 0) : l.length ≤ 4096 ∧ (∀ w ∈ l, w.length ≤ 256) ∧ KC l ≤ 1048576 := by
 obtain ⟨_, h1, h2⟩ := z3w.1 h
 refine ⟨h1, fun w hw => (h2 w hw).1, ?_⟩
 have := z4K (m := 256) fun w hw => (h2 w hw).1
 omega
theorem z4J (l : List (List Int)) (n : Int) : Zn l n = some (chE n l) := by
 unfold Zn chE
 rw [z7H]
 simp only [oB]
 by_cases h : loE n l = 0
 ·obtain ⟨h1, h2, h3⟩ := z5D h
  rw [z8r l h1 fun w hw => by have := h2 w hw; omega, z7a l (by omega), zbQ (by omega)]
  simp only [h, bne_self_eq_false, cond_false, oB, ne_eq, not_true, if_false]
  by_cases hs : SW l
  ·by_cases hq : 65536 < KC l
   ·have : (65536 : Int) < (KC l : Int) := by omega
    simp [hs, hq, this]
   ·have : ¬ (65536 : Int) < (KC l : Int) := by omega
    simp [hs, hq, this]
  ·simp [hs]
 ·have hb : (loE n l != 0) = true := by simpa using h
  simp [h, hb]
theorem z2T (w : List Int) : y5 w = some w := by
 unfold y5
 rw [gdT (by omega)]
 simp
theorem z0K (w : List Int) (h : w.length ≤ 4294967296) : zT w = some w := by
 unfold zT
 rw [gdT (by simpa using h)]
def QW (l : List (List Int)) : Prop := l.Pairwise fun a b => ¬ ZL b a < 0
theorem z7D {l : List α} {n : Nat} {x : α} : x ∈ l.take n ↔ ∃ i, i < n ∧ l[i]? = some x := by
 rw [List.mem_iff_getElem?]
 constructor
 ·rintro ⟨i, h⟩
  rw [List.getElem?_take] at h
  split at h
  ·exact ⟨i, by omega, h⟩
  ·cases h
 ·rintro ⟨i, h1, h2⟩
  exact ⟨i, by rw [List.getElem?_take, if_pos h1]; exact h2⟩
theorem z5c (hs : SW l) {w : List Int}  (hi : i ≤ l.length) (h1 : ∀ m x, m < i → l[m]? = some x → ZL x w < 0) (h2 : ∀ m x, i ≤ m → l[m]? = some x → ZL w x < 0) : l.take i ++ w :: l.drop i = KK w l := by
 have ht : ∀ x ∈ l.take i, ZL x w < 0 := fun x hx => by
  obtain ⟨m, q1, q2⟩ := z7D.1 hx
  exact h1 m x q1 q2
 have hd : ∀ x ∈ l.drop i, ZL w x < 0 := fun x hx => by
  obtain ⟨m, q⟩ := List.mem_iff_getElem?.1 hx
  rw [List.getElem?_drop] at q
  exact h2 (i + m) x (by omega) q
 refine SW.unique ?_ hs.put fun x => ?_
 ·unfold SW
  rw [List.pairwise_append, List.pairwise_cons]
  refine ⟨hs.sub (List.take_sublist _ _), ⟨hd, hs.sub (List.drop_sublist _ _)⟩, fun a ha b hb => ?_⟩
  rcases List.mem_cons.1 hb with rfl | hb
  ·exact ht a ha
  ·exact Zg (ht a ha) (hd b hb)
 ·rw [Vx]
  have : x ∈ l ↔ x ∈ l.take i ∨ x ∈ l.drop i := by rw [← List.mem_append, List.take_append_drop]
  rw [this]
  simp only [List.mem_append, List.mem_cons]
  constructor
  ·rintro (h | h | h) <;> simp [h]
  ·rintro (h | h | h) <;> simp [h]
theorem zck {l : List (List Int)} (hs : SW l) (hl : l.length ≤ 1000000) (hw : ∀ x ∈ l, x.length < 4611686018427387904) {w : List Int} (hww : w.length ≤ 4294967296) : XX l w = some (KK w l) := by
 unfold XX
 apply Ret.eq
 rw [uj]
 refine Ret.mono (ui (fun q : Int × Int => ∃ i j : Nat, q = ((i : Int), (j : Int)) ∧ i ≤ j ∧ j ≤ l.length ∧ (∀ m x, m < i → l[m]? = some x → ZL x w < 0) ∧ ∀ m x, j ≤ m → l[m]? = some x → ¬ ZL x w < 0) (fun q => (q.2 - q.1).toNat) (R := fun t => ∃ i : Nat, t = (i : Int) ∧ i ≤ l.length ∧ (∀ m x, m < i → l[m]? = some x → ZL x w < 0) ∧ ∀ m x, i ≤ m → l[m]? = some x → ¬ ZL x w < 0) ?_ ?_ ?_) ?_
 ·exact ⟨0, l.length, rfl, Nat.zero_le _, Nat.le_refl _, fun m x h => by omega, fun m x h hx => by have := (List.getElem?_eq_some_iff.1 hx).1; omega⟩
 ·simp only; omega
 ·rintro _ ⟨i, j, rfl, g1, g2, g3, g4⟩
  show Ret (jS l w (i : Int) (j : Int)) _
  unfold jS
  rw [yV]
  refine ⟨fun hc => ?_, fun hc => ?_⟩
  ·have hij : i < j := by simpa using hc
   have hh : w64 (Int.tdiv (w64 ((i : Int) + (j : Int))) 2) = (((i + j) / 2 : Nat) : Int) := by
    rw [vH (x := (i : Int) + (j : Int)) (by omega) (by omega)]
    have : Int.tdiv ((i : Int) + (j : Int)) 2 = (((i + j) / 2 : Nat) : Int) := by
     rw [show ((i : Int) + (j : Int)) = ((i + j : Nat) : Int) by omega, Int.tdiv_eq_ediv_of_nonneg (by omega)]
     rfl
    rw [this, vH (by omega) (by omega)]
   rw [gdT (by omega), hh]
   have hm : (i + j) / 2 < l.length := by omega
   have hx : l[(i + j) / 2]? = some l[(i + j) / 2] := List.getElem?_eq_getElem hm
   rw [xa hx]
   simp only [oB]
   rw [z29 _ _ (fun _ => hw _ (List.getElem_mem hm))]
   simp only [oB]
   by_cases hc2 : ZL l[(i + j) / 2] w < 0
   ·simp only [hc2, decide_true, cond_true]
    rw [vH (by omega) (by omega), zL]
    refine ⟨⟨(i + j) / 2 + 1, j, by simp, by omega, g2, fun m x h hmx => ?_, g4⟩, by simp only; omega⟩
    rcases Nat.lt_or_ge m ((i + j) / 2) with q | q
    ·have h1 := (List.pairwise_iff_getElem.1 hs) m ((i + j) / 2) (List.getElem?_eq_some_iff.1 hmx).1 hm q
     rw [(List.getElem?_eq_some_iff.1 hmx).2] at h1
     exact Zg h1 hc2
    ·rw [show m = (i + j) / 2 by omega, hx] at hmx
     cases hmx
     exact hc2
   ·simp only [hc2, decide_false, cond_false]
    rw [zL]
    refine ⟨⟨i, (i + j) / 2, rfl, by omega, by omega, g3, fun m x h hmx hlt => ?_⟩, by simp only; omega⟩
    rcases Nat.lt_or_ge ((i + j) / 2) m with q | q
    ·have h1 := (List.pairwise_iff_getElem.1 hs) ((i + j) / 2) m hm (List.getElem?_eq_some_iff.1 hmx).1 q
     rw [(List.getElem?_eq_some_iff.1 hmx).2] at h1
     exact hc2 (Zg h1 hlt)
    ·rw [show m = (i + j) / 2 by omega, hx] at hmx
     cases hmx
     exact hc2 hlt
  ·have hij : i = j := by
    have : ¬ i < j := by simpa using hc
    omega
   subst hij
   rw [zL]
   exact ⟨i, rfl, g2, g3, g4⟩
 ·rintro _ ⟨i, rfl, h1, h2, h3⟩
  have J2 : (∀ x, l[i]? = some x → x ≠ w) → Ret (qK l w (i : Int)) fun r => r = KK w l := by
   intro hne
   have h4 : ∀ m x, i ≤ m → l[m]? = some x → ZL w x < 0 := by
    intro m x hm hx
    have hil : i < l.length := by have := (List.getElem?_eq_some_iff.1 hx).1; omega
    have hxi : l[i]? = some l[i] := List.getElem?_eq_getElem hil
    have hlt : ZL w l[i] < 0 := by
     rcases z69.1 (h3 i _ (Nat.le_refl _) hxi) with q | q
     ·exact q
     ·exact absurd q (hne _ hxi)
    rcases Nat.lt_or_ge i m with q | q
    ·have h5 := (List.pairwise_iff_getElem.1 hs) i m hil (List.getElem?_eq_some_iff.1 hx).1 q
     rw [(List.getElem?_eq_some_iff.1 hx).2] at h5
     exact Zg hlt h5
    ·rw [show m = i by omega, hxi] at hx
     cases hx
     exact hlt
   unfold qK
   rw [gdT (by simp; omega), uj]
   have hlen : w64 ((((l ++ ([[]] : List (List Int))).length : Nat) : Int) - 1) = ((l.length : Nat) : Int) := by
    rw [List.length_append, List.length_singleton, vH (by omega) (by omega)]; omega
   rw [hlen]
   refine Ret.mono (ui (fun q : List (List Int) × Int => ∃ (j : Nat) (x : List Int), q = (l.take j ++ x :: l.drop j, (j : Int)) ∧ i ≤ j ∧ j ≤ l.length) (fun q => q.2.toNat) (R := fun t => ∃ x : List Int, t = l.take i ++ x :: l.drop i) ⟨l.length, [], by simp, h1, Nat.le_refl _⟩ (by simp only [Int.toNat_natCast]; omega) ?_) ?_
   ·rintro _ ⟨j, x, rfl, g1, g2⟩
    show Ret (jT (i : Int) (l.take j ++ x :: l.drop j) (j : Int)) _
    unfold jT
    rw [yV]
    refine ⟨fun hc => ?_, fun hc => ?_⟩
    ·have hij : i < j := by simpa using hc
     have hA : (l.take j).length = j := by rw [List.length_take]; omega
     have hy : (l.take j ++ x :: l.drop j)[j - 1]? = some l[j - 1] := by
      rw [List.getElem?_append_left (by omega), List.getElem?_take, if_pos (by omega)]; exact List.getElem?_eq_getElem (by omega)
     have hz : (l.take j ++ x :: l.drop j)[j]? = some x := by
      rw [List.getElem?_append_right (by omega), hA]; simp
     rw [vH (by omega) (by omega), show (j : Int) - 1 = ((j - 1 : Nat) : Int) by omega, xa hy, xa hz]
     simp only [oB, zL, Int.toNat_natCast]
     refine ⟨⟨j - 1, l[j - 1], ?_, by omega, by omega⟩, by simp only [Int.toNat_natCast]; omega⟩
     rw [List.set_append_right _ _ (by omega), hA, Nat.sub_self, List.set_cons_zero]
     have e1 : l.take j = l.take (j - 1) ++ [l[j - 1]] := by
      have := List.take_add_one (l := l) (i := j - 1)
      rw [show j - 1 + 1 = j by omega, List.getElem?_eq_getElem (by omega)] at this
      exact this
     have e2 : l.drop (j - 1) = l[j - 1] :: l.drop j := by
      rw [List.drop_eq_getElem_cons (by omega), show j - 1 + 1 = j by omega]
     rw [e2, e1, List.append_assoc]
     rfl
    ·have hij : j = i := by
      have : ¬ i < j := by simpa using hc
      omega
     subst hij
     rw [zL]
     exact ⟨x, rfl⟩
   ·rintro _ ⟨x, rfl⟩
    unfold ZZ
    have hA : (l.take i).length = i := by rw [List.length_take]; omega
    have hz : (l.take i ++ x :: l.drop i)[i]? = some x := by
     rw [List.getElem?_append_right (by omega), hA]; simp
    rw [gdT (by simpa using hww), xa hz]
    simp only [oB, zL, Int.toNat_natCast]
    rw [List.set_append_right _ _ (by omega), hA, Nat.sub_self, List.set_cons_zero]
    exact z5c hs h1 h2 h4
  unfold Y0
  rw [yV]
  refine ⟨fun hc => ?_, fun hc => ?_⟩
  ·have hi : i < l.length := by simpa using hc
   have hx : l[i]? = some l[i] := List.getElem?_eq_getElem hi
   rw [xa hx]
   simp only [oB]
   rw [z29 _ _ (fun _ => hw _ (List.getElem_mem hi))]
   simp only [oB]
   by_cases he : l[i] = w
   ·have hb : (ZL l[i] w == 0) = true := by rw [he, JX]; rfl
    rw [hb, cond_true, zL]
    refine SW.unique hs hs.put fun x => ?_
    rw [Vx]
    refine ⟨fun q => .inr q, fun q => ?_⟩
    rcases q with rfl | q
    ·exact he ▸ List.getElem_mem hi
    ·exact q
   ·have hb : (ZL l[i] w == 0) = false := by simp; exact fun q => he (z2S q)
    rw [hb, cond_false]
    exact J2 fun x hx2 => by rw [hx] at hx2; cases hx2; exact he
  ·have hi : ¬ i < l.length := by simpa using hc
   exact J2 fun x hx2 => by have := (List.getElem?_eq_some_iff.1 hx2).1; omega
theorem z7w (hl : l.length ≤ 1000000) (hw : ∀ x ∈ l, x.length ≤ 4294967296) : Ys l = some (srt l) := by
 unfold Ys
 have h := QF (step := fun s => v7 l s.1 s.2) (fun i => (srt (l.take i), (i : Int))) l.length (t := srt l) (by omega) (by
  intro i hi
  show v7 l _ (i : Int) = _
  unfold v7
  have hq : decide ((i : Int) < (l.length : Int)) = true := by simpa using hi
  have hx : l[i]? = some l[i] := List.getElem?_eq_getElem hi
  simp only [hq, cond_true, xa hx, oB]
  have hlen : (srt (l.take i)).length ≤ 1000000 := by have := z4O (l.take i); rw [List.length_take] at this; omega
  rw [zck (z8D _) hlen (fun x hx => by have := hw x (List.mem_of_mem_take (z2D.1 hx)); omega) (hw _ (List.getElem_mem hi))]
  simp only [oB]
  rw [vH (by omega) (by omega), ← z7c, List.take_add_one, hx]
  rfl) (by
  show v7 l _ (l.length : Int) = _
  unfold v7
  simp)
 have h0 : (srt (l.take 0), ((0 : Nat) : Int)) = (([] : List (List Int)), (0 : Int)) := by simp [srt]
 rw [h0] at h
 rw [bdT h]
 rfl
variable {σ : Type}
theorem XY (f : Nat → σ → σ) (s : σ) (n : Nat) : (List.range (n + 1)).foldl (fun s i => f i s) s = f n ((List.range n).foldl (fun s i => f i s) s) := by
 rw [List.range_succ, List.foldl_append]; rfl
theorem WG {f : Nat → σ → σ} {I : Nat → σ → Prop} {s : σ} (h0 : I 0 s) : ∀ (n : Nat), (∀ i s, i < n → I i s → I (i + 1) (f i s)) → I n ((List.range n).foldl (fun s i => f i s) s)
 | 0, _ => h0
 | n + 1, h => by
  rw [XY]
  exact h n _ (Nat.lt_succ_self n) (WG h0 n fun i s hi => h i s (by omega))
theorem Ju {σ α : Type} (g : α → σ → σ) (d : α) (l : List α) (s : σ) : (List.range l.length).foldl (fun s i => g ((l[i]?).getD d) s) s = l.foldl (fun s x => g x s) s := by
 have e : l = (List.range l.length).map fun i => (l[i]?).getD d := by
  apply List.ext_getElem (by simp)
  intro i h1 h2
  simp [List.getElem?_eq_getElem h1]
 have q : ((List.range l.length).map fun i => (l[i]?).getD d).foldl (fun s x => g x s) s = (List.range l.length).foldl (fun s i => g ((l[i]?).getD d) s) s := by rw [List.foldl_map]
 rw [← q, ← e]
theorem z1I {σ S τ : Type} {step : S → Option (LR S τ)} (st : σ → Nat → S) (f : Nat → σ → σ) (I : Nat → σ → Prop) (n : Nat) (hn : n < 9223372036854775808) {s0 : σ} {t : τ} (h0 : I 0 s0)
  (h : ∀ i s, i < n → I i s → step (st s i) = some (.next (st (f i s) (i + 1))) ∧ I (i + 1) (f i s))
  (hd : I n ((List.range n).foldl (fun s i => f i s) s0) → step (st ((List.range n).foldl (fun s i => f i s) s0) n) = some (.done t)) : loop step (st s0 0) = some t := by
 have inv : ∀ m, m ≤ n → I m ((List.range m).foldl (fun s i => f i s) s0) := fun m hm => WG h0 m fun i s hi hI => (h i s (by omega) hI).2
 refine QF (fun m => st ((List.range m).foldl (fun s i => f i s) s0) m) n hn (fun i hi => ?_) (hd (inv n (Nat.le_refl _)))
 show step (st ((List.range i).foldl (fun s i => f i s) s0) i) = _
 rw [(h i _ hi (inv i (by omega))).1, XY]
theorem x3 (h : i < 9223372036854775807) : w64 ((i : Int) + 1) = ((i + 1 : Nat) : Int) := by rw [vH (by omega) (by omega)]; rfl
theorem z6B (k : Nat) : ∀ n, GG k (n + 1) = k * GG k n + 1
 | 0 => by simp [GG]
 | n + 1 => by
  have ih := z6B k n
  show GG k (n + 1) + k ^ (n + 1) = k * (GG k n + k ^ n) + 1
  rw [ih, Nat.mul_add, Nat.pow_succ, Nat.mul_comm (k ^ n) k]
  omega
theorem zah (k : Nat) : ∀ u : List Nat, rv k u = rk k u.reverse
 | [] => by simp [rv, rk, GG, Vg]
 | i :: u => by
  have ih := zah k u
  unfold rk at ih ⊢
  rw [List.reverse_reverse, List.length_reverse] at ih ⊢
  simp only [rv, List.length_cons, Vg, ih, z6B, Nat.add_mul]
  rw [Nat.mul_comm (GG k u.length) k, Nat.mul_comm (Vg k u) k]
  omega
def nx1 (m : z6) (s i : Nat) : Option Nat := if 0 ≤ (E m s i).To then some (E m s i).To.toNat else none
abbrev nob : Nat → Nat → Bool := fun _ _ => false
theorem z3p : ∀ (N : Nat) (l : List Nat), l.Nodup → (∀ t ∈ l, t < N) → l.length ≤ N
 | 0, l, _, h => by
  cases l with
  | nil => exact Nat.le_refl _
  | cons x l => have := h x (by simp); omega
 | N + 1, l, hn, h => by
  have ih := z3p N (l.erase N) (hn.erase N) fun t ht => by
   have h1 := h t (List.mem_of_mem_erase ht)
   have h2 : t ≠ N := fun e => by subst e; exact absurd ht (hn.not_mem_erase)
   omega
  by_cases hm : N ∈ l
  ·rw [List.length_erase_of_mem hm] at ih; omega
  ·rw [List.erase_of_not_mem hm] at ih; omega
variable {L : List (Nat × List Nat)}{c : Nat × List Nat}
section
variable {m : z6} (h : VM m)
include h
theorem Wk : ∀ (u : List Nat) (q : Nat), z6A (kk m) nob (nx1 m) 0 u q → Wd (kk m) u.reverse ∧ aft m 0 u.reverse = (q : Int) ∧ q < m.Rows.length
 | [], q, e => by
  have e : q = 0 := e
  subst e
  exact ⟨by simp [Wd], rfl, h.len1⟩
 | i :: u, q, ⟨p, hp, hi, _, hn⟩ => by
  obtain ⟨g1, g2, g3⟩ := Wk u p hp
  unfold nx1 at hn
  split at hn
  ·rename_i h0
   cases hn
   have q2 := (Qz m u.reverse 0 i).2
   rw [g2, z0A] at q2
   rw [List.reverse_cons]
   refine ⟨fun j hj => ?_, by rw [q2]; omega, ?_⟩
   ·rcases List.mem_append.1 hj with g | g
    ·exact g1 j g
    ·rw [List.mem_singleton.1 g]; exact hi
   ·rcases h.edgeAt g3 hi with ⟨g, _⟩ | ⟨_, g, _⟩ <;> omega
  ·cases hn
theorem z0Y : ∀ (u : List Nat) (q : Nat), Wd (kk m) u.reverse → aft m 0 u.reverse = (q : Int) → z6A (kk m) nob (nx1 m) 0 u q
 | [], q, _, e => by have : (0 : Int) = q := e; show q = 0; omega
 | i :: u, q, hu, e => by
  rw [List.reverse_cons] at hu e
  have hu' : Wd (kk m) u.reverse := fun j hj => hu j (by simp [List.mem_reverse.1 hj])
  have hi : i < kk m := hu i (by simp)
  have q2 := (Qz m u.reverse 0 i).2
  rw [e] at q2
  have hin := z2g h u.reverse 0 ⟨by omega, by have := h.len1; omega⟩ hu'
  by_cases hneg : aft m 0 u.reverse < 0
  ·exfalso
   unfold nxE at q2
   rw [if_pos hneg] at q2
   simp at q2
  ·obtain ⟨s, hs⟩ : ∃ s : Nat, aft m 0 u.reverse = s := ⟨(aft m 0 u.reverse).toNat, by omega⟩
   rw [hs, z0A] at q2
   refine ⟨s, z0Y u s hu' hs, hi, rfl, ?_⟩
   unfold nx1
   rw [if_pos (by omega), ← q2]
   simp
def zeo (L : List (Nat × List Nat)) (a : Nat) (x : zj) (c : Nat × List Nat) : Prop :=
 x.state_ = (c.1 : Int) ∧ ((c.2 = [] ∧ x.from_ = -1) ∨ ∃ (i : Nat) (u : List Nat) (p j : Nat), c.2 = i :: u ∧ x.input_ = (i : Int) ∧ x.from_ = (p : Int) ∧ j < a ∧ L[j]? = some (p, u))
structure Que (m : z6) (L : List (Nat × List Nat)) (a : Nat) (seen : List Bool) (Q : List zj) : Prop where
 len : seen.length = m.Rows.length
 seen : ∀ t : Nat, seen[t]? = some true ↔ ∃ u, (t, u) ∈ L
 nodup : (L.map (·.1)).Nodup
 qlen : Q.length + a = L.length
 arr : ∀ (j : Nat) (x : zj), Q[j]? = some x → ∃ c, L[a + j]? = some c ∧ zeo L (a + j) x c
theorem z2x {a : Nat}  (hb : Bfs (kk m) nob (nx1 m) 0 L a i) (hn : (L.map (·.1)).Nodup) : L.length ≤ m.Rows.length := by
 have := z3p m.Rows.length (L.map (·.1)) hn fun t ht => by
  obtain ⟨c, hc, rfl⟩ := List.mem_map.1 ht
  exact (Wk h c.2 c.1 (hb.path c hc)).2.2
 simpa using this
theorem zai {a : Nat}  {seen : List Bool} {Q : List zj} {σ : Type} (yr : σ × Bool) (x : zj) (hc : L[a]? = some c) (hx : x.state_ = (c.1 : Int))
  (hb : Bfs (kk m) nob (nx1 m) 0 L a 0) (hq : Que m L (a + 1) seen Q) {r : List ze} (hr : r.length = kk m) (hre : ∀ i, i < kk m → r[i]? = some (E m c.1 i)) :
  Ret (loop (fun s => xC x yr r s.1 s.2.1 s.2.2) (seen, Q, 0)) fun t => t.1 = yr.1 ∧ ∃ L', L.length ≤ L'.length ∧ L'.take L.length = L ∧ Bfs (kk m) nob (nx1 m) 0 L' a (kk m) ∧ Que m L' (a + 1) t.2.1 t.2.2 := by
 have hk := h.kk_le
 have hal := (List.getElem?_eq_some_iff.1 hc).1
 have hcN := (Wk h c.2 c.1 (hb.path c (List.mem_of_getElem? hc))).2.2
 refine ui (fun s => ∃ (i : Nat) (L' : List (Nat × List Nat)), s.2.2 = (i : Int) ∧ i ≤ kk m ∧ L.length ≤ L'.length ∧ L'.take L.length = L ∧ Bfs (kk m) nob (nx1 m) 0 L' a i ∧ Que m L' (a + 1) s.1 s.2.1) (fun s => 100 - s.2.2.toNat) ⟨0, L, rfl, Nat.zero_le _, Nat.le_refl _, List.take_length, hb, hq⟩ (by show 100 - _ < _; omega) ?_
 rintro ⟨seen', Q', _⟩ ⟨i, L', rfl, hi, hll, htk, hb', hq'⟩
 simp only at hq'
 show Ret (xC x yr r seen' Q' (i : Int)) _
 unfold xC
 rw [yV]
 refine ⟨fun h1 => ?_, fun h1 => ?_⟩
 ·have hlt : i < kk m := by simp at h1; omega
  have hc' : L'[a]? = some c := by
   have : (L'.take L.length)[a]? = some c := by rw [htk]; exact hc
   rwa [List.getElem?_take, if_pos hal] at this
  rw [xa (hre i hlt), oB]
  have old : (∀ q, nx1 m c.1 i = some q → ∃ b ∈ L', b.1 = q) → Ret (yp (σ := σ) (i : Int) seen' Q') (LRP (fun s' => (∃ (i : Nat) (L' : List (Nat × List Nat)), s'.2.2 = (i : Int) ∧ i ≤ kk m ∧ L.length ≤ L'.length ∧ L'.take L.length = L ∧ Bfs (kk m) nob (nx1 m) 0 L' a i ∧ Que m L' (a + 1) s'.1 s'.2.1) ∧ 100 - s'.2.2.toNat < 100 - ((i : Int)).toNat) (fun t => t.1 = yr.1 ∧ ∃ L', L.length ≤ L'.length ∧ L'.take L.length = L ∧ Bfs (kk m) nob (nx1 m) 0 L' a (kk m) ∧ Que m L' (a + 1) t.2.1 t.2.2)) := by
   intro hn
   unfold yp
   rw [zL, x3 (by omega)]
   exact ⟨⟨i + 1, L', rfl, hlt, hll, htk, hb'.old hc' hlt rfl hn, hq'⟩, by simp only; omega⟩
  rcases h.edgeAt hcN hlt with ⟨g1, _⟩ | ⟨g1, g2, _⟩
  ·have : ((E m c.1 i).To != -1) = false := by rw [g1]; rfl
   rw [this, cond_false]
   exact old fun q hq => by unfold nx1 at hq; rw [if_neg (by omega)] at hq; cases hq
  ·have e1 : ((E m c.1 i).To != -1) = true := by simp; omega
   obtain ⟨q, hq0⟩ : ∃ q : Nat, (E m c.1 i).To = q := ⟨(E m c.1 i).To.toNat, by omega⟩
   have hqN : q < m.Rows.length := by omega
   have hnx : nx1 m c.1 i = some q := by unfold nx1; rw [if_pos g1, hq0]; simp
   have hsq : seen'[q]? = some seen'[q]! := by
    have : q < seen'.length := by rw [hq'.len]; exact hqN
    rw [List.getElem?_eq_getElem this]; simp [this]
   rw [e1, cond_true, hq0, xa hsq, oB]
   by_cases hs : seen'[q]! = true
   ·rw [hs]
    simp only [Bool.not_true, cond_false]
    refine old fun q' hq2 => ?_
    rw [hnx] at hq2
    cases hq2
    rw [hs] at hsq
    obtain ⟨u, hu⟩ := (hq'.seen q).1 hsq
    exact ⟨_, hu, rfl⟩
   ·have hs : seen'[q]! = false := by simpa using hs
    have hnot : ∀ u, (q, u) ∉ L' := fun u hu => by
     have := (hq'.seen q).2 ⟨u, hu⟩
     rw [hsq, hs] at this
     cases this
    have hL' := z2x h hb' hq'.nodup
    have hN := h.len64
    have hql := hq'.qlen
    rw [hs]
    simp only [Bool.not_false, cond_true]
    rw [oB, gdT (by simp; omega)]
    unfold yp
    rw [zL, x3 (by omega)]
    refine ⟨⟨i + 1, L' ++ [(q, i :: c.2)], rfl, hlt, by simp; omega, by rw [List.take_append_of_le_length hll, htk], hb'.new hc' hlt rfl hnx, ?_⟩, by simp only; omega⟩
    refine ⟨by simp [hq'.len], fun t => ?_, ?_, by simp; omega, fun j y hy => ?_⟩
    ·simp only [Int.toNat_natCast]
     rw [z8A (by rw [hq'.len]; exact hqN), hq'.seen]
     constructor
     ·rintro (rfl | ⟨u, hu⟩)
      ·exact ⟨_, List.mem_append_right _ (List.mem_singleton.2 rfl)⟩
      ·exact ⟨u, List.mem_append_left _ hu⟩
     ·rintro ⟨u, hu⟩
      rcases List.mem_append.1 hu with g | g
      ·exact .inr ⟨u, g⟩
      ·have := List.mem_singleton.1 g
       cases this
       exact .inl rfl
    ·rw [List.map_append, List.nodup_append]
     refine ⟨hq'.nodup, by simp, fun t ht s hs' e => ?_⟩
     obtain ⟨b, hb1, rfl⟩ := List.mem_map.1 ht
     have hs2 : s = q := by simpa using hs'
     exact hnot b.2 (by rw [← hs2, ← e]; exact hb1)
    ·rcases Nat.lt_or_ge j Q'.length with g | g
     ·rw [List.getElem?_append_left g] at hy
      obtain ⟨d, d1, d2, d3⟩ := hq'.arr j y hy
      have dl := (List.getElem?_eq_some_iff.1 d1).1
      refine ⟨d, by rw [List.getElem?_append_left dl]; exact d1, d2, ?_⟩
      rcases d3 with d3 | ⟨i', u', p, j', e1, e2, e3, e4, e5⟩
      ·exact .inl d3
      ·exact .inr ⟨i', u', p, j', e1, e2, e3, e4, by rw [List.getElem?_append_left (List.getElem?_eq_some_iff.1 e5).1]; exact e5⟩
     ·have hjl := (List.getElem?_eq_some_iff.1 hy).1
      simp at hjl
      have hj : j = Q'.length := by omega
      subst hj
      simp at hy
      subst hy
      refine ⟨(q, i :: c.2), by rw [List.getElem?_append_right (by omega), show a + 1 + Q'.length - L'.length = 0 by omega]; rfl, rfl, .inr ⟨i, c.2, c.1, a, rfl, rfl, hx, by omega, ?_⟩⟩
      rw [List.getElem?_append_left (by omega), hc']
 ·have : i = kk m := by simp at h1; omega
  subst this
  rw [zL]
  exact ⟨rfl, L', hll, htk, hb', hq'⟩
structure zdo (m : z6) (L : List (Nat × List Nat)) (a : Nat) (l : List (List Int)) (is : List Bool) : Prop where
 l1 : l.length = m.Rows.length
 l2 : is.length = m.Rows.length
 got : ∀ (j : Nat) (c : Nat × List Nat), j < a → L[j]? = some c → is[c.1]? = some true ∧ l[c.1]? = some (c.2.reverse.map Int.ofNat)
 rest : ∀ t : Nat, t < m.Rows.length → (∀ (j : Nat) (c : Nat × List Nat), j < a → L[j]? = some c → c.1 ≠ t) → is[t]? = some false ∧ l[t]? = some []
omit h in
theorem zcU (w : List Int) (hw : w.length ≤ 4294967296) : zT w = some w := z0K w hw
theorem z7y {a : Nat}  {is : List Bool} (hp : zdo m L a l is)  (hc : L[a]? = some c) {x : zj} (hx : zeo L a x c) (hn : (L.map (·.1)).Nodup) (hb : Bfs (kk m) nob (nx1 m) 0 L a 0) :
  ∃ l' is', xI l is x = some (.next (l', is')) ∧ zdo m L (a + 1) l' is' := by
 have hal := (List.getElem?_eq_some_iff.1 hc).1
 have hcN := (Wk h c.2 c.1 (hb.path c (List.mem_of_getElem? hc))).2.2
 obtain ⟨q1, q2⟩ := hx
 have hne : ∀ (j : Nat) (d : Nat × List Nat), j < a → L[j]? = some d → d.1 ≠ c.1 := fun j d hj hd e => by
  have h1 : (L.map (·.1))[j]? = some d.1 := by rw [List.getElem?_map, hd]; rfl
  have h2 : (L.map (·.1))[a]? = some c.1 := by rw [List.getElem?_map, hc]; rfl
  rw [← e] at h2
  have := ((List.getElem?_inj (List.getElem?_eq_some_iff.1 h1).1 hn).1 (h1.trans h2.symm))
  omega
 obtain ⟨r1, r2⟩ := hp.rest c.1 hcN hne
 have main : ∀ w : List Int, w = c.2.reverse.map Int.ofNat → zdo m L (a + 1) (l.set c.1 w) (is.set c.1 true) := by
  intro w hw
  refine ⟨by simp [hp.l1], by simp [hp.l2], fun j d hj hd => ?_, fun t ht hall => ?_⟩
  ·by_cases e : j = a
   ·subst e
    rw [hc] at hd
    cases hd
    rw [List.getElem?_set_self (by rw [hp.l2]; exact hcN), List.getElem?_set_self (by rw [hp.l1]; exact hcN), hw]
    exact ⟨rfl, rfl⟩
   ·have hne' := hne j d (by omega) hd
    rw [List.getElem?_set_ne (Ne.symm hne'), List.getElem?_set_ne (Ne.symm hne')]
    exact hp.got j d (by omega) hd
  ·have hne' : c.1 ≠ t := hall a c (by omega) hc
   rw [List.getElem?_set_ne hne', List.getElem?_set_ne hne']
   exact hp.rest t ht fun j d hj hd => hall j d (by omega) hd
 unfold xI
 rw [q1, xa r1, oB]
 simp only [Int.toNat_natCast]
 rcases q2 with ⟨q2, q3⟩ | ⟨i, u, p, j, q2, q3, q4, q5, q6⟩
 ·have : (x.from_ != -1) = false := by rw [q3]; rfl
  rw [this, cond_false]
  refine ⟨l, is.set c.1 true, rfl, ?_⟩
  have := main [] (by rw [q2]; rfl)
  have e : l.set c.1 [] = l := by
   apply List.ext_getElem?
   intro t
   by_cases e : t = c.1
   ·subst e; rw [List.getElem?_set_self (by rw [hp.l1]; exact hcN), r2]
   ·rw [List.getElem?_set_ne (Ne.symm e)]
  rwa [e] at this
 ·have : (x.from_ != -1) = true := by rw [q4]; simp <;> omega
  obtain ⟨g1, g2⟩ := hp.got j (p, u) q5 q6
  have hul : u.length ≤ j := hb.short j (p, u) q6
  have hjL := (List.getElem?_eq_some_iff.1 q6).1
  have hLN := z2x h hb hn
  have hN := h.len64
  rw [this, cond_true, q4, xa g2, oB, zcU _ (by simp; omega), oB, gdT (by simp; omega), z2T, oB, xa r2, oB]
  refine ⟨_, _, rfl, main _ ?_⟩
  rw [q2, q3]
  simp
theorem z08 : Ret (Zi m 0) (z4q m) := by
 have l1 := h.len1
 have hN := h.len64
 have e0 : ((m.Rows.length : Nat) : Int).toNat = m.Rows.length := by simp
 unfold Zi jH
 rw [gdT (by omega), gdT (by omega), oB, e0, uj]
 refine Ret.mono (Q := fun t => ∃ l is, t = .next (l, is) ∧ z4q m (l, is)) ?_ ?_
 ·dsimp only
  unfold vW
  have hrep : (List.replicate m.Rows.length false)[(0 : Nat)]? = some false := by rw [List.getElem?_replicate, if_pos (by omega)]
  rw [gdT (by omega), e0, uj, show idx (List.replicate m.Rows.length false) 0 = some false from hrep, zL, uj]
  refine Ret.mono (Q := fun t => ∃ l is, t = .next (l, is) ∧ z4q m (l, is)) ?_ fun t ht => zL.2 ht
  have hst0 : Que m [(0, [])] 0 ((List.replicate m.Rows.length false).set (0 : Int).toNat true) [zj.mk 0 (-1) (-1)] := by
   refine ⟨by simp, fun t => ?_, by simp, by simp, fun j x hx => ?_⟩
   ·show ((List.replicate m.Rows.length false).set 0 true)[t]? = some true ↔ _
    rw [z8A (by simp; omega)]
    constructor
    ·rintro (rfl | q)
     ·exact ⟨[], by simp⟩
     ·rw [List.getElem?_replicate] at q; split at q <;> cases q
    ·rintro ⟨u, hu⟩
     simp at hu
     exact .inl hu.1
   ·have hj := (List.getElem?_eq_some_iff.1 hx).1
    simp at hj
    subst hj
    simp at hx
    subst hx
    exact ⟨(0, []), rfl, rfl, .inl ⟨rfl, rfl⟩⟩
  have hp0 : zdo m [(0, [])] 0 (List.replicate m.Rows.length ([] : List Int)) (List.replicate m.Rows.length false) := by
   refine ⟨by simp, by simp, fun j c hj => by omega, fun t ht _ => ?_⟩
   rw [List.getElem?_replicate, List.getElem?_replicate, if_pos ht, if_pos ht]
   exact ⟨rfl, rfl⟩
  refine ui (fun s => ∃ (a : Nat) (L : List (Nat × List Nat)) (l : List (List Int)) (is : List Bool), s.1 = .next (l, is) ∧ a ≤ L.length ∧ Bfs (kk m) nob (nx1 m) 0 L a 0 ∧ Que m L a s.2.1 s.2.2 ∧ zdo m L a l is) (fun s => match s.1 with | .next (l, is) => 200 - (is.countP id) | .done _ => 0) ⟨0, _, _, _, rfl, by simp, Bfs.start, hst0, hp0⟩ (by show 200 - _ < _; omega) ?_
  rintro ⟨sg, seen, Q⟩ ⟨a, L, l, is, hsg, haL, hb, hq, hp⟩
  simp only at hsg hq
  subst hsg
  have hLN := z2x h hb hq.nodup
  have hql := hq.qlen
  show Ret (wu m (yOf (fun s x => xI s.1 s.2 x)) (.next (l, is)) seen Q) _
  unfold wu
  rw [yV]
  refine ⟨fun h1 => ?_, fun h1 => ?_⟩
  ·have hQ : 0 < Q.length := by simp at h1; omega
   have hx0 : Q[0]? = some Q[0] := List.getElem?_eq_getElem hQ
   obtain ⟨c, c1, c2⟩ := hq.arr 0 _ hx0
   rw [Nat.add_zero] at c1 c2
   have hal := (List.getElem?_eq_some_iff.1 c1).1
   have hcN := (Wk h c.2 c.1 (hb.path c (List.mem_of_getElem? c1))).2.2
   obtain ⟨l', is', y1, y2⟩ := z7y h hp c1 c2 hq.nodup hb
   have yv : yOf (fun (s : List (List Int) × List Bool) x => xI s.1 s.2 x) (.next (l, is)) Q[0] = some (.next (l', is'), true) := by
    unfold yOf
    simp only
    rw [y1]
   obtain ⟨r, hr, hrl, hre⟩ := h.rowAt hcN
   have hs0 := c2.1
   rw [show idx Q 0 = some Q[0] from hx0, oB, gdT (by omega), yv, oB]
   simp only [Bool.not_true, cond_false]
   rw [hs0, xa hr, oB, uj]
   have hq' : Que m L (a + 1) seen (Q.drop 1) := by
    refine ⟨hq.len, hq.seen, hq.nodup, by rw [List.length_drop]; omega, fun j x hx => ?_⟩
    rw [List.getElem?_drop] at hx
    have := hq.arr (1 + j) x hx
    rwa [show a + (1 + j) = a + 1 + j by omega] at this
   refine (zai h (σ := LR (List (List Int) × List Bool) Empty) (LR.next (l', is'), true) Q[0] c1 hs0 hb hq' hrl hre).mono ?_
   rintro ⟨sg', seen', Q'⟩ ⟨e1, L', g1, g2, g3, g4⟩
   simp only at e1 g4
   rw [zL]
   have same : ∀ j, j < L.length → L'[j]? = L[j]? := fun j hj => by
    have : (L'.take L.length)[j]? = L[j]? := by rw [g2]
    rwa [List.getElem?_take, if_pos hj] at this
   have hal' : a < L'.length := by omega
   refine ⟨⟨a + 1, L', l', is', e1, hal', g3.step hal', g4, ?_⟩, ?_⟩
   ·refine ⟨y2.l1, y2.l2, fun j d hj hd => y2.got j d hj (by rw [← same j (by omega)]; exact hd), fun t ht hall => y2.rest t ht fun j d hj hd => hall j d hj (by rw [same j (by omega)]; exact hd)⟩
   ·subst e1
    have hfalse : is[c.1]? = some false := (hp.rest c.1 hcN fun j d hj hd e => by
     have h1 : (L.map (·.1))[j]? = some d.1 := by rw [List.getElem?_map, hd]; rfl
     have h2 : (L.map (·.1))[a]? = some c.1 := by rw [List.getElem?_map, c1]; rfl
     rw [← e] at h2
     have := ((List.getElem?_inj (List.getElem?_eq_some_iff.1 h1).1 hq.nodup).1 (h1.trans h2.symm))
     omega).1
    have hset : is' = is.set c.1 true := by
     unfold xI at y1
     rw [hs0, xa hfalse, oB] at y1
     simp only [Int.toNat_natCast] at y1
     rcases y4 y1 with ⟨_, y1⟩ | ⟨_, y1⟩
     ·obtain ⟨_, _, y1⟩ := zk y1
      obtain ⟨_, _, y1⟩ := zk y1
      obtain ⟨_, y1⟩ := gdE y1
      obtain ⟨_, _, y1⟩ := zk y1
      obtain ⟨_, _, y1⟩ := zk y1
      cases y1; rfl
     ·cases y1; rfl
    subst hset
    have hcl : c.1 < is.length := by rw [hp.l2]; exact hcN
    have cnt : (is.set c.1 true).countP id = is.countP id + 1 := by
     rw [List.countP_set hcl]
     have : is[c.1] = false := by rw [List.getElem?_eq_getElem hcl] at hfalse; exact Option.some.inj hfalse
     simp [this]
    have cle : (is.set c.1 true).countP id ≤ (is.set c.1 true).length := List.countP_le_length
    rw [List.length_set, hp.l2] at cle
    show 200 - (is.set c.1 true).countP id < 200 - is.countP id
    omega
  ·have hQ : Q.length = 0 := by simp at h1; simp [h1]
   have ha : a = L.length := by omega
   rw [zL]
   refine ⟨l, is, rfl, hp.l1, hp.l2, fun t ht => ?_⟩
   have atEnd : ∀ c, L[a]? = some c → False := fun c hc => by have := (List.getElem?_eq_some_iff.1 hc).1; omega
   by_cases hex : ∃ u, (t, u) ∈ L
   ·obtain ⟨u, hu⟩ := hex
    obtain ⟨j, hj⟩ := List.getElem?_of_mem hu
    have hjl := (List.getElem?_eq_some_iff.1 hj).1
    obtain ⟨g1, g2⟩ := hp.got j (t, u) (by omega) hj
    obtain ⟨p1, p2, p3⟩ := Wk h u t (hb.path _ hu)
    refine .inl ⟨g1, u.reverse, g2, p1, ?_, p2, fun v hv e => ?_⟩
    ·rw [List.length_reverse]
     have : u.length ≤ j := hb.short j (t, u) hj
     omega
    ·obtain ⟨j2, b, b1, b2, b3⟩ := hb.reach v.reverse t (z0Y h v.reverse t (by rw [List.reverse_reverse]; exact hv) (by rw [List.reverse_reverse]; exact e)) fun c hc => (atEnd c hc).elim
     have hb2 : b.2 = u := by
      have h1 : (L.map (·.1))[j]? = some t := by rw [List.getElem?_map, hj]; rfl
      have h2 : (L.map (·.1))[j2]? = some t := by rw [List.getElem?_map, b1]; exact congrArg some b2
      have := ((List.getElem?_inj (List.getElem?_eq_some_iff.1 h1).1 hq.nodup).1 (h1.trans h2.symm))
      subst this
      rw [hj] at b1
      cases b1; rfl
     rw [hb2, zah, zah, List.reverse_reverse] at b3
     exact b3
   ·refine .inr ⟨(hp.rest t ht fun j c hj hc e => hex ⟨c.2, by rw [← e]; exact List.mem_of_getElem? hc⟩).1, fun v hv e => ?_⟩
    obtain ⟨j2, b, b1, b2, _⟩ := hb.reach v.reverse t (z0Y h v.reverse t (by rw [List.reverse_reverse]; exact hv) (by rw [List.reverse_reverse]; exact e)) fun c hc => (atEnd c hc).elim
    exact hex ⟨b.2, by rw [← b2]; exact List.mem_of_getElem? b1⟩
 ·rintro t ⟨l, is, rfl, ha⟩
  simp only
  unfold jG
  exact zL.2 ha
theorem QO : Ret (jP m) fun r => r.2.2 = 0 ∧ z4q m (r.1, r.2.1) := by
 unfold jP
 rw [z3Q, z97 h, oB, bne_self_eq_false, cond_false, uj]
 exact (z08 h).mono fun r hr => zL.2 ⟨rfl, hr⟩
end
open Classical
section
variable {K : Type} [BEq K] [LawfulBEq K]
def z6G (S : List K) (x : K) : List K := if x ∈ S then S else S ++ [x]
def mks (S : List K) : List (K × Bool) := S.map fun x => (x, true)
theorem QE {S : List K} {x y : K} : y ∈ z6G S x ↔ y ∈ S ∨ y = x := by
 unfold z6G
 split
 ·rename_i h
  exact ⟨.inl, fun q => q.elim id (fun e => e ▸ h)⟩
 ·simp
theorem z5v : ∀ {S : List K} {x : K}, x ∈ S → QC (mks S) x true = mks S
 | [], x, h => by simp at h
 | y :: S, x, h => by
  show (if (y == x) = true then (x, true) :: mks S else (y, true) :: QC (mks S) x true) = (y, true) :: mks S
  by_cases e : (y == x) = true
  ·rw [if_pos e, eq_of_beq e]
  ·rw [if_neg e]
   have : x ∈ S := by
    rcases List.mem_cons.1 h with q | q
    ·subst q; exact (e (beq_self_eq_true x)).elim
    ·exact q
   rw [z5v this]
theorem z3r : ∀ {S : List K} {x : K}, x ∉ S → QC (mks S) x true = mks (S ++ [x])
 | [], x, _ => rfl
 | y :: S, x, h => by
  show (if (y == x) = true then (x, true) :: mks S else (y, true) :: QC (mks S) x true) = (y, true) :: mks (S ++ [x])
  have e : ¬ (y == x) = true := fun e => h (by rw [eq_of_beq e]; simp)
  rw [if_neg e, z3r (fun q => h (by simp [q]))]
theorem z0C (S : List K) (x : K) : QC (mks S) x true = mks (z6G S x) := by
 unfold z6G
 split
 ·rename_i h; exact z5v h
 ·rename_i h; exact z3r h
theorem QD : ∀ (S : List K) (x : K), (z4u (mks S) x).getD false = decide (x ∈ S)
 | [], x => by simp [mks, z4u]
 | y :: S, x => by
  show ((if (y == x) = true then some true else z4u (mks S) x) : Option Bool).getD false = _
  by_cases e : (y == x) = true
  ·rw [if_pos e, eq_of_beq e]; simp
  ·rw [if_neg e, QD S x]
   have : x ≠ y := fun q => e (by rw [q]; exact beq_self_eq_true y)
   simp [this]
end
instance : LawfulBEq z8 := {
 eq_of_beq := by
  rintro ⟨a, b, c⟩ ⟨d, e, f⟩ h
  simp only [BEq.beq, Bool.and_eq_true, decide_eq_true_eq] at h
  simp_all
 rfl := by
  rintro ⟨a, b, c⟩
  simp [BEq.beq] }
instance : LawfulBEq (x5 Int) := {
 eq_of_beq := by
  rintro ⟨a, b⟩ ⟨d, e⟩ h
  simp only [BEq.beq, Bool.and_eq_true, decide_eq_true_eq] at h
  simp_all
 rfl := by
  rintro ⟨a, b⟩
  simp [BEq.beq] }
abbrev Mk3 := List Int × List (x5 Int) × List z8
def mk3 (x : Mk3) : zh := ⟨mks x.1, mks x.2.1, mks x.2.2⟩
def zcG (Z : List z8) (bf : Option (Nat × Nat)) (i : Nat) : List z8 := match bf with | some p => z6G Z ⟨p.1, p.2, i⟩ | none => Z
def Qy (m : z6) : Nat → Option (Nat × Nat) → List Nat → Mk3 → Mk3
 | _, _, [], x => x
 | s, bf, i :: w, x => if (E m s i).To = -1 then x else Qy m (E m s i).To.toNat (some (s, i)) w (z6G x.1 (E m s i).To, z6G x.2.1 ⟨s, i⟩, zcG x.2.2 bf i)
def z4w (m : z6) (s : Nat) : Nat → List Nat → Prop
 | t, [] => s = t
 | t, i :: w => s = t ∨ ((E m t i).To ≠ -1 ∧ z4w m s (E m t i).To.toNat w)
def z84 (m : z6) (s j : Nat) : Nat → List Nat → Prop
 | _, [] => False
 | t, i :: w => (E m t i).To ≠ -1 ∧ ((s = t ∧ j = i) ∨ z84 m s j (E m t i).To.toNat w)
def nxt (m : z6) (k t : Nat) : List Nat → Prop
 | [] => False
 | i :: _ => i = k ∧ (E m t k).To ≠ -1
def z95 (m : z6) (s j k : Nat) : Nat → List Nat → Prop
 | _, [] => False
 | t, i :: w => (E m t i).To ≠ -1 ∧ ((s = t ∧ j = i ∧ nxt m k (E m t i).To.toNat w) ∨ z95 m s j k (E m t i).To.toNat w)
section
variable {m : z6} (h : VM m)
include h
theorem z63 (s : Nat) (w : List Nat) : z4w m s s w := by have _ := h; cases w <;> simp [z4w]
theorem z2l {t i : Nat} (ht : t < m.Rows.length) (hi : i < kk m) (hn : (E m t i).To ≠ -1) : (E m t i).To.toNat < m.Rows.length ∧ (((E m t i).To.toNat : Nat) : Int) = (E m t i).To := by
 rcases h.edgeAt ht hi with q | q
 ·exact (hn q.1).elim
 ·omega
theorem zc8 : ∀ (w : List Nat) (t : Nat) (bf : Option (Nat × Nat)) (x : Mk3) (s : Nat), t < m.Rows.length → Wd (kk m) w → (t : Int) ∈ x.1 → ((s : Int) ∈ (Qy m t bf w x).1 ↔ (s : Int) ∈ x.1 ∨ z4w m s t w)
 | [], t, bf, x, s, _, _, hx => by
  simp only [Qy, z4w]
  exact ⟨.inl, fun q => q.elim id (fun e => e ▸ hx)⟩
 | i :: w, t, bf, x, s, ht, hw, hx => by
  have hi : i < kk m := hw i (by simp)
  simp only [Qy, z4w]
  by_cases hn : (E m t i).To = -1
  ·rw [if_pos hn]
   simp only [hn, ne_eq, not_true_eq_false, false_and, or_false]
   exact ⟨.inl, fun q => q.elim id (fun e => e ▸ hx)⟩
  ·rw [if_neg hn]
   obtain ⟨q1, q2⟩ := z2l h ht hi hn
   rw [zc8 w _ _ _ s q1 (fun j hj => hw j (by simp [hj])) (by show (((E m t i).To.toNat : Nat) : Int) ∈ z6G x.1 _; rw [QE, q2]; exact .inr rfl)]
   show (s : Int) ∈ z6G x.1 _ ∨ _ ↔ _
   rw [QE]
   constructor
   ·rintro ((q | q) | q)
    ·exact .inl q
    ·have : s = (E m t i).To.toNat := by omega
     exact .inr (.inr ⟨hn, this ▸ z63 h _ _⟩)
    ·exact .inr (.inr ⟨hn, q⟩)
   ·rintro (q | q | q)
    ·exact .inl (.inl q)
    ·exact .inl (.inl (q ▸ hx))
    ·exact .inr q.2
theorem zca : ∀ (w : List Nat) (t : Nat) (bf : Option (Nat × Nat)) (x : Mk3) (s j : Nat), t < m.Rows.length → Wd (kk m) w → ((⟨s, j⟩ : x5 Int) ∈ (Qy m t bf w x).2.1 ↔ (⟨s, j⟩ : x5 Int) ∈ x.2.1 ∨ z84 m s j t w)
 | [], t, bf, x, s, j, _, _ => by simp only [Qy, z84, or_false]
 | i :: w, t, bf, x, s, j, ht, hw => by
  have hi : i < kk m := hw i (by simp)
  simp only [Qy, z84]
  by_cases hn : (E m t i).To = -1
  ·rw [if_pos hn]; simp [hn]
  ·rw [if_neg hn]
   obtain ⟨q1, q2⟩ := z2l h ht hi hn
   rw [zca w _ _ _ s j q1 (fun j hj => hw j (by simp [hj]))]
   show (⟨s, j⟩ : x5 Int) ∈ z6G x.2.1 _ ∨ _ ↔ _
   rw [QE, x5.mk.injEq]
   constructor
   ·rintro ((q | q) | q)
    ·exact .inl q
    ·exact .inr ⟨hn, .inl (by omega)⟩
    ·exact .inr ⟨hn, .inr q⟩
   ·rintro (q | ⟨_, q | q⟩)
    ·exact .inl (.inl q)
    ·exact .inl (.inr (by omega))
    ·exact .inr q
theorem zc9 : ∀ (w : List Nat) (t : Nat) (bf : Option (Nat × Nat)) (x : Mk3) (s j k : Nat), t < m.Rows.length → Wd (kk m) w →
  ((⟨s, j, k⟩ : z8) ∈ (Qy m t bf w x).2.2 ↔ (⟨s, j, k⟩ : z8) ∈ x.2.2 ∨ (bf = some (s, j) ∧ nxt m k t w) ∨ z95 m s j k t w)
 | [], t, bf, x, s, j, k, _, _ => by simp only [Qy, z95, nxt, and_false, or_false]
 | i :: w, t, bf, x, s, j, k, ht, hw => by
  have hi : i < kk m := hw i (by simp)
  simp only [Qy, z95, nxt]
  by_cases hn : (E m t i).To = -1
  ·rw [if_pos hn]
   constructor
   ·exact .inl
   ·rintro (q | ⟨_, rfl, q⟩ | ⟨q, _⟩)
    ·exact q
    ·exact (q hn).elim
    ·exact (q hn).elim
  ·rw [if_neg hn]
   obtain ⟨q1, q2⟩ := z2l h ht hi hn
   rw [zc9 w _ _ _ s j k q1 (fun j hj => hw j (by simp [hj]))]
   have hz : ((⟨s, j, k⟩ : z8) ∈ zcG x.2.2 bf i) ↔ ((⟨s, j, k⟩ : z8) ∈ x.2.2 ∨ (bf = some (s, j) ∧ i = k)) := by
    unfold zcG
    cases bf with
    | none => simp
    | some p =>
     obtain ⟨a, b⟩ := p
     simp only [QE, z8.mk.injEq, Option.some.injEq, Prod.mk.injEq]
     constructor
     ·rintro (q | q)
      ·exact .inl q
      ·exact .inr (by omega)
     ·rintro (q | q)
      ·exact .inl q
      ·exact .inr (by omega)
   show (⟨s, j, k⟩ : z8) ∈ zcG x.2.2 bf i ∨ _ ↔ _
   rw [hz]
   simp only [Option.some.injEq, Prod.mk.injEq]
   constructor
   ·rintro ((q | ⟨q, rfl⟩) | ⟨⟨rfl, rfl⟩, q⟩ | q)
    ·exact .inl q
    ·exact .inr (.inl ⟨q, rfl, hn⟩)
    ·exact .inr (.inr ⟨hn, .inl ⟨rfl, rfl, q⟩⟩)
    ·exact .inr (.inr ⟨hn, .inr q⟩)
   ·rintro (q | ⟨q, rfl, _⟩ | ⟨_, ⟨rfl, rfl, q⟩ | q⟩)
    ·exact .inl (.inl q)
    ·exact .inl (.inr ⟨q, rfl⟩)
    ·exact .inr (.inl ⟨⟨rfl, rfl⟩, q⟩)
    ·exact .inr (.inr q)
theorem zc7 (hw : Wd (kk m) w) (hl : w.length < 4611686018427387904) (x : Mk3) : xE m (w.map Int.ofNat) (mk3 x) = some (mk3 (Qy m 0 none w x)) := by
 unfold xE
 have key : loop (fun s => xy m (w.map Int.ofNat) s.1 s.2.1 s.2.2.1 s.2.2.2.1 s.2.2.2.2.1 s.2.2.2.2.2.1 s.2.2.2.2.2.2) ((mk3 x).states_, (mk3 x).edges_, (mk3 x).pairs_, 0, (-1), (-1), 0) = some (mk3 (Qy m 0 none w x)) := by
  refine Ret.eq (ui (fun s => ∃ (u v : List Nat) (t : Nat) (bf : Option (Nat × Nat)) (y : Mk3), w = u ++ v ∧ t < m.Rows.length ∧ Qy m t bf v y = Qy m 0 none w x ∧ s = (mks y.1, mks y.2.1, mks y.2.2, (t : Int), (match bf with | some p => (p.1 : Int) | none => -1), (match bf with | some p => (p.2 : Int) | none => -1), (u.length : Int)))
   (fun s => w.length - s.2.2.2.2.2.2.toNat) ⟨[], w, 0, none, x, rfl, h.len1, rfl, rfl⟩ (by simp only; omega) ?_)
  rintro s ⟨u, v, t, bf, y, rfl, ht, hr, rfl⟩
  simp only
  unfold xy
  rw [yV]
  cases v with
  | nil =>
   constructor
   ·intro hc
    simp at hc
   ·intro _
    rw [zL, ← hr]
    rfl
  | cons i v =>
   have hi : i < kk m := hw i (by simp)
   constructor
   ·intro _
    have hix : idx ((u ++ i :: v).map Int.ofNat) (u.length : Int) = some (i : Int) := by
     rw [yW, List.getElem?_map, List.getElem?_append_right (Nat.le_refl _)]
     simp
    rw [hix, oB, h.edge_eq ht hi, yV]
    have hr' := hr
    simp only [Qy] at hr'
    constructor
    ·intro hc
     rw [if_pos (by simpa using hc)] at hr'
     rw [zL, ← hr']
     rfl
    ·intro hc
     have hn : ¬ (E m t i).To = -1 := by simpa using hc
     rw [if_neg hn] at hr'
     obtain ⟨q1, q2⟩ := z2l h ht hi hn
     have hw1 : w64 ((u.length : Int) + 1) = (((u ++ [i]).length : Nat) : Int) := by
      rw [List.length_append, List.length_singleton]
      exact x3 (by simp at hl; omega)
     have fin : ∀ Z, Z = mks (zcG y.2.2 bf i) → Ret (yH (mks y.1) (mks y.2.1) (t : Int) (u.length : Int) (i : Int) (E m t i) Z)
       (LRP (fun s' => (∃ (u' v' : List Nat) (t : Nat) (bf : Option (Nat × Nat)) (y : Mk3), u ++ i :: v = u' ++ v' ∧ t < m.Rows.length ∧ Qy m t bf v' y = Qy m 0 none (u ++ i :: v) x ∧ s' = (mks y.1, mks y.2.1, mks y.2.2, (t : Int), (match bf with | some p => (p.1 : Int) | none => -1), (match bf with | some p => (p.2 : Int) | none => -1), (u'.length : Int))) ∧ (u ++ i :: v).length - s'.2.2.2.2.2.2.toNat < (u ++ i :: v).length - ((u.length : Int)).toNat) fun t => t = mk3 (Qy m 0 none (u ++ i :: v) x)) := by
      rintro Z rfl
      unfold yH
      rw [zL]
      refine ⟨⟨u ++ [i], v, (E m t i).To.toNat, some (t, i), _, by simp, q1, hr', ?_⟩, ?_⟩
      ·rw [z0C, z0C, hw1, q2]
      ·simp only
       rw [hw1]
       simp
       omega
     rw [yV]
     cases bf with
     | none => exact ⟨fun q => by simp at q, fun _ => fin _ rfl⟩
     | some p => exact ⟨fun _ => fin _ (z0C _ _), fun q => by simp at q⟩
   ·intro hc
    simp at hc
    omega
 rw [key]
 rfl
end
open Classical
def wN (w : List Nat) : List Int := w.map Int.ofNat
def lN (l : List (List Nat)) : List (List Int) := l.map wN
theorem KB (w : List Nat) : (wN w).length = w.length := by simp [wN]
theorem UN (l : List (List Nat)) : (lN l).length = l.length := by simp [lN]
theorem z8Z {u v : List Nat}  : idx (wN (u ++ i :: v)) (u.length : Int) = some (i : Int) := by
 rw [yW, wN, List.getElem?_map, List.getElem?_append_right (Nat.le_refl _)]
 simp
theorem z90 {l : List (List Nat)}   (h : l[i]? = some w) : idx (lN l) (i : Int) = some (wN w) := by
 rw [yW, lN, List.getElem?_map, h]; rfl
def cvA (m : z6) (l : List (List Nat)) (x : Mk3) : Mk3 := l.foldl (fun x w => Qy m 0 none w x) x
def cv0 (m : z6) (l : List (List Nat)) : Mk3 := cvA m l ([0], [], [])
def WL (m : z6) (l : List (List Nat)) : Prop := l.length ≤ 4096 ∧ ∀ w ∈ l, Wd (kk m) w ∧ w.length ≤ 256
def Wp (m : z6) (x : za) : Nat → List Nat → Prop
 | t, [] => x.Input = -1 ∧ x.State = (t : Int)
 | t, i :: w => (x.Input = -1 ∧ x.State = (t : Int)) ∨ ((E m t i).To ≠ -1 ∧ ((x.State = (t : Int) ∧ x.Input = (i : Int) ∧ (x.Next = -1 ∨ ∃ k : Nat, x.Next = (k : Int) ∧ nxt m k (E m t i).To.toNat w)) ∨ Wp m x (E m t i).To.toNat w))
section
variable {m : z6} (h : VM m)
include h
theorem z4j {l : List (List Nat)} (hl : WL m l) : yq m (lN l) = some (mk3 (cv0 m l)) := by
 unfold yq uU
 rw [oB]
 have key : loop (fun s => xm m (lN l) s.1 s.2.1 s.2.2.1 s.2.2.2) (QC ([] : List (Int × Bool)) 0 true, ([] : List ((x5 Int) × Bool)), ([] : List (z8 × Bool)), (0 : Int)) = some ((mk3 (cv0 m l)).states_, (mk3 (cv0 m l)).edges_, (mk3 (cv0 m l)).pairs_) := by
  have e0 : (List.range l.length).foldl (fun s i => Qy m 0 none ((l[i]?).getD []) s) ([0], [], []) = cv0 m l := Ju (fun w s => Qy m 0 none w s) [] l _
  rw [← e0]
  refine z1I (σ := Mk3) (fun y i => ((mk3 y).states_, (mk3 y).edges_, (mk3 y).pairs_, (i : Int))) (fun i y => Qy m 0 none ((l[i]?).getD []) y) (fun _ _ => True) l.length (by have := hl.1; omega) (s0 := ([0], [], [])) trivial ?_ ?_
  ·intro i y hi _
   refine ⟨?_, trivial⟩
   have hw := List.getElem?_eq_getElem hi
   have hm := hl.2 _ (List.getElem_mem hi)
   unfold xm
   rw [UN]
   simp only
   rw [show decide ((i : Int) < (l.length : Int)) = true by simp [hi], cond_true, z90 hw, oB]
   have hr := zc7 h hm.1 (by omega) y
   rw [show (zh.mk (mk3 y).states_ (mk3 y).edges_ (mk3 y).pairs_) = mk3 y from rfl, show wN l[i] = l[i].map Int.ofNat from rfl, hr, oB, x3 (by have := hl.1; omega), hw]
   rfl
  ·intro _
   unfold xm
   rw [UN]
   simp
 rw [key]
 rfl
theorem zaS {l : List (List Nat)} : ∀ {x : Mk3}, (∀ w ∈ l, Wd (kk m) w) → (0 : Int) ∈ x.1 →
  (∀ s : Nat, (s : Int) ∈ (cvA m l x).1 ↔ (s : Int) ∈ x.1 ∨ ∃ w ∈ l, z4w m s 0 w) ∧ (∀ s j : Nat, (⟨s, j⟩ : x5 Int) ∈ (cvA m l x).2.1 ↔ (⟨s, j⟩ : x5 Int) ∈ x.2.1 ∨ ∃ w ∈ l, z84 m s j 0 w) ∧
  (∀ s j k : Nat, (⟨s, j, k⟩ : z8) ∈ (cvA m l x).2.2 ↔ (⟨s, j, k⟩ : z8) ∈ x.2.2 ∨ ∃ w ∈ l, z95 m s j k 0 w) := by
 induction l with
 | nil => intro x _ _; simp [cvA]
 | cons w l ih =>
  intro x hw hx
  have hw1 := hw w (by simp)
  have h1 := fun s => zc8 h w 0 none x s h.len1 hw1 hx
  have h2 := fun s j => zca h w 0 none x s j h.len1 hw1
  have h3 := fun s j k => zc9 h w 0 none x s j k h.len1 hw1
  obtain ⟨a1, a2, a3⟩ := ih (x := Qy m 0 none w x) (fun u hu => hw u (by simp [hu])) (by have := (h1 0).2 (.inl hx); simpa using this)
  have e : cvA m (w :: l) x = cvA m l (Qy m 0 none w x) := rfl
  rw [e]
  refine ⟨fun s => ?_, fun s j => ?_, fun s j k => ?_⟩
  ·rw [a1, h1]; simp only [List.mem_cons, exists_eq_or_imp]
   exact or_assoc
  ·rw [a2, h2]; simp only [List.mem_cons, exists_eq_or_imp]
   exact or_assoc
  ·rw [a3, h3]; simp only [List.mem_cons, exists_eq_or_imp, reduceCtorEq, false_and, false_or]
   exact or_assoc
theorem z49 (hw : Wd (kk m) w) (hl : w.length ≤ 256) (x : za) : jR m (wN w) x = some (decide (Wp m x 0 w)) := by
 unfold jR
 have key : loop (fun s => ut m (wN w) x s.1 s.2) ((0 : Int), (0 : Int)) = some (decide (Wp m x 0 w)) := by
  refine Ret.eq (ui (fun s => ∃ (u v : List Nat) (t : Nat), w = u ++ v ∧ t < m.Rows.length ∧ (Wp m x t v ↔ Wp m x 0 w) ∧ s = ((t : Int), (u.length : Int))) (fun s => w.length - s.2.toNat) ⟨[], w, 0, rfl, h.len1, .rfl, rfl⟩ (by simp only; omega) ?_)
  rintro s ⟨u, v, t, rfl, ht, hr, rfl⟩
  simp only
  have hJ2 : ¬ (x.Input = -1 ∧ x.State = (t : Int)) → Ret (vC m (wN (u ++ v)) x (t : Int) (u.length : Int))
    (LRP (fun s' => (∃ (u' v' : List Nat) (t : Nat), u ++ v = u' ++ v' ∧ t < m.Rows.length ∧ (Wp m x t v' ↔ Wp m x 0 (u ++ v)) ∧ s' = ((t : Int), (u'.length : Int))) ∧ (u ++ v).length - s'.2.toNat < (u ++ v).length - ((u.length : Int)).toNat) fun t => t = decide (Wp m x 0 (u ++ v))) := by
   intro hf
   unfold vC
   rw [KB]
   cases v with
   | nil =>
    rw [yV]
    refine ⟨fun _ => ?_, fun q => by simp at q⟩
    rw [zL]
    show false = _
    have : ¬ Wp m x 0 (u ++ []) := by rw [← hr]; exact hf
    exact (decide_eq_false this).symm
   | cons i v =>
    have hi : i < kk m := hw i (by simp)
    obtain ⟨r, hr1, _, hr2⟩ := h.rowAt ht
    have hR : idx m.Rows (t : Int) = some r := hr1
    have hE : idx r (i : Int) = some (E m t i) := hr2 i hi
    rw [show ((u.length : Int) == (((u ++ i :: v).length : Nat) : Int)) = false by simp; omega, cond_false]
    simp only [hR, z8Z, hE, oB]
    rw [yV]
    constructor
    ·intro hc
     have hn : (E m t i).To = -1 := by simpa using hc
     rw [zL]
     show false = _
     have : ¬ Wp m x 0 (u ++ i :: v) := by
      rw [← hr]
      simp only [Wp, hn, ne_eq, not_true_eq_false, false_and, or_false]
      exact hf
     simp [this]
    ·intro hc
     have hn : (E m t i).To ≠ -1 := by simpa using hc
     obtain ⟨q1, q2⟩ := z2l h ht hi hn
     have hw1 : w64 ((u.length : Int) + 1) = (((u ++ [i]).length : Nat) : Int) := by
      rw [List.length_append, List.length_singleton]
      exact x3 (by simp at hl; omega)
     have hJ3 : ¬ (x.State = (t : Int) ∧ x.Input = (i : Int) ∧ (x.Next = -1 ∨ ∃ k : Nat, x.Next = (k : Int) ∧ nxt m k (E m t i).To.toNat v)) → Ret (x9 (u.length : Int) (E m t i))
       (LRP (fun s' => (∃ (u' v' : List Nat) (t : Nat), u ++ i :: v = u' ++ v' ∧ t < m.Rows.length ∧ (Wp m x t v' ↔ Wp m x 0 (u ++ i :: v)) ∧ s' = ((t : Int), (u'.length : Int))) ∧ (u ++ i :: v).length - s'.2.toNat < (u ++ i :: v).length - ((u.length : Int)).toNat) fun t => t = decide (Wp m x 0 (u ++ i :: v))) := by
      intro hm
      unfold x9
      rw [zL]
      refine ⟨⟨u ++ [i], v, (E m t i).To.toNat, by simp, q1, ?_, by rw [hw1, q2]⟩, ?_⟩
      ·rw [← hr]
       simp only [Wp]
       exact ⟨fun q => .inr ⟨hn, .inr q⟩, fun q => q.elim (fun q => (hf q).elim) fun q => q.2.elim (fun q => (hm q).elim) id⟩
      ·simp only
       rw [hw1]
       simp
       omega
     have hT : (x.State = (t : Int) ∧ x.Input = (i : Int) ∧ (x.Next = -1 ∨ ∃ k : Nat, x.Next = (k : Int) ∧ nxt m k (E m t i).To.toNat v)) → true = decide (Wp m x 0 (u ++ i :: v)) := by
      intro q
      have : Wp m x 0 (u ++ i :: v) := by
       rw [← hr]
       simp only [Wp]
       exact .inr ⟨hn, .inl q⟩
      simp [this]
     rw [yV]
     refine ⟨fun c1 => ?_, fun c1 => hJ3 fun q => by simp [q.1] at c1⟩
     have c1 : x.State = (t : Int) := by simpa using c1
     rw [yV]
     refine ⟨fun c2 => ?_, fun c2 => hJ3 fun q => by simp [q.2.1] at c2⟩
     have c2 : x.Input = (i : Int) := by simpa using c2
     rw [yV]
     refine ⟨fun c3 => ?_, fun c3 => ?_⟩
     ·rw [zL]; exact hT ⟨c1, c2, .inl (by simpa using c3)⟩
     have c3 : x.Next ≠ -1 := by simpa using c3
     rw [hw1, yV]
     refine ⟨fun c4 => ?_, fun c4 => hJ3 ?_⟩
     ·cases v with
      | nil => simp at c4
      | cons j v =>
       have hj : j < kk m := hw j (by simp)
       have hx : idx (wN (u ++ i :: j :: v)) (((u ++ [i]).length : Nat) : Int) = some (j : Int) := by
        rw [show u ++ i :: j :: v = (u ++ [i]) ++ j :: v by simp]; exact z8Z
       rw [hx, oB, yV]
       refine ⟨fun c5 => ?_, fun c5 => hJ3 ?_⟩
       ·have c5 : (j : Int) = x.Next := by simpa using c5
        rw [← c5, ← q2, h.edge_eq q1 hj, yV]
        refine ⟨fun c6 => ?_, fun c6 => hJ3 ?_⟩
        ·rw [zL]; exact hT ⟨c1, c2, .inr ⟨j, c5.symm, rfl, by simpa using c6⟩⟩
        ·rintro ⟨_, _, q | ⟨k, q, q3, q4⟩⟩
         ·exact c3 q
         ·have : k = j := by omega
          subst this
          simp [q4] at c6
       ·rintro ⟨_, _, q | ⟨k, q, q3, q4⟩⟩
        ·exact c3 q
        ·subst q3; simp [q] at c5
     ·rintro ⟨_, _, q | ⟨k, q, q3⟩⟩
      ·exact c3 q
      ·cases v with
       | nil => exact q3
       | cons j v => simp at c4; omega
  unfold ut
  have hTr : (x.Input = -1 ∧ x.State = (t : Int)) → true = decide (Wp m x 0 (u ++ v)) := by
   intro q
   have : Wp m x 0 (u ++ v) := by
    rw [← hr]
    cases v with
    | nil => exact q
    | cons i v => exact .inl q
   simp [this]
  rw [yV]
  refine ⟨fun c1 => ?_, fun c1 => hJ2 fun q => by simp [q.1] at c1⟩
  have c1 : x.Input = -1 := by simpa using c1
  rw [yV]
  refine ⟨fun c2 => ?_, fun c2 => hJ2 fun q => by simp [q.2] at c2⟩
  rw [zL]
  exact hTr ⟨c1, by simpa using c2⟩
 rw [key]
 rfl
def Kd (m : z6) (l : List (List Nat)) (x : za) : Prop := (∃ w ∈ l, Wp m x 0 w) ∨ x = ⟨0, -1, -1⟩
theorem z2w {l : List (List Nat)} (hl : WL m l) (x : za) : qS m (lN l) x = some (decide (Kd m l x)) := by
 unfold qS
 have key : Ret (loop (fun s => vZ m (lN l) x s) (0 : Int)) fun r => (r = .inl () ∧ ∀ w ∈ l, ¬ Wp m x 0 w) ∨ (r = .inr true ∧ ∃ w ∈ l, Wp m x 0 w) := by
  refine ui (fun s => ∃ i : Nat, s = (i : Int) ∧ i ≤ l.length ∧ ∀ w ∈ l.take i, ¬ Wp m x 0 w) (fun s => l.length - s.toNat) ⟨0, rfl, Nat.zero_le _, by simp⟩ (by have := hl.1; show l.length - 0 < _; omega) ?_
  rintro s ⟨i, rfl, hi, hf⟩
  unfold vZ
  rw [UN, yV]
  constructor
  ·intro hc
   have hi' : i < l.length := by simpa using hc
   have hw := List.getElem?_eq_getElem hi'
   have hm := hl.2 _ (List.getElem_mem hi')
   rw [z90 hw, oB, z49 h hm.1 hm.2, oB, yV]
   constructor
   ·intro c
    rw [zL]
    exact .inr ⟨rfl, _, List.getElem_mem hi', by simpa using c⟩
   ·intro c
    have c : ¬ Wp m x 0 l[i] := by simpa using c
    rw [zL]
    refine ⟨⟨i + 1, x3 (by have := hl.1; omega), hi', ?_⟩, ?_⟩
    ·rw [List.take_add_one, hw]
     intro w hq
     rcases List.mem_append.1 hq with q | q
     ·exact hf w q
     ·simp only [Option.toList_some, List.mem_singleton] at q
      subst q
      exact c
    ·rw [x3 (by have := hl.1; omega)]; omega
  ·intro hc
   have hi' : i = l.length := by simp at hc; omega
   rw [zL]
   subst hi'
   rw [List.take_length] at hf
   exact .inl ⟨rfl, hf⟩
 obtain ⟨r, e, q⟩ := key
 rw [e, oB]
 rcases q with ⟨rfl, q⟩ | ⟨rfl, q⟩
 ·simp only
  unfold q9
  congr 1
  have : Kd m l x ↔ x = ⟨0, -1, -1⟩ := ⟨fun k => k.elim (fun ⟨w, hw, k⟩ => (q w hw k).elim) id, .inr⟩
  have hL : (x.State == 0 && (x.Input == -1 && (x.Next == -1 && true))) = true ↔ x = ⟨0, -1, -1⟩ := by
   obtain ⟨a, b, c⟩ := x
   simp
  by_cases hx : x = ⟨0, -1, -1⟩
  ·rw [hL.2 hx]; exact (decide_eq_true (this.2 hx)).symm
  ·rw [Bool.eq_false_iff.2 (fun q => hx (hL.1 q))]; exact (decide_eq_false (fun q => hx (this.1 q))).symm
 ·simp only
  congr 1
  have hcb : Kd m l x := .inl q
  exact (decide_eq_true hcb).symm
omit h in
theorem z64 (s : Nat) : ∀ (w : List Nat) (t : Nat), Wp m ⟨s, -1, -1⟩ t w ↔ z4w m s t w
 | [], t => by simp only [Wp, z4w, true_and]; omega
 | i :: w, t => by
  simp only [Wp, z4w, z64 s w, true_and]
  constructor
  ·rintro (q | ⟨q, ⟨_, q2, _⟩ | q2⟩)
   ·exact .inl (by omega)
   ·omega
   ·exact .inr ⟨q, q2⟩
  ·rintro (q | ⟨q, q2⟩)
   ·exact .inl (by omega)
   ·exact .inr ⟨q, .inr q2⟩
omit h in
theorem z65 (s j : Nat) : ∀ (w : List Nat) (t : Nat), Wp m ⟨s, j, -1⟩ t w ↔ z84 m s j t w
 | [], t => by simp only [Wp, z84, iff_false]; omega
 | i :: w, t => by
  simp only [Wp, z84, z65 s j w]
  constructor
  ·rintro (q | ⟨q, ⟨q2, q3, _⟩ | q2⟩)
   ·omega
   ·exact ⟨q, .inl (by omega)⟩
   ·exact ⟨q, .inr q2⟩
  ·rintro ⟨q, q2 | q2⟩
   ·exact .inr ⟨q, .inl ⟨by omega, by omega, .inl trivial⟩⟩
   ·exact .inr ⟨q, .inr q2⟩
omit h in
theorem z96 (s j k : Nat) : ∀ (w : List Nat) (t : Nat), Wp m ⟨s, j, k⟩ t w ↔ z95 m s j k t w
 | [], t => by simp only [Wp, z95, iff_false]; omega
 | i :: w, t => by
  simp only [Wp, z95, z96 s j k w]
  constructor
  ·rintro (q | ⟨q, ⟨q2, q3, q4 | ⟨k', q4, q5⟩⟩ | q2⟩)
   ·omega
   ·omega
   ·have : k' = k := by omega
    exact ⟨q, .inl ⟨by omega, by omega, this ▸ q5⟩⟩
   ·exact ⟨q, .inr q2⟩
  ·rintro ⟨q, ⟨q2, q3, q4⟩ | q2⟩
   ·exact .inr ⟨q, .inl ⟨by omega, by omega, .inr ⟨k, rfl, q4⟩⟩⟩
   ·exact .inr ⟨q, .inr q2⟩
end
open Classical
theorem z3H (g : Nat → List α) (out : List α) : ∀ n, (List.range n).foldl (fun s i => s ++ g i) out = out ++ (List.range n).flatMap g
 | 0 => by simp
 | n + 1 => by rw [List.range_succ, List.foldl_append, z3H g out n, List.flatMap_append]; simp
theorem JP {g : Nat → List α} {C : Nat} : ∀ n, (∀ i, i < n → (g i).length ≤ C) → ((List.range n).flatMap g).length ≤ C * n
 | 0, _ => by simp
 | n + 1, h => by
  rw [List.range_succ, List.flatMap_append, List.length_append, List.flatMap_cons, List.flatMap_nil, List.append_nil, Nat.mul_succ]
  have := JP n fun i hi => h i (by omega)
  have := h n (by omega)
  omega
theorem vJ {step : List α × Int → Option (LR (List α × Int) (List α))} (g : Nat → List α) (n : Nat) (hn : n < 9223372036854775808) (C L0 : Nat) {out0 : List α} (h0 : out0.length ≤ L0) (hg : ∀ i, i < n → (g i).length ≤ C)
  (h : ∀ i out, i < n → out.length ≤ L0 + C * n → step (out, (i : Int)) = some (.next (out ++ g i, ((i + 1 : Nat) : Int)))) (hd : ∀ out, step (out, (n : Int)) = some (.done out)) : loop step (out0, 0) = some (out0 ++ (List.range n).flatMap g) := by
 rw [← z3H]
 refine z1I (σ := List α) (fun o i => (o, (i : Int))) (fun i o => o ++ g i) (fun i o => o.length ≤ L0 + C * i) n hn (by simpa using h0) ?_ fun _ => hd _
 intro i o hi ho
 have h1 : C * i ≤ C * n := Nat.mul_le_mul_left _ (by omega)
 refine ⟨h i o hi (by omega), ?_⟩
 have := hg i hi
 rw [List.length_append, Nat.mul_add]
 omega
theorem z7J {σ τ : Type} {step : σ → Option (LR σ τ)} {s : σ} {t : τ} (h : step s = some (.done t)) : loop step s = some t := by
 refine Ret.eq (ui (fun x => x = s) (fun _ => 0) rfl (by decide) ?_)
 rintro x rfl
 rw [h, zL]
 rfl
abbrev T3 := Nat × Nat × Nat
def Rc (m : z6) (t : Nat) : Prop := ∃ u, Wd (kk m) u ∧ aft m 0 u = (t : Int)
def z6y (m : z6) (t : Nat) : List Nat := if h : ∃ v, Acc m t v then h.choose else []
def z6K (m : z6) (s i : Nat) : List T3 := (List.range (kk m)).flatMap fun j => if (E m (E m s i).To.toNat j).To = -1 then [] else [(s, i, j)]
def z01 (m : z6) (g s i : Nat) : List T3 := if (E m s i).To = -1 then [] else if g = 1 then [(s, i, 0)] else z6K m s i
def z2i (m : z6) (g s : Nat) : List T3 := if g = 0 then [(s, 0, 0)] else (List.range (kk m)).flatMap (z01 m g s)
def GL (m : z6) (g : Nat) : List T3 := (List.range m.Rows.length).flatMap fun s => if Rc m s then z2i m g s else []
def toI (g : Nat) (t : T3) : za := if g = 0 then ⟨t.1, -1, -1⟩ else if g = 1 then ⟨t.1, t.2.1, -1⟩ else ⟨t.1, t.2.1, t.2.2⟩
def toC (m : z6) (g : Nat) (t : T3) : zb :=
 if g = 0 then ⟨wN (z6y m t.1), ⟨t.1, 0, 0⟩, .inl t.1⟩ else if g = 1 then ⟨wN (z6y m t.1) ++ [(t.2.1 : Int)], ⟨t.1, t.2.1, 0⟩, .inr (.inl (t.1, t.2.1))⟩
 else ⟨wN (z6y m t.1) ++ [(t.2.1 : Int)] ++ [(t.2.2 : Int)], ⟨t.1, t.2.1, t.2.2⟩, .inr (.inr ⟨t.1, t.2.1, t.2.2⟩)⟩
theorem Wm {α β : Type} (f : α → β) (g : Nat → List α) (l : List Nat) : (l.flatMap g).map f = l.flatMap fun i => (g i).map f := by
 rw [List.map_flatMap]
variable {g : Nat}
section
variable {m : z6} (h : VM m)
include h
theorem z8h (s i : Nat) : (z6K m s i).length ≤ 16 := by
 have := JP (g := fun j => if (E m (E m s i).To.toNat j).To = -1 then [] else [(s, i, j)]) (C := 1) (kk m) (fun j _ => by split <;> simp)
 have := h.kk_le
 unfold z6K
 omega
theorem z0O (g s i : Nat) : (z01 m g s i).length ≤ 16 := by
 unfold z01
 split
 ·simp
 split
 ·simp
 ·exact z8h h s i
theorem z0N (g s : Nat) : (z2i m g s).length ≤ 256 := by
 unfold z2i
 split
 ·simp
 ·have := JP (g := z01 m g s) (C := 16) (kk m) (fun i _ => z0O h g s i)
  have := h.kk_le
  omega
theorem z6x {r : List (List Int) × List Bool} (hr : z4q m r) {t : Nat} (ht : t < m.Rows.length) : r.2[t]? = some (decide (Rc m t)) ∧ (Rc m t → r.1[t]? = some (wN (z6y m t)) ∧ Acc m t (z6y m t)) := by
 have _ := h
 rcases hr.2.2 t ht with ⟨q1, v, q2, q3⟩ | ⟨q1, q2⟩
 ·have hc : Rc m t := ⟨v, q3.wd, q3.aft⟩
  refine ⟨by rw [q1, decide_eq_true hc], fun _ => ?_⟩
  have he : ∃ v, Acc m t v := ⟨v, q3⟩
  have : z6y m t = v := by
   unfold z6y
   rw [dif_pos he]
   exact z8t he.choose_spec q3
  rw [this]
  exact ⟨q2, q3⟩
 ·have hc : ¬ Rc m t := fun ⟨u, k1, k2⟩ => q2 u k1 k2
  exact ⟨by rw [q1, decide_eq_false hc], fun k => (hc k).elim⟩
theorem z8q (hg : g < 3) : v8 m (g : Int) = some ((GL m g).map (toC m g)) := by
 obtain ⟨r, e, _, hr⟩ := QO h
 unfold v8
 rw [e, oB]
 have hn := h.len64
 have hk := h.kk_le
 have key : loop (fun s => wV m (g : Int) r s.1 s.2) (([] : List zb), (0 : Int)) = some ([] ++ (List.range m.Rows.length).flatMap fun s => ((if Rc m s then z2i m g s else []).map (toC m g))) := by
  refine vJ (fun s => (if Rc m s then z2i m g s else []).map (toC m g)) m.Rows.length (by omega) 256 0 (Nat.le_refl _) ?_ ?_ ?_
  ·intro s hs
   rw [List.length_map]
   split
   ·exact z0N h g s
   ·simp
  ·intro s out hs ho
   obtain ⟨a1, a2⟩ := z6x h hr hs
   obtain ⟨R, b1, b2, b3⟩ := h.rowAt hs
   unfold wV
   simp only
   rw [show decide ((s : Int) < (m.Rows.length : Int)) = true by simp [hs], cond_true, yW, b1, oB, yW, a1, oB]
   have hw : w64 ((s : Int) + 1) = ((s + 1 : Nat) : Int) := x3 (by omega)
   by_cases hc : Rc m s
   ·obtain ⟨c1, c2⟩ := a2 hc
    have hal : (wN (z6y m s)).length ≤ 64 := by rw [KB]; have := c2.len; omega
    rw [decide_eq_true hc, Bool.not_true, cond_false, if_pos hc]
    by_cases h0 : g = 0
    ·subst h0
     rw [show ((((0 : Nat) : Int)) == 0) = true from rfl, cond_true, yW, c1, oB, gdT (by simp; omega)]
     unfold xp
     rw [hw]
     rfl
    ·rw [show (((g : Int)) == 0) = false by simp; omega, cond_false]
     have e4 : loop (fun s_1 => wU m (g : Int) r (s : Int) R s_1.1 s_1.2) (out, (0 : Int)) = some (out ++ (List.range (kk m)).flatMap fun i => (z01 m g s i).map (toC m g)) := by
      refine vJ (fun i => (z01 m g s i).map (toC m g)) (kk m) (by omega) 16 20000 (by omega) (fun i _ => by rw [List.length_map]; exact z0O h g s i) ?_ ?_
      ·intro i out hi ho
       unfold wU
       simp only
       rw [b2, show decide ((i : Int) < (kk m : Int)) = true by simp [hi], cond_true, yW, b3 i hi, oB]
       have hwi : w64 ((i : Int) + 1) = ((i + 1 : Nat) : Int) := x3 (by omega)
       by_cases hn1 : (E m s i).To = -1
       ·rw [show ((E m s i).To == -1) = true by simp [hn1], cond_true]
        unfold xo z01
        rw [if_pos hn1, hwi]
        simp
       ·obtain ⟨t1, t2⟩ := z2l h hs hi hn1
        rw [show ((E m s i).To == -1) = false by simp [hn1], cond_false, yW, c1, oB, z0K _ (by omega), oB, z2T, oB, gdT (by simp; omega)]
        by_cases h1 : g = 1
        ·subst h1
         rw [show ((((1 : Nat) : Int)) == 1) = true from rfl, cond_true, gdT (by simp; omega)]
         unfold xo z01
         rw [if_neg hn1, if_pos rfl, hwi]
         rfl
        ·have h2 : g = 2 := by omega
         subst h2
         rw [show ((((2 : Nat) : Int)) == 1) = false from rfl, cond_false]
         obtain ⟨R2, d1, d2, d3⟩ := h.rowAt t1
         rw [← t2, yW, d1, oB]
         have e6 : loop (fun s_1 => wT (s : Int) (i : Int) (wN (z6y m s)) R2 s_1.1 s_1.2) (out, (0 : Int)) = some (out ++ (List.range (kk m)).flatMap fun j => (if (E m (E m s i).To.toNat j).To = -1 then [] else [(s, i, j)]).map (toC m 2)) := by
          refine vJ (fun j => (if (E m (E m s i).To.toNat j).To = -1 then [] else [(s, i, j)]).map (toC m 2)) (kk m) (by omega) 1 40000 (by omega) (fun j _ => by rw [List.length_map]; split <;> simp) ?_ ?_
          ·intro j out hj ho
           unfold wT
           simp only
           rw [d2, show decide ((j : Int) < (kk m : Int)) = true by simp [hj], cond_true, yW, d3 j hj, oB]
           have hwj : w64 ((j : Int) + 1) = ((j + 1 : Nat) : Int) := x3 (by omega)
           by_cases hn2 : (E m (E m s i).To.toNat j).To = -1
           ·rw [show ((E m (E m s i).To.toNat j).To != -1) = false by simp [hn2], cond_false, if_pos hn2]
            unfold wW
            rw [hwj]
            simp
           ·rw [show ((E m (E m s i).To.toNat j).To != -1) = true by simp [hn2], cond_true, if_neg hn2, z0K _ (by simp; omega), oB, z2T, oB, gdT (by simp; omega), gdT (by simp; omega)]
            unfold wW
            rw [hwj]
            rfl
          ·intro out
           unfold wT
           simp only
           rw [d2]
           simp
         rw [e6, oB]
         unfold xo z01
         rw [if_neg hn1, if_neg (by decide), hwi]
         unfold z6K
         rw [Wm]
      ·intro out
       unfold wU
       simp only
       rw [b2]
       simp
     rw [e4, oB]
     unfold xp
     rw [hw]
     unfold z2i
     rw [if_neg h0, Wm]
   ·rw [decide_eq_false hc, Bool.not_false, cond_true, if_neg hc]
    unfold xp
    rw [hw]
    simp
  ·intro out
   unfold wV
   simp
 rw [key, oB]
 unfold qg GL
 rw [List.nil_append, Wm]
variable (hG : GG (kk m) m.Rows.length ≤ 1000000000)
include hG
theorem zaN (hg : g < 3) : Yr m (g : Int) = some ((GL m g).map (toI g)) := by
 obtain ⟨r, e, hr⟩ := z4n h hG
 unfold Yr
 rw [e, oB]
 have hn := h.len64
 have hk := h.kk_le
 have hkp := h.kk_pos
 have key : loop (fun s => uF m (g : Int) r s.1 s.2) (([] : List za), (0 : Int)) = some ([] ++ (List.range m.Rows.length).flatMap fun s => ((if Rc m s then z2i m g s else []).map (toI g))) := by
  refine vJ (fun s => (if Rc m s then z2i m g s else []).map (toI g)) m.Rows.length (by omega) 256 0 (Nat.le_refl _) ?_ ?_ ?_
  ·intro s hs
   rw [List.length_map]
   split
   ·exact z0N h g s
   ·simp
  ·intro s out hs ho
   obtain ⟨a1, _⟩ := z6x h hr hs
   unfold uF
   simp only
   rw [show decide ((s : Int) < (m.Rows.length : Int)) = true by simp [hs], cond_true, yW, a1, oB]
   have hw : w64 ((s : Int) + 1) = ((s + 1 : Nat) : Int) := x3 (by omega)
   by_cases hc : Rc m s
   ·rw [decide_eq_true hc, Bool.not_true, cond_false, if_pos hc]
    by_cases h0 : g = 0
    ·subst h0
     rw [show ((((0 : Nat) : Int)) == 0) = true from rfl, cond_true, gdT (by simp; omega)]
     unfold v6
     rw [hw]
     rfl
    ·rw [show (((g : Int)) == 0) = false by simp; omega, cond_false]
     have e4 : loop (fun s_1 => uE m (g : Int) (s : Int) s_1.1 s_1.2) (out, (0 : Int)) = some (out ++ (List.range (kk m)).flatMap fun i => (z01 m g s i).map (toI g)) := by
      refine vJ (fun i => (z01 m g s i).map (toI g)) (kk m) (by omega) 16 20000 (by omega) (fun i _ => by rw [List.length_map]; exact z0O h g s i) ?_ ?_
      ·intro i out hi ho
       unfold uE
       simp only
       rw [← h.kk_eq, show decide ((i : Int) < (kk m : Int)) = true by simp [hi], cond_true, h.edge_eq hs hi]
       have hwi : w64 ((i : Int) + 1) = ((i + 1 : Nat) : Int) := x3 (by omega)
       have h7 : ∀ out : List za, ((E m s i).To = -1 ∨ g = 1) → wZ m (g : Int) (s : Int) (i : Int) (E m s i) out = some (.next (out, ((i + 1 : Nat) : Int))) := by
        intro out hq
        unfold wZ
        rw [z7J (t := out), oB]
        ·unfold qR; rw [hwi]
        ·unfold vQ
         simp only
         rw [← h.kk_eq, show decide ((0 : Int) < (kk m : Int)) = true by simp; omega, cond_true]
         rcases hq with q | q
         ·rw [show ((E m s i).To != -1) = false by simp [q], cond_false]
         ·subst q
          cases ((E m s i).To != -1) <;> simp
       by_cases hn1 : (E m s i).To = -1
       ·rw [show ((E m s i).To != -1) = false by simp [hn1], cond_false, h7 out (.inl hn1)]
        unfold z01
        rw [if_pos hn1]
        simp
       ·obtain ⟨t1, t2⟩ := z2l h hs hi hn1
        rw [show ((E m s i).To != -1) = true by simp [hn1], cond_true]
        by_cases h1 : g = 1
        ·subst h1
         rw [show ((((1 : Nat) : Int)) == 1) = true from rfl, cond_true, gdT (by simp; omega), h7 _ (.inr rfl)]
         unfold z01
         rw [if_neg hn1, if_pos rfl]
         rfl
        ·have h2 : g = 2 := by omega
         subst h2
         rw [show ((((2 : Nat) : Int)) == 1) = false from rfl, cond_false]
         unfold wZ
         have e6 : loop (fun s_1 => vQ m ((2 : Nat) : Int) (s : Int) (i : Int) (E m s i) s_1.1 s_1.2) (out, (0 : Int)) = some (out ++ (List.range (kk m)).flatMap fun j => (if (E m (E m s i).To.toNat j).To = -1 then [] else [(s, i, j)]).map (toI 2)) := by
          refine vJ (fun j => (if (E m (E m s i).To.toNat j).To = -1 then [] else [(s, i, j)]).map (toI 2)) (kk m) (by omega) 1 40000 (by omega) (fun j _ => by rw [List.length_map]; split <;> simp) ?_ ?_
          ·intro j out hj ho
           unfold vQ
           simp only
           rw [← h.kk_eq, show decide ((j : Int) < (kk m : Int)) = true by simp [hj], cond_true, show ((E m s i).To != -1) = true by simp [hn1], cond_true, show ((((2 : Nat) : Int)) == 2) = true from rfl, cond_true]
           have hb : ∀ {β : Type} (F : ze → Option β), (Option.bind (idx m.Rows (E m s i).To) fun r => Option.bind (idx r (j : Int)) F) = F (E m (E m s i).To.toNat j) := fun F => by have := h.edge_eq t1 hj (f := F); rw [t2] at this; exact this
           rw [hb]
           have hwj : w64 ((j : Int) + 1) = ((j + 1 : Nat) : Int) := x3 (by omega)
           by_cases hn2 : (E m (E m s i).To.toNat j).To = -1
           ·rw [show ((E m (E m s i).To.toNat j).To != -1) = false by simp [hn2], cond_false, if_pos hn2]
            unfold uG
            rw [hwj]
            simp
           ·rw [show ((E m (E m s i).To.toNat j).To != -1) = true by simp [hn2], cond_true, if_neg hn2, gdT (by simp; omega)]
            unfold uG
            rw [hwj]
            rfl
          ·intro out
           unfold vQ
           simp only
           rw [← h.kk_eq]
           simp
         rw [e6, oB]
         unfold qR z01
         rw [if_neg hn1, if_neg (by decide), hwi]
         unfold z6K
         rw [Wm]
      ·intro out
       unfold uE
       simp only
       rw [← h.kk_eq]
       simp
     rw [e4, oB]
     unfold v6
     rw [hw]
     unfold z2i
     rw [if_neg h0, Wm]
   ·rw [decide_eq_false hc, Bool.not_false, cond_true, if_neg hc]
    unfold v6
    rw [hw]
    simp
  ·intro out
   unfold uF
   simp
 rw [key, oB]
 unfold kH GL
 rw [List.nil_append, Wm]
theorem zem (g : Nat) : (GL m g).length ≤ 16384 := by
 have _ := hG
 have := JP (g := fun s => if Rc m s then z2i m g s else []) (C := 256) m.Rows.length (fun s _ => by split <;> first | exact z0N h g s | simp)
 have := h.len64
 unfold GL
 omega
theorem Um {l : List (List Nat)} (hl : WL m l)  (hg : g < 3) : vP m (lN l) (g : Int) = some (((GL m g).map (toI g)).filter fun x => !decide (Kd m l x)) := by
 unfold vP
 rw [zaN h hG hg, oB]
 have hL := zem h hG g
 have key : ∀ L : List za, L.length ≤ 16384 → loop (fun s => wQ m (lN l) L s.1 s.2) (([] : List za), (0 : Int)) = some ([] ++ (List.range L.length).flatMap fun i => match L[i]? with | some x => if Kd m l x then [] else [x] | none => []) := by
  intro L hL
  refine vJ _ L.length (by omega) 1 0 (Nat.le_refl _) (fun i _ => ?_) ?_ ?_
  ·split
   ·split <;> simp
   ·simp
  ·intro i out hi ho
   have hx := List.getElem?_eq_getElem hi
   unfold wQ
   simp only
   rw [show decide ((i : Int) < (L.length : Int)) = true by simp [hi], cond_true, yW, hx, oB, z2w h hl, oB]
   have hwi : w64 ((i : Int) + 1) = ((i + 1 : Nat) : Int) := x3 (by omega)
   by_cases hc : Kd m l L[i]
   ·rw [decide_eq_true hc, Bool.not_true, cond_false]
    unfold wR
    simp only [if_pos hc, List.append_nil, hwi]
   ·rw [decide_eq_false hc, Bool.not_false, cond_true, oB, gdT (by simp; omega)]
    unfold wR
    simp only [if_neg hc, hwi]
  ·intro out
   unfold wQ
   simp
 rw [key _ (by rw [List.length_map]; exact hL), oB]
 unfold uZ
 rw [List.nil_append]
 congr 1
 generalize (GL m g).map (toI g) = L
 have gen : ∀ (f : za → List za) (L : List za), ((List.range L.length).flatMap fun i => match L[i]? with | some x => f x | none => []) = L.flatMap f := by
  intro f L
  induction L with
  | nil => simp
  | cons x L ih =>
   rw [List.length_cons, List.range_succ_eq_map, List.flatMap_cons, List.flatMap_map, List.flatMap_cons]
   congr 1
 rw [gen (fun x => if Kd m l x then [] else [x])]
 induction L with
 | nil => simp
 | cons x L ih =>
  rw [List.flatMap_cons, ih, List.filter_cons]
  by_cases hc : Kd m l x <;> simp [hc]
end
open Classical
variable {t : T3}
section
variable {m : z6} (h : VM m)
include h
omit h in
theorem z7E {s i : Nat}  : t ∈ z6K m s i ↔ ∃ j, j < kk m ∧ (E m (E m s i).To.toNat j).To ≠ -1 ∧ t = (s, i, j) := by
 unfold z6K
 rw [List.mem_flatMap]
 constructor
 ·rintro ⟨j, hj, q⟩
  split at q
  ·simp at q
  ·rename_i hn
   exact ⟨j, List.mem_range.1 hj, hn, by simpa using q⟩
 ·rintro ⟨j, hj, hn, rfl⟩
  exact ⟨j, List.mem_range.2 hj, by rw [if_neg hn]; simp⟩
omit h in
theorem z3t {g s i : Nat}  : t ∈ z01 m g s i ↔ (E m s i).To ≠ -1 ∧ ((g = 1 ∧ t = (s, i, 0)) ∨ (g ≠ 1 ∧ t ∈ z6K m s i)) := by
 unfold z01
 split
 ·rename_i hn; simp [hn]
 ·rename_i hn
  split
  ·rename_i h1; simp [hn, h1]
  ·rename_i h1; simp [hn, h1]
omit h in
theorem z3s {g s : Nat}  : t ∈ z2i m g s ↔ (g = 0 ∧ t = (s, 0, 0)) ∨ (g ≠ 0 ∧ ∃ i, i < kk m ∧ t ∈ z01 m g s i) := by
 unfold z2i
 split
 ·rename_i h0; simp [h0]
 ·rename_i h0
  simp [h0, List.mem_flatMap]
omit h in
theorem z8U : t ∈ GL m g ↔ ∃ s, s < m.Rows.length ∧ Rc m s ∧ t ∈ z2i m g s := by
 unfold GL
 rw [List.mem_flatMap]
 constructor
 ·rintro ⟨s, hs, q⟩
  split at q
  ·rename_i hr; exact ⟨s, List.mem_range.1 hs, hr, q⟩
  ·simp at q
 ·rintro ⟨s, hs, hr, q⟩
  exact ⟨s, List.mem_range.2 hs, by rw [if_pos hr]; exact q⟩
theorem z62 {l : List (List Nat)} (hl : WL m l) :
  (∀ s : Nat, (s : Int) ∈ (cv0 m l).1 ↔ Kd m l ⟨s, -1, -1⟩) ∧ (∀ s j : Nat, (⟨s, j⟩ : x5 Int) ∈ (cv0 m l).2.1 ↔ Kd m l ⟨s, j, -1⟩) ∧ (∀ s j k : Nat, (⟨s, j, k⟩ : z8) ∈ (cv0 m l).2.2 ↔ Kd m l ⟨s, j, k⟩) := by
 obtain ⟨a1, a2, a3⟩ := zaS h (l := l) (x := ([0], [], [])) (fun w hw => (hl.2 w hw).1) (by simp)
 refine ⟨fun s => ?_, fun s j => ?_, fun s j k => ?_⟩
 ·show (s : Int) ∈ (cvA m l _).1 ↔ _
  rw [a1]
  unfold Kd
  simp only [z64, List.mem_singleton, za.mk.injEq, and_true]
  exact or_comm
 ·show (⟨s, j⟩ : x5 Int) ∈ (cvA m l _).2.1 ↔ _
  rw [a2]
  unfold Kd
  simp only [z65, List.not_mem_nil, false_or, za.mk.injEq]
  constructor
  ·exact .inl
  ·rintro (q | q)
   ·exact q
   ·omega
 ·show (⟨s, j, k⟩ : z8) ∈ (cvA m l _).2.2 ↔ _
  rw [a3]
  unfold Kd
  simp only [z96, List.not_mem_nil, false_or, za.mk.injEq]
  constructor
  ·exact .inl
  ·rintro (q | q)
   ·exact q
   ·omega
end
open Classical
theorem z8w {k n : Nat} (hk : k ≤ 3) (hn : n ≤ 6) : GG k n ≤ 1000000000 := by
 have h1 : GG k n ≤ GG k 6 := z11 hn
 have h2 : GG k 6 ≤ 1000000000 := by
  have : k = 0 ∨ k = 1 ∨ k = 2 ∨ k = 3 := by omega
  rcases this with rfl | rfl | rfl | rfl <;> decide
 omega
section
variable {m : z6} (h : VM m)
include h
theorem zbq {w : List Int} (h0 : ∀ v ∈ w, 0 ≤ v ∧ v ≤ 255) : Ret (Yy w m.Inputs 8) fun r => ∃ u : List Nat, r = wN u ∧ Wd (kk m) u ∧ u.length ≤ 8 := by
 have hk := h.kk_eq
 have hp := h.kk_pos
 unfold Yy
 rw [uj]
 refine Ret.mono (ui (fun s => ∃ (i : Nat) (u : List Nat), s = (wN u, (i : Int)) ∧ u.length = i ∧ i ≤ 8 ∧ Wd (kk m) u) (fun s => 8 - s.2.toNat) (R := fun r => ∃ u : List Nat, r = wN u ∧ Wd (kk m) u ∧ u.length ≤ 8) ⟨0, [], rfl, rfl, by omega, fun i hi => by simp at hi⟩ (by simp) ?_) fun r q => by unfold kN; rw [zL]; exact q
 rintro s ⟨i, u, rfl, hu, hi, hw⟩
 unfold kM
 simp only
 rw [yV]
 constructor
 ·intro c1
  have c1 : (i : Int) < (w.length : Int) := by simpa using c1
  rw [yV]
  constructor
  ·intro c2
   have c2 : (i : Int) < 8 := by simpa using c2
   have hi' : i < w.length := by omega
   have hx := List.getElem?_eq_getElem hi'
   obtain ⟨v0, v1⟩ := h0 _ (List.getElem_mem hi')
   rw [yW, hx, oB, gdT (by have := h.in1; omega), vH (by omega) (by omega), gdT (by rw [KB]; simp; omega), zL]
   obtain ⟨v, hv⟩ : ∃ v : Nat, w[i] = (v : Int) := ⟨w[i].toNat, by omega⟩
   have e : Int.tmod w[i] m.Inputs = ((v % kk m : Nat) : Int) := by
    rw [hv, ← hk]
    rfl
   refine ⟨⟨i + 1, u ++ [v % kk m], ?_, by simp [hu], by omega, ?_⟩, ?_⟩
   ·rw [e, x3 (by omega)]
    simp [wN]
   ·intro j hj
    rcases List.mem_append.1 hj with q | q
    ·exact hw j q
    ·simp only [List.mem_singleton] at q; subst q; exact Nat.mod_lt _ (by omega)
   ·rw [x3 (by omega)]; omega
  ·intro _
   rw [zL]
   exact ⟨u, rfl, hw, by omega⟩
 ·intro _
  rw [zL]
  exact ⟨u, rfl, hw, by omega⟩
end
theorem zcv : ∀ {l : List (List Int)}, (∀ w ∈ l, ∃ u : List Nat, w = wN u ∧ Wd (kk m) u ∧ u.length ≤ 256) → ∃ L : List (List Nat), l = lN L ∧ ∀ u ∈ L, Wd (kk m) u ∧ u.length ≤ 256
 | [], _ => ⟨[], rfl, fun u hu => by simp at hu⟩
 | w :: l, h => by
  obtain ⟨u, rfl, q⟩ := h w (by simp)
  obtain ⟨L, rfl, q2⟩ := zcv (l := l) (fun w hw => h w (by simp [hw]))
  refine ⟨u :: L, rfl, fun v hv => ?_⟩
  rcases List.mem_cons.1 hv with e | e
  ·rw [e]; exact q
  ·exact q2 v e
structure XOk (m : z6) (l : List (List Nat)) : Prop where
 vm : VM m
 gg : GG (kk m) m.Rows.length ≤ 1000000000
 rows : m.Rows.length ≤ 6
 kk3 : kk m ≤ 3
 wl : WL m l
 sw : SW (lN l)
 len : l.length ≤ 12
 w8 : ∀ w ∈ l, w.length ≤ 8
theorem XOk.ch {l : List (List Nat)} (h : XOk m l) : chE m.Inputs (lN l) = 0 := by
 have hle : ∀ w ∈ lN l, w.length ≤ 8 := by
  intro w hw
  obtain ⟨u, hu, rfl⟩ := List.mem_map.1 hw
  rw [KB]; exact h.w8 u hu
 have hsy := z4K hle
 have hl := UN l
 have h12 := h.len
 refine z88.2 ⟨z3w.2 ⟨⟨h.vm.in1, h.vm.in16⟩, by omega, ?_⟩, h.sw, by omega⟩
 intro w hw
 refine ⟨by have := hle w hw; omega, ?_⟩
 obtain ⟨u, hu, rfl⟩ := List.mem_map.1 hw
 intro c hc
 obtain ⟨i, hi, rfl⟩ := List.mem_map.1 hc
 have := (h.wl.2 u hu).1 i hi
 have := h.vm.kk_eq
 simp only [Int.ofNat_eq_natCast]
 omega
theorem zhv {x : wn} (hM : MOk x.M) (hL : ∀ w ∈ x.L, ∀ v ∈ w, 0 ≤ v ∧ v ≤ 255) : Ret (Zf x) fun r => ∃ l : List (List Nat), r.2 = lN l ∧ XOk r.1 l := by
 obtain ⟨m, hm, v, _, hI, _, hR⟩ := zcn hM
 have hk : kk m ≤ 3 := by have := v.kk_eq; omega
 unfold Zf
 rw [hm, oB, uj]
 refine Ret.mono (ui (fun s => ∃ (i : Nat) (l : List (List Nat)), s = (lN l, (i : Int)) ∧ l.length = i ∧ i ≤ 12 ∧ ∀ u ∈ l, Wd (kk m) u ∧ u.length ≤ 8) (fun s => 12 - s.2.toNat) (R := fun r => ∃ l : List (List Nat), r = lN l ∧ l.length ≤ 12 ∧ ∀ u ∈ l, Wd (kk m) u ∧ u.length ≤ 8) ⟨0, [], rfl, rfl, by omega, fun i hi => by simp at hi⟩ (by simp) ?_) ?_
 ·rintro s ⟨i, l, rfl, hl, hi, hw⟩
  unfold kK
  simp only
  rw [yV]
  constructor
  ·intro c1
   have c1 : (i : Int) < (x.L.length : Int) := by simpa using c1
   rw [yV]
   constructor
   ·intro c2
    have c2 : (i : Int) < 12 := by simpa using c2
    have hi' : i < x.L.length := by omega
    have hx := List.getElem?_eq_getElem hi'
    obtain ⟨r, e, u, rfl, hu, hu8⟩ := zbq v (hL _ (List.getElem_mem hi'))
    rw [yW, hx, oB, e, oB, gdT (by rw [UN]; simp; omega), zL]
    refine ⟨⟨i + 1, l ++ [u], ?_, by simp [hl], by omega, ?_⟩, ?_⟩
    ·rw [x3 (by omega)]
     simp [lN]
    ·intro z hz
     rcases List.mem_append.1 hz with q | q
     ·exact hw z q
     ·simp only [List.mem_singleton] at q; subst q; exact ⟨hu, hu8⟩
    ·rw [x3 (by omega)]; omega
   ·intro _
    rw [zL]
    exact ⟨l, rfl, by omega, hw⟩
  ·intro _
   rw [zL]
   exact ⟨l, rfl, by omega, hw⟩
 ·rintro r ⟨l, rfl, hl, hw⟩
  unfold kL
  have hlen : ∀ z ∈ lN l, z.length ≤ 8 := by
   intro z hz
   obtain ⟨u, hu, rfl⟩ := List.mem_map.1 hz
   rw [KB]; exact (hw u hu).2
  rw [z7w (by rw [UN]; omega) (fun z hz => by have := hlen z hz; omega), oB, zL]
  obtain ⟨L, e, q⟩ := zcv (m := m) (l := srt (lN l)) (fun z hz => by
   obtain ⟨u, hu, rfl⟩ := List.mem_map.1 (z2D.1 hz)
   exact ⟨u, rfl, (hw u hu).1, by have := (hw u hu).2; omega⟩)
  have hL12 : L.length ≤ 12 := by
   have := z4O (lN l)
   rw [e, UN, UN] at this
   omega
  refine ⟨L, e, v, z8w hk hR, hR, hk, ⟨by omega, q⟩, by show SW (lN L); rw [← e]; exact z8D _, hL12, ?_⟩
  intro u hu
  have : wN u ∈ srt (lN l) := by rw [e]; exact List.mem_map.2 ⟨u, hu, rfl⟩
  have := hlen _ (z2D.1 this)
  rwa [KB] at this
section
variable {m : z6} {l : List (List Nat)}
theorem zaV (v : VM m) (hc : chE m.Inputs (lN l) = 0) : xW m (lN l) = some 0 := by
 unfold xW
 rw [z3Q, z97 v, oB, z4J, hc]
 rfl
end
open Classical
def mkd (g : Nat) (t : T3) (x : Mk3) : Prop := if g = 0 then (t.1 : Int) ∈ x.1 else if g = 1 then (⟨t.1, t.2.1⟩ : x5 Int) ∈ x.2.1 else (⟨t.1, t.2.1, t.2.2⟩ : z8) ∈ x.2.2
theorem zaO (m : z6) (g : Nat) (t : T3) (x : Mk3) : W5 (toC m g t).has_ (mk3 x) = some (decide (mkd g t x)) := by
 unfold toC mkd
 by_cases h0 : g = 0
 ·simp only [if_pos h0, W5, j7, mk3, QD]; rfl
 ·by_cases h1 : g = 1
  ·simp only [if_neg h0, if_pos h1, W5, j6, mk3, QD]; rfl
  ·simp only [if_neg h0, if_neg h1, W5, j5, mk3, QD]; rfl
section
variable {m : z6} (h : VM m)
include h
theorem zd7 {t : Nat} (ht : t < m.Rows.length) (hr : Rc m t) : Acc m t (z6y m t) := by
 obtain ⟨r, e, _, q⟩ := QO h
 exact ((z6x h q ht).2 hr).2
omit h in
theorem z8s (t i : Nat) (w : List Nat) : aft m (t : Int) (i :: w) = aft m (E m t i).To w := by
 show aft m (nxE m (t : Int) i).To w = _
 rw [z0A]
theorem z8v (hg : g < 3)  (ht : t ∈ GL m g) : t.1 < m.Rows.length ∧ Rc m t.1 ∧ (g ≠ 0 → t.2.1 < kk m ∧ (E m t.1 t.2.1).To ≠ -1) ∧ (g = 2 → t.2.2 < kk m ∧ (E m (E m t.1 t.2.1).To.toNat t.2.2).To ≠ -1) := by
 have _ := h
 obtain ⟨s, hs, hr, q⟩ := z8U.1 ht
 rcases z3s.1 q with ⟨rfl, rfl⟩ | ⟨h0, i, hi, q⟩
 ·exact ⟨hs, hr, fun q => (q rfl).elim, fun q => by omega⟩
 ·obtain ⟨hn, q⟩ := z3t.1 q
  rcases q with ⟨rfl, rfl⟩ | ⟨h1, q⟩
  ·exact ⟨hs, hr, fun _ => ⟨hi, hn⟩, fun q => by omega⟩
  ·obtain ⟨j, hj, hn2, rfl⟩ := z7E.1 q
   exact ⟨hs, hr, fun _ => ⟨hi, hn⟩, fun _ => ⟨hj, hn2⟩⟩
variable {l : List (List Nat)} (hl : WL m l) (h12 : l.length ≤ 12 ∧ ∀ w ∈ l, w.length ≤ 8) (hR : m.Rows.length ≤ 6) (h3 : kk m ≤ 3)
include hl h12 hR h3
omit hl h12 in
theorem z3W (g : Nat) : (GL m g).length ≤ 54 := by
 have _ := h
 have hP : ∀ s i, (z6K m s i).length ≤ 3 := fun s i => by
  have := JP (g := fun j => if (E m (E m s i).To.toNat j).To = -1 then [] else [(s, i, j)]) (C := 1) (kk m) (fun j _ => by split <;> simp)
  unfold z6K
  omega
 have hE : ∀ s i, (z01 m g s i).length ≤ 3 := fun s i => by
  unfold z01
  split
  ·simp
  split
  ·simp
  ·exact hP s i
 have hS : ∀ s, (z2i m g s).length ≤ 9 := fun s => by
  unfold z2i
  split
  ·simp
  ·have := JP (g := z01 m g s) (C := 3) (kk m) (fun i _ => hE s i)
   omega
 have := JP (g := fun s => if Rc m s then z2i m g s else []) (C := 9) m.Rows.length (fun s _ => by split <;> first | exact hS s | simp)
 unfold GL
 omega
omit h hl h12 hR h3 in
theorem z28 {s j : Nat} : ∀ (w : List Nat) (t : Nat), z84 m s j t w → (E m s j).To ≠ -1 → z4w m (E m s j).To.toNat t w
 | [], _, q, _ => q.elim
 | i :: w, t, ⟨hn, q⟩, hn2 => by
  rcases q with ⟨rfl, rfl⟩ | q
  ·refine .inr ⟨hn, ?_⟩
   cases w <;> simp [z4w]
  ·exact .inr ⟨hn, z28 w _ q hn2⟩
omit hl h12 hR h3 in
theorem z23 {K : List (List Nat)} (hc : ∀ t ∈ GL m 1, Kd m K (toI 1 t)) : ∀ t ∈ GL m 0, Kd m K (toI 0 t) := by
 intro t ht
 obtain ⟨a1, a2, _, _⟩ := z8v h (by decide) ht
 have ha := zd7 h a1 a2
 show Kd m K ⟨(t.1 : Int), -1, -1⟩
 generalize t.1 = s at *
 generalize z6y m s = v at ha
 rcases List.eq_nil_or_concat v with rfl | ⟨u, i, rfl⟩
 ·have : ((0 : Nat) : Int) = (s : Int) := ha.aft
  have : s = 0 := by omega
  subst this
  exact .inr rfl
 ·rw [List.concat_eq_append] at ha
  have hu : Wd (kk m) u := fun j hj => ha.wd j (by simp [hj])
  have hi : i < kk m := ha.wd i (by simp)
  have haf := ha.aft
  rw [K6] at haf
  have hin := z2g h u 0 ⟨by omega, by have := h.len1; omega⟩ hu
  obtain ⟨p, hp⟩ : ∃ p : Nat, aft m 0 u = (p : Int) := by
   rcases Int.lt_or_le (aft m 0 u) 0 with q | q
   ·have := z2X m [i] _ q
    omega
   ·exact ⟨(aft m 0 u).toNat, by omega⟩
  have hpn : p < m.Rows.length := by have := hin.2; omega
  rw [hp, z8s] at haf
  have haf : (E m p i).To = (s : Int) := haf
  have hn : (E m p i).To ≠ -1 := by omega
  have hg : (p, i, 0) ∈ GL m 1 := z8U.2 ⟨p, hpn, ⟨u, hu, hp⟩, z3s.2 (.inr ⟨by decide, i, hi, z3t.2 ⟨hn, .inl ⟨rfl, rfl⟩⟩⟩)⟩
  rcases hc _ hg with ⟨w, hw, q⟩ | q
  ·have q' := z28 w 0 ((z65 p i w 0).1 q) hn
   rw [show (E m p i).To.toNat = s by omega] at q'
   exact .inl ⟨w, hw, (z64 s w 0).2 q'⟩
  ·have : (toI 1 (p, i, 0)).Input = -1 := by rw [q]
   have : ((i : Nat) : Int) = -1 := this
   omega
end
end Go.Own
end
