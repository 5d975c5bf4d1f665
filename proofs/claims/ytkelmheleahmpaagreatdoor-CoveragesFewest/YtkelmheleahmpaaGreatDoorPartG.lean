/- Walks, further. -/
import Derived.Test.YtkelmheleahmpaaGreatDoorPartF
import Derived.Test.YtkelmheleahmpaaGreatDoorPartC
import Derived.Test.YtkelmheleahmpaaGreatDoorPartE
noncomputable section
set_option linter.unusedVariables false
set_option linter.unusedSimpArgs false
namespace Go.Own
theorem oB {α : Type _} {β : Type _} (a : α) (f : α → Option β) : Option.bind (some a) f = f a := rfl
open Go.Proofs
set_option maxRecDepth 100000
set_option maxHeartbeats 8000000
def wD : Code := (Tryz.f51.body).getD .skip
def Zi : yk := spF (α := List (List Int)) (ρ := List (List Int) × Int) 51 (fun x => [qA x]) (fun r => .tup [z32 r.1, (eI .i64) r.2]) (fun x => XI x) [] (Kq)
abbrev VH (out : List (List Int × Bool)) : List (Nat × T) := [(4, .own (eOs 1 true (eFl 1 (eI .i64)) out))]
abbrev VG (dg : Value) (am : List (List Int)) (a8 : List (List Int × Bool)) (eu : Int) : List (Nat × T) := [(4, .own (eOs 1 true (eFl 1 (eI .i64)) a8)), (22, .d (.atom (Ya 1 dg (0 : Int)))), (23, .d (I ((am.length - (0 : Int).toNat : Nat) : Int))), (24, .d (I eu))]
variable {ctr : Ctr}
theorem Kg (hC : zL Tryz.prog ctr) (h0U : ctr.Has vz) (h09 : ctr.Has vW) (h0V : ctr.Has xO) (h0b : ctr.Has jJ) (h01 : ctr.Has yl) (h00 : ctr.Has yp) : Zi.Ok Tryz.prog := by
 refine zS ?_
 rintro l_ r0 aa
 try unfold XI at aa
 refine yO false [(2, none), (3, none)] wD 37 Tryz.func51 fun E hE => ?_
 obtain ⟨r_, h0, aa⟩ := zm aa
 refine yA X0 hC wD [1,1] [] [(4, .own (eOs 1 false F7_ r_))] [Hc h0U (x := l_) h0 (loC qA l_ <| loN), Hh (.cut 0)] ?_
 obtain ⟨sorted, h1, aa⟩ := zm aa
 refine z2f (by kernel_rfl) (x := (sub [1,1,0] wD)) (y := (sub [1,1,1] wD)) 4 (fun st1 => Own.canon [4] st1 = ofL [(4, .own (eOs 1 false F7_ sorted))]) (fun dg => yF ((zeU (P := Tryz.prog) wq [4] (z4V zf5 (f := F7_) (t := false) (v := dg) (fun _ => rfl) (fun _ => rfl) (fun x y c h => zaX hC h09 (x := (x, y)) h) h1) 10).or X0) hC .normal [(4, .own (eOs 1 false F7_ sorted))] [Hn (za8 (f := .fn 66 []) (xs := [.atom dg, .fn 67 []]) (ls := [(dg, eOs 1 false F7_ r_)]) (r := .tup []) (ys := [eOs 1 false F7_ sorted]) [.atom dg, .fn 67 []] (show VS [.atom dg, .fn 67 []] [.atom dg, .fn 67 []] from inferInstance))] fun st0 h0 => ⟨rfl, h0⟩) fun st1 h1 => z6r h1 ?_
 obtain ⟨ah, h2, aa⟩ := zm aa
 obtain ⟨am, h3, aa⟩ := zm aa
 let Z0 : List HO := [Hc h0V (x := (sorted, ())) h2 (loC z6F sorted <| loC (zbA 70) () <| loN), Hh (.g [true]), Hn ZS, Hx (.a ((eOs 1 true F7_) am)) (ZR ah _ h3), Ha (lnM F7_ am)]
 rcases y8 aa with ⟨c0, aa⟩ | ⟨c0, aa⟩
 ·obtain rfl := zi aa
  exact yEx ((z9r zC (va hC) 13).or X0) hC hE (Z0 ++ (rpN 4 (Hq c0) [qT, Hm (shM F7_ F7_ [])])) (.tup [eSl 1 true F2_ [], I 3]) (show LeV (.tup [eSl 1 true F2_ [], I 3]) (.tup [eSl 1 true F2_ ([] : List (List Int)), I 3]) from inferInstance)
 ·obtain ⟨au, h4, aa⟩ := zm aa
  let Z1 : List HO := (Z0 ++ [Hq c0, Hq c0, Hg (Kr h0b), Hm (shM F7_ F7_ am), Hs (Ks h0b (x := am) h4 (loC zbr am <| loN)), Hq c0, Hq c0])
  rcases y8 aa with ⟨c1, aa⟩ | ⟨c1, aa⟩
  ·obtain rfl := zi aa
   exact yEx ((z9r zC (va hC) 13).or X0) hC hE (Z1 ++ [Hq c1, Hm (shM F7_ F7_ [])]) (.tup [eSl 1 true F2_ [], I 3]) (show LeV (.tup [eSl 1 true F2_ [], I 3]) (.tup [eSl 1 true F2_ ([] : List (List Int)), I 3]) from inferInstance)
  ·refine yA ((z9r zC (va hC) 13).or X0) hC wD [1,1,1,1,1] [] [(4, .own (eOs 1 true F7_ am))] (Z1 ++ [Hq c1, Hh (.cut 0)]) ?_
   refine z6q (y := eOs 1 true F7_ am) (by kernel_rfl) 4 (by kernel_rfl) (by kernel_rfl) fun dg hv4 => ?_
   refine yJ X0 hC wD [1,1,1,1,1] [] [4] (fun z : List (List Int × Bool) => Ze z = some r0) (fun z => VH z) [(4, .own (eOs 1 true F7_ am))] [Hh (.cut 0)] ?_ fun J1 ay => ?_
   ·rintro out aa
    unfold Ze at aa
    obtain ⟨hfl0, aa⟩ := gdE aa
    obtain rfl := zi aa
    exact yEx X0 hC hE [Hm (shM (eFl 1 (eI .i64)) (eFl 1 (eI .i64)) out)] (.tup [eSl 1 true (eFl 1 (eI .i64)) out, I 0]) (haveI := flA (s := 1) (t := 1) (b := true) (f := (eI .i64)) hfl0; show LeV (.tup [eSl 1 true (eFl 1 (eI .i64)) out, I 0]) (.tup [eSl 1 true F2_ (out.map (·.1)), I 0]) from inferInstance)
   ·obtain ⟨t2, ht2, aa⟩ := zm aa
    refine yLx ((xVl zC 23 31 1 4 dg (0 : Int) (by kernel_rfl)).or ((xMw Tryz.prog 22 4 1 dg).or X0)) hC wD [1,1,1,1,1,2,1,0] [J1] (fun s => Zd am s.1 s.2) (fun x => VG dg am x.1 x.2) ((am.map fun q => (q, false)), 0) ht2 [(4, .own (eOs 1 true F7_ am)), (22, .d (.atom (Ya 1 dg (0 : Int)))), (23, .d (I ((am.length - (0 : Int).toNat : Nat) : Int))), (24, .d (I 0))] inferInstance [Hn (rfl : some dg = some dg), Hn (⟨rfl, rfl⟩ : T.d (.atom (Ya 1 dg (0 : Int))) = T.d (.atom (Ya 1 dg (0 : Int))) ∧ some dg = some dg), Hx (.a (.atom (.int .i64 ((am.length - (0 : Int).toNat : Nat) : Int)))) (vlM F7_ am (0 : Int).toNat)] ?_
    rintro ⟨a8, eu⟩ m2 bg ae hl1 J2 a6
    try unfold Zd at ae
    rcases y8 ae with ⟨c2, ae⟩ | ⟨c2, ae⟩
    ·obtain ⟨g0, ae⟩ := gdE ae
     obtain ⟨dj, h5, ae⟩ := zm ae
     obtain ⟨aw, h6, ae⟩ := zm ae
     obtain ⟨bz, h7, ae⟩ := zm ae
     obtain ⟨eb, h8, ae⟩ := zm ae
     obtain rfl := zi ae
     exact yB ((xVi zC 27 1 4 dg (0 : Int)).or X0) hC a6 ((a8.set eu.toNat (bz, true)), w64 (eu + 1)) hl1 [Hq c2, Hn (⟨rfl, rfl⟩ : T.d (.atom (Ya 1 dg (0 : Int))) = T.d (.atom (Ya 1 dg (0 : Int))) ∧ some dg = some dg), Hn (⟨g0.1, g0.2, (iL (eFl 1 (eI .i64)) h5).2⟩ : (0 : Int) ≤ 0 ∧ (0 : Int) ≤ eu ∧ (0 + eu).toNat < (a8.map (eFl 1 (eI .i64))).length), Hs (iM (eFl 1 (eI .i64)) h5), Hc h01 (x := dj.1) h6 (loC (eSl 1 dj.2 (eI .i64)) dj.1 <| loN), Hg (Kr h00), Hm (shM (eI .i64) (eI .i64) aw), Hs (Ks h00 (x := aw) h7 (loC F7_ aw <| loN)), Hm (shM (eI .i64) (eI .i64) aw), Hn (iL (eFl 1 (eI .i64)) h8), Hs (iM (eFl 1 (eI .i64)) h8), Hs (iM (eFl 1 (eI .i64)) h8), Hl (sM (eFl 1 (eI .i64)) a8 eu (bz, true))]
    ·obtain rfl := zi ae
     obtain rfl := hl1
     exact yB X0 hC ay a8 aa [Hq c2]
def z0S : Code := (Tryz.f33.body).getD .skip
def YL : yk := spF (α := List (List Int) × Int) (ρ := List (List Int) × Int) 33 (fun x => [qA x.1, (eI .i64) x.2]) (fun r => .tup [z32 r.1, (eI .i64) r.2]) (fun x => Ub x.1 x.2) [] (Um)
theorem z18 (hC : zL Tryz.prog ctr) (h0e : ctr.Has jK) (h0W : ctr.Has Zi) : YL.Ok Tryz.prog := by
 refine zS ?_
 rintro ⟨l_, inputs⟩ r0 aa
 try unfold Ub at aa
 refine yO false [(4, none), (5, none)] z0S 17 Tryz.func33 fun E hE => ?_
 obtain ⟨r_, h0, aa⟩ := zm aa
 let Z0 : List HO := [Hc h0e (x := (l_, inputs)) h0 (loC qA l_ <| loC (eI .i64) inputs <| loN)]
 rcases y8 aa with ⟨c0, aa⟩ | ⟨c0, aa⟩
 ·obtain rfl := zi aa
  exact yEx X0 hC hE (Z0 ++ [Hq c0, Hm (shM F7_ F7_ [])]) (.tup [eSl 1 true F2_ [], I r_]) (show LeV (.tup [eSl 1 true F2_ [], I r_]) (.tup [eSl 1 true F2_ ([] : List (List Int)), I r_]) from inferInstance)
 ·obtain ⟨ah, h1, aa⟩ := zm aa
  obtain rfl := zi aa
  exact yE X0 hC hE (Z0 ++ [Hq c0, Hc h0W (x := l_) h1 (loC qA l_ <| loN)])
def xK : Code := (Tryz.f11.body).getD .skip
def qp : yk := spF (α := z6 × List (List Int) × Int) (ρ := List (List Int) × Int) 11 (fun x => [yj x.1, qA x.2.1, (eI .i64) x.2.2]) (fun r => .tup [z32 r.1, (eI .i64) r.2]) (fun x => kp x.1 x.2.1 x.2.2) [] (z5R)
abbrev XE (m_ : z6) (aj : List (List Int)) : List (Nat × T) := [(3, .own (.box (yj m_))), (10, .own (eOs 1 false F2_ aj))]
abbrev XD (m_ : z6) (au : List za) (ee : Int) (bk : List (Int × Bool)) (bu : List ((xF Int) × Bool)) (bf : List (z8 × Bool)) (br : List (List Int)) : List (Nat × T) := [(3, .own (.box (yj m_))), (9, .own (.box (.agg [.opq (yd (zt (eI .i64) eB bk)), .opq (yd (zt F0_ eB bu)), .opq (yd (zt zH eB bf))]))), (10, .own (eOs 1 false F2_ br)), (48, .own (eOs 5 false (zc F7_ zH zD) au)), (49, .d (I ((au.length : Nat) : Int))), (50, .d (I ee))]
abbrev XC (m_ : z6) (au : List za) (al : List (Int × Bool)) (ap : List ((xF Int) × Bool)) (aq : List (z8 × Bool)) (a8 : List (List Int)) (ee : Int) : List (Nat × T) := [(3, .own (.box (yj m_))), (9, .own (.box (.agg [.opq (yd (zt (eI .i64) eB al)), .opq (yd (zt F0_ eB ap)), .opq (yd (zt zH eB aq))]))), (10, .own (eOs 1 false F2_ a8)), (48, .own (eOs 5 false (zc F7_ zH zD) au)), (49, .d (I ((au.length : Nat) : Int))), (50, .d (I ee))]
abbrev XF (m_ : z6) (goal : Int) (ah : zh) (out : List (List Int)) : List (Nat × T) := [(2, .d (I goal)), (3, .own (.box (yj m_))), (9, .own (.box ((zT (eMp (eI .i64) eB) (eMp F0_ eB) (eMp zH eB)) ah))), (10, .own (eOs 1 false F2_ out))]
abbrev XB (m_ : z6) (l_ : List (List Int)) (goal : Int) (ah : zh) (cu : List (List Int)) (gt : Int) : List (Nat × T) := [(2, .d (I goal)), (3, .own (.box (yj m_))), (9, .own (.box ((zT (eMp (eI .i64) eB) (eMp F0_ eB) (eMp zH eB)) ah))), (10, .own (eOs 1 false F2_ cu)), (33, .d (eSl 1 false F7_ l_)), (34, .d (I ((l_.length : Nat) : Int))), (35, .d (I gt))]
theorem Vj (hC : zL Tryz.prog ctr) (h04 : ctr.Has xY) (h02 : ctr.Has xm) (h01 : ctr.Has yl) (h00 : ctr.Has yp) (h05 : ctr.Has wK) (h0q : ctr.Has YL) : qp.Ok Tryz.prog := by
 refine zS ?_
 rintro ⟨m_, l_, goal⟩ r0 aa
 try unfold kp at aa
 refine yO false [(6, none), (7, none)] xK 81 Tryz.func11 fun E hE => ?_
 obtain ⟨r_, h0, aa⟩ := zm aa
 let Z0 : List HO := [Hc h04 (x := (m_, l_)) h0 (loC yj m_ <| loC qA l_ <| loN)]
 rcases y8 aa with ⟨c0, aa⟩ | ⟨c0, aa⟩
 ·obtain rfl := zi aa
  exact yEx X0 hC hE (Z0 ++ [Hq c0, Hm (shM F7_ F7_ [])]) (.tup [eSl 1 true F2_ [], I r_]) (show LeV (.tup [eSl 1 true F2_ [], I r_]) (.tup [eSl 1 true F2_ ([] : List (List Int)), I r_]) from inferInstance)
 ·rcases y8 aa with ⟨c1, aa⟩ | ⟨c1, aa⟩
  ·obtain rfl := zi aa
   exact yEx X0 hC hE (Z0 ++ [Hq c0, Hq c1, Hq c1, Hq c1, qT, Hm (shM F7_ F7_ [])]) (.tup [eSl 1 true F2_ [], I 1]) (show LeV (.tup [eSl 1 true F2_ [], I 1]) (.tup [eSl 1 true F2_ ([] : List (List Int)), I 1]) from inferInstance)
  ·let Z1 : List HO := (Z0 ++ [Hq c0, Hq c1, Hq c1, Hq c1])
   rcases y8 aa with ⟨c2, aa⟩ | ⟨c2, aa⟩
   ·obtain rfl := zi aa
    exact yEx X0 hC hE (Z1 ++ [Hq c2, Hm (shM F7_ F7_ [])]) (.tup [eSl 1 true F2_ [], I 1]) (show LeV (.tup [eSl 1 true F2_ [], I 1]) (.tup [eSl 1 true F2_ ([] : List (List Int)), I 1]) from inferInstance)
   ·obtain ⟨ah, h1, aa⟩ := zm aa
    obtain ⟨g0, aa⟩ := gdE aa
    refine yJ X0 hC xK [1,1,1,1,1] [] [2,3,9,10] (fun z : List (List Int) => qw m_ goal ah z = some r0) (fun z => XF m_ goal ah z) [(1, .d (eSl 1 false F7_ l_)), (2, .d (I goal)), (3, .own (.box (yj m_))), (9, .own (.box ((zT (eMp (eI .i64) eB) (eMp F0_ eB) (eMp zH eB)) ah))), (10, .own (eOs 1 (decide ((0 : Int) = ((l_.length : Nat) : Int))) F7_ []))] (Z1 ++ [Hq c2, Hc h02 (x := (m_, l_)) h1 (loC yj m_ <| loC qA l_ <| loN), Ha (lnM F7_ l_), Hn (rL0 g0), Hx (.a (eOs 1 (decide ((0 : Int) = ((l_.length : Nat) : Int))) F7_ ([] : List (List Int)))) (rM0 1 F7_ ((l_.length : Nat) : Int) (eOs 1 true (eI .i64) [])), Hh (.cut 0)]) ?_ fun J1 ay => ?_
    ·rintro out aa
     unfold qw at aa
     refine yJ X0 hC xK [1,1,1,1,1,1] [] [3,10] (fun z : List (List Int) => qu m_ z = some r0) (fun z => XE m_ z) [(2, .d (I goal)), (3, .own (.box (yj m_))), (9, .own (.box ((zT (eMp (eI .i64) eB) (eMp F0_ eB) (eMp zH eB)) ah))), (10, .own (eOs 1 false F2_ out))] [Hh (.cut 0)] ?_ fun J2 a6 => ?_
     ·rintro aj aa
      unfold qu at aa
      let Z2 : List HO := [Ha (lnM F2_ aj)]
      rcases y8 aa with ⟨c3, aa⟩ | ⟨c3, aa⟩
      ·obtain rfl := zi aa
       exact yEx X0 hC hE (Z2 ++ [Hq c3, Hm (shM F7_ F7_ [])]) (.tup [eSl 1 true F2_ [], I 3]) (show LeV (.tup [eSl 1 true F2_ [], I 3]) (.tup [eSl 1 true F2_ ([] : List (List Int)), I 3]) from inferInstance)
      ·obtain ⟨am, h2, aa⟩ := zm aa
       obtain rfl := zi aa
       exact yE X0 hC hE (Z2 ++ [Hq c3, Hg (Kr h0q), Hm (shM F2_ F2_ aj), Hs (Ks h0q (x := (aj, m_.Inputs)) h2 (loC (eSl 1 false F2_) aj <| loC (eI .i64) m_.Inputs <| loN)), Hm (shM F2_ F2_ aj)])
     ·obtain ⟨au, h3, aa⟩ := zm aa
      obtain ⟨t3, ht3, aa⟩ := zm aa
      refine yL X0 hC xK [1,1,1,1,1,1,2,1,0] [J2] (fun s => qt m_ au s.1 s.2.1 s.2.2.1 s.2.2.2.1 s.2.2.2.2) (fun x => XC m_ au x.1 x.2.1 x.2.2.1 x.2.2.2.1 x.2.2.2.2) (ah.states_, ah.edges_, ah.pairs_, out, 0) ht3  [Hc h05 (x := (m_, goal)) h3 (loC yj m_ <| loC (eI .i64) goal <| loN), Ha (lnM (zc F7_ zH zD) au)] ?_
      rintro ⟨al, ap, aq, a8, ee⟩ m3 bg ae hl1 J3 ce
      try unfold qt at ae
      rcases y8 ae with ⟨c4, ae⟩ | ⟨c4, ae⟩
      ·refine yJ X0 hC xK [1,1,1,1,1,1,2,1,0,0,1,1] [J2, J3] [3,9,10,48,49,50] (fun z : (List (Int × Bool)) × (List ((xF Int) × Bool)) × (List (z8 × Bool)) × List (List Int) => vU ee z.1 z.2.1 z.2.2.1 z.2.2.2 = some bg) (fun z => XD m_ au ee z.1 z.2.1 z.2.2.1 z.2.2.2) [(3, .own (.box (yj m_))), (9, .own (.box (.agg [.opq (yd (zt (eI .i64) eB al)), .opq (yd (zt F0_ eB ap)), .opq (yd (zt zH eB aq))]))), (10, .own (eOs 1 false F2_ a8)), (48, .own (eOs 5 false (zc F7_ zH zD) au)), (49, .d (I ((au.length : Nat) : Int))), (50, .d (I ee))] [Hq c4, Hh (.cut 0)] ?_ fun J4 d0 => ?_
       ·rintro ⟨bk, bu, bf, br⟩ ae
        unfold vU at ae
        obtain rfl := zi ae
        exact yB X0 hC ce (bk, bu, bf, br, w64 (ee + 1)) hl1 []
       ·obtain ⟨ca, h4, ae⟩ := zm ae
        obtain ⟨aw, h5, ae⟩ := zm ae
        let Z3 : List HO := [Hn (iL (zc F7_ zH zD) h4), Hs (iM (zc F7_ zH zD) h4), Hn (⟨rfl, leP (show VS [] [] from inferInstance), leP (show VS [] [] from inferInstance), rfl, rfl⟩ : ([zD ca.has_] : List A) = [zD ca.has_] ∧ LeP [] [] ∧ LeP [] [] ∧ T.als 9 [.deref] 0 0 = T.als 9 [.deref] 0 0 ∧ (some (.agg [.opq (yd (zt (eI .i64) eB al)), .opq (yd (zt F0_ eB ap)), .opq (yd (zt zH eB aq))]) : Option A) = some (.agg [.opq (yd (zt (eI .i64) eB al)), .opq (yd (zt F0_ eB ap)), .opq (yd (zt zH eB aq))]))]
        rcases y8 ae with ⟨c5, ae⟩ | ⟨c5, ae⟩
        ·obtain ⟨bz, h6, ae⟩ := zm ae
         obtain ⟨bp, h7, ae⟩ := zm ae
         obtain ⟨dx, h8, ae⟩ := zm ae
         obtain ⟨g1, ae⟩ := gdE ae
         exact yB ((Yj (P := Tryz.prog) wq 9 0 [.deref] (fa := .fn 32 []) (r := .tup []) (xl := []) (xr := [yj m_, F7_ ca.word_]) (qs := [(yd (zt (eI .i64) eB al)), (yd (zt F0_ eB ap)), (yd (zt zH eB aq))]) (qs' := [(yd (zt (eI .i64) eB bz.states_)), (yd (zt F0_ eB bz.edges_)), (yd (zt zH eB bz.pairs_))]) (es := [(zt (eI .i64) eB al), (zt F0_ eB ap), (zt zH eB aq)]) (es' := [(zt (eI .i64) eB bz.states_), (zt F0_ eB bz.edges_), (zt zH eB bz.pairs_)]) (.inr rfl) (z4j (by kernel_rfl)) (.cons (wh (zt (eI .i64) eB al)) (.cons (wh (zt F0_ eB ap)) (.cons (wh (zt zH eB aq)) (.nil)))) (fun us hu => jP hC _ _ _ _ h6 us hu) (some 63)).or ((Yj (P := Tryz.prog) wq 9 0 [.deref] (fa := zD ca.has_) (r := B aw) (xl := []) (xr := []) (qs := [(yd (zt (eI .i64) eB al)), (yd (zt F0_ eB ap)), (yd (zt zH eB aq))]) (qs' := [(yd (zt (eI .i64) eB al)), (yd (zt F0_ eB ap)), (yd (zt zH eB aq))]) (es := [(zt (eI .i64) eB al), (zt F0_ eB ap), (zt zH eB aq)]) (es' := [(zt (eI .i64) eB al), (zt F0_ eB ap), (zt zH eB aq)]) (.inr rfl) (z4j (by kernel_rfl)) (.cons (wh (zt (eI .i64) eB al)) (.cons (wh (zt F0_ eB ap)) (.cons (wh (zt zH eB aq)) (.nil)))) (fun us hu => Ym hC _ _ _ h5 us hu) (some 57)).or X0)) hC d0 (bz.states_, bz.edges_, bz.pairs_, (a8 ++ ([dx] : List (List Int)))) ae (Z3 ++ [Hq c5, Hn (⟨rfl, leP (show VS [] [] from inferInstance), leP (show VS [yj m_, F7_ ca.word_] [yj m_, F7_ ca.word_] from inferInstance), rfl, rfl⟩ : ([.fn 32 []] : List A) = [.fn 32 []] ∧ LeP [] [] ∧ LeP [yj m_, F7_ ca.word_] [yj m_, F7_ ca.word_] ∧ T.als 9 [.deref] 0 1 = T.als 9 [.deref] 0 1 ∧ (some (.agg [.opq (yd (zt (eI .i64) eB al)), .opq (yd (zt F0_ eB ap)), .opq (yd (zt zH eB aq))]) : Option A) = some (.agg [.opq (yd (zt (eI .i64) eB al)), .opq (yd (zt F0_ eB ap)), .opq (yd (zt zH eB aq))])), Hc h01 (x := ca.word_) h7 (loC F7_ ca.word_ <| loN), Hg (Kr h00), Hm (shM (eI .i64) (eI .i64) bp), Hs (Ks h00 (x := bp) h8 (loC F7_ bp <| loN)), Hm (shM (eI .i64) (eI .i64) bp), Hq (dM F2_ ([dx] : List (List Int))), Hn (dM F2_ ([dx] : List (List Int))), Hn (aL F2_ F2_ g1), Hl (aM F2_ a8 ([dx] : List (List Int)))])
        ·exact yB ((Yj (P := Tryz.prog) wq 9 0 [.deref] (fa := zD ca.has_) (r := B aw) (xl := []) (xr := []) (qs := [(yd (zt (eI .i64) eB al)), (yd (zt F0_ eB ap)), (yd (zt zH eB aq))]) (qs' := [(yd (zt (eI .i64) eB al)), (yd (zt F0_ eB ap)), (yd (zt zH eB aq))]) (es := [(zt (eI .i64) eB al), (zt F0_ eB ap), (zt zH eB aq)]) (es' := [(zt (eI .i64) eB al), (zt F0_ eB ap), (zt zH eB aq)]) (.inr rfl) (z4j (by kernel_rfl)) (.cons (wh (zt (eI .i64) eB al)) (.cons (wh (zt F0_ eB ap)) (.cons (wh (zt zH eB aq)) (.nil)))) (fun us hu => Ym hC _ _ _ h5 us hu) (some 57)).or X0) hC d0 (al, ap, aq, a8) ae (Z3 ++ [Hq c5])
      ·obtain rfl := zi ae
       obtain rfl := hl1
       exact yB X0 hC a6 a8 aa [Hq c4]
    ·obtain ⟨t5, ht5, aa⟩ := zm aa
     refine yLx X0 hC xK [1,1,1,1,1,2,1,0] [J1] (fun s => qr l_ s.1 s.2) (fun x => XB m_ l_ goal ah x.1 x.2) (([] : List (List Int)), 0) ht5 [(2, .d (I goal)), (3, .own (.box (yj m_))), (9, .own (.box ((zT (eMp (eI .i64) eB) (eMp F0_ eB) (eMp zH eB)) ah))), (10, .own (eOs 1 (decide ((0 : Int) = ((l_.length : Nat) : Int))) F2_ [])), (33, .d (eSl 1 false F7_ l_)), (34, .d (I ((l_.length : Nat) : Int))), (35, .d (I 0))] inferInstance [Ha (lnM F7_ l_)] ?_
     rintro ⟨cu, gt⟩ m5 bg ae hl1 J5 dn
     try unfold qr at ae
     rcases y8 ae with ⟨c6, ae⟩ | ⟨c6, ae⟩
     ·obtain ⟨ax, h9, ae⟩ := zm ae
      obtain ⟨dr, h10, ae⟩ := zm ae
      obtain ⟨cn, h11, ae⟩ := zm ae
      obtain ⟨g2, ae⟩ := gdE ae
      obtain rfl := zi ae
      exact yB X0 hC dn ((cu ++ ([cn] : List (List Int))), w64 (gt + 1)) hl1 [Hq c6, Hi F7_ h9, Hc h01 (x := ax) h10 (loC F7_ ax <| loN), Hg (Kr h00), Hm (shM (eI .i64) (eI .i64) dr), Hs (Ks h00 (x := dr) h11 (loC F7_ dr <| loN)), Hm (shM (eI .i64) (eI .i64) dr), Hq (dM F2_ ([cn] : List (List Int))), Hn (dM F2_ ([cn] : List (List Int))), Hn (aL F2_ F2_ g2), Hl (aM F2_ cu ([cn] : List (List Int)))]
     ·obtain rfl := zi ae
      obtain rfl := hl1
      exact yB X0 hC ay cu aa [Hq c6]
def Yf : Code := (Tryz.f86.body).getD .skip
def vd : yk := spF (α := Int) (ρ := List UInt8) 86 (fun x => [(eI .i64) x]) (fun r => QJ r) (fun x => ud x) [] (Kq)
theorem Yl (hC : zL Tryz.prog ctr) : vd.Ok Tryz.prog := by
 refine zS ?_
 rintro i_ r0 aa
 try unfold ud at aa
 refine yO true [(2, none)] Yf 15 Tryz.func86 fun E hE => ?_
 rcases y8 aa with ⟨c0, aa⟩ | ⟨c0, aa⟩
 ·obtain ⟨g0, aa⟩ := gdE aa
  obtain rfl := zi aa
  exact yE ((zgv zC 8).or X0) hC hE [Hq c0, Hn (stB (s := ([48,49,50,51,52,53,54,55,56,57,97,98,99,100,101,102,103,104,105,106,107,108,109,110,111,112,113,114,115,116,117,118,119,120,121,122] : List UInt8)) g0), Hx (.a (QJ ((([48,49,50,51,52,53,54,55,56,57,97,98,99,100,101,102,103,104,105,106,107,108,109,110,111,112,113,114,115,116,117,118,119,120,121,122] : List UInt8).take (w64 (i_ + 1)).toNat).drop i_.toNat))) (zc5 ([48,49,50,51,52,53,54,55,56,57,97,98,99,100,101,102,103,104,105,106,107,108,109,110,111,112,113,114,115,116,117,118,119,120,121,122] : List UInt8) i_ (w64 (i_ + 1)))]
 ·obtain ⟨g1, aa⟩ := gdE aa
  obtain rfl := zi aa
  exact yE ((zgv zC 14).or X0) hC hE [Hq c0, Hn (stB (s := ([48,48,48,49,48,50,48,51,48,52,48,53,48,54,48,55,48,56,48,57,49,48,49,49,49,50,49,51,49,52,49,53,49,54,49,55,49,56,49,57,50,48,50,49,50,50,50,51,50,52,50,53,50,54,50,55,50,56,50,57,51,48,51,49,51,50,51,51,51,52,51,53,51,54,51,55,51,56,51,57,52,48,52,49,52,50,52,51,52,52,52,53,52,54,52,55,52,56,52,57,53,48,53,49,53,50,53,51,53,52,53,53,53,54,53,55,53,56,53,57,54,48,54,49,54,50,54,51,54,52,54,53,54,54,54,55,54,56,54,57,55,48,55,49,55,50,55,51,55,52,55,53,55,54,55,55,55,56,55,57,56,48,56,49,56,50,56,51,56,52,56,53,56,54,56,55,56,56,56,57,57,48,57,49,57,50,57,51,57,52,57,53,57,54,57,55,57,56,57,57] : List UInt8)) g1), Hx (.a (QJ ((([48,48,48,49,48,50,48,51,48,52,48,53,48,54,48,55,48,56,48,57,49,48,49,49,49,50,49,51,49,52,49,53,49,54,49,55,49,56,49,57,50,48,50,49,50,50,50,51,50,52,50,53,50,54,50,55,50,56,50,57,51,48,51,49,51,50,51,51,51,52,51,53,51,54,51,55,51,56,51,57,52,48,52,49,52,50,52,51,52,52,52,53,52,54,52,55,52,56,52,57,53,48,53,49,53,50,53,51,53,52,53,53,53,54,53,55,53,56,53,57,54,48,54,49,54,50,54,51,54,52,54,53,54,54,54,55,54,56,54,57,55,48,55,49,55,50,55,51,55,52,55,53,55,54,55,55,55,56,55,57,56,48,56,49,56,50,56,51,56,52,56,53,56,54,56,55,56,56,56,57,57,48,57,49,57,50,57,51,57,52,57,53,57,54,57,55,57,56,57,57] : List UInt8).take (w64 ((w64 (i_ * 2)) + 2)).toNat).drop (w64 (i_ * 2)).toNat))) (zc5 ([48,48,48,49,48,50,48,51,48,52,48,53,48,54,48,55,48,56,48,57,49,48,49,49,49,50,49,51,49,52,49,53,49,54,49,55,49,56,49,57,50,48,50,49,50,50,50,51,50,52,50,53,50,54,50,55,50,56,50,57,51,48,51,49,51,50,51,51,51,52,51,53,51,54,51,55,51,56,51,57,52,48,52,49,52,50,52,51,52,52,52,53,52,54,52,55,52,56,52,57,53,48,53,49,53,50,53,51,53,52,53,53,53,54,53,55,53,56,53,57,54,48,54,49,54,50,54,51,54,52,54,53,54,54,54,55,54,56,54,57,55,48,55,49,55,50,55,51,55,52,55,53,55,54,55,55,55,56,55,57,56,48,56,49,56,50,56,51,56,52,56,53,56,54,56,55,56,56,56,57,57,48,57,49,57,50,57,51,57,52,57,53,57,54,57,55,57,56,57,57] : List UInt8) (w64 (i_ * 2)) (w64 ((w64 (i_ * 2)) + 2)))]
def we : Code := (Tryz.f76.body).getD .skip
def w7 : yk := spF (α := Int × Int) (ρ := List UInt8) 76 (fun x => [(eI .i64) x.1, (eI .i64) x.2]) (fun r => QJ r) (fun x => wI x.1 x.2) [] (Um)
abbrev jh (i_ : Int) (u_ : Int) : List (Nat × T) := [(0, .d (I i_)), (5, .own (.box (.agg [.atom (.int .u8 0), .atom (.int .u8 0), .atom (.int .u8 0), .atom (.int .u8 0), .atom (.int .u8 0), .atom (.int .u8 0), .atom (.int .u8 0), .atom (.int .u8 0), .atom (.int .u8 0), .atom (.int .u8 0), .atom (.int .u8 0), .atom (.int .u8 0), .atom (.int .u8 0), .atom (.int .u8 0), .atom (.int .u8 0), .atom (.int .u8 0), .atom (.int .u8 0), .atom (.int .u8 0), .atom (.int .u8 0), .atom (.int .u8 0), .atom (.int .u8 0), .atom (.int .u8 0), .atom (.int .u8 0), .atom (.int .u8 0)]))), (6, .d (.atom (.int .u64 u_)))]
abbrev ji (i_ : Int) : List (Nat × T) := [(0, .d (I i_))]
theorem kD (hC : zL Tryz.prog ctr) (h0X : ctr.Has vd) : w7.Ok Tryz.prog := by
 refine zS ?_
 rintro ⟨i_, base⟩ r0 aa
 try unfold wI at aa
 refine yO true [(4, none)] we 54 Tryz.func76 fun E hE => ?_
 rcases y8 aa with ⟨c0, aa⟩ | ⟨c0, aa⟩
 ·refine yJ X0 hC we [1,0,1,0] [] [0] (fun z : Unit => yX i_ = some r0) (fun z => ji i_) [(0, .d (I i_))] [Hq c0, Hh (.cut 0)] ?_ fun J1 ay => ?_
  ·rintro ⟨⟩ aa
   unfold yX at aa
   refine yJ X0 hC we [1,0,1,0,1,1,1] [] [0,5,6] (fun z : Int => yW z = some r0) (fun z => jh i_ z) [(0, .d (I i_)), (5, .own (.box (.agg [.atom (.int .u8 0), .atom (.int .u8 0), .atom (.int .u8 0), .atom (.int .u8 0), .atom (.int .u8 0), .atom (.int .u8 0), .atom (.int .u8 0), .atom (.int .u8 0), .atom (.int .u8 0), .atom (.int .u8 0), .atom (.int .u8 0), .atom (.int .u8 0), .atom (.int .u8 0), .atom (.int .u8 0), .atom (.int .u8 0), .atom (.int .u8 0), .atom (.int .u8 0), .atom (.int .u8 0), .atom (.int .u8 0), .atom (.int .u8 0), .atom (.int .u8 0), .atom (.int .u8 0), .atom (.int .u8 0), .atom (.int .u8 0)]))), (6, .d (.atom (.int .u64 (IntKind.u64.wrap (i_)))))] [Hh (.cut 2)] ?_ fun J2 a6 => ?_
   ·rintro u_ aa
    unfold yW at aa
    cases aa
   ·rcases y8 aa with ⟨c1, aa⟩ | ⟨c1, aa⟩
    ·exact yB X0 hC a6 (IntKind.u64.wrap (0 - (IntKind.u64.wrap (i_)))) aa [Hq c1]
    ·exact yB X0 hC a6 (IntKind.u64.wrap (i_)) aa [Hq c1]
  ·rcases y8 aa with ⟨c2, aa⟩ | ⟨c2, aa⟩
   ·rcases y8 aa with ⟨c3, aa⟩ | ⟨c3, aa⟩
    ·obtain ⟨r_, h0, aa⟩ := zm aa
     obtain rfl := zi aa
     exact yE X0 hC hE [Hq c2, Hq c2, Hq c2, Hq c3, Hc h0X (x := i_) h0 (loC (eI .i64) i_ <| loN)]
    ·exact yB X0 hC ay () aa [Hq c2, Hq c2, Hq c2, Hq c3]
   ·exact yB X0 hC ay () aa [Hq c2, Hq c2, Hq c2, qF]
 ·cases aa
def YB : Code := (Tryz.f63.body).getD .skip
def vB : yk := spF (α := Int) (ρ := List UInt8) 63 (fun x => [(eI .i64) x]) (fun r => QJ r) (fun x => uw x) [] (Kq)
theorem YI (hC : zL Tryz.prog ctr) (h0Y : ctr.Has w7) : vB.Ok Tryz.prog := by
 refine zS ?_
 rintro i_ r0 aa
 try unfold uw at aa
 refine yO true [(2, none)] YB 5 Tryz.func63 fun E hE => ?_
 obtain ⟨r_, h0, aa⟩ := zm aa
 obtain rfl := zi aa
 exact yE X0 hC hE [Hc h0Y (x := (i_, 10)) h0 (loC (eI .i64) i_ <| loC (eI .i64) 10 <| loN)]
def K1 : Code := (Tryz.f49.body).getD .skip
def Zj : yk := spF (α := Int) (ρ := List UInt8) 49 (fun x => [(eI .i64) x]) (fun r => QJ r) (fun x => vI x) [] (Kq)
theorem Kh (hC : zL Tryz.prog ctr) (h0Z : ctr.Has vB) : Zj.Ok Tryz.prog := by
 refine zS ?_
 rintro i_ r0 aa
 try unfold vI at aa
 refine yO true [(2, none)] K1 5 Tryz.func49 fun E hE => ?_
 obtain ⟨r_, h0, aa⟩ := zm aa
 obtain rfl := zi aa
 exact yE X0 hC hE [Hc h0Z (x := i_) h0 (loC (eI .i64) i_ <| loN)]
def YD : Code := (Tryz.f29.body).getD .skip
def jt : yk := spF (α := ye) (ρ := List UInt8) 29 (fun x => [zeS x]) (fun r => QJ r) (fun x => Yb x) [] (Kq)
abbrev WB (s_ : List UInt8) : List (Nat × T) := [(3, .d (QJ s_))]
theorem UX (hC : zL Tryz.prog ctr) (h07 : ctr.Has Zj) : jt.Ok Tryz.prog := by
 refine zS ?_
 rintro c_ r0 aa
 try unfold Yb at aa
 refine yO true [(2, none)] YD 33 Tryz.func29 fun E hE => ?_
 refine yJ X0 hC YD [1,1] [] [3] (fun z : List UInt8 => jC z = some r0) (fun z => WB z) [(1, .own (.box (zeS c_))), (3, .d (QJ ([] : List UInt8)))] [Hh (.cut 2)] ?_ fun J1 ay => ?_
 ·rintro s_ aa
  unfold jC at aa
  obtain rfl := zi aa
  exact yE X0 hC hE []
 ·obtain ⟨r_, h0, aa⟩ := zm aa
  obtain ⟨g0, aa⟩ := gdE aa
  obtain ⟨g1, aa⟩ := gdE aa
  obtain ⟨ah, h1, aa⟩ := zm aa
  obtain ⟨g2, aa⟩ := gdE aa
  obtain ⟨g3, aa⟩ := gdE aa
  obtain ⟨am, h2, aa⟩ := zm aa
  obtain ⟨g4, aa⟩ := gdE aa
  obtain ⟨g5, aa⟩ := gdE aa
  obtain ⟨au, h3, aa⟩ := zm aa
  obtain ⟨g6, aa⟩ := gdE aa
  obtain ⟨g7, aa⟩ := gdE aa
  obtain ⟨aw, h4, aa⟩ := zm aa
  obtain ⟨g8, aa⟩ := gdE aa
  obtain ⟨g9, aa⟩ := gdE aa
  obtain ⟨bz, h5, aa⟩ := zm aa
  obtain ⟨g10, aa⟩ := gdE aa
  obtain ⟨g11, aa⟩ := gdE aa
  exact yB ((z6H Tryz.prog 30).or ((z6H Tryz.prog 29).or ((z6H Tryz.prog 25).or ((z6H Tryz.prog 24).or X0)))) hC ay (((([] : List UInt8) ++ (((([115,116,97,116,101,115,32] : List UInt8) ++ r_) ++ ([47] : List UInt8)) ++ ah)) ++ (((([44,32,101,100,103,101,115,32] : List UInt8) ++ am) ++ ([47] : List UInt8)) ++ au)) ++ (((([44,32,112,97,105,114,115,32] : List UInt8) ++ aw) ++ ([47] : List UInt8)) ++ bz)) aa [Hh (.u 70), qT, Hn (⟨rfl, by decide⟩ : true = true ∧ 0 < 2), Hc h07 (x := c_.States.e0) h0 (loC (eI .i64) c_.States.e0 <| loN), Hx (.a (QJ (([115,116,97,116,101,115,32] : List UInt8) ++ r_))) (UY (l := ([115,116,97,116,101,115,32] : List UInt8)) (m := r_) g0), Hx (.a (QJ ((([115,116,97,116,101,115,32] : List UInt8) ++ r_) ++ ([47] : List UInt8)))) (UY (l := (([115,116,97,116,101,115,32] : List UInt8) ++ r_)) (m := ([47] : List UInt8)) g1), Hn (⟨rfl, by decide⟩ : true = true ∧ 1 < 2), Hc h07 (x := c_.States.e1) h1 (loC (eI .i64) c_.States.e1 <| loN), Hx (.a (QJ (((([115,116,97,116,101,115,32] : List UInt8) ++ r_) ++ ([47] : List UInt8)) ++ ah))) (UY (l := ((([115,116,97,116,101,115,32] : List UInt8) ++ r_) ++ ([47] : List UInt8))) (m := ah) g2), Hx (.a (QJ (([] : List UInt8) ++ (((([115,116,97,116,101,115,32] : List UInt8) ++ r_) ++ ([47] : List UInt8)) ++ ah)))) (UY (l := ([] : List UInt8)) (m := (((([115,116,97,116,101,115,32] : List UInt8) ++ r_) ++ ([47] : List UInt8)) ++ ah)) g3), qT, Hn (⟨rfl, by decide⟩ : true = true ∧ 0 < 2), Hc h07 (x := c_.Edges.e0) h2 (loC (eI .i64) c_.Edges.e0 <| loN), Hx (.a (QJ (([44,32,101,100,103,101,115,32] : List UInt8) ++ am))) (UY (l := ([44,32,101,100,103,101,115,32] : List UInt8)) (m := am) g4), Hx (.a (QJ ((([44,32,101,100,103,101,115,32] : List UInt8) ++ am) ++ ([47] : List UInt8)))) (UY (l := (([44,32,101,100,103,101,115,32] : List UInt8) ++ am)) (m := ([47] : List UInt8)) g5), Hn (⟨rfl, by decide⟩ : true = true ∧ 1 < 2), Hc h07 (x := c_.Edges.e1) h3 (loC (eI .i64) c_.Edges.e1 <| loN), Hx (.a (QJ (((([44,32,101,100,103,101,115,32] : List UInt8) ++ am) ++ ([47] : List UInt8)) ++ au))) (UY (l := ((([44,32,101,100,103,101,115,32] : List UInt8) ++ am) ++ ([47] : List UInt8))) (m := au) g6), Hx (.a (QJ ((([] : List UInt8) ++ (((([115,116,97,116,101,115,32] : List UInt8) ++ r_) ++ ([47] : List UInt8)) ++ ah)) ++ (((([44,32,101,100,103,101,115,32] : List UInt8) ++ am) ++ ([47] : List UInt8)) ++ au)))) (UY (l := (([] : List UInt8) ++ (((([115,116,97,116,101,115,32] : List UInt8) ++ r_) ++ ([47] : List UInt8)) ++ ah))) (m := (((([44,32,101,100,103,101,115,32] : List UInt8) ++ am) ++ ([47] : List UInt8)) ++ au)) g7), qT, Hn (⟨rfl, by decide⟩ : true = true ∧ 0 < 2), Hc h07 (x := c_.Pairs.e0) h4 (loC (eI .i64) c_.Pairs.e0 <| loN), Hx (.a (QJ (([44,32,112,97,105,114,115,32] : List UInt8) ++ aw))) (UY (l := ([44,32,112,97,105,114,115,32] : List UInt8)) (m := aw) g8), Hx (.a (QJ ((([44,32,112,97,105,114,115,32] : List UInt8) ++ aw) ++ ([47] : List UInt8)))) (UY (l := (([44,32,112,97,105,114,115,32] : List UInt8) ++ aw)) (m := ([47] : List UInt8)) g9), Hn (⟨rfl, by decide⟩ : true = true ∧ 1 < 2), Hc h07 (x := c_.Pairs.e1) h5 (loC (eI .i64) c_.Pairs.e1 <| loN), Hx (.a (QJ (((([44,32,112,97,105,114,115,32] : List UInt8) ++ aw) ++ ([47] : List UInt8)) ++ bz))) (UY (l := ((([44,32,112,97,105,114,115,32] : List UInt8) ++ aw) ++ ([47] : List UInt8))) (m := bz) g10), Hx (.a (QJ (((([] : List UInt8) ++ (((([115,116,97,116,101,115,32] : List UInt8) ++ r_) ++ ([47] : List UInt8)) ++ ah)) ++ (((([44,32,101,100,103,101,115,32] : List UInt8) ++ am) ++ ([47] : List UInt8)) ++ au)) ++ (((([44,32,112,97,105,114,115,32] : List UInt8) ++ aw) ++ ([47] : List UInt8)) ++ bz)))) (UY (l := ((([] : List UInt8) ++ (((([115,116,97,116,101,115,32] : List UInt8) ++ r_) ++ ([47] : List UInt8)) ++ ah)) ++ (((([44,32,101,100,103,101,115,32] : List UInt8) ++ am) ++ ([47] : List UInt8)) ++ au))) (m := (((([44,32,112,97,105,114,115,32] : List UInt8) ++ aw) ++ ([47] : List UInt8)) ++ bz)) g11), qF]
def Kx : Code := (Tryz.f10.body).getD .skip
def Y8 : yk := spF (α := Unit) (ρ := Bool) 10 (fun x => []) (fun r => eB r) (fun x => X1) [] (fun _ _ _ => rfl)
theorem z0j (hC : zL Tryz.prog ctr) (h14 : ctr.Has Zo) (h0k : ctr.Has Zp) (h0r : ctr.Has qJ) (h15 : ctr.Has qp) (h0c : ctr.Has vM) (h16 : ctr.Has jt) (h08 : ctr.Has kF) : Y8.Ok Tryz.prog := by
 refine zS ?_
 rintro ⟨⟩ r0 aa
 try unfold X1 at aa
 refine yO true [(0, none)] Kx 117 Tryz.func10 fun E hE => ?_
 obtain ⟨r_, h0, aa⟩ := zm aa
 obtain ⟨ah, h1, aa⟩ := zm aa
 obtain ⟨am, h2, aa⟩ := zm aa
 obtain ⟨au, h3, aa⟩ := zm aa
 obtain ⟨aw, h4, aa⟩ := zm aa
 obtain ⟨bz, h5, aa⟩ := zm aa
 let Z0 : List HO := [Hc h14 (x := ()) h0 (loN), Hc h0k (x := (r_, [])) h1 (loC zbC r_ <| loC zbr ([] : List (List Int)) <| loN), Hg (Kr h0k), Hm (shM F4_ F2_ ([[1], [0,0,1]])), Hs (Ks h0k (x := (r_, [[1], [0,0,1]])) h2 (loC zbC r_ <| loC z32 ([[1], [0,0,1]] : List (List Int)) <| loN)), Hg (Kr h0r), Hm (shM F4_ F2_ ([[1], [0,0,1]])), Hs (Ks h0r (x := (r_, [[1], [0,0,1]])) h3 (loC zbC r_ <| loC z32 ([[1], [0,0,1]] : List (List Int)) <| loN)), Hm (shM F4_ F2_ ([[1], [0,0,1]])), Hc h15 (x := (r_, [], 1)) h4 (loC zbC r_ <| loC zbr ([] : List (List Int)) <| loC (eI .i64) 1 <| loN), Hg (Kr h0c), Hm (shM F4_ F2_ ([[0], [1], [0,0], [0,1,1]])), Hs (Ks h0c (x := (r_, [[0], [1], [0,0], [0,1,1]], 1)) h5 (loC zbC r_ <| loC z32 ([[0], [1], [0,0], [0,1,1]] : List (List Int)) <| loC (eI .i64) 1 <| loN)), Hm (shM F4_ F2_ ([[0], [1], [0,0], [0,1,1]]))]
 rcases y8 aa with ⟨c0, aa⟩ | ⟨c0, aa⟩
 ·rcases y8 aa with ⟨c1, aa⟩ | ⟨c1, aa⟩
  ·let Z1 : List HO := (Z0 ++ [Hq c0, Hq c0, Hq c0, Hq c1, Hq c1, Hq c1])
   rcases y8 aa with ⟨c2, aa⟩ | ⟨c2, aa⟩
   ·rcases y8 aa with ⟨c3, aa⟩ | ⟨c3, aa⟩
    ·let Z2 : List HO := (Z1 ++ [Hq c2, Hq c2, Hq c2, Hq c3, Hq c3, Hq c3])
     rcases y8 aa with ⟨c4, aa⟩ | ⟨c4, aa⟩
     ·let Z3 : List HO := (Z2 ++ (rpN 7 (Hq c4) []))
      rcases y8 aa with ⟨c5, aa⟩ | ⟨c5, aa⟩
      ·obtain ⟨bp, h6, aa⟩ := zm aa
       let Z4 : List HO := (Z3 ++ [Hq c5, Hq c5, Hc h16 (x := ah.1) h6 (loC zeS ah.1 <| loN), Hq c5, Hx (.a (.atom (.bool (bp == ([115,116,97,116,101,115,32,49,47,50,44,32,101,100,103,101,115,32,48,47,52,44,32,112,97,105,114,115,32,48,47,56] : List UInt8))))) (zhV bp ([115,116,97,116,101,115,32,49,47,50,44,32,101,100,103,101,115,32,48,47,52,44,32,112,97,105,114,115,32,48,47,56] : List UInt8)), Hq c5])
       rcases y8 aa with ⟨c6, aa⟩ | ⟨c6, aa⟩
       ·let Z5 : List HO := (Z4 ++ (rpN 7 (Hq c6) []))
        rcases y8 aa with ⟨c7, aa⟩ | ⟨c7, aa⟩
        ·let Z6 : List HO := (Z5 ++ [Hq c7, Hq c7, Ha (lnM F0_ au.1), Hq c7, Hq c7])
         rcases y8 aa with ⟨c8, aa⟩ | ⟨c8, aa⟩
         ·obtain ⟨u_, h7, aa⟩ := zm aa
          let Z7 : List HO := (Z6 ++ (Hq c8 :: Hq c8 :: Hi F0_ h7 :: (rpN 4 (Hq c8) [])))
          rcases y8 aa with ⟨c9, aa⟩ | ⟨c9, aa⟩
          ·obtain ⟨dx, h8, aa⟩ := zm aa
           let Z8 : List HO := (Z7 ++ (rpN 7 (Hq c9) [Hg (Kr h08), Hm (shM F4_ F2_ ([[0], [1], [0,0], [0,1]])), Hs (Ks h08 (x := (aw.1, [[0], [1], [0,0], [0,1]])) h8 (loC z32 aw.1 <| loC z32 ([[0], [1], [0,0], [0,1]] : List (List Int)) <| loN)), Hq c9]))
           rcases y8 aa with ⟨c10, aa⟩ | ⟨c10, aa⟩
           ·obtain ⟨dr, h9, aa⟩ := zm aa
            obtain rfl := zi aa
            exact yE ((z4x zC 86).or ((z6H Tryz.prog 78).or ((z4x zC 73).or X0))) hC hE (Z8 ++ (rpN 6 (Hq c10) [Hg (Kr h08), Hm (shM F4_ F2_ ([[1], [0,0], [0,1,1]])), Hs (Ks h08 (x := (bz.1, [[1], [0,0], [0,1,1]])) h9 (loC z32 bz.1 <| loC z32 ([[1], [0,0], [0,1,1]] : List (List Int)) <| loN)), Hq c10]))
           ·obtain rfl := zi aa
            exact yE ((z4x zC 86).or ((z6H Tryz.prog 78).or ((z4x zC 73).or X0))) hC hE (Z8 ++ (rpN 7 (Hq c10) []))
          ·obtain rfl := zi aa
           exact yE ((z4x zC 86).or ((z6H Tryz.prog 78).or ((z4x zC 73).or X0))) hC hE (Z7 ++ (rpN 8 (Hq c9) (rpN 7 qF [])))
         ·obtain rfl := zi aa
          exact yE ((z4x zC 86).or ((z6H Tryz.prog 78).or ((z4x zC 73).or X0))) hC hE (Z6 ++ (rpN 6 (Hq c8) (rpN 15 qF [])))
        ·obtain rfl := zi aa
         exact yE ((z4x zC 86).or ((z6H Tryz.prog 78).or ((z4x zC 73).or X0))) hC hE (Z5 ++ (rpN 4 (Hq c7) (rpN 21 qF [])))
       ·obtain rfl := zi aa
        exact yE ((z6H Tryz.prog 78).or ((z4x zC 73).or X0)) hC hE (Z4 ++ (rpN 7 (Hq c6) (rpN 25 qF [])))
      ·obtain rfl := zi aa
       exact yE ((z4x zC 73).or X0) hC hE (Z3 ++ (rpN 4 (Hq c5) (rpN 32 qF [])))
     ·obtain rfl := zi aa
      exact yE X0 hC hE (Z2 ++ (rpN 7 (Hq c4) (rpN 36 qF [])))
    ·obtain rfl := zi aa
     exact yE X0 hC hE (Z1 ++ (Hq c2 :: Hq c2 :: Hq c2 :: Hq c3 :: Hq c3 :: Hq c3 :: (rpN 43 qF [])))
   ·obtain rfl := zi aa
    exact yE X0 hC hE (Z1 ++ (Hq c2 :: Hq c2 :: Hq c2 :: (rpN 46 qF [])))
  ·obtain rfl := zi aa
   exact yE X0 hC hE (Z0 ++ (Hq c0 :: Hq c0 :: Hq c0 :: Hq c1 :: Hq c1 :: Hq c1 :: (rpN 49 qF [])))
 ·obtain rfl := zi aa
  exact yE X0 hC hE (Z0 ++ (Hq c0 :: Hq c0 :: Hq c0 :: (rpN 52 qF [])))
def YA : Code := (Tryz.f5.body).getD .skip
def vA : yk := spF (α := wG × Int) (ρ := Bool) 5 (fun x => [(uW Kz (eSl 1 false F1_)) x.1, (eI .u8) x.2]) (fun r => eB r) (fun x => v6 x.1 x.2) [] (Um)
theorem YH (hC : zL Tryz.prog ctr) (h17 : ctr.Has YP) (h0c : ctr.Has vM) (h18 : ctr.Has Zm) (h08 : ctr.Has kF) (h06 : ctr.Has vX) (h19 : ctr.Has Y8) : vA.Ok Tryz.prog := by
 refine zS ?_
 rintro ⟨x_, goal⟩ r0 aa
 try unfold v6 at aa
 refine yO true [(4, none)] YA 63 Tryz.func5 fun E hE => ?_
 obtain ⟨r_, h0, aa⟩ := zm aa
 obtain ⟨g0, aa⟩ := gdE aa
 obtain ⟨g1, aa⟩ := gdE aa
 obtain ⟨ah, h1, aa⟩ := zm aa
 let Z0 : List HO := [Hc h17 (x := (wG.mk x_.M x_.L)) h0 (loC (uW Kz (eSl 1 false F1_)) (wG.mk x_.M x_.L) <| loN), Ha (lnM F7_ r_.2), Hn (slB g0), Hn (zf7 F7_ g0), Ha (slM 1 false F7_ r_.2 0 (mn ((r_.2.length : Nat) : Int) 8).toNat), Hn g1, Hc h0c (x := (r_.1, ((r_.2.drop 0).take ((mn ((r_.2.length : Nat) : Int) 8).toNat - 0)), Int.tmod (w64 (goal)) 3)) h1 (loC yj r_.1 <| loC qA ((r_.2.drop 0).take ((mn ((r_.2.length : Nat) : Int) 8).toNat - 0)) <| loC (eI .i64) (Int.tmod (w64 (goal)) 3) <| loN)]
 rcases y8 aa with ⟨c0, aa⟩ | ⟨c0, aa⟩
 ·obtain ⟨am, h2, aa⟩ := zm aa
  obtain ⟨au, h3, aa⟩ := zm aa
  let Z1 : List HO := (Z0 ++ (rpN 5 (Hq c0) [Hc h18 (x := (r_.1, ((r_.2.drop 0).take ((mn ((r_.2.length : Nat) : Int) 8).toNat - 0)), Int.tmod (w64 (goal)) 3)) h2 (loC yj r_.1 <| loC qA ((r_.2.drop 0).take ((mn ((r_.2.length : Nat) : Int) 8).toNat - 0)) <| loC (eI .i64) (Int.tmod (w64 (goal)) 3) <| loN), Hq c0, Hc h08 (x := (ah.1, am)) h3 (loC z32 ah.1 <| loC qA am <| loN), Hq c0]))
  rcases y8 aa with ⟨c1, aa⟩ | ⟨c1, aa⟩
  ·let Z2 : List HO := (Z1 ++ [Hq c1, Hq c1, Ha (lnM F2_ ah.1), Hq c1, Hq c1, Ha (lnM F2_ ah.1), Hq c1, Hq c1])
   rcases y8 aa with ⟨c2, aa⟩ | ⟨c2, aa⟩
   ·obtain ⟨aw, h4, aa⟩ := zm aa
    obtain ⟨bz, h5, aa⟩ := zm aa
    let Z3 : List HO := (Z2 ++ (rpN 4 (Hq c2) (Hc h06 (x := (r_.1, ah.1, Int.tmod (w64 (goal)) 3)) h4 (loC yj r_.1 <| loC z32 ah.1 <| loC (eI .i64) (Int.tmod (w64 (goal)) 3) <| loN) :: Hq c2 :: Ha (lnM uO aw) :: (rpN 4 (Hq c2) [Hc h06 (x := (r_.1, ((r_.2.drop 0).take ((mn ((r_.2.length : Nat) : Int) 8).toNat - 0)), Int.tmod (w64 (goal)) 3)) h5 (loC yj r_.1 <| loC qA ((r_.2.drop 0).take ((mn ((r_.2.length : Nat) : Int) 8).toNat - 0)) <| loC (eI .i64) (Int.tmod (w64 (goal)) 3) <| loN), Hq c2, Ha (lnM uO bz), Hq c2, Hq c2]))))
    rcases y8 aa with ⟨c3, aa⟩ | ⟨c3, aa⟩
    ·obtain ⟨bp, h6, aa⟩ := zm aa
     obtain rfl := zi aa
     exact yE X0 hC hE (Z3 ++ [Hq c3, Hc h19 (x := ()) h6 (loN), Hq c3])
    ·obtain rfl := zi aa
     exact yE X0 hC hE (Z3 ++ [Hq c3, Hq c3])
   ·obtain rfl := zi aa
    exact yE X0 hC hE (Z2 ++ (rpN 12 (Hq c2) [qF, qF]))
  ·obtain rfl := zi aa
   exact yE X0 hC hE (Z1 ++ (rpN 6 (Hq c1) (rpN 14 qF [])))
 ·obtain rfl := zi aa
  exact yE X0 hC hE (Z0 ++ (rpN 7 (Hq c0) (rpN 20 qF [])))
theorem yK {l : List yk} {s : yk} (h : ((l.map yk.k).contains s.k) = false) : ∀ t ∈ l, t.k ≠ s.k := by
 intro t ht e
 have : (l.map yk.k).contains s.k = true := by
  rw [List.contains_iff_mem, ← e]
  exact List.mem_map_of_mem ht
 rw [h] at this
 cases this
theorem zF {l : List yk} {c : Ctr} (H : ∀ t ∈ l, c.Has t) (i : Nat) {s : yk} (h : l[i]? = some s) : c.Has s := H _ (List.mem_of_getElem? h)
def L0 : List yk := YR :: []
def L1 : List yk := YQ :: L0
def L2 : List yk := q9 :: L1
def L3 : List yk := XM :: L2
def L4 : List yk := YN :: L3
def L5 : List yk := YP :: L4
def L6 : List yk := kj :: L5
def L7 : List yk := kl :: L6
def L8 : List yk := qo :: L7
def L9 : List yk := yM :: L8
def L10 : List yk := yw :: L9
def L11 : List yk := uB :: L10
def L12 : List yk := kg :: L11
def L13 : List yk := wt :: L12
def L14 : List yk := xN :: L13
def L15 : List yk := Y2 :: L14
def L16 : List yk := jK :: L15
def L17 : List yk := km :: L16
def L18 : List yk := uh :: L17
def L19 : List yk := vb :: L18
def L20 : List yk := YS :: L19
def L21 : List yk := vW :: L20
def L22 : List yk := Y4 :: L21
def L23 : List yk := jJ :: L22
def L24 : List yk := Y5 :: L23
def L25 : List yk := xY :: L24
def L26 : List yk := jp :: L25
def L27 : List yk := yl :: L26
def L28 : List yk := yp :: L27
def L29 : List yk := Y3 :: L28
def L30 : List yk := Zh :: L29
def L31 : List yk := wK :: L30
def L32 : List yk := uC :: L31
def L33 : List yk := xm :: L32
def L34 : List yk := yU :: L33
def L35 : List yk := yV :: L34
def L36 : List yk := wu :: L35
def L37 : List yk := vM :: L36
def L38 : List yk := kG :: L37
def L39 : List yk := Y7 :: L38
def L40 : List yk := YO :: L39
def L41 : List yk := Y6 :: L40
def L42 : List yk := Zn :: L41
def L43 : List yk := YM :: L42
def L44 : List yk := Zk :: L43
def L45 : List yk := kh :: L44
def L46 : List yk := vX :: L45
def L47 : List yk := Zl :: L46
def L48 : List yk := Zm :: L47
def L49 : List yk := kF :: L48
def L50 : List yk := Zo :: L49
def L51 : List yk := Zp :: L50
def L52 : List yk := yi :: L51
def L53 : List yk := uP :: L52
def L54 : List yk := qJ :: L53
def L55 : List yk := vz :: L54
def L56 : List yk := jq :: L55
def L57 : List yk := xO :: L56
def L58 : List yk := Zi :: L57
def L59 : List yk := YL :: L58
def L60 : List yk := qp :: L59
def L61 : List yk := vd :: L60
def L62 : List yk := w7 :: L61
def L63 : List yk := vB :: L62
def L64 : List yk := Zj :: L63
def L65 : List yk := jt :: L64
def L66 : List yk := Y8 :: L65
def L67 : List yk := vA :: L66
theorem zgr : zG Tryz.prog L0 := ⟨fun _ hC H => z1g hC, yK (by kernel_rfl), trivial⟩
theorem zgq : zG Tryz.prog L1 := ⟨fun _ hC H => z1f hC, yK (by kernel_rfl), zgr⟩
theorem zgp : zG Tryz.prog L2 := ⟨fun _ hC H => QR hC, yK (by kernel_rfl), zgq⟩
theorem zgo : zG Tryz.prog L3 := ⟨fun _ hC H => z2n hC (zF H 0 rfl), yK (by kernel_rfl), zgp⟩
theorem zgn : zG Tryz.prog L4 := ⟨fun _ hC H => z1a hC (zF H 0 rfl), yK (by kernel_rfl), zgo⟩
theorem zgm : zG Tryz.prog L5 := ⟨fun _ hC H => z1e hC (zF H 4 rfl) (zF H 3 rfl) (zF H 0 rfl), yK (by kernel_rfl), zgn⟩
theorem zgl : zG Tryz.prog L6 := ⟨fun _ hC H => QT hC, yK (by kernel_rfl), zgm⟩
theorem zgk : zG Tryz.prog L7 := ⟨fun _ hC H => QU hC (zF H 0 rfl), yK (by kernel_rfl), zgl⟩
theorem zgj : zG Tryz.prog L8 := ⟨fun _ hC H => Vh hC (zF H 0 rfl), yK (by kernel_rfl), zgk⟩
theorem zgi : zG Tryz.prog L9 := ⟨fun _ hC H => uU hC (zF H 0 rfl), yK (by kernel_rfl), zgj⟩
theorem zeC : zG Tryz.prog L10 := ⟨fun _ hC H => uq hC (zF H 0 rfl), yK (by kernel_rfl), zgi⟩
theorem zeB : zG Tryz.prog L11 := ⟨fun _ hC H => UV hC (zF H 0 rfl), yK (by kernel_rfl), zeC⟩
theorem zeA : zG Tryz.prog L12 := ⟨fun _ hC H => QO hC, yK (by kernel_rfl), zeB⟩
theorem zez : zG Tryz.prog L13 := ⟨fun _ hC H => ZO hC (zF H 0 rfl), yK (by kernel_rfl), zeA⟩
theorem zey : zG Tryz.prog L14 := ⟨fun _ hC H => kc hC (zF H 0 rfl), yK (by kernel_rfl), zez⟩
theorem zex : zG Tryz.prog L15 := ⟨fun _ hC H => z0b hC (zF H 0 rfl), yK (by kernel_rfl), zey⟩
theorem zew : zG Tryz.prog L16 := ⟨fun _ hC H => z0e hC (zF H 0 rfl), yK (by kernel_rfl), zex⟩
theorem zev : zG Tryz.prog L17 := ⟨fun _ hC H => QX hC, yK (by kernel_rfl), zew⟩
theorem zeu : zG Tryz.prog L18 := ⟨fun _ hC H => VZ hC (zF H 0 rfl), yK (by kernel_rfl), zev⟩
theorem zet : zG Tryz.prog L19 := ⟨fun _ hC H => Yk hC (zF H 0 rfl), yK (by kernel_rfl), zeu⟩
theorem zes : zG Tryz.prog L20 := ⟨fun _ hC H => z1h hC, yK (by kernel_rfl), zet⟩
theorem zer : zG Tryz.prog L21 := ⟨fun _ hC H => QN hC (zF H 2 rfl) (zF H 1 rfl) (zF H 0 rfl), yK (by kernel_rfl), zes⟩
theorem zeq : zG Tryz.prog L22 := ⟨fun _ hC H => z0f hC (zF H 0 rfl), yK (by kernel_rfl), zer⟩
theorem zep : zG Tryz.prog L23 := ⟨fun _ hC H => z0d hC, yK (by kernel_rfl), zeq⟩
theorem zeo : zG Tryz.prog L24 := ⟨fun _ hC H => z0g hC (zF H 7 rfl) (zF H 1 rfl) (zF H 0 rfl), yK (by kernel_rfl), zep⟩
theorem zen : zG Tryz.prog L25 := ⟨fun _ hC H => VU hC (zF H 13 rfl) (zF H 0 rfl), yK (by kernel_rfl), zeo⟩
theorem zem : zG Tryz.prog L26 := ⟨fun _ hC H => US hC, yK (by kernel_rfl), zen⟩
theorem zel : zG Tryz.prog L27 := ⟨fun _ hC H => Xo hC, yK (by kernel_rfl), zem⟩
theorem zek : zG Tryz.prog L28 := ⟨fun _ hC H => XG hC, yK (by kernel_rfl), zel⟩
theorem zej : zG Tryz.prog L29 := ⟨fun _ hC H => z0c hC (zF H 2 rfl) (zF H 1 rfl) (zF H 0 rfl), yK (by kernel_rfl), zek⟩
theorem zei : zG Tryz.prog L30 := ⟨fun _ hC H => Kf hC (zF H 18 rfl) (zF H 0 rfl), yK (by kernel_rfl), zej⟩
theorem zeh : zG Tryz.prog L31 := ⟨fun _ hC H => QV hC (zF H 0 rfl) (zF H 3 rfl) (zF H 2 rfl), yK (by kernel_rfl), zei⟩
theorem zeg : zG Tryz.prog L32 := ⟨fun _ hC H => UW hC, yK (by kernel_rfl), zeh⟩
theorem zef : zG Tryz.prog L33 := ⟨fun _ hC H => WI hC (zF H 0 rfl), yK (by kernel_rfl), zeg⟩
theorem zee : zG Tryz.prog L34 := ⟨fun _ hC H => kB hC, yK (by kernel_rfl), zef⟩
theorem zed : zG Tryz.prog L35 := ⟨fun _ hC H => kC hC, yK (by kernel_rfl), zee⟩
theorem zec : zG Tryz.prog L36 := ⟨fun _ hC H => ZP hC (zF H 1 rfl) (zF H 0 rfl), yK (by kernel_rfl), zed⟩
theorem zeb : zG Tryz.prog L37 := ⟨fun _ hC H => Vi hC (zF H 11 rfl) (zF H 5 rfl) (zF H 3 rfl) (zF H 4 rfl) (zF H 0 rfl) (zF H 9 rfl) (zF H 8 rfl), yK (by kernel_rfl), zec⟩
theorem zea : zG Tryz.prog L38 := ⟨fun _ hC H => z1d hC, yK (by kernel_rfl), zeb⟩
theorem ze9 : zG Tryz.prog L39 := ⟨fun _ hC H => z0i hC (zF H 0 rfl), yK (by kernel_rfl), zea⟩
theorem ze8 : zG Tryz.prog L40 := ⟨fun _ hC H => z1c hC, yK (by kernel_rfl), ze9⟩
theorem ze7 : zG Tryz.prog L41 := ⟨fun _ hC H => z0h hC (zF H 1 rfl) (zF H 0 rfl), yK (by kernel_rfl), ze8⟩
theorem ze6 : zG Tryz.prog L42 := ⟨fun _ hC H => Kl hC (zF H 0 rfl), yK (by kernel_rfl), ze7⟩
theorem ze5 : zG Tryz.prog L43 := ⟨fun _ hC H => z19 hC (zF H 0 rfl), yK (by kernel_rfl), ze6⟩
theorem ze4 : zG Tryz.prog L44 := ⟨fun _ hC H => Ki hC, yK (by kernel_rfl), ze5⟩
theorem ze3 : zG Tryz.prog L45 := ⟨fun _ hC H => QQ hC (zF H 0 rfl), yK (by kernel_rfl), ze4⟩
theorem ze2 : zG Tryz.prog L46 := ⟨fun _ hC H => QP hC (zF H 2 rfl) (zF H 0 rfl), yK (by kernel_rfl), ze3⟩
theorem ze1 : zG Tryz.prog L47 := ⟨fun _ hC H => Kj hC (zF H 0 rfl), yK (by kernel_rfl), ze2⟩
theorem ze0 : zG Tryz.prog L48 := ⟨fun _ hC H => Kk hC (zF H 0 rfl), yK (by kernel_rfl), ze1⟩
theorem zdZ : zG Tryz.prog L49 := ⟨fun _ hC H => z1b hC (zF H 46 rfl), yK (by kernel_rfl), ze0⟩
theorem zdY : zG Tryz.prog L50 := ⟨fun _ hC H => Km hC, yK (by kernel_rfl), zdZ⟩
theorem zdX : zG Tryz.prog L51 := ⟨fun _ hC H => Kn hC (zF H 25 rfl) (zF H 17 rfl) (zF H 19 rfl), yK (by kernel_rfl), zdY⟩
theorem zdW : zG Tryz.prog L52 := ⟨fun _ hC H => vL hC, yK (by kernel_rfl), zdX⟩
theorem zdV : zG Tryz.prog L53 := ⟨fun _ hC H => WH hC (zF H 27 rfl) (zF H 19 rfl) (zF H 21 rfl) (zF H 0 rfl), yK (by kernel_rfl), zdW⟩
theorem zdU : zG Tryz.prog L54 := ⟨fun _ hC H => VY hC (zF H 0 rfl), yK (by kernel_rfl), zdV⟩
theorem zdT : zG Tryz.prog L55 := ⟨fun _ hC H => YG hC, yK (by kernel_rfl), zdU⟩
theorem zdS : zG Tryz.prog L56 := ⟨fun _ hC H => UT hC (zF H 34 rfl), yK (by kernel_rfl), zdT⟩
theorem zdR : zG Tryz.prog L57 := ⟨fun _ hC H => ke hC (zF H 0 rfl), yK (by kernel_rfl), zdS⟩
theorem zdQ : zG Tryz.prog L58 := ⟨fun _ hC H => Kg hC (zF H 2 rfl) (zF H 36 rfl) (zF H 0 rfl) (zF H 34 rfl) (zF H 30 rfl) (zF H 29 rfl), yK (by kernel_rfl), zdR⟩
theorem zdP : zG Tryz.prog L59 := ⟨fun _ hC H => z18 hC (zF H 42 rfl) (zF H 0 rfl), yK (by kernel_rfl), zdQ⟩
theorem zdO : zG Tryz.prog L60 := ⟨fun _ hC H => Vj hC (zF H 34 rfl) (zF H 26 rfl) (zF H 32 rfl) (zF H 31 rfl) (zF H 28 rfl) (zF H 0 rfl), yK (by kernel_rfl), zdP⟩
theorem zdN : zG Tryz.prog L61 := ⟨fun _ hC H => Yl hC, yK (by kernel_rfl), zdO⟩
theorem zdM : zG Tryz.prog L62 := ⟨fun _ hC H => kD hC (zF H 0 rfl), yK (by kernel_rfl), zdN⟩
theorem zdL : zG Tryz.prog L63 := ⟨fun _ hC H => YI hC (zF H 0 rfl), yK (by kernel_rfl), zdM⟩
theorem zdK : zG Tryz.prog L64 := ⟨fun _ hC H => Kh hC (zF H 0 rfl), yK (by kernel_rfl), zdL⟩
theorem zdJ : zG Tryz.prog L65 := ⟨fun _ hC H => UX hC (zF H 0 rfl), yK (by kernel_rfl), zdK⟩
theorem zdI : zG Tryz.prog L66 := ⟨fun _ hC H => z0j hC (zF H 15 rfl) (zF H 14 rfl) (zF H 11 rfl) (zF H 5 rfl) (zF H 28 rfl) (zF H 0 rfl) (zF H 16 rfl), yK (by kernel_rfl), zdJ⟩
theorem zdH : zG Tryz.prog L67 := ⟨fun _ hC H => YH hC (zF H 61 rfl) (zF H 29 rfl) (zF H 18 rfl) (zF H 17 rfl) (zF H 20 rfl) (zF H 0 rfl), yK (by kernel_rfl), zdI⟩
theorem ws {x : Int} (h1 : -9223372036854775808 ≤ x) (h2 : x ≤ 9223372036854775807) : w64 x = x := by
 simp only [w64, IntKind.wrap, IntKind.bits, IntKind.signed]
 simp
 omega
variable {k : Nat}
section
variable {α β σ τ ρ : Type}
def Ret (x : Option α) (Q : α → Prop) : Prop := ∃ a, x = some a ∧ Q a
theorem Ret.mono {x : Option α} {Q R : α → Prop} (h : Ret x Q) (q : ∀ a, Q a → R a) : Ret x R := by
 obtain ⟨a, e, h⟩ := h
 exact ⟨a, e, q a h⟩
theorem Ret.eq {x : Option α} {a : α} (h : Ret x fun b => b = a) : x = some a := by
 obtain ⟨b, e, rfl⟩ := h
 exact e
theorem zM {a : α} {Q : α → Prop} : Ret (some a) Q ↔ Q a := ⟨fun ⟨b, e, q⟩ => by cases e; exact q, fun q => ⟨a, rfl, q⟩⟩
theorem uj {x : Option α} {f : α → Option β} {Q : β → Prop} : Ret (Option.bind x f) Q ↔ Ret x fun a => Ret (f a) Q := by
 cases x with
 | none => exact ⟨fun ⟨b, e, _⟩ => (by cases e), fun ⟨b, e, _⟩ => (by cases e)⟩
 | some a => exact ⟨fun h => ⟨a, rfl, h⟩, fun ⟨b, e, h⟩ => by cases e; exact h⟩
theorem z3m {p : Prop} [Decidable p] {x : Option α} {Q : α → Prop} : Ret (gd p x) Q ↔ p ∧ Ret x Q := by
 unfold gd
 by_cases h : p
 ·rw [if_pos h]; exact ⟨fun q => ⟨h, q⟩, fun q => q.2⟩
 ·rw [if_neg h]; exact ⟨fun ⟨b, e, _⟩ => by (cases e), fun q => (h q.1).elim⟩
theorem x4 {c : Bool} {x y : Option α} {Q : α → Prop} : Ret (bif c then x else y) Q ↔ (c = true → Ret x Q) ∧ (c = false → Ret y Q) := by
 cases c <;> simp
theorem zav {l : List α} {i : Int} {Q : α → Prop} : Ret (idx l i) Q ↔ 0 ≤ i ∧ ∃ x, l[i.toNat]? = some x ∧ Q x := by
 cases i with
 | ofNat n =>
  show (∃ a, l[n]? = some a ∧ Q a) ↔ _
  simp
 | negSucc n => exact ⟨fun ⟨b, e, _⟩ => by (cases e), fun ⟨h, _⟩ => by omega⟩
theorem wb (l : List α) (i : Nat) : idx l (i : Int) = l[i]? := rfl
theorem gdT {p : Prop} [Decidable p] {x : Option α} (h : p) : gd p x = x := by unfold gd; rw [if_pos h]
theorem bdT {x : Option α} {u : α} {f : α → Option ρ} (h : x = some u) : Option.bind x f = f u := by rw [h]; rfl
theorem qD (step : σ → Option (LR σ τ)) (n : Nat) (s : σ) : XY step (n + 1) s = (match step s with | none => none | some (.next s') => XY step n s' | some (.done t) => some t) := rfl
def LRP (N : σ → Prop) (D : τ → Prop) : LR σ τ → Prop
 | .next s => N s
 | .done t => D t
theorem ui {step : σ → Option (LR σ τ)} (I : σ → Prop) (m : σ → Nat) {R : τ → Prop} {s : σ} (hs : I s) (hm : m s < 18446744073709551616)
  (h : ∀ s, I s → Ret (step s) (LRP (fun s' => I s' ∧ m s' < m s) R)) : Ret (loop step s) R := by
 have gen : ∀ (n : Nat) (s : σ), I s → m s < n → Ret (XY step n s) R := by
  intro n
  induction n with
  | zero => intro s _ h; omega
  | succ n ih =>
   intro s hs hm
   obtain ⟨a, e, q⟩ := h s hs
   rw [qD, e]
   cases a with
   | next s' => exact ih s' q.1 (by have := q.2; omega)
   | done t => exact ⟨t, rfl, q⟩
 exact gen fuel s hs hm
theorem Wk {step : σ → Option (LR σ τ)} (st : Nat → σ) (n : Nat) {t : τ} (hn : n < 9223372036854775808) (h : ∀ i, i < n → step (st i) = some (.next (st (i + 1)))) (hd : step (st n) = some (.done t)) : loop step (st 0) = some t := by
 have gen : ∀ (k : Nat) (i : Nat), i ≤ n → n - i < k → XY step k (st i) = some t := by
  intro k
  induction k with
  | zero => intro i _ h; omega
  | succ k ih =>
   intro i hi hk
   rw [qD]
   rcases Nat.lt_or_ge i n with q | q
   ·rw [h i q]
    exact ih (i + 1) q (by omega)
   ·have : i = n := by omega
    subst this
    rw [hd]
 exact gen fuel 0 (Nat.zero_le _) (by show n - 0 < 18446744073709551616; omega)
def xA (f : Nat → α → Option ρ) : List α → Nat → Option ρ
 | [], _ => none
 | x :: l, i => match f i x with | some r => some r | none => xA f l (i + 1)
theorem WU {f : Nat → α → Option ρ} : ∀ {l : List α} {k : Nat}, (∀ i x, l[i]? = some x → f (k + i) x = none) → xA f l k = none
 | [], _, _ => rfl
 | x :: l, k, h => by
  have h0 := h 0 x rfl
  simp only [Nat.add_zero] at h0
  simp only [xA, h0]
  exact WU fun i y hy => by have := h (i + 1) y (by simpa using hy); rwa [show k + 1 + i = k + (i + 1) by omega]
theorem jz {f : Nat → α → Option ρ} {r : ρ} : ∀ {l : List α} {k : Nat}, xA f l k = some r → ∃ i x, l[i]? = some x ∧ f (k + i) x = some r
 | [], _, h => by cases h
 | x :: l, k, h => by
  simp only [xA] at h
  cases hf : f k x with
  | some r' => rw [hf] at h; exact ⟨0, x, rfl, by rw [Nat.add_zero, hf]; exact h⟩
  | none =>
   rw [hf] at h
   obtain ⟨i, y, h1, h2⟩ := jz h
   exact ⟨i + 1, y, by simpa using h1, by rw [← h2]; congr 1; omega⟩
theorem kT {f : Nat → α → Option ρ} {l : List α}  (h : xA f l k = none) : ∀ i x, l[i]? = some x → f (k + i) x = none := by
 induction l generalizing k with
 | nil => intro i x h; simp at h
 | cons y l ih =>
  intro i x hx
  simp only [xA] at h
  cases hf : f k y with
  | some r' => rw [hf] at h; cases h
  | none =>
   rw [hf] at h
   cases i with
   | zero => simp at hx; subst hx; simpa using hf
   | succ i => have := ih h i x (by simpa using hx); rwa [show k + (i + 1) = k + 1 + i by omega]
def oS : Option ρ → Unit ⊕ ρ
 | some r => .inr r
 | none => .inl ()
def nS (i : Nat) : Option ρ → LR Int (Unit ⊕ ρ)
 | some r => .done (.inr r)
 | none => .next (w64 ((i : Int) + 1))
theorem jW (l : List α) (hl : l.length < 4611686018427387904) {step : Int → Option (LR Int (Unit ⊕ ρ))} (f : Nat → α → Option ρ)
  (h : ∀ (i : Nat) (x : α), l[i]? = some x → step (i : Int) = some (nS i (f i x))) (h2 : step (l.length : Int) = some (.done (.inl ()))) :
  loop step 0 = some (oS (xA f l 0)) := by
 have gen : ∀ (n : Nat) (k : Nat), k ≤ l.length → l.length - k < n → XY step n (k : Int) = some (oS (xA f (l.drop k) k)) := by
  intro n
  induction n with
  | zero => intro k _ h; omega
  | succ n ih =>
   intro k hk hn
   rw [qD]
   rcases Nat.lt_or_ge k l.length with hlt | hge
   ·have hx : l[k]? = some l[k] := List.getElem?_eq_getElem hlt
    rw [h k _ hx, List.drop_eq_getElem_cons hlt]
    simp only [xA]
    cases hf : f k l[k] with
    | some r => rfl
    | none =>
     simp only [nS]
     rw [ws (by omega) (by omega)]
     exact ih (k + 1) hlt (by omega)
   ·have : k = l.length := by omega
    subst this
    rw [h2, List.drop_length]
    rfl
 exact gen fuel 0 (Nat.zero_le _) (by show l.length - 0 < 18446744073709551616; omega)
end
section
variable {S : Type}
def rv (k : Nat) : List Nat → Nat
 | [] => 0
 | i :: u => rv k u * k + i + 1
def z6D (k : Nat) (bad : S → Nat → Bool) (nx : S → Nat → Option S) (p0 : S) : List Nat → S → Prop
 | [], q => q = p0
 | i :: u, q => ∃ p, z6D k bad nx p0 u p ∧ i < k ∧ bad p i = false ∧ nx p i = some q
structure Bfs (k : Nat) (bad : S → Nat → Bool) (nx : S → Nat → Option S) (p0 : S) (L : List (S × List Nat)) (at_ i : Nat) : Prop where
 first : L[0]? = some (p0, [])
 mono : ∀ (j j' : Nat) (a b : S × List Nat), j < j' → L[j]? = some a → L[j']? = some b → rv k a.2 < rv k b.2
 path : ∀ a ∈ L, z6D k bad nx p0 a.2 a.1
 ahead : ∀ a c, L[at_]? = some c → a ∈ L → rv k a.2 < rv k c.2 * k + i + 1
 pos : i ≤ k
 lies : at_ ≤ L.length
 fin : at_ = L.length → i = 0
 short : ∀ (j : Nat) (a : S × List Nat), L[j]? = some a → a.2.length ≤ j
 seen : ∀ (j x : Nat) (a : S × List Nat), L[j]? = some a → x < k → (j < at_ ∨ j = at_ ∧ x < i) → bad a.1 x = false ∧ ∀ q, nx a.1 x = some q → ∃ b ∈ L, b.1 = q ∧ rv k b.2 ≤ rv k a.2 * k + x + 1
variable {k : Nat} {bad : S → Nat → Bool} {nx : S → Nat → Option S} {p0 : S}
theorem Bfs.start : Bfs k bad nx p0 [(p0, [])] 0 0 := {
 first := rfl
 mono := by
  intro j j' a b h h1 h2
  have := (List.getElem?_eq_some_iff.1 h2).1
  simp at this
  omega
 path := by intro a ha; simp at ha; subst ha; rfl
 ahead := by intro a c _ ha; simp at ha; subst ha; simp [rv]
 pos := Nat.zero_le _
 lies := by simp
 fin := by intro; rfl
 short := by
  intro j a h
  have := (List.getElem?_eq_some_iff.1 h).1
  simp at this
  subst this
  simp at h
  subst h
  simp
 seen := by rintro j x a h _ (q | ⟨_, q⟩) <;> omega }
theorem Bfs.old {L : List (S × List Nat)} {a i : Nat} (h : Bfs k bad nx p0 L a i) {c : S × List Nat} (hc : L[a]? = some c) (hi : i < k) (hb : bad c.1 i = false)
  (hn : ∀ q, nx c.1 i = some q → ∃ b ∈ L, b.1 = q) : Bfs k bad nx p0 L a (i + 1) := {
 first := h.first
 mono := h.mono
 path := h.path
 ahead := fun x y hy hx => by have := h.ahead x y hy hx; omega
 pos := hi
 lies := h.lies
 fin := fun e => by have := (List.getElem?_eq_some_iff.1 hc).1; omega
 short := h.short
 seen := by
  intro j x y hy hx q
  by_cases e : j = a ∧ x = i
  ·obtain ⟨rfl, rfl⟩ := e
   rw [hc] at hy
   cases hy
   refine ⟨hb, fun q hq => ?_⟩
   obtain ⟨b, h1, h2⟩ := hn q hq
   exact ⟨b, h1, h2, by have := h.ahead b c hc h1; omega⟩
  ·exact h.seen j x y hy hx (by omega) }
theorem Bfs.new {L : List (S × List Nat)} {a i : Nat} (h : Bfs k bad nx p0 L a i) {c : S × List Nat} (hc : L[a]? = some c) (hi : i < k) (hb : bad c.1 i = false) {q : S}
  (hn : nx c.1 i = some q) : Bfs k bad nx p0 (L ++ [(q, i :: c.2)]) a (i + 1) := by
 have hlt := (List.getElem?_eq_some_iff.1 hc).1
 refine ⟨?_, ?_, ?_, ?_, hi, by simp; omega, fun e => by simp at e; omega, ?_, ?_⟩
 ·rw [List.getElem?_append_left (by omega)]; exact h.first
 ·intro j j' x y hj h1 h2
  have hl := (List.getElem?_eq_some_iff.1 h2).1
  simp at hl
  rw [List.getElem?_append_left (by omega)] at h1
  rcases Nat.lt_or_ge j' L.length with g | g
  ·rw [List.getElem?_append_left g] at h2
   exact h.mono j j' x y hj h1 h2
  ·have : j' = L.length := by omega
   subst this
   simp at h2
   subst h2
   exact h.ahead x c hc (List.mem_of_getElem? h1)
 ·intro x hx
  rcases List.mem_append.1 hx with g | g
  ·exact h.path x g
  ·simp at g
   subst g
   exact ⟨c.1, h.path c (List.mem_of_getElem? hc), hi, hb, hn⟩
 ·intro x y hy hx
  rw [List.getElem?_append_left hlt] at hy
  rcases List.mem_append.1 hx with g | g
  ·have := h.ahead x y hy g; omega
  ·simp at g
   subst g
   rw [hc] at hy
   cases hy
   simp [rv]
 ·intro j y hy
  rcases Nat.lt_or_ge j L.length with g | g
  ·rw [List.getElem?_append_left g] at hy
   exact h.short j y hy
  ·have hl := (List.getElem?_eq_some_iff.1 hy).1
   simp at hl
   have : j = L.length := by omega
   subst this
   simp at hy
   subst hy
   have := h.short a c hc
   simp
   omega
 ·intro j x y hy hx g
  rw [List.getElem?_append_left (by omega)] at hy
  by_cases e : j = a ∧ x = i
  ·obtain ⟨rfl, rfl⟩ := e
   rw [hc] at hy
   cases hy
   refine ⟨hb, fun q' hq => ?_⟩
   rw [hn] at hq
   cases hq
   exact ⟨(q, x :: c.2), by simp, rfl, Nat.le_refl _⟩
  ·obtain ⟨h1, h2⟩ := h.seen j x y hy hx (by omega)
   refine ⟨h1, fun q' hq => ?_⟩
   obtain ⟨b, g1, g2⟩ := h2 q' hq
   exact ⟨b, List.mem_append_left _ g1, g2⟩
theorem Bfs.step {L : List (S × List Nat)} {a : Nat} (h : Bfs k bad nx p0 L a k) (ha : a < L.length) : Bfs k bad nx p0 L (a + 1) 0 := {
 first := h.first
 mono := h.mono
 path := h.path
 ahead := by
  intro x c hc hx
  have h1 := h.ahead x _ (List.getElem?_eq_getElem ha) hx
  have h2 := h.mono a (a + 1) _ _ (by omega) (List.getElem?_eq_getElem ha) hc
  have h3 : (rv k L[a].2 + 1) * k ≤ rv k c.2 * k := Nat.mul_le_mul_right _ h2
  rw [Nat.succ_mul] at h3
  omega
 pos := Nat.zero_le _
 lies := ha
 fin := fun _ => rfl
 short := h.short
 seen := fun j x b hb hx g => h.seen j x b hb hx (by rcases g with g | ⟨_, g⟩ <;> omega) }
theorem Bfs.reach {L : List (S × List Nat)} {a i : Nat} (h : Bfs k bad nx p0 L a i) : ∀ (u : List Nat) (q : S), z6D k bad nx p0 u q → (∀ c, L[a]? = some c → rv k u < rv k c.2 * k + i + 1) → ∃ (j : Nat) (b : S × List Nat), L[j]? = some b ∧ b.1 = q ∧ rv k b.2 ≤ rv k u
 | [], q, hp, _ => ⟨0, _, h.first, hp.symm, Nat.zero_le _⟩
 | x :: u, q, ⟨p, hp, hx, hb, hn⟩, hlt => by
  have hk : rv k u ≤ rv k u * k := Nat.le_mul_of_pos_right _ (by omega)
  obtain ⟨j, b, hj, rfl, hr⟩ := h.reach u p hp fun c hc => by have := hlt c hc; simp only [rv] at this; omega
  have hmul : rv k b.2 * k ≤ rv k u * k := Nat.mul_le_mul_right _ hr
  have hjl := (List.getElem?_eq_some_iff.1 hj).1
  have hpos : j < a ∨ j = a ∧ x < i := by
   rcases Nat.lt_trichotomy j a with g | g | g
   ·exact .inl g
   ·subst g
    refine .inr ⟨rfl, ?_⟩
    have := hlt b hj
    simp only [rv] at this
    omega
   ·exfalso
    have hal : a < L.length := by omega
    have h1 := hlt _ (List.getElem?_eq_getElem hal)
    have h2 := h.mono a j _ _ g (List.getElem?_eq_getElem hal) hj
    have h3 : (rv k L[a].2 + 1) * k ≤ rv k b.2 * k := Nat.mul_le_mul_right _ h2
    rw [Nat.succ_mul] at h3
    have := h.pos
    simp only [rv] at h1
    omega
  obtain ⟨_, h2⟩ := h.seen j x b hj hx hpos
  obtain ⟨c, g1, g2, g3⟩ := h2 q hn
  obtain ⟨j', g4⟩ := List.getElem?_of_mem g1
  exact ⟨j', c, g4, g2, by simp only [rv]; omega⟩
end
def z2O (m : z6) (x : ze) : Bool := (x.To == -1 && x.Out == -1) || (decide (0 ≤ x.To) && decide (x.To < (m.Rows.length : Int)) && decide (0 ≤ x.Out) && decide (x.Out < m.Outputs))
def z4e (m : z6) (r : List ze) : Bool := decide ((r.length : Int) = m.Inputs) && r.all (z2O m)
def chk (m : z6) : Int :=
 if m.Inputs > 16 ∨ m.Outputs > 16 ∨ (m.Rows.length : Int) > 64 then 3 else if m.Inputs < 1 ∨ m.Outputs < 1 ∨ m.Rows.length = 0 then 1 else if m.Rows.all (z4e m) = true then 0 else 1
theorem zb0 (m : z6) (x : ze) : qQ m x = some (z2O m x) := by
 unfold qQ kK
 simp only [oB, Bool.and_true]
 rcases Bool.eq_false_or_eq_true (x.To == (-1) && x.Out == (-1)) with h | h
 ·simp [z2O, h]
 ·rw [h]
  simp only [z2O, h, Bool.false_or, cond_false]
  by_cases h1 : (0 : Int) ≤ x.To
  ·by_cases h2 : x.To < (m.Rows.length : Int)
   ·by_cases h3 : (0 : Int) ≤ x.Out
    ·simp [Bool.cond_eq_ite, h1, h2, h3]
    ·simp [Bool.cond_eq_ite, h1, h2, h3]
   ·simp [Bool.cond_eq_ite, h1, h2]
  ·simp [h1]
theorem z2U (m : z6) (r : List ze) (hl : r.length < 4611686018427387904) : zY r m = some (!r.all (z2O m)) := by
 have hloop : loop (fun s => zQ r m s) 0 = some (oS (xA (fun i x => if z2O m x = true then none else some (i : Int)) r 0)) := by
  refine jW r hl _ ?_ ?_
  ·intro i x hx
   have hi := (List.getElem?_eq_some_iff.1 hx).1
   unfold zQ
   have hd : decide ((i : Int) < ((r.length : Nat) : Int)) = true := by simpa using hi
   rw [hd, cond_true, wb, bdT hx]
   unfold qg
   simp only [zb0, oB]
   cases z2O m x <;> rfl
  ·unfold zQ
   simp
 unfold zY yn
 rw [hloop]
 simp only [oB]
 cases hf : xA (fun i x => if z2O m x = true then none else some (i : Int)) r 0 with
 | some q =>
  obtain ⟨i, x, h1, h2⟩ := jz hf
  have hx : z2O m x ≠ true := by
   intro h; rw [if_pos h] at h2; cases h2
  rw [if_neg hx] at h2
  simp only [Option.some.injEq] at h2
  have : r.all (z2O m) = false := by
   rw [List.all_eq_false]
   exact ⟨x, List.mem_of_getElem? h1, hx⟩
  rw [this]
  have : (q : Int) ≥ 0 := by rw [← h2]; omega
  show some (decide (q ≥ 0)) = _
  simp [this]
 | none =>
  have : r.all (z2O m) = true := by
   rw [List.all_eq_true]
   intro x hx
   obtain ⟨i, hi⟩ := List.getElem?_of_mem hx
   have := kT hf i x hi
   by_cases h : z2O m x = true
   ·exact h
   ·rw [if_neg h] at this; cases this
  rw [this]
  rfl
variable {m : z6}
theorem z4q (h0 : (m.Rows.length : Int) ≤ 64) (h1 : m.Inputs ≤ 16) : loop (fun s => wo m s) 0 = some (oS (xA (fun _ r => if z4e m r = true then none else some (1 : Int)) m.Rows 0)) := by
 refine jW m.Rows (by omega) _ ?_ ?_
 ·intro i r hr
  have hi := (List.getElem?_eq_some_iff.1 hr).1
  unfold wo
  have hd : decide ((i : Int) < ((m.Rows.length : Nat) : Int)) = true := by simpa using hi
  rw [hd, cond_true, wb, bdT hr]
  by_cases hlen : (r.length : Int) = m.Inputs
  ·have hne : (((r.length : Nat) : Int) != m.Inputs) = false := by simpa using hlen
   rw [hne, cond_false, bdT (z2U m r (by omega))]
   have : z4e m r = r.all (z2O m) := by simp [z4e, hlen]
   rw [this]
   cases r.all (z2O m) <;> rfl
  ·have hne : (((r.length : Nat) : Int) != m.Inputs) = true := by simpa using hlen
   rw [hne, cond_true]
   have : z4e m r = false := by simp [z4e, hlen]
   rw [this]; rfl
 ·unfold wo
  simp
theorem z4d (m : z6) : xA (fun _ r => if z4e m r = true then none else some (1 : Int)) m.Rows 0 = if m.Rows.all (z4e m) = true then none else some 1 := by
 by_cases h : m.Rows.all (z4e m) = true
 ·rw [if_pos h]
  refine WU fun i r hr => ?_
  rw [if_pos (List.all_eq_true.1 h r (List.mem_of_getElem? hr))]
 ·rw [if_neg h]
  cases hf : xA (fun _ r => if z4e m r = true then none else some (1 : Int)) m.Rows 0 with
  | some q =>
   obtain ⟨i, x, h1, h2⟩ := jz hf
   split at h2
   ·cases h2
   ·exact h2.symm ▸ rfl
  | none =>
   exfalso
   apply h
   rw [List.all_eq_true]
   intro x hx
   obtain ⟨i, hi⟩ := List.getElem?_of_mem hx
   have := kT hf i x hi
   by_cases h : z4e m x = true
   ·exact h
   ·rw [if_neg h] at this; cases this
theorem z3V (m : z6) : u9 m = some (chk m) := by
 unfold u9 chk
 by_cases h1 : m.Inputs > 16
 ·simp [h1]
 by_cases h2 : m.Outputs > 16
 ·simp [Bool.cond_eq_ite, h1, h2]
 by_cases h3 : (m.Rows.length : Int) > 64
 ·simp [Bool.cond_eq_ite, h1, h2, h3]
 rw [if_neg (by simp [Bool.cond_eq_ite, h1, h2, h3])]
 by_cases h4 : m.Inputs < 1
 ·simp [Bool.cond_eq_ite, h1, h2, h3, h4]
 by_cases h5 : m.Outputs < 1
 ·simp [Bool.cond_eq_ite, h1, h2, h3, h4, h5]
 by_cases h6 : m.Rows.length = 0
 ·simp [Bool.cond_eq_ite, h1, h2, h4, h5, h6]
 rw [if_neg (by simp [h4, h5, h6])]
 have h6' : decide (((m.Rows.length : Nat) : Int) < 1) = false := by simp; omega
 have e1 : decide (m.Inputs > 16) = false := by simpa using h1
 have e2 : decide (m.Outputs > 16) = false := by simpa using h2
 have e3 : decide (((m.Rows.length : Nat) : Int) > 64) = false := by simpa using h3
 have e4 : decide (m.Inputs < 1) = false := by simpa using h4
 have e5 : decide (m.Outputs < 1) = false := by simpa using h5
 simp only [e1, e2, e3, e4, e5, h6', cond_false]
 rw [bdT (z4q (by omega) (by omega)), z4d]
 by_cases h : m.Rows.all (z4e m) = true
 ·rw [if_pos h, if_pos h]; rfl
 ·rw [if_neg h, if_neg h]; rfl
structure VM (m : z6) : Prop where
 in1 : 1 ≤ m.Inputs
 in16 : m.Inputs ≤ 16
 out1 : 1 ≤ m.Outputs
 out16 : m.Outputs ≤ 16
 len1 : 1 ≤ m.Rows.length
 len64 : m.Rows.length ≤ 64
 row : ∀ r ∈ m.Rows, (r.length : Int) = m.Inputs
 edge : ∀ r ∈ m.Rows, ∀ x ∈ r, (x.To = -1 ∧ x.Out = -1) ∨ (0 ≤ x.To ∧ x.To < (m.Rows.length : Int) ∧ 0 ≤ x.Out ∧ x.Out < m.Outputs)
theorem z9c (h : VM m) : chk m = 0 := by
 unfold chk
 have := h.in1; have := h.in16; have := h.out1; have := h.out16; have := h.len1; have := h.len64
 rw [if_neg (by omega), if_neg (by omega), if_pos]
 rw [List.all_eq_true]
 intro r hr
 simp only [z4e, Bool.and_eq_true, decide_eq_true_eq, List.all_eq_true]
 refine ⟨h.row r hr, fun x hx => ?_⟩
 simp only [z2O, Bool.or_eq_true, Bool.and_eq_true, beq_iff_eq, decide_eq_true_eq]
 rcases h.edge r hr x hx with ⟨a, b⟩ | ⟨a, b, c, d⟩
 ·exact .inl ⟨a, b⟩
 ·exact .inr ⟨⟨⟨a, b⟩, c⟩, d⟩
def kk (m : z6) : Nat := m.Inputs.toNat
def E (m : z6) (s i : Nat) : ze := ((m.Rows[s]?.getD [])[i]?).getD ⟨-1, -1⟩
section
variable {m : z6} (h : VM m)
include h
theorem VM.kk_eq : ((kk m : Nat) : Int) = m.Inputs := by have := h.in1; unfold kk; omega
theorem VM.kk_pos : 1 ≤ kk m := by have := h.in1; unfold kk; omega
theorem VM.kk_le : kk m ≤ 16 := by have := h.in16; unfold kk; omega
theorem VM.rowAt {s : Nat} (hs : s < m.Rows.length) : ∃ r, m.Rows[s]? = some r ∧ r.length = kk m ∧ ∀ i, i < kk m → r[i]? = some (E m s i) := by
 have hr := List.getElem?_eq_getElem hs
 have hl := h.row _ (List.getElem_mem hs)
 have hl' : m.Rows[s].length = kk m := by unfold kk; omega
 refine ⟨_, hr, hl', fun i hi => ?_⟩
 have hi' : i < m.Rows[s].length := by omega
 unfold E
 rw [hr]
 simp only [Option.getD_some]
 rw [List.getElem?_eq_getElem hi']
 rfl
theorem VM.edgeAt {s i : Nat} (hs : s < m.Rows.length) (hi : i < kk m) : ((E m s i).To = -1 ∧ (E m s i).Out = -1) ∨ (0 ≤ (E m s i).To ∧ (E m s i).To < (m.Rows.length : Int) ∧ 0 ≤ (E m s i).Out ∧ (E m s i).Out < m.Outputs) := by
 obtain ⟨r, h1, _, h2⟩ := h.rowAt hs
 exact h.edge r (List.mem_of_getElem? h1) _ (List.mem_of_getElem? (h2 i hi))
theorem VM.edge_eq {s i : Nat} (hs : s < m.Rows.length) (hi : i < kk m) {β : Type} {f : ze → Option β} :
  (Option.bind (idx m.Rows (s : Int)) fun r => Option.bind (idx r (i : Int)) f) = f (E m s i) := by
 obtain ⟨r, h1, _, h2⟩ := h.rowAt hs
 rw [wb, h1, oB, wb, h2 i hi, oB]
end
theorem WP : ∀ (n : Nat) (l : List Nat), l.Nodup → (∀ x ∈ l, x < n) → l.length ≤ n
 | 0, l, _, h => by
  cases l with
  | nil => simp
  | cons x l => have := h x (by simp); omega
 | n + 1, l, hd, h => by
  by_cases hm : n ∈ l
  ·have h1 := List.length_erase_of_mem hm
   have h2 := WP n (l.erase n) (hd.erase n) fun x hx => by
    have h3 := (hd.mem_erase_iff).1 hx
    have := h x h3.2
    have := h3.1
    omega
   have : 0 < l.length := List.length_pos_of_mem hm
   omega
  ·have := WP n l hd fun x hx => by
    have := h x hx
    have : x ≠ n := fun e => hm (e ▸ hx)
    omega
   omega
structure WM (m : z6) : Prop where
 in1 : 1 ≤ m.Inputs
 in16 : m.Inputs ≤ 16
 len1 : 1 ≤ m.Rows.length
 len : m.Rows.length ≤ 128
 row : ∀ r ∈ m.Rows, (r.length : Int) = m.Inputs
 edge : ∀ r ∈ m.Rows, ∀ x ∈ r, (x.To = -1 ∧ x.Out = -1) ∨ (0 ≤ x.To ∧ x.To < (m.Rows.length : Int) ∧ 0 ≤ x.Out)
theorem z2B {a k : Int} (h0 : 0 ≤ a) (hk : 1 ≤ k) (hk2 : k ≤ 1000000) : 1 ≤ w64 (1 + w64 (Int.tmod a k)) ∧ w64 (1 + w64 (Int.tmod a k)) ≤ k := by
 have h1 := Int.tmod_nonneg k h0
 have h2 := Int.tmod_lt_of_pos a (show 0 < k by omega)
 rw [ws (x := Int.tmod a k) (by omega) (by omega), ws (by omega) (by omega)]
 omega
structure MOk (x : ym) : Prop where
 s0 : 0 ≤ x.States
 i0 : 0 ≤ x.Inputs
 o0 : 0 ≤ x.Outputs
 e0 : ∀ v ∈ x.Edges, 0 ≤ v ∧ v ≤ 65535
theorem zeZ {x : ym} {n o : Int} (hn : n = w64 (1 + w64 (Int.tmod x.States 6))) (ho : o = w64 (1 + w64 (Int.tmod x.Outputs 3))) (n1 : 1 ≤ n) (n2 : n ≤ 6) (o1 : 1 ≤ o) (o2 : o ≤ 3) (row : List ze) (i v : Int) (hl : row.length ≤ 1000) (v0 : 0 ≤ v) (v1 : v ≤ 65535) :
  ∃ e : ze, vR x row i v = some (.next (row ++ [e], w64 (i + 1))) ∧ ((e.To = -1 ∧ e.Out = -1) ∨ (0 ≤ e.To ∧ e.To < n ∧ 0 ≤ e.Out ∧ e.Out < o)) := by
 have hv4 : Int.tdiv v 4 = v / 4 := Int.tdiv_eq_ediv_of_nonneg v0
 have w4 : w64 (Int.tdiv v 4) = v / 4 := by rw [hv4]; exact ws (by omega) (by omega)
 have d0 : 0 ≤ v / 4 := by omega
 have hd : Int.tdiv (v / 4) n = v / 4 / n := Int.tdiv_eq_ediv_of_nonneg d0
 have d1 : 0 ≤ v / 4 / n := Int.ediv_nonneg d0 (by omega)
 have d2 : v / 4 / n ≤ v / 4 := Int.ediv_le_self _ d0
 have w5 : w64 (Int.tdiv (v / 4) n) = v / 4 / n := by rw [hd]; exact ws (by omega) (by omega)
 have fit : (0 : Int) ≤ Int.tmod (v / 4) n ∧ Int.tmod (v / 4) n < n ∧ 0 ≤ Int.tmod (v / 4 / n) o ∧ Int.tmod (v / 4 / n) o < o :=
  ⟨Int.tmod_nonneg _ d0, Int.tmod_lt_of_pos _ (by omega), Int.tmod_nonneg _ d1, Int.tmod_lt_of_pos _ (by omega)⟩
 unfold vR
 rw [← hn, ← ho, w4, w5]
 have g4 : (4 : Int) ≠ 0 := by decide
 have gn : (n : Int) ≠ 0 := by omega
 have go : (o : Int) ≠ 0 := by omega
 have gl : ∀ e : ze, row.length + ([e] : List ze).length ≤ 4294967296 := fun e => by simp; omega
 simp only [gdT g4, gdT gn, gdT go, gdT (gl _)]
 cases x.Partial
 ·exact ⟨_, rfl, .inr fit⟩
 ·cases hc : (Int.tmod v 4 == 3)
  ·exact ⟨_, rfl, .inr fit⟩
  ·exact ⟨_, rfl, .inl ⟨rfl, rfl⟩⟩
theorem zcC {x : ym} (h : MOk x) : Ret (Yv x) fun m => VM m ∧ m.Inputs = w64 (1 + w64 (Int.tmod x.Inputs 3)) ∧ m.Inputs ≤ 3 ∧ m.Outputs ≤ 3 ∧ m.Rows.length ≤ 6 := by
 have hn' := z2B h.s0 (k := 6) (by omega) (by omega)
 have hi' := z2B h.i0 (k := 3) (by omega) (by omega)
 have ho' := z2B h.o0 (k := 3) (by omega) (by omega)
 obtain ⟨n, hn⟩ : ∃ n, n = w64 (1 + w64 (Int.tmod x.States 6)) := ⟨_, rfl⟩
 obtain ⟨k, hk⟩ : ∃ n, n = w64 (1 + w64 (Int.tmod x.Inputs 3)) := ⟨_, rfl⟩
 obtain ⟨o, ho⟩ : ∃ n, n = w64 (1 + w64 (Int.tmod x.Outputs 3)) := ⟨_, rfl⟩
 rw [← hn] at hn'
 rw [← hk] at hi'
 rw [← ho] at ho'
 have inner : ∀ s : Int, 0 ≤ s → s < n → Ret (loop (fun st => qR x s st.1 st.2) (([] : List ze), 0)) (fun r => (r.length : Int) = k ∧ ∀ e ∈ r, (e.To = -1 ∧ e.Out = -1) ∨ (0 ≤ e.To ∧ e.To < n ∧ 0 ≤ e.Out ∧ e.Out < o)) := by
  intro s s0 s1
  refine ui (fun st => (st.1.length : Int) = st.2 ∧ st.2 ≤ k ∧ ∀ e ∈ st.1, (e.To = -1 ∧ e.Out = -1) ∨ (0 ≤ e.To ∧ e.To < n ∧ 0 ≤ e.Out ∧ e.Out < o)) (fun st => 10 - st.2.toNat) ⟨by simp, by omega, by simp⟩ (by simp) ?_
  rintro ⟨row, i⟩ ⟨h1, h2, h3⟩
  simp only at h1 h2 h3
  unfold qR
  rw [← hk, x4]
  have hsk : s * k ≤ 5 * k := Int.mul_le_mul_of_nonneg_right (by omega) (by omega)
  have hsk0 : 0 ≤ s * k := Int.mul_nonneg s0 (by omega)
  have w1 : w64 (s * k) = s * k := ws (by omega) (by omega)
  have w2 : w64 (s * k + i) = s * k + i := ws (by omega) (by omega)
  rw [w1, w2]
  refine ⟨fun hlt => ?_, fun hge => ?_⟩
  ·have hlt : i < k := of_decide_eq_true hlt
   have hw : w64 (i + 1) = i + 1 := ws (by omega) (by omega)
   have fin : ∀ v : Int, 0 ≤ v → v ≤ 65535 → Ret (vR x row i v) (LRP (fun s' => (((s'.1.length : Nat) : Int) = s'.2 ∧ s'.2 ≤ k ∧ ∀ e ∈ s'.1, (e.To = -1 ∧ e.Out = -1) ∨ (0 ≤ e.To ∧ e.To < n ∧ 0 ≤ e.Out ∧ e.Out < o)) ∧ 10 - s'.2.toNat < 10 - i.toNat) (fun r => (r.length : Int) = k ∧ ∀ e ∈ r, (e.To = -1 ∧ e.Out = -1) ∨ (0 ≤ e.To ∧ e.To < n ∧ 0 ≤ e.Out ∧ e.Out < o))) := by
    intro v v0 v1
    obtain ⟨e, g1, g2⟩ := zeZ hn ho hn'.1 hn'.2 ho'.1 ho'.2 row i v (by omega) v0 v1
    rw [g1, hw, zM]
    refine ⟨⟨by simp; omega, by simp only; omega, fun e' he => ?_⟩, by simp only; omega⟩
    rcases List.mem_append.1 he with q | q
    ·exact h3 e' q
    ·simp only [List.mem_cons, List.not_mem_nil, or_false] at q; subst q; exact g2
   rw [x4]
   refine ⟨fun hc => ?_, fun _ => fin 0 (by omega) (by omega)⟩
   have hc : s * k + i < ((x.Edges.length : Nat) : Int) := of_decide_eq_true hc
   rw [uj, zav]
   have hlt' : (s * k + i).toNat < x.Edges.length := by omega
   refine ⟨by omega, _, List.getElem?_eq_getElem hlt', ?_⟩
   have := h.e0 _ (List.getElem_mem hlt')
   rw [ws (by omega) (by omega)]
   exact fin _ this.1 this.2
  ·have hge : ¬ i < k := of_decide_eq_false hge
   rw [zM]
   exact ⟨by simp only; omega, h3⟩
 unfold Yv
 simp only [z3m, uj]
 refine ⟨by decide, by decide, by decide, ?_⟩
 refine (ui (R := fun r => (r.length : Int) = n ∧ ∀ r' ∈ r, (r'.length : Int) = k ∧ ∀ e ∈ r', (e.To = -1 ∧ e.Out = -1) ∨ (0 ≤ e.To ∧ e.To < n ∧ 0 ≤ e.Out ∧ e.Out < o)) (fun st => (st.1.length : Int) = st.2 ∧ st.2 ≤ n ∧ ∀ r' ∈ st.1, (r'.length : Int) = k ∧ ∀ e ∈ r', (e.To = -1 ∧ e.Out = -1) ∨ (0 ≤ e.To ∧ e.To < n ∧ 0 ≤ e.Out ∧ e.Out < o)) (fun st => 10 - st.2.toNat) ⟨by simp, by omega, by simp⟩ (by simp) ?_).mono ?_
 ·rintro ⟨rows, s⟩ ⟨h1, h2, h3⟩
  simp only at h1 h2 h3
  unfold kP
  rw [← hn, x4]
  refine ⟨fun hlt => ?_, fun hge => ?_⟩
  ·have hlt : s < n := of_decide_eq_true hlt
   rw [uj]
   refine (inner s (by omega) hlt).mono fun row hrow => ?_
   unfold kQ kR
   rw [z3m, zM, ws (by omega) (by omega)]
   refine ⟨by simp; omega, ⟨by simp; omega, by simp only; omega, fun r' hr => ?_⟩, by simp only; omega⟩
   rcases List.mem_append.1 hr with q | q
   ·exact h3 r' q
   ·simp only [List.mem_cons, List.not_mem_nil, or_false] at q; subst q; exact hrow
  ·have hge : ¬ s < n := of_decide_eq_false hge
   rw [zM]
   exact ⟨by simp only; omega, h3⟩
 ·rintro rows ⟨h1, h2⟩
  unfold kS
  rw [zM, ← hk, ← ho]
  refine ⟨⟨hi'.1, by simp only; omega, ho'.1, by simp only; omega, by simp only; omega, by simp only; omega, fun r hr => (h2 r hr).1, fun r hr e he => ?_⟩, rfl, hi'.2, ho'.2, by simp only; omega⟩
  simp only [h1]
  exact (h2 r hr).2 e he
def nxE (m : z6) (s : Int) (i : Nat) : ze := if s < 0 then ⟨-1, -1⟩ else E m s.toNat i
def rsp (m : z6) : Int → List Nat → List Int
 | _, [] => []
 | s, i :: w => (nxE m s i).Out :: rsp m (nxE m s i).To w
def aft (m : z6) : Int → List Nat → Int
 | s, [] => s
 | s, i :: w => aft m (nxE m s i).To w
theorem Qy (m : z6) : ∀ (w : List Nat) (s : Int) (i : Nat), rsp m s (w ++ [i]) = rsp m s w ++ [(nxE m (aft m s w) i).Out] ∧ aft m s (w ++ [i]) = (nxE m (aft m s w) i).To
 | [], s, i => ⟨rfl, rfl⟩
 | j :: w, s, i => by
  have := Qy m w (nxE m s j).To i
  simp only [List.cons_append, rsp, aft, this.1, this.2, and_self]
def z40 (m : z6) (s : Int) : Prop := -1 ≤ s ∧ s < (m.Rows.length : Int)
variable {i : Nat}{s : Int}
theorem zfn (h : VM m)  (hs : z40 m s)  (hi : i < kk m) : z40 m (nxE m s i).To := by
 unfold nxE
 have := h.len1
 by_cases h0 : s < 0
 ·rw [if_pos h0]
  unfold z40
  simp only
  omega
 ·rw [if_neg h0]
  have hl : s.toNat < m.Rows.length := by have := hs.2; omega
  have := h.edgeAt hl hi
  unfold z40
  omega
theorem zaG (h : VM m)  (hs : z40 m s)  (hi : i < kk m) : Yp m s (i : Int) = some (nxE m s i) ∧ z40 m (nxE m s i).To := by
 unfold Yp nxE
 have := h.len1
 by_cases h0 : s < 0
 ·rw [decide_eq_true h0, cond_true, if_pos h0]
  exact ⟨rfl, by unfold z40; simp only; omega⟩
 ·rw [decide_eq_false h0, cond_false, if_neg h0]
  have hl : s.toNat < m.Rows.length := by have := hs.2; omega
  have he := h.edge_eq hl hi (f := fun e => some e)
  have hc : ((s.toNat : Nat) : Int) = s := by omega
  rw [hc] at he
  refine ⟨he, ?_⟩
  have := h.edgeAt hl hi
  unfold z40
  omega
theorem z2E (m : z6) (s i : Nat) : nxE m (s : Int) i = E m s i := by
 unfold nxE
 rw [if_neg (by omega), Int.toNat_natCast]
theorem z3Y (h : VM m) : ∀ (w : List Nat) (n : Nat) (s : Int), z40 m s → (∀ i ∈ w, i < kk m) → w.length < n → qP n m s (w.map Int.ofNat) = some (aft m s w)
 | w, 0, _, _, _, hn => by omega
 | [], n + 1, s, hs, _, _ => by
  show uI (qP n) m s [] = _
  rfl
 | i :: w, n + 1, s, hs, hw, hn => by
  show uI (qP n) m s ((i : Int) :: w.map Int.ofNat) = _
  have hi := hw i (by simp)
  have hx := zaG h hs hi
  unfold uI
  have hz : (((((i : Int) :: w.map Int.ofNat).length : Nat) : Int) == 0) = false := by
   rw [beq_eq_false_iff_ne]
   simp only [List.length_cons]
   omega
  rw [hz, cond_false]
  have e0 : idx ((i : Int) :: w.map Int.ofNat) 0 = some (i : Int) := rfl
  rw [bdT e0, bdT hx.1, gdT (by simp; omega)]
  have e1 : ((i : Int) :: w.map Int.ofNat).drop (1 : Int).toNat = w.map Int.ofNat := rfl
  rw [e1, bdT (z3Y h w n _ hx.2 (fun j hj => hw j (by simp [hj])) (by simp at hn; omega))]
  rfl
theorem z8C (h : VM m)  (hs : z40 m s) (w : List Nat) (hw : ∀ i ∈ w, i < kk m) : YX m s (w.map Int.ofNat) = some (aft m s w) := by
 unfold YX
 exact z3Y h w _ s hs hw (by simp)
def z1X (k : Nat) : List Nat → Option (List Nat)
 | [] => none
 | d :: r => if d + 1 < k then some ((d + 1) :: r) else (z1X k r).map (0 :: ·)
def Vd (k : Nat) : List Nat → Nat
 | [] => 0
 | d :: r => d + k * Vd k r
theorem z4J {k : Nat} : ∀ {r : List Nat}, (∀ d ∈ r, d < k) → Vd k r < k ^ r.length
 | [], _ => by simp [Vd]
 | d :: r, h => by
  have ih := z4J (k := k) (r := r) fun x hx => h x (by simp [hx])
  have hd := h d (by simp)
  simp only [Vd, List.length_cons, Nat.pow_succ]
  have : k * (Vd k r + 1) ≤ k * k ^ r.length := Nat.mul_le_mul_left k ih
  rw [Nat.mul_add, Nat.mul_one] at this
  rw [Nat.mul_comm (k ^ r.length) k]
  omega
theorem z33 : ∀ {r s : List Nat}, r.length = s.length → (∀ d ∈ r, d < k) → (∀ d ∈ s, d < k) → Vd k r = Vd k s → r = s
 | [], [], _, _, _, _ => rfl
 | [], _ :: _, h, _, _, _ => by simp at h
 | _ :: _, [], h, _, _, _ => by simp at h
 | d :: r, e :: s, h, h1, h2, hv => by
  have hd := h1 d (by simp)
  have he := h2 e (by simp)
  simp only [Vd] at hv
  have a1 : (d + k * Vd k r) % k = d := by rw [Nat.add_mul_mod_self_left, Nat.mod_eq_of_lt hd]
  have a2 : (e + k * Vd k s) % k = e := by rw [Nat.add_mul_mod_self_left, Nat.mod_eq_of_lt he]
  have hde : d = e := by rw [← a1, ← a2, hv]
  subst hde
  have hk : 0 < k := by omega
  have : k * Vd k r = k * Vd k s := by omega
  have := Nat.eq_of_mul_eq_mul_left hk this
  rw [z33 (by simpa using h) (fun x hx => h1 x (by simp [hx])) (fun x hx => h2 x (by simp [hx])) this]
theorem z1V : ∀ {r s : List Nat}, (∀ d ∈ r, d < k) → z1X k r = some s → s.length = r.length ∧ (∀ d ∈ s, d < k) ∧ Vd k s = Vd k r + 1
 | [], s, _, h => by cases h
 | d :: r, s, hr, h => by
  have hd := hr d (by simp)
  unfold z1X at h
  split at h
  ·rename_i hc
   cases h
   exact ⟨rfl, fun x hx => by rcases List.mem_cons.1 hx with rfl | hx; exact hc; exact hr x (by simp [hx]), by simp only [Vd]; omega⟩
  ·rename_i hc
   obtain ⟨s', h1, rfl⟩ := Option.map_eq_some_iff.1 h
   obtain ⟨g1, g2, g3⟩ := z1V (fun x hx => hr x (by simp [hx])) h1
   refine ⟨by simp [g1], fun x hx => by rcases List.mem_cons.1 hx with rfl | hx; omega; exact g2 x hx, ?_⟩
   simp only [Vd, g3, Nat.mul_add, Nat.mul_one]
   omega
theorem z1W (hk : 0 < k) : ∀ {r : List Nat}, (∀ d ∈ r, d < k) → z1X k r = none → Vd k r + 1 = k ^ r.length
 | [], _, _ => by simp [Vd]
 | d :: r, hr, h => by
  have hd := hr d (by simp)
  unfold z1X at h
  split at h
  ·cases h
  ·rename_i hc
   have h1 : z1X k r = none := by cases e : z1X k r with | none => rfl | some x => rw [e] at h; cases h
   have := z1W hk (fun x hx => hr x (by simp [hx])) h1
   simp only [Vd, List.length_cons, Nat.pow_succ, ← this, Nat.add_mul, Nat.one_mul, Nat.mul_comm k]
   omega
def z2G (k : Nat) (w : List Nat) : List Nat := match z1X k w.reverse with | some r => r.reverse | none => List.replicate (w.length + 1) 0
variable {w : List Nat}
theorem z5y (hk : 1 ≤ k) (hk2 : k ≤ 1000)  (hw : ∀ i ∈ w, i < k) (hl : w.length ≤ 100000) : kY (w.map Int.ofNat) (k : Int) = some ((z2G k w).map Int.ofNat) := by
 have hloop : Ret (loop (fun s => qN (k : Int) s.1 s.2) (w.map Int.ofNat, w64 ((((w.map Int.ofNat).length : Nat) : Int) - 1))) fun r => match r with
   | .inl o => z1X k w.reverse = none ∧ o = List.replicate w.length (0 : Int)
   | .inr o => ∃ r, z1X k w.reverse = some r ∧ o = r.reverse.map Int.ofNat := by
  refine ui (fun q => ∃ (p : List Nat) (z : Nat), q.1 = (p ++ List.replicate z 0).map Int.ofNat ∧ q.2 = (p.length : Int) - 1 ∧ (∀ i ∈ p, i < k) ∧ p.length + z = w.length ∧ z1X k w.reverse = (z1X k p.reverse).map (fun r => List.replicate z 0 ++ r)) (fun q => (q.2 + 1).toNat) ⟨w, 0, by simp, by rw [ws (by simp; omega) (by simp; omega)]; simp, hw, by simp, by cases z1X k w.reverse <;> simp⟩ (by simp only; rw [ws (by simp; omega) (by simp; omega)]; simp; omega) ?_
  rintro ⟨out, j⟩ ⟨p, z, h1, h2, h3, h4, h5⟩
  simp only at h1 h2
  subst h1; subst h2
  unfold qN
  rw [x4]
  refine ⟨fun hc => ?_, fun hc => ?_⟩
  ·have hp : 1 ≤ p.length := by simp at hc; omega
   obtain ⟨p', d, rfl⟩ : ∃ p' d, p = p' ++ [d] := by
    rcases List.eq_nil_or_concat p with e | ⟨p', d, e⟩
    ·subst e; simp at hp
    ·exact ⟨p', d, by simpa using e⟩
   have hd := h3 d (by simp)
   have hj : (((p' ++ [d]).length : Nat) : Int) - 1 = ((p'.length : Nat) : Int) := by simp
   have hx : ((p' ++ [d] ++ List.replicate z 0).map Int.ofNat)[p'.length]? = some (d : Int) := by
    simp
   have hset : ∀ e : Nat, ((p' ++ [d] ++ List.replicate z 0).map Int.ofNat).set p'.length (e : Int) = (p' ++ e :: List.replicate z 0).map Int.ofNat := by
    intro e
    rw [List.append_assoc, List.map_append, List.set_append, if_neg (by simp)]
    simp
   have hr : (p' ++ [d]).reverse = d :: p'.reverse := by simp
   rw [hr] at h5
   have hin : z1X k (d :: p'.reverse) = if d + 1 < k then some ((d + 1) :: p'.reverse) else (z1X k p'.reverse).map (0 :: ·) := rfl
   have hw1 : w64 ((d : Int) + 1) = ((d + 1 : Nat) : Int) := by rw [ws (by omega) (by omega)]; rfl
   rw [hj, wb, bdT hx, hw1, x4]
   refine ⟨fun hc => ?_, fun hc => ?_⟩
   ·have hdk : d + 1 < k := by simp at hc; omega
    rw [bdT hx, bdT hx, hw1, Int.toNat_natCast, hset]
    refine zM.2 ?_
    rw [hin, if_pos hdk] at h5
    exact ⟨_, h5, by simp⟩
   ·have hdk : ¬ d + 1 < k := by simp at hc; omega
    rw [bdT hx, Int.toNat_natCast, ws (by omega) (by omega)]
    have h0 := hset 0
    simp only [Int.natCast_zero] at h0
    refine zM.2 ⟨⟨p', z + 1, ?_, rfl, fun i hi => h3 i (by simp [hi]), by simp at h4; omega, ?_⟩, ?_⟩
    ·rw [List.replicate_succ]; exact h0
    ·rw [hin, if_neg hdk] at h5
     rw [h5]
     cases z1X k p'.reverse with
     | none => rfl
     | some r => simp [List.replicate_succ']
    ·simp only
     omega
  ·have hp : p = [] := List.eq_nil_of_length_eq_zero (by simp at hc; omega)
   subst hp
   refine zM.2 ⟨?_, ?_⟩
   ·rw [h5]; rfl
   ·simp at h4; simp [h4]
 unfold kY
 rw [gdT (by simp; omega)]
 obtain ⟨r, e, hr⟩ := hloop
 rw [bdT e]
 unfold z2G
 cases r with
 | inl o =>
  obtain ⟨g1, rfl⟩ := hr
  show qO _ = _
  unfold qO
  rw [gdT (by simp; omega), g1]
  simp [List.replicate_succ']
 | inr o =>
  obtain ⟨r, g1, rfl⟩ := hr
  show some _ = _
  rw [g1]
def GG (k : Nat) : Nat → Nat
 | 0 => 0
 | n + 1 => GG k n + k ^ n
theorem z14 {k n m : Nat} (h : n ≤ m) : GG k n ≤ GG k m := by
 induction h with
 | refl => exact Nat.le_refl _
 | step _ ih => exact Nat.le_trans ih (Nat.le_add_right _ _)
def rk (k : Nat) (w : List Nat) : Nat := GG k w.length + Vd k w.reverse
def Wd (k : Nat) (w : List Nat) : Prop := ∀ i ∈ w, i < k
theorem Wd.rev (h : Wd k w) : ∀ d ∈ w.reverse, d < k := fun d hd => h d (by simpa using hd)
theorem zat (h : Wd k w) : rk k w < GG k (w.length + 1) := by
 have := z4J h.rev
 rw [List.length_reverse] at this
 show GG k w.length + Vd k w.reverse < GG k w.length + k ^ w.length
 omega
theorem z8O {k : Nat} {w u : List Nat} (hw : Wd k w) (h : w.length < u.length) : rk k w < rk k u := by
 have h1 := zat hw
 have h2 := z14 (k := k) (show w.length + 1 ≤ u.length from h)
 unfold rk at *
 omega
theorem z8P {w u : List Nat} (hw : Wd k w) (hu : Wd k u) (h : rk k w = rk k u) : w = u := by
 have hl : w.length = u.length := by
  rcases Nat.lt_trichotomy w.length u.length with q | q | q
  ·have := z8O hw q; omega
  ·exact q
  ·have := z8O hu q; omega
 have hv : Vd k w.reverse = Vd k u.reverse := by unfold rk at h; rw [hl] at h; omega
 have := z33 (by simpa using hl) hw.rev hu.rev hv
 simpa using congrArg List.reverse this
theorem z1i (k : Nat) : ∀ n, Vd k (List.replicate n 0) = 0
 | 0 => rfl
 | n + 1 => by simp [List.replicate_succ, Vd, z1i k n]
theorem z7H (hk : 1 ≤ k)  (hw : Wd k w) : Wd k (z2G k w) ∧ rk k (z2G k w) = rk k w + 1 ∧ (z2G k w).length ≤ w.length + 1 := by
 unfold z2G
 cases e : z1X k w.reverse with
 | some r =>
  obtain ⟨h1, h2, h3⟩ := z1V hw.rev e
  rw [List.length_reverse] at h1
  refine ⟨fun i hi => h2 i (by simpa using hi), ?_, by simp [h1]⟩
  simp only [rk, List.length_reverse, List.reverse_reverse, h1, h3]
  omega
 | none =>
  have h := z1W (by omega) hw.rev e
  rw [List.length_reverse] at h
  refine ⟨fun i hi => by have := (List.mem_replicate.1 hi).2; omega, ?_, by simp⟩
  simp only [rk, List.length_replicate, List.reverse_replicate, z1i, GG, ← h]
  omega
section
variable {m : z6}
def Kb (m : z6) (from_ : Int) (l : List (List Int)) (is : List Bool) (r t : Nat) : Prop :=
 (is[t]? = some true ∧ ∃ v : List Nat, l[t]? = some (v.map Int.ofNat) ∧ rk (kk m) v < r ∧ Wd (kk m) v ∧ v.length < m.Rows.length ∧ aft m from_ v = (t : Int) ∧ ∀ u, Wd (kk m) u → aft m from_ u = (t : Int) → rk (kk m) v ≤ rk (kk m) u) ∨
 (is[t]? = some false ∧ l[t]? = some [] ∧ ∀ u, Wd (kk m) u → rk (kk m) u < r → aft m from_ u ≠ (t : Int))
theorem z3Z (h : VM m) : ∀ (w : List Nat) (s : Int), z40 m s → Wd (kk m) w → z40 m (aft m s w)
 | [], s, hs, _ => hs
 | i :: w, s, hs, hw => z3Z h w _ (zfn h hs (hw i (by simp))) fun j hj => hw j (by simp [hj])
theorem z5q (h : VM m) (hG : GG (kk m) m.Rows.length ≤ 1000000000) {from_ : Int} (hf : z40 m from_) :
  Ret (Zu m from_) fun r => r.1.length = m.Rows.length ∧ r.2.length = m.Rows.length ∧ ∀ t, t < m.Rows.length → Kb m from_ r.1 r.2 (GG (kk m) m.Rows.length) t := by
 have l64 := h.len64
 have l1 := h.len1
 have hk := h.kk_pos
 have hk2 := h.kk_le
 have hke := h.kk_eq
 unfold Zu jM
 rw [z3m, z3m]
 refine ⟨by omega, by omega, ?_⟩
 rw [uj]
 refine Ret.mono ?_ fun r hr => zM.2 hr
 refine ui (fun q => ∃ w : List Nat, q.2.2 = w.map Int.ofNat ∧ Wd (kk m) w ∧ w.length ≤ m.Rows.length ∧ rk (kk m) w ≤ GG (kk m) m.Rows.length ∧ q.1.length = m.Rows.length ∧ q.2.1.length = m.Rows.length ∧ ∀ t, t < m.Rows.length → Kb m from_ q.1 q.2.1 (rk (kk m) w) t)
  (fun q => GG (kk m) m.Rows.length - rk (kk m) (q.2.2.map Int.toNat)) ⟨[], rfl, fun i hi => by simp at hi, by simp, by simp [rk, GG, Vd], by simp, by simp, fun t ht => .inr ⟨by simp [ht], by simp [ht], fun u _ hu => by simp [rk, GG, Vd] at hu⟩⟩ (by simp only; omega) ?_
 rintro ⟨l, is, wi⟩ ⟨w, h1, hw, hwl, hwr, h2, h3, h4⟩
 simp only at h1 h2 h3 h4
 subst h1
 have hback : ∀ w : List Nat, (w.map Int.ofNat).map Int.toNat = w := fun w => by induction w with | nil => rfl | cons a w ih => simp only [List.map_cons, ih]; rfl
 simp only [hback]
 unfold jL
 rw [x4]
 refine ⟨fun hc => ?_, fun hc => ?_⟩
 ·have hlt : w.length < m.Rows.length := by simpa using hc
  have hrk : rk (kk m) w < GG (kk m) m.Rows.length := Nat.lt_of_lt_of_le (zat hw) (z14 hlt)
  obtain ⟨n1, n2, n3⟩ := z7H hk hw
  have hnx : kY (w.map Int.ofNat) m.Inputs = some ((z2G (kk m) w).map Int.ofNat) := by rw [← hke]; exact z5y hk (by omega) hw (by omega)
  have fin : ∀ (l2 : List (List Int)) (is2 : List Bool), l2.length = m.Rows.length → is2.length = m.Rows.length → (∀ t, t < m.Rows.length → Kb m from_ l2 is2 (rk (kk m) w + 1) t) →
    Ret (vj m (w.map Int.ofNat) l2 is2) (LRP (fun s' => (∃ w : List Nat, s'.2.2 = w.map Int.ofNat ∧ Wd (kk m) w ∧ w.length ≤ m.Rows.length ∧ rk (kk m) w ≤ GG (kk m) m.Rows.length ∧ s'.1.length = m.Rows.length ∧ s'.2.1.length = m.Rows.length ∧ ∀ t, t < m.Rows.length → Kb m from_ s'.1 s'.2.1 (rk (kk m) w) t) ∧ GG (kk m) m.Rows.length - rk (kk m) (s'.2.2.map Int.toNat) < GG (kk m) m.Rows.length - rk (kk m) w)
     fun r => r.1.length = m.Rows.length ∧ r.2.length = m.Rows.length ∧ ∀ t, t < m.Rows.length → Kb m from_ r.1 r.2 (GG (kk m) m.Rows.length) t) := by
   intro l2 is2 a1 a2 a3
   unfold vj
   rw [bdT hnx]
   refine zM.2 ⟨⟨_, rfl, n1, by omega, by omega, a1, a2, fun t ht => by rw [n2]; exact a3 t ht⟩, ?_⟩
   rw [hback, n2]
   omega
  have hin := z3Z h w from_ hf hw
  rw [bdT (z8C h hf w hw), x4]
  have stay : ∀ t, t < m.Rows.length → (aft m from_ w = (t : Int) → is[t]? = some true) → Kb m from_ l is (rk (kk m) w + 1) t := by
   intro t ht hn
   rcases h4 t ht with ⟨g1, v, g2, g3, g4⟩ | ⟨g1, g2, g3⟩
   ·exact .inl ⟨g1, v, g2, by omega, g4⟩
   ·refine .inr ⟨g1, g2, fun u hu hr e => ?_⟩
    rcases Nat.lt_or_ge (rk (kk m) u) (rk (kk m) w) with q | q
    ·exact g3 u hu q e
    ·have := z8P hu hw (by omega)
     subst this
     rw [hn e] at g1
     cases g1
  refine ⟨fun hc => ?_, fun hc => ?_⟩
  ·have hs0 : 0 ≤ aft m from_ w := by simpa using hc
   obtain ⟨s, hs⟩ := Int.eq_ofNat_of_zero_le hs0
   have hsN : s < m.Rows.length := by have := hin.2; omega
   rw [hs]
   rcases h4 s hsN with ⟨g1, v, g2, g3⟩ | ⟨g1, g2, g3⟩
   ·rw [wb, bdT g1]
    simp only [Bool.not_true, cond_false]
    refine fin l is h2 h3 fun t ht => stay t ht fun e => ?_
    have : t = s := by omega
    subst this; exact g1
   ·rw [wb, bdT g1]
    simp only [Bool.not_false, cond_true]
    rw [bdT g1, wb, bdT g2, Int.toNat_natCast]
    refine fin _ _ (by simpa using h2) (by simpa using h3) fun t ht => ?_
    by_cases e : t = s
    ·subst e
     refine .inl ⟨by simp [h3, ht], w, by simp [h2, ht], by omega, hw, hlt, hs, fun u hu he => ?_⟩
     rcases Nat.lt_or_ge (rk (kk m) u) (rk (kk m) w) with q | q
     ·exact (g3 u hu q he).elim
     ·exact q
    ·have := stay t ht fun e2 => by omega
     unfold Kb at this ⊢
     rw [List.getElem?_set_ne (by omega), List.getElem?_set_ne (by omega)]
     exact this
  ·have hs0 : ¬ 0 ≤ aft m from_ w := by simpa using hc
   exact fin l is h2 h3 fun t ht => stay t ht fun e => by omega
 ·have hlt : ¬ w.length < m.Rows.length := by simpa using hc
  have hle : w.length = m.Rows.length := by omega
  have hrk : rk (kk m) w = GG (kk m) m.Rows.length := by
   have : GG (kk m) m.Rows.length ≤ rk (kk m) w := by rw [← hle]; unfold rk; omega
   omega
  refine zM.2 ⟨h2, h3, fun t ht => ?_⟩
  rw [← hrk]
  exact h4 t ht
end
theorem z11 (m : z6) : ∀ (u w : List Nat) (s : Int), aft m s (u ++ w) = aft m (aft m s u) w
 | [], _, _ => rfl
 | i :: u, w, s => by simp only [List.cons_append, aft, z11 m u w]
theorem z6B (m : z6) : ∀ (w : List Nat) (s : Int), s < 0 → aft m s w < 0
 | [], s, h => h
 | i :: w, s, h => by
  simp only [aft, nxE, if_pos h]
  exact z6B m w (-1) (by omega)
section
variable {m : z6} (h : VM m)
include h
theorem Jr : ∀ (n : Nat) (u : List Nat), u.length ≤ n → Wd (kk m) u → 0 ≤ aft m 0 u → ∃ w, Wd (kk m) w ∧ w.length < m.Rows.length ∧ w.length ≤ u.length ∧ aft m 0 w = aft m 0 u
 | n, u, hn, hu, h0 => by
  have l1 := h.len1
  rcases Nat.lt_or_ge u.length m.Rows.length with q | q
  ·exact ⟨u, hu, q, Nat.le_refl _, rfl⟩
  ·cases n with
   | zero => omega
   | succ n =>
    have hin0 : z40 m 0 := ⟨by omega, by omega⟩
    have hpre : ∀ i, 0 ≤ aft m 0 (u.take i) ∧ aft m 0 (u.take i) < (m.Rows.length : Int) := by
     intro i
     have e := z11 m (u.take i) (u.drop i) 0
     rw [List.take_append_drop] at e
     have h1 := z3Z h (u.take i) 0 hin0 fun j hj => hu j (List.mem_of_mem_take hj)
     refine ⟨?_, h1.2⟩
     rcases Int.lt_or_le (aft m 0 (u.take i)) 0 with g | g
     ·have := z6B m (u.drop i) _ g
      omega
     ·exact g
    have hex : ∃ i j, i < j ∧ j ≤ m.Rows.length ∧ aft m 0 (u.take i) = aft m 0 (u.take j) := by
     refine Classical.byContradiction fun hno => ?_
     have hnd : ((List.range (m.Rows.length + 1)).map fun i => (aft m 0 (u.take i)).toNat).Nodup := by
      unfold List.Nodup
      rw [List.pairwise_map]
      refine List.Pairwise.imp_of_mem ?_ (List.pairwise_lt_range (n := m.Rows.length + 1))
      intro a b ha hb hab e
      have h1 := (hpre a).1
      have h2 := (hpre b).1
      exact hno ⟨a, b, hab, by have := List.mem_range.1 hb; omega, by omega⟩
     have := WP m.Rows.length _ hnd fun x hx => by
      obtain ⟨i, _, rfl⟩ := List.mem_map.1 hx
      have := hpre i
      omega
     simp at this
     omega
    obtain ⟨i, j, hij, hj, e⟩ := hex
    have e1 : aft m 0 (u.take i ++ u.drop j) = aft m 0 u := by
     rw [z11, e, ← z11, List.take_append_drop]
    have hlen : (u.take i ++ u.drop j).length ≤ n := by simp; omega
    obtain ⟨w, w1, w2, w3, w4⟩ := Jr n (u.take i ++ u.drop j) hlen (fun x hx => by
     rcases List.mem_append.1 hx with q | q
     ·exact hu x (List.mem_of_mem_take q)
     ·exact hu x (List.mem_of_mem_drop q)) (by rw [e1]; exact h0)
    exact ⟨w, w1, w2, by simp at w3; omega, w4.trans e1⟩
end
structure Acc (m : z6) (t : Nat) (v : List Nat) : Prop where
 wd : Wd (kk m) v
 len : v.length < m.Rows.length
 aft : aft m 0 v = (t : Int)
 least : ∀ u, Wd (kk m) u → Go.Own.aft m 0 u = (t : Int) → rk (kk m) v ≤ rk (kk m) u
section
variable {m : z6} (h : VM m) (hG : GG (kk m) m.Rows.length ≤ 1000000000)
include h hG
def z4w (m : z6) (r : List (List Int) × List Bool) : Prop :=
 r.1.length = m.Rows.length ∧ r.2.length = m.Rows.length ∧ ∀ t, t < m.Rows.length →
  (r.2[t]? = some true ∧ ∃ v : List Nat, r.1[t]? = some (v.map Int.ofNat) ∧ Acc m t v) ∨ (r.2[t]? = some false ∧ ∀ u, Wd (kk m) u → aft m 0 u ≠ (t : Int))
theorem z4u : Ret (jU m) (z4w m) := by
 have l1 := h.len1
 unfold jU
 rw [uj]
 refine (z5q h hG (from_ := 0) ⟨by omega, by omega⟩).mono fun r hr => zM.2 ⟨hr.1, hr.2.1, fun t ht => ?_⟩
 rcases hr.2.2 t ht with ⟨g1, v, g2, g3, g4, g5, g6, g7⟩ | ⟨g1, g2, g3⟩
 ·exact .inl ⟨g1, v, g2, ⟨g4, g5, g6, g7⟩⟩
 ·refine .inr ⟨g1, fun u hu e => ?_⟩
  obtain ⟨w, w1, w2, w3, w4⟩ := Jr h u.length u (Nat.le_refl _) hu (by omega)
  exact g3 w w1 (Nat.lt_of_lt_of_le (zat w1) (z14 w2)) (w4.trans e)
end
theorem z8x {s : Nat} {v w : List Nat} (hv : Acc m s v) (hw : Acc m s w) : v = w :=
 z8P hv.wd hw.wd (Nat.le_antisymm (hv.least w hw.wd hw.aft) (hw.least v hv.wd hv.aft))
def Rch (m : z6) (t : Nat) : Prop := ∃ u, Wd (kk m) u ∧ aft m 0 u = (t : Int)
theorem z8E {out : List Bool} {j t : Nat} (hj : j < out.length) : (out.set j true)[t]? = some true ↔ t = j ∨ out[t]? = some true := by
 by_cases e : t = j
 ·subst e; simp [hj]
 ·rw [List.getElem?_set_ne (Ne.symm e)]
  exact ⟨.inr, fun q => q.resolve_left e⟩
section
variable {m : z6} (h : VM m)
include h
omit h in theorem rch_step {s i : Nat} (hs : Rch m s) (hi : i < kk m) (h0 : 0 ≤ (E m s i).To) : Rch m (E m s i).To.toNat := by
 obtain ⟨u, hu, e⟩ := hs
 refine ⟨u ++ [i], fun j hj => ?_, ?_⟩
 ·rcases List.mem_append.1 hj with q | q
  ·exact hu j q
  ·have : j = i := by simpa using q
   omega
 ·have := (Qy m u 0 i).2
  rw [e, z2E] at this
  rw [this]
  omega
end
def ul : List Int → List Int → Int
 | [], [] => 0
 | [], _ :: _ => -1
 | _ :: _, [] => 1
 | x :: a, y :: b => if x < y then -1 else if y < x then 1 else ul a b
def Za (a b : List Int) : Int := if a.length < b.length then -1 else if b.length < a.length then 1 else ul a b
theorem z5I : ∀ {a b : List Int}, ul a b = 0 → a = b
 | [], [], _ => rfl
 | [], _ :: _, h => by simp [ul] at h
 | _ :: _, [], h => by simp [ul] at h
 | x :: a, y :: b, h => by
  simp only [ul] at h
  split at h
  ·simp at h
  ·split at h
   ·simp at h
   ·rw [show x = y by omega, z5I h]
theorem z1N : ∀ a : List Int, ul a a = 0
 | [] => rfl
 | x :: a => by simp [ul, z1N a]
theorem z3C : ∀ a b : List Int, ul b a = - ul a b
 | [], [] => rfl
 | [], _ :: _ => rfl
 | _ :: _, [] => rfl
 | x :: a, y :: b => by
  simp only [ul]
  split
  ·rw [if_neg (by omega)]
  ·split
   ·rfl
   ·exact z3C a b
theorem KT : ∀ {a b c : List Int}, ul a b < 0 → ul b c < 0 → ul a c < 0
 | [], [], _, h, _ => by simp [ul] at h
 | [], _ :: _, [], _, h => by simp [ul] at h
 | [], _ :: _, _ :: _, _, _ => by simp [ul]
 | _ :: _, [], _, h, _ => by simp [ul] at h
 | _ :: _, _ :: _, [], _, h => by simp [ul] at h
 | x :: a, y :: b, z :: c, h1, h2 => by
  simp only [ul] at h1 h2 ⊢
  by_cases e1 : x < y
  ·by_cases e2 : y < z
   ·rw [if_pos (by omega)]; omega
   ·rw [if_neg e2] at h2
    by_cases e3 : z < y
    ·rw [if_pos e3] at h2; omega
    ·rw [if_pos (by omega)]; omega
  ·rw [if_neg e1] at h1
   by_cases e3 : y < x
   ·rw [if_pos e3] at h1; omega
   ·rw [if_neg e3] at h1
    have : x = y := by omega
    subst this
    by_cases e2 : x < z
    ·rw [if_pos e2]; omega
    ·rw [if_neg e2] at h2 ⊢
     by_cases e4 : z < x
     ·rw [if_pos e4] at h2; omega
     ·rw [if_neg e4] at h2 ⊢
      exact KT h1 h2
variable {a b : List Int}
theorem z0L (h : Za a b = 0) : a = b := by
 unfold Za at h
 split at h
 ·simp at h
 ·split at h
  ·simp at h
  ·exact z5I h
theorem Vy (a : List Int) : Za a a = 0 := by simp [Za, z1N]
theorem z3U : Za a b = 0 ↔ a = b := ⟨z0L, fun h => h ▸ Vy a⟩
theorem z3S (a b : List Int) : Za b a = - Za a b := by
 unfold Za
 by_cases h1 : a.length < b.length
 ·rw [if_pos h1, if_neg (by omega), if_pos h1]; rfl
 ·by_cases h2 : b.length < a.length
  ·rw [if_pos h2, if_neg h1, if_pos h2]
  ·rw [if_neg h1, if_neg h2, if_neg h2, if_neg h1, z3C]
theorem Z9 {a b c : List Int} (h1 : Za a b < 0) (h2 : Za b c < 0) : Za a c < 0 := by
 unfold Za at *
 by_cases e1 : a.length < b.length
 ·by_cases e2 : b.length < c.length
  ·rw [if_pos (by omega)]; omega
  ·rw [if_neg e2] at h2
   by_cases e3 : c.length < b.length
   ·rw [if_pos e3] at h2; omega
   ·rw [if_pos (by omega)]; omega
 ·rw [if_neg e1] at h1
  by_cases e3 : b.length < a.length
  ·rw [if_pos e3] at h1; omega
  ·rw [if_neg e3] at h1
   have e : a.length = b.length := by omega
   rw [e]
   by_cases e2 : b.length < c.length
   ·rw [if_pos e2]; omega
   ·rw [if_neg e2] at h2 ⊢
    by_cases e4 : c.length < b.length
    ·rw [if_pos e4] at h2; omega
    ·rw [if_neg e4] at h2 ⊢
     exact KT h1 h2
theorem z3T (a : List Int) : ¬ Za a a < 0 := by rw [Vy]; omega
theorem z6e (h : Za a b < 0) : ¬ Za b a < 0 := by rw [z3S a b]; omega
theorem z6d : ¬ Za a b < 0 ↔ Za b a < 0 ∨ a = b := by
 rw [← z3U, z3S a b]; omega
def SW (l : List (List Int)) : Prop := l.Pairwise fun a b => Za a b < 0
theorem SW.nil : SW [] := List.Pairwise.nil
variable {l : List (List Int)}{x : List Int}
theorem SW.tail (h : SW (x :: l)) : SW l := (List.pairwise_cons.1 h).2
theorem SW.head (h : SW (x :: l)) : ∀ y ∈ l, Za x y < 0 := (List.pairwise_cons.1 h).1
theorem SW.unique : ∀ {l m : List (List Int)}, SW l → SW m → (∀ x, x ∈ l ↔ x ∈ m) → l = m
 | [], [], _, _, _ => rfl
 | [], y :: m, _, _, h => by have := (h y).2 (by simp); simp at this
 | x :: l, [], _, _, h => by have := (h x).1 (by simp); simp at this
 | x :: l, y :: m, h1, h2, h => by
  have hxy : x = y := by
   rcases List.mem_cons.1 ((h x).1 (by simp)) with e | e
   ·exact e
   ·rcases List.mem_cons.1 ((h y).2 (by simp)) with e' | e'
    ·exact e'.symm
    ·exact absurd (h2.head x e) (z6e (h1.head y e'))
  subst hxy
  rw [SW.unique h1.tail h2.tail fun z => ?_]
  constructor
  ·intro hz
   rcases List.mem_cons.1 ((h z).1 (by simp [hz])) with e | e
   ·subst e; exact absurd (h1.head _ hz) (z3T _)
   ·exact e
  ·intro hz
   rcases List.mem_cons.1 ((h z).2 (by simp [hz])) with e | e
   ·subst e; exact absurd (h2.head _ hz) (z3T _)
   ·exact e
theorem SW.sub {l m : List (List Int)} (h : SW l) (hs : List.Sublist m l) : SW m := List.Pairwise.sublist hs h
def KN (w : List Int) : List (List Int) → List (List Int)
 | [] => [w]
 | x :: l => if Za x w < 0 then x :: KN w l else if Za x w = 0 then x :: l else w :: x :: l
theorem Vt {w x : List Int} : ∀ {l : List (List Int)}, x ∈ KN w l ↔ x = w ∨ x ∈ l
 | [] => by simp [KN]
 | y :: l => by
  simp only [KN]
  split
  ·simp only [List.mem_cons, Vt]
   constructor
   ·rintro (h | h | h) <;> simp [h]
   ·rintro (h | h | h) <;> simp [h]
  ·split
   ·rename_i h1 h2
    have := z0L h2
    subst this
    simp
   ·simp
theorem SW.put {w : List Int} : ∀ {l : List (List Int)}, SW l → SW (KN w l)
 | [], _ => by simp [KN, SW]
 | y :: l, h => by
  simp only [KN]
  split
  ·rename_i h1
   refine List.pairwise_cons.2 ⟨fun z hz => ?_, SW.put h.tail⟩
   rcases Vt.1 hz with rfl | hz
   ·exact h1
   ·exact h.head z hz
  ·split
   ·exact h
   ·rename_i h1 h2
    have hw : Za w y < 0 := by
     rcases z6d.1 h1 with q | q
     ·exact q
     ·exact absurd (z3U.2 q) h2
    refine List.pairwise_cons.2 ⟨fun z hz => ?_, h⟩
    rcases List.mem_cons.1 hz with rfl | hz
    ·exact hw
    ·exact Z9 hw (h.head z hz)
theorem z3q (w : List Int) : ∀ l, (KN w l).length ≤ l.length + 1
 | [] => by simp [KN]
 | y :: l => by
  simp only [KN]
  split
  ·have := z3q w l; simp; omega
  ·split <;> simp
def srt (l : List (List Int)) : List (List Int) := l.foldl (fun m w => KN w m) []
theorem z2s : ∀ (l m : List (List Int)), SW m → SW (l.foldl (fun m w => KN w m) m) ∧ ∀ x, x ∈ l.foldl (fun m w => KN w m) m ↔ x ∈ m ∨ x ∈ l
 | [], m, h => ⟨h, by simp⟩
 | w :: l, m, h => by
  obtain ⟨h1, h2⟩ := z2s l (KN w m) h.put
  refine ⟨h1, fun x => ?_⟩
  rw [List.foldl_cons, h2, Vt]
  simp only [List.mem_cons]
  constructor
  ·rintro ((h | h) | h) <;> simp [h]
  ·rintro (h | h | h) <;> simp [h]
theorem z8H (l : List (List Int)) : SW (srt l) := (z2s l [] .nil).1
theorem z2H : x ∈ srt l ↔ x ∈ l := by rw [srt, (z2s l [] .nil).2]; simp
theorem z7g (l : List (List Int)) (w : List Int) : srt (l ++ [w]) = KN w (srt l) := by simp [srt]
theorem z4U (l : List (List Int)) : (srt l).length ≤ l.length := by
 have : ∀ (l m : List (List Int)), (l.foldl (fun m w => KN w m) m).length ≤ m.length + l.length := by
  intro l
  induction l with
  | nil => intro m; simp
  | cons w l ih => intro m; have := ih (KN w m); have := z3q w m; simp only [List.foldl_cons, List.length_cons]; omega
 have q := this l []
 simp only [List.length_nil, Nat.zero_add] at q
 exact q
variable {α : Type}
theorem yY {l : List α}  {x : α} (h : l[i]? = some x) : idx l (i : Int) = some x := h
theorem z5Y (b : List Int) (g : Nat → Int → Option Int) (hg : ∀ i x y, b[i]? = some y → g i x = if x < y then some (-1) else if y < x then some 1 else none) :
  ∀ (a : List Int) (k : Nat), k + a.length = b.length → (xA g a k).getD 0 = ul a (b.drop k)
 | [], k, h => by
  have : b.drop k = [] := List.drop_eq_nil_of_le (by simp at h; omega)
  rw [this]; rfl
 | x :: a, k, h => by
  simp only [List.length_cons] at h
  have hk : k < b.length := by omega
  rw [List.drop_eq_getElem_cons hk]
  simp only [xA, ul, hg k x b[k] (List.getElem?_eq_getElem hk)]
  by_cases h1 : x < b[k]
  ·simp [h1]
  ·by_cases h2 : b[k] < x
   ·simp [h1, h2]
   ·simp only [h1, h2, if_false]
    exact z5Y b g hg a (k + 1) (by omega)
theorem JW (a b : List Int) (h : a.length = b.length → a.length < 4611686018427387904) : vQ a b = some (Za a b) := by
 unfold vQ
 by_cases hl : a.length = b.length
 ·have h' := h hl
  simp only [hl, bne_self_eq_false, cond_false]
  rw [bdT (jW a h' (fun i x => match b[i]? with | some y => if x < y then some (-1 : Int) else if y < x then some 1 else none | none => none) ?_ ?_)]
  ·have q := z5Y b (fun i x => match b[i]? with | some y => if x < y then some (-1 : Int) else if y < x then some 1 else none | none => none) (fun i x y hy => by simp only [hy]) a 0 (by omega)
   rw [List.drop_zero] at q
   have hc : Za a b = ul a b := by unfold Za; rw [if_neg (by omega), if_neg (by omega)]
   rw [hc, ← q]
   cases xA (fun i x => match b[i]? with | some y => if x < y then some (-1 : Int) else if y < x then some 1 else none | none => none) a 0 <;> rfl
  ·intro i x hx
   have hi : i < a.length := (List.getElem?_eq_some_iff.1 hx).1
   have hy : b[i]? = some b[i] := List.getElem?_eq_getElem (by omega)
   unfold u3
   have hc : decide ((i : Int) < (a.length : Int)) = true := by simpa using hi
   simp only [hc, cond_true, yY hx, yY hy, hy, oB]
   by_cases h1 : x < b[i]
   ·simp [h1, nS]
   ·by_cases h2 : b[i] < x
    ·simp [h1, h2, nS]
    ·simp [h1, h2, nS]
  ·unfold u3
   simp
 ·have h1 : (((a.length : Nat) : Int) != ((b.length : Nat) : Int)) = true := by simp; omega
  simp only [h1, cond_true]
  unfold Za
  by_cases h2 : a.length < b.length
  ·simp [h2]
  ·have h3 : b.length < a.length := by omega
   simp [h2, h3]
def cI (x y : Int) : Int := if x < y then -1 else if y < x then 1 else 0
theorem z6c (x y : Int) : vG x y = some (cI x y) := by
 unfold vG j4 cI
 simp only [bne_self_eq_false, oB, cond_false]
 by_cases h1 : x < y
 ·simp [h1]
 ·by_cases h2 : y < x
  ·simp [h1, h2]
  ·simp [h1, h2]
theorem zaq (a b : List Int) (h : a.length < 4611686018427387904) : ∃ c, xz a b = some c ∧ (a.length = b.length → c = ul a b) := by
 unfold xz
 have hloop := jW a h (step := fun s => yo a b s) (fun i x => match b[i]? with | some y => if x < y then some (-1 : Int) else if y < x then some 1 else none | none => some 1) (by
  intro i x hx
  have hi : i < a.length := (List.getElem?_eq_some_iff.1 hx).1
  unfold yo
  have hc : decide ((i : Int) < (a.length : Int)) = true := by simpa using hi
  simp only [hc, cond_true, yY hx, oB]
  by_cases hb : i < b.length
  ·have hy : b[i]? = some b[i] := List.getElem?_eq_getElem hb
   have hd : decide ((i : Int) ≥ (b.length : Int)) = false := by simp; omega
   simp only [hd, cond_false, yY hy, hy, oB, z6c]
   unfold cI
   by_cases h1 : x < b[i]
   ·simp [h1, nS]
   ·by_cases h2 : b[i] < x
    ·simp [h1, h2, nS]
    ·simp [h1, h2, nS]
  ·have hy : b[i]? = none := List.getElem?_eq_none (by omega)
   have hd : decide ((i : Int) ≥ (b.length : Int)) = true := by simp; omega
   simp only [hd, cond_true, hy, nS]) (by unfold yo; simp)
 rw [bdT hloop]
 have q := fun hl => z5Y b (fun i x => match b[i]? with | some y => if x < y then some (-1 : Int) else if y < x then some 1 else none | none => some 1) (fun i x y hy => by simp only [hy]) a 0 hl
 cases hf : xA (fun i x => match b[i]? with | some y => if x < y then some (-1 : Int) else if y < x then some 1 else none | none => some 1) a 0 with
 | some r =>
  refine ⟨r, rfl, fun hl => ?_⟩
  have := q (by omega)
  rw [hf] at this
  simpa using this
 | none =>
  unfold xM
  by_cases hl : a.length < b.length
  ·refine ⟨-1, by simp [oS, hl], fun hl2 => by omega⟩
  ·refine ⟨0, by simp [oS, hl], fun hl2 => ?_⟩
   have := q (by omega)
   rw [hf] at this
   simpa using this
theorem zii (x y : Int) : Yy [x, y] = some (if x = 0 then y else x) := by
 unfold Yy
 rw [bdT (jW [x, y] (by simp) (step := fun s => uL [x, y] s) (fun i v => if v ≠ 0 then some v else none) ?_ ?_)]
 ·by_cases h1 : x = 0
  ·by_cases h2 : y = 0
   ·simp [xA, h1, h2, oS, kU]
   ·simp [xA, h1, h2, oS]
  ·simp [xA, h1, oS]
 ·intro i v hv
  have hi : i < [x, y].length := (List.getElem?_eq_some_iff.1 hv).1
  unfold uL
  have hc : decide ((i : Int) < (([x, y] : List Int).length : Int)) = true := by simp only [decide_eq_true_eq]; omega
  simp only [hc, cond_true, yY hv, oB]
  by_cases h : v = 0
  ·simp [h, nS]
  ·have hb : (v != 0) = true := by simpa using h
   simp [h, hb, nS]
 ·unfold uL; simp
theorem z4v (a b : List Int) (h : a.length < 4611686018427387904) : vK a b = some (Za a b) := by
 unfold vK
 obtain ⟨c, hc, hl⟩ := zaq a b h
 rw [z6c, hc]
 simp only [oB, zii]
 unfold cI Za
 by_cases h1 : a.length < b.length
 ·simp [h1]
 ·by_cases h2 : b.length < a.length
  ·simp [h1, h2]
  ·simp [h1, h2, hl (by omega)]
def wE (n : Int) (w : List Int) : Int := if 256 < w.length then 3 else if w.any (fun c => decide (c < 0) || decide (n ≤ c)) then 1 else 0
variable {n : Int}
theorem z4G {w : List Int} : wE n w = 0 ↔ w.length ≤ 256 ∧ ∀ c ∈ w, 0 ≤ c ∧ c < n := by
 unfold wE
 by_cases h : 256 < w.length
 ·rw [if_pos h]
  exact ⟨fun q => by simp at q, fun q => by omega⟩
 ·rw [if_neg h]
  by_cases h2 : w.any (fun c => decide (c < 0) || decide (n ≤ c)) = true
  ·rw [if_pos h2]
   simp only [List.any_eq_true, Bool.or_eq_true, decide_eq_true_eq] at h2
   obtain ⟨c, h3, h4⟩ := h2
   refine ⟨fun q => by simp at q, fun q => ?_⟩
   have := q.2 c h3
   omega
  ·rw [if_neg h2]
   simp only [List.any_eq_true, Bool.or_eq_true, decide_eq_true_eq, not_exists, not_and, not_or] at h2
   refine ⟨fun _ => ⟨by omega, fun c hc => ?_⟩, fun _ => rfl⟩
   have := h2 c hc
   omega
variable {ρ : Type}
theorem z96 (p : Int → Bool) (g : Nat → Int → Option ρ) (hg : ∀ i x, (g i x).isSome = p x) : ∀ (w : List Int) (k : Nat), (xA g w k).isSome = w.any p
 | [], k => rfl
 | x :: w, k => by
  simp only [xA, List.any_cons]
  have := hg k x
  cases hx : g k x with
  | some r => rw [hx] at this; simp at this; simp [← this]
  | none => rw [hx] at this; simp at this; rw [this, Bool.false_or]; exact z96 p g hg w (k + 1)
theorem z4H (n : Int) (w : List Int) : jl w n = some (if 16 < n then 3 else if 256 < w.length then 3 else if n < 1 then 1 else wE n w) := by
 unfold jl
 by_cases h0 : 16 < n
 ·simp [h0]
 by_cases h : 256 < w.length
 ·have h' : (256 : Int) < (w.length : Int) := by omega
  simp [h0, h, h']
 by_cases h1 : n < 1
 ·have h' : ¬ (256 : Int) < (w.length : Int) := by omega
  simp [h0, h, h', h1]
 ·have hd : decide (((w.length : Nat) : Int) > 256) = false := by simp; omega
  have hd0 : decide (n > 16) = false := by simp; omega
  have hd1 : decide (n < 1) = false := by simp; omega
  simp only [hd, hd0, hd1, cond_false, if_neg h, if_neg h0, if_neg h1]
  unfold xg xZ wE
  have hl := jW w (by omega) (step := fun s => yf w n s) (fun i c => if c < 0 ∨ n ≤ c then some (i : Int) else none) (by
   intro i c hc
   have hi : i < w.length := (List.getElem?_eq_some_iff.1 hc).1
   unfold yf kA
   have hq : decide ((i : Int) < (w.length : Int)) = true := by simpa using hi
   simp only [hq, cond_true, yY hc, oB]
   by_cases h1 : c < 0
   ·simp [h1, nS]
   ·by_cases h2 : n ≤ c
    ·simp [h1, h2, nS]
    ·simp [h1, h2, nS]) (by unfold yf; simp)
  rw [bdT hl, if_neg h]
  have q := z96 (fun c => decide (c < 0) || decide (n ≤ c)) (fun i c => if c < 0 ∨ n ≤ c then some (i : Int) else none) (fun i c => by by_cases h : c < 0 ∨ n ≤ c <;> simp [h] <;> simpa using h) w 0
  cases hf : xA (fun i c => if c < 0 ∨ n ≤ c then some (i : Int) else none) w 0 with
  | none => rw [hf] at q; rw [← q]; rfl
  | some r =>
   rw [hf] at q
   obtain ⟨i, x, h1, h2⟩ := jz hf
   rw [← q]
   split at h2
   ·cases h2
    simp [oS]
   ·cases h2
def eS (e : Int) : Option Int := if e = 0 then none else some e
def loE (n : Int) (l : List (List Int)) : Int := if 16 < n then 3 else if 4096 < l.length then 3 else if n < 1 then 1 else (xA (fun _ w => eS (wE n w)) l 0).getD 0
theorem z3L : ∀ {l : List (List Int)} {k : Nat}, (xA (fun _ w => eS (wE n w)) l k).getD 0 = 0 ↔ ∀ w ∈ l, wE n w = 0
 | [], _ => by simp [xA]
 | w :: l, k => by
  by_cases h : wE n w = 0
  ·have : eS (wE n w) = none := by simp [eS, h]
   simp only [xA, this]
   rw [z3L]
   simp [h]
  ·have : eS (wE n w) = some (wE n w) := by simp [eS, h]
   simp [xA, this, h]
theorem z3B : loE n l = 0 ↔ (1 ≤ n ∧ n ≤ 16) ∧ l.length ≤ 4096 ∧ ∀ w ∈ l, w.length ≤ 256 ∧ ∀ c ∈ w, 0 ≤ c ∧ c < n := by
 unfold loE
 by_cases h0 : 16 < n
 ·rw [if_pos h0]; exact ⟨fun q => by simp at q, fun q => by omega⟩
 by_cases h1 : 4096 < l.length
 ·rw [if_neg h0, if_pos h1]; exact ⟨fun q => by simp at q, fun q => by omega⟩
 by_cases h2 : n < 1
 ·rw [if_neg h0, if_neg h1, if_pos h2]; exact ⟨fun q => by simp at q, fun q => by omega⟩
 rw [if_neg h0, if_neg h1, if_neg h2, z3L]
 constructor
 ·intro q; exact ⟨by omega, by omega, fun w hw => z4G.1 (q w hw)⟩
 ·intro q w hw; exact z4G.2 (q.2.2 w hw)
theorem z7M (l : List (List Int)) (n : Int) : jo l n = some (loE n l) := by
 unfold jo loE
 by_cases h0 : 16 < n
 ·simp [h0]
 by_cases h1 : 4096 < l.length
 ·have h' : (4096 : Int) < (l.length : Int) := by omega
  simp [h0, h1, h']
 by_cases h2 : n < 1
 ·have h' : ¬ (4096 : Int) < (l.length : Int) := by omega
  simp [h0, h1, h2, h']
 have d0 : decide (n > 16) = false := by simp; omega
 have d1 : decide (((l.length : Nat) : Int) > 4096) = false := by simp; omega
 have d2 : decide (n < 1) = false := by simp; omega
 simp only [d0, d1, d2, cond_false, if_neg h0, if_neg h1, if_neg h2]
 rw [bdT (jW l (by omega) (step := fun s => u6 l n s) (fun _ w => eS (wE n w)) ?_ ?_)]
 ·cases xA (fun _ w => eS (wE n w)) l 0 <;> rfl
 ·intro i w hw
  have hi : i < l.length := (List.getElem?_eq_some_iff.1 hw).1
  have hq : decide ((i : Int) < (l.length : Int)) = true := by simpa using hi
  have he : jl w n = some (wE n w) := by
   rw [z4H, if_neg h0, if_neg h2]
   by_cases h : 256 < w.length
   ·rw [if_pos h]; unfold wE; rw [if_pos h]
   ·rw [if_neg h]
  unfold u6
  simp only [hq, cond_true, yY hw, oB, he]
  by_cases hz : wE n w = 0
  ·simp [hz, eS, nS]
  ·have hb : (wE n w != 0) = true := by simpa using hz
   simp [hz, hb, eS, nS]
 ·unfold u6; simp
theorem z7N (l : List (List Int)) (hl : l.length < 4611686018427387904) {step : Int × Int → Option (LR (Int × Int) Int)}
  (h : ∀ (n : Int) (i : Nat) (x : List Int), l[i]? = some x → step (n, (i : Int)) = some (.next (w64 (n + ((x.length : Nat) : Int)), w64 ((i : Int) + 1)))) (h2 : ∀ n, step (n, (l.length : Int)) = some (.done n)) :
  loop step (0, 0) = some (l.foldl (fun n x => w64 (n + ((x.length : Nat) : Int))) 0) := by
 have gen : ∀ (m k : Nat) (n : Int), k ≤ l.length → l.length - k < m → XY step m (n, (k : Int)) = some ((l.drop k).foldl (fun n x => w64 (n + ((x.length : Nat) : Int))) n) := by
  intro m
  induction m with
  | zero => intro k n _ h; omega
  | succ m ih =>
   intro k n hk hn
   rw [qD]
   rcases Nat.lt_or_ge k l.length with hlt | hge
   ·have hx : l[k]? = some l[k] := List.getElem?_eq_getElem hlt
    rw [h n k _ hx, List.drop_eq_getElem_cons hlt]
    simp only [List.foldl_cons]
    rw [ws (x := (k : Int) + 1) (by omega) (by omega)]
    exact ih (k + 1) _ hlt (by omega)
   ·have : k = l.length := by omega
    subst this
    rw [h2, List.drop_length]
    rfl
 exact gen fuel 0 0 (Nat.zero_le _) (by show l.length - 0 < 18446744073709551616; omega)
def stW (l : List (List Int)) : Int := l.foldl (fun n x => w64 (n + ((x.length : Nat) : Int))) 0
theorem z7e (l : List (List Int)) (hl : l.length < 4611686018427387904) : jn l = some (stW l) := by
 unfold jn
 rw [bdT (z7N l hl (step := fun s => u4 l s.1 s.2) ?_ ?_)]
 ·rfl
 ·intro n i x hx
  have hi : i < l.length := (List.getElem?_eq_some_iff.1 hx).1
  have hq : decide ((i : Int) < (l.length : Int)) = true := by simpa using hi
  unfold u4
  simp only [hq, cond_true, yY hx, oB]
 ·intro n; unfold u4; simp
def KD (l : List (List Int)) : Nat := (l.map List.length).sum
theorem zc4 (h : KD l < 4611686018427387904) : stW l = (KD l : Int) := by
 have gen : ∀ (l : List (List Int)) (n : Nat), n + KD l < 4611686018427387904 → l.foldl (fun n x => w64 (n + ((x.length : Nat) : Int))) (n : Int) = ((n + KD l : Nat) : Int) := by
  intro l
  induction l with
  | nil => intro n _; simp [KD]
  | cons x l ih =>
   intro n hn
   have hs : KD (x :: l) = x.length + KD l := by simp [KD]
   rw [hs] at hn ⊢
   rw [List.foldl_cons, ws (by omega) (by omega), ← Int.natCast_add, ih (n + x.length) (by omega)]
   congr 1; omega
 have := gen l 0 (by omega)
 simpa [stW] using this
theorem z4Q {m : Nat} (h : ∀ w ∈ l, w.length ≤ m) : KD l ≤ l.length * m := by
 induction l with
 | nil => simp [KD]
 | cons x l ih =>
  have hs : KD (x :: l) = x.length + KD l := by simp [KD]
  have h1 := h x (by simp)
  have h2 := ih fun w hw => h w (by simp [hw])
  rw [hs, List.length_cons, Nat.add_mul]
  omega
theorem z36 : ∀ {l : List (List Int)}, SW l ↔ ∀ i x y, l[i]? = some x → l[i + 1]? = some y → Za x y < 0
 | [] => by simp [SW]
 | [x] => ⟨fun _ i a b _ h2 => by simp at h2, fun _ => by simp [SW]⟩
 | x :: y :: l => by
  constructor
  ·intro h i a b h1 h2
   cases i with
   | zero =>
    simp at h1 h2
    subst h1; subst h2
    exact h.head y (by simp)
   | succ i => exact z36.1 h.tail i a b (by simpa using h1) (by simpa using h2)
  ·intro h
   have ht : SW (y :: l) := z36.2 fun i a b h1 h2 => h (i + 1) a b (by simpa using h1) (by simpa using h2)
   have h0 := h 0 x y rfl rfl
   refine List.pairwise_cons.2 ⟨fun z hz => ?_, ht⟩
   rcases List.mem_cons.1 hz with rfl | hz
   ·exact h0
   ·exact Z9 h0 (ht.head z hz)
theorem z4k {α ρ : Type} (l : List α) (hl : l.length < 4611686018427387904) {step : Int → Option (LR Int (Unit ⊕ ρ))} (f : Nat → α → Option ρ)
  (h : ∀ (i : Nat) (x : α), 1 ≤ i → l[i]? = some x → step (i : Int) = some (nS i (f i x))) (h2 : ∀ k : Nat, l.length ≤ k → step (k : Int) = some (.done (.inl ()))) :
  loop step 1 = some (oS (xA f (l.drop 1) 1)) := by
 have gen : ∀ (n : Nat) (k : Nat), 1 ≤ k → l.length - k < n → XY step n (k : Int) = some (oS (xA f (l.drop k) k)) := by
  intro n
  induction n with
  | zero => intro k _ h; omega
  | succ n ih =>
   intro k hk hn
   rw [qD]
   rcases Nat.lt_or_ge k l.length with hlt | hge
   ·have hx : l[k]? = some l[k] := List.getElem?_eq_getElem hlt
    rw [h k _ hk hx, List.drop_eq_getElem_cons hlt]
    simp only [xA]
    cases hf : f k l[k] with
    | some r => rfl
    | none =>
     simp only [nS]
     rw [ws (by omega) (by omega)]
     exact ih (k + 1) (by omega) (by omega)
   ·rw [h2 k hge, List.drop_eq_nil_of_le hge]
    rfl
 exact gen fuel 1 (Nat.le_refl _) (by show l.length - 1 < 18446744073709551616; omega)
instance (l : List (List Int)) : Decidable (SW l) := by unfold SW; infer_instance
theorem z84 (l : List (List Int)) (r : ρ) : xA (fun i x => match l[i - 1]? with | some y => if 0 ≤ Za y x then some r else none | none => none) (l.drop 1) 1 = if SW l then none else some r := by
 by_cases hs : SW l
 ·rw [if_pos hs]
  refine WU fun i x hx => ?_
  rw [List.getElem?_drop] at hx
  have hi : 1 + i < l.length := (List.getElem?_eq_some_iff.1 hx).1
  have hy : l[1 + i - 1]? = some l[i] := by rw [show 1 + i - 1 = i by omega]; exact List.getElem?_eq_getElem (by omega)
  rw [hy]
  have := z36.1 hs i l[i] x (List.getElem?_eq_getElem (by omega)) (by rw [Nat.add_comm]; exact hx)
  simp only
  rw [if_neg (by omega)]
 ·rw [if_neg hs]
  cases hf : xA (fun i x => match l[i - 1]? with | some y => if 0 ≤ Za y x then some r else none | none => none) (l.drop 1) 1 with
  | some r' =>
   obtain ⟨i, x, h1, h2⟩ := jz hf
   split at h2
   ·split at h2
    ·exact h2.symm
    ·cases h2
   ·cases h2
  | none =>
   exfalso
   refine hs (z36.2 fun i x y hx hy => ?_)
   have := kT hf i y (by rw [List.getElem?_drop, Nat.add_comm]; exact hy)
   rw [show 1 + i - 1 = i by omega, hx] at this
   simp only at this
   split at this
   ·cases this
   ·omega
theorem z8w (l : List (List Int)) (h : l.length ≤ 4096) (hw : ∀ w ∈ l, w.length < 4611686018427387904) : Zf l = some (decide (SW l)) := by
 unfold Zf
 rw [bdT (z4k l (by omega) (step := fun s => u7 l s) (fun i x => match l[i - 1]? with | some y => if 0 ≤ Za y x then some false else none | none => none) ?_ ?_), z84]
 ·by_cases hs : SW l
  ·simp [hs, oS, jI]
  ·simp [hs, oS]
 ·intro i x hi hx
  have hil : i < l.length := (List.getElem?_eq_some_iff.1 hx).1
  have hy : l[i - 1]? = some l[i - 1] := List.getElem?_eq_getElem (by omega)
  have hq : decide ((i : Int) < (l.length : Int)) = true := by simpa using hil
  unfold u7
  rw [ws (x := (i : Int) - 1) (by omega) (by omega), show ((i : Int) - 1) = ((i - 1 : Nat) : Int) by omega]
  have hE := z4v l[i - 1] x (hw _ (List.getElem_mem (by omega)))
  simp only [hq, cond_true, yY hx, yY hy, oB, hy, hE]
  by_cases hc : 0 ≤ Za l[i - 1] x
  ·simp [hc, nS]
  ·simp [hc, nS]
 ·intro k hk; unfold u7; have : decide ((k : Int) < (l.length : Int)) = false := by simp; omega
  simp only [this, cond_false]
def chE (n : Int) (l : List (List Int)) : Int := if loE n l ≠ 0 then loE n l else if SW l then (if 65536 < KD l then 3 else 0) else 1
theorem z8c : chE n l = 0 ↔ loE n l = 0 ∧ SW l ∧ KD l ≤ 65536 := by
 unfold chE
 by_cases h : loE n l = 0
 ·rw [if_neg (by simp [h])]
  by_cases h2 : SW l
  ·rw [if_pos h2]
   by_cases h3 : 65536 < KD l
   ·rw [if_pos h3]; exact ⟨fun q => by simp at q, fun q => by omega⟩
   ·rw [if_neg h3]; exact ⟨fun _ => ⟨h, h2, by omega⟩, fun _ => rfl⟩
  ·rw [if_neg h2]; exact ⟨fun q => by simp at q, fun q => absurd q.2.1 h2⟩
 ·rw [if_pos h]; exact ⟨fun q => absurd q h, fun q => absurd q.1 h⟩
theorem z5H (h : loE n l = 0) : l.length ≤ 4096 ∧ (∀ w ∈ l, w.length ≤ 256) ∧ KD l ≤ 1048576 := by
 obtain ⟨_, h1, h2⟩ := z3B.1 h
 refine ⟨h1, fun w hw => (h2 w hw).1, ?_⟩
 have := z4Q (m := 256) fun w hw => (h2 w hw).1
 omega
theorem z4P (l : List (List Int)) (n : Int) : Zg l n = some (chE n l) := by
 unfold Zg chE
 rw [z7M]
 simp only [oB]
 by_cases h : loE n l = 0
 ·obtain ⟨h1, h2, h3⟩ := z5H h
  rw [z8w l h1 fun w hw => by have := h2 w hw; omega, z7e l (by omega), zc4 (by omega)]
  simp only [h, bne_self_eq_false, cond_false, oB, ne_eq, not_true, if_false]
  by_cases hs : SW l
  ·by_cases hq : 65536 < KD l
   ·have : (65536 : Int) < (KD l : Int) := by omega
    simp [hs, hq, this]
   ·have : ¬ (65536 : Int) < (KD l : Int) := by omega
    simp [hs, hq, this]
  ·simp [hs]
 ·have hb : (loE n l != 0) = true := by simpa using h
  simp [h, hb]
theorem z0M (w : List Int) : y3 w = some w := by
 unfold y3
 rw [gdT (by omega)]
 simp
theorem QK (w : List Int) (h : w.length ≤ 4294967296) : zU w = some w := by
 unfold zU
 rw [gdT (by simpa using h)]
def QW (l : List (List Int)) : Prop := l.Pairwise fun a b => ¬ Za b a < 0
theorem z7J {l : List α} {n : Nat} {x : α} : x ∈ l.take n ↔ ∃ i, i < n ∧ l[i]? = some x := by
 rw [List.mem_iff_getElem?]
 constructor
 ·rintro ⟨i, h⟩
  rw [List.getElem?_take] at h
  split at h
  ·exact ⟨i, by omega, h⟩
  ·cases h
 ·rintro ⟨i, h1, h2⟩
  exact ⟨i, by rw [List.getElem?_take, if_pos h1]; exact h2⟩
theorem z5i (hs : SW l) {w : List Int}  (hi : i ≤ l.length) (h1 : ∀ m x, m < i → l[m]? = some x → Za x w < 0) (h2 : ∀ m x, i ≤ m → l[m]? = some x → Za w x < 0) : l.take i ++ w :: l.drop i = KN w l := by
 have ht : ∀ x ∈ l.take i, Za x w < 0 := fun x hx => by
  obtain ⟨m, q1, q2⟩ := z7J.1 hx
  exact h1 m x q1 q2
 have hd : ∀ x ∈ l.drop i, Za w x < 0 := fun x hx => by
  obtain ⟨m, q⟩ := List.mem_iff_getElem?.1 hx
  rw [List.getElem?_drop] at q
  exact h2 (i + m) x (by omega) q
 refine SW.unique ?_ hs.put fun x => ?_
 ·unfold SW
  rw [List.pairwise_append, List.pairwise_cons]
  refine ⟨hs.sub (List.take_sublist _ _), ⟨hd, hs.sub (List.drop_sublist _ _)⟩, fun a ha b hb => ?_⟩
  rcases List.mem_cons.1 hb with rfl | hb
  ·exact ht a ha
  ·exact Z9 (ht a ha) (hd b hb)
 ·rw [Vt]
  have : x ∈ l ↔ x ∈ l.take i ∨ x ∈ l.drop i := by rw [← List.mem_append, List.take_append_drop]
  rw [this]
  simp only [List.mem_append, List.mem_cons]
  constructor
  ·rintro (h | h | h) <;> simp [h]
  ·rintro (h | h | h) <;> simp [h]
theorem zcy {l : List (List Int)} (hs : SW l) (hl : l.length ≤ 1000000) (hw : ∀ x ∈ l, x.length < 4611686018427387904) {w : List Int} (hww : w.length ≤ 4294967296) : XT l w = some (KN w l) := by
 unfold XT
 apply Ret.eq
 rw [uj]
 refine Ret.mono (ui (fun q : Int × Int => ∃ i j : Nat, q = ((i : Int), (j : Int)) ∧ i ≤ j ∧ j ≤ l.length ∧ (∀ m x, m < i → l[m]? = some x → Za x w < 0) ∧ ∀ m x, j ≤ m → l[m]? = some x → ¬ Za x w < 0) (fun q => (q.2 - q.1).toNat) (R := fun t => ∃ i : Nat, t = (i : Int) ∧ i ≤ l.length ∧ (∀ m x, m < i → l[m]? = some x → Za x w < 0) ∧ ∀ m x, i ≤ m → l[m]? = some x → ¬ Za x w < 0) ?_ ?_ ?_) ?_
 ·exact ⟨0, l.length, rfl, Nat.zero_le _, Nat.le_refl _, fun m x h => by omega, fun m x h hx => by have := (List.getElem?_eq_some_iff.1 hx).1; omega⟩
 ·simp only; omega
 ·rintro _ ⟨i, j, rfl, g1, g2, g3, g4⟩
  show Ret (jS l w (i : Int) (j : Int)) _
  unfold jS
  rw [x4]
  refine ⟨fun hc => ?_, fun hc => ?_⟩
  ·have hij : i < j := by simpa using hc
   have hh : w64 (Int.tdiv (w64 ((i : Int) + (j : Int))) 2) = (((i + j) / 2 : Nat) : Int) := by
    rw [ws (x := (i : Int) + (j : Int)) (by omega) (by omega)]
    have : Int.tdiv ((i : Int) + (j : Int)) 2 = (((i + j) / 2 : Nat) : Int) := by
     rw [show ((i : Int) + (j : Int)) = ((i + j : Nat) : Int) by omega, Int.tdiv_eq_ediv_of_nonneg (by omega)]
     rfl
    rw [this, ws (by omega) (by omega)]
   rw [gdT (by omega), hh]
   have hm : (i + j) / 2 < l.length := by omega
   have hx : l[(i + j) / 2]? = some l[(i + j) / 2] := List.getElem?_eq_getElem hm
   rw [yY hx]
   simp only [oB]
   rw [JW _ _ (fun _ => hw _ (List.getElem_mem hm))]
   simp only [oB]
   by_cases hc2 : Za l[(i + j) / 2] w < 0
   ·simp only [hc2, decide_true, cond_true]
    rw [ws (by omega) (by omega), zM]
    refine ⟨⟨(i + j) / 2 + 1, j, by simp, by omega, g2, fun m x h hmx => ?_, g4⟩, by simp only; omega⟩
    rcases Nat.lt_or_ge m ((i + j) / 2) with q | q
    ·have h1 := (List.pairwise_iff_getElem.1 hs) m ((i + j) / 2) (List.getElem?_eq_some_iff.1 hmx).1 hm q
     rw [(List.getElem?_eq_some_iff.1 hmx).2] at h1
     exact Z9 h1 hc2
    ·rw [show m = (i + j) / 2 by omega, hx] at hmx
     cases hmx
     exact hc2
   ·simp only [hc2, decide_false, cond_false]
    rw [zM]
    refine ⟨⟨i, (i + j) / 2, rfl, by omega, by omega, g3, fun m x h hmx hlt => ?_⟩, by simp only; omega⟩
    rcases Nat.lt_or_ge ((i + j) / 2) m with q | q
    ·have h1 := (List.pairwise_iff_getElem.1 hs) ((i + j) / 2) m hm (List.getElem?_eq_some_iff.1 hmx).1 q
     rw [(List.getElem?_eq_some_iff.1 hmx).2] at h1
     exact hc2 (Z9 h1 hlt)
    ·rw [show m = (i + j) / 2 by omega, hx] at hmx
     cases hmx
     exact hc2 hlt
  ·have hij : i = j := by
    have : ¬ i < j := by simpa using hc
    omega
   subst hij
   rw [zM]
   exact ⟨i, rfl, g2, g3, g4⟩
 ·rintro _ ⟨i, rfl, h1, h2, h3⟩
  have J2 : (∀ x, l[i]? = some x → x ≠ w) → Ret (qC l w (i : Int)) fun r => r = KN w l := by
   intro hne
   have h4 : ∀ m x, i ≤ m → l[m]? = some x → Za w x < 0 := by
    intro m x hm hx
    have hil : i < l.length := by have := (List.getElem?_eq_some_iff.1 hx).1; omega
    have hxi : l[i]? = some l[i] := List.getElem?_eq_getElem hil
    have hlt : Za w l[i] < 0 := by
     rcases z6d.1 (h3 i _ (Nat.le_refl _) hxi) with q | q
     ·exact q
     ·exact absurd q (hne _ hxi)
    rcases Nat.lt_or_ge i m with q | q
    ·have h5 := (List.pairwise_iff_getElem.1 hs) i m hil (List.getElem?_eq_some_iff.1 hx).1 q
     rw [(List.getElem?_eq_some_iff.1 hx).2] at h5
     exact Z9 hlt h5
    ·rw [show m = i by omega, hxi] at hx
     cases hx
     exact hlt
   unfold qC
   rw [gdT (by simp; omega), uj]
   have hlen : w64 ((((l ++ ([[]] : List (List Int))).length : Nat) : Int) - 1) = ((l.length : Nat) : Int) := by
    rw [List.length_append, List.length_singleton, ws (by omega) (by omega)]; omega
   rw [hlen]
   refine Ret.mono (ui (fun q : List (List Int) × Int => ∃ (j : Nat) (x : List Int), q = (l.take j ++ x :: l.drop j, (j : Int)) ∧ i ≤ j ∧ j ≤ l.length) (fun q => q.2.toNat) (R := fun t => ∃ x : List Int, t = l.take i ++ x :: l.drop i) ⟨l.length, [], by simp, h1, Nat.le_refl _⟩ (by simp only [Int.toNat_natCast]; omega) ?_) ?_
   ·rintro _ ⟨j, x, rfl, g1, g2⟩
    show Ret (jT (i : Int) (l.take j ++ x :: l.drop j) (j : Int)) _
    unfold jT
    rw [x4]
    refine ⟨fun hc => ?_, fun hc => ?_⟩
    ·have hij : i < j := by simpa using hc
     have hA : (l.take j).length = j := by rw [List.length_take]; omega
     have hy : (l.take j ++ x :: l.drop j)[j - 1]? = some l[j - 1] := by
      rw [List.getElem?_append_left (by omega), List.getElem?_take, if_pos (by omega)]; exact List.getElem?_eq_getElem (by omega)
     have hz : (l.take j ++ x :: l.drop j)[j]? = some x := by
      rw [List.getElem?_append_right (by omega), hA]; simp
     rw [ws (by omega) (by omega), show (j : Int) - 1 = ((j - 1 : Nat) : Int) by omega, yY hy, yY hz]
     simp only [oB, zM, Int.toNat_natCast]
     refine ⟨⟨j - 1, l[j - 1], ?_, by omega, by omega⟩, by simp only [Int.toNat_natCast]; omega⟩
     rw [List.set_append_right _ _ (by omega), hA, Nat.sub_self, List.set_cons_zero]
     have e1 : l.take j = l.take (j - 1) ++ [l[j - 1]] := by
      have := List.take_add_one (l := l) (i := j - 1)
      rw [show j - 1 + 1 = j by omega, List.getElem?_eq_getElem (by omega)] at this
      exact this
     have e2 : l.drop (j - 1) = l[j - 1] :: l.drop j := by
      rw [List.drop_eq_getElem_cons (by omega), show j - 1 + 1 = j by omega]
     rw [e2, e1, List.append_assoc]
     rfl
    ·have hij : j = i := by
      have : ¬ i < j := by simpa using hc
      omega
     subst hij
     rw [zM]
     exact ⟨x, rfl⟩
   ·rintro _ ⟨x, rfl⟩
    unfold ZW
    have hA : (l.take i).length = i := by rw [List.length_take]; omega
    have hz : (l.take i ++ x :: l.drop i)[i]? = some x := by
     rw [List.getElem?_append_right (by omega), hA]; simp
    rw [gdT (by simpa using hww), yY hz]
    simp only [oB, zM, Int.toNat_natCast]
    rw [List.set_append_right _ _ (by omega), hA, Nat.sub_self, List.set_cons_zero]
    exact z5i hs h1 h2 h4
  unfold ZX
  rw [x4]
  refine ⟨fun hc => ?_, fun hc => ?_⟩
  ·have hi : i < l.length := by simpa using hc
   have hx : l[i]? = some l[i] := List.getElem?_eq_getElem hi
   rw [yY hx]
   simp only [oB]
   rw [JW _ _ (fun _ => hw _ (List.getElem_mem hi))]
   simp only [oB]
   by_cases he : l[i] = w
   ·have hb : (Za l[i] w == 0) = true := by rw [he, Vy]; rfl
    rw [hb, cond_true, zM]
    refine SW.unique hs hs.put fun x => ?_
    rw [Vt]
    refine ⟨fun q => .inr q, fun q => ?_⟩
    rcases q with rfl | q
    ·exact he ▸ List.getElem_mem hi
    ·exact q
   ·have hb : (Za l[i] w == 0) = false := by simp; exact fun q => he (z0L q)
    rw [hb, cond_false]
    exact J2 fun x hx2 => by rw [hx] at hx2; cases hx2; exact he
  ·have hi : ¬ i < l.length := by simpa using hc
   exact J2 fun x hx2 => by have := (List.getElem?_eq_some_iff.1 hx2).1; omega
theorem z7B (hl : l.length ≤ 1000000) (hw : ∀ x ∈ l, x.length ≤ 4294967296) : Yo l = some (srt l) := by
 unfold Yo
 have h := Wk (step := fun s => wZ l s.1 s.2) (fun i => (srt (l.take i), (i : Int))) l.length (t := srt l) (by omega) (by
  intro i hi
  show wZ l _ (i : Int) = _
  unfold wZ
  have hq : decide ((i : Int) < (l.length : Int)) = true := by simpa using hi
  have hx : l[i]? = some l[i] := List.getElem?_eq_getElem hi
  simp only [hq, cond_true, yY hx, oB]
  have hlen : (srt (l.take i)).length ≤ 1000000 := by have := z4U (l.take i); rw [List.length_take] at this; omega
  rw [zcy (z8H _) hlen (fun x hx => by have := hw x (List.mem_of_mem_take (z2H.1 hx)); omega) (hw _ (List.getElem_mem hi))]
  simp only [oB]
  rw [ws (by omega) (by omega), ← z7g, List.take_add_one, hx]
  rfl) (by
  show wZ l _ (l.length : Int) = _
  unfold wZ
  simp)
 have h0 : (srt (l.take 0), ((0 : Nat) : Int)) = (([] : List (List Int)), (0 : Int)) := by simp [srt]
 rw [h0] at h
 rw [bdT h]
 rfl
theorem z7C (a b : List (List Int)) (hl : a.length < 4611686018427387904) (hw : ∀ x ∈ a, x.length < 4611686018427387904) : jw a b = some (decide (a = b)) := by
 unfold jw
 by_cases he : a.length = b.length
 ·have hb : (((a.length : Nat) : Int) != ((b.length : Nat) : Int)) = false := by simp; omega
  simp only [hb, cond_false]
  rw [bdT (jW a hl (step := fun s => uH a b s) (fun i x => if b[i]? = some x then none else some false) ?_ ?_)]
  ·cases hf : xA (fun i x => if b[i]? = some x then none else some false) a 0 with
   | some r =>
    obtain ⟨i, x, h1, h2⟩ := jz hf
    rw [Nat.zero_add] at h2
    split at h2
    ·cases h2
    ·rename_i h3
     have : a ≠ b := fun e => h3 (by rw [← e]; exact h1)
     cases h2
     simp [oS, this]
   | none =>
    have hab : a = b := by
     refine List.ext_getElem? fun i => ?_
     rcases Nat.lt_or_ge i a.length with q | q
     ·have hx : a[i]? = some a[i] := List.getElem?_eq_getElem q
      have := kT hf i _ hx
      rw [Nat.zero_add] at this
      split at this
      ·rename_i h3; rw [h3, hx]
      ·cases this
     ·rw [List.getElem?_eq_none q, List.getElem?_eq_none (by omega)]
    simp [oS, kI, hab]
  ·intro i x hx
   have hi : i < a.length := (List.getElem?_eq_some_iff.1 hx).1
   have hq : decide ((i : Int) < (a.length : Int)) = true := by simpa using hi
   have hy : b[i]? = some b[i] := List.getElem?_eq_getElem (by omega)
   have hxm : x ∈ a := (List.getElem?_eq_some_iff.1 hx).2 ▸ List.getElem_mem hi
   unfold uH
   simp only [hq, cond_true, yY hx, yY hy, oB, JW x b[i] (fun _ => hw x hxm), hy]
   by_cases h : b[i] = x
   ·rw [if_pos (by rw [h]), h, Vy]; rfl
   ·have : (Za x b[i] != 0) = true := by simp; exact fun q => h (z0L q).symm
    rw [this, if_neg (by simpa using h)]
    rfl
  ·unfold uH; simp
 ·have hb : (((a.length : Nat) : Int) != ((b.length : Nat) : Int)) = true := by simp; omega
  have : a ≠ b := fun e => he (by rw [e])
  simp [hb, this]
variable {σ : Type}
theorem XU (f : Nat → σ → σ) (s : σ) (n : Nat) : (List.range (n + 1)).foldl (fun s i => f i s) s = f n ((List.range n).foldl (fun s i => f i s) s) := by
 rw [List.range_succ, List.foldl_append]; rfl
theorem WE {f : Nat → σ → σ} {I : Nat → σ → Prop} {s : σ} (h0 : I 0 s) : ∀ (n : Nat), (∀ i s, i < n → I i s → I (i + 1) (f i s)) → I n ((List.range n).foldl (fun s i => f i s) s)
 | 0, _ => h0
 | n + 1, h => by
  rw [XU]
  exact h n _ (Nat.lt_succ_self n) (WE h0 n fun i s hi => h i s (by omega))
theorem Jt {σ α : Type} (g : α → σ → σ) (d : α) (l : List α) (s : σ) : (List.range l.length).foldl (fun s i => g ((l[i]?).getD d) s) s = l.foldl (fun s x => g x s) s := by
 have e : l = (List.range l.length).map fun i => (l[i]?).getD d := by
  apply List.ext_getElem (by simp)
  intro i h1 h2
  simp [List.getElem?_eq_getElem h1]
 have q : ((List.range l.length).map fun i => (l[i]?).getD d).foldl (fun s x => g x s) s = (List.range l.length).foldl (fun s i => g ((l[i]?).getD d) s) s := by rw [List.foldl_map]
 rw [← q, ← e]
theorem z1K {σ S τ : Type} {step : S → Option (LR S τ)} (st : σ → Nat → S) (f : Nat → σ → σ) (I : Nat → σ → Prop) (n : Nat) (hn : n < 9223372036854775808) {s0 : σ} {t : τ} (h0 : I 0 s0)
  (h : ∀ i s, i < n → I i s → step (st s i) = some (.next (st (f i s) (i + 1))) ∧ I (i + 1) (f i s))
  (hd : I n ((List.range n).foldl (fun s i => f i s) s0) → step (st ((List.range n).foldl (fun s i => f i s) s0) n) = some (.done t)) : loop step (st s0 0) = some t := by
 have inv : ∀ m, m ≤ n → I m ((List.range m).foldl (fun s i => f i s) s0) := fun m hm => WE h0 m fun i s hi hI => (h i s (by omega) hI).2
 refine Wk (fun m => st ((List.range m).foldl (fun s i => f i s) s0) m) n hn (fun i hi => ?_) (hd (inv n (Nat.le_refl _)))
 show step (st ((List.range i).foldl (fun s i => f i s) s0) i) = _
 rw [(h i _ hi (inv i (by omega))).1, XU]
theorem yx (h : i < 9223372036854775807) : w64 ((i : Int) + 1) = ((i + 1 : Nat) : Int) := by rw [ws (by omega) (by omega)]; rfl
theorem z6E (k : Nat) : ∀ n, GG k (n + 1) = k * GG k n + 1
 | 0 => by simp [GG]
 | n + 1 => by
  have ih := z6E k n
  show GG k (n + 1) + k ^ (n + 1) = k * (GG k n + k ^ n) + 1
  rw [ih, Nat.mul_add, Nat.pow_succ, Nat.mul_comm (k ^ n) k]
  omega
theorem zar (k : Nat) : ∀ u : List Nat, rv k u = rk k u.reverse
 | [] => by simp [rv, rk, GG, Vd]
 | i :: u => by
  have ih := zar k u
  unfold rk at ih ⊢
  rw [List.reverse_reverse, List.length_reverse] at ih ⊢
  simp only [rv, List.length_cons, Vd, ih, z6E, Nat.add_mul]
  rw [Nat.mul_comm (GG k u.length) k, Nat.mul_comm (Vd k u) k]
  omega
def nx1 (m : z6) (s i : Nat) : Option Nat := if 0 ≤ (E m s i).To then some (E m s i).To.toNat else none
abbrev nob : Nat → Nat → Bool := fun _ _ => false
theorem z3v : ∀ (N : Nat) (l : List Nat), l.Nodup → (∀ t ∈ l, t < N) → l.length ≤ N
 | 0, l, _, h => by
  cases l with
  | nil => exact Nat.le_refl _
  | cons x l => have := h x (by simp); omega
 | N + 1, l, hn, h => by
  have ih := z3v N (l.erase N) (hn.erase N) fun t ht => by
   have h1 := h t (List.mem_of_mem_erase ht)
   have h2 : t ≠ N := fun e => by subst e; exact absurd ht (hn.not_mem_erase)
   omega
  by_cases hm : N ∈ l
  ·rw [List.length_erase_of_mem hm] at ih; omega
  ·rw [List.erase_of_not_mem hm] at ih; omega
variable {L : List (Nat × List Nat)}{c : Nat × List Nat}
section
variable {m : z6} (h : VM m)
include h
theorem Wg : ∀ (u : List Nat) (q : Nat), z6D (kk m) nob (nx1 m) 0 u q → Wd (kk m) u.reverse ∧ aft m 0 u.reverse = (q : Int) ∧ q < m.Rows.length
 | [], q, e => by
  have e : q = 0 := e
  subst e
  exact ⟨by simp [Wd], rfl, h.len1⟩
 | i :: u, q, ⟨p, hp, hi, _, hn⟩ => by
  obtain ⟨g1, g2, g3⟩ := Wg u p hp
  unfold nx1 at hn
  split at hn
  ·rename_i h0
   cases hn
   have q2 := (Qy m u.reverse 0 i).2
   rw [g2, z2E] at q2
   rw [List.reverse_cons]
   refine ⟨fun j hj => ?_, by rw [q2]; omega, ?_⟩
   ·rcases List.mem_append.1 hj with g | g
    ·exact g1 j g
    ·rw [List.mem_singleton.1 g]; exact hi
   ·rcases h.edgeAt g3 hi with ⟨g, _⟩ | ⟨_, g, _⟩ <;> omega
  ·cases hn
theorem z10 : ∀ (u : List Nat) (q : Nat), Wd (kk m) u.reverse → aft m 0 u.reverse = (q : Int) → z6D (kk m) nob (nx1 m) 0 u q
 | [], q, _, e => by have : (0 : Int) = q := e; show q = 0; omega
 | i :: u, q, hu, e => by
  rw [List.reverse_cons] at hu e
  have hu' : Wd (kk m) u.reverse := fun j hj => hu j (by simp [List.mem_reverse.1 hj])
  have hi : i < kk m := hu i (by simp)
  have q2 := (Qy m u.reverse 0 i).2
  rw [e] at q2
  have hin := z3Z h u.reverse 0 ⟨by omega, by have := h.len1; omega⟩ hu'
  by_cases hneg : aft m 0 u.reverse < 0
  ·exfalso
   unfold nxE at q2
   rw [if_pos hneg] at q2
   simp at q2
  ·obtain ⟨s, hs⟩ : ∃ s : Nat, aft m 0 u.reverse = s := ⟨(aft m 0 u.reverse).toNat, by omega⟩
   rw [hs, z2E] at q2
   refine ⟨s, z10 u s hu' hs, hi, rfl, ?_⟩
   unfold nx1
   rw [if_pos (by omega), ← q2]
   simp
def zeF (L : List (Nat × List Nat)) (a : Nat) (x : zj) (c : Nat × List Nat) : Prop :=
 x.state_ = (c.1 : Int) ∧ ((c.2 = [] ∧ x.from_ = -1) ∨ ∃ (i : Nat) (u : List Nat) (p j : Nat), c.2 = i :: u ∧ x.input_ = (i : Int) ∧ x.from_ = (p : Int) ∧ j < a ∧ L[j]? = some (p, u))
structure Que (m : z6) (L : List (Nat × List Nat)) (a : Nat) (seen : List Bool) (Q : List zj) : Prop where
 len : seen.length = m.Rows.length
 seen : ∀ t : Nat, seen[t]? = some true ↔ ∃ u, (t, u) ∈ L
 nodup : (L.map (·.1)).Nodup
 qlen : Q.length + a = L.length
 arr : ∀ (j : Nat) (x : zj), Q[j]? = some x → ∃ c, L[a + j]? = some c ∧ zeF L (a + j) x c
theorem z2A {a : Nat}  (hb : Bfs (kk m) nob (nx1 m) 0 L a i) (hn : (L.map (·.1)).Nodup) : L.length ≤ m.Rows.length := by
 have := z3v m.Rows.length (L.map (·.1)) hn fun t ht => by
  obtain ⟨c, hc, rfl⟩ := List.mem_map.1 ht
  exact (Wg h c.2 c.1 (hb.path c hc)).2.2
 simpa using this
theorem zas {a : Nat}  {seen : List Bool} {Q : List zj} {σ : Type} (yr : σ × Bool) (x : zj) (hc : L[a]? = some c) (hx : x.state_ = (c.1 : Int))
  (hb : Bfs (kk m) nob (nx1 m) 0 L a 0) (hq : Que m L (a + 1) seen Q) {r : List ze} (hr : r.length = kk m) (hre : ∀ i, i < kk m → r[i]? = some (E m c.1 i)) :
  Ret (loop (fun s => xG x yr r s.1 s.2.1 s.2.2) (seen, Q, 0)) fun t => t.1 = yr.1 ∧ ∃ L', L.length ≤ L'.length ∧ L'.take L.length = L ∧ Bfs (kk m) nob (nx1 m) 0 L' a (kk m) ∧ Que m L' (a + 1) t.2.1 t.2.2 := by
 have hk := h.kk_le
 have hal := (List.getElem?_eq_some_iff.1 hc).1
 have hcN := (Wg h c.2 c.1 (hb.path c (List.mem_of_getElem? hc))).2.2
 refine ui (fun s => ∃ (i : Nat) (L' : List (Nat × List Nat)), s.2.2 = (i : Int) ∧ i ≤ kk m ∧ L.length ≤ L'.length ∧ L'.take L.length = L ∧ Bfs (kk m) nob (nx1 m) 0 L' a i ∧ Que m L' (a + 1) s.1 s.2.1) (fun s => 100 - s.2.2.toNat) ⟨0, L, rfl, Nat.zero_le _, Nat.le_refl _, List.take_length, hb, hq⟩ (by show 100 - _ < _; omega) ?_
 rintro ⟨seen', Q', _⟩ ⟨i, L', rfl, hi, hll, htk, hb', hq'⟩
 simp only at hq'
 show Ret (xG x yr r seen' Q' (i : Int)) _
 unfold xG
 rw [x4]
 refine ⟨fun h1 => ?_, fun h1 => ?_⟩
 ·have hlt : i < kk m := by simp at h1; omega
  have hc' : L'[a]? = some c := by
   have : (L'.take L.length)[a]? = some c := by rw [htk]; exact hc
   rwa [List.getElem?_take, if_pos hal] at this
  rw [yY (hre i hlt), oB]
  have old : (∀ q, nx1 m c.1 i = some q → ∃ b ∈ L', b.1 = q) → Ret (yz (σ := σ) (i : Int) seen' Q') (LRP (fun s' => (∃ (i : Nat) (L' : List (Nat × List Nat)), s'.2.2 = (i : Int) ∧ i ≤ kk m ∧ L.length ≤ L'.length ∧ L'.take L.length = L ∧ Bfs (kk m) nob (nx1 m) 0 L' a i ∧ Que m L' (a + 1) s'.1 s'.2.1) ∧ 100 - s'.2.2.toNat < 100 - ((i : Int)).toNat) (fun t => t.1 = yr.1 ∧ ∃ L', L.length ≤ L'.length ∧ L'.take L.length = L ∧ Bfs (kk m) nob (nx1 m) 0 L' a (kk m) ∧ Que m L' (a + 1) t.2.1 t.2.2)) := by
   intro hn
   unfold yz
   rw [zM, yx (by omega)]
   exact ⟨⟨i + 1, L', rfl, hlt, hll, htk, hb'.old hc' hlt rfl hn, hq'⟩, by simp only; omega⟩
  rcases h.edgeAt hcN hlt with ⟨g1, _⟩ | ⟨g1, g2, _⟩
  ·have : ((E m c.1 i).To != -1) = false := by rw [g1]; rfl
   rw [this, cond_false]
   exact old fun q hq => by unfold nx1 at hq; rw [if_neg (by omega)] at hq; cases hq
  ·have e1 : ((E m c.1 i).To != -1) = true := by simp; omega
   obtain ⟨q, hq0⟩ : ∃ q : Nat, (E m c.1 i).To = q := ⟨(E m c.1 i).To.toNat, by omega⟩
   have hqN : q < m.Rows.length := by omega
   have hnx : nx1 m c.1 i = some q := by unfold nx1; rw [if_pos g1, hq0]; simp
   have hsq : seen'[q]? = some seen'[q]! := by
    have : q < seen'.length := by rw [hq'.len]; exact hqN
    rw [List.getElem?_eq_getElem this]; simp [this]
   rw [e1, cond_true, hq0, yY hsq, oB]
   by_cases hs : seen'[q]! = true
   ·rw [hs]
    simp only [Bool.not_true, cond_false]
    refine old fun q' hq2 => ?_
    rw [hnx] at hq2
    cases hq2
    rw [hs] at hsq
    obtain ⟨u, hu⟩ := (hq'.seen q).1 hsq
    exact ⟨_, hu, rfl⟩
   ·have hs : seen'[q]! = false := by simpa using hs
    have hnot : ∀ u, (q, u) ∉ L' := fun u hu => by
     have := (hq'.seen q).2 ⟨u, hu⟩
     rw [hsq, hs] at this
     cases this
    have hL' := z2A h hb' hq'.nodup
    have hN := h.len64
    have hql := hq'.qlen
    rw [hs]
    simp only [Bool.not_false, cond_true]
    rw [oB, gdT (by simp; omega)]
    unfold yz
    rw [zM, yx (by omega)]
    refine ⟨⟨i + 1, L' ++ [(q, i :: c.2)], rfl, hlt, by simp; omega, by rw [List.take_append_of_le_length hll, htk], hb'.new hc' hlt rfl hnx, ?_⟩, by simp only; omega⟩
    refine ⟨by simp [hq'.len], fun t => ?_, ?_, by simp; omega, fun j y hy => ?_⟩
    ·simp only [Int.toNat_natCast]
     rw [z8E (by rw [hq'.len]; exact hqN), hq'.seen]
     constructor
     ·rintro (rfl | ⟨u, hu⟩)
      ·exact ⟨_, List.mem_append_right _ (List.mem_singleton.2 rfl)⟩
      ·exact ⟨u, List.mem_append_left _ hu⟩
     ·rintro ⟨u, hu⟩
      rcases List.mem_append.1 hu with g | g
      ·exact .inr ⟨u, g⟩
      ·have := List.mem_singleton.1 g
       cases this
       exact .inl rfl
    ·rw [List.map_append, List.nodup_append]
     refine ⟨hq'.nodup, by simp, fun t ht s hs' e => ?_⟩
     obtain ⟨b, hb1, rfl⟩ := List.mem_map.1 ht
     have hs2 : s = q := by simpa using hs'
     exact hnot b.2 (by rw [← hs2, ← e]; exact hb1)
    ·rcases Nat.lt_or_ge j Q'.length with g | g
     ·rw [List.getElem?_append_left g] at hy
      obtain ⟨d, d1, d2, d3⟩ := hq'.arr j y hy
      have dl := (List.getElem?_eq_some_iff.1 d1).1
      refine ⟨d, by rw [List.getElem?_append_left dl]; exact d1, d2, ?_⟩
      rcases d3 with d3 | ⟨i', u', p, j', e1, e2, e3, e4, e5⟩
      ·exact .inl d3
      ·exact .inr ⟨i', u', p, j', e1, e2, e3, e4, by rw [List.getElem?_append_left (List.getElem?_eq_some_iff.1 e5).1]; exact e5⟩
     ·have hjl := (List.getElem?_eq_some_iff.1 hy).1
      simp at hjl
      have hj : j = Q'.length := by omega
      subst hj
      simp at hy
      subst hy
      refine ⟨(q, i :: c.2), by rw [List.getElem?_append_right (by omega), show a + 1 + Q'.length - L'.length = 0 by omega]; rfl, rfl, .inr ⟨i, c.2, c.1, a, rfl, rfl, hx, by omega, ?_⟩⟩
      rw [List.getElem?_append_left (by omega), hc']
 ·have : i = kk m := by simp at h1; omega
  subst this
  rw [zM]
  exact ⟨rfl, L', hll, htk, hb', hq'⟩
structure zdF (m : z6) (L : List (Nat × List Nat)) (a : Nat) (l : List (List Int)) (is : List Bool) : Prop where
 l1 : l.length = m.Rows.length
 l2 : is.length = m.Rows.length
 got : ∀ (j : Nat) (c : Nat × List Nat), j < a → L[j]? = some c → is[c.1]? = some true ∧ l[c.1]? = some (c.2.reverse.map Int.ofNat)
 rest : ∀ t : Nat, t < m.Rows.length → (∀ (j : Nat) (c : Nat × List Nat), j < a → L[j]? = some c → c.1 ≠ t) → is[t]? = some false ∧ l[t]? = some []
omit h in
theorem zda (w : List Int) (hw : w.length ≤ 4294967296) : zU w = some w := QK w hw
theorem z7E {a : Nat}  {is : List Bool} (hp : zdF m L a l is)  (hc : L[a]? = some c) {x : zj} (hx : zeF L a x c) (hn : (L.map (·.1)).Nodup) (hb : Bfs (kk m) nob (nx1 m) 0 L a 0) :
  ∃ l' is', xL l is x = some (.next (l', is')) ∧ zdF m L (a + 1) l' is' := by
 have hal := (List.getElem?_eq_some_iff.1 hc).1
 have hcN := (Wg h c.2 c.1 (hb.path c (List.mem_of_getElem? hc))).2.2
 obtain ⟨q1, q2⟩ := hx
 have hne : ∀ (j : Nat) (d : Nat × List Nat), j < a → L[j]? = some d → d.1 ≠ c.1 := fun j d hj hd e => by
  have h1 : (L.map (·.1))[j]? = some d.1 := by rw [List.getElem?_map, hd]; rfl
  have h2 : (L.map (·.1))[a]? = some c.1 := by rw [List.getElem?_map, hc]; rfl
  rw [← e] at h2
  have := ((List.getElem?_inj (List.getElem?_eq_some_iff.1 h1).1 hn).1 (h1.trans h2.symm))
  omega
 obtain ⟨r1, r2⟩ := hp.rest c.1 hcN hne
 have main : ∀ w : List Int, w = c.2.reverse.map Int.ofNat → zdF m L (a + 1) (l.set c.1 w) (is.set c.1 true) := by
  intro w hw
  refine ⟨by simp [hp.l1], by simp [hp.l2], fun j d hj hd => ?_, fun t ht hall => ?_⟩
  ·by_cases e : j = a
   ·subst e
    rw [hc] at hd
    cases hd
    rw [List.getElem?_set_self (by rw [hp.l2]; exact hcN), List.getElem?_set_self (by rw [hp.l1]; exact hcN), hw]
    exact ⟨rfl, rfl⟩
   ·have hne' := hne j d (by omega) hd
    rw [List.getElem?_set_ne (Ne.symm hne'), List.getElem?_set_ne (Ne.symm hne')]
    exact hp.got j d (by omega) hd
  ·have hne' : c.1 ≠ t := hall a c (by omega) hc
   rw [List.getElem?_set_ne hne', List.getElem?_set_ne hne']
   exact hp.rest t ht fun j d hj hd => hall j d (by omega) hd
 unfold xL
 rw [q1, yY r1, oB]
 simp only [Int.toNat_natCast]
 rcases q2 with ⟨q2, q3⟩ | ⟨i, u, p, j, q2, q3, q4, q5, q6⟩
 ·have : (x.from_ != -1) = false := by rw [q3]; rfl
  rw [this, cond_false]
  refine ⟨l, is.set c.1 true, rfl, ?_⟩
  have := main [] (by rw [q2]; rfl)
  have e : l.set c.1 [] = l := by
   apply List.ext_getElem?
   intro t
   by_cases e : t = c.1
   ·subst e; rw [List.getElem?_set_self (by rw [hp.l1]; exact hcN), r2]
   ·rw [List.getElem?_set_ne (Ne.symm e)]
  rwa [e] at this
 ·have : (x.from_ != -1) = true := by rw [q4]; simp <;> omega
  obtain ⟨g1, g2⟩ := hp.got j (p, u) q5 q6
  have hul : u.length ≤ j := hb.short j (p, u) q6
  have hjL := (List.getElem?_eq_some_iff.1 q6).1
  have hLN := z2A h hb hn
  have hN := h.len64
  rw [this, cond_true, q4, yY g2, oB, zda _ (by simp; omega), oB, gdT (by simp; omega), z0M, oB, yY r2, oB]
  refine ⟨_, _, rfl, main _ ?_⟩
  rw [q2, q3]
  simp
theorem z0a : Ret (Zb m 0) (z4w m) := by
 have l1 := h.len1
 have hN := h.len64
 have e0 : ((m.Rows.length : Nat) : Int).toNat = m.Rows.length := by simp
 unfold Zb jG
 rw [gdT (by omega), gdT (by omega), oB, e0, uj]
 refine Ret.mono (Q := fun t => ∃ l is, t = .next (l, is) ∧ z4w m (l, is)) ?_ ?_
 ·dsimp only
  unfold vV
  have hrep : (List.replicate m.Rows.length false)[(0 : Nat)]? = some false := by rw [List.getElem?_replicate, if_pos (by omega)]
  rw [gdT (by omega), e0, uj, show idx (List.replicate m.Rows.length false) 0 = some false from hrep, zM, uj]
  refine Ret.mono (Q := fun t => ∃ l is, t = .next (l, is) ∧ z4w m (l, is)) ?_ fun t ht => zM.2 ht
  have hst0 : Que m [(0, [])] 0 ((List.replicate m.Rows.length false).set (0 : Int).toNat true) [zj.mk 0 (-1) (-1)] := by
   refine ⟨by simp, fun t => ?_, by simp, by simp, fun j x hx => ?_⟩
   ·show ((List.replicate m.Rows.length false).set 0 true)[t]? = some true ↔ _
    rw [z8E (by simp; omega)]
    constructor
    ·rintro (rfl | q)
     ·exact ⟨[], by simp⟩
     ·rw [List.getElem?_replicate] at q; split at q <;> cases q
    ·rintro ⟨u, hu⟩
     simp at hu
     exact .inl hu.1
   ·have hj := (List.getElem?_eq_some_iff.1 hx).1
    simp at hj
    subst hj
    simp at hx
    subst hx
    exact ⟨(0, []), rfl, rfl, .inl ⟨rfl, rfl⟩⟩
  have hp0 : zdF m [(0, [])] 0 (List.replicate m.Rows.length ([] : List Int)) (List.replicate m.Rows.length false) := by
   refine ⟨by simp, by simp, fun j c hj => by omega, fun t ht _ => ?_⟩
   rw [List.getElem?_replicate, List.getElem?_replicate, if_pos ht, if_pos ht]
   exact ⟨rfl, rfl⟩
  refine ui (fun s => ∃ (a : Nat) (L : List (Nat × List Nat)) (l : List (List Int)) (is : List Bool), s.1 = .next (l, is) ∧ a ≤ L.length ∧ Bfs (kk m) nob (nx1 m) 0 L a 0 ∧ Que m L a s.2.1 s.2.2 ∧ zdF m L a l is) (fun s => match s.1 with | .next (l, is) => 200 - (is.countP id) | .done _ => 0) ⟨0, _, _, _, rfl, by simp, Bfs.start, hst0, hp0⟩ (by show 200 - _ < _; omega) ?_
  rintro ⟨sg, seen, Q⟩ ⟨a, L, l, is, hsg, haL, hb, hq, hp⟩
  simp only at hsg hq
  subst hsg
  have hLN := z2A h hb hq.nodup
  have hql := hq.qlen
  show Ret (wr m (yOf (fun s x => xL s.1 s.2 x)) (.next (l, is)) seen Q) _
  unfold wr
  rw [x4]
  refine ⟨fun h1 => ?_, fun h1 => ?_⟩
  ·have hQ : 0 < Q.length := by simp at h1; omega
   have hx0 : Q[0]? = some Q[0] := List.getElem?_eq_getElem hQ
   obtain ⟨c, c1, c2⟩ := hq.arr 0 _ hx0
   rw [Nat.add_zero] at c1 c2
   have hal := (List.getElem?_eq_some_iff.1 c1).1
   have hcN := (Wg h c.2 c.1 (hb.path c (List.mem_of_getElem? c1))).2.2
   obtain ⟨l', is', y1, y2⟩ := z7E h hp c1 c2 hq.nodup hb
   have yv : yOf (fun (s : List (List Int) × List Bool) x => xL s.1 s.2 x) (.next (l, is)) Q[0] = some (.next (l', is'), true) := by
    unfold yOf
    simp only
    rw [y1]
   obtain ⟨r, hr, hrl, hre⟩ := h.rowAt hcN
   have hs0 := c2.1
   rw [show idx Q 0 = some Q[0] from hx0, oB, gdT (by omega), yv, oB]
   simp only [Bool.not_true, cond_false]
   rw [hs0, yY hr, oB, uj]
   have hq' : Que m L (a + 1) seen (Q.drop 1) := by
    refine ⟨hq.len, hq.seen, hq.nodup, by rw [List.length_drop]; omega, fun j x hx => ?_⟩
    rw [List.getElem?_drop] at hx
    have := hq.arr (1 + j) x hx
    rwa [show a + (1 + j) = a + 1 + j by omega] at this
   refine (zas h (σ := LR (List (List Int) × List Bool) Empty) (LR.next (l', is'), true) Q[0] c1 hs0 hb hq' hrl hre).mono ?_
   rintro ⟨sg', seen', Q'⟩ ⟨e1, L', g1, g2, g3, g4⟩
   simp only at e1 g4
   rw [zM]
   have same : ∀ j, j < L.length → L'[j]? = L[j]? := fun j hj => by
    have : (L'.take L.length)[j]? = L[j]? := by rw [g2]
    rwa [List.getElem?_take, if_pos hj] at this
   have hal' : a < L'.length := by omega
   refine ⟨⟨a + 1, L', l', is', e1, hal', g3.step hal', g4, ?_⟩, ?_⟩
   ·refine ⟨y2.l1, y2.l2, fun j d hj hd => y2.got j d hj (by rw [← same j (by omega)]; exact hd), fun t ht hall => y2.rest t ht fun j d hj hd => hall j d hj (by rw [same j (by omega)]; exact hd)⟩
   ·subst e1
    have hfalse : is[c.1]? = some false := (hp.rest c.1 hcN fun j d hj hd e => by
     have h1 : (L.map (·.1))[j]? = some d.1 := by rw [List.getElem?_map, hd]; rfl
     have h2 : (L.map (·.1))[a]? = some c.1 := by rw [List.getElem?_map, c1]; rfl
     rw [← e] at h2
     have := ((List.getElem?_inj (List.getElem?_eq_some_iff.1 h1).1 hq.nodup).1 (h1.trans h2.symm))
     omega).1
    have hset : is' = is.set c.1 true := by
     unfold xL at y1
     rw [hs0, yY hfalse, oB] at y1
     simp only [Int.toNat_natCast] at y1
     rcases y8 y1 with ⟨_, y1⟩ | ⟨_, y1⟩
     ·obtain ⟨_, _, y1⟩ := zm y1
      obtain ⟨_, _, y1⟩ := zm y1
      obtain ⟨_, y1⟩ := gdE y1
      obtain ⟨_, _, y1⟩ := zm y1
      obtain ⟨_, _, y1⟩ := zm y1
      cases y1; rfl
     ·cases y1; rfl
    subst hset
    have hcl : c.1 < is.length := by rw [hp.l2]; exact hcN
    have cnt : (is.set c.1 true).countP id = is.countP id + 1 := by
     rw [List.countP_set hcl]
     have : is[c.1] = false := by rw [List.getElem?_eq_getElem hcl] at hfalse; exact Option.some.inj hfalse
     simp [this]
    have cle : (is.set c.1 true).countP id ≤ (is.set c.1 true).length := List.countP_le_length
    rw [List.length_set, hp.l2] at cle
    show 200 - (is.set c.1 true).countP id < 200 - is.countP id
    omega
  ·have hQ : Q.length = 0 := by simp at h1; simp [h1]
   have ha : a = L.length := by omega
   rw [zM]
   refine ⟨l, is, rfl, hp.l1, hp.l2, fun t ht => ?_⟩
   have atEnd : ∀ c, L[a]? = some c → False := fun c hc => by have := (List.getElem?_eq_some_iff.1 hc).1; omega
   by_cases hex : ∃ u, (t, u) ∈ L
   ·obtain ⟨u, hu⟩ := hex
    obtain ⟨j, hj⟩ := List.getElem?_of_mem hu
    have hjl := (List.getElem?_eq_some_iff.1 hj).1
    obtain ⟨g1, g2⟩ := hp.got j (t, u) (by omega) hj
    obtain ⟨p1, p2, p3⟩ := Wg h u t (hb.path _ hu)
    refine .inl ⟨g1, u.reverse, g2, p1, ?_, p2, fun v hv e => ?_⟩
    ·rw [List.length_reverse]
     have : u.length ≤ j := hb.short j (t, u) hj
     omega
    ·obtain ⟨j2, b, b1, b2, b3⟩ := hb.reach v.reverse t (z10 h v.reverse t (by rw [List.reverse_reverse]; exact hv) (by rw [List.reverse_reverse]; exact e)) fun c hc => (atEnd c hc).elim
     have hb2 : b.2 = u := by
      have h1 : (L.map (·.1))[j]? = some t := by rw [List.getElem?_map, hj]; rfl
      have h2 : (L.map (·.1))[j2]? = some t := by rw [List.getElem?_map, b1]; exact congrArg some b2
      have := ((List.getElem?_inj (List.getElem?_eq_some_iff.1 h1).1 hq.nodup).1 (h1.trans h2.symm))
      subst this
      rw [hj] at b1
      cases b1; rfl
     rw [hb2, zar, zar, List.reverse_reverse] at b3
     exact b3
   ·refine .inr ⟨(hp.rest t ht fun j c hj hc e => hex ⟨c.2, by rw [← e]; exact List.mem_of_getElem? hc⟩).1, fun v hv e => ?_⟩
    obtain ⟨j2, b, b1, b2, _⟩ := hb.reach v.reverse t (z10 h v.reverse t (by rw [List.reverse_reverse]; exact hv) (by rw [List.reverse_reverse]; exact e)) fun c hc => (atEnd c hc).elim
    exact hex ⟨b.2, by rw [← b2]; exact List.mem_of_getElem? b1⟩
 ·rintro t ⟨l, is, rfl, ha⟩
  simp only
  unfold jF
  exact zM.2 ha
theorem z2m : Ret (jO m) fun r => r.2.2 = 0 ∧ z4w m (r.1, r.2.1) := by
 unfold jO
 rw [z3V, z9c h, oB, bne_self_eq_false, cond_false, uj]
 exact (z0a h).mono fun r hr => zM.2 ⟨rfl, hr⟩
end
open Classical
section
variable {K : Type} [BEq K] [LawfulBEq K]
def z6K (S : List K) (x : K) : List K := if x ∈ S then S else S ++ [x]
def mks (S : List K) : List (K × Bool) := S.map fun x => (x, true)
theorem QD {S : List K} {x y : K} : y ∈ z6K S x ↔ y ∈ S ∨ y = x := by
 unfold z6K
 split
 ·rename_i h
  exact ⟨.inl, fun q => q.elim id (fun e => e ▸ h)⟩
 ·simp
theorem z5z : ∀ {S : List K} {x : K}, x ∈ S → QB (mks S) x true = mks S
 | [], x, h => by simp at h
 | y :: S, x, h => by
  show (if (y == x) = true then (x, true) :: mks S else (y, true) :: QB (mks S) x true) = (y, true) :: mks S
  by_cases e : (y == x) = true
  ·rw [if_pos e, eq_of_beq e]
  ·rw [if_neg e]
   have : x ∈ S := by
    rcases List.mem_cons.1 h with q | q
    ·subst q; exact (e (beq_self_eq_true x)).elim
    ·exact q
   rw [z5z this]
theorem z3x : ∀ {S : List K} {x : K}, x ∉ S → QB (mks S) x true = mks (S ++ [x])
 | [], x, _ => rfl
 | y :: S, x, h => by
  show (if (y == x) = true then (x, true) :: mks S else (y, true) :: QB (mks S) x true) = (y, true) :: mks (S ++ [x])
  have e : ¬ (y == x) = true := fun e => h (by rw [eq_of_beq e]; simp)
  rw [if_neg e, z3x (fun q => h (by simp [q]))]
theorem z0E (S : List K) (x : K) : QB (mks S) x true = mks (z6K S x) := by
 unfold z6K
 split
 ·rename_i h; exact z5z h
 ·rename_i h; exact z3x h
theorem QC : ∀ (S : List K) (x : K), (z4A (mks S) x).getD false = decide (x ∈ S)
 | [], x => by simp [mks, z4A]
 | y :: S, x => by
  show ((if (y == x) = true then some true else z4A (mks S) x) : Option Bool).getD false = _
  by_cases e : (y == x) = true
  ·rw [if_pos e, eq_of_beq e]; simp
  ·rw [if_neg e, QC S x]
   have : x ≠ y := fun q => e (by rw [q]; exact beq_self_eq_true y)
   simp [this]
end
instance : LawfulBEq z8 := {
 eq_of_beq := by
  rintro ⟨a, b, c⟩ ⟨d, e, f⟩ h
  simp only [BEq.beq, Bool.and_eq_true, decide_eq_true_eq] at h
  simp_all
 rfl := by
  rintro ⟨a, b, c⟩
  simp [BEq.beq] }
instance : LawfulBEq (xF Int) := {
 eq_of_beq := by
  rintro ⟨a, b⟩ ⟨d, e⟩ h
  simp only [BEq.beq, Bool.and_eq_true, decide_eq_true_eq] at h
  simp_all
 rfl := by
  rintro ⟨a, b⟩
  simp [BEq.beq] }
abbrev Mk3 := List Int × List (xF Int) × List z8
def mk3 (x : Mk3) : zh := ⟨mks x.1, mks x.2.1, mks x.2.2⟩
def zcV (Z : List z8) (bf : Option (Nat × Nat)) (i : Nat) : List z8 := match bf with | some p => z6K Z ⟨p.1, p.2, i⟩ | none => Z
def Qx (m : z6) : Nat → Option (Nat × Nat) → List Nat → Mk3 → Mk3
 | _, _, [], x => x
 | s, bf, i :: w, x => if (E m s i).To = -1 then x else Qx m (E m s i).To.toNat (some (s, i)) w (z6K x.1 (E m s i).To, z6K x.2.1 ⟨s, i⟩, zcV x.2.2 bf i)
def z6N (m : z6) (s : Nat) : Nat → List Nat → Prop
 | t, [] => s = t
 | t, i :: w => s = t ∨ ((E m t i).To ≠ -1 ∧ z6N m s (E m t i).To.toNat w)
def z9b (m : z6) (s j : Nat) : Nat → List Nat → Prop
 | _, [] => False
 | t, i :: w => (E m t i).To ≠ -1 ∧ ((s = t ∧ j = i) ∨ z9b m s j (E m t i).To.toNat w)
def nxt (m : z6) (k t : Nat) : List Nat → Prop
 | [] => False
 | i :: _ => i = k ∧ (E m t k).To ≠ -1
def z97 (m : z6) (s j k : Nat) : Nat → List Nat → Prop
 | _, [] => False
 | t, i :: w => (E m t i).To ≠ -1 ∧ ((s = t ∧ j = i ∧ nxt m k (E m t i).To.toNat w) ∨ z97 m s j k (E m t i).To.toNat w)
section
variable {m : z6} (h : VM m)
include h
theorem z6a (s : Nat) (w : List Nat) : z6N m s s w := by have _ := h; cases w <;> simp [z6N]
theorem z2o {t i : Nat} (ht : t < m.Rows.length) (hi : i < kk m) (hn : (E m t i).To ≠ -1) : (E m t i).To.toNat < m.Rows.length ∧ (((E m t i).To.toNat : Nat) : Int) = (E m t i).To := by
 rcases h.edgeAt ht hi with q | q
 ·exact (hn q.1).elim
 ·omega
theorem zcm : ∀ (w : List Nat) (t : Nat) (bf : Option (Nat × Nat)) (x : Mk3) (s : Nat), t < m.Rows.length → Wd (kk m) w → (t : Int) ∈ x.1 → ((s : Int) ∈ (Qx m t bf w x).1 ↔ (s : Int) ∈ x.1 ∨ z6N m s t w)
 | [], t, bf, x, s, _, _, hx => by
  simp only [Qx, z6N]
  exact ⟨.inl, fun q => q.elim id (fun e => e ▸ hx)⟩
 | i :: w, t, bf, x, s, ht, hw, hx => by
  have hi : i < kk m := hw i (by simp)
  simp only [Qx, z6N]
  by_cases hn : (E m t i).To = -1
  ·rw [if_pos hn]
   simp only [hn, ne_eq, not_true_eq_false, false_and, or_false]
   exact ⟨.inl, fun q => q.elim id (fun e => e ▸ hx)⟩
  ·rw [if_neg hn]
   obtain ⟨q1, q2⟩ := z2o h ht hi hn
   rw [zcm w _ _ _ s q1 (fun j hj => hw j (by simp [hj])) (by show (((E m t i).To.toNat : Nat) : Int) ∈ z6K x.1 _; rw [QD, q2]; exact .inr rfl)]
   show (s : Int) ∈ z6K x.1 _ ∨ _ ↔ _
   rw [QD]
   constructor
   ·rintro ((q | q) | q)
    ·exact .inl q
    ·have : s = (E m t i).To.toNat := by omega
     exact .inr (.inr ⟨hn, this ▸ z6a h _ _⟩)
    ·exact .inr (.inr ⟨hn, q⟩)
   ·rintro (q | q | q)
    ·exact .inl (.inl q)
    ·exact .inl (.inl (q ▸ hx))
    ·exact .inr q.2
theorem zco : ∀ (w : List Nat) (t : Nat) (bf : Option (Nat × Nat)) (x : Mk3) (s j : Nat), t < m.Rows.length → Wd (kk m) w → ((⟨s, j⟩ : xF Int) ∈ (Qx m t bf w x).2.1 ↔ (⟨s, j⟩ : xF Int) ∈ x.2.1 ∨ z9b m s j t w)
 | [], t, bf, x, s, j, _, _ => by simp only [Qx, z9b, or_false]
 | i :: w, t, bf, x, s, j, ht, hw => by
  have hi : i < kk m := hw i (by simp)
  simp only [Qx, z9b]
  by_cases hn : (E m t i).To = -1
  ·rw [if_pos hn]; simp [hn]
  ·rw [if_neg hn]
   obtain ⟨q1, q2⟩ := z2o h ht hi hn
   rw [zco w _ _ _ s j q1 (fun j hj => hw j (by simp [hj]))]
   show (⟨s, j⟩ : xF Int) ∈ z6K x.2.1 _ ∨ _ ↔ _
   rw [QD, xF.mk.injEq]
   constructor
   ·rintro ((q | q) | q)
    ·exact .inl q
    ·exact .inr ⟨hn, .inl (by omega)⟩
    ·exact .inr ⟨hn, .inr q⟩
   ·rintro (q | ⟨_, q | q⟩)
    ·exact .inl (.inl q)
    ·exact .inl (.inr (by omega))
    ·exact .inr q
theorem zcn : ∀ (w : List Nat) (t : Nat) (bf : Option (Nat × Nat)) (x : Mk3) (s j k : Nat), t < m.Rows.length → Wd (kk m) w →
  ((⟨s, j, k⟩ : z8) ∈ (Qx m t bf w x).2.2 ↔ (⟨s, j, k⟩ : z8) ∈ x.2.2 ∨ (bf = some (s, j) ∧ nxt m k t w) ∨ z97 m s j k t w)
 | [], t, bf, x, s, j, k, _, _ => by simp only [Qx, z97, nxt, and_false, or_false]
 | i :: w, t, bf, x, s, j, k, ht, hw => by
  have hi : i < kk m := hw i (by simp)
  simp only [Qx, z97, nxt]
  by_cases hn : (E m t i).To = -1
  ·rw [if_pos hn]
   constructor
   ·exact .inl
   ·rintro (q | ⟨_, rfl, q⟩ | ⟨q, _⟩)
    ·exact q
    ·exact (q hn).elim
    ·exact (q hn).elim
  ·rw [if_neg hn]
   obtain ⟨q1, q2⟩ := z2o h ht hi hn
   rw [zcn w _ _ _ s j k q1 (fun j hj => hw j (by simp [hj]))]
   have hz : ((⟨s, j, k⟩ : z8) ∈ zcV x.2.2 bf i) ↔ ((⟨s, j, k⟩ : z8) ∈ x.2.2 ∨ (bf = some (s, j) ∧ i = k)) := by
    unfold zcV
    cases bf with
    | none => simp
    | some p =>
     obtain ⟨a, b⟩ := p
     simp only [QD, z8.mk.injEq, Option.some.injEq, Prod.mk.injEq]
     constructor
     ·rintro (q | q)
      ·exact .inl q
      ·exact .inr (by omega)
     ·rintro (q | q)
      ·exact .inl q
      ·exact .inr (by omega)
   show (⟨s, j, k⟩ : z8) ∈ zcV x.2.2 bf i ∨ _ ↔ _
   rw [hz]
   simp only [Option.some.injEq, Prod.mk.injEq]
   constructor
   ·rintro ((q | ⟨q, rfl⟩) | ⟨⟨rfl, rfl⟩, q⟩ | q)
    ·exact .inl q
    ·exact .inr (.inl ⟨q, rfl, hn⟩)
    ·exact .inr (.inr ⟨hn, .inl ⟨rfl, rfl, q⟩⟩)
    ·exact .inr (.inr ⟨hn, .inr q⟩)
   ·rintro (q | ⟨q, rfl, _⟩ | ⟨_, ⟨rfl, rfl, q⟩ | q⟩)
    ·exact .inl (.inl q)
    ·exact .inl (.inr ⟨q, rfl⟩)
    ·exact .inr (.inl ⟨⟨rfl, rfl⟩, q⟩)
    ·exact .inr (.inr q)
theorem zcl (hw : Wd (kk m) w) (hl : w.length < 4611686018427387904) (x : Mk3) : xH m (w.map Int.ofNat) (mk3 x) = some (mk3 (Qx m 0 none w x)) := by
 unfold xH
 have key : loop (fun s => xC m (w.map Int.ofNat) s.1 s.2.1 s.2.2.1 s.2.2.2.1 s.2.2.2.2.1 s.2.2.2.2.2.1 s.2.2.2.2.2.2) ((mk3 x).states_, (mk3 x).edges_, (mk3 x).pairs_, 0, (-1), (-1), 0) = some (mk3 (Qx m 0 none w x)) := by
  refine Ret.eq (ui (fun s => ∃ (u v : List Nat) (t : Nat) (bf : Option (Nat × Nat)) (y : Mk3), w = u ++ v ∧ t < m.Rows.length ∧ Qx m t bf v y = Qx m 0 none w x ∧ s = (mks y.1, mks y.2.1, mks y.2.2, (t : Int), (match bf with | some p => (p.1 : Int) | none => -1), (match bf with | some p => (p.2 : Int) | none => -1), (u.length : Int)))
   (fun s => w.length - s.2.2.2.2.2.2.toNat) ⟨[], w, 0, none, x, rfl, h.len1, rfl, rfl⟩ (by simp only; omega) ?_)
  rintro s ⟨u, v, t, bf, y, rfl, ht, hr, rfl⟩
  simp only
  unfold xC
  rw [x4]
  cases v with
  | nil =>
   constructor
   ·intro hc
    simp at hc
   ·intro _
    rw [zM, ← hr]
    rfl
  | cons i v =>
   have hi : i < kk m := hw i (by simp)
   constructor
   ·intro _
    have hix : idx ((u ++ i :: v).map Int.ofNat) (u.length : Int) = some (i : Int) := by
     rw [wb, List.getElem?_map, List.getElem?_append_right (Nat.le_refl _)]
     simp
    rw [hix, oB, h.edge_eq ht hi, x4]
    have hr' := hr
    simp only [Qx] at hr'
    constructor
    ·intro hc
     rw [if_pos (by simpa using hc)] at hr'
     rw [zM, ← hr']
     rfl
    ·intro hc
     have hn : ¬ (E m t i).To = -1 := by simpa using hc
     rw [if_neg hn] at hr'
     obtain ⟨q1, q2⟩ := z2o h ht hi hn
     have hw1 : w64 ((u.length : Int) + 1) = (((u ++ [i]).length : Nat) : Int) := by
      rw [List.length_append, List.length_singleton]
      exact yx (by simp at hl; omega)
     have fin : ∀ Z, Z = mks (zcV y.2.2 bf i) → Ret (yS (mks y.1) (mks y.2.1) (t : Int) (u.length : Int) (i : Int) (E m t i) Z)
       (LRP (fun s' => (∃ (u' v' : List Nat) (t : Nat) (bf : Option (Nat × Nat)) (y : Mk3), u ++ i :: v = u' ++ v' ∧ t < m.Rows.length ∧ Qx m t bf v' y = Qx m 0 none (u ++ i :: v) x ∧ s' = (mks y.1, mks y.2.1, mks y.2.2, (t : Int), (match bf with | some p => (p.1 : Int) | none => -1), (match bf with | some p => (p.2 : Int) | none => -1), (u'.length : Int))) ∧ (u ++ i :: v).length - s'.2.2.2.2.2.2.toNat < (u ++ i :: v).length - ((u.length : Int)).toNat) fun t => t = mk3 (Qx m 0 none (u ++ i :: v) x)) := by
      rintro Z rfl
      unfold yS
      rw [zM]
      refine ⟨⟨u ++ [i], v, (E m t i).To.toNat, some (t, i), _, by simp, q1, hr', ?_⟩, ?_⟩
      ·rw [z0E, z0E, hw1, q2]
      ·simp only
       rw [hw1]
       simp
       omega
     rw [x4]
     cases bf with
     | none => exact ⟨fun q => by simp at q, fun _ => fin _ rfl⟩
     | some p => exact ⟨fun _ => fin _ (z0E _ _), fun q => by simp at q⟩
   ·intro hc
    simp at hc
    omega
 rw [key]
 rfl
end
open Classical
def wN (w : List Nat) : List Int := w.map Int.ofNat
def lN (l : List (List Nat)) : List (List Int) := l.map wN
theorem UE (w : List Nat) : (wN w).length = w.length := by simp [wN]
theorem um (l : List (List Nat)) : (lN l).length = l.length := by simp [lN]
theorem z93 {u v : List Nat}  : idx (wN (u ++ i :: v)) (u.length : Int) = some (i : Int) := by
 rw [wb, wN, List.getElem?_map, List.getElem?_append_right (Nat.le_refl _)]
 simp
theorem z1Y {l : List (List Nat)}   (h : l[i]? = some w) : idx (lN l) (i : Int) = some (wN w) := by
 rw [wb, lN, List.getElem?_map, h]; rfl
def cvA (m : z6) (l : List (List Nat)) (x : Mk3) : Mk3 := l.foldl (fun x w => Qx m 0 none w x) x
def cv0 (m : z6) (l : List (List Nat)) : Mk3 := cvA m l ([0], [], [])
def WL (m : z6) (l : List (List Nat)) : Prop := l.length ≤ 4096 ∧ ∀ w ∈ l, Wd (kk m) w ∧ w.length ≤ 256
def Wn (m : z6) (x : zb) : Nat → List Nat → Prop
 | t, [] => x.Input = -1 ∧ x.State = (t : Int)
 | t, i :: w => (x.Input = -1 ∧ x.State = (t : Int)) ∨ ((E m t i).To ≠ -1 ∧ ((x.State = (t : Int) ∧ x.Input = (i : Int) ∧ (x.Next = -1 ∨ ∃ k : Nat, x.Next = (k : Int) ∧ nxt m k (E m t i).To.toNat w)) ∨ Wn m x (E m t i).To.toNat w))
section
variable {m : z6} (h : VM m)
include h
theorem KZ {l : List (List Nat)} (hl : WL m l) : yD m (lN l) = some (mk3 (cv0 m l)) := by
 unfold yD ua
 rw [oB]
 have key : loop (fun s => xp m (lN l) s.1 s.2.1 s.2.2.1 s.2.2.2) (QB ([] : List (Int × Bool)) 0 true, ([] : List ((xF Int) × Bool)), ([] : List (z8 × Bool)), (0 : Int)) = some ((mk3 (cv0 m l)).states_, (mk3 (cv0 m l)).edges_, (mk3 (cv0 m l)).pairs_) := by
  have e0 : (List.range l.length).foldl (fun s i => Qx m 0 none ((l[i]?).getD []) s) ([0], [], []) = cv0 m l := Jt (fun w s => Qx m 0 none w s) [] l _
  rw [← e0]
  refine z1K (σ := Mk3) (fun y i => ((mk3 y).states_, (mk3 y).edges_, (mk3 y).pairs_, (i : Int))) (fun i y => Qx m 0 none ((l[i]?).getD []) y) (fun _ _ => True) l.length (by have := hl.1; omega) (s0 := ([0], [], [])) trivial ?_ ?_
  ·intro i y hi _
   refine ⟨?_, trivial⟩
   have hw := List.getElem?_eq_getElem hi
   have hm := hl.2 _ (List.getElem_mem hi)
   unfold xp
   rw [um]
   simp only
   rw [show decide ((i : Int) < (l.length : Int)) = true by simp [hi], cond_true, z1Y hw, oB]
   have hr := zcl h hm.1 (by omega) y
   rw [show (zh.mk (mk3 y).states_ (mk3 y).edges_ (mk3 y).pairs_) = mk3 y from rfl, show wN l[i] = l[i].map Int.ofNat from rfl, hr, oB, yx (by have := hl.1; omega), hw]
   rfl
  ·intro _
   unfold xp
   rw [um]
   simp
 rw [key]
 rfl
theorem zb4 {l : List (List Nat)} : ∀ {x : Mk3}, (∀ w ∈ l, Wd (kk m) w) → (0 : Int) ∈ x.1 →
  (∀ s : Nat, (s : Int) ∈ (cvA m l x).1 ↔ (s : Int) ∈ x.1 ∨ ∃ w ∈ l, z6N m s 0 w) ∧ (∀ s j : Nat, (⟨s, j⟩ : xF Int) ∈ (cvA m l x).2.1 ↔ (⟨s, j⟩ : xF Int) ∈ x.2.1 ∨ ∃ w ∈ l, z9b m s j 0 w) ∧
  (∀ s j k : Nat, (⟨s, j, k⟩ : z8) ∈ (cvA m l x).2.2 ↔ (⟨s, j, k⟩ : z8) ∈ x.2.2 ∨ ∃ w ∈ l, z97 m s j k 0 w) := by
 induction l with
 | nil => intro x _ _; simp [cvA]
 | cons w l ih =>
  intro x hw hx
  have hw1 := hw w (by simp)
  have h1 := fun s => zcm h w 0 none x s h.len1 hw1 hx
  have h2 := fun s j => zco h w 0 none x s j h.len1 hw1
  have h3 := fun s j k => zcn h w 0 none x s j k h.len1 hw1
  obtain ⟨a1, a2, a3⟩ := ih (x := Qx m 0 none w x) (fun u hu => hw u (by simp [hu])) (by have := (h1 0).2 (.inl hx); simpa using this)
  have e : cvA m (w :: l) x = cvA m l (Qx m 0 none w x) := rfl
  rw [e]
  refine ⟨fun s => ?_, fun s j => ?_, fun s j k => ?_⟩
  ·rw [a1, h1]; simp only [List.mem_cons, exists_eq_or_imp]
   exact or_assoc
  ·rw [a2, h2]; simp only [List.mem_cons, exists_eq_or_imp]
   exact or_assoc
  ·rw [a3, h3]; simp only [List.mem_cons, exists_eq_or_imp, reduceCtorEq, false_and, false_or]
   exact or_assoc
theorem z4f (hw : Wd (kk m) w) (hl : w.length ≤ 256) (x : zb) : jQ m (wN w) x = some (decide (Wn m x 0 w)) := by
 unfold jQ
 have key : loop (fun s => ut m (wN w) x s.1 s.2) ((0 : Int), (0 : Int)) = some (decide (Wn m x 0 w)) := by
  refine Ret.eq (ui (fun s => ∃ (u v : List Nat) (t : Nat), w = u ++ v ∧ t < m.Rows.length ∧ (Wn m x t v ↔ Wn m x 0 w) ∧ s = ((t : Int), (u.length : Int))) (fun s => w.length - s.2.toNat) ⟨[], w, 0, rfl, h.len1, .rfl, rfl⟩ (by simp only; omega) ?_)
  rintro s ⟨u, v, t, rfl, ht, hr, rfl⟩
  simp only
  have hJ2 : ¬ (x.Input = -1 ∧ x.State = (t : Int)) → Ret (vD m (wN (u ++ v)) x (t : Int) (u.length : Int))
    (LRP (fun s' => (∃ (u' v' : List Nat) (t : Nat), u ++ v = u' ++ v' ∧ t < m.Rows.length ∧ (Wn m x t v' ↔ Wn m x 0 (u ++ v)) ∧ s' = ((t : Int), (u'.length : Int))) ∧ (u ++ v).length - s'.2.toNat < (u ++ v).length - ((u.length : Int)).toNat) fun t => t = decide (Wn m x 0 (u ++ v))) := by
   intro hf
   unfold vD
   rw [UE]
   cases v with
   | nil =>
    rw [x4]
    refine ⟨fun _ => ?_, fun q => by simp at q⟩
    rw [zM]
    show false = _
    have : ¬ Wn m x 0 (u ++ []) := by rw [← hr]; exact hf
    exact (decide_eq_false this).symm
   | cons i v =>
    have hi : i < kk m := hw i (by simp)
    obtain ⟨r, hr1, _, hr2⟩ := h.rowAt ht
    have hR : idx m.Rows (t : Int) = some r := hr1
    have hE : idx r (i : Int) = some (E m t i) := hr2 i hi
    rw [show ((u.length : Int) == (((u ++ i :: v).length : Nat) : Int)) = false by simp; omega, cond_false]
    simp only [hR, z93, hE, oB]
    rw [x4]
    constructor
    ·intro hc
     have hn : (E m t i).To = -1 := by simpa using hc
     rw [zM]
     show false = _
     have : ¬ Wn m x 0 (u ++ i :: v) := by
      rw [← hr]
      simp only [Wn, hn, ne_eq, not_true_eq_false, false_and, or_false]
      exact hf
     simp [this]
    ·intro hc
     have hn : (E m t i).To ≠ -1 := by simpa using hc
     obtain ⟨q1, q2⟩ := z2o h ht hi hn
     have hw1 : w64 ((u.length : Int) + 1) = (((u ++ [i]).length : Nat) : Int) := by
      rw [List.length_append, List.length_singleton]
      exact yx (by simp at hl; omega)
     have hJ3 : ¬ (x.State = (t : Int) ∧ x.Input = (i : Int) ∧ (x.Next = -1 ∨ ∃ k : Nat, x.Next = (k : Int) ∧ nxt m k (E m t i).To.toNat v)) → Ret (xh (u.length : Int) (E m t i))
       (LRP (fun s' => (∃ (u' v' : List Nat) (t : Nat), u ++ i :: v = u' ++ v' ∧ t < m.Rows.length ∧ (Wn m x t v' ↔ Wn m x 0 (u ++ i :: v)) ∧ s' = ((t : Int), (u'.length : Int))) ∧ (u ++ i :: v).length - s'.2.toNat < (u ++ i :: v).length - ((u.length : Int)).toNat) fun t => t = decide (Wn m x 0 (u ++ i :: v))) := by
      intro hm
      unfold xh
      rw [zM]
      refine ⟨⟨u ++ [i], v, (E m t i).To.toNat, by simp, q1, ?_, by rw [hw1, q2]⟩, ?_⟩
      ·rw [← hr]
       simp only [Wn]
       exact ⟨fun q => .inr ⟨hn, .inr q⟩, fun q => q.elim (fun q => (hf q).elim) fun q => q.2.elim (fun q => (hm q).elim) id⟩
      ·simp only
       rw [hw1]
       simp
       omega
     have hT : (x.State = (t : Int) ∧ x.Input = (i : Int) ∧ (x.Next = -1 ∨ ∃ k : Nat, x.Next = (k : Int) ∧ nxt m k (E m t i).To.toNat v)) → true = decide (Wn m x 0 (u ++ i :: v)) := by
      intro q
      have : Wn m x 0 (u ++ i :: v) := by
       rw [← hr]
       simp only [Wn]
       exact .inr ⟨hn, .inl q⟩
      simp [this]
     rw [x4]
     refine ⟨fun c1 => ?_, fun c1 => hJ3 fun q => by simp [q.1] at c1⟩
     have c1 : x.State = (t : Int) := by simpa using c1
     rw [x4]
     refine ⟨fun c2 => ?_, fun c2 => hJ3 fun q => by simp [q.2.1] at c2⟩
     have c2 : x.Input = (i : Int) := by simpa using c2
     rw [x4]
     refine ⟨fun c3 => ?_, fun c3 => ?_⟩
     ·rw [zM]; exact hT ⟨c1, c2, .inl (by simpa using c3)⟩
     have c3 : x.Next ≠ -1 := by simpa using c3
     rw [hw1, x4]
     refine ⟨fun c4 => ?_, fun c4 => hJ3 ?_⟩
     ·cases v with
      | nil => simp at c4
      | cons j v =>
       have hj : j < kk m := hw j (by simp)
       have hx : idx (wN (u ++ i :: j :: v)) (((u ++ [i]).length : Nat) : Int) = some (j : Int) := by
        rw [show u ++ i :: j :: v = (u ++ [i]) ++ j :: v by simp]; exact z93
       rw [hx, oB, x4]
       refine ⟨fun c5 => ?_, fun c5 => hJ3 ?_⟩
       ·have c5 : (j : Int) = x.Next := by simpa using c5
        rw [← c5, ← q2, h.edge_eq q1 hj, x4]
        refine ⟨fun c6 => ?_, fun c6 => hJ3 ?_⟩
        ·rw [zM]; exact hT ⟨c1, c2, .inr ⟨j, c5.symm, rfl, by simpa using c6⟩⟩
        ·rintro ⟨_, _, q | ⟨k, q, q3, q4⟩⟩
         ·exact c3 q
         ·have : k = j := by omega
          subst this
          simp [q4] at c6
       ·rintro ⟨_, _, q | ⟨k, q, q3, q4⟩⟩
        ·exact c3 q
        ·subst q3; simp [q] at c5
     ·rintro ⟨_, _, q | ⟨k, q, q3⟩⟩
      ·exact c3 q
      ·cases v with
       | nil => exact q3
       | cons j v => simp at c4; omega
  unfold ut
  have hTr : (x.Input = -1 ∧ x.State = (t : Int)) → true = decide (Wn m x 0 (u ++ v)) := by
   intro q
   have : Wn m x 0 (u ++ v) := by
    rw [← hr]
    cases v with
    | nil => exact q
    | cons i v => exact .inl q
   simp [this]
  rw [x4]
  refine ⟨fun c1 => ?_, fun c1 => hJ2 fun q => by simp [q.1] at c1⟩
  have c1 : x.Input = -1 := by simpa using c1
  rw [x4]
  refine ⟨fun c2 => ?_, fun c2 => hJ2 fun q => by simp [q.2] at c2⟩
  rw [zM]
  exact hTr ⟨c1, by simpa using c2⟩
 rw [key]
 rfl
def YF (m : z6) (l : List (List Nat)) (x : zb) : Prop := (∃ w ∈ l, Wn m x 0 w) ∨ x = ⟨0, -1, -1⟩
theorem z2z {l : List (List Nat)} (hl : WL m l) (x : zb) : qM m (lN l) x = some (decide (YF m l x)) := by
 unfold qM
 have key : Ret (loop (fun s => vZ m (lN l) x s) (0 : Int)) fun r => (r = .inl () ∧ ∀ w ∈ l, ¬ Wn m x 0 w) ∨ (r = .inr true ∧ ∃ w ∈ l, Wn m x 0 w) := by
  refine ui (fun s => ∃ i : Nat, s = (i : Int) ∧ i ≤ l.length ∧ ∀ w ∈ l.take i, ¬ Wn m x 0 w) (fun s => l.length - s.toNat) ⟨0, rfl, Nat.zero_le _, by simp⟩ (by have := hl.1; show l.length - 0 < _; omega) ?_
  rintro s ⟨i, rfl, hi, hf⟩
  unfold vZ
  rw [um, x4]
  constructor
  ·intro hc
   have hi' : i < l.length := by simpa using hc
   have hw := List.getElem?_eq_getElem hi'
   have hm := hl.2 _ (List.getElem_mem hi')
   rw [z1Y hw, oB, z4f h hm.1 hm.2, oB, x4]
   constructor
   ·intro c
    rw [zM]
    exact .inr ⟨rfl, _, List.getElem_mem hi', by simpa using c⟩
   ·intro c
    have c : ¬ Wn m x 0 l[i] := by simpa using c
    rw [zM]
    refine ⟨⟨i + 1, yx (by have := hl.1; omega), hi', ?_⟩, ?_⟩
    ·rw [List.take_add_one, hw]
     intro w hq
     rcases List.mem_append.1 hq with q | q
     ·exact hf w q
     ·simp only [Option.toList_some, List.mem_singleton] at q
      subst q
      exact c
    ·rw [yx (by have := hl.1; omega)]; omega
  ·intro hc
   have hi' : i = l.length := by simp at hc; omega
   rw [zM]
   subst hi'
   rw [List.take_length] at hf
   exact .inl ⟨rfl, hf⟩
 obtain ⟨r, e, q⟩ := key
 rw [e, oB]
 rcases q with ⟨rfl, q⟩ | ⟨rfl, q⟩
 ·simp only
  unfold qb
  congr 1
  have : YF m l x ↔ x = ⟨0, -1, -1⟩ := ⟨fun k => k.elim (fun ⟨w, hw, k⟩ => (q w hw k).elim) id, .inr⟩
  have hL : (x.State == 0 && (x.Input == -1 && (x.Next == -1 && true))) = true ↔ x = ⟨0, -1, -1⟩ := by
   obtain ⟨a, b, c⟩ := x
   simp
  by_cases hx : x = ⟨0, -1, -1⟩
  ·rw [hL.2 hx]; exact (decide_eq_true (this.2 hx)).symm
  ·rw [Bool.eq_false_iff.2 (fun q => hx (hL.1 q))]; exact (decide_eq_false (fun q => hx (this.1 q))).symm
 ·simp only
  congr 1
  have hcb : YF m l x := .inl q
  exact (decide_eq_true hcb).symm
omit h in
theorem z98 (s : Nat) : ∀ (w : List Nat) (t : Nat), Wn m ⟨s, -1, -1⟩ t w ↔ z6N m s t w
 | [], t => by simp only [Wn, z6N, true_and]; omega
 | i :: w, t => by
  simp only [Wn, z6N, z98 s w, true_and]
  constructor
  ·rintro (q | ⟨q, ⟨_, q2, _⟩ | q2⟩)
   ·exact .inl (by omega)
   ·omega
   ·exact .inr ⟨q, q2⟩
  ·rintro (q | ⟨q, q2⟩)
   ·exact .inl (by omega)
   ·exact .inr ⟨q, .inr q2⟩
omit h in
theorem z9a (s j : Nat) : ∀ (w : List Nat) (t : Nat), Wn m ⟨s, j, -1⟩ t w ↔ z9b m s j t w
 | [], t => by simp only [Wn, z9b, iff_false]; omega
 | i :: w, t => by
  simp only [Wn, z9b, z9a s j w]
  constructor
  ·rintro (q | ⟨q, ⟨q2, q3, _⟩ | q2⟩)
   ·omega
   ·exact ⟨q, .inl (by omega)⟩
   ·exact ⟨q, .inr q2⟩
  ·rintro ⟨q, q2 | q2⟩
   ·exact .inr ⟨q, .inl ⟨by omega, by omega, .inl trivial⟩⟩
   ·exact .inr ⟨q, .inr q2⟩
omit h in
theorem z99 (s j k : Nat) : ∀ (w : List Nat) (t : Nat), Wn m ⟨s, j, k⟩ t w ↔ z97 m s j k t w
 | [], t => by simp only [Wn, z97, iff_false]; omega
 | i :: w, t => by
  simp only [Wn, z97, z99 s j k w]
  constructor
  ·rintro (q | ⟨q, ⟨q2, q3, q4 | ⟨k', q4, q5⟩⟩ | q2⟩)
   ·omega
   ·omega
   ·have : k' = k := by omega
    exact ⟨q, .inl ⟨by omega, by omega, this ▸ q5⟩⟩
   ·exact ⟨q, .inr q2⟩
  ·rintro ⟨q, ⟨q2, q3, q4⟩ | q2⟩
   ·exact .inr ⟨q, .inl ⟨by omega, by omega, .inr ⟨k, rfl, q4⟩⟩⟩
   ·exact .inr ⟨q, .inr q2⟩
end
open Classical
theorem z3M (g : Nat → List α) (out : List α) : ∀ n, (List.range n).foldl (fun s i => s ++ g i) out = out ++ (List.range n).flatMap g
 | 0 => by simp
 | n + 1 => by rw [List.range_succ, List.foldl_append, z3M g out n, List.flatMap_append]; simp
theorem JO {g : Nat → List α} {C : Nat} : ∀ n, (∀ i, i < n → (g i).length ≤ C) → ((List.range n).flatMap g).length ≤ C * n
 | 0, _ => by simp
 | n + 1, h => by
  rw [List.range_succ, List.flatMap_append, List.length_append, List.flatMap_cons, List.flatMap_nil, List.append_nil, Nat.mul_succ]
  have := JO n fun i hi => h i (by omega)
  have := h n (by omega)
  omega
theorem uu {step : List α × Int → Option (LR (List α × Int) (List α))} (g : Nat → List α) (n : Nat) (hn : n < 9223372036854775808) (C L0 : Nat) {out0 : List α} (h0 : out0.length ≤ L0) (hg : ∀ i, i < n → (g i).length ≤ C)
  (h : ∀ i out, i < n → out.length ≤ L0 + C * n → step (out, (i : Int)) = some (.next (out ++ g i, ((i + 1 : Nat) : Int)))) (hd : ∀ out, step (out, (n : Int)) = some (.done out)) : loop step (out0, 0) = some (out0 ++ (List.range n).flatMap g) := by
 rw [← z3M]
 refine z1K (σ := List α) (fun o i => (o, (i : Int))) (fun i o => o ++ g i) (fun i o => o.length ≤ L0 + C * i) n hn (by simpa using h0) ?_ fun _ => hd _
 intro i o hi ho
 have h1 : C * i ≤ C * n := Nat.mul_le_mul_left _ (by omega)
 refine ⟨h i o hi (by omega), ?_⟩
 have := hg i hi
 rw [List.length_append, Nat.mul_add]
 omega
theorem z3A {σ τ : Type} {step : σ → Option (LR σ τ)} {s : σ} {t : τ} (h : step s = some (.done t)) : loop step s = some t := by
 refine Ret.eq (ui (fun x => x = s) (fun _ => 0) rfl (by decide) ?_)
 rintro x rfl
 rw [h, zM]
 rfl
abbrev T3 := Nat × Nat × Nat
def Rc (m : z6) (t : Nat) : Prop := ∃ u, Wd (kk m) u ∧ aft m 0 u = (t : Int)
def z8y (m : z6) (t : Nat) : List Nat := if h : ∃ v, Acc m t v then h.choose else []
def zbj (m : z6) (s i : Nat) : List T3 := (List.range (kk m)).flatMap fun j => if (E m (E m s i).To.toNat j).To = -1 then [] else [(s, i, j)]
def z2c (m : z6) (g s i : Nat) : List T3 := if (E m s i).To = -1 then [] else if g = 1 then [(s, i, 0)] else zbj m s i
def z4r (m : z6) (g s : Nat) : List T3 := if g = 0 then [(s, 0, 0)] else (List.range (kk m)).flatMap (z2c m g s)
def GL (m : z6) (g : Nat) : List T3 := (List.range m.Rows.length).flatMap fun s => if Rc m s then z4r m g s else []
def toI (g : Nat) (t : T3) : zb := if g = 0 then ⟨t.1, -1, -1⟩ else if g = 1 then ⟨t.1, t.2.1, -1⟩ else ⟨t.1, t.2.1, t.2.2⟩
def toC (m : z6) (g : Nat) (t : T3) : za :=
 if g = 0 then ⟨wN (z8y m t.1), ⟨t.1, 0, 0⟩, .inl t.1⟩ else if g = 1 then ⟨wN (z8y m t.1) ++ [(t.2.1 : Int)], ⟨t.1, t.2.1, 0⟩, .inr (.inl (t.1, t.2.1))⟩
 else ⟨wN (z8y m t.1) ++ [(t.2.1 : Int)] ++ [(t.2.2 : Int)], ⟨t.1, t.2.1, t.2.2⟩, .inr (.inr ⟨t.1, t.2.1, t.2.2⟩)⟩
theorem Wj {α β : Type} (f : α → β) (g : Nat → List α) (l : List Nat) : (l.flatMap g).map f = l.flatMap fun i => (g i).map f := by
 rw [List.map_flatMap]
variable {g : Nat}
section
variable {m : z6} (h : VM m)
include h
theorem z8l (s i : Nat) : (zbj m s i).length ≤ 16 := by
 have := JO (g := fun j => if (E m (E m s i).To.toNat j).To = -1 then [] else [(s, i, j)]) (C := 1) (kk m) (fun j _ => by split <;> simp)
 have := h.kk_le
 unfold zbj
 omega
theorem z0Q (g s i : Nat) : (z2c m g s i).length ≤ 16 := by
 unfold z2c
 split
 ·simp
 split
 ·simp
 ·exact z8l h s i
theorem z0P (g s : Nat) : (z4r m g s).length ≤ 256 := by
 unfold z4r
 split
 ·simp
 ·have := JO (g := z2c m g s) (C := 16) (kk m) (fun i _ => z0Q h g s i)
  have := h.kk_le
  omega
theorem z9m {r : List (List Int) × List Bool} (hr : z4w m r) {t : Nat} (ht : t < m.Rows.length) : r.2[t]? = some (decide (Rc m t)) ∧ (Rc m t → r.1[t]? = some (wN (z8y m t)) ∧ Acc m t (z8y m t)) := by
 have _ := h
 rcases hr.2.2 t ht with ⟨q1, v, q2, q3⟩ | ⟨q1, q2⟩
 ·have hc : Rc m t := ⟨v, q3.wd, q3.aft⟩
  refine ⟨by rw [q1, decide_eq_true hc], fun _ => ?_⟩
  have he : ∃ v, Acc m t v := ⟨v, q3⟩
  have : z8y m t = v := by
   unfold z8y
   rw [dif_pos he]
   exact z8x he.choose_spec q3
  rw [this]
  exact ⟨q2, q3⟩
 ·have hc : ¬ Rc m t := fun ⟨u, k1, k2⟩ => q2 u k1 k2
  exact ⟨by rw [q1, decide_eq_false hc], fun k => (hc k).elim⟩
theorem z8v (hg : g < 3) : v7 m (g : Int) = some ((GL m g).map (toC m g)) := by
 obtain ⟨r, e, _, hr⟩ := z2m h
 unfold v7
 rw [e, oB]
 have hn := h.len64
 have hk := h.kk_le
 have key : loop (fun s => wR m (g : Int) r s.1 s.2) (([] : List za), (0 : Int)) = some ([] ++ (List.range m.Rows.length).flatMap fun s => ((if Rc m s then z4r m g s else []).map (toC m g))) := by
  refine uu (fun s => (if Rc m s then z4r m g s else []).map (toC m g)) m.Rows.length (by omega) 256 0 (Nat.le_refl _) ?_ ?_ ?_
  ·intro s hs
   rw [List.length_map]
   split
   ·exact z0P h g s
   ·simp
  ·intro s out hs ho
   obtain ⟨a1, a2⟩ := z9m h hr hs
   obtain ⟨R, b1, b2, b3⟩ := h.rowAt hs
   unfold wR
   simp only
   rw [show decide ((s : Int) < (m.Rows.length : Int)) = true by simp [hs], cond_true, wb, b1, oB, wb, a1, oB]
   have hw : w64 ((s : Int) + 1) = ((s + 1 : Nat) : Int) := yx (by omega)
   by_cases hc : Rc m s
   ·obtain ⟨c1, c2⟩ := a2 hc
    have hal : (wN (z8y m s)).length ≤ 64 := by rw [UE]; have := c2.len; omega
    rw [decide_eq_true hc, Bool.not_true, cond_false, if_pos hc]
    by_cases h0 : g = 0
    ·subst h0
     rw [show ((((0 : Nat) : Int)) == 0) = true from rfl, cond_true, wb, c1, oB, gdT (by simp; omega)]
     unfold xu
     rw [hw]
     rfl
    ·rw [show (((g : Int)) == 0) = false by simp; omega, cond_false]
     have e4 : loop (fun s_1 => wQ m (g : Int) r (s : Int) R s_1.1 s_1.2) (out, (0 : Int)) = some (out ++ (List.range (kk m)).flatMap fun i => (z2c m g s i).map (toC m g)) := by
      refine uu (fun i => (z2c m g s i).map (toC m g)) (kk m) (by omega) 16 20000 (by omega) (fun i _ => by rw [List.length_map]; exact z0Q h g s i) ?_ ?_
      ·intro i out hi ho
       unfold wQ
       simp only
       rw [b2, show decide ((i : Int) < (kk m : Int)) = true by simp [hi], cond_true, wb, b3 i hi, oB]
       have hwi : w64 ((i : Int) + 1) = ((i + 1 : Nat) : Int) := yx (by omega)
       by_cases hn1 : (E m s i).To = -1
       ·rw [show ((E m s i).To == -1) = true by simp [hn1], cond_true]
        unfold xq z2c
        rw [if_pos hn1, hwi]
        simp
       ·obtain ⟨t1, t2⟩ := z2o h hs hi hn1
        rw [show ((E m s i).To == -1) = false by simp [hn1], cond_false, wb, c1, oB, QK _ (by omega), oB, z0M, oB, gdT (by simp; omega)]
        by_cases h1 : g = 1
        ·subst h1
         rw [show ((((1 : Nat) : Int)) == 1) = true from rfl, cond_true, gdT (by simp; omega)]
         unfold xq z2c
         rw [if_neg hn1, if_pos rfl, hwi]
         rfl
        ·have h2 : g = 2 := by omega
         subst h2
         rw [show ((((2 : Nat) : Int)) == 1) = false from rfl, cond_false]
         obtain ⟨R2, d1, d2, d3⟩ := h.rowAt t1
         rw [← t2, wb, d1, oB]
         have e6 : loop (fun s_1 => wP (s : Int) (i : Int) (wN (z8y m s)) R2 s_1.1 s_1.2) (out, (0 : Int)) = some (out ++ (List.range (kk m)).flatMap fun j => (if (E m (E m s i).To.toNat j).To = -1 then [] else [(s, i, j)]).map (toC m 2)) := by
          refine uu (fun j => (if (E m (E m s i).To.toNat j).To = -1 then [] else [(s, i, j)]).map (toC m 2)) (kk m) (by omega) 1 40000 (by omega) (fun j _ => by rw [List.length_map]; split <;> simp) ?_ ?_
          ·intro j out hj ho
           unfold wP
           simp only
           rw [d2, show decide ((j : Int) < (kk m : Int)) = true by simp [hj], cond_true, wb, d3 j hj, oB]
           have hwj : w64 ((j : Int) + 1) = ((j + 1 : Nat) : Int) := yx (by omega)
           by_cases hn2 : (E m (E m s i).To.toNat j).To = -1
           ·rw [show ((E m (E m s i).To.toNat j).To != -1) = false by simp [hn2], cond_false, if_pos hn2]
            unfold wS
            rw [hwj]
            simp
           ·rw [show ((E m (E m s i).To.toNat j).To != -1) = true by simp [hn2], cond_true, if_neg hn2, QK _ (by simp; omega), oB, z0M, oB, gdT (by simp; omega), gdT (by simp; omega)]
            unfold wS
            rw [hwj]
            rfl
          ·intro out
           unfold wP
           simp only
           rw [d2]
           simp
         rw [e6, oB]
         unfold xq z2c
         rw [if_neg hn1, if_neg (by decide), hwi]
         unfold zbj
         rw [Wj]
      ·intro out
       unfold wQ
       simp only
       rw [b2]
       simp
     rw [e4, oB]
     unfold xu
     rw [hw]
     unfold z4r
     rw [if_neg h0, Wj]
   ·rw [decide_eq_false hc, Bool.not_false, cond_true, if_neg hc]
    unfold xu
    rw [hw]
    simp
  ·intro out
   unfold wR
   simp
 rw [key, oB]
 unfold qm GL
 rw [List.nil_append, Wj]
variable (hG : GG (kk m) m.Rows.length ≤ 1000000000)
include hG
theorem zaY (hg : g < 3) : Yn m (g : Int) = some ((GL m g).map (toI g)) := by
 obtain ⟨r, e, hr⟩ := z4u h hG
 unfold Yn
 rw [e, oB]
 have hn := h.len64
 have hk := h.kk_le
 have hkp := h.kk_pos
 have key : loop (fun s => uF m (g : Int) r s.1 s.2) (([] : List zb), (0 : Int)) = some ([] ++ (List.range m.Rows.length).flatMap fun s => ((if Rc m s then z4r m g s else []).map (toI g))) := by
  refine uu (fun s => (if Rc m s then z4r m g s else []).map (toI g)) m.Rows.length (by omega) 256 0 (Nat.le_refl _) ?_ ?_ ?_
  ·intro s hs
   rw [List.length_map]
   split
   ·exact z0P h g s
   ·simp
  ·intro s out hs ho
   obtain ⟨a1, _⟩ := z9m h hr hs
   unfold uF
   simp only
   rw [show decide ((s : Int) < (m.Rows.length : Int)) = true by simp [hs], cond_true, wb, a1, oB]
   have hw : w64 ((s : Int) + 1) = ((s + 1 : Nat) : Int) := yx (by omega)
   by_cases hc : Rc m s
   ·rw [decide_eq_true hc, Bool.not_true, cond_false, if_pos hc]
    by_cases h0 : g = 0
    ·subst h0
     rw [show ((((0 : Nat) : Int)) == 0) = true from rfl, cond_true, gdT (by simp; omega)]
     unfold wY
     rw [hw]
     rfl
    ·rw [show (((g : Int)) == 0) = false by simp; omega, cond_false]
     have e4 : loop (fun s_1 => uE m (g : Int) (s : Int) s_1.1 s_1.2) (out, (0 : Int)) = some (out ++ (List.range (kk m)).flatMap fun i => (z2c m g s i).map (toI g)) := by
      refine uu (fun i => (z2c m g s i).map (toI g)) (kk m) (by omega) 16 20000 (by omega) (fun i _ => by rw [List.length_map]; exact z0Q h g s i) ?_ ?_
      ·intro i out hi ho
       unfold uE
       simp only
       rw [← h.kk_eq, show decide ((i : Int) < (kk m : Int)) = true by simp [hi], cond_true, h.edge_eq hs hi]
       have hwi : w64 ((i : Int) + 1) = ((i + 1 : Nat) : Int) := yx (by omega)
       have h7 : ∀ out : List zb, ((E m s i).To = -1 ∨ g = 1) → wX m (g : Int) (s : Int) (i : Int) (E m s i) out = some (.next (out, ((i + 1 : Nat) : Int))) := by
        intro out hq
        unfold wX
        rw [z3A (t := out), oB]
        ·unfold qK; rw [hwi]
        ·unfold vP
         simp only
         rw [← h.kk_eq, show decide ((0 : Int) < (kk m : Int)) = true by simp; omega, cond_true]
         rcases hq with q | q
         ·rw [show ((E m s i).To != -1) = false by simp [q], cond_false]
         ·subst q
          cases ((E m s i).To != -1) <;> simp
       by_cases hn1 : (E m s i).To = -1
       ·rw [show ((E m s i).To != -1) = false by simp [hn1], cond_false, h7 out (.inl hn1)]
        unfold z2c
        rw [if_pos hn1]
        simp
       ·obtain ⟨t1, t2⟩ := z2o h hs hi hn1
        rw [show ((E m s i).To != -1) = true by simp [hn1], cond_true]
        by_cases h1 : g = 1
        ·subst h1
         rw [show ((((1 : Nat) : Int)) == 1) = true from rfl, cond_true, gdT (by simp; omega), h7 _ (.inr rfl)]
         unfold z2c
         rw [if_neg hn1, if_pos rfl]
         rfl
        ·have h2 : g = 2 := by omega
         subst h2
         rw [show ((((2 : Nat) : Int)) == 1) = false from rfl, cond_false]
         unfold wX
         have e6 : loop (fun s_1 => vP m ((2 : Nat) : Int) (s : Int) (i : Int) (E m s i) s_1.1 s_1.2) (out, (0 : Int)) = some (out ++ (List.range (kk m)).flatMap fun j => (if (E m (E m s i).To.toNat j).To = -1 then [] else [(s, i, j)]).map (toI 2)) := by
          refine uu (fun j => (if (E m (E m s i).To.toNat j).To = -1 then [] else [(s, i, j)]).map (toI 2)) (kk m) (by omega) 1 40000 (by omega) (fun j _ => by rw [List.length_map]; split <;> simp) ?_ ?_
          ·intro j out hj ho
           unfold vP
           simp only
           rw [← h.kk_eq, show decide ((j : Int) < (kk m : Int)) = true by simp [hj], cond_true, show ((E m s i).To != -1) = true by simp [hn1], cond_true, show ((((2 : Nat) : Int)) == 2) = true from rfl, cond_true]
           have hb : ∀ {β : Type} (F : ze → Option β), (Option.bind (idx m.Rows (E m s i).To) fun r => Option.bind (idx r (j : Int)) F) = F (E m (E m s i).To.toNat j) := fun F => by have := h.edge_eq t1 hj (f := F); rw [t2] at this; exact this
           rw [hb]
           have hwj : w64 ((j : Int) + 1) = ((j + 1 : Nat) : Int) := yx (by omega)
           by_cases hn2 : (E m (E m s i).To.toNat j).To = -1
           ·rw [show ((E m (E m s i).To.toNat j).To != -1) = false by simp [hn2], cond_false, if_pos hn2]
            unfold uG
            rw [hwj]
            simp
           ·rw [show ((E m (E m s i).To.toNat j).To != -1) = true by simp [hn2], cond_true, if_neg hn2, gdT (by simp; omega)]
            unfold uG
            rw [hwj]
            rfl
          ·intro out
           unfold vP
           simp only
           rw [← h.kk_eq]
           simp
         rw [e6, oB]
         unfold qK z2c
         rw [if_neg hn1, if_neg (by decide), hwi]
         unfold zbj
         rw [Wj]
      ·intro out
       unfold uE
       simp only
       rw [← h.kk_eq]
       simp
     rw [e4, oB]
     unfold wY
     rw [hw]
     unfold z4r
     rw [if_neg h0, Wj]
   ·rw [decide_eq_false hc, Bool.not_false, cond_true, if_neg hc]
    unfold wY
    rw [hw]
    simp
  ·intro out
   unfold uF
   simp
 rw [key, oB]
 unfold kH GL
 rw [List.nil_append, Wj]
theorem zeD (g : Nat) : (GL m g).length ≤ 16384 := by
 have _ := hG
 have := JO (g := fun s => if Rc m s then z4r m g s else []) (C := 256) m.Rows.length (fun s _ => by split <;> first | exact z0P h g s | simp)
 have := h.len64
 unfold GL
 omega
theorem Wi {l : List (List Nat)} (hl : WL m l)  (hg : g < 3) : wW m (lN l) (g : Int) = some (((GL m g).map (toI g)).filter fun x => !decide (YF m l x)) := by
 unfold wW
 rw [zaY h hG hg, oB]
 have hL := zeD h hG g
 have key : ∀ L : List zb, L.length ≤ 16384 → loop (fun s => wL m (lN l) L s.1 s.2) (([] : List zb), (0 : Int)) = some ([] ++ (List.range L.length).flatMap fun i => match L[i]? with | some x => if YF m l x then [] else [x] | none => []) := by
  intro L hL
  refine uu _ L.length (by omega) 1 0 (Nat.le_refl _) (fun i _ => ?_) ?_ ?_
  ·split
   ·split <;> simp
   ·simp
  ·intro i out hi ho
   have hx := List.getElem?_eq_getElem hi
   unfold wL
   simp only
   rw [show decide ((i : Int) < (L.length : Int)) = true by simp [hi], cond_true, wb, hx, oB, z2z h hl, oB]
   have hwi : w64 ((i : Int) + 1) = ((i + 1 : Nat) : Int) := yx (by omega)
   by_cases hc : YF m l L[i]
   ·rw [decide_eq_true hc, Bool.not_true, cond_false]
    unfold wM
    simp only [if_pos hc, List.append_nil, hwi]
   ·rw [decide_eq_false hc, Bool.not_false, cond_true, oB, gdT (by simp; omega)]
    unfold wM
    simp only [if_neg hc, hwi]
  ·intro out
   unfold wL
   simp
 rw [key _ (by rw [List.length_map]; exact hL), oB]
 unfold qa
 rw [List.nil_append]
 congr 1
 generalize (GL m g).map (toI g) = L
 have gen : ∀ (f : zb → List zb) (L : List zb), ((List.range L.length).flatMap fun i => match L[i]? with | some x => f x | none => []) = L.flatMap f := by
  intro f L
  induction L with
  | nil => simp
  | cons x L ih =>
   rw [List.length_cons, List.range_succ_eq_map, List.flatMap_cons, List.flatMap_map, List.flatMap_cons]
   congr 1
 rw [gen (fun x => if YF m l x then [] else [x])]
 induction L with
 | nil => simp
 | cons x L ih =>
  rw [List.flatMap_cons, ih, List.filter_cons]
  by_cases hc : YF m l x <;> simp [hc]
end
open Classical
section
variable {m : z6} (h : VM m)
include h
theorem z69 {l : List (List Nat)} (hl : WL m l) :
  (∀ s : Nat, (s : Int) ∈ (cv0 m l).1 ↔ YF m l ⟨s, -1, -1⟩) ∧ (∀ s j : Nat, (⟨s, j⟩ : xF Int) ∈ (cv0 m l).2.1 ↔ YF m l ⟨s, j, -1⟩) ∧ (∀ s j k : Nat, (⟨s, j, k⟩ : z8) ∈ (cv0 m l).2.2 ↔ YF m l ⟨s, j, k⟩) := by
 obtain ⟨a1, a2, a3⟩ := zb4 h (l := l) (x := ([0], [], [])) (fun w hw => (hl.2 w hw).1) (by simp)
 refine ⟨fun s => ?_, fun s j => ?_, fun s j k => ?_⟩
 ·show (s : Int) ∈ (cvA m l _).1 ↔ _
  rw [a1]
  unfold YF
  simp only [z98, List.mem_singleton, zb.mk.injEq, and_true]
  exact or_comm
 ·show (⟨s, j⟩ : xF Int) ∈ (cvA m l _).2.1 ↔ _
  rw [a2]
  unfold YF
  simp only [z9a, List.not_mem_nil, false_or, zb.mk.injEq]
  constructor
  ·exact .inl
  ·rintro (q | q)
   ·exact q
   ·omega
 ·show (⟨s, j, k⟩ : z8) ∈ (cvA m l _).2.2 ↔ _
  rw [a3]
  unfold YF
  simp only [z99, List.not_mem_nil, false_or, zb.mk.injEq]
  constructor
  ·exact .inl
  ·rintro (q | q)
   ·exact q
   ·omega
def msL (m : z6) (l : List (List Nat)) (g : Nat) : List zb := ((GL m g).map (toI g)).filter fun x => !decide (YF m l x)
end
open Classical
theorem z8A {k n : Nat} (hk : k ≤ 3) (hn : n ≤ 6) : GG k n ≤ 1000000000 := by
 have h1 : GG k n ≤ GG k 6 := z14 hn
 have h2 : GG k 6 ≤ 1000000000 := by
  have : k = 0 ∨ k = 1 ∨ k = 2 ∨ k = 3 := by omega
  rcases this with rfl | rfl | rfl | rfl <;> decide
 omega
section
variable {m : z6} (h : VM m)
include h
theorem zbE {w : List Int} (h0 : ∀ v ∈ w, 0 ≤ v ∧ v ≤ 255) : Ret (Yu w m.Inputs 8) fun r => ∃ u : List Nat, r = wN u ∧ Wd (kk m) u ∧ u.length ≤ 8 := by
 have hk := h.kk_eq
 have hp := h.kk_pos
 unfold Yu
 rw [uj]
 refine Ret.mono (ui (fun s => ∃ (i : Nat) (u : List Nat), s = (wN u, (i : Int)) ∧ u.length = i ∧ i ≤ 8 ∧ Wd (kk m) u) (fun s => 8 - s.2.toNat) (R := fun r => ∃ u : List Nat, r = wN u ∧ Wd (kk m) u ∧ u.length ≤ 8) ⟨0, [], rfl, rfl, by omega, fun i hi => by simp at hi⟩ (by simp) ?_) fun r q => by unfold kO; rw [zM]; exact q
 rintro s ⟨i, u, rfl, hu, hi, hw⟩
 unfold kN
 simp only
 rw [x4]
 constructor
 ·intro c1
  have c1 : (i : Int) < (w.length : Int) := by simpa using c1
  rw [x4]
  constructor
  ·intro c2
   have c2 : (i : Int) < 8 := by simpa using c2
   have hi' : i < w.length := by omega
   have hx := List.getElem?_eq_getElem hi'
   obtain ⟨v0, v1⟩ := h0 _ (List.getElem_mem hi')
   rw [wb, hx, oB, gdT (by have := h.in1; omega), ws (by omega) (by omega), gdT (by rw [UE]; simp; omega), zM]
   obtain ⟨v, hv⟩ : ∃ v : Nat, w[i] = (v : Int) := ⟨w[i].toNat, by omega⟩
   have e : Int.tmod w[i] m.Inputs = ((v % kk m : Nat) : Int) := by
    rw [hv, ← hk]
    rfl
   refine ⟨⟨i + 1, u ++ [v % kk m], ?_, by simp [hu], by omega, ?_⟩, ?_⟩
   ·rw [e, yx (by omega)]
    simp [wN]
   ·intro j hj
    rcases List.mem_append.1 hj with q | q
    ·exact hw j q
    ·simp only [List.mem_singleton] at q; subst q; exact Nat.mod_lt _ (by omega)
   ·rw [yx (by omega)]; omega
  ·intro _
   rw [zM]
   exact ⟨u, rfl, hw, by omega⟩
 ·intro _
  rw [zM]
  exact ⟨u, rfl, hw, by omega⟩
end
theorem zcK : ∀ {l : List (List Int)}, (∀ w ∈ l, ∃ u : List Nat, w = wN u ∧ Wd (kk m) u ∧ u.length ≤ 256) → ∃ L : List (List Nat), l = lN L ∧ ∀ u ∈ L, Wd (kk m) u ∧ u.length ≤ 256
 | [], _ => ⟨[], rfl, fun u hu => by simp at hu⟩
 | w :: l, h => by
  obtain ⟨u, rfl, q⟩ := h w (by simp)
  obtain ⟨L, rfl, q2⟩ := zcK (l := l) (fun w hw => h w (by simp [hw]))
  refine ⟨u :: L, rfl, fun v hv => ?_⟩
  rcases List.mem_cons.1 hv with e | e
  ·rw [e]; exact q
  ·exact q2 v e
structure XOk (m : z6) (l : List (List Nat)) : Prop where
 vm : VM m
 gg : GG (kk m) m.Rows.length ≤ 1000000000
 rows : m.Rows.length ≤ 6
 kk3 : kk m ≤ 3
 wl : WL m l
 sw : SW (lN l)
 len : l.length ≤ 12
 w8 : ∀ w ∈ l, w.length ≤ 8
theorem XOk.ch {l : List (List Nat)} (h : XOk m l) : chE m.Inputs (lN l) = 0 := by
 have hle : ∀ w ∈ lN l, w.length ≤ 8 := by
  intro w hw
  obtain ⟨u, hu, rfl⟩ := List.mem_map.1 hw
  rw [UE]; exact h.w8 u hu
 have hsy := z4Q hle
 have hl := um l
 have h12 := h.len
 refine z8c.2 ⟨z3B.2 ⟨⟨h.vm.in1, h.vm.in16⟩, by omega, ?_⟩, h.sw, by omega⟩
 intro w hw
 refine ⟨by have := hle w hw; omega, ?_⟩
 obtain ⟨u, hu, rfl⟩ := List.mem_map.1 hw
 intro c hc
 obtain ⟨i, hi, rfl⟩ := List.mem_map.1 hc
 have := (h.wl.2 u hu).1 i hi
 have := h.vm.kk_eq
 simp only [Int.ofNat_eq_natCast]
 omega
theorem zhN {x : wG} (hM : MOk x.M) (hL : ∀ w ∈ x.L, ∀ v ∈ w, 0 ≤ v ∧ v ≤ 255) : Ret (Yt x) fun r => ∃ l : List (List Nat), r.2 = lN l ∧ XOk r.1 l := by
 obtain ⟨m, hm, v, _, hI, _, hR⟩ := zcC hM
 have hk : kk m ≤ 3 := by have := v.kk_eq; omega
 unfold Yt
 rw [hm, oB, uj]
 refine Ret.mono (ui (fun s => ∃ (i : Nat) (l : List (List Nat)), s = (lN l, (i : Int)) ∧ l.length = i ∧ i ≤ 12 ∧ ∀ u ∈ l, Wd (kk m) u ∧ u.length ≤ 8) (fun s => 12 - s.2.toNat) (R := fun r => ∃ l : List (List Nat), r = lN l ∧ l.length ≤ 12 ∧ ∀ u ∈ l, Wd (kk m) u ∧ u.length ≤ 8) ⟨0, [], rfl, rfl, by omega, fun i hi => by simp at hi⟩ (by simp) ?_) ?_
 ·rintro s ⟨i, l, rfl, hl, hi, hw⟩
  unfold kL
  simp only
  rw [x4]
  constructor
  ·intro c1
   have c1 : (i : Int) < (x.L.length : Int) := by simpa using c1
   rw [x4]
   constructor
   ·intro c2
    have c2 : (i : Int) < 12 := by simpa using c2
    have hi' : i < x.L.length := by omega
    have hx := List.getElem?_eq_getElem hi'
    obtain ⟨r, e, u, rfl, hu, hu8⟩ := zbE v (hL _ (List.getElem_mem hi'))
    rw [wb, hx, oB, e, oB, gdT (by rw [um]; simp; omega), zM]
    refine ⟨⟨i + 1, l ++ [u], ?_, by simp [hl], by omega, ?_⟩, ?_⟩
    ·rw [yx (by omega)]
     simp [lN]
    ·intro z hz
     rcases List.mem_append.1 hz with q | q
     ·exact hw z q
     ·simp only [List.mem_singleton] at q; subst q; exact ⟨hu, hu8⟩
    ·rw [yx (by omega)]; omega
   ·intro _
    rw [zM]
    exact ⟨l, rfl, by omega, hw⟩
  ·intro _
   rw [zM]
   exact ⟨l, rfl, by omega, hw⟩
 ·rintro r ⟨l, rfl, hl, hw⟩
  unfold kM
  have hlen : ∀ z ∈ lN l, z.length ≤ 8 := by
   intro z hz
   obtain ⟨u, hu, rfl⟩ := List.mem_map.1 hz
   rw [UE]; exact (hw u hu).2
  rw [z7B (by rw [um]; omega) (fun z hz => by have := hlen z hz; omega), oB, zM]
  obtain ⟨L, e, q⟩ := zcK (m := m) (l := srt (lN l)) (fun z hz => by
   obtain ⟨u, hu, rfl⟩ := List.mem_map.1 (z2H.1 hz)
   exact ⟨u, rfl, (hw u hu).1, by have := (hw u hu).2; omega⟩)
  have hL12 : L.length ≤ 12 := by
   have := z4U (lN l)
   rw [e, um, um] at this
   omega
  refine ⟨L, e, v, z8A hk hR, hR, hk, ⟨by omega, q⟩, by show SW (lN L); rw [← e]; exact z8H _, hL12, ?_⟩
  intro u hu
  have : wN u ∈ srt (lN l) := by rw [e]; exact List.mem_map.2 ⟨u, hu, rfl⟩
  have := hlen _ (z2H.1 this)
  rwa [UE] at this
section
variable {m : z6} {l : List (List Nat)}
theorem zb8 (v : VM m) (hc : chE m.Inputs (lN l) = 0) : xW m (lN l) = some 0 := by
 unfold xW
 rw [z3V, z9c v, oB, z4P, hc]
 rfl
end
open Classical
def mkd (g : Nat) (t : T3) (x : Mk3) : Prop := if g = 0 then (t.1 : Int) ∈ x.1 else if g = 1 then (⟨t.1, t.2.1⟩ : xF Int) ∈ x.2.1 else (⟨t.1, t.2.1, t.2.2⟩ : z8) ∈ x.2.2
theorem zaZ (m : z6) (g : Nat) (t : T3) (x : Mk3) : W2 (toC m g t).has_ (mk3 x) = some (decide (mkd g t x)) := by
 unfold toC mkd
 by_cases h0 : g = 0
 ·simp only [if_pos h0, W2, qX, mk3, QC]; rfl
 ·by_cases h1 : g = 1
  ·simp only [if_neg h0, if_pos h1, W2, qW, mk3, QC]; rfl
  ·simp only [if_neg h0, if_neg h1, W2, qV, mk3, QC]; rfl
section
variable {m : z6} (h : VM m)
include h
variable {l : List (List Nat)} (hl : WL m l) (h12 : l.length ≤ 12 ∧ ∀ w ∈ l, w.length ≤ 8) (hR : m.Rows.length ≤ 6) (h3 : kk m ≤ 3)
include hl h12 hR h3
omit hl h12 in
theorem z42 (g : Nat) : (GL m g).length ≤ 54 := by
 have _ := h
 have hP : ∀ s i, (zbj m s i).length ≤ 3 := fun s i => by
  have := JO (g := fun j => if (E m (E m s i).To.toNat j).To = -1 then [] else [(s, i, j)]) (C := 1) (kk m) (fun j _ => by split <;> simp)
  unfold zbj
  omega
 have hE : ∀ s i, (z2c m g s i).length ≤ 3 := fun s i => by
  unfold z2c
  split
  ·simp
  split
  ·simp
  ·exact hP s i
 have hS : ∀ s, (z4r m g s).length ≤ 9 := fun s => by
  unfold z4r
  split
  ·simp
  ·have := JO (g := z2c m g s) (C := 3) (kk m) (fun i _ => hE s i)
   omega
 have := JO (g := fun s => if Rc m s then z4r m g s else []) (C := 9) m.Rows.length (fun s _ => by split <;> first | exact hS s | simp)
 unfold GL
 omega
end
open Classical
def unc (m : z6) (l : List (List Nat)) (g : Nat) : List T3 := (GL m g).filter fun t => !decide (YF m l (toI g t))
theorem zcF (m : z6) (l : List (List Nat)) (g : Nat) : ((GL m g).map (toI g)).filter (fun x => !decide (YF m l x)) = (unc m l g).map (toI g) := by
 rw [List.filter_map]
 rfl
theorem z5E {α β : Type} {step : List β × Int → Option (LR (List β × Int) (List β))} (L : List α) (f : α → β) (hL : L.length < 4611686018427387904)
  (h : ∀ i x, L[i]? = some x → step ((L.take i).map f, (i : Int)) = some (.next ((L.take i).map f ++ [f x], ((i + 1 : Nat) : Int)))) (hd : step (L.map f, (L.length : Int)) = some (.done (L.map f))) : loop step ([], 0) = some (L.map f) := by
 refine Wk (fun i => ((L.take i).map f, (i : Int))) L.length (by omega) ?_ ?_
 ·intro i hi
  have hx := List.getElem?_eq_getElem hi
  show step ((L.take i).map f, (i : Int)) = some (.next ((L.take (i + 1)).map f, ((i + 1 : Nat) : Int)))
  rw [h i _ hx, List.take_add_one, hx, List.map_append]
  rfl
 ·simp only [List.take_length]; exact hd
theorem z7O {step : Int → Option (LR Int (Unit ⊕ ρ))} (n : Nat) (hn : n < 9223372036854775808) (h : ∀ i : Nat, i < n → step (i : Int) = some (.next ((i + 1 : Nat) : Int))) (hd : step (n : Int) = some (.done (.inl ()))) : loop step 0 = some (.inl ()) := Wk (fun i : Nat => (i : Int)) n hn h hd
open Classical
theorem z9t {x : Int} (h1 : 0 ≤ x) (h2 : x < 18446744073709551616) : IntKind.u64.wrap x = x := by
 simp only [IntKind.wrap, IntKind.bits, IntKind.signed]
 simp
 omega
theorem zcB {x y : Nat} (hx : x < 2 ^ 64) (hy : y < 2 ^ 64) : orK .u64 (x : Int) (y : Int) = ((x ||| y : Nat) : Int) := by
 unfold orK
 show IntKind.u64.wrap (((BitVec.ofInt 64 (x : Int) ||| BitVec.ofInt 64 (y : Int)).toNat : Nat) : Int) = _
 rw [BitVec.ofInt_natCast, BitVec.ofInt_natCast, BitVec.toNat_or, BitVec.toNat_ofNat, BitVec.toNat_ofNat, Nat.mod_eq_of_lt hx, Nat.mod_eq_of_lt hy]
 have : x ||| y < 2 ^ 64 := Nat.or_lt_two_pow hx hy
 exact z9t (by omega) (by omega)
theorem zf8 : ∀ n : Fin 64, z6I .u64 1 ((n : Nat) : Int) = ((2 ^ (n : Nat) : Nat) : Int) := by decide
def ZG (p : Nat → Prop) : Nat → Nat
 | 0 => 0
 | n + 1 => if p n then ZG p n ||| 2 ^ n else ZG p n
theorem z0R (p : Nat → Prop) : ∀ n, ZG p n < 2 ^ n
 | 0 => by simp [ZG]
 | n + 1 => by
  have h := z0R p n
  have h2 : (2 : Nat) ^ n < 2 ^ (n + 1) := Nat.pow_lt_pow_right (by decide) (by omega)
  unfold ZG
  split
  ·exact Nat.or_lt_two_pow (by omega) h2
  ·omega
theorem uM (p : Nat → Prop) (j : Nat) : ∀ n, (ZG p n).testBit j = decide (j < n ∧ p j)
 | 0 => by simp [ZG]
 | n + 1 => by
  unfold ZG
  split
  ·rename_i h
   rw [Nat.testBit_or, uM p j n, Nat.testBit_two_pow]
   by_cases hj : n = j
   ·subst hj; simp [h]
   ·simp only [hj, decide_false, Bool.or_false]
    rw [decide_eq_decide]
    constructor
    ·rintro ⟨a, b⟩; exact ⟨by omega, b⟩
    ·rintro ⟨a, b⟩; exact ⟨by omega, b⟩
  ·rename_i h
   rw [uM p j n, decide_eq_decide]
   constructor
   ·rintro ⟨a, b⟩; exact ⟨by omega, b⟩
   ·rintro ⟨a, b⟩
    refine ⟨?_, b⟩
    rcases Nat.lt_or_ge j n with q | q
    ·exact q
    ·have : j = n := by omega
     subst this
     exact (h b).elim
theorem JZ {p q : Nat → Prop} {n : Nat} : ZG p n = ZG q n ↔ ∀ j, j < n → (p j ↔ q j) := by
 constructor
 ·intro e j hj
  have h1 := uM p j n
  have h2 := uM q j n
  rw [e, h2, decide_eq_decide] at h1
  constructor
  ·intro a; exact (h1.2 ⟨hj, a⟩).2
  ·intro a; exact (h1.1 ⟨hj, a⟩).2
 ·intro h
  apply Nat.eq_of_testBit_eq
  intro j
  rw [uM, uM, decide_eq_decide]
  constructor
  ·rintro ⟨a, b⟩; exact ⟨a, (h j a).1 b⟩
  ·rintro ⟨a, b⟩; exact ⟨a, (h j a).2 b⟩
theorem z8m {p q : Nat → Prop} {n : Nat} : ZG p n ||| ZG q n = ZG (fun j => p j ∨ q j) n := by
 apply Nat.eq_of_testBit_eq
 intro j
 rw [Nat.testBit_or, uM, uM, uM, ← Bool.decide_or, decide_eq_decide]
 constructor
 ·rintro (⟨a, b⟩ | ⟨a, b⟩)
  ·exact ⟨a, .inl b⟩
  ·exact ⟨a, .inr b⟩
 ·rintro ⟨a, b | b⟩
  ·exact .inl ⟨a, b⟩
  ·exact .inr ⟨a, b⟩
def XL (f : Nat → Option α) : Nat → Nat → Option α
 | 0, _ => none
 | k + 1, i => match f i with | some r => some r | none => XL f k (i + 1)
theorem KE {f g : Nat → Option α} : ∀ (k i : Nat), (∀ j, i ≤ j → j < i + k → f j = g j) → XL f k i = XL g k i
 | 0, _, _ => rfl
 | k + 1, i, h => by
  simp only [XL]
  rw [h i (by omega) (by omega), KE k (i + 1) fun j h1 h2 => h j (by omega) (by omega)]
theorem J9 {f : Nat → Option α} : ∀ (k i : Nat), (∀ j, i ≤ j → j < i + k → f j = none) → XL f k i = none
 | 0, _, _ => rfl
 | k + 1, i, h => by
  simp only [XL]
  rw [h i (by omega) (by omega)]
  exact J9 k (i + 1) fun j h1 h2 => h j (by omega) (by omega)
theorem z0o {f : Nat → Option α} : ∀ (a b i : Nat), XL f (a + b) i = match XL f a i with | some r => some r | none => XL f b (i + a)
 | 0, b, i => by simp [XL]
 | a + 1, b, i => by
  rw [show a + 1 + b = (a + b) + 1 by omega]
  simp only [XL]
  cases f i with
  | some r => rfl
  | none => simp only; rw [z0o a b (i + 1), show i + 1 + a = i + (a + 1) by omega]
theorem z3c {α β : Type} {f : Nat → Option α} (g : α → β) : ∀ (k i : Nat), XL (fun j => (f j).map g) k i = (XL f k i).map g
 | 0, _ => rfl
 | k + 1, i => by
  simp only [XL]
  cases f i with
  | some r => rfl
  | none => simp only [Option.map_none]; exact z3c g k (i + 1)
theorem XK {f : Nat → Option α} : ∀ {k i : Nat} {r : α}, XL f k i = some r → ∃ j, i ≤ j ∧ j < i + k ∧ f j = some r
 | 0, i, r, h => by cases h
 | k + 1, i, r, h => by
  simp only [XL] at h
  cases hf : f i with
  | some q =>
   rw [hf] at h
   cases h
   exact ⟨i, by omega, by omega, hf⟩
  | none =>
   rw [hf] at h
   obtain ⟨j, h1, h2, h3⟩ := XK (k := k) h
   exact ⟨j, by omega, by omega, h3⟩
theorem Vu {α ρ : Type} {step : Int → Option (LR Int (Unit ⊕ ρ))} (f : Nat → Option α) (Q : α → ρ → Prop) (n : Nat) (hn : n < 4611686018427387904) :
  ∀ (k i : Nat), i + k = n ∨ (k = 0 ∧ n ≤ i ∧ i ≤ n + 1000) → (∀ j, i ≤ j → j < n → (f j = none ∧ step (j : Int) = some (.next ((j + 1 : Nat) : Int))) ∨ ∃ a r, f j = some a ∧ step (j : Int) = some (.done (.inr r)) ∧ Q a r) → (∀ j, n ≤ j → j ≤ n + 1000 → step (j : Int) = some (.done (.inl ()))) →
  (XL f k i = none ∧ loop step (i : Int) = some (.inl ())) ∨ ∃ a r, XL f k i = some a ∧ loop step (i : Int) = some (.inr r) ∧ Q a r := by
 have gen : ∀ (N k i : Nat), k < N → i + k = n ∨ (k = 0 ∧ n ≤ i ∧ i ≤ n + 1000) → (∀ j, i ≤ j → j < n → (f j = none ∧ step (j : Int) = some (.next ((j + 1 : Nat) : Int))) ∨ ∃ a r, f j = some a ∧ step (j : Int) = some (.done (.inr r)) ∧ Q a r) → (∀ j, n ≤ j → j ≤ n + 1000 → step (j : Int) = some (.done (.inl ()))) →
   (XL f k i = none ∧ XY step N (i : Int) = some (.inl ())) ∨ ∃ a r, XL f k i = some a ∧ XY step N (i : Int) = some (.inr r) ∧ Q a r := by
  intro N
  induction N with
  | zero => intro k i h; omega
  | succ N ih =>
   intro k i hk hi h hd
   cases k with
   | zero =>
    refine .inl ⟨rfl, ?_⟩
    rw [qD, hd i (by omega) (by omega)]
   | succ k =>
    rcases h i (by omega) (by omega) with ⟨h1, h2⟩ | ⟨a, r, h1, h2, h3⟩
    ·have := ih k (i + 1) (by omega) (by omega) (fun j a b => h j (by omega) b) hd
     simp only [XL]
     rw [h1, qD, h2]
     exact this
    ·refine .inr ⟨a, r, ?_, ?_, h3⟩
     ·simp only [XL]; rw [h1]
     ·rw [qD, h2]
 intro k i hi h hd
 exact gen fuel k i (by show k < 18446744073709551616; omega) hi h hd
def chN (S : List Nat) (want : Nat) : Nat → Nat → Nat → Option (List Nat)
 | 0, hv, _ => if hv = want then some [] else none
 | k + 1, hv, fr => XL (fun i => (chN S want k (hv ||| S[i]?.getD 0) (i + 1)).map (i :: ·)) (S.length - k - fr) fr
def rfN (m : z6) (l : List (List Nat)) (g : Nat) : Nat → List (List Nat) → Nat → Option (List (List Nat))
 | 0, bf, _ => if (msL m bf g).length = (msL m l g).length then some bf else none
 | k + 1, bf, fr => XL (fun i => rfN m l g k (bf ++ [l[i]?.getD []]) (i + 1)) (l.length - fr) fr
theorem z3l (m : z6) (l : List (List Nat)) (g : Nat) : ∀ (k : Nat) (bf : List (List Nat)) (fr : Nat), l.length < fr + (k + 1) → rfN m l g (k + 1) bf fr = none
 | 0, bf, fr, h => by simp only [rfN]; rw [show l.length - fr = 0 by omega]; rfl
 | k + 1, bf, fr, h => by
  rw [rfN]
  exact J9 _ _ fun j h1 h2 => z3l m l g k _ _ (by omega)
def bvC (m : z6) (g : Nat) (bf : List (List Nat)) : Nat := ZG (fun k => ∃ t, (GL m g)[k]? = some t ∧ YF m bf (toI g t)) (GL m g).length
theorem zdg (m : z6) (g : Nat) (bf : List (List Nat)) (w : List Nat) : bvC m g bf ||| bvC m g [w] = bvC m g (bf ++ [w]) := by
 unfold bvC
 rw [z8m, JZ]
 intro j hj
 have hx := List.getElem?_eq_getElem hj
 simp only [hx, Option.some.injEq, exists_eq_left']
 unfold YF
 constructor
 ·rintro ((⟨v, hv, q⟩ | q) | (⟨v, hv, q⟩ | q))
  ·exact .inl ⟨v, List.mem_append_left _ hv, q⟩
  ·exact .inr q
  ·exact .inl ⟨v, List.mem_append_right _ hv, q⟩
  ·exact .inr q
 ·rintro (⟨v, hv, q⟩ | q)
  ·rcases List.mem_append.1 hv with a | a
   ·exact .inl (.inl ⟨v, a, q⟩)
   ·exact .inr (.inl ⟨v, a, q⟩)
  ·exact .inl (.inr q)
theorem z62 {p q : α → Bool} : ∀ {L : List α}, (∀ x ∈ L, p x = true → q x = true) → (L.filter p).length ≤ (L.filter q).length
 | [], _ => Nat.le_refl _
 | x :: L, h => by
  have ih := z62 (L := L) fun y hy => h y (by simp [hy])
  rw [List.filter_cons, List.filter_cons]
  by_cases hp : p x = true
  ·rw [if_pos hp, if_pos (h x (by simp) hp)]; simp; omega
  ·rw [if_neg hp]
   split
   ·simp; omega
   ·exact ih
theorem z2Q {p q : α → Bool} : ∀ {L : List α}, (∀ x ∈ L, p x = true → q x = true) → (L.filter p).length = (L.filter q).length → ∀ x ∈ L, q x = true → p x = true
 | [], _, _, x, hx, _ => by simp at hx
 | y :: L, h, e, x, hx, hq => by
  have hle := z62 (L := L) fun z hz => h z (by simp [hz])
  rw [List.filter_cons, List.filter_cons] at e
  by_cases hp : p y = true
  ·rw [if_pos hp, if_pos (h y (by simp) hp)] at e
   rcases List.mem_cons.1 hx with rfl | hx
   ·exact hp
   ·exact z2Q (fun z hz => h z (by simp [hz])) (by simpa using e) x hx hq
  ·rw [if_neg hp] at e
   by_cases hqy : q y = true
   ·rw [if_pos hqy] at e
    simp at e
    omega
   ·rw [if_neg hqy] at e
    rcases List.mem_cons.1 hx with rfl | hx
    ·exact (hqy hq).elim
    ·exact z2Q (fun z hz => h z (by simp [hz])) e x hx hq
theorem z8X (m : z6) (l : List (List Nat)) (g : Nat) : (msL m l g).length = (unc m l g).length := by
 unfold msL
 rw [zcF, List.length_map]
theorem z9f {l bf : List (List Nat)}  (hs : ∀ w ∈ bf, w ∈ l) : bvC m g bf = bvC m g l ↔ (msL m bf g).length = (msL m l g).length := by
 have hsub : ∀ x, YF m bf x → YF m l x := by
  rintro x (⟨w, hw, q⟩ | q)
  ·exact .inl ⟨w, hs w hw, q⟩
  ·exact .inr q
 rw [z8X, z8X]
 unfold bvC
 rw [JZ]
 constructor
 ·intro e
  have : unc m bf g = unc m l g := by
   unfold unc
   refine List.filter_congr fun t ht => ?_
   obtain ⟨j, hj, rfl⟩ := List.getElem_of_mem ht
   have := e j hj
   have hx := List.getElem?_eq_getElem hj
   simp only [hx, Option.some.injEq, exists_eq_left'] at this
   rw [decide_eq_decide.2 this]
  rw [this]
 ·intro e j hj
  have hx := List.getElem?_eq_getElem hj
  simp only [hx, Option.some.injEq, exists_eq_left']
  refine ⟨hsub _, fun q => ?_⟩
  have := z2Q (p := fun t => !decide (YF m l (toI g t))) (q := fun t => !decide (YF m bf (toI g t))) (L := GL m g) (fun t ht hp => by
   simp only [Bool.not_eq_true', decide_eq_false_iff_not] at hp ⊢
   exact fun k => hp (hsub _ k)) e.symm _ (List.getElem_mem hj)
  simp only [Bool.not_eq_true', decide_eq_false_iff_not] at this
  apply Classical.byContradiction
  intro k
  exact this k q
theorem zau {m : z6} {l : List (List Nat)} {g : Nat} : ∀ (k : Nat) (bf : List (List Nat)) (fr : Nat), (∀ w ∈ bf, w ∈ l) → k ≤ l.length →
  rfN m l g k bf fr = (chN (l.map fun w => bvC m g [w]) (bvC m g l) k (bvC m g bf) fr).map fun ix => bf ++ ix.map fun i => l[i]?.getD []
 | 0, bf, fr, hs, _ => by
  simp only [rfN, chN]
  by_cases e : bvC m g bf = bvC m g l
  ·rw [if_pos e, if_pos ((z9f hs).1 e)]; simp
  ·rw [if_neg e, if_neg fun q => e ((z9f hs).2 q)]; rfl
 | k + 1, bf, fr, hs, hk => by
  simp only [rfN, chN, List.length_map]
  rw [← z3c]
  have hsp : l.length - fr = (l.length - k - fr) + (l.length - fr - (l.length - k - fr)) := by omega
  rw [hsp, z0o]
  have htail : XL (fun i => rfN m l g k (bf ++ [l[i]?.getD []]) (i + 1)) (l.length - fr - (l.length - k - fr)) (fr + (l.length - k - fr)) = none := by
   refine J9 _ _ fun j h1 h2 => ?_
   cases k with
   | zero => omega
   | succ k => exact z3l m l g k _ _ (by omega)
  rw [htail]
  have hhead : XL (fun i => rfN m l g k (bf ++ [l[i]?.getD []]) (i + 1)) (l.length - k - fr) fr = XL (fun j => ((chN (l.map fun w => bvC m g [w]) (bvC m g l) k (bvC m g bf ||| (l.map fun w => bvC m g [w])[j]?.getD 0) (j + 1)).map (j :: ·)).map fun ix => bf ++ ix.map fun i => l[i]?.getD []) (l.length - k - fr) fr := by
   refine KE _ _ fun j h1 h2 => ?_
   have hj : j < l.length := by omega
   have hx := List.getElem?_eq_getElem hj
   rw [List.getElem?_map, hx]
   simp only [Option.map_some, Option.getD_some]
   rw [zdg, zau k (bf ++ [l[j]]) (j + 1) (fun w hw => by
    rcases List.mem_append.1 hw with q | q
    ·exact hs w q
    ·simp only [List.mem_singleton] at q; subst q; exact List.getElem_mem hj) (by omega), Option.map_map]
   congr 1
   funext ix
   simp [hx]
  rw [hhead]
  cases XL (fun j => ((chN (l.map fun w => bvC m g [w]) (bvC m g l) k (bvC m g bf ||| (l.map fun w => bvC m g [w])[j]?.getD 0) (j + 1)).map (j :: ·)).map fun ix => bf ++ ix.map fun i => l[i]?.getD []) (l.length - k - fr) fr <;> rfl
theorem z3k {l : List (List Nat)}  : ∀ (k : Nat) (bf : List (List Nat)) (fr : Nat) {r : List (List Nat)}, (∀ w ∈ bf, w ∈ l) → rfN m l g k bf fr = some r → (msL m r g).length = (msL m l g).length ∧ ∀ w ∈ r, w ∈ l
 | 0, bf, fr, r, hs, e => by
  simp only [rfN] at e
  split at e
  ·cases e; exact ⟨by assumption, hs⟩
  ·cases e
 | k + 1, bf, fr, r, hs, e => by
  simp only [rfN] at e
  obtain ⟨j, h1, h2, h3⟩ := XK e
  have hj : j < l.length := by omega
  refine z3k k _ _ (fun w hw => ?_) h3
  rw [List.getElem?_eq_getElem hj] at hw
  rcases List.mem_append.1 hw with q | q
  ·exact hs w q
  ·simp only [Option.getD_some, List.mem_singleton] at q; subst q; exact List.getElem_mem hj
theorem z8Q {l : List (List Nat)}  : ∀ (k fr : Nat), fr + k = l.length → rfN m l g k (l.take fr) fr = some l
 | 0, fr, h => by
  simp only [rfN]
  rw [show l.take fr = l by rw [List.take_of_length_le (by omega)], if_pos rfl]
 | k + 1, fr, h => by
  simp only [rfN]
  have hj : fr < l.length := by omega
  rw [show l.length - fr = k + 1 by omega]
  simp only [XL]
  have e : l.take fr ++ [l[fr]?.getD []] = l.take (fr + 1) := by rw [List.take_add_one, List.getElem?_eq_getElem hj]; rfl
  rw [e, z8Q k (fr + 1) (by omega)]
end Go.Own
end
