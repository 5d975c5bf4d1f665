/- Walks, further. -/
import Derived.Test.YtkelmheleahmpaaDoorPartF
import Derived.Test.YtkelmheleahmpaaDoorPartC
import Derived.Test.YtkelmheleahmpaaDoorPartE
import Derived.Test.YtkelmheleahmpaaDoorPartB
import Derived.OpenShut
import Derived.ChangeShapes
import Derived.WalkKit
import Derived.ProofKit
import Derived.Carry
import Derived.Test.YtkelmheleahmpaaDoorRows
import Derived.Test.YtkelmheleahmpaaDoorChecked
import Derived.LaidMore
import Derived.Stop.Joined
import Derived.SevenTiedAt
import Derived.Test.YtkelmheleahmpaaDoorCards
import Derived.Test.YtkelmheleahmpaaDoorTie
noncomputable section
set_option linter.unusedVariables false
set_option linter.unusedSimpArgs false
namespace Go.Own
open Go.Proofs
set_option maxRecDepth 100000
set_option maxHeartbeats 8000000
def Jq : Code := (Tryd.f10.body).getD .skip
def Zu : yi := spF (α := Unit) (ρ := Bool) 10 (fun x => []) (fun r => eB r) (fun x => Yq) [] (fun _ _ _ => rfl)
variable {ctr : Ctr}
theorem Kb (hC : zN Tryd.prog ctr) (h0U : ctr.Has kz) (h03 : ctr.Has uX) (h0p : ctr.Has uY) (h0V : ctr.Has uC) (h0q : ctr.Has uB) (h0W : ctr.Has qS) (h0c : ctr.Has Yb) : Zu.Ok Tryd.prog := by
 refine zV ?_
 rintro ⟨⟩ r0 aa
 try unfold Yq at aa
 refine yO true [(0, none)] Jq 117 Tryd.func10 fun E hE => ?_
 obtain ⟨r_, h0, aa⟩ := zn aa
 obtain ⟨ah, h1, aa⟩ := zn aa
 obtain ⟨al, h2, aa⟩ := zn aa
 obtain ⟨ap, h3, aa⟩ := zn aa
 obtain ⟨aw, h4, aa⟩ := zn aa
 obtain ⟨bp, h5, aa⟩ := zn aa
 let Z0 : List HO := [Hc h0U (x := ()) h0 (loN), Hc h03 (x := (r_, [])) h1 (loC zan r_ <| loC zao ([] : List (List Int)) <| loN), Hg (J8 h03), Hm (shM F3_ F2_ ([[1], [0,0,1]])), Hs (J9 h03 (x := (r_, [[1], [0,0,1]])) h2 (loC zan r_ <| loC z3o ([[1], [0,0,1]] : List (List Int)) <| loN)), Hg (J8 h0p), Hm (shM F3_ F2_ ([[1], [0,0,1]])), Hs (J9 h0p (x := (r_, [[1], [0,0,1]])) h3 (loC zan r_ <| loC z3o ([[1], [0,0,1]] : List (List Int)) <| loN)), Hm (shM F3_ F2_ ([[1], [0,0,1]])), Hc h0V (x := (r_, [], 1)) h4 (loC zan r_ <| loC zao ([] : List (List Int)) <| loC (eI .i64) 1 <| loN), Hg (J8 h0q), Hm (shM F3_ F2_ ([[0], [1], [0,0], [0,1,1]])), Hs (J9 h0q (x := (r_, [[0], [1], [0,0], [0,1,1]], 1)) h5 (loC zan r_ <| loC z3o ([[0], [1], [0,0], [0,1,1]] : List (List Int)) <| loC (eI .i64) 1 <| loN)), Hm (shM F3_ F2_ ([[0], [1], [0,0], [0,1,1]]))]
 rcases yb aa with ⟨c0, aa⟩ | ⟨c0, aa⟩
 ·rcases yb aa with ⟨c1, aa⟩ | ⟨c1, aa⟩
  ·let Z1 : List HO := (Z0 ++ [Hq c0, Hq c0, Hq c0, Hq c1, Hq c1, Hq c1])
   rcases yb aa with ⟨c2, aa⟩ | ⟨c2, aa⟩
   ·rcases yb aa with ⟨c3, aa⟩ | ⟨c3, aa⟩
    ·let Z2 : List HO := (Z1 ++ [Hq c2, Hq c2, Hq c2, Hq c3, Hq c3, Hq c3])
     rcases yb aa with ⟨c4, aa⟩ | ⟨c4, aa⟩
     ·let Z3 : List HO := (Z2 ++ (rpN 7 (Hq c4) []))
      rcases yb aa with ⟨c5, aa⟩ | ⟨c5, aa⟩
      ·obtain ⟨bm, h6, aa⟩ := zn aa
       let Z4 : List HO := (Z3 ++ [Hq c5, Hq c5, Hc h0W (x := ah.1) h6 (loC zdt ah.1 <| loN), Hq c5, Hx (.a (.atom (.bool (bm == ([115,116,97,116,101,115,32,49,47,50,44,32,101,100,103,101,115,32,48,47,52,44,32,112,97,105,114,115,32,48,47,56] : List UInt8))))) (zgu bm ([115,116,97,116,101,115,32,49,47,50,44,32,101,100,103,101,115,32,48,47,52,44,32,112,97,105,114,115,32,48,47,56] : List UInt8)), Hq c5])
       rcases yb aa with ⟨c6, aa⟩ | ⟨c6, aa⟩
       ·let Z5 : List HO := (Z4 ++ (rpN 7 (Hq c6) []))
        rcases yb aa with ⟨c7, aa⟩ | ⟨c7, aa⟩
        ·let Z6 : List HO := (Z5 ++ [Hq c7, Hq c7, Ha (lnM F0_ ap.1), Hq c7, Hq c7])
         rcases yb aa with ⟨c8, aa⟩ | ⟨c8, aa⟩
         ·obtain ⟨u_, h7, aa⟩ := zn aa
          let Z7 : List HO := (Z6 ++ (Hq c8 :: Hq c8 :: Hi F0_ h7 :: (rpN 4 (Hq c8) [])))
          rcases yb aa with ⟨c9, aa⟩ | ⟨c9, aa⟩
          ·obtain ⟨du, h8, aa⟩ := zn aa
           let Z8 : List HO := (Z7 ++ (rpN 7 (Hq c9) [Hg (J8 h0c), Hm (shM F3_ F2_ ([[0], [1], [0,0], [0,1]])), Hs (J9 h0c (x := (aw.1, [[0], [1], [0,0], [0,1]])) h8 (loC z3o aw.1 <| loC z3o ([[0], [1], [0,0], [0,1]] : List (List Int)) <| loN)), Hq c9]))
           rcases yb aa with ⟨c10, aa⟩ | ⟨c10, aa⟩
           ·obtain ⟨dm, h9, aa⟩ := zn aa
            obtain rfl := zk aa
            exact yE ((z3r zB 86).or ((z5L Tryd.prog 78).or ((z3r zB 73).or X0))) hC hE (Z8 ++ (rpN 6 (Hq c10) [Hg (J8 h0c), Hm (shM F3_ F2_ ([[1], [0,0], [0,1,1]])), Hs (J9 h0c (x := (bp.1, [[1], [0,0], [0,1,1]])) h9 (loC z3o bp.1 <| loC z3o ([[1], [0,0], [0,1,1]] : List (List Int)) <| loN)), Hq c10]))
           ·obtain rfl := zk aa
            exact yE ((z3r zB 86).or ((z5L Tryd.prog 78).or ((z3r zB 73).or X0))) hC hE (Z8 ++ (rpN 7 (Hq c10) []))
          ·obtain rfl := zk aa
           exact yE ((z3r zB 86).or ((z5L Tryd.prog 78).or ((z3r zB 73).or X0))) hC hE (Z7 ++ (rpN 8 (Hq c9) (rpN 7 qF [])))
         ·obtain rfl := zk aa
          exact yE ((z3r zB 86).or ((z5L Tryd.prog 78).or ((z3r zB 73).or X0))) hC hE (Z6 ++ (rpN 6 (Hq c8) (rpN 15 qF [])))
        ·obtain rfl := zk aa
         exact yE ((z3r zB 86).or ((z5L Tryd.prog 78).or ((z3r zB 73).or X0))) hC hE (Z5 ++ (rpN 4 (Hq c7) (rpN 21 qF [])))
       ·obtain rfl := zk aa
        exact yE ((z5L Tryd.prog 78).or ((z3r zB 73).or X0)) hC hE (Z4 ++ (rpN 7 (Hq c6) (rpN 25 qF [])))
      ·obtain rfl := zk aa
       exact yE ((z3r zB 73).or X0) hC hE (Z3 ++ (rpN 4 (Hq c5) (rpN 32 qF [])))
     ·obtain rfl := zk aa
      exact yE X0 hC hE (Z2 ++ (rpN 7 (Hq c4) (rpN 36 qF [])))
    ·obtain rfl := zk aa
     exact yE X0 hC hE (Z1 ++ (Hq c2 :: Hq c2 :: Hq c2 :: Hq c3 :: Hq c3 :: Hq c3 :: (rpN 43 qF [])))
   ·obtain rfl := zk aa
    exact yE X0 hC hE (Z1 ++ (Hq c2 :: Hq c2 :: Hq c2 :: (rpN 46 qF [])))
  ·obtain rfl := zk aa
   exact yE X0 hC hE (Z0 ++ (Hq c0 :: Hq c0 :: Hq c0 :: Hq c1 :: Hq c1 :: Hq c1 :: (rpN 49 qF [])))
 ·obtain rfl := zk aa
  exact yE X0 hC hE (Z0 ++ (Hq c0 :: Hq c0 :: Hq c0 :: (rpN 52 qF [])))
def wq : Code := (Tryd.f3.body).getD .skip
def vI : yi := spF (α := wo × Int) (ρ := Bool) 3 (fun x => [(uk Jt (eSl 1 false F1_)) x.1, (eI .u8) x.2]) (fun r => eB r) (fun x => vq x.1 x.2) [] (VQ)
abbrev ZF (r_ : z7 × List (List Int)) (words : List (List Int)) : List (Nat × T) := [(5, .own (.box (yT r_.1))), (14, .own (eOs 1 false F7_ words))]
abbrev ZD (r_ : z7 × List (List Int)) (ap : List (List Int) × List Bool) (s_ : Int) (fh : List (List Int)) : List (Nat × T) := [(5, .own (.box (yT r_.1))), (12, .d (eSl 1 true F7_ ap.1)), (13, .d (eSl 1 true eB ap.2)), (14, .own (eOs 1 false F7_ fh)), (15, .d (I s_))]
abbrev ZC (r_ : z7 × List (List Int)) (ap : List (List Int) × List Bool) (cq : List (List Int)) (s_ : Int) : List (Nat × T) := [(5, .own (.box (yT r_.1))), (12, .d (eSl 1 true F7_ ap.1)), (13, .d (eSl 1 true eB ap.2)), (14, .own (eOs 1 false F7_ cq)), (15, .d (I s_))]
theorem X9 (hC : zN Tryd.prog ctr) (h0X : ctr.Has Yd) (h03 : ctr.Has uX) (h0Y : ctr.Has ky) (h07 : ctr.Has jS) (h0Z : ctr.Has Zu) : vI.Ok Tryd.prog := by
 refine zV ?_
 rintro ⟨x_, gq⟩ r0 aa
 try unfold vq at aa
 refine yO true [(4, none)] wq 147 Tryd.func3 fun E hE => ?_
 obtain ⟨r_, h0, aa⟩ := zn aa
 obtain ⟨g0, aa⟩ := gdE aa
 obtain ⟨g1, aa⟩ := gdE aa
 obtain ⟨ah, h1, aa⟩ := zn aa
 obtain ⟨al, h2, aa⟩ := zn aa
 let Z0 : List HO := [Hc h0X (x := (wo.mk x_.M x_.L)) h0 (loC (uk Jt (eSl 1 false F1_)) (wo.mk x_.M x_.L) <| loN), Ha (lnM F7_ r_.2), Hn g0, Hn (slB g1), Hn (zdI F7_ g1), Ha (slM 1 false F7_ r_.2 0 (Int.tmod (w64 (gq)) (w64 (((r_.2.length : Nat) : Int) + 1))).toNat), Hc h03 (x := (r_.1, ((r_.2.drop 0).take ((Int.tmod (w64 (gq)) (w64 (((r_.2.length : Nat) : Int) + 1))).toNat - 0)))) h1 (loC yT r_.1 <| loC YK ((r_.2.drop 0).take ((Int.tmod (w64 (gq)) (w64 (((r_.2.length : Nat) : Int) + 1))).toNat - 0)) <| loN), Hc h03 (x := (r_.1, r_.2)) h2 (loC yT r_.1 <| loC YK r_.2 <| loN)]
 rcases yb aa with ⟨c0, aa⟩ | ⟨c0, aa⟩
 ·obtain rfl := zk aa
  exact yE X0 hC hE (Z0 ++ (Hq c0 :: Hq c0 :: Hq c0 :: (rpN 49 qT [])))
 ·rcases yb aa with ⟨c1, aa⟩ | ⟨c1, aa⟩
  ·obtain rfl := zk aa
   exact yE X0 hC hE (Z0 ++ (Hq c0 :: Hq c0 :: Hq c0 :: (rpN 8 (Hq c1) (rpN 41 qT []))))
  ·let Z1 : List HO := (Z0 ++ [Hq c0, Hq c0, Hq c0, Hq c1, Hq c1, Hn (⟨rfl, by decide⟩ : true = true ∧ 0 < 2), Hq c1, Hq c1, Hq c1, Hn (⟨rfl, by decide⟩ : true = true ∧ 0 < 2), Hq c1, Hq c1, Hq c1])
   rcases yb aa with ⟨c2, aa⟩ | ⟨c2, aa⟩
   ·obtain rfl := zk aa
    exact yE X0 hC hE (Z1 ++ (rpN 8 (Hq c2) (rpN 33 qT [])))
   ·let Z2 : List HO := (Z1 ++ [Hq c2, Hq c2, Hn (⟨rfl, by decide⟩ : true = true ∧ 0 < 2), Hq c2, Hq c2, Hq c2, Hn (⟨rfl, by decide⟩ : true = true ∧ 0 < 2), Hq c2, Hq c2, Hq c2])
    rcases yb aa with ⟨c3, aa⟩ | ⟨c3, aa⟩
    ·obtain rfl := zk aa
     exact yE X0 hC hE (Z2 ++ (rpN 8 (Hq c3) (rpN 25 qT [])))
    ·let Z3 : List HO := (Z2 ++ [Hq c3, Hq c3, Hn (⟨rfl, by decide⟩ : true = true ∧ 0 < 2), Hq c3, Hq c3, Hq c3, Hn (⟨rfl, by decide⟩ : true = true ∧ 0 < 2), Hq c3, Hq c3, Hq c3])
     rcases yb aa with ⟨c4, aa⟩ | ⟨c4, aa⟩
     ·obtain rfl := zk aa
      exact yE X0 hC hE (Z3 ++ (rpN 8 (Hq c4) (rpN 17 qT [])))
     ·let Z4 : List HO := (Z3 ++ [Hq c4, Hq c4, Hn (⟨rfl, by decide⟩ : true = true ∧ 1 < 2), Hq c4, Hq c4, Hq c4, Hn (⟨rfl, by decide⟩ : true = true ∧ 1 < 2), Hq c4, Hq c4, Hq c4])
      rcases yb aa with ⟨c5, aa⟩ | ⟨c5, aa⟩
      ·obtain rfl := zk aa
       exact yE X0 hC hE (Z4 ++ (rpN 8 (Hq c5) (rpN 9 qT [])))
      ·let Z5 : List HO := (Z4 ++ [Hq c5, Hq c5, Hn (⟨rfl, by decide⟩ : true = true ∧ 1 < 2), Hq c5, Hq c5, Hq c5, Hn (⟨rfl, by decide⟩ : true = true ∧ 1 < 2), Hq c5, Hq c5, Hq c5])
       rcases yb aa with ⟨c6, aa⟩ | ⟨c6, aa⟩
       ·obtain rfl := zk aa
        exact yE X0 hC hE (Z5 ++ (rpN 8 (Hq c6) [qT]))
       ·let Z6 : List HO := (Z5 ++ [Hq c6, Hq c6, Hn (⟨rfl, by decide⟩ : true = true ∧ 1 < 2), Hq c6, Hq c6, Hq c6, Hn (⟨rfl, by decide⟩ : true = true ∧ 1 < 2), Hq c6, Hq c6, Hq c6])
        rcases yb aa with ⟨c7, aa⟩ | ⟨c7, aa⟩
        ·obtain rfl := zk aa
         exact yE X0 hC hE (Z6 ++ [Hq c7])
        ·obtain ⟨ap, h3, aa⟩ := zn aa
         refine yJ X0 hC wq [1,1,1,1,1,1,1,1] [] [5,14] (fun z : List (List Int) => wp r_ z = some r0) (fun z => ZF r_ z) [(5, .own (.box (yT r_.1))), (12, .d (eSl 1 true F7_ ap.1)), (13, .d (eSl 1 true eB ap.2)), (14, .own (eOs 1 true F7_ []))] (Z6 ++ [Hq c7, Hc h0Y (x := r_.1) h3 (loC yT r_.1 <| loN), Hh (.cut 1)]) ?_ fun J1 az => ?_
         ·rintro words aa
          unfold wp at aa
          obtain ⟨aw, h4, aa⟩ := zn aa
          obtain ⟨bp, h5, aa⟩ := zn aa
          let Z7 : List HO := [Hg (J8 h07), Hm (shM F7_ F7_ words), Hs (J9 h07 (x := words) h4 (loC YK words <| loN)), Hm (shM F7_ F7_ words), Hg (J8 h03), Hm (shM F7_ F7_ aw), Hs (J9 h03 (x := (r_.1, aw)) h5 (loC yT r_.1 <| loC YK aw <| loN))]
          rcases yb aa with ⟨c8, aa⟩ | ⟨c8, aa⟩
          ·let Z8 : List HO := (Z7 ++ (rpN 4 (Hq c8) [Ha (lnM F7_ words), Hq c8, Hq c8, Ha (lnM F7_ words), Hq c8, Hq c8, Hq c8]))
           rcases yb aa with ⟨c9, aa⟩ | ⟨c9, aa⟩
           ·obtain ⟨bm, h6, aa⟩ := zn aa
            obtain rfl := zk aa
            exact yE X0 hC hE (Z8 ++ [Hq c9, Hc h0Z (x := ()) h6 (loN), Hq c9])
           ·obtain rfl := zk aa
            exact yE X0 hC hE (Z8 ++ [Hq c9, Hq c9])
          ·obtain rfl := zk aa
           exact yE X0 hC hE (Z7 ++ (rpN 9 (Hq c8) [qF, qF]))
         ·obtain ⟨t2, ht2, aa⟩ := zn aa
          refine yLx X0 hC wq [1,1,1,1,1,1,1,1,2,1,0] [J1] (fun s => yx ap s.1 s.2) (fun x => ZC r_ ap x.1 x.2) (([] : List (List Int)), 0) ht2 [(5, .own (.box (yT r_.1))), (12, .d (eSl 1 true F7_ ap.1)), (13, .d (eSl 1 true eB ap.2)), (14, .own (eOs 1 true F7_ [])), (15, .d (I 0))] inferInstance [] ?_
          rintro ⟨cq, s_⟩ m2 bl ae hl1 J2 a8
          try unfold yx at ae
          let Z9 : List HO := [Ha (lnM F7_ ap.1)]
          rcases yb ae with ⟨c10, ae⟩ | ⟨c10, ae⟩
          ·refine yJ X0 hC wq [1,1,1,1,1,1,1,1,2,1,0,0,1] [J1, J2] [5,12,13,14,15] (fun z : List (List Int) => yz s_ z = some bl) (fun z => ZD r_ ap s_ z) [(5, .own (.box (yT r_.1))), (12, .d (eSl 1 true F7_ ap.1)), (13, .d (eSl 1 true eB ap.2)), (14, .own (eOs 1 false F7_ cq)), (15, .d (I s_))] (Z9 ++ [Hq c10, Hh (.cut 0)]) ?_ fun J3 cd => ?_
           ·rintro fh ae
            unfold yz at ae
            obtain rfl := zk ae
            exact yB X0 hC a8 (fh, w64 (s_ + 1)) hl1 []
           ·obtain ⟨u_, h7, ae⟩ := zn ae
            rcases yb ae with ⟨c11, ae⟩ | ⟨c11, ae⟩
            ·obtain ⟨dj, h8, ae⟩ := zn ae
             obtain ⟨g2, ae⟩ := gdE ae
             exact yB X0 hC cd (cq ++ ([dj] : List (List Int))) ae [Hi eB h7, Hq c11, Hi F7_ h8, Hq (dM F7_ ([dj] : List (List Int))), Hn (dM F7_ ([dj] : List (List Int))), Hn (aL F7_ F7_ g2), Hl (aM F7_ cq ([dj] : List (List Int)))]
            ·exact yB X0 hC cd cq ae [Hi eB h7, Hq c11]
          ·obtain rfl := zk ae
           obtain rfl := hl1
           exact yB X0 hC az cq aa (Z9 ++ [Hq c10])
theorem yS {l : List yi} {s : yi} (h : ((l.map yi.k).contains s.k) = false) : ∀ t ∈ l, t.k ≠ s.k := by
 intro t ht e
 have : (l.map yi.k).contains s.k = true := by
  rw [List.contains_iff_mem, ← e]
  exact List.mem_map_of_mem ht
 rw [h] at this
 cases this
theorem zH {l : List yi} {c : Ctr} (H : ∀ t ∈ l, c.Has t) (i : Nat) {s : yi} (h : l[i]? = some s) : c.Has s := H _ (List.mem_of_getElem? h)
def L0 : List yi := Yf :: []
def L1 : List yi := Ye :: L0
def L2 : List yi := uq :: L1
def L3 : List yi := Xc :: L2
def L4 : List yi := jS :: L3
def L5 : List yi := Yd :: L4
def L6 : List yi := jA :: L5
def L7 : List yi := jB :: L6
def L8 : List yi := uA :: L7
def L9 : List yi := yo :: L8
def L10 : List yi := yj :: L9
def L11 : List yi := vY :: L10
def L12 : List yi := jy :: L11
def L13 : List yi := w9 :: L12
def L14 : List yi := xx :: L13
def L15 : List yi := Zo :: L14
def L16 : List yi := je :: L15
def L17 : List yi := jC :: L16
def L18 : List yi := vN :: L17
def L19 : List yi := wO :: L18
def L20 : List yi := Yg :: L19
def L21 : List yi := vA :: L20
def L22 : List yi := Zq :: L21
def L23 : List yi := jd :: L22
def L24 : List yi := Zr :: L23
def L25 : List yi := xL :: L24
def L26 : List yi := vZ :: L25
def L27 : List yi := x3 :: L26
def L28 : List yi := qP :: L27
def L29 : List yi := yc :: L28
def L30 : List yi := yg :: L29
def L31 : List yi := Zp :: L30
def L32 : List yi := ku :: L31
def L33 : List yi := wy :: L32
def L34 : List yi := uX :: L33
def L35 : List yi := jT :: L34
def L36 : List yi := Zt :: L35
def L37 : List yi := Yc :: L36
def L38 : List yi := Zs :: L37
def L39 : List yi := ky :: L38
def L40 : List yi := kz :: L39
def L41 : List yi := ya :: L40
def L42 : List yi := uc :: L41
def L43 : List yi := uY :: L42
def L44 : List yi := wZ :: L43
def L45 : List yi := qQ :: L44
def L46 : List yi := xy :: L45
def L47 : List yi := kw :: L46
def L48 : List yi := Ya :: L47
def L49 : List yi := uC :: L48
def L50 : List yi := yG :: L49
def L51 : List yi := yH :: L50
def L52 : List yi := wa :: L51
def L53 : List yi := uB :: L52
def L54 : List yi := wP :: L53
def L55 : List yi := xO :: L54
def L56 : List yi := v6 :: L55
def L57 : List yi := kx :: L56
def L58 : List yi := qS :: L57
def L59 : List yi := Yb :: L58
def L60 : List yi := Zu :: L59
def L61 : List yi := vI :: L60
theorem zf0 : zI Tryd.prog L0 := ⟨fun _ hC H => z09 hC, yS (by kernel_rfl), trivial⟩
theorem zeZ : zI Tryd.prog L1 := ⟨fun _ hC H => z08 hC, yS (by kernel_rfl), zf0⟩
theorem zeY : zI Tryd.prog L2 := ⟨fun _ hC H => UR hC, yS (by kernel_rfl), zeZ⟩
theorem zeX : zI Tryd.prog L3 := ⟨fun _ hC H => z1c hC (zH H 0 rfl), yS (by kernel_rfl), zeY⟩
theorem zeW : zI Tryd.prog L4 := ⟨fun _ hC H => z03 hC (zH H 0 rfl), yS (by kernel_rfl), zeX⟩
theorem zeV : zI Tryd.prog L5 := ⟨fun _ hC H => z07 hC (zH H 4 rfl) (zH H 3 rfl) (zH H 0 rfl), yS (by kernel_rfl), zeW⟩
theorem zeU : zI Tryd.prog L6 := ⟨fun _ hC H => UT hC, yS (by kernel_rfl), zeV⟩
theorem zeT : zI Tryd.prog L7 := ⟨fun _ hC H => UU hC (zH H 0 rfl), yS (by kernel_rfl), zeU⟩
theorem zeS : zI Tryd.prog L8 := ⟨fun _ hC H => Wy hC (zH H 0 rfl), yS (by kernel_rfl), zeT⟩
theorem zeR : zI Tryd.prog L9 := ⟨fun _ hC H => ui hC (zH H 0 rfl), yS (by kernel_rfl), zeS⟩
theorem zde : zI Tryd.prog L10 := ⟨fun _ hC H => vU hC (zH H 0 rfl), yS (by kernel_rfl), zeR⟩
theorem zdd : zI Tryd.prog L11 := ⟨fun _ hC H => VZ hC (zH H 0 rfl), yS (by kernel_rfl), zde⟩
theorem zdc : zI Tryd.prog L12 := ⟨fun _ hC H => UQ hC, yS (by kernel_rfl), zdd⟩
theorem zdb : zI Tryd.prog L13 := ⟨fun _ hC H => kZ hC (zH H 0 rfl), yS (by kernel_rfl), zdc⟩
theorem zda : zI Tryd.prog L14 := ⟨fun _ hC H => jw hC (zH H 0 rfl), yS (by kernel_rfl), zdb⟩
theorem zd9 : zI Tryd.prog L15 := ⟨fun _ hC H => K3 hC (zH H 0 rfl), yS (by kernel_rfl), zda⟩
theorem zd8 : zI Tryd.prog L16 := ⟨fun _ hC H => K6 hC (zH H 0 rfl), yS (by kernel_rfl), zd9⟩
theorem zd7 : zI Tryd.prog L17 := ⟨fun _ hC H => UW hC, yS (by kernel_rfl), zd8⟩
theorem zd6 : zI Tryd.prog L18 := ⟨fun _ hC H => V9 hC (zH H 0 rfl), yS (by kernel_rfl), zd7⟩
theorem zd5 : zI Tryd.prog L19 := ⟨fun _ hC H => ZK hC (zH H 0 rfl), yS (by kernel_rfl), zd6⟩
theorem zd4 : zI Tryd.prog L20 := ⟨fun _ hC H => z0a hC, yS (by kernel_rfl), zd5⟩
theorem zd3 : zI Tryd.prog L21 := ⟨fun _ hC H => UP hC (zH H 2 rfl) (zH H 1 rfl) (zH H 0 rfl), yS (by kernel_rfl), zd4⟩
theorem zd2 : zI Tryd.prog L22 := ⟨fun _ hC H => K7 hC (zH H 0 rfl), yS (by kernel_rfl), zd3⟩
theorem zd1 : zI Tryd.prog L23 := ⟨fun _ hC H => K5 hC, yS (by kernel_rfl), zd2⟩
theorem zd0 : zI Tryd.prog L24 := ⟨fun _ hC H => K8 hC (zH H 7 rfl) (zH H 1 rfl) (zH H 0 rfl), yS (by kernel_rfl), zd1⟩
theorem zcZ : zI Tryd.prog L25 := ⟨fun _ hC H => V4 hC (zH H 13 rfl) (zH H 0 rfl), yS (by kernel_rfl), zd0⟩
theorem zcY : zI Tryd.prog L26 := ⟨fun _ hC H => U0 hC, yS (by kernel_rfl), zcZ⟩
theorem zcX : zI Tryd.prog L27 := ⟨fun _ hC H => W2 hC (zH H 0 rfl), yS (by kernel_rfl), zcY⟩
theorem zcW : zI Tryd.prog L28 := ⟨fun _ hC H => VX hC, yS (by kernel_rfl), zcX⟩
theorem zcV : zI Tryd.prog L29 := ⟨fun _ hC H => YO hC, yS (by kernel_rfl), zcW⟩
theorem zcU : zI Tryd.prog L30 := ⟨fun _ hC H => X8 hC, yS (by kernel_rfl), zcV⟩
theorem zcT : zI Tryd.prog L31 := ⟨fun _ hC H => K4 hC (zH H 2 rfl) (zH H 1 rfl) (zH H 0 rfl), yS (by kernel_rfl), zcU⟩
theorem zcS : zI Tryd.prog L32 := ⟨fun _ hC H => Jd hC (zH H 20 rfl) (zH H 0 rfl), yS (by kernel_rfl), zcT⟩
theorem zcR : zI Tryd.prog L33 := ⟨fun _ hC H => UV hC (zH H 0 rfl) (zH H 3 rfl) (zH H 2 rfl), yS (by kernel_rfl), zcS⟩
theorem zcQ : zI Tryd.prog L34 := ⟨fun _ hC H => Ji hC (zH H 8 rfl) (zH H 6 rfl) (zH H 0 rfl), yS (by kernel_rfl), zcR⟩
theorem zcP : zI Tryd.prog L35 := ⟨fun _ hC H => z06 hC, yS (by kernel_rfl), zcQ⟩
theorem zcO : zI Tryd.prog L36 := ⟨fun _ hC H => Ka hC (zH H 0 rfl), yS (by kernel_rfl), zcP⟩
theorem zcN : zI Tryd.prog L37 := ⟨fun _ hC H => z05 hC, yS (by kernel_rfl), zcO⟩
theorem zcM : zI Tryd.prog L38 := ⟨fun _ hC H => K9 hC (zH H 1 rfl) (zH H 0 rfl), yS (by kernel_rfl), zcN⟩
theorem zcL : zI Tryd.prog L39 := ⟨fun _ hC H => Jg hC (zH H 0 rfl), yS (by kernel_rfl), zcM⟩
theorem zcK : zI Tryd.prog L40 := ⟨fun _ hC H => Jh hC, yS (by kernel_rfl), zcL⟩
theorem zcJ : zI Tryd.prog L41 := ⟨fun _ hC H => vg hC, yS (by kernel_rfl), zcK⟩
theorem zcI : zI Tryd.prog L42 := ⟨fun _ hC H => W1 hC (zH H 16 rfl) (zH H 14 rfl) (zH H 8 rfl) (zH H 0 rfl), yS (by kernel_rfl), zcJ⟩
theorem zcH : zI Tryd.prog L43 := ⟨fun _ hC H => V8 hC (zH H 0 rfl), yS (by kernel_rfl), zcI⟩
theorem zcG : zI Tryd.prog L44 := ⟨fun _ hC H => Y6 hC, yS (by kernel_rfl), zcH⟩
theorem zcF : zI Tryd.prog L45 := ⟨fun _ hC H => VY hC (zH H 23 rfl), yS (by kernel_rfl), zcG⟩
theorem zcE : zI Tryd.prog L46 := ⟨fun _ hC H => jx hC (zH H 0 rfl), yS (by kernel_rfl), zcF⟩
theorem zcD : zI Tryd.prog L47 := ⟨fun _ hC H => Je hC (zH H 2 rfl) (zH H 25 rfl) (zH H 0 rfl) (zH H 23 rfl) (zH H 17 rfl) (zH H 16 rfl), yS (by kernel_rfl), zcE⟩
theorem zcC : zI Tryd.prog L48 := ⟨fun _ hC H => z02 hC (zH H 31 rfl) (zH H 0 rfl), yS (by kernel_rfl), zcD⟩
theorem zcB : zI Tryd.prog L49 := ⟨fun _ hC H => WA hC (zH H 23 rfl) (zH H 21 rfl) (zH H 19 rfl) (zH H 18 rfl) (zH H 15 rfl) (zH H 0 rfl), yS (by kernel_rfl), zcC⟩
theorem zcA : zI Tryd.prog L50 := ⟨fun _ hC H => jO hC, yS (by kernel_rfl), zcB⟩
theorem zcz : zI Tryd.prog L51 := ⟨fun _ hC H => jP hC, yS (by kernel_rfl), zcA⟩
theorem zcy : zI Tryd.prog L52 := ⟨fun _ hC H => Za hC (zH H 1 rfl) (zH H 0 rfl), yS (by kernel_rfl), zcz⟩
theorem zcx : zI Tryd.prog L53 := ⟨fun _ hC H => Wz hC (zH H 27 rfl) (zH H 19 rfl) (zH H 25 rfl) (zH H 26 rfl) (zH H 0 rfl) (zH H 23 rfl) (zH H 22 rfl), yS (by kernel_rfl), zcy⟩
theorem zcw : zI Tryd.prog L54 := ⟨fun _ hC H => ZL hC, yS (by kernel_rfl), zcx⟩
theorem zcv : zI Tryd.prog L55 := ⟨fun _ hC H => jQ hC (zH H 0 rfl), yS (by kernel_rfl), zcw⟩
theorem zcu : zI Tryd.prog L56 := ⟨fun _ hC H => Y7 hC (zH H 0 rfl), yS (by kernel_rfl), zcv⟩
theorem zct : zI Tryd.prog L57 := ⟨fun _ hC H => Jf hC (zH H 0 rfl), yS (by kernel_rfl), zcu⟩
theorem zcs : zI Tryd.prog L58 := ⟨fun _ hC H => Ua hC (zH H 0 rfl), yS (by kernel_rfl), zct⟩
theorem zcr : zI Tryd.prog L59 := ⟨fun _ hC H => z04 hC (zH H 56 rfl), yS (by kernel_rfl), zcs⟩
theorem zcq : zI Tryd.prog L60 := ⟨fun _ hC H => Kb hC (zH H 19 rfl) (zH H 25 rfl) (zH H 16 rfl) (zH H 10 rfl) (zH H 6 rfl) (zH H 1 rfl) (zH H 0 rfl), yS (by kernel_rfl), zcr⟩
theorem zcp : zI Tryd.prog L61 := ⟨fun _ hC H => X9 hC (zH H 55 rfl) (zH H 26 rfl) (zH H 21 rfl) (zH H 56 rfl) (zH H 0 rfl), yS (by kernel_rfl), zcq⟩
theorem wY {x : Int} (h1 : -9223372036854775808 ≤ x) (h2 : x ≤ 9223372036854775807) : w64 x = x := by
 simp only [w64, IntKind.wrap, IntKind.bits, IntKind.signed]
 simp
 omega
variable {k : Nat}
section
variable {α β σ τ ρ : Type}
def Ret (x : Option α) (Q : α → Prop) : Prop := ∃ a, x = some a ∧ Q a
theorem Ret.mono {x : Option α} {Q R : α → Prop} (h : Ret x Q) (q : ∀ a, Q a → R a) : Ret x R := by
 obtain ⟨a, e, h⟩ := h
 exact ⟨a, e, q a h⟩
theorem Ret.eq {x : Option α} {a : α} (h : Ret x fun b => b = a) : x = some a := by
 obtain ⟨b, e, rfl⟩ := h
 exact e
theorem zW {a : α} {Q : α → Prop} : Ret (some a) Q ↔ Q a := ⟨fun ⟨b, e, q⟩ => by cases e; exact q, fun q => ⟨a, rfl, q⟩⟩
theorem vO {x : Option α} {f : α → Option β} {Q : β → Prop} : Ret (Option.bind x f) Q ↔ Ret x fun a => Ret (f a) Q := by
 cases x with
 | none => exact ⟨fun ⟨b, e, _⟩ => (by cases e), fun ⟨b, e, _⟩ => (by cases e)⟩
 | some a => exact ⟨fun h => ⟨a, rfl, h⟩, fun ⟨b, e, h⟩ => by cases e; exact h⟩
theorem z2a {p : Prop} [Decidable p] {x : Option α} {Q : α → Prop} : Ret (gd p x) Q ↔ p ∧ Ret x Q := by
 unfold gd
 by_cases h : p
 ·rw [if_pos h]; exact ⟨fun q => ⟨h, q⟩, fun q => q.2⟩
 ·rw [if_neg h]; exact ⟨fun ⟨b, e, _⟩ => by (cases e), fun q => (h q.1).elim⟩
theorem vo {c : Bool} {x y : Option α} {Q : α → Prop} : Ret (bif c then x else y) Q ↔ (c = true → Ret x Q) ∧ (c = false → Ret y Q) := by
 cases c <;> simp
theorem z9j {l : List α} {i : Int} {Q : α → Prop} : Ret (idx l i) Q ↔ 0 ≤ i ∧ ∃ x, l[i.toNat]? = some x ∧ Q x := by
 cases i with
 | ofNat n =>
  show (∃ a, l[n]? = some a ∧ Q a) ↔ _
  simp
 | negSucc n => exact ⟨fun ⟨b, e, _⟩ => by (cases e), fun ⟨h, _⟩ => by omega⟩
theorem wR (l : List α) (i : Nat) : idx l (i : Int) = l[i]? := rfl
theorem gdT {p : Prop} [Decidable p] {x : Option α} (h : p) : gd p x = x := by unfold gd; rw [if_pos h]
theorem bdT {x : Option α} {u : α} {f : α → Option ρ} (h : x = some u) : Option.bind x f = f u := by rw [h]; rfl
theorem ZQ (step : σ → Option (LR σ τ)) (n : Nat) (s : σ) : W9 step (n + 1) s = (match step s with | none => none | some (.next s') => W9 step n s' | some (.done t) => some t) := rfl
def LRP (N : σ → Prop) (D : τ → Prop) : LR σ τ → Prop
 | .next s => N s
 | .done t => D t
theorem uZ {step : σ → Option (LR σ τ)} (I : σ → Prop) (m : σ → Nat) {R : τ → Prop} {s : σ} (hs : I s) (hm : m s < 18446744073709551616)
  (h : ∀ s, I s → Ret (step s) (LRP (fun s' => I s' ∧ m s' < m s) R)) : Ret (loop step s) R := by
 have gen : ∀ (n : Nat) (s : σ), I s → m s < n → Ret (W9 step n s) R := by
  intro n
  induction n with
  | zero => intro s _ h; omega
  | succ n ih =>
   intro s hs hm
   obtain ⟨a, e, q⟩ := h s hs
   rw [ZQ, e]
   cases a with
   | next s' => exact ih s' q.1 (by have := q.2; omega)
   | done t => exact ⟨t, rfl, q⟩
 exact gen fuel s hs hm
theorem Kz {step : σ → Option (LR σ τ)} (st : Nat → σ) (n : Nat) {t : τ} (hn : n < 9223372036854775808) (h : ∀ i, i < n → step (st i) = some (.next (st (i + 1)))) (hd : step (st n) = some (.done t)) : loop step (st 0) = some t := by
 have gen : ∀ (k : Nat) (i : Nat), i ≤ n → n - i < k → W9 step k (st i) = some t := by
  intro k
  induction k with
  | zero => intro i _ h; omega
  | succ k ih =>
   intro i hi hk
   rw [ZQ]
   rcases Nat.lt_or_ge i n with q | q
   ·rw [h i q]
    exact ih (i + 1) q (by omega)
   ·have : i = n := by omega
    subst this
    rw [hd]
 exact gen fuel 0 (Nat.zero_le _) (by show n - 0 < 18446744073709551616; omega)
def xq (f : Nat → α → Option ρ) : List α → Nat → Option ρ
 | [], _ => none
 | x :: l, i => match f i x with | some r => some r | none => xq f l (i + 1)
theorem We {f : Nat → α → Option ρ} : ∀ {l : List α} {k : Nat}, (∀ i x, l[i]? = some x → f (k + i) x = none) → xq f l k = none
 | [], _, _ => rfl
 | x :: l, k, h => by
  have h0 := h 0 x rfl
  simp only [Nat.add_zero] at h0
  simp only [xq, h0]
  exact We fun i y hy => by have := h (i + 1) y (by simpa using hy); rwa [show k + 1 + i = k + (i + 1) by omega]
theorem kJ {f : Nat → α → Option ρ} {r : ρ} : ∀ {l : List α} {k : Nat}, xq f l k = some r → ∃ i x, l[i]? = some x ∧ f (k + i) x = some r
 | [], _, h => by cases h
 | x :: l, k, h => by
  simp only [xq] at h
  cases hf : f k x with
  | some r' => rw [hf] at h; exact ⟨0, x, rfl, by rw [Nat.add_zero, hf]; exact h⟩
  | none =>
   rw [hf] at h
   obtain ⟨i, y, h1, h2⟩ := kJ h
   exact ⟨i + 1, y, by simpa using h1, by rw [← h2]; congr 1; omega⟩
theorem Yr {f : Nat → α → Option ρ} {l : List α}  (h : xq f l k = none) : ∀ i x, l[i]? = some x → f (k + i) x = none := by
 induction l generalizing k with
 | nil => intro i x h; simp at h
 | cons y l ih =>
  intro i x hx
  simp only [xq] at h
  cases hf : f k y with
  | some r' => rw [hf] at h; cases h
  | none =>
   rw [hf] at h
   cases i with
   | zero => simp at hx; subst hx; simpa using hf
   | succ i => have := ih h i x (by simpa using hx); rwa [show k + (i + 1) = k + 1 + i by omega]
def oS : Option ρ → Unit ⊕ ρ
 | some r => .inr r
 | none => .inl ()
def nS (i : Nat) : Option ρ → LR Int (Unit ⊕ ρ)
 | some r => .done (.inr r)
 | none => .next (w64 ((i : Int) + 1))
theorem kG (l : List α) (hl : l.length < 4611686018427387904) {step : Int → Option (LR Int (Unit ⊕ ρ))} (f : Nat → α → Option ρ)
  (h : ∀ (i : Nat) (x : α), l[i]? = some x → step (i : Int) = some (nS i (f i x))) (h2 : step (l.length : Int) = some (.done (.inl ()))) :
  loop step 0 = some (oS (xq f l 0)) := by
 have gen : ∀ (n : Nat) (k : Nat), k ≤ l.length → l.length - k < n → W9 step n (k : Int) = some (oS (xq f (l.drop k) k)) := by
  intro n
  induction n with
  | zero => intro k _ h; omega
  | succ n ih =>
   intro k hk hn
   rw [ZQ]
   rcases Nat.lt_or_ge k l.length with hlt | hge
   ·have hx : l[k]? = some l[k] := List.getElem?_eq_getElem hlt
    rw [h k _ hx, List.drop_eq_getElem_cons hlt]
    simp only [xq]
    cases hf : f k l[k] with
    | some r => rfl
    | none =>
     simp only [nS]
     rw [wY (by omega) (by omega)]
     exact ih (k + 1) hlt (by omega)
   ·have : k = l.length := by omega
    subst this
    rw [h2, List.drop_length]
    rfl
 exact gen fuel 0 (Nat.zero_le _) (by show l.length - 0 < 18446744073709551616; omega)
end
section
variable {S : Type}
def rv (k : Nat) : List Nat → Nat
 | [] => 0
 | i :: u => rv k u * k + i + 1
def z5G (k : Nat) (bad : S → Nat → Bool) (nx : S → Nat → Option S) (p0 : S) : List Nat → S → Prop
 | [], q => q = p0
 | i :: u, q => ∃ p, z5G k bad nx p0 u p ∧ i < k ∧ bad p i = false ∧ nx p i = some q
structure Bfs (k : Nat) (bad : S → Nat → Bool) (nx : S → Nat → Option S) (p0 : S) (L : List (S × List Nat)) (at_ i : Nat) : Prop where
 first : L[0]? = some (p0, [])
 mono : ∀ (j j' : Nat) (a b : S × List Nat), j < j' → L[j]? = some a → L[j']? = some b → rv k a.2 < rv k b.2
 path : ∀ a ∈ L, z5G k bad nx p0 a.2 a.1
 ahead : ∀ a c, L[at_]? = some c → a ∈ L → rv k a.2 < rv k c.2 * k + i + 1
 pos : i ≤ k
 lies : at_ ≤ L.length
 fin : at_ = L.length → i = 0
 short : ∀ (j : Nat) (a : S × List Nat), L[j]? = some a → a.2.length ≤ j
 seen : ∀ (j x : Nat) (a : S × List Nat), L[j]? = some a → x < k → (j < at_ ∨ j = at_ ∧ x < i) → bad a.1 x = false ∧ ∀ q, nx a.1 x = some q → ∃ b ∈ L, b.1 = q ∧ rv k b.2 ≤ rv k a.2 * k + x + 1
variable {k : Nat} {bad : S → Nat → Bool} {nx : S → Nat → Option S} {p0 : S}
theorem Bfs.start : Bfs k bad nx p0 [(p0, [])] 0 0 := {
 first := rfl
 mono := by
  intro j j' a b h h1 h2
  have := (List.getElem?_eq_some_iff.1 h2).1
  simp at this
  omega
 path := by intro a ha; simp at ha; subst ha; rfl
 ahead := by intro a c _ ha; simp at ha; subst ha; simp [rv]
 pos := Nat.zero_le _
 lies := by simp
 fin := by intro; rfl
 short := by
  intro j a h
  have := (List.getElem?_eq_some_iff.1 h).1
  simp at this
  subst this
  simp at h
  subst h
  simp
 seen := by rintro j x a h _ (q | ⟨_, q⟩) <;> omega }
theorem Bfs.old {L : List (S × List Nat)} {a i : Nat} (h : Bfs k bad nx p0 L a i) {c : S × List Nat} (hc : L[a]? = some c) (hi : i < k) (hb : bad c.1 i = false)
  (hn : ∀ q, nx c.1 i = some q → ∃ b ∈ L, b.1 = q) : Bfs k bad nx p0 L a (i + 1) := {
 first := h.first
 mono := h.mono
 path := h.path
 ahead := fun x y hy hx => by have := h.ahead x y hy hx; omega
 pos := hi
 lies := h.lies
 fin := fun e => by have := (List.getElem?_eq_some_iff.1 hc).1; omega
 short := h.short
 seen := by
  intro j x y hy hx q
  by_cases e : j = a ∧ x = i
  ·obtain ⟨rfl, rfl⟩ := e
   rw [hc] at hy
   cases hy
   refine ⟨hb, fun q hq => ?_⟩
   obtain ⟨b, h1, h2⟩ := hn q hq
   exact ⟨b, h1, h2, by have := h.ahead b c hc h1; omega⟩
  ·exact h.seen j x y hy hx (by omega) }
theorem Bfs.new {L : List (S × List Nat)} {a i : Nat} (h : Bfs k bad nx p0 L a i) {c : S × List Nat} (hc : L[a]? = some c) (hi : i < k) (hb : bad c.1 i = false) {q : S}
  (hn : nx c.1 i = some q) : Bfs k bad nx p0 (L ++ [(q, i :: c.2)]) a (i + 1) := by
 have hlt := (List.getElem?_eq_some_iff.1 hc).1
 refine ⟨?_, ?_, ?_, ?_, hi, by simp; omega, fun e => by simp at e; omega, ?_, ?_⟩
 ·rw [List.getElem?_append_left (by omega)]; exact h.first
 ·intro j j' x y hj h1 h2
  have hl := (List.getElem?_eq_some_iff.1 h2).1
  simp at hl
  rw [List.getElem?_append_left (by omega)] at h1
  rcases Nat.lt_or_ge j' L.length with g | g
  ·rw [List.getElem?_append_left g] at h2
   exact h.mono j j' x y hj h1 h2
  ·have : j' = L.length := by omega
   subst this
   simp at h2
   subst h2
   exact h.ahead x c hc (List.mem_of_getElem? h1)
 ·intro x hx
  rcases List.mem_append.1 hx with g | g
  ·exact h.path x g
  ·simp at g
   subst g
   exact ⟨c.1, h.path c (List.mem_of_getElem? hc), hi, hb, hn⟩
 ·intro x y hy hx
  rw [List.getElem?_append_left hlt] at hy
  rcases List.mem_append.1 hx with g | g
  ·have := h.ahead x y hy g; omega
  ·simp at g
   subst g
   rw [hc] at hy
   cases hy
   simp [rv]
 ·intro j y hy
  rcases Nat.lt_or_ge j L.length with g | g
  ·rw [List.getElem?_append_left g] at hy
   exact h.short j y hy
  ·have hl := (List.getElem?_eq_some_iff.1 hy).1
   simp at hl
   have : j = L.length := by omega
   subst this
   simp at hy
   subst hy
   have := h.short a c hc
   simp
   omega
 ·intro j x y hy hx g
  rw [List.getElem?_append_left (by omega)] at hy
  by_cases e : j = a ∧ x = i
  ·obtain ⟨rfl, rfl⟩ := e
   rw [hc] at hy
   cases hy
   refine ⟨hb, fun q' hq => ?_⟩
   rw [hn] at hq
   cases hq
   exact ⟨(q, x :: c.2), by simp, rfl, Nat.le_refl _⟩
  ·obtain ⟨h1, h2⟩ := h.seen j x y hy hx (by omega)
   refine ⟨h1, fun q' hq => ?_⟩
   obtain ⟨b, g1, g2⟩ := h2 q' hq
   exact ⟨b, List.mem_append_left _ g1, g2⟩
theorem Bfs.step {L : List (S × List Nat)} {a : Nat} (h : Bfs k bad nx p0 L a k) (ha : a < L.length) : Bfs k bad nx p0 L (a + 1) 0 := {
 first := h.first
 mono := h.mono
 path := h.path
 ahead := by
  intro x c hc hx
  have h1 := h.ahead x _ (List.getElem?_eq_getElem ha) hx
  have h2 := h.mono a (a + 1) _ _ (by omega) (List.getElem?_eq_getElem ha) hc
  have h3 : (rv k L[a].2 + 1) * k ≤ rv k c.2 * k := Nat.mul_le_mul_right _ h2
  rw [Nat.succ_mul] at h3
  omega
 pos := Nat.zero_le _
 lies := ha
 fin := fun _ => rfl
 short := h.short
 seen := fun j x b hb hx g => h.seen j x b hb hx (by rcases g with g | ⟨_, g⟩ <;> omega) }
theorem Bfs.reach {L : List (S × List Nat)} {a i : Nat} (h : Bfs k bad nx p0 L a i) : ∀ (u : List Nat) (q : S), z5G k bad nx p0 u q → (∀ c, L[a]? = some c → rv k u < rv k c.2 * k + i + 1) → ∃ (j : Nat) (b : S × List Nat), L[j]? = some b ∧ b.1 = q ∧ rv k b.2 ≤ rv k u
 | [], q, hp, _ => ⟨0, _, h.first, hp.symm, Nat.zero_le _⟩
 | x :: u, q, ⟨p, hp, hx, hb, hn⟩, hlt => by
  have hk : rv k u ≤ rv k u * k := Nat.le_mul_of_pos_right _ (by omega)
  obtain ⟨j, b, hj, rfl, hr⟩ := h.reach u p hp fun c hc => by have := hlt c hc; simp only [rv] at this; omega
  have hmul : rv k b.2 * k ≤ rv k u * k := Nat.mul_le_mul_right _ hr
  have hjl := (List.getElem?_eq_some_iff.1 hj).1
  have hpos : j < a ∨ j = a ∧ x < i := by
   rcases Nat.lt_trichotomy j a with g | g | g
   ·exact .inl g
   ·subst g
    refine .inr ⟨rfl, ?_⟩
    have := hlt b hj
    simp only [rv] at this
    omega
   ·exfalso
    have hal : a < L.length := by omega
    have h1 := hlt _ (List.getElem?_eq_getElem hal)
    have h2 := h.mono a j _ _ g (List.getElem?_eq_getElem hal) hj
    have h3 : (rv k L[a].2 + 1) * k ≤ rv k b.2 * k := Nat.mul_le_mul_right _ h2
    rw [Nat.succ_mul] at h3
    have := h.pos
    simp only [rv] at h1
    omega
  obtain ⟨_, h2⟩ := h.seen j x b hj hx hpos
  obtain ⟨c, g1, g2, g3⟩ := h2 q hn
  obtain ⟨j', g4⟩ := List.getElem?_of_mem g1
  exact ⟨j', c, g4, g2, by simp only [rv]; omega⟩
end
def z1B (m : z7) (x : zc) : Bool := (x.To == -1 && x.Out == -1) || (decide (0 ≤ x.To) && decide (x.To < (m.Rows.length : Int)) && decide (0 ≤ x.Out) && decide (x.Out < m.Outputs))
def z38 (m : z7) (r : List zc) : Bool := decide ((r.length : Int) = m.Inputs) && r.all (z1B m)
def chk (m : z7) : Int :=
 if m.Inputs > 16 ∨ m.Outputs > 16 ∨ (m.Rows.length : Int) > 64 then 3 else if m.Inputs < 1 ∨ m.Outputs < 1 ∨ m.Rows.length = 0 then 1 else if m.Rows.all (z38 m) = true then 0 else 1
theorem z9O (m : z7) (x : zc) : qe m x = some (z1B m x) := by
 unfold qe jV
 simp only [Option.bind_some, Bool.and_true]
 rcases Bool.eq_false_or_eq_true (x.To == (-1) && x.Out == (-1)) with h | h
 ·simp [z1B, h]
 ·rw [h]
  simp only [z1B, h, Bool.false_or, cond_false]
  by_cases h1 : (0 : Int) ≤ x.To
  ·by_cases h2 : x.To < (m.Rows.length : Int)
   ·by_cases h3 : (0 : Int) ≤ x.Out
    ·simp [Bool.cond_eq_ite, h1, h2, h3]
    ·simp [Bool.cond_eq_ite, h1, h2, h3]
   ·simp [Bool.cond_eq_ite, h1, h2]
  ·simp [h1]
theorem z1G (m : z7) (r : List zc) (hl : r.length < 4611686018427387904) : zU r m = some (!r.all (z1B m)) := by
 have hloop : loop (fun s => zM r m s) 0 = some (oS (xq (fun i x => if z1B m x = true then none else some (i : Int)) r 0)) := by
  refine kG r hl _ ?_ ?_
  ·intro i x hx
   have hi := (List.getElem?_eq_some_iff.1 hx).1
   unfold zM
   have hd : decide ((i : Int) < ((r.length : Nat) : Int)) = true := by simpa using hi
   rw [hd, cond_true, wR, bdT hx]
   unfold uu
   simp only [z9O, Option.bind_some]
   cases z1B m x <;> rfl
  ·unfold zM
   simp
 unfold zU ye
 rw [hloop]
 simp only [Option.bind_some]
 cases hf : xq (fun i x => if z1B m x = true then none else some (i : Int)) r 0 with
 | some q =>
  obtain ⟨i, x, h1, h2⟩ := kJ hf
  have hx : z1B m x ≠ true := by
   intro h; rw [if_pos h] at h2; cases h2
  rw [if_neg hx] at h2
  simp only [Option.some.injEq] at h2
  have : r.all (z1B m) = false := by
   rw [List.all_eq_false]
   exact ⟨x, List.mem_of_getElem? h1, hx⟩
  rw [this]
  have : (q : Int) ≥ 0 := by rw [← h2]; omega
  show some (decide (q ≥ 0)) = _
  simp [this]
 | none =>
  have : r.all (z1B m) = true := by
   rw [List.all_eq_true]
   intro x hx
   obtain ⟨i, hi⟩ := List.getElem?_of_mem hx
   have := Yr hf i x hi
   by_cases h : z1B m x = true
   ·exact h
   ·rw [if_neg h] at this; cases this
  rw [this]
  rfl
variable {m : z7}
theorem z3k (h0 : (m.Rows.length : Int) ≤ 64) (h1 : m.Inputs ≤ 16) : loop (fun s => w6 m s) 0 = some (oS (xq (fun _ r => if z38 m r = true then none else some (1 : Int)) m.Rows 0)) := by
 refine kG m.Rows (by omega) _ ?_ ?_
 ·intro i r hr
  have hi := (List.getElem?_eq_some_iff.1 hr).1
  unfold w6
  have hd : decide ((i : Int) < ((m.Rows.length : Nat) : Int)) = true := by simpa using hi
  rw [hd, cond_true, wR, bdT hr]
  by_cases hlen : (r.length : Int) = m.Inputs
  ·have hne : (((r.length : Nat) : Int) != m.Inputs) = false := by simpa using hlen
   rw [hne, cond_false, bdT (z1G m r (by omega))]
   have : z38 m r = r.all (z1B m) := by simp [z38, hlen]
   rw [this]
   cases r.all (z1B m) <;> rfl
  ·have hne : (((r.length : Nat) : Int) != m.Inputs) = true := by simpa using hlen
   rw [hne, cond_true]
   have : z38 m r = false := by simp [z38, hlen]
   rw [this]; rfl
 ·unfold w6
  simp
theorem z37 (m : z7) : xq (fun _ r => if z38 m r = true then none else some (1 : Int)) m.Rows 0 = if m.Rows.all (z38 m) = true then none else some 1 := by
 by_cases h : m.Rows.all (z38 m) = true
 ·rw [if_pos h]
  refine We fun i r hr => ?_
  rw [if_pos (List.all_eq_true.1 h r (List.mem_of_getElem? hr))]
 ·rw [if_neg h]
  cases hf : xq (fun _ r => if z38 m r = true then none else some (1 : Int)) m.Rows 0 with
  | some q =>
   obtain ⟨i, x, h1, h2⟩ := kJ hf
   split at h2
   ·cases h2
   ·exact h2.symm ▸ rfl
  | none =>
   exfalso
   apply h
   rw [List.all_eq_true]
   intro x hx
   obtain ⟨i, hi⟩ := List.getElem?_of_mem hx
   have := Yr hf i x hi
   by_cases h : z38 m x = true
   ·exact h
   ·rw [if_neg h] at this; cases this
theorem z2R (m : z7) : vG m = some (chk m) := by
 unfold vG chk
 by_cases h1 : m.Inputs > 16
 ·simp [h1]
 by_cases h2 : m.Outputs > 16
 ·simp [Bool.cond_eq_ite, h1, h2]
 by_cases h3 : (m.Rows.length : Int) > 64
 ·simp [Bool.cond_eq_ite, h1, h2, h3]
 rw [if_neg (by simp [Bool.cond_eq_ite, h1, h2, h3])]
 by_cases h4 : m.Inputs < 1
 ·simp [Bool.cond_eq_ite, h1, h2, h3, h4]
 by_cases h5 : m.Outputs < 1
 ·simp [Bool.cond_eq_ite, h1, h2, h3, h4, h5]
 by_cases h6 : m.Rows.length = 0
 ·simp [Bool.cond_eq_ite, h1, h2, h4, h5, h6]
 rw [if_neg (by simp [h4, h5, h6])]
 have h6' : decide (((m.Rows.length : Nat) : Int) < 1) = false := by simp; omega
 have e1 : decide (m.Inputs > 16) = false := by simpa using h1
 have e2 : decide (m.Outputs > 16) = false := by simpa using h2
 have e3 : decide (((m.Rows.length : Nat) : Int) > 64) = false := by simpa using h3
 have e4 : decide (m.Inputs < 1) = false := by simpa using h4
 have e5 : decide (m.Outputs < 1) = false := by simpa using h5
 simp only [e1, e2, e3, e4, e5, h6', cond_false]
 rw [bdT (z3k (by omega) (by omega)), z37]
 by_cases h : m.Rows.all (z38 m) = true
 ·rw [if_pos h, if_pos h]; rfl
 ·rw [if_neg h, if_neg h]; rfl
structure VM (m : z7) : Prop where
 in1 : 1 ≤ m.Inputs
 in16 : m.Inputs ≤ 16
 out1 : 1 ≤ m.Outputs
 out16 : m.Outputs ≤ 16
 len1 : 1 ≤ m.Rows.length
 len64 : m.Rows.length ≤ 64
 row : ∀ r ∈ m.Rows, (r.length : Int) = m.Inputs
 edge : ∀ r ∈ m.Rows, ∀ x ∈ r, (x.To = -1 ∧ x.Out = -1) ∨ (0 ≤ x.To ∧ x.To < (m.Rows.length : Int) ∧ 0 ≤ x.Out ∧ x.Out < m.Outputs)
theorem z87 (h : VM m) : chk m = 0 := by
 unfold chk
 have := h.in1; have := h.in16; have := h.out1; have := h.out16; have := h.len1; have := h.len64
 rw [if_neg (by omega), if_neg (by omega), if_pos]
 rw [List.all_eq_true]
 intro r hr
 simp only [z38, Bool.and_eq_true, decide_eq_true_eq, List.all_eq_true]
 refine ⟨h.row r hr, fun x hx => ?_⟩
 simp only [z1B, Bool.or_eq_true, Bool.and_eq_true, beq_iff_eq, decide_eq_true_eq]
 rcases h.edge r hr x hx with ⟨a, b⟩ | ⟨a, b, c, d⟩
 ·exact .inl ⟨a, b⟩
 ·exact .inr ⟨⟨⟨a, b⟩, c⟩, d⟩
def kk (m : z7) : Nat := m.Inputs.toNat
def E (m : z7) (s i : Nat) : zc := ((m.Rows[s]?.getD [])[i]?).getD ⟨-1, -1⟩
section
variable {m : z7} (h : VM m)
include h
theorem VM.kk_eq : ((kk m : Nat) : Int) = m.Inputs := by have := h.in1; unfold kk; omega
theorem VM.kk_pos : 1 ≤ kk m := by have := h.in1; unfold kk; omega
theorem VM.kk_le : kk m ≤ 16 := by have := h.in16; unfold kk; omega
theorem VM.rowAt {s : Nat} (hs : s < m.Rows.length) : ∃ r, m.Rows[s]? = some r ∧ r.length = kk m ∧ ∀ i, i < kk m → r[i]? = some (E m s i) := by
 have hr := List.getElem?_eq_getElem hs
 have hl := h.row _ (List.getElem_mem hs)
 have hl' : m.Rows[s].length = kk m := by unfold kk; omega
 refine ⟨_, hr, hl', fun i hi => ?_⟩
 have hi' : i < m.Rows[s].length := by omega
 unfold E
 rw [hr]
 simp only [Option.getD_some]
 rw [List.getElem?_eq_getElem hi']
 rfl
theorem VM.edgeAt {s i : Nat} (hs : s < m.Rows.length) (hi : i < kk m) : ((E m s i).To = -1 ∧ (E m s i).Out = -1) ∨ (0 ≤ (E m s i).To ∧ (E m s i).To < (m.Rows.length : Int) ∧ 0 ≤ (E m s i).Out ∧ (E m s i).Out < m.Outputs) := by
 obtain ⟨r, h1, _, h2⟩ := h.rowAt hs
 exact h.edge r (List.mem_of_getElem? h1) _ (List.mem_of_getElem? (h2 i hi))
theorem VM.edge_eq {s i : Nat} (hs : s < m.Rows.length) (hi : i < kk m) {β : Type} {f : zc → Option β} :
  (Option.bind (idx m.Rows (s : Int)) fun r => Option.bind (idx r (i : Int)) f) = f (E m s i) := by
 obtain ⟨r, h1, _, h2⟩ := h.rowAt hs
 rw [wR, h1, Option.bind_some, wR, h2 i hi, Option.bind_some]
end
theorem W6 : ∀ (n : Nat) (l : List Nat), l.Nodup → (∀ x ∈ l, x < n) → l.length ≤ n
 | 0, l, _, h => by
  cases l with
  | nil => simp
  | cons x l => have := h x (by simp); omega
 | n + 1, l, hd, h => by
  by_cases hm : n ∈ l
  ·have h1 := List.length_erase_of_mem hm
   have h2 := W6 n (l.erase n) (hd.erase n) fun x hx => by
    have h3 := (hd.mem_erase_iff).1 hx
    have := h x h3.2
    have := h3.1
    omega
   have : 0 < l.length := List.length_pos_of_mem hm
   omega
  ·have := W6 n l hd fun x hx => by
    have := h x hx
    have : x ≠ n := fun e => hm (e ▸ hx)
    omega
   omega
structure WM (m : z7) : Prop where
 in1 : 1 ≤ m.Inputs
 in16 : m.Inputs ≤ 16
 len1 : 1 ≤ m.Rows.length
 len : m.Rows.length ≤ 128
 row : ∀ r ∈ m.Rows, (r.length : Int) = m.Inputs
 edge : ∀ r ∈ m.Rows, ∀ x ∈ r, (x.To = -1 ∧ x.Out = -1) ∨ (0 ≤ x.To ∧ x.To < (m.Rows.length : Int) ∧ 0 ≤ x.Out)
theorem z1q {a k : Int} (h0 : 0 ≤ a) (hk : 1 ≤ k) (hk2 : k ≤ 1000000) : 1 ≤ w64 (1 + w64 (Int.tmod a k)) ∧ w64 (1 + w64 (Int.tmod a k)) ≤ k := by
 have h1 := Int.tmod_nonneg k h0
 have h2 := Int.tmod_lt_of_pos a (show 0 < k by omega)
 rw [wY (x := Int.tmod a k) (by omega) (by omega), wY (by omega) (by omega)]
 omega
structure MOk (x : yd) : Prop where
 s0 : 0 ≤ x.States
 i0 : 0 ≤ x.Inputs
 o0 : 0 ≤ x.Outputs
 e0 : ∀ v ∈ x.Edges, 0 ≤ v ∧ v ≤ 65535
theorem zdA {x : yd} {n o : Int} (hn : n = w64 (1 + w64 (Int.tmod x.States 6))) (ho : o = w64 (1 + w64 (Int.tmod x.Outputs 3))) (n1 : 1 ≤ n) (n2 : n ≤ 6) (o1 : 1 ≤ o) (o2 : o ≤ 3) (row : List zc) (i v : Int) (hl : row.length ≤ 1000) (v0 : 0 ≤ v) (v1 : v ≤ 65535) :
  ∃ e : zc, vt x row i v = some (.next (row ++ [e], w64 (i + 1))) ∧ ((e.To = -1 ∧ e.Out = -1) ∨ (0 ≤ e.To ∧ e.To < n ∧ 0 ≤ e.Out ∧ e.Out < o)) := by
 have hv4 : Int.tdiv v 4 = v / 4 := Int.tdiv_eq_ediv_of_nonneg v0
 have w4 : w64 (Int.tdiv v 4) = v / 4 := by rw [hv4]; exact wY (by omega) (by omega)
 have d0 : 0 ≤ v / 4 := by omega
 have hd : Int.tdiv (v / 4) n = v / 4 / n := Int.tdiv_eq_ediv_of_nonneg d0
 have d1 : 0 ≤ v / 4 / n := Int.ediv_nonneg d0 (by omega)
 have d2 : v / 4 / n ≤ v / 4 := Int.ediv_le_self _ d0
 have w5 : w64 (Int.tdiv (v / 4) n) = v / 4 / n := by rw [hd]; exact wY (by omega) (by omega)
 have fit : (0 : Int) ≤ Int.tmod (v / 4) n ∧ Int.tmod (v / 4) n < n ∧ 0 ≤ Int.tmod (v / 4 / n) o ∧ Int.tmod (v / 4 / n) o < o :=
  ⟨Int.tmod_nonneg _ d0, Int.tmod_lt_of_pos _ (by omega), Int.tmod_nonneg _ d1, Int.tmod_lt_of_pos _ (by omega)⟩
 unfold vt
 rw [← hn, ← ho, w4, w5]
 have g4 : (4 : Int) ≠ 0 := by decide
 have gn : (n : Int) ≠ 0 := by omega
 have go : (o : Int) ≠ 0 := by omega
 have gl : ∀ e : zc, row.length + ([e] : List zc).length ≤ 4294967296 := fun e => by simp; omega
 simp only [gdT g4, gdT gn, gdT go, gdT (gl _)]
 cases x.Partial
 ·exact ⟨_, rfl, .inr fit⟩
 ·cases hc : (Int.tmod v 4 == 3)
  ·exact ⟨_, rfl, .inr fit⟩
  ·exact ⟨_, rfl, .inl ⟨rfl, rfl⟩⟩
theorem zbm {x : yd} (h : MOk x) : Ret (ZU x) fun m => VM m ∧ m.Inputs = w64 (1 + w64 (Int.tmod x.Inputs 3)) ∧ m.Inputs ≤ 3 ∧ m.Outputs ≤ 3 ∧ m.Rows.length ≤ 6 := by
 have hn' := z1q h.s0 (k := 6) (by omega) (by omega)
 have hi' := z1q h.i0 (k := 3) (by omega) (by omega)
 have ho' := z1q h.o0 (k := 3) (by omega) (by omega)
 obtain ⟨n, hn⟩ : ∃ n, n = w64 (1 + w64 (Int.tmod x.States 6)) := ⟨_, rfl⟩
 obtain ⟨k, hk⟩ : ∃ n, n = w64 (1 + w64 (Int.tmod x.Inputs 3)) := ⟨_, rfl⟩
 obtain ⟨o, ho⟩ : ∃ n, n = w64 (1 + w64 (Int.tmod x.Outputs 3)) := ⟨_, rfl⟩
 rw [← hn] at hn'
 rw [← hk] at hi'
 rw [← ho] at ho'
 have inner : ∀ s : Int, 0 ≤ s → s < n → Ret (loop (fun st => qg x s st.1 st.2) (([] : List zc), 0)) (fun r => (r.length : Int) = k ∧ ∀ e ∈ r, (e.To = -1 ∧ e.Out = -1) ∨ (0 ≤ e.To ∧ e.To < n ∧ 0 ≤ e.Out ∧ e.Out < o)) := by
  intro s s0 s1
  refine uZ (fun st => (st.1.length : Int) = st.2 ∧ st.2 ≤ k ∧ ∀ e ∈ st.1, (e.To = -1 ∧ e.Out = -1) ∨ (0 ≤ e.To ∧ e.To < n ∧ 0 ≤ e.Out ∧ e.Out < o)) (fun st => 10 - st.2.toNat) ⟨by simp, by omega, by simp⟩ (by simp) ?_
  rintro ⟨row, i⟩ ⟨h1, h2, h3⟩
  simp only at h1 h2 h3
  unfold qg
  rw [← hk, vo]
  have hsk : s * k ≤ 5 * k := Int.mul_le_mul_of_nonneg_right (by omega) (by omega)
  have hsk0 : 0 ≤ s * k := Int.mul_nonneg s0 (by omega)
  have w1 : w64 (s * k) = s * k := wY (by omega) (by omega)
  have w2 : w64 (s * k + i) = s * k + i := wY (by omega) (by omega)
  rw [w1, w2]
  refine ⟨fun hlt => ?_, fun hge => ?_⟩
  ·have hlt : i < k := of_decide_eq_true hlt
   have hw : w64 (i + 1) = i + 1 := wY (by omega) (by omega)
   have fin : ∀ v : Int, 0 ≤ v → v ≤ 65535 → Ret (vt x row i v) (LRP (fun s' => (((s'.1.length : Nat) : Int) = s'.2 ∧ s'.2 ≤ k ∧ ∀ e ∈ s'.1, (e.To = -1 ∧ e.Out = -1) ∨ (0 ≤ e.To ∧ e.To < n ∧ 0 ≤ e.Out ∧ e.Out < o)) ∧ 10 - s'.2.toNat < 10 - i.toNat) (fun r => (r.length : Int) = k ∧ ∀ e ∈ r, (e.To = -1 ∧ e.Out = -1) ∨ (0 ≤ e.To ∧ e.To < n ∧ 0 ≤ e.Out ∧ e.Out < o))) := by
    intro v v0 v1
    obtain ⟨e, g1, g2⟩ := zdA hn ho hn'.1 hn'.2 ho'.1 ho'.2 row i v (by omega) v0 v1
    rw [g1, hw, zW]
    refine ⟨⟨by simp; omega, by simp only; omega, fun e' he => ?_⟩, by simp only; omega⟩
    rcases List.mem_append.1 he with q | q
    ·exact h3 e' q
    ·simp only [List.mem_cons, List.not_mem_nil, or_false] at q; subst q; exact g2
   rw [vo]
   refine ⟨fun hc => ?_, fun _ => fin 0 (by omega) (by omega)⟩
   have hc : s * k + i < ((x.Edges.length : Nat) : Int) := of_decide_eq_true hc
   rw [vO, z9j]
   have hlt' : (s * k + i).toNat < x.Edges.length := by omega
   refine ⟨by omega, _, List.getElem?_eq_getElem hlt', ?_⟩
   have := h.e0 _ (List.getElem_mem hlt')
   rw [wY (by omega) (by omega)]
   exact fin _ this.1 this.2
  ·have hge : ¬ i < k := of_decide_eq_false hge
   rw [zW]
   exact ⟨by simp only; omega, h3⟩
 unfold ZU
 simp only [z2a, vO]
 refine ⟨by decide, by decide, by decide, ?_⟩
 refine (uZ (R := fun r => (r.length : Int) = n ∧ ∀ r' ∈ r, (r'.length : Int) = k ∧ ∀ e ∈ r', (e.To = -1 ∧ e.Out = -1) ∨ (0 ≤ e.To ∧ e.To < n ∧ 0 ≤ e.Out ∧ e.Out < o)) (fun st => (st.1.length : Int) = st.2 ∧ st.2 ≤ n ∧ ∀ r' ∈ st.1, (r'.length : Int) = k ∧ ∀ e ∈ r', (e.To = -1 ∧ e.Out = -1) ∨ (0 ≤ e.To ∧ e.To < n ∧ 0 ≤ e.Out ∧ e.Out < o)) (fun st => 10 - st.2.toNat) ⟨by simp, by omega, by simp⟩ (by simp) ?_).mono ?_
 ·rintro ⟨rows, s⟩ ⟨h1, h2, h3⟩
  simp only at h1 h2 h3
  unfold k7
  rw [← hn, vo]
  refine ⟨fun hlt => ?_, fun hge => ?_⟩
  ·have hlt : s < n := of_decide_eq_true hlt
   rw [vO]
   refine (inner s (by omega) hlt).mono fun row hrow => ?_
   unfold k8 k9
   rw [z2a, zW, wY (by omega) (by omega)]
   refine ⟨by simp; omega, ⟨by simp; omega, by simp only; omega, fun r' hr => ?_⟩, by simp only; omega⟩
   rcases List.mem_append.1 hr with q | q
   ·exact h3 r' q
   ·simp only [List.mem_cons, List.not_mem_nil, or_false] at q; subst q; exact hrow
  ·have hge : ¬ s < n := of_decide_eq_false hge
   rw [zW]
   exact ⟨by simp only; omega, h3⟩
 ·rintro rows ⟨h1, h2⟩
  unfold ka
  rw [zW, ← hk, ← ho]
  refine ⟨⟨hi'.1, by simp only; omega, ho'.1, by simp only; omega, by simp only; omega, by simp only; omega, fun r hr => (h2 r hr).1, fun r hr e he => ?_⟩, rfl, hi'.2, ho'.2, by simp only; omega⟩
  simp only [h1]
  exact (h2 r hr).2 e he
def nxE (m : z7) (s : Int) (i : Nat) : zc := if s < 0 then ⟨-1, -1⟩ else E m s.toNat i
def rsp (m : z7) : Int → List Nat → List Int
 | _, [] => []
 | s, i :: w => (nxE m s i).Out :: rsp m (nxE m s i).To w
def aft (m : z7) : Int → List Nat → Int
 | s, [] => s
 | s, i :: w => aft m (nxE m s i).To w
theorem UB (m : z7) : ∀ (w : List Nat) (s : Int) (i : Nat), rsp m s (w ++ [i]) = rsp m s w ++ [(nxE m (aft m s w) i).Out] ∧ aft m s (w ++ [i]) = (nxE m (aft m s w) i).To
 | [], s, i => ⟨rfl, rfl⟩
 | j :: w, s, i => by
  have := UB m w (nxE m s j).To i
  simp only [List.cons_append, rsp, aft, this.1, this.2, and_self]
def z2X (m : z7) (s : Int) : Prop := -1 ≤ s ∧ s < (m.Rows.length : Int)
variable {i : Nat}{s : Int}
theorem zdX (h : VM m)  (hs : z2X m s)  (hi : i < kk m) : z2X m (nxE m s i).To := by
 unfold nxE
 have := h.len1
 by_cases h0 : s < 0
 ·rw [if_pos h0]
  unfold z2X
  simp only
  omega
 ·rw [if_neg h0]
  have hl : s.toNat < m.Rows.length := by have := hs.2; omega
  have := h.edgeAt hl hi
  unfold z2X
  omega
theorem z9u (h : VM m)  (hs : z2X m s)  (hi : i < kk m) : ZN m s (i : Int) = some (nxE m s i) ∧ z2X m (nxE m s i).To := by
 unfold ZN nxE
 have := h.len1
 by_cases h0 : s < 0
 ·rw [decide_eq_true h0, cond_true, if_pos h0]
  exact ⟨rfl, by unfold z2X; simp only; omega⟩
 ·rw [decide_eq_false h0, cond_false, if_neg h0]
  have hl : s.toNat < m.Rows.length := by have := hs.2; omega
  have he := h.edge_eq hl hi (f := fun e => some e)
  have hc : ((s.toNat : Nat) : Int) = s := by omega
  rw [hc] at he
  refine ⟨he, ?_⟩
  have := h.edgeAt hl hi
  unfold z2X
  omega
theorem Kv (m : z7) (s i : Nat) : nxE m (s : Int) i = E m s i := by
 unfold nxE
 rw [if_neg (by omega), Int.toNat_natCast]
theorem z2V (h : VM m) : ∀ (w : List Nat) (n : Nat) (s : Int), z2X m s → (∀ i ∈ w, i < kk m) → w.length < n → qd n m s (w.map Int.ofNat) = some (aft m s w)
 | w, 0, _, _, _, hn => by omega
 | [], n + 1, s, hs, _, _ => by
  show u4 (qd n) m s [] = _
  rfl
 | i :: w, n + 1, s, hs, hw, hn => by
  show u4 (qd n) m s ((i : Int) :: w.map Int.ofNat) = _
  have hi := hw i (by simp)
  have hx := z9u h hs hi
  unfold u4
  have hz : (((((i : Int) :: w.map Int.ofNat).length : Nat) : Int) == 0) = false := by
   rw [beq_eq_false_iff_ne]
   simp only [List.length_cons]
   omega
  rw [hz, cond_false]
  have e0 : idx ((i : Int) :: w.map Int.ofNat) 0 = some (i : Int) := rfl
  rw [bdT e0, bdT hx.1, gdT (by simp; omega)]
  have e1 : ((i : Int) :: w.map Int.ofNat).drop (1 : Int).toNat = w.map Int.ofNat := rfl
  rw [e1, bdT (z2V h w n _ hx.2 (fun j hj => hw j (by simp [hj])) (by simp at hn; omega))]
  rfl
theorem z7F (h : VM m)  (hs : z2X m s) (w : List Nat) (hw : ∀ i ∈ w, i < kk m) : Yn m s (w.map Int.ofNat) = some (aft m s w) := by
 unfold Yn
 exact z2V h w _ s hs hw (by simp)
def z0S (k : Nat) : List Nat → Option (List Nat)
 | [] => none
 | d :: r => if d + 1 < k then some ((d + 1) :: r) else (z0S k r).map (0 :: ·)
def Wt (k : Nat) : List Nat → Nat
 | [] => 0
 | d :: r => d + k * Wt k r
theorem z3E {k : Nat} : ∀ {r : List Nat}, (∀ d ∈ r, d < k) → Wt k r < k ^ r.length
 | [], _ => by simp [Wt]
 | d :: r, h => by
  have ih := z3E (k := k) (r := r) fun x hx => h x (by simp [hx])
  have hd := h d (by simp)
  simp only [Wt, List.length_cons, Nat.pow_succ]
  have : k * (Wt k r + 1) ≤ k * k ^ r.length := Nat.mul_le_mul_left k ih
  rw [Nat.mul_add, Nat.mul_one] at this
  rw [Nat.mul_comm (k ^ r.length) k]
  omega
theorem z1S : ∀ {r s : List Nat}, r.length = s.length → (∀ d ∈ r, d < k) → (∀ d ∈ s, d < k) → Wt k r = Wt k s → r = s
 | [], [], _, _, _, _ => rfl
 | [], _ :: _, h, _, _, _ => by simp at h
 | _ :: _, [], h, _, _, _ => by simp at h
 | d :: r, e :: s, h, h1, h2, hv => by
  have hd := h1 d (by simp)
  have he := h2 e (by simp)
  simp only [Wt] at hv
  have a1 : (d + k * Wt k r) % k = d := by rw [Nat.add_mul_mod_self_left, Nat.mod_eq_of_lt hd]
  have a2 : (e + k * Wt k s) % k = e := by rw [Nat.add_mul_mod_self_left, Nat.mod_eq_of_lt he]
  have hde : d = e := by rw [← a1, ← a2, hv]
  subst hde
  have hk : 0 < k := by omega
  have : k * Wt k r = k * Wt k s := by omega
  have := Nat.eq_of_mul_eq_mul_left hk this
  rw [z1S (by simpa using h) (fun x hx => h1 x (by simp [hx])) (fun x hx => h2 x (by simp [hx])) this]
theorem z0Q : ∀ {r s : List Nat}, (∀ d ∈ r, d < k) → z0S k r = some s → s.length = r.length ∧ (∀ d ∈ s, d < k) ∧ Wt k s = Wt k r + 1
 | [], s, _, h => by cases h
 | d :: r, s, hr, h => by
  have hd := hr d (by simp)
  unfold z0S at h
  split at h
  ·rename_i hc
   cases h
   exact ⟨rfl, fun x hx => by rcases List.mem_cons.1 hx with rfl | hx; exact hc; exact hr x (by simp [hx]), by simp only [Wt]; omega⟩
  ·rename_i hc
   obtain ⟨s', h1, rfl⟩ := Option.map_eq_some_iff.1 h
   obtain ⟨g1, g2, g3⟩ := z0Q (fun x hx => hr x (by simp [hx])) h1
   refine ⟨by simp [g1], fun x hx => by rcases List.mem_cons.1 hx with rfl | hx; omega; exact g2 x hx, ?_⟩
   simp only [Wt, g3, Nat.mul_add, Nat.mul_one]
   omega
theorem z0R (hk : 0 < k) : ∀ {r : List Nat}, (∀ d ∈ r, d < k) → z0S k r = none → Wt k r + 1 = k ^ r.length
 | [], _, _ => by simp [Wt]
 | d :: r, hr, h => by
  have hd := hr d (by simp)
  unfold z0S at h
  split at h
  ·cases h
  ·rename_i hc
   have h1 : z0S k r = none := by cases e : z0S k r with | none => rfl | some x => rw [e] at h; cases h
   have := z0R hk (fun x hx => hr x (by simp [hx])) h1
   simp only [Wt, List.length_cons, Nat.pow_succ, ← this, Nat.add_mul, Nat.one_mul, Nat.mul_comm k]
   omega
def z1u (k : Nat) (w : List Nat) : List Nat := match z0S k w.reverse with | some r => r.reverse | none => List.replicate (w.length + 1) 0
variable {w : List Nat}
theorem z4x (hk : 1 ≤ k) (hk2 : k ≤ 1000)  (hw : ∀ i ∈ w, i < k) (hl : w.length ≤ 100000) : ki (w.map Int.ofNat) (k : Int) = some ((z1u k w).map Int.ofNat) := by
 have hloop : Ret (loop (fun s => q9 (k : Int) s.1 s.2) (w.map Int.ofNat, w64 ((((w.map Int.ofNat).length : Nat) : Int) - 1))) fun r => match r with
   | .inl o => z0S k w.reverse = none ∧ o = List.replicate w.length (0 : Int)
   | .inr o => ∃ r, z0S k w.reverse = some r ∧ o = r.reverse.map Int.ofNat := by
  refine uZ (fun q => ∃ (p : List Nat) (z : Nat), q.1 = (p ++ List.replicate z 0).map Int.ofNat ∧ q.2 = (p.length : Int) - 1 ∧ (∀ i ∈ p, i < k) ∧ p.length + z = w.length ∧ z0S k w.reverse = (z0S k p.reverse).map (fun r => List.replicate z 0 ++ r)) (fun q => (q.2 + 1).toNat) ⟨w, 0, by simp, by rw [wY (by simp; omega) (by simp; omega)]; simp, hw, by simp, by cases z0S k w.reverse <;> simp⟩ (by simp only; rw [wY (by simp; omega) (by simp; omega)]; simp; omega) ?_
  rintro ⟨out, j⟩ ⟨p, z, h1, h2, h3, h4, h5⟩
  simp only at h1 h2
  subst h1; subst h2
  unfold q9
  rw [vo]
  refine ⟨fun hc => ?_, fun hc => ?_⟩
  ·have hp : 1 ≤ p.length := by simp at hc; omega
   obtain ⟨p', d, rfl⟩ : ∃ p' d, p = p' ++ [d] := by
    rcases List.eq_nil_or_concat p with e | ⟨p', d, e⟩
    ·subst e; simp at hp
    ·exact ⟨p', d, by simpa using e⟩
   have hd := h3 d (by simp)
   have hj : (((p' ++ [d]).length : Nat) : Int) - 1 = ((p'.length : Nat) : Int) := by simp
   have hx : ((p' ++ [d] ++ List.replicate z 0).map Int.ofNat)[p'.length]? = some (d : Int) := by
    simp
   have hset : ∀ e : Nat, ((p' ++ [d] ++ List.replicate z 0).map Int.ofNat).set p'.length (e : Int) = (p' ++ e :: List.replicate z 0).map Int.ofNat := by
    intro e
    rw [List.append_assoc, List.map_append, List.set_append, if_neg (by simp)]
    simp
   have hr : (p' ++ [d]).reverse = d :: p'.reverse := by simp
   rw [hr] at h5
   have hin : z0S k (d :: p'.reverse) = if d + 1 < k then some ((d + 1) :: p'.reverse) else (z0S k p'.reverse).map (0 :: ·) := rfl
   have hw1 : w64 ((d : Int) + 1) = ((d + 1 : Nat) : Int) := by rw [wY (by omega) (by omega)]; rfl
   rw [hj, wR, bdT hx, hw1, vo]
   refine ⟨fun hc => ?_, fun hc => ?_⟩
   ·have hdk : d + 1 < k := by simp at hc; omega
    rw [bdT hx, bdT hx, hw1, Int.toNat_natCast, hset]
    refine zW.2 ?_
    rw [hin, if_pos hdk] at h5
    exact ⟨_, h5, by simp⟩
   ·have hdk : ¬ d + 1 < k := by simp at hc; omega
    rw [bdT hx, Int.toNat_natCast, wY (by omega) (by omega)]
    have h0 := hset 0
    simp only [Int.natCast_zero] at h0
    refine zW.2 ⟨⟨p', z + 1, ?_, rfl, fun i hi => h3 i (by simp [hi]), by simp at h4; omega, ?_⟩, ?_⟩
    ·rw [List.replicate_succ]; exact h0
    ·rw [hin, if_neg hdk] at h5
     rw [h5]
     cases z0S k p'.reverse with
     | none => rfl
     | some r => simp [List.replicate_succ']
    ·simp only
     omega
  ·have hp : p = [] := List.eq_nil_of_length_eq_zero (by simp at hc; omega)
   subst hp
   refine zW.2 ⟨?_, ?_⟩
   ·rw [h5]; rfl
   ·simp at h4; simp [h4]
 unfold ki
 rw [gdT (by simp; omega)]
 obtain ⟨r, e, hr⟩ := hloop
 rw [bdT e]
 unfold z1u
 cases r with
 | inl o =>
  obtain ⟨g1, rfl⟩ := hr
  show qb _ = _
  unfold qb
  rw [gdT (by simp; omega), g1]
  simp [List.replicate_succ']
 | inr o =>
  obtain ⟨r, g1, rfl⟩ := hr
  show some _ = _
  rw [g1]
def GG (k : Nat) : Nat → Nat
 | 0 => 0
 | n + 1 => GG k n + k ^ n
theorem KX {k n m : Nat} (h : n ≤ m) : GG k n ≤ GG k m := by
 induction h with
 | refl => exact Nat.le_refl _
 | step _ ih => exact Nat.le_trans ih (Nat.le_add_right _ _)
def rk (k : Nat) (w : List Nat) : Nat := GG k w.length + Wt k w.reverse
def Wd (k : Nat) (w : List Nat) : Prop := ∀ i ∈ w, i < k
theorem Wd.rev (h : Wd k w) : ∀ d ∈ w.reverse, d < k := fun d hd => h d (by simpa using hd)
theorem z9i (h : Wd k w) : rk k w < GG k (w.length + 1) := by
 have := z3E h.rev
 rw [List.length_reverse] at this
 show GG k w.length + Wt k w.reverse < GG k w.length + k ^ w.length
 omega
theorem z7R {k : Nat} {w u : List Nat} (hw : Wd k w) (h : w.length < u.length) : rk k w < rk k u := by
 have h1 := z9i hw
 have h2 := KX (k := k) (show w.length + 1 ≤ u.length from h)
 unfold rk at *
 omega
theorem z7S {w u : List Nat} (hw : Wd k w) (hu : Wd k u) (h : rk k w = rk k u) : w = u := by
 have hl : w.length = u.length := by
  rcases Nat.lt_trichotomy w.length u.length with q | q | q
  ·have := z7R hw q; omega
  ·exact q
  ·have := z7R hu q; omega
 have hv : Wt k w.reverse = Wt k u.reverse := by unfold rk at h; rw [hl] at h; omega
 have := z1S (by simpa using hl) hw.rev hu.rev hv
 simpa using congrArg List.reverse this
theorem z0b (k : Nat) : ∀ n, Wt k (List.replicate n 0) = 0
 | 0 => rfl
 | n + 1 => by simp [List.replicate_succ, Wt, z0b k n]
theorem z6E (hk : 1 ≤ k)  (hw : Wd k w) : Wd k (z1u k w) ∧ rk k (z1u k w) = rk k w + 1 ∧ (z1u k w).length ≤ w.length + 1 := by
 unfold z1u
 cases e : z0S k w.reverse with
 | some r =>
  obtain ⟨h1, h2, h3⟩ := z0Q hw.rev e
  rw [List.length_reverse] at h1
  refine ⟨fun i hi => h2 i (by simpa using hi), ?_, by simp [h1]⟩
  simp only [rk, List.length_reverse, List.reverse_reverse, h1, h3]
  omega
 | none =>
  have h := z0R (by omega) hw.rev e
  rw [List.length_reverse] at h
  refine ⟨fun i hi => by have := (List.mem_replicate.1 hi).2; omega, ?_, by simp⟩
  simp only [rk, List.length_replicate, List.reverse_replicate, z0b, GG, ← h]
  omega
section
variable {m : z7}
def J0 (m : z7) (from_ : Int) (l : List (List Int)) (is : List Bool) (r t : Nat) : Prop :=
 (is[t]? = some true ∧ ∃ v : List Nat, l[t]? = some (v.map Int.ofNat) ∧ rk (kk m) v < r ∧ Wd (kk m) v ∧ v.length < m.Rows.length ∧ aft m from_ v = (t : Int) ∧ ∀ u, Wd (kk m) u → aft m from_ u = (t : Int) → rk (kk m) v ≤ rk (kk m) u) ∨
 (is[t]? = some false ∧ l[t]? = some [] ∧ ∀ u, Wd (kk m) u → rk (kk m) u < r → aft m from_ u ≠ (t : Int))
theorem z2W (h : VM m) : ∀ (w : List Nat) (s : Int), z2X m s → Wd (kk m) w → z2X m (aft m s w)
 | [], s, hs, _ => hs
 | i :: w, s, hs, hw => z2W h w _ (zdX h hs (hw i (by simp))) fun j hj => hw j (by simp [hj])
theorem z4n (h : VM m) (hG : GG (kk m) m.Rows.length ≤ 1000000000) {from_ : Int} (hf : z2X m from_) :
  Ret (kD m from_) fun r => r.1.length = m.Rows.length ∧ r.2.length = m.Rows.length ∧ ∀ t, t < m.Rows.length → J0 m from_ r.1 r.2 (GG (kk m) m.Rows.length) t := by
 have l64 := h.len64
 have l1 := h.len1
 have hk := h.kk_pos
 have hk2 := h.kk_le
 have hke := h.kk_eq
 unfold kD jg
 rw [z2a, z2a]
 refine ⟨by omega, by omega, ?_⟩
 rw [vO]
 refine Ret.mono ?_ fun r hr => zW.2 hr
 refine uZ (fun q => ∃ w : List Nat, q.2.2 = w.map Int.ofNat ∧ Wd (kk m) w ∧ w.length ≤ m.Rows.length ∧ rk (kk m) w ≤ GG (kk m) m.Rows.length ∧ q.1.length = m.Rows.length ∧ q.2.1.length = m.Rows.length ∧ ∀ t, t < m.Rows.length → J0 m from_ q.1 q.2.1 (rk (kk m) w) t)
  (fun q => GG (kk m) m.Rows.length - rk (kk m) (q.2.2.map Int.toNat)) ⟨[], rfl, fun i hi => by simp at hi, by simp, by simp [rk, GG, Wt], by simp, by simp, fun t ht => .inr ⟨by simp [ht], by simp [ht], fun u _ hu => by simp [rk, GG, Wt] at hu⟩⟩ (by simp only; omega) ?_
 rintro ⟨l, is, wi⟩ ⟨w, h1, hw, hwl, hwr, h2, h3, h4⟩
 simp only at h1 h2 h3 h4
 subst h1
 have hback : ∀ w : List Nat, (w.map Int.ofNat).map Int.toNat = w := fun w => by induction w with | nil => rfl | cons a w ih => simp only [List.map_cons, ih]; rfl
 simp only [hback]
 unfold jf
 rw [vo]
 refine ⟨fun hc => ?_, fun hc => ?_⟩
 ·have hlt : w.length < m.Rows.length := by simpa using hc
  have hrk : rk (kk m) w < GG (kk m) m.Rows.length := Nat.lt_of_lt_of_le (z9i hw) (KX hlt)
  obtain ⟨n1, n2, n3⟩ := z6E hk hw
  have hnx : ki (w.map Int.ofNat) m.Inputs = some ((z1u (kk m) w).map Int.ofNat) := by rw [← hke]; exact z4x hk (by omega) hw (by omega)
  have fin : ∀ (l2 : List (List Int)) (is2 : List Bool), l2.length = m.Rows.length → is2.length = m.Rows.length → (∀ t, t < m.Rows.length → J0 m from_ l2 is2 (rk (kk m) w + 1) t) →
    Ret (wQ m (w.map Int.ofNat) l2 is2) (LRP (fun s' => (∃ w : List Nat, s'.2.2 = w.map Int.ofNat ∧ Wd (kk m) w ∧ w.length ≤ m.Rows.length ∧ rk (kk m) w ≤ GG (kk m) m.Rows.length ∧ s'.1.length = m.Rows.length ∧ s'.2.1.length = m.Rows.length ∧ ∀ t, t < m.Rows.length → J0 m from_ s'.1 s'.2.1 (rk (kk m) w) t) ∧ GG (kk m) m.Rows.length - rk (kk m) (s'.2.2.map Int.toNat) < GG (kk m) m.Rows.length - rk (kk m) w)
     fun r => r.1.length = m.Rows.length ∧ r.2.length = m.Rows.length ∧ ∀ t, t < m.Rows.length → J0 m from_ r.1 r.2 (GG (kk m) m.Rows.length) t) := by
   intro l2 is2 a1 a2 a3
   unfold wQ
   rw [bdT hnx]
   refine zW.2 ⟨⟨_, rfl, n1, by omega, by omega, a1, a2, fun t ht => by rw [n2]; exact a3 t ht⟩, ?_⟩
   rw [hback, n2]
   omega
  have hin := z2W h w from_ hf hw
  rw [bdT (z7F h hf w hw), vo]
  have stay : ∀ t, t < m.Rows.length → (aft m from_ w = (t : Int) → is[t]? = some true) → J0 m from_ l is (rk (kk m) w + 1) t := by
   intro t ht hn
   rcases h4 t ht with ⟨g1, v, g2, g3, g4⟩ | ⟨g1, g2, g3⟩
   ·exact .inl ⟨g1, v, g2, by omega, g4⟩
   ·refine .inr ⟨g1, g2, fun u hu hr e => ?_⟩
    rcases Nat.lt_or_ge (rk (kk m) u) (rk (kk m) w) with q | q
    ·exact g3 u hu q e
    ·have := z7S hu hw (by omega)
     subst this
     rw [hn e] at g1
     cases g1
  refine ⟨fun hc => ?_, fun hc => ?_⟩
  ·have hs0 : 0 ≤ aft m from_ w := by simpa using hc
   obtain ⟨s, hs⟩ := Int.eq_ofNat_of_zero_le hs0
   have hsN : s < m.Rows.length := by have := hin.2; omega
   rw [hs]
   rcases h4 s hsN with ⟨g1, v, g2, g3⟩ | ⟨g1, g2, g3⟩
   ·rw [wR, bdT g1]
    simp only [Bool.not_true, cond_false]
    refine fin l is h2 h3 fun t ht => stay t ht fun e => ?_
    have : t = s := by omega
    subst this; exact g1
   ·rw [wR, bdT g1]
    simp only [Bool.not_false, cond_true]
    rw [bdT g1, wR, bdT g2, Int.toNat_natCast]
    refine fin _ _ (by simpa using h2) (by simpa using h3) fun t ht => ?_
    by_cases e : t = s
    ·subst e
     refine .inl ⟨by simp [h3, ht], w, by simp [h2, ht], by omega, hw, hlt, hs, fun u hu he => ?_⟩
     rcases Nat.lt_or_ge (rk (kk m) u) (rk (kk m) w) with q | q
     ·exact (g3 u hu q he).elim
     ·exact q
    ·have := stay t ht fun e2 => by omega
     unfold J0 at this ⊢
     rw [List.getElem?_set_ne (by omega), List.getElem?_set_ne (by omega)]
     exact this
  ·have hs0 : ¬ 0 ≤ aft m from_ w := by simpa using hc
   exact fin l is h2 h3 fun t ht => stay t ht fun e => by omega
 ·have hlt : ¬ w.length < m.Rows.length := by simpa using hc
  have hle : w.length = m.Rows.length := by omega
  have hrk : rk (kk m) w = GG (kk m) m.Rows.length := by
   have : GG (kk m) m.Rows.length ≤ rk (kk m) w := by rw [← hle]; unfold rk; omega
   omega
  refine zW.2 ⟨h2, h3, fun t ht => ?_⟩
  rw [← hrk]
  exact h4 t ht
end
theorem QT (m : z7) : ∀ (u w : List Nat) (s : Int), aft m s (u ++ w) = aft m (aft m s u) w
 | [], _, _ => rfl
 | i :: u, w, s => by simp only [List.cons_append, aft, QT m u w]
theorem z1O (m : z7) : ∀ (w : List Nat) (s : Int), s < 0 → aft m s w < 0
 | [], s, h => h
 | i :: w, s, h => by
  simp only [aft, nxE, if_pos h]
  exact z1O m w (-1) (by omega)
section
variable {m : z7} (h : VM m)
include h
theorem Qh : ∀ (n : Nat) (u : List Nat), u.length ≤ n → Wd (kk m) u → 0 ≤ aft m 0 u → ∃ w, Wd (kk m) w ∧ w.length < m.Rows.length ∧ w.length ≤ u.length ∧ aft m 0 w = aft m 0 u
 | n, u, hn, hu, h0 => by
  have l1 := h.len1
  rcases Nat.lt_or_ge u.length m.Rows.length with q | q
  ·exact ⟨u, hu, q, Nat.le_refl _, rfl⟩
  ·cases n with
   | zero => omega
   | succ n =>
    have hin0 : z2X m 0 := ⟨by omega, by omega⟩
    have hpre : ∀ i, 0 ≤ aft m 0 (u.take i) ∧ aft m 0 (u.take i) < (m.Rows.length : Int) := by
     intro i
     have e := QT m (u.take i) (u.drop i) 0
     rw [List.take_append_drop] at e
     have h1 := z2W h (u.take i) 0 hin0 fun j hj => hu j (List.mem_of_mem_take hj)
     refine ⟨?_, h1.2⟩
     rcases Int.lt_or_le (aft m 0 (u.take i)) 0 with g | g
     ·have := z1O m (u.drop i) _ g
      omega
     ·exact g
    have hex : ∃ i j, i < j ∧ j ≤ m.Rows.length ∧ aft m 0 (u.take i) = aft m 0 (u.take j) := by
     refine Classical.byContradiction fun hno => ?_
     have hnd : ((List.range (m.Rows.length + 1)).map fun i => (aft m 0 (u.take i)).toNat).Nodup := by
      unfold List.Nodup
      rw [List.pairwise_map]
      refine List.Pairwise.imp_of_mem ?_ (List.pairwise_lt_range (n := m.Rows.length + 1))
      intro a b ha hb hab e
      have h1 := (hpre a).1
      have h2 := (hpre b).1
      exact hno ⟨a, b, hab, by have := List.mem_range.1 hb; omega, by omega⟩
     have := W6 m.Rows.length _ hnd fun x hx => by
      obtain ⟨i, _, rfl⟩ := List.mem_map.1 hx
      have := hpre i
      omega
     simp at this
     omega
    obtain ⟨i, j, hij, hj, e⟩ := hex
    have e1 : aft m 0 (u.take i ++ u.drop j) = aft m 0 u := by
     rw [QT, e, ← QT, List.take_append_drop]
    have hlen : (u.take i ++ u.drop j).length ≤ n := by simp; omega
    obtain ⟨w, w1, w2, w3, w4⟩ := Qh n (u.take i ++ u.drop j) hlen (fun x hx => by
     rcases List.mem_append.1 hx with q | q
     ·exact hu x (List.mem_of_mem_take q)
     ·exact hu x (List.mem_of_mem_drop q)) (by rw [e1]; exact h0)
    exact ⟨w, w1, w2, by simp at w3; omega, w4.trans e1⟩
end
structure Acc (m : z7) (t : Nat) (v : List Nat) : Prop where
 wd : Wd (kk m) v
 len : v.length < m.Rows.length
 aft : aft m 0 v = (t : Int)
 least : ∀ u, Wd (kk m) u → Go.Own.aft m 0 u = (t : Int) → rk (kk m) v ≤ rk (kk m) u
section
variable {m : z7} (h : VM m) (hG : GG (kk m) m.Rows.length ≤ 1000000000)
include h hG
def z3q (m : z7) (r : List (List Int) × List Bool) : Prop :=
 r.1.length = m.Rows.length ∧ r.2.length = m.Rows.length ∧ ∀ t, t < m.Rows.length →
  (r.2[t]? = some true ∧ ∃ v : List Nat, r.1[t]? = some (v.map Int.ofNat) ∧ Acc m t v) ∨ (r.2[t]? = some false ∧ ∀ u, Wd (kk m) u → aft m 0 u ≠ (t : Int))
theorem z3n : Ret (jm m) (z3q m) := by
 have l1 := h.len1
 unfold jm
 rw [vO]
 refine (z4n h hG (from_ := 0) ⟨by omega, by omega⟩).mono fun r hr => zW.2 ⟨hr.1, hr.2.1, fun t ht => ?_⟩
 rcases hr.2.2 t ht with ⟨g1, v, g2, g3, g4, g5, g6, g7⟩ | ⟨g1, g2, g3⟩
 ·exact .inl ⟨g1, v, g2, ⟨g4, g5, g6, g7⟩⟩
 ·refine .inr ⟨g1, fun u hu e => ?_⟩
  obtain ⟨w, w1, w2, w3, w4⟩ := Qh h u.length u (Nat.le_refl _) hu (by omega)
  exact g3 w w1 (Nat.lt_of_lt_of_le (z9i w1) (KX w2)) (w4.trans e)
end
theorem z7z {s : Nat} {v w : List Nat} (hv : Acc m s v) (hw : Acc m s w) : v = w :=
 z7S hv.wd hw.wd (Nat.le_antisymm (hv.least w hw.wd hw.aft) (hw.least v hv.wd hv.aft))
def Rch (m : z7) (t : Nat) : Prop := ∃ u, Wd (kk m) u ∧ aft m 0 u = (t : Int)
theorem z7H {out : List Bool} {j t : Nat} (hj : j < out.length) : (out.set j true)[t]? = some true ↔ t = j ∨ out[t]? = some true := by
 by_cases e : t = j
 ·subst e; simp [hj]
 ·rw [List.getElem?_set_ne (Ne.symm e)]
  exact ⟨.inr, fun q => q.resolve_left e⟩
section
variable {m : z7} (h : VM m)
include h
omit h in theorem rch_step {s i : Nat} (hs : Rch m s) (hi : i < kk m) (h0 : 0 ≤ (E m s i).To) : Rch m (E m s i).To.toNat := by
 obtain ⟨u, hu, e⟩ := hs
 refine ⟨u ++ [i], fun j hj => ?_, ?_⟩
 ·rcases List.mem_append.1 hj with q | q
  ·exact hu j q
  ·have : j = i := by simpa using q
   omega
 ·have := (UB m u 0 i).2
  rw [e, Kv] at this
  rw [this]
  omega
end
def vQ : List Int → List Int → Int
 | [], [] => 0
 | [], _ :: _ => -1
 | _ :: _, [] => 1
 | x :: a, y :: b => if x < y then -1 else if y < x then 1 else vQ a b
def kT (a b : List Int) : Int := if a.length < b.length then -1 else if b.length < a.length then 1 else vQ a b
theorem z4H : ∀ {a b : List Int}, vQ a b = 0 → a = b
 | [], [], _ => rfl
 | [], _ :: _, h => by simp [vQ] at h
 | _ :: _, [], h => by simp [vQ] at h
 | x :: a, y :: b, h => by
  simp only [vQ] at h
  split at h
  ·simp at h
  ·split at h
   ·simp at h
   ·rw [show x = y by omega, z4H h]
theorem z0I : ∀ a : List Int, vQ a a = 0
 | [] => rfl
 | x :: a => by simp [vQ, z0I a]
theorem z2q : ∀ a b : List Int, vQ b a = - vQ a b
 | [], [] => rfl
 | [], _ :: _ => rfl
 | _ :: _, [] => rfl
 | x :: a, y :: b => by
  simp only [vQ]
  split
  ·rw [if_neg (by omega)]
  ·split
   ·rfl
   ·exact z2q a b
theorem JM : ∀ {a b c : List Int}, vQ a b < 0 → vQ b c < 0 → vQ a c < 0
 | [], [], _, h, _ => by simp [vQ] at h
 | [], _ :: _, [], _, h => by simp [vQ] at h
 | [], _ :: _, _ :: _, _, _ => by simp [vQ]
 | _ :: _, [], _, h, _ => by simp [vQ] at h
 | _ :: _, _ :: _, [], _, h => by simp [vQ] at h
 | x :: a, y :: b, z :: c, h1, h2 => by
  simp only [vQ] at h1 h2 ⊢
  by_cases e1 : x < y
  ·by_cases e2 : y < z
   ·rw [if_pos (by omega)]; omega
   ·rw [if_neg e2] at h2
    by_cases e3 : z < y
    ·rw [if_pos e3] at h2; omega
    ·rw [if_pos (by omega)]; omega
  ·rw [if_neg e1] at h1
   by_cases e3 : y < x
   ·rw [if_pos e3] at h1; omega
   ·rw [if_neg e3] at h1
    have : x = y := by omega
    subst this
    by_cases e2 : x < z
    ·rw [if_pos e2]; omega
    ·rw [if_neg e2] at h2 ⊢
     by_cases e4 : z < x
     ·rw [if_pos e4] at h2; omega
     ·rw [if_neg e4] at h2 ⊢
      exact JM h1 h2
variable {a b : List Int}
theorem z1I (h : kT a b = 0) : a = b := by
 unfold kT at h
 split at h
 ·simp at h
 ·split at h
  ·simp at h
  ·exact z4H h
theorem QK (a : List Int) : kT a a = 0 := by simp [kT, z0I]
theorem z2Q : kT a b = 0 ↔ a = b := ⟨z1I, fun h => h ▸ QK a⟩
theorem z2O (a b : List Int) : kT b a = - kT a b := by
 unfold kT
 by_cases h1 : a.length < b.length
 ·rw [if_pos h1, if_neg (by omega), if_pos h1]; rfl
 ·by_cases h2 : b.length < a.length
  ·rw [if_pos h2, if_neg h1, if_pos h2]
  ·rw [if_neg h1, if_neg h2, if_neg h2, if_neg h1, z2q]
theorem kl {a b c : List Int} (h1 : kT a b < 0) (h2 : kT b c < 0) : kT a c < 0 := by
 unfold kT at *
 by_cases e1 : a.length < b.length
 ·by_cases e2 : b.length < c.length
  ·rw [if_pos (by omega)]; omega
  ·rw [if_neg e2] at h2
   by_cases e3 : c.length < b.length
   ·rw [if_pos e3] at h2; omega
   ·rw [if_pos (by omega)]; omega
 ·rw [if_neg e1] at h1
  by_cases e3 : b.length < a.length
  ·rw [if_pos e3] at h1; omega
  ·rw [if_neg e3] at h1
   have e : a.length = b.length := by omega
   rw [e]
   by_cases e2 : b.length < c.length
   ·rw [if_pos e2]; omega
   ·rw [if_neg e2] at h2 ⊢
    by_cases e4 : c.length < b.length
    ·rw [if_pos e4] at h2; omega
    ·rw [if_neg e4] at h2 ⊢
     exact JM h1 h2
theorem z2P (a : List Int) : ¬ kT a a < 0 := by rw [QK]; omega
theorem z5g (h : kT a b < 0) : ¬ kT b a < 0 := by rw [z2O a b]; omega
theorem z5f : ¬ kT a b < 0 ↔ kT b a < 0 ∨ a = b := by
 rw [← z2Q, z2O a b]; omega
def SW (l : List (List Int)) : Prop := l.Pairwise fun a b => kT a b < 0
theorem SW.nil : SW [] := List.Pairwise.nil
variable {x : List Int}
theorem SW.tail {l : List (List Int)} (h : SW (x :: l)) : SW l := (List.pairwise_cons.1 h).2
theorem SW.head {l : List (List Int)} (h : SW (x :: l)) : ∀ y ∈ l, kT x y < 0 := (List.pairwise_cons.1 h).1
theorem SW.unique : ∀ {l m : List (List Int)}, SW l → SW m → (∀ x, x ∈ l ↔ x ∈ m) → l = m
 | [], [], _, _, _ => rfl
 | [], y :: m, _, _, h => by have := (h y).2 (by simp); simp at this
 | x :: l, [], _, _, h => by have := (h x).1 (by simp); simp at this
 | x :: l, y :: m, h1, h2, h => by
  have hxy : x = y := by
   rcases List.mem_cons.1 ((h x).1 (by simp)) with e | e
   ·exact e
   ·rcases List.mem_cons.1 ((h y).2 (by simp)) with e' | e'
    ·exact e'.symm
    ·exact absurd (h2.head x e) (z5g (h1.head y e'))
  subst hxy
  rw [SW.unique h1.tail h2.tail fun z => ?_]
  constructor
  ·intro hz
   rcases List.mem_cons.1 ((h z).1 (by simp [hz])) with e | e
   ·subst e; exact absurd (h1.head _ hz) (z2P _)
   ·exact e
  ·intro hz
   rcases List.mem_cons.1 ((h z).2 (by simp [hz])) with e | e
   ·subst e; exact absurd (h2.head _ hz) (z2P _)
   ·exact e
theorem SW.sub {l m : List (List Int)} (h : SW l) (hs : List.Sublist m l) : SW m := List.Pairwise.sublist hs h
def JG (w : List Int) : List (List Int) → List (List Int)
 | [] => [w]
 | x :: l => if kT x w < 0 then x :: JG w l else if kT x w = 0 then x :: l else w :: x :: l
theorem WK {w x : List Int} : ∀ {l : List (List Int)}, x ∈ JG w l ↔ x = w ∨ x ∈ l
 | [] => by simp [JG]
 | y :: l => by
  simp only [JG]
  split
  ·simp only [List.mem_cons, WK]
   constructor
   ·rintro (h | h | h) <;> simp [h]
   ·rintro (h | h | h) <;> simp [h]
  ·split
   ·rename_i h1 h2
    have := z1I h2
    subst this
    simp
   ·simp
theorem SW.put {w : List Int} : ∀ {l : List (List Int)}, SW l → SW (JG w l)
 | [], _ => by simp [JG, SW]
 | y :: l, h => by
  simp only [JG]
  split
  ·rename_i h1
   refine List.pairwise_cons.2 ⟨fun z hz => ?_, SW.put h.tail⟩
   rcases WK.1 hz with rfl | hz
   ·exact h1
   ·exact h.head z hz
  ·split
   ·exact h
   ·rename_i h1 h2
    have hw : kT w y < 0 := by
     rcases z5f.1 h1 with q | q
     ·exact q
     ·exact absurd (z2Q.2 q) h2
    refine List.pairwise_cons.2 ⟨fun z hz => ?_, h⟩
    rcases List.mem_cons.1 hz with rfl | hz
    ·exact hw
    ·exact kl hw (h.head z hz)
theorem z2f (w : List Int) : ∀ l, (JG w l).length ≤ l.length + 1
 | [] => by simp [JG]
 | y :: l => by
  simp only [JG]
  split
  ·have := z2f w l; simp; omega
  ·split <;> simp
def srt (l : List (List Int)) : List (List Int) := l.foldl (fun m w => JG w m) []
theorem z1h : ∀ (l m : List (List Int)), SW m → SW (l.foldl (fun m w => JG w m) m) ∧ ∀ x, x ∈ l.foldl (fun m w => JG w m) m ↔ x ∈ m ∨ x ∈ l
 | [], m, h => ⟨h, by simp⟩
 | w :: l, m, h => by
  obtain ⟨h1, h2⟩ := z1h l (JG w m) h.put
  refine ⟨h1, fun x => ?_⟩
  rw [List.foldl_cons, h2, WK]
  simp only [List.mem_cons]
  constructor
  ·rintro ((h | h) | h) <;> simp [h]
  ·rintro (h | h | h) <;> simp [h]
theorem z3P (l : List (List Int)) : SW (srt l) := (z1h l [] .nil).1
theorem W7 {l : List (List Int)}  : x ∈ srt l ↔ x ∈ l := by rw [srt, (z1h l [] .nil).2]; simp
theorem z6f (l : List (List Int)) (w : List Int) : srt (l ++ [w]) = JG w (srt l) := by simp [srt]
theorem z1g (l : List (List Int)) : (srt l).length ≤ l.length := by
 have : ∀ (l m : List (List Int)), (l.foldl (fun m w => JG w m) m).length ≤ m.length + l.length := by
  intro l
  induction l with
  | nil => intro m; simp
  | cons w l ih => intro m; have := ih (JG w m); have := z2f w m; simp only [List.foldl_cons, List.length_cons]; omega
 have q := this l []
 simp only [List.length_nil, Nat.zero_add] at q
 exact q
variable {α : Type}
theorem yV {l : List α}  {x : α} (h : l[i]? = some x) : idx l (i : Int) = some x := h
theorem z4W (b : List Int) (g : Nat → Int → Option Int) (hg : ∀ i x y, b[i]? = some y → g i x = if x < y then some (-1) else if y < x then some 1 else none) :
  ∀ (a : List Int) (k : Nat), k + a.length = b.length → (xq g a k).getD 0 = vQ a (b.drop k)
 | [], k, h => by
  have : b.drop k = [] := List.drop_eq_nil_of_le (by simp at h; omega)
  rw [this]; rfl
 | x :: a, k, h => by
  simp only [List.length_cons] at h
  have hk : k < b.length := by omega
  rw [List.drop_eq_getElem_cons hk]
  simp only [xq, vQ, hg k x b[k] (List.getElem?_eq_getElem hk)]
  by_cases h1 : x < b[k]
  ·simp [h1]
  ·by_cases h2 : b[k] < x
   ·simp [h1, h2]
   ·simp only [h1, h2, if_false]
    exact z4W b g hg a (k + 1) (by omega)
theorem z11 (a b : List Int) (h : a.length = b.length → a.length < 4611686018427387904) : vp a b = some (kT a b) := by
 unfold vp
 by_cases hl : a.length = b.length
 ·have h' := h hl
  simp only [hl, bne_self_eq_false, cond_false]
  rw [bdT (kG a h' (fun i x => match b[i]? with | some y => if x < y then some (-1 : Int) else if y < x then some 1 else none | none => none) ?_ ?_)]
  ·have q := z4W b (fun i x => match b[i]? with | some y => if x < y then some (-1 : Int) else if y < x then some 1 else none | none => none) (fun i x y hy => by simp only [hy]) a 0 (by omega)
   rw [List.drop_zero] at q
   have hc : kT a b = vQ a b := by unfold kT; rw [if_neg (by omega), if_neg (by omega)]
   rw [hc, ← q]
   cases xq (fun i x => match b[i]? with | some y => if x < y then some (-1 : Int) else if y < x then some 1 else none | none => none) a 0 <;> rfl
  ·intro i x hx
   have hi : i < a.length := (List.getElem?_eq_some_iff.1 hx).1
   have hy : b[i]? = some b[i] := List.getElem?_eq_getElem (by omega)
   unfold vC
   have hc : decide ((i : Int) < (a.length : Int)) = true := by simpa using hi
   simp only [hc, cond_true, yV hx, yV hy, hy, Option.bind_some]
   by_cases h1 : x < b[i]
   ·simp [h1, nS]
   ·by_cases h2 : b[i] < x
    ·simp [h1, h2, nS]
    ·simp [h1, h2, nS]
  ·unfold vC
   simp
 ·have h1 : (((a.length : Nat) : Int) != ((b.length : Nat) : Int)) = true := by simp; omega
  simp only [h1, cond_true]
  unfold kT
  by_cases h2 : a.length < b.length
  ·simp [h2]
  ·have h3 : b.length < a.length := by omega
   simp [h2, h3]
def cI (x y : Int) : Int := if x < y then -1 else if y < x then 1 else 0
theorem z5e (x y : Int) : va x y = some (cI x y) := by
 unfold va qp cI
 simp only [bne_self_eq_false, Option.bind_some, cond_false]
 by_cases h1 : x < y
 ·simp [h1]
 ·by_cases h2 : y < x
  ·simp [h1, h2]
  ·simp [h1, h2]
theorem z9f (a b : List Int) (h : a.length < 4611686018427387904) : ∃ c, xh a b = some c ∧ (a.length = b.length → c = vQ a b) := by
 unfold xh
 have hloop := kG a h (step := fun s => yf a b s) (fun i x => match b[i]? with | some y => if x < y then some (-1 : Int) else if y < x then some 1 else none | none => some 1) (by
  intro i x hx
  have hi : i < a.length := (List.getElem?_eq_some_iff.1 hx).1
  unfold yf
  have hc : decide ((i : Int) < (a.length : Int)) = true := by simpa using hi
  simp only [hc, cond_true, yV hx, Option.bind_some]
  by_cases hb : i < b.length
  ·have hy : b[i]? = some b[i] := List.getElem?_eq_getElem hb
   have hd : decide ((i : Int) ≥ (b.length : Int)) = false := by simp; omega
   simp only [hd, cond_false, yV hy, hy, Option.bind_some, z5e]
   unfold cI
   by_cases h1 : x < b[i]
   ·simp [h1, nS]
   ·by_cases h2 : b[i] < x
    ·simp [h1, h2, nS]
    ·simp [h1, h2, nS]
  ·have hy : b[i]? = none := List.getElem?_eq_none (by omega)
   have hd : decide ((i : Int) ≥ (b.length : Int)) = true := by simp; omega
   simp only [hd, cond_true, hy, nS]) (by unfold yf; simp)
 rw [bdT hloop]
 have q := fun hl => z4W b (fun i x => match b[i]? with | some y => if x < y then some (-1 : Int) else if y < x then some 1 else none | none => some 1) (fun i x y hy => by simp only [hy]) a 0 hl
 cases hf : xq (fun i x => match b[i]? with | some y => if x < y then some (-1 : Int) else if y < x then some 1 else none | none => some 1) a 0 with
 | some r =>
  refine ⟨r, rfl, fun hl => ?_⟩
  have := q (by omega)
  rw [hf] at this
  simpa using this
 | none =>
  unfold xv
  by_cases hl : a.length < b.length
  ·refine ⟨-1, by simp [oS, hl], fun hl2 => by omega⟩
  ·refine ⟨0, by simp [oS, hl], fun hl2 => ?_⟩
   have := q (by omega)
   rw [hf] at this
   simpa using this
theorem zgP (x y : Int) : ZY [x, y] = some (if x = 0 then y else x) := by
 unfold ZY
 rw [bdT (kG [x, y] (by simp) (step := fun s => u9 [x, y] s) (fun i v => if v ≠ 0 then some v else none) ?_ ?_)]
 ·by_cases h1 : x = 0
  ·by_cases h2 : y = 0
   ·simp [xq, h1, h2, oS, kb]
   ·simp [xq, h1, h2, oS]
  ·simp [xq, h1, oS]
 ·intro i v hv
  have hi : i < [x, y].length := (List.getElem?_eq_some_iff.1 hv).1
  unfold u9
  have hc : decide ((i : Int) < (([x, y] : List Int).length : Int)) = true := by simp only [decide_eq_true_eq]; omega
  simp only [hc, cond_true, yV hv, Option.bind_some]
  by_cases h : v = 0
  ·simp [h, nS]
  ·have hb : (v != 0) = true := by simpa using h
   simp [h, hb, nS]
 ·unfold u9; simp
theorem z3p (a b : List Int) (h : a.length < 4611686018427387904) : ve a b = some (kT a b) := by
 unfold ve
 obtain ⟨c, hc, hl⟩ := z9f a b h
 rw [z5e, hc]
 simp only [Option.bind_some, zgP]
 unfold cI kT
 by_cases h1 : a.length < b.length
 ·simp [h1]
 ·by_cases h2 : b.length < a.length
  ·simp [h1, h2]
  ·simp [h1, h2, hl (by omega)]
def wE (n : Int) (w : List Int) : Int := if 256 < w.length then 3 else if w.any (fun c => decide (c < 0) || decide (n ≤ c)) then 1 else 0
variable {n : Int}
theorem z3B {w : List Int} : wE n w = 0 ↔ w.length ≤ 256 ∧ ∀ c ∈ w, 0 ≤ c ∧ c < n := by
 unfold wE
 by_cases h : 256 < w.length
 ·rw [if_pos h]
  exact ⟨fun q => by simp at q, fun q => by omega⟩
 ·rw [if_neg h]
  by_cases h2 : w.any (fun c => decide (c < 0) || decide (n ≤ c)) = true
  ·rw [if_pos h2]
   simp only [List.any_eq_true, Bool.or_eq_true, decide_eq_true_eq] at h2
   obtain ⟨c, h3, h4⟩ := h2
   refine ⟨fun q => by simp at q, fun q => ?_⟩
   have := q.2 c h3
   omega
  ·rw [if_neg h2]
   simp only [List.any_eq_true, Bool.or_eq_true, decide_eq_true_eq, not_exists, not_and, not_or] at h2
   refine ⟨fun _ => ⟨by omega, fun c hc => ?_⟩, fun _ => rfl⟩
   have := h2 c hc
   omega
variable {ρ : Type}
theorem z86 (p : Int → Bool) (g : Nat → Int → Option ρ) (hg : ∀ i x, (g i x).isSome = p x) : ∀ (w : List Int) (k : Nat), (xq g w k).isSome = w.any p
 | [], k => rfl
 | x :: w, k => by
  simp only [xq, List.any_cons]
  have := hg k x
  cases hx : g k x with
  | some r => rw [hx] at this; simp at this; simp [← this]
  | none => rw [hx] at this; simp at this; rw [this, Bool.false_or]; exact z86 p g hg w (k + 1)
theorem z3C (n : Int) (w : List Int) : qL w n = some (if 16 < n then 3 else if 256 < w.length then 3 else if n < 1 then 1 else wE n w) := by
 unfold qL
 by_cases h0 : 16 < n
 ·simp [h0]
 by_cases h : 256 < w.length
 ·have h' : (256 : Int) < (w.length : Int) := by omega
  simp [h0, h, h']
 by_cases h1 : n < 1
 ·have h' : ¬ (256 : Int) < (w.length : Int) := by omega
  simp [h0, h, h', h1]
 ·have hd : decide (((w.length : Nat) : Int) > 256) = false := by simp; omega
  have hd0 : decide (n > 16) = false := by simp; omega
  have hd1 : decide (n < 1) = false := by simp; omega
  simp only [hd, hd0, hd1, cond_false, if_neg h, if_neg h0, if_neg h1]
  unfold yU xM wE
  have hl := kG w (by omega) (step := fun s => y8 w n s) (fun i c => if c < 0 ∨ n ≤ c then some (i : Int) else none) (by
   intro i c hc
   have hi : i < w.length := (List.getElem?_eq_some_iff.1 hc).1
   unfold y8 jN
   have hq : decide ((i : Int) < (w.length : Int)) = true := by simpa using hi
   simp only [hq, cond_true, yV hc, Option.bind_some]
   by_cases h1 : c < 0
   ·simp [h1, nS]
   ·by_cases h2 : n ≤ c
    ·simp [h1, h2, nS]
    ·simp [h1, h2, nS]) (by unfold y8; simp)
  rw [bdT hl, if_neg h]
  have q := z86 (fun c => decide (c < 0) || decide (n ≤ c)) (fun i c => if c < 0 ∨ n ≤ c then some (i : Int) else none) (fun i c => by by_cases h : c < 0 ∨ n ≤ c <;> simp [h] <;> simpa using h) w 0
  cases hf : xq (fun i c => if c < 0 ∨ n ≤ c then some (i : Int) else none) w 0 with
  | none => rw [hf] at q; rw [← q]; rfl
  | some r =>
   rw [hf] at q
   obtain ⟨i, x, h1, h2⟩ := kJ hf
   rw [← q]
   split at h2
   ·cases h2
    simp [oS]
   ·cases h2
def eS (e : Int) : Option Int := if e = 0 then none else some e
def loE (n : Int) (l : List (List Int)) : Int := if 16 < n then 3 else if 4096 < l.length then 3 else if n < 1 then 1 else (xq (fun _ w => eS (wE n w)) l 0).getD 0
theorem z2z : ∀ {l : List (List Int)} {k : Nat}, (xq (fun _ w => eS (wE n w)) l k).getD 0 = 0 ↔ ∀ w ∈ l, wE n w = 0
 | [], _ => by simp [xq]
 | w :: l, k => by
  by_cases h : wE n w = 0
  ·have : eS (wE n w) = none := by simp [eS, h]
   simp only [xq, this]
   rw [z2z]
   simp [h]
  ·have : eS (wE n w) = some (wE n w) := by simp [eS, h]
   simp [xq, this, h]
theorem z2p {l : List (List Int)} : loE n l = 0 ↔ (1 ≤ n ∧ n ≤ 16) ∧ l.length ≤ 4096 ∧ ∀ w ∈ l, w.length ≤ 256 ∧ ∀ c ∈ w, 0 ≤ c ∧ c < n := by
 unfold loE
 by_cases h0 : 16 < n
 ·rw [if_pos h0]; exact ⟨fun q => by simp at q, fun q => by omega⟩
 by_cases h1 : 4096 < l.length
 ·rw [if_neg h0, if_pos h1]; exact ⟨fun q => by simp at q, fun q => by omega⟩
 by_cases h2 : n < 1
 ·rw [if_neg h0, if_neg h1, if_pos h2]; exact ⟨fun q => by simp at q, fun q => by omega⟩
 rw [if_neg h0, if_neg h1, if_neg h2, z2z]
 constructor
 ·intro q; exact ⟨by omega, by omega, fun w hw => z3B.1 (q w hw)⟩
 ·intro q w hw; exact z3B.2 (q.2.2 w hw)
theorem z6K (l : List (List Int)) (n : Int) : qO l n = some (loE n l) := by
 unfold qO loE
 by_cases h0 : 16 < n
 ·simp [h0]
 by_cases h1 : 4096 < l.length
 ·have h' : (4096 : Int) < (l.length : Int) := by omega
  simp [h0, h1, h']
 by_cases h2 : n < 1
 ·have h' : ¬ (4096 : Int) < (l.length : Int) := by omega
  simp [h0, h1, h2, h']
 have d0 : decide (n > 16) = false := by simp; omega
 have d1 : decide (((l.length : Nat) : Int) > 4096) = false := by simp; omega
 have d2 : decide (n < 1) = false := by simp; omega
 simp only [d0, d1, d2, cond_false, if_neg h0, if_neg h1, if_neg h2]
 rw [bdT (kG l (by omega) (step := fun s => vE l n s) (fun _ w => eS (wE n w)) ?_ ?_)]
 ·cases xq (fun _ w => eS (wE n w)) l 0 <;> rfl
 ·intro i w hw
  have hi : i < l.length := (List.getElem?_eq_some_iff.1 hw).1
  have hq : decide ((i : Int) < (l.length : Int)) = true := by simpa using hi
  have he : qL w n = some (wE n w) := by
   rw [z3C, if_neg h0, if_neg h2]
   by_cases h : 256 < w.length
   ·rw [if_pos h]; unfold wE; rw [if_pos h]
   ·rw [if_neg h]
  unfold vE
  simp only [hq, cond_true, yV hw, Option.bind_some, he]
  by_cases hz : wE n w = 0
  ·simp [hz, eS, nS]
  ·have hb : (wE n w != 0) = true := by simpa using hz
   simp [hz, hb, eS, nS]
 ·unfold vE; simp
theorem z6L (l : List (List Int)) (hl : l.length < 4611686018427387904) {step : Int × Int → Option (LR (Int × Int) Int)}
  (h : ∀ (n : Int) (i : Nat) (x : List Int), l[i]? = some x → step (n, (i : Int)) = some (.next (w64 (n + ((x.length : Nat) : Int)), w64 ((i : Int) + 1)))) (h2 : ∀ n, step (n, (l.length : Int)) = some (.done n)) :
  loop step (0, 0) = some (l.foldl (fun n x => w64 (n + ((x.length : Nat) : Int))) 0) := by
 have gen : ∀ (m k : Nat) (n : Int), k ≤ l.length → l.length - k < m → W9 step m (n, (k : Int)) = some ((l.drop k).foldl (fun n x => w64 (n + ((x.length : Nat) : Int))) n) := by
  intro m
  induction m with
  | zero => intro k n _ h; omega
  | succ m ih =>
   intro k n hk hn
   rw [ZQ]
   rcases Nat.lt_or_ge k l.length with hlt | hge
   ·have hx : l[k]? = some l[k] := List.getElem?_eq_getElem hlt
    rw [h n k _ hx, List.drop_eq_getElem_cons hlt]
    simp only [List.foldl_cons]
    rw [wY (x := (k : Int) + 1) (by omega) (by omega)]
    exact ih (k + 1) _ hlt (by omega)
   ·have : k = l.length := by omega
    subst this
    rw [h2, List.drop_length]
    rfl
 exact gen fuel 0 0 (Nat.zero_le _) (by show l.length - 0 < 18446744073709551616; omega)
def stW (l : List (List Int)) : Int := l.foldl (fun n x => w64 (n + ((x.length : Nat) : Int))) 0
theorem z6d (l : List (List Int)) (hl : l.length < 4611686018427387904) : qN l = some (stW l) := by
 unfold qN
 rw [bdT (z6L l hl (step := fun s => vD l s.1 s.2) ?_ ?_)]
 ·rfl
 ·intro n i x hx
  have hi : i < l.length := (List.getElem?_eq_some_iff.1 hx).1
  have hq : decide ((i : Int) < (l.length : Int)) = true := by simpa using hi
  unfold vD
  simp only [hq, cond_true, yV hx, Option.bind_some]
 ·intro n; unfold vD; simp
def Jy (l : List (List Int)) : Nat := (l.map List.length).sum
theorem zaO {l : List (List Int)} (h : Jy l < 4611686018427387904) : stW l = (Jy l : Int) := by
 have gen : ∀ (l : List (List Int)) (n : Nat), n + Jy l < 4611686018427387904 → l.foldl (fun n x => w64 (n + ((x.length : Nat) : Int))) (n : Int) = ((n + Jy l : Nat) : Int) := by
  intro l
  induction l with
  | nil => intro n _; simp [Jy]
  | cons x l ih =>
   intro n hn
   have hs : Jy (x :: l) = x.length + Jy l := by simp [Jy]
   rw [hs] at hn ⊢
   rw [List.foldl_cons, wY (by omega) (by omega), ← Int.natCast_add, ih (n + x.length) (by omega)]
   congr 1; omega
 have := gen l 0 (by omega)
 simpa [stW] using this
theorem z3L {l : List (List Int)} {m : Nat} (h : ∀ w ∈ l, w.length ≤ m) : Jy l ≤ l.length * m := by
 induction l with
 | nil => simp [Jy]
 | cons x l ih =>
  have hs : Jy (x :: l) = x.length + Jy l := by simp [Jy]
  have h1 := h x (by simp)
  have h2 := ih fun w hw => h w (by simp [hw])
  rw [hs, List.length_cons, Nat.add_mul]
  omega
theorem z1V : ∀ {l : List (List Int)}, SW l ↔ ∀ i x y, l[i]? = some x → l[i + 1]? = some y → kT x y < 0
 | [] => by simp [SW]
 | [x] => ⟨fun _ i a b _ h2 => by simp at h2, fun _ => by simp [SW]⟩
 | x :: y :: l => by
  constructor
  ·intro h i a b h1 h2
   cases i with
   | zero =>
    simp at h1 h2
    subst h1; subst h2
    exact h.head y (by simp)
   | succ i => exact z1V.1 h.tail i a b (by simpa using h1) (by simpa using h2)
  ·intro h
   have ht : SW (y :: l) := z1V.2 fun i a b h1 h2 => h (i + 1) a b (by simpa using h1) (by simpa using h2)
   have h0 := h 0 x y rfl rfl
   refine List.pairwise_cons.2 ⟨fun z hz => ?_, ht⟩
   rcases List.mem_cons.1 hz with rfl | hz
   ·exact h0
   ·exact kl h0 (ht.head z hz)
theorem z3d {α ρ : Type} (l : List α) (hl : l.length < 4611686018427387904) {step : Int → Option (LR Int (Unit ⊕ ρ))} (f : Nat → α → Option ρ)
  (h : ∀ (i : Nat) (x : α), 1 ≤ i → l[i]? = some x → step (i : Int) = some (nS i (f i x))) (h2 : ∀ k : Nat, l.length ≤ k → step (k : Int) = some (.done (.inl ()))) :
  loop step 1 = some (oS (xq f (l.drop 1) 1)) := by
 have gen : ∀ (n : Nat) (k : Nat), 1 ≤ k → l.length - k < n → W9 step n (k : Int) = some (oS (xq f (l.drop k) k)) := by
  intro n
  induction n with
  | zero => intro k _ h; omega
  | succ n ih =>
   intro k hk hn
   rw [ZQ]
   rcases Nat.lt_or_ge k l.length with hlt | hge
   ·have hx : l[k]? = some l[k] := List.getElem?_eq_getElem hlt
    rw [h k _ hk hx, List.drop_eq_getElem_cons hlt]
    simp only [xq]
    cases hf : f k l[k] with
    | some r => rfl
    | none =>
     simp only [nS]
     rw [wY (by omega) (by omega)]
     exact ih (k + 1) (by omega) (by omega)
   ·rw [h2 k hge, List.drop_eq_nil_of_le hge]
    rfl
 exact gen fuel 1 (Nat.le_refl _) (by show l.length - 1 < 18446744073709551616; omega)
instance (l : List (List Int)) : Decidable (SW l) := by unfold SW; infer_instance
theorem z72 (l : List (List Int)) (r : ρ) : xq (fun i x => match l[i - 1]? with | some y => if 0 ≤ kT y x then some r else none | none => none) (l.drop 1) 1 = if SW l then none else some r := by
 by_cases hs : SW l
 ·rw [if_pos hs]
  refine We fun i x hx => ?_
  rw [List.getElem?_drop] at hx
  have hi : 1 + i < l.length := (List.getElem?_eq_some_iff.1 hx).1
  have hy : l[1 + i - 1]? = some l[i] := by rw [show 1 + i - 1 = i by omega]; exact List.getElem?_eq_getElem (by omega)
  rw [hy]
  have := z1V.1 hs i l[i] x (List.getElem?_eq_getElem (by omega)) (by rw [Nat.add_comm]; exact hx)
  simp only
  rw [if_neg (by omega)]
 ·rw [if_neg hs]
  cases hf : xq (fun i x => match l[i - 1]? with | some y => if 0 ≤ kT y x then some r else none | none => none) (l.drop 1) 1 with
  | some r' =>
   obtain ⟨i, x, h1, h2⟩ := kJ hf
   split at h2
   ·split at h2
    ·exact h2.symm
    ·cases h2
   ·cases h2
  | none =>
   exfalso
   refine hs (z1V.2 fun i x y hx hy => ?_)
   have := Yr hf i y (by rw [List.getElem?_drop, Nat.add_comm]; exact hy)
   rw [show 1 + i - 1 = i by omega, hx] at this
   simp only at this
   split at this
   ·cases this
   ·omega
theorem z7y (l : List (List Int)) (h : l.length ≤ 4096) (hw : ∀ w ∈ l, w.length < 4611686018427387904) : kq l = some (decide (SW l)) := by
 unfold kq
 rw [bdT (z3d l (by omega) (step := fun s => vF l s) (fun i x => match l[i - 1]? with | some y => if 0 ≤ kT y x then some false else none | none => none) ?_ ?_), z72]
 ·by_cases hs : SW l
  ·simp [hs, oS, jb]
  ·simp [hs, oS]
 ·intro i x hi hx
  have hil : i < l.length := (List.getElem?_eq_some_iff.1 hx).1
  have hy : l[i - 1]? = some l[i - 1] := List.getElem?_eq_getElem (by omega)
  have hq : decide ((i : Int) < (l.length : Int)) = true := by simpa using hil
  unfold vF
  rw [wY (x := (i : Int) - 1) (by omega) (by omega), show ((i : Int) - 1) = ((i - 1 : Nat) : Int) by omega]
  have hE := z3p l[i - 1] x (hw _ (List.getElem_mem (by omega)))
  simp only [hq, cond_true, yV hx, yV hy, Option.bind_some, hy, hE]
  by_cases hc : 0 ≤ kT l[i - 1] x
  ·simp [hc, nS]
  ·simp [hc, nS]
 ·intro k hk; unfold vF; have : decide ((k : Int) < (l.length : Int)) = false := by simp; omega
  simp only [this, cond_false]
def chE (n : Int) (l : List (List Int)) : Int := if loE n l ≠ 0 then loE n l else if SW l then (if 65536 < Jy l then 3 else 0) else 1
theorem z7d {l : List (List Int)} : chE n l = 0 ↔ loE n l = 0 ∧ SW l ∧ Jy l ≤ 65536 := by
 unfold chE
 by_cases h : loE n l = 0
 ·rw [if_neg (by simp [h])]
  by_cases h2 : SW l
  ·rw [if_pos h2]
   by_cases h3 : 65536 < Jy l
   ·rw [if_pos h3]; exact ⟨fun q => by simp at q, fun q => by omega⟩
   ·rw [if_neg h3]; exact ⟨fun _ => ⟨h, h2, by omega⟩, fun _ => rfl⟩
  ·rw [if_neg h2]; exact ⟨fun q => by simp at q, fun q => absurd q.2.1 h2⟩
 ·rw [if_pos h]; exact ⟨fun q => absurd q h, fun q => absurd q.1 h⟩
theorem z4G {l : List (List Int)} (h : loE n l = 0) : l.length ≤ 4096 ∧ (∀ w ∈ l, w.length ≤ 256) ∧ Jy l ≤ 1048576 := by
 obtain ⟨_, h1, h2⟩ := z2p.1 h
 refine ⟨h1, fun w hw => (h2 w hw).1, ?_⟩
 have := z3L (m := 256) fun w hw => (h2 w hw).1
 omega
theorem z3K (l : List (List Int)) (n : Int) : kr l n = some (chE n l) := by
 unfold kr chE
 rw [z6K]
 simp only [Option.bind_some]
 by_cases h : loE n l = 0
 ·obtain ⟨h1, h2, h3⟩ := z4G h
  rw [z7y l h1 fun w hw => by have := h2 w hw; omega, z6d l (by omega), zaO (by omega)]
  simp only [h, bne_self_eq_false, cond_false, Option.bind_some, ne_eq, not_true, if_false]
  by_cases hs : SW l
  ·by_cases hq : 65536 < Jy l
   ·have : (65536 : Int) < (Jy l : Int) := by omega
    simp [hs, hq, this]
   ·have : ¬ (65536 : Int) < (Jy l : Int) := by omega
    simp [hs, hq, this]
  ·simp [hs]
 ·have hb : (loE n l != 0) = true := by simpa using h
  simp [h, hb]
theorem z1J (w : List Int) : zY w = some w := by
 unfold zY
 rw [gdT (by omega)]
 simp
theorem KI (w : List Int) (h : w.length ≤ 4294967296) : zQ w = some w := by
 unfold zQ
 rw [gdT (by simpa using h)]
def QW (l : List (List Int)) : Prop := l.Pairwise fun a b => ¬ kT b a < 0
theorem z6H {l : List α} {n : Nat} {x : α} : x ∈ l.take n ↔ ∃ i, i < n ∧ l[i]? = some x := by
 rw [List.mem_iff_getElem?]
 constructor
 ·rintro ⟨i, h⟩
  rw [List.getElem?_take] at h
  split at h
  ·exact ⟨i, by omega, h⟩
  ·cases h
 ·rintro ⟨i, h1, h2⟩
  exact ⟨i, by rw [List.getElem?_take, if_pos h1]; exact h2⟩
theorem z4f {l : List (List Int)} (hs : SW l) {w : List Int}  (hi : i ≤ l.length) (h1 : ∀ m x, m < i → l[m]? = some x → kT x w < 0) (h2 : ∀ m x, i ≤ m → l[m]? = some x → kT w x < 0) : l.take i ++ w :: l.drop i = JG w l := by
 have ht : ∀ x ∈ l.take i, kT x w < 0 := fun x hx => by
  obtain ⟨m, q1, q2⟩ := z6H.1 hx
  exact h1 m x q1 q2
 have hd : ∀ x ∈ l.drop i, kT w x < 0 := fun x hx => by
  obtain ⟨m, q⟩ := List.mem_iff_getElem?.1 hx
  rw [List.getElem?_drop] at q
  exact h2 (i + m) x (by omega) q
 refine SW.unique ?_ hs.put fun x => ?_
 ·unfold SW
  rw [List.pairwise_append, List.pairwise_cons]
  refine ⟨hs.sub (List.take_sublist _ _), ⟨hd, hs.sub (List.drop_sublist _ _)⟩, fun a ha b hb => ?_⟩
  rcases List.mem_cons.1 hb with rfl | hb
  ·exact ht a ha
  ·exact kl (ht a ha) (hd b hb)
 ·rw [WK]
  have : x ∈ l ↔ x ∈ l.take i ∨ x ∈ l.drop i := by rw [← List.mem_append, List.take_append_drop]
  rw [this]
  simp only [List.mem_append, List.mem_cons]
  constructor
  ·rintro (h | h | h) <;> simp [h]
  ·rintro (h | h | h) <;> simp [h]
theorem zbj {l : List (List Int)} (hs : SW l) (hl : l.length ≤ 1000000) (hw : ∀ x ∈ l, x.length < 4611686018427387904) {w : List Int} (hww : w.length ≤ 4294967296) : Xi l w = some (JG w l) := by
 unfold Xi
 apply Ret.eq
 rw [vO]
 refine Ret.mono (uZ (fun q : Int × Int => ∃ i j : Nat, q = ((i : Int), (j : Int)) ∧ i ≤ j ∧ j ≤ l.length ∧ (∀ m x, m < i → l[m]? = some x → kT x w < 0) ∧ ∀ m x, j ≤ m → l[m]? = some x → ¬ kT x w < 0) (fun q => (q.2 - q.1).toNat) (R := fun t => ∃ i : Nat, t = (i : Int) ∧ i ≤ l.length ∧ (∀ m x, m < i → l[m]? = some x → kT x w < 0) ∧ ∀ m x, i ≤ m → l[m]? = some x → ¬ kT x w < 0) ?_ ?_ ?_) ?_
 ·exact ⟨0, l.length, rfl, Nat.zero_le _, Nat.le_refl _, fun m x h => by omega, fun m x h hx => by have := (List.getElem?_eq_some_iff.1 hx).1; omega⟩
 ·simp only; omega
 ·rintro _ ⟨i, j, rfl, g1, g2, g3, g4⟩
  show Ret (jk l w (i : Int) (j : Int)) _
  unfold jk
  rw [vo]
  refine ⟨fun hc => ?_, fun hc => ?_⟩
  ·have hij : i < j := by simpa using hc
   have hh : w64 (Int.tdiv (w64 ((i : Int) + (j : Int))) 2) = (((i + j) / 2 : Nat) : Int) := by
    rw [wY (x := (i : Int) + (j : Int)) (by omega) (by omega)]
    have : Int.tdiv ((i : Int) + (j : Int)) 2 = (((i + j) / 2 : Nat) : Int) := by
     rw [show ((i : Int) + (j : Int)) = ((i + j : Nat) : Int) by omega, Int.tdiv_eq_ediv_of_nonneg (by omega)]
     rfl
    rw [this, wY (by omega) (by omega)]
   rw [gdT (by omega), hh]
   have hm : (i + j) / 2 < l.length := by omega
   have hx : l[(i + j) / 2]? = some l[(i + j) / 2] := List.getElem?_eq_getElem hm
   rw [yV hx]
   simp only [Option.bind_some]
   rw [z11 _ _ (fun _ => hw _ (List.getElem_mem hm))]
   simp only [Option.bind_some]
   by_cases hc2 : kT l[(i + j) / 2] w < 0
   ·simp only [hc2, decide_true, cond_true]
    rw [wY (by omega) (by omega), zW]
    refine ⟨⟨(i + j) / 2 + 1, j, by simp, by omega, g2, fun m x h hmx => ?_, g4⟩, by simp only; omega⟩
    rcases Nat.lt_or_ge m ((i + j) / 2) with q | q
    ·have h1 := (List.pairwise_iff_getElem.1 hs) m ((i + j) / 2) (List.getElem?_eq_some_iff.1 hmx).1 hm q
     rw [(List.getElem?_eq_some_iff.1 hmx).2] at h1
     exact kl h1 hc2
    ·rw [show m = (i + j) / 2 by omega, hx] at hmx
     cases hmx
     exact hc2
   ·simp only [hc2, decide_false, cond_false]
    rw [zW]
    refine ⟨⟨i, (i + j) / 2, rfl, by omega, by omega, g3, fun m x h hmx hlt => ?_⟩, by simp only; omega⟩
    rcases Nat.lt_or_ge ((i + j) / 2) m with q | q
    ·have h1 := (List.pairwise_iff_getElem.1 hs) ((i + j) / 2) m hm (List.getElem?_eq_some_iff.1 hmx).1 q
     rw [(List.getElem?_eq_some_iff.1 hmx).2] at h1
     exact hc2 (kl h1 hlt)
    ·rw [show m = (i + j) / 2 by omega, hx] at hmx
     cases hmx
     exact hc2 hlt
  ·have hij : i = j := by
    have : ¬ i < j := by simpa using hc
    omega
   subst hij
   rw [zW]
   exact ⟨i, rfl, g2, g3, g4⟩
 ·rintro _ ⟨i, rfl, h1, h2, h3⟩
  have J2 : (∀ x, l[i]? = some x → x ≠ w) → Ret (uQ l w (i : Int)) fun r => r = JG w l := by
   intro hne
   have h4 : ∀ m x, i ≤ m → l[m]? = some x → kT w x < 0 := by
    intro m x hm hx
    have hil : i < l.length := by have := (List.getElem?_eq_some_iff.1 hx).1; omega
    have hxi : l[i]? = some l[i] := List.getElem?_eq_getElem hil
    have hlt : kT w l[i] < 0 := by
     rcases z5f.1 (h3 i _ (Nat.le_refl _) hxi) with q | q
     ·exact q
     ·exact absurd q (hne _ hxi)
    rcases Nat.lt_or_ge i m with q | q
    ·have h5 := (List.pairwise_iff_getElem.1 hs) i m hil (List.getElem?_eq_some_iff.1 hx).1 q
     rw [(List.getElem?_eq_some_iff.1 hx).2] at h5
     exact kl hlt h5
    ·rw [show m = i by omega, hxi] at hx
     cases hx
     exact hlt
   unfold uQ
   rw [gdT (by simp; omega), vO]
   have hlen : w64 ((((l ++ ([[]] : List (List Int))).length : Nat) : Int) - 1) = ((l.length : Nat) : Int) := by
    rw [List.length_append, List.length_singleton, wY (by omega) (by omega)]; omega
   rw [hlen]
   refine Ret.mono (uZ (fun q : List (List Int) × Int => ∃ (j : Nat) (x : List Int), q = (l.take j ++ x :: l.drop j, (j : Int)) ∧ i ≤ j ∧ j ≤ l.length) (fun q => q.2.toNat) (R := fun t => ∃ x : List Int, t = l.take i ++ x :: l.drop i) ⟨l.length, [], by simp, h1, Nat.le_refl _⟩ (by simp only [Int.toNat_natCast]; omega) ?_) ?_
   ·rintro _ ⟨j, x, rfl, g1, g2⟩
    show Ret (jl (i : Int) (l.take j ++ x :: l.drop j) (j : Int)) _
    unfold jl
    rw [vo]
    refine ⟨fun hc => ?_, fun hc => ?_⟩
    ·have hij : i < j := by simpa using hc
     have hA : (l.take j).length = j := by rw [List.length_take]; omega
     have hy : (l.take j ++ x :: l.drop j)[j - 1]? = some l[j - 1] := by
      rw [List.getElem?_append_left (by omega), List.getElem?_take, if_pos (by omega)]; exact List.getElem?_eq_getElem (by omega)
     have hz : (l.take j ++ x :: l.drop j)[j]? = some x := by
      rw [List.getElem?_append_right (by omega), hA]; simp
     rw [wY (by omega) (by omega), show (j : Int) - 1 = ((j - 1 : Nat) : Int) by omega, yV hy, yV hz]
     simp only [Option.bind_some, zW, Int.toNat_natCast]
     refine ⟨⟨j - 1, l[j - 1], ?_, by omega, by omega⟩, by simp only [Int.toNat_natCast]; omega⟩
     rw [List.set_append_right _ _ (by omega), hA, Nat.sub_self, List.set_cons_zero]
     have e1 : l.take j = l.take (j - 1) ++ [l[j - 1]] := by
      have := List.take_add_one (l := l) (i := j - 1)
      rw [show j - 1 + 1 = j by omega, List.getElem?_eq_getElem (by omega)] at this
      exact this
     have e2 : l.drop (j - 1) = l[j - 1] :: l.drop j := by
      rw [List.drop_eq_getElem_cons (by omega), show j - 1 + 1 = j by omega]
     rw [e2, e1, List.append_assoc]
     rfl
    ·have hij : j = i := by
      have : ¬ i < j := by simpa using hc
      omega
     subst hij
     rw [zW]
     exact ⟨x, rfl⟩
   ·rintro _ ⟨x, rfl⟩
    unfold Zh
    have hA : (l.take i).length = i := by rw [List.length_take]; omega
    have hz : (l.take i ++ x :: l.drop i)[i]? = some x := by
     rw [List.getElem?_append_right (by omega), hA]; simp
    rw [gdT (by simpa using hww), yV hz]
    simp only [Option.bind_some, zW, Int.toNat_natCast]
    rw [List.set_append_right _ _ (by omega), hA, Nat.sub_self, List.set_cons_zero]
    exact z4f hs h1 h2 h4
  unfold Zi
  rw [vo]
  refine ⟨fun hc => ?_, fun hc => ?_⟩
  ·have hi : i < l.length := by simpa using hc
   have hx : l[i]? = some l[i] := List.getElem?_eq_getElem hi
   rw [yV hx]
   simp only [Option.bind_some]
   rw [z11 _ _ (fun _ => hw _ (List.getElem_mem hi))]
   simp only [Option.bind_some]
   by_cases he : l[i] = w
   ·have hb : (kT l[i] w == 0) = true := by rw [he, QK]; rfl
    rw [hb, cond_true, zW]
    refine SW.unique hs hs.put fun x => ?_
    rw [WK]
    refine ⟨fun q => .inr q, fun q => ?_⟩
    rcases q with rfl | q
    ·exact he ▸ List.getElem_mem hi
    ·exact q
   ·have hb : (kT l[i] w == 0) = false := by simp; exact fun q => he (z1I q)
    rw [hb, cond_false]
    exact J2 fun x hx2 => by rw [hx] at hx2; cases hx2; exact he
  ·have hi : ¬ i < l.length := by simpa using hc
   exact J2 fun x hx2 => by have := (List.getElem?_eq_some_iff.1 hx2).1; omega
theorem z2e {l : List (List Int)} (hl : l.length ≤ 1000000) (hw : ∀ x ∈ l, x.length ≤ 4294967296) : kh l = some (srt l) := by
 unfold kh
 have h := Kz (step := fun s => wI l s.1 s.2) (fun i => (srt (l.take i), (i : Int))) l.length (t := srt l) (by omega) (by
  intro i hi
  show wI l _ (i : Int) = _
  unfold wI
  have hq : decide ((i : Int) < (l.length : Int)) = true := by simpa using hi
  have hx : l[i]? = some l[i] := List.getElem?_eq_getElem hi
  simp only [hq, cond_true, yV hx, Option.bind_some]
  have hlen : (srt (l.take i)).length ≤ 1000000 := by have := z1g (l.take i); rw [List.length_take] at this; omega
  rw [zbj (z3P _) hlen (fun x hx => by have := hw x (List.mem_of_mem_take (W7.1 hx)); omega) (hw _ (List.getElem_mem hi))]
  simp only [Option.bind_some]
  rw [wY (by omega) (by omega), ← z6f, List.take_add_one, hx]
  rfl) (by
  show wI l _ (l.length : Int) = _
  unfold wI
  simp)
 have h0 : (srt (l.take 0), ((0 : Nat) : Int)) = (([] : List (List Int)), (0 : Int)) := by simp [srt]
 rw [h0] at h
 rw [bdT h]
 rfl
variable {σ : Type}
theorem Xj (f : Nat → σ → σ) (s : σ) (n : Nat) : (List.range (n + 1)).foldl (fun s i => f i s) s = f n ((List.range n).foldl (fun s i => f i s) s) := by
 rw [List.range_succ, List.foldl_append]; rfl
theorem XY {f : Nat → σ → σ} {I : Nat → σ → Prop} {s : σ} (h0 : I 0 s) : ∀ (n : Nat), (∀ i s, i < n → I i s → I (i + 1) (f i s)) → I n ((List.range n).foldl (fun s i => f i s) s)
 | 0, _ => h0
 | n + 1, h => by
  rw [Xj]
  exact h n _ (Nat.lt_succ_self n) (XY h0 n fun i s hi => h i s (by omega))
theorem Qi {σ α : Type} (g : α → σ → σ) (d : α) (l : List α) (s : σ) : (List.range l.length).foldl (fun s i => g ((l[i]?).getD d) s) s = l.foldl (fun s x => g x s) s := by
 have e : l = (List.range l.length).map fun i => (l[i]?).getD d := by
  apply List.ext_getElem (by simp)
  intro i h1 h2
  simp [List.getElem?_eq_getElem h1]
 have q : ((List.range l.length).map fun i => (l[i]?).getD d).foldl (fun s x => g x s) s = (List.range l.length).foldl (fun s i => g ((l[i]?).getD d) s) s := by rw [List.foldl_map]
 rw [← q, ← e]
theorem z0F {σ S τ : Type} {step : S → Option (LR S τ)} (st : σ → Nat → S) (f : Nat → σ → σ) (I : Nat → σ → Prop) (n : Nat) (hn : n < 9223372036854775808) {s0 : σ} {t : τ} (h0 : I 0 s0)
  (h : ∀ i s, i < n → I i s → step (st s i) = some (.next (st (f i s) (i + 1))) ∧ I (i + 1) (f i s))
  (hd : I n ((List.range n).foldl (fun s i => f i s) s0) → step (st ((List.range n).foldl (fun s i => f i s) s0) n) = some (.done t)) : loop step (st s0 0) = some t := by
 have inv : ∀ m, m ≤ n → I m ((List.range m).foldl (fun s i => f i s) s0) := fun m hm => XY h0 m fun i s hi hI => (h i s (by omega) hI).2
 refine Kz (fun m => st ((List.range m).foldl (fun s i => f i s) s0) m) n hn (fun i hi => ?_) (hd (inv n (Nat.le_refl _)))
 show step (st ((List.range i).foldl (fun s i => f i s) s0) i) = _
 rw [(h i _ hi (inv i (by omega))).1, Xj]
theorem vL (h : i < 9223372036854775807) : w64 ((i : Int) + 1) = ((i + 1 : Nat) : Int) := by rw [wY (by omega) (by omega)]; rfl
theorem z5H (k : Nat) : ∀ n, GG k (n + 1) = k * GG k n + 1
 | 0 => by simp [GG]
 | n + 1 => by
  have ih := z5H k n
  show GG k (n + 1) + k ^ (n + 1) = k * (GG k n + k ^ n) + 1
  rw [ih, Nat.mul_add, Nat.pow_succ, Nat.mul_comm (k ^ n) k]
  omega
theorem z9g (k : Nat) : ∀ u : List Nat, rv k u = rk k u.reverse
 | [] => by simp [rv, rk, GG, Wt]
 | i :: u => by
  have ih := z9g k u
  unfold rk at ih ⊢
  rw [List.reverse_reverse, List.length_reverse] at ih ⊢
  simp only [rv, List.length_cons, Wt, ih, z5H, Nat.add_mul]
  rw [Nat.mul_comm (GG k u.length) k, Nat.mul_comm (Wt k u) k]
  omega
def nx1 (m : z7) (s i : Nat) : Option Nat := if 0 ≤ (E m s i).To then some (E m s i).To.toNat else none
abbrev nob : Nat → Nat → Bool := fun _ _ => false
theorem z2k : ∀ (N : Nat) (l : List Nat), l.Nodup → (∀ t ∈ l, t < N) → l.length ≤ N
 | 0, l, _, h => by
  cases l with
  | nil => exact Nat.le_refl _
  | cons x l => have := h x (by simp); omega
 | N + 1, l, hn, h => by
  have ih := z2k N (l.erase N) (hn.erase N) fun t ht => by
   have h1 := h t (List.mem_of_mem_erase ht)
   have h2 : t ≠ N := fun e => by subst e; exact absurd ht (hn.not_mem_erase)
   omega
  by_cases hm : N ∈ l
  ·rw [List.length_erase_of_mem hm] at ih; omega
  ·rw [List.erase_of_not_mem hm] at ih; omega
variable {L : List (Nat × List Nat)}{c : Nat × List Nat}
section
variable {m : z7} (h : VM m)
include h
theorem XC : ∀ (u : List Nat) (q : Nat), z5G (kk m) nob (nx1 m) 0 u q → Wd (kk m) u.reverse ∧ aft m 0 u.reverse = (q : Int) ∧ q < m.Rows.length
 | [], q, e => by
  have e : q = 0 := e
  subst e
  exact ⟨by simp [Wd], rfl, h.len1⟩
 | i :: u, q, ⟨p, hp, hi, _, hn⟩ => by
  obtain ⟨g1, g2, g3⟩ := XC u p hp
  unfold nx1 at hn
  split at hn
  ·rename_i h0
   cases hn
   have q2 := (UB m u.reverse 0 i).2
   rw [g2, Kv] at q2
   rw [List.reverse_cons]
   refine ⟨fun j hj => ?_, by rw [q2]; omega, ?_⟩
   ·rcases List.mem_append.1 hj with g | g
    ·exact g1 j g
    ·rw [List.mem_singleton.1 g]; exact hi
   ·rcases h.edgeAt g3 hi with ⟨g, _⟩ | ⟨_, g, _⟩ <;> omega
  ·cases hn
theorem KT : ∀ (u : List Nat) (q : Nat), Wd (kk m) u.reverse → aft m 0 u.reverse = (q : Int) → z5G (kk m) nob (nx1 m) 0 u q
 | [], q, _, e => by have : (0 : Int) = q := e; show q = 0; omega
 | i :: u, q, hu, e => by
  rw [List.reverse_cons] at hu e
  have hu' : Wd (kk m) u.reverse := fun j hj => hu j (by simp [List.mem_reverse.1 hj])
  have hi : i < kk m := hu i (by simp)
  have q2 := (UB m u.reverse 0 i).2
  rw [e] at q2
  have hin := z2W h u.reverse 0 ⟨by omega, by have := h.len1; omega⟩ hu'
  by_cases hneg : aft m 0 u.reverse < 0
  ·exfalso
   unfold nxE at q2
   rw [if_pos hneg] at q2
   simp at q2
  ·obtain ⟨s, hs⟩ : ∃ s : Nat, aft m 0 u.reverse = s := ⟨(aft m 0 u.reverse).toNat, by omega⟩
   rw [hs, Kv] at q2
   refine ⟨s, KT u s hu' hs, hi, rfl, ?_⟩
   unfold nx1
   rw [if_pos (by omega), ← q2]
   simp
def zdg (L : List (Nat × List Nat)) (a : Nat) (x : zh) (c : Nat × List Nat) : Prop :=
 x.state_ = (c.1 : Int) ∧ ((c.2 = [] ∧ x.from_ = -1) ∨ ∃ (i : Nat) (u : List Nat) (p j : Nat), c.2 = i :: u ∧ x.input_ = (i : Int) ∧ x.from_ = (p : Int) ∧ j < a ∧ L[j]? = some (p, u))
structure Que (m : z7) (L : List (Nat × List Nat)) (a : Nat) (seen : List Bool) (Q : List zh) : Prop where
 len : seen.length = m.Rows.length
 seen : ∀ t : Nat, seen[t]? = some true ↔ ∃ u, (t, u) ∈ L
 nodup : (L.map (·.1)).Nodup
 qlen : Q.length + a = L.length
 arr : ∀ (j : Nat) (x : zh), Q[j]? = some x → ∃ c, L[a + j]? = some c ∧ zdg L (a + j) x c
theorem z1p {a : Nat}  (hb : Bfs (kk m) nob (nx1 m) 0 L a i) (hn : (L.map (·.1)).Nodup) : L.length ≤ m.Rows.length := by
 have := z2k m.Rows.length (L.map (·.1)) hn fun t ht => by
  obtain ⟨c, hc, rfl⟩ := List.mem_map.1 ht
  exact (XC h c.2 c.1 (hb.path c hc)).2.2
 simpa using this
theorem z9h {a : Nat}  {seen : List Bool} {Q : List zh} {σ : Type} (yr : σ × Bool) (x : zh) (hc : L[a]? = some c) (hx : x.state_ = (c.1 : Int))
  (hb : Bfs (kk m) nob (nx1 m) 0 L a 0) (hq : Que m L (a + 1) seen Q) {r : List zc} (hr : r.length = kk m) (hre : ∀ i, i < kk m → r[i]? = some (E m c.1 i)) :
  Ret (loop (fun s => xm x yr r s.1 s.2.1 s.2.2) (seen, Q, 0)) fun t => t.1 = yr.1 ∧ ∃ L', L.length ≤ L'.length ∧ L'.take L.length = L ∧ Bfs (kk m) nob (nx1 m) 0 L' a (kk m) ∧ Que m L' (a + 1) t.2.1 t.2.2 := by
 have hk := h.kk_le
 have hal := (List.getElem?_eq_some_iff.1 hc).1
 have hcN := (XC h c.2 c.1 (hb.path c (List.mem_of_getElem? hc))).2.2
 refine uZ (fun s => ∃ (i : Nat) (L' : List (Nat × List Nat)), s.2.2 = (i : Int) ∧ i ≤ kk m ∧ L.length ≤ L'.length ∧ L'.take L.length = L ∧ Bfs (kk m) nob (nx1 m) 0 L' a i ∧ Que m L' (a + 1) s.1 s.2.1) (fun s => 100 - s.2.2.toNat) ⟨0, L, rfl, Nat.zero_le _, Nat.le_refl _, List.take_length, hb, hq⟩ (by show 100 - _ < _; omega) ?_
 rintro ⟨seen', Q', _⟩ ⟨i, L', rfl, hi, hll, htk, hb', hq'⟩
 simp only at hq'
 show Ret (xm x yr r seen' Q' (i : Int)) _
 unfold xm
 rw [vo]
 refine ⟨fun h1 => ?_, fun h1 => ?_⟩
 ·have hlt : i < kk m := by simp at h1; omega
  have hc' : L'[a]? = some c := by
   have : (L'.take L.length)[a]? = some c := by rw [htk]; exact hc
   rwa [List.getElem?_take, if_pos hal] at this
  rw [yV (hre i hlt), Option.bind_some]
  have old : (∀ q, nx1 m c.1 i = some q → ∃ b ∈ L', b.1 = q) → Ret (yk (σ := σ) (i : Int) seen' Q') (LRP (fun s' => (∃ (i : Nat) (L' : List (Nat × List Nat)), s'.2.2 = (i : Int) ∧ i ≤ kk m ∧ L.length ≤ L'.length ∧ L'.take L.length = L ∧ Bfs (kk m) nob (nx1 m) 0 L' a i ∧ Que m L' (a + 1) s'.1 s'.2.1) ∧ 100 - s'.2.2.toNat < 100 - ((i : Int)).toNat) (fun t => t.1 = yr.1 ∧ ∃ L', L.length ≤ L'.length ∧ L'.take L.length = L ∧ Bfs (kk m) nob (nx1 m) 0 L' a (kk m) ∧ Que m L' (a + 1) t.2.1 t.2.2)) := by
   intro hn
   unfold yk
   rw [zW, vL (by omega)]
   exact ⟨⟨i + 1, L', rfl, hlt, hll, htk, hb'.old hc' hlt rfl hn, hq'⟩, by simp only; omega⟩
  rcases h.edgeAt hcN hlt with ⟨g1, _⟩ | ⟨g1, g2, _⟩
  ·have : ((E m c.1 i).To != -1) = false := by rw [g1]; rfl
   rw [this, cond_false]
   exact old fun q hq => by unfold nx1 at hq; rw [if_neg (by omega)] at hq; cases hq
  ·have e1 : ((E m c.1 i).To != -1) = true := by simp; omega
   obtain ⟨q, hq0⟩ : ∃ q : Nat, (E m c.1 i).To = q := ⟨(E m c.1 i).To.toNat, by omega⟩
   have hqN : q < m.Rows.length := by omega
   have hnx : nx1 m c.1 i = some q := by unfold nx1; rw [if_pos g1, hq0]; simp
   have hsq : seen'[q]? = some seen'[q]! := by
    have : q < seen'.length := by rw [hq'.len]; exact hqN
    rw [List.getElem?_eq_getElem this]; simp [this]
   rw [e1, cond_true, hq0, yV hsq, Option.bind_some]
   by_cases hs : seen'[q]! = true
   ·rw [hs]
    simp only [Bool.not_true, cond_false]
    refine old fun q' hq2 => ?_
    rw [hnx] at hq2
    cases hq2
    rw [hs] at hsq
    obtain ⟨u, hu⟩ := (hq'.seen q).1 hsq
    exact ⟨_, hu, rfl⟩
   ·have hs : seen'[q]! = false := by simpa using hs
    have hnot : ∀ u, (q, u) ∉ L' := fun u hu => by
     have := (hq'.seen q).2 ⟨u, hu⟩
     rw [hsq, hs] at this
     cases this
    have hL' := z1p h hb' hq'.nodup
    have hN := h.len64
    have hql := hq'.qlen
    rw [hs]
    simp only [Bool.not_false, cond_true]
    rw [Option.bind_some, gdT (by simp; omega)]
    unfold yk
    rw [zW, vL (by omega)]
    refine ⟨⟨i + 1, L' ++ [(q, i :: c.2)], rfl, hlt, by simp; omega, by rw [List.take_append_of_le_length hll, htk], hb'.new hc' hlt rfl hnx, ?_⟩, by simp only; omega⟩
    refine ⟨by simp [hq'.len], fun t => ?_, ?_, by simp; omega, fun j y hy => ?_⟩
    ·simp only [Int.toNat_natCast]
     rw [z7H (by rw [hq'.len]; exact hqN), hq'.seen]
     constructor
     ·rintro (rfl | ⟨u, hu⟩)
      ·exact ⟨_, List.mem_append_right _ (List.mem_singleton.2 rfl)⟩
      ·exact ⟨u, List.mem_append_left _ hu⟩
     ·rintro ⟨u, hu⟩
      rcases List.mem_append.1 hu with g | g
      ·exact .inr ⟨u, g⟩
      ·have := List.mem_singleton.1 g
       cases this
       exact .inl rfl
    ·rw [List.map_append, List.nodup_append]
     refine ⟨hq'.nodup, by simp, fun t ht s hs' e => ?_⟩
     obtain ⟨b, hb1, rfl⟩ := List.mem_map.1 ht
     have hs2 : s = q := by simpa using hs'
     exact hnot b.2 (by rw [← hs2, ← e]; exact hb1)
    ·rcases Nat.lt_or_ge j Q'.length with g | g
     ·rw [List.getElem?_append_left g] at hy
      obtain ⟨d, d1, d2, d3⟩ := hq'.arr j y hy
      have dl := (List.getElem?_eq_some_iff.1 d1).1
      refine ⟨d, by rw [List.getElem?_append_left dl]; exact d1, d2, ?_⟩
      rcases d3 with d3 | ⟨i', u', p, j', e1, e2, e3, e4, e5⟩
      ·exact .inl d3
      ·exact .inr ⟨i', u', p, j', e1, e2, e3, e4, by rw [List.getElem?_append_left (List.getElem?_eq_some_iff.1 e5).1]; exact e5⟩
     ·have hjl := (List.getElem?_eq_some_iff.1 hy).1
      simp at hjl
      have hj : j = Q'.length := by omega
      subst hj
      simp at hy
      subst hy
      refine ⟨(q, i :: c.2), by rw [List.getElem?_append_right (by omega), show a + 1 + Q'.length - L'.length = 0 by omega]; rfl, rfl, .inr ⟨i, c.2, c.1, a, rfl, rfl, hx, by omega, ?_⟩⟩
      rw [List.getElem?_append_left (by omega), hc']
 ·have : i = kk m := by simp at h1; omega
  subst this
  rw [zW]
  exact ⟨rfl, L', hll, htk, hb', hq'⟩
structure zcm (m : z7) (L : List (Nat × List Nat)) (a : Nat) (l : List (List Int)) (is : List Bool) : Prop where
 l1 : l.length = m.Rows.length
 l2 : is.length = m.Rows.length
 got : ∀ (j : Nat) (c : Nat × List Nat), j < a → L[j]? = some c → is[c.1]? = some true ∧ l[c.1]? = some (c.2.reverse.map Int.ofNat)
 rest : ∀ t : Nat, t < m.Rows.length → (∀ (j : Nat) (c : Nat × List Nat), j < a → L[j]? = some c → c.1 ≠ t) → is[t]? = some false ∧ l[t]? = some []
omit h in
theorem zbU (w : List Int) (hw : w.length ≤ 4294967296) : zQ w = some w := KI w hw
theorem z6B {a : Nat} {l : List (List Int)} {is : List Bool} (hp : zcm m L a l is)  (hc : L[a]? = some c) {x : zh} (hx : zdg L a x c) (hn : (L.map (·.1)).Nodup) (hb : Bfs (kk m) nob (nx1 m) 0 L a 0) :
  ∃ l' is', xu l is x = some (.next (l', is')) ∧ zcm m L (a + 1) l' is' := by
 have hal := (List.getElem?_eq_some_iff.1 hc).1
 have hcN := (XC h c.2 c.1 (hb.path c (List.mem_of_getElem? hc))).2.2
 obtain ⟨q1, q2⟩ := hx
 have hne : ∀ (j : Nat) (d : Nat × List Nat), j < a → L[j]? = some d → d.1 ≠ c.1 := fun j d hj hd e => by
  have h1 : (L.map (·.1))[j]? = some d.1 := by rw [List.getElem?_map, hd]; rfl
  have h2 : (L.map (·.1))[a]? = some c.1 := by rw [List.getElem?_map, hc]; rfl
  rw [← e] at h2
  have := ((List.getElem?_inj (List.getElem?_eq_some_iff.1 h1).1 hn).1 (h1.trans h2.symm))
  omega
 obtain ⟨r1, r2⟩ := hp.rest c.1 hcN hne
 have main : ∀ w : List Int, w = c.2.reverse.map Int.ofNat → zcm m L (a + 1) (l.set c.1 w) (is.set c.1 true) := by
  intro w hw
  refine ⟨by simp [hp.l1], by simp [hp.l2], fun j d hj hd => ?_, fun t ht hall => ?_⟩
  ·by_cases e : j = a
   ·subst e
    rw [hc] at hd
    cases hd
    rw [List.getElem?_set_self (by rw [hp.l2]; exact hcN), List.getElem?_set_self (by rw [hp.l1]; exact hcN), hw]
    exact ⟨rfl, rfl⟩
   ·have hne' := hne j d (by omega) hd
    rw [List.getElem?_set_ne (Ne.symm hne'), List.getElem?_set_ne (Ne.symm hne')]
    exact hp.got j d (by omega) hd
  ·have hne' : c.1 ≠ t := hall a c (by omega) hc
   rw [List.getElem?_set_ne hne', List.getElem?_set_ne hne']
   exact hp.rest t ht fun j d hj hd => hall j d (by omega) hd
 unfold xu
 rw [q1, yV r1, Option.bind_some]
 simp only [Int.toNat_natCast]
 rcases q2 with ⟨q2, q3⟩ | ⟨i, u, p, j, q2, q3, q4, q5, q6⟩
 ·have : (x.from_ != -1) = false := by rw [q3]; rfl
  rw [this, cond_false]
  refine ⟨l, is.set c.1 true, rfl, ?_⟩
  have := main [] (by rw [q2]; rfl)
  have e : l.set c.1 [] = l := by
   apply List.ext_getElem?
   intro t
   by_cases e : t = c.1
   ·subst e; rw [List.getElem?_set_self (by rw [hp.l1]; exact hcN), r2]
   ·rw [List.getElem?_set_ne (Ne.symm e)]
  rwa [e] at this
 ·have : (x.from_ != -1) = true := by rw [q4]; simp <;> omega
  obtain ⟨g1, g2⟩ := hp.got j (p, u) q5 q6
  have hul : u.length ≤ j := hb.short j (p, u) q6
  have hjL := (List.getElem?_eq_some_iff.1 q6).1
  have hLN := z1p h hb hn
  have hN := h.len64
  rw [this, cond_true, q4, yV g2, Option.bind_some, zbU _ (by simp; omega), Option.bind_some, gdT (by simp; omega), z1J, Option.bind_some, yV r2, Option.bind_some]
  refine ⟨_, _, rfl, main _ ?_⟩
  rw [q2, q3]
  simp
theorem K2 : Ret (km m 0) (z3q m) := by
 have l1 := h.len1
 have hN := h.len64
 have e0 : ((m.Rows.length : Nat) : Int).toNat = m.Rows.length := by simp
 unfold km j9
 rw [gdT (by omega), gdT (by omega), Option.bind_some, e0, vO]
 refine Ret.mono (Q := fun t => ∃ l is, t = .next (l, is) ∧ z3q m (l, is)) ?_ ?_
 ·dsimp only
  unfold vz
  have hrep : (List.replicate m.Rows.length false)[(0 : Nat)]? = some false := by rw [List.getElem?_replicate, if_pos (by omega)]
  rw [gdT (by omega), e0, vO, show idx (List.replicate m.Rows.length false) 0 = some false from hrep, zW, vO]
  refine Ret.mono (Q := fun t => ∃ l is, t = .next (l, is) ∧ z3q m (l, is)) ?_ fun t ht => zW.2 ht
  have hst0 : Que m [(0, [])] 0 ((List.replicate m.Rows.length false).set (0 : Int).toNat true) [zh.mk 0 (-1) (-1)] := by
   refine ⟨by simp, fun t => ?_, by simp, by simp, fun j x hx => ?_⟩
   ·show ((List.replicate m.Rows.length false).set 0 true)[t]? = some true ↔ _
    rw [z7H (by simp; omega)]
    constructor
    ·rintro (rfl | q)
     ·exact ⟨[], by simp⟩
     ·rw [List.getElem?_replicate] at q; split at q <;> cases q
    ·rintro ⟨u, hu⟩
     simp at hu
     exact .inl hu.1
   ·have hj := (List.getElem?_eq_some_iff.1 hx).1
    simp at hj
    subst hj
    simp at hx
    subst hx
    exact ⟨(0, []), rfl, rfl, .inl ⟨rfl, rfl⟩⟩
  have hp0 : zcm m [(0, [])] 0 (List.replicate m.Rows.length ([] : List Int)) (List.replicate m.Rows.length false) := by
   refine ⟨by simp, by simp, fun j c hj => by omega, fun t ht _ => ?_⟩
   rw [List.getElem?_replicate, List.getElem?_replicate, if_pos ht, if_pos ht]
   exact ⟨rfl, rfl⟩
  refine uZ (fun s => ∃ (a : Nat) (L : List (Nat × List Nat)) (l : List (List Int)) (is : List Bool), s.1 = .next (l, is) ∧ a ≤ L.length ∧ Bfs (kk m) nob (nx1 m) 0 L a 0 ∧ Que m L a s.2.1 s.2.2 ∧ zcm m L a l is) (fun s => match s.1 with | .next (l, is) => 200 - (is.countP id) | .done _ => 0) ⟨0, _, _, _, rfl, by simp, Bfs.start, hst0, hp0⟩ (by show 200 - _ < _; omega) ?_
  rintro ⟨sg, seen, Q⟩ ⟨a, L, l, is, hsg, haL, hb, hq, hp⟩
  simp only at hsg hq
  subst hsg
  have hLN := z1p h hb hq.nodup
  have hql := hq.qlen
  show Ret (w7 m (yOf (fun s x => xu s.1 s.2 x)) (.next (l, is)) seen Q) _
  unfold w7
  rw [vo]
  refine ⟨fun h1 => ?_, fun h1 => ?_⟩
  ·have hQ : 0 < Q.length := by simp at h1; omega
   have hx0 : Q[0]? = some Q[0] := List.getElem?_eq_getElem hQ
   obtain ⟨c, c1, c2⟩ := hq.arr 0 _ hx0
   rw [Nat.add_zero] at c1 c2
   have hal := (List.getElem?_eq_some_iff.1 c1).1
   have hcN := (XC h c.2 c.1 (hb.path c (List.mem_of_getElem? c1))).2.2
   obtain ⟨l', is', y1, y2⟩ := z6B h hp c1 c2 hq.nodup hb
   have yv : yOf (fun (s : List (List Int) × List Bool) x => xu s.1 s.2 x) (.next (l, is)) Q[0] = some (.next (l', is'), true) := by
    unfold yOf
    simp only
    rw [y1]
   obtain ⟨r, hr, hrl, hre⟩ := h.rowAt hcN
   have hs0 := c2.1
   rw [show idx Q 0 = some Q[0] from hx0, Option.bind_some, gdT (by omega), yv, Option.bind_some]
   simp only [Bool.not_true, cond_false]
   rw [hs0, yV hr, Option.bind_some, vO]
   have hq' : Que m L (a + 1) seen (Q.drop 1) := by
    refine ⟨hq.len, hq.seen, hq.nodup, by rw [List.length_drop]; omega, fun j x hx => ?_⟩
    rw [List.getElem?_drop] at hx
    have := hq.arr (1 + j) x hx
    rwa [show a + (1 + j) = a + 1 + j by omega] at this
   refine (z9h h (σ := LR (List (List Int) × List Bool) Empty) (LR.next (l', is'), true) Q[0] c1 hs0 hb hq' hrl hre).mono ?_
   rintro ⟨sg', seen', Q'⟩ ⟨e1, L', g1, g2, g3, g4⟩
   simp only at e1 g4
   rw [zW]
   have same : ∀ j, j < L.length → L'[j]? = L[j]? := fun j hj => by
    have : (L'.take L.length)[j]? = L[j]? := by rw [g2]
    rwa [List.getElem?_take, if_pos hj] at this
   have hal' : a < L'.length := by omega
   refine ⟨⟨a + 1, L', l', is', e1, hal', g3.step hal', g4, ?_⟩, ?_⟩
   ·refine ⟨y2.l1, y2.l2, fun j d hj hd => y2.got j d hj (by rw [← same j (by omega)]; exact hd), fun t ht hall => y2.rest t ht fun j d hj hd => hall j d hj (by rw [same j (by omega)]; exact hd)⟩
   ·subst e1
    have hfalse : is[c.1]? = some false := (hp.rest c.1 hcN fun j d hj hd e => by
     have h1 : (L.map (·.1))[j]? = some d.1 := by rw [List.getElem?_map, hd]; rfl
     have h2 : (L.map (·.1))[a]? = some c.1 := by rw [List.getElem?_map, c1]; rfl
     rw [← e] at h2
     have := ((List.getElem?_inj (List.getElem?_eq_some_iff.1 h1).1 hq.nodup).1 (h1.trans h2.symm))
     omega).1
    have hset : is' = is.set c.1 true := by
     unfold xu at y1
     rw [hs0, yV hfalse, Option.bind_some] at y1
     simp only [Int.toNat_natCast] at y1
     rcases yb y1 with ⟨_, y1⟩ | ⟨_, y1⟩
     ·obtain ⟨_, _, y1⟩ := zn y1
      obtain ⟨_, _, y1⟩ := zn y1
      obtain ⟨_, y1⟩ := gdE y1
      obtain ⟨_, _, y1⟩ := zn y1
      obtain ⟨_, _, y1⟩ := zn y1
      cases y1; rfl
     ·cases y1; rfl
    subst hset
    have hcl : c.1 < is.length := by rw [hp.l2]; exact hcN
    have cnt : (is.set c.1 true).countP id = is.countP id + 1 := by
     rw [List.countP_set hcl]
     have : is[c.1] = false := by rw [List.getElem?_eq_getElem hcl] at hfalse; exact Option.some.inj hfalse
     simp [this]
    have cle : (is.set c.1 true).countP id ≤ (is.set c.1 true).length := List.countP_le_length
    rw [List.length_set, hp.l2] at cle
    show 200 - (is.set c.1 true).countP id < 200 - is.countP id
    omega
  ·have hQ : Q.length = 0 := by simp at h1; simp [h1]
   have ha : a = L.length := by omega
   rw [zW]
   refine ⟨l, is, rfl, hp.l1, hp.l2, fun t ht => ?_⟩
   have atEnd : ∀ c, L[a]? = some c → False := fun c hc => by have := (List.getElem?_eq_some_iff.1 hc).1; omega
   by_cases hex : ∃ u, (t, u) ∈ L
   ·obtain ⟨u, hu⟩ := hex
    obtain ⟨j, hj⟩ := List.getElem?_of_mem hu
    have hjl := (List.getElem?_eq_some_iff.1 hj).1
    obtain ⟨g1, g2⟩ := hp.got j (t, u) (by omega) hj
    obtain ⟨p1, p2, p3⟩ := XC h u t (hb.path _ hu)
    refine .inl ⟨g1, u.reverse, g2, p1, ?_, p2, fun v hv e => ?_⟩
    ·rw [List.length_reverse]
     have : u.length ≤ j := hb.short j (t, u) hj
     omega
    ·obtain ⟨j2, b, b1, b2, b3⟩ := hb.reach v.reverse t (KT h v.reverse t (by rw [List.reverse_reverse]; exact hv) (by rw [List.reverse_reverse]; exact e)) fun c hc => (atEnd c hc).elim
     have hb2 : b.2 = u := by
      have h1 : (L.map (·.1))[j]? = some t := by rw [List.getElem?_map, hj]; rfl
      have h2 : (L.map (·.1))[j2]? = some t := by rw [List.getElem?_map, b1]; exact congrArg some b2
      have := ((List.getElem?_inj (List.getElem?_eq_some_iff.1 h1).1 hq.nodup).1 (h1.trans h2.symm))
      subst this
      rw [hj] at b1
      cases b1; rfl
     rw [hb2, z9g, z9g, List.reverse_reverse] at b3
     exact b3
   ·refine .inr ⟨(hp.rest t ht fun j c hj hc e => hex ⟨c.2, by rw [← e]; exact List.mem_of_getElem? hc⟩).1, fun v hv e => ?_⟩
    obtain ⟨j2, b, b1, b2, _⟩ := hb.reach v.reverse t (KT h v.reverse t (by rw [List.reverse_reverse]; exact hv) (by rw [List.reverse_reverse]; exact e)) fun c hc => (atEnd c hc).elim
    exact hex ⟨b.2, by rw [← b2]; exact List.mem_of_getElem? b1⟩
 ·rintro t ⟨l, is, rfl, ha⟩
  simp only
  unfold j8
  exact zW.2 ha
theorem UO : Ret (ji m) fun r => r.2.2 = 0 ∧ z3q m (r.1, r.2.1) := by
 unfold ji
 rw [z2R, z87 h, Option.bind_some, bne_self_eq_false, cond_false, vO]
 exact (K2 h).mono fun r hr => zW.2 ⟨rfl, hr⟩
end
open Classical
section
variable {K : Type} [BEq K] [LawfulBEq K]
def z3v (S : List K) (x : K) : List K := if x ∈ S then S else S ++ [x]
def mks (S : List K) : List (K × Bool) := S.map fun x => (x, true)
theorem Yp {S : List K} {x y : K} : y ∈ z3v S x ↔ y ∈ S ∨ y = x := by
 unfold z3v
 split
 ·rename_i h
  exact ⟨.inl, fun q => q.elim id (fun e => e ▸ h)⟩
 ·simp
theorem Vo {S : List K} {x : K} (h : S.Nodup) : (z3v S x).Nodup := by
 unfold z3v
 split
 ·exact h
 ·rename_i hx
  rw [List.nodup_append]
  exact ⟨h, by simp, fun a ha b hb e => by simp only [List.mem_singleton] at hb; subst hb; subst e; exact hx ha⟩
theorem z4z : ∀ {S : List K} {x : K}, x ∈ S → UE (mks S) x true = mks S
 | [], x, h => by simp at h
 | y :: S, x, h => by
  show (if (y == x) = true then (x, true) :: mks S else (y, true) :: UE (mks S) x true) = (y, true) :: mks S
  by_cases e : (y == x) = true
  ·rw [if_pos e, eq_of_beq e]
  ·rw [if_neg e]
   have : x ∈ S := by
    rcases List.mem_cons.1 h with q | q
    ·subst q; exact (e (beq_self_eq_true x)).elim
    ·exact q
   rw [z4z this]
theorem z2m : ∀ {S : List K} {x : K}, x ∉ S → UE (mks S) x true = mks (S ++ [x])
 | [], x, _ => rfl
 | y :: S, x, h => by
  show (if (y == x) = true then (x, true) :: mks S else (y, true) :: UE (mks S) x true) = (y, true) :: mks (S ++ [x])
  have e : ¬ (y == x) = true := fun e => h (by rw [eq_of_beq e]; simp)
  rw [if_neg e, z2m (fun q => h (by simp [q]))]
theorem Kx (S : List K) (x : K) : UE (mks S) x true = mks (z3v S x) := by
 unfold z3v
 split
 ·rename_i h; exact z4z h
 ·rename_i h; exact z2m h
end
instance : LawfulBEq z8 := {
 eq_of_beq := by
  rintro ⟨a, b, c⟩ ⟨d, e, f⟩ h
  simp only [BEq.beq, Bool.and_eq_true, decide_eq_true_eq] at h
  simp_all
 rfl := by
  rintro ⟨a, b, c⟩
  simp [BEq.beq] }
instance : LawfulBEq (x6 Int) := {
 eq_of_beq := by
  rintro ⟨a, b⟩ ⟨d, e⟩ h
  simp only [BEq.beq, Bool.and_eq_true, decide_eq_true_eq] at h
  simp_all
 rfl := by
  rintro ⟨a, b⟩
  simp [BEq.beq] }
abbrev Mk3 := List Int × List (x6 Int) × List z8
def mk3 (x : Mk3) : zg := ⟨mks x.1, mks x.2.1, mks x.2.2⟩
def z9H (Z : List z8) (bf : Option (Nat × Nat)) (i : Nat) : List z8 := match bf with | some p => z3v Z ⟨p.1, p.2, i⟩ | none => Z
def Wu (m : z7) : Nat → Option (Nat × Nat) → List Nat → Mk3 → Mk3
 | _, _, [], x => x
 | s, bf, i :: w, x => if (E m s i).To = -1 then x else Wu m (E m s i).To.toNat (some (s, i)) w (z3v x.1 (E m s i).To, z3v x.2.1 ⟨s, i⟩, z9H x.2.2 bf i)
def z2G (m : z7) (s : Nat) : Nat → List Nat → Prop
 | t, [] => s = t
 | t, i :: w => s = t ∨ ((E m t i).To ≠ -1 ∧ z2G m s (E m t i).To.toNat w)
def z5Q (m : z7) (s j : Nat) : Nat → List Nat → Prop
 | _, [] => False
 | t, i :: w => (E m t i).To ≠ -1 ∧ ((s = t ∧ j = i) ∨ z5Q m s j (E m t i).To.toNat w)
def nxt (m : z7) (k t : Nat) : List Nat → Prop
 | [] => False
 | i :: _ => i = k ∧ (E m t k).To ≠ -1
def z5P (m : z7) (s j k : Nat) : Nat → List Nat → Prop
 | _, [] => False
 | t, i :: w => (E m t i).To ≠ -1 ∧ ((s = t ∧ j = i ∧ nxt m k (E m t i).To.toNat w) ∨ z5P m s j k (E m t i).To.toNat w)
section
variable {m : z7} (h : VM m)
include h
theorem z5b (s : Nat) (w : List Nat) : z2G m s s w := by have _ := h; cases w <;> simp [z2G]
theorem Vd {t i : Nat} (ht : t < m.Rows.length) (hi : i < kk m) (hn : (E m t i).To ≠ -1) : (E m t i).To.toNat < m.Rows.length ∧ (((E m t i).To.toNat : Nat) : Int) = (E m t i).To := by
 rcases h.edgeAt ht hi with q | q
 ·exact (hn q.1).elim
 ·omega
theorem zb6 : ∀ (w : List Nat) (t : Nat) (bf : Option (Nat × Nat)) (x : Mk3) (s : Nat), t < m.Rows.length → Wd (kk m) w → (t : Int) ∈ x.1 → ((s : Int) ∈ (Wu m t bf w x).1 ↔ (s : Int) ∈ x.1 ∨ z2G m s t w)
 | [], t, bf, x, s, _, _, hx => by
  simp only [Wu, z2G]
  exact ⟨.inl, fun q => q.elim id (fun e => e ▸ hx)⟩
 | i :: w, t, bf, x, s, ht, hw, hx => by
  have hi : i < kk m := hw i (by simp)
  simp only [Wu, z2G]
  by_cases hn : (E m t i).To = -1
  ·rw [if_pos hn]
   simp only [hn, ne_eq, not_true_eq_false, false_and, or_false]
   exact ⟨.inl, fun q => q.elim id (fun e => e ▸ hx)⟩
  ·rw [if_neg hn]
   obtain ⟨q1, q2⟩ := Vd h ht hi hn
   rw [zb6 w _ _ _ s q1 (fun j hj => hw j (by simp [hj])) (by show (((E m t i).To.toNat : Nat) : Int) ∈ z3v x.1 _; rw [Yp, q2]; exact .inr rfl)]
   show (s : Int) ∈ z3v x.1 _ ∨ _ ↔ _
   rw [Yp]
   constructor
   ·rintro ((q | q) | q)
    ·exact .inl q
    ·have : s = (E m t i).To.toNat := by omega
     exact .inr (.inr ⟨hn, this ▸ z5b h _ _⟩)
    ·exact .inr (.inr ⟨hn, q⟩)
   ·rintro (q | q | q)
    ·exact .inl (.inl q)
    ·exact .inl (.inl (q ▸ hx))
    ·exact .inr q.2
theorem zb9 : ∀ (w : List Nat) (t : Nat) (bf : Option (Nat × Nat)) (x : Mk3) (s j : Nat), t < m.Rows.length → Wd (kk m) w → ((⟨s, j⟩ : x6 Int) ∈ (Wu m t bf w x).2.1 ↔ (⟨s, j⟩ : x6 Int) ∈ x.2.1 ∨ z5Q m s j t w)
 | [], t, bf, x, s, j, _, _ => by simp only [Wu, z5Q, or_false]
 | i :: w, t, bf, x, s, j, ht, hw => by
  have hi : i < kk m := hw i (by simp)
  simp only [Wu, z5Q]
  by_cases hn : (E m t i).To = -1
  ·rw [if_pos hn]; simp [hn]
  ·rw [if_neg hn]
   obtain ⟨q1, q2⟩ := Vd h ht hi hn
   rw [zb9 w _ _ _ s j q1 (fun j hj => hw j (by simp [hj]))]
   show (⟨s, j⟩ : x6 Int) ∈ z3v x.2.1 _ ∨ _ ↔ _
   rw [Yp, x6.mk.injEq]
   constructor
   ·rintro ((q | q) | q)
    ·exact .inl q
    ·exact .inr ⟨hn, .inl (by omega)⟩
    ·exact .inr ⟨hn, .inr q⟩
   ·rintro (q | ⟨_, q | q⟩)
    ·exact .inl (.inl q)
    ·exact .inl (.inr (by omega))
    ·exact .inr q
theorem zb7 : ∀ (w : List Nat) (t : Nat) (bf : Option (Nat × Nat)) (x : Mk3) (s j k : Nat), t < m.Rows.length → Wd (kk m) w →
  ((⟨s, j, k⟩ : z8) ∈ (Wu m t bf w x).2.2 ↔ (⟨s, j, k⟩ : z8) ∈ x.2.2 ∨ (bf = some (s, j) ∧ nxt m k t w) ∨ z5P m s j k t w)
 | [], t, bf, x, s, j, k, _, _ => by simp only [Wu, z5P, nxt, and_false, or_false]
 | i :: w, t, bf, x, s, j, k, ht, hw => by
  have hi : i < kk m := hw i (by simp)
  simp only [Wu, z5P, nxt]
  by_cases hn : (E m t i).To = -1
  ·rw [if_pos hn]
   constructor
   ·exact .inl
   ·rintro (q | ⟨_, rfl, q⟩ | ⟨q, _⟩)
    ·exact q
    ·exact (q hn).elim
    ·exact (q hn).elim
  ·rw [if_neg hn]
   obtain ⟨q1, q2⟩ := Vd h ht hi hn
   rw [zb7 w _ _ _ s j k q1 (fun j hj => hw j (by simp [hj]))]
   have hz : ((⟨s, j, k⟩ : z8) ∈ z9H x.2.2 bf i) ↔ ((⟨s, j, k⟩ : z8) ∈ x.2.2 ∨ (bf = some (s, j) ∧ i = k)) := by
    unfold z9H
    cases bf with
    | none => simp
    | some p =>
     obtain ⟨a, b⟩ := p
     simp only [Yp, z8.mk.injEq, Option.some.injEq, Prod.mk.injEq]
     constructor
     ·rintro (q | q)
      ·exact .inl q
      ·exact .inr (by omega)
     ·rintro (q | q)
      ·exact .inl q
      ·exact .inr (by omega)
   show (⟨s, j, k⟩ : z8) ∈ z9H x.2.2 bf i ∨ _ ↔ _
   rw [hz]
   simp only [Option.some.injEq, Prod.mk.injEq]
   constructor
   ·rintro ((q | ⟨q, rfl⟩) | ⟨⟨rfl, rfl⟩, q⟩ | q)
    ·exact .inl q
    ·exact .inr (.inl ⟨q, rfl, hn⟩)
    ·exact .inr (.inr ⟨hn, .inl ⟨rfl, rfl, q⟩⟩)
    ·exact .inr (.inr ⟨hn, .inr q⟩)
   ·rintro (q | ⟨q, rfl, _⟩ | ⟨_, ⟨rfl, rfl, q⟩ | q⟩)
    ·exact .inl (.inl q)
    ·exact .inl (.inr ⟨q, rfl⟩)
    ·exact .inr (.inl ⟨⟨rfl, rfl⟩, q⟩)
    ·exact .inr (.inr q)
theorem zb8 : ∀ (w : List Nat) (t : Nat) (bf : Option (Nat × Nat)) (x : Mk3), x.1.Nodup ∧ x.2.1.Nodup ∧ x.2.2.Nodup → (Wu m t bf w x).1.Nodup ∧ (Wu m t bf w x).2.1.Nodup ∧ (Wu m t bf w x).2.2.Nodup
 | [], t, bf, x, q => by have _ := h; exact q
 | i :: w, t, bf, x, q => by
  simp only [Wu]
  split
  ·exact q
  ·refine zb8 w _ _ _ ⟨Vo q.1, Vo q.2.1, ?_⟩
   unfold z9H
   cases bf with
   | none => exact q.2.2
   | some p => exact Vo q.2.2
theorem zb5 (hw : Wd (kk m) w) (hl : w.length < 4611686018427387904) (x : Mk3) : xo m (w.map Int.ofNat) (mk3 x) = some (mk3 (Wu m 0 none w x)) := by
 unfold xo
 have key : loop (fun s => xi m (w.map Int.ofNat) s.1 s.2.1 s.2.2.1 s.2.2.2.1 s.2.2.2.2.1 s.2.2.2.2.2.1 s.2.2.2.2.2.2) ((mk3 x).states_, (mk3 x).edges_, (mk3 x).pairs_, 0, (-1), (-1), 0) = some (mk3 (Wu m 0 none w x)) := by
  refine Ret.eq (uZ (fun s => ∃ (u v : List Nat) (t : Nat) (bf : Option (Nat × Nat)) (y : Mk3), w = u ++ v ∧ t < m.Rows.length ∧ Wu m t bf v y = Wu m 0 none w x ∧ s = (mks y.1, mks y.2.1, mks y.2.2, (t : Int), (match bf with | some p => (p.1 : Int) | none => -1), (match bf with | some p => (p.2 : Int) | none => -1), (u.length : Int)))
   (fun s => w.length - s.2.2.2.2.2.2.toNat) ⟨[], w, 0, none, x, rfl, h.len1, rfl, rfl⟩ (by simp only; omega) ?_)
  rintro s ⟨u, v, t, bf, y, rfl, ht, hr, rfl⟩
  simp only
  unfold xi
  rw [vo]
  cases v with
  | nil =>
   constructor
   ·intro hc
    simp at hc
   ·intro _
    rw [zW, ← hr]
    rfl
  | cons i v =>
   have hi : i < kk m := hw i (by simp)
   constructor
   ·intro _
    have hix : idx ((u ++ i :: v).map Int.ofNat) (u.length : Int) = some (i : Int) := by
     rw [wR, List.getElem?_map, List.getElem?_append_right (Nat.le_refl _)]
     simp
    rw [hix, Option.bind_some, h.edge_eq ht hi, vo]
    have hr' := hr
    simp only [Wu] at hr'
    constructor
    ·intro hc
     rw [if_pos (by simpa using hc)] at hr'
     rw [zW, ← hr']
     rfl
    ·intro hc
     have hn : ¬ (E m t i).To = -1 := by simpa using hc
     rw [if_neg hn] at hr'
     obtain ⟨q1, q2⟩ := Vd h ht hi hn
     have hw1 : w64 ((u.length : Int) + 1) = (((u ++ [i]).length : Nat) : Int) := by
      rw [List.length_append, List.length_singleton]
      exact vL (by simp at hl; omega)
     have fin : ∀ Z, Z = mks (z9H y.2.2 bf i) → Ret (yC (mks y.1) (mks y.2.1) (t : Int) (u.length : Int) (i : Int) (E m t i) Z)
       (LRP (fun s' => (∃ (u' v' : List Nat) (t : Nat) (bf : Option (Nat × Nat)) (y : Mk3), u ++ i :: v = u' ++ v' ∧ t < m.Rows.length ∧ Wu m t bf v' y = Wu m 0 none (u ++ i :: v) x ∧ s' = (mks y.1, mks y.2.1, mks y.2.2, (t : Int), (match bf with | some p => (p.1 : Int) | none => -1), (match bf with | some p => (p.2 : Int) | none => -1), (u'.length : Int))) ∧ (u ++ i :: v).length - s'.2.2.2.2.2.2.toNat < (u ++ i :: v).length - ((u.length : Int)).toNat) fun t => t = mk3 (Wu m 0 none (u ++ i :: v) x)) := by
      rintro Z rfl
      unfold yC
      rw [zW]
      refine ⟨⟨u ++ [i], v, (E m t i).To.toNat, some (t, i), _, by simp, q1, hr', ?_⟩, ?_⟩
      ·rw [Kx, Kx, hw1, q2]
      ·simp only
       rw [hw1]
       simp
       omega
     rw [vo]
     cases bf with
     | none => exact ⟨fun q => by simp at q, fun _ => fin _ rfl⟩
     | some p => exact ⟨fun _ => fin _ (Kx _ _), fun q => by simp at q⟩
   ·intro hc
    simp at hc
    omega
 rw [key]
 rfl
end
structure xZ where
 State : Int
 Input : Int
 Next : Int
open Classical
def wN (w : List Nat) : List Int := w.map Int.ofNat
def lN (l : List (List Nat)) : List (List Int) := l.map wN
theorem Jx (w : List Nat) : (wN w).length = w.length := by simp [wN]
theorem ZV (l : List (List Nat)) : (lN l).length = l.length := by simp [lN]
variable {l : List (List Nat)}
theorem zbF (h : l[i]? = some w) : idx (lN l) (i : Int) = some (wN w) := by
 rw [wR, lN, List.getElem?_map, h]; rfl
def cvA (m : z7) (l : List (List Nat)) (x : Mk3) : Mk3 := l.foldl (fun x w => Wu m 0 none w x) x
def cv0 (m : z7) (l : List (List Nat)) : Mk3 := cvA m l ([0], [], [])
def WL (m : z7) (l : List (List Nat)) : Prop := l.length ≤ 4096 ∧ ∀ w ∈ l, Wd (kk m) w ∧ w.length ≤ 256
def z3w (m : z7) (x : xZ) : Nat → List Nat → Prop
 | t, [] => x.Input = -1 ∧ x.State = (t : Int)
 | t, i :: w => (x.Input = -1 ∧ x.State = (t : Int)) ∨ ((E m t i).To ≠ -1 ∧ ((x.State = (t : Int) ∧ x.Input = (i : Int) ∧ (x.Next = -1 ∨ ∃ k : Nat, x.Next = (k : Int) ∧ nxt m k (E m t i).To.toNat w)) ∨ z3w m x (E m t i).To.toNat w))
section
variable {m : z7} (h : VM m)
include h
theorem z3j (hl : WL m l) : ym m (lN l) = some (mk3 (cv0 m l)) := by
 unfold ym um
 rw [Option.bind_some]
 have key : loop (fun s => x5 m (lN l) s.1 s.2.1 s.2.2.1 s.2.2.2) (UE ([] : List (Int × Bool)) 0 true, ([] : List ((x6 Int) × Bool)), ([] : List (z8 × Bool)), (0 : Int)) = some ((mk3 (cv0 m l)).states_, (mk3 (cv0 m l)).edges_, (mk3 (cv0 m l)).pairs_) := by
  have e0 : (List.range l.length).foldl (fun s i => Wu m 0 none ((l[i]?).getD []) s) ([0], [], []) = cv0 m l := Qi (fun w s => Wu m 0 none w s) [] l _
  rw [← e0]
  refine z0F (σ := Mk3) (fun y i => ((mk3 y).states_, (mk3 y).edges_, (mk3 y).pairs_, (i : Int))) (fun i y => Wu m 0 none ((l[i]?).getD []) y) (fun _ _ => True) l.length (by have := hl.1; omega) (s0 := ([0], [], [])) trivial ?_ ?_
  ·intro i y hi _
   refine ⟨?_, trivial⟩
   have hw := List.getElem?_eq_getElem hi
   have hm := hl.2 _ (List.getElem_mem hi)
   unfold x5
   rw [ZV]
   simp only
   rw [show decide ((i : Int) < (l.length : Int)) = true by simp [hi], cond_true, zbF hw, Option.bind_some]
   have hr := zb5 h hm.1 (by omega) y
   rw [show (zg.mk (mk3 y).states_ (mk3 y).edges_ (mk3 y).pairs_) = mk3 y from rfl, show wN l[i] = l[i].map Int.ofNat from rfl, hr, Option.bind_some, vL (by have := hl.1; omega), hw]
   rfl
  ·intro _
   unfold x5
   rw [ZV]
   simp
 rw [key]
 rfl
theorem z9S : ∀ {x : Mk3}, (∀ w ∈ l, Wd (kk m) w) → (0 : Int) ∈ x.1 →
  (∀ s : Nat, (s : Int) ∈ (cvA m l x).1 ↔ (s : Int) ∈ x.1 ∨ ∃ w ∈ l, z2G m s 0 w) ∧ (∀ s j : Nat, (⟨s, j⟩ : x6 Int) ∈ (cvA m l x).2.1 ↔ (⟨s, j⟩ : x6 Int) ∈ x.2.1 ∨ ∃ w ∈ l, z5Q m s j 0 w) ∧
  (∀ s j k : Nat, (⟨s, j, k⟩ : z8) ∈ (cvA m l x).2.2 ↔ (⟨s, j, k⟩ : z8) ∈ x.2.2 ∨ ∃ w ∈ l, z5P m s j k 0 w) := by
 induction l with
 | nil => intro x _ _; simp [cvA]
 | cons w l ih =>
  intro x hw hx
  have hw1 := hw w (by simp)
  have h1 := fun s => zb6 h w 0 none x s h.len1 hw1 hx
  have h2 := fun s j => zb9 h w 0 none x s j h.len1 hw1
  have h3 := fun s j k => zb7 h w 0 none x s j k h.len1 hw1
  obtain ⟨a1, a2, a3⟩ := ih (x := Wu m 0 none w x) (fun u hu => hw u (by simp [hu])) (by have := (h1 0).2 (.inl hx); simpa using this)
  have e : cvA m (w :: l) x = cvA m l (Wu m 0 none w x) := rfl
  rw [e]
  refine ⟨fun s => ?_, fun s j => ?_, fun s j k => ?_⟩
  ·rw [a1, h1]; simp only [List.mem_cons, exists_eq_or_imp]
   exact or_assoc
  ·rw [a2, h2]; simp only [List.mem_cons, exists_eq_or_imp]
   exact or_assoc
  ·rw [a3, h3]; simp only [List.mem_cons, exists_eq_or_imp, reduceCtorEq, false_and, false_or]
   exact or_assoc
theorem z58 : ∀ {x : Mk3}, x.1.Nodup ∧ x.2.1.Nodup ∧ x.2.2.Nodup → (cvA m l x).1.Nodup ∧ (cvA m l x).2.1.Nodup ∧ (cvA m l x).2.2.Nodup := by
 induction l with
 | nil => exact fun q => q
 | cons w l ih => intro x q; exact ih (zb8 h w 0 none x q)
def zcn (x : Mk3) : Prop := (∀ y ∈ x.1, ∃ s : Nat, y = (s : Int)) ∧ (∀ y ∈ x.2.1, ∃ s j : Nat, y = ⟨s, j⟩) ∧ ∀ y ∈ x.2.2, ∃ s j k : Nat, y = ⟨s, j, k⟩
theorem z0q : ∀ (w : List Nat) (t : Nat) (bf : Option (Nat × Nat)) (x : Mk3), t < m.Rows.length → Wd (kk m) w → zcn x → zcn (Wu m t bf w x)
 | [], _, _, _, _, _, q => q
 | i :: w, t, bf, x, ht, hw, q => by
  have hi : i < kk m := hw i (by simp)
  simp only [Wu]
  by_cases hn : (E m t i).To = -1
  ·rw [if_pos hn]; exact q
  ·rw [if_neg hn]
   obtain ⟨q1, q2⟩ := Vd h ht hi hn
   refine z0q w _ _ _ q1 (fun j hj => hw j (by simp [hj])) ⟨?_, ?_, ?_⟩
   ·intro y hy
    rcases Yp.1 hy with k | k
    ·exact q.1 y k
    ·exact ⟨_, by rw [k]; exact q2.symm⟩
   ·intro y hy
    rcases Yp.1 hy with k | k
    ·exact q.2.1 y k
    ·exact ⟨_, _, k⟩
   ·intro y hy
    unfold z9H at hy
    cases bf with
    | none => exact q.2.2 y hy
    | some p =>
     rcases Yp.1 hy with k | k
     ·exact q.2.2 y k
     ·exact ⟨_, _, _, k⟩
theorem z75 : ∀ {x : Mk3}, (∀ w ∈ l, Wd (kk m) w) → zcn x → zcn (cvA m l x) := by
 induction l with
 | nil => exact fun _ q => q
 | cons w l ih => intro x hw q; exact ih (fun u hu => hw u (by simp [hu])) (z0q h w 0 none x h.len1 (hw w (by simp)) q)
def z1a (m : z7) (l : List (List Nat)) (x : xZ) : Prop := (∃ w ∈ l, z3w m x 0 w) ∨ x = ⟨0, -1, -1⟩
omit h in
theorem z2I (s : Nat) : ∀ (w : List Nat) (t : Nat), z3w m ⟨s, -1, -1⟩ t w ↔ z2G m s t w
 | [], t => by simp only [z3w, z2G, true_and]; omega
 | i :: w, t => by
  simp only [z3w, z2G, z2I s w, true_and]
  constructor
  ·rintro (q | ⟨q, ⟨_, q2, _⟩ | q2⟩)
   ·exact .inl (by omega)
   ·omega
   ·exact .inr ⟨q, q2⟩
  ·rintro (q | ⟨q, q2⟩)
   ·exact .inl (by omega)
   ·exact .inr ⟨q, .inr q2⟩
omit h in
theorem z2K (s j : Nat) : ∀ (w : List Nat) (t : Nat), z3w m ⟨s, j, -1⟩ t w ↔ z5Q m s j t w
 | [], t => by simp only [z3w, z5Q, iff_false]; omega
 | i :: w, t => by
  simp only [z3w, z5Q, z2K s j w]
  constructor
  ·rintro (q | ⟨q, ⟨q2, q3, _⟩ | q2⟩)
   ·omega
   ·exact ⟨q, .inl (by omega)⟩
   ·exact ⟨q, .inr q2⟩
  ·rintro ⟨q, q2 | q2⟩
   ·exact .inr ⟨q, .inl ⟨by omega, by omega, .inl trivial⟩⟩
   ·exact .inr ⟨q, .inr q2⟩
omit h in
theorem z2J (s j k : Nat) : ∀ (w : List Nat) (t : Nat), z3w m ⟨s, j, k⟩ t w ↔ z5P m s j k t w
 | [], t => by simp only [z3w, z5P, iff_false]; omega
 | i :: w, t => by
  simp only [z3w, z5P, z2J s j k w]
  constructor
  ·rintro (q | ⟨q, ⟨q2, q3, q4 | ⟨k', q4, q5⟩⟩ | q2⟩)
   ·omega
   ·omega
   ·have : k' = k := by omega
    exact ⟨q, .inl ⟨by omega, by omega, this ▸ q5⟩⟩
   ·exact ⟨q, .inr q2⟩
  ·rintro ⟨q, ⟨q2, q3, q4⟩ | q2⟩
   ·exact .inr ⟨q, .inl ⟨by omega, by omega, .inr ⟨k, rfl, q4⟩⟩⟩
   ·exact .inr ⟨q, .inr q2⟩
end
open Classical
theorem z2A (g : Nat → List α) (out : List α) : ∀ n, (List.range n).foldl (fun s i => s ++ g i) out = out ++ (List.range n).flatMap g
 | 0 => by simp
 | n + 1 => by rw [List.range_succ, List.foldl_append, z2A g out n, List.flatMap_append]; simp
theorem z2B {g : Nat → List α} {C : Nat} : ∀ n, (∀ i, i < n → (g i).length ≤ C) → ((List.range n).flatMap g).length ≤ C * n
 | 0, _ => by simp
 | n + 1, h => by
  rw [List.range_succ, List.flatMap_append, List.length_append, List.flatMap_cons, List.flatMap_nil, List.append_nil, Nat.mul_succ]
  have := z2B n fun i hi => h i (by omega)
  have := h n (by omega)
  omega
theorem Zk {step : List α × Int → Option (LR (List α × Int) (List α))} (g : Nat → List α) (n : Nat) (hn : n < 9223372036854775808) (C L0 : Nat) {out0 : List α} (h0 : out0.length ≤ L0) (hg : ∀ i, i < n → (g i).length ≤ C)
  (h : ∀ i out, i < n → out.length ≤ L0 + C * n → step (out, (i : Int)) = some (.next (out ++ g i, ((i + 1 : Nat) : Int)))) (hd : ∀ out, step (out, (n : Int)) = some (.done out)) : loop step (out0, 0) = some (out0 ++ (List.range n).flatMap g) := by
 rw [← z2A]
 refine z0F (σ := List α) (fun o i => (o, (i : Int))) (fun i o => o ++ g i) (fun i o => o.length ≤ L0 + C * i) n hn (by simpa using h0) ?_ fun _ => hd _
 intro i o hi ho
 have h1 : C * i ≤ C * n := Nat.mul_le_mul_left _ (by omega)
 refine ⟨h i o hi (by omega), ?_⟩
 have := hg i hi
 rw [List.length_append, Nat.mul_add]
 omega
abbrev T3 := Nat × Nat × Nat
def Rc (m : z7) (t : Nat) : Prop := ∃ u, Wd (kk m) u ∧ aft m 0 u = (t : Int)
def z1P (m : z7) (t : Nat) : List Nat := if h : ∃ v, Acc m t v then h.choose else []
def z7o (m : z7) (s i : Nat) : List T3 := (List.range (kk m)).flatMap fun j => if (E m (E m s i).To.toNat j).To = -1 then [] else [(s, i, j)]
def z1K (m : z7) (g s i : Nat) : List T3 := if (E m s i).To = -1 then [] else if g = 1 then [(s, i, 0)] else z7o m s i
def z5n (m : z7) (g s : Nat) : List T3 := if g = 0 then [(s, 0, 0)] else (List.range (kk m)).flatMap (z1K m g s)
def GL (m : z7) (g : Nat) : List T3 := (List.range m.Rows.length).flatMap fun s => if Rc m s then z5n m g s else []
def toI (g : Nat) (t : T3) : xZ := if g = 0 then ⟨t.1, -1, -1⟩ else if g = 1 then ⟨t.1, t.2.1, -1⟩ else ⟨t.1, t.2.1, t.2.2⟩
def toC (m : z7) (g : Nat) (t : T3) : za :=
 if g = 0 then ⟨wN (z1P m t.1), ⟨t.1, 0, 0⟩, .inl t.1⟩ else if g = 1 then ⟨wN (z1P m t.1) ++ [(t.2.1 : Int)], ⟨t.1, t.2.1, 0⟩, .inr (.inl (t.1, t.2.1))⟩
 else ⟨wN (z1P m t.1) ++ [(t.2.1 : Int)] ++ [(t.2.2 : Int)], ⟨t.1, t.2.1, t.2.2⟩, .inr (.inr ⟨t.1, t.2.1, t.2.2⟩)⟩
theorem UF {α β : Type} (f : α → β) (g : Nat → List α) (l : List Nat) : (l.flatMap g).map f = l.flatMap fun i => (g i).map f := by
 rw [List.map_flatMap]
variable {g : Nat}
section
variable {m : z7} (h : VM m)
include h
theorem z7n (s i : Nat) : (z7o m s i).length ≤ 16 := by
 have := z2B (g := fun j => if (E m (E m s i).To.toNat j).To = -1 then [] else [(s, i, j)]) (C := 1) (kk m) (fun j _ => by split <;> simp)
 have := h.kk_le
 unfold z7o
 omega
theorem z2T (g s i : Nat) : (z1K m g s i).length ≤ 16 := by
 unfold z1K
 split
 ·simp
 split
 ·simp
 ·exact z7n h s i
theorem z7m (g s : Nat) : (z5n m g s).length ≤ 256 := by
 unfold z5n
 split
 ·simp
 ·have := z2B (g := z1K m g s) (C := 16) (kk m) (fun i _ => z2T h g s i)
  have := h.kk_le
  omega
theorem z5E {r : List (List Int) × List Bool} (hr : z3q m r) {t : Nat} (ht : t < m.Rows.length) : r.2[t]? = some (decide (Rc m t)) ∧ (Rc m t → r.1[t]? = some (wN (z1P m t)) ∧ Acc m t (z1P m t)) := by
 have _ := h
 rcases hr.2.2 t ht with ⟨q1, v, q2, q3⟩ | ⟨q1, q2⟩
 ·have hc : Rc m t := ⟨v, q3.wd, q3.aft⟩
  refine ⟨by rw [q1, decide_eq_true hc], fun _ => ?_⟩
  have he : ∃ v, Acc m t v := ⟨v, q3⟩
  have : z1P m t = v := by
   unfold z1P
   rw [dif_pos he]
   exact z7z he.choose_spec q3
  rw [this]
  exact ⟨q2, q3⟩
 ·have hc : ¬ Rc m t := fun ⟨u, k1, k2⟩ => q2 u k1 k2
  exact ⟨by rw [q1, decide_eq_false hc], fun k => (hc k).elim⟩
theorem z7x (hg : g < 3) : wJ m (g : Int) = some ((GL m g).map (toC m g)) := by
 obtain ⟨r, e, _, hr⟩ := UO h
 unfold wJ
 rw [e, Option.bind_some]
 have hn := h.len64
 have hk := h.kk_le
 have key : loop (fun s => wD m (g : Int) r s.1 s.2) (([] : List za), (0 : Int)) = some ([] ++ (List.range m.Rows.length).flatMap fun s => ((if Rc m s then z5n m g s else []).map (toC m g))) := by
  refine Zk (fun s => (if Rc m s then z5n m g s else []).map (toC m g)) m.Rows.length (by omega) 256 0 (Nat.le_refl _) ?_ ?_ ?_
  ·intro s hs
   rw [List.length_map]
   split
   ·exact z7m h g s
   ·simp
  ·intro s out hs ho
   obtain ⟨a1, a2⟩ := z5E h hr hs
   obtain ⟨R, b1, b2, b3⟩ := h.rowAt hs
   unfold wD
   simp only
   rw [show decide ((s : Int) < (m.Rows.length : Int)) = true by simp [hs], cond_true, wR, b1, Option.bind_some, wR, a1, Option.bind_some]
   have hw : w64 ((s : Int) + 1) = ((s + 1 : Nat) : Int) := vL (by omega)
   by_cases hc : Rc m s
   ·obtain ⟨c1, c2⟩ := a2 hc
    have hal : (wN (z1P m s)).length ≤ 64 := by rw [Jx]; have := c2.len; omega
    rw [decide_eq_true hc, Bool.not_true, cond_false, if_pos hc]
    by_cases h0 : g = 0
    ·subst h0
     rw [show ((((0 : Nat) : Int)) == 0) = true from rfl, cond_true, wR, c1, Option.bind_some, gdT (by simp; omega)]
     unfold xa
     rw [hw]
     rfl
    ·rw [show (((g : Int)) == 0) = false by simp; omega, cond_false]
     have e4 : loop (fun s_1 => wC m (g : Int) r (s : Int) R s_1.1 s_1.2) (out, (0 : Int)) = some (out ++ (List.range (kk m)).flatMap fun i => (z1K m g s i).map (toC m g)) := by
      refine Zk (fun i => (z1K m g s i).map (toC m g)) (kk m) (by omega) 16 20000 (by omega) (fun i _ => by rw [List.length_map]; exact z2T h g s i) ?_ ?_
      ·intro i out hi ho
       unfold wC
       simp only
       rw [b2, show decide ((i : Int) < (kk m : Int)) = true by simp [hi], cond_true, wR, b3 i hi, Option.bind_some]
       have hwi : w64 ((i : Int) + 1) = ((i + 1 : Nat) : Int) := vL (by omega)
       by_cases hn1 : (E m s i).To = -1
       ·rw [show ((E m s i).To == -1) = true by simp [hn1], cond_true]
        unfold x9 z1K
        rw [if_pos hn1, hwi]
        simp
       ·obtain ⟨t1, t2⟩ := Vd h hs hi hn1
        rw [show ((E m s i).To == -1) = false by simp [hn1], cond_false, wR, c1, Option.bind_some, KI _ (by omega), Option.bind_some, z1J, Option.bind_some, gdT (by simp; omega)]
        by_cases h1 : g = 1
        ·subst h1
         rw [show ((((1 : Nat) : Int)) == 1) = true from rfl, cond_true, gdT (by simp; omega)]
         unfold x9 z1K
         rw [if_neg hn1, if_pos rfl, hwi]
         rfl
        ·have h2 : g = 2 := by omega
         subst h2
         rw [show ((((2 : Nat) : Int)) == 1) = false from rfl, cond_false]
         obtain ⟨R2, d1, d2, d3⟩ := h.rowAt t1
         rw [← t2, wR, d1, Option.bind_some]
         have e6 : loop (fun s_1 => wB (s : Int) (i : Int) (wN (z1P m s)) R2 s_1.1 s_1.2) (out, (0 : Int)) = some (out ++ (List.range (kk m)).flatMap fun j => (if (E m (E m s i).To.toNat j).To = -1 then [] else [(s, i, j)]).map (toC m 2)) := by
          refine Zk (fun j => (if (E m (E m s i).To.toNat j).To = -1 then [] else [(s, i, j)]).map (toC m 2)) (kk m) (by omega) 1 40000 (by omega) (fun j _ => by rw [List.length_map]; split <;> simp) ?_ ?_
          ·intro j out hj ho
           unfold wB
           simp only
           rw [d2, show decide ((j : Int) < (kk m : Int)) = true by simp [hj], cond_true, wR, d3 j hj, Option.bind_some]
           have hwj : w64 ((j : Int) + 1) = ((j + 1 : Nat) : Int) := vL (by omega)
           by_cases hn2 : (E m (E m s i).To.toNat j).To = -1
           ·rw [show ((E m (E m s i).To.toNat j).To != -1) = false by simp [hn2], cond_false, if_pos hn2]
            unfold wF
            rw [hwj]
            simp
           ·rw [show ((E m (E m s i).To.toNat j).To != -1) = true by simp [hn2], cond_true, if_neg hn2, KI _ (by simp; omega), Option.bind_some, z1J, Option.bind_some, gdT (by simp; omega), gdT (by simp; omega)]
            unfold wF
            rw [hwj]
            rfl
          ·intro out
           unfold wB
           simp only
           rw [d2]
           simp
         rw [e6, Option.bind_some]
         unfold x9 z1K
         rw [if_neg hn1, if_neg (by decide), hwi]
         unfold z7o
         rw [UF]
      ·intro out
       unfold wC
       simp only
       rw [b2]
       simp
     rw [e4, Option.bind_some]
     unfold xa
     rw [hw]
     unfold z5n
     rw [if_neg h0, UF]
   ·rw [decide_eq_false hc, Bool.not_false, cond_true, if_neg hc]
    unfold xa
    rw [hw]
    simp
  ·intro out
   unfold wD
   simp
 rw [key, Option.bind_some]
 unfold uz GL
 rw [List.nil_append, UF]
variable (hG : GG (kk m) m.Rows.length ≤ 1000000000)
include hG
end
open Classical
theorem XG {f : Nat → List α} (key : α → Nat) : ∀ n, (∀ i, i < n → (f i).Nodup ∧ ∀ x ∈ f i, key x = i) → ((List.range n).flatMap f).Nodup
 | 0, _ => by simp
 | n + 1, h => by
  rw [List.range_succ, List.flatMap_append, List.flatMap_cons, List.flatMap_nil, List.append_nil, List.nodup_append]
  refine ⟨XG key n fun i hi => h i (by omega), (h n (by omega)).1, ?_⟩
  intro a ha b hb e
  subst e
  obtain ⟨i, hi, hx⟩ := List.mem_flatMap.1 ha
  have hi := List.mem_range.1 hi
  have h1 := (h i (by omega)).2 a hx
  have h2 := (h n (by omega)).2 a hb
  omega
theorem z4y {α β : Type} {l1 : List α} {l2 : List β} (f : α → β) (n1 : l1.Nodup) (n2 : l2.Nodup) (hf : ∀ x ∈ l1, ∀ y ∈ l1, f x = f y → x = y) (hm : ∀ b, b ∈ l2 ↔ ∃ a ∈ l1, f a = b) : l1.length = l2.length := by
 have n3 : (l1.map f).Nodup := by
  unfold List.Nodup
  rw [List.pairwise_map]
  exact List.Pairwise.imp_of_mem (fun {a b} ha hb q e => q (hf a ha b hb e)) n1
 have hp : (l1.map f).Perm l2 := (List.perm_ext_iff_of_nodup n3 n2).2 fun b => by rw [hm, List.mem_map]
 rw [← hp.length_eq, List.length_map]
variable {t : T3}
section
variable {m : z7} (h : VM m)
include h
omit h in
theorem Km : Rc m 0 := ⟨[], fun i hi => by simp at hi, rfl⟩
theorem z1o {t i : Nat} (ht : t < m.Rows.length) (hr : Rc m t) (hi : i < kk m) (hn : (E m t i).To ≠ -1) : Rc m (E m t i).To.toNat := by
 obtain ⟨u, hu, ha⟩ := hr
 obtain ⟨q1, q2⟩ := Vd h ht hi hn
 refine ⟨u ++ [i], fun j hj => ?_, ?_⟩
 ·rcases List.mem_append.1 hj with q | q
  ·exact hu j q
  ·simp only [List.mem_singleton] at q; subst q; exact hi
 ·rw [QT, ha]
  show (nxE m (t : Int) i).To = _
  unfold nxE
  rw [if_neg (by omega), q2]
  rfl
theorem z4b : ∀ (w : List Nat) (t s : Nat), t < m.Rows.length → Rc m t → Wd (kk m) w → z2G m s t w → s < m.Rows.length ∧ Rc m s
 | [], t, s, ht, hr, _, q => by simp only [z2G] at q; subst q; exact ⟨ht, hr⟩
 | i :: w, t, s, ht, hr, hw, q => by
  have hi : i < kk m := hw i (by simp)
  simp only [z2G] at q
  rcases q with q | ⟨hn, q⟩
  ·subst q; exact ⟨ht, hr⟩
  ·exact z4b w _ s (Vd h ht hi hn).1 (z1o h ht hr hi hn) (fun j hj => hw j (by simp [hj])) q
theorem z4d : ∀ (w : List Nat) (t s j : Nat), t < m.Rows.length → Rc m t → Wd (kk m) w → z5Q m s j t w → s < m.Rows.length ∧ Rc m s ∧ j < kk m ∧ (E m s j).To ≠ -1
 | [], t, s, j, _, _, _, q => q.elim
 | i :: w, t, s, j, ht, hr, hw, q => by
  have hi : i < kk m := hw i (by simp)
  obtain ⟨hn, q⟩ := q
  rcases q with ⟨rfl, rfl⟩ | q
  ·exact ⟨ht, hr, hi, hn⟩
  ·exact z4d w _ s j (Vd h ht hi hn).1 (z1o h ht hr hi hn) (fun j hj => hw j (by simp [hj])) q
theorem z4c : ∀ (w : List Nat) (t s j k : Nat), t < m.Rows.length → Rc m t → Wd (kk m) w → z5P m s j k t w → s < m.Rows.length ∧ Rc m s ∧ j < kk m ∧ (E m s j).To ≠ -1 ∧ k < kk m ∧ (E m (E m s j).To.toNat k).To ≠ -1
 | [], t, s, j, k, _, _, _, q => q.elim
 | i :: w, t, s, j, k, ht, hr, hw, q => by
  have hi : i < kk m := hw i (by simp)
  obtain ⟨hn, q⟩ := q
  rcases q with ⟨rfl, rfl, q⟩ | q
  ·refine ⟨ht, hr, hi, hn, ?_⟩
   cases w with
   | nil => exact q.elim
   | cons a w =>
    obtain ⟨rfl, q2⟩ := q
    exact ⟨hw a (by simp), q2⟩
  ·exact z4c w _ s j k (Vd h ht hi hn).1 (z1o h ht hr hi hn) (fun j hj => hw j (by simp [hj])) q
omit h in
theorem Ky {s i : Nat}  : t ∈ z7o m s i ↔ ∃ j, j < kk m ∧ (E m (E m s i).To.toNat j).To ≠ -1 ∧ t = (s, i, j) := by
 unfold z7o
 rw [List.mem_flatMap]
 constructor
 ·rintro ⟨j, hj, q⟩
  split at q
  ·simp at q
  ·rename_i hn
   exact ⟨j, List.mem_range.1 hj, hn, by simpa using q⟩
 ·rintro ⟨j, hj, hn, rfl⟩
  exact ⟨j, List.mem_range.2 hj, by rw [if_neg hn]; simp⟩
omit h in
theorem WN {g s i : Nat}  : t ∈ z1K m g s i ↔ (E m s i).To ≠ -1 ∧ ((g = 1 ∧ t = (s, i, 0)) ∨ (g ≠ 1 ∧ t ∈ z7o m s i)) := by
 unfold z1K
 split
 ·rename_i hn; simp [hn]
 ·rename_i hn
  split
  ·rename_i h1; simp [hn, h1]
  ·rename_i h1; simp [hn, h1]
omit h in
theorem Zj {g s : Nat}  : t ∈ z5n m g s ↔ (g = 0 ∧ t = (s, 0, 0)) ∨ (g ≠ 0 ∧ ∃ i, i < kk m ∧ t ∈ z1K m g s i) := by
 unfold z5n
 split
 ·rename_i h0; simp [h0]
 ·rename_i h0
  simp [h0, List.mem_flatMap]
omit h in
theorem VL : t ∈ GL m g ↔ ∃ s, s < m.Rows.length ∧ Rc m s ∧ t ∈ z5n m g s := by
 unfold GL
 rw [List.mem_flatMap]
 constructor
 ·rintro ⟨s, hs, q⟩
  split at q
  ·rename_i hr; exact ⟨s, List.mem_range.1 hs, hr, q⟩
  ·simp at q
 ·rintro ⟨s, hs, hr, q⟩
  exact ⟨s, List.mem_range.2 hs, by rw [if_pos hr]; exact q⟩
omit h in
theorem z7B (g : Nat) : (GL m g).Nodup := by
 have hP : ∀ s i, (z7o m s i).Nodup := fun s i => by
  unfold z7o
  refine XG (fun t : T3 => t.2.2) _ fun j _ => ⟨?_, ?_⟩
  ·split <;> simp
  ·intro x hx
   split at hx
   ·simp at hx
   ·simp only [List.mem_singleton] at hx; subst hx; rfl
 have hE : ∀ s i, (z1K m g s i).Nodup := fun s i => by
  unfold z1K
  split
  ·simp
  split
  ·simp
  ·exact hP s i
 have hE1 : ∀ s i, ∀ t ∈ z1K m g s i, t.1 = s ∧ t.2.1 = i := fun s i t ht => by
  rcases (WN.1 ht).2 with ⟨_, rfl⟩ | ⟨_, q⟩
  ·exact ⟨rfl, rfl⟩
  ·obtain ⟨j, _, _, rfl⟩ := Ky.1 q
   exact ⟨rfl, rfl⟩
 unfold GL
 refine XG (fun t : T3 => t.1) _ fun s _ => ⟨?_, ?_⟩
 ·split
  ·unfold z5n
   split
   ·simp
   ·exact XG (fun t : T3 => t.2.1) _ fun i _ => ⟨hE s i, fun t ht => (hE1 s i t ht).2⟩
  ·simp
 ·intro t ht
  split at ht
  ·rcases Zj.1 ht with ⟨_, rfl⟩ | ⟨_, i, _, q⟩
   ·rfl
   ·exact (hE1 s i t q).1
  ·simp at ht
def z00 (g : Nat) (x : Mk3) : Nat := if g = 0 then x.1.length else if g = 1 then x.2.1.length else x.2.2.length
omit h in
theorem ze0 : zcn ([0], [], []) := ⟨fun y hy => ⟨0, by simpa using hy⟩, fun y hy => by simp at hy, fun y hy => by simp at hy⟩
theorem z5a {l : List (List Nat)} (hl : WL m l) :
  (∀ s : Nat, (s : Int) ∈ (cv0 m l).1 ↔ z1a m l ⟨s, -1, -1⟩) ∧ (∀ s j : Nat, (⟨s, j⟩ : x6 Int) ∈ (cv0 m l).2.1 ↔ z1a m l ⟨s, j, -1⟩) ∧ (∀ s j k : Nat, (⟨s, j, k⟩ : z8) ∈ (cv0 m l).2.2 ↔ z1a m l ⟨s, j, k⟩) := by
 obtain ⟨a1, a2, a3⟩ := z9S h (l := l) (x := ([0], [], [])) (fun w hw => (hl.2 w hw).1) (by simp)
 refine ⟨fun s => ?_, fun s j => ?_, fun s j k => ?_⟩
 ·show (s : Int) ∈ (cvA m l _).1 ↔ _
  rw [a1]
  unfold z1a
  simp only [z2I, List.mem_singleton, xZ.mk.injEq, and_true]
  exact or_comm
 ·show (⟨s, j⟩ : x6 Int) ∈ (cvA m l _).2.1 ↔ _
  rw [a2]
  unfold z1a
  simp only [z2K, List.not_mem_nil, false_or, xZ.mk.injEq]
  constructor
  ·exact .inl
  ·rintro (q | q)
   ·exact q
   ·omega
 ·show (⟨s, j, k⟩ : z8) ∈ (cvA m l _).2.2 ↔ _
  rw [a3]
  unfold z1a
  simp only [z2J, List.not_mem_nil, false_or, xZ.mk.injEq]
  constructor
  ·exact .inl
  ·rintro (q | q)
   ·exact q
   ·omega
theorem zbT (hl : WL m l) :
  (∀ s : Nat, z1a m l ⟨s, -1, -1⟩ → (s, 0, 0) ∈ GL m 0) ∧ (∀ s j : Nat, z1a m l ⟨s, j, -1⟩ → (s, j, 0) ∈ GL m 1) ∧ (∀ s j k : Nat, z1a m l ⟨s, j, k⟩ → (s, j, k) ∈ GL m 2) := by
 refine ⟨fun s q => ?_, fun s j q => ?_, fun s j k q => ?_⟩
 ·rw [VL]
  rcases q with ⟨w, hw, q⟩ | q
  ·obtain ⟨b1, b2⟩ := z4b h w 0 s h.len1 Km (hl.2 w hw).1 ((z2I s w 0).1 q)
   exact ⟨s, b1, b2, Zj.2 (.inl ⟨rfl, rfl⟩)⟩
  ·simp only [xZ.mk.injEq, and_true] at q
   have : s = 0 := by omega
   subst this
   exact ⟨0, h.len1, Km, Zj.2 (.inl ⟨rfl, rfl⟩)⟩
 ·rw [VL]
  rcases q with ⟨w, hw, q⟩ | q
  ·obtain ⟨b1, b2, b3, b4⟩ := z4d h w 0 s j h.len1 Km (hl.2 w hw).1 ((z2K s j w 0).1 q)
   exact ⟨s, b1, b2, Zj.2 (.inr ⟨by decide, j, b3, WN.2 ⟨b4, .inl ⟨rfl, rfl⟩⟩⟩)⟩
  ·simp only [xZ.mk.injEq] at q; omega
 ·rw [VL]
  rcases q with ⟨w, hw, q⟩ | q
  ·obtain ⟨b1, b2, b3, b4, b5, b6⟩ := z4c h w 0 s j k h.len1 Km (hl.2 w hw).1 ((z2J s j k w 0).1 q)
   exact ⟨s, b1, b2, Zj.2 (.inr ⟨by decide, j, b3, WN.2 ⟨b4, .inr ⟨by decide, Ky.2 ⟨k, b5, b6, rfl⟩⟩⟩⟩)⟩
  ·simp only [xZ.mk.injEq] at q; omega
def cvL (m : z7) (l : List (List Nat)) (g : Nat) : List T3 := (GL m g).filter fun t => decide (z1a m l (toI g t))
theorem z5d {l : List (List Nat)} (hl : WL m l)  (hg : g < 3) : (cvL m l g).length = z00 g (cv0 m l) := by
 obtain ⟨a1, a2, a3⟩ := z5a h hl
 obtain ⟨b1, b2, b3⟩ := zbT h hl
 obtain ⟨c1, c2, c3⟩ := z58 h (l := l) (x := ([0], [], [])) (by simp)
 obtain ⟨d1, d2, d3⟩ := z75 h (l := l) (fun w hw => (hl.2 w hw).1) ze0
 have hnd : (cvL m l g).Nodup := List.Nodup.sublist List.filter_sublist (z7B g)
 have hmem : ∀ t, t ∈ cvL m l g ↔ t ∈ GL m g ∧ z1a m l (toI g t) := fun t => by unfold cvL; rw [List.mem_filter]; simp
 have hg : g = 0 ∨ g = 1 ∨ g = 2 := by omega
 rcases hg with rfl | rfl | rfl
 ·refine z4y (l2 := (cv0 m l).1) (fun t : T3 => (t.1 : Int)) hnd c1 ?_ ?_
  ·intro x hx y hy e
   obtain ⟨s, _, _, q⟩ := VL.1 ((hmem x).1 hx).1
   obtain ⟨s', _, _, q'⟩ := VL.1 ((hmem y).1 hy).1
   simp only [Zj, true_and, ne_eq, not_true_eq_false, false_and, or_false] at q q'
   subst q q'
   have e' : (s : Int) = (s' : Int) := e
   have : s = s' := by omega
   rw [this]
  ·intro b
   constructor
   ·intro hb
    obtain ⟨s, rfl⟩ := d1 b hb
    exact ⟨(s, 0, 0), (hmem _).2 ⟨b1 s ((a1 s).1 hb), (a1 s).1 hb⟩, rfl⟩
   ·rintro ⟨t, ht, rfl⟩
    exact (a1 t.1).2 ((hmem t).1 ht).2
 ·refine z4y (l2 := (cv0 m l).2.1) (fun t : T3 => (⟨t.1, t.2.1⟩ : x6 Int)) hnd c2 ?_ ?_
  ·intro x hx y hy e
   obtain ⟨s, _, _, q⟩ := VL.1 ((hmem x).1 hx).1
   obtain ⟨s', _, _, q'⟩ := VL.1 ((hmem y).1 hy).1
   simp only [Zj, WN, Nat.one_ne_zero, false_and, false_or, ne_eq, not_false_eq_true, true_and, not_true_eq_false, or_false] at q q'
   obtain ⟨i, _, _, rfl⟩ := q
   obtain ⟨i', _, _, rfl⟩ := q'
   simp only [x6.mk.injEq] at e
   have e1 : s = s' := by omega
   have e2 : i = i' := by omega
   rw [e1, e2]
  ·intro b
   constructor
   ·intro hb
    obtain ⟨s, j, rfl⟩ := d2 b hb
    exact ⟨(s, j, 0), (hmem _).2 ⟨b2 s j ((a2 s j).1 hb), (a2 s j).1 hb⟩, rfl⟩
   ·rintro ⟨t, ht, rfl⟩
    exact (a2 t.1 t.2.1).2 ((hmem t).1 ht).2
 ·refine z4y (l2 := (cv0 m l).2.2) (fun t : T3 => (⟨t.1, t.2.1, t.2.2⟩ : z8)) hnd c3 ?_ ?_
  ·intro x hx y hy e
   simp only [z8.mk.injEq] at e
   have e1 : x.1 = y.1 := by omega
   have e2 : x.2.1 = y.2.1 := by omega
   have e3 : x.2.2 = y.2.2 := by omega
   exact Prod.ext e1 (Prod.ext e2 e3)
  ·intro b
   constructor
   ·intro hb
    obtain ⟨s, j, k, rfl⟩ := d3 b hb
    exact ⟨(s, j, k), (hmem _).2 ⟨b3 s j k ((a3 s j k).1 hb), (a3 s j k).1 hb⟩, rfl⟩
   ·rintro ⟨t, ht, rfl⟩
    exact (a3 t.1 t.2.1 t.2.2).2 ((hmem t).1 ht).2
def msL (m : z7) (l : List (List Nat)) (g : Nat) : List xZ := ((GL m g).map (toI g)).filter fun x => !decide (z1a m l x)
theorem zbq (hl : WL m l)  (hg : g < 3) : (msL m l g).length + z00 g (cv0 m l) = (GL m g).length := by
 rw [← z5d h hl hg]
 unfold msL cvL
 generalize GL m g = L
 induction L with
 | nil => rfl
 | cons t L ih =>
  rw [List.map_cons, List.filter_cons, List.filter_cons]
  by_cases hc : z1a m l (toI g t)
  ·simp only [hc, decide_true, Bool.not_true, Bool.false_eq_true, if_false, if_true, List.length_cons]
   omega
  ·simp only [hc, decide_false, Bool.not_false, Bool.false_eq_true, if_false, if_true, List.length_cons]
   omega
end
open Classical
theorem z7D {k n : Nat} (hk : k ≤ 3) (hn : n ≤ 6) : GG k n ≤ 1000000000 := by
 have h1 : GG k n ≤ GG k 6 := KX hn
 have h2 : GG k 6 ≤ 1000000000 := by
  have : k = 0 ∨ k = 1 ∨ k = 2 ∨ k = 3 := by omega
  rcases this with rfl | rfl | rfl | rfl <;> decide
 omega
section
variable {m : z7} (h : VM m)
include h
theorem zaq {w : List Int} (h0 : ∀ v ∈ w, 0 ≤ v ∧ v ≤ 255) : Ret (ZT w m.Inputs 8) fun r => ∃ u : List Nat, r = wN u ∧ Wd (kk m) u ∧ u.length ≤ 8 := by
 have hk := h.kk_eq
 have hp := h.kk_pos
 unfold ZT
 rw [vO]
 refine Ret.mono (uZ (fun s => ∃ (i : Nat) (u : List Nat), s = (wN u, (i : Int)) ∧ u.length = i ∧ i ≤ 8 ∧ Wd (kk m) u) (fun s => 8 - s.2.toNat) (R := fun r => ∃ u : List Nat, r = wN u ∧ Wd (kk m) u ∧ u.length ≤ 8) ⟨0, [], rfl, rfl, by omega, fun i hi => by simp at hi⟩ (by simp) ?_) fun r q => by unfold jZ; rw [zW]; exact q
 rintro s ⟨i, u, rfl, hu, hi, hw⟩
 unfold jY
 simp only
 rw [vo]
 constructor
 ·intro c1
  have c1 : (i : Int) < (w.length : Int) := by simpa using c1
  rw [vo]
  constructor
  ·intro c2
   have c2 : (i : Int) < 8 := by simpa using c2
   have hi' : i < w.length := by omega
   have hx := List.getElem?_eq_getElem hi'
   obtain ⟨v0, v1⟩ := h0 _ (List.getElem_mem hi')
   rw [wR, hx, Option.bind_some, gdT (by have := h.in1; omega), wY (by omega) (by omega), gdT (by rw [Jx]; simp; omega), zW]
   obtain ⟨v, hv⟩ : ∃ v : Nat, w[i] = (v : Int) := ⟨w[i].toNat, by omega⟩
   have e : Int.tmod w[i] m.Inputs = ((v % kk m : Nat) : Int) := by
    rw [hv, ← hk]
    rfl
   refine ⟨⟨i + 1, u ++ [v % kk m], ?_, by simp [hu], by omega, ?_⟩, ?_⟩
   ·rw [e, vL (by omega)]
    simp [wN]
   ·intro j hj
    rcases List.mem_append.1 hj with q | q
    ·exact hw j q
    ·simp only [List.mem_singleton] at q; subst q; exact Nat.mod_lt _ (by omega)
   ·rw [vL (by omega)]; omega
  ·intro _
   rw [zW]
   exact ⟨u, rfl, hw, by omega⟩
 ·intro _
  rw [zW]
  exact ⟨u, rfl, hw, by omega⟩
end
theorem z9D : ∀ {l : List (List Int)}, (∀ w ∈ l, ∃ u : List Nat, w = wN u ∧ Wd (kk m) u ∧ u.length ≤ 256) → ∃ L : List (List Nat), l = lN L ∧ ∀ u ∈ L, Wd (kk m) u ∧ u.length ≤ 256
 | [], _ => ⟨[], rfl, fun u hu => by simp at hu⟩
 | w :: l, h => by
  obtain ⟨u, rfl, q⟩ := h w (by simp)
  obtain ⟨L, rfl, q2⟩ := z9D (l := l) (fun w hw => h w (by simp [hw]))
  refine ⟨u :: L, rfl, fun v hv => ?_⟩
  rcases List.mem_cons.1 hv with e | e
  ·rw [e]; exact q
  ·exact q2 v e
structure XOk (m : z7) (l : List (List Nat)) : Prop where
 vm : VM m
 gg : GG (kk m) m.Rows.length ≤ 1000000000
 rows : m.Rows.length ≤ 6
 kk3 : kk m ≤ 3
 wl : WL m l
 sw : SW (lN l)
 len : l.length ≤ 12
 w8 : ∀ w ∈ l, w.length ≤ 8
theorem XOk.ch (h : XOk m l) : chE m.Inputs (lN l) = 0 := by
 have hle : ∀ w ∈ lN l, w.length ≤ 8 := by
  intro w hw
  obtain ⟨u, hu, rfl⟩ := List.mem_map.1 hw
  rw [Jx]; exact h.w8 u hu
 have hsy := z3L hle
 have hl := ZV l
 have h12 := h.len
 refine z7d.2 ⟨z2p.2 ⟨⟨h.vm.in1, h.vm.in16⟩, by omega, ?_⟩, h.sw, by omega⟩
 intro w hw
 refine ⟨by have := hle w hw; omega, ?_⟩
 obtain ⟨u, hu, rfl⟩ := List.mem_map.1 hw
 intro c hc
 obtain ⟨i, hi, rfl⟩ := List.mem_map.1 hc
 have := (h.wl.2 u hu).1 i hi
 have := h.vm.kk_eq
 simp only [Int.ofNat_eq_natCast]
 omega
theorem zgm {x : wo} (hM : MOk x.M) (hL : ∀ w ∈ x.L, ∀ v ∈ w, 0 ≤ v ∧ v ≤ 255) : Ret (ZS x) fun r => ∃ l : List (List Nat), r.2 = lN l ∧ XOk r.1 l := by
 obtain ⟨m, hm, v, _, hI, _, hR⟩ := zbm hM
 have hk : kk m ≤ 3 := by have := v.kk_eq; omega
 unfold ZS
 rw [hm, Option.bind_some, vO]
 refine Ret.mono (uZ (fun s => ∃ (i : Nat) (l : List (List Nat)), s = (lN l, (i : Int)) ∧ l.length = i ∧ i ≤ 12 ∧ ∀ u ∈ l, Wd (kk m) u ∧ u.length ≤ 8) (fun s => 12 - s.2.toNat) (R := fun r => ∃ l : List (List Nat), r = lN l ∧ l.length ≤ 12 ∧ ∀ u ∈ l, Wd (kk m) u ∧ u.length ≤ 8) ⟨0, [], rfl, rfl, by omega, fun i hi => by simp at hi⟩ (by simp) ?_) ?_
 ·rintro s ⟨i, l, rfl, hl, hi, hw⟩
  unfold jW
  simp only
  rw [vo]
  constructor
  ·intro c1
   have c1 : (i : Int) < (x.L.length : Int) := by simpa using c1
   rw [vo]
   constructor
   ·intro c2
    have c2 : (i : Int) < 12 := by simpa using c2
    have hi' : i < x.L.length := by omega
    have hx := List.getElem?_eq_getElem hi'
    obtain ⟨r, e, u, rfl, hu, hu8⟩ := zaq v (hL _ (List.getElem_mem hi'))
    rw [wR, hx, Option.bind_some, e, Option.bind_some, gdT (by rw [ZV]; simp; omega), zW]
    refine ⟨⟨i + 1, l ++ [u], ?_, by simp [hl], by omega, ?_⟩, ?_⟩
    ·rw [vL (by omega)]
     simp [lN]
    ·intro z hz
     rcases List.mem_append.1 hz with q | q
     ·exact hw z q
     ·simp only [List.mem_singleton] at q; subst q; exact ⟨hu, hu8⟩
    ·rw [vL (by omega)]; omega
   ·intro _
    rw [zW]
    exact ⟨l, rfl, by omega, hw⟩
  ·intro _
   rw [zW]
   exact ⟨l, rfl, by omega, hw⟩
 ·rintro r ⟨l, rfl, hl, hw⟩
  unfold jX
  have hlen : ∀ z ∈ lN l, z.length ≤ 8 := by
   intro z hz
   obtain ⟨u, hu, rfl⟩ := List.mem_map.1 hz
   rw [Jx]; exact (hw u hu).2
  rw [z2e (by rw [ZV]; omega) (fun z hz => by have := hlen z hz; omega), Option.bind_some, zW]
  obtain ⟨L, e, q⟩ := z9D (m := m) (l := srt (lN l)) (fun z hz => by
   obtain ⟨u, hu, rfl⟩ := List.mem_map.1 (W7.1 hz)
   exact ⟨u, rfl, (hw u hu).1, by have := (hw u hu).2; omega⟩)
  have hL12 : L.length ≤ 12 := by
   have := z1g (lN l)
   rw [e, ZV, ZV] at this
   omega
  refine ⟨L, e, v, z7D hk hR, hR, hk, ⟨by omega, q⟩, by show SW (lN L); rw [← e]; exact z3P _, hL12, ?_⟩
  intro u hu
  have : wN u ∈ srt (lN l) := by rw [e]; exact List.mem_map.2 ⟨u, hu, rfl⟩
  have := hlen _ (W7.1 this)
  rwa [Jx] at this
section
variable {m : z7} {l : List (List Nat)}
theorem z9V (v : VM m) (hc : chE m.Inputs (lN l) = 0) : xI m (lN l) = some 0 := by
 unfold xI
 rw [z2R, z87 v, Option.bind_some, z3K, hc]
 rfl
def jG (m : z7) (l : List (List Nat)) : y3 := ⟨⟨z00 0 (cv0 m l), (GL m 0).length⟩, ⟨z00 1 (cv0 m l), (GL m 1).length⟩, ⟨z00 2 (cv0 m l), (GL m 2).length⟩⟩
theorem z79 (x : Mk3)  (hg : g < 3) : xH (g : Int) (mk3 x) = some (z00 g x : Int) := by
 have hg : g = 0 ∨ g = 1 ∨ g = 2 := by omega
 unfold xH mk3 mks z00
 rcases hg with rfl | rfl | rfl <;> simp <;> rfl
theorem z4p (v : VM m) (hl : WL m l) (hc : chE m.Inputs (lN l) = 0) : wK m (lN l) = some (jG m l, 0) := by
 unfold wK
 rw [z9V v hc, Option.bind_some, show ((0 : Int) != 0) = false from rfl, cond_false, z3j v hl, Option.bind_some]
 have step : ∀ (n : Y5 (x6 Int)) (g : Nat), g < 3 → xJ m (mk3 (cv0 m l)) n (g : Int) = some (.next (Y5.setI n (g : Int) ⟨(z00 g (cv0 m l) : Int), ((GL m g).length : Int)⟩, ((g + 1 : Nat) : Int))) := by
  intro n g hg
  unfold xJ
  rw [show decide ((g : Int) < 3) = true by simp; omega, cond_true, z79 _ hg, Option.bind_some, z7x v hg, Option.bind_some, List.length_map, vL (by omega)]
  have : ∃ c, idx (Y5.toL n) (g : Int) = some c := by
   have hg : g = 0 ∨ g = 1 ∨ g = 2 := by omega
   rcases hg with rfl | rfl | rfl <;> exact ⟨_, rfl⟩
  obtain ⟨c, e⟩ := this
  rw [e]
  rfl
 have key : loop (fun s => xJ m (mk3 (cv0 m l)) s.1 s.2) ((Y5.mk (x6.mk 0 0) (x6.mk 0 0) (x6.mk 0 0)), (0 : Int)) = some ⟨(jG m l).States, (jG m l).Edges, (jG m l).Pairs⟩ := by
  refine Kz (fun i => (match i with | 0 => (⟨⟨0, 0⟩, ⟨0, 0⟩, ⟨0, 0⟩⟩ : Y5 (x6 Int)) | 1 => ⟨(jG m l).States, ⟨0, 0⟩, ⟨0, 0⟩⟩ | 2 => ⟨(jG m l).States, (jG m l).Edges, ⟨0, 0⟩⟩ | _ => ⟨(jG m l).States, (jG m l).Edges, (jG m l).Pairs⟩, (i : Int))) 3 (by decide) ?_ ?_
  ·intro i hi
   have hg : i = 0 ∨ i = 1 ∨ i = 2 := by omega
   rcases hg with rfl | rfl | rfl <;> exact step _ _ (by decide)
  ·show xJ m (mk3 (cv0 m l)) _ 3 = _
   unfold xJ
   rfl
 rw [key]
 rfl
end
open Classical
def Ww (m : z7) (g : Nat) (t : T3) : List Nat := if g = 0 then z1P m t.1 else if g = 1 then z1P m t.1 ++ [t.2.1] else z1P m t.1 ++ [t.2.1, t.2.2]
section
variable {m : z7} (h : VM m)
include h
theorem zc7 {t : Nat} (ht : t < m.Rows.length) (hr : Rc m t) : Acc m t (z1P m t) := by
 obtain ⟨r, e, _, q⟩ := UO h
 exact ((z5E h q ht).2 hr).2
omit h in
theorem KS (t i : Nat) (w : List Nat) : aft m (t : Int) (i :: w) = aft m (E m t i).To w := by
 show aft m (nxE m (t : Int) i).To w = _
 rw [Kv]
omit h in
theorem KU (w : List Nat) : aft m (-1) w < 0 := z1O m w (-1) (by omega)
theorem z2F : ∀ (w : List Nat) (t s : Nat), t < m.Rows.length → Wd (kk m) w → aft m (t : Int) w = (s : Int) → z2G m s t w
 | [], t, s, _, _, q => by
  have q : (t : Int) = (s : Int) := q
  show s = t
  omega
 | i :: w, t, s, ht, hw, q => by
  have hi : i < kk m := hw i (by simp)
  rw [KS] at q
  have hn : (E m t i).To ≠ -1 := by
   intro e
   rw [e] at q
   have := KU (m := m) w
   omega
  obtain ⟨q1, q2⟩ := Vd h ht hi hn
  rw [← q2] at q
  exact .inr ⟨hn, z2F w _ s q1 (fun j hj => hw j (by simp [hj])) q⟩
theorem z2L : ∀ (u : List Nat) (t s i : Nat), t < m.Rows.length → Wd (kk m) u → aft m (t : Int) u = (s : Int) → (E m s i).To ≠ -1 → ∀ v, z5Q m s i t (u ++ i :: v)
 | [], t, s, i, _, _, q, hn, v => by
  have q : (t : Int) = (s : Int) := q
  have : t = s := by omega
  subst this
  exact ⟨hn, .inl ⟨rfl, rfl⟩⟩
 | j :: u, t, s, i, ht, hw, q, hn, v => by
  have hj : j < kk m := hw j (by simp)
  rw [KS] at q
  have hn' : (E m t j).To ≠ -1 := by
   intro e
   rw [e] at q
   have := KU (m := m) u
   omega
  obtain ⟨q1, q2⟩ := Vd h ht hj hn'
  rw [← q2] at q
  exact ⟨hn', .inr (z2L u _ s i q1 (fun j hj => hw j (by simp [hj])) q hn v)⟩
theorem z2H : ∀ (u : List Nat) (t s i k : Nat), t < m.Rows.length → Wd (kk m) u → aft m (t : Int) u = (s : Int) → (E m s i).To ≠ -1 → (E m (E m s i).To.toNat k).To ≠ -1 → z5P m s i k t (u ++ [i, k])
 | [], t, s, i, k, _, _, q, hn, hn2 => by
  have q : (t : Int) = (s : Int) := q
  have : t = s := by omega
  subst this
  exact ⟨hn, .inl ⟨rfl, rfl, rfl, hn2⟩⟩
 | j :: u, t, s, i, k, ht, hw, q, hn, hn2 => by
  have hj : j < kk m := hw j (by simp)
  rw [KS] at q
  have hn' : (E m t j).To ≠ -1 := by
   intro e
   rw [e] at q
   have := KU (m := m) u
   omega
  obtain ⟨q1, q2⟩ := Vd h ht hj hn'
  rw [← q2] at q
  exact ⟨hn', .inr (z2H u _ s i k q1 (fun j hj => hw j (by simp [hj])) q hn hn2)⟩
theorem z7C (hg : g < 3)  (ht : t ∈ GL m g) : t.1 < m.Rows.length ∧ Rc m t.1 ∧ (g ≠ 0 → t.2.1 < kk m ∧ (E m t.1 t.2.1).To ≠ -1) ∧ (g = 2 → t.2.2 < kk m ∧ (E m (E m t.1 t.2.1).To.toNat t.2.2).To ≠ -1) := by
 have _ := h
 obtain ⟨s, hs, hr, q⟩ := VL.1 ht
 rcases Zj.1 q with ⟨rfl, rfl⟩ | ⟨h0, i, hi, q⟩
 ·exact ⟨hs, hr, fun q => (q rfl).elim, fun q => by omega⟩
 ·obtain ⟨hn, q⟩ := WN.1 q
  rcases q with ⟨rfl, rfl⟩ | ⟨h1, q⟩
  ·exact ⟨hs, hr, fun _ => ⟨hi, hn⟩, fun q => by omega⟩
  ·obtain ⟨j, hj, hn2, rfl⟩ := Ky.1 q
   exact ⟨hs, hr, fun _ => ⟨hi, hn⟩, fun _ => ⟨hj, hn2⟩⟩
theorem z3A (hg : g < 3)  (ht : t ∈ GL m g) : Wd (kk m) (Ww m g t) ∧ (Ww m g t).length ≤ m.Rows.length + 1 ∧ z3w m (toI g t) 0 (Ww m g t) := by
 obtain ⟨a1, a2, a3, a4⟩ := z7C h hg ht
 have ha := zc7 h a1 a2
 have hlen := ha.len
 have hg' : g = 0 ∨ g = 1 ∨ g = 2 := by omega
 unfold Ww toI
 rcases hg' with rfl | rfl | rfl
 ·simp only [if_true]
  exact ⟨ha.wd, by omega, (z2I _ _ _).2 (z2F h _ 0 _ h.len1 ha.wd ha.aft)⟩
 ·obtain ⟨b1, b2⟩ := a3 (by decide)
  simp only [Nat.one_ne_zero, if_false, if_true]
  refine ⟨fun j hj => ?_, by simp; omega, (z2K _ _ _ _).2 (z2L h _ 0 _ _ h.len1 ha.wd ha.aft b2 [])⟩
  rcases List.mem_append.1 hj with q | q
  ·exact ha.wd j q
  ·simp only [List.mem_singleton] at q; subst q; exact b1
 ·obtain ⟨b1, b2⟩ := a3 (by decide)
  obtain ⟨c1, c2⟩ := a4 rfl
  simp only [show ¬ (2 = 0) by decide, show ¬ (2 = 1) by decide, if_false]
  refine ⟨fun j hj => ?_, by simp; omega, (z2J _ _ _ _ _).2 (z2H h _ 0 _ _ _ h.len1 ha.wd ha.aft b2 c2)⟩
  rcases List.mem_append.1 hj with q | q
  ·exact ha.wd j q
  ·simp only [List.mem_cons, List.not_mem_nil, or_false] at q
   rcases q with rfl | rfl
   ·exact b1
   ·exact c1
variable {l : List (List Nat)} (hl : WL m l) (h12 : l.length ≤ 12 ∧ ∀ w ∈ l, w.length ≤ 8) (hR : m.Rows.length ≤ 6) (h3 : kk m ≤ 3)
include hl h12 hR h3
omit hl h12 hR h3 in
theorem zbp {K : List (List Nat)} (hK : WL m K)  (hg : g < 3) (hc : ∀ t ∈ GL m g, z1a m K (toI g t)) : ((GL m g).map (toI g)).filter (fun x => !decide (z1a m K x)) = [] ∧ z00 g (cv0 m K) = (GL m g).length := by
 have h1 : ((GL m g).map (toI g)).filter (fun x => !decide (z1a m K x)) = [] := by
  rw [List.filter_eq_nil_iff]
  intro x hx
  obtain ⟨t, ht, rfl⟩ := List.mem_map.1 hx
  simp [hc t ht]
 have h2 := zbq h hK hg
 unfold msL at h2
 rw [h1] at h2
 exact ⟨h1, by simpa using h2⟩
end
open Classical
theorem z51 {p q : α → Bool} : ∀ {L : List α}, (∀ x ∈ L, p x = true → q x = true) → (L.filter p).length ≤ (L.filter q).length
 | [], _ => Nat.le_refl _
 | x :: L, h => by
  have ih := z51 (L := L) fun y hy => h y (by simp [hy])
  rw [List.filter_cons, List.filter_cons]
  by_cases hp : p x = true
  ·rw [if_pos hp, if_pos (h x (by simp) hp)]; simp; omega
  ·rw [if_neg hp]
   split
   ·simp; omega
   ·exact ih
set_option maxRecDepth 100000
theorem z0H : Yq = some true := by kernel_rfl
def Ok5 (a : Int) : Prop := (0) ≤ a ∧ a ≤ 255
def Ok4 (_ : Bool) : Prop := True
def zac (a : Int) : Prop := (0) ≤ a ∧ a ≤ 65535
def zgh (l : List Int) : Prop := ∀ a ∈ l, zac a
def zgg (a : yd) : Prop := Ok5 a.States ∧ Ok5 a.Inputs ∧ Ok5 a.Outputs ∧ Ok4 a.Partial ∧ zgh a.Edges
def zeQ (l : List Int) : Prop := ∀ a ∈ l, Ok5 a
def zgf (l : List (List Int)) : Prop := ∀ a ∈ l, zeQ a
def zge (a : wo) : Prop := zgg a.M ∧ zgf a.L
open Classical
theorem z4L (l : List (List Nat)) (n : Nat) : lN (l.take n) = (lN l).take n := by unfold lN; rw [List.map_take]
theorem XOk.take (k : XOk m l) (n : Nat) : XOk m (l.take n) := by
 have hl : (l.take n).length ≤ l.length := by rw [List.length_take]; omega
 have h12 := k.len
 refine ⟨k.vm, k.gg, k.rows, k.kk3, ⟨by omega, fun w hw => k.wl.2 w (List.mem_of_mem_take hw)⟩, ?_, by omega, fun w hw => k.w8 w (List.mem_of_mem_take hw)⟩
 rw [z4L]
 exact k.sw.sub (List.take_sublist _ _)
theorem KH (k : XOk m l) (n : Nat)  (hg : g < 3) : z00 g (cv0 m (l.take n)) ≤ z00 g (cv0 m l) := by
 rw [← z5d k.vm (k.take n).wl hg, ← z5d k.vm k.wl hg]
 unfold cvL
 refine z51 fun t _ q => ?_
 have q := of_decide_eq_true q
 refine decide_eq_true ?_
 rcases q with ⟨w, hw, q⟩ | q
 ·exact .inl ⟨w, List.mem_of_mem_take hw, q⟩
 ·exact .inr q
theorem z3b : ((List.range m.Rows.length).flatMap fun s => if Rc m s then [wN (z1P m s)] else []) = lN ((GL m 0).map (Ww m 0)) := by
 unfold GL lN
 rw [List.map_map, UF]
 congr 1
 funext s
 by_cases hr : Rc m s
 ·rw [if_pos hr, if_pos hr]
  rfl
 ·rw [if_neg hr, if_neg hr]
  rfl
theorem z4o {m : z7} {l : List (List Nat)} (k : XOk m l) : (GL m 0).length ≤ 6 ∧ ∃ K, srt (lN ((GL m 0).map (Ww m 0))) = lN K ∧ XOk m K ∧ z00 0 (cv0 m K) = (GL m 0).length := by
 have h := k.vm
 have hr := k.rows
 have hlen : (GL m 0).length ≤ 6 := by
  have := z2B (g := fun s => if Rc m s then z5n m 0 s else []) (C := 1) m.Rows.length (fun s _ => by
   by_cases q : Rc m s
   ·rw [if_pos q]; exact Nat.le_refl _
   ·rw [if_neg q]; exact Nat.zero_le _)
  unfold GL
  omega
 have hw : ∀ u ∈ (GL m 0).map (Ww m 0), Wd (kk m) u ∧ u.length ≤ 7 := by
  intro u hu
  obtain ⟨t, ht, rfl⟩ := List.mem_map.1 hu
  have := z3A h (by decide : 0 < 3) ht
  exact ⟨this.1, by have := this.2.1; omega⟩
 obtain ⟨K, eK, qK⟩ := z9D (m := m) (l := srt (lN ((GL m 0).map (Ww m 0)))) (fun z hz => by
  obtain ⟨u, hu, rfl⟩ := List.mem_map.1 (W7.1 hz)
  exact ⟨u, rfl, (hw u hu).1, by have := (hw u hu).2; omega⟩)
 have hKl : K.length ≤ 6 := by
  have := z1g (lN ((GL m 0).map (Ww m 0)))
  rw [eK, ZV, ZV, List.length_map] at this
  omega
 have hid : ∀ u : List Nat, (wN u).map Int.toNat = u := by
  intro u
  induction u with
  | nil => rfl
  | cons i u ih => show Int.toNat (Int.ofNat i) :: (wN u).map Int.toNat = _; rw [ih]; rfl
 have hinj : ∀ u v : List Nat, wN u = wN v → u = v := by
  intro u v e
  rw [← hid u, ← hid v, e]
 have hK : XOk m K := by
  refine ⟨h, k.gg, hr, k.kk3, ⟨by omega, qK⟩, by rw [← eK]; exact z3P _, by omega, fun u hu => ?_⟩
  have : wN u ∈ srt (lN ((GL m 0).map (Ww m 0))) := by rw [eK]; exact List.mem_map.2 ⟨u, hu, rfl⟩
  obtain ⟨v, hv, e⟩ := List.mem_map.1 (W7.1 this)
  rw [← hinj v u e]
  have := (hw v hv).2
  omega
 refine ⟨hlen, K, eK, hK, (zbp h hK.wl (by decide : 0 < 3) fun t ht => .inl ⟨Ww m 0 t, ?_, (z3A h (by decide : 0 < 3) ht).2.2⟩).2⟩
 have : wN (Ww m 0 t) ∈ lN K := by rw [← eK]; exact W7.2 (List.mem_map.2 ⟨_, List.mem_map.2 ⟨t, ht, rfl⟩, rfl⟩)
 obtain ⟨v, hv, e⟩ := List.mem_map.1 this
 rw [← hinj v _ e]
 exact hv
theorem z6V {x : wo} {few : Int} (hx : zge x) (hf : Ok5 few) : vq x few = some true := by
 obtain ⟨⟨a1, a2, a3, _, a5⟩, b⟩ := hx
 obtain ⟨r, e, l, e2, k⟩ := zgm (x := x) ⟨a1.1, a2.1, a3.1, a5⟩ b
 obtain ⟨m, L⟩ := r
 simp only at e2 k
 subst e2
 have h12 := k.len
 have hr6 := k.rows
 have hw1 : w64 ((((lN l).length : Nat) : Int) + 1) = ((l.length + 1 : Nat) : Int) := by rw [ZV]; exact vL (by omega)
 obtain ⟨n, hn, hm⟩ : ∃ n : Nat, n ≤ l.length ∧ Int.tmod (w64 few) ((l.length + 1 : Nat) : Int) = (n : Int) := by
  obtain ⟨q1, q2⟩ := hf
  obtain ⟨v, rfl⟩ : ∃ v : Nat, few = (v : Int) := ⟨few.toNat, by omega⟩
  rw [wY (by omega) (by omega)]
  exact ⟨v % (l.length + 1), Nat.le_of_lt_succ (Nat.mod_lt _ (by omega)), rfl⟩
 have hcut : ((lN l).drop 0).take ((n : Int).toNat - 0) = lN (l.take n) := by rw [List.drop_zero, Nat.sub_zero, Int.toNat_natCast, z4L]
 have kt := k.take n
 obtain ⟨ra, ea, qa⟩ := z3n k.vm k.gg
 obtain ⟨hG6, K, eK, kK, hcK⟩ := z4o k
 have hloop : loop (fun s => yx ra s.1 s.2) (([] : List (List Int)), 0) = some (lN ((GL m 0).map (Ww m 0))) := by
  rw [← z3b]
  refine (Zk (fun s => if Rc m s then [wN (z1P m s)] else []) m.Rows.length (by omega) 1 0 (Nat.le_refl _) (fun i _ => by split <;> simp) ?_ ?_).trans (by rw [List.nil_append])
  ·intro i out hi ho
   obtain ⟨b1, b2⟩ := z5E k.vm qa hi
   have hwi : w64 ((i : Int) + 1) = ((i + 1 : Nat) : Int) := vL (by omega)
   unfold yx
   simp only
   rw [qa.1, show decide ((i : Int) < (m.Rows.length : Int)) = true by simp [hi], cond_true, wR, b1, Option.bind_some]
   by_cases hr : Rc m i
   ·rw [decide_eq_true hr, cond_true, wR, (b2 hr).1, Option.bind_some, gdT (by simp; omega), if_pos hr]
    unfold yz
    rw [hwi]
   ·rw [decide_eq_false hr, cond_false, if_neg hr, List.append_nil]
    unfold yz
    rw [hwi]
  ·intro out
   unfold yx
   simp [qa.1]
 have m0 := KH k n (by decide : 0 < 3)
 have m1 := KH k n (by decide : 1 < 3)
 have m2 := KH k n (by decide : 2 < 3)
 have f0 : ¬ (jG m (l.take n)).States.e0 > (jG m l).States.e0 := by
  show ¬ ((z00 0 (cv0 m (l.take n)) : Nat) : Int) > ((z00 0 (cv0 m l) : Nat) : Int)
  omega
 have f1 : ¬ (jG m (l.take n)).Edges.e0 > (jG m l).Edges.e0 := by
  show ¬ ((z00 1 (cv0 m (l.take n)) : Nat) : Int) > ((z00 1 (cv0 m l) : Nat) : Int)
  omega
 have f2 : ¬ (jG m (l.take n)).Pairs.e0 > (jG m l).Pairs.e0 := by
  show ¬ ((z00 2 (cv0 m (l.take n)) : Nat) : Int) > ((z00 2 (cv0 m l) : Nat) : Int)
  omega
 have t0 : (jG m (l.take n)).States.e1 = (jG m l).States.e1 := rfl
 have t1 : (jG m (l.take n)).Edges.e1 = (jG m l).Edges.e1 := rfl
 have t2 : (jG m (l.take n)).Pairs.e1 = (jG m l).Pairs.e1 := rfl
 have hz : ((0 : Int) != 0) = false := rfl
 have ez : ∀ z : Int, (z != z) = false := fun z => by simp
 unfold vq
 rw [e, Option.bind_some]
 simp only
 rw [hw1, gdT (by omega), hm, gdT (by rw [ZV]; omega), hcut, z4p kt.vm kt.wl kt.ch, Option.bind_some, z4p k.vm k.wl k.ch, Option.bind_some, hz, cond_false, cond_false]
 generalize jG m (l.take n) = cA at *
 generalize jG m l = cB at *
 simp only
 rw [decide_eq_false f0, cond_false, decide_eq_false f1, cond_false, decide_eq_false f2, cond_false, t0, ez, cond_false, t1, ez, cond_false, t2, ez, cond_false, ea, Option.bind_some, hloop, Option.bind_some]
 unfold wp
 rw [z2e (by rw [ZV, List.length_map]; omega) (fun z hz => by
  have : z ∈ srt (lN ((GL m 0).map (Ww m 0))) := W7.2 hz
  rw [eK] at this
  obtain ⟨u, hu, rfl⟩ := List.mem_map.1 this
  rw [Jx]
  have := kK.w8 u hu
  omega), Option.bind_some, eK]
 simp only
 rw [z4p kK.vm kK.wl kK.ch, Option.bind_some, ZV, List.length_map, z0H]
 simp [jG, hcK]
def JX (w : World) : zl := fun b o => y6 w.heap b o
variable {v : Value}
theorem z5j {w : World} {a : Addr}  (h : w.cell? a = some v) : a.spot = none ∧ y6 w.heap a.block a.off = some v := by
 unfold World.cell? at h
 unfold y6
 split at h
 ·rename_i c ty fr he
  rw [he]
  split at h
  ·cases h
  ·rename_i hs
   exact ⟨by simpa using hs, h⟩
 ·cases h
variable {cs : List Value}{S : zl}
section
variable {H : Type} {enc : TypeId × Value → H} {P : Program} {w : World} {base : Nat} {spare : Nat → Bool} {held : Bool}
theorem z5h {a : Addr} {n : Nat}  (h : w.cells? base a n = some cs) (hn : 0 < n) : a.spot = none ∧ cs.length = n ∧ Jr (JX w) a.block a.off cs := by
 obtain ⟨_, h2, h3⟩ := World.cells?_some h
 have h0 : a.spot = none := by
  have h4 := h3 0 hn
  cases hc : cs[0]? with
  | none => rw [List.getElem?_eq_none_iff] at hc; omega
  | some v =>
   rw [hc] at h4
   have := (z5j h4).1
   simpa [Addr.add] using this
 refine ⟨h0, h2, fun j v hj => ?_⟩
 have hlt := (List.getElem?_eq_some_iff.1 hj).1
 have h4 := h3 j (by omega)
 rw [hj] at h4
 have q := (z5j h4).2
 unfold Addr.add at q
 split at q
 ·rename_i e; subst e; exact q
 ·exact q
theorem z0r : ∀ {bs : List A} {cs : List Value} {a : A} {c : List Value}, y5 S bs cs → Rep S a c → y5 S (bs ++ [a]) (cs ++ c)
 | [], cs, a, c, h1, h2 => by
  simp only [y5] at h1
  subst h1
  simp only [List.nil_append, y5]
  exact ⟨c, [], by simp, h2, rfl⟩
 | x :: bs, cs, a, c, h1, h2 => by
  simp only [y5] at h1
  obtain ⟨c1, c2, rfl, r1, r2⟩ := h1
  simp only [List.cons_append, y5]
  exact ⟨c1, c2 ++ c, by simp, r1, z0r r2 h2⟩
theorem z6P {b o : Nat} {c1 c2 : List Value} (h1 : Jr S b o c1) (h2 : Jr S b (o + c1.length) c2) : Jr S b o (c1 ++ c2) := by
 intro j v hj
 rcases Nat.lt_or_ge j c1.length with q | q
 ·rw [List.getElem?_append_left q] at hj
  exact h1 j v hj
 ·rw [List.getElem?_append_right q] at hj
  have := h2 _ _ hj
  rwa [show o + c1.length + (j - c1.length) = o + j by omega] at this
theorem Q1 {t e sz : Nat} (f : α → A) (ok : α → Prop) (ht : P.underlying t = some (.slice e)) (hsz : P.cellsOf e = sz) (h0 : 0 < sz) (hf : ∀ a, (f a).size = sz)
    (hel : ∀ n cs x, DataW.trod enc P w base spare held n e cs = some x → ∃ a, ok a ∧ Rep (JX w) (f a) cs)
    {fuel : Nat} {cs : List Value} {x : DataW H × List MemPlace} (h : DataW.trod enc P w base spare held fuel t cs = some x) : ∃ l : List α, (∀ a ∈ l, ok a) ∧ Rep (JX w) (.sl sz false (l.map f)) cs := by
  rcases DataW.trod_slice ht h with ⟨rfl, _⟩ | ⟨a, len, cap, elems, rest, n, _, rfl, _, _, hlc, _, hlen, hall, _, _⟩
  · refine ⟨[], by simp, ?_⟩
    simp only [Rep, List.map_nil, List.length_nil]
    exact ⟨none, 0, rfl, by simp, Nat.le_refl _, by simp, .inl trivial⟩
  · have key : ∀ k, k ≤ len → ∃ (l : List α) (cells : List Value), l.length = k ∧ (∀ a ∈ l, ok a) ∧ y5 (JX w) (l.map f) cells ∧ cells.length = k * sz ∧ (0 < k → a.spot = none) ∧ Jr (JX w) a.block a.off cells := by
      intro k
      induction k with
      | zero => intro _; exact ⟨[], [], rfl, by simp, by simp [y5], by simp, by simp, fun j v h => by simp at h⟩
      | succ k ih =>
        intro hk
        obtain ⟨l, cells, q1, q2, q3, q4, q5, q6⟩ := ih (by omega)
        have hk' := hall k (by omega)
        have hsome : elems[k]? = some elems[k] := List.getElem?_eq_getElem (by omega)
        rw [hsome, Option.bind_eq_some_iff, hsz] at hk'
        obtain ⟨c, hc, htr⟩ := hk'
        obtain ⟨y, hy, hr⟩ := hel _ _ _ htr
        obtain ⟨g1, g2, g3⟩ := z5h hc h0
        refine ⟨l ++ [y], cells ++ c, by simp [q1], ?_, ?_, ?_, ?_, ?_⟩
        · intro z hz
          rcases List.mem_append.1 hz with q | q
          · exact q2 z q
          · simp only [List.mem_cons, List.not_mem_nil, or_false] at q; subst q; exact hy
        · rw [List.map_append]; exact z0r q3 hr
        · rw [List.length_append, q4, g2, Nat.succ_mul]
        · intro _
          rcases Nat.eq_zero_or_pos k with rfl | hk0
          · simpa [Addr.add] using g1
          · exact q5 hk0
        · refine z6P q6 ?_
          rw [q4]
          unfold Addr.add at g3
          split at g3
          · rename_i e0
            rw [e0, Nat.add_zero]
            exact g3
          · exact g3
    obtain ⟨l, cells, q1, q2, q3, q4, q5, q6⟩ := key len (Nat.le_refl _)
    refine ⟨l, q2, ?_⟩
    simp only [Rep, List.length_map]
    refine ⟨some a, cap, by rw [q1], by simp, by omega, ?_, ?_⟩
    · intro y hy
      obtain ⟨z, _, rfl⟩ := List.mem_map.1 hy
      exact hf z
    · rcases Nat.eq_zero_or_pos len with rfl | hl
      · left; rw [List.length_eq_zero_iff.1 q1]; rfl
      · right
        refine ⟨a.block, a.off, cells, ?_, q3, q6⟩
        have := q5 hl
        obtain ⟨b, o, s⟩ := a
        simp only at this
        subst this
        rfl
theorem z4P {t : Nat} {k : IntKind} {lo hi : Int} (ht : P.underlying t = some (.int k)) (hlo : k.min = lo) (hhi : k.max = hi) {fuel : Nat}  {x : DataW H × List MemPlace} (h : DataW.trod enc P w base spare held fuel t cs = some x) :
  ∃ n : Int, (lo ≤ n ∧ n ≤ hi) ∧ cs = [.int k n] ∧ Rep (JX w) (.atom (.int k n)) cs := by
 obtain ⟨n, rfl, _, hw⟩ := DataW.trod_int ht h
 simp only [Lit.wf, Bool.and_eq_true, decide_eq_true_eq, hlo, hhi] at hw
 exact ⟨n, hw, rfl, by simp only [Rep]; exact ⟨trivial, rfl⟩⟩
theorem z7l {t : Nat} (ht : P.underlying t = some .bool) {fuel : Nat}  {x : DataW H × List MemPlace} (h : DataW.trod enc P w base spare held fuel t cs = some x) :
  ∃ b : Bool, Rep (JX w) (.atom (.bool b)) cs := by
 obtain ⟨b, rfl, _⟩ := DataW.trod_bool ht h
 exact ⟨b, by simp only [Rep]; exact ⟨trivial, rfl⟩⟩
theorem WC {t : Nat} {fs : List Field} (ht : P.underlying t = some (.struct ⟨fs⟩)) {fuel : Nat}  {x : DataW H × List MemPlace} (h : DataW.trod enc P w base spare held fuel t cs = some x) :
  cs.length = P.cellsOf t ∧ ∀ (i : Nat) (f : Field), fs[i]? = some f → ∃ n y, DataW.trod enc P w base spare held n f.type ((cs.drop f.offset).take (P.cellsOf f.type)) = some y := by
 obtain ⟨xs, n, _, _, hl, hxl, hall⟩ := DataW.trod_struct ht h
 refine ⟨hl, fun i f hf => ?_⟩
 have hlt := (List.getElem?_eq_some_iff.1 hf).1
 have := hall i f (by simpa using hf)
 rw [List.getElem?_eq_getElem (by rw [hxl]; simpa using hlt)] at this
 exact ⟨n, _, this⟩
end
theorem kC {a : A} {bs : List A}  {n : Nat} (h1 : Rep S a (cs.take n)) (h2 : y5 S bs (cs.drop n)) : y5 S (a :: bs) cs := by
 simp only [y5]
 exact ⟨cs.take n, cs.drop n, (List.take_append_drop n cs).symm, h1, h2⟩
variable {P : Program}
section
open Go Go.ChangeShapes Go.WideShapes Go.ChangeAt Go.RowKit
theorem z4k {P : Program} {H : Type} {enc : TypeId × Value → H} {f : Func} {s : ChangeSpec} {apart fresh handsOn again : Bool} {W W' : World} {args : Array Value} {v : Value} {ds : List (DataW H)} {pa : List MemPlace}
  (hvar : s.vars = []) (hvars2 : (s.fn H (ds ++ [])).vars = []) (hW : DataW.Whole enc P f.params.toList s.vars apart W args.toList ds [] (pa ++ [])) (hb : Below W.heap.size W W')
  (hres : ∀ (b : Nat) (sp : Nat → Bool) (hd : Bool), DataW.TrodAll enc P W' b sp hd f.resultTypes.toList (v.resultList f.resultTypes.size) (s.fn H (ds ++ [])).results [])
  (hargs : ∀ sp : Nat → Bool, (∀ p ∈ pa ++ [], sp p.block = true) → DataW.TrodAll enc P W' 0 sp true f.params.toList args.toList (s.fn H (ds ++ [])).args pa)
  (hok : ∀ (j : Nat) (t : TypeId) (r : Value), f.resultTypes[j]? = some t → (v.resultList f.resultTypes.size)[j]? = some r → Value.okWide P W' .any 0 t r) :
  s.post enc P f apart fresh handsOn again W args v W' := by
 have hlt : ∀ p ∈ pa ++ [], p.block < W.heap.size := fun p hp => by simpa using hW.lt p hp
 have hvr : ∀ sp : Nat → Bool, DataW.TrodVars enc P W' sp s.vars (s.fn H (ds ++ [])).vars [] := fun sp => by rw [hvar, hvars2]; rfl
 refine ⟨ds, [], pa ++ [], [], pa, [], hW, hres _ _ _, hargs _ (fun p hp => by simpa using hlt p hp), hvr _, World.keptBut_mono (fun _ q => q.elim) (hb.frame fun _ => False), fun _ => ?_⟩
 obtain ⟨_, _, _, _, _, hz, hn⟩ := hW
 refine ⟨hok, _, _, ([] ++ pa) ++ [], ⟨[] ++ pa, [], trodAll_append (hargs _ (fun _ _ => rfl)) (hres _ _ _), hvr _, rfl, ?_, ?_⟩, ?_⟩
 ·intro b off hp
  have hp' : MemPlace.cell b off ∈ pa ++ [] := by simpa using hp
  rw [hb.frozen (p := ⟨b, off, none⟩) (hlt _ hp')]
  exact hz b off hp'
 ·intro ha
  simpa using hn ha
 ·intro p hp _
  simpa using hp
end
theorem z6g {α ρ : Type} {enc : α → List A} {encR : ρ → A} {F : α → Option ρ} {gives : List Bool} {inj : ∀ x y, enc x = enc y → x = y} (h : (spF k enc encR F gives inj).Ok P) {x : α} {r : ρ} (hr : F x = some r) : YN P k (enc x) (encR r) := by
 have := h x ⟨r, hr⟩
 simpa only [spF, hr] using this
variable {fs : Array Field}
section
variable {P : Program} {w : World} {r : Reach} {base t : Nat} {v : Value}
theorem z3D (h : ∀ cs, v ≠ .agg cs) : v = v.cells.toList.headD undef := by
 cases v <;> first | rfl | exact (h _ rfl).elim
theorem z8k {k : IntKind} (hu : P.underlying t = some (.int k)) (h : Value.okWide P w r base t v) : v = v.cells.toList.headD undef := by
 refine z3D fun cs e => ?_
 subst e
 unfold Value.okWide at h
 rw [hu] at h
 simp only [Cell.okWide, hu, Cell.ok] at h
theorem z32 (hu : P.underlying t = some (.struct fs)) (h : Value.okWide P w r base t v) : v = .agg v.cells.toList.toArray := by
 unfold Value.okWide at h
 rw [hu] at h
 obtain ⟨cs, rfl, _⟩ := h
 rfl
theorem z6y {k : IntKind}  {a : A} (hu : P.underlying t = some (.int k)) (hr : Rep S a v.cells.toList) (h : Value.okWide P w r base t v) (ha : a.isAgg = false) : wx S a v := ⟨_, hr, by cases a <;> first | exact z8k hu h | cases ha⟩
theorem z1n {a : A} (hu : P.underlying t = some (.struct fs)) (hr : Rep S a v.cells.toList) (h : Value.okWide P w r base t v) (ha : a.isAgg = true) : wx S a v := ⟨_, hr, by cases a <;> first | exact z32 hu h | cases ha⟩
theorem z6Z {h : Array Obj}  {F : List Nat} (q : Has S h (.atom (.bool true)) v F) : v = .bool true := by
 rcases q with ⟨q, _⟩ | ⟨cs, q, _, rfl⟩
 ·rw [(zq.1 q).1]
 ·simp only [zG, Rep] at q
  obtain ⟨⟨rfl, _⟩, _⟩ := q
  rfl
end
section
variable {H : Type} {enc : TypeId × Value → H} {w : World} {base : Nat} {spare : Nat → Bool} {held : Bool}
theorem z88 : Tryd.prog.cellsOf 5 = 1 := by kernel_rfl
theorem rd5 {fuel : Nat}  {x : DataW H × List MemPlace} (h : DataW.trod enc Tryd.prog w base spare held fuel 5 cs = some x) : ∃ a : Int, Ok5 a ∧ Rep (JX w) ((eI .u8) a) cs := by
 obtain ⟨n, h1, _, h2⟩ := z4P Tryd.underlying5 (lo := 0) (hi := 255) rfl rfl h
 exact ⟨n, h1, h2⟩
theorem zbV : Tryd.prog.cellsOf 4 = 1 := by kernel_rfl
theorem rd4 {fuel : Nat}  {x : DataW H × List MemPlace} (h : DataW.trod enc Tryd.prog w base spare held fuel 4 cs = some x) : ∃ a : Bool, Ok4 a ∧ Rep (JX w) (eB a) cs := by
 obtain ⟨n, h2⟩ := z7l Tryd.underlying4 h
 exact ⟨n, trivial, h2⟩
theorem z7e : Tryd.prog.cellsOf 104 = 1 := by kernel_rfl
theorem zdV {fuel : Nat}  {x : DataW H × List MemPlace} (h : DataW.trod enc Tryd.prog w base spare held fuel 104 cs = some x) : ∃ a : Int, zac a ∧ Rep (JX w) ((eI .u16) a) cs := by
 obtain ⟨n, h1, _, h2⟩ := z4P Tryd.underlying104 (lo := 0) (hi := 65535) rfl rfl h
 exact ⟨n, h1, h2⟩
theorem z9Z : Tryd.prog.cellsOf 22 = 1 := by kernel_rfl
theorem zgL {fuel : Nat}  {x : DataW H × List MemPlace} (h : DataW.trod enc Tryd.prog w base spare held fuel 22 cs = some x) : ∃ a : List Int, zgh a ∧ Rep (JX w) ((eSl 1 false (eI .u16)) a) cs := by
 exact Q1 (eI .u16) zac Tryd.underlying22 z7e (by omega) (fun _ => rfl) (fun _ _ _ q => zdV q) h
theorem z5i : Tryd.prog.cellsOf 24 = 5 := by kernel_rfl
theorem zgK {fuel : Nat}  {x : DataW H × List MemPlace} (h : DataW.trod enc Tryd.prog w base spare held fuel 24 cs = some x) : ∃ a : yd, zgg a ∧ Rep (JX w) ((ul (eI .u8) (eI .u8) (eI .u8) eB (eSl 1 false (eI .u16))) a) cs := by
 obtain ⟨hl, hf⟩ := WC Tryd.underlying24 h
 rw [z5i] at hl
 obtain ⟨_, _, q0⟩ := hf 0 _ rfl
 obtain ⟨_, _, q1⟩ := hf 1 _ rfl
 obtain ⟨_, _, q2⟩ := hf 2 _ rfl
 obtain ⟨_, _, q3⟩ := hf 3 _ rfl
 obtain ⟨_, _, q4⟩ := hf 4 _ rfl
 simp only [z9Z, zbV, z88] at q0 q1 q2 q3 q4
 obtain ⟨a0, k0, r0⟩ := rd5 q0
 obtain ⟨a1, k1, r1⟩ := rd5 q1
 obtain ⟨a2, k2, r2⟩ := rd5 q2
 obtain ⟨a3, k3, r3⟩ := rd4 q3
 obtain ⟨a4, k4, r4⟩ := zgL q4
 refine ⟨⟨a0, a1, a2, a3, a4⟩, ⟨k0, k1, k2, k3, k4⟩, ?_⟩
 show Rep (JX w) (.agg [(eI .u8) a0, (eI .u8) a1, (eI .u8) a2, eB a3, (eSl 1 false (eI .u16)) a4]) cs
 simp only [Rep]
 refine kC (n := 1) (by simpa [List.drop_drop] using r0) (kC (n := 1) (by simpa [List.drop_drop] using r1) (kC (n := 1) (by simpa [List.drop_drop] using r2) (kC (n := 1) (by simpa [List.drop_drop] using r3) (kC (n := 1) (by simpa [List.drop_drop] using r4) ?_))))
 simp only [List.drop_drop, y5]
 exact List.drop_eq_nil_of_le (by omega)
theorem z9W : Tryd.prog.cellsOf 65 = 1 := by kernel_rfl
theorem zgH {fuel : Nat}  {x : DataW H × List MemPlace} (h : DataW.trod enc Tryd.prog w base spare held fuel 65 cs = some x) : ∃ a : List Int, zeQ a ∧ Rep (JX w) ((eSl 1 false (eI .u8)) a) cs := by
 exact Q1 (eI .u8) Ok5 Tryd.underlying65 z88 (by omega) (fun _ => rfl) (fun _ _ _ q => rd5 q) h
theorem z9Y : Tryd.prog.cellsOf 25 = 1 := by kernel_rfl
theorem zgJ {fuel : Nat}  {x : DataW H × List MemPlace} (h : DataW.trod enc Tryd.prog w base spare held fuel 25 cs = some x) : ∃ a : List (List Int), zgf a ∧ Rep (JX w) ((eSl 1 false (eSl 1 false (eI .u8))) a) cs := by
 exact Q1 (eSl 1 false (eI .u8)) zeQ Tryd.underlying25 z9W (by omega) (fun _ => rfl) (fun _ _ _ q => zgH q) h
theorem z9X : Tryd.prog.cellsOf 27 = 6 := by kernel_rfl
theorem zgI {fuel : Nat}  {x : DataW H × List MemPlace} (h : DataW.trod enc Tryd.prog w base spare held fuel 27 cs = some x) : ∃ a : wo, zge a ∧ Rep (JX w) ((uk (ul (eI .u8) (eI .u8) (eI .u8) eB (eSl 1 false (eI .u16))) (eSl 1 false (eSl 1 false (eI .u8)))) a) cs := by
 obtain ⟨hl, hf⟩ := WC Tryd.underlying27 h
 rw [z9X] at hl
 obtain ⟨_, _, q0⟩ := hf 0 _ rfl
 obtain ⟨_, _, q1⟩ := hf 1 _ rfl
 simp only [z5i, z9Y] at q0 q1
 obtain ⟨a0, k0, r0⟩ := zgK q0
 obtain ⟨a1, k1, r1⟩ := zgJ q1
 refine ⟨⟨a0, a1⟩, ⟨k0, k1⟩, ?_⟩
 show Rep (JX w) (.agg [(ul (eI .u8) (eI .u8) (eI .u8) eB (eSl 1 false (eI .u16))) a0, (eSl 1 false (eSl 1 false (eI .u8))) a1]) cs
 simp only [Rep]
 refine kC (n := 5) (by simpa [List.drop_drop] using r0) (kC (n := 1) (by simpa [List.drop_drop] using r1) ?_)
 simp only [List.drop_drop, y5]
 exact List.drop_eq_nil_of_le (by omega)
end
end Go.Own
namespace Go.Proofs.YtkelmheleahmpaaDoor.coveragesPart
open Go Go.ChangeShapes Go.WideShapes Go.ChangeAt Go.RowKit
theorem own : ownKnob Tryd.prog.godebug = none := by kernel_rfl
theorem z9C : laidOutB Tryd.prog = true := by kernel_rfl
section
variable {H : Type} {enc : TypeId × Value → H} {W : World}
set_option maxRecDepth 100000 in
theorem zgs {base : Nat} {v0 : Value} {d0 : DataW H} {p0 : List MemPlace} {v1 : Value} {d1 : DataW H} {p1 : List MemPlace} (h0 : DataW.Trod enc Tryd.prog W 0 (fun _ => true) true 27 v0 d0 p0) (h1 : DataW.Trod enc Tryd.prog W 0 (fun _ => true) true 5 v1 d1 p1) (k0 : Value.okWide Tryd.prog W .any base (27 : Nat) v0) (k1 : Value.okWide Tryd.prog W .any base (5 : Nat) v1) :
  Calls Tryd.prog 3 #[v0, v1] W fun e w' => e = .returned (.bool true) ∧ Go.Own.kY (fun k => W.heap.size ≤ k) W w' := by
 obtain ⟨n0, h0⟩ := h0
 obtain ⟨x0, o0, r0⟩ := Go.Own.zgI h0
 obtain ⟨n1, h1⟩ := h1
 obtain ⟨x1, o1, r1⟩ := Go.Own.rd5 h1
 have q := (Go.Own.z6g (Go.Own.z3i Go.Own.zcp List.mem_cons_self : Go.Own.vI.Ok Tryd.prog) (x := (x0, x1)) (r := true) (Go.Own.z6V o0 o1)).2 (Go.Own.JX W) W [v0, v1] [] ⟨fun _ _ _ h => h, fun g x e => by cases e⟩ ?_ (by simp)
 ·refine Calls.mono q ?_
  rintro e w' ⟨v, S', F', rfl, hk, _, _, _, hr, _, _⟩
  refine ⟨?_, hk.mono (by rintro k (h | h) <;> simp_all)⟩
  rw [Go.Own.z6Z hr]
 ·refine Go.Own.kW ?_
  have g0 : Go.Own.wx (Go.Own.JX W) ((Go.Own.uk (Go.Own.ul (Go.Own.eI .u8) (Go.Own.eI .u8) (Go.Own.eI .u8) Go.Own.eB (Go.Own.eSl 1 false (Go.Own.eI .u16))) (Go.Own.eSl 1 false (Go.Own.eSl 1 false (Go.Own.eI .u8)))) x0) v0 := Go.Own.z1n (t := (27 : Nat)) Tryd.underlying27 r0 k0 rfl
  have g1 : Go.Own.wx (Go.Own.JX W) ((Go.Own.eI .u8) x1) v1 := Go.Own.z6y (t := (5 : Nat)) Tryd.underlying5 r1 k1 rfl
  exact ⟨g0, g1, trivial⟩
end
set_option maxRecDepth 100000 in
theorem z74 (os : Os) (args : Array Value) : laidMetH Tryd.prog Rows.coveragesPartRow.laid ((World.doorLaid Tryd.prog 400 os).forCall (fun _ _ => 0) ⟨#[], args, []⟩).memory :=
 laidMetH_of_parts3 (fuel := 8) (laidMet_of_run' 8 (by kernel_rfl) (by kernel_rfl)) (by kernel_rfl) (by kernel_rfl)
set_option maxRecDepth 100000 in
theorem zbs (os : Os) (started : os.Started) (H : Type) (enc : TypeId × Value → H) :
  ReturnsInHanded {} Tryd.checked os 3 .any (fun w args => (Rows.coveragesPartSpec.pre enc Tryd.prog Tryd.f3 Rows.coveragesPartRow.domain false w args ∧ laidMetH Tryd.prog Rows.coveragesPartRow.laid w) ∧ sizedMet enc Tryd.prog Tryd.f3 (OpenSpec.ofChange Rows.coveragesPartSpec) false w args) (Rows.coveragesPartSpec.post enc Tryd.prog Tryd.f3 false true false false) := by
 refine returnsInHanded_of_change_and (C := Tryd.checked) (X := fun w _ => laidMetH Tryd.prog Rows.coveragesPartRow.laid w) (fun _ _ _ hh h => h.of_heap hh) own started (by kernel_rfl) Tryd.func3
  (ChangeSpec.witness_shaped (enc := enc) (C := Tryd.checked) (os := os) (X := fun w _ => laidMetH Tryd.prog Rows.coveragesPartRow.laid w) false (World.doorLaid Tryd.prog 400 os) #[.agg #[.int .u8 0, .int .u8 0, .int .u8 0, .bool false, .slice none 0 0, .slice none 0 0], .int .u8 0] 8 rfl (World.shaped_of_RefB (by kernel_rfl) (by kernel_rfl)) (by kernel_rfl) (by kernel_rfl) (by kernel_rfl) (z74 os _)) ?_
 intro W base args ds gs before hval0 hW hcnd _ hL _
 have hval : ∀ (j : Nat) t v, Tryd.f3.params[j]? = some t → args[j]? = some v → Value.okWide Tryd.prog W .any base t v := hval0
 have hW' := hW
 obtain ⟨p, q, hA0, hV, rfl, hfz, hnd⟩ := hW
 have hA : DataW.TrodAll enc Tryd.prog W 0 (fun _ => true) true Tryd.f3.params.toList args.toList ds p := hA0
 rw [Tryd.params3] at hA hval
 obtain ⟨v0, v1, d0, d1, p0, p1, rfl, rfl, rfl, h0, h1⟩ := trodAll_two hA
 obtain ⟨rfl, rfl⟩ := trodVars_none hV
 clear hA0 hval0
 refine (zgs h0 h1 (hval 0 (27 : Nat) v0 rfl rfl) (hval 1 (5 : Nat) v1 rfl rfl)).mono fun e W' ⟨he, hk⟩ => ?_
 subst he
 have hb : Below W.heap.size W W' := ⟨hk.os, hk.tape, hk.output, hk.size, fun k q => hk.block k (by omega)⟩
 have hlt : ∀ x ∈ p0 ++ p1, x.block < W.heap.size := fun x hx => by simpa using hW'.lt x (by simpa using hx)
 refine ⟨_, rfl, Go.Own.z4k rfl rfl hW' hb (fun _ _ _ => trodAll_cons_mk (shut_bool Tryd.underlying4 _) trodAll_mk0) (fun sp hsp => ?_) (ok_one (by kernel_rfl) rfl (okWide_bool_mk Tryd.underlying4 _))⟩
 have st : ∀ {t : Nat} {v : Value} {d : DataW H} {p' : List MemPlace}, DataW.Trod enc Tryd.prog W 0 (fun _ => true) true t v d p' → Tryd.prog.readableRec t = true → t < Tryd.prog.types.size → (∀ x ∈ p', x ∈ p0 ++ p1) → DataW.Trod enc Tryd.prog W' 0 sp true t v d p' := by
  intro t v d p' hd h1 h2 hp
  exact WideElems.Trod_stays z9C h1 h2 hd (fun x hx => hb.same (hlt x (hp x hx))) (fun x hx => hsp x (by simpa using hp x hx))
 have := trodAll_mk2 (st h0 (by kernel_rfl) (of_decide_eq_true (by kernel_rfl)) (fun x hx => by simp [hx])) (st h1 (by kernel_rfl) (of_decide_eq_true (by kernel_rfl)) (fun x hx => by simp [hx]))
 rw [Tryd.params3]
 exact this
theorem ZI : Rows.coveragesPartRow.holds Tryd.pinned (OpenSpec.ofChange Rows.coveragesPartSpec) :=
 OpenClaim.holds_of_wide 3 Tryd.f3 rfl rfl rfl rfl rfl rfl rfl ⟨rfl, rfl, rfl, rfl, rfl⟩ rfl rfl rfl rfl rfl (by kernel_rfl) Tryd.func3 (by kernel_rfl)
  (of_decide_eq_true (by kernel_rfl)) (by unfold Func.isWrapper; first | (rw [if_pos (by decide +kernel)]; kernel_rfl) | (rw [if_neg (by decide +kernel)]; exact ⟨rfl, rfl⟩))
  (fun os started H enc _ => zbs os started H enc)
theorem proved : Rows.CoveragesPartCardSaid :=
 Claim7.holds_tied_plain_at .later [] [.data, .data, .data] true (true, "fd240e39abc7d9650345d5363485ca95c3f953fda4858117605acc718f919ae9") false
  ZI (fun _ h => by cases h) (by kernel_rfl) (fun _ h => by cases h) coveragesPart_row_tie rfl ⟨rfl, rfl⟩ (by kernel_rfl) rfl
  (fun f fn hf hfn => by
   obtain rfl : f = 3 := Option.some.inj ((show Tryd.prog.funcNamed "gauntlet/gauntletlaw40.CoveragesPart" = some 3 by kernel_rfl).symm.trans hf) |>.symm
   obtain rfl : fn = Tryd.f3 := (Option.some.inj (Tryd.func3.symm.trans hfn)).symm
   exact ⟨by kernel_rfl, fun j t ht => by
    rw [Tryd.params3] at ht
    have hm : t ∈ [27, 5] := by simpa using Array.mem_of_getElem? ht
    have hall : ([27, 5].all fun u => !Tryd.prog.wantsStandIn u) = true := by kernel_rfl
    exact (show Tryd.prog.wantsStandIn t = false by simpa using List.all_eq_true.1 hall t hm)⟩)
  (by kernel_rfl)
#print axioms proved
end Go.Proofs.YtkelmheleahmpaaDoor.coveragesPart
end
