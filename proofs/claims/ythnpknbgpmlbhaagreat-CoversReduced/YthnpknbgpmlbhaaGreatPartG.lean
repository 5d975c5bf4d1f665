/- Walks, further. -/
import Derived.Test.YthnpknbgpmlbhaaGreatPartF
import Derived.Test.YthnpknbgpmlbhaaGreatPartC
import Derived.Test.YthnpknbgpmlbhaaGreatPartE
noncomputable section
set_option linter.unusedVariables false
set_option linter.unusedSimpArgs false
namespace Go.Own
theorem oB {α : Type _} {β : Type _} (a : α) (f : α → Option β) : Option.bind (some a) f = f a := rfl
open Go.Proofs
set_option maxRecDepth 100000
set_option maxHeartbeats 8000000
def jl : Code := (Tryz.f78.body).getD .skip
def WQ : zU := spF (α := List (List Int) × List Int) (ρ := List (List Int)) 78 (fun x => [z6M x.1, F4_ x.2]) (fun r => z6M r) (fun x => WU x.1 x.2) [true, false] (Wu)
abbrev z0N (w_ : List Int) (low : Int) (l_1 : List (List Int)) : List (Nat × T) := [(0, .own (eOs 1 false F4_ l_1)), (1, .d (eSl 1 false (eI .i64) w_)), (5, .d (I low))]
abbrev z0M (w_ : List Int) (low : Int) (l_2 : List (List Int)) (i_ : Int) : List (Nat × T) := [(0, .own (eOs 1 false F4_ l_2)), (1, .d (eSl 1 false (eI .i64) w_)), (5, .d (I low)), (8, .d (I i_))]
abbrev z0O (l_ : List (List Int)) (w_ : List Int) (low : Int) : List (Nat × T) := [(0, .own (eOs 1 false F4_ l_)), (1, .d (eSl 1 false (eI .i64) w_)), (5, .d (I low))]
abbrev z0P (l_ : List (List Int)) (w_ : List Int) (low : Int) : List (Nat × T) := [(0, .own (eOs 1 false F4_ l_)), (1, .d (eSl 1 false (eI .i64) w_)), (5, .d (I low))]
abbrev z0L (l_ : List (List Int)) (w_ : List Int) (low1 : Int) (high : Int) : List (Nat × T) := [(0, .own (eOs 1 false F4_ l_)), (1, .d (eSl 1 false (eI .i64) w_)), (5, .d (I low1)), (6, .d (I high))]
def xr : XH Tryz.prog := ((u0 zp (.inr 66) [65]).or ((u0 zp (.inl 44) [43]).or X0))
theorem z4v {ctr : Ctr} (hC : zA Tryz.prog ctr) (h0i : ctr.Has qU) : WQ.Ok Tryz.prog := by
 refine zC ?_
 rintro ⟨l_, w_⟩ r0 hf0
 try unfold WU at hf0
 refine yO true [(4, none)] jl 68 Tryz.func78 fun E hE => ?_
 refine yJ xr hC jl [1,1,1] [] [0,1,5] (fun z : Int => YK l_ w_ z = some r0) (fun z => z0P l_ w_ z) [(0, .own (eOs 1 false F4_ l_)), (1, .d (eSl 1 false (eI .i64) w_)), (5, .d (I 0)), (6, .d (I ((l_.length : Nat) : Int)))] [Ha (lnM F4_ l_), Hh (.cut 0)] ?_ fun J1 hJ1 => ?_
 ·rintro low hf0
  unfold YK at hf0
  refine yJ xr hC jl [1,1,1,1] [] [0,1,5] (fun z : Unit => ji l_ w_ low = some r0) (fun z => z0O l_ w_ low) [(0, .own (eOs 1 false F4_ l_)), (1, .d (eSl 1 false (eI .i64) w_)), (5, .d (I low))] [Hh (.cut 0)] ?_ fun J2 hJ2 => ?_
  ·rintro ⟨⟩ hf0
   unfold ji at hf0
   obtain ⟨g0, hf0⟩ := gdE hf0
   refine yJ ((xNb zp 43).or xr) hC jl [1,1,1,1,1,1] [] [0,1,5] (fun z : List (List Int) => YJ w_ low z = some r0) (fun z => z0N w_ low z) [(0, .own (eOs 1 false F4_ (l_ ++ ([[]] : List (List Int))))), (1, .d (eSl 1 false (eI .i64) w_)), (5, .d (I low))] [Hm (shM F5_ F4_ ([[]])), Hn (dM F4_ ([[]] : List (List Int))), Hn (aL F4_ F4_ g0), Hl (aM F4_ l_ ([[]] : List (List Int))), Hh (.cut 0)] ?_ fun J3 hJ3 => ?_
   ·rintro l_1 hf0
    unfold YJ at hf0
    obtain ⟨g1, hf0⟩ := gdE hf0
    obtain ⟨l__e, h0, hf0⟩ := zg hf0
    obtain rfl := zf hf0
    exact yE xr hC hE [Hn (dM (eI .i64) w_), Hn (aL (eI .i64) (eI .i64) g1), Hl (aM0 (eI .i64) w_), Hn (iL F4_ h0), Hm (shM (eI .i64) (eI .i64) w_), Hs (iM F4_ h0), Hs (iM F4_ h0), Hl (sM F4_ l_1 low w_)]
   ·obtain ⟨t4, ht4, hf0⟩ := zg hf0
    refine yL xr hC jl [1,1,1,1,1,1,2,1,0] [J3] (fun s => kU low s.1 s.2) (fun x => z0M w_ low x.1 x.2) ((l_ ++ ([[]] : List (List Int))), w64 ((((l_ ++ ([[]] : List (List Int))).length : Nat) : Int) - 1)) ht4  [Ha (lnM F4_ (l_ ++ ([[]] : List (List Int))))] ?_
    rintro ⟨l_2, i_⟩ m4 lr1 hf1 hl1 J4 hJ4
    try unfold kU at hf1
    rcases zP hf1 with ⟨c0, hf1⟩ | ⟨c0, hf1⟩
    ·obtain ⟨l__e1, h1, hf1⟩ := zg hf1
     obtain ⟨l__e2, h2, hf1⟩ := zg hf1
     obtain rfl := zf hf1
     exact yB xr hC hJ4 ((l_2.set i_.toNat l__e1), w64 (i_ - 1)) hl1 [Hq c0, Hn (iL F4_ h1), Hs (iM F4_ h1), Hn (iL F4_ h2), Hs (iM F4_ h2), Hs (iM F4_ h2), Hl (sM F4_ l_2 i_ l__e1)]
    ·obtain rfl := zf hf1
     obtain rfl := hl1
     exact yB xr hC hJ3 l_2 hf0 [Hq c0]
  ·let Z0 : List HO := [Ha (lnM F4_ l_)]
   rcases zP hf0 with ⟨c1, hf0⟩ | ⟨c1, hf0⟩
   ·obtain ⟨l__e3, h3, hf0⟩ := zg hf0
    obtain ⟨r_, h4, hf0⟩ := zg hf0
    let Z1 : List HO := (Z0 ++ [Hq c1, Hq c1, Hq c1, Hn (iL F4_ h3), Hq c1, Hs (iM F4_ h3), Hq c1, Hq c1, Hc h0i (x := (l__e3, w_)) h4 (loC F4_ l__e3 <| loC F4_ w_ <| loN), Hq c1, Hq c1])
    rcases zP hf0 with ⟨c2, hf0⟩ | ⟨c2, hf0⟩
    ·obtain rfl := zf hf0
     exact yE xr hC hE (Z1 ++ [Hq c2])
    ·exact yB xr hC hJ2 () hf0 (Z1 ++ [Hq c2])
   ·exact yB xr hC hJ2 () hf0 (Z0 ++ (rpN 8 (Hq c1) [qF]))
 ·obtain ⟨t5, ht5, hf0⟩ := zg hf0
  refine yL xr hC jl [1,1,1,2,0] [J1] (fun s => kT l_ w_ s.1 s.2) (fun x => z0L l_ w_ x.1 x.2) (0, ((l_.length : Nat) : Int)) ht5  [] ?_
  rintro ⟨low1, high⟩ m5 lr1 hf1 hl1 J5 hJ5
  try unfold kT at hf1
  rcases zP hf1 with ⟨c3, hf1⟩ | ⟨c3, hf1⟩
  ·obtain ⟨g2, hf1⟩ := gdE hf1
   obtain ⟨l__e4, h5, hf1⟩ := zg hf1
   obtain ⟨r_1, h6, hf1⟩ := zg hf1
   let Z2 : List HO := [Hq c3, Hn g2, Hn (iL F4_ h5), Hs (iM F4_ h5), Hc h0i (x := (l__e4, w_)) h6 (loC F4_ l__e4 <| loC F4_ w_ <| loN)]
   rcases zP hf1 with ⟨c4, hf1⟩ | ⟨c4, hf1⟩
   ·obtain rfl := zf hf1
    exact yB xr hC hJ5 (w64 ((w64 (Int.tdiv (w64 (low1 + high)) 2)) + 1), high) hl1 (Z2 ++ [Hq c4])
   ·obtain rfl := zf hf1
    exact yB xr hC hJ5 (low1, w64 (Int.tdiv (w64 (low1 + high)) 2)) hl1 (Z2 ++ [Hq c4])
  ·obtain rfl := zf hf1
   obtain rfl := hl1
   exact yB xr hC hJ1 low1 hf0 [Hq c3]
def W8 : Code := (Tryz.f42.body).getD .skip
def ZD : zU := spF (α := List (List Int)) (ρ := List (List Int)) 42 (fun x => [uH x]) (fun r => z6M r) (fun x => Y0 x) [] (VX)
abbrev JV (out : List (List Int)) : List (Nat × T) := [(3, .own (eOs 1 false F4_ out))]
abbrev JU (l_ : List (List Int)) (out1 : List (List Int)) (i_ : Int) : List (Nat × T) := [(0, .d (eSl 1 false F4_ l_)), (3, .own (eOs 1 false F4_ out1)), (4, .d (I i_))]
theorem z3b {ctr : Ctr} (hC : zA Tryz.prog ctr) (h1l : ctr.Has WQ) : ZD.Ok Tryz.prog := by
 refine zC ?_
 rintro l_ r0 hf0
 try unfold Y0 at hf0
 refine yO true [(2, none)] W8 18 Tryz.func42 fun E hE => ?_
 refine yJ X0 hC W8 [1,1] [] [3] (fun z : List (List Int) => XS z = some r0) (fun z => JV z) [(0, .d (eSl 1 false F4_ l_)), (3, .own (eOs 1 true F4_ []))] [Hh (.cut 2)] ?_ fun J1 hJ1 => ?_
 ·rintro out hf0
  unfold XS at hf0
  obtain rfl := zf hf0
  exact yE X0 hC hE []
 ·obtain ⟨t2, ht2, hf0⟩ := zg hf0
  refine yLx X0 hC W8 [1,1,2,1,0] [J1] (fun s => va l_ s.1 s.2) (fun x => JU l_ x.1 x.2) (([] : List (List Int)), 0) ht2 [(0, .d (eSl 1 false F4_ l_)), (3, .own (eOs 1 true F4_ [])), (4, .d (I 0))] inferInstance [] ?_
  rintro ⟨out1, i_⟩ m2 lr1 hf1 hl1 J2 hJ2
  try unfold va at hf1
  let Z0 : List HO := [Ha (lnM F4_ l_)]
  rcases zP hf1 with ⟨c0, hf1⟩ | ⟨c0, hf1⟩
  ·obtain ⟨l__e, h0, hf1⟩ := zg hf1
   obtain ⟨r_, h1, hf1⟩ := zg hf1
   obtain rfl := zf hf1
   exact yB X0 hC hJ2 (r_, w64 (i_ + 1)) hl1 (Z0 ++ [Hq c0, Hi F4_ h0, Hc h1l (x := (out1, l__e)) h1 (loC z6M out1 <| loC F4_ l__e <| loN)])
  ·obtain rfl := zf hf1
   obtain rfl := hl1
   exact yB X0 hC hJ1 out1 hf0 (Z0 ++ [Hq c0])
def z2O : Code := (Tryz.f18.body).getD .skip
def XK : zU := spF (α := yf) (ρ := List (List Int)) 18 (fun x => [z0S x]) (fun r => z6M r) (fun x => Xp x) [] (VX)
theorem z3f {ctr : Ctr} (hC : zA Tryz.prog ctr) (h1m : ctr.Has YW) (h0f : ctr.Has ZD) : XK.Ok Tryz.prog := by
 refine zC ?_
 rintro x_ r0 hf0
 try unfold Xp at hf0
 refine yO true [(2, none)] z2O 6 Tryz.func18 fun E hE => ?_
 obtain ⟨r_, h0, hf0⟩ := zg hf0
 obtain ⟨r_1, h1, hf0⟩ := zg hf0
 obtain rfl := zf hf0
 exact yE X0 hC hE [Hc h1m (x := x_) h0 (loC z0S x_ <| loN), Hg (z0i h0f), Hm (shM F5_ F4_ r_), Hs (z0j h0f (x := r_) h1 (loC uH r_ <| loN)), Hm (shM F5_ F4_ r_)]
def vS : Code := (Tryz.f17.body).getD .skip
def Yb : zU := spF (α := List (List Int) × Int) (ρ := List (List Int)) 17 (fun x => [uH x.1, (eI .i64) x.2]) (fun r => z6M r) (fun x => kV x.1 x.2) [] (Wu)
abbrev Qb (out : List (List Int)) : List (Nat × T) := [(5, .own (eOs 1 false F5_ out))]
abbrev Qa (l_ : List (List Int)) (inputs : Int) (i_ : Int) (out2 : List (List Int)) : List (Nat × T) := [(0, .d (eSl 1 false F4_ l_)), (1, .d (I inputs)), (5, .own (eOs 1 false F5_ out2)), (6, .d (I i_))]
abbrev Q9 (l_ : List (List Int)) (inputs : Int) (out1 : List (List Int)) (i_ : Int) (w_ : List Int) : List (Nat × T) := [(0, .d (eSl 1 false F4_ l_)), (1, .d (I inputs)), (5, .own (eOs 1 false F5_ out1)), (6, .d (I i_)), (7, .own (eOs 1 false (eI .i64) w_))]
abbrev Q7 (l_ : List (List Int)) (inputs : Int) (out1 : List (List Int)) (i_ : Int) (w_1 : List Int) (k_ : Int) : List (Nat × T) := [(0, .d (eSl 1 false F4_ l_)), (1, .d (I inputs)), (5, .own (eOs 1 false F5_ out1)), (6, .d (I i_)), (7, .own (eOs 1 false (eI .i64) w_1)), (8, .d (I k_))]
abbrev Q8 (l_ : List (List Int)) (inputs : Int) (out1 : List (List Int)) (i_ : Int) : List (Nat × T) := [(0, .d (eSl 1 false F4_ l_)), (1, .d (I inputs)), (5, .own (eOs 1 false F5_ out1)), (6, .d (I i_))]
theorem z10 {ctr : Ctr} (hC : zA Tryz.prog ctr) (h0f : ctr.Has ZD) : Yb.Ok Tryz.prog := by
 refine zC ?_
 rintro ⟨l_, inputs⟩ r0 hf0
 try unfold kV at hf0
 refine yO true [(4, none)] vS 42 Tryz.func17 fun E hE => ?_
 refine yJ X0 hC vS [1,1] [] [5] (fun z : List (List Int) => jB z = some r0) (fun z => Qb z) [(0, .d (eSl 1 false F4_ l_)), (1, .d (I inputs)), (5, .own (eOs 1 true F4_ []))] [Hh (.cut 2)] ?_ fun J1 hJ1 => ?_
 ·rintro out hf0
  unfold jB at hf0
  obtain ⟨r_, h0, hf0⟩ := zg hf0
  obtain rfl := zf hf0
  exact yE X0 hC hE [Hg (z0i h0f), Hm (shM F5_ F4_ out), Hs (z0j h0f (x := out) h0 (loC uH out <| loN)), Hm (shM F5_ F4_ out)]
 ·obtain ⟨t2, ht2, hf0⟩ := zg hf0
  refine yLx X0 hC vS [1,1,2,1,0] [J1] (fun s => vN l_ inputs s.1 s.2) (fun x => Q8 l_ inputs x.1 x.2) (([] : List (List Int)), 0) ht2 [(0, .d (eSl 1 false F4_ l_)), (1, .d (I inputs)), (5, .own (eOs 1 true F5_ [])), (6, .d (I 0))] inferInstance [] ?_
  rintro ⟨out1, i_⟩ m2 lr1 hf1 hl1 J2 hJ2
  try unfold vN at hf1
  let Z0 : List HO := [Ha (lnM F4_ l_)]
  rcases zP hf1 with ⟨c0, hf1⟩ | ⟨c0, hf1⟩
  ·refine yJ X0 hC vS [1,1,2,1,0,0,1] [J1, J2] [0,1,5,6] (fun z : List (List Int) => jA i_ z = some lr1) (fun z => Qa l_ inputs i_ z) [(0, .d (eSl 1 false F4_ l_)), (1, .d (I inputs)), (5, .own (eOs 1 false F5_ out1)), (6, .d (I i_))] (Z0 ++ [Hq c0, Hh (.cut 0)]) ?_ fun J3 hJ3 => ?_
   ·rintro out2 hf1
    unfold jA at hf1
    obtain rfl := zf hf1
    exact yB X0 hC hJ2 (out2, w64 (i_ + 1)) hl1 []
   ·refine yJ X0 hC vS [1,1,2,1,0,0,1,2,0,1] [J1, J2, J3] [0,1,5,6,7] (fun z : List Int => jz out1 i_ z = some lr1) (fun z => Q9 l_ inputs out1 i_ z) [(0, .d (eSl 1 false F4_ l_)), (1, .d (I inputs)), (5, .own (eOs 1 false F5_ out1)), (6, .d (I i_)), (7, .own (eOs 1 true (eI .i64) []))] [Hh (.cut 1)] ?_ fun J4 hJ4 => ?_
    ·rintro w_ hf1
     unfold jz at hf1
     obtain ⟨g0, hf1⟩ := gdE hf1
     exact yB X0 hC hJ3 (out1 ++ ([w_] : List (List Int))) hf1 [Hq (oC F5_ w_ []), Hn (aL F5_ F5_ g0), Hl (aM F5_ out1 ([w_] : List (List Int)))]
    ·obtain ⟨t5, ht5, hf1⟩ := zg hf1
     refine yLx X0 hC vS [1,1,2,1,0,0,1,2,0,1,2,1,0] [J1, J2, J3, J4] (fun s => vM l_ inputs i_ s.1 s.2) (fun x => Q7 l_ inputs out1 i_ x.1 x.2) (([] : List Int), 0) ht5 [(0, .d (eSl 1 false F4_ l_)), (1, .d (I inputs)), (5, .own (eOs 1 false F5_ out1)), (6, .d (I i_)), (7, .own (eOs 1 true (eI .i64) [])), (8, .d (I 0))] inferInstance [] ?_
     rintro ⟨w_1, k_⟩ m5 lr2 hf2 hl2 J5 hJ5
     try unfold vM at hf2
     obtain ⟨l__e, h1, hf2⟩ := zg hf2
     let Z1 : List HO := [Hi F4_ h1, Ha (lnM (eI .i64) l__e)]
     rcases zP hf2 with ⟨c1, hf2⟩ | ⟨c1, hf2⟩
     ·obtain ⟨l__e1, h2, hf2⟩ := zg hf2
      obtain ⟨l__e_e, h3, hf2⟩ := zg hf2
      obtain ⟨g1, hf2⟩ := gdE hf2
      obtain ⟨g2, hf2⟩ := gdE hf2
      obtain rfl := zf hf2
      exact yB X0 hC hJ5 ((w_1 ++ ([Int.tmod l__e_e inputs] : List Int)), w64 (k_ + 1)) hl2 (Z1 ++ [Hq c1, Hi F4_ h2, Hi (eI .i64) h3, Hn g1, Hq (dM (eI .i64) ([Int.tmod l__e_e inputs] : List Int)), Hn (dM (eI .i64) ([Int.tmod l__e_e inputs] : List Int)), Hn (aL (eI .i64) (eI .i64) g2), Hl (aM (eI .i64) w_1 ([Int.tmod l__e_e inputs] : List Int))])
     ·obtain rfl := zf hf2
      obtain rfl := hl2
      exact yB X0 hC hJ4 w_1 hf1 (Z1 ++ [Hq c1])
  ·obtain rfl := zf hf1
   obtain rfl := hl1
   exact yB X0 hC hJ1 out1 hf0 (Z0 ++ [Hq c0])
def Ua : Code := (Tryz.f66.body).getD .skip
def u6 : zU := spF (α := zb) (ρ := Bool) 66 (fun x => [Xd x]) (fun r => eB r) (fun x => qS x) [] (VX)
theorem Ul {ctr : Ctr} (hC : zA Tryz.prog ctr) : u6.Ok Tryz.prog := by
 refine zC ?_
 rintro x0 r0 hf0
 try unfold qS at hf0
 refine yO true [(2, none)] Ua 3 Tryz.func66 fun E hE => ?_
 obtain rfl := zf hf0
 exact yE X0 hC hE []
def xL : Code := (Tryz.f62.body).getD .skip
def qY : zU := spF (α := List zb × Unit) (ρ := List (List Int)) 62 (fun x => [zbl x.1, (Zr 66) x.2]) (fun r => Zd r) (fun x => uh x.1 x.2) [] (by
 rintro ⟨a0, a1⟩ ⟨b0, b1⟩ h
 have e0 := uI.inj (f := zbl) _ _ (List.cons.inj h).1
 replace h := (List.cons.inj h).2
 have e1 := uI.inj (f := (Zr 66)) _ _ (List.cons.inj h).1
 subst e0 e1
 rfl)
abbrev WE (out : List (List Int)) : List (Nat × T) := [(4, .own (.box (eOs 1 false F1_ out)))]
abbrev uG (nodes : List zb) (r_1 : List zb) (out1 : List (List Int)) : List (Nat × T) := [(2, .own (.box (eSl 2 false Xd nodes))), (3, .own (.box (.fn 66 []))), (4, .own (.box (eOs 1 false F1_ out1))), (7, .d (.fn 111 [.sptr (eSl 2 false Xd r_1)]))]
theorem Uk {ctr : Ctr} (hC : zA Tryz.prog ctr) (h0e : ctr.Has ju) (h01 : ctr.Has zO) (h0q : ctr.Has u6) (h04 : ctr.Has yk) : qY.Ok Tryz.prog := by
 refine zC ?_
 rintro ⟨nodes, is⟩ r0 hf0
 try unfold uh at hf0
 refine yO false [(4, some 29)] xL 25 Tryz.func62 fun E hE => ?_
 refine yJ X0 hC xL [1] [] [4] (fun z : List (List Int) => u4 z = some r0) (fun z => WE z) [(2, .own (.box (eSl 2 false Xd nodes))), (3, .own (.box (.fn 66 []))), (4, .own (.box (eOs 1 true F4_ [])))] [Hh (.cut 1)] ?_ fun J1 hJ1 => ?_
 ·rintro out hf0
  unfold u4 at hf0
  obtain ⟨r_, h0, hf0⟩ := zg hf0
  obtain rfl := zf hf0
  exact yE ((Qi zp (qJ hC) 24).or X0) hC hE [Hh (.g []), Hn qG, Hm (shM F1_ F1_ out), Hx (.a (Zd r_)) (qE out _ h0), Hm (shM F1_ F1_ out)]
 ·obtain ⟨r_1, h1, hf0⟩ := zg hf0
  obtain ⟨t2, ht2, hf0⟩ := zg hf0
  refine yAt X0 hC (sub [1,2,1,0] xL) (frs [1,2,1,0] [J1] xL []) [(2, .own (.box (eSl 2 false Xd nodes))), (3, .own (.box (.fn 66 []))), (4, .own (.box (eOs 1 true F1_ []))), (7, .d (.fn 111 [.sptr (eSl 2 false Xd r_1)]))] [Hc h0e (x := nodes) h1 (loC zbl nodes <| loN)] fun st0 h0 => ?_
  refine z5b (g := .tmp 7) (ps := [8]) (assign := (sub [1,2,1,0,0] xL)) (body := (sub [1,2,1,0,1] xL)) (K := 111) (caps := [.sptr (eSl 2 false Xd r_1)]) (by kernel_rfl) [2,3,4,7] (fun s => uG nodes r_1 s) (fun z => nomatch z) (fun z => nomatch z) ((fun (x : zc) (_ : Bool) (_ : Value) => [Xw x])) (F := @vV r_1) (fun s x => wD nodes s x) ([] : List (List Int)) t2 _ h0 inferInstance (by kernel_rfl) (by decide) (fun _ => rfl) (by rintro ⟨⟩) (by kernel_rfl) (fun _ _ _ => rfl) (VA hC h01 r_1) ht2 ?_ ?_
  ·rintro tv2 out1 x8 vr lr1 hf1
   replace hf1 : wD nodes out1 x8 = some lr1 := hf1
   unfold wD at hf1
   refine yF X0 hC .normal [(2, .own (.box (eSl 2 false Xd nodes))), (3, .own (.box (.fn 66 []))), (4, .own (.box (eOs 1 false F1_ out1))), (5, .own (.box (Xw x8))), (7, .d (.fn 111 [.sptr (eSl 2 false Xd r_1)]))] [] fun st0 h0 => ⟨rfl, z6J h0 ?_⟩
   obtain ⟨node_e, h2, hf1⟩ := zg hf1
   obtain ⟨r_2, h3, hf1⟩ := zg hf1
   let Z0 : List HO := [Hi Xd h2, Hc h0q (x := node_e) h3 (loC Xd node_e <| loN)]
   rcases zP hf1 with ⟨c0, hf1⟩ | ⟨c0, hf1⟩
   ·obtain ⟨r_3, h4, hf1⟩ := zg hf1
    obtain ⟨r_4, h5, hf1⟩ := zg hf1
    obtain ⟨g0, hf1⟩ := gdE hf1
    obtain rfl := zf hf1
    exact yF X0 hC .normal (uG nodes r_1 (out1 ++ ([r_4] : List (List Int)))) (Z0 ++ [Hq c0, Hc h04 (x := x8.w_) h4 (loC F4_ x8.w_ <| loN), Hg (z0i h01), Hm (shM (eI .i64) (eI .i64) r_3), Hs (z0j h01 (x := r_3) h5 (loC F4_ r_3 <| loN)), Hm (shM (eI .i64) (eI .i64) r_3), Hq (dM F1_ ([r_4] : List (List Int))), Hn (dM F1_ ([r_4] : List (List Int))), Hn (aL F1_ F1_ g0), Hl (aM F1_ out1 ([r_4] : List (List Int)))]) fun st0 h0 => ⟨rfl, _, h0, LeL.refl _⟩
   ·obtain rfl := zf hf1
    exact yF X0 hC .normal (uG nodes r_1 out1) (Z0 ++ [Hq c0]) fun st0 h0 => ⟨rfl, _, h0, LeL.refl _⟩
  ·rcases t2 with out1 | z
   ·dsimp only at hf0
    exact UQ (by kernel_rfl) (hJ1 _ [(4, .own (.box (eOs 1 false F1_ out1)))] out1 hf0 (show Own.canon [4] _ = ofL _ by kernel_rfl) inferInstance)
   ·cases z
def z1a : Code := (Tryz.f65.body).getD .skip
def YT : zU := spF (α := List (List Int)) (ρ := List (List Int) × Int) 65 (fun x => [Zd x]) (fun r => .tup [Zd r.1, (eI .i64) r.2]) (fun x => Xz x) [] (VX)
theorem z1U {ctr : Ctr} (hC : zA Tryz.prog ctr) (h07 : ctr.Has qL) : YT.Ok Tryz.prog := by
 refine zC ?_
 rintro l_ r0 hf0
 try unfold Xz at hf0
 refine yO false [(2, none), (3, none)] z1a 13 Tryz.func65 fun E hE => ?_
 let Z0 : List HO := [Ha (lnM F1_ l_)]
 rcases zP hf0 with ⟨c0, hf0⟩ | ⟨c0, hf0⟩
 ·obtain rfl := zf hf0
  exact yEx X0 hC hE (Z0 ++ (rpN 4 (Hq c0) [qT, Hm (shM F4_ F4_ [])])) (.tup [eSl 1 true F1_ [], I 3]) (show LeV (.tup [eSl 1 true F1_ [], I 3]) (.tup [eSl 1 true F1_ ([] : List (List Int)), I 3]) from inferInstance)
 ·obtain ⟨r_, h0, hf0⟩ := zg hf0
  let Z1 : List HO := (Z0 ++ [Hq c0, Hq c0, Hc h07 (x := l_) h0 (loC Zd l_ <| loN), Hq c0, Hq c0])
  rcases zP hf0 with ⟨c1, hf0⟩ | ⟨c1, hf0⟩
  ·obtain rfl := zf hf0
   exact yEx X0 hC hE (Z1 ++ [Hq c1, Hm (shM F4_ F4_ [])]) (.tup [eSl 1 true F1_ [], I 3]) (show LeV (.tup [eSl 1 true F1_ [], I 3]) (.tup [eSl 1 true F1_ ([] : List (List Int)), I 3]) from inferInstance)
  ·obtain rfl := zf hf0
   exact yE X0 hC hE (Z1 ++ [Hq c1])
def QG : Code := (Tryz.f32.body).getD .skip
def kn : zU := spF (α := List (List Int) × Int) (ρ := List (List Int) × Int) 32 (fun x => [uH x.1, (eI .i64) x.2]) (fun r => .tup [Zd r.1, (eI .i64) r.2]) (fun x => qK x.1 x.2) [] (Wu)
theorem Jy {ctr : Ctr} (hC : zA Tryz.prog ctr) (h06 : ctr.Has uu) (h0p : ctr.Has XB) (h0e : ctr.Has ju) (h01 : ctr.Has zO) (h0q : ctr.Has u6) (h04 : ctr.Has yk) (h1n : ctr.Has YT) : kn.Ok Tryz.prog := by
 refine zC ?_
 rintro ⟨l_, inputs⟩ r0 hf0
 try unfold qK at hf0
 refine yO false [(4, none), (5, none)] QG 31 Tryz.func32 fun E hE => ?_
 obtain ⟨r_, h0, hf0⟩ := zg hf0
 let Z0 : List HO := [Hc h06 (x := (l_, inputs)) h0 (loC uH l_ <| loC (eI .i64) inputs <| loN)]
 rcases zP hf0 with ⟨c0, hf0⟩ | ⟨c0, hf0⟩
 ·obtain rfl := zf hf0
  exact yEx X0 hC hE (Z0 ++ [Hq c0, Hm (shM F4_ F4_ [])]) (.tup [eSl 1 true F1_ [], I r_]) (show LeV (.tup [eSl 1 true F1_ [], I r_]) (.tup [eSl 1 true F1_ ([] : List (List Int)), I r_]) from inferInstance)
 ·obtain ⟨r_1, h1, hf0⟩ := zg hf0
  let Z1 : List HO := (Z0 ++ [Hq c0, Hc h0p (x := (l_, inputs)) h1 (loC uH l_ <| loC (eI .i64) inputs <| loN), Ha (lnM kc r_1.nodes_)])
  rcases zP hf0 with ⟨c1, hf0⟩ | ⟨c1, hf0⟩
  ·obtain rfl := zf hf0
   exact yEx X0 hC hE (Z1 ++ [Hq c1, Hm (shM F4_ F4_ [])]) (.tup [eSl 1 true F1_ [], I 3]) (show LeV (.tup [eSl 1 true F1_ [], I 3]) (.tup [eSl 1 true F1_ ([] : List (List Int)), I 3]) from inferInstance)
  ·obtain ⟨r_2, h2, hf0⟩ := zg hf0
   obtain ⟨r_3, h3, hf0⟩ := zg hf0
   obtain rfl := zf hf0
   exact yE ((wV (P := Tryz.prog) x6 [] (lentCall (yG hC h1n (x := r_2) h3)) 28).or ((Qi zp (Uk hC h0e h01 h0q h04) 27).or X0)) hC hE (Z1 ++ [Hq c1, Hg (z0i (Ctr.add_has VH qY)), Hm (shM kc zdn r_1.nodes_), Hs (z0j (Ctr.add_has VH qY) (x := (r_1.nodes_, ())) h2 (loC (eSl 2 false zdn) r_1.nodes_ <| loC (Zr 66) () <| loN)), Hm (shM kc zdn r_1.nodes_), Hn (jt (f := .fn 65 []) (xs := [Zd r_2]) (ls := []) (r := .tup [eSl 1 true F1_ r_3.1, I r_3.2]) (ys := []) [Zd r_2] (show Kn [Zd r_2] [Zd r_2] from inferInstance))])
def ue : Code := (Tryz.f22.body).getD .skip
def ZC : zU := spF (α := z8 × z8) (ρ := Bool) 22 (fun x => [z32 x.1, z32 x.2]) (fun r => eB r) (fun x => kq x.1 x.2) [] (Wu)
abbrev JS : List (Nat × T) := []
abbrev JR (a_ : z8) (b_ : z8) (s_ : Int) : List (Nat × T) := [(2, .own (.box (z32 a_))), (3, .own (.box (z32 b_))), (6, .d (I s_))]
abbrev JP (a_ : z8) (b_ : z8) (s_ : Int) (i_ : Int) : List (Nat × T) := [(2, .own (.box (z32 a_))), (3, .own (.box (z32 b_))), (6, .d (I s_)), (7, .d (I i_))]
abbrev JQ (a_ : z8) (b_ : z8) (s_ : Int) : List (Nat × T) := [(2, .own (.box (z32 a_))), (3, .own (.box (z32 b_))), (6, .d (I s_))]
abbrev JT (a_ : z8) (b_ : z8) : List (Nat × T) := [(2, .own (.box (z32 a_))), (3, .own (.box (z32 b_)))]
abbrev JO (a_ : z8) (b_ : z8) (s_1 : Int) : List (Nat × T) := [(2, .own (.box (z32 a_))), (3, .own (.box (z32 b_))), (5, .d (I s_1))]
theorem z3a {ctr : Ctr} (hC : zA Tryz.prog ctr) : ZC.Ok Tryz.prog := by
 refine zC ?_
 rintro ⟨a_, b_⟩ r0 hf0
 try unfold kq at hf0
 refine yO true [(4, none)] ue 89 Tryz.func22 fun E hE => ?_
 let Z0 : List HO := [Ha (lnM eB a_.States), Ha (lnM eB b_.States)]
 rcases zP hf0 with ⟨c0, hf0⟩ | ⟨c0, hf0⟩
 ·obtain rfl := zf hf0
  exact yE X0 hC hE (Z0 ++ (rpN 8 (Hq c0) [qT]))
 ·let Z1 : List HO := (Z0 ++ [Hq c0, Hq c0, Hq c0, Ha (lnM (eSl 1 false eB) a_.Edges), Hq c0, Hq c0, Hq c0, Ha (lnM (eSl 1 false eB) b_.Edges), Hq c0, Hq c0])
  rcases zP hf0 with ⟨c1, hf0⟩ | ⟨c1, hf0⟩
  ·obtain rfl := zf hf0
   exact yE X0 hC hE (Z1 ++ [Hq c1])
  ·refine yJ X0 hC ue [1,1] [] [2,3] (fun z : Unit => ZF a_ b_ = some r0) (fun z => JT a_ b_) [(2, .own (.box (z32 a_))), (3, .own (.box (z32 b_)))] (Z1 ++ [Hq c1, Hh (.cut 0)]) ?_ fun J1 hJ1 => ?_
   ·rintro ⟨⟩ hf0
    unfold ZF at hf0
    refine yJ X0 hC ue [1,1,1] [] [] (fun z : Unit => XR = some r0) (fun z => JS) [(2, .own (.box (z32 a_))), (3, .own (.box (z32 b_)))] [Hh (.cut 0)] ?_ fun J2 hJ2 => ?_
    ·rintro ⟨⟩ hf0
     unfold XR at hf0
     obtain rfl := zf hf0
     exact yE X0 hC hE []
    ·obtain ⟨t3, ht3, hf0⟩ := zg hf0
     refine yL X0 hC ue [1,1,1,2,1,0] [J2] (fun s => qo a_ b_ s) (fun x => JQ a_ b_ x) 0 ht3  [] ?_
     rintro s_ m3 lr1 hf1 hl1 J3 hJ3
     try unfold qo at hf1
     let Z2 : List HO := [Ha (lnM (eSl 1 false eB) a_.Edges)]
     rcases zP hf1 with ⟨c2, hf1⟩ | ⟨c2, hf1⟩
     ·refine yJ X0 hC ue [1,1,1,2,1,0,0,1] [J2, J3] [2,3,6] (fun z : Unit => XQ s_ = some lr1) (fun z => JR a_ b_ s_) [(2, .own (.box (z32 a_))), (3, .own (.box (z32 b_))), (6, .d (I s_))] (Z2 ++ [Hq c2, Hh (.cut 0)]) ?_ fun J4 hJ4 => ?_
      ·rintro ⟨⟩ hf1
       unfold XQ at hf1
       obtain rfl := zf hf1
       exact yB X0 hC hJ3 (w64 (s_ + 1)) hl1 []
      ·obtain ⟨Edge_e, h0, hf1⟩ := zg hf1
       obtain ⟨Edge_e1, h1, hf1⟩ := zg hf1
       let Z3 : List HO := [Hi (eSl 1 false eB) h0, Ha (lnM eB Edge_e), Hi (eSl 1 false eB) h1, Ha (lnM eB Edge_e1)]
       rcases zP hf1 with ⟨c3, hf1⟩ | ⟨c3, hf1⟩
       ·obtain rfl := zf hf1
        obtain rfl := hl1
        obtain rfl := zf hf0
        exact yE X0 hC hE (Z3 ++ [Hq c3])
       ·obtain ⟨t5, ht5, hf1⟩ := zg hf1
        refine yL X0 hC ue [1,1,1,2,1,0,0,1,2,0,1,1,0] [J2, J3, J4] (fun s => qn a_ b_ s_ s) (fun x => JP a_ b_ s_ x) 0 ht5  (Z3 ++ [Hq c3]) ?_
        rintro i_ m5 lr2 hf2 hl2 J5 hJ5
        try unfold qn at hf2
        obtain ⟨Edge_e2, h2, hf2⟩ := zg hf2
        let Z4 : List HO := [Hi (eSl 1 false eB) h2, Ha (lnM eB Edge_e2)]
        rcases zP hf2 with ⟨c4, hf2⟩ | ⟨c4, hf2⟩
        ·obtain ⟨Edge_e3, h3, hf2⟩ := zg hf2
         obtain ⟨Edge_e_e, h4, hf2⟩ := zg hf2
         obtain ⟨Edge_e4, h5, hf2⟩ := zg hf2
         obtain ⟨Edge_e_e1, h6, hf2⟩ := zg hf2
         let Z5 : List HO := (Z4 ++ [Hq c4, Hi (eSl 1 false eB) h3, Hi eB h4, Hi (eSl 1 false eB) h5, Hi eB h6])
         rcases zP hf2 with ⟨c5, hf2⟩ | ⟨c5, hf2⟩
         ·obtain rfl := zf hf2
          obtain rfl := hl2
          obtain rfl := zf hf1
          obtain rfl := hl1
          obtain rfl := zf hf0
          exact yE X0 hC hE (Z5 ++ [Hq c5])
         ·obtain rfl := zf hf2
          exact yB X0 hC hJ5 (w64 (i_ + 1)) hl2 (Z5 ++ [Hq c5])
        ·obtain rfl := zf hf2
         obtain rfl := hl2
         exact yB X0 hC hJ4 () hf1 (Z4 ++ [Hq c4])
     ·obtain rfl := zf hf1
      obtain rfl := hl1
      exact yB X0 hC hJ2 () hf0 (Z2 ++ [Hq c2])
   ·obtain ⟨t6, ht6, hf0⟩ := zg hf0
    refine yL X0 hC ue [1,1,2,1,0] [J1] (fun s => qm a_ b_ s) (fun x => JO a_ b_ x) 0 ht6  [] ?_
    rintro s_1 m6 lr1 hf1 hl1 J6 hJ6
    try unfold qm at hf1
    rcases zP hf1 with ⟨c6, hf1⟩ | ⟨c6, hf1⟩
    ·obtain ⟨State_e, h7, hf1⟩ := zg hf1
     obtain ⟨State_e1, h8, hf1⟩ := zg hf1
     let Z6 : List HO := [Ha (lnM eB a_.States), Hq c6, Hi eB h7, Hi eB h8]
     rcases zP hf1 with ⟨c7, hf1⟩ | ⟨c7, hf1⟩
     ·obtain rfl := zf hf1
      obtain rfl := hl1
      obtain rfl := zf hf0
      exact yE X0 hC hE (Z6 ++ [Hq c7])
     ·obtain rfl := zf hf1
      exact yB X0 hC hJ6 (w64 (s_1 + 1)) hl1 (Z6 ++ [Hq c7])
    ·obtain rfl := zf hf1
     obtain rfl := hl1
     exact yB X0 hC hJ1 () hf0 [Ha (lnM eB a_.States), Hq c6]
def JI : Code := (Tryz.f39.body).getD .skip
def Zn : zU := spF (α := Unit) (ρ := z7) 39 (fun x => []) (fun r => z92 r) (fun x => XY) [] (fun _ _ _ => rfl)
theorem Ku {ctr : Ctr} (hC : zA Tryz.prog ctr) : Zn.Ok Tryz.prog := by
 refine zC ?_
 rintro ⟨⟩ r0 hf0
 try unfold XY at hf0
 refine yO false [(0, some 27)] JI 14 Tryz.func39 fun E hE => ?_
 obtain rfl := zf hf0
 exact yE X0 hC hE [Hm (shM (eOs 2 true F9_) zj6 ([[(za.mk 1 0), (za.mk 0 0)], [(za.mk 2 1), (za.mk (-1) (-1))], [(za.mk 0 0), (za.mk 2 1)]]))]
def z2N : Code := (Tryz.f40.body).getD .skip
def XJ : zU := spF (α := List (List Int)) (ρ := List (List Int)) 40 (fun x => [uH x]) (fun r => uH r) (fun x => ku x) [] (VX)
theorem z3e {ctr : Ctr} (hC : zA Tryz.prog ctr) : XJ.Ok Tryz.prog := by
 refine zC ?_
 rintro l_ r0 hf0
 try unfold ku at hf0
 refine yO true [(2, none)] z2N 4 Tryz.func40 fun E hE => ?_
 obtain rfl := zf hf0
 exact yE X0 hC hE []
def W9 : Code := (Tryz.f41.body).getD .skip
def XG : zU := spF (α := List (List Int) × List (List Int)) (ρ := Bool) 41 (fun x => [uH x.1, uH x.2]) (fun r => eB r) (fun x => Qu x.1 x.2) [] (Wu)
abbrev JX : List (Nat × T) := []
abbrev JW (a_ : List (List Int)) (b_ : List (List Int)) (i_ : Int) : List (Nat × T) := [(0, .d (eSl 1 false F4_ a_)), (1, .d (eSl 1 false F4_ b_)), (5, .d (I i_))]
theorem z3c {ctr : Ctr} (hC : zA Tryz.prog ctr) (h0i : ctr.Has qU) : XG.Ok Tryz.prog := by
 refine zC ?_
 rintro ⟨a_, b_⟩ r0 hf0
 try unfold Qu at hf0
 refine yO true [(4, none)] W9 27 Tryz.func41 fun E hE => ?_
 let Z0 : List HO := [Ha (lnM F4_ a_), Ha (lnM F4_ b_)]
 rcases zP hf0 with ⟨c0, hf0⟩ | ⟨c0, hf0⟩
 ·obtain rfl := zf hf0
  exact yE X0 hC hE (Z0 ++ [Hq c0])
 ·refine yJ X0 hC W9 [1,1] [] [] (fun z : Unit => XU = some r0) (fun z => JX) [(0, .d (eSl 1 false F4_ a_)), (1, .d (eSl 1 false F4_ b_))] (Z0 ++ [Hq c0, Hh (.cut 0)]) ?_ fun J1 hJ1 => ?_
  ·rintro ⟨⟩ hf0
   unfold XU at hf0
   obtain rfl := zf hf0
   exact yE X0 hC hE []
  ·obtain ⟨t2, ht2, hf0⟩ := zg hf0
   refine yL X0 hC W9 [1,1,2,1,0] [J1] (fun s => XT a_ b_ s) (fun x => JW a_ b_ x) 0 ht2  [] ?_
   rintro i_ m2 lr1 hf1 hl1 J2 hJ2
   try unfold XT at hf1
   let Z1 : List HO := [Ha (lnM F4_ a_)]
   rcases zP hf1 with ⟨c1, hf1⟩ | ⟨c1, hf1⟩
   ·obtain ⟨a__e, h0, hf1⟩ := zg hf1
    obtain ⟨b__e, h1, hf1⟩ := zg hf1
    obtain ⟨r_, h2, hf1⟩ := zg hf1
    let Z2 : List HO := (Z1 ++ [Hq c1, Hi F4_ h0, Hi F4_ h1, Hc h0i (x := (a__e, b__e)) h2 (loC F4_ a__e <| loC F4_ b__e <| loN)])
    rcases zP hf1 with ⟨c2, hf1⟩ | ⟨c2, hf1⟩
    ·obtain rfl := zf hf1
     obtain rfl := hl1
     obtain rfl := zf hf0
     exact yE X0 hC hE (Z2 ++ [Hq c2])
    ·obtain rfl := zf hf1
     exact yB X0 hC hJ2 (w64 (i_ + 1)) hl1 (Z2 ++ [Hq c2])
   ·obtain rfl := zf hf1
    obtain rfl := hl1
    exact yB X0 hC hJ1 () hf0 (Z1 ++ [Hq c1])
def z2M : Code := (Tryz.f13.body).getD .skip
def XI : zU := spF (α := List (List Int) × List (List Int)) (ρ := Bool) 13 (fun x => [Zd x.1, uH x.2]) (fun r => eB r) (fun x => Xo x.1 x.2) [] (Wu)
theorem z3d {ctr : Ctr} (hC : zA Tryz.prog ctr) (h1o : ctr.Has XG) : XI.Ok Tryz.prog := by
 refine zC ?_
 rintro ⟨a_, b_⟩ r0 hf0
 try unfold Xo at hf0
 refine yO true [(4, none)] z2M 15 Tryz.func13 fun E hE => ?_
 obtain ⟨r_, h0, hf0⟩ := zg hf0
 let Z0 : List HO := [Hc h1o (x := (a_, b_)) h0 (loC Zd a_ <| loC uH b_ <| loN)]
 rcases zP hf0 with ⟨c0, hf0⟩ | ⟨c0, hf0⟩
 ·obtain rfl := zf hf0
  exact yE X0 hC hE (Z0 ++ [Hq c0, Hq c0, Ha (lnM F1_ a_), Hq c0, Hq c0, Ha (lnM F1_ a_), Hq c0, Hq c0])
 ·obtain rfl := zf hf0
  exact yE X0 hC hE (Z0 ++ (rpN 6 (Hq c0) []))
def VI : Code := (Tryz.f12.body).getD .skip
def YV : zU := spF (α := Unit) (ρ := Bool) 12 (fun x => []) (fun r => eB r) (fun x => XX) [] (fun _ _ _ => rfl)
theorem z1Z {ctr : Ctr} (hC : zA Tryz.prog ctr) (h1p : ctr.Has Zn) (h03 : ctr.Has XJ) (h0b : ctr.Has uk) (h0r : ctr.Has v7) (h0h : ctr.Has uJ) (h08 : ctr.Has qh) (h00 : ctr.Has XI) (h0g : ctr.Has ZC) (h0j : ctr.Has wO) (h0k : ctr.Has xh) : YV.Ok Tryz.prog := by
 refine zC ?_
 rintro ⟨⟩ r0 hf0
 try unfold XX at hf0
 refine yO true [(0, none)] VI 164 Tryz.func12 fun E hE => ?_
 obtain ⟨r_, h0, hf0⟩ := zg hf0
 obtain ⟨r_1, h1, hf0⟩ := zg hf0
 obtain ⟨r_2, h2, hf0⟩ := zg hf0
 obtain ⟨r_3, h3, hf0⟩ := zg hf0
 obtain ⟨r_4, h4, hf0⟩ := zg hf0
 obtain ⟨r_5, h5, hf0⟩ := zg hf0
 obtain ⟨r_6, h6, hf0⟩ := zg hf0
 obtain ⟨r_7, h7, hf0⟩ := zg hf0
 obtain ⟨r_8, h8, hf0⟩ := zg hf0
 refine yA X0 hC VI [1,1,1,1,1,1,1,1,1,0] [] [(1, .own (.box (z92 r_))), (2, .d (eSl 1 false F4_ r_1)), (3, .d (eSl 1 false F4_ r_2)), (4, .d (eSl 1 true F1_ r_3.1)), (5, .d (I r_3.2)), (6, .d (eSl 1 true F1_ r_4.1)), (7, .d (I r_4.2)), (8, .d (eSl 1 true F1_ r_5.1)), (9, .d (I r_5.2)), (11, .d (I r_6.2)), (12, .own (.box (z6l r_8.1))), (13, .d (I r_8.2))] [Hc h1p (x := ()) h0 (loN), Hg (z0i h03), Hm (shM F2_ F1_ ([[], [0], [1], [0,0], [0,1], [0,0,0], [0,0,1]])), Hs (z0j h03 (x := [[], [0], [1], [0,0], [0,1], [0,0,0], [0,0,1]]) h1 (loC Zd ([[], [0], [1], [0,0], [0,1], [0,0,0], [0,0,1]] : List (List Int)) <| loN)), Hm (shM F2_ F1_ ([[], [0], [1], [0,0], [0,1], [0,0,0], [0,0,1]])), Hg (z0i h03), Hm (shM F2_ F1_ ([[], [0], [0,0]])), Hs (z0j h03 (x := [[], [0], [0,0]]) h2 (loC Zd ([[], [0], [0,0]] : List (List Int)) <| loN)), Hm (shM F2_ F1_ ([[], [0], [0,0]])), Hc h0b (x := r_) h3 (loC z92 r_ <| loN), Hc h0r (x := r_) h4 (loC z92 r_ <| loN), Hc h0h (x := (r_, 0)) h5 (loC z92 r_ <| loC (eI .i64) 0 <| loN), Hc h0h (x := (r_, (-1))) h6 (loC z92 r_ <| loC (eI .i64) (-1) <| loN), Hg (z0i h03), Hm (shM F2_ F1_ ([[1], [0,1,0]])), Hs (z0j h03 (x := [[1], [0,1,0]]) h7 (loC Zd ([[1], [0,1,0]] : List (List Int)) <| loN)), Hm (shM F2_ F1_ ([[1], [0,1,0]])), Hc h08 (x := (r_, r_7)) h8 (loC z92 r_ <| loC uH r_7 <| loN), Hh (.cut 1)] ?_
 rcases zP hf0 with ⟨c0, hf0⟩ | ⟨c0, hf0⟩
 ·obtain rfl := zf hf0
  exact yE X0 hC hE (Hq c0 :: Hq c0 :: Hq c0 :: (rpN 35 qT []))
 ·rcases zP hf0 with ⟨c1, hf0⟩ | ⟨c1, hf0⟩
  ·obtain rfl := zf hf0
   exact yE X0 hC hE (Hq c0 :: Hq c0 :: Hq c0 :: Hq c1 :: Hq c1 :: Hq c1 :: (rpN 32 qT []))
  ·let Z0 : List HO := [Hq c0, Hq c0, Hq c0, Hq c1, Hq c1, Hq c1]
   rcases zP hf0 with ⟨c2, hf0⟩ | ⟨c2, hf0⟩
   ·obtain rfl := zf hf0
    exact yE X0 hC hE (Z0 ++ (Hq c2 :: Hq c2 :: Hq c2 :: (rpN 29 qT [])))
   ·rcases zP hf0 with ⟨c3, hf0⟩ | ⟨c3, hf0⟩
    ·obtain rfl := zf hf0
     exact yE X0 hC hE (Z0 ++ (Hq c2 :: Hq c2 :: Hq c2 :: Hq c3 :: Hq c3 :: Hq c3 :: (rpN 26 qT [])))
    ·let Z1 : List HO := (Z0 ++ [Hq c2, Hq c2, Hq c2, Hq c3, Hq c3, Hq c3])
     rcases zP hf0 with ⟨c4, hf0⟩ | ⟨c4, hf0⟩
     ·obtain rfl := zf hf0
      exact yE X0 hC hE (Z1 ++ (rpN 5 (Hq c4) (rpN 21 qT [])))
     ·obtain ⟨r_9, h9, hf0⟩ := zg hf0
      let Z2 : List HO := (Z1 ++ [Hq c4, Hq c4, Hq c4, Hn (jt (f := .fn 13 []) (xs := [Zd r_3.1, uH r_2]) (ls := []) (r := B r_9) (ys := []) [Zd r_3.1, uH r_2] (show Kn [Zd r_3.1, uH r_2] [Zd r_3.1, uH r_2] from inferInstance)), Hq c4, Hq c4])
      rcases zP hf0 with ⟨c5, hf0⟩ | ⟨c5, hf0⟩
      ·obtain rfl := zf hf0
       exact yE ((wV (P := Tryz.prog) x6 [] (lentCall (yG hC h00 (x := (r_3.1, r_2)) h9)) 81).or X0) hC hE (Z2 ++ (rpN 5 (Hq c5) (rpN 16 qT [])))
      ·obtain ⟨r_10, h10, hf0⟩ := zg hf0
       let Z3 : List HO := (Z2 ++ [Hq c5, Hq c5, Hq c5, Hn (jt (f := .fn 13 []) (xs := [Zd r_4.1, uH r_1]) (ls := []) (r := B r_10) (ys := []) [Zd r_4.1, uH r_1] (show Kn [Zd r_4.1, uH r_1] [Zd r_4.1, uH r_1] from inferInstance)), Hq c5, Hq c5])
       rcases zP hf0 with ⟨c6, hf0⟩ | ⟨c6, hf0⟩
       ·obtain rfl := zf hf0
        exact yE ((wV (P := Tryz.prog) x6 [] (lentCall (yG hC h00 (x := (r_4.1, r_1)) h10)) 87).or ((wV (P := Tryz.prog) x6 [] (lentCall (yG hC h00 (x := (r_3.1, r_2)) h9)) 81).or X0)) hC hE (Z3 ++ (rpN 5 (Hq c6) (rpN 11 qT [])))
       ·obtain ⟨r_11, h11, hf0⟩ := zg hf0
        let Z4 : List HO := (Z3 ++ [Hq c6, Hq c6, Hq c6, Hn (jt (f := .fn 13 []) (xs := [Zd r_5.1, uH r_2]) (ls := []) (r := B r_11) (ys := []) [Zd r_5.1, uH r_2] (show Kn [Zd r_5.1, uH r_2] [Zd r_5.1, uH r_2] from inferInstance)), Hq c6, Hq c6])
        rcases zP hf0 with ⟨c7, hf0⟩ | ⟨c7, hf0⟩
        ·obtain rfl := zf hf0
         exact yE ((wV (P := Tryz.prog) x6 [] (lentCall (yG hC h00 (x := (r_5.1, r_2)) h11)) 93).or ((wV (P := Tryz.prog) x6 [] (lentCall (yG hC h00 (x := (r_4.1, r_1)) h10)) 87).or ((wV (P := Tryz.prog) x6 [] (lentCall (yG hC h00 (x := (r_3.1, r_2)) h9)) 81).or X0))) hC hE (Z4 ++ (rpN 10 (Hq c7) [qT]))
        ·obtain ⟨r_12, h12, hf0⟩ := zg hf0
         let Z5 : List HO := (Z4 ++ (rpN 8 (Hq c7) [Hg (z0i h0g), Hm (shM eB eB ([true, true, false])), Hm (shM (eOs 1 true eB) (eSl 1 true eB) ([[true, true], [false, false], [false, false]])), Hs (z0j h0g (x := (r_8.1, (z8.mk ([true, true, false]) ([[true, true], [false, false], [false, false]])))) h12 (loC z6l r_8.1 <| loC z6l (z8.mk ([true, true, false]) ([[true, true], [false, false], [false, false]])) <| loN)), Hq c7, Hq c7]))
         rcases zP hf0 with ⟨c8, hf0⟩ | ⟨c8, hf0⟩
         ·obtain rfl := zf hf0
          exact yE ((wV (P := Tryz.prog) x6 [] (lentCall (yG hC h00 (x := (r_5.1, r_2)) h11)) 93).or ((wV (P := Tryz.prog) x6 [] (lentCall (yG hC h00 (x := (r_4.1, r_1)) h10)) 87).or ((wV (P := Tryz.prog) x6 [] (lentCall (yG hC h00 (x := (r_3.1, r_2)) h9)) 81).or X0))) hC hE (Z5 ++ [Hq c8])
         ·obtain ⟨r_13, h13, hf0⟩ := zg hf0
          obtain ⟨r_14, h14, hf0⟩ := zg hf0
          obtain ⟨r_15, h15, hf0⟩ := zg hf0
          obtain ⟨r_16, h16, hf0⟩ := zg hf0
          obtain ⟨r_17, h17, hf0⟩ := zg hf0
          obtain ⟨r_18, h18, hf0⟩ := zg hf0
          let Z6 : List HO := (Z5 ++ [Hq c8, Hc h0j (x := (r_, r_2)) h13 (loC z92 r_ <| loC uH r_2 <| loN), Hg (z0i h03), Hm (shM F2_ F1_ ([[0,0]])), Hs (z0j h03 (x := [[0,0]]) h14 (loC Zd ([[0,0]] : List (List Int)) <| loN)), Hm (shM F2_ F1_ ([[0,0]])), Hc h0j (x := (r_, r_14)) h15 (loC z92 r_ <| loC uH r_14 <| loN), Hc h0k (x := (r_, r_1)) h16 (loC z92 r_ <| loC uH r_1 <| loN), Hg (z0i h03), Hm (shM F2_ F1_ ([[0], [1]])), Hs (z0j h03 (x := [[0], [1]]) h17 (loC Zd ([[0], [1]] : List (List Int)) <| loN)), Hm (shM F2_ F1_ ([[0], [1]])), Hc h0k (x := (r_, r_17)) h18 (loC z92 r_ <| loC uH r_17 <| loN)])
          rcases zP hf0 with ⟨c9, hf0⟩ | ⟨c9, hf0⟩
          ·rcases zP hf0 with ⟨c10, hf0⟩ | ⟨c10, hf0⟩
           ·let Z7 : List HO := (Z6 ++ [Hq c9, Hq c9, Hq c9, Hq c10, Hq c10, Hq c10])
            rcases zP hf0 with ⟨c11, hf0⟩ | ⟨c11, hf0⟩
            ·rcases zP hf0 with ⟨c12, hf0⟩ | ⟨c12, hf0⟩
             ·let Z8 : List HO := (Z7 ++ [Hq c11, Hq c11, Hq c11, Hq c12, Hq c12])
              rcases zP hf0 with ⟨c13, hf0⟩ | ⟨c13, hf0⟩
              ·rcases zP hf0 with ⟨c14, hf0⟩ | ⟨c14, hf0⟩
               ·let Z9 : List HO := (Z8 ++ [Hq c13, Hq c13, Hq c13, Hq c14, Hq c14])
                rcases zP hf0 with ⟨c15, hf0⟩ | ⟨c15, hf0⟩
                ·obtain rfl := zf hf0
                 exact yE ((wV (P := Tryz.prog) x6 [] (lentCall (yG hC h00 (x := (r_5.1, r_2)) h11)) 93).or ((wV (P := Tryz.prog) x6 [] (lentCall (yG hC h00 (x := (r_4.1, r_1)) h10)) 87).or ((wV (P := Tryz.prog) x6 [] (lentCall (yG hC h00 (x := (r_3.1, r_2)) h9)) 81).or X0))) hC hE (Z9 ++ [Hq c15, Hq c15, Hq c15])
                ·obtain rfl := zf hf0
                 exact yE ((wV (P := Tryz.prog) x6 [] (lentCall (yG hC h00 (x := (r_5.1, r_2)) h11)) 93).or ((wV (P := Tryz.prog) x6 [] (lentCall (yG hC h00 (x := (r_4.1, r_1)) h10)) 87).or ((wV (P := Tryz.prog) x6 [] (lentCall (yG hC h00 (x := (r_3.1, r_2)) h9)) 81).or X0))) hC hE (Z9 ++ [Hq c15, Hq c15, Hq c15])
               ·obtain rfl := zf hf0
                exact yE ((wV (P := Tryz.prog) x6 [] (lentCall (yG hC h00 (x := (r_5.1, r_2)) h11)) 93).or ((wV (P := Tryz.prog) x6 [] (lentCall (yG hC h00 (x := (r_4.1, r_1)) h10)) 87).or ((wV (P := Tryz.prog) x6 [] (lentCall (yG hC h00 (x := (r_3.1, r_2)) h9)) 81).or X0))) hC hE (Z8 ++ [Hq c13, Hq c13, Hq c13, Hq c14, Hq c14, qF, qF, qF])
              ·obtain rfl := zf hf0
               exact yE ((wV (P := Tryz.prog) x6 [] (lentCall (yG hC h00 (x := (r_5.1, r_2)) h11)) 93).or ((wV (P := Tryz.prog) x6 [] (lentCall (yG hC h00 (x := (r_4.1, r_1)) h10)) 87).or ((wV (P := Tryz.prog) x6 [] (lentCall (yG hC h00 (x := (r_3.1, r_2)) h9)) 81).or X0))) hC hE (Z8 ++ (Hq c13 :: Hq c13 :: Hq c13 :: (rpN 5 qF [])))
             ·obtain rfl := zf hf0
              exact yE ((wV (P := Tryz.prog) x6 [] (lentCall (yG hC h00 (x := (r_5.1, r_2)) h11)) 93).or ((wV (P := Tryz.prog) x6 [] (lentCall (yG hC h00 (x := (r_4.1, r_1)) h10)) 87).or ((wV (P := Tryz.prog) x6 [] (lentCall (yG hC h00 (x := (r_3.1, r_2)) h9)) 81).or X0))) hC hE (Z7 ++ (Hq c11 :: Hq c11 :: Hq c11 :: Hq c12 :: Hq c12 :: (rpN 8 qF [])))
            ·obtain rfl := zf hf0
             exact yE ((wV (P := Tryz.prog) x6 [] (lentCall (yG hC h00 (x := (r_5.1, r_2)) h11)) 93).or ((wV (P := Tryz.prog) x6 [] (lentCall (yG hC h00 (x := (r_4.1, r_1)) h10)) 87).or ((wV (P := Tryz.prog) x6 [] (lentCall (yG hC h00 (x := (r_3.1, r_2)) h9)) 81).or X0))) hC hE (Z7 ++ (Hq c11 :: Hq c11 :: Hq c11 :: (rpN 10 qF [])))
           ·obtain rfl := zf hf0
            exact yE ((wV (P := Tryz.prog) x6 [] (lentCall (yG hC h00 (x := (r_5.1, r_2)) h11)) 93).or ((wV (P := Tryz.prog) x6 [] (lentCall (yG hC h00 (x := (r_4.1, r_1)) h10)) 87).or ((wV (P := Tryz.prog) x6 [] (lentCall (yG hC h00 (x := (r_3.1, r_2)) h9)) 81).or X0))) hC hE (Z6 ++ (Hq c9 :: Hq c9 :: Hq c9 :: Hq c10 :: Hq c10 :: Hq c10 :: (rpN 13 qF [])))
          ·obtain rfl := zf hf0
           exact yE ((wV (P := Tryz.prog) x6 [] (lentCall (yG hC h00 (x := (r_5.1, r_2)) h11)) 93).or ((wV (P := Tryz.prog) x6 [] (lentCall (yG hC h00 (x := (r_4.1, r_1)) h10)) 87).or ((wV (P := Tryz.prog) x6 [] (lentCall (yG hC h00 (x := (r_3.1, r_2)) h9)) 81).or X0))) hC hE (Z6 ++ (Hq c9 :: Hq c9 :: Hq c9 :: (rpN 16 qF [])))
def xJ : Code := (Tryz.f6.body).getD .skip
def uD : zU := spF (α := zD × yf) (ρ := Bool) 6 (fun x => [Vz x.1, z0S x.2]) (fun r => eB r) (fun x => ua x.1 x.2) [] (Wu)
abbrev Xb (y_ : yf) (r_ : z7) : List (Nat × T) := [(3, .own (.box (z0S y_))), (5, .own (.box (uf r_)))]
abbrev Xa (y_ : yf) (r_ : z7) (r_6 : z8 × Int) (s_ : Int) : List (Nat × T) := [(3, .own (.box (z0S y_))), (5, .own (.box (uf r_))), (14, .own (.box (z6l r_6.1))), (16, .d (I s_))]
abbrev X8 (y_ : yf) (r_ : z7) (r_6 : z8 × Int) (s_ : Int) (i_ : Int) : List (Nat × T) := [(3, .own (.box (z0S y_))), (5, .own (.box (uf r_))), (14, .own (.box (z6l r_6.1))), (16, .d (I s_)), (17, .d (I i_))]
abbrev X9 (y_ : yf) (r_ : z7) (r_6 : z8 × Int) (s_ : Int) : List (Nat × T) := [(3, .own (.box (z0S y_))), (5, .own (.box (uf r_))), (14, .own (.box (z6l r_6.1))), (16, .d (I s_))]
theorem WH {ctr : Ctr} (hC : zA Tryz.prog ctr) (h1q : ctr.Has XL) (h0b : ctr.Has uk) (h0r : ctr.Has v7) (h0j : ctr.Has wO) (h0k : ctr.Has xh) (h0s : ctr.Has Y9) (h08 : ctr.Has qh) (h1r : ctr.Has XK) (h0A : ctr.Has Yb) (h1s : ctr.Has kn) (h0g : ctr.Has ZC) (h1t : ctr.Has YV) : uD.Ok Tryz.prog := by
 refine zC ?_
 rintro ⟨x_, y_⟩ r0 hf0
 try unfold ua at hf0
 refine yO true [(4, none)] xJ 192 Tryz.func6 fun E hE => ?_
 obtain ⟨r_, h0, hf0⟩ := zg hf0
 obtain ⟨r_1, h1, hf0⟩ := zg hf0
 obtain ⟨r_2, h2, hf0⟩ := zg hf0
 let Z0 : List HO := [Hc h1q (x := (zD.mk x_.States x_.Inputs x_.Outputs x_.Tree x_.Edges)) h0 (loC Vz (zD.mk x_.States x_.Inputs x_.Outputs x_.Tree x_.Edges) <| loN), Hc h0b (x := r_) h1 (loC uf r_ <| loN), Hc h0r (x := r_) h2 (loC uf r_ <| loN)]
 rcases zP hf0 with ⟨c0, hf0⟩ | ⟨c0, hf0⟩
 ·obtain rfl := zf hf0
  exact yE X0 hC hE (Z0 ++ [Hq c0, Hq c0, Hq c0, qT])
 ·rcases zP hf0 with ⟨c1, hf0⟩ | ⟨c1, hf0⟩
  ·obtain rfl := zf hf0
   exact yE X0 hC hE (Z0 ++ [Hq c0, Hq c0, Hq c0, Hq c1])
  ·obtain ⟨r_3, h3, hf0⟩ := zg hf0
   obtain ⟨r_4, h4, hf0⟩ := zg hf0
   obtain ⟨r_5, h5, hf0⟩ := zg hf0
   obtain ⟨r_6, h6, hf0⟩ := zg hf0
   let Z1 : List HO := (Z0 ++ [Hq c0, Hq c0, Hq c0, Hq c1, Hc h0j (x := (r_, r_1.1)) h3 (loC uf r_ <| loC Zd r_1.1 <| loN), Hc h0k (x := (r_, r_2.1)) h4 (loC uf r_ <| loC Zd r_2.1 <| loN), Hc h0s (x := (r_2.1, r_.Inputs)) h5 (loC Zd r_2.1 <| loC (eI .i64) r_.Inputs <| loN), Hc h08 (x := (r_, r_5.1)) h6 (loC uf r_ <| loC Zd r_5.1 <| loN)])
   rcases zP hf0 with ⟨c2, hf0⟩ | ⟨c2, hf0⟩
   ·obtain rfl := zf hf0
    exact yE X0 hC hE (Z1 ++ (Hq c2 :: Hq c2 :: Hq c2 :: (rpN 13 qT [])))
   ·rcases zP hf0 with ⟨c3, hf0⟩ | ⟨c3, hf0⟩
    ·obtain rfl := zf hf0
     exact yE X0 hC hE (Z1 ++ (Hq c2 :: Hq c2 :: Hq c2 :: Hq c3 :: Hq c3 :: Hq c3 :: (rpN 10 qT [])))
    ·let Z2 : List HO := (Z1 ++ [Hq c2, Hq c2, Hq c2, Hq c3, Hq c3, Hq c3])
     rcases zP hf0 with ⟨c4, hf0⟩ | ⟨c4, hf0⟩
     ·obtain rfl := zf hf0
      exact yE X0 hC hE (Z2 ++ (Hq c4 :: Hq c4 :: Hq c4 :: (rpN 7 qT [])))
     ·rcases zP hf0 with ⟨c5, hf0⟩ | ⟨c5, hf0⟩
      ·obtain rfl := zf hf0
       exact yE X0 hC hE (Z2 ++ (Hq c4 :: Hq c4 :: Hq c4 :: Hq c5 :: Hq c5 :: Hq c5 :: (rpN 4 qT [])))
      ·let Z3 : List HO := (Z2 ++ [Hq c4, Hq c4, Hq c4, Hq c5, Hq c5, Hq c5])
       rcases zP hf0 with ⟨c6, hf0⟩ | ⟨c6, hf0⟩
       ·obtain rfl := zf hf0
        exact yE X0 hC hE (Z3 ++ [Hq c6, Hq c6, Hq c6, qT])
       ·rcases zP hf0 with ⟨c7, hf0⟩ | ⟨c7, hf0⟩
        ·obtain rfl := zf hf0
         exact yE X0 hC hE (Z3 ++ [Hq c6, Hq c6, Hq c6, Hq c7])
        ·refine yJ X0 hC xJ [1,1,1,1,1,1,1,1,1,1] [] [3,5] (fun z : Unit => wQ y_ r_ = some r0) (fun z => Xb y_ r_) [(3, .own (.box (z0S y_))), (5, .own (.box (uf r_))), (14, .own (.box (z6l r_6.1)))] (Z3 ++ [Hq c6, Hq c6, Hq c6, Hq c7, Hh (.cut 0)]) ?_ fun J1 hJ1 => ?_
         ·rintro ⟨⟩ hf0
          unfold wQ at hf0
          obtain ⟨r_7, h7, hf0⟩ := zg hf0
          obtain ⟨r_8, h8, hf0⟩ := zg hf0
          obtain ⟨r_9, h9, hf0⟩ := zg hf0
          obtain ⟨r_10, h10, hf0⟩ := zg hf0
          obtain ⟨r_11, h11, hf0⟩ := zg hf0
          obtain ⟨r_12, h12, hf0⟩ := zg hf0
          obtain ⟨r_13, h13, hf0⟩ := zg hf0
          let Z4 : List HO := [Hc h1r (x := y_) h7 (loC z0S y_ <| loN), Hg (z0i h0A), Hm (shM F4_ F4_ r_7), Hs (z0j h0A (x := (r_7, r_.Inputs)) h8 (loC uH r_7 <| loC (eI .i64) r_.Inputs <| loN)), Hm (shM F4_ F4_ r_7), Hg (z0i h0s), Hm (shM F4_ F4_ r_8), Hs (z0j h0s (x := (r_8, r_.Inputs)) h9 (loC uH r_8 <| loC (eI .i64) r_.Inputs <| loN)), Hm (shM F4_ F4_ r_8), Hc h1s (x := (r_8, r_.Inputs)) h10 (loC uH r_8 <| loC (eI .i64) r_.Inputs <| loN), Hc h08 (x := (r_, r_8)) h11 (loC uf r_ <| loC uH r_8 <| loN), Hc h08 (x := (r_, r_9.1)) h12 (loC uf r_ <| loC Zd r_9.1 <| loN), Hc h08 (x := (r_, r_10.1)) h13 (loC uf r_ <| loC Zd r_10.1 <| loN)]
          rcases zP hf0 with ⟨c8, hf0⟩ | ⟨c8, hf0⟩
          ·rcases zP hf0 with ⟨c9, hf0⟩ | ⟨c9, hf0⟩
           ·let Z5 : List HO := (Z4 ++ [Hq c8, Hq c8, Hq c8, Hq c9, Hq c9, Hq c9])
            rcases zP hf0 with ⟨c10, hf0⟩ | ⟨c10, hf0⟩
            ·rcases zP hf0 with ⟨c11, hf0⟩ | ⟨c11, hf0⟩
             ·let Z6 : List HO := (Z5 ++ [Hq c10, Hq c10, Hq c10, Hq c11, Hq c11, Hq c11])
              rcases zP hf0 with ⟨c12, hf0⟩ | ⟨c12, hf0⟩
              ·obtain ⟨r_14, h14, hf0⟩ := zg hf0
               let Z7 : List HO := (Z6 ++ [Hq c12, Hq c12, Hq c12, Hc h0g (x := (r_11.1, r_12.1)) h14 (loC z6l r_11.1 <| loC z6l r_12.1 <| loN), Hq c12])
               rcases zP hf0 with ⟨c13, hf0⟩ | ⟨c13, hf0⟩
               ·obtain ⟨r_15, h15, hf0⟩ := zg hf0
                let Z8 : List HO := (Z7 ++ [Hq c13, Hq c13, Hq c13, Hc h0g (x := (r_11.1, r_13.1)) h15 (loC z6l r_11.1 <| loC z6l r_13.1 <| loN), Hq c13])
                rcases zP hf0 with ⟨c14, hf0⟩ | ⟨c14, hf0⟩
                ·obtain ⟨r_16, h16, hf0⟩ := zg hf0
                 obtain rfl := zf hf0
                 exact yE X0 hC hE (Z8 ++ [Hq c14, Hc h1t (x := ()) h16 (loN), Hq c14])
                ·obtain rfl := zf hf0
                 exact yE X0 hC hE (Z8 ++ [Hq c14, Hq c14])
               ·obtain rfl := zf hf0
                exact yE X0 hC hE (Z7 ++ (rpN 4 (Hq c13) [qF, qF]))
              ·obtain rfl := zf hf0
               exact yE X0 hC hE (Z6 ++ (rpN 4 (Hq c12) (rpN 6 qF [])))
             ·obtain rfl := zf hf0
              exact yE X0 hC hE (Z5 ++ (Hq c10 :: Hq c10 :: Hq c10 :: Hq c11 :: Hq c11 :: Hq c11 :: (rpN 10 qF [])))
            ·obtain rfl := zf hf0
             exact yE X0 hC hE (Z5 ++ (Hq c10 :: Hq c10 :: Hq c10 :: (rpN 13 qF [])))
           ·obtain rfl := zf hf0
            exact yE X0 hC hE (Z4 ++ (Hq c8 :: Hq c8 :: Hq c8 :: Hq c9 :: Hq c9 :: Hq c9 :: (rpN 16 qF [])))
          ·obtain rfl := zf hf0
           exact yE X0 hC hE (Z4 ++ (Hq c8 :: Hq c8 :: Hq c8 :: (rpN 19 qF [])))
         ·obtain ⟨t2, ht2, hf0⟩ := zg hf0
          refine yL X0 hC xJ [1,1,1,1,1,1,1,1,1,1,2,1,0] [J1] (fun s => yq r_6 s) (fun x => X9 y_ r_ r_6 x) 0 ht2  [] ?_
          rintro s_ m2 lr1 hf1 hl1 J2 hJ2
          try unfold yq at hf1
          let Z9 : List HO := [Ha (lnM (eSl 1 true eB) r_6.1.Edges)]
          rcases zP hf1 with ⟨c15, hf1⟩ | ⟨c15, hf1⟩
          ·refine yJ X0 hC xJ [1,1,1,1,1,1,1,1,1,1,2,1,0,0,1] [J1, J2] [3,5,14,16] (fun z : Unit => uF s_ = some lr1) (fun z => Xa y_ r_ r_6 s_) [(3, .own (.box (z0S y_))), (5, .own (.box (uf r_))), (14, .own (.box (z6l r_6.1))), (16, .d (I s_))] (Z9 ++ [Hq c15, Hh (.cut 0)]) ?_ fun J3 hJ3 => ?_
           ·rintro ⟨⟩ hf1
            unfold uF at hf1
            obtain rfl := zf hf1
            exact yB X0 hC hJ2 (w64 (s_ + 1)) hl1 []
           ·obtain ⟨t4, ht4, hf1⟩ := zg hf1
            refine yL X0 hC xJ [1,1,1,1,1,1,1,1,1,1,2,1,0,0,1,2,0,1,0] [J1, J2, J3] (fun s => yY r_6 s_ s) (fun x => X8 y_ r_ r_6 s_ x) 0 ht4  [] ?_
            rintro i_ m4 lr2 hf2 hl2 J4 hJ4
            try unfold yY at hf2
            obtain ⟨Edge_e, h17, hf2⟩ := zg hf2
            let Z10 : List HO := [Hi (eSl 1 true eB) h17, Ha (lnM eB Edge_e)]
            rcases zP hf2 with ⟨c16, hf2⟩ | ⟨c16, hf2⟩
            ·obtain ⟨Edge_e1, h18, hf2⟩ := zg hf2
             obtain ⟨Edge_e_e, h19, hf2⟩ := zg hf2
             let Z11 : List HO := (Z10 ++ [Hq c16, Hi (eSl 1 true eB) h18, Hi eB h19])
             rcases zP hf2 with ⟨c17, hf2⟩ | ⟨c17, hf2⟩
             ·obtain rfl := zf hf2
              obtain rfl := hl2
              obtain rfl := zf hf1
              obtain rfl := hl1
              obtain rfl := zf hf0
              exact yE X0 hC hE (Z11 ++ (rpN 7 (Hq c17) [qT]))
             ·obtain ⟨State_e, h20, hf2⟩ := zg hf2
              let Z12 : List HO := (Z11 ++ (rpN 4 (Hq c17) [Hi eB h20, Hq c17, Hq c17, Hq c17]))
              rcases zP hf2 with ⟨c18, hf2⟩ | ⟨c18, hf2⟩
              ·obtain rfl := zf hf2
               obtain rfl := hl2
               obtain rfl := zf hf1
               obtain rfl := hl1
               obtain rfl := zf hf0
               exact yE X0 hC hE (Z12 ++ [Hq c18])
              ·obtain rfl := zf hf2
               exact yB X0 hC hJ4 (w64 (i_ + 1)) hl2 (Z12 ++ [Hq c18])
            ·obtain rfl := zf hf2
             obtain rfl := hl2
             exact yB X0 hC hJ3 () hf1 (Z10 ++ [Hq c16])
          ·obtain rfl := zf hf1
           obtain rfl := hl1
           exact yB X0 hC hJ1 () hf0 (Z9 ++ [Hq c15])
theorem yg {l : List zU} {s : zU} (h : ((l.map zU.k).contains s.k) = false) : ∀ t ∈ l, t.k ≠ s.k := by
 intro t ht e
 have : (l.map zU.k).contains s.k = true := by
  rw [List.contains_iff_mem, ← e]
  exact List.mem_map_of_mem ht
 rw [h] at this
 cases this
theorem zx {l : List zU} {c : Ctr} (H : ∀ t ∈ l, c.Has t) (i : Nat) {s : zU} (h : l[i]? = some s) : c.Has s := H _ (List.mem_of_getElem? h)
def L0 : List zU := Yc :: []
def L1 : List zU := XL :: L0
def L2 : List zU := Zl :: L1
def L3 : List zU := Zm :: L2
def L4 : List zU := qZ :: L3
def L5 : List zU := yQ :: L4
def L6 : List zU := yw :: L5
def L7 : List zU := vK :: L6
def L8 : List zU := vj :: L7
def L9 : List zU := wq :: L8
def L10 : List zU := uZ :: L9
def L11 : List zU := kj :: L10
def L12 : List zU := yk :: L11
def L13 : List zU := zO :: L12
def L14 : List zU := YS :: L13
def L15 : List zU := Y8 :: L14
def L16 : List zU := Zj :: L15
def L17 : List zU := wF :: L16
def L18 : List zU := xR :: L17
def L19 : List zU := YR :: L18
def L20 : List zU := kJ :: L19
def L21 : List zU := vJ :: L20
def L22 : List zU := Zo :: L21
def L23 : List zU := uK :: L22
def L24 : List zU := vm :: L23
def L25 : List zU := XM :: L24
def L26 : List zU := uj :: L25
def L27 : List zU := km :: L26
def L28 : List zU := xS :: L27
def L29 : List zU := qL :: L28
def L30 : List zU := uX :: L29
def L31 : List zU := XF :: L30
def L32 : List zU := uk :: L31
def L33 : List zU := WP :: L32
def L34 : List zU := XE :: L33
def L35 : List zU := YU :: L34
def L36 : List zU := uu :: L35
def L37 : List zU := XD :: L36
def L38 : List zU := WO :: L37
def L39 : List zU := Ya :: L38
def L40 : List zU := uJ :: L39
def L41 : List zU := v7 :: L40
def L42 : List zU := q9 :: L41
def L43 : List zU := jw :: L42
def L44 : List zU := kK :: L43
def L45 : List zU := vL :: L44
def L46 : List zU := uE :: L45
def L47 : List zU := wc :: L46
def L48 : List zU := xz :: L47
def L49 : List zU := qH :: L48
def L50 : List zU := wO :: L49
def L51 : List zU := zK :: L50
def L52 : List zU := we :: L51
def L53 : List zU := u7 :: L52
def L54 : List zU := xQ :: L53
def L55 : List zU := xg :: L54
def L56 : List zU := qa :: L55
def L57 : List zU := xh :: L56
def L58 : List zU := XB :: L57
def L59 : List zU := ju :: L58
def L60 : List zU := uY :: L59
def L61 : List zU := XC :: L60
def L62 : List zU := Zk :: L61
def L63 : List zU := Y9 :: L62
def L64 : List zU := qh :: L63
def L65 : List zU := j4 :: L64
def L66 : List zU := YW :: L65
def L67 : List zU := qU :: L66
def L68 : List zU := WQ :: L67
def L69 : List zU := ZD :: L68
def L70 : List zU := XK :: L69
def L71 : List zU := Yb :: L70
def L72 : List zU := u6 :: L71
def L73 : List zU := YT :: L72
def L74 : List zU := kn :: L73
def L75 : List zU := ZC :: L74
def L76 : List zU := Zn :: L75
def L77 : List zU := XJ :: L76
def L78 : List zU := XG :: L77
def L79 : List zU := XI :: L78
def L80 : List zU := YV :: L79
def L81 : List zU := uD :: L80
theorem zi6 : zz Tryz.prog L0 := ⟨fun _ hC H => z11 hC, yg (by kernel_rfl), trivial⟩
theorem zi5 : zz Tryz.prog L1 := ⟨fun _ hC H => z3g hC (zx H 0 rfl), yg (by kernel_rfl), zi6⟩
theorem zi4 : zz Tryz.prog L2 := ⟨fun _ hC H => Ks hC, yg (by kernel_rfl), zi5⟩
theorem zi3 : zz Tryz.prog L3 := ⟨fun _ hC H => Kt hC (zx H 0 rfl), yg (by kernel_rfl), zi4⟩
theorem zi2 : zz Tryz.prog L4 := ⟨fun _ hC H => Um hC (zx H 0 rfl), yg (by kernel_rfl), zi3⟩
theorem zi1 : zz Tryz.prog L5 := ⟨fun _ hC H => qI hC (zx H 0 rfl), yg (by kernel_rfl), zi2⟩
theorem zi0 : zz Tryz.prog L6 := ⟨fun _ hC H => uS hC (zx H 0 rfl), yg (by kernel_rfl), zi1⟩
theorem zhZ : zz Tryz.prog L7 := ⟨fun _ hC H => Jz hC (zx H 0 rfl), yg (by kernel_rfl), zi0⟩
theorem zhY : zz Tryz.prog L8 := ⟨fun _ hC H => Xf hC, yg (by kernel_rfl), zhZ⟩
theorem zhX : zz Tryz.prog L9 := ⟨fun _ hC H => Y4 hC (zx H 0 rfl), yg (by kernel_rfl), zhY⟩
theorem zgt : zz Tryz.prog L10 := ⟨fun _ hC H => Vp hC (zx H 2 rfl) (zx H 0 rfl), yg (by kernel_rfl), zhX⟩
theorem zgs : zz Tryz.prog L11 := ⟨fun _ hC H => Jw hC, yg (by kernel_rfl), zgt⟩
theorem zgr : zz Tryz.prog L12 := ⟨fun _ hC H => Wo hC, yg (by kernel_rfl), zgs⟩
theorem zgq : zz Tryz.prog L13 := ⟨fun _ hC H => WG hC, yg (by kernel_rfl), zgr⟩
theorem zgp : zz Tryz.prog L14 := ⟨fun _ hC H => z1T hC (zx H 2 rfl) (zx H 1 rfl) (zx H 0 rfl), yg (by kernel_rfl), zgq⟩
theorem zgo : zz Tryz.prog L15 := ⟨fun _ hC H => z0V hC (zx H 7 rfl) (zx H 0 rfl), yg (by kernel_rfl), zgp⟩
theorem zgn : zz Tryz.prog L16 := ⟨fun _ hC H => Kp hC, yg (by kernel_rfl), zgo⟩
theorem zgm : zz Tryz.prog L17 := ⟨fun _ hC H => Yu hC (zx H 0 rfl), yg (by kernel_rfl), zgn⟩
theorem zgl : zz Tryz.prog L18 := ⟨fun _ hC H => Zh hC (zx H 0 rfl), yg (by kernel_rfl), zgm⟩
theorem zgk : zz Tryz.prog L19 := ⟨fun _ hC H => z1S hC (zx H 0 rfl), yg (by kernel_rfl), zgl⟩
theorem zgj : zz Tryz.prog L20 := ⟨fun _ hC H => z1W hC (zx H 0 rfl), yg (by kernel_rfl), zgk⟩
theorem zgi : zz Tryz.prog L21 := ⟨fun _ hC H => Xx hC, yg (by kernel_rfl), zgj⟩
theorem zgh : zz Tryz.prog L22 := ⟨fun _ hC H => Kx hC, yg (by kernel_rfl), zgi⟩
theorem zgg : zz Tryz.prog L23 := ⟨fun _ hC H => Qk hC (zx H 0 rfl), yg (by kernel_rfl), zgh⟩
theorem zgf : zz Tryz.prog L24 := ⟨fun _ hC H => Xg hC (zx H 0 rfl), yg (by kernel_rfl), zgg⟩
theorem zge : zz Tryz.prog L25 := ⟨fun _ hC H => z3h hC, yg (by kernel_rfl), zgf⟩
theorem zgd : zz Tryz.prog L26 := ⟨fun _ hC H => Ko hC (zx H 2 rfl) (zx H 1 rfl) (zx H 0 rfl), yg (by kernel_rfl), zge⟩
theorem zgc : zz Tryz.prog L27 := ⟨fun _ hC H => Jx hC (zx H 0 rfl), yg (by kernel_rfl), zgd⟩
theorem zgb : zz Tryz.prog L28 := ⟨fun _ hC H => Zi hC (zx H 0 rfl), yg (by kernel_rfl), zgc⟩
theorem zga : zz Tryz.prog L29 := ⟨fun _ hC H => z1V hC, yg (by kernel_rfl), zgb⟩
theorem zg9 : zz Tryz.prog L30 := ⟨fun _ hC H => z0W hC (zx H 8 rfl) (zx H 3 rfl) (zx H 1 rfl) (zx H 0 rfl) (zx H 17 rfl) (zx H 16 rfl), yg (by kernel_rfl), zga⟩
theorem zg8 : zz Tryz.prog L31 := ⟨fun _ hC H => z38 hC (zx H 10 rfl) (zx H 0 rfl), yg (by kernel_rfl), zg9⟩
theorem zg7 : zz Tryz.prog L32 := ⟨fun _ hC H => Kw hC (zx H 21 rfl) (zx H 16 rfl) (zx H 0 rfl), yg (by kernel_rfl), zg8⟩
theorem zg6 : zz Tryz.prog L33 := ⟨fun _ hC H => z4u hC (zx H 2 rfl) (zx H 19 rfl), yg (by kernel_rfl), zg7⟩
theorem zg5 : zz Tryz.prog L34 := ⟨fun _ hC H => z37 hC (zx H 0 rfl), yg (by kernel_rfl), zg6⟩
theorem zg4 : zz Tryz.prog L35 := ⟨fun _ hC H => z1X hC (zx H 8 rfl), yg (by kernel_rfl), zg5⟩
theorem zg3 : zz Tryz.prog L36 := ⟨fun _ hC H => z1Y hC (zx H 15 rfl) (zx H 0 rfl) (zx H 6 rfl), yg (by kernel_rfl), zg4⟩
theorem zg2 : zz Tryz.prog L37 := ⟨fun _ hC H => z36 hC (zx H 0 rfl), yg (by kernel_rfl), zg3⟩
theorem zg1 : zz Tryz.prog L38 := ⟨fun _ hC H => z4t hC, yg (by kernel_rfl), zg2⟩
theorem zg0 : zz Tryz.prog L39 := ⟨fun _ hC H => z0Z hC (zx H 1 rfl) (zx H 25 rfl) (zx H 0 rfl) (zx H 8 rfl), yg (by kernel_rfl), zg1⟩
theorem zfZ : zz Tryz.prog L40 := ⟨fun _ hC H => Qj hC (zx H 7 rfl) (zx H 5 rfl) (zx H 0 rfl), yg (by kernel_rfl), zg0⟩
theorem zfY : zz Tryz.prog L41 := ⟨fun _ hC H => Vr hC (zx H 0 rfl), yg (by kernel_rfl), zfZ⟩
theorem zfX : zz Tryz.prog L42 := ⟨fun _ hC H => z12 hC (zx H 34 rfl) (zx H 5 rfl), yg (by kernel_rfl), zfY⟩
theorem zfW : zz Tryz.prog L43 := ⟨fun _ hC H => z13 hC, yg (by kernel_rfl), zfX⟩
theorem zfV : zz Tryz.prog L44 := ⟨fun _ hC H => z21 hC (zx H 0 rfl), yg (by kernel_rfl), zfW⟩
theorem zfU : zz Tryz.prog L45 := ⟨fun _ hC H => Xy hC, yg (by kernel_rfl), zfV⟩
theorem zfT : zz Tryz.prog L46 := ⟨fun _ hC H => WI hC (zx H 0 rfl), yg (by kernel_rfl), zfU⟩
theorem zfS : zz Tryz.prog L47 := ⟨fun _ hC H => Zz hC (zx H 0 rfl), yg (by kernel_rfl), zfT⟩
theorem zfR : zz Tryz.prog L48 := ⟨fun _ hC H => kh hC (zx H 0 rfl), yg (by kernel_rfl), zfS⟩
theorem zfQ : zz Tryz.prog L49 := ⟨fun _ hC H => VN hC (zx H 0 rfl), yg (by kernel_rfl), zfR⟩
theorem zfP : zz Tryz.prog L50 := ⟨fun _ hC H => WJ hC (zx H 7 rfl) (zx H 5 rfl) (zx H 0 rfl), yg (by kernel_rfl), zfQ⟩
theorem zfO : zz Tryz.prog L51 := ⟨fun _ hC H => kS hC, yg (by kernel_rfl), zfP⟩
theorem zfN : zz Tryz.prog L52 := ⟨fun _ hC H => ZA hC (zx H 0 rfl), yg (by kernel_rfl), zfO⟩
theorem zfM : zz Tryz.prog L53 := ⟨fun _ hC H => Ws hC (zx H 0 rfl), yg (by kernel_rfl), zfN⟩
theorem zfL : zz Tryz.prog L54 := ⟨fun _ hC H => Zg hC (zx H 0 rfl), yg (by kernel_rfl), zfM⟩
theorem zfK : zz Tryz.prog L55 := ⟨fun _ hC H => jW hC (zx H 0 rfl), yg (by kernel_rfl), zfL⟩
theorem zfJ : zz Tryz.prog L56 := ⟨fun _ hC H => Vq hC (zx H 0 rfl), yg (by kernel_rfl), zfK⟩
theorem zfI : zz Tryz.prog L57 := ⟨fun _ hC H => Yv hC (zx H 14 rfl) (zx H 12 rfl) (zx H 0 rfl), yg (by kernel_rfl), zfJ⟩
theorem zfH : zz Tryz.prog L58 := ⟨fun _ hC H => z6o hC, yg (by kernel_rfl), zfI⟩
theorem zfG : zz Tryz.prog L59 := ⟨fun _ hC H => z34 hC, yg (by kernel_rfl), zfH⟩
theorem zfF : zz Tryz.prog L60 := ⟨fun _ hC H => z0X hC, yg (by kernel_rfl), zfG⟩
theorem zfE : zz Tryz.prog L61 := ⟨fun _ hC H => z35 hC (zx H 0 rfl), yg (by kernel_rfl), zfF⟩
theorem zfD : zz Tryz.prog L62 := ⟨fun _ hC H => Kq hC (zx H 2 rfl) (zx H 48 rfl) (zx H 0 rfl) (zx H 49 rfl), yg (by kernel_rfl), zfE⟩
theorem zfC : zz Tryz.prog L63 := ⟨fun _ hC H => z0Y hC (zx H 26 rfl) (zx H 4 rfl) (zx H 0 rfl), yg (by kernel_rfl), zfD⟩
theorem zfB : zz Tryz.prog L64 := ⟨fun _ hC H => JA hC (zx H 21 rfl) (zx H 20 rfl), yg (by kernel_rfl), zfC⟩
theorem zfA : zz Tryz.prog L65 := ⟨fun _ hC H => Un hC, yg (by kernel_rfl), zfB⟩
theorem zfz : zz Tryz.prog L66 := ⟨fun _ hC H => z20 hC (zx H 0 rfl), yg (by kernel_rfl), zfA⟩
theorem zfy : zz Tryz.prog L67 := ⟨fun _ hC H => Kr hC, yg (by kernel_rfl), zfz⟩
theorem zfx : zz Tryz.prog L68 := ⟨fun _ hC H => z4v hC (zx H 0 rfl), yg (by kernel_rfl), zfy⟩
theorem zfw : zz Tryz.prog L69 := ⟨fun _ hC H => z3b hC (zx H 0 rfl), yg (by kernel_rfl), zfx⟩
theorem zfv : zz Tryz.prog L70 := ⟨fun _ hC H => z3f hC (zx H 3 rfl) (zx H 0 rfl), yg (by kernel_rfl), zfw⟩
theorem zfu : zz Tryz.prog L71 := ⟨fun _ hC H => z10 hC (zx H 1 rfl), yg (by kernel_rfl), zfv⟩
theorem zft : zz Tryz.prog L72 := ⟨fun _ hC H => Ul hC, yg (by kernel_rfl), zfu⟩
theorem zfs : zz Tryz.prog L73 := ⟨fun _ hC H => z1U hC (zx H 43 rfl), yg (by kernel_rfl), zft⟩
theorem zfr : zz Tryz.prog L74 := ⟨fun _ hC H => Jy hC (zx H 37 rfl) (zx H 15 rfl) (zx H 14 rfl) (zx H 60 rfl) (zx H 1 rfl) (zx H 61 rfl) (zx H 0 rfl), yg (by kernel_rfl), zfs⟩
theorem zfq : zz Tryz.prog L75 := ⟨fun _ hC H => z3a hC, yg (by kernel_rfl), zfr⟩
theorem zfp : zz Tryz.prog L76 := ⟨fun _ hC H => Ku hC, yg (by kernel_rfl), zfq⟩
theorem zfo : zz Tryz.prog L77 := ⟨fun _ hC H => z3e hC, yg (by kernel_rfl), zfp⟩
theorem zfn : zz Tryz.prog L78 := ⟨fun _ hC H => z3c hC (zx H 10 rfl), yg (by kernel_rfl), zfo⟩
theorem zfm : zz Tryz.prog L79 := ⟨fun _ hC H => z3d hC (zx H 0 rfl), yg (by kernel_rfl), zfn⟩
theorem zfl : zz Tryz.prog L80 := ⟨fun _ hC H => z1Z hC (zx H 3 rfl) (zx H 2 rfl) (zx H 47 rfl) (zx H 38 rfl) (zx H 39 rfl) (zx H 15 rfl) (zx H 0 rfl) (zx H 4 rfl) (zx H 29 rfl) (zx H 22 rfl), yg (by kernel_rfl), zfm⟩
theorem zfk : zz Tryz.prog L81 := ⟨fun _ hC H => WH hC (zx H 79 rfl) (zx H 48 rfl) (zx H 39 rfl) (zx H 30 rfl) (zx H 23 rfl) (zx H 17 rfl) (zx H 16 rfl) (zx H 10 rfl) (zx H 9 rfl) (zx H 6 rfl) (zx H 5 rfl) (zx H 0 rfl), yg (by kernel_rfl), zfl⟩
theorem y7 {x : Int} (h1 : -9223372036854775808 ≤ x) (h2 : x ≤ 9223372036854775807) : w64 x = x := by
 simp only [w64, IntKind.wrap, IntKind.bits, IntKind.signed]
 simp
 omega
section
variable {α β σ τ ρ : Type}
def Ret (x : Option α) (Q : α → Prop) : Prop := ∃ a, x = some a ∧ Q a
theorem Ret.mono {x : Option α} {Q R : α → Prop} (h : Ret x Q) (q : ∀ a, Q a → R a) : Ret x R := by
 obtain ⟨a, e, h⟩ := h
 exact ⟨a, e, q a h⟩
theorem Ret.eq {x : Option α} {a : α} (h : Ret x fun b => b = a) : x = some a := by
 obtain ⟨b, e, rfl⟩ := h
 exact e
theorem zn {a : α} {Q : α → Prop} : Ret (some a) Q ↔ Q a := ⟨fun ⟨b, e, q⟩ => by cases e; exact q, fun q => ⟨a, rfl, q⟩⟩
theorem ym {x : Option α} {f : α → Option β} {Q : β → Prop} : Ret (Option.bind x f) Q ↔ Ret x fun a => Ret (f a) Q := by
 cases x with
 | none => exact ⟨fun ⟨b, e, _⟩ => (by cases e), fun ⟨b, e, _⟩ => (by cases e)⟩
 | some a => exact ⟨fun h => ⟨a, rfl, h⟩, fun ⟨b, e, h⟩ => by cases e; exact h⟩
theorem yx {c : Bool} {x y : Option α} {Q : α → Prop} : Ret (bif c then x else y) Q ↔ (c = true → Ret x Q) ∧ (c = false → Ret y Q) := by
 cases c <;> simp
theorem z7v {l : List α} {i : Int} {Q : α → Prop} : Ret (idx l i) Q ↔ 0 ≤ i ∧ ∃ x, l[i.toNat]? = some x ∧ Q x := by
 cases i with
 | ofNat n =>
  show (∃ a, l[n]? = some a ∧ Q a) ↔ _
  simp
 | negSucc n => exact ⟨fun ⟨b, e, _⟩ => by (cases e), fun ⟨h, _⟩ => by omega⟩
theorem z0h (l : List α) (i : Nat) : idx l (i : Int) = l[i]? := rfl
theorem gdT {p : Prop} [Decidable p] {x : Option α} (h : p) : gd p x = x := by unfold gd; rw [if_pos h]
theorem bdT {x : Option α} {u : α} {f : α → Option ρ} (h : x = some u) : Option.bind x f = f u := by rw [h]; rfl
theorem qr (step : σ → Option (LR σ τ)) (n : Nat) (s : σ) : Wt step (n + 1) s = (match step s with | none => none | some (.next s') => Wt step n s' | some (.done t) => some t) := rfl
def LRP (N : σ → Prop) (D : τ → Prop) : LR σ τ → Prop
 | .next s => N s
 | .done t => D t
theorem xm {step : σ → Option (LR σ τ)} (I : σ → Prop) (m : σ → Nat) {R : τ → Prop} {s : σ} (hs : I s) (hm : m s < 18446744073709551616)
  (h : ∀ s, I s → Ret (step s) (LRP (fun s' => I s' ∧ m s' < m s) R)) : Ret (loop step s) R := by
 have gen : ∀ (n : Nat) (s : σ), I s → m s < n → Ret (Wt step n s) R := by
  intro n
  induction n with
  | zero => intro s _ h; omega
  | succ n ih =>
   intro s hs hm
   obtain ⟨a, e, q⟩ := h s hs
   rw [qr, e]
   cases a with
   | next s' => exact ih s' q.1 (by have := q.2; omega)
   | done t => exact ⟨t, rfl, q⟩
 exact gen Xq s hs hm
theorem YL {step : σ → Option (LR σ τ)} (st : Nat → σ) (n : Nat) {t : τ} (hn : n < 9223372036854775808) (h : ∀ i, i < n → step (st i) = some (.next (st (i + 1)))) (hd : step (st n) = some (.done t)) : loop step (st 0) = some t := by
 have gen : ∀ (k : Nat) (i : Nat), i ≤ n → n - i < k → Wt step k (st i) = some t := by
  intro k
  induction k with
  | zero => intro i _ h; omega
  | succ k ih =>
   intro i hi hk
   rw [qr]
   rcases Nat.lt_or_ge i n with q | q
   ·rw [h i q]
    exact ih (i + 1) q (by omega)
   ·have : i = n := by omega
    subst this
    rw [hd]
 exact gen Xq 0 (Nat.zero_le _) (by show n - 0 < 18446744073709551616; omega)
def yK (f : Nat → α → Option ρ) : List α → Nat → Option ρ
 | [], _ => none
 | x :: l, i => match f i x with | some r => some r | none => yK f l (i + 1)
theorem qd {f : Nat → α → Option ρ} : ∀ {l : List α} {k : Nat}, (∀ i x, l[i]? = some x → f (k + i) x = none) → yK f l k = none
 | [], _, _ => rfl
 | x :: l, k, h => by
  have h0 := h 0 x rfl
  simp only [Nat.add_zero] at h0
  simp only [yK, h0]
  exact qd fun i y hy => by have := h (i + 1) y (by simpa using hy); rwa [show k + 1 + i = k + (i + 1) by omega]
theorem ky {f : Nat → α → Option ρ} {r : ρ} : ∀ {l : List α} {k : Nat}, yK f l k = some r → ∃ i x, l[i]? = some x ∧ f (k + i) x = some r
 | [], _, h => by cases h
 | x :: l, k, h => by
  simp only [yK] at h
  cases hf : f k x with
  | some r' => rw [hf] at h; exact ⟨0, x, rfl, by rw [Nat.add_zero, hf]; exact h⟩
  | none =>
   rw [hf] at h
   obtain ⟨i, y, h1, h2⟩ := ky h
   exact ⟨i + 1, y, by simpa using h1, by rw [← h2]; congr 1; omega⟩
theorem XZ {f : Nat → α → Option ρ} {l : List α} {k : Nat} (h : yK f l k = none) : ∀ i x, l[i]? = some x → f (k + i) x = none := by
 induction l generalizing k with
 | nil => intro i x h; simp at h
 | cons y l ih =>
  intro i x hx
  simp only [yK] at h
  cases hf : f k y with
  | some r' => rw [hf] at h; cases h
  | none =>
   rw [hf] at h
   cases i with
   | zero => simp at hx; subst hx; simpa using hf
   | succ i => have := ih h i x (by simpa using hx); rwa [show k + (i + 1) = k + 1 + i by omega]
def oS : Option ρ → Unit ⊕ ρ
 | some r => .inr r
 | none => .inl ()
def nS (i : Nat) : Option ρ → LR Int (Unit ⊕ ρ)
 | some r => .done (.inr r)
 | none => .next (w64 ((i : Int) + 1))
theorem xI (l : List α) (hl : l.length < 4611686018427387904) {step : Int → Option (LR Int (Unit ⊕ ρ))} (f : Nat → α → Option ρ)
  (h : ∀ (i : Nat) (x : α), l[i]? = some x → step (i : Int) = some (nS i (f i x))) (h2 : step (l.length : Int) = some (.done (.inl ()))) :
  loop step 0 = some (oS (yK f l 0)) := by
 have gen : ∀ (n : Nat) (k : Nat), k ≤ l.length → l.length - k < n → Wt step n (k : Int) = some (oS (yK f (l.drop k) k)) := by
  intro n
  induction n with
  | zero => intro k _ h; omega
  | succ n ih =>
   intro k hk hn
   rw [qr]
   rcases Nat.lt_or_ge k l.length with hlt | hge
   ·have hx : l[k]? = some l[k] := List.getElem?_eq_getElem hlt
    rw [h k _ hx, List.drop_eq_getElem_cons hlt]
    simp only [yK]
    cases hf : f k l[k] with
    | some r => rfl
    | none =>
     simp only [nS]
     rw [y7 (by omega) (by omega)]
     exact ih (k + 1) hlt (by omega)
   ·have : k = l.length := by omega
    subst this
    rw [h2, List.drop_length]
    rfl
 exact gen Xq 0 (Nat.zero_le _) (by show l.length - 0 < 18446744073709551616; omega)
end
def z4W (m : z7) (x : za) : Bool := (x.To == -1 && x.Out == -1) || (decide (0 ≤ x.To) && decide (x.To < (m.Rows.length : Int)) && decide (0 ≤ x.Out) && decide (x.Out < m.Outputs))
def z6w (m : z7) (r : List za) : Bool := decide ((r.length : Int) = m.Inputs) && r.all (z4W m)
def chk (m : z7) : Int :=
 if m.Inputs > 16 ∨ m.Outputs > 16 ∨ (m.Rows.length : Int) > 64 then 3 else if m.Inputs < 1 ∨ m.Outputs < 1 ∨ m.Rows.length = 0 then 1 else if m.Rows.all (z6w m) = true then 0 else 1
theorem zcJ (m : z7) (x : za) : jy m x = some (z4W m x) := by
 unfold jy ZJ
 simp only [oB, Bool.and_true]
 rcases Bool.eq_false_or_eq_true (x.To == (-1) && x.Out == (-1)) with h | h
 ·simp [z4W, h]
 ·rw [h]
  simp only [z4W, h, Bool.false_or, cond_false]
  by_cases h1 : (0 : Int) ≤ x.To
  ·by_cases h2 : x.To < (m.Rows.length : Int)
   ·by_cases h3 : (0 : Int) ≤ x.Out
    ·simp [Bool.cond_eq_ite, h1, h2, h3]
    ·simp [Bool.cond_eq_ite, h1, h2, h3]
   ·simp [Bool.cond_eq_ite, h1, h2]
  ·simp [h1]
theorem z57 (m : z7) (r : List za) (hl : r.length < 4611686018427387904) : zQ r m = some (!r.all (z4W m)) := by
 have hloop : loop (fun s => zI r m s) 0 = some (oS (yK (fun i x => if z4W m x = true then none else some (i : Int)) r 0)) := by
  refine xI r hl _ ?_ ?_
  ·intro i x hx
   have hi := (List.getElem?_eq_some_iff.1 hx).1
   unfold zI
   have hd : decide ((i : Int) < ((r.length : Nat) : Int)) = true := by simpa using hi
   rw [hd, cond_true, z0h, bdT hx]
   unfold qV
   simp only [zcJ, oB]
   cases z4W m x <;> rfl
  ·unfold zI
   simp
 unfold zQ yn
 rw [hloop]
 simp only [oB]
 cases hf : yK (fun i x => if z4W m x = true then none else some (i : Int)) r 0 with
 | some q =>
  obtain ⟨i, x, h1, h2⟩ := ky hf
  have hx : z4W m x ≠ true := by
   intro h; rw [if_pos h] at h2; cases h2
  rw [if_neg hx] at h2
  simp only [Option.some.injEq] at h2
  have : r.all (z4W m) = false := by
   rw [List.all_eq_false]
   exact ⟨x, List.mem_of_getElem? h1, hx⟩
  rw [this]
  have : (q : Int) ≥ 0 := by rw [← h2]; omega
  show some (decide (q ≥ 0)) = _
  simp [this]
 | none =>
  have : r.all (z4W m) = true := by
   rw [List.all_eq_true]
   intro x hx
   obtain ⟨i, hi⟩ := List.getElem?_of_mem hx
   have := XZ hf i x hi
   by_cases h : z4W m x = true
   ·exact h
   ·rw [if_neg h] at this; cases this
  rw [this]
  rfl
theorem z6I {m : z7} (h0 : (m.Rows.length : Int) ≤ 64) (h1 : m.Inputs ≤ 16) : loop (fun s => wy m s) 0 = some (oS (yK (fun _ r => if z6w m r = true then none else some (1 : Int)) m.Rows 0)) := by
 refine xI m.Rows (by omega) _ ?_ ?_
 ·intro i r hr
  have hi := (List.getElem?_eq_some_iff.1 hr).1
  unfold wy
  have hd : decide ((i : Int) < ((m.Rows.length : Nat) : Int)) = true := by simpa using hi
  rw [hd, cond_true, z0h, bdT hr]
  by_cases hlen : (r.length : Int) = m.Inputs
  ·have hne : (((r.length : Nat) : Int) != m.Inputs) = false := by simpa using hlen
   rw [hne, cond_false, bdT (z57 m r (by omega))]
   have : z6w m r = r.all (z4W m) := by simp [z6w, hlen]
   rw [this]
   cases r.all (z4W m) <;> rfl
  ·have hne : (((r.length : Nat) : Int) != m.Inputs) = true := by simpa using hlen
   rw [hne, cond_true]
   have : z6w m r = false := by simp [z6w, hlen]
   rw [this]; rfl
 ·unfold wy
  simp
theorem z6v (m : z7) : yK (fun _ r => if z6w m r = true then none else some (1 : Int)) m.Rows 0 = if m.Rows.all (z6w m) = true then none else some 1 := by
 by_cases h : m.Rows.all (z6w m) = true
 ·rw [if_pos h]
  refine qd fun i r hr => ?_
  rw [if_pos (List.all_eq_true.1 h r (List.mem_of_getElem? hr))]
 ·rw [if_neg h]
  cases hf : yK (fun _ r => if z6w m r = true then none else some (1 : Int)) m.Rows 0 with
  | some q =>
   obtain ⟨i, x, h1, h2⟩ := ky hf
   split at h2
   ·cases h2
   ·exact h2.symm ▸ rfl
  | none =>
   exfalso
   apply h
   rw [List.all_eq_true]
   intro x hx
   obtain ⟨i, hi⟩ := List.getElem?_of_mem hx
   have := XZ hf i x hi
   by_cases h : z6w m x = true
   ·exact h
   ·rw [if_neg h] at this; cases this
theorem z2G (m : z7) : vo m = some (chk m) := by
 unfold vo chk
 by_cases h1 : m.Inputs > 16
 ·simp [h1]
 by_cases h2 : m.Outputs > 16
 ·simp [Bool.cond_eq_ite, h1, h2]
 by_cases h3 : (m.Rows.length : Int) > 64
 ·simp [Bool.cond_eq_ite, h1, h2, h3]
 rw [if_neg (by simp [Bool.cond_eq_ite, h1, h2, h3])]
 by_cases h4 : m.Inputs < 1
 ·simp [Bool.cond_eq_ite, h1, h2, h3, h4]
 by_cases h5 : m.Outputs < 1
 ·simp [Bool.cond_eq_ite, h1, h2, h3, h4, h5]
 by_cases h6 : m.Rows.length = 0
 ·simp [Bool.cond_eq_ite, h1, h2, h4, h5, h6]
 rw [if_neg (by simp [h4, h5, h6])]
 have h6' : decide (((m.Rows.length : Nat) : Int) < 1) = false := by simp; omega
 have e1 : decide (m.Inputs > 16) = false := by simpa using h1
 have e2 : decide (m.Outputs > 16) = false := by simpa using h2
 have e3 : decide (((m.Rows.length : Nat) : Int) > 64) = false := by simpa using h3
 have e4 : decide (m.Inputs < 1) = false := by simpa using h4
 have e5 : decide (m.Outputs < 1) = false := by simpa using h5
 simp only [e1, e2, e3, e4, e5, h6', cond_false]
 rw [bdT (z6I (by omega) (by omega)), z6v]
 by_cases h : m.Rows.all (z6w m) = true
 ·rw [if_pos h, if_pos h]; rfl
 ·rw [if_neg h, if_neg h]; rfl
structure VM (m : z7) : Prop where
 in1 : 1 ≤ m.Inputs
 in16 : m.Inputs ≤ 16
 out1 : 1 ≤ m.Outputs
 out16 : m.Outputs ≤ 16
 len1 : 1 ≤ m.Rows.length
 len64 : m.Rows.length ≤ 64
 row : ∀ r ∈ m.Rows, (r.length : Int) = m.Inputs
 edge : ∀ r ∈ m.Rows, ∀ x ∈ r, (x.To = -1 ∧ x.Out = -1) ∨ (0 ≤ x.To ∧ x.To < (m.Rows.length : Int) ∧ 0 ≤ x.Out ∧ x.Out < m.Outputs)
theorem z8z {m : z7} (h : VM m) : chk m = 0 := by
 unfold chk
 have := h.in1; have := h.in16; have := h.out1; have := h.out16; have := h.len1; have := h.len64
 rw [if_neg (by omega), if_neg (by omega), if_pos]
 rw [List.all_eq_true]
 intro r hr
 simp only [z6w, Bool.and_eq_true, decide_eq_true_eq, List.all_eq_true]
 refine ⟨h.row r hr, fun x hx => ?_⟩
 simp only [z4W, Bool.or_eq_true, Bool.and_eq_true, beq_iff_eq, decide_eq_true_eq]
 rcases h.edge r hr x hx with ⟨a, b⟩ | ⟨a, b, c, d⟩
 ·exact .inl ⟨a, b⟩
 ·exact .inr ⟨⟨⟨a, b⟩, c⟩, d⟩
def kk (m : z7) : Nat := m.Inputs.toNat
def E (m : z7) (s i : Nat) : za := ((m.Rows[s]?.getD [])[i]?).getD ⟨-1, -1⟩
section
variable {m : z7} (h : VM m)
include h
theorem VM.kk_eq : ((kk m : Nat) : Int) = m.Inputs := by have := h.in1; unfold kk; omega
theorem VM.kk_pos : 1 ≤ kk m := by have := h.in1; unfold kk; omega
theorem VM.kk_le : kk m ≤ 16 := by have := h.in16; unfold kk; omega
theorem VM.rowAt {s : Nat} (hs : s < m.Rows.length) : ∃ r, m.Rows[s]? = some r ∧ r.length = kk m ∧ ∀ i, i < kk m → r[i]? = some (E m s i) := by
 have hr := List.getElem?_eq_getElem hs
 have hl := h.row _ (List.getElem_mem hs)
 have hl' : m.Rows[s].length = kk m := by unfold kk; omega
 refine ⟨_, hr, hl', fun i hi => ?_⟩
 have hi' : i < m.Rows[s].length := by omega
 unfold E
 rw [hr]
 simp only [Option.getD_some]
 rw [List.getElem?_eq_getElem hi']
 rfl
theorem VM.edgeAt {s i : Nat} (hs : s < m.Rows.length) (hi : i < kk m) : ((E m s i).To = -1 ∧ (E m s i).Out = -1) ∨ (0 ≤ (E m s i).To ∧ (E m s i).To < (m.Rows.length : Int) ∧ 0 ≤ (E m s i).Out ∧ (E m s i).Out < m.Outputs) := by
 obtain ⟨r, h1, _, h2⟩ := h.rowAt hs
 exact h.edge r (List.mem_of_getElem? h1) _ (List.mem_of_getElem? (h2 i hi))
end
section
variable {S : Type}
def rv (k : Nat) : List Nat → Nat
 | [] => 0
 | i :: u => rv k u * k + i + 1
def z8Z (k : Nat) (bad : S → Nat → Bool) (nx : S → Nat → Option S) (p0 : S) : List Nat → S → Prop
 | [], q => q = p0
 | i :: u, q => ∃ p, z8Z k bad nx p0 u p ∧ i < k ∧ bad p i = false ∧ nx p i = some q
structure Bfs (k : Nat) (bad : S → Nat → Bool) (nx : S → Nat → Option S) (p0 : S) (L : List (S × List Nat)) (at_ i : Nat) : Prop where
 first : L[0]? = some (p0, [])
 mono : ∀ (j j' : Nat) (a b : S × List Nat), j < j' → L[j]? = some a → L[j']? = some b → rv k a.2 < rv k b.2
 path : ∀ a ∈ L, z8Z k bad nx p0 a.2 a.1
 ahead : ∀ a c, L[at_]? = some c → a ∈ L → rv k a.2 < rv k c.2 * k + i + 1
 pos : i ≤ k
 lies : at_ ≤ L.length
 fin : at_ = L.length → i = 0
 short : ∀ (j : Nat) (a : S × List Nat), L[j]? = some a → a.2.length ≤ j
 seen : ∀ (j x : Nat) (a : S × List Nat), L[j]? = some a → x < k → (j < at_ ∨ j = at_ ∧ x < i) → bad a.1 x = false ∧ ∀ q, nx a.1 x = some q → ∃ b ∈ L, b.1 = q ∧ rv k b.2 ≤ rv k a.2 * k + x + 1
variable {k : Nat} {bad : S → Nat → Bool} {nx : S → Nat → Option S} {p0 : S}
theorem Bfs.start : Bfs k bad nx p0 [(p0, [])] 0 0 := {
 first := rfl
 mono := by
  intro j j' a b h h1 h2
  have := (List.getElem?_eq_some_iff.1 h2).1
  simp at this
  omega
 path := by intro a ha; simp at ha; subst ha; rfl
 ahead := by intro a c _ ha; simp at ha; subst ha; simp [rv]
 pos := Nat.zero_le _
 lies := by simp
 fin := by intro; rfl
 short := by
  intro j a h
  have := (List.getElem?_eq_some_iff.1 h).1
  simp at this
  subst this
  simp at h
  subst h
  simp
 seen := by rintro j x a h _ (q | ⟨_, q⟩) <;> omega }
theorem Bfs.old {L : List (S × List Nat)} {a i : Nat} (h : Bfs k bad nx p0 L a i) {c : S × List Nat} (hc : L[a]? = some c) (hi : i < k) (hb : bad c.1 i = false)
  (hn : ∀ q, nx c.1 i = some q → ∃ b ∈ L, b.1 = q) : Bfs k bad nx p0 L a (i + 1) := {
 first := h.first
 mono := h.mono
 path := h.path
 ahead := fun x y hy hx => by have := h.ahead x y hy hx; omega
 pos := hi
 lies := h.lies
 fin := fun e => by have := (List.getElem?_eq_some_iff.1 hc).1; omega
 short := h.short
 seen := by
  intro j x y hy hx q
  by_cases e : j = a ∧ x = i
  ·obtain ⟨rfl, rfl⟩ := e
   rw [hc] at hy
   cases hy
   refine ⟨hb, fun q hq => ?_⟩
   obtain ⟨b, h1, h2⟩ := hn q hq
   exact ⟨b, h1, h2, by have := h.ahead b c hc h1; omega⟩
  ·exact h.seen j x y hy hx (by omega) }
theorem Bfs.new {L : List (S × List Nat)} {a i : Nat} (h : Bfs k bad nx p0 L a i) {c : S × List Nat} (hc : L[a]? = some c) (hi : i < k) (hb : bad c.1 i = false) {q : S}
  (hn : nx c.1 i = some q) : Bfs k bad nx p0 (L ++ [(q, i :: c.2)]) a (i + 1) := by
 have hlt := (List.getElem?_eq_some_iff.1 hc).1
 refine ⟨?_, ?_, ?_, ?_, hi, by simp; omega, fun e => by simp at e; omega, ?_, ?_⟩
 ·rw [List.getElem?_append_left (by omega)]; exact h.first
 ·intro j j' x y hj h1 h2
  have hl := (List.getElem?_eq_some_iff.1 h2).1
  simp at hl
  rw [List.getElem?_append_left (by omega)] at h1
  rcases Nat.lt_or_ge j' L.length with g | g
  ·rw [List.getElem?_append_left g] at h2
   exact h.mono j j' x y hj h1 h2
  ·have : j' = L.length := by omega
   subst this
   simp at h2
   subst h2
   exact h.ahead x c hc (List.mem_of_getElem? h1)
 ·intro x hx
  rcases List.mem_append.1 hx with g | g
  ·exact h.path x g
  ·simp at g
   subst g
   exact ⟨c.1, h.path c (List.mem_of_getElem? hc), hi, hb, hn⟩
 ·intro x y hy hx
  rw [List.getElem?_append_left hlt] at hy
  rcases List.mem_append.1 hx with g | g
  ·have := h.ahead x y hy g; omega
  ·simp at g
   subst g
   rw [hc] at hy
   cases hy
   simp [rv]
 ·intro j y hy
  rcases Nat.lt_or_ge j L.length with g | g
  ·rw [List.getElem?_append_left g] at hy
   exact h.short j y hy
  ·have hl := (List.getElem?_eq_some_iff.1 hy).1
   simp at hl
   have : j = L.length := by omega
   subst this
   simp at hy
   subst hy
   have := h.short a c hc
   simp
   omega
 ·intro j x y hy hx g
  rw [List.getElem?_append_left (by omega)] at hy
  by_cases e : j = a ∧ x = i
  ·obtain ⟨rfl, rfl⟩ := e
   rw [hc] at hy
   cases hy
   refine ⟨hb, fun q' hq => ?_⟩
   rw [hn] at hq
   cases hq
   exact ⟨(q, x :: c.2), by simp, rfl, Nat.le_refl _⟩
  ·obtain ⟨h1, h2⟩ := h.seen j x y hy hx (by omega)
   refine ⟨h1, fun q' hq => ?_⟩
   obtain ⟨b, g1, g2⟩ := h2 q' hq
   exact ⟨b, List.mem_append_left _ g1, g2⟩
theorem Bfs.step {L : List (S × List Nat)} {a : Nat} (h : Bfs k bad nx p0 L a k) (ha : a < L.length) : Bfs k bad nx p0 L (a + 1) 0 := {
 first := h.first
 mono := h.mono
 path := h.path
 ahead := by
  intro x c hc hx
  have h1 := h.ahead x _ (List.getElem?_eq_getElem ha) hx
  have h2 := h.mono a (a + 1) _ _ (by omega) (List.getElem?_eq_getElem ha) hc
  have h3 : (rv k L[a].2 + 1) * k ≤ rv k c.2 * k := Nat.mul_le_mul_right _ h2
  rw [Nat.succ_mul] at h3
  omega
 pos := Nat.zero_le _
 lies := ha
 fin := fun _ => rfl
 short := h.short
 seen := fun j x b hb hx g => h.seen j x b hb hx (by rcases g with g | ⟨_, g⟩ <;> omega) }
theorem Bfs.reach {L : List (S × List Nat)} {a i : Nat} (h : Bfs k bad nx p0 L a i) : ∀ (u : List Nat) (q : S), z8Z k bad nx p0 u q → (∀ c, L[a]? = some c → rv k u < rv k c.2 * k + i + 1) → ∃ (j : Nat) (b : S × List Nat), L[j]? = some b ∧ b.1 = q ∧ rv k b.2 ≤ rv k u
 | [], q, hp, _ => ⟨0, _, h.first, hp.symm, Nat.zero_le _⟩
 | x :: u, q, ⟨p, hp, hx, hb, hn⟩, hlt => by
  have hk : rv k u ≤ rv k u * k := Nat.le_mul_of_pos_right _ (by omega)
  obtain ⟨j, b, hj, rfl, hr⟩ := h.reach u p hp fun c hc => by have := hlt c hc; simp only [rv] at this; omega
  have hmul : rv k b.2 * k ≤ rv k u * k := Nat.mul_le_mul_right _ hr
  have hjl := (List.getElem?_eq_some_iff.1 hj).1
  have hpos : j < a ∨ j = a ∧ x < i := by
   rcases Nat.lt_trichotomy j a with g | g | g
   ·exact .inl g
   ·subst g
    refine .inr ⟨rfl, ?_⟩
    have := hlt b hj
    simp only [rv] at this
    omega
   ·exfalso
    have hal : a < L.length := by omega
    have h1 := hlt _ (List.getElem?_eq_getElem hal)
    have h2 := h.mono a j _ _ g (List.getElem?_eq_getElem hal) hj
    have h3 : (rv k L[a].2 + 1) * k ≤ rv k b.2 * k := Nat.mul_le_mul_right _ h2
    rw [Nat.succ_mul] at h3
    have := h.pos
    simp only [rv] at h1
    omega
  obtain ⟨_, h2⟩ := h.seen j x b hj hx hpos
  obtain ⟨c, g1, g2, g3⟩ := h2 q hn
  obtain ⟨j', g4⟩ := List.getElem?_of_mem g1
  exact ⟨j', c, g4, g2, by simp only [rv]; omega⟩
end
abbrev LL := List ((Nat × Nat) × List Nat)
def zjO (a b : z7) (L : LL) : Prop := (L.map (·.1)).Nodup ∧ ∀ x ∈ L, x.1.1 < a.Rows.length ∧ x.1.2 < b.Rows.length
theorem z4N {a k : Int} (h0 : 0 ≤ a) (hk : 1 ≤ k) (hk2 : k ≤ 1000000) : 1 ≤ w64 (1 + w64 (Int.tmod a k)) ∧ w64 (1 + w64 (Int.tmod a k)) ≤ k := by
 have h1 := Int.tmod_nonneg k h0
 have h2 := Int.tmod_lt_of_pos a (show 0 < k by omega)
 rw [y7 (x := Int.tmod a k) (by omega) (by omega), y7 (by omega) (by omega)]
 omega
structure WM (m : z7) : Prop where
 in1 : 1 ≤ m.Inputs
 in16 : m.Inputs ≤ 16
 len1 : 1 ≤ m.Rows.length
 len : m.Rows.length ≤ 128
 row : ∀ r ∈ m.Rows, (r.length : Int) = m.Inputs
 edge : ∀ r ∈ m.Rows, ∀ x ∈ r, (x.To = -1 ∧ x.Out = -1) ∨ (0 ≤ x.To ∧ x.To < (m.Rows.length : Int) ∧ 0 ≤ x.Out)
def nxE (m : z7) (s : Int) (i : Nat) : za := if s < 0 then ⟨-1, -1⟩ else E m s.toNat i
def rsp (m : z7) : Int → List Nat → List Int
 | _, [] => []
 | s, i :: w => (nxE m s i).Out :: rsp m (nxE m s i).To w
def aft (m : z7) : Int → List Nat → Int
 | s, [] => s
 | s, i :: w => aft m (nxE m s i).To w
theorem Vb (m : z7) : ∀ (w : List Nat) (s : Int) (i : Nat), rsp m s (w ++ [i]) = rsp m s w ++ [(nxE m (aft m s w) i).Out] ∧ aft m s (w ++ [i]) = (nxE m (aft m s w) i).To
 | [], s, i => ⟨rfl, rfl⟩
 | j :: w, s, i => by
  have := Vb m w (nxE m s j).To i
  simp only [List.cons_append, rsp, aft, this.1, this.2, and_self]
def zaR (m : z7) (s : Int) : Prop := -1 ≤ s ∧ s < (m.Rows.length : Int)
theorem zhc {m : z7} (h : VM m) {s : Int} (hs : zaR m s) {i : Nat} (hi : i < kk m) : zaR m (nxE m s i).To := by
 unfold nxE
 have := h.len1
 by_cases h0 : s < 0
 ·rw [if_pos h0]
  unfold zaR
  simp only
  omega
 ·rw [if_neg h0]
  have hl : s.toNat < m.Rows.length := by have := hs.2; omega
  have := h.edgeAt hl hi
  unfold zaR
  omega
theorem Qx (m : z7) (s i : Nat) : nxE m (s : Int) i = E m s i := by
 unfold nxE
 rw [if_neg (by omega), Int.toNat_natCast]
def zdr (k : Nat) : List Nat → Nat
 | [] => 0
 | d :: r => d + k * zdr k r
def GG (k : Nat) : Nat → Nat
 | 0 => 0
 | n + 1 => GG k n + k ^ n
def rk (k : Nat) (w : List Nat) : Nat := GG k w.length + zdr k w.reverse
def Wd (k : Nat) (w : List Nat) : Prop := ∀ i ∈ w, i < k
section
variable {m : z7}
theorem z1M (h : VM m) : ∀ (w : List Nat) (s : Int), zaR m s → Wd (kk m) w → zaR m (aft m s w)
 | [], s, hs, _ => hs
 | i :: w, s, hs, hw => z1M h w _ (zhc h hs (hw i (by simp))) fun j hj => hw j (by simp [hj])
end
theorem z5e (m : z7) : ∀ (u w : List Nat) (s : Int), aft m s (u ++ w) = aft m (aft m s u) w
 | [], _, _ => rfl
 | i :: u, w, s => by simp only [List.cons_append, aft, z5e m u w]
theorem z5d (m : z7) : ∀ (w : List Nat) (s : Int), s < 0 → aft m s w < 0
 | [], s, h => h
 | i :: w, s, h => by
  simp only [aft, nxE, if_pos h]
  exact z5d m w (-1) (by omega)
structure Acc (m : z7) (t : Nat) (v : List Nat) : Prop where
 wd : Wd (kk m) v
 len : v.length < m.Rows.length
 aft : aft m 0 v = (t : Int)
 least : ∀ u, Wd (kk m) u → Go.Own.aft m 0 u = (t : Int) → rk (kk m) v ≤ rk (kk m) u
section
variable {m : z7} (h : VM m) (hG : GG (kk m) m.Rows.length ≤ 1000000000)
include h hG
def z5f (m : z7) (r : List (List Int) × List Bool) : Prop :=
 r.1.length = m.Rows.length ∧ r.2.length = m.Rows.length ∧ ∀ t, t < m.Rows.length →
  (r.2[t]? = some true ∧ ∃ v : List Nat, r.1[t]? = some (v.map Int.ofNat) ∧ Acc m t v) ∨ (r.2[t]? = some false ∧ ∀ u, Wd (kk m) u → aft m 0 u ≠ (t : Int))
end
def Rch (m : z7) (t : Nat) : Prop := ∃ u, Wd (kk m) u ∧ aft m 0 u = (t : Int)
theorem Uq {out : List Bool} {j t : Nat} (hj : j < out.length) : (out.set j true)[t]? = some true ↔ t = j ∨ out[t]? = some true := by
 by_cases e : t = j
 ·subst e; simp [hj]
 ·rw [List.getElem?_set_ne (Ne.symm e)]
  exact ⟨.inr, fun q => q.resolve_left e⟩
section
variable {m : z7} (h : VM m)
include h
omit h in theorem rch_step {s i : Nat} (hs : Rch m s) (hi : i < kk m) (h0 : 0 ≤ (E m s i).To) : Rch m (E m s i).To.toNat := by
 obtain ⟨u, hu, e⟩ := hs
 refine ⟨u ++ [i], fun j hj => ?_, ?_⟩
 ·rcases List.mem_append.1 hj with q | q
  ·exact hu j q
  ·have : j = i := by simpa using q
   omega
 ·have := (Vb m u 0 i).2
  rw [e, Qx] at this
  rw [this]
  omega
end
def wv : List Int → List Int → Int
 | [], [] => 0
 | [], _ :: _ => -1
 | _ :: _, [] => 1
 | x :: a, y :: b => if x < y then -1 else if y < x then 1 else wv a b
def j5 (a b : List Int) : Int := if a.length < b.length then -1 else if b.length < a.length then 1 else wv a b
theorem z80 : ∀ {a b : List Int}, wv a b = 0 → a = b
 | [], [], _ => rfl
 | [], _ :: _, h => by simp [wv] at h
 | _ :: _, [], h => by simp [wv] at h
 | x :: a, y :: b, h => by
  simp only [wv] at h
  split at h
  ·simp at h
  ·split at h
   ·simp at h
   ·rw [show x = y by omega, z80 h]
theorem z3P : ∀ a : List Int, wv a a = 0
 | [] => rfl
 | x :: a => by simp [wv, z3P a]
theorem z5O : ∀ a b : List Int, wv b a = - wv a b
 | [], [] => rfl
 | [], _ :: _ => rfl
 | _ :: _, [] => rfl
 | x :: a, y :: b => by
  simp only [wv]
  split
  ·rw [if_neg (by omega)]
  ·split
   ·rfl
   ·exact z5O a b
theorem z1z : ∀ {a b c : List Int}, wv a b < 0 → wv b c < 0 → wv a c < 0
 | [], [], _, h, _ => by simp [wv] at h
 | [], _ :: _, [], _, h => by simp [wv] at h
 | [], _ :: _, _ :: _, _, _ => by simp [wv]
 | _ :: _, [], _, h, _ => by simp [wv] at h
 | _ :: _, _ :: _, [], _, h => by simp [wv] at h
 | x :: a, y :: b, z :: c, h1, h2 => by
  simp only [wv] at h1 h2 ⊢
  by_cases e1 : x < y
  ·by_cases e2 : y < z
   ·rw [if_pos (by omega)]; omega
   ·rw [if_neg e2] at h2
    by_cases e3 : z < y
    ·rw [if_pos e3] at h2; omega
    ·rw [if_pos (by omega)]; omega
  ·rw [if_neg e1] at h1
   by_cases e3 : y < x
   ·rw [if_pos e3] at h1; omega
   ·rw [if_neg e3] at h1
    have : x = y := by omega
    subst this
    by_cases e2 : x < z
    ·rw [if_pos e2]; omega
    ·rw [if_neg e2] at h2 ⊢
     by_cases e4 : z < x
     ·rw [if_pos e4] at h2; omega
     ·rw [if_neg e4] at h2 ⊢
      exact z1z h1 h2
theorem z2F {a b : List Int} (h : j5 a b = 0) : a = b := by
 unfold j5 at h
 split at h
 ·simp at h
 ·split at h
  ·simp at h
  ·exact z80 h
theorem UM (a : List Int) : j5 a a = 0 := by simp [j5, z3P]
theorem z6b {a b : List Int} : j5 a b = 0 ↔ a = b := ⟨z2F, fun h => h ▸ UM a⟩
theorem z6a (a b : List Int) : j5 b a = - j5 a b := by
 unfold j5
 by_cases h1 : a.length < b.length
 ·rw [if_pos h1, if_neg (by omega), if_pos h1]; rfl
 ·by_cases h2 : b.length < a.length
  ·rw [if_pos h2, if_neg h1, if_pos h2]
  ·rw [if_neg h1, if_neg h2, if_neg h2, if_neg h1, z5O]
theorem qB {a b c : List Int} (h1 : j5 a b < 0) (h2 : j5 b c < 0) : j5 a c < 0 := by
 unfold j5 at *
 by_cases e1 : a.length < b.length
 ·by_cases e2 : b.length < c.length
  ·rw [if_pos (by omega)]; omega
  ·rw [if_neg e2] at h2
   by_cases e3 : c.length < b.length
   ·rw [if_pos e3] at h2; omega
   ·rw [if_pos (by omega)]; omega
 ·rw [if_neg e1] at h1
  by_cases e3 : b.length < a.length
  ·rw [if_pos e3] at h1; omega
  ·rw [if_neg e3] at h1
   have e : a.length = b.length := by omega
   rw [e]
   by_cases e2 : b.length < c.length
   ·rw [if_pos e2]; omega
   ·rw [if_neg e2] at h2 ⊢
    by_cases e4 : c.length < b.length
    ·rw [if_pos e4] at h2; omega
    ·rw [if_neg e4] at h2 ⊢
     exact z1z h1 h2
theorem Kj (a : List Int) : ¬ j5 a a < 0 := by rw [UM]; omega
theorem z8y {a b : List Int} (h : j5 a b < 0) : ¬ j5 b a < 0 := by rw [z6a a b]; omega
theorem z2E {a b : List Int} : ¬ j5 a b < 0 ↔ j5 b a < 0 ∨ a = b := by
 rw [← z6b, z6a a b]; omega
def SW (l : List (List Int)) : Prop := l.Pairwise fun a b => j5 a b < 0
theorem SW.nil : SW [] := List.Pairwise.nil
theorem SW.tail {x : List Int} {l : List (List Int)} (h : SW (x :: l)) : SW l := (List.pairwise_cons.1 h).2
theorem SW.head {x : List Int} {l : List (List Int)} (h : SW (x :: l)) : ∀ y ∈ l, j5 x y < 0 := (List.pairwise_cons.1 h).1
theorem SW.unique : ∀ {l m : List (List Int)}, SW l → SW m → (∀ x, x ∈ l ↔ x ∈ m) → l = m
 | [], [], _, _, _ => rfl
 | [], y :: m, _, _, h => by have := (h y).2 (by simp); simp at this
 | x :: l, [], _, _, h => by have := (h x).1 (by simp); simp at this
 | x :: l, y :: m, h1, h2, h => by
  have hxy : x = y := by
   rcases List.mem_cons.1 ((h x).1 (by simp)) with e | e
   ·exact e
   ·rcases List.mem_cons.1 ((h y).2 (by simp)) with e' | e'
    ·exact e'.symm
    ·exact absurd (h2.head x e) (z8y (h1.head y e'))
  subst hxy
  rw [SW.unique h1.tail h2.tail fun z => ?_]
  constructor
  ·intro hz
   rcases List.mem_cons.1 ((h z).1 (by simp [hz])) with e | e
   ·subst e; exact absurd (h1.head _ hz) (Kj _)
   ·exact e
  ·intro hz
   rcases List.mem_cons.1 ((h z).2 (by simp [hz])) with e | e
   ·subst e; exact absurd (h2.head _ hz) (Kj _)
   ·exact e
theorem SW.sub {l m : List (List Int)} (h : SW l) (hs : List.Sublist m l) : SW m := List.Pairwise.sublist hs h
theorem SW.filter {l : List (List Int)} (h : SW l) (p : List Int → Bool) : SW (l.filter p) := h.sub List.filter_sublist
theorem SW.nodup {l : List (List Int)} (h : SW l) : l.Nodup := List.Pairwise.imp (fun {a b} q e => by subst e; exact Kj _ q) h
def z1q (w : List Int) : List (List Int) → List (List Int)
 | [] => [w]
 | x :: l => if j5 x w < 0 then x :: z1q w l else if j5 x w = 0 then x :: l else w :: x :: l
theorem UC {w x : List Int} : ∀ {l : List (List Int)}, x ∈ z1q w l ↔ x = w ∨ x ∈ l
 | [] => by simp [z1q]
 | y :: l => by
  simp only [z1q]
  split
  ·simp only [List.mem_cons, UC]
   constructor
   ·rintro (h | h | h) <;> simp [h]
   ·rintro (h | h | h) <;> simp [h]
  ·split
   ·rename_i h1 h2
    have := z2F h2
    subst this
    simp
   ·simp
theorem SW.put {w : List Int} : ∀ {l : List (List Int)}, SW l → SW (z1q w l)
 | [], _ => by simp [z1q, SW]
 | y :: l, h => by
  simp only [z1q]
  split
  ·rename_i h1
   refine List.pairwise_cons.2 ⟨fun z hz => ?_, SW.put h.tail⟩
   rcases UC.1 hz with rfl | hz
   ·exact h1
   ·exact h.head z hz
  ·split
   ·exact h
   ·rename_i h1 h2
    have hw : j5 w y < 0 := by
     rcases z2E.1 h1 with q | q
     ·exact q
     ·exact absurd (z6b.2 q) h2
    refine List.pairwise_cons.2 ⟨fun z hz => ?_, h⟩
    rcases List.mem_cons.1 hz with rfl | hz
    ·exact hw
    ·exact qB hw (h.head z hz)
theorem z5E (w : List Int) : ∀ l, (z1q w l).length ≤ l.length + 1
 | [] => by simp [z1q]
 | y :: l => by
  simp only [z1q]
  split
  ·have := z5E w l; simp; omega
  ·split <;> simp
def srt (l : List (List Int)) : List (List Int) := l.foldl (fun m w => z1q w m) []
theorem z4D : ∀ (l m : List (List Int)), SW m → SW (l.foldl (fun m w => z1q w m) m) ∧ ∀ x, x ∈ l.foldl (fun m w => z1q w m) m ↔ x ∈ m ∨ x ∈ l
 | [], m, h => ⟨h, by simp⟩
 | w :: l, m, h => by
  obtain ⟨h1, h2⟩ := z4D l (z1q w m) h.put
  refine ⟨h1, fun x => ?_⟩
  rw [List.foldl_cons, h2, UC]
  simp only [List.mem_cons]
  constructor
  ·rintro ((h | h) | h) <;> simp [h]
  ·rintro (h | h | h) <;> simp [h]
theorem Wk (l : List (List Int)) : SW (srt l) := (z4D l [] .nil).1
theorem wI {l : List (List Int)} {x : List Int} : x ∈ srt l ↔ x ∈ l := by rw [srt, (z4D l [] .nil).2]; simp
theorem z7e {l m : List (List Int)} (h : SW m) (hm : ∀ x, x ∈ m ↔ x ∈ l) : m = srt l := h.unique (Wk l) fun x => by rw [hm, wI]
theorem KF {l : List (List Int)} (h : SW l) : srt l = l := (z7e h fun _ => .rfl).symm
theorem KG {l m : List (List Int)} (h : ∀ x, x ∈ l ↔ x ∈ m) : srt l = srt m := z7e (Wk l) fun x => by rw [wI, h]
theorem z9G (l : List (List Int)) (w : List Int) : srt (l ++ [w]) = z1q w (srt l) := by simp [srt]
theorem YQ (l : List (List Int)) : (srt l).length ≤ l.length := by
 have : ∀ (l m : List (List Int)), (l.foldl (fun m w => z1q w m) m).length ≤ m.length + l.length := by
  intro l
  induction l with
  | nil => intro m; simp
  | cons w l ih => intro m; have := ih (z1q w m); have := z5E w m; simp only [List.foldl_cons, List.length_cons]; omega
 have q := this l []
 simp only [List.length_nil, Nat.zero_add] at q
 exact q
theorem zk {α : Type} {l : List α} {i : Nat} {x : α} (h : l[i]? = some x) : idx l (i : Int) = some x := h
theorem z8i (b : List Int) (g : Nat → Int → Option Int) (hg : ∀ i x y, b[i]? = some y → g i x = if x < y then some (-1) else if y < x then some 1 else none) :
  ∀ (a : List Int) (k : Nat), k + a.length = b.length → (yK g a k).getD 0 = wv a (b.drop k)
 | [], k, h => by
  have : b.drop k = [] := List.drop_eq_nil_of_le (by simp at h; omega)
  rw [this]; rfl
 | x :: a, k, h => by
  simp only [List.length_cons] at h
  have hk : k < b.length := by omega
  rw [List.drop_eq_getElem_cons hk]
  simp only [yK, wv, hg k x b[k] (List.getElem?_eq_getElem hk)]
  by_cases h1 : x < b[k]
  ·simp [h1]
  ·by_cases h2 : b[k] < x
   ·simp [h1, h2]
   ·simp only [h1, h2, if_false]
    exact z8i b g hg a (k + 1) (by omega)
theorem z4e (a b : List Int) (h : a.length = b.length → a.length < 4611686018427387904) : u9 a b = some (j5 a b) := by
 unfold u9
 by_cases hl : a.length = b.length
 ·have h' := h hl
  simp only [hl, bne_self_eq_false, cond_false]
  rw [bdT (xI a h' (fun i x => match b[i]? with | some y => if x < y then some (-1 : Int) else if y < x then some 1 else none | none => none) ?_ ?_)]
  ·have q := z8i b (fun i x => match b[i]? with | some y => if x < y then some (-1 : Int) else if y < x then some 1 else none | none => none) (fun i x y hy => by simp only [hy]) a 0 (by omega)
   rw [List.drop_zero] at q
   have hc : j5 a b = wv a b := by unfold j5; rw [if_neg (by omega), if_neg (by omega)]
   rw [hc, ← q]
   cases yK (fun i x => match b[i]? with | some y => if x < y then some (-1 : Int) else if y < x then some 1 else none | none => none) a 0 <;> rfl
  ·intro i x hx
   have hi : i < a.length := (List.getElem?_eq_some_iff.1 hx).1
   have hy : b[i]? = some b[i] := List.getElem?_eq_getElem (by omega)
   unfold uo
   have hc : decide ((i : Int) < (a.length : Int)) = true := by simpa using hi
   simp only [hc, cond_true, zk hx, zk hy, hy, oB]
   by_cases h1 : x < b[i]
   ·simp [h1, nS]
   ·by_cases h2 : b[i] < x
    ·simp [h1, h2, nS]
    ·simp [h1, h2, nS]
  ·unfold uo
   simp
 ·have h1 : (((a.length : Nat) : Int) != ((b.length : Nat) : Int)) = true := by simp; omega
  simp only [h1, cond_true]
  unfold j5
  by_cases h2 : a.length < b.length
  ·simp [h2]
  ·have h3 : b.length < a.length := by omega
   simp [h2, h3]
def cI (x y : Int) : Int := if x < y then -1 else if y < x then 1 else 0
theorem z8x (x y : Int) : vQ x y = some (cI x y) := by
 unfold vQ jF cI
 simp only [bne_self_eq_false, oB, cond_false]
 by_cases h1 : x < y
 ·simp [h1]
 ·by_cases h2 : y < x
  ·simp [h1, h2]
  ·simp [h1, h2]
theorem zcb (a b : List Int) (h : a.length < 4611686018427387904) : ∃ c, xG a b = some c ∧ (a.length = b.length → c = wv a b) := by
 unfold xG
 have hloop := xI a h (step := fun s => yp a b s) (fun i x => match b[i]? with | some y => if x < y then some (-1 : Int) else if y < x then some 1 else none | none => some 1) (by
  intro i x hx
  have hi : i < a.length := (List.getElem?_eq_some_iff.1 hx).1
  unfold yp
  have hc : decide ((i : Int) < (a.length : Int)) = true := by simpa using hi
  simp only [hc, cond_true, zk hx, oB]
  by_cases hb : i < b.length
  ·have hy : b[i]? = some b[i] := List.getElem?_eq_getElem hb
   have hd : decide ((i : Int) ≥ (b.length : Int)) = false := by simp; omega
   simp only [hd, cond_false, zk hy, hy, oB, z8x]
   unfold cI
   by_cases h1 : x < b[i]
   ·simp [h1, nS]
   ·by_cases h2 : b[i] < x
    ·simp [h1, h2, nS]
    ·simp [h1, h2, nS]
  ·have hy : b[i]? = none := List.getElem?_eq_none (by omega)
   have hd : decide ((i : Int) ≥ (b.length : Int)) = true := by simp; omega
   simp only [hd, cond_true, hy, nS]) (by unfold yp; simp)
 rw [bdT hloop]
 have q := fun hl => z8i b (fun i x => match b[i]? with | some y => if x < y then some (-1 : Int) else if y < x then some 1 else none | none => some 1) (fun i x y hy => by simp only [hy]) a 0 hl
 cases hf : yK (fun i x => match b[i]? with | some y => if x < y then some (-1 : Int) else if y < x then some 1 else none | none => some 1) a 0 with
 | some r =>
  refine ⟨r, rfl, fun hl => ?_⟩
  have := q (by omega)
  rw [hf] at this
  simpa using this
 | none =>
  unfold xN
  by_cases hl : a.length < b.length
  ·refine ⟨-1, by simp [oS, hl], fun hl2 => by omega⟩
  ·refine ⟨0, by simp [oS, hl], fun hl2 => ?_⟩
   have := q (by omega)
   rw [hf] at this
   simpa using this
theorem zjA (x y : Int) : Xr [x, y] = some (if x = 0 then y else x) := by
 unfold Xr
 rw [bdT (xI [x, y] (by simp) (step := fun s => qA [x, y] s) (fun i v => if v ≠ 0 then some v else none) ?_ ?_)]
 ·by_cases h1 : x = 0
  ·by_cases h2 : y = 0
   ·simp [yK, h1, h2, oS, ZQ]
   ·simp [yK, h1, h2, oS]
  ·simp [yK, h1, oS]
 ·intro i v hv
  have hi : i < [x, y].length := (List.getElem?_eq_some_iff.1 hv).1
  unfold qA
  have hc : decide ((i : Int) < (([x, y] : List Int).length : Int)) = true := by simp only [decide_eq_true_eq]; omega
  simp only [hc, cond_true, zk hv, oB]
  by_cases h : v = 0
  ·simp [h, nS]
  ·have hb : (v != 0) = true := by simpa using h
   simp [h, hb, nS]
 ·unfold qA; simp
theorem Je (a b : List Int) (h : a.length < 4611686018427387904) : x3 a b = some (j5 a b) := by
 unfold x3
 obtain ⟨c, hc, hl⟩ := zcb a b h
 rw [z8x, hc]
 simp only [oB, zjA]
 unfold cI j5
 by_cases h1 : a.length < b.length
 ·simp [h1]
 ·by_cases h2 : b.length < a.length
  ·simp [h1, h2]
  ·simp [h1, h2, hl (by omega)]
def wE (n : Int) (w : List Int) : Int := if 256 < w.length then 3 else if w.any (fun c => decide (c < 0) || decide (n ≤ c)) then 1 else 0
theorem z6Z {n : Int} {w : List Int} : wE n w = 0 ↔ w.length ≤ 256 ∧ ∀ c ∈ w, 0 ≤ c ∧ c < n := by
 unfold wE
 by_cases h : 256 < w.length
 ·rw [if_pos h]
  exact ⟨fun q => by simp at q, fun q => by omega⟩
 ·rw [if_neg h]
  by_cases h2 : w.any (fun c => decide (c < 0) || decide (n ≤ c)) = true
  ·rw [if_pos h2]
   simp only [List.any_eq_true, Bool.or_eq_true, decide_eq_true_eq] at h2
   obtain ⟨c, h3, h4⟩ := h2
   refine ⟨fun q => by simp at q, fun q => ?_⟩
   have := q.2 c h3
   omega
  ·rw [if_neg h2]
   simp only [List.any_eq_true, Bool.or_eq_true, decide_eq_true_eq, not_exists, not_and, not_or] at h2
   refine ⟨fun _ => ⟨by omega, fun c hc => ?_⟩, fun _ => rfl⟩
   have := h2 c hc
   omega
theorem z8j {ρ : Type} (p : Int → Bool) (g : Nat → Int → Option ρ) (hg : ∀ i x, (g i x).isSome = p x) : ∀ (w : List Int) (k : Nat), (yK g w k).isSome = w.any p
 | [], k => rfl
 | x :: w, k => by
  simp only [yK, List.any_cons]
  have := hg k x
  cases hx : g k x with
  | some r => rw [hx] at this; simp at this; simp [← this]
  | none => rw [hx] at this; simp at this; rw [this, Bool.false_or]; exact z8j p g hg w (k + 1)
theorem z71 (n : Int) (w : List Int) : ke w n = some (if 16 < n then 3 else if 256 < w.length then 3 else if n < 1 then 1 else wE n w) := by
 unfold ke
 by_cases h0 : 16 < n
 ·simp [h0]
 by_cases h : 256 < w.length
 ·have h' : (256 : Int) < (w.length : Int) := by omega
  simp [h0, h, h']
 by_cases h1 : n < 1
 ·have h' : ¬ (256 : Int) < (w.length : Int) := by omega
  simp [h0, h, h', h1]
 ·have hd : decide (((w.length : Nat) : Int) > 256) = false := by simp; omega
  have hd0 : decide (n > 16) = false := by simp; omega
  have hd1 : decide (n < 1) = false := by simp; omega
  simp only [hd, hd0, hd1, cond_false, if_neg h, if_neg h0, if_neg h1]
  unfold xk w7 wE
  have hl := xI w (by omega) (step := fun s => yd w n s) (fun i c => if c < 0 ∨ n ≤ c then some (i : Int) else none) (by
   intro i c hc
   have hi : i < w.length := (List.getElem?_eq_some_iff.1 hc).1
   unfold yd Zy
   have hq : decide ((i : Int) < (w.length : Int)) = true := by simpa using hi
   simp only [hq, cond_true, zk hc, oB]
   by_cases h1 : c < 0
   ·simp [h1, nS]
   ·by_cases h2 : n ≤ c
    ·simp [h1, h2, nS]
    ·simp [h1, h2, nS]) (by unfold yd; simp)
  rw [bdT hl, if_neg h]
  have q := z8j (fun c => decide (c < 0) || decide (n ≤ c)) (fun i c => if c < 0 ∨ n ≤ c then some (i : Int) else none) (fun i c => by by_cases h : c < 0 ∨ n ≤ c <;> simp [h] <;> simpa using h) w 0
  cases hf : yK (fun i c => if c < 0 ∨ n ≤ c then some (i : Int) else none) w 0 with
  | none => rw [hf] at q; rw [← q]; rfl
  | some r =>
   rw [hf] at q
   obtain ⟨i, x, h1, h2⟩ := ky hf
   rw [← q]
   split at h2
   ·cases h2
    simp [oS]
   ·cases h2
def eS (e : Int) : Option Int := if e = 0 then none else some e
def loE (n : Int) (l : List (List Int)) : Int := if 16 < n then 3 else if 4096 < l.length then 3 else if n < 1 then 1 else (yK (fun _ w => eS (wE n w)) l 0).getD 0
theorem z60 {n : Int} : ∀ {l : List (List Int)} {k : Nat}, (yK (fun _ w => eS (wE n w)) l k).getD 0 = 0 ↔ ∀ w ∈ l, wE n w = 0
 | [], _ => by simp [yK]
 | w :: l, k => by
  by_cases h : wE n w = 0
  ·have : eS (wE n w) = none := by simp [eS, h]
   simp only [yK, this]
   rw [z60]
   simp [h]
  ·have : eS (wE n w) = some (wE n w) := by simp [eS, h]
   simp [yK, this, h]
theorem Kg {n : Int} {l : List (List Int)} : loE n l = 0 ↔ (1 ≤ n ∧ n ≤ 16) ∧ l.length ≤ 4096 ∧ ∀ w ∈ l, w.length ≤ 256 ∧ ∀ c ∈ w, 0 ≤ c ∧ c < n := by
 unfold loE
 by_cases h0 : 16 < n
 ·rw [if_pos h0]; exact ⟨fun q => by simp at q, fun q => by omega⟩
 by_cases h1 : 4096 < l.length
 ·rw [if_neg h0, if_pos h1]; exact ⟨fun q => by simp at q, fun q => by omega⟩
 by_cases h2 : n < 1
 ·rw [if_neg h0, if_neg h1, if_pos h2]; exact ⟨fun q => by simp at q, fun q => by omega⟩
 rw [if_neg h0, if_neg h1, if_neg h2, z60]
 constructor
 ·intro q; exact ⟨by omega, by omega, fun w hw => z6Z.1 (q w hw)⟩
 ·intro q w hw; exact z6Z.2 (q.2.2 w hw)
theorem z5M (l : List (List Int)) (n : Int) : ki l n = some (loE n l) := by
 unfold ki loE
 by_cases h0 : 16 < n
 ·simp [h0]
 by_cases h1 : 4096 < l.length
 ·have h' : (4096 : Int) < (l.length : Int) := by omega
  simp [h0, h1, h']
 by_cases h2 : n < 1
 ·have h' : ¬ (4096 : Int) < (l.length : Int) := by omega
  simp [h0, h1, h2, h']
 have d0 : decide (n > 16) = false := by simp; omega
 have d1 : decide (((l.length : Nat) : Int) > 4096) = false := by simp; omega
 have d2 : decide (n < 1) = false := by simp; omega
 simp only [d0, d1, d2, cond_false, if_neg h0, if_neg h1, if_neg h2]
 rw [bdT (xI l (by omega) (step := fun s => ur l n s) (fun _ w => eS (wE n w)) ?_ ?_)]
 ·cases yK (fun _ w => eS (wE n w)) l 0 <;> rfl
 ·intro i w hw
  have hi : i < l.length := (List.getElem?_eq_some_iff.1 hw).1
  have hq : decide ((i : Int) < (l.length : Int)) = true := by simpa using hi
  have he : ke w n = some (wE n w) := by
   rw [z71, if_neg h0, if_neg h2]
   by_cases h : 256 < w.length
   ·rw [if_pos h]; unfold wE; rw [if_pos h]
   ·rw [if_neg h]
  unfold ur
  simp only [hq, cond_true, zk hw, oB, he]
  by_cases hz : wE n w = 0
  ·simp [hz, eS, nS]
  ·have hb : (wE n w != 0) = true := by simpa using hz
   simp [hz, hb, eS, nS]
 ·unfold ur; simp
theorem za8 (l : List (List Int)) (hl : l.length < 4611686018427387904) {step : Int × Int → Option (LR (Int × Int) Int)}
  (h : ∀ (n : Int) (i : Nat) (x : List Int), l[i]? = some x → step (n, (i : Int)) = some (.next (w64 (n + ((x.length : Nat) : Int)), w64 ((i : Int) + 1)))) (h2 : ∀ n, step (n, (l.length : Int)) = some (.done n)) :
  loop step (0, 0) = some (l.foldl (fun n x => w64 (n + ((x.length : Nat) : Int))) 0) := by
 have gen : ∀ (m k : Nat) (n : Int), k ≤ l.length → l.length - k < m → Wt step m (n, (k : Int)) = some ((l.drop k).foldl (fun n x => w64 (n + ((x.length : Nat) : Int))) n) := by
  intro m
  induction m with
  | zero => intro k n _ h; omega
  | succ m ih =>
   intro k n hk hn
   rw [qr]
   rcases Nat.lt_or_ge k l.length with hlt | hge
   ·have hx : l[k]? = some l[k] := List.getElem?_eq_getElem hlt
    rw [h n k _ hx, List.drop_eq_getElem_cons hlt]
    simp only [List.foldl_cons]
    rw [y7 (x := (k : Int) + 1) (by omega) (by omega)]
    exact ih (k + 1) _ hlt (by omega)
   ·have : k = l.length := by omega
    subst this
    rw [h2, List.drop_length]
    rfl
 exact gen Xq 0 0 (Nat.zero_le _) (by show l.length - 0 < 18446744073709551616; omega)
def stW (l : List (List Int)) : Int := l.foldl (fun n x => w64 (n + ((x.length : Nat) : Int))) 0
theorem z26 (l : List (List Int)) (hl : l.length < 4611686018427387904) : qX l = some (stW l) := by
 unfold qX
 rw [bdT (za8 l hl (step := fun s => up l s.1 s.2) ?_ ?_)]
 ·rfl
 ·intro n i x hx
  have hi : i < l.length := (List.getElem?_eq_some_iff.1 hx).1
  have hq : decide ((i : Int) < (l.length : Int)) = true := by simpa using hi
  unfold up
  simp only [hq, cond_true, zk hx, oB]
 ·intro n; unfold up; simp
def uR (l : List (List Int)) : Nat := (l.map List.length).sum
theorem z7c {l : List (List Int)} (h : uR l < 4611686018427387904) : stW l = (uR l : Int) := by
 have gen : ∀ (l : List (List Int)) (n : Nat), n + uR l < 4611686018427387904 → l.foldl (fun n x => w64 (n + ((x.length : Nat) : Int))) (n : Int) = ((n + uR l : Nat) : Int) := by
  intro l
  induction l with
  | nil => intro n _; simp [uR]
  | cons x l ih =>
   intro n hn
   have hs : uR (x :: l) = x.length + uR l := by simp [uR]
   rw [hs] at hn ⊢
   rw [List.foldl_cons, y7 (by omega) (by omega), ← Int.natCast_add, ih (n + x.length) (by omega)]
   congr 1; omega
 have := gen l 0 (by omega)
 simpa [stW] using this
theorem z4A {l : List (List Int)} {m : Nat} (h : ∀ w ∈ l, w.length ≤ m) : uR l ≤ l.length * m := by
 induction l with
 | nil => simp [uR]
 | cons x l ih =>
  have hs : uR (x :: l) = x.length + uR l := by simp [uR]
  have h1 := h x (by simp)
  have h2 := ih fun w hw => h w (by simp [hw])
  rw [hs, List.length_cons, Nat.add_mul]
  omega
theorem z5k : ∀ {l : List (List Int)}, SW l ↔ ∀ i x y, l[i]? = some x → l[i + 1]? = some y → j5 x y < 0
 | [] => by simp [SW]
 | [x] => ⟨fun _ i a b _ h2 => by simp at h2, fun _ => by simp [SW]⟩
 | x :: y :: l => by
  constructor
  ·intro h i a b h1 h2
   cases i with
   | zero =>
    simp at h1 h2
    subst h1; subst h2
    exact h.head y (by simp)
   | succ i => exact z5k.1 h.tail i a b (by simpa using h1) (by simpa using h2)
  ·intro h
   have ht : SW (y :: l) := z5k.2 fun i a b h1 h2 => h (i + 1) a b (by simpa using h1) (by simpa using h2)
   have h0 := h 0 x y rfl rfl
   refine List.pairwise_cons.2 ⟨fun z hz => ?_, ht⟩
   rcases List.mem_cons.1 hz with rfl | hz
   ·exact h0
   ·exact qB h0 (ht.head z hz)
theorem z6A {α ρ : Type} (l : List α) (hl : l.length < 4611686018427387904) {step : Int → Option (LR Int (Unit ⊕ ρ))} (f : Nat → α → Option ρ)
  (h : ∀ (i : Nat) (x : α), 1 ≤ i → l[i]? = some x → step (i : Int) = some (nS i (f i x))) (h2 : ∀ k : Nat, l.length ≤ k → step (k : Int) = some (.done (.inl ()))) :
  loop step 1 = some (oS (yK f (l.drop 1) 1)) := by
 have gen : ∀ (n : Nat) (k : Nat), 1 ≤ k → l.length - k < n → Wt step n (k : Int) = some (oS (yK f (l.drop k) k)) := by
  intro n
  induction n with
  | zero => intro k _ h; omega
  | succ n ih =>
   intro k hk hn
   rw [qr]
   rcases Nat.lt_or_ge k l.length with hlt | hge
   ·have hx : l[k]? = some l[k] := List.getElem?_eq_getElem hlt
    rw [h k _ hk hx, List.drop_eq_getElem_cons hlt]
    simp only [yK]
    cases hf : f k l[k] with
    | some r => rfl
    | none =>
     simp only [nS]
     rw [y7 (by omega) (by omega)]
     exact ih (k + 1) (by omega) (by omega)
   ·rw [h2 k hge, List.drop_eq_nil_of_le hge]
    rfl
 exact gen Xq 1 (Nat.le_refl _) (by show l.length - 1 < 18446744073709551616; omega)
instance (l : List (List Int)) : Decidable (SW l) := by unfold SW; infer_instance
theorem zaq {ρ : Type} (l : List (List Int)) (r : ρ) : yK (fun i x => match l[i - 1]? with | some y => if 0 ≤ j5 y x then some r else none | none => none) (l.drop 1) 1 = if SW l then none else some r := by
 by_cases hs : SW l
 ·rw [if_pos hs]
  refine qd fun i x hx => ?_
  rw [List.getElem?_drop] at hx
  have hi : 1 + i < l.length := (List.getElem?_eq_some_iff.1 hx).1
  have hy : l[1 + i - 1]? = some l[i] := by rw [show 1 + i - 1 = i by omega]; exact List.getElem?_eq_getElem (by omega)
  rw [hy]
  have := z5k.1 hs i l[i] x (List.getElem?_eq_getElem (by omega)) (by rw [Nat.add_comm]; exact hx)
  simp only
  rw [if_neg (by omega)]
 ·rw [if_neg hs]
  cases hf : yK (fun i x => match l[i - 1]? with | some y => if 0 ≤ j5 y x then some r else none | none => none) (l.drop 1) 1 with
  | some r' =>
   obtain ⟨i, x, h1, h2⟩ := ky hf
   split at h2
   ·split at h2
    ·exact h2.symm
    ·cases h2
   ·cases h2
  | none =>
   exfalso
   refine hs (z5k.2 fun i x y hx hy => ?_)
   have := XZ hf i y (by rw [List.getElem?_drop, Nat.add_comm]; exact hy)
   rw [show 1 + i - 1 = i by omega, hx] at this
   simp only at this
   split at this
   ·cases this
   ·omega
theorem zaQ (l : List (List Int)) (h : l.length ≤ 4096) (hw : ∀ w ∈ l, w.length < 4611686018427387904) : Y7 l = some (decide (SW l)) := by
 unfold Y7
 rw [bdT (z6A l (by omega) (step := fun s => ut l s) (fun i x => match l[i - 1]? with | some y => if 0 ≤ j5 y x then some false else none | none => none) ?_ ?_), zaq]
 ·by_cases hs : SW l
  ·simp [hs, oS, kI]
  ·simp [hs, oS]
 ·intro i x hi hx
  have hil : i < l.length := (List.getElem?_eq_some_iff.1 hx).1
  have hy : l[i - 1]? = some l[i - 1] := List.getElem?_eq_getElem (by omega)
  have hq : decide ((i : Int) < (l.length : Int)) = true := by simpa using hil
  unfold ut
  rw [y7 (x := (i : Int) - 1) (by omega) (by omega), show ((i : Int) - 1) = ((i - 1 : Nat) : Int) by omega]
  have hE := Je l[i - 1] x (hw _ (List.getElem_mem (by omega)))
  simp only [hq, cond_true, zk hx, zk hy, oB, hy, hE]
  by_cases hc : 0 ≤ j5 l[i - 1] x
  ·simp [hc, nS]
  ·simp [hc, nS]
 ·intro k hk; unfold ut; have : decide ((k : Int) < (l.length : Int)) = false := by simp; omega
  simp only [this, cond_false]
def chE (n : Int) (l : List (List Int)) : Int := if loE n l ≠ 0 then loE n l else if SW l then (if 65536 < uR l then 3 else 0) else 1
theorem z6d {n : Int} {l : List (List Int)} : chE n l = 0 ↔ loE n l = 0 ∧ SW l ∧ uR l ≤ 65536 := by
 unfold chE
 by_cases h : loE n l = 0
 ·rw [if_neg (by simp [h])]
  by_cases h2 : SW l
  ·rw [if_pos h2]
   by_cases h3 : 65536 < uR l
   ·rw [if_pos h3]; exact ⟨fun q => by simp at q, fun q => by omega⟩
   ·rw [if_neg h3]; exact ⟨fun _ => ⟨h, h2, by omega⟩, fun _ => rfl⟩
  ·rw [if_neg h2]; exact ⟨fun q => by simp at q, fun q => absurd q.2.1 h2⟩
 ·rw [if_pos h]; exact ⟨fun q => absurd q h, fun q => absurd q.1 h⟩
theorem z3M {n : Int} {l : List (List Int)} (h : loE n l = 0) : l.length ≤ 4096 ∧ (∀ w ∈ l, w.length ≤ 256) ∧ uR l ≤ 1048576 := by
 obtain ⟨_, h1, h2⟩ := Kg.1 h
 refine ⟨h1, fun w hw => (h2 w hw).1, ?_⟩
 have := z4A (m := 256) fun w hw => (h2 w hw).1
 omega
theorem Us (l : List (List Int)) (n : Int) : uW l n = some (chE n l) := by
 unfold uW chE
 rw [z5M]
 simp only [oB]
 by_cases h : loE n l = 0
 ·obtain ⟨h1, h2, h3⟩ := z3M h
  rw [zaQ l h1 fun w hw => by have := h2 w hw; omega, z26 l (by omega), z7c (by omega)]
  simp only [h, bne_self_eq_false, cond_false, oB, ne_eq, not_true, if_false]
  by_cases hs : SW l
  ·by_cases hq : 65536 < uR l
   ·have : (65536 : Int) < (uR l : Int) := by omega
    simp [hs, hq, this]
   ·have : ¬ (65536 : Int) < (uR l : Int) := by omega
    simp [hs, hq, this]
  ·simp [hs]
 ·have hb : (loE n l != 0) = true := by simpa using h
  simp [h, hb]
theorem VZ (w : List Int) : zV w = some w := by
 unfold zV
 rw [gdT (by omega)]
 simp
theorem z6c (l : List (List Int)) : yl l = some l := by
 unfold yl
 rw [gdT (by omega)]
 simp
theorem Kk (w : List Int) (h : w.length ≤ 4294967296) : zR w = some w := by
 unfold zR
 rw [gdT (by simpa using h)]
theorem z5x (a b : List Int) (h : a.length < 4611686018427387904) : uq a b = some (decide (a = b)) := by
 unfold uq
 rw [Je a b h]
 simp only [oB]
 by_cases e : a = b
 ·subst e; simp [UM]
 ·have : j5 a b ≠ 0 := fun q => e (z2F q)
  simp [e, this]
def QW (l : List (List Int)) : Prop := l.Pairwise fun a b => ¬ j5 b a < 0
theorem ZI {α : Type} {l : List α} {n : Nat} {x : α} : x ∈ l.take n ↔ ∃ i, i < n ∧ l[i]? = some x := by
 rw [List.mem_iff_getElem?]
 constructor
 ·rintro ⟨i, h⟩
  rw [List.getElem?_take] at h
  split at h
  ·exact ⟨i, by omega, h⟩
  ·cases h
 ·rintro ⟨i, h1, h2⟩
  exact ⟨i, by rw [List.getElem?_take, if_pos h1]; exact h2⟩
theorem z75 {l : List (List Int)} {x : List Int} (h : SW l) (hx : ∀ y ∈ l, j5 y x < 0) : SW (l ++ [x]) := by
 unfold SW
 rw [List.pairwise_append]
 exact ⟨h, by simp, fun a ha b hb => by simp at hb; subst hb; exact hx a ha⟩
section
variable {s : List (List Int)} (hq : QW s) (hl : s.length ≤ 4294967296) (hw : ∀ w ∈ s, w.length < 4611686018427387904)
include hq hl hw
omit hl hw in
theorem za2 {i j : Nat} {x y : List Int} (hi : s[i]? = some x) (hj : s[j]? = some y) (h : i ≤ j) : j5 x y < 0 ∨ x = y := by
 rcases Nat.lt_or_ge i j with h | h
 ·have := (List.pairwise_iff_getElem.1 hq) i j (List.getElem?_eq_some_iff.1 hi).1 (List.getElem?_eq_some_iff.1 hj).1 h
  rw [(List.getElem?_eq_some_iff.1 hi).2, (List.getElem?_eq_some_iff.1 hj).2] at this
  rcases z2E.1 this with q | q
  ·exact .inl q
  ·exact .inr q.symm
 ·have : i = j := by omega
  subst this
  rw [hi] at hj
  exact .inr (by simpa using hj)
theorem z4f {k : Nat} (h1 : 1 ≤ k) (hk : k < s.length) (hd : s[k - 1]? = s[k]?) (hs : SW (s.take k)) :
  Ret (Option.bind (loop (fun q => zZ (k : Int) q.1 q.2.1 q.2.2) (s, (k : Int), 1)) fun t => y5 t.1 t.2) fun r => r = .done (.inr (srt s)) := by
 rw [ym]
 refine Ret.mono (xm (fun q => ∃ kk k2 : Nat, q.2.1 = (kk : Int) ∧ q.2.2 = (k2 : Int) ∧ 1 ≤ k2 ∧ k + k2 ≤ s.length ∧ kk < k + k2 ∧ q.1.length = s.length ∧ (∀ i, kk ≤ i → q.1[i]? = s[i]?) ∧ SW (q.1.take kk) ∧ ∀ x, x ∈ q.1.take kk ↔ x ∈ s.take (k + k2)) (fun q => s.length - q.2.2.toNat) (R := fun t => ∃ kk : Nat, t.2 = (kk : Int) ∧ kk ≤ s.length ∧ t.1.length = s.length ∧ t.1.take kk = srt s) ?_ ?_ ?_) ?_
 ·refine ⟨k, 1, rfl, rfl, Nat.le_refl _, hk, by omega, rfl, fun _ _ => rfl, hs, fun x => ?_⟩
  rw [ZI, ZI]
  constructor
  ·rintro ⟨i, h2, h3⟩; exact ⟨i, by omega, h3⟩
  ·rintro ⟨i, h2, h3⟩
   rcases Nat.lt_or_ge i k with h | h
   ·exact ⟨i, h, h3⟩
   ·have : i = k := by omega
    subst this
    exact ⟨i - 1, by omega, by rw [hd]; exact h3⟩
 ·show s.length - _ < _
  omega
 ·rintro ⟨S, a, b⟩ ⟨kk, k2, rfl, rfl, g1, g2, g3, g4, g5, g6, g7⟩
  simp only at g4 g5 g6 g7
  show Ret (zZ (k : Int) S (kk : Int) (k2 : Int)) _
  unfold zZ
  rw [yx]
  refine ⟨fun hc => ?_, fun hc => ?_⟩
  ·have hlt : k2 < s.length - k := by rw [g4] at hc; simpa using hc
   have e1 : s[k + k2]? = some s[k + k2] := List.getElem?_eq_getElem (by omega)
   have e2 : s[k + k2 - 1]? = some s[k + k2 - 1] := List.getElem?_eq_getElem (by omega)
   have f1 : idx S ((k : Int) + (k2 : Int)) = some s[k + k2] := by
    rw [← Int.natCast_add, z0h, g5 _ (by omega), e1]
   have f2 : idx S ((k : Int) + w64 ((k2 : Int) - 1)) = some s[k + k2 - 1] := by
    rw [y7 (by omega) (by omega), show (k : Int) + ((k2 : Int) - 1) = ((k + k2 - 1 : Nat) : Int) by omega, z0h, g5 _ (by omega), e2]
   rw [gdT (by omega), f1]
   simp only [oB]
   rw [gdT (by rw [y7 (by omega) (by omega)]; omega), f2]
   simp only [oB]
   rw [z5x _ _ (hw _ (List.getElem_mem (by omega)))]
   simp only [oB]
   have hk2 : w64 ((k2 : Int) + 1) = ((k2 + 1 : Nat) : Int) := by rw [y7 (by omega) (by omega)]; omega
   by_cases he : s[k + k2] = s[k + k2 - 1]
   ·simp only [he, decide_true, Bool.not_true, cond_false]
    unfold y4
    rw [hk2, zn]
    refine ⟨⟨kk, k2 + 1, rfl, rfl, by omega, by omega, by omega, g4, g5, g6, fun x => ?_⟩, by simp only [Int.toNat_natCast]; omega⟩
    rw [g7, ZI, ZI]
    constructor
    ·rintro ⟨i, h2, h3⟩; exact ⟨i, by omega, h3⟩
    ·rintro ⟨i, h2, h3⟩
     rcases Nat.lt_or_ge i (k + k2) with h | h
     ·exact ⟨i, h, h3⟩
     ·have : i = k + k2 := by omega
      subst this
      exact ⟨k + k2 - 1, by omega, by rw [e2, ← he, ← e1]; exact h3⟩
   ·simp only [he, decide_false, Bool.not_false, cond_true]
    rw [gdT (by omega)]
    have e3 : idx S (kk : Int) = some s[kk] := by rw [z0h, g5 _ (Nat.le_refl _), List.getElem?_eq_getElem (by omega)]
    rw [e3]
    simp only [oB]
    unfold y4
    rw [hk2, y7 (x := (kk : Int) + 1) (by omega) (by omega), zn]
    have hset : (S.set ((kk : Int).toNat) s[k + k2]).take (kk + 1) = S.take kk ++ [s[k + k2]] := by
     rw [Int.toNat_natCast, List.take_add_one, List.take_set_of_le (Nat.le_refl _), List.getElem?_set_self (by omega)]
     rfl
    refine ⟨⟨kk + 1, k2 + 1, rfl, rfl, by omega, by omega, by omega, by simp [g4], fun i hi => ?_, ?_, fun x => ?_⟩, by simp only [Int.toNat_natCast]; omega⟩
    ·simp only
     rw [List.getElem?_set_ne (by omega), g5 _ (by omega)]
    ·simp only
     rw [hset]
     refine z75 g6 fun y hy => ?_
     obtain ⟨i, h2, h3⟩ := ZI.1 ((g7 y).1 hy)
     have hlast : j5 s[k + k2 - 1] s[k + k2] < 0 := by
      rcases za2 hq e2 e1 (by omega) with q | q
      ·exact q
      ·exact absurd q.symm he
     rcases za2 hq h3 e2 (by omega) with q | q
     ·exact qB q hlast
     ·rw [q]; exact hlast
    ·simp only
     rw [hset, List.mem_append, g7, ZI, ZI]
     constructor
     ·rintro (⟨i, h2, h3⟩ | h)
      ·exact ⟨i, by omega, h3⟩
      ·simp at h; subst h; exact ⟨k + k2, by omega, e1⟩
     ·rintro ⟨i, h2, h3⟩
      rcases Nat.lt_or_ge i (k + k2) with h | h
      ·exact .inl ⟨i, h, h3⟩
      ·have : i = k + k2 := by omega
       subst this
       rw [e1] at h3
       exact .inr (by simpa using h3.symm)
  ·have hge : s.length - k ≤ k2 := by rw [g4] at hc; simpa using hc
   have hkk : k + k2 = s.length := by omega
   rw [zn]
   refine ⟨kk, rfl, by omega, g4, z7e g6 fun x => ?_⟩
   rw [g7, hkk, List.take_length]
 ·rintro ⟨S, a⟩ ⟨kk, rfl, h1, h2, h3⟩
  simp only at h2 h3
  show Ret (y5 S (kk : Int)) _
  unfold y5
  have hlen : (S.take (kk : Int).toNat ++ List.replicate (S.length - (kk : Int).toNat) ([] : List Int)).length = S.length := by simp [List.length_take]; omega
  rw [gdT (by omega), gdT (by omega), gdT (by rw [hlen]; omega), zn]
  simp only [Int.toNat_natCast]
  rw [List.take_left' (by rw [List.length_take]; omega), h3]
theorem z6H : yD s () = some (srt s) := by
 unfold yD
 by_cases h2 : s.length < 2
 ·have hd : decide (((s.length : Nat) : Int) < 2) = true := by simp; omega
  simp only [hd, cond_true]
  rw [KF]
  match s, h2 with
  | [], _ => exact SW.nil
  | [x], _ => simp [SW]
 ·have hd : decide (((s.length : Nat) : Int) < 2) = false := by simp; omega
  simp only [hd, cond_false]
  apply Ret.eq
  rw [ym]
  refine Ret.mono (xm (fun q : Int => ∃ j : Nat, q = (j : Int) ∧ 1 ≤ j ∧ j ≤ s.length ∧ SW (s.take j)) (fun q => s.length - q.toNat) (R := fun t : Unit ⊕ List (List Int) => match t with | .inl _ => srt s = s | .inr p => p = srt s) ?_ ?_ ?_) ?_
  ·refine ⟨1, rfl, Nat.le_refl _, by omega, ?_⟩
   match s, h2 with
   | [], h2 => simp at h2
   | x :: l, _ => simp [SW]
  ·show s.length - _ < _
   omega
  ·rintro _ ⟨j, rfl, g1, g2, g3⟩
   show Ret (yj s (j : Int)) _
   unfold yj
   rw [yx]
   refine ⟨fun hc => ?_, fun hc => ?_⟩
   ·have hj : j < s.length := by simpa using hc
    have e1 : s[j]? = some s[j] := List.getElem?_eq_getElem hj
    have e2 : s[j - 1]? = some s[j - 1] := List.getElem?_eq_getElem (by omega)
    rw [y7 (x := (j : Int) - 1) (by omega) (by omega), show (j : Int) - 1 = ((j - 1 : Nat) : Int) by omega, zk e1, zk e2]
    simp only [oB]
    rw [z5x _ _ (hw _ (List.getElem_mem hj))]
    simp only [oB]
    by_cases he : s[j] = s[j - 1]
    ·simp only [he, decide_true, cond_true]
     rw [gdT (by omega)]
     refine (z4f hq hl hw g1 hj (by rw [e1, e2, he]) g3).mono ?_
     rintro _ rfl
     rfl
    ·simp only [he, decide_false, cond_false]
     unfold yV
     rw [y7 (by omega) (by omega), zn]
     refine ⟨⟨j + 1, rfl, by omega, hj, ?_⟩, by simp only [Int.toNat_natCast]; omega⟩
     have : s.take (j + 1) = s.take j ++ [s[j]] := by rw [List.take_add_one, e1]; rfl
     rw [this]
     refine z75 g3 fun y hy => ?_
     obtain ⟨i, h3, h4⟩ := ZI.1 hy
     have hlast : j5 s[j - 1] s[j] < 0 := by
      rcases za2 hq e2 e1 (by omega) with q | q
      ·exact q
      ·exact absurd q.symm he
     rcases za2 hq h4 e2 (by omega) with q | q
     ·exact qB q hlast
     ·rw [q]; exact hlast
   ·have hj : j = s.length := by
     have : ¬ j < s.length := by simpa using hc
     omega
    rw [zn]
    show srt s = s
    rw [hj, List.take_length] at g3
    exact KF g3
  ·rintro (u | p) h
   ·show Ret (some s) _
    rw [zn]
    exact h.symm
   ·show Ret (some p) _
    rw [zn]
    exact h
end
theorem z3o (l : List (List Int)) : SOk j5 l :=
 ⟨fun x _ => Kj x, fun x _ y _ z _ h1 h2 => qB h1 h2, fun x _ y _ h1 h2 => by
  rcases z2E.1 h1 with q | q
  ·exact absurd q h2
  ·exact q⟩
theorem z9H {l m : List (List Int)} (h : l.Perm m) : srt l = srt m := KG fun x => h.mem_iff
theorem z0c {c d : List Int → List Int → Int} : ∀ {l : List (List Int)}, (∀ x ∈ l, ∀ y ∈ l, c x y = d x y) → VW c l = VW d l
 | [], _ => rfl
 | x :: l, h => by
  have ih := z0c (c := c) (d := d) (l := l) fun a ha b hb => h a (by simp [ha]) b (by simp [hb])
  show z6R c x (VW c l) = z6R d x (VW d l)
  rw [ih]
  have gen : ∀ m : List (List Int), (∀ y ∈ m, y ∈ l) → z6R c x m = z6R d x m := by
   intro m
   induction m with
   | nil => intro _; rfl
   | cons y m ih2 =>
    intro hm
    simp only [z6R]
    rw [h y (by simp [hm y (by simp)]) x (by simp), ih2 fun z hz => hm z (by simp [hz])]
  exact gen _ fun y hy => (kw d l).mem_iff.1 hy
def soR (l : List (List Int)) : List (List Int) × Int := if 4096 < (srt l).length ∨ 65536 < uR (srt l) then ([], 3) else (srt l, 0)
theorem z29 {l : List (List Int)} (hl : l.length ≤ 100000) (hw : ∀ w ∈ l, w.length ≤ 4294967296) : xx l = some (soR l) := by
 unfold xx v8
 rw [gdT (by simp; omega)]
 simp only [oB]
 have hc : ∀ x ∈ l, ∀ y, x3 x y = some (j5 x y) := fun x hx y => Je x y (by have := hw x hx; omega)
 have hso : z7g (fun x y => x3 x y) l = some (VW j5 l) := by
  unfold z7g
  rw [gdT ⟨by omega, fun x hx y hy => by simp only [hc x hx y]; rfl⟩]
  have hcc : ∀ x ∈ l, ∀ y ∈ l, (x3 x y).getD 0 = j5 x y := fun x hx y _ => by rw [hc x hx y]; rfl
  rw [gdT, z0c (c := fun x y => (x3 x y).getD 0) (d := j5) hcc]
  have q := z3o l
  refine ⟨fun x hx => by show ¬ (x3 x x).getD 0 < 0; rw [hcc x hx x hx]; exact q.1 x hx, fun x hx y hy z hz h1 h2 => ?_, fun x hx y hy h1 h2 => ?_⟩
  ·simp only [hcc x hx y hy, hcc y hy z hz, hcc x hx z hz] at h1 h2 ⊢
   exact q.2.1 x hx y hy z hz h1 h2
  ·simp only [hcc x hx y hy, hcc y hy x hx] at h1 h2
   exact q.2.2 x hx y hy h1 h2
 rw [hso]
 simp only [oB]
 have hp := kw j5 l
 have hq : QW (VW j5 l) := V1 (z3o l) (fun y hy => hy)
 rw [z6H hq (by rw [hp.length_eq]; omega) (fun w h => by have := hw w (hp.mem_iff.1 h); omega)]
 simp only [oB]
 unfold xl
 simp only [oB]
 rw [z9H hp]
 have hlen : (srt l).length ≤ 100000 := Nat.le_trans (YQ l) hl
 have hws : ∀ w ∈ srt l, w.length ≤ 4294967296 := fun w h => hw w (wI.1 h)
 unfold soR
 generalize srt l = r at hlen hws
 have hsy : uR r ≤ 100000 * 4294967296 := Nat.le_trans (z4A hws) (Nat.mul_le_mul_right _ hlen)
 by_cases h1 : 4096 < r.length
 ·have : (4096 : Int) < (r.length : Int) := by omega
  simp [h1, this]
 ·have d1 : decide (((r.length : Nat) : Int) > 4096) = false := by simp; omega
  simp only [d1, cond_false]
  rw [z26 r (by omega), z7c (by omega)]
  simp only [oB]
  by_cases h2 : 65536 < uR r
  ·have : (65536 : Int) < (uR r : Int) := by omega
   simp [h2, this]
  ·have d2 : decide (((uR r : Nat) : Int) > 65536) = false := by simp; omega
   simp only [d2, cond_false]
   rw [if_neg (by omega)]
   have hloop := YL (step := fun s => xP r s.1 s.2) (fun i => ((r.take i).map (fun q => (q, true)) ++ (r.drop i).map (fun q => (q, false)), (i : Int))) r.length (t := r.map fun q => (q, true)) (by omega) (by
    intro i hi
    have hA : ((r.take i).map (fun q : List Int => (q, true))).length = i := by rw [List.length_map, List.length_take]; omega
    have hd : r.drop i = r[i] :: r.drop (i + 1) := List.drop_eq_getElem_cons hi
    have hx : ((r.take i).map (fun q => (q, true)) ++ (r.drop i).map (fun q => (q, false)))[i]? = some (r[i], false) := by
     rw [List.getElem?_append_right (by omega), hA, hd]; simp
    show xP r _ (i : Int) = _
    unfold xP
    have hq : decide ((i : Int) < ((r.length - (0 : Int).toNat : Nat) : Int)) = true := by simpa using hi
    simp only [hq, cond_true]
    rw [gdT (by omega), Int.zero_add, zk hx]
    simp only [oB]
    rw [Kk _ (hws _ (List.getElem_mem hi))]
    simp only [oB, VZ, Int.toNat_natCast]
    rw [y7 (by omega) (by omega)]
    congr 3
    rw [List.set_append_right _ _ (by omega), hA, hd, List.take_add_one, List.getElem?_eq_getElem hi]
    simp only [Nat.sub_self, List.map_cons, List.set_cons_zero, List.map_append, Option.toList_some, List.map_nil, List.append_assoc, List.cons_append, List.nil_append]) (by
    show xP r _ (r.length : Int) = _
    unfold xP
    simp)
   have h0 : ((r.take 0).map (fun q => (q, true)) ++ (r.drop 0).map (fun q => (q, false)), ((0 : Nat) : Int)) = (r.map (fun q => (q, false)), (0 : Int)) := by simp
   rw [h0] at hloop
   rw [hloop]
   simp only [oB]
   unfold jr
   rw [gdT (by intro q hq; obtain ⟨_, _, rfl⟩ := List.mem_map.1 hq; rfl)]
   simp [List.map_map, Function.comp_def]
def Ki (a : Nat) (w : List Int) : List (List Int) := (List.range a).map fun s : Nat => w ++ [(s : Int)]
def exW (a : Nat) : Nat → List (List Int)
 | 0 => [[]]
 | k + 1 => (exW a k).flatMap (Ki a)
theorem zat (a : Nat) (w : List Int) : (Ki a w).length = a := by simp [Ki]
theorem z61 (a : Nat) (l : List (List Int)) : (l.flatMap (Ki a)).length = l.length * a := by
 induction l with
 | nil => simp
 | cons w l ih => rw [List.flatMap_cons, List.length_append, ih, zat, List.length_cons, Nat.succ_mul]; omega
theorem VY (a : Nat) : ∀ k, (exW a k).length = a ^ k
 | 0 => rfl
 | k + 1 => by rw [exW, z61, VY, Nat.pow_succ]
theorem YM (a : Nat) : ∀ k, ∀ w ∈ exW a k, w.length = k
 | 0, w, h => by simp [exW] at h; subst h; rfl
 | k + 1, w, h => by
  rw [exW, List.mem_flatMap] at h
  obtain ⟨v, h1, h2⟩ := h
  simp only [Ki, List.mem_map] at h2
  obtain ⟨s, _, rfl⟩ := h2
  simp [YM a k v h1]
theorem zeG {a : Nat} (ha : a ≤ 16) {w : List Int} (hw : w.length ≤ 1000) {nx : List (List Int)} (hn : nx.length ≤ 10000000) :
  loop (fun s => wY (a : Int) w s.1 s.2) (nx, 0) = some (nx ++ Ki a w) := by
 have h := YL (step := fun s => wY (a : Int) w s.1 s.2) (fun i => (nx ++ (List.range i).map (fun s : Nat => w ++ [(s : Int)]), (i : Int))) a (t := nx ++ Ki a w) (by omega) (by
  intro i hi
  show wY (a : Int) w _ (i : Int) = _
  unfold wY
  have hq : decide ((i : Int) < (a : Int)) = true := by simpa using hi
  simp only [hq, cond_true, VZ, oB]
  rw [gdT (by simp; omega), gdT (by simp; omega), y7 (by omega) (by omega), List.range_succ, List.map_append, List.append_assoc]
  rfl) (by
  show wY (a : Int) w _ (a : Int) = _
  unfold wY
  simp [Ki])
 have h0 : ((nx ++ (List.range 0).map (fun s : Nat => w ++ [(s : Int)])), ((0 : Nat) : Int)) = (nx, (0 : Int)) := by simp
 rw [h0] at h
 exact h
theorem zep {a : Nat} (ha : a ≤ 16) {l : List (List Int)} (hw : ∀ w ∈ l, w.length ≤ 1000) (hl : l.length ≤ 100000) :
  loop (fun s => wZ (a : Int) l s.1 s.2) (([] : List (List Int)), 0) = some (l.flatMap (Ki a)) := by
 have h := YL (step := fun s => wZ (a : Int) l s.1 s.2) (fun i => ((l.take i).flatMap (Ki a), (i : Int))) l.length (t := l.flatMap (Ki a)) (by omega) (by
  intro i hi
  show wZ (a : Int) l _ (i : Int) = _
  unfold wZ
  have hq : decide ((i : Int) < (l.length : Int)) = true := by simpa using hi
  have hx : l[i]? = some l[i] := List.getElem?_eq_getElem hi
  have hlen : ((l.take i).flatMap (Ki a)).length ≤ 10000000 := by
   rw [z61, List.length_take]
   have : min i l.length * a ≤ 100000 * 16 := Nat.mul_le_mul (by omega) ha
   omega
  simp only [hq, cond_true, zk hx, oB]
  rw [bdT (zeG ha (hw _ (List.getElem_mem hi)) hlen)]
  unfold YG
  rw [y7 (by omega) (by omega), List.take_add_one, hx, List.flatMap_append]
  simp) (by
  show wZ (a : Int) l _ (l.length : Int) = _
  unfold wZ
  simp)
 simpa using h
def ZH (a f : Nat) : Nat → List (List Int)
 | 0 => []
 | k + 1 => if f ≤ k then ZH a f k ++ exW a k else ZH a f k
def syW (a f : Nat) : Nat → Nat
 | 0 => 0
 | k + 1 => if f ≤ k then syW a f k + k * a ^ k else syW a f k
def Yw (a f t k : Nat) : Prop := 4096 < (ZH a f (k + 1)).length ∨ 65536 < syW a f (k + 1) ∨ k < t ∧ 4096 < a ^ k * a
instance (a f t k : Nat) : Decidable (Yw a f t k) := by unfold Yw; infer_instance
theorem z8W {a f t k : Nat} (ha : 1 ≤ a ∧ a ≤ 16) (hf : f ≤ 256) (ht : t ≤ 256) (hk : k ≤ t) (ho : (ZH a f k).length ≤ 4096) (hs : syW a f k ≤ 65536) (hl : a ^ k ≤ 4096) :
  vX (a : Int) (f : Int) (t : Int) (ZH a f k) (exW a k) (syW a f k : Int) (k : Int) = if Yw a f t k then some (.done ([], 3)) else if k = t then Option.bind (xx (ZH a f (k + 1))) (fun r => some (.done (r.1, r.2))) else some (.next (ZH a f (k + 1), exW a (k + 1), (syW a f (k + 1) : Int), ((k + 1 : Nat) : Int))) := by
 have hmul : k * a ^ k ≤ 256 * 4096 := Nat.mul_le_mul (by omega) hl
 have hma : a ^ k * a ≤ 4096 * 16 := Nat.mul_le_mul hl ha.2
 have e : vX (a : Int) (f : Int) (t : Int) (ZH a f k) (exW a k) (syW a f k : Int) (k : Int) = je (a : Int) (t : Int) (exW a k) (k : Int) (ZH a f (k + 1)) (syW a f (k + 1) : Int) := by
  unfold vX
  by_cases h : f ≤ k
  ·have hd : decide ((k : Int) ≥ (f : Int)) = true := by simpa using h
   simp only [hd, cond_true]
   have hm : w64 ((k : Int) * ((exW a k).length : Int)) = ((k * a ^ k : Nat) : Int) := by
    rw [VY, ← Int.natCast_mul, y7 (by omega) (by omega)]
   rw [gdT (by rw [VY]; omega), hm, y7 (by omega) (by omega)]
   simp only [ZH, syW, if_pos h]
   congr 1
  ·have hd : decide ((k : Int) ≥ (f : Int)) = false := by simp; omega
   simp only [hd, cond_false, ZH, syW, if_neg h]
 rw [e]
 unfold je
 by_cases h1 : 4096 < (ZH a f (k + 1)).length
 ·have : decide (((ZH a f (k + 1)).length : Int) > 4096) = true := by simp only [decide_eq_true_eq]; omega
  simp only [this, cond_true]
  rw [if_pos (show Yw a f t k from .inl h1)]
 have d1 : decide (((ZH a f (k + 1)).length : Int) > 4096) = false := by simp; omega
 simp only [d1, cond_false]
 by_cases h2 : 65536 < syW a f (k + 1)
 ·have : decide ((syW a f (k + 1) : Int) > 65536) = true := by simp only [decide_eq_true_eq]; omega
  simp only [this, cond_true]
  rw [if_pos (show Yw a f t k from .inr (.inl h2))]
 have d2 : decide ((syW a f (k + 1) : Int) > 65536) = false := by simp; omega
 simp only [d2, cond_false]
 have hm : w64 (((exW a k).length : Int) * (a : Int)) = ((a ^ k * a : Nat) : Int) := by
  rw [VY, ← Int.natCast_mul, y7 (by omega) (by omega)]
 rw [hm]
 have J4 : ∀ (hns : ¬ (k < t ∧ 4096 < a ^ k * a)) (b : Bool), jd (a : Int) (t : Int) (exW a k) (k : Int) (ZH a f (k + 1)) (syW a f (k + 1) : Int) b = if k = t then Option.bind (xx (ZH a f (k + 1))) (fun r => some (.done (r.1, r.2))) else some (.next (ZH a f (k + 1), exW a (k + 1), (syW a f (k + 1) : Int), ((k + 1 : Nat) : Int))) := by
  intro hns b
  unfold jd
  by_cases hkt : k = t
  ·subst hkt
   simp
  ·have hd : ((k : Int) == (t : Int)) = false := by simp; omega
   simp only [hd, cond_false, if_neg hkt]
   rw [bdT (zep ha.2 (fun w hw => by rw [YM a k w hw]; omega) (by rw [VY]; omega))]
   unfold YH YI
   rw [y7 (by omega) (by omega)]
   rfl
 by_cases hkt : k < t
 ·have hd : decide ((k : Int) < (t : Int)) = true := by simpa using hkt
  simp only [hd, cond_true]
  by_cases h3 : 4096 < a ^ k * a
  ·have : decide (((a ^ k * a : Nat) : Int) > 4096) = true := by simp only [decide_eq_true_eq]; omega
   simp only [this, cond_true]
   rw [if_pos (show Yw a f t k from .inr (.inr ⟨hkt, h3⟩))]
  ·have : decide (((a ^ k * a : Nat) : Int) > 4096) = false := by simp only [decide_eq_false_iff_not]; omega
   simp only [this, cond_false]
   rw [J4 (by omega), if_neg (show ¬ Yw a f t k by unfold Yw; omega)]
 ·have hd : decide ((k : Int) < (t : Int)) = false := by simp; omega
  simp only [hd, cond_false]
  rw [J4 (by omega), if_neg (show ¬ Yw a f t k by unfold Yw; omega)]
theorem z2p {a f t k : Nat} (ha : 1 ≤ a) (hs : ¬ Yw a f t k) (hk : k < t) : (ZH a f (k + 1)).length ≤ 4096 ∧ syW a f (k + 1) ≤ 65536 ∧ a ^ (k + 1) ≤ 4096 := by
 unfold Yw at hs
 rw [Nat.pow_succ]
 omega
theorem z8X {a f t : Nat} (ha : 1 ≤ a ∧ a ≤ 16) (hf : f ≤ 256) (ht : t ≤ 256) {r : Option (List (List Int) × Int)}
  (hr : (∃ j, j ≤ t ∧ Yw a f t j) → r = some ([], 3)) (hr2 : (∀ j, j ≤ t → ¬ Yw a f t j) → r = Option.bind (xx (ZH a f (t + 1))) fun r => some (r.1, r.2)) :
  ∀ (m k : Nat), k ≤ t → t - k < m → (∀ j, j < k → ¬ Yw a f t j) → (ZH a f k).length ≤ 4096 → syW a f k ≤ 65536 → a ^ k ≤ 4096 → Wt (fun s => vX (a : Int) (f : Int) (t : Int) s.1 s.2.1 s.2.2.1 s.2.2.2) m (ZH a f k, exW a k, (syW a f k : Int), (k : Int)) = r
 | 0, k, _, h, _, _, _, _ => by omega
 | m + 1, k, hk, hm, hns, h1, h2, h3 => by
  rw [qr]
  dsimp only
  rw [z8W ha hf ht hk h1 h2 h3]
  by_cases hst : Yw a f t k
  ·rw [if_pos hst, hr ⟨k, hk, hst⟩]
  ·rw [if_neg hst]
   by_cases hkt : k = t
   ·subst hkt
    rw [if_pos rfl, hr2 fun j hj => by
     rcases Nat.lt_or_ge j k with q | q
     ·exact hns j q
     ·rw [show j = k by omega]; exact hst]
    cases xx (ZH a f (k + 1)) <;> rfl
   ·rw [if_neg hkt]
    obtain ⟨q1, q2, q3⟩ := z2p ha.1 hst (by omega)
    exact z8X ha hf ht hr hr2 m (k + 1) (by omega) (by omega) (fun j hj => by
     rcases Nat.lt_or_ge j k with q | q
     ·exact hns j q
     ·rw [show j = k by omega]; exact hst) q1 q2 q3
theorem zeV {a f t : Nat} (ha : 1 ≤ a ∧ a ≤ 16) (hf : f ≤ 256) (ht : t ≤ 256) {r : Option (List (List Int) × Int)}
  (hr : (∃ j, j ≤ t ∧ Yw a f t j) → r = some ([], 3)) (hr2 : (∀ j, j ≤ t → ¬ Yw a f t j) → r = Option.bind (xx (ZH a f (t + 1))) fun r => some (r.1, r.2)) :
  Xj (a : Int) (f : Int) (t : Int) = r := by
 unfold Xj
 have d1 : decide ((a : Int) > 16) = false := by simp; omega
 have d2 : decide ((a : Int) < 1) = false := by simp; omega
 have d3 : decide ((t : Int) < 0) = false := by simp
 have d4 : decide ((t : Int) > 256) = false := by simp; omega
 simp only [d1, d2, d3, d4, cond_false]
 have h := z8X ha hf ht hr hr2 Xq 0 (Nat.zero_le _) (by show t - 0 < 18446744073709551616; omega) (fun j hj => by omega) (by simp [ZH]) (by simp [syW]) (by simp)
 have h' : loop (fun s => vX (a : Int) (f : Int) (t : Int) s.1 s.2.1 s.2.2.1 s.2.2.2) (([] : List (List Int)), ([[]] : List (List Int)), 0, 0) = r := h
 rw [h']
 cases r <;> rfl
theorem z7B {l : List (List Int)} (hs : SW l) {w : List Int} {i : Nat} (hi : i ≤ l.length) (h1 : ∀ m x, m < i → l[m]? = some x → j5 x w < 0) (h2 : ∀ m x, i ≤ m → l[m]? = some x → j5 w x < 0) : l.take i ++ w :: l.drop i = z1q w l := by
 have ht : ∀ x ∈ l.take i, j5 x w < 0 := fun x hx => by
  obtain ⟨m, q1, q2⟩ := ZI.1 hx
  exact h1 m x q1 q2
 have hd : ∀ x ∈ l.drop i, j5 w x < 0 := fun x hx => by
  obtain ⟨m, q⟩ := List.mem_iff_getElem?.1 hx
  rw [List.getElem?_drop] at q
  exact h2 (i + m) x (by omega) q
 refine SW.unique ?_ hs.put fun x => ?_
 ·unfold SW
  rw [List.pairwise_append, List.pairwise_cons]
  refine ⟨hs.sub (List.take_sublist _ _), ⟨hd, hs.sub (List.drop_sublist _ _)⟩, fun a ha b hb => ?_⟩
  rcases List.mem_cons.1 hb with rfl | hb
  ·exact ht a ha
  ·exact qB (ht a ha) (hd b hb)
 ·rw [UC]
  have : x ∈ l ↔ x ∈ l.take i ∨ x ∈ l.drop i := by rw [← List.mem_append, List.take_append_drop]
  rw [this]
  simp only [List.mem_append, List.mem_cons]
  constructor
  ·rintro (h | h | h) <;> simp [h]
  ·rintro (h | h | h) <;> simp [h]
theorem zek {l : List (List Int)} (hs : SW l) (hl : l.length ≤ 1000000) (hw : ∀ x ∈ l, x.length < 4611686018427387904) {w : List Int} (hww : w.length ≤ 4294967296) : WU l w = some (z1q w l) := by
 unfold WU
 apply Ret.eq
 rw [ym]
 refine Ret.mono (xm (fun q : Int × Int => ∃ i j : Nat, q = ((i : Int), (j : Int)) ∧ i ≤ j ∧ j ≤ l.length ∧ (∀ m x, m < i → l[m]? = some x → j5 x w < 0) ∧ ∀ m x, j ≤ m → l[m]? = some x → ¬ j5 x w < 0) (fun q => (q.2 - q.1).toNat) (R := fun t => ∃ i : Nat, t = (i : Int) ∧ i ≤ l.length ∧ (∀ m x, m < i → l[m]? = some x → j5 x w < 0) ∧ ∀ m x, i ≤ m → l[m]? = some x → ¬ j5 x w < 0) ?_ ?_ ?_) ?_
 ·exact ⟨0, l.length, rfl, Nat.zero_le _, Nat.le_refl _, fun m x h => by omega, fun m x h hx => by have := (List.getElem?_eq_some_iff.1 hx).1; omega⟩
 ·simp only; omega
 ·rintro _ ⟨i, j, rfl, g1, g2, g3, g4⟩
  show Ret (kT l w (i : Int) (j : Int)) _
  unfold kT
  rw [yx]
  refine ⟨fun hc => ?_, fun hc => ?_⟩
  ·have hij : i < j := by simpa using hc
   have hh : w64 (Int.tdiv (w64 ((i : Int) + (j : Int))) 2) = (((i + j) / 2 : Nat) : Int) := by
    rw [y7 (x := (i : Int) + (j : Int)) (by omega) (by omega)]
    have : Int.tdiv ((i : Int) + (j : Int)) 2 = (((i + j) / 2 : Nat) : Int) := by
     rw [show ((i : Int) + (j : Int)) = ((i + j : Nat) : Int) by omega, Int.tdiv_eq_ediv_of_nonneg (by omega)]
     rfl
    rw [this, y7 (by omega) (by omega)]
   rw [gdT (by omega), hh]
   have hm : (i + j) / 2 < l.length := by omega
   have hx : l[(i + j) / 2]? = some l[(i + j) / 2] := List.getElem?_eq_getElem hm
   rw [zk hx]
   simp only [oB]
   rw [z4e _ _ (fun _ => hw _ (List.getElem_mem hm))]
   simp only [oB]
   by_cases hc2 : j5 l[(i + j) / 2] w < 0
   ·simp only [hc2, decide_true, cond_true]
    rw [y7 (by omega) (by omega), zn]
    refine ⟨⟨(i + j) / 2 + 1, j, by simp, by omega, g2, fun m x h hmx => ?_, g4⟩, by simp only; omega⟩
    rcases Nat.lt_or_ge m ((i + j) / 2) with q | q
    ·have h1 := (List.pairwise_iff_getElem.1 hs) m ((i + j) / 2) (List.getElem?_eq_some_iff.1 hmx).1 hm q
     rw [(List.getElem?_eq_some_iff.1 hmx).2] at h1
     exact qB h1 hc2
    ·rw [show m = (i + j) / 2 by omega, hx] at hmx
     cases hmx
     exact hc2
   ·simp only [hc2, decide_false, cond_false]
    rw [zn]
    refine ⟨⟨i, (i + j) / 2, rfl, by omega, by omega, g3, fun m x h hmx hlt => ?_⟩, by simp only; omega⟩
    rcases Nat.lt_or_ge ((i + j) / 2) m with q | q
    ·have h1 := (List.pairwise_iff_getElem.1 hs) ((i + j) / 2) m hm (List.getElem?_eq_some_iff.1 hmx).1 q
     rw [(List.getElem?_eq_some_iff.1 hmx).2] at h1
     exact hc2 (qB h1 hlt)
    ·rw [show m = (i + j) / 2 by omega, hx] at hmx
     cases hmx
     exact hc2 hlt
  ·have hij : i = j := by
    have : ¬ i < j := by simpa using hc
    omega
   subst hij
   rw [zn]
   exact ⟨i, rfl, g2, g3, g4⟩
 ·rintro _ ⟨i, rfl, h1, h2, h3⟩
  have J2 : (∀ x, l[i]? = some x → x ≠ w) → Ret (ji l w (i : Int)) fun r => r = z1q w l := by
   intro hne
   have h4 : ∀ m x, i ≤ m → l[m]? = some x → j5 w x < 0 := by
    intro m x hm hx
    have hil : i < l.length := by have := (List.getElem?_eq_some_iff.1 hx).1; omega
    have hxi : l[i]? = some l[i] := List.getElem?_eq_getElem hil
    have hlt : j5 w l[i] < 0 := by
     rcases z2E.1 (h3 i _ (Nat.le_refl _) hxi) with q | q
     ·exact q
     ·exact absurd q (hne _ hxi)
    rcases Nat.lt_or_ge i m with q | q
    ·have h5 := (List.pairwise_iff_getElem.1 hs) i m hil (List.getElem?_eq_some_iff.1 hx).1 q
     rw [(List.getElem?_eq_some_iff.1 hx).2] at h5
     exact qB hlt h5
    ·rw [show m = i by omega, hxi] at hx
     cases hx
     exact hlt
   unfold ji
   rw [gdT (by simp; omega), ym]
   have hlen : w64 ((((l ++ ([[]] : List (List Int))).length : Nat) : Int) - 1) = ((l.length : Nat) : Int) := by
    rw [List.length_append, List.length_singleton, y7 (by omega) (by omega)]; omega
   rw [hlen]
   refine Ret.mono (xm (fun q : List (List Int) × Int => ∃ (j : Nat) (x : List Int), q = (l.take j ++ x :: l.drop j, (j : Int)) ∧ i ≤ j ∧ j ≤ l.length) (fun q => q.2.toNat) (R := fun t => ∃ x : List Int, t = l.take i ++ x :: l.drop i) ⟨l.length, [], by simp, h1, Nat.le_refl _⟩ (by simp only [Int.toNat_natCast]; omega) ?_) ?_
   ·rintro _ ⟨j, x, rfl, g1, g2⟩
    show Ret (kU (i : Int) (l.take j ++ x :: l.drop j) (j : Int)) _
    unfold kU
    rw [yx]
    refine ⟨fun hc => ?_, fun hc => ?_⟩
    ·have hij : i < j := by simpa using hc
     have hA : (l.take j).length = j := by rw [List.length_take]; omega
     have hy : (l.take j ++ x :: l.drop j)[j - 1]? = some l[j - 1] := by
      rw [List.getElem?_append_left (by omega), List.getElem?_take, if_pos (by omega)]; exact List.getElem?_eq_getElem (by omega)
     have hz : (l.take j ++ x :: l.drop j)[j]? = some x := by
      rw [List.getElem?_append_right (by omega), hA]; simp
     rw [y7 (by omega) (by omega), show (j : Int) - 1 = ((j - 1 : Nat) : Int) by omega, zk hy, zk hz]
     simp only [oB, zn, Int.toNat_natCast]
     refine ⟨⟨j - 1, l[j - 1], ?_, by omega, by omega⟩, by simp only [Int.toNat_natCast]; omega⟩
     rw [List.set_append_right _ _ (by omega), hA, Nat.sub_self, List.set_cons_zero]
     have e1 : l.take j = l.take (j - 1) ++ [l[j - 1]] := by
      have := List.take_add_one (l := l) (i := j - 1)
      rw [show j - 1 + 1 = j by omega, List.getElem?_eq_getElem (by omega)] at this
      exact this
     have e2 : l.drop (j - 1) = l[j - 1] :: l.drop j := by
      rw [List.drop_eq_getElem_cons (by omega), show j - 1 + 1 = j by omega]
     rw [e2, e1, List.append_assoc]
     rfl
    ·have hij : j = i := by
      have : ¬ i < j := by simpa using hc
      omega
     subst hij
     rw [zn]
     exact ⟨x, rfl⟩
   ·rintro _ ⟨x, rfl⟩
    unfold YJ
    have hA : (l.take i).length = i := by rw [List.length_take]; omega
    have hz : (l.take i ++ x :: l.drop i)[i]? = some x := by
     rw [List.getElem?_append_right (by omega), hA]; simp
    rw [gdT (by simpa using hww), zk hz]
    simp only [oB, zn, Int.toNat_natCast]
    rw [List.set_append_right _ _ (by omega), hA, Nat.sub_self, List.set_cons_zero]
    exact z7B hs h1 h2 h4
  unfold YK
  rw [yx]
  refine ⟨fun hc => ?_, fun hc => ?_⟩
  ·have hi : i < l.length := by simpa using hc
   have hx : l[i]? = some l[i] := List.getElem?_eq_getElem hi
   rw [zk hx]
   simp only [oB]
   rw [z4e _ _ (fun _ => hw _ (List.getElem_mem hi))]
   simp only [oB]
   by_cases he : l[i] = w
   ·have hb : (j5 l[i] w == 0) = true := by rw [he, UM]; rfl
    rw [hb, cond_true, zn]
    refine SW.unique hs hs.put fun x => ?_
    rw [UC]
    refine ⟨fun q => .inr q, fun q => ?_⟩
    rcases q with rfl | q
    ·exact he ▸ List.getElem_mem hi
    ·exact q
   ·have hb : (j5 l[i] w == 0) = false := by simp; exact fun q => he (z2F q)
    rw [hb, cond_false]
    exact J2 fun x hx2 => by rw [hx] at hx2; cases hx2; exact he
  ·have hi : ¬ i < l.length := by simpa using hc
   exact J2 fun x hx2 => by have := (List.getElem?_eq_some_iff.1 hx2).1; omega
theorem z5D {l : List (List Int)} (hl : l.length ≤ 1000000) (hw : ∀ x ∈ l, x.length ≤ 4294967296) : Y0 l = some (srt l) := by
 unfold Y0
 have h := YL (step := fun s => va l s.1 s.2) (fun i => (srt (l.take i), (i : Int))) l.length (t := srt l) (by omega) (by
  intro i hi
  show va l _ (i : Int) = _
  unfold va
  have hq : decide ((i : Int) < (l.length : Int)) = true := by simpa using hi
  have hx : l[i]? = some l[i] := List.getElem?_eq_getElem hi
  simp only [hq, cond_true, zk hx, oB]
  have hlen : (srt (l.take i)).length ≤ 1000000 := by have := YQ (l.take i); rw [List.length_take] at this; omega
  rw [zek (Wk _) hlen (fun x hx => by have := hw x (List.mem_of_mem_take (wI.1 hx)); omega) (hw _ (List.getElem_mem hi))]
  simp only [oB]
  rw [y7 (by omega) (by omega), ← z9G, List.take_add_one, hx]
  rfl) (by
  show va l _ (l.length : Int) = _
  unfold va
  simp)
 have h0 : (srt (l.take 0), ((0 : Nat) : Int)) = (([] : List (List Int)), (0 : Int)) := by simp [srt]
 rw [h0] at h
 rw [bdT h]
 rfl
theorem WN {l : List (List Int)} {m : Nat} {L : Nat} (hl : l.length ≤ L) (h : ∀ w ∈ l, w.length ≤ m) : uR l ≤ L * m := Nat.le_trans (z4A h) (Nat.mul_le_mul_right _ hl)
theorem ZR {n : Int} {l : List (List Int)} (h : chE n l = 0) : l.length ≤ 4096 ∧ (∀ w ∈ l, w.length ≤ 256) ∧ uR l ≤ 65536 ∧ SW l ∧ (1 ≤ n ∧ n ≤ 16) ∧ ∀ w ∈ l, ∀ c ∈ w, 0 ≤ c ∧ c < n := by
 obtain ⟨h1, h2, h3⟩ := z6d.1 h
 obtain ⟨q1, q2, _⟩ := z3M h1
 obtain ⟨r1, _, r3⟩ := Kg.1 h1
 exact ⟨q1, q2, h3, h2, r1, fun w hw => (r3 w hw).2⟩
theorem z9C {l m : List (List Int)} (h : List.Sublist l m) : uR l ≤ uR m := by
 induction h with
 | slnil => exact Nat.le_refl _
 | cons a _ ih => simp only [uR, List.map_cons, List.sum_cons] at *; omega
 | cons_cons a _ ih => simp only [uR, List.map_cons, List.sum_cons] at *; omega
theorem VO (l m : List (List Int)) : uR (l ++ m) = uR l + uR m := by simp [uR]
def Wq (n : Int) (L k : Nat) (l : List (List Int)) : Prop := SW l ∧ l.length ≤ L ∧ ∀ w ∈ l, w.length ≤ k ∧ ∀ c ∈ w, 0 ≤ c ∧ c < n
theorem Wq.ch {n : Int} {L k : Nat} {l : List (List Int)} (h : Wq n L k l) (hn : 1 ≤ n ∧ n ≤ 16) (hL : L ≤ 4096) (hk : k ≤ 256) (hLk : L * k ≤ 65536) : chE n l = 0 := by
 obtain ⟨h1, h2, h3⟩ := h
 refine z6d.2 ⟨Kg.2 ⟨hn, by omega, fun w hw => ⟨by have := (h3 w hw).1; omega, (h3 w hw).2⟩⟩, h1, ?_⟩
 exact Nat.le_trans (WN h2 fun w hw => (h3 w hw).1) hLk
theorem zaO {x : yf} (h : 0 ≤ x.Inputs ∧ x.Inputs ≤ 255) : ∃ n : Int, wi x = some n ∧ 1 ≤ n ∧ n ≤ 3 := by
 unfold wi
 rw [gdT (by omega)]
 have e : Int.tmod x.Inputs 3 = x.Inputs % 3 := Int.tmod_eq_emod_of_nonneg h.1
 refine ⟨_, rfl, ?_, ?_⟩
 ·rw [e, y7 (x := x.Inputs % 3) (by omega) (by omega), y7 (by omega) (by omega)]; omega
 ·rw [e, y7 (x := x.Inputs % 3) (by omega) (by omega), y7 (by omega) (by omega)]; omega
theorem za1 {x : yf} {n : Int} (hn : wi x = some n) (h1 : 1 ≤ n ∧ n ≤ 3) (hw : ∀ w ∈ x.Words, ∀ c ∈ w, 0 ≤ c ∧ c ≤ 255) {i : Nat} (hi : i < x.Words.length) :
  Ret (loop (fun s => uw x (i : Int) s.1 s.2) (([] : List Int), 0)) fun w => w.length ≤ 12 ∧ ∀ c ∈ w, 0 ≤ c ∧ c < n := by
 refine xm (fun q => ∃ k : Nat, q.2 = (k : Int) ∧ q.1.length = k ∧ k ≤ 12 ∧ ∀ c ∈ q.1, 0 ≤ c ∧ c < n) (fun q => 12 - q.2.toNat) ⟨0, rfl, rfl, by omega, by simp⟩ (by show 12 - _ < _; omega) ?_
 rintro ⟨w, _⟩ ⟨k, rfl, g1, g2, g3⟩
 simp only at g1 g3
 show Ret (uw x (i : Int) w (k : Int)) _
 unfold uw
 have hx : x.Words[i]? = some x.Words[i] := List.getElem?_eq_getElem hi
 rw [zk hx, oB, yx]
 have fin : w.length ≤ 12 ∧ ∀ c ∈ w, 0 ≤ c ∧ c < n := ⟨by omega, g3⟩
 refine ⟨fun hc => ?_, fun hc => zn.2 fin⟩
 rw [yx]
 refine ⟨fun hc2 => ?_, fun hc2 => zn.2 fin⟩
 have hk : k < x.Words[i].length := by simpa using hc
 have hk2 : k < 12 := by simp only [decide_eq_true_eq] at hc2; omega
 have hy : (x.Words[i])[k]? = some (x.Words[i])[k] := List.getElem?_eq_getElem hk
 obtain ⟨b1, b2⟩ := hw _ (List.getElem_mem hi) _ (List.getElem_mem hk)
 rw [oB, zk hy, oB, hn, oB, gdT (by omega), gdT (by simp; omega), y7 (x := (k : Int) + 1) (by omega) (by omega), zn]
 refine ⟨⟨k + 1, rfl, by simp [g1], by omega, fun c hc => ?_⟩, by simp only; omega⟩
 rcases List.mem_append.1 hc with q | q
 ·exact g3 c q
 ·simp at q
  subst q
  rw [y7 (by omega) (by omega), Int.tmod_eq_emod_of_nonneg b1]
  exact ⟨Int.emod_nonneg _ (by omega), Int.emod_lt_of_pos _ (by omega)⟩
theorem zcx {x : yf} {n : Int} (hn : wi x = some n) (h1 : 1 ≤ n ∧ n ≤ 3) (hw : ∀ w ∈ x.Words, ∀ c ∈ w, 0 ≤ c ∧ c ≤ 255) : Ret (Xp x) (Wq n 40 12) := by
 have hraw : Ret (Yk x) fun r => r.length ≤ 40 ∧ ∀ w ∈ r, w.length ≤ 12 ∧ ∀ c ∈ w, 0 ≤ c ∧ c < n := by
  unfold Yk
  rw [ym]
  refine Ret.mono (xm (fun q => ∃ k : Nat, q.2 = (k : Int) ∧ q.1.length = k ∧ k ≤ 40 ∧ ∀ w ∈ q.1, w.length ≤ 12 ∧ ∀ c ∈ w, 0 ≤ c ∧ c < n) (fun q => 40 - q.2.toNat) (R := fun r : List (List Int) => r.length ≤ 40 ∧ ∀ w ∈ r, w.length ≤ 12 ∧ ∀ c ∈ w, 0 ≤ c ∧ c < n) ⟨0, rfl, rfl, by omega, by simp⟩ (by show 40 - _ < _; omega) ?_) fun r hr => zn.2 hr
  rintro ⟨out, _⟩ ⟨k, rfl, g1, g2, g3⟩
  simp only at g1 g3
  show Ret (qP x out (k : Int)) _
  unfold qP
  have fin : out.length ≤ 40 ∧ ∀ w ∈ out, w.length ≤ 12 ∧ ∀ c ∈ w, 0 ≤ c ∧ c < n := ⟨by omega, g3⟩
  rw [yx]
  refine ⟨fun hc => ?_, fun hc => zn.2 fin⟩
  rw [yx]
  refine ⟨fun hc2 => ?_, fun hc2 => zn.2 fin⟩
  have hk : k < x.Words.length := by simpa using hc
  have hk2 : k < 40 := by simp only [decide_eq_true_eq] at hc2; omega
  rw [ym]
  refine (za1 hn h1 hw hk).mono fun w hww => ?_
  unfold kL kM
  rw [gdT (by simp; omega), y7 (by omega) (by omega), zn]
  refine ⟨⟨k + 1, rfl, by simp [g1], by omega, fun v hv => ?_⟩, by simp only; omega⟩
  rcases List.mem_append.1 hv with q | q
  ·exact g3 v q
  ·simp at q
   subst q
   exact hww
 unfold Xp
 rw [ym]
 refine hraw.mono fun r hr => ?_
 rw [z5D (by omega) (fun w hw => by have := (hr.2 w hw).1; omega), oB, zn]
 exact ⟨Wk _, Nat.le_trans (YQ _) hr.1, fun w hw => hr.2 w (wI.1 hw)⟩
theorem xo {σ : Type} (f : Nat → σ → σ) (s : σ) (n : Nat) : (List.range (n + 1)).foldl (fun s i => f i s) s = f n ((List.range n).foldl (fun s i => f i s) s) := by
 rw [List.range_succ, List.foldl_append]; rfl
theorem uv {σ : Type} {f : Nat → σ → σ} {I : Nat → σ → Prop} {s : σ} (h0 : I 0 s) : ∀ (n : Nat), (∀ i s, i < n → I i s → I (i + 1) (f i s)) → I n ((List.range n).foldl (fun s i => f i s) s)
 | 0, _ => h0
 | n + 1, h => by
  rw [xo]
  exact h n _ (Nat.lt_succ_self n) (uv h0 n fun i s hi => h i s (by omega))
theorem WV {σ α : Type} (g : α → σ → σ) (d : α) (l : List α) (s : σ) : (List.range l.length).foldl (fun s i => g ((l[i]?).getD d) s) s = l.foldl (fun s x => g x s) s := by
 have e : l = (List.range l.length).map fun i => (l[i]?).getD d := by
  apply List.ext_getElem (by simp)
  intro i h1 h2
  simp [List.getElem?_eq_getElem h1]
 have q : ((List.range l.length).map fun i => (l[i]?).getD d).foldl (fun s x => g x s) s = (List.range l.length).foldl (fun s i => g ((l[i]?).getD d) s) s := by rw [List.foldl_map]
 rw [← q, ← e]
theorem z07 {σ S τ : Type} {step : S → Option (LR S τ)} (st : σ → Nat → S) (f : Nat → σ → σ) (I : Nat → σ → Prop) (n : Nat) (hn : n < 9223372036854775808) {s0 : σ} {t : τ} (h0 : I 0 s0)
  (h : ∀ i s, i < n → I i s → step (st s i) = some (.next (st (f i s) (i + 1))) ∧ I (i + 1) (f i s))
  (hd : I n ((List.range n).foldl (fun s i => f i s) s0) → step (st ((List.range n).foldl (fun s i => f i s) s0) n) = some (.done t)) : loop step (st s0 0) = some t := by
 have inv : ∀ m, m ≤ n → I m ((List.range m).foldl (fun s i => f i s) s0) := fun m hm => uv h0 m fun i s hi hI => (h i s (by omega) hI).2
 refine YL (fun m => st ((List.range m).foldl (fun s i => f i s) s0) m) n hn (fun i hi => ?_) (hd (inv n (Nat.le_refl _)))
 show step (st ((List.range i).foldl (fun s i => f i s) s0) i) = _
 rw [(h i _ hi (inv i (by omega))).1, xo]
theorem kH {i : Nat} (h : i < 9223372036854775807) : w64 ((i : Int) + 1) = ((i + 1 : Nat) : Int) := by rw [y7 (by omega) (by omega)]; rfl
structure COk (m : z7) (c : z8) : Prop where
 st : c.States.length = m.Rows.length
 ed : c.Edges.length = m.Rows.length
 row : ∀ (s : Nat) (e : List Bool), c.Edges[s]? = some e → e.length = kk m
def setS (c : z8) (s : Nat) : z8 := ⟨c.States.set s true, c.Edges⟩
def setE (c : z8) (s i : Nat) : z8 := ⟨c.States, c.Edges.set s (((c.Edges[s]?).getD []).set i true)⟩
section
variable {m : z7} {c : z8}
theorem COk.setS (h : COk m c) (s : Nat) : COk m (setS c s) := ⟨by simp [Own.setS, h.st], h.ed, h.row⟩
theorem COk.rowAt (h : COk m c) {s : Nat} (hs : s < m.Rows.length) : ∃ e, c.Edges[s]? = some e ∧ e.length = kk m := by
 have hs' : s < c.Edges.length := by rw [h.ed]; exact hs
 exact ⟨_, List.getElem?_eq_getElem hs', h.row s _ (List.getElem?_eq_getElem hs')⟩
theorem COk.setE (h : COk m c) {s i : Nat} (hs : s < m.Rows.length) : COk m (setE c s i) := by
 refine ⟨h.st, by simp [Own.setE, h.ed], fun t e he => ?_⟩
 obtain ⟨r, h1, h2⟩ := h.rowAt hs
 simp only [Own.setE, h1, Option.getD_some] at he
 rw [List.getElem?_set] at he
 split at he
 ·split at he
  ·cases he; simpa using h2
  ·cases he
 ·exact h.row t e he
theorem COk.stAt (h : COk m c) {s : Nat} (hs : s < m.Rows.length) : ∃ b, c.States[s]? = some b := ⟨_, List.getElem?_eq_getElem (by rw [h.st]; exact hs)⟩
end
def z17 (m : z7) (w : List Nat) (s : Int) (k : Nat) (c : z8) : z8 :=
 match w[k]? with
 | some i => if (E m s.toNat i).To ≠ -1 then setE (setS c s.toNat) s.toNat i else setS c s.toNat
 | none => setS c s.toNat
def YX (m : z7) (w : List Nat) (k : Nat) (c : z8) : z8 :=
 if aft m 0 (w.take k) = -1 then c else z17 m w (aft m 0 (w.take k)) k c
def z6T (m : z7) (w : List Nat) (c : z8) : z8 := (List.range (w.length + 1)).foldl (fun c k => YX m w k c) c
def z2Z (m : z7) (l : List (List Nat)) (c : z8) : z8 := l.foldl (fun c w => z6T m w c) c
def Wx (m : z7) : z8 := ⟨List.replicate m.Rows.length false, List.replicate m.Rows.length (List.replicate (kk m) false)⟩
section
variable {m : z7} (h : VM m)
include h
omit h in
theorem Yo : COk m (Wx m) := ⟨by simp [Wx], by simp [Wx], fun s e he => by
 simp only [Wx, List.getElem?_replicate] at he
 split at he
 ·cases he; simp
 ·cases he⟩
theorem UR {w : List Nat} (hw : Wd (kk m) w) (k : Nat) : zaR m (aft m 0 (w.take k)) := z1M h _ _ ⟨by omega, by have := h.len1; omega⟩ fun i hi => hw i (List.mem_of_mem_take hi)
omit h in
theorem za6 {w : List Nat} (hw : Wd (kk m) w) {s : Int} (h0 : 0 ≤ s) (h1 : s < m.Rows.length) {k : Nat} {c : z8} (hc : COk m c) : COk m (z17 m w s k c) := by
 unfold z17
 split
 ·split
  ·exact (hc.setS _).setE (by omega)
  ·exact hc.setS _
 ·exact hc.setS _
theorem z2s {w : List Nat} (hw : Wd (kk m) w) (k : Nat) {c : z8} (hc : COk m c) : COk m (YX m w k c) := by
 unfold YX
 split
 ·exact hc
 ·have := UR h hw k
  exact za6 hw (by have := this.1; omega) this.2 hc
theorem z56 {w : List Nat} (hw : Wd (kk m) w) {c : z8} (hc : COk m c) : COk m (z6T m w c) := by
 unfold z6T
 exact uv (I := fun _ c => COk m c) hc _ fun i s _ hs => z2s h hw i hs
theorem z0q : ∀ {l : List (List Nat)} {c : z8}, (∀ w ∈ l, Wd (kk m) w) → COk m c → COk m (z2Z m l c)
 | [], _, _, hc => hc
 | w :: l, c, hw, hc => z0q (l := l) (fun v hv => hw v (by simp [hv])) (z56 h (hw w (by simp)) hc)
omit h in
theorem z6j {w : List Nat} {k : Nat} {i : Nat} (hi : w[k]? = some i) : aft m 0 (w.take (k + 1)) = (nxE m (aft m 0 (w.take k)) i).To := by
 have e : w.take (k + 1) = w.take k ++ [i] := by
  rw [List.take_add_one, hi]; rfl
 rw [e, (Vb m (w.take k) 0 i).2]
theorem z1G {w : List Nat} (hw : Wd (kk m) w) {s : Int} (h0 : 0 ≤ s) (h1 : s < m.Rows.length) {k : Nat} {c : z8} (hc : COk m c) : wj (w.map Int.ofNat) m s (k : Int) c = some (z17 m w s k c) := by
 obtain ⟨n, rfl⟩ : ∃ n : Nat, s = n := ⟨s.toNat, by omega⟩
 have hn : n < m.Rows.length := by omega
 obtain ⟨b, hb⟩ := hc.stAt hn
 unfold wj z17
 rw [zk hb, oB, List.length_map]
 cases hi : w[k]? with
 | none =>
  have hk : ¬ (k : Int) < (w.length : Int) := by have := List.getElem?_eq_none_iff.1 hi; omega
  rw [decide_eq_false hk]
  rfl
 | some i =>
  have hk : (k : Int) < (w.length : Int) := by have := (List.getElem?_eq_some_iff.1 hi).1; omega
  have hik : i < kk m := hw i (List.mem_of_getElem? hi)
  have hm : (w.map Int.ofNat)[k]? = some (i : Int) := by rw [List.getElem?_map, hi]; rfl
  obtain ⟨r, hr, hrl, hre⟩ := h.rowAt hn
  obtain ⟨e, he, hel⟩ := hc.rowAt hn
  rw [decide_eq_true hk, cond_true, zk hr, oB, zk hm, oB, zk (hre i hik), oB]
  simp only [Int.toNat_natCast]
  by_cases ht : (E m n i).To = -1
  ·rw [if_neg (by simpa using ht), ht]
   rfl
  ·have hb2 : ((E m n i).To != -1) = true := by simpa using ht
   have hie : e[i]? = some e[i] := List.getElem?_eq_getElem (by omega)
   rw [if_pos ht, hb2, cond_true, zk he, oB, oB, zk hie, oB]
   simp [setE, setS, he]
theorem z9e {w : List Nat} (hw : Wd (kk m) w) (hl : w.length ≤ 100000) {c : z8} (hc : COk m c) : vt m (w.map Int.ofNat) (fun s x => wj (w.map Int.ofNat) m x.1 x.2 s) c = some (z6T m w c) := by
 unfold vt
 have a0 : aft m 0 (w.take 0) = 0 := rfl
 have hm0 : YX m w 0 c = z17 m w 0 0 c := by unfold YX; rw [a0]; rfl
 have c0 := z1G h hw (s := 0) (k := 0) (by omega) (by have := h.len1; omega) hc
 refine Eq.trans (bdT c0) ?_
 have run : Ret (loop (fun s => vq (fun s x => wj (w.map Int.ofNat) m x.1 x.2 s) m (w.map Int.ofNat) s.1 s.2.1 s.2.2) (z17 m w 0 0 c, 0, 0)) fun r => r = z6T m w c := by
  refine xm (fun q => ∃ k : Nat, q.2.2 = (k : Int) ∧ k ≤ w.length ∧ q.2.1 = aft m 0 (w.take k) ∧ q.2.1 ≠ -1 ∧ q.1 = (List.range (k + 1)).foldl (fun c k => YX m w k c) c) (fun q => 200000 - q.2.2.toNat) ⟨0, rfl, Nat.zero_le _, rfl, by simp, by show _ = YX m w 0 c; rw [hm0]⟩ (by show 200000 - _ < _; omega) ?_
  rintro ⟨q, s, _⟩ ⟨k, rfl, hk, hs, hne, hq⟩
  simp only at hs hne hq
  unfold vq
  simp only [List.length_map]
  have hin := UR h hw k
  rw [← hs] at hin
  have hqok : COk m q := by rw [hq]; exact uv (I := fun _ c => COk m c) hc _ fun i s _ hs => z2s h hw i hs
  obtain ⟨n, rfl⟩ : ∃ n : Nat, s = n := ⟨s.toNat, by have := hin.1; omega⟩
  have hn : n < m.Rows.length := by have := hin.2; omega
  rw [yx]
  refine ⟨fun hc1 => ?_, fun hc1 => ?_⟩
  ·have hlt : k < w.length := by simpa using hc1
   have hi : w[k]? = some w[k] := List.getElem?_eq_getElem hlt
   have hik : w[k] < kk m := hw _ (List.getElem_mem hlt)
   have hm : (w.map Int.ofNat)[k]? = some (w[k] : Int) := by rw [List.getElem?_map, hi]; rfl
   obtain ⟨r, hr, hrl, hre⟩ := h.rowAt hn
   have hto : aft m 0 (w.take (k + 1)) = (E m n w[k]).To := by rw [z6j hi, ← hs, Qx]
   rw [zk hm, oB, zk hr, oB, zk (hre _ hik), oB, yx]
   have hw1 : w64 ((k : Int) + 1) = ((k + 1 : Nat) : Int) := kH (by omega)
   refine ⟨fun hc2 => ?_, fun hc2 => ?_⟩
   ·have hto1 : (E m n w[k]).To = -1 := by simpa using hc2
    rw [zn]
    show q = _
    rw [hq]
    unfold z6T
    have : ∀ d, (List.range (k + 1 + d)).foldl (fun c k => YX m w k c) c = (List.range (k + 1)).foldl (fun c k => YX m w k c) c := by
     intro d
     induction d with
     | zero => rfl
     | succ d ih =>
      rw [show k + 1 + (d + 1) = (k + 1 + d) + 1 by omega, xo (fun k c => YX m w k c), ih]
      unfold YX
      rw [if_pos]
      have h1 : w.take (k + 1 + d) = w.take (k + 1) ++ (w.drop (k + 1)).take d := by rw [List.take_add]
      rw [h1, z5e, hto, hto1]
      have h2 := z5d m ((w.drop (k + 1)).take d) (-1) (by omega)
      have h3 := (z1M h ((w.drop (k + 1)).take d) (-1) ⟨by omega, by have := h.len1; omega⟩ fun i hi => hw i (List.mem_of_mem_drop (List.mem_of_mem_take hi))).1
      omega
    have e := this (w.length - k)
    rw [show k + 1 + (w.length - k) = w.length + 1 by omega] at e
    exact e.symm
   ·have hto1 : (E m n w[k]).To ≠ -1 := by simpa using hc2
    rcases h.edgeAt hn hik with ⟨g, _⟩ | ⟨g1, g2, _⟩
    ·exact absurd g hto1
    ·rw [hw1, z1G h hw g1 g2 hqok, oB, zn]
     refine ⟨⟨k + 1, rfl, hlt, hto.symm, hto1, ?_⟩, by simp only; omega⟩
     rw [xo (fun k c => YX m w k c), ← hq]
     unfold YX
     rw [hto, if_neg hto1]
  ·have hge : k = w.length := by simp at hc1; omega
   subst hge
   rw [zn]
   exact hq
 exact bdT run.eq
theorem z65 : jk m = some (Wx m) := by
 have hlen := h.len64
 have hk := h.kk_eq
 have hk16 := h.kk_le
 unfold jk
 have e3 : ((m.Rows.length : Nat) : Int).toNat = m.Rows.length := by simp
 rw [gdT (by omega), gdT (by omega), e3]
 have e1 : loop (fun s => wJ m s.1 s.2) (List.replicate m.Rows.length ([] : List Bool), 0) = some (List.replicate m.Rows.length (List.replicate (kk m) false)) := by
  refine z07 (step := fun s => wJ m s.1 s.2) (σ := List (List Bool)) (fun c k => (c, (k : Int))) (fun k c => c.set k (List.replicate (kk m) false)) (fun k c => k ≤ m.Rows.length ∧ c = List.replicate k (List.replicate (kk m) false) ++ List.replicate (m.Rows.length - k) []) m.Rows.length (by omega) ⟨Nat.zero_le _, by simp⟩ ?_ ?_
  ·rintro k _ hk1 ⟨_, rfl⟩
   have hd : m.Rows.length - k = (m.Rows.length - (k + 1)) + 1 := by omega
   refine ⟨?_, hk1, ?_⟩
   ·simp only
    unfold wJ
    have hx : (List.replicate k (List.replicate (kk m) false) ++ List.replicate (m.Rows.length - k) [])[k]? = some [] := by
     rw [List.getElem?_append_right (by simp), hd]; simp
    rw [decide_eq_true (by omega), cond_true, gdT (by omega), zk hx, oB, kH (by omega), ← hk]
    simp
   ·rw [List.set_append_right _ _ (by simp), hd, List.replicate_succ, List.length_replicate, Nat.sub_self, List.set_cons_zero, List.replicate_succ', List.append_assoc]
    rfl
  ·rintro ⟨_, hq⟩
   rw [hq]
   simp only
   unfold wJ
   rw [decide_eq_false (by omega), cond_false]
   simp
 rw [e1]
 rfl
theorem zco {l : List (List Nat)} (hw : ∀ w ∈ l, Wd (kk m) w) (hl : l.length ≤ 100000) (hl2 : ∀ w ∈ l, w.length ≤ 100000) (hr : xy m (l.map (List.map Int.ofNat)) = some 0) : xc m (l.map (List.map Int.ofNat)) = some (z2Z m l (Wx m), 0) := by
 unfold xc
 rw [hr, oB]
 have b0 : ((0 : Int) != 0) = false := rfl
 rw [b0, cond_false, z65 h, oB]
 have e2 : loop (fun s => wz m (l.map (List.map Int.ofNat)) s.1 s.2.1 s.2.2) ((Wx m).States, (Wx m).Edges, 0) = some ((z2Z m l (Wx m)).States, (z2Z m l (Wx m)).Edges) := by
  have hfl := WV (fun w c => z6T m w c) ([] : List Nat) l (Wx m)
  refine z07 (σ := z8) (fun c k => (c.States, c.Edges, (k : Int))) (fun i c => z6T m ((l[i]?).getD []) c) (fun _ c => COk m c) l.length (by omega) Yo (fun i c hi hc => ?_) (fun _ => ?_)
  ·have hx : l[i]? = some l[i] := List.getElem?_eq_getElem hi
   have hm : (l.map (List.map Int.ofNat))[i]? = some (l[i].map Int.ofNat) := by rw [List.getElem?_map, hx]; rfl
   simp only [hx, Option.getD_some]
   refine ⟨?_, z56 h (hw _ (List.getElem_mem hi)) hc⟩
   unfold wz
   rw [List.length_map, decide_eq_true (by omega), cond_true, zk hm, oB]
   refine Eq.trans (bdT (z9e h (hw _ (List.getElem_mem hi)) (hl2 _ (List.getElem_mem hi)) (c := c) hc)) ?_
   rw [kH (by omega)]
  ·rw [hfl]
   simp only
   unfold wz
   rw [List.length_map, decide_eq_false (by omega), cond_false]
   rfl
 refine Eq.trans (bdT e2) ?_
 rfl
end
theorem z5Z {α : Type} (p : α → Bool) : ∀ (l : List α) (k : Nat), (yK (fun i x => if p x = true then none else some ((i : Nat) : Int)) l k = none ∧ l.all p = true) ∨ ∃ i : Nat, yK (fun i x => if p x = true then none else some ((i : Nat) : Int)) l k = some (i : Int) ∧ l.all p = false
 | [], _ => .inl ⟨rfl, rfl⟩
 | x :: l, k => by
  simp only [yK, List.all_cons]
  cases hp : p x with
  | true => simpa using z5Z p l (k + 1)
  | false => exact .inr ⟨k, by simp, by simp⟩
theorem zav (l : List Bool) (hl : l.length < 4611686018427387904) : vP l () = some (l.all id) := by
 unfold vP x5 xD
 rw [bdT (xI l hl (step := fun s => y8 l s) (fun i x => if x = true then none else some ((i : Nat) : Int)) ?_ ?_)]
 ·rcases z5Z (fun x : Bool => x) l 0 with ⟨h1, h2⟩ | ⟨i, h1, h2⟩
  ·rw [h1, show l.all id = true from h2]; rfl
  ·rw [h1, show l.all id = false from h2]; simp [oS]
 ·intro i x hx
  have hi := (List.getElem?_eq_some_iff.1 hx).1
  unfold y8 uc ve
  rw [decide_eq_true (by omega), cond_true, zk hx]
  simp only [oB]
  cases x <;> rfl
 ·unfold y8
  rw [decide_eq_false (by omega), cond_false]
theorem z8o (l : List Bool) (hl : l.length < 4611686018427387904) : wo l () = some (l.all id) := by
 unfold wo yz x4
 rw [bdT (xI l hl (step := fun s => zS l s) (fun i x => if x = true then none else some ((i : Nat) : Int)) ?_ ?_)]
 ·rcases z5Z (fun x : Bool => x) l 0 with ⟨h1, h2⟩ | ⟨i, h1, h2⟩
  ·rw [h1, show l.all id = true from h2]; rfl
  ·rw [h1, show l.all id = false from h2]; simp [oS]
 ·intro i x hx
  have hi := (List.getElem?_eq_some_iff.1 hx).1
  unfold zS wR xa
  rw [decide_eq_true (by omega), cond_true, zk hx]
  simp only [oB]
  cases x <;> rfl
 ·unfold zS
  rw [decide_eq_false (by omega), cond_false]
theorem z8n (l : List (List Bool)) (hl : l.length < 4611686018427387904) (hw : ∀ r ∈ l, r.length < 4611686018427387904) : vd l () = some (l.all fun r => r.all id) := by
 unfold vd yU xj
 rw [bdT (xI l hl (step := fun s => zY l s) (fun i x => if (x.all id) = true then none else some ((i : Nat) : Int)) ?_ ?_)]
 ·rcases z5Z (fun x : List Bool => x.all id) l 0 with ⟨h1, h2⟩ | ⟨i, h1, h2⟩
  ·rw [h1, h2]; rfl
  ·rw [h1, h2]; simp [oS]
 ·intro i x hx
  have hi := (List.getElem?_eq_some_iff.1 hx).1
  unfold zY vA xE
  rw [decide_eq_true (by omega), cond_true, zk hx]
  simp only [oB]
  rw [z8o x (hw x (List.mem_of_getElem? hx))]
  simp only [oB]
  cases x.all id <;> rfl
 ·unfold zY
  rw [decide_eq_false (by omega), cond_false]
def UJ (c : z8) (s : Nat) : Prop := c.States[s]? = some true
def JD (c : z8) (s i : Nat) : Prop := ∃ e, c.Edges[s]? = some e ∧ e[i]? = some true
def WZ (m : z7) (w : List Nat) (k : Nat) (c : z8) : z8 :=
 if aft m 0 (w.take k) = -1 then c else if k = w.length then setS c (aft m 0 (w.take k)).toNat else if k + 1 = w.length then setE c (aft m 0 (w.take k)).toNat ((w[k]?).getD 0) else c
def z8t (m : z7) (w : List Nat) (c : z8) : z8 := (List.range (w.length + 1)).foldl (fun c k => WZ m w k c) c
def z64 (m : z7) (l : List (List Nat)) (c : z8) : z8 := l.foldl (fun c w => z8t m w c) c
section
variable {m : z7} {c : z8}
theorem z3Z (h : COk m c) {t s : Nat} (ht : t < m.Rows.length) : UJ (setS c t) s ↔ s = t ∨ UJ c s := by
 unfold UJ setS
 exact Uq (by rw [h.st]; exact ht)
theorem z40 {t s j : Nat} : UJ (setE c t j) s ↔ UJ c s := Iff.rfl
theorem UK {t s i : Nat} : JD (setS c t) s i ↔ JD c s i := Iff.rfl
theorem z41 (h : COk m c) {t s j i : Nat} (ht : t < m.Rows.length) (hj : j < kk m) : JD (setE c t j) s i ↔ (s = t ∧ i = j) ∨ JD c s i := by
 obtain ⟨e, he, hel⟩ := h.rowAt ht
 have htl := (List.getElem?_eq_some_iff.1 he).1
 unfold JD setE
 simp only [he, Option.getD_some]
 by_cases hs : s = t
 ·subst hs
  rw [List.getElem?_set_self htl]
  constructor
  ·rintro ⟨e2, h1, h2⟩
   cases h1
   rcases (Uq (out := e) (by omega)).1 h2 with q | q
   ·exact .inl ⟨rfl, q⟩
   ·exact .inr ⟨e, he, q⟩
  ·rintro (⟨_, rfl⟩ | ⟨e2, h1, h2⟩)
   ·exact ⟨_, rfl, (Uq (by omega)).2 (.inl rfl)⟩
   ·rw [he] at h1; cases h1
    exact ⟨_, rfl, (Uq (by omega)).2 (.inr h2)⟩
 ·rw [List.getElem?_set_ne (fun q => hs q.symm)]
  constructor
  ·rintro ⟨e2, h1, h2⟩; exact .inr ⟨e2, h1, h2⟩
  ·rintro (⟨q, _⟩ | q)
   ·exact absurd q hs
   ·exact q
end
section
variable {m : z7} (h : VM m)
include h
theorem Kd {w : List Nat} (hw : Wd (kk m) w) (k : Nat) {c : z8} (hc : COk m c) : COk m (WZ m w k c) := by
 have hin := UR h hw k
 unfold WZ
 split
 ·exact hc
 split
 ·exact hc.setS _
 split
 ·exact hc.setE (by have := hin.1; have := hin.2; omega)
 ·exact hc
theorem z8s {w : List Nat} (hw : Wd (kk m) w) {c : z8} (hc : COk m c) : COk m (z8t m w c) := uv (I := fun _ c => COk m c) hc _ fun i s _ hs => Kd h hw i hs
theorem zeJ {w : List Nat} (hw : Wd (kk m) w) {c : z8} (hc : COk m c) {s : Nat} : UJ (z8t m w c) s ↔ aft m 0 w = s ∨ UJ c s := by
 have gen : ∀ n, COk m ((List.range n).foldl (fun c k => WZ m w k c) c) ∧ (UJ ((List.range n).foldl (fun c k => WZ m w k c) c) s ↔ (w.length < n ∧ aft m 0 w = s) ∨ UJ c s) := by
  intro n
  induction n with
  | zero => exact ⟨hc, by simp⟩
  | succ n ih =>
   obtain ⟨i1, i2⟩ := ih
   rw [xo (fun k c => WZ m w k c)]
   refine ⟨Kd h hw n i1, ?_⟩
   have hin := UR h hw n
   generalize (List.range n).foldl (fun c k => WZ m w k c) c = d at i1 i2 ⊢
   unfold WZ
   split
   ·rename_i q
    rw [i2]
    by_cases hn : n = w.length
    ·have e : aft m 0 w = -1 := by rw [← q, hn, List.take_length]
     rw [e]
     constructor
     ·rintro (⟨a, b⟩ | b)
      ·omega
      ·exact .inr b
     ·rintro (⟨a, b⟩ | b)
      ·omega
      ·exact .inr b
    ·constructor
     ·rintro (⟨a, b⟩ | b)
      ·exact .inl ⟨by omega, b⟩
      ·exact .inr b
     ·rintro (⟨a, b⟩ | b)
      ·exact .inl ⟨by omega, b⟩
      ·exact .inr b
   ·rename_i q
    split
    ·rename_i hn
     subst hn
     rw [List.take_length] at q hin ⊢
     rw [z3Z i1 (by have := hin.1; have := hin.2; omega), i2]
     constructor
     ·rintro (rfl | ⟨a, b⟩ | b)
      ·exact .inl ⟨by omega, by have := hin.1; omega⟩
      ·omega
      ·exact .inr b
     ·rintro (⟨a, b⟩ | b)
      ·exact .inl (by omega)
      ·exact .inr (.inr b)
    ·rename_i hn
     have e2 : ∀ c', UJ c' s ↔ UJ c' s := fun _ => Iff.rfl
     split
     ·rw [z40, i2]
      constructor
      ·rintro (⟨a, b⟩ | b)
       ·exact .inl ⟨by omega, b⟩
       ·exact .inr b
      ·rintro (⟨a, b⟩ | b)
       ·exact .inl ⟨by omega, b⟩
       ·exact .inr b
     ·rw [i2]
      constructor
      ·rintro (⟨a, b⟩ | b)
       ·exact .inl ⟨by omega, b⟩
       ·exact .inr b
      ·rintro (⟨a, b⟩ | b)
       ·exact .inl ⟨by omega, b⟩
       ·exact .inr b
 unfold z8t
 rw [(gen (w.length + 1)).2]
 constructor
 ·rintro (⟨_, b⟩ | b)
  ·exact .inl b
  ·exact .inr b
 ·rintro (b | b)
  ·exact .inl ⟨by omega, b⟩
  ·exact .inr b
def z2W (m : z7) (w : List Nat) (s i : Nat) : Prop := w[w.length - 1]? = some i ∧ aft m 0 (w.take (w.length - 1)) = s
theorem zeK {w : List Nat} (hw : Wd (kk m) w) {c : z8} (hc : COk m c) {s i : Nat} : JD (z8t m w c) s i ↔ z2W m w s i ∨ JD c s i := by
 have gen : ∀ n, COk m ((List.range n).foldl (fun c k => WZ m w k c) c) ∧ (JD ((List.range n).foldl (fun c k => WZ m w k c) c) s i ↔ (w.length ≤ n ∧ z2W m w s i) ∨ JD c s i) := by
  intro n
  induction n with
  | zero =>
   refine ⟨hc, ?_⟩
   constructor
   ·exact .inr
   ·rintro (⟨a, b⟩ | b)
    ·have := (List.getElem?_eq_some_iff.1 b.1).1; omega
    ·exact b
  | succ n ih =>
   obtain ⟨i1, i2⟩ := ih
   rw [xo (fun k c => WZ m w k c)]
   refine ⟨Kd h hw n i1, ?_⟩
   have hin := UR h hw n
   have same : n + 1 ≠ w.length → ((w.length ≤ n + 1 ∧ z2W m w s i) ↔ (w.length ≤ n ∧ z2W m w s i)) := by
    intro q
    constructor
    ·rintro ⟨a, b⟩; exact ⟨by omega, b⟩
    ·rintro ⟨a, b⟩; exact ⟨by omega, b⟩
   generalize (List.range n).foldl (fun c k => WZ m w k c) c = d at i1 i2 ⊢
   unfold WZ
   by_cases hn1 : n + 1 = w.length
   ·have hn0 : ¬ n = w.length := by omega
    have hlast : w.length - 1 = n := by omega
    have hx : w[n]? = some w[n] := List.getElem?_eq_getElem (by omega)
    split
    ·rename_i q
     rw [i2]
     unfold z2W
     rw [hlast, q]
     constructor
     ·rintro (⟨a, b⟩ | b)
      ·omega
      ·exact .inr b
     ·rintro (⟨a, b, d⟩ | b)
      ·omega
      ·exact .inr b
    ·rename_i q
     rw [hx, Option.getD_some, z41 i1 (by have := hin.1; have := hin.2; omega) (hw _ (List.getElem_mem (by omega))), i2]
     unfold z2W
     rw [hlast, hx]
     constructor
     ·rintro (⟨rfl, rfl⟩ | ⟨a, b⟩ | b)
      ·exact .inl ⟨by omega, rfl, by have := hin.1; omega⟩
      ·omega
      ·exact .inr b
     ·rintro (⟨a, b, d⟩ | b)
      ·exact .inl ⟨by omega, by simpa using b.symm⟩
      ·exact .inr (.inr b)
   ·rw [same hn1]
    split
    ·exact i2
    split
    ·rw [UK]; exact i2
    ·exact i2
 unfold z8t
 rw [(gen (w.length + 1)).2]
 constructor
 ·rintro (⟨_, b⟩ | b)
  ·exact .inl b
  ·exact .inr b
 ·rintro (b | b)
  ·exact .inl ⟨by omega, b⟩
  ·exact .inr b
theorem z51 : ∀ {l : List (List Nat)} {c : z8}, (∀ w ∈ l, Wd (kk m) w) → COk m c → COk m (z64 m l c) ∧ (∀ s, UJ (z64 m l c) s ↔ (∃ w ∈ l, aft m 0 w = s) ∨ UJ c s) ∧ ∀ s i, JD (z64 m l c) s i ↔ (∃ w ∈ l, z2W m w s i) ∨ JD c s i
 | [], c, _, hc => ⟨hc, by simp [z64], by simp [z64]⟩
 | w :: l, c, hw, hc => by
  have h1 := z8s h (hw w (by simp)) hc
  obtain ⟨g1, g2, g3⟩ := z51 (l := l) (c := z8t m w c) (fun v hv => hw v (by simp [hv])) h1
  refine ⟨g1, fun s => ?_, fun s i => ?_⟩
  ·show UJ (z64 m l (z8t m w c)) s ↔ _
   rw [g2, zeJ h (hw w (by simp)) hc]
   simp only [List.mem_cons, exists_eq_or_imp]
   constructor
   ·rintro (q | q | q)
    ·exact .inl (.inr q)
    ·exact .inl (.inl q)
    ·exact .inr q
   ·rintro ((q | q) | q)
    ·exact .inr (.inl q)
    ·exact .inl q
    ·exact .inr (.inr q)
  ·show JD (z64 m l (z8t m w c)) s i ↔ _
   rw [g3, zeK h (hw w (by simp)) hc]
   simp only [List.mem_cons, exists_eq_or_imp]
   constructor
   ·rintro (q | q | q)
    ·exact .inl (.inr q)
    ·exact .inl (.inl q)
    ·exact .inr q
   ·rintro ((q | q) | q)
    ·exact .inr (.inl q)
    ·exact .inl q
    ·exact .inr (.inr q)
theorem z52 {w : List Nat} (hw : Wd (kk m) w) (hl : w.length ≤ 100000) {k : Nat} (hk : k ≤ w.length) {c : z8} (hc : COk m c) (hne : aft m 0 (w.take k) ≠ -1) : qz (w.map Int.ofNat) (aft m 0 (w.take k)) (k : Int) c = some (WZ m w k c) := by
 have hin := UR h hw k
 unfold WZ
 rw [if_neg hne]
 obtain ⟨n, hn⟩ : ∃ n : Nat, aft m 0 (w.take k) = n := ⟨(aft m 0 (w.take k)).toNat, by have := hin.1; omega⟩
 rw [hn] at hin ⊢
 have hn1 : n < m.Rows.length := by have := hin.2; omega
 obtain ⟨b, hb⟩ := hc.stAt hn1
 obtain ⟨e, he, hel⟩ := hc.rowAt hn1
 unfold qz
 rw [List.length_map]
 simp only [Int.toNat_natCast]
 by_cases h1 : k = w.length
 ·have : ((k : Int) == (w.length : Int)) = true := by simp [h1]
  rw [this, cond_true, if_pos h1, zk hb, oB]
  rfl
 ·have q1 : ((k : Int) == (w.length : Int)) = false := by simp; omega
  rw [q1, cond_false, if_neg h1]
  have hw1 : w64 ((w.length : Int) - 1) = (w.length : Int) - 1 := y7 (by omega) (by omega)
  rw [hw1]
  by_cases h2 : k + 1 = w.length
  ·have q2 : ((k : Int) == (w.length : Int) - 1) = true := by simp; omega
   have hx : w[k]? = some w[k] := List.getElem?_eq_getElem (by omega)
   have hm : (w.map Int.ofNat)[k]? = some (w[k] : Int) := by rw [List.getElem?_map, hx]; rfl
   have hik : w[k] < kk m := hw _ (List.getElem_mem (by omega))
   have hie : e[w[k]]? = some e[w[k]] := List.getElem?_eq_getElem (by omega)
   rw [q2, cond_true, if_pos h2, zk he, oB, zk hm, oB, zk hie, oB, hx, Option.getD_some]
   simp [setE, he]
  ·have q2 : ((k : Int) == (w.length : Int) - 1) = false := by simp; omega
   rw [q2, cond_false, if_neg h2]
theorem z9d {w : List Nat} (hw : Wd (kk m) w) (hl : w.length ≤ 100000) {yy : z8 → Int × Int → Option z8} {g : Nat → z8 → z8} (hg : ∀ k c, aft m 0 (w.take k) = -1 → g k c = c) (hok : ∀ k c, COk m c → COk m (g k c))
  (hy : ∀ k c, k ≤ w.length → COk m c → aft m 0 (w.take k) ≠ -1 → yy c (aft m 0 (w.take k), (k : Int)) = some (g k c)) {c : z8} (hc : COk m c) :
  vt m (w.map Int.ofNat) yy c = some ((List.range (w.length + 1)).foldl (fun c k => g k c) c) := by
 unfold vt
 have c0 := hy 0 c (Nat.zero_le _) hc (by show (0 : Int) ≠ -1; omega)
 refine Eq.trans (bdT c0) ?_
 have run : Ret (loop (fun s => vq yy m (w.map Int.ofNat) s.1 s.2.1 s.2.2) (g 0 c, 0, 0)) fun r => r = (List.range (w.length + 1)).foldl (fun c k => g k c) c := by
  refine xm (fun q => ∃ k : Nat, q.2.2 = (k : Int) ∧ k ≤ w.length ∧ q.2.1 = aft m 0 (w.take k) ∧ q.2.1 ≠ -1 ∧ q.1 = (List.range (k + 1)).foldl (fun c k => g k c) c) (fun q => 200000 - q.2.2.toNat) ⟨0, rfl, Nat.zero_le _, rfl, by simp, rfl⟩ (by show 200000 - _ < _; omega) ?_
  rintro ⟨q, s, _⟩ ⟨k, rfl, hk, hs, hne, hq⟩
  simp only at hs hne hq
  unfold vq
  simp only [List.length_map]
  have hin := UR h hw k
  rw [← hs] at hin
  have hqok : COk m q := by rw [hq]; exact uv (I := fun _ c => COk m c) hc _ fun i s _ hs => hok i s hs
  obtain ⟨n, rfl⟩ : ∃ n : Nat, s = n := ⟨s.toNat, by have := hin.1; omega⟩
  have hn : n < m.Rows.length := by have := hin.2; omega
  rw [yx]
  refine ⟨fun hc1 => ?_, fun hc1 => ?_⟩
  ·have hlt : k < w.length := by simpa using hc1
   have hi : w[k]? = some w[k] := List.getElem?_eq_getElem hlt
   have hik : w[k] < kk m := hw _ (List.getElem_mem hlt)
   have hm : (w.map Int.ofNat)[k]? = some (w[k] : Int) := by rw [List.getElem?_map, hi]; rfl
   obtain ⟨r, hr, hrl, hre⟩ := h.rowAt hn
   have hto : aft m 0 (w.take (k + 1)) = (E m n w[k]).To := by rw [z6j hi, ← hs, Qx]
   rw [zk hm, oB, zk hr, oB, zk (hre _ hik), oB, yx]
   have hw1 : w64 ((k : Int) + 1) = ((k + 1 : Nat) : Int) := kH (by omega)
   refine ⟨fun hc2 => ?_, fun hc2 => ?_⟩
   ·have hto1 : (E m n w[k]).To = -1 := by simpa using hc2
    rw [zn]
    show q = _
    rw [hq]
    have : ∀ d, (List.range (k + 1 + d)).foldl (fun c k => g k c) c = (List.range (k + 1)).foldl (fun c k => g k c) c := by
     intro d
     induction d with
     | zero => rfl
     | succ d ih =>
      rw [show k + 1 + (d + 1) = (k + 1 + d) + 1 by omega, xo g, ih]
      refine hg _ _ ?_
      have h1 : w.take (k + 1 + d) = w.take (k + 1) ++ (w.drop (k + 1)).take d := by rw [List.take_add]
      rw [h1, z5e, hto, hto1]
      have h2 := z5d m ((w.drop (k + 1)).take d) (-1) (by omega)
      have h3 := (z1M h ((w.drop (k + 1)).take d) (-1) ⟨by omega, by have := h.len1; omega⟩ fun i hi => hw i (List.mem_of_mem_drop (List.mem_of_mem_take hi))).1
      omega
    have e := this (w.length - k)
    rw [show k + 1 + (w.length - k) = w.length + 1 by omega] at e
    exact e.symm
   ·have hto1 : (E m n w[k]).To ≠ -1 := by simpa using hc2
    rcases h.edgeAt hn hik with ⟨gg, _⟩ | ⟨g1, g2, _⟩
    ·exact absurd gg hto1
    ·have q2 := hy (k + 1) q hlt hqok (by rw [hto]; exact hto1)
     rw [hto] at q2
     rw [hw1, q2, oB, zn]
     refine ⟨⟨k + 1, rfl, hlt, hto.symm, hto1, ?_⟩, by simp only; omega⟩
     rw [xo g, ← hq]
  ·have hge : k = w.length := by simp at hc1; omega
   subst hge
   rw [zn]
   exact hq
 exact bdT run.eq
theorem z8r {l : List (List Nat)} (hw : ∀ w ∈ l, Wd (kk m) w) (hl : l.length ≤ 100000) (hl2 : ∀ w ∈ l, w.length ≤ 100000) : kz m (l.map (List.map Int.ofNat)) = some (z64 m l (Wx m)) := by
 unfold kz
 rw [z65 h, oB]
 have e2 : loop (fun s => uA m (l.map (List.map Int.ofNat)) s.1 s.2.1 s.2.2) ((Wx m).States, (Wx m).Edges, 0) = some ((z64 m l (Wx m)).States, (z64 m l (Wx m)).Edges) := by
  have hfl := WV (fun w c => z8t m w c) ([] : List Nat) l (Wx m)
  refine z07 (σ := z8) (fun c k => (c.States, c.Edges, (k : Int))) (fun i c => z8t m ((l[i]?).getD []) c) (fun _ c => COk m c) l.length (by omega) Yo (fun i c hi hc => ?_) (fun _ => ?_)
  ·have hx : l[i]? = some l[i] := List.getElem?_eq_getElem hi
   have hm : (l.map (List.map Int.ofNat))[i]? = some (l[i].map Int.ofNat) := by rw [List.getElem?_map, hx]; rfl
   have hW := hw _ (List.getElem_mem hi)
   have hL := hl2 _ (List.getElem_mem hi)
   simp only [hx, Option.getD_some]
   refine ⟨?_, z8s h hW hc⟩
   unfold uA
   rw [List.length_map, decide_eq_true (by omega), cond_true, zk hm, oB]
   refine Eq.trans (bdT (z9d h hW hL (yy := fun s x => qz (l[i].map Int.ofNat) x.1 x.2 s) (g := fun k c => WZ m l[i] k c) (fun k c q => by unfold WZ; rw [if_pos q]) (fun k c hc => Kd h hW k hc) (fun k c hk hc hne => z52 h hW hL hk hc hne) (c := c) hc)) ?_
   rw [kH (by omega)]
   rfl
  ·rw [hfl]
   simp only
   unfold uA
   rw [List.length_map, decide_eq_false (by omega), cond_false]
   rfl
 refine Eq.trans (bdT e2) ?_
 rfl
end
def zcE (m : z7) (w : List Nat) (s i : Nat) : Bool := decide (w[w.length - 1]? = some i) && decide (aft m 0 (w.take (w.length - 1)) = (s : Int))
def scB (m : z7) (l : List (List Nat)) : Bool := (List.range m.Rows.length).all fun s => l.any fun w => aft m 0 w == (s : Int)
def tcB (m : z7) (l : List (List Nat)) : Bool := (List.range m.Rows.length).all fun s => (List.range (kk m)).all fun i => l.any fun w => zcE m w s i
theorem z3S {m : z7} {w : List Nat} {s i : Nat} : zcE m w s i = true ↔ z2W m w s i := by
 unfold zcE z2W
 rw [Bool.and_eq_true, decide_eq_true_iff, decide_eq_true_iff]
section
variable {m : z7} (h : VM m) {l : List (List Nat)} (hw : ∀ w ∈ l, Wd (kk m) w) (hl : l.length ≤ 100000) (hl2 : ∀ w ∈ l, w.length ≤ 100000)
include h hw hl hl2
omit h hw hl hl2 in
theorem z4d {s i : Nat} : ¬ UJ (Wx m) s ∧ ¬ JD (Wx m) s i := by
 unfold UJ JD Wx
 simp only [List.getElem?_replicate]
 constructor
 ·intro q; split at q <;> cases q
 ·rintro ⟨e, q1, q2⟩
  split at q1
  ·cases q1
   rw [List.getElem?_replicate] at q2
   split at q2 <;> cases q2
  ·cases q1
theorem z7K (hr : xy m (l.map (List.map Int.ofNat)) = some 0) : yH m (l.map (List.map Int.ofNat)) = some (scB m l, 0) := by
 obtain ⟨g1, g2, _⟩ := z51 h (c := Wx m) hw Yo
 unfold yH
 have b0 : ((0 : Int) != 0) = false := rfl
 rw [hr, oB, b0, cond_false, z8r h hw hl hl2, oB, zav _ (by rw [g1.st]; have := h.len64; omega), oB]
 congr 2
 rw [Bool.eq_iff_iff]
 unfold scB
 simp only [List.all_eq_true, List.any_eq_true, List.mem_range, beq_iff_eq, id]
 constructor
 ·intro q s hs
  have hlt : s < (z64 m l (Wx m)).States.length := by rw [g1.st]; exact hs
  have hx : (z64 m l (Wx m)).States[s]? = some (z64 m l (Wx m)).States[s] := List.getElem?_eq_getElem hlt
  have := q _ (List.mem_of_getElem? hx)
  rw [this] at hx
  rcases (g2 s).1 hx with q | q
  ·exact q
  ·exact absurd q (z4d (i := 0)).1
 ·intro q b hb
  obtain ⟨s, hs⟩ := List.mem_iff_getElem?.1 hb
  have hs' : s < m.Rows.length := by have := (List.getElem?_eq_some_iff.1 hs).1; rw [g1.st] at this; exact this
  have := (g2 s).2 (.inl (q s hs'))
  unfold UJ at this
  rw [hs] at this
  cases this; rfl
theorem z7J (hr : xy m (l.map (List.map Int.ofNat)) = some 0) : y6 m (l.map (List.map Int.ofNat)) = some (tcB m l, 0) := by
 obtain ⟨g1, _, g3⟩ := z51 h (c := Wx m) hw Yo
 have hrow : ∀ e ∈ (z64 m l (Wx m)).Edges, e.length = kk m := fun e he => by
  obtain ⟨s, hs⟩ := List.mem_iff_getElem?.1 he
  exact g1.row s e hs
 unfold y6
 have b0 : ((0 : Int) != 0) = false := rfl
 have hk := h.kk_le
 rw [hr, oB, b0, cond_false, z8r h hw hl hl2, oB, z8n _ (by rw [g1.ed]; have := h.len64; omega) (fun e he => by rw [hrow e he]; omega), oB]
 congr 2
 rw [Bool.eq_iff_iff]
 unfold tcB
 simp only [List.all_eq_true, List.any_eq_true, List.mem_range, id, z3S]
 constructor
 ·intro q s hs i hi
  obtain ⟨e, he, hel⟩ := g1.rowAt hs
  have hx : e[i]? = some e[i] := List.getElem?_eq_getElem (by omega)
  have := q e (List.mem_of_getElem? he) _ (List.mem_of_getElem? hx)
  rw [this] at hx
  rcases (g3 s i).1 ⟨e, he, hx⟩ with q | q
  ·exact q
  ·exact absurd q z4d.2
 ·intro q e he b hb
  obtain ⟨s, hs⟩ := List.mem_iff_getElem?.1 he
  have hs' : s < m.Rows.length := by have := (List.getElem?_eq_some_iff.1 hs).1; rw [g1.ed] at this; exact this
  obtain ⟨i, hi⟩ := List.mem_iff_getElem?.1 hb
  have hi' : i < kk m := by have := (List.getElem?_eq_some_iff.1 hi).1; rw [hrow e he] at this; exact this
  obtain ⟨e2, k1, k2⟩ := (g3 s i).2 (.inl (q s hs' i hi'))
  rw [hs] at k1
  cases k1
  rw [hi] at k2
  cases k2; rfl
end
theorem z4O {l : List Int} (h : ∀ c ∈ l, 0 ≤ c) : (l.map Int.toNat).map Int.ofNat = l := by
 rw [List.map_map]
 conv => rhs; rw [← List.map_id l]
 exact List.map_congr_left fun c hc => by have := h c hc; show ((c.toNat : Nat) : Int) = c; omega
def Kb (l : List (List Int)) : List (List Nat) := l.map (List.map Int.toNat)
theorem zcu {n : Int} {L k : Nat} {l : List (List Int)} (h : Wq n L k l) : (Kb l).map (List.map Int.ofNat) = l := by
 unfold Kb
 rw [List.map_map]
 conv => rhs; rw [← List.map_id l]
 exact List.map_congr_left fun w hw => z4O fun c hc => ((h.2.2 w hw).2 c hc).1
theorem zct {m : z7} (v : VM m) {L k : Nat} {l : List (List Int)} (h : Wq m.Inputs L k l) : (∀ w ∈ Kb l, Wd (kk m) w) ∧ (Kb l).length = l.length ∧ ∀ w ∈ Kb l, w.length ≤ k := by
 refine ⟨fun w hw i hi => ?_, by simp [Kb], fun w hw => ?_⟩
 ·obtain ⟨u, hu, rfl⟩ := List.mem_map.1 hw
  obtain ⟨c, hc, rfl⟩ := List.mem_map.1 hi
  have := (h.2.2 u hu).2 c hc
  have := v.kk_eq
  omega
 ·obtain ⟨u, hu, rfl⟩ := List.mem_map.1 hw
  rw [List.length_map]
  exact (h.2.2 u hu).1
theorem za0 (m : z7) (l : List (List Int)) : xy m l = some (if chk m ≠ 0 then chk m else chE m.Inputs l) := by
 unfold xy
 rw [z2G, oB]
 by_cases h : chk m = 0
 ·rw [h, bne_self_eq_false, cond_false, Us, oB, if_neg (by omega)]
 ·have : (chk m != 0) = true := by simpa using h
  rw [this, cond_true, if_pos h]
theorem zea {m : z7} (v : VM m) {c : z8} (h : COk m c) : kq c c = some true := by
 have hN := v.len64
 have hk := v.kk_le
 have hs := h.st
 have he := h.ed
 unfold kq
 rw [bne_self_eq_false, cond_false, bne_self_eq_false, cond_false]
 rw [bdT (xI c.States (by omega) (step := fun s => qm c c s) (fun _ _ => none) ?_ ?_), qd (fun _ _ _ => rfl)]
 ·unfold oS ZF
  simp only
  rw [bdT (xI c.Edges (by omega) (step := fun s => qo c c s) (fun _ _ => none) ?_ ?_), qd (fun _ _ _ => rfl)]
  ·rfl
  ·intro i x hx
   have hi := (List.getElem?_eq_some_iff.1 hx).1
   have hxl := h.row i x hx
   unfold qo
   rw [decide_eq_true (by omega), cond_true, zk hx, oB, oB, bne_self_eq_false, cond_false,
    bdT (xI x (by omega) (step := fun s => qn c c (i : Int) s) (fun _ _ => none) ?_ ?_), qd (fun _ _ _ => rfl)]
   ·rfl
   ·intro j y hy
    have hj := (List.getElem?_eq_some_iff.1 hy).1
    unfold qn
    rw [zk hx, oB, decide_eq_true (by omega), cond_true, oB, zk hy, oB, oB, zk hy, oB]
    simp [nS]
   ·unfold qn
    rw [zk hx, oB, decide_eq_false (by omega), cond_false]
  ·unfold qo
   rw [decide_eq_false (by omega), cond_false]
 ·intro i x hx
  have hi := (List.getElem?_eq_some_iff.1 hx).1
  unfold qm
  rw [decide_eq_true (by omega), cond_true, zk hx, oB, oB]
  simp [nS]
 ·unfold qm
  rw [decide_eq_false (by omega), cond_false]
theorem z4r {l : List (List Int)} {k : Int} (hk : 1 ≤ k) {i : Nat} {w : List Int} (hw : l[i]? = some w) (h0 : ∀ c ∈ w, 0 ≤ c) (hl : w.length ≤ 100000) :
  Ret (loop (fun s => vM l k (i : Int) s.1 s.2) (([] : List Int), 0)) fun r => r.length ≤ w.length ∧ ∀ c ∈ r, 0 ≤ c ∧ c < k := by
 refine xm (fun q => ∃ j : Nat, q.2 = (j : Int) ∧ j ≤ w.length ∧ q.1.length = j ∧ ∀ c ∈ q.1, 0 ≤ c ∧ c < k) (fun q => 200000 - q.2.toNat) ⟨0, rfl, Nat.zero_le _, rfl, by simp⟩ (by show 200000 - _ < _; omega) ?_
 rintro ⟨q, _⟩ ⟨j, rfl, hj, hq, hc⟩
 simp only at hq hc
 show Ret (vM l k (i : Int) q (j : Int)) _
 unfold vM
 rw [zk hw, oB, yx]
 refine ⟨fun h1 => ?_, fun h1 => zn.2 ⟨by omega, hc⟩⟩
 have hlt : j < w.length := by simpa using h1
 have hx : w[j]? = some w[j] := List.getElem?_eq_getElem hlt
 have hp := h0 _ (List.getElem_mem hlt)
 rw [oB, zk hx, oB, gdT (by omega), gdT (by simp; omega), zn, kH (by omega), Int.tmod_eq_emod_of_nonneg hp]
 refine ⟨⟨j + 1, rfl, hlt, by simp [hq], fun c hm => ?_⟩, by simp only; omega⟩
 rcases List.mem_append.1 hm with g | g
 ·exact hc c g
 ·rw [List.mem_singleton.1 g]
  exact ⟨Int.emod_nonneg _ (by omega), Int.emod_lt_of_pos _ (by omega)⟩
theorem z6n {n : Int} {L K : Nat} {l : List (List Int)} (h : Wq n L K l) (hL : L ≤ 1000) (hK : K ≤ 1000) {k : Int} (hk : 1 ≤ k) : Ret (kV l k) (Wq k L K) := by
 have hlen := h.2.1
 have loop_ : Ret (loop (fun s => vN l k s.1 s.2) (([] : List (List Int)), 0)) fun r => r.length ≤ L ∧ ∀ w ∈ r, w.length ≤ K ∧ ∀ c ∈ w, 0 ≤ c ∧ c < k := by
  refine xm (fun q => ∃ j : Nat, q.2 = (j : Int) ∧ j ≤ l.length ∧ q.1.length = j ∧ ∀ w ∈ q.1, w.length ≤ K ∧ ∀ c ∈ w, 0 ≤ c ∧ c < k) (fun q => 2000 - q.2.toNat) ⟨0, rfl, Nat.zero_le _, rfl, by simp⟩ (by show 2000 - _ < _; omega) ?_
  rintro ⟨q, _⟩ ⟨j, rfl, hj, hq, hc⟩
  simp only at hq hc
  show Ret (vN l k q (j : Int)) _
  unfold vN
  rw [yx]
  refine ⟨fun h1 => ?_, fun h1 => zn.2 ⟨by omega, hc⟩⟩
  have hlt : j < l.length := by simpa using h1
  have hx : l[j]? = some l[j] := List.getElem?_eq_getElem hlt
  obtain ⟨b1, b2⟩ := h.2.2 _ (List.getElem_mem hlt)
  rw [ym]
  refine (z4r hk hx (fun c hc => (b2 c hc).1) (by omega)).mono fun r hr => ?_
  unfold jz jA
  rw [gdT (by simp; omega), zn, kH (by omega)]
  refine ⟨⟨j + 1, rfl, hlt, by simp [hq], fun w hm => ?_⟩, by simp only; omega⟩
  rcases List.mem_append.1 hm with g | g
  ·exact hc w g
  ·rw [List.mem_singleton.1 g]
   exact ⟨by have := hr.1; omega, hr.2⟩
 unfold kV
 rw [ym]
 refine loop_.mono fun r hr => ?_
 unfold jB
 rw [z5D (by have := hr.1; omega) (fun w hw => by have := (hr.2 w hw).1; omega), oB, zn]
 exact ⟨Wk r, Nat.le_trans (YQ r) hr.1, fun w hw => hr.2 w (wI.1 hw)⟩
theorem z3N : XX = some true := by kernel_rfl
theorem z5P : ∀ {u v : List Int} (x y : List Int), u.length = v.length → wv u v < 0 → wv (u ++ x) (v ++ y) < 0
 | [], [], _, _, _, h => by simp [wv] at h
 | [], _ :: _, _, _, h, _ => by simp at h
 | _ :: _, [], _, _, h, _ => by simp at h
 | a :: u, b :: v, x, y, hl, h => by
  simp only [List.cons_append, wv] at h ⊢
  by_cases h1 : a < b
  ·simp [h1]
  ·by_cases h2 : b < a
   ·simp [h1, h2] at h
   ·simp only [h1, h2, if_false] at h ⊢
    exact z5P x y (by simpa using hl) h
theorem z3O : ∀ (u : List Int) {s t : Int}, s < t → wv (u ++ [s]) (u ++ [t]) < 0
 | [], s, t, h => by simp [wv, h]
 | a :: u, s, t, h => by
  simp only [List.cons_append, wv, Int.lt_irrefl, if_false]
  exact z3O u h
theorem z2D {a b : List Int} (h : a.length = b.length) : j5 a b = wv a b := by unfold j5; rw [if_neg (by omega), if_neg (by omega)]
theorem zcM (a : Nat) (w : List Int) : SW (Ki a w) := by
 unfold Ki SW
 rw [List.pairwise_map]
 refine List.Pairwise.imp (fun {s t} h => ?_) List.pairwise_lt_range
 rw [z2D (by simp)]
 exact z3O w (by omega)
theorem z4V (a k : Nat) : ∀ {l : List (List Int)}, SW l → (∀ w ∈ l, w.length = k) → SW (l.flatMap (Ki a))
 | [], _, _ => by simp [SW]
 | w :: l, h, hk => by
  rw [List.flatMap_cons]
  unfold SW
  rw [List.pairwise_append]
  refine ⟨zcM a w, z4V a k h.tail fun x hx => hk x (by simp [hx]), fun x hx y hy => ?_⟩
  simp only [Ki, List.mem_map] at hx
  obtain ⟨s, _, rfl⟩ := hx
  rw [List.mem_flatMap] at hy
  obtain ⟨v, hv, hy⟩ := hy
  simp only [Ki, List.mem_map] at hy
  obtain ⟨t, _, rfl⟩ := hy
  have e1 := hk w (by simp)
  have e2 := hk v (by simp [hv])
  rw [z2D (by simp [e1, e2])]
  have := h.head v hv
  rw [z2D (by omega)] at this
  exact z5P _ _ (by omega) this
theorem zbh (a : Nat) : ∀ k, SW (exW a k)
 | 0 => by simp [exW, SW]
 | k + 1 => z4V a k (zbh a k) (YM a k)
def boE (n : Int) (a b : List (List Int)) : Int := if chE n a ≠ 0 then chE n a else chE n b
theorem zaH {n : Int} {a b : List (List Int)} : boE n a b = 0 ↔ chE n a = 0 ∧ chE n b = 0 := by
 unfold boE
 by_cases h : chE n a = 0
 ·rw [if_neg (by simp [h])]; simp [h]
 ·rw [if_pos h]; simp [h]
theorem zeP (n : Int) (a b : List (List Int)) : Xi n [a, b] = some (boE n a b) := by
 unfold Xi
 rw [bdT (xI [a, b] (by simp) (step := fun s => qg n [a, b] s) (fun i v => eS (chE n v)) ?_ ?_)]
 ·unfold boE eS
  by_cases h1 : chE n a = 0
  ·by_cases h2 : chE n b = 0
   ·simp [yK, h1, h2, oS, ZB]
   ·simp [yK, h1, h2, oS]
  ·simp [yK, h1, oS]
 ·intro i v hv
  have hi : i < [a, b].length := (List.getElem?_eq_some_iff.1 hv).1
  unfold qg
  have hc : decide ((i : Int) < (([a, b] : List (List (List Int))).length : Int)) = true := by simp only [decide_eq_true_eq]; omega
  simp only [hc, cond_true, zk hv, oB, Us]
  by_cases h : chE n v = 0
  ·simp [h, nS, eS]
  ·have hb : (chE n v != 0) = true := by simpa using h
   simp [h, hb, nS, eS]
 ·unfold qg; simp
def qN (a b : List (List Int)) : List (List Int) := a.flatMap fun u => b.map fun v => u ++ v
theorem Yi {a b : List (List Int)} {x : List Int} : x ∈ qN a b ↔ ∃ u ∈ a, ∃ v ∈ b, u ++ v = x := by simp [qN]
theorem z7F (a b : List (List Int)) : (qN a b).length = a.length * b.length := by
 induction a with
 | nil => simp [qN]
 | cons u a ih =>
  have e : qN (u :: a) b = b.map (fun v => u ++ v) ++ qN a b := rfl
  rw [e, List.length_append, ih, List.length_map, List.length_cons, Nat.succ_mul]; omega
theorem z6y {a b : List (List Int)} {i : Nat} (hi : i < a.length) : qN (a.take (i + 1)) b = qN (a.take i) b ++ b.map fun v => a[i] ++ v := by
 unfold qN
 rw [List.take_add_one, List.getElem?_eq_getElem hi, List.flatMap_append]
 simp
theorem z7Y (l : List (List UInt8 × Bool)) (x y : List UInt8) (v : Bool) : z1w (z5L l x v) y = if x = y then some v else z1w l y := by
 induction l with
 | nil =>
  by_cases h : x = y
  ·simp [z5L, z1w, h]
  ·simp [z5L, z1w, h]
 | cons p l ih =>
  by_cases h : p.1 = x
  ·by_cases h2 : x = y
   ·simp [z5L, z1w, h, h2]
   ·simp [z5L, z1w, h, h2]
  ·by_cases h2 : p.1 = y
   ·have : ¬ x = y := fun e => h (h2.trans e.symm)
    have t2 : ¬ y = x := fun e => this e.symm
    simp [z5L, z1w, h2, this, t2]
   ·have hb : (p.1 == x) = false := beq_eq_false_iff_ne.2 h
    simp [z5L, z1w, hb, h2, ih]
def z87 (w : List Int) : List UInt8 := u8s (w.map fun c => IntKind.u8.wrap c)
theorem zex {w : List Int} (h : w.length ≤ 1000) : WL w = some (z87 w) := by
 unfold WL
 rw [gdT (by omega)]
 have hl := YL (step := fun s => vW w s.1 s.2) (fun i => ((w.take i).map (fun c => IntKind.u8.wrap c) ++ List.replicate (w.length - i) (0 : Int), (i : Int))) w.length (t := w.map fun c => IntKind.u8.wrap c) (by omega) (by
  intro i hi
  show vW w _ (i : Int) = _
  unfold vW
  have hq : decide ((i : Int) < (w.length : Int)) = true := by simpa using hi
  have hx : w[i]? = some w[i] := List.getElem?_eq_getElem hi
  have hA : ((w.take i).map (fun c => IntKind.u8.wrap c)).length = i := by rw [List.length_map, List.length_take]; omega
  have hr : List.replicate (w.length - i) (0 : Int) = 0 :: List.replicate (w.length - (i + 1)) 0 := by
   rw [show w.length - i = (w.length - (i + 1)) + 1 by omega]; rfl
  have hy : ((w.take i).map (fun c => IntKind.u8.wrap c) ++ List.replicate (w.length - i) (0 : Int))[i]? = some 0 := by
   rw [List.getElem?_append_right (by omega), hA, hr]; simp
  simp only [hq, cond_true, zk hx, zk hy, oB, Int.toNat_natCast]
  rw [y7 (by omega) (by omega), List.set_append_right _ _ (by omega), hA, Nat.sub_self, hr, List.set_cons_zero, List.take_add_one, hx, List.map_append, List.append_assoc]
  rfl) (by
  show vW w _ (w.length : Int) = _
  unfold vW
  simp)
 have h0 : ((w.take 0).map (fun c => IntKind.u8.wrap c) ++ List.replicate (w.length - 0) (0 : Int), ((0 : Nat) : Int)) = (List.replicate ((w.length : Nat) : Int).toNat (0 : Int), (0 : Int)) := by simp
 rw [h0] at hl
 rw [bdT hl]
 rfl
theorem z5S : ∀ {v w : List Int}, (∀ c ∈ v, 0 ≤ c ∧ c < 16) → (∀ c ∈ w, 0 ≤ c ∧ c < 16) → z87 v = z87 w → v = w
 | [], [], _, _, _ => rfl
 | [], _ :: _, _, _, h => by simp [z87, u8s] at h
 | _ :: _, [], _, _, h => by simp [z87, u8s] at h
 | x :: v, y :: w, hv, hw, h => by
  simp only [z87, u8s, List.map_cons, List.cons.injEq] at h
  have hx := hv x (by simp)
  have hy := hw y (by simp)
  have wr : ∀ z : Int, 0 ≤ z ∧ z < 16 → IntKind.u8.wrap z = z := by
   intro z hz
   simp only [IntKind.wrap, IntKind.bits, IntKind.signed]
   simp
   omega
  have e := h.1
  rw [wr x hx, wr y hy] at e
  have e2 := congrArg UInt8.toNat e
  rw [UInt8.toNat_ofNat', UInt8.toNat_ofNat', Nat.mod_eq_of_lt (by omega), Nat.mod_eq_of_lt (by omega)] at e2
  rw [show x = y by omega, z5S (fun c hc => hv c (by simp [hc])) (fun c hc => hw c (by simp [hc])) h.2]
theorem z3l {l m : List (List Int)} (h : l.Perm m) : uR l = uR m := (h.map _).sum_nat
theorem z5m : ∀ {o L : List (List Int)}, o.Nodup → (∀ x ∈ o, x ∈ L) → ∃ r, L.Perm (o ++ r)
 | [], L, _, _ => ⟨L, .refl _⟩
 | x :: o, L, h, hs => by
  have hx := hs x (by simp)
  obtain ⟨r, hr⟩ := z5m (o := o) (L := L.erase x) (List.nodup_cons.1 h).2 fun y hy => (List.mem_erase_of_ne (fun e => (List.nodup_cons.1 h).1 (by rw [← e]; exact hy))).2 (hs y (by simp [hy]))
  exact ⟨r, (List.perm_cons_erase hx).trans (hr.cons x)⟩
theorem zdY {o L : List (List Int)} (h : o.Nodup) (hs : ∀ x ∈ o, x ∈ L) : o.length ≤ L.length ∧ uR o ≤ uR L := by
 obtain ⟨r, hr⟩ := z5m h hs
 have h1 := hr.length_eq
 have h2 := z3l hr
 rw [List.length_append] at h1
 rw [VO] at h2
 omega
def zgK (a b : List (List Int)) : Prop := (∃ w ∈ qN a b, 256 < w.length) ∨ 4096 < (srt (qN a b)).length ∨ 65536 < uR (srt (qN a b))
def CI (P : List (List Int)) (seen : List (List UInt8 × Bool)) (n : Int) (out : List (List Int)) : Prop :=
 out.Nodup ∧ (∀ x, x ∈ out ↔ x ∈ P) ∧ (∀ x ∈ out, x.length ≤ 256) ∧ out.length ≤ 4096 ∧ uR out ≤ 65536 ∧ n = (uR out : Int) ∧ ∀ k, ((z1w seen k).getD false = true ↔ ∃ x ∈ out, z87 x = k)
section
variable {n : Int} {a b : List (List Int)} (ha : chE n a = 0) (hb : chE n b = 0)
include ha hb
theorem z5F {w : List Int} (hw : w ∈ qN a b) : ∀ c ∈ w, 0 ≤ c ∧ c < 16 := by
 obtain ⟨_, _, _, _, a5, a6⟩ := ZR ha
 obtain ⟨_, _, _, _, _, b6⟩ := ZR hb
 obtain ⟨u, h1, v, h2, rfl⟩ := Yi.1 hw
 intro c hc
 rcases List.mem_append.1 hc with q | q
 ·have := a6 u h1 c q; omega
 ·have := b6 v h2 c q; omega
theorem zcT {i : Nat} (hi : i < a.length) {seen : List (List UInt8 × Bool)} {m : Int} {out : List (List Int)} (h : CI (qN (a.take i) b) seen m out) :
  Ret (loop (fun s => vH b a[i] s.1 s.2.1 s.2.2.1 s.2.2.2) (seen, m, out, 0)) fun t => match t with | .inl p => CI (qN (a.take (i + 1)) b) p.1 p.2.1 p.2.2 | .inr p => p = ([], 3) ∧ zgK a b := by
 obtain ⟨a1, a2, _⟩ := ZR ha
 obtain ⟨b1, b2, _⟩ := ZR hb
 refine xm (fun q => ∃ j : Nat, q.2.2.2 = (j : Int) ∧ j ≤ b.length ∧ CI (qN (a.take i) b ++ (b.take j).map fun v => a[i] ++ v) q.1 q.2.1 q.2.2.1) (fun q => b.length - q.2.2.2.toNat) ⟨0, rfl, Nat.zero_le _, by simpa using h⟩ (by show b.length - _ < _; omega) ?_
 rintro ⟨seen, m, out, _⟩ ⟨j, rfl, g1, g2⟩
 show Ret (vH b a[i] seen m out (j : Int)) _
 unfold vH
 rw [yx]
 refine ⟨fun hc => ?_, fun hc => ?_⟩
 ·have hj : j < b.length := by simpa using hc
  have hy : b[j]? = some b[j] := List.getElem?_eq_getElem hj
  have wa := a2 _ (List.getElem_mem hi)
  have wb := b2 _ (List.getElem_mem hj)
  have hj2 : w64 ((j : Int) + 1) = ((j + 1 : Nat) : Int) := by rw [y7 (by omega) (by omega)]; omega
  have hmem : a[i] ++ b[j] ∈ qN a b := Yi.2 ⟨_, List.getElem_mem hi, _, List.getElem_mem hj, rfl⟩
  rw [zk hy]
  simp only [oB, VZ]
  rw [gdT (by omega), yx]
  refine ⟨fun hc2 => ?_, fun hc2 => ?_⟩
  ·have hl : 256 < (a[i] ++ b[j]).length := by simp only [decide_eq_true_eq] at hc2; omega
   rw [zn]
   exact ⟨rfl, .inl ⟨_, hmem, hl⟩⟩
  ·have hl : (a[i] ++ b[j]).length ≤ 256 := by simp only [decide_eq_false_iff_not] at hc2; omega
   rw [zex (by omega)]
   simp only [oB]
   simp only at g2
   obtain ⟨c1, c2, c3, c4, c5, c6, c7⟩ := g2
   have hP : ∀ x, x ∈ qN (a.take i) b ++ (b.take (j + 1)).map (fun v => a[i] ++ v) ↔ x ∈ out ∨ x = a[i] ++ b[j] := by
    intro x
    rw [c2, List.take_add_one, hy, List.map_append, ← List.append_assoc, List.mem_append]
    simp
   have hsub : ∀ x ∈ out, x ∈ qN a b := by
    intro x hx
    rcases List.mem_append.1 ((c2 x).1 hx) with q | q
    ·obtain ⟨u, q1, v, q2, rfl⟩ := Yi.1 q
     exact Yi.2 ⟨u, List.mem_of_mem_take q1, v, q2, rfl⟩
    ·obtain ⟨v, q2, rfl⟩ := List.mem_map.1 q
     exact Yi.2 ⟨_, List.getElem_mem hi, v, List.mem_of_mem_take q2, rfl⟩
   have hkey : (z1w seen (z87 (a[i] ++ b[j]))).getD false = true ↔ a[i] ++ b[j] ∈ out := by
    rw [c7]
    constructor
    ·rintro ⟨x, q1, q2⟩
     rw [z5S (z5F ha hb (hsub x q1)) (z5F ha hb hmem) q2] at q1
     exact q1
    ·intro q; exact ⟨_, q, rfl⟩
   by_cases hin : a[i] ++ b[j] ∈ out
   ·rw [hkey.2 hin]
    simp only [Bool.not_true, cond_false]
    unfold vI
    have d1 : decide (((out.length : Nat) : Int) > 4096) = false := by simp; omega
    have d2 : decide (m > 65536) = false := by rw [c6]; simp; omega
    simp only [d1, d2, cond_false]
    rw [hj2, zn]
    refine ⟨⟨j + 1, rfl, hj, c1, fun x => ?_, c3, c4, c5, c6, c7⟩, by simp only [Int.toNat_natCast]; omega⟩
    rw [hP]
    constructor
    ·intro q; exact .inl q
    ·rintro (q | rfl)
     ·exact q
     ·exact hin
   ·have hf : (z1w seen (z87 (a[i] ++ b[j]))).getD false = false := by
     cases hq : (z1w seen (z87 (a[i] ++ b[j]))).getD false
     ·rfl
     ·exact absurd (hkey.1 hq) hin
    rw [hf]
    simp only [Bool.not_false, cond_true]
    rw [gdT (by simp only [List.length_singleton]; omega)]
    have hnd : (out ++ [a[i] ++ b[j]]).Nodup := by
     rw [List.nodup_append]
     exact ⟨c1, by simp, fun x hx y hy => by simp at hy; subst hy; exact fun e => hin (e ▸ hx)⟩
    have hss : ∀ x ∈ out ++ [a[i] ++ b[j]], x ∈ srt (qN a b) := fun x hx => wI.2 (by
     rcases List.mem_append.1 hx with q | q
     ·exact hsub x q
     ·simp at q; subst q; exact hmem)
    obtain ⟨s1, s2⟩ := zdY hnd hss
    have hsy : uR (out ++ [a[i] ++ b[j]]) = uR out + (a[i] ++ b[j]).length := by rw [VO]; simp [uR]
    have hm : w64 (m + (((a[i] ++ b[j]).length : Nat) : Int)) = ((uR (out ++ [a[i] ++ b[j]]) : Nat) : Int) := by
     rw [c6, hsy, y7 (by omega) (by omega)]; omega
    rw [hm]
    unfold vI
    rw [yx]
    refine ⟨fun hc3 => ?_, fun hc3 => ?_⟩
    ·rw [zn]
     refine ⟨rfl, .inr (.inl ?_)⟩
     simp only [decide_eq_true_eq] at hc3
     omega
    ·rw [yx]
     refine ⟨fun hc4 => ?_, fun hc4 => ?_⟩
     ·rw [zn]
      refine ⟨rfl, .inr (.inr ?_)⟩
      simp only [decide_eq_true_eq] at hc4
      omega
     ·rw [hj2, zn]
      simp only [decide_eq_false_iff_not] at hc3 hc4
      refine ⟨⟨j + 1, rfl, hj, hnd, fun x => ?_, fun x hx => ?_, by simp only; omega, by simp only; omega, rfl, fun k => ?_⟩, by simp only [Int.toNat_natCast]; omega⟩
      ·rw [hP]; simp
      ·rcases List.mem_append.1 hx with q | q
       ·exact c3 x q
       ·simp at q; subst q; exact hl
      ·rw [z7Y]
       by_cases hk : z87 (a[i] ++ b[j]) = k
       ·rw [if_pos hk]
        simp only [Option.getD_some, true_iff]
        exact ⟨_, by simp, hk⟩
       ·rw [if_neg hk, c7]
        constructor
        ·rintro ⟨x, q1, q2⟩; exact ⟨x, by simp [q1], q2⟩
        ·rintro ⟨x, q1, q2⟩
         rcases List.mem_append.1 q1 with q | q
         ·exact ⟨x, q, q2⟩
         ·simp at q; subst q; exact absurd q2 hk
 ·have hj : j = b.length := by
   have : ¬ j < b.length := by simpa using hc
   omega
  rw [zn]
  show CI (qN (a.take (i + 1)) b) seen m out
  rw [z6y hi]
  simp only [hj, List.take_length] at g2
  exact g2
theorem z4z : Ret (jg a b n) fun r => zgK a b ∧ r = ([], 3) ∨ ¬ zgK a b ∧ r = (srt (qN a b), 0) := by
 obtain ⟨a1, a2, _⟩ := ZR ha
 obtain ⟨b1, b2, _⟩ := ZR hb
 unfold jg
 rw [zeP, zaH.2 ⟨ha, hb⟩]
 simp only [oB, bne_self_eq_false, cond_false]
 rw [ym]
 refine Ret.mono (xm (fun q => ∃ i : Nat, q.2.2.2 = (i : Int) ∧ i ≤ a.length ∧ CI (qN (a.take i) b) q.1 q.2.1 q.2.2.1) (fun q => a.length - q.2.2.2.toNat) (R := fun t : List (List Int) ⊕ (List (List Int) × Int) => match t with | .inl out => ∃ seen m, CI (qN a b) seen m out | .inr p => p = ([], 3) ∧ zgK a b) ?_ ?_ ?_) ?_
 ·refine ⟨0, rfl, Nat.zero_le _, List.nodup_nil, fun x => by simp [qN], by simp, by simp, by simp [uR], by simp [uR], fun k => ?_⟩
  simp [z1w]
 ·show a.length - _ < _
  omega
 ·rintro ⟨seen, m, out, _⟩ ⟨i, rfl, g1, g2⟩
  show Ret (uT a b seen m out (i : Int)) _
  unfold uT
  rw [yx]
  refine ⟨fun hc => ?_, fun hc => ?_⟩
  ·have hi : i < a.length := by simpa using hc
   have hx : a[i]? = some a[i] := List.getElem?_eq_getElem hi
   rw [zk hx]
   simp only [oB]
   rw [ym]
   refine (zcT ha hb hi g2).mono ?_
   rintro (p | p) hp
   ·show Ret (uU (i : Int) p.1 p.2.1 p.2.2) _
    unfold uU
    rw [y7 (by omega) (by omega), zn]
    exact ⟨⟨i + 1, rfl, hi, hp⟩, by simp only; omega⟩
   ·show Ret (some (LR.done (Sum.inr p))) _
    rw [zn]
    exact hp
  ·have hi : i = a.length := by
    have : ¬ i < a.length := by simpa using hc
    omega
   rw [zn]
   refine ⟨seen, m, ?_⟩
   simp only [hi, List.take_length] at g2
   exact g2
 ·rintro (out | p) hp
  ·obtain ⟨seen, m, c1, c2, c3, c4, c5, _⟩ := hp
   show Ret (uV out) _
   unfold uV
   rw [z29 (by omega) (fun w hw => by have := c3 w hw; omega)]
   simp only [oB]
   have hs : srt out = srt (qN a b) := KG c2
   have hp2 : out.Perm (srt (qN a b)) := (List.perm_ext_iff_of_nodup c1 (Wk _).nodup).2 fun x => by rw [c2, wI]
   have h1 := hp2.length_eq
   have h2 := z3l hp2
   unfold soR
   rw [hs, if_neg (by omega), zn]
   refine .inr ⟨?_, rfl⟩
   rintro (⟨w, q1, q2⟩ | q | q)
   ·have := c3 w ((c2 w).2 q1); omega
   ·omega
   ·omega
  ·show Ret (some p) _
   rw [zn]
   exact .inl ⟨hp.2, hp.1⟩
end
theorem Wq.prod {n : Int} {L M k j : Nat} {l m : List (List Int)} (h : Wq n L k l) (g : Wq n M j m) : Wq n (L * M) (k + j) (srt (qN l m)) := by
 refine ⟨Wk _, ?_, fun w hw => ?_⟩
 ·refine Nat.le_trans (YQ _) ?_
  rw [z7F]
  exact Nat.mul_le_mul h.2.1 g.2.1
 ·obtain ⟨u, h1, v, h2, rfl⟩ := Yi.1 (wI.1 hw)
  have q1 := h.2.2 u h1
  have q2 := g.2.2 v h2
  refine ⟨by rw [List.length_append]; omega, fun c hc => ?_⟩
  rcases List.mem_append.1 hc with q | q
  ·exact q1.2 c q
  ·exact q2.2 c q
theorem z6X {n : Int} {L M k j : Nat} {l m : List (List Int)} (h : Wq n L k l) (g : Wq n M j m) (hn : 1 ≤ n ∧ n ≤ 16) (h1 : chE n l = 0) (h2 : chE n m = 0) (hL : L * M ≤ 4096) (hk : k + j ≤ 256) (hLk : (L * M) * (k + j) ≤ 65536) : jg l m n = some (srt (qN l m), 0) := by
 obtain ⟨r, hr, hc⟩ := z4z h1 h2
 have hu := h.prod g
 have hs : uR (srt (qN l m)) ≤ 65536 := Nat.le_trans (WN hu.2.1 fun w hw => (hu.2.2 w hw).1) hLk
 rcases hc with ⟨q, _⟩ | ⟨_, rfl⟩
 ·rcases q with ⟨w, q1, q2⟩ | q | q
  ·have := (hu.2.2 w (wI.2 q1)).1; omega
  ·have := hu.2.1; omega
  ·omega
 ·exact hr
theorem z2m (a f : Nat) : ∀ k, ∀ w ∈ ZH a f k, w.length < k
 | 0, w, h => by simp [ZH] at h
 | k + 1, w, h => by
  unfold ZH at h
  split at h
  ·rcases List.mem_append.1 h with h | h
   ·have := z2m a f k w h; omega
   ·have := YM a k w h; omega
  ·have := z2m a f k w h; omega
theorem z2l (a f : Nat) : ∀ k, SW (ZH a f k)
 | 0 => by simp [ZH, SW]
 | k + 1 => by
  unfold ZH
  split
  ·unfold SW
   rw [List.pairwise_append]
   refine ⟨z2l a f k, zbh a k, fun x hx y hy => ?_⟩
   have h1 := z2m a f k x hx
   have h2 := YM a k y hy
   unfold j5
   rw [if_pos (by omega)]
   omega
  ·exact z2l a f k
def lnW (a f : Nat) : Nat → Nat
 | 0 => 0
 | k + 1 => if f ≤ k then lnW a f k + a ^ k else lnW a f k
theorem Ka (a f : Nat) : ∀ k, (ZH a f k).length = lnW a f k
 | 0 => rfl
 | k + 1 => by
  unfold ZH lnW
  split
  ·rw [List.length_append, Ka a f k, VY]
  ·exact Ka a f k
theorem z6r {l : List (List Int)} {k : Nat} (h : ∀ w ∈ l, w.length = k) : uR l = k * l.length := by
 induction l with
 | nil => simp [uR]
 | cons x l ih =>
  have hs : uR (x :: l) = x.length + uR l := by simp [uR]
  rw [hs, ih fun w hw => h w (by simp [hw]), h x (by simp), List.length_cons, Nat.mul_succ]; omega
theorem z9D (l m : List (List Int)) : uR (l ++ m) = uR l + uR m := by simp [uR]
theorem z4L (a f : Nat) : ∀ k, uR (ZH a f k) = syW a f k
 | 0 => rfl
 | k + 1 => by
  unfold ZH syW
  split
  ·rw [z9D, z4L a f k, z6r (YM a k), VY]
  ·exact z4L a f k
def zbY (a f t k : Nat) : Bool := decide (4096 < lnW a f (k + 1)) || decide (65536 < syW a f (k + 1)) || (decide (k < t) && decide (4096 < a ^ k * a))
theorem z7b (a f t k : Nat) : zbY a f t k = true ↔ Yw a f t k := by
 unfold zbY Yw
 simp only [Bool.or_eq_true, Bool.and_eq_true, decide_eq_true_eq, Ka, or_assoc]
def zeU (a f t : Nat) : Bool := (List.range (t + 1)).any (zbY a f t)
theorem z6g (a f t : Nat) : zeU a f t = true ↔ ∃ j, j ≤ t ∧ Yw a f t j := by
 unfold zeU
 simp only [List.any_eq_true, List.mem_range, z7b]
 constructor
 ·rintro ⟨j, h1, h2⟩; exact ⟨j, by omega, h2⟩
 ·rintro ⟨j, h1, h2⟩; exact ⟨j, by omega, h2⟩
theorem zd7 {a f t : Nat} (ha : 1 ≤ a ∧ a ≤ 16) (hf : f ≤ 256) (ht : t ≤ 256) : Xj (a : Int) (f : Int) (t : Int) = some (if zeU a f t then ([], 3) else (ZH a f (t + 1), 0)) := by
 refine zeV ha hf ht (fun h => by rw [if_pos ((z6g a f t).2 h)]) fun h => ?_
 have hn : ¬ zeU a f t = true := fun q => by
  obtain ⟨j, h1, h2⟩ := (z6g a f t).1 q
  exact h j h1 h2
 rw [if_neg hn]
 have hs := h t (Nat.le_refl _)
 unfold Yw at hs
 have hlen : (ZH a f (t + 1)).length ≤ 4096 := by omega
 have hsy : uR (ZH a f (t + 1)) ≤ 65536 := by rw [z4L]; omega
 rw [z29 (by omega) (fun w hw => by have := z2m a f (t + 1) w hw; omega)]
 unfold soR
 rw [KF (z2l a f (t + 1)), if_neg (by omega)]
 rfl
end Go.Own
end
