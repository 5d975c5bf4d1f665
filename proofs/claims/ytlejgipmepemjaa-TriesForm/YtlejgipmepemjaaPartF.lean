/- -/
import Derived.Test.YtlejgipmepemjaaPartE
set_option linter.unusedVariables false
set_option linter.unusedSimpArgs false
namespace Go.Own
open Go.Proofs
set_option maxRecDepth 100000
set_option maxHeartbeats 8000000
def X0 : XH Try.prog := xB z6
theorem z69 : z91 Try.prog 98 9 := z5S (e := 5) Try.underlying98 Try.underlying5 Try.underlying9
theorem z6l : z6Q Try.prog 91 9 4 Jq (.atom (.bool false)) := z4b Try.underlying91 Try.underlying9 ⟨.bool false, fun w => z3D (f := Try.t4) (by kernel_rfl) rfl w, fun S => vq.2 ⟨rfl, rfl⟩⟩ rfl
theorem z9e : z6P Try.prog 77 1 false := z3P z6 (t := 52) Try.so77 rfl rfl (by kernel_rfl) (by decide)
noncomputable def JH : Code := (Try.f48.body).getD .skip
noncomputable def Zq : yw := spF (α := List Int) (ρ := Int) 48 (fun x => [F2_ x]) (fun r => (eI .i64) r) (fun x => jA x) [] (by
 rintro a0 b0 h
 have e0 := yO.inj (f := F2_) _ _ (List.cons.inj h).1
 subst e0
 rfl)
theorem JZ {ctr : Ctr} (hC : y6 Try.prog ctr) (hm : Try.prog.follows .mixedOrders = true) : Zq.Ok Try.prog := by
 refine y8 ?_
 rintro w_ r0 hf0
 try unfold jA at hf0
 refine zx (tt := yE) (keep := true) (rs := [(2, none)]) (n := ⟨6, []⟩) (body := JH) z6 Try.func48 rfl (by kernel_rfl) rfl rfl (by show (1 : Nat) ≤ 6; decide) fun E hE => ?_
 rcases zY hf0 with ⟨c0, hf0⟩ | ⟨c0, hf0⟩
 ·obtain rfl := ze hf0
  exact zh X0 z6 hC hm hE 4000 (hs := [aLn w_.length, bT]) (x := (I 3)) [ob (lnM (eI .i64) w_), ob c0] (by kernel_rfl) (LeV.refl _)
 ·obtain rfl := ze hf0
  exact zh X0 z6 hC hm hE 4000 (hs := [aLn w_.length, bF]) (x := (I 0)) [ob (lnM (eI .i64) w_), ob c0] (by kernel_rfl) (LeV.refl _)
noncomputable def x6 : Code := (Try.f49.body).getD .skip
noncomputable def je : yw := spF (α := List Int × Int) (ρ := Int) 49 (fun x => [F2_ x.1, (eI .i64) x.2]) (fun r => (eI .i64) r) (fun x => uT x.1 x.2) [] (by
 rintro ⟨a0, a1⟩ ⟨b0, b1⟩ h
 have e0 := yO.inj (f := F2_) _ _ (List.cons.inj h).1
 replace h := (List.cons.inj h).2
 have e1 := yO.inj (f := (eI .i64)) _ _ (List.cons.inj h).1
 subst e0 e1
 rfl)
abbrev YW : List (Nat × T) := []
abbrev YV (w_ : List Int) (inputs : Int) (i_ : Int) : List (Nat × T) := [(0, .d (eSl 1 false (eI .i64) w_)), (1, .d (I inputs)), (5, .d (I i_))]
theorem VA {ctr : Ctr} (hC : y6 Try.prog ctr) (hm : Try.prog.follows .mixedOrders = true) : je.Ok Try.prog := by
 refine y8 ?_
 rintro ⟨w_, inputs⟩ r0 hf0
 try unfold uT at hf0
 refine zx (tt := yE) (keep := true) (rs := [(4, none)]) (n := ⟨25, []⟩) (body := x6) z6 Try.func49 rfl (by kernel_rfl) rfl rfl (by show (2 : Nat) ≤ 25; decide) fun E hE => ?_
 refine zI X0 z6 hC hm [0,1] 4000 [.cut 1] (sub [1] x6) (frs [1] [] x6 []) [(0, .d (eSl 1 false (eI .i64) w_)), (1, .d (I inputs))] [] (by kernel_rfl) fun st0 h0 => ?_
 refine zr (X := Unit) (x := (sub [1,2] x6)) (y := (sub [1,1] x6)) (by kernel_rfl) [] [0,1] _ h0 (fun z => jg = some r0) (fun z => YW) ?_ fun J1 hJ1 => ?_
 ·rintro ⟨⟩ hf0
  unfold jg at hf0
  obtain rfl := ze hf0
  exact zh X0 z6 hC hm hE 4000 (hs := []) (x := (I 0)) [] (by kernel_rfl) (LeV.refl _)
 ·obtain ⟨t2, ht2, hf0⟩ := zi hf0
  refine zI X0 z6 hC hm [0,1,5] 4000 [] (sub [1,2,1,0] x6) (frs [1,2,1,0] [J1] x6 []) [(0, .d (eSl 1 false (eI .i64) w_)), (1, .d (I inputs)), (5, .d (I 0))] [] (by kernel_rfl) fun st0 h0 => ?_
  refine zN (X := Int × Nat) (c' := (sub [1,2,1,0,0] x6)) (by kernel_rfl) [0,1,5] (fun x => yG (fun s => wh w_ inputs s) x.2 x.1 = some t2) (fun x => x.2) (fun x => YV w_ inputs x.1) (0, wJ) _ h0 inferInstance ht2 ?_
  rintro ⟨i_, n2⟩ hn2 J2 hJ2
  obtain ⟨m2, lr1, rfl, hf1, hl1⟩ := xM hn2
  try unfold wh at hf1
  rcases zY hf1 with ⟨c0, hf1⟩ | ⟨c0, hf1⟩
  ·obtain ⟨w__e, h0, hf1⟩ := zi hf1
   rcases zY hf1 with ⟨c1, hf1⟩ | ⟨c1, hf1⟩
   ·obtain rfl := ze hf1
    obtain rfl := hl1
    obtain rfl := ze hf0
    exact zh X0 z6 hC hm hE 4000 (hs := (aLn w_.length :: bT :: .a ((eI .i64) w__e) :: (rpN 8 bT []))) (x := (I 1)) (ob (lnM (eI .i64) w_) :: ob c0 :: ob (i0 h0) :: ob (iM (eI .i64) h0) :: (rpN 7 (ob c1) [oT])) (by kernel_rfl) (LeV.refl _)
   ·obtain ⟨w__e1, h1, hf1⟩ := zi hf1
    rcases zY hf1 with ⟨c2, hf1⟩ | ⟨c2, hf1⟩
    ·obtain rfl := ze hf1
     obtain rfl := hl1
     obtain rfl := ze hf0
     exact zh X0 z6 hC hm hE 4000 (hs := (aLn w_.length :: bT :: .a ((eI .i64) w__e) :: bF :: bF :: bF :: .a ((eI .i64) w__e1) :: (rpN 4 bF [bT]))) (x := (I 1)) (ob (lnM (eI .i64) w_) :: ob c0 :: ob (i0 h0) :: ob (iM (eI .i64) h0) :: ob c1 :: ob c1 :: ob c1 :: ob (i0 h1) :: ob (iM (eI .i64) h1) :: (rpN 4 (ob c1) [ob c2])) (by kernel_rfl) (LeV.refl _)
    ·obtain rfl := ze hf1
     exact zk X0 z6 hC hm [0,1,5] 4000 (aLn w_.length :: bT :: .a ((eI .i64) w__e) :: bF :: bF :: bF :: .a ((eI .i64) w__e1) :: (rpN 5 bF [])) J2 [(0, .d (eSl 1 false (eI .i64) w_)), (1, .d (I inputs)), (5, .d (I (w64 (i_ + 1))))] (ob (lnM (eI .i64) w_) :: ob c0 :: ob (i0 h0) :: ob (iM (eI .i64) h0) :: ob c1 :: ob c1 :: ob c1 :: ob (i0 h1) :: ob (iM (eI .i64) h1) :: (rpN 4 (ob c1) [ob c2])) (by kernel_rfl) fun st0 h0 => hJ2 st0 _ (w64 (i_ + 1), m2) hl1 (Nat.lt_succ_self m2) h0 inferInstance
  ·obtain rfl := ze hf1
   obtain rfl := hl1
   exact zk X0 z6 hC hm [] 4000 [aLn w_.length, bF] J1 [] [ob (lnM (eI .i64) w_), ob c0] (by kernel_rfl) fun st0 h0 => hJ1 st0 _ () hf0 h0 inferInstance
noncomputable def xX : Code := (Try.f13.body).getD .skip
noncomputable def kM : yw := spF (α := List (List Int) × Int) (ρ := Int) 13 (fun x => [F7_ x.1, (eI .i64) x.2]) (fun r => (eI .i64) r) (fun x => jX x.1 x.2) [] (by
 rintro ⟨a0, a1⟩ ⟨b0, b1⟩ h
 have e0 := yO.inj (f := F7_) _ _ (List.cons.inj h).1
 replace h := (List.cons.inj h).2
 have e1 := yO.inj (f := (eI .i64)) _ _ (List.cons.inj h).1
 subst e0 e1
 rfl)
abbrev Wt : List (Nat × T) := []
abbrev Ws (l_ : List (List Int)) (inputs : Int) (i_ : Int) : List (Nat × T) := [(0, .d (eSl 1 false F2_ l_)), (1, .d (I inputs)), (5, .d (I i_))]
theorem QY {ctr : Ctr} (hC : y6 Try.prog ctr) (hm : Try.prog.follows .mixedOrders = true) (h_ref12_word : ctr.Has Zq) (h_ref12_symbols : ctr.Has je) : kM.Ok Try.prog := by
 refine y8 ?_
 rintro ⟨l_, inputs⟩ r0 hf0
 try unfold jX at hf0
 refine zx (tt := yE) (keep := true) (rs := [(4, none)]) (n := ⟨40, []⟩) (body := xX) z6 Try.func13 rfl (by kernel_rfl) rfl rfl (by show (2 : Nat) ≤ 40; decide) fun E hE => ?_
 rcases zY hf0 with ⟨c0, hf0⟩ | ⟨c0, hf0⟩
 ·obtain rfl := ze hf0
  exact zh X0 z6 hC hm hE 4000 (hs := (rpN 5 bT [])) (x := (I 3)) (rpN 4 (ob c0) [oT]) (by kernel_rfl) (LeV.refl _)
 ·rcases zY hf0 with ⟨c1, hf0⟩ | ⟨c1, hf0⟩
  ·obtain rfl := ze hf0
   exact zh X0 z6 hC hm hE 4000 (hs := [bF, bF, aLn l_.length, bF, bF, bT]) (x := (I 3)) [ob c0, ob c0, ob (lnM F2_ l_), ob c0, ob c0, ob c1] (by kernel_rfl) (LeV.refl _)
  ·rcases zY hf0 with ⟨c2, hf0⟩ | ⟨c2, hf0⟩
   ·obtain rfl := ze hf0
    exact zh X0 z6 hC hm hE 4000 (hs := [bF, bF, aLn l_.length, bF, bF, bF, bT]) (x := (I 1)) [ob c0, ob c0, ob (lnM F2_ l_), ob c0, ob c0, ob c1, ob c2] (by kernel_rfl) (LeV.refl _)
   ·refine zI X0 z6 hC hm [0,1] 4000 (bF :: bF :: aLn l_.length :: (rpN 4 bF [.cut 0])) (sub [1,1,1] xX) (frs [1,1,1] [] xX []) [(0, .d (eSl 1 false F2_ l_)), (1, .d (I inputs))] [ob c0, ob c0, ob (lnM F2_ l_), ob c0, ob c0, ob c1, ob c2] (by kernel_rfl) fun st0 h0 => ?_
    refine zr (X := Unit) (x := (sub [1,1,1,2] xX)) (y := (sub [1,1,1,1] xX)) (by kernel_rfl) [] [0,1] _ h0 (fun z => kQ = some r0) (fun z => Wt) ?_ fun J1 hJ1 => ?_
    ·rintro ⟨⟩ hf0
     unfold kQ at hf0
     obtain rfl := ze hf0
     exact zh X0 z6 hC hm hE 4000 (hs := []) (x := (I 0)) [] (by kernel_rfl) (LeV.refl _)
    ·obtain ⟨t2, ht2, hf0⟩ := zi hf0
     refine zI X0 z6 hC hm [0,1,5] 4000 [] (sub [1,1,1,2,1,0] xX) (frs [1,1,1,2,1,0] [J1] xX []) [(0, .d (eSl 1 false F2_ l_)), (1, .d (I inputs)), (5, .d (I 0))] [] (by kernel_rfl) fun st0 h0 => ?_
     refine zN (X := Int × Nat) (c' := (sub [1,1,1,2,1,0,0] xX)) (by kernel_rfl) [0,1,5] (fun x => yG (fun s => vK l_ inputs s) x.2 x.1 = some t2) (fun x => x.2) (fun x => Ws l_ inputs x.1) (0, wJ) _ h0 inferInstance ht2 ?_
     rintro ⟨i_, n2⟩ hn2 J2 hJ2
     obtain ⟨m2, lr1, rfl, hf1, hl1⟩ := xM hn2
     try unfold vK at hf1
     rcases zY hf1 with ⟨c3, hf1⟩ | ⟨c3, hf1⟩
     ·obtain ⟨l__e, h0, hf1⟩ := zi hf1
      obtain ⟨r_, h1, hf1⟩ := zi hf1
      have o0 := yP h_ref12_word (x := l__e) h1 (loC F2_ l__e <| loN)
      rcases zY hf1 with ⟨c4, hf1⟩ | ⟨c4, hf1⟩
      ·obtain rfl := ze hf1
       obtain rfl := hl1
       obtain rfl := ze hf0
       exact zh X0 z6 hC hm hE 4000 (hs := [aLn l_.length, bT, .a (F2_ l__e), .g [], .a ((eI .i64) r_), bT]) (x := (I r_)) [ob (lnM F2_ l_), ob c3, ob (i0 h0), ob (iM F2_ h0), ob (zJ h_ref12_word), ob o0, ob c4] (by kernel_rfl) (LeV.refl _)
      ·obtain ⟨l__e1, h2, hf1⟩ := zi hf1
       obtain ⟨r_1, h3, hf1⟩ := zi hf1
       have o1 := yP h_ref12_symbols (x := (l__e1, inputs)) h3 (loC F2_ l__e1 <| loC (eI .i64) inputs <| loN)
       rcases zY hf1 with ⟨c5, hf1⟩ | ⟨c5, hf1⟩
       ·obtain rfl := ze hf1
        obtain rfl := hl1
        obtain rfl := ze hf0
        exact zh X0 z6 hC hm hE 4000 (hs := [aLn l_.length, bT, .a (F2_ l__e), .g [], .a ((eI .i64) r_), bF, .a (F2_ l__e1), .g [], .a ((eI .i64) r_1), bT]) (x := (I r_1)) [ob (lnM F2_ l_), ob c3, ob (i0 h0), ob (iM F2_ h0), ob (zJ h_ref12_word), ob o0, ob c4, ob (i0 h2), ob (iM F2_ h2), ob (zJ h_ref12_symbols), ob o1, ob c5] (by kernel_rfl) (LeV.refl _)
       ·obtain rfl := ze hf1
        exact zk X0 z6 hC hm [0,1,5] 4000 [aLn l_.length, bT, .a (F2_ l__e), .g [], .a ((eI .i64) r_), bF, .a (F2_ l__e1), .g [], .a ((eI .i64) r_1), bF] J2 [(0, .d (eSl 1 false F2_ l_)), (1, .d (I inputs)), (5, .d (I (w64 (i_ + 1))))] [ob (lnM F2_ l_), ob c3, ob (i0 h0), ob (iM F2_ h0), ob (zJ h_ref12_word), ob o0, ob c4, ob (i0 h2), ob (iM F2_ h2), ob (zJ h_ref12_symbols), ob o1, ob c5] (by kernel_rfl) fun st0 h0 => hJ2 st0 _ (w64 (i_ + 1), m2) hl1 (Nat.lt_succ_self m2) h0 inferInstance
     ·obtain rfl := ze hf1
      obtain rfl := hl1
      exact zk X0 z6 hC hm [] 4000 [aLn l_.length, bF] J1 [] [ob (lnM F2_ l_), ob c3] (by kernel_rfl) fun st0 h0 => hJ1 st0 _ () hf0 h0 inferInstance
noncomputable def x9 : Code := (Try.f64.body).getD .skip
noncomputable def yI : yw := spF (α := List Int × List Int) (ρ := Int) 64 (fun x => [F2_ x.1, F2_ x.2]) (fun r => (eI .i64) r) (fun x => yJ x.1 x.2) [] (by
 rintro ⟨a0, a1⟩ ⟨b0, b1⟩ h
 have e0 := yO.inj (f := F2_) _ _ (List.cons.inj h).1
 replace h := (List.cons.inj h).2
 have e1 := yO.inj (f := F2_) _ _ (List.cons.inj h).1
 subst e0 e1
 rfl)
abbrev YZ : List (Nat × T) := []
abbrev YX (a_ : List Int) (b_ : List Int) (i_ : Int) : List (Nat × T) := [(0, .d (eSl 1 false (eI .i64) a_)), (1, .d (eSl 1 false (eI .i64) b_)), (5, .d (I i_))]
theorem VB {ctr : Ctr} (hC : y6 Try.prog ctr) (hm : Try.prog.follows .mixedOrders = true) : yI.Ok Try.prog := by
 refine y8 ?_
 rintro ⟨a_, b_⟩ r0 hf0
 try unfold yJ at hf0
 refine zx (tt := yE) (keep := true) (rs := [(4, none)]) (n := ⟨40, []⟩) (body := x9) z6 Try.func64 rfl (by kernel_rfl) rfl rfl (by show (2 : Nat) ≤ 40; decide) fun E hE => ?_
 rcases zY hf0 with ⟨c0, hf0⟩ | ⟨c0, hf0⟩
 ·rcases zY hf0 with ⟨c1, hf0⟩ | ⟨c1, hf0⟩
  ·obtain rfl := ze hf0
   exact zh X0 z6 hC hm hE 4000 (hs := [aLn a_.length, aLn b_.length, bT, aLn a_.length, aLn b_.length, bT]) (x := (I (-1))) [ob (lnM (eI .i64) a_), ob (lnM (eI .i64) b_), ob c0, ob (lnM (eI .i64) a_), ob (lnM (eI .i64) b_), ob c1] (by kernel_rfl) (LeV.refl _)
  ·obtain rfl := ze hf0
   exact zh X0 z6 hC hm hE 4000 (hs := [aLn a_.length, aLn b_.length, bT, aLn a_.length, aLn b_.length, bF]) (x := (I 1)) [ob (lnM (eI .i64) a_), ob (lnM (eI .i64) b_), ob c0, ob (lnM (eI .i64) a_), ob (lnM (eI .i64) b_), ob c1] (by kernel_rfl) (LeV.refl _)
 ·refine zI X0 z6 hC hm [0,1] 4000 [aLn a_.length, aLn b_.length, bF, .cut 0] (sub [1,1] x9) (frs [1,1] [] x9 []) [(0, .d (eSl 1 false (eI .i64) a_)), (1, .d (eSl 1 false (eI .i64) b_))] [ob (lnM (eI .i64) a_), ob (lnM (eI .i64) b_), ob c0] (by kernel_rfl) fun st0 h0 => ?_
  refine zr (X := Unit) (x := (sub [1,1,2] x9)) (y := (sub [1,1,1] x9)) (by kernel_rfl) [] [0,1] _ h0 (fun z => jh = some r0) (fun z => YZ) ?_ fun J1 hJ1 => ?_
  ·rintro ⟨⟩ hf0
   unfold jh at hf0
   obtain rfl := ze hf0
   exact zh X0 z6 hC hm hE 4000 (hs := []) (x := (I 0)) [] (by kernel_rfl) (LeV.refl _)
  ·obtain ⟨t2, ht2, hf0⟩ := zi hf0
   refine zI X0 z6 hC hm [0,1,5] 4000 [] (sub [1,1,2,1,0] x9) (frs [1,1,2,1,0] [J1] x9 []) [(0, .d (eSl 1 false (eI .i64) a_)), (1, .d (eSl 1 false (eI .i64) b_)), (5, .d (I 0))] [] (by kernel_rfl) fun st0 h0 => ?_
   refine zN (X := Int × Nat) (c' := (sub [1,1,2,1,0,0] x9)) (by kernel_rfl) [0,1,5] (fun x => yG (fun s => vt a_ b_ s) x.2 x.1 = some t2) (fun x => x.2) (fun x => YX a_ b_ x.1) (0, wJ) _ h0 inferInstance ht2 ?_
   rintro ⟨i_, n2⟩ hn2 J2 hJ2
   obtain ⟨m2, lr1, rfl, hf1, hl1⟩ := xM hn2
   try unfold vt at hf1
   rcases zY hf1 with ⟨c2, hf1⟩ | ⟨c2, hf1⟩
   ·obtain ⟨a__e, h0, hf1⟩ := zi hf1
    obtain ⟨b__e, h1, hf1⟩ := zi hf1
    rcases zY hf1 with ⟨c3, hf1⟩ | ⟨c3, hf1⟩
    ·obtain rfl := ze hf1
     obtain rfl := hl1
     obtain rfl := ze hf0
     exact zh X0 z6 hC hm hE 4000 (hs := [aLn a_.length, bT, .a ((eI .i64) a__e), .a ((eI .i64) b__e), bT]) (x := (I (-1))) [ob (lnM (eI .i64) a_), ob c2, ob (i0 h0), ob (iM (eI .i64) h0), ob (i0 h1), ob (iM (eI .i64) h1), ob c3] (by kernel_rfl) (LeV.refl _)
    ·obtain ⟨a__e1, h2, hf1⟩ := zi hf1
     obtain ⟨b__e1, h3, hf1⟩ := zi hf1
     rcases zY hf1 with ⟨c4, hf1⟩ | ⟨c4, hf1⟩
     ·obtain rfl := ze hf1
      obtain rfl := hl1
      obtain rfl := ze hf0
      exact zh X0 z6 hC hm hE 4000 (hs := [aLn a_.length, bT, .a ((eI .i64) a__e), .a ((eI .i64) b__e), bF, .a ((eI .i64) a__e1), .a ((eI .i64) b__e1), bT]) (x := (I 1)) [ob (lnM (eI .i64) a_), ob c2, ob (i0 h0), ob (iM (eI .i64) h0), ob (i0 h1), ob (iM (eI .i64) h1), ob c3, ob (i0 h2), ob (iM (eI .i64) h2), ob (i0 h3), ob (iM (eI .i64) h3), ob c4] (by kernel_rfl) (LeV.refl _)
     ·obtain rfl := ze hf1
      exact zk X0 z6 hC hm [0,1,5] 4000 [aLn a_.length, bT, .a ((eI .i64) a__e), .a ((eI .i64) b__e), bF, .a ((eI .i64) a__e1), .a ((eI .i64) b__e1), bF] J2 [(0, .d (eSl 1 false (eI .i64) a_)), (1, .d (eSl 1 false (eI .i64) b_)), (5, .d (I (w64 (i_ + 1))))] [ob (lnM (eI .i64) a_), ob c2, ob (i0 h0), ob (iM (eI .i64) h0), ob (i0 h1), ob (iM (eI .i64) h1), ob c3, ob (i0 h2), ob (iM (eI .i64) h2), ob (i0 h3), ob (iM (eI .i64) h3), ob c4] (by kernel_rfl) fun st0 h0 => hJ2 st0 _ (w64 (i_ + 1), m2) hl1 (Nat.lt_succ_self m2) h0 inferInstance
   ·obtain rfl := ze hf1
    obtain rfl := hl1
    exact zk X0 z6 hC hm [] 4000 [aLn a_.length, bF] J1 [] [ob (lnM (eI .i64) a_), ob c2] (by kernel_rfl) fun st0 h0 => hJ1 st0 _ () hf0 h0 inferInstance
noncomputable def xW : Code := (Try.f43.body).getD .skip
noncomputable def kL : yw := spF (α := List (List Int)) (ρ := Int) 43 (fun x => [F7_ x]) (fun r => (eI .i64) r) (fun x => jV x) [] (by
 rintro a0 b0 h
 have e0 := yO.inj (f := F7_) _ _ (List.cons.inj h).1
 subst e0
 rfl)
abbrev Wr (n_ : Int) : List (Nat × T) := [(3, .d (I n_))]
abbrev Wq (l_ : List (List Int)) (n_1 : Int) (i_ : Int) : List (Nat × T) := [(0, .d (eSl 1 false F2_ l_)), (3, .d (I n_1)), (4, .d (I i_))]
theorem QX {ctr : Ctr} (hC : y6 Try.prog ctr) (hm : Try.prog.follows .mixedOrders = true) : kL.Ok Try.prog := by
 refine y8 ?_
 rintro l_ r0 hf0
 try unfold jV at hf0
 refine zx (tt := yE) (keep := true) (rs := [(2, none)]) (n := ⟨19, []⟩) (body := xW) z6 Try.func43 rfl (by kernel_rfl) rfl rfl (by show (1 : Nat) ≤ 19; decide) fun E hE => ?_
 refine zI X0 z6 hC hm [0,3] 4000 [.cut 2] (sub [1,1] xW) (frs [1,1] [] xW []) [(0, .d (eSl 1 false F2_ l_)), (3, .d (I 0))] [] (by kernel_rfl) fun st0 h0 => ?_
 refine zr (X := Int) (x := (sub [1,1,2] xW)) (y := (sub [1,1,1] xW)) (by kernel_rfl) [3] [0,3] _ h0 (fun z => kP z = some r0) (fun z => Wr z) ?_ fun J1 hJ1 => ?_
 ·rintro n_ hf0
  unfold kP at hf0
  obtain rfl := ze hf0
  exact zh X0 z6 hC hm hE 4000 (hs := []) (x := (I n_)) [] (by kernel_rfl) (LeV.refl _)
 ·obtain ⟨t2, ht2, hf0⟩ := zi hf0
  refine zI X0 z6 hC hm [0,3,4] 4000 [] (sub [1,1,2,1,0] xW) (frs [1,1,2,1,0] [J1] xW []) [(0, .d (eSl 1 false F2_ l_)), (3, .d (I 0)), (4, .d (I 0))] [] (by kernel_rfl) fun st0 h0 => ?_
  refine zN (X := (Int × Int) × Nat) (c' := (sub [1,1,2,1,0,0] xW)) (by kernel_rfl) [0,3,4] (fun x => yG (fun s => vJ l_ s.1 s.2) x.2 x.1 = some t2) (fun x => x.2) (fun x => Wq l_ x.1.1 x.1.2) ((0,0), wJ) _ h0 inferInstance ht2 ?_
  rintro ⟨⟨n_1, i_⟩, n2⟩ hn2 J2 hJ2
  obtain ⟨m2, lr1, rfl, hf1, hl1⟩ := xM hn2
  try unfold vJ at hf1
  rcases zY hf1 with ⟨c0, hf1⟩ | ⟨c0, hf1⟩
  ·obtain ⟨l__e, h0, hf1⟩ := zi hf1
   obtain rfl := ze hf1
   exact zk X0 z6 hC hm [0,3,4] 4000 [aLn l_.length, bT, .a (F2_ l__e), aLn l__e.length] J2 [(0, .d (eSl 1 false F2_ l_)), (3, .d (I (w64 (n_1 + ((l__e.length : Nat) : Int))))), (4, .d (I (w64 (i_ + 1))))] [ob (lnM F2_ l_), ob c0, ob (i0 h0), ob (iM F2_ h0), ob (lnM (eI .i64) l__e)] (by kernel_rfl) fun st0 h0 => hJ2 st0 _ ((w64 (n_1 + ((l__e.length : Nat) : Int)), w64 (i_ + 1)), m2) hl1 (Nat.lt_succ_self m2) h0 inferInstance
  ·obtain rfl := ze hf1
   obtain rfl := hl1
   exact zk X0 z6 hC hm [3] 4000 [aLn l_.length, bF] J1 [(3, .d (I n_1))] [ob (lnM F2_ l_), ob c0] (by kernel_rfl) fun st0 h0 => hJ1 st0 _ n_1 hf0 h0 inferInstance
noncomputable def xZ : Code := (Try.f40.body).getD .skip
noncomputable def kN : yw := spF (α := List (List Int) × Int) (ρ := Int) 40 (fun x => [F7_ x.1, (eI .i64) x.2]) (fun r => (eI .i64) r) (fun x => jY x.1 x.2) [] (by
 rintro ⟨a0, a1⟩ ⟨b0, b1⟩ h
 have e0 := yO.inj (f := F7_) _ _ (List.cons.inj h).1
 replace h := (List.cons.inj h).2
 have e1 := yO.inj (f := (eI .i64)) _ _ (List.cons.inj h).1
 subst e0 e1
 rfl)
abbrev Wx (l_ : List (List Int)) : List (Nat × T) := [(0, .d (eSl 1 false F2_ l_))]
abbrev Ww (l_ : List (List Int)) (i_ : Int) : List (Nat × T) := [(0, .d (eSl 1 false F2_ l_)), (6, .d (I i_))]
theorem J0 {ctr : Ctr} (hC : y6 Try.prog ctr) (hm : Try.prog.follows .mixedOrders = true) (h_ref12_Loose : ctr.Has kM) (h_ref12_compare : ctr.Has yI) (h_ref12_Steps : ctr.Has kL) : kN.Ok Try.prog := by
 refine y8 ?_
 rintro ⟨l_, inputs⟩ r0 hf0
 try unfold jY at hf0
 refine zx (tt := yE) (keep := true) (rs := [(4, none)]) (n := ⟨33, []⟩) (body := xZ) z6 Try.func40 rfl (by kernel_rfl) rfl rfl (by show (2 : Nat) ≤ 33; decide) fun E hE => ?_
 obtain ⟨r_, h0, hf0⟩ := zi hf0
 have o0 := yP h_ref12_Loose (x := (l_, inputs)) h0 (loC F7_ l_ <| loC (eI .i64) inputs <| loN)
 rcases zY hf0 with ⟨c0, hf0⟩ | ⟨c0, hf0⟩
 ·obtain rfl := ze hf0
  exact zh X0 z6 hC hm hE 4000 (hs := [.g [], .a ((eI .i64) r_), bT]) (x := (I r_)) [ob (zJ h_ref12_Loose), ob o0, ob c0] (by kernel_rfl) (LeV.refl _)
 ·refine zI X0 z6 hC hm [0] 4000 [.g [], .a ((eI .i64) r_), bF, .cut 0] (sub [1,1] xZ) (frs [1,1] [] xZ []) [(0, .d (eSl 1 false F2_ l_))] [ob (zJ h_ref12_Loose), ob o0, ob c0] (by kernel_rfl) fun st0 h0 => ?_
  refine zr (X := Unit) (x := (sub [1,1,2] xZ)) (y := (sub [1,1,1] xZ)) (by kernel_rfl) [0] [0] _ h0 (fun z => qP l_ = some r0) (fun z => Wx l_) ?_ fun J1 hJ1 => ?_
  ·rintro ⟨⟩ hf0
   unfold qP at hf0
   obtain ⟨r_1, h1, hf0⟩ := zi hf0
   have o1 := yP h_ref12_Steps (x := l_) h1 (loC F7_ l_ <| loN)
   rcases zY hf0 with ⟨c1, hf0⟩ | ⟨c1, hf0⟩
   ·obtain rfl := ze hf0
    exact zh X0 z6 hC hm hE 4000 (hs := [.g [], .a ((eI .i64) r_1), bT]) (x := (I 3)) [ob (zJ h_ref12_Steps), ob o1, ob c1] (by kernel_rfl) (LeV.refl _)
   ·obtain rfl := ze hf0
    exact zh X0 z6 hC hm hE 4000 (hs := [.g [], .a ((eI .i64) r_1), bF]) (x := (I 0)) [ob (zJ h_ref12_Steps), ob o1, ob c1] (by kernel_rfl) (LeV.refl _)
  ·obtain ⟨t2, ht2, hf0⟩ := zi hf0
   refine zI X0 z6 hC hm [0,6] 4000 [] (sub [1,1,2,1,0] xZ) (frs [1,1,2,1,0] [J1] xZ []) [(0, .d (eSl 1 false F2_ l_)), (6, .d (I 1))] [] (by kernel_rfl) fun st0 h0 => ?_
   refine zN (X := Int × Nat) (c' := (sub [1,1,2,1,0,0] xZ)) (by kernel_rfl) [0,6] (fun x => yG (fun s => vL l_ s) x.2 x.1 = some t2) (fun x => x.2) (fun x => Ww l_ x.1) (1, wJ) _ h0 inferInstance ht2 ?_
   rintro ⟨i_, n2⟩ hn2 J2 hJ2
   obtain ⟨m2, lr1, rfl, hf1, hl1⟩ := xM hn2
   try unfold vL at hf1
   rcases zY hf1 with ⟨c2, hf1⟩ | ⟨c2, hf1⟩
   ·obtain ⟨l__e, h2, hf1⟩ := zi hf1
    obtain ⟨l__e1, h3, hf1⟩ := zi hf1
    obtain ⟨r_2, h4, hf1⟩ := zi hf1
    have o2 := yP h_ref12_compare (x := (l__e, l__e1)) h4 (loC F2_ l__e <| loC F2_ l__e1 <| loN)
    rcases zY hf1 with ⟨c3, hf1⟩ | ⟨c3, hf1⟩
    ·obtain rfl := ze hf1
     obtain rfl := hl1
     obtain rfl := ze hf0
     exact zh X0 z6 hC hm hE 4000 (hs := [aLn l_.length, bT, .a (F2_ l__e), .a (F2_ l__e1), .g [], .a ((eI .i64) r_2), bT]) (x := (I 1)) [ob (lnM F2_ l_), ob c2, ob (i0 h2), ob (iM F2_ h2), ob (i0 h3), ob (iM F2_ h3), ob (zJ h_ref12_compare), ob o2, ob c3] (by kernel_rfl) (LeV.refl _)
    ·obtain rfl := ze hf1
     exact zk X0 z6 hC hm [0,6] 4000 [aLn l_.length, bT, .a (F2_ l__e), .a (F2_ l__e1), .g [], .a ((eI .i64) r_2), bF] J2 [(0, .d (eSl 1 false F2_ l_)), (6, .d (I (w64 (i_ + 1))))] [ob (lnM F2_ l_), ob c2, ob (i0 h2), ob (iM F2_ h2), ob (i0 h3), ob (iM F2_ h3), ob (zJ h_ref12_compare), ob o2, ob c3] (by kernel_rfl) fun st0 h0 => hJ2 st0 _ (w64 (i_ + 1), m2) hl1 (Nat.lt_succ_self m2) h0 inferInstance
   ·obtain rfl := ze hf1
    obtain rfl := hl1
    exact zk X0 z6 hC hm [0] 4000 [aLn l_.length, bF] J1 [(0, .d (eSl 1 false F2_ l_))] [ob (lnM F2_ l_), ob c2] (by kernel_rfl) fun st0 h0 => hJ1 st0 _ () hf0 h0 inferInstance
noncomputable def yg : Code := (Try.f52.body).getD .skip
noncomputable def ZX : yw := spF (α := List (List Int) × List Int) (ρ := List (List Int)) 52 (fun x => [F8_ x.1, F2_ x.2]) (fun r => F8_ r) (fun x => Y2 x.1 x.2) [true, false] (by
 rintro ⟨a0, a1⟩ ⟨b0, b1⟩ h
 have e0 := yO.inj (f := F8_) _ _ (List.cons.inj h).1
 replace h := (List.cons.inj h).2
 have e1 := yO.inj (f := F2_) _ _ (List.cons.inj h).1
 subst e0 e1
 rfl)
abbrev UM (w_ : List Int) (low : Int) (l_1 : List (List Int)) : List (Nat × T) := [(0, .own (eOs 1 false F2_ l_1)), (1, .d (eSl 1 false (eI .i64) w_)), (5, .d (I low))]
abbrev UL (w_ : List Int) (low : Int) (l_2 : List (List Int)) (i_ : Int) : List (Nat × T) := [(0, .own (eOs 1 false F2_ l_2)), (1, .d (eSl 1 false (eI .i64) w_)), (5, .d (I low)), (8, .d (I i_))]
abbrev UN (l_ : List (List Int)) (w_ : List Int) (low : Int) : List (Nat × T) := [(0, .own (eOs 1 false F2_ l_)), (1, .d (eSl 1 false (eI .i64) w_)), (5, .d (I low))]
abbrev UO (l_ : List (List Int)) (w_ : List Int) (low : Int) : List (Nat × T) := [(0, .own (eOs 1 false F2_ l_)), (1, .d (eSl 1 false (eI .i64) w_)), (5, .d (I low))]
abbrev UK (l_ : List (List Int)) (w_ : List Int) (low1 : Int) (high : Int) : List (Nat × T) := [(0, .own (eOs 1 false F2_ l_)), (1, .d (eSl 1 false (eI .i64) w_)), (5, .d (I low1)), (6, .d (I high))]
theorem z08 {ctr : Ctr} (hC : y6 Try.prog ctr) (hm : Try.prog.follows .mixedOrders = true) (h_ref12_compare : ctr.Has yI) : ZX.Ok Try.prog := by
 refine y8 ?_
 rintro ⟨l_, w_⟩ r0 hf0
 try unfold Y2 at hf0
 refine zx (tt := yE) (keep := true) (rs := [(4, none)]) (n := ⟨68, []⟩) (body := yg) z6 Try.func52 rfl (by kernel_rfl) rfl rfl (by show (2 : Nat) ≤ 68; decide) fun E hE => ?_
 refine zI ((zC z6 (.inr 66) [65]).or ((zC z6 (.inl 44) [43]).or X0)) z6 hC hm [0,1,5,6] 4000 [aLn l_.length, .cut 0] (sub [1,1,1] yg) (frs [1,1,1] [] yg []) [(0, .own (eOs 1 false F2_ l_)), (1, .d (eSl 1 false (eI .i64) w_)), (5, .d (I 0)), (6, .d (I ((l_.length : Nat) : Int)))] [ob (lnM F2_ l_)] (by kernel_rfl) fun st0 h0 => ?_
 refine zr (X := Int) (x := (sub [1,1,1,2] yg)) (y := (sub [1,1,1,1] yg)) (by kernel_rfl) [0,1,5] [0,1,5,6] _ h0 (fun z => kz l_ w_ z = some r0) (fun z => UO l_ w_ z) ?_ fun J1 hJ1 => ?_
 ·rintro low hf0
  unfold kz at hf0
  refine zI ((zC z6 (.inr 66) [65]).or ((zC z6 (.inl 44) [43]).or X0)) z6 hC hm [0,1,5] 4000 [.cut 0] (sub [1,1,1,1] yg) (frs [1,1,1,1] [] yg []) [(0, .own (eOs 1 false F2_ l_)), (1, .d (eSl 1 false (eI .i64) w_)), (5, .d (I low))] [] (by kernel_rfl) fun st0 h0 => ?_
  refine zr (X := Unit) (x := (sub [1,1,1,1,2] yg)) (y := (sub [1,1,1,1,1] yg)) (by kernel_rfl) [0,1,5] [0,1,5] _ h0 (fun z => uI l_ w_ low = some r0) (fun z => UN l_ w_ low) ?_ fun J2 hJ2 => ?_
  ·rintro ⟨⟩ hf0
   unfold uI at hf0
   have o0 := shM F3_ F2_ ([[]])
   have o1 := dM F2_ ([[]] : List (List Int))
   obtain ⟨g0, hf0⟩ := gdE hf0
   have o2 := aL F2_ F2_ g0
   have o3 := aM F2_ l_ ([[]] : List (List Int))
   refine zI ((xNb z6 43).or ((zC z6 (.inr 66) [65]).or ((zC z6 (.inl 44) [43]).or X0))) z6 hC hm [0,1,5] 4000 [.l (([[]]).map F2_), .l ((l_ ++ ([[]] : List (List Int))).map F2_), .cut 0] (sub [1,1,1,1,1,1] yg) (frs [1,1,1,1,1,1] [] yg []) [(0, .own (eOs 1 false F2_ (l_ ++ ([[]] : List (List Int))))), (1, .d (eSl 1 false (eI .i64) w_)), (5, .d (I low))] [ob o0, ob o1, ob o2, ob o3] (by kernel_rfl) fun st0 h0 => ?_
   refine zr (X := List (List Int)) (x := (sub [1,1,1,1,1,1,2] yg)) (y := (sub [1,1,1,1,1,1,1] yg)) (by kernel_rfl) [0,1,5] [0,1,5] _ h0 (fun z => ky w_ low z = some r0) (fun z => UM w_ low z) ?_ fun J3 hJ3 => ?_
   ·rintro l_1 hf0
    unfold ky at hf0
    obtain ⟨g1, hf0⟩ := gdE hf0
    obtain ⟨l__e, h0, hf0⟩ := zi hf0
    have o4 := sM F2_ l_1 low w_
    obtain rfl := ze hf0
    exact zh ((zC z6 (.inr 66) [65]).or ((zC z6 (.inl 44) [43]).or X0)) z6 hC hm hE 4000 (hs := [.l (w_.map (eI .i64)), .l (w_.map (eI .i64)), .a (F2_ l__e), .a (F2_ l__e), .l ((l_1.set low.toNat w_).map F2_)]) (x := (eOs 1 false F2_ (l_1.set low.toNat w_))) [ob (dM (eI .i64) w_), ob (aL (eI .i64) (eI .i64) g1), ob (aM0 (eI .i64) w_), ob (iL F2_ h0), ob (shM (eI .i64) (eI .i64) w_), ob (iM F2_ h0), ob (iM F2_ h0), ob o4] (by kernel_rfl) (LeV.refl _)
   ·have o5 := lnM F2_ (l_ ++ ([[]] : List (List Int)))
    obtain ⟨t4, ht4, hf0⟩ := zi hf0
    refine zI ((zC z6 (.inr 66) [65]).or ((zC z6 (.inl 44) [43]).or X0)) z6 hC hm [0,1,5,8] 4000 [.a (.atom (.int .i64 (((l_ ++ ([[]] : List (List Int))).length : Nat) : Int)))] (sub [1,1,1,1,1,1,2,1,0] yg) (frs [1,1,1,1,1,1,2,1,0] [J3] yg []) [(0, .own (eOs 1 false F2_ (l_ ++ ([[]] : List (List Int))))), (1, .d (eSl 1 false (eI .i64) w_)), (5, .d (I low)), (8, .d (I (w64 ((((l_ ++ ([[]] : List (List Int))).length : Nat) : Int) - 1))))] [ob o5] (by kernel_rfl) fun st0 h0 => ?_
    refine zN (X := (List (List Int) × Int) × Nat) (c' := (sub [1,1,1,1,1,1,2,1,0,0] yg)) (by kernel_rfl) [0,1,5,8] (fun x => yG (fun s => qU low s.1 s.2) x.2 x.1 = some t4) (fun x => x.2) (fun x => UL w_ low x.1.1 x.1.2) (((l_ ++ ([[]] : List (List Int))), w64 ((((l_ ++ ([[]] : List (List Int))).length : Nat) : Int) - 1)), wJ) _ h0 inferInstance ht4 ?_
    rintro ⟨⟨l_2, i_⟩, n4⟩ hn4 J4 hJ4
    obtain ⟨m4, lr1, rfl, hf1, hl1⟩ := xM hn4
    try unfold qU at hf1
    rcases zY hf1 with ⟨c0, hf1⟩ | ⟨c0, hf1⟩
    ·obtain ⟨l__e1, h1, hf1⟩ := zi hf1
     obtain ⟨l__e2, h2, hf1⟩ := zi hf1
     have o6 := sM F2_ l_2 i_ l__e1
     obtain rfl := ze hf1
     exact zk ((zC z6 (.inr 66) [65]).or ((zC z6 (.inl 44) [43]).or X0)) z6 hC hm [0,1,5,8] 4000 [bT, .a (F2_ l__e1), .a (F2_ l__e2), .a (F2_ l__e2), .l ((l_2.set i_.toNat l__e1).map F2_)] J4 [(0, .own (eOs 1 false F2_ (l_2.set i_.toNat l__e1))), (1, .d (eSl 1 false (eI .i64) w_)), (5, .d (I low)), (8, .d (I (w64 (i_ - 1))))] [ob c0, ob (iL F2_ h1), ob (iM F2_ h1), ob (iL F2_ h2), ob (iM F2_ h2), ob (iM F2_ h2), ob o6] (by kernel_rfl) fun st0 h0 => hJ4 st0 _ (((l_2.set i_.toNat l__e1), w64 (i_ - 1)), m4) hl1 (Nat.lt_succ_self m4) h0 inferInstance
    ·obtain rfl := ze hf1
     obtain rfl := hl1
     exact zk ((zC z6 (.inr 66) [65]).or ((zC z6 (.inl 44) [43]).or X0)) z6 hC hm [0,1,5] 4000 [bF] J3 [(0, .own (eOs 1 false F2_ l_2)), (1, .d (eSl 1 false (eI .i64) w_)), (5, .d (I low))] [ob c0] (by kernel_rfl) fun st0 h0 => hJ3 st0 _ l_2 hf0 h0 inferInstance
  ·rcases zY hf0 with ⟨c1, hf0⟩ | ⟨c1, hf0⟩
   ·obtain ⟨l__e3, h3, hf0⟩ := zi hf0
    obtain ⟨r_, h4, hf0⟩ := zi hf0
    have o7 := yP h_ref12_compare (x := (l__e3, w_)) h4 (loC F2_ l__e3 <| loC F2_ w_ <| loN)
    rcases zY hf0 with ⟨c2, hf0⟩ | ⟨c2, hf0⟩
    ·obtain rfl := ze hf0
     exact zh ((zC z6 (.inr 66) [65]).or ((zC z6 (.inl 44) [43]).or X0)) z6 hC hm hE 4000 (hs := (aLn l_.length :: (rpN 4 bT [.a (F2_ l__e3), bT, bT, .g [], .a ((eI .i64) r_), bT, bT, bT]))) (x := (eOs 1 false F2_ l_)) [ob (lnM F2_ l_), ob c1, ob c1, ob c1, ob (iL F2_ h3), ob c1, ob (iM F2_ h3), ob c1, ob c1, ob (zJ h_ref12_compare), ob o7, ob c1, ob c1, ob c2] (by kernel_rfl) (LeV.refl _)
    ·exact zk ((zC z6 (.inr 66) [65]).or ((zC z6 (.inl 44) [43]).or X0)) z6 hC hm [0,1,5] 4000 (aLn l_.length :: (rpN 4 bT [.a (F2_ l__e3), bT, bT, .g [], .a ((eI .i64) r_), bT, bT, bF])) J2 [(0, .own (eOs 1 false F2_ l_)), (1, .d (eSl 1 false (eI .i64) w_)), (5, .d (I low))] [ob (lnM F2_ l_), ob c1, ob c1, ob c1, ob (iL F2_ h3), ob c1, ob (iM F2_ h3), ob c1, ob c1, ob (zJ h_ref12_compare), ob o7, ob c1, ob c1, ob c2] (by kernel_rfl) fun st0 h0 => hJ2 st0 _ () hf0 h0 inferInstance
   ·exact zk ((zC z6 (.inr 66) [65]).or ((zC z6 (.inl 44) [43]).or X0)) z6 hC hm [0,1,5] 4000 (aLn l_.length :: (rpN 9 bF [])) J2 [(0, .own (eOs 1 false F2_ l_)), (1, .d (eSl 1 false (eI .i64) w_)), (5, .d (I low))] (ob (lnM F2_ l_) :: (rpN 8 (ob c1) [oF])) (by kernel_rfl) fun st0 h0 => hJ2 st0 _ () hf0 h0 inferInstance
 ·obtain ⟨t5, ht5, hf0⟩ := zi hf0
  refine zI ((zC z6 (.inr 66) [65]).or ((zC z6 (.inl 44) [43]).or X0)) z6 hC hm [0,1,5,6] 4000 [] (sub [1,1,1,2,0] yg) (frs [1,1,1,2,0] [J1] yg []) [(0, .own (eOs 1 false F2_ l_)), (1, .d (eSl 1 false (eI .i64) w_)), (5, .d (I 0)), (6, .d (I ((l_.length : Nat) : Int)))] [] (by kernel_rfl) fun st0 h0 => ?_
  refine zN (X := (Int × Int) × Nat) (c' := (sub [1,1,1,2,0,0] yg)) (by kernel_rfl) [0,1,5,6] (fun x => yG (fun s => qT l_ w_ s.1 s.2) x.2 x.1 = some t5) (fun x => x.2) (fun x => UK l_ w_ x.1.1 x.1.2) ((0, ((l_.length : Nat) : Int)), wJ) _ h0 inferInstance ht5 ?_
  rintro ⟨⟨low1, high⟩, n5⟩ hn5 J5 hJ5
  obtain ⟨m5, lr1, rfl, hf1, hl1⟩ := xM hn5
  try unfold qT at hf1
  rcases zY hf1 with ⟨c3, hf1⟩ | ⟨c3, hf1⟩
  ·obtain ⟨g2, hf1⟩ := gdE hf1
   obtain ⟨l__e4, h5, hf1⟩ := zi hf1
   obtain ⟨r_1, h6, hf1⟩ := zi hf1
   have o8 := yP h_ref12_compare (x := (l__e4, w_)) h6 (loC F2_ l__e4 <| loC F2_ w_ <| loN)
   rcases zY hf1 with ⟨c4, hf1⟩ | ⟨c4, hf1⟩
   ·obtain rfl := ze hf1
    exact zk ((zC z6 (.inr 66) [65]).or ((zC z6 (.inl 44) [43]).or X0)) z6 hC hm [0,1,5,6] 4000 [bT, .a (F2_ l__e4), .g [], .a ((eI .i64) r_1), bT] J5 [(0, .own (eOs 1 false F2_ l_)), (1, .d (eSl 1 false (eI .i64) w_)), (5, .d (I (w64 ((w64 (Int.tdiv (w64 (low1 + high)) 2)) + 1)))), (6, .d (I high))] [ob c3, ob g2, ob (iL F2_ h5), ob (iM F2_ h5), ob (zJ h_ref12_compare), ob o8, ob c4] (by kernel_rfl) fun st0 h0 => hJ5 st0 _ ((w64 ((w64 (Int.tdiv (w64 (low1 + high)) 2)) + 1), high), m5) hl1 (Nat.lt_succ_self m5) h0 inferInstance
   ·obtain rfl := ze hf1
    exact zk ((zC z6 (.inr 66) [65]).or ((zC z6 (.inl 44) [43]).or X0)) z6 hC hm [0,1,5,6] 4000 [bT, .a (F2_ l__e4), .g [], .a ((eI .i64) r_1), bF] J5 [(0, .own (eOs 1 false F2_ l_)), (1, .d (eSl 1 false (eI .i64) w_)), (5, .d (I low1)), (6, .d (I (w64 (Int.tdiv (w64 (low1 + high)) 2))))] [ob c3, ob g2, ob (iL F2_ h5), ob (iM F2_ h5), ob (zJ h_ref12_compare), ob o8, ob c4] (by kernel_rfl) fun st0 h0 => hJ5 st0 _ ((low1, w64 (Int.tdiv (w64 (low1 + high)) 2)), m5) hl1 (Nat.lt_succ_self m5) h0 inferInstance
  ·obtain rfl := ze hf1
   obtain rfl := hl1
   exact zk ((zC z6 (.inr 66) [65]).or ((zC z6 (.inl 44) [43]).or X0)) z6 hC hm [0,1,5] 4000 [bF] J1 [(0, .own (eOs 1 false F2_ l_)), (1, .d (eSl 1 false (eI .i64) w_)), (5, .d (I low1))] [ob c3] (by kernel_rfl) fun st0 h0 => hJ1 st0 _ low1 hf0 h0 inferInstance
noncomputable def zW : Code := (Try.f24.body).getD .skip
noncomputable def qD : yw := spF (α := List (List Int)) (ρ := List (List Int)) 24 (fun x => [F7_ x]) (fun r => F8_ r) (fun x => uk x) [] (by
 rintro a0 b0 h
 have e0 := yO.inj (f := F7_) _ _ (List.cons.inj h).1
 subst e0
 rfl)
abbrev Yt (out : List (List Int)) : List (Nat × T) := [(3, .own (eOs 1 false F2_ out))]
abbrev Ys (l_ : List (List Int)) (i_ : Int) (out2 : List (List Int)) : List (Nat × T) := [(0, .d (eSl 1 false F2_ l_)), (3, .own (eOs 1 false F2_ out2)), (4, .d (I i_))]
abbrev Yq (l_ : List (List Int)) (i_ : Int) (out3 : List (List Int)) (k_ : Int) : List (Nat × T) := [(0, .d (eSl 1 false F2_ l_)), (3, .own (eOs 1 false F2_ out3)), (4, .d (I i_)), (5, .d (I k_))]
abbrev Yr (l_ : List (List Int)) (out1 : List (List Int)) (i_ : Int) : List (Nat × T) := [(0, .d (eSl 1 false F2_ l_)), (3, .own (eOs 1 false F2_ out1)), (4, .d (I i_))]
theorem WP {ctr : Ctr} (hC : y6 Try.prog ctr) (hm : Try.prog.follows .mixedOrders = true) (h_ref12_put : ctr.Has ZX) : qD.Ok Try.prog := by
 refine y8 ?_
 rintro l_ r0 hf0
 try unfold uk at hf0
 refine zx (tt := yE) (keep := true) (rs := [(2, none)]) (n := ⟨30, []⟩) (body := zW) z6 Try.func24 rfl (by kernel_rfl) rfl rfl (by show (1 : Nat) ≤ 30; decide) fun E hE => ?_
 refine zI X0 z6 hC hm [0,3] 4000 [.cut 2] (sub [1,1] zW) (frs [1,1] [] zW []) [(0, .d (eSl 1 false F2_ l_)), (3, .own (eOs 1 true F2_ []))] [] (by kernel_rfl) fun st0 h0 => ?_
 refine zr (X := List (List Int)) (x := (sub [1,1,2] zW)) (y := (sub [1,1,1] zW)) (by kernel_rfl) [3] [0,3] _ h0 (fun z => qF z = some r0) (fun z => Yt z) ?_ fun J1 hJ1 => ?_
 ·rintro out hf0
  unfold qF at hf0
  obtain rfl := ze hf0
  exact zh X0 z6 hC hm hE 4000 (hs := []) (x := (eOs 1 false F2_ out)) [] (by kernel_rfl) (LeV.refl _)
 ·obtain ⟨t2, ht2, hf0⟩ := zi hf0
  refine zI X0 z6 hC hm [0,3,4] 4000 [] (sub [1,1,2,1,0] zW) (frs [1,1,2,1,0] [J1] zW []) [(0, .d (eSl 1 false F2_ l_)), (3, .own (eOs 1 true F2_ [])), (4, .d (I 0))] [] (by kernel_rfl) fun st0 h0 => ?_
  refine zN (X := (List (List Int) × Int) × Nat) (c' := (sub [1,1,2,1,0,0] zW)) (by kernel_rfl) [0,3,4] (fun x => yG (fun s => yN l_ s.1 s.2) x.2 x.1 = some t2) (fun x => x.2) (fun x => Yr l_ x.1.1 x.1.2) ((([] : List (List Int)), 0), wJ) _ h0 inferInstance ht2 ?_
  rintro ⟨⟨out1, i_⟩, n2⟩ hn2 J2 hJ2
  obtain ⟨m2, lr1, rfl, hf1, hl1⟩ := xM hn2
  try unfold yN at hf1
  rcases zY hf1 with ⟨c0, hf1⟩ | ⟨c0, hf1⟩
  ·refine zI X0 z6 hC hm [0,3,4] 4000 [aLn l_.length, bT, .cut 0] (sub [1,1,2,1,0,0,1] zW) (frs [1,1,2,1,0,0,1] [J1, J2] zW []) [(0, .d (eSl 1 false F2_ l_)), (3, .own (eOs 1 false F2_ out1)), (4, .d (I i_))] [ob (lnM F2_ l_), ob c0] (by kernel_rfl) fun st0 h0 => ?_
   refine zr (X := List (List Int)) (x := (sub [1,1,2,1,0,0,1,2] zW)) (y := (sub [1,1,2,1,0,0,1,1] zW)) (by kernel_rfl) [0,3,4] [0,3,4] _ h0 (fun z => u9 i_ z = some lr1) (fun z => Ys l_ i_ z) ?_ fun J3 hJ3 => ?_
   ·rintro out2 hf1
    unfold u9 at hf1
    obtain rfl := ze hf1
    exact zk X0 z6 hC hm [0,3,4] 4000 [] J2 [(0, .d (eSl 1 false F2_ l_)), (3, .own (eOs 1 false F2_ out2)), (4, .d (I (w64 (i_ + 1))))] [] (by kernel_rfl) fun st0 h0 => hJ2 st0 _ ((out2, w64 (i_ + 1)), m2) hl1 (Nat.lt_succ_self m2) h0 inferInstance
   ·obtain ⟨t4, ht4, hf1⟩ := zi hf1
    refine zI X0 z6 hC hm [0,3,4,5] 4000 [] (sub [1,1,2,1,0,0,1,2,0,1,0] zW) (frs [1,1,2,1,0,0,1,2,0,1,0] [J1, J2, J3] zW []) [(0, .d (eSl 1 false F2_ l_)), (3, .own (eOs 1 false F2_ out1)), (4, .d (I i_)), (5, .d (I 0))] [] (by kernel_rfl) fun st0 h0 => ?_
    refine zN (X := (List (List Int) × Int) × Nat) (c' := (sub [1,1,2,1,0,0,1,2,0,1,0,0] zW)) (by kernel_rfl) [0,3,4,5] (fun x => yG (fun s => yM l_ i_ s.1 s.2) x.2 x.1 = some t4) (fun x => x.2) (fun x => Yq l_ i_ x.1.1 x.1.2) ((out1,0), wJ) _ h0 inferInstance ht4 ?_
    rintro ⟨⟨out3, k_⟩, n4⟩ hn4 J4 hJ4
    obtain ⟨m4, lr2, rfl, hf2, hl2⟩ := xM hn4
    try unfold yM at hf2
    obtain ⟨l__e, h0, hf2⟩ := zi hf2
    rcases zY hf2 with ⟨c1, hf2⟩ | ⟨c1, hf2⟩
    ·obtain ⟨l__e1, h1, hf2⟩ := zi hf2
     obtain ⟨g0, hf2⟩ := gdE hf2
     have o0 := slM 1 false (eI .i64) l__e1 0 k_.toNat
     obtain ⟨r_, h2, hf2⟩ := zi hf2
     have o1 := yP h_ref12_put (x := (out3, ((l__e1.drop 0).take (k_.toNat - 0)))) h2 (loC F8_ out3 <| loC F2_ ((l__e1.drop 0).take (k_.toNat - 0)) <| loN)
     obtain rfl := ze hf2
     exact zk X0 z6 hC hm [0,3,4,5] 4000 [.a (F2_ l__e), aLn l__e.length, bT, .a (F2_ l__e1), .a (eSl 1 false (eI .i64) ((l__e1.drop 0).take (k_.toNat - 0))), .g [true, false], .a (F8_ r_)] J4 [(0, .d (eSl 1 false F2_ l_)), (3, .own (eOs 1 false F2_ r_)), (4, .d (I i_)), (5, .d (I (w64 (k_ + 1))))] [ob (i0 h0), ob (iM F2_ h0), ob (lnM (eI .i64) l__e), ob c1, ob (i0 h1), ob (iM F2_ h1), ob (slB g0), ob (z7k (eI .i64) g0), ob o0, ob (zJ h_ref12_put), ob o1] (by kernel_rfl) fun st0 h0 => hJ4 st0 _ ((r_, w64 (k_ + 1)), m4) hl2 (Nat.lt_succ_self m4) h0 inferInstance
    ·obtain rfl := ze hf2
     obtain rfl := hl2
     exact zk X0 z6 hC hm [0,3,4] 4000 [.a (F2_ l__e), aLn l__e.length, bF] J3 [(0, .d (eSl 1 false F2_ l_)), (3, .own (eOs 1 false F2_ out3)), (4, .d (I i_))] [ob (i0 h0), ob (iM F2_ h0), ob (lnM (eI .i64) l__e), ob c1] (by kernel_rfl) fun st0 h0 => hJ3 st0 _ out3 hf1 h0 inferInstance
  ·obtain rfl := ze hf1
   obtain rfl := hl1
   exact zk X0 z6 hC hm [3] 4000 [aLn l_.length, bF] J1 [(3, .own (eOs 1 false F2_ out1))] [ob (lnM F2_ l_), ob c0] (by kernel_rfl) fun st0 h0 => hJ1 st0 _ out1 hf0 h0 inferInstance
noncomputable def vb : Code := (Try.f42.body).getD .skip
noncomputable def ZY : yw := spF (α := List (List Int) × List Int) (ρ := Bool) 42 (fun x => [F7_ x.1, F2_ x.2]) (fun r => eB r) (fun x => Y3 x.1 x.2) [] (by
 rintro ⟨a0, a1⟩ ⟨b0, b1⟩ h
 have e0 := yO.inj (f := F7_) _ _ (List.cons.inj h).1
 replace h := (List.cons.inj h).2
 have e1 := yO.inj (f := F2_) _ _ (List.cons.inj h).1
 subst e0 e1
 rfl)
abbrev UQ : List (Nat × T) := []
abbrev UP (l_ : List (List Int)) (w_ : List Int) (i_ : Int) : List (Nat × T) := [(0, .d (eSl 1 false F2_ l_)), (1, .d (eSl 1 false (eI .i64) w_)), (5, .d (I i_))]
theorem z09 {ctr : Ctr} (hC : y6 Try.prog ctr) (hm : Try.prog.follows .mixedOrders = true) (h_ref12_compare : ctr.Has yI) : ZY.Ok Try.prog := by
 refine y8 ?_
 rintro ⟨l_, w_⟩ r0 hf0
 try unfold Y3 at hf0
 refine zx (tt := yE) (keep := true) (rs := [(4, none)]) (n := ⟨19, []⟩) (body := vb) z6 Try.func42 rfl (by kernel_rfl) rfl rfl (by show (2 : Nat) ≤ 19; decide) fun E hE => ?_
 refine zI X0 z6 hC hm [0,1] 4000 [.cut 1] (sub [1] vb) (frs [1] [] vb []) [(0, .d (eSl 1 false F2_ l_)), (1, .d (eSl 1 false (eI .i64) w_))] [] (by kernel_rfl) fun st0 h0 => ?_
 refine zr (X := Unit) (x := (sub [1,2] vb)) (y := (sub [1,1] vb)) (by kernel_rfl) [] [0,1] _ h0 (fun z => kA = some r0) (fun z => UQ) ?_ fun J1 hJ1 => ?_
 ·rintro ⟨⟩ hf0
  unfold kA at hf0
  obtain rfl := ze hf0
  exact zh X0 z6 hC hm hE 4000 (hs := []) (x := (B false)) [] (by kernel_rfl) (LeV.refl _)
 ·obtain ⟨t2, ht2, hf0⟩ := zi hf0
  refine zI X0 z6 hC hm [0,1,5] 4000 [] (sub [1,2,1,0] vb) (frs [1,2,1,0] [J1] vb []) [(0, .d (eSl 1 false F2_ l_)), (1, .d (eSl 1 false (eI .i64) w_)), (5, .d (I 0))] [] (by kernel_rfl) fun st0 h0 => ?_
  refine zN (X := Int × Nat) (c' := (sub [1,2,1,0,0] vb)) (by kernel_rfl) [0,1,5] (fun x => yG (fun s => uK l_ w_ s) x.2 x.1 = some t2) (fun x => x.2) (fun x => UP l_ w_ x.1) (0, wJ) _ h0 inferInstance ht2 ?_
  rintro ⟨i_, n2⟩ hn2 J2 hJ2
  obtain ⟨m2, lr1, rfl, hf1, hl1⟩ := xM hn2
  try unfold uK at hf1
  rcases zY hf1 with ⟨c0, hf1⟩ | ⟨c0, hf1⟩
  ·obtain ⟨l__e, h0, hf1⟩ := zi hf1
   obtain ⟨r_, h1, hf1⟩ := zi hf1
   have o0 := yP h_ref12_compare (x := (l__e, w_)) h1 (loC F2_ l__e <| loC F2_ w_ <| loN)
   rcases zY hf1 with ⟨c1, hf1⟩ | ⟨c1, hf1⟩
   ·obtain rfl := ze hf1
    obtain rfl := hl1
    obtain rfl := ze hf0
    exact zh X0 z6 hC hm hE 4000 (hs := [aLn l_.length, bT, .a (F2_ l__e), .g [], .a ((eI .i64) r_), bT]) (x := (B true)) [ob (lnM F2_ l_), ob c0, ob (i0 h0), ob (iM F2_ h0), ob (zJ h_ref12_compare), ob o0, ob c1] (by kernel_rfl) (LeV.refl _)
   ·obtain rfl := ze hf1
    exact zk X0 z6 hC hm [0,1,5] 4000 [aLn l_.length, bT, .a (F2_ l__e), .g [], .a ((eI .i64) r_), bF] J2 [(0, .d (eSl 1 false F2_ l_)), (1, .d (eSl 1 false (eI .i64) w_)), (5, .d (I (w64 (i_ + 1))))] [ob (lnM F2_ l_), ob c0, ob (i0 h0), ob (iM F2_ h0), ob (zJ h_ref12_compare), ob o0, ob c1] (by kernel_rfl) fun st0 h0 => hJ2 st0 _ (w64 (i_ + 1), m2) hl1 (Nat.lt_succ_self m2) h0 inferInstance
  ·obtain rfl := ze hf1
   obtain rfl := hl1
   exact zk X0 z6 hC hm [] 4000 [aLn l_.length, bF] J1 [] [ob (lnM F2_ l_), ob c0] (by kernel_rfl) fun st0 h0 => hJ1 st0 _ () hf0 h0 inferInstance
noncomputable def zu : Code := (Try.f31.body).getD .skip
noncomputable def Zr : yw := spF (α := List (List Int) × Int) (ρ := zb) 31 (fun x => [F7_ x.1, (eI .i64) x.2]) (fun r => xH r) (fun x => Z2 x.1 x.2) [] (by
 rintro ⟨a0, a1⟩ ⟨b0, b1⟩ h
 have e0 := yO.inj (f := F7_) _ _ (List.cons.inj h).1
 replace h := (List.cons.inj h).2
 have e1 := yO.inj (f := (eI .i64)) _ _ (List.cons.inj h).1
 subst e0 e1
 rfl)
abbrev Vd (inputs : Int) (t_Nodes : List z7) : List (Nat × T) := [(4, .own (.box (.agg [I 0, eOs 2 true zH []]))), (6, .own (.box (.agg [I inputs, eOs 2 false wy t_Nodes])))]
abbrev Vc (l_ : List (List Int)) (inputs : Int) (r_ : List (List Int)) (i_ : Int) (t_Nodes2 : List z7) : List (Nat × T) := [(0, .d (eSl 1 false F2_ l_)), (1, .d (I inputs)), (4, .own (.box (.agg [I 0, eOs 2 true zH []]))), (5, .own (eOs 1 false F2_ r_)), (6, .own (.box (.agg [I inputs, eOs 2 false wy t_Nodes2]))), (7, .d (I i_))]
abbrev Vb (l_ : List (List Int)) (inputs : Int) (r_ : List (List Int)) (t_Nodes1 : List z7) (i_ : Int) (r_1 : Bool) (n_Next : List Int) : List (Nat × T) := [(0, .d (eSl 1 false F2_ l_)), (1, .d (I inputs)), (4, .own (.box (.agg [I 0, eOs 2 true zH []]))), (5, .own (eOs 1 false F2_ r_)), (6, .own (.box (.agg [I inputs, eOs 2 false wy t_Nodes1]))), (7, .d (I i_)), (8, .own (.box (.agg [eOs 1 false (eI .i64) n_Next, B r_1])))]
abbrev Va (l_ : List (List Int)) (inputs : Int) (r_ : List (List Int)) (t_Nodes1 : List z7) (i_ : Int) (r_1 : Bool) (s_ : Int) (n_Next2 : List Int) : List (Nat × T) := [(0, .d (eSl 1 false F2_ l_)), (1, .d (I inputs)), (4, .own (.box (.agg [I 0, eOs 2 true zH []]))), (5, .own (eOs 1 false F2_ r_)), (6, .own (.box (.agg [I inputs, eOs 2 false wy t_Nodes1]))), (7, .d (I i_)), (8, .own (.box (.agg [eOs 1 false (eI .i64) n_Next2, B r_1]))), (9, .d (I s_))]
abbrev V9 (l_ : List (List Int)) (inputs : Int) (r_ : List (List Int)) (t_Nodes1 : List z7) (i_ : Int) (r_1 : Bool) (n_Next1 : List Int) (s_ : Int) (next : Int) : List (Nat × T) := [(0, .d (eSl 1 false F2_ l_)), (1, .d (I inputs)), (4, .own (.box (.agg [I 0, eOs 2 true zH []]))), (5, .own (eOs 1 false F2_ r_)), (6, .own (.box (.agg [I inputs, eOs 2 false wy t_Nodes1]))), (7, .d (I i_)), (8, .own (.box (.agg [eOs 1 false (eI .i64) n_Next1, B r_1]))), (9, .d (I s_)), (10, .d (I next))]
abbrev V8 (l_ : List (List Int)) (inputs : Int) (r_ : List (List Int)) (t_Nodes1 : List z7) (i_ : Int) (r_1 : Bool) (n_Next1 : List Int) (s_ : Int) (k_ : Int) (next2 : Int) : List (Nat × T) := [(0, .d (eSl 1 false F2_ l_)), (1, .d (I inputs)), (4, .own (.box (.agg [I 0, eOs 2 true zH []]))), (5, .own (eOs 1 false F2_ r_)), (6, .own (.box (.agg [I inputs, eOs 2 false wy t_Nodes1]))), (7, .d (I i_)), (8, .own (.box (.agg [eOs 1 false (eI .i64) n_Next1, B r_1]))), (9, .d (I s_)), (10, .d (I next2)), (11, .d (I k_))]
abbrev V5 (l_ : List (List Int)) (inputs : Int) (r_ : List (List Int)) (t_Nodes1 : List z7) (i_ : Int) (r_1 : Bool) (n_Next1 : List Int) (s_ : Int) (next1 : Int) (k_ : Int) : List (Nat × T) := [(0, .d (eSl 1 false F2_ l_)), (1, .d (I inputs)), (4, .own (.box (.agg [I 0, eOs 2 true zH []]))), (5, .own (eOs 1 false F2_ r_)), (6, .own (.box (.agg [I inputs, eOs 2 false wy t_Nodes1]))), (7, .d (I i_)), (8, .own (.box (.agg [eOs 1 false (eI .i64) n_Next1, B r_1]))), (9, .d (I s_)), (10, .d (I next1)), (11, .d (I k_))]
abbrev V6 (l_ : List (List Int)) (inputs : Int) (r_ : List (List Int)) (t_Nodes1 : List z7) (i_ : Int) (r_1 : Bool) (n_Next1 : List Int) (s_ : Int) : List (Nat × T) := [(0, .d (eSl 1 false F2_ l_)), (1, .d (I inputs)), (4, .own (.box (.agg [I 0, eOs 2 true zH []]))), (5, .own (eOs 1 false F2_ r_)), (6, .own (.box (.agg [I inputs, eOs 2 false wy t_Nodes1]))), (7, .d (I i_)), (8, .own (.box (.agg [eOs 1 false (eI .i64) n_Next1, B r_1]))), (9, .d (I s_))]
abbrev V7 (l_ : List (List Int)) (inputs : Int) (r_ : List (List Int)) (t_Nodes1 : List z7) (i_ : Int) : List (Nat × T) := [(0, .d (eSl 1 false F2_ l_)), (1, .d (I inputs)), (4, .own (.box (.agg [I 0, eOs 2 true zH []]))), (5, .own (eOs 1 false F2_ r_)), (6, .own (.box (.agg [I inputs, eOs 2 false wy t_Nodes1]))), (7, .d (I i_))]
theorem K0 {ctr : Ctr} (hC : y6 Try.prog ctr) (hm : Try.prog.follows .mixedOrders = true) (h_ref12_Prefixes : ctr.Has qD) (h_ref12_Has : ctr.Has ZY) (h_ref12_compare : ctr.Has yI) : Zr.Ok Try.prog := by
 refine y8 ?_
 rintro ⟨l_, inputs⟩ r0 hf0
 try unfold Z2 at hf0
 refine zx (tt := yE) (keep := false) (rs := [(4, some 44)]) (n := ⟨69, []⟩) (body := zu) z6 Try.func31 rfl (by kernel_rfl) rfl rfl (by show (2 : Nat) ≤ 69; decide) fun E hE => ?_
 obtain ⟨r_, h0, hf0⟩ := zi hf0
 have o0 := yP h_ref12_Prefixes (x := l_) h0 (loC F7_ l_ <| loN)
 refine zI X0 z6 hC hm [0,1,4,5,6] 4000 [.g [], .a (F8_ r_), .cut 1] (sub [1,1,1] zu) (frs [1,1,1] [] zu []) [(0, .d (eSl 1 false F2_ l_)), (1, .d (I inputs)), (4, .own (.box (.agg [I 0, eOs 2 true zH []]))), (5, .own (eOs 1 false F2_ r_)), (6, .own (.box (.agg [I inputs, eOs 2 true zH []])))] [ob (zJ h_ref12_Prefixes), ob o0] (by kernel_rfl) fun st0 h0 => ?_
 refine zr (X := List z7) (x := (sub [1,1,1,2] zu)) (y := (sub [1,1,1,1] zu)) (by kernel_rfl) [4,6] [0,1,4,5,6] _ h0 (fun z => jr inputs z = some r0) (fun z => Vd inputs z) ?_ fun J1 hJ1 => ?_
 ·rintro t_Nodes hf0
  unfold jr at hf0
  have o1 := shM wy zH t_Nodes
  obtain rfl := ze hf0
  exact zh X0 z6 hC hm hE 4000 (hs := [.l (t_Nodes.map zH)]) (x := (.agg [I inputs, eSl 2 false zH t_Nodes])) [ob o1] (by kernel_rfl) (LeV.refl _)
 ·obtain ⟨t2, ht2, hf0⟩ := zi hf0
  refine zI X0 z6 hC hm [0,1,4,5,6,7] 4000 [] (sub [1,1,1,2,1,0] zu) (frs [1,1,1,2,1,0] [J1] zu []) [(0, .d (eSl 1 false F2_ l_)), (1, .d (I inputs)), (4, .own (.box (.agg [I 0, eOs 2 true zH []]))), (5, .own (eOs 1 false F2_ r_)), (6, .own (.box (.agg [I inputs, eOs 2 true wy []]))), (7, .d (I 0))] [] (by kernel_rfl) fun st0 h0 => ?_
  refine zN (X := (List z7 × Int) × Nat) (c' := (sub [1,1,1,2,1,0,0] zu)) (by kernel_rfl) [0,1,4,5,6,7] (fun x => yG (fun s => wq l_ inputs r_ s.1 s.2) x.2 x.1 = some t2) (fun x => x.2) (fun x => V7 l_ inputs r_ x.1.1 x.1.2) ((([] : List z7), 0), wJ) _ h0 inferInstance ht2 ?_
  rintro ⟨⟨t_Nodes1, i_⟩, n2⟩ hn2 J2 hJ2
  obtain ⟨m2, lr1, rfl, hf1, hl1⟩ := xM hn2
  try unfold wq at hf1
  rcases zY hf1 with ⟨c0, hf1⟩ | ⟨c0, hf1⟩
  ·refine zI X0 z6 hC hm [0,1,4,5,6,7] 4000 [aLn r_.length, bT, .cut 0] (sub [1,1,1,2,1,0,0,1] zu) (frs [1,1,1,2,1,0,0,1] [J1, J2] zu []) [(0, .d (eSl 1 false F2_ l_)), (1, .d (I inputs)), (4, .own (.box (.agg [I 0, eOs 2 true zH []]))), (5, .own (eOs 1 false F2_ r_)), (6, .own (.box (.agg [I inputs, eOs 2 false wy t_Nodes1]))), (7, .d (I i_))] [ob (lnM F2_ r_), ob c0] (by kernel_rfl) fun st0 h0 => ?_
   refine zr (X := List z7) (x := (sub [1,1,1,2,1,0,0,1,2] zu)) (y := (sub [1,1,1,2,1,0,0,1,1] zu)) (by kernel_rfl) [0,1,4,5,6,7] [0,1,4,5,6,7] _ h0 (fun z => jq i_ z = some lr1) (fun z => Vc l_ inputs r_ i_ z) ?_ fun J3 hJ3 => ?_
   ·rintro t_Nodes2 hf1
    unfold jq at hf1
    obtain rfl := ze hf1
    exact zk X0 z6 hC hm [0,1,4,5,6,7] 4000 [] J2 [(0, .d (eSl 1 false F2_ l_)), (1, .d (I inputs)), (4, .own (.box (.agg [I 0, eOs 2 true zH []]))), (5, .own (eOs 1 false F2_ r_)), (6, .own (.box (.agg [I inputs, eOs 2 false wy t_Nodes2]))), (7, .d (I (w64 (i_ + 1))))] [] (by kernel_rfl) fun st0 h0 => hJ2 st0 _ ((t_Nodes2, w64 (i_ + 1)), m2) hl1 (Nat.lt_succ_self m2) h0 inferInstance
   ·obtain ⟨r__e, h1, hf1⟩ := zi hf1
    obtain ⟨r_1, h2, hf1⟩ := zi hf1
    have o2 := yP h_ref12_Has (x := (l_, r__e)) h2 (loC F7_ l_ <| loC F2_ r__e <| loN)
    refine zI X0 z6 hC hm [0,1,4,5,6,7,8] 4000 [.a (F2_ r__e), .g [], .a (eB r_1), .cut 0] (sub [1,1,1,2,1,0,0,1,2,0,1] zu) (frs [1,1,1,2,1,0,0,1,2,0,1] [J1, J2, J3] zu []) [(0, .d (eSl 1 false F2_ l_)), (1, .d (I inputs)), (4, .own (.box (.agg [I 0, eOs 2 true zH []]))), (5, .own (eOs 1 false F2_ r_)), (6, .own (.box (.agg [I inputs, eOs 2 false wy t_Nodes1]))), (7, .d (I i_)), (8, .own (.box (.agg [eOs 1 true (eI .i64) [], B r_1])))] [ob (iL F2_ h1), ob (iM F2_ h1), ob (zJ h_ref12_Has), ob o2] (by kernel_rfl) fun st0 h0 => ?_
    refine zr (X := List Int) (x := (sub [1,1,1,2,1,0,0,1,2,0,1,2] zu)) (y := (sub [1,1,1,2,1,0,0,1,2,0,1,1] zu)) (by kernel_rfl) [0,1,4,5,6,7,8] [0,1,4,5,6,7,8] _ h0 (fun z => jp t_Nodes1 i_ r_1 z = some lr1) (fun z => Vb l_ inputs r_ t_Nodes1 i_ r_1 z) ?_ fun J4 hJ4 => ?_
    ·rintro n_Next hf1
     unfold jp at hf1
     have o3 := oC wy (z7.mk n_Next r_1) []
     obtain ⟨g0, hf1⟩ := gdE hf1
     have o4 := aL wy wy g0
     have o5 := aM wy t_Nodes1 ([(z7.mk n_Next r_1)] : List z7)
     exact zk X0 z6 hC hm [0,1,4,5,6,7] 4000 [bF, .l ((t_Nodes1 ++ ([(z7.mk n_Next r_1)] : List z7)).map wy)] J3 [(0, .d (eSl 1 false F2_ l_)), (1, .d (I inputs)), (4, .own (.box (.agg [I 0, eOs 2 true zH []]))), (5, .own (eOs 1 false F2_ r_)), (6, .own (.box (.agg [I inputs, eOs 2 false wy (t_Nodes1 ++ ([(z7.mk n_Next r_1)] : List z7))]))), (7, .d (I i_))] [ob o3, ob o4, ob o5] (by kernel_rfl) fun st0 h0 => hJ3 st0 _ (t_Nodes1 ++ ([(z7.mk n_Next r_1)] : List z7)) hf1 h0 inferInstance
    ·obtain ⟨t5, ht5, hf1⟩ := zi hf1
     refine zI X0 z6 hC hm [0,1,4,5,6,7,8,9] 4000 [] (sub [1,1,1,2,1,0,0,1,2,0,1,2,1,0] zu) (frs [1,1,1,2,1,0,0,1,2,0,1,2,1,0] [J1, J2, J3, J4] zu []) [(0, .d (eSl 1 false F2_ l_)), (1, .d (I inputs)), (4, .own (.box (.agg [I 0, eOs 2 true zH []]))), (5, .own (eOs 1 false F2_ r_)), (6, .own (.box (.agg [I inputs, eOs 2 false wy t_Nodes1]))), (7, .d (I i_)), (8, .own (.box (.agg [eOs 1 true (eI .i64) [], B r_1]))), (9, .d (I 0))] [] (by kernel_rfl) fun st0 h0 => ?_
     refine zN (X := (List Int × Int) × Nat) (c' := (sub [1,1,1,2,1,0,0,1,2,0,1,2,1,0,0] zu)) (by kernel_rfl) [0,1,4,5,6,7,8,9] (fun x => yG (fun s => wp inputs r_ i_ s.1 s.2) x.2 x.1 = some t5) (fun x => x.2) (fun x => V6 l_ inputs r_ t_Nodes1 i_ r_1 x.1.1 x.1.2) ((([] : List Int), 0), wJ) _ h0 inferInstance ht5 ?_
     rintro ⟨⟨n_Next1, s_⟩, n5⟩ hn5 J5 hJ5
     obtain ⟨m5, lr2, rfl, hf2, hl2⟩ := xM hn5
     try unfold wp at hf2
     rcases zY hf2 with ⟨c1, hf2⟩ | ⟨c1, hf2⟩
     ·refine zI X0 z6 hC hm [0,1,4,5,6,7,8,9] 4000 [bT, .cut 0] (sub [1,1,1,2,1,0,0,1,2,0,1,2,1,0,0,1] zu) (frs [1,1,1,2,1,0,0,1,2,0,1,2,1,0,0,1] [J1, J2, J3, J4, J5] zu []) [(0, .d (eSl 1 false F2_ l_)), (1, .d (I inputs)), (4, .own (.box (.agg [I 0, eOs 2 true zH []]))), (5, .own (eOs 1 false F2_ r_)), (6, .own (.box (.agg [I inputs, eOs 2 false wy t_Nodes1]))), (7, .d (I i_)), (8, .own (.box (.agg [eOs 1 false (eI .i64) n_Next1, B r_1]))), (9, .d (I s_))] [ob c1] (by kernel_rfl) fun st0 h0 => ?_
      refine zr (X := List Int) (x := (sub [1,1,1,2,1,0,0,1,2,0,1,2,1,0,0,1,2] zu)) (y := (sub [1,1,1,2,1,0,0,1,2,0,1,2,1,0,0,1,1] zu)) (by kernel_rfl) [0,1,4,5,6,7,8,9] [0,1,4,5,6,7,8,9] _ h0 (fun z => jo s_ z = some lr2) (fun z => Va l_ inputs r_ t_Nodes1 i_ r_1 s_ z) ?_ fun J6 hJ6 => ?_
      ·rintro n_Next2 hf2
       unfold jo at hf2
       obtain rfl := ze hf2
       exact zk X0 z6 hC hm [0,1,4,5,6,7,8,9] 4000 [] J5 [(0, .d (eSl 1 false F2_ l_)), (1, .d (I inputs)), (4, .own (.box (.agg [I 0, eOs 2 true zH []]))), (5, .own (eOs 1 false F2_ r_)), (6, .own (.box (.agg [I inputs, eOs 2 false wy t_Nodes1]))), (7, .d (I i_)), (8, .own (.box (.agg [eOs 1 false (eI .i64) n_Next2, B r_1]))), (9, .d (I (w64 (s_ + 1))))] [] (by kernel_rfl) fun st0 h0 => hJ5 st0 _ ((n_Next2, w64 (s_ + 1)), m5) hl2 (Nat.lt_succ_self m5) h0 inferInstance
      ·refine zI X0 z6 hC hm [0,1,4,5,6,7,8,9,10] 4000 [.cut 1] (sub [1,1,1,2,1,0,0,1,2,0,1,2,1,0,0,1,2,0,1] zu) (frs [1,1,1,2,1,0,0,1,2,0,1,2,1,0,0,1,2,0,1] [J1, J2, J3, J4, J5, J6] zu []) [(0, .d (eSl 1 false F2_ l_)), (1, .d (I inputs)), (4, .own (.box (.agg [I 0, eOs 2 true zH []]))), (5, .own (eOs 1 false F2_ r_)), (6, .own (.box (.agg [I inputs, eOs 2 false wy t_Nodes1]))), (7, .d (I i_)), (8, .own (.box (.agg [eOs 1 false (eI .i64) n_Next1, B r_1]))), (9, .d (I s_)), (10, .d (I (-1)))] [] (by kernel_rfl) fun st0 h0 => ?_
       refine zr (X := Int) (x := (sub [1,1,1,2,1,0,0,1,2,0,1,2,1,0,0,1,2,0,1,2] zu)) (y := (sub [1,1,1,2,1,0,0,1,2,0,1,2,1,0,0,1,2,0,1,1] zu)) (by kernel_rfl) [0,1,4,5,6,7,8,9,10] [0,1,4,5,6,7,8,9,10] _ h0 (fun z => jn n_Next1 s_ z = some lr2) (fun z => V9 l_ inputs r_ t_Nodes1 i_ r_1 n_Next1 s_ z) ?_ fun J7 hJ7 => ?_
       ·rintro next hf2
        unfold jn at hf2
        obtain ⟨g1, hf2⟩ := gdE hf2
        have o6 := aM (eI .i64) n_Next1 ([next] : List Int)
        exact zk X0 z6 hC hm [0,1,4,5,6,7,8,9] 4000 [bT, .l ((n_Next1 ++ ([next] : List Int)).map (eI .i64))] J6 [(0, .d (eSl 1 false F2_ l_)), (1, .d (I inputs)), (4, .own (.box (.agg [I 0, eOs 2 true zH []]))), (5, .own (eOs 1 false F2_ r_)), (6, .own (.box (.agg [I inputs, eOs 2 false wy t_Nodes1]))), (7, .d (I i_)), (8, .own (.box (.agg [eOs 1 false (eI .i64) (n_Next1 ++ ([next] : List Int)), B r_1]))), (9, .d (I s_))] [ob (dM (eI .i64) ([next] : List Int)), ob (dM (eI .i64) ([next] : List Int)), ob (aL (eI .i64) (eI .i64) g1), ob o6] (by kernel_rfl) fun st0 h0 => hJ6 st0 _ (n_Next1 ++ ([next] : List Int)) hf2 h0 inferInstance
       ·obtain ⟨t8, ht8, hf2⟩ := zi hf2
        refine zI X0 z6 hC hm [0,1,4,5,6,7,8,9,10,11] 4000 [] (sub [1,1,1,2,1,0,0,1,2,0,1,2,1,0,0,1,2,0,1,2,1,0] zu) (frs [1,1,1,2,1,0,0,1,2,0,1,2,1,0,0,1,2,0,1,2,1,0] [J1, J2, J3, J4, J5, J6, J7] zu []) [(0, .d (eSl 1 false F2_ l_)), (1, .d (I inputs)), (4, .own (.box (.agg [I 0, eOs 2 true zH []]))), (5, .own (eOs 1 false F2_ r_)), (6, .own (.box (.agg [I inputs, eOs 2 false wy t_Nodes1]))), (7, .d (I i_)), (8, .own (.box (.agg [eOs 1 false (eI .i64) n_Next1, B r_1]))), (9, .d (I s_)), (10, .d (I (-1))), (11, .d (I 0))] [] (by kernel_rfl) fun st0 h0 => ?_
        refine zN (X := (Int × Int) × Nat) (c' := (sub [1,1,1,2,1,0,0,1,2,0,1,2,1,0,0,1,2,0,1,2,1,0,0] zu)) (by kernel_rfl) [0,1,4,5,6,7,8,9,10,11] (fun x => yG (fun s => wo r_ i_ s_ s.1 s.2) x.2 x.1 = some t8) (fun x => x.2) (fun x => V5 l_ inputs r_ t_Nodes1 i_ r_1 n_Next1 s_ x.1.1 x.1.2) (((-1), 0), wJ) _ h0 inferInstance ht8 ?_
        rintro ⟨⟨next1, k_⟩, n8⟩ hn8 J8 hJ8
        obtain ⟨m8, lr3, rfl, hf3, hl3⟩ := xM hn8
        try unfold wo at hf3
        rcases zY hf3 with ⟨c2, hf3⟩ | ⟨c2, hf3⟩
        ·refine zI X0 z6 hC hm [0,1,4,5,6,7,8,9,10,11] 4000 [aLn r_.length, bT, .cut 0] (sub [1,1,1,2,1,0,0,1,2,0,1,2,1,0,0,1,2,0,1,2,1,0,0,1] zu) (frs [1,1,1,2,1,0,0,1,2,0,1,2,1,0,0,1,2,0,1,2,1,0,0,1] [J1, J2, J3, J4, J5, J6, J7, J8] zu []) [(0, .d (eSl 1 false F2_ l_)), (1, .d (I inputs)), (4, .own (.box (.agg [I 0, eOs 2 true zH []]))), (5, .own (eOs 1 false F2_ r_)), (6, .own (.box (.agg [I inputs, eOs 2 false wy t_Nodes1]))), (7, .d (I i_)), (8, .own (.box (.agg [eOs 1 false (eI .i64) n_Next1, B r_1]))), (9, .d (I s_)), (10, .d (I next1)), (11, .d (I k_))] [ob (lnM F2_ r_), ob c2] (by kernel_rfl) fun st0 h0 => ?_
         refine zr (X := Int) (x := (sub [1,1,1,2,1,0,0,1,2,0,1,2,1,0,0,1,2,0,1,2,1,0,0,1,2] zu)) (y := (sub [1,1,1,2,1,0,0,1,2,0,1,2,1,0,0,1,2,0,1,2,1,0,0,1,1] zu)) (by kernel_rfl) [0,1,4,5,6,7,8,9,10,11] [0,1,4,5,6,7,8,9,10,11] _ h0 (fun z => uU k_ z = some lr3) (fun z => V8 l_ inputs r_ t_Nodes1 i_ r_1 n_Next1 s_ k_ z) ?_ fun J9 hJ9 => ?_
         ·rintro next2 hf3
          unfold uU at hf3
          obtain rfl := ze hf3
          exact zk X0 z6 hC hm [0,1,4,5,6,7,8,9,10,11] 4000 [] J8 [(0, .d (eSl 1 false F2_ l_)), (1, .d (I inputs)), (4, .own (.box (.agg [I 0, eOs 2 true zH []]))), (5, .own (eOs 1 false F2_ r_)), (6, .own (.box (.agg [I inputs, eOs 2 false wy t_Nodes1]))), (7, .d (I i_)), (8, .own (.box (.agg [eOs 1 false (eI .i64) n_Next1, B r_1]))), (9, .d (I s_)), (10, .d (I next2)), (11, .d (I (w64 (k_ + 1))))] [] (by kernel_rfl) fun st0 h0 => hJ8 st0 _ ((next2, w64 (k_ + 1)), m8) hl3 (Nat.lt_succ_self m8) h0 inferInstance
         ·obtain ⟨r__e1, h3, hf3⟩ := zi hf3
          obtain ⟨r__e2, h4, hf3⟩ := zi hf3
          obtain ⟨g2, hf3⟩ := gdE hf3
          obtain ⟨g3, hf3⟩ := gdE hf3
          have o7 := aM (eI .i64) r__e2 ([s_] : List Int)
          have o8 := shM (eI .i64) (eI .i64) (r__e2 ++ ([s_] : List Int))
          obtain ⟨r_2, h5, hf3⟩ := zi hf3
          have o9 := yP h_ref12_compare (x := (r__e1, (r__e2 ++ ([s_] : List Int)))) h5 (loC F2_ r__e1 <| loC F2_ (r__e2 ++ ([s_] : List Int)) <| loN)
          rcases zY hf3 with ⟨c3, hf3⟩ | ⟨c3, hf3⟩
          ·exact zk X0 z6 hC hm [0,1,4,5,6,7,8,9,10,11] 4000 [.a (F2_ r__e1), .a (F2_ r__e2), .l (r__e2.map (eI .i64)), bT, .l ((r__e2 ++ ([s_] : List Int)).map (eI .i64)), .g [], .l ((r__e2 ++ ([s_] : List Int)).map (eI .i64)), .a ((eI .i64) r_2), bT] J9 [(0, .d (eSl 1 false F2_ l_)), (1, .d (I inputs)), (4, .own (.box (.agg [I 0, eOs 2 true zH []]))), (5, .own (eOs 1 false F2_ r_)), (6, .own (.box (.agg [I inputs, eOs 2 false wy t_Nodes1]))), (7, .d (I i_)), (8, .own (.box (.agg [eOs 1 false (eI .i64) n_Next1, B r_1]))), (9, .d (I s_)), (10, .d (I k_)), (11, .d (I k_))] [ob (iL F2_ h3), ob (iM F2_ h3), ob (iL F2_ h4), ob (iM F2_ h4), ob (dM (eI .i64) r__e2), ob (aL (eI .i64) (eI .i64) g2), ob (aM0 (eI .i64) r__e2), ob (dM (eI .i64) ([s_] : List Int)), ob (dM (eI .i64) ([s_] : List Int)), ob (aL (eI .i64) (eI .i64) g3), ob o7, ob (zJ h_ref12_compare), ob o8, ob o9, ob c3] (by kernel_rfl) fun st0 h0 => hJ9 st0 _ k_ hf3 h0 inferInstance
          ·exact zk X0 z6 hC hm [0,1,4,5,6,7,8,9,10,11] 4000 [.a (F2_ r__e1), .a (F2_ r__e2), .l (r__e2.map (eI .i64)), bT, .l ((r__e2 ++ ([s_] : List Int)).map (eI .i64)), .g [], .l ((r__e2 ++ ([s_] : List Int)).map (eI .i64)), .a ((eI .i64) r_2), bF] J9 [(0, .d (eSl 1 false F2_ l_)), (1, .d (I inputs)), (4, .own (.box (.agg [I 0, eOs 2 true zH []]))), (5, .own (eOs 1 false F2_ r_)), (6, .own (.box (.agg [I inputs, eOs 2 false wy t_Nodes1]))), (7, .d (I i_)), (8, .own (.box (.agg [eOs 1 false (eI .i64) n_Next1, B r_1]))), (9, .d (I s_)), (10, .d (I next1)), (11, .d (I k_))] [ob (iL F2_ h3), ob (iM F2_ h3), ob (iL F2_ h4), ob (iM F2_ h4), ob (dM (eI .i64) r__e2), ob (aL (eI .i64) (eI .i64) g2), ob (aM0 (eI .i64) r__e2), ob (dM (eI .i64) ([s_] : List Int)), ob (dM (eI .i64) ([s_] : List Int)), ob (aL (eI .i64) (eI .i64) g3), ob o7, ob (zJ h_ref12_compare), ob o8, ob o9, ob c3] (by kernel_rfl) fun st0 h0 => hJ9 st0 _ next1 hf3 h0 inferInstance
        ·obtain rfl := ze hf3
         obtain rfl := hl3
         exact zk X0 z6 hC hm [0,1,4,5,6,7,8,9,10] 4000 [aLn r_.length, bF] J7 [(0, .d (eSl 1 false F2_ l_)), (1, .d (I inputs)), (4, .own (.box (.agg [I 0, eOs 2 true zH []]))), (5, .own (eOs 1 false F2_ r_)), (6, .own (.box (.agg [I inputs, eOs 2 false wy t_Nodes1]))), (7, .d (I i_)), (8, .own (.box (.agg [eOs 1 false (eI .i64) n_Next1, B r_1]))), (9, .d (I s_)), (10, .d (I next1))] [ob (lnM F2_ r_), ob c2] (by kernel_rfl) fun st0 h0 => hJ7 st0 _ next1 hf2 h0 inferInstance
     ·obtain rfl := ze hf2
      obtain rfl := hl2
      exact zk X0 z6 hC hm [0,1,4,5,6,7,8] 4000 [bF] J4 [(0, .d (eSl 1 false F2_ l_)), (1, .d (I inputs)), (4, .own (.box (.agg [I 0, eOs 2 true zH []]))), (5, .own (eOs 1 false F2_ r_)), (6, .own (.box (.agg [I inputs, eOs 2 false wy t_Nodes1]))), (7, .d (I i_)), (8, .own (.box (.agg [eOs 1 false (eI .i64) n_Next1, B r_1])))] [ob c1] (by kernel_rfl) fun st0 h0 => hJ4 st0 _ n_Next1 hf1 h0 inferInstance
  ·obtain rfl := ze hf1
   obtain rfl := hl1
   exact zk X0 z6 hC hm [4,6] 4000 [aLn r_.length, bF] J1 [(4, .own (.box (.agg [I 0, eOs 2 true zH []]))), (6, .own (.box (.agg [I inputs, eOs 2 false wy t_Nodes1])))] [ob (lnM F2_ r_), ob c0] (by kernel_rfl) fun st0 h0 => hJ1 st0 _ t_Nodes1 hf0 h0 inferInstance
noncomputable def xY : Code := (Try.f30.body).getD .skip
noncomputable def qN : yw := spF (α := zb × zb) (ρ := Bool) 30 (fun x => [xH x.1, xH x.2]) (fun r => eB r) (fun x => vY x.1 x.2) [] (by
 rintro ⟨a0, a1⟩ ⟨b0, b1⟩ h
 have e0 := yO.inj (f := xH) _ _ (List.cons.inj h).1
 replace h := (List.cons.inj h).2
 have e1 := yO.inj (f := xH) _ _ (List.cons.inj h).1
 subst e0 e1
 rfl)
abbrev Wv : List (Nat × T) := []
abbrev Wu (a_ : zb) (b_ : zb) (i_ : Int) : List (Nat × T) := [(2, .own (.box (xH a_))), (3, .own (.box (xH b_))), (5, .d (I i_))]
theorem QZ {ctr : Ctr} (hC : y6 Try.prog ctr) (hm : Try.prog.follows .mixedOrders = true) (h_ref12_compare : ctr.Has yI) : qN.Ok Try.prog := by
 refine y8 ?_
 rintro ⟨a_, b_⟩ r0 hf0
 try unfold vY at hf0
 refine zx (tt := yE) (keep := true) (rs := [(4, none)]) (n := ⟨56, []⟩) (body := xY) z6 Try.func30 rfl (by kernel_rfl) rfl rfl (by show (2 : Nat) ≤ 56; decide) fun E hE => ?_
 rcases zY hf0 with ⟨c0, hf0⟩ | ⟨c0, hf0⟩
 ·obtain rfl := ze hf0
  exact zh X0 z6 hC hm hE 4000 (hs := (rpN 9 bT [])) (x := (B false)) (rpN 8 (ob c0) [oT]) (by kernel_rfl) (LeV.refl _)
 ·have o0 := lnM zH a_.Nodes
  have o1 := lnM zH b_.Nodes
  rcases zY hf0 with ⟨c1, hf0⟩ | ⟨c1, hf0⟩
  ·obtain rfl := ze hf0
   exact zh X0 z6 hC hm hE 4000 (hs := [bF, bF, bF, aLn a_.Nodes.length, bF, bF, bF, aLn b_.Nodes.length, bF, bF, bT]) (x := (B false)) [ob c0, ob c0, ob c0, ob o0, ob c0, ob c0, ob c0, ob o1, ob c0, ob c0, ob c1] (by kernel_rfl) (LeV.refl _)
  ·refine zI X0 z6 hC hm [2,3] 4000 [bF, bF, bF, aLn a_.Nodes.length, bF, bF, bF, aLn b_.Nodes.length, bF, bF, bF, .cut 0] (sub [1,1] xY) (frs [1,1] [] xY []) [(2, .own (.box (xH a_))), (3, .own (.box (xH b_)))] [ob c0, ob c0, ob c0, ob o0, ob c0, ob c0, ob c0, ob o1, ob c0, ob c0, ob c1] (by kernel_rfl) fun st0 h0 => ?_
   refine zr (X := Unit) (x := (sub [1,1,2] xY)) (y := (sub [1,1,1] xY)) (by kernel_rfl) [] [2,3] _ h0 (fun z => kR = some r0) (fun z => Wv) ?_ fun J1 hJ1 => ?_
   ·rintro ⟨⟩ hf0
    unfold kR at hf0
    obtain rfl := ze hf0
    exact zh X0 z6 hC hm hE 4000 (hs := []) (x := (B true)) [] (by kernel_rfl) (LeV.refl _)
   ·obtain ⟨t2, ht2, hf0⟩ := zi hf0
    refine zI X0 z6 hC hm [2,3,5] 4000 [] (sub [1,1,2,1,0] xY) (frs [1,1,2,1,0] [J1] xY []) [(2, .own (.box (xH a_))), (3, .own (.box (xH b_))), (5, .d (I 0))] [] (by kernel_rfl) fun st0 h0 => ?_
    refine zN (X := Int × Nat) (c' := (sub [1,1,2,1,0,0] xY)) (by kernel_rfl) [2,3,5] (fun x => yG (fun s => xh a_ b_ s) x.2 x.1 = some t2) (fun x => x.2) (fun x => Wu a_ b_ x.1) (0, wJ) _ h0 inferInstance ht2 ?_
    rintro ⟨i_, n2⟩ hn2 J2 hJ2
    obtain ⟨m2, lr1, rfl, hf1, hl1⟩ := xM hn2
    try unfold xh at hf1
    have o2 := lnM zH a_.Nodes
    rcases zY hf1 with ⟨c2, hf1⟩ | ⟨c2, hf1⟩
    ·obtain ⟨Node_e, h0, hf1⟩ := zi hf1
     have o3 := iM zH h0
     obtain ⟨Node_e1, h1, hf1⟩ := zi hf1
     have o4 := iM zH h1
     rcases zY hf1 with ⟨c3, hf1⟩ | ⟨c3, hf1⟩
     ·obtain rfl := ze hf1
      obtain rfl := hl1
      obtain rfl := ze hf0
      exact zh X0 z6 hC hm hE 4000 (hs := (aLn a_.Nodes.length :: bT :: .a (zH Node_e) :: .a (zH Node_e1) :: (rpN 16 bT []))) (x := (B false)) (ob o2 :: ob c2 :: ob (i0 h0) :: ob o3 :: ob (i0 h1) :: ob o4 :: (rpN 15 (ob c3) [oT])) (by kernel_rfl) (LeV.refl _)
     ·obtain ⟨Node_e2, h2, hf1⟩ := zi hf1
      have o5 := iM zH h2
      obtain ⟨Node_e3, h3, hf1⟩ := zi hf1
      have o6 := iM zH h3
      obtain ⟨r_, h4, hf1⟩ := zi hf1
      have o7 := yP h_ref12_compare (x := (Node_e2.Next, Node_e3.Next)) h4 (loC F2_ Node_e2.Next <| loC F2_ Node_e3.Next <| loN)
      rcases zY hf1 with ⟨c4, hf1⟩ | ⟨c4, hf1⟩
      ·obtain rfl := ze hf1
       obtain rfl := hl1
       obtain rfl := ze hf0
       exact zh X0 z6 hC hm hE 4000 (hs := (aLn a_.Nodes.length :: bT :: .a (zH Node_e) :: .a (zH Node_e1) :: (rpN 4 bF (.a (zH Node_e2) :: (rpN 6 bF [.a (zH Node_e3), bF, bF, bF, .g [], .a ((eI .i64) r_), bF, bF, bT]))))) (x := (B false)) (ob o2 :: ob c2 :: ob (i0 h0) :: ob o3 :: ob (i0 h1) :: ob o4 :: (rpN 4 (ob c3) (ob (i0 h2) :: ob o5 :: (rpN 6 (ob c3) [ob (i0 h3), ob o6, ob c3, ob c3, ob c3, ob (zJ h_ref12_compare), ob o7, ob c3, ob c3, ob c4])))) (by kernel_rfl) (LeV.refl _)
      ·obtain rfl := ze hf1
       exact zk X0 z6 hC hm [2,3,5] 4000 (aLn a_.Nodes.length :: bT :: .a (zH Node_e) :: .a (zH Node_e1) :: (rpN 4 bF (.a (zH Node_e2) :: (rpN 6 bF [.a (zH Node_e3), bF, bF, bF, .g [], .a ((eI .i64) r_), bF, bF, bF])))) J2 [(2, .own (.box (xH a_))), (3, .own (.box (xH b_))), (5, .d (I (w64 (i_ + 1))))] (ob o2 :: ob c2 :: ob (i0 h0) :: ob o3 :: ob (i0 h1) :: ob o4 :: (rpN 4 (ob c3) (ob (i0 h2) :: ob o5 :: (rpN 6 (ob c3) [ob (i0 h3), ob o6, ob c3, ob c3, ob c3, ob (zJ h_ref12_compare), ob o7, ob c3, ob c3, ob c4])))) (by kernel_rfl) fun st0 h0 => hJ2 st0 _ (w64 (i_ + 1), m2) hl1 (Nat.lt_succ_self m2) h0 inferInstance
    ·obtain rfl := ze hf1
     obtain rfl := hl1
     exact zk X0 z6 hC hm [] 4000 [aLn a_.Nodes.length, bF] J1 [] [ob o2, ob c2] (by kernel_rfl) fun st0 h0 => hJ1 st0 _ () hf0 h0 inferInstance
noncomputable def zA : Code := (Try.f34.body).getD .skip
noncomputable def kK : yw := spF (α := zb) (ρ := List (List Int) × Int) 34 (fun x => [xH x]) (fun r => .tup [F7_ r.1, (eI .i64) r.2]) (fun x => vj x) [] (by
 rintro a0 b0 h
 have e0 := yO.inj (f := xH) _ _ (List.cons.inj h).1
 subst e0
 rfl)
abbrev Wp (t_ : zb) (l_ : List (List Int)) : List (Nat × T) := [(1, .own (.box (xH t_))), (6, .own (eOs 1 false F2_ l_))]
abbrev Wo (t_ : zb) (i_ : Int) (word1 : List (List Int)) (seen1 : List Bool) (l_2 : List (List Int)) (x46_Next : List Int) (x46_End : Bool) (x47 : List Int) (x48 : List Int) (x49 : Int) (x52 : Bool) (x58 : List Int) (x59 : Int) (x60 : Bool) : List (Nat × T) := [(1, .own (.box (xH t_))), (4, .own (eOs 1 true F2_ word1)), (5, .own (eOs 1 true eB seen1)), (6, .own (eOs 1 false F2_ l_2)), (7, .d (I i_)), (44, .d (eSl 2 false zH t_.Nodes)), (45, .d (I i_)), (46, .d (.sptr (.agg [eSl 1 false (eI .i64) x46_Next, B x46_End]))), (47, .d (.sptr (eSl 1 false (eI .i64) x47))), (48, .d (eSl 1 false (eI .i64) x48)), (49, .d (I x49)), (51, .d (I t_.Inputs)), (52, .d (B x52)), (56, .d (I i_)), (58, .d (eSl 1 false (eI .i64) x58)), (59, .d (I x59)), (60, .d (B x60))]
abbrev Wl (t_ : zb) (i_ : Int) (Node_e : z7) (word_e : List Int) (l_3 : List (List Int)) (s_ : Int) (word3 : List (List Int)) (seen4 : List Bool) : List (Nat × T) := [(1, .own (.box (xH t_))), (4, .own (eOs 1 true F2_ word3)), (5, .own (eOs 1 true eB seen4)), (6, .own (eOs 1 false F2_ l_3)), (7, .d (I i_)), (8, .d (I s_)), (44, .d (eSl 2 false zH t_.Nodes)), (45, .d (I i_)), (46, .d (.sptr (zH Node_e))), (47, .d (.sptr (eSl 1 false (eI .i64) Node_e.Next))), (48, .d (eSl 1 false (eI .i64) Node_e.Next)), (49, .d (I ((Node_e.Next.length : Nat) : Int))), (51, .d (I t_.Inputs)), (52, .d (B (((Node_e.Next.length : Nat) : Int) != t_.Inputs))), (56, .d (I i_)), (58, .d (eSl 1 false (eI .i64) word_e)), (59, .d (I ((word_e.length : Nat) : Int))), (60, .d (B (decide (((word_e.length : Nat) : Int) > 256))))]
abbrev Wj (t_ : zb) (i_ : Int) (Node_e : z7) (word_e : List Int) (l_3 : List (List Int)) (word2 : List (List Int)) (seen3 : List Bool) (s_ : Int) : List (Nat × T) := [(1, .own (.box (xH t_))), (4, .own (eOs 1 true F2_ word2)), (5, .own (eOs 1 true eB seen3)), (6, .own (eOs 1 false F2_ l_3)), (7, .d (I i_)), (8, .d (I s_)), (44, .d (eSl 2 false zH t_.Nodes)), (45, .d (I i_)), (46, .d (.sptr (zH Node_e))), (47, .d (.sptr (eSl 1 false (eI .i64) Node_e.Next))), (48, .d (eSl 1 false (eI .i64) Node_e.Next)), (49, .d (I ((Node_e.Next.length : Nat) : Int))), (51, .d (I t_.Inputs)), (52, .d (B (((Node_e.Next.length : Nat) : Int) != t_.Inputs))), (56, .d (I i_)), (58, .d (eSl 1 false (eI .i64) word_e)), (59, .d (I ((word_e.length : Nat) : Int))), (60, .d (B (decide (((word_e.length : Nat) : Int) > 256))))]
abbrev Wm (t_ : zb) (word : List (List Int)) (i_ : Int) (seen2 : List Bool) (Node_e : z7) (word_e : List Int) (l_3 : List (List Int)) : List (Nat × T) := [(1, .own (.box (xH t_))), (4, .own (eOs 1 true F2_ word)), (5, .own (eOs 1 true eB seen2)), (6, .own (eOs 1 false F2_ l_3)), (7, .d (I i_)), (44, .d (eSl 2 false zH t_.Nodes)), (45, .d (I i_)), (46, .d (.sptr (zH Node_e))), (47, .d (.sptr (eSl 1 false (eI .i64) Node_e.Next))), (48, .d (eSl 1 false (eI .i64) Node_e.Next)), (49, .d (I ((Node_e.Next.length : Nat) : Int))), (51, .d (I t_.Inputs)), (52, .d (B (((Node_e.Next.length : Nat) : Int) != t_.Inputs))), (55, .als 4 [] 0 0), (56, .d (I i_)), (58, .d (eSl 1 false (eI .i64) word_e)), (59, .d (I ((word_e.length : Nat) : Int))), (60, .d (B (decide (((word_e.length : Nat) : Int) > 256))))]
abbrev Wn (t_ : zb) (word : List (List Int)) (l_1 : List (List Int)) (i_ : Int) (seen2 : List Bool) : List (Nat × T) := [(1, .own (.box (xH t_))), (4, .own (eOs 1 true F2_ word)), (5, .own (eOs 1 true eB seen2)), (6, .own (eOs 1 false F2_ l_1)), (7, .d (I i_))]
abbrev Wk (t_ : zb) (word : List (List Int)) (seen : List Bool) (l_1 : List (List Int)) (i_ : Int) : List (Nat × T) := [(1, .own (.box (xH t_))), (4, .own (eOs 1 true F2_ word)), (5, .own (eOs 1 true eB seen)), (6, .own (eOs 1 false F2_ l_1)), (7, .d (I i_))]
theorem QV {ctr : Ctr} (hC : y6 Try.prog ctr) (hm : Try.prog.follows .mixedOrders = true) (h_ref12_Check : ctr.Has kN) (h_ref12_Trie : ctr.Has Zr) (h_ref12_Equal : ctr.Has qN) : kK.Ok Try.prog := by
 refine y8 ?_
 rintro t_ r0 hf0
 try unfold vj at hf0
 refine zx (tt := yE) (keep := false) (rs := [(2, none), (3, none)]) (n := ⟨138, []⟩) (body := zA) z6 Try.func34 rfl (by kernel_rfl) rfl rfl (by show (1 : Nat) ≤ 138; decide) fun E hE => ?_
 rcases zY hf0 with ⟨c0, hf0⟩ | ⟨c0, hf0⟩
 ·have o0 := shM F2_ F2_ []
  obtain rfl := ze hf0
  exact zh ((zC z6 (.inr 122) [121]).or ((zC z6 (.inl 73) [72]).or X0)) z6 hC hm hE 4000 (hs := (rpN 5 bT [.l ([].map F2_)])) (x := (.tup [eSl 1 true F2_ [], I 4])) (rpN 4 (ob c0) [oT, ob o0]) (by kernel_rfl) (show LeV (.tup [eSl 1 true F2_ [], I 4]) (.tup [eSl 1 false F2_ ([] : List (List Int)), I 4]) from inferInstance)
 ·rcases zY hf0 with ⟨c1, hf0⟩ | ⟨c1, hf0⟩
  ·have o1 := shM F2_ F2_ []
   obtain rfl := ze hf0
   exact zh ((zC z6 (.inr 122) [121]).or ((zC z6 (.inl 73) [72]).or X0)) z6 hC hm hE 4000 (hs := (rpN 4 bF [bT, .l ([].map F2_)])) (x := (.tup [eSl 1 true F2_ [], I 4])) (rpN 4 (ob c0) [ob c1, ob o1]) (by kernel_rfl) (show LeV (.tup [eSl 1 true F2_ [], I 4]) (.tup [eSl 1 false F2_ ([] : List (List Int)), I 4]) from inferInstance)
  ·have o2 := lnM zH t_.Nodes
   obtain ⟨g0, hf0⟩ := gdE hf0
   have o3 := rM 1 F0_ ((t_.Nodes.length : Nat) : Int) ([] : List Int)
   have o4 := shM F0_ F1_ (List.replicate ((t_.Nodes.length : Nat) : Int).toNat ([] : List Int))
   have o5 := lnM zH t_.Nodes
   obtain ⟨g1, hf0⟩ := gdE hf0
   have o6 := rM 1 eB ((t_.Nodes.length : Nat) : Int) false
   refine zI ((zC z6 (.inr 122) [121]).or ((zC z6 (.inl 73) [72]).or X0)) z6 hC hm [1,4,5,6] 4000 (rpN 5 bF [aLn t_.Nodes.length, .a (eOs 1 true F0_ (List.replicate ((t_.Nodes.length : Nat) : Int).toNat ([] : List Int))), .v 0 [4], .l ((List.replicate ((t_.Nodes.length : Nat) : Int).toNat ([] : List Int)).map F1_), aLn t_.Nodes.length, .a (eOs 1 true eB (List.replicate ((t_.Nodes.length : Nat) : Int).toNat false)), .cut 1]) (sub [1,1,1,1,1] zA) (frs [1,1,1,1,1] [] zA []) [(1, .own (.box (xH t_))), (4, .own (eOs 1 true F1_ (List.replicate ((t_.Nodes.length : Nat) : Int).toNat ([] : List Int)))), (5, .own (eOs 1 true eB (List.replicate ((t_.Nodes.length : Nat) : Int).toNat false))), (6, .own (eOs 1 true F2_ []))] (rpN 4 (ob c0) [ob c1, ob o2, ob (rL g0), ob o3, ob o4, ob o5, ob (rL g1), ob o6]) (by kernel_rfl) fun st0 h0 => ?_
   refine zr (X := List (List Int)) (x := (sub [1,1,1,1,1,2] zA)) (y := (sub [1,1,1,1,1,1] zA)) (by kernel_rfl) [1,6] [1,4,5,6] _ h0 (fun z => vI t_ z = some r0) (fun z => Wp t_ z) ?_ fun J1 hJ1 => ?_
   ·rintro l_ hf0
    unfold vI at hf0
    obtain ⟨r_, h0, hf0⟩ := zi hf0
    have o7 := yP h_ref12_Check (x := (l_, t_.Inputs)) h0 (loC F7_ l_ <| loC (eI .i64) t_.Inputs <| loN)
    rcases zY hf0 with ⟨c2, hf0⟩ | ⟨c2, hf0⟩
    ·have o8 := shM F2_ F2_ []
     obtain rfl := ze hf0
     exact zh ((zC z6 (.inr 122) [121]).or ((zC z6 (.inl 73) [72]).or X0)) z6 hC hm hE 4000 (hs := (.n 1 [6] :: .l (l_.map F2_) :: .g [] :: .a ((eI .i64) r_) :: (rpN 9 bT [.l ([].map F2_)]))) (x := (.tup [eSl 1 true F2_ [], I 4])) (ob (shM F2_ F2_ l_) :: ob (zJ h_ref12_Check) :: ob o7 :: (rpN 8 (ob c2) [oT, ob o8])) (by kernel_rfl) (show LeV (.tup [eSl 1 true F2_ [], I 4]) (.tup [eSl 1 false F2_ ([] : List (List Int)), I 4]) from inferInstance)
    ·obtain ⟨r_1, h1, hf0⟩ := zi hf0
     have o9 := yP h_ref12_Trie (x := (l_, t_.Inputs)) h1 (loC F7_ l_ <| loC (eI .i64) t_.Inputs <| loN)
     obtain ⟨r_2, h2, hf0⟩ := zi hf0
     have o10 := yP h_ref12_Equal (x := (t_, r_1)) h2 (loC xH t_ <| loC xH r_1 <| loN)
     rcases zY hf0 with ⟨c3, hf0⟩ | ⟨c3, hf0⟩
     ·have o11 := shM F2_ F2_ []
      obtain rfl := ze hf0
      exact zh ((zC z6 (.inr 122) [121]).or ((zC z6 (.inl 73) [72]).or X0)) z6 hC hm hE 4000 (hs := (.n 1 [6] :: .l (l_.map F2_) :: .g [] :: .a ((eI .i64) r_) :: (rpN 5 bF [.g [], .a (xH r_1), bF, .g [], .a (eB r_2), bF, bF, bT, .l ([].map F2_)]))) (x := (.tup [eSl 1 true F2_ [], I 4])) (ob (shM F2_ F2_ l_) :: ob (zJ h_ref12_Check) :: ob o7 :: (rpN 5 (ob c2) [ob (zJ h_ref12_Trie), ob o9, ob c2, ob (zJ h_ref12_Equal), ob o10, ob c2, ob c2, ob c3, ob o11])) (by kernel_rfl) (show LeV (.tup [eSl 1 true F2_ [], I 4]) (.tup [eSl 1 false F2_ ([] : List (List Int)), I 4]) from inferInstance)
     ·obtain rfl := ze hf0
      exact zh ((zC z6 (.inr 122) [121]).or ((zC z6 (.inl 73) [72]).or X0)) z6 hC hm hE 4000 (hs := (.n 1 [6] :: .l (l_.map F2_) :: .g [] :: .a ((eI .i64) r_) :: (rpN 5 bF [.g [], .a (xH r_1), bF, .g [], .a (eB r_2), bF, bF, bF]))) (x := (.tup [eSl 1 false F2_ l_, I 0])) (ob (shM F2_ F2_ l_) :: ob (zJ h_ref12_Check) :: ob o7 :: (rpN 5 (ob c2) [ob (zJ h_ref12_Trie), ob o9, ob c2, ob (zJ h_ref12_Equal), ob o10, ob c2, ob c2, ob c3])) (by kernel_rfl) (LeV.refl _)
   ·obtain ⟨t2, ht2, hf0⟩ := zi hf0
    refine zI ((zC z6 (.inr 122) [121]).or ((zC z6 (.inl 73) [72]).or X0)) z6 hC hm [1,4,5,6,7] 4000 [] (sub [1,1,1,1,1,2,1,0] zA) (frs [1,1,1,1,1,2,1,0] [J1] zA []) [(1, .own (.box (xH t_))), (4, .own (eOs 1 true F1_ (List.replicate ((t_.Nodes.length : Nat) : Int).toNat ([] : List Int)))), (5, .own (eOs 1 true eB (List.replicate ((t_.Nodes.length : Nat) : Int).toNat false))), (6, .own (eOs 1 true F2_ [])), (7, .d (I 0))] [] (by kernel_rfl) fun st0 h0 => ?_
    refine zN (X := (List (List Int) × List Bool × List (List Int) × Int) × Nat) (c' := (sub [1,1,1,1,1,2,1,0,0] zA)) (by kernel_rfl) [1,4,5,6,7] (fun x => yG (fun s => vF t_ s.1 s.2.1 s.2.2.1 s.2.2.2) x.2 x.1 = some t2) (fun x => x.2) (fun x => Wk t_ x.1.1 x.1.2.1 x.1.2.2.1 x.1.2.2.2) (((List.replicate ((t_.Nodes.length : Nat) : Int).toNat ([] : List Int)), (List.replicate ((t_.Nodes.length : Nat) : Int).toNat false), ([] : List (List Int)), 0), wJ) _ h0 inferInstance ht2 ?_
    rintro ⟨⟨word, seen, l_1, i_⟩, n2⟩ hn2 J2 hJ2
    obtain ⟨m2, lr1, rfl, hf1, hl1⟩ := xM hn2
    try unfold vF at hf1
    have o12 := lnM zH t_.Nodes
    rcases zY hf1 with ⟨c4, hf1⟩ | ⟨c4, hf1⟩
    ·refine zI ((zC z6 (.inr 122) [121]).or ((zC z6 (.inl 73) [72]).or X0)) z6 hC hm [1,4,5,6,7] 4000 [aLn t_.Nodes.length, bT, .cut 0] (sub [1,1,1,1,1,2,1,0,0,1] zA) (frs [1,1,1,1,1,2,1,0,0,1] [J1, J2] zA []) [(1, .own (.box (xH t_))), (4, .own (eOs 1 true F2_ word)), (5, .own (eOs 1 true eB seen)), (6, .own (eOs 1 false F2_ l_1)), (7, .d (I i_))] [ob o12, ob c4] (by kernel_rfl) fun st0 h0 => ?_
     refine zr (X := List (List Int) × List Bool × List (List Int) × List Int × Bool × List Int × List Int × Int × Bool × List Int × Int × Bool) (x := (sub [1,1,1,1,1,2,1,0,0,1,2] zA)) (y := (sub [1,1,1,1,1,2,1,0,0,1,1] zA)) (by kernel_rfl) [1,4,5,6,7,44,45,46,47,48,49,51,52,56,58,59,60] [1,4,5,6,7] _ h0 (fun z => qO i_ z.1 z.2.1 z.2.2.1 z.2.2.2.1 z.2.2.2.2.1 z.2.2.2.2.2.1 z.2.2.2.2.2.2.1 z.2.2.2.2.2.2.2.1 z.2.2.2.2.2.2.2.2.1 z.2.2.2.2.2.2.2.2.2.1 z.2.2.2.2.2.2.2.2.2.2.1 z.2.2.2.2.2.2.2.2.2.2.2 = some lr1) (fun z => Wo t_ i_ z.1 z.2.1 z.2.2.1 z.2.2.2.1 z.2.2.2.2.1 z.2.2.2.2.2.1 z.2.2.2.2.2.2.1 z.2.2.2.2.2.2.2.1 z.2.2.2.2.2.2.2.2.1 z.2.2.2.2.2.2.2.2.2.1 z.2.2.2.2.2.2.2.2.2.2.1 z.2.2.2.2.2.2.2.2.2.2.2) ?_ fun J3 hJ3 => ?_
     ·rintro ⟨word1, seen1, l_2, x46_Next, x46_End, x47, x48, x49, x52, x58, x59, x60⟩ hf1
      unfold qO at hf1
      obtain rfl := ze hf1
      exact zk ((zC z6 (.inr 122) [121]).or ((zC z6 (.inl 73) [72]).or X0)) z6 hC hm [1,4,5,6,7] 4000 [] J2 [(1, .own (.box (xH t_))), (4, .own (eOs 1 true F2_ word1)), (5, .own (eOs 1 true eB seen1)), (6, .own (eOs 1 false F2_ l_2)), (7, .d (I (w64 (i_ + 1))))] [] (by kernel_rfl) fun st0 h0 => hJ2 st0 _ ((word1, seen1, l_2, w64 (i_ + 1)), m2) hl1 (Nat.lt_succ_self m2) h0 inferInstance
     ·refine zI ((zC z6 (.inr 122) [121]).or ((zC z6 (.inl 73) [72]).or X0)) z6 hC hm [1,4,5,6,7] 4000 [.cut 0] (sub [1,1,1,1,1,2,1,0,0,1,2,0] zA) (frs [1,1,1,1,1,2,1,0,0,1,2,0] [J1, J2, J3] zA []) [(1, .own (.box (xH t_))), (4, .own (eOs 1 true F2_ word)), (5, .own (eOs 1 true eB seen)), (6, .own (eOs 1 false F2_ l_1)), (7, .d (I i_))] [] (by kernel_rfl) fun st0 h0 => ?_
      refine zr (X := List Bool) (x := (sub [1,1,1,1,1,2,1,0,0,1,2,0,2] zA)) (y := (sub [1,1,1,1,1,2,1,0,0,1,2,0,1] zA)) (by kernel_rfl) [1,4,5,6,7] [1,4,5,6,7] _ h0 (fun z => wG t_ word l_1 i_ z = some lr1) (fun z => Wn t_ word l_1 i_ z) ?_ fun J4 hJ4 => ?_
      ·rintro seen2 hf1
       unfold wG at hf1
       obtain ⟨seen_e, h3, hf1⟩ := zi hf1
       rcases zY hf1 with ⟨c5, hf1⟩ | ⟨c5, hf1⟩
       ·have o13 := shM F2_ F2_ []
        obtain rfl := ze hf1
        obtain rfl := hl1
        obtain rfl := ze hf0
        exact zh ((zC z6 (.inr 122) [121]).or ((zC z6 (.inl 73) [72]).or X0)) z6 hC hm hE 4000 (hs := (.a (eB seen_e) :: (rpN 19 bT [.l ([].map F2_)]))) (x := (.tup [eSl 1 true F2_ [], I 4])) (ob (iL eB h3) :: ob (iM eB h3) :: (rpN 11 (ob c5) (rpN 8 oT [ob o13]))) (by kernel_rfl) (show LeV (.tup [eSl 1 true F2_ [], I 4]) (.tup [eSl 1 false F2_ ([] : List (List Int)), I 4]) from inferInstance)
       ·obtain ⟨Node_e, h4, hf1⟩ := zi hf1
        have o14 := iM zH h4
        rcases zY hf1 with ⟨c6, hf1⟩ | ⟨c6, hf1⟩
        ·have o15 := shM F2_ F2_ []
         obtain rfl := ze hf1
         obtain rfl := hl1
         obtain rfl := ze hf0
         exact zh ((zC z6 (.inr 122) [121]).or ((zC z6 (.inl 73) [72]).or X0)) z6 hC hm hE 4000 (hs := (.a (eB seen_e) :: (rpN 4 bF (.a (zH Node_e) :: bF :: bF :: bF :: aLn Node_e.Next.length :: (rpN 4 bF (rpN 8 bT [.l ([].map F2_)])))))) (x := (.tup [eSl 1 true F2_ [], I 4])) (ob (iL eB h3) :: ob (iM eB h3) :: (rpN 4 (ob c5) (ob (i0 h4) :: ob o14 :: ob c5 :: ob c5 :: ob c5 :: ob (lnM (eI .i64) Node_e.Next) :: (rpN 4 (ob c5) (rpN 7 (ob c6) [oT, ob o15]))))) (by kernel_rfl) (show LeV (.tup [eSl 1 true F2_ [], I 4]) (.tup [eSl 1 false F2_ ([] : List (List Int)), I 4]) from inferInstance)
        ·obtain ⟨word_e, h5, hf1⟩ := zi hf1
         rcases zY hf1 with ⟨c7, hf1⟩ | ⟨c7, hf1⟩
         ·have o16 := shM F2_ F2_ []
          obtain rfl := ze hf1
          obtain rfl := hl1
          obtain rfl := ze hf0
          exact zh ((zC z6 (.inr 122) [121]).or ((zC z6 (.inl 73) [72]).or X0)) z6 hC hm hE 4000 (hs := (.a (eB seen_e) :: (rpN 4 bF (.a (zH Node_e) :: bF :: bF :: bF :: aLn Node_e.Next.length :: (rpN 8 bF [.a (F2_ word_e), bF, aLn word_e.length, bF, bF, bT, .l ([].map F2_)]))))) (x := (.tup [eSl 1 true F2_ [], I 4])) (ob (iL eB h3) :: ob (iM eB h3) :: (rpN 4 (ob c5) (ob (i0 h4) :: ob o14 :: ob c5 :: ob c5 :: ob c5 :: ob (lnM (eI .i64) Node_e.Next) :: (rpN 4 (ob c5) [ob c6, ob c6, ob c6, ob (iL F2_ h5), ob c6, ob (iM F2_ h5), ob c6, ob (lnM (eI .i64) word_e), ob c6, ob c6, ob c7, ob o16])))) (by kernel_rfl) (show LeV (.tup [eSl 1 true F2_ [], I 4]) (.tup [eSl 1 false F2_ ([] : List (List Int)), I 4]) from inferInstance)
         ·refine zI ((zC z6 (.inr 122) [121]).or ((zC z6 (.inl 73) [72]).or X0)) z6 hC hm [1,4,5,6,7,44,45,46,47,48,49,51,52,55,56,58,59,60] 4000 (.a (eB seen_e) :: (rpN 4 bF (.a (zH Node_e) :: bF :: bF :: bF :: aLn Node_e.Next.length :: (rpN 8 bF [.a (F2_ word_e), bF, aLn word_e.length, bF, bF, bF, .cut 0])))) (sub [1,1,1,1,1,2,1,0,0,1,2,0,1,1] zA) (frs [1,1,1,1,1,2,1,0,0,1,2,0,1,1] [J1, J2, J3] zA []) [(1, .own (.box (xH t_))), (4, .own (eOs 1 true F2_ word)), (5, .own (eOs 1 true eB seen2)), (6, .own (eOs 1 false F2_ l_1)), (7, .d (I i_)), (44, .d (eSl 2 false zH t_.Nodes)), (45, .d (I i_)), (46, .d (.sptr (zH Node_e))), (47, .d (.sptr (eSl 1 false (eI .i64) Node_e.Next))), (48, .d (eSl 1 false (eI .i64) Node_e.Next)), (49, .d (I ((Node_e.Next.length : Nat) : Int))), (51, .d (I t_.Inputs)), (52, .d (B (((Node_e.Next.length : Nat) : Int) != t_.Inputs))), (55, .als 4 [] 0 0), (56, .d (I i_)), (58, .d (eSl 1 false (eI .i64) word_e)), (59, .d (I ((word_e.length : Nat) : Int))), (60, .d (B (decide (((word_e.length : Nat) : Int) > 256))))] (ob (iL eB h3) :: ob (iM eB h3) :: (rpN 4 (ob c5) (ob (i0 h4) :: ob o14 :: ob c5 :: ob c5 :: ob c5 :: ob (lnM (eI .i64) Node_e.Next) :: (rpN 4 (ob c5) [ob c6, ob c6, ob c6, ob (iL F2_ h5), ob c6, ob (iM F2_ h5), ob c6, ob (lnM (eI .i64) word_e), ob c6, ob c6, ob c7])))) (by kernel_rfl) fun st0 h0 => ?_
          refine zr (X := List (List Int)) (x := (sub [1,1,1,1,1,2,1,0,0,1,2,0,1,1,2] zA)) (y := (sub [1,1,1,1,1,2,1,0,0,1,2,0,1,1,1] zA)) (by kernel_rfl) [1,4,5,6,7,44,45,46,47,48,49,51,52,55,56,58,59,60] [1,4,5,6,7,44,45,46,47,48,49,51,52,55,56,58,59,60] _ h0 (fun z => vH t_ word i_ seen2 Node_e word_e z = some lr1) (fun z => Wm t_ word i_ seen2 Node_e word_e z) ?_ fun J5 hJ5 => ?_
          ·rintro l_3 hf1
           unfold vH at hf1
           obtain ⟨t6, ht6, hf1⟩ := zi hf1
           refine zI ((zC z6 (.inr 122) [121]).or ((zC z6 (.inl 73) [72]).or X0)) z6 hC hm [1,4,5,6,7,8,44,45,46,47,48,49,51,52,56,58,59,60] 4000 [] (sub [1,1,1,1,1,2,1,0,0,1,2,0,1,1,1,1,0] zA) (frs [1,1,1,1,1,2,1,0,0,1,2,0,1,1,1,1,0] [J1, J2, J3] zA []) [(1, .own (.box (xH t_))), (4, .own (eOs 1 true F2_ word)), (5, .own (eOs 1 true eB seen2)), (6, .own (eOs 1 false F2_ l_3)), (7, .d (I i_)), (8, .d (I 0)), (44, .d (eSl 2 false zH t_.Nodes)), (45, .d (I i_)), (46, .d (.sptr (zH Node_e))), (47, .d (.sptr (eSl 1 false (eI .i64) Node_e.Next))), (48, .d (eSl 1 false (eI .i64) Node_e.Next)), (49, .d (I ((Node_e.Next.length : Nat) : Int))), (51, .d (I t_.Inputs)), (52, .d (B (((Node_e.Next.length : Nat) : Int) != t_.Inputs))), (56, .d (I i_)), (58, .d (eSl 1 false (eI .i64) word_e)), (59, .d (I ((word_e.length : Nat) : Int))), (60, .d (B (decide (((word_e.length : Nat) : Int) > 256))))] [] (by kernel_rfl) fun st0 h0 => ?_
           refine zN (X := (List (List Int) × List Bool × Int) × Nat) (c' := (sub [1,1,1,1,1,2,1,0,0,1,2,0,1,1,1,1,0,0] zA)) (by kernel_rfl) [1,4,5,6,7,8,44,45,46,47,48,49,51,52,56,58,59,60] (fun x => yG (fun s => vE t_ i_ Node_e word_e l_3 s.1 s.2.1 s.2.2) x.2 x.1 = some t6) (fun x => x.2) (fun x => Wj t_ i_ Node_e word_e l_3 x.1.1 x.1.2.1 x.1.2.2) ((word, seen2,0), wJ) _ h0 inferInstance ht6 ?_
           rintro ⟨⟨word2, seen3, s_⟩, n6⟩ hn6 J6 hJ6
           obtain ⟨m6, lr2, rfl, hf2, hl2⟩ := xM hn6
           try unfold vE at hf2
           rcases zY hf2 with ⟨c8, hf2⟩ | ⟨c8, hf2⟩
           ·refine zI ((zC z6 (.inr 122) [121]).or ((zC z6 (.inl 73) [72]).or X0)) z6 hC hm [1,4,5,6,7,8,44,45,46,47,48,49,51,52,56,58,59,60] 4000 [bT, .cut 0] (sub [1,1,1,1,1,2,1,0,0,1,2,0,1,1,1,1,0,0,1] zA) (frs [1,1,1,1,1,2,1,0,0,1,2,0,1,1,1,1,0,0,1] [J1, J2, J3, J6] zA []) [(1, .own (.box (xH t_))), (4, .own (eOs 1 true F2_ word2)), (5, .own (eOs 1 true eB seen3)), (6, .own (eOs 1 false F2_ l_3)), (7, .d (I i_)), (8, .d (I s_)), (44, .d (eSl 2 false zH t_.Nodes)), (45, .d (I i_)), (46, .d (.sptr (zH Node_e))), (47, .d (.sptr (eSl 1 false (eI .i64) Node_e.Next))), (48, .d (eSl 1 false (eI .i64) Node_e.Next)), (49, .d (I ((Node_e.Next.length : Nat) : Int))), (51, .d (I t_.Inputs)), (52, .d (B (((Node_e.Next.length : Nat) : Int) != t_.Inputs))), (56, .d (I i_)), (58, .d (eSl 1 false (eI .i64) word_e)), (59, .d (I ((word_e.length : Nat) : Int))), (60, .d (B (decide (((word_e.length : Nat) : Int) > 256))))] [ob c8] (by kernel_rfl) fun st0 h0 => ?_
            refine zr (X := List (List Int) × List Bool) (x := (sub [1,1,1,1,1,2,1,0,0,1,2,0,1,1,1,1,0,0,1,2] zA)) (y := (sub [1,1,1,1,1,2,1,0,0,1,2,0,1,1,1,1,0,0,1,1] zA)) (by kernel_rfl) [1,4,5,6,7,8,44,45,46,47,48,49,51,52,56,58,59,60] [1,4,5,6,7,8,44,45,46,47,48,49,51,52,56,58,59,60] _ h0 (fun z => vG s_ z.1 z.2 = some lr2) (fun z => Wl t_ i_ Node_e word_e l_3 s_ z.1 z.2) ?_ fun J7 hJ7 => ?_
            ·rintro ⟨word3, seen4⟩ hf2
             unfold vG at hf2
             obtain rfl := ze hf2
             exact zk ((zC z6 (.inr 122) [121]).or ((zC z6 (.inl 73) [72]).or X0)) z6 hC hm [1,4,5,6,7,8,44,45,46,47,48,49,51,52,56,58,59,60] 4000 [] J6 [(1, .own (.box (xH t_))), (4, .own (eOs 1 true F2_ word3)), (5, .own (eOs 1 true eB seen4)), (6, .own (eOs 1 false F2_ l_3)), (7, .d (I i_)), (8, .d (I (w64 (s_ + 1)))), (44, .d (eSl 2 false zH t_.Nodes)), (45, .d (I i_)), (46, .d (.sptr (zH Node_e))), (47, .d (.sptr (eSl 1 false (eI .i64) Node_e.Next))), (48, .d (eSl 1 false (eI .i64) Node_e.Next)), (49, .d (I ((Node_e.Next.length : Nat) : Int))), (51, .d (I t_.Inputs)), (52, .d (B (((Node_e.Next.length : Nat) : Int) != t_.Inputs))), (56, .d (I i_)), (58, .d (eSl 1 false (eI .i64) word_e)), (59, .d (I ((word_e.length : Nat) : Int))), (60, .d (B (decide (((word_e.length : Nat) : Int) > 256))))] [] (by kernel_rfl) fun st0 h0 => hJ6 st0 _ ((word3, seen4, w64 (s_ + 1)), m6) hl2 (Nat.lt_succ_self m6) h0 inferInstance
            ·obtain ⟨Node_e1, h6, hf2⟩ := zi hf2
             have o17 := iM zH h6
             obtain ⟨Next_e, h7, hf2⟩ := zi hf2
             rcases zY hf2 with ⟨c9, hf2⟩ | ⟨c9, hf2⟩
             ·exact zk ((zC z6 (.inr 122) [121]).or ((zC z6 (.inl 73) [72]).or X0)) z6 hC hm [1,4,5,6,7,8,44,45,46,47,48,49,51,52,56,58,59,60] 4000 [.a (zH Node_e1), .a ((eI .i64) Next_e), bT] J7 [(1, .own (.box (xH t_))), (4, .own (eOs 1 true F2_ word2)), (5, .own (eOs 1 true eB seen3)), (6, .own (eOs 1 false F2_ l_3)), (7, .d (I i_)), (8, .d (I s_)), (44, .d (eSl 2 false zH t_.Nodes)), (45, .d (I i_)), (46, .d (.sptr (zH Node_e))), (47, .d (.sptr (eSl 1 false (eI .i64) Node_e.Next))), (48, .d (eSl 1 false (eI .i64) Node_e.Next)), (49, .d (I ((Node_e.Next.length : Nat) : Int))), (51, .d (I t_.Inputs)), (52, .d (B (((Node_e.Next.length : Nat) : Int) != t_.Inputs))), (56, .d (I i_)), (58, .d (eSl 1 false (eI .i64) word_e)), (59, .d (I ((word_e.length : Nat) : Int))), (60, .d (B (decide (((word_e.length : Nat) : Int) > 256))))] [ob (i0 h6), ob o17, ob (i0 h7), ob (iM (eI .i64) h7), ob c9] (by kernel_rfl) fun st0 h0 => hJ7 st0 _ (word2, seen3) hf2 h0 inferInstance
             ·rcases zY hf2 with ⟨c10, hf2⟩ | ⟨c10, hf2⟩
              ·have o18 := shM F2_ F2_ []
               obtain rfl := ze hf2
               obtain rfl := hl2
               obtain rfl := ze hf1
               obtain rfl := hl1
               obtain rfl := ze hf0
               exact zh ((zC z6 (.inr 122) [121]).or ((zC z6 (.inl 73) [72]).or X0)) z6 hC hm hE 4000 (hs := (.a (zH Node_e1) :: .a ((eI .i64) Next_e) :: bF :: (rpN 12 bT [.l ([].map F2_)]))) (x := (.tup [eSl 1 true F2_ [], I 4])) (ob (i0 h6) :: ob o17 :: ob (i0 h7) :: ob (iM (eI .i64) h7) :: ob c9 :: (rpN 6 (ob c10) (rpN 6 oT [ob o18]))) (by kernel_rfl) (show LeV (.tup [eSl 1 true F2_ [], I 4]) (.tup [eSl 1 false F2_ ([] : List (List Int)), I 4]) from inferInstance)
              ·have o19 := lnM zH t_.Nodes
               rcases zY hf2 with ⟨c11, hf2⟩ | ⟨c11, hf2⟩
               ·have o20 := shM F2_ F2_ []
                obtain rfl := ze hf2
                obtain rfl := hl2
                obtain rfl := ze hf1
                obtain rfl := hl1
                obtain rfl := ze hf0
                exact zh ((zC z6 (.inr 122) [121]).or ((zC z6 (.inl 73) [72]).or X0)) z6 hC hm hE 4000 (hs := (.a (zH Node_e1) :: .a ((eI .i64) Next_e) :: (rpN 5 bF (aLn t_.Nodes.length :: bF :: bF :: (rpN 6 bT [.l ([].map F2_)]))))) (x := (.tup [eSl 1 true F2_ [], I 4])) (ob (i0 h6) :: ob o17 :: ob (i0 h7) :: ob (iM (eI .i64) h7) :: ob c9 :: (rpN 4 (ob c10) (ob o19 :: ob c10 :: ob c10 :: (rpN 5 (ob c11) [oT, ob o20])))) (by kernel_rfl) (show LeV (.tup [eSl 1 true F2_ [], I 4]) (.tup [eSl 1 false F2_ ([] : List (List Int)), I 4]) from inferInstance)
               ·obtain ⟨seen_e1, h8, hf2⟩ := zi hf2
                rcases zY hf2 with ⟨c12, hf2⟩ | ⟨c12, hf2⟩
                ·have o21 := shM F2_ F2_ []
                 obtain rfl := ze hf2
                 obtain rfl := hl2
                 obtain rfl := ze hf1
                 obtain rfl := hl1
                 obtain rfl := ze hf0
                 exact zh ((zC z6 (.inr 122) [121]).or ((zC z6 (.inl 73) [72]).or X0)) z6 hC hm hE 4000 (hs := (.a (zH Node_e1) :: .a ((eI .i64) Next_e) :: (rpN 5 bF (aLn t_.Nodes.length :: (rpN 6 bF [.a (eB seen_e1), bF, bT, .l ([].map F2_)]))))) (x := (.tup [eSl 1 true F2_ [], I 4])) (ob (i0 h6) :: ob o17 :: ob (i0 h7) :: ob (iM (eI .i64) h7) :: ob c9 :: (rpN 4 (ob c10) [ob o19, ob c10, ob c10, ob c11, ob c11, ob c11, ob (iL eB h8), ob c11, ob (iM eB h8), ob c11, ob c12, ob o21])) (by kernel_rfl) (show LeV (.tup [eSl 1 true F2_ [], I 4]) (.tup [eSl 1 false F2_ ([] : List (List Int)), I 4]) from inferInstance)
                ·obtain ⟨seen_e2, h9, hf2⟩ := zi hf2
                 obtain ⟨word_e1, h10, hf2⟩ := zi hf2
                 obtain ⟨g2, hf2⟩ := gdE hf2
                 obtain ⟨g3, hf2⟩ := gdE hf2
                 have o22 := aM (eI .i64) word_e1 ([s_] : List Int)
                 obtain ⟨word_e2, h11, hf2⟩ := zi hf2
                 have o23 := shM (eI .i64) (eI .i64) (word_e1 ++ ([s_] : List Int))
                 have o24 := sM F2_ word2 Next_e (word_e1 ++ ([s_] : List Int))
                 exact zk ((zC z6 (.inr 122) [121]).or ((zC z6 (.inl 73) [72]).or X0)) z6 hC hm [1,4,5,6,7,8,44,45,46,47,48,49,51,52,56,58,59,60] 4000 (.a (zH Node_e1) :: .a ((eI .i64) Next_e) :: (rpN 5 bF (aLn t_.Nodes.length :: (rpN 6 bF [.a (eB seen_e1), bF, bF, .a (eB seen_e2), .a (eB seen_e2), .l ((seen3.set Next_e.toNat true).map eB), .a (F2_ word_e1), .l (word_e1.map (eI .i64)), bT, .l ((word_e1 ++ ([s_] : List Int)).map (eI .i64)), .l ((word_e1 ++ ([s_] : List Int)).map (eI .i64)), .a (F2_ word_e2), .a (F2_ word_e2), .l ((word2.set Next_e.toNat (word_e1 ++ ([s_] : List Int))).map F2_)])))) J7 [(1, .own (.box (xH t_))), (4, .own (eOs 1 true F2_ (word2.set Next_e.toNat (word_e1 ++ ([s_] : List Int))))), (5, .own (eOs 1 true eB (seen3.set Next_e.toNat true))), (6, .own (eOs 1 false F2_ l_3)), (7, .d (I i_)), (8, .d (I s_)), (44, .d (eSl 2 false zH t_.Nodes)), (45, .d (I i_)), (46, .d (.sptr (zH Node_e))), (47, .d (.sptr (eSl 1 false (eI .i64) Node_e.Next))), (48, .d (eSl 1 false (eI .i64) Node_e.Next)), (49, .d (I ((Node_e.Next.length : Nat) : Int))), (51, .d (I t_.Inputs)), (52, .d (B (((Node_e.Next.length : Nat) : Int) != t_.Inputs))), (56, .d (I i_)), (58, .d (eSl 1 false (eI .i64) word_e)), (59, .d (I ((word_e.length : Nat) : Int))), (60, .d (B (decide (((word_e.length : Nat) : Int) > 256))))] (ob (i0 h6) :: ob o17 :: ob (i0 h7) :: ob (iM (eI .i64) h7) :: ob c9 :: (rpN 4 (ob c10) [ob o19, ob c10, ob c10, ob c11, ob c11, ob c11, ob (iL eB h8), ob c11, ob (iM eB h8), ob c11, ob c12, ob (iL eB h9), ob (iM eB h9), ob (iM eB h9), ob (sM eB seen3 Next_e true), ob (iL F2_ h10), ob (iM F2_ h10), ob (dM (eI .i64) word_e1), ob (aL (eI .i64) (eI .i64) g2), ob (aM0 (eI .i64) word_e1), ob (dM (eI .i64) ([s_] : List Int)), ob (dM (eI .i64) ([s_] : List Int)), ob (aL (eI .i64) (eI .i64) g3), ob o22, ob (iL F2_ h11), ob o23, ob (iM F2_ h11), ob (iM F2_ h11), ob o24])) (by kernel_rfl) fun st0 h0 => hJ7 st0 _ ((word2.set Next_e.toNat (word_e1 ++ ([s_] : List Int))), (seen3.set Next_e.toNat true)) hf2 h0 inferInstance
           ·obtain rfl := ze hf2
            obtain rfl := hl2
            exact zk ((zC z6 (.inr 122) [121]).or ((zC z6 (.inl 73) [72]).or X0)) z6 hC hm [1,4,5,6,7,44,45,46,47,48,49,51,52,56,58,59,60] 4000 [bF] J3 [(1, .own (.box (xH t_))), (4, .own (eOs 1 true F2_ word2)), (5, .own (eOs 1 true eB seen3)), (6, .own (eOs 1 false F2_ l_3)), (7, .d (I i_)), (44, .d (eSl 2 false zH t_.Nodes)), (45, .d (I i_)), (46, .d (.sptr (.agg [eSl 1 false (eI .i64) Node_e.Next, B Node_e.End]))), (47, .d (.sptr (eSl 1 false (eI .i64) Node_e.Next))), (48, .d (eSl 1 false (eI .i64) Node_e.Next)), (49, .d (I ((Node_e.Next.length : Nat) : Int))), (51, .d (I t_.Inputs)), (52, .d (B (((Node_e.Next.length : Nat) : Int) != t_.Inputs))), (56, .d (I i_)), (58, .d (eSl 1 false (eI .i64) word_e)), (59, .d (I ((word_e.length : Nat) : Int))), (60, .d (B (decide (((word_e.length : Nat) : Int) > 256))))] [ob c8] (by kernel_rfl) fun st0 h0 => hJ3 st0 _ (word2, seen3, l_3, Node_e.Next, Node_e.End, Node_e.Next, Node_e.Next, ((Node_e.Next.length : Nat) : Int), ((Node_e.Next.length : Nat) : Int) != t_.Inputs, word_e, ((word_e.length : Nat) : Int), decide (((word_e.length : Nat) : Int) > 256)) hf1 h0 inferInstance
          ·obtain ⟨Node_e2, h12, hf1⟩ := zi hf1
           have o25 := iM zH h12
           rcases zY hf1 with ⟨c13, hf1⟩ | ⟨c13, hf1⟩
           ·obtain ⟨word_e3, h13, hf1⟩ := zi hf1
            have o26 := dM F2_ ([word_e3] : List (List Int))
            have o27 := dM F2_ ([word_e3] : List (List Int))
            obtain ⟨g4, hf1⟩ := gdE hf1
            have o28 := aL F2_ F2_ g4
            have o29 := aM F2_ l_1 ([word_e3] : List (List Int))
            exact zk ((zC z6 (.inr 122) [121]).or ((zC z6 (.inl 73) [72]).or X0)) z6 hC hm [1,4,5,6,7,44,45,46,47,48,49,51,52,55,56,58,59,60] 4000 [.a (zH Node_e2), bT, .a (F2_ word_e3), bT, .l ((l_1 ++ ([word_e3] : List (List Int))).map F2_)] J5 [(1, .own (.box (xH t_))), (4, .own (eOs 1 true F2_ word)), (5, .own (eOs 1 true eB seen2)), (6, .own (eOs 1 false F2_ (l_1 ++ ([word_e3] : List (List Int))))), (7, .d (I i_)), (44, .d (eSl 2 false zH t_.Nodes)), (45, .d (I i_)), (46, .d (.sptr (zH Node_e))), (47, .d (.sptr (eSl 1 false (eI .i64) Node_e.Next))), (48, .d (eSl 1 false (eI .i64) Node_e.Next)), (49, .d (I ((Node_e.Next.length : Nat) : Int))), (51, .d (I t_.Inputs)), (52, .d (B (((Node_e.Next.length : Nat) : Int) != t_.Inputs))), (55, .als 4 [] 0 0), (56, .d (I i_)), (58, .d (eSl 1 false (eI .i64) word_e)), (59, .d (I ((word_e.length : Nat) : Int))), (60, .d (B (decide (((word_e.length : Nat) : Int) > 256))))] [ob (i0 h12), ob o25, ob c13, ob (iL F2_ h13), ob (iM F2_ h13), ob o26, ob o27, ob o28, ob o29] (by kernel_rfl) fun st0 h0 => hJ5 st0 _ (l_1 ++ ([word_e3] : List (List Int))) hf1 h0 inferInstance
           ·exact zk ((zC z6 (.inr 122) [121]).or ((zC z6 (.inl 73) [72]).or X0)) z6 hC hm [1,4,5,6,7,44,45,46,47,48,49,51,52,55,56,58,59,60] 4000 [.a (zH Node_e2), bF] J5 [(1, .own (.box (xH t_))), (4, .own (eOs 1 true F2_ word)), (5, .own (eOs 1 true eB seen2)), (6, .own (eOs 1 false F2_ l_1)), (7, .d (I i_)), (44, .d (eSl 2 false zH t_.Nodes)), (45, .d (I i_)), (46, .d (.sptr (zH Node_e))), (47, .d (.sptr (eSl 1 false (eI .i64) Node_e.Next))), (48, .d (eSl 1 false (eI .i64) Node_e.Next)), (49, .d (I ((Node_e.Next.length : Nat) : Int))), (51, .d (I t_.Inputs)), (52, .d (B (((Node_e.Next.length : Nat) : Int) != t_.Inputs))), (55, .als 4 [] 0 0), (56, .d (I i_)), (58, .d (eSl 1 false (eI .i64) word_e)), (59, .d (I ((word_e.length : Nat) : Int))), (60, .d (B (decide (((word_e.length : Nat) : Int) > 256))))] [ob (i0 h12), ob o25, ob c13] (by kernel_rfl) fun st0 h0 => hJ5 st0 _ l_1 hf1 h0 inferInstance
      ·rcases zY hf1 with ⟨c14, hf1⟩ | ⟨c14, hf1⟩
       ·obtain ⟨seen_e3, h14, hf1⟩ := zi hf1
        exact zk ((zC z6 (.inr 122) [121]).or ((zC z6 (.inl 73) [72]).or X0)) z6 hC hm [1,4,5,6,7] 4000 [bT, .a (eB seen_e3), .a (eB seen_e3), .l ((seen.set (0 : Int).toNat true).map eB)] J4 [(1, .own (.box (xH t_))), (4, .own (eOs 1 true F2_ word)), (5, .own (eOs 1 true eB (seen.set (0 : Int).toNat true))), (6, .own (eOs 1 false F2_ l_1)), (7, .d (I i_))] [ob c14, ob (iL eB h14), ob (iM eB h14), ob (iM eB h14), ob (sM eB seen 0 true)] (by kernel_rfl) fun st0 h0 => hJ4 st0 _ (seen.set (0 : Int).toNat true) hf1 h0 inferInstance
       ·exact zk ((zC z6 (.inr 122) [121]).or ((zC z6 (.inl 73) [72]).or X0)) z6 hC hm [1,4,5,6,7] 4000 [bF] J4 [(1, .own (.box (xH t_))), (4, .own (eOs 1 true F2_ word)), (5, .own (eOs 1 true eB seen)), (6, .own (eOs 1 false F2_ l_1)), (7, .d (I i_))] [ob c14] (by kernel_rfl) fun st0 h0 => hJ4 st0 _ seen hf1 h0 inferInstance
    ·obtain rfl := ze hf1
     obtain rfl := hl1
     exact zk ((zC z6 (.inr 122) [121]).or ((zC z6 (.inl 73) [72]).or X0)) z6 hC hm [1,6] 4000 [aLn t_.Nodes.length, bF] J1 [(1, .own (.box (xH t_))), (6, .own (eOs 1 false F2_ l_1))] [ob o12, ob c4] (by kernel_rfl) fun st0 h0 => hJ1 st0 _ l_1 hf0 h0 inferInstance
noncomputable def zS : Code := (Try.f65.body).getD .skip
noncomputable def Zm : yw := spF (α := zb) (ρ := Bool) 65 (fun x => [xH x]) (fun r => eB r) (fun x => uE x) [] (by
 rintro a0 b0 h
 have e0 := yO.inj (f := xH) _ _ (List.cons.inj h).1
 subst e0
 rfl)
abbrev V2 : List (Nat × T) := []
abbrev V1 (t_ : zb) (x15 : Int) (seen1 : List Bool) (x31 : List Int) (x32 : Int) (x35 : Bool) : List (Nat × T) := [(1, .own (.box (xH t_))), (3, .own (eOs 1 true eB seen1)), (13, .d (eSl 2 false zH t_.Nodes)), (14, .d (I ((t_.Nodes.length : Nat) : Int))), (15, .d (I x15)), (31, .d (eSl 1 false (eI .i64) x31)), (32, .d (I x32)), (34, .d (I t_.Inputs)), (35, .d (B x35))]
abbrev WZ (t_ : zb) (x15 : Int) (Node_e : z7) (x40 : Int) (seen3 : List Bool) : List (Nat × T) := [(1, .own (.box (xH t_))), (3, .own (eOs 1 true eB seen3)), (4, .d (I x15)), (13, .d (eSl 2 false zH t_.Nodes)), (14, .d (I ((t_.Nodes.length : Nat) : Int))), (15, .d (I x15)), (31, .d (eSl 1 false (eI .i64) Node_e.Next)), (32, .d (I ((Node_e.Next.length : Nat) : Int))), (34, .d (I t_.Inputs)), (35, .d (B (((Node_e.Next.length : Nat) : Int) != t_.Inputs))), (38, .d (eSl 1 false (eI .i64) Node_e.Next)), (39, .d (I ((Node_e.Next.length : Nat) : Int))), (40, .d (I x40))]
abbrev WX (t_ : zb) (x15 : Int) (Node_e : z7) (seen2 : List Bool) (x40 : Int) : List (Nat × T) := [(1, .own (.box (xH t_))), (3, .own (eOs 1 true eB seen2)), (4, .d (I x15)), (13, .d (eSl 2 false zH t_.Nodes)), (14, .d (I ((t_.Nodes.length : Nat) : Int))), (15, .d (I x15)), (31, .d (eSl 1 false (eI .i64) Node_e.Next)), (32, .d (I ((Node_e.Next.length : Nat) : Int))), (34, .d (I t_.Inputs)), (35, .d (B (((Node_e.Next.length : Nat) : Int) != t_.Inputs))), (38, .d (eSl 1 false (eI .i64) Node_e.Next)), (39, .d (I ((Node_e.Next.length : Nat) : Int))), (40, .d (I x40))]
abbrev V0 (t_ : zb) (seen : List Bool) (x15 : Int) (Node_e : z7) : List (Nat × T) := [(1, .own (.box (xH t_))), (3, .own (eOs 1 true eB seen)), (4, .d (I x15)), (5, .own (.box (zH Node_e))), (13, .d (eSl 2 false zH t_.Nodes)), (14, .d (I ((t_.Nodes.length : Nat) : Int))), (15, .d (I x15)), (31, .d (eSl 1 false (eI .i64) Node_e.Next)), (32, .d (I ((Node_e.Next.length : Nat) : Int))), (34, .d (I t_.Inputs)), (35, .d (B (((Node_e.Next.length : Nat) : Int) != t_.Inputs)))]
abbrev WY (t_ : zb) (seen : List Bool) (x15 : Int) : List (Nat × T) := [(1, .own (.box (xH t_))), (3, .own (eOs 1 true eB seen)), (13, .d (eSl 2 false zH t_.Nodes)), (14, .d (I ((t_.Nodes.length : Nat) : Int))), (15, .d (I x15))]
theorem JU {ctr : Ctr} (hC : y6 Try.prog ctr) (hm : Try.prog.follows .mixedOrders = true) : Zm.Ok Try.prog := by
 refine y8 ?_
 rintro t_ r0 hf0
 try unfold uE at hf0
 refine zx (tt := yE) (keep := true) (rs := [(2, none)]) (n := ⟨67, []⟩) (body := zS) z6 Try.func65 rfl (by kernel_rfl) rfl rfl (by show (1 : Nat) ≤ 67; decide) fun E hE => ?_
 have o0 := lnM zH t_.Nodes
 obtain ⟨g0, hf0⟩ := gdE hf0
 have o1 := rM 1 eB ((t_.Nodes.length : Nat) : Int) false
 refine zI X0 z6 hC hm [1,3] 4000 [aLn t_.Nodes.length, .a (eOs 1 true eB (List.replicate ((t_.Nodes.length : Nat) : Int).toNat false)), .cut 0] (sub [1,1] zS) (frs [1,1] [] zS []) [(1, .own (.box (xH t_))), (3, .own (eOs 1 true eB (List.replicate ((t_.Nodes.length : Nat) : Int).toNat false)))] [ob o0, ob (rL g0), ob o1] (by kernel_rfl) fun st0 h0 => ?_
 refine zr (X := Unit) (x := (sub [1,1,2] zS)) (y := (sub [1,1,1] zS)) (by kernel_rfl) [] [1,3] _ h0 (fun z => Zh = some r0) (fun z => V2) ?_ fun J1 hJ1 => ?_
 ·rintro ⟨⟩ hf0
  unfold Zh at hf0
  obtain rfl := ze hf0
  exact zh X0 z6 hC hm hE 4000 (hs := []) (x := (B true)) [] (by kernel_rfl) (LeV.refl _)
 ·have o2 := lnM zH t_.Nodes
  obtain ⟨t2, ht2, hf0⟩ := zi hf0
  refine zI X0 z6 hC hm [1,3,13,14,15] 4000 [aLn t_.Nodes.length] (sub [1,1,2,1,0] zS) (frs [1,1,2,1,0] [J1] zS []) [(1, .own (.box (xH t_))), (3, .own (eOs 1 true eB (List.replicate ((t_.Nodes.length : Nat) : Int).toNat false))), (13, .d (eSl 2 false zH t_.Nodes)), (14, .d (I ((t_.Nodes.length : Nat) : Int))), (15, .d (I 0))] [ob o2] (by kernel_rfl) fun st0 h0 => ?_
  refine zN (X := (List Bool × Int) × Nat) (c' := (sub [1,1,2,1,0,0] zS)) (by kernel_rfl) [1,3,13,14,15] (fun x => yG (fun s => wi t_ s.1 s.2) x.2 x.1 = some t2) (fun x => x.2) (fun x => WY t_ x.1.1 x.1.2) (((List.replicate ((t_.Nodes.length : Nat) : Int).toNat false), 0), wJ) _ h0 inferInstance ht2 ?_
  rintro ⟨⟨seen, x15⟩, n2⟩ hn2 J2 hJ2
  obtain ⟨m2, lr1, rfl, hf1, hl1⟩ := xM hn2
  try unfold wi at hf1
  rcases zY hf1 with ⟨c0, hf1⟩ | ⟨c0, hf1⟩
  ·refine zI X0 z6 hC hm [1,3,13,14,15] 4000 [bT, .cut 0] (sub [1,1,2,1,0,0,1,1] zS) (frs [1,1,2,1,0,0,1,1] [J1, J2] zS []) [(1, .own (.box (xH t_))), (3, .own (eOs 1 true eB seen)), (13, .d (eSl 2 false zH t_.Nodes)), (14, .d (I ((t_.Nodes.length : Nat) : Int))), (15, .d (I x15))] [ob c0] (by kernel_rfl) fun st0 h0 => ?_
   refine zr (X := List Bool × List Int × Int × Bool) (x := (sub [1,1,2,1,0,0,1,1,2] zS)) (y := (sub [1,1,2,1,0,0,1,1,1] zS)) (by kernel_rfl) [1,3,13,14,15,31,32,34,35] [1,3,13,14,15] _ h0 (fun z => u6 x15 z.1 z.2.1 z.2.2.1 z.2.2.2 = some lr1) (fun z => V1 t_ x15 z.1 z.2.1 z.2.2.1 z.2.2.2) ?_ fun J3 hJ3 => ?_
   ·rintro ⟨seen1, x31, x32, x35⟩ hf1
    unfold u6 at hf1
    obtain rfl := ze hf1
    exact zk X0 z6 hC hm [1,3,13,14,15] 4000 [] J2 [(1, .own (.box (xH t_))), (3, .own (eOs 1 true eB seen1)), (13, .d (eSl 2 false zH t_.Nodes)), (14, .d (I ((t_.Nodes.length : Nat) : Int))), (15, .d (I (w64 (x15 + 1))))] [] (by kernel_rfl) fun st0 h0 => hJ2 st0 _ ((seen1, w64 (x15 + 1)), m2) hl1 (Nat.lt_succ_self m2) h0 inferInstance
   ·obtain ⟨Node_e, h0, hf1⟩ := zi hf1
    have o3 := iM zH h0
    refine zI X0 z6 hC hm [1,3,4,5,13,14,15] 4000 [.a (zH Node_e), .cut 0] (sub [1,1,2,1,0,0,1,1,2,0,1] zS) (frs [1,1,2,1,0,0,1,1,2,0,1] [J1, J2, J3] zS []) [(1, .own (.box (xH t_))), (3, .own (eOs 1 true eB seen)), (4, .d (I x15)), (5, .own (.box (zH Node_e))), (13, .d (eSl 2 false zH t_.Nodes)), (14, .d (I ((t_.Nodes.length : Nat) : Int))), (15, .d (I x15))] [ob (i0 h0), ob o3] (by kernel_rfl) fun st0 h0 => ?_
    refine zr (X := Unit) (x := (sub [1,1,2,1,0,0,1,1,2,0,1,2] zS)) (y := (sub [1,1,2,1,0,0,1,1,2,0,1,1] zS)) (by kernel_rfl) [1,3,4,5,13,14,15,31,32,34,35] [1,3,4,5,13,14,15] _ h0 (fun z => xK t_ seen x15 Node_e = some lr1) (fun z => V0 t_ seen x15 Node_e) ?_ fun J4 hJ4 => ?_
    ·rintro ⟨⟩ hf1
     unfold xK at hf1
     obtain ⟨t5, ht5, hf1⟩ := zi hf1
     refine zI X0 z6 hC hm [1,3,4,13,14,15,31,32,34,35,38,39,40] 4000 [aLn Node_e.Next.length] (sub [1,1,2,1,0,0,1,1,2,0,1,1,1,0] zS) (frs [1,1,2,1,0,0,1,1,2,0,1,1,1,0] [J1, J2, J3] zS []) [(1, .own (.box (xH t_))), (3, .own (eOs 1 true eB seen)), (4, .d (I x15)), (13, .d (eSl 2 false zH t_.Nodes)), (14, .d (I ((t_.Nodes.length : Nat) : Int))), (15, .d (I x15)), (31, .d (eSl 1 false (eI .i64) Node_e.Next)), (32, .d (I ((Node_e.Next.length : Nat) : Int))), (34, .d (I t_.Inputs)), (35, .d (B (((Node_e.Next.length : Nat) : Int) != t_.Inputs))), (38, .d (eSl 1 false (eI .i64) Node_e.Next)), (39, .d (I ((Node_e.Next.length : Nat) : Int))), (40, .d (I 0))] [ob (lnM (eI .i64) Node_e.Next)] (by kernel_rfl) fun st0 h0 => ?_
     refine zN (X := (List Bool × Int) × Nat) (c' := (sub [1,1,2,1,0,0,1,1,2,0,1,1,1,0,0] zS)) (by kernel_rfl) [1,3,4,13,14,15,31,32,34,35,38,39,40] (fun x => yG (fun s => xJ t_ x15 Node_e s.1 s.2) x.2 x.1 = some t5) (fun x => x.2) (fun x => WX t_ x15 Node_e x.1.1 x.1.2) ((seen, 0), wJ) _ h0 inferInstance ht5 ?_
     rintro ⟨⟨seen2, x40⟩, n5⟩ hn5 J5 hJ5
     obtain ⟨m5, lr2, rfl, hf2, hl2⟩ := xM hn5
     try unfold xJ at hf2
     rcases zY hf2 with ⟨c1, hf2⟩ | ⟨c1, hf2⟩
     ·refine zI X0 z6 hC hm [1,3,4,13,14,15,31,32,34,35,38,39,40] 4000 [bT, .cut 0] (sub [1,1,2,1,0,0,1,1,2,0,1,1,1,0,0,1,1] zS) (frs [1,1,2,1,0,0,1,1,2,0,1,1,1,0,0,1,1] [J1, J2, J3, J5] zS []) [(1, .own (.box (xH t_))), (3, .own (eOs 1 true eB seen2)), (4, .d (I x15)), (13, .d (eSl 2 false zH t_.Nodes)), (14, .d (I ((t_.Nodes.length : Nat) : Int))), (15, .d (I x15)), (31, .d (eSl 1 false (eI .i64) Node_e.Next)), (32, .d (I ((Node_e.Next.length : Nat) : Int))), (34, .d (I t_.Inputs)), (35, .d (B (((Node_e.Next.length : Nat) : Int) != t_.Inputs))), (38, .d (eSl 1 false (eI .i64) Node_e.Next)), (39, .d (I ((Node_e.Next.length : Nat) : Int))), (40, .d (I x40))] [ob c1] (by kernel_rfl) fun st0 h0 => ?_
      refine zr (X := List Bool) (x := (sub [1,1,2,1,0,0,1,1,2,0,1,1,1,0,0,1,1,2] zS)) (y := (sub [1,1,2,1,0,0,1,1,2,0,1,1,1,0,0,1,1,1] zS)) (by kernel_rfl) [1,3,4,13,14,15,31,32,34,35,38,39,40] [1,3,4,13,14,15,31,32,34,35,38,39,40] _ h0 (fun z => wj x40 z = some lr2) (fun z => WZ t_ x15 Node_e x40 z) ?_ fun J6 hJ6 => ?_
      ·rintro seen3 hf2
       unfold wj at hf2
       obtain rfl := ze hf2
       exact zk X0 z6 hC hm [1,3,4,13,14,15,31,32,34,35,38,39,40] 4000 [] J5 [(1, .own (.box (xH t_))), (3, .own (eOs 1 true eB seen3)), (4, .d (I x15)), (13, .d (eSl 2 false zH t_.Nodes)), (14, .d (I ((t_.Nodes.length : Nat) : Int))), (15, .d (I x15)), (31, .d (eSl 1 false (eI .i64) Node_e.Next)), (32, .d (I ((Node_e.Next.length : Nat) : Int))), (34, .d (I t_.Inputs)), (35, .d (B (((Node_e.Next.length : Nat) : Int) != t_.Inputs))), (38, .d (eSl 1 false (eI .i64) Node_e.Next)), (39, .d (I ((Node_e.Next.length : Nat) : Int))), (40, .d (I (w64 (x40 + 1))))] [] (by kernel_rfl) fun st0 h0 => hJ5 st0 _ ((seen3, w64 (x40 + 1)), m5) hl2 (Nat.lt_succ_self m5) h0 inferInstance
      ·obtain ⟨Next_e, h1, hf2⟩ := zi hf2
       rcases zY hf2 with ⟨c2, hf2⟩ | ⟨c2, hf2⟩
       ·exact zk X0 z6 hC hm [1,3,4,13,14,15,31,32,34,35,38,39,40] 4000 [.a ((eI .i64) Next_e), bT] J6 [(1, .own (.box (xH t_))), (3, .own (eOs 1 true eB seen2)), (4, .d (I x15)), (13, .d (eSl 2 false zH t_.Nodes)), (14, .d (I ((t_.Nodes.length : Nat) : Int))), (15, .d (I x15)), (31, .d (eSl 1 false (eI .i64) Node_e.Next)), (32, .d (I ((Node_e.Next.length : Nat) : Int))), (34, .d (I t_.Inputs)), (35, .d (B (((Node_e.Next.length : Nat) : Int) != t_.Inputs))), (38, .d (eSl 1 false (eI .i64) Node_e.Next)), (39, .d (I ((Node_e.Next.length : Nat) : Int))), (40, .d (I x40))] [ob (i0 h1), ob (iM (eI .i64) h1), ob c2] (by kernel_rfl) fun st0 h0 => hJ6 st0 _ seen2 hf2 h0 inferInstance
       ·rcases zY hf2 with ⟨c3, hf2⟩ | ⟨c3, hf2⟩
        ·obtain rfl := ze hf2
         obtain rfl := hl2
         obtain rfl := ze hf1
         obtain rfl := hl1
         obtain rfl := ze hf0
         exact zh X0 z6 hC hm hE 4000 (hs := (.a ((eI .i64) Next_e) :: bF :: (rpN 12 bT []))) (x := (B false)) (ob (i0 h1) :: ob (iM (eI .i64) h1) :: ob c2 :: (rpN 6 (ob c3) (rpN 6 oT []))) (by kernel_rfl) (LeV.refl _)
        ·have o4 := lnM zH t_.Nodes
         rcases zY hf2 with ⟨c4, hf2⟩ | ⟨c4, hf2⟩
         ·obtain rfl := ze hf2
          obtain rfl := hl2
          obtain rfl := ze hf1
          obtain rfl := hl1
          obtain rfl := ze hf0
          exact zh X0 z6 hC hm hE 4000 (hs := (.a ((eI .i64) Next_e) :: (rpN 5 bF (aLn t_.Nodes.length :: bF :: bF :: (rpN 6 bT []))))) (x := (B false)) (ob (i0 h1) :: ob (iM (eI .i64) h1) :: ob c2 :: (rpN 4 (ob c3) (ob o4 :: ob c3 :: ob c3 :: (rpN 5 (ob c4) [oT])))) (by kernel_rfl) (LeV.refl _)
         ·obtain ⟨seen_e, h2, hf2⟩ := zi hf2
          rcases zY hf2 with ⟨c5, hf2⟩ | ⟨c5, hf2⟩
          ·obtain rfl := ze hf2
           obtain rfl := hl2
           obtain rfl := ze hf1
           obtain rfl := hl1
           obtain rfl := ze hf0
           exact zh X0 z6 hC hm hE 4000 (hs := (.a ((eI .i64) Next_e) :: (rpN 5 bF (aLn t_.Nodes.length :: (rpN 6 bF [.a (eB seen_e), bF, bT]))))) (x := (B false)) (ob (i0 h1) :: ob (iM (eI .i64) h1) :: ob c2 :: (rpN 4 (ob c3) [ob o4, ob c3, ob c3, ob c4, ob c4, ob c4, ob (iL eB h2), ob c4, ob (iM eB h2), ob c4, ob c5])) (by kernel_rfl) (LeV.refl _)
          ·obtain ⟨seen_e1, h3, hf2⟩ := zi hf2
           exact zk X0 z6 hC hm [1,3,4,13,14,15,31,32,34,35,38,39,40] 4000 (.a ((eI .i64) Next_e) :: (rpN 5 bF (aLn t_.Nodes.length :: (rpN 6 bF [.a (eB seen_e), bF, bF, .a (eB seen_e1), .a (eB seen_e1), .l ((seen2.set Next_e.toNat true).map eB)])))) J6 [(1, .own (.box (xH t_))), (3, .own (eOs 1 true eB (seen2.set Next_e.toNat true))), (4, .d (I x15)), (13, .d (eSl 2 false zH t_.Nodes)), (14, .d (I ((t_.Nodes.length : Nat) : Int))), (15, .d (I x15)), (31, .d (eSl 1 false (eI .i64) Node_e.Next)), (32, .d (I ((Node_e.Next.length : Nat) : Int))), (34, .d (I t_.Inputs)), (35, .d (B (((Node_e.Next.length : Nat) : Int) != t_.Inputs))), (38, .d (eSl 1 false (eI .i64) Node_e.Next)), (39, .d (I ((Node_e.Next.length : Nat) : Int))), (40, .d (I x40))] (ob (i0 h1) :: ob (iM (eI .i64) h1) :: ob c2 :: (rpN 4 (ob c3) [ob o4, ob c3, ob c3, ob c4, ob c4, ob c4, ob (iL eB h2), ob c4, ob (iM eB h2), ob c4, ob c5, ob (iL eB h3), ob (iM eB h3), ob (iM eB h3), ob (sM eB seen2 Next_e true)])) (by kernel_rfl) fun st0 h0 => hJ6 st0 _ (seen2.set Next_e.toNat true) hf2 h0 inferInstance
     ·obtain rfl := ze hf2
      obtain rfl := hl2
      exact zk X0 z6 hC hm [1,3,13,14,15,31,32,34,35] 4000 [bF] J3 [(1, .own (.box (xH t_))), (3, .own (eOs 1 true eB seen2)), (13, .d (eSl 2 false zH t_.Nodes)), (14, .d (I ((t_.Nodes.length : Nat) : Int))), (15, .d (I x15)), (31, .d (eSl 1 false (eI .i64) Node_e.Next)), (32, .d (I ((Node_e.Next.length : Nat) : Int))), (34, .d (I t_.Inputs)), (35, .d (B (((Node_e.Next.length : Nat) : Int) != t_.Inputs)))] [ob c1] (by kernel_rfl) fun st0 h0 => hJ3 st0 _ (seen2, Node_e.Next, ((Node_e.Next.length : Nat) : Int), ((Node_e.Next.length : Nat) : Int) != t_.Inputs) hf1 h0 inferInstance
    ·rcases zY hf1 with ⟨c6, hf1⟩ | ⟨c6, hf1⟩
     ·obtain ⟨seen_e2, h4, hf1⟩ := zi hf1
      rcases zY hf1 with ⟨c7, hf1⟩ | ⟨c7, hf1⟩
      ·obtain rfl := ze hf1
       obtain rfl := hl1
       obtain rfl := ze hf0
       exact zh X0 z6 hC hm hE 4000 (hs := (rpN 4 bT (.a (eB seen_e2) :: (rpN 10 bT [])))) (x := (B false)) (ob c6 :: ob c6 :: ob c6 :: ob (iL eB h4) :: ob c6 :: ob (iM eB h4) :: ob c6 :: ob c6 :: (rpN 7 (ob c7) [oT])) (by kernel_rfl) (LeV.refl _)
      ·rcases zY hf1 with ⟨c8, hf1⟩ | ⟨c8, hf1⟩
       ·obtain rfl := ze hf1
        obtain rfl := hl1
        obtain rfl := ze hf0
        exact zh X0 z6 hC hm hE 4000 (hs := (rpN 4 bT (.a (eB seen_e2) :: bT :: bT :: bF :: bF :: bF :: aLn Node_e.Next.length :: (rpN 4 bF [bT])))) (x := (B false)) (ob c6 :: ob c6 :: ob c6 :: ob (iL eB h4) :: ob c6 :: ob (iM eB h4) :: ob c6 :: ob c6 :: ob c7 :: ob c7 :: ob c7 :: ob (lnM (eI .i64) Node_e.Next) :: (rpN 4 (ob c7) [ob c8])) (by kernel_rfl) (LeV.refl _)
       ·exact zk X0 z6 hC hm [1,3,4,5,13,14,15,31,32,34,35] 4000 (rpN 4 bT (.a (eB seen_e2) :: bT :: bT :: bF :: bF :: bF :: aLn Node_e.Next.length :: (rpN 5 bF []))) J4 [(1, .own (.box (xH t_))), (3, .own (eOs 1 true eB seen)), (4, .d (I x15)), (5, .own (.box (zH Node_e))), (13, .d (eSl 2 false zH t_.Nodes)), (14, .d (I ((t_.Nodes.length : Nat) : Int))), (15, .d (I x15)), (31, .d (eSl 1 false (eI .i64) Node_e.Next)), (32, .d (I ((Node_e.Next.length : Nat) : Int))), (34, .d (I t_.Inputs)), (35, .d (B (((Node_e.Next.length : Nat) : Int) != t_.Inputs)))] (ob c6 :: ob c6 :: ob c6 :: ob (iL eB h4) :: ob c6 :: ob (iM eB h4) :: ob c6 :: ob c6 :: ob c7 :: ob c7 :: ob c7 :: ob (lnM (eI .i64) Node_e.Next) :: (rpN 4 (ob c7) [ob c8])) (by kernel_rfl) fun st0 h0 => hJ4 st0 _ () hf1 h0 inferInstance
     ·rcases zY hf1 with ⟨c9, hf1⟩ | ⟨c9, hf1⟩
      ·obtain rfl := ze hf1
       obtain rfl := hl1
       obtain rfl := ze hf0
       exact zh X0 z6 hC hm hE 4000 (hs := (rpN 9 bF (aLn Node_e.Next.length :: (rpN 4 bF [bT])))) (x := (B false)) (rpN 6 (ob c6) (oF :: oF :: oF :: ob (lnM (eI .i64) Node_e.Next) :: (rpN 4 oF [ob c9]))) (by kernel_rfl) (LeV.refl _)
      ·exact zk X0 z6 hC hm [1,3,4,5,13,14,15,31,32,34,35] 4000 (rpN 9 bF (aLn Node_e.Next.length :: (rpN 5 bF []))) J4 [(1, .own (.box (xH t_))), (3, .own (eOs 1 true eB seen)), (4, .d (I x15)), (5, .own (.box (zH Node_e))), (13, .d (eSl 2 false zH t_.Nodes)), (14, .d (I ((t_.Nodes.length : Nat) : Int))), (15, .d (I x15)), (31, .d (eSl 1 false (eI .i64) Node_e.Next)), (32, .d (I ((Node_e.Next.length : Nat) : Int))), (34, .d (I t_.Inputs)), (35, .d (B (((Node_e.Next.length : Nat) : Int) != t_.Inputs)))] (rpN 6 (ob c6) (oF :: oF :: oF :: ob (lnM (eI .i64) Node_e.Next) :: (rpN 4 oF [ob c9]))) (by kernel_rfl) fun st0 h0 => hJ4 st0 _ () hf1 h0 inferInstance
  ·obtain rfl := ze hf1
   obtain rfl := hl1
   exact zk X0 z6 hC hm [] 4000 [bF] J1 [] [ob c0] (by kernel_rfl) fun st0 h0 => hJ1 st0 _ () hf0 h0 inferInstance
noncomputable def JD : Code := (Try.f66.body).getD .skip
noncomputable def vg : yw := spF (α := List z7) (ρ := List z7) 66 (fun x => [z03 x]) (fun r => (z02 85 z8T) r) (fun x => uD x) [] (by
 rintro a0 b0 h
 have e0 := yO.inj (f := z03) _ _ (List.cons.inj h).1
 subst e0
 rfl)
theorem JT {ctr : Ctr} (hC : y6 Try.prog ctr) (hm : Try.prog.follows .mixedOrders = true) : vg.Ok Try.prog := by
 refine y8 ?_
 rintro nodes r0 hf0
 try unfold uD at hf0
 refine zx (tt := yE) (keep := true) (rs := [(2, none)]) (n := ⟨4, []⟩) (body := JD) z6 Try.func66 rfl (by kernel_rfl) rfl rfl (by show (1 : Nat) ≤ 4; decide) fun E hE => ?_
 obtain rfl := ze hf0
 exact zh X0 z6 hC hm hE 4000 (hs := []) (x := (.fn 85 [.sptr (eSl 2 false zH nodes)])) [] (by kernel_rfl) (LeV.refl _)
noncomputable def ZO : Code := (Try.f67.body).getD .skip
noncomputable def zV : yw := spF (α := List Int) (ρ := List Int) 67 (fun x => [F2_ x]) (fun r => F1_ r) (fun x => y9 x) [] (by
 rintro a0 b0 h
 have e0 := yO.inj (f := F2_) _ _ (List.cons.inj h).1
 subst e0
 rfl)
theorem ZR {ctr : Ctr} (hC : y6 Try.prog ctr) (hm : Try.prog.follows .mixedOrders = true) : zV.Ok Try.prog := by
 refine y8 ?_
 rintro s_ r0 hf0
 try unfold y9 at hf0
 refine zx (tt := yE) (keep := true) (rs := [(2, none)]) (n := ⟨9, []⟩) (body := ZO) z6 Try.func67 rfl (by kernel_rfl) rfl rfl (by show (1 : Nat) ≤ 9; decide) fun E hE => ?_
 obtain ⟨g0, hf0⟩ := gdE hf0
 have o0 := z9f 1 (eI .i64) s_ 0 ((s_.length : Nat) : Int).toNat
 obtain rfl := ze hf0
 exact zh X0 z6 hC hm hE 4000 (hs := [aLn s_.length, aLn s_.length, .a (eSl 1 true (eI .i64) ((s_.drop 0).take (((s_.length : Nat) : Int).toNat - 0)))]) (x := (eSl 1 true (eI .i64) ((s_.drop 0).take (((s_.length : Nat) : Int).toNat - 0)))) [ob (lnM (eI .i64) s_), ob (lnM (eI .i64) s_), ob (slB g0), ob (slC g0), ob (z5U (eI .i64) g0), ob o0] (by kernel_rfl) (LeV.refl _)
noncomputable def zz : Code := (Try.f85.body).getD .skip
abbrev Xv {σ : Type} (x0 : List z7) (YY : σ → KV) (sg2 : σ) (next : List za) : List (Nat × T) := [(0, .own (.opq (YY sg2).q)), (1, .d (.sptr (eSl 2 false zH x0))), (4, .own (eOs 2 false u4 next))]
abbrev Xu {σ : Type} (x0 : List z7) (YY : σ → KV) (level1 : List za) (x19 : Int) (sg4 : σ) (next2 : List za) : List (Nat × T) := [(0, .own (.opq (YY sg4).q)), (1, .d (.sptr (eSl 2 false zH x0))), (3, .own (eOs 2 false u4 level1)), (4, .own (eOs 2 false u4 next2)), (17, .als 3 [] 0 0), (18, .d (I ((level1.length : Nat) : Int))), (19, .d (I x19))]
abbrev Xt {σ : Type} (x0 : List z7) (YY : σ → KV) (level1 : List za) (x19 : Int) (level_e : za) (yr : σ × Bool) (x_e : z7) (x34 : Int) (next4 : List za) : List (Nat × T) := [(0, .own (.opq (YY yr.1).q)), (1, .d (.sptr (eSl 2 false zH x0))), (3, .own (eOs 2 false u4 level1)), (4, .own (eOs 2 false u4 next4)), (6, .own (.box (u4 level_e))), (17, .als 3 [] 0 0), (18, .d (I ((level1.length : Nat) : Int))), (19, .d (I x19)), (32, .d (eSl 1 false (eI .i64) x_e.Next)), (33, .d (I ((x_e.Next.length : Nat) : Int))), (34, .d (I x34))]
abbrev Xq {σ : Type} (x0 : List z7) (YY : σ → KV) (level1 : List za) (x19 : Int) (level_e : za) (yr : σ × Bool) (x_e : z7) (next3 : List za) (x34 : Int) : List (Nat × T) := [(0, .own (.opq (YY yr.1).q)), (1, .d (.sptr (eSl 2 false zH x0))), (3, .own (eOs 2 false u4 level1)), (4, .own (eOs 2 false u4 next3)), (6, .own (.box (u4 level_e))), (17, .als 3 [] 0 0), (18, .d (I ((level1.length : Nat) : Int))), (19, .d (I x19)), (32, .d (eSl 1 false (eI .i64) x_e.Next)), (33, .d (I ((x_e.Next.length : Nat) : Int))), (34, .d (I x34))]
abbrev Xr {σ : Type} (x0 : List z7) (YY : σ → KV) (level1 : List za) (sg3 : σ) (next1 : List za) (x19 : Int) : List (Nat × T) := [(0, .own (.opq (YY sg3).q)), (1, .d (.sptr (eSl 2 false zH x0))), (3, .own (eOs 2 false u4 level1)), (4, .own (eOs 2 false u4 next1)), (17, .als 3 [] 0 0), (18, .d (I ((level1.length : Nat) : Int))), (19, .d (I x19))]
abbrev Xs {σ : Type} (x0 : List z7) (YY : σ → KV) (sg1 : σ) (level1 : List za) : List (Nat × T) := [(0, .own (.opq (YY sg1).q)), (1, .d (.sptr (eSl 2 false zH x0))), (3, .own (eOs 2 false u4 level1))]
abbrev Xw {σ : Type} (x0 : List z7) (YY : σ → KV) (sg : σ) (level : List za) : List (Nat × T) := [(0, .own (.opq (YY sg).q)), (1, .d (.sptr (eSl 2 false zH x0))), (3, .own (eOs 2 true z95 level))]
theorem qH {ctr : Ctr} (hC : y6 Try.prog ctr) (hm : Try.prog.follows .mixedOrders = true) (h_slices_Clip_int_int : ctr.Has zV) (x0 : List z7) : z4Q Try.prog (.fn 85 [.sptr (eSl 2 false zH x0)]) (fun (x : za) (_ : Bool) (_ : Value) => [u4 x]) (@x4 x0) := by
 refine z6v (tt := yE) (nt := 55) (body := zz) z6 Try.func85 rfl (by kernel_rfl) rfl rfl (by show (2 : Nat) ≤ 55; decide) ?_
 intro σ yv YY yy hy sg r0 hf0 E hE
 unfold x4 at hf0
 refine zI ((zC z6 (.inl 49) [48]).or ((zC z6 (.inl 13) [12]).or X0)) z6 hC hm [0,1,3] 4000 [.cut 1] (sub [1] zz) (frs [1] [] zz []) [(0, .own (.opq (YY sg).q)), (1, .d (.sptr (eSl 2 false zH x0))), (3, .own (eOs 2 true u4 []))] [] (by kernel_rfl) fun st0 h0 => ?_
 refine zr (X := List za) (x := (sub [1,2] zz)) (y := (sub [1,1] zz)) (by kernel_rfl) [0,1,3] [0,1,3] _ h0 (fun z => wP x0 yy sg z = some r0) (fun z => Xw x0 YY sg z) ?_ fun J1 hJ1 => ?_
 ·rintro level hf0
  unfold wP at hf0
  obtain ⟨t2, ht2, hf0⟩ := zi hf0
  refine zI ((zC z6 (.inl 49) [48]).or ((zC z6 (.inl 13) [12]).or X0)) z6 hC hm [0,1,3] 4000 [] (sub [1,1,0] zz) (frs [1,1,0] [] zz []) [(0, .own (.opq (YY sg).q)), (1, .d (.sptr (eSl 2 false zH x0))), (3, .own (eOs 2 true z95 level))] [] (by kernel_rfl) fun st0 h0 => ?_
  refine zN (X := (σ × List za) × Nat) (c' := (sub [1,1,0,0] zz)) (by kernel_rfl) [0,1,3] (fun x => yG (fun s => wN x0 yy s.1 s.2) x.2 x.1 = some t2) (fun x => x.2) (fun x => Xs x0 YY x.1.1 x.1.2) ((sg, level), wJ) _ h0 inferInstance ht2 ?_
  rintro ⟨⟨sg1, level1⟩, n2⟩ hn2 J2 hJ2
  obtain ⟨m2, lr1, rfl, hf1, hl1⟩ := xM hn2
  try unfold wN at hf1
  have o0 := lnM u4 level1
  rcases zY hf1 with ⟨c0, hf1⟩ | ⟨c0, hf1⟩
  ·refine zI ((zC z6 (.inl 49) [48]).or ((zC z6 (.inl 13) [12]).or X0)) z6 hC hm [0,1,3,4] 4000 [aLn level1.length, bT, .cut 1] (sub [1,1,0,0,1,0,1] zz) (frs [1,1,0,0,1,0,1] [J2] zz []) [(0, .own (.opq (YY sg1).q)), (1, .d (.sptr (eSl 2 false zH x0))), (3, .own (eOs 2 false u4 level1)), (4, .own (eOs 2 true u4 []))] [ob o0, ob c0] (by kernel_rfl) fun st0 h0 => ?_
   refine zr (X := σ × List za) (x := (sub [1,1,0,0,1,0,1,2] zz)) (y := (sub [1,1,0,0,1,0,1,1] zz)) (by kernel_rfl) [0,1,4] [0,1,3,4] _ h0 (fun z => uO z.1 z.2 = some lr1) (fun z => Xv x0 YY z.1 z.2) ?_ fun J3 hJ3 => ?_
   ·rintro ⟨sg2, next⟩ hf1
    unfold uO at hf1
    obtain rfl := ze hf1
    exact zk ((zC z6 (.inl 49) [48]).or ((zC z6 (.inl 13) [12]).or X0)) z6 hC hm [0,1,3] 4000 [] J2 [(0, .own (.opq (YY sg2).q)), (1, .d (.sptr (eSl 2 false zH x0))), (3, .own (eOs 2 false u4 next))] [] (by kernel_rfl) fun st0 h0 => hJ2 st0 _ ((sg2, next), m2) hl1 (Nat.lt_succ_self m2) h0 inferInstance
   ·have o1 := lnM u4 level1
    obtain ⟨t4, ht4, hf1⟩ := zi hf1
    refine zI ((zC z6 (.inl 49) [48]).or ((zC z6 (.inl 13) [12]).or X0)) z6 hC hm [0,1,3,4,17,18,19] 4000 [aLn level1.length] (sub [1,1,0,0,1,0,1,2,1,0] zz) (frs [1,1,0,0,1,0,1,2,1,0] [J2, J3] zz []) [(0, .own (.opq (YY sg1).q)), (1, .d (.sptr (eSl 2 false zH x0))), (3, .own (eOs 2 false u4 level1)), (4, .own (eOs 2 true u4 [])), (17, .als 3 [] 0 0), (18, .d (I ((level1.length : Nat) : Int))), (19, .d (I 0))] [ob o1] (by kernel_rfl) fun st0 h0 => ?_
    refine zN (X := (σ × List za × Int) × Nat) (c' := (sub [1,1,0,0,1,0,1,2,1,0,0] zz)) (by kernel_rfl) [0,1,3,4,17,18,19] (fun x => yG (fun s => wM x0 yy level1 s.1 s.2.1 s.2.2) x.2 x.1 = some t4) (fun x => x.2) (fun x => Xr x0 YY level1 x.1.1 x.1.2.1 x.1.2.2) ((sg1, ([] : List za), 0), wJ) _ h0 inferInstance ht4 ?_
    rintro ⟨⟨sg3, next1, x19⟩, n4⟩ hn4 J4 hJ4
    obtain ⟨m4, lr2, rfl, hf2, hl2⟩ := xM hn4
    try unfold wM at hf2
    rcases zY hf2 with ⟨c1, hf2⟩ | ⟨c1, hf2⟩
    ·refine zI ((zC z6 (.inl 49) [48]).or ((zC z6 (.inl 13) [12]).or X0)) z6 hC hm [0,1,3,4,17,18,19] 4000 [bT, .cut 0] (sub [1,1,0,0,1,0,1,2,1,0,0,1,1] zz) (frs [1,1,0,0,1,0,1,2,1,0,0,1,1] [J2, J3, J4] zz []) [(0, .own (.opq (YY sg3).q)), (1, .d (.sptr (eSl 2 false zH x0))), (3, .own (eOs 2 false u4 level1)), (4, .own (eOs 2 false u4 next1)), (17, .als 3 [] 0 0), (18, .d (I ((level1.length : Nat) : Int))), (19, .d (I x19))] [ob c1] (by kernel_rfl) fun st0 h0 => ?_
     refine zr (X := σ × List za) (x := (sub [1,1,0,0,1,0,1,2,1,0,0,1,1,2] zz)) (y := (sub [1,1,0,0,1,0,1,2,1,0,0,1,1,1] zz)) (by kernel_rfl) [0,1,3,4,17,18,19] [0,1,3,4,17,18,19] _ h0 (fun z => uN x19 z.1 z.2 = some lr2) (fun z => Xu x0 YY level1 x19 z.1 z.2) ?_ fun J5 hJ5 => ?_
     ·rintro ⟨sg4, next2⟩ hf2
      unfold uN at hf2
      obtain rfl := ze hf2
      exact zk ((zC z6 (.inl 49) [48]).or ((zC z6 (.inl 13) [12]).or X0)) z6 hC hm [0,1,3,4,17,18,19] 4000 [] J4 [(0, .own (.opq (YY sg4).q)), (1, .d (.sptr (eSl 2 false zH x0))), (3, .own (eOs 2 false u4 level1)), (4, .own (eOs 2 false u4 next2)), (17, .als 3 [] 0 0), (18, .d (I ((level1.length : Nat) : Int))), (19, .d (I (w64 (x19 + 1))))] [] (by kernel_rfl) fun st0 h0 => hJ4 st0 _ ((sg4, next2, w64 (x19 + 1)), m4) hl2 (Nat.lt_succ_self m4) h0 inferInstance
     ·obtain ⟨level_e, h0, hf2⟩ := zi hf2
      have o2 := iL u4 h0
      have o3 := iM u4 h0
      obtain ⟨yr, h1, hf2⟩ := zi hf2
      have o4 := z5M (yv := yv) (Y := YY) (enc := (fun (x : za) (_ : Bool) (_ : Value) => [u4 x])) (s := sg3) (x := level_e) (s' := yr.1) (b := yr.2) (v := .nilFunc) [u4 level_e] (show QI [u4 level_e] [u4 level_e] from inferInstance)
      rcases zY hf2 with ⟨c2, hf2⟩ | ⟨c2, hf2⟩
      ·obtain rfl := ze hf2
       obtain rfl := hl2
       obtain rfl := ze hf1
       obtain rfl := hl1
       obtain rfl := ze hf0
       exact qa ((z4S (P := Try.prog) yE hy 25 (s := sg3) (x := level_e) (s' := yr.1) (b := yr.2) .nilFunc h1).or ((zC z6 (.inl 49) [48]).or ((zC z6 (.inl 13) [12]).or X0))) z6 hC hm [0] 4000 [.a (u4 level_e), bT] .ret [(0, .own (.opq (YY yr.1).q))] [ob o2, ob o3, ob o4, ob c2] (by kernel_rfl) fun st0 h0 => hE _ st0 (.inr rfl) h0
      ·obtain ⟨x_e, h2, hf2⟩ := zi hf2
       have o5 := iM zH h2
       obtain ⟨t6, ht6, hf2⟩ := zi hf2
       refine zI ((z4S (P := Try.prog) yE hy 25 (s := sg3) (x := level_e) (s' := yr.1) (b := yr.2) .nilFunc h1).or ((zC z6 (.inl 49) [48]).or ((zC z6 (.inl 13) [12]).or X0))) z6 hC hm [0,1,3,4,6,17,18,19,32,33,34] 4000 [.a (u4 level_e), bF, .a (zH x_e), aLn x_e.Next.length] (sub [1,1,0,0,1,0,1,2,1,0,0,1,1,2,0,1,1,1,0] zz) (frs [1,1,0,0,1,0,1,2,1,0,0,1,1,2,0,1,1,1,0] [J2, J3, J4, J5] zz []) [(0, .own (.opq (YY yr.1).q)), (1, .d (.sptr (eSl 2 false zH x0))), (3, .own (eOs 2 false u4 level1)), (4, .own (eOs 2 false u4 next1)), (6, .own (.box (u4 level_e))), (17, .als 3 [] 0 0), (18, .d (I ((level1.length : Nat) : Int))), (19, .d (I x19)), (32, .d (eSl 1 false (eI .i64) x_e.Next)), (33, .d (I ((x_e.Next.length : Nat) : Int))), (34, .d (I 0))] [ob o2, ob o3, ob o4, ob c2, ob (i0 h2), ob o5, ob (lnM (eI .i64) x_e.Next)] (by kernel_rfl) fun st0 h0 => ?_
       refine zN (X := (List za × Int) × Nat) (c' := (sub [1,1,0,0,1,0,1,2,1,0,0,1,1,2,0,1,1,1,0,0] zz)) (by kernel_rfl) [0,1,3,4,6,17,18,19,32,33,34] (fun x => yG (fun s => yS level_e yr x_e s.1 s.2) x.2 x.1 = some t6) (fun x => x.2) (fun x => Xq x0 YY level1 x19 level_e yr x_e x.1.1 x.1.2) ((next1,0), wJ) _ h0 inferInstance ht6 ?_
       rintro ⟨⟨next3, x34⟩, n6⟩ hn6 J6 hJ6
       obtain ⟨m6, lr3, rfl, hf3, hl3⟩ := xM hn6
       try unfold yS at hf3
       rcases zY hf3 with ⟨c3, hf3⟩ | ⟨c3, hf3⟩
       ·refine zI ((zC z6 (.inl 49) [48]).or ((zC z6 (.inl 13) [12]).or X0)) z6 hC hm [0,1,3,4,6,17,18,19,32,33,34] 4000 [bT, .cut 0] (sub [1,1,0,0,1,0,1,2,1,0,0,1,1,2,0,1,1,1,0,0,1,1] zz) (frs [1,1,0,0,1,0,1,2,1,0,0,1,1,2,0,1,1,1,0,0,1,1] [J2, J3, J4, J5, J6] zz []) [(0, .own (.opq (YY yr.1).q)), (1, .d (.sptr (eSl 2 false zH x0))), (3, .own (eOs 2 false u4 level1)), (4, .own (eOs 2 false u4 next3)), (6, .own (.box (u4 level_e))), (17, .als 3 [] 0 0), (18, .d (I ((level1.length : Nat) : Int))), (19, .d (I x19)), (32, .d (eSl 1 false (eI .i64) x_e.Next)), (33, .d (I ((x_e.Next.length : Nat) : Int))), (34, .d (I x34))] [ob c3] (by kernel_rfl) fun st0 h0 => ?_
        refine zr (X := List za) (x := (sub [1,1,0,0,1,0,1,2,1,0,0,1,1,2,0,1,1,1,0,0,1,1,2] zz)) (y := (sub [1,1,0,0,1,0,1,2,1,0,0,1,1,2,0,1,1,1,0,0,1,1,1] zz)) (by kernel_rfl) [0,1,3,4,6,17,18,19,32,33,34] [0,1,3,4,6,17,18,19,32,33,34] _ h0 (fun z => wO x34 z = some lr3) (fun z => Xt x0 YY level1 x19 level_e yr x_e x34 z) ?_ fun J7 hJ7 => ?_
        ·rintro next4 hf3
         unfold wO at hf3
         obtain rfl := ze hf3
         exact zk ((zC z6 (.inl 49) [48]).or ((zC z6 (.inl 13) [12]).or X0)) z6 hC hm [0,1,3,4,6,17,18,19,32,33,34] 4000 [] J6 [(0, .own (.opq (YY yr.1).q)), (1, .d (.sptr (eSl 2 false zH x0))), (3, .own (eOs 2 false u4 level1)), (4, .own (eOs 2 false u4 next4)), (6, .own (.box (u4 level_e))), (17, .als 3 [] 0 0), (18, .d (I ((level1.length : Nat) : Int))), (19, .d (I x19)), (32, .d (eSl 1 false (eI .i64) x_e.Next)), (33, .d (I ((x_e.Next.length : Nat) : Int))), (34, .d (I (w64 (x34 + 1))))] [] (by kernel_rfl) fun st0 h0 => hJ6 st0 _ ((next4, w64 (x34 + 1)), m6) hl3 (Nat.lt_succ_self m6) h0 inferInstance
        ·obtain ⟨Next_e, h3, hf3⟩ := zi hf3
         rcases zY hf3 with ⟨c4, hf3⟩ | ⟨c4, hf3⟩
         ·obtain ⟨r_, h4, hf3⟩ := zi hf3
          have o6 := yP h_slices_Clip_int_int (x := level_e.w_) h4 (loC F2_ level_e.w_ <| loN)
          obtain ⟨g0, hf3⟩ := gdE hf3
          have o7 := aN (eI .i64) (eI .i64) g0 (by simp)
          have o8 := shM (eI .i64) (eI .i64) (r_ ++ ([x34] : List Int))
          have o9 := dM u4 ([(za.mk Next_e (r_ ++ ([x34] : List Int)))] : List za)
          have o10 := dM u4 ([(za.mk Next_e (r_ ++ ([x34] : List Int)))] : List za)
          obtain ⟨g1, hf3⟩ := gdE hf3
          have o11 := aL u4 u4 g1
          have o12 := aM u4 next3 ([(za.mk Next_e (r_ ++ ([x34] : List Int)))] : List za)
          exact zk ((zC z6 (.inl 49) [48]).or ((zC z6 (.inl 13) [12]).or X0)) z6 hC hm [0,1,3,4,6,17,18,19,32,33,34] 4000 [.a ((eI .i64) Next_e), bT, .g [], .a (F1_ r_), bT, .l ((r_ ++ ([x34] : List Int)).map (eI .i64)), .l ((r_ ++ ([x34] : List Int)).map (eI .i64)), bT, .l ((next3 ++ ([(za.mk Next_e (r_ ++ ([x34] : List Int)))] : List za)).map u4)] J7 [(0, .own (.opq (YY yr.1).q)), (1, .d (.sptr (eSl 2 false zH x0))), (3, .own (eOs 2 false u4 level1)), (4, .own (eOs 2 false u4 (next3 ++ ([(za.mk Next_e (r_ ++ ([x34] : List Int)))] : List za)))), (6, .own (.box (u4 level_e))), (17, .als 3 [] 0 0), (18, .d (I ((level1.length : Nat) : Int))), (19, .d (I x19)), (32, .d (eSl 1 false (eI .i64) x_e.Next)), (33, .d (I ((x_e.Next.length : Nat) : Int))), (34, .d (I x34))] [ob (i0 h3), ob (iM (eI .i64) h3), ob c4, ob (zJ h_slices_Clip_int_int), ob o6, ob (dM (eI .i64) ([x34] : List Int)), ob (dM (eI .i64) ([x34] : List Int)), ob o7, ob (aM (eI .i64) r_ ([x34] : List Int)), ob o8, ob o9, ob o10, ob o11, ob o12] (by kernel_rfl) fun st0 h0 => hJ7 st0 _ (next3 ++ ([(za.mk Next_e (r_ ++ ([x34] : List Int)))] : List za)) hf3 h0 inferInstance
         ·exact zk ((zC z6 (.inl 49) [48]).or ((zC z6 (.inl 13) [12]).or X0)) z6 hC hm [0,1,3,4,6,17,18,19,32,33,34] 4000 [.a ((eI .i64) Next_e), bF] J7 [(0, .own (.opq (YY yr.1).q)), (1, .d (.sptr (eSl 2 false zH x0))), (3, .own (eOs 2 false u4 level1)), (4, .own (eOs 2 false u4 next3)), (6, .own (.box (u4 level_e))), (17, .als 3 [] 0 0), (18, .d (I ((level1.length : Nat) : Int))), (19, .d (I x19)), (32, .d (eSl 1 false (eI .i64) x_e.Next)), (33, .d (I ((x_e.Next.length : Nat) : Int))), (34, .d (I x34))] [ob (i0 h3), ob (iM (eI .i64) h3), ob c4] (by kernel_rfl) fun st0 h0 => hJ7 st0 _ next3 hf3 h0 inferInstance
       ·obtain rfl := ze hf3
        obtain rfl := hl3
        exact zk ((zC z6 (.inl 49) [48]).or ((zC z6 (.inl 13) [12]).or X0)) z6 hC hm [0,1,3,4,17,18,19] 4000 [bF] J5 [(0, .own (.opq (YY yr.1).q)), (1, .d (.sptr (eSl 2 false zH x0))), (3, .own (eOs 2 false u4 level1)), (4, .own (eOs 2 false u4 next3)), (17, .als 3 [] 0 0), (18, .d (I ((level1.length : Nat) : Int))), (19, .d (I x19))] [ob c3] (by kernel_rfl) fun st0 h0 => hJ5 st0 _ (yr.1, next3) hf2 h0 inferInstance
    ·obtain rfl := ze hf2
     obtain rfl := hl2
     exact zk ((zC z6 (.inl 49) [48]).or ((zC z6 (.inl 13) [12]).or X0)) z6 hC hm [0,1,4] 4000 [bF] J3 [(0, .own (.opq (YY sg3).q)), (1, .d (.sptr (eSl 2 false zH x0))), (4, .own (eOs 2 false u4 next1))] [ob c1] (by kernel_rfl) fun st0 h0 => hJ3 st0 _ (sg3, next1) hf1 h0 inferInstance
  ·obtain rfl := ze hf1
   obtain rfl := hl1
   obtain rfl := ze hf0
   exact qa ((zC z6 (.inl 49) [48]).or ((zC z6 (.inl 13) [12]).or X0)) z6 hC hm [0] 4000 [aLn level1.length, bF] .normal [(0, .own (.opq (YY sg1).q))] [ob o0, ob c0] (by kernel_rfl) fun st0 h0 => hE _ st0 (.inl rfl) h0
 ·have o13 := lnM zH x0
  rcases zY hf0 with ⟨c5, hf0⟩ | ⟨c5, hf0⟩
  ·exact zk ((zC z6 (.inl 49) [48]).or ((zC z6 (.inl 13) [12]).or X0)) z6 hC hm [0,1,3] 4000 [aLn x0.length, bT, .l ([].map (eI .i64))] J1 [(0, .own (.opq (YY sg).q)), (1, .d (.sptr (eSl 2 false zH x0))), (3, .own (eOs 2 true z95 ([(za.mk 0 [])])))] [ob o13, ob c5, ob (shM (eI .i64) (eI .i64) [])] (by kernel_rfl) fun st0 h0 => hJ1 st0 _ ([(za.mk 0 [])] : List za) hf0 h0 inferInstance
  ·exact zk ((zC z6 (.inl 49) [48]).or ((zC z6 (.inl 13) [12]).or X0)) z6 hC hm [0,1,3] 4000 [aLn x0.length, bF] J1 [(0, .own (.opq (YY sg).q)), (1, .d (.sptr (eSl 2 false zH x0))), (3, .own (eOs 2 true z95 []))] [ob o13, ob c5] (by kernel_rfl) fun st0 h0 => hJ1 st0 _ ([] : List za) hf0 h0 inferInstance
noncomputable def Uw : Code := (Try.f83.body).getD .skip
noncomputable def vV : yw := spF (α := Int) (ρ := Bool) 83 (fun x => [(eI .i64) x]) (fun r => eB r) (fun x => kq x) [] (by
 rintro a0 b0 h
 have e0 := yO.inj (f := (eI .i64)) _ _ (List.cons.inj h).1
 subst e0
 rfl)
theorem UY {ctr : Ctr} (hC : y6 Try.prog ctr) (hm : Try.prog.follows .mixedOrders = true) : vV.Ok Try.prog := by
 refine y8 ?_
 rintro k_ r0 hf0
 try unfold kq at hf0
 refine zx (tt := yE) (keep := true) (rs := [(2, none)]) (n := ⟨5, []⟩) (body := Uw) z6 Try.func83 rfl (by kernel_rfl) rfl rfl (by show (1 : Nat) ≤ 5; decide) fun E hE => ?_
 obtain rfl := ze hf0
 exact zh X0 z6 hC hm hE 4000 (hs := []) (x := (B (k_ != (-1)))) [] (by kernel_rfl) (LeV.refl _)
noncomputable def zR : Code := (Try.f95.body).getD .skip
noncomputable def xj : yw := spF (α := List Int × Unit) (ρ := Int) 95 (fun x => [F2_ x.1, (JQ 83) x.2]) (fun r => (eI .i64) r) (fun x => yU x.1 x.2) [] (by
 rintro ⟨a0, a1⟩ ⟨b0, b1⟩ h
 have e0 := yO.inj (f := F2_) _ _ (List.cons.inj h).1
 replace h := (List.cons.inj h).2
 have e1 := yO.inj (f := (JQ 83)) _ _ (List.cons.inj h).1
 subst e0 e1
 rfl)
abbrev qd : List (Nat × T) := []
abbrev qb (s_ : List Int) (x8 : Int) : List (Nat × T) := [(0, .d (eSl 1 false (eI .i64) s_)), (1, .d (.fn 83 [])), (7, .d (I ((s_.length : Nat) : Int))), (8, .d (I x8))]
theorem j5 {ctr : Ctr} (hC : y6 Try.prog ctr) (hm : Try.prog.follows .mixedOrders = true) (h_tries_leaf_1 : ctr.Has vV) : xj.Ok Try.prog := by
 refine y8 ?_
 rintro ⟨s_, f_⟩ r0 hf0
 try unfold yU at hf0
 refine zx (tt := yE) (keep := true) (rs := [(4, none)]) (n := ⟨19, []⟩) (body := zR) z6 Try.func95 rfl (by kernel_rfl) rfl rfl (by show (2 : Nat) ≤ 19; decide) fun E hE => ?_
 refine zI X0 z6 hC hm [0,1] 4000 [.cut 1] (sub [1] zR) (frs [1] [] zR []) [(0, .d (eSl 1 false (eI .i64) s_)), (1, .d (.fn 83 []))] [] (by kernel_rfl) fun st0 h0 => ?_
 refine zr (X := Unit) (x := (sub [1,2] zR)) (y := (sub [1,1] zR)) (by kernel_rfl) [] [0,1] _ h0 (fun z => xm = some r0) (fun z => qd) ?_ fun J1 hJ1 => ?_
 ·rintro ⟨⟩ hf0
  unfold xm at hf0
  obtain rfl := ze hf0
  exact zh X0 z6 hC hm hE 4000 (hs := []) (x := (I (-1))) [] (by kernel_rfl) (LeV.refl _)
 ·obtain ⟨t2, ht2, hf0⟩ := zi hf0
  refine zI X0 z6 hC hm [0,1,7,8] 4000 [aLn s_.length] (sub [1,2,1,0] zR) (frs [1,2,1,0] [J1] zR []) [(0, .d (eSl 1 false (eI .i64) s_)), (1, .d (.fn 83 [])), (7, .d (I ((s_.length : Nat) : Int))), (8, .d (I 0))] [ob (lnM (eI .i64) s_)] (by kernel_rfl) fun st0 h0 => ?_
  refine zN (X := Int × Nat) (c' := (sub [1,2,1,0,0] zR)) (by kernel_rfl) [0,1,7,8] (fun x => yG (fun s => ya s_ s) x.2 x.1 = some t2) (fun x => x.2) (fun x => qb s_ x.1) (0, wJ) _ h0 inferInstance ht2 ?_
  rintro ⟨x8, n2⟩ hn2 J2 hJ2
  obtain ⟨m2, lr1, rfl, hf1, hl1⟩ := xM hn2
  try unfold ya at hf1
  rcases zY hf1 with ⟨c0, hf1⟩ | ⟨c0, hf1⟩
  ·obtain ⟨s__e, h0, hf1⟩ := zi hf1
   obtain ⟨r_, h1, hf1⟩ := zi hf1
   have o0 := yP h_tries_leaf_1 (x := s__e) h1 (loC (eI .i64) s__e <| loN)
   rcases zY hf1 with ⟨c1, hf1⟩ | ⟨c1, hf1⟩
   ·obtain rfl := ze hf1
    obtain rfl := hl1
    obtain rfl := ze hf0
    exact zh X0 z6 hC hm hE 4000 (hs := [bT, .a ((eI .i64) s__e), .g [], .a (eB r_), bT]) (x := (I x8)) [ob c0, ob (i0 h0), ob (iM (eI .i64) h0), ob (zJ h_tries_leaf_1), ob o0, ob c1] (by kernel_rfl) (LeV.refl _)
   ·obtain rfl := ze hf1
    exact zk X0 z6 hC hm [0,1,7,8] 4000 [bT, .a ((eI .i64) s__e), .g [], .a (eB r_), bF] J2 [(0, .d (eSl 1 false (eI .i64) s_)), (1, .d (.fn 83 [])), (7, .d (I ((s_.length : Nat) : Int))), (8, .d (I (w64 (x8 + 1))))] [ob c0, ob (i0 h0), ob (iM (eI .i64) h0), ob (zJ h_tries_leaf_1), ob o0, ob c1] (by kernel_rfl) fun st0 h0 => hJ2 st0 _ (w64 (x8 + 1), m2) hl1 (Nat.lt_succ_self m2) h0 inferInstance
  ·obtain rfl := ze hf1
   obtain rfl := hl1
   exact zk X0 z6 hC hm [] 4000 [bF] J1 [] [ob c0] (by kernel_rfl) fun st0 h0 => hJ1 st0 _ () hf0 h0 inferInstance
noncomputable def q9 : Code := (Try.f82.body).getD .skip
noncomputable def yT : yw := spF (α := List Int × Unit) (ρ := Bool) 82 (fun x => [F2_ x.1, (JQ 83) x.2]) (fun r => eB r) (fun x => yB x.1 x.2) [] (by
 rintro ⟨a0, a1⟩ ⟨b0, b1⟩ h
 have e0 := yO.inj (f := F2_) _ _ (List.cons.inj h).1
 replace h := (List.cons.inj h).2
 have e1 := yO.inj (f := (JQ 83)) _ _ (List.cons.inj h).1
 subst e0 e1
 rfl)
theorem qp {ctr : Ctr} (hC : y6 Try.prog ctr) (hm : Try.prog.follows .mixedOrders = true) (h_tries_leaf_1 : ctr.Has vV) : yT.Ok Try.prog := by
 refine y8 ?_
 rintro ⟨s_, f_⟩ r0 hf0
 try unfold yB at hf0
 refine zx (tt := yE) (keep := true) (rs := [(4, none)]) (n := ⟨9, []⟩) (body := q9) z6 Try.func82 rfl (by kernel_rfl) rfl rfl (by show (2 : Nat) ≤ 9; decide) fun E hE => ?_
 have o0 := zJ (Ctr.add_has Xk xj)
 obtain ⟨r_, h0, hf0⟩ := zi hf0
 have o1 := yP (Ctr.add_has Xk xj) (x := (s_, ())) h0 (loC F2_ s_ <| loC (JQ 83) () <| loN)
 obtain rfl := ze hf0
 exact zh ((QK z6 (j5 hC hm h_tries_leaf_1) 7).or X0) z6 hC hm hE 4000 (hs := [.g [], .a ((eI .i64) r_)]) (x := (B (decide (r_ ≥ 0)))) [ob o0, ob o1] (by kernel_rfl) (LeV.refl _)
noncomputable def JE : Code := (Try.f58.body).getD .skip
noncomputable def uQ : yw := spF (α := z7) (ρ := Bool) 58 (fun x => [zH x]) (fun r => eB r) (fun x => qz x) [] (by
 rintro a0 b0 h
 have e0 := yO.inj (f := zH) _ _ (List.cons.inj h).1
 subst e0
 rfl)
theorem JV {ctr : Ctr} (hC : y6 Try.prog ctr) (hm : Try.prog.follows .mixedOrders = true) (h_tries_leaf_1 : ctr.Has vV) : uQ.Ok Try.prog := by
 refine y8 ?_
 rintro n_ r0 hf0
 try unfold qz at hf0
 refine zx (tt := yE) (keep := true) (rs := [(2, none)]) (n := ⟨7, []⟩) (body := JE) z6 Try.func58 rfl (by kernel_rfl) rfl rfl (by show (1 : Nat) ≤ 7; decide) fun E hE => ?_
 have o0 := zJ (Ctr.add_has Xk yT)
 obtain ⟨r_, h0, hf0⟩ := zi hf0
 have o1 := yP (Ctr.add_has Xk yT) (x := (n_.Next, ())) h0 (loC F2_ n_.Next <| loC (JQ 83) () <| loN)
 obtain rfl := ze hf0
 exact zh ((QK z6 (qp hC hm h_tries_leaf_1) 5).or X0) z6 hC hm hE 4000 (hs := [.g [], .a (eB r_)]) (x := (B (!r_))) [ob o0, ob o1] (by kernel_rfl) (LeV.refl _)
noncomputable def ZE : Code := (Try.f68.body).getD .skip
noncomputable def yl : yw := spF (α := List Int) (ρ := List Int) 68 (fun x => [F2_ x]) (fun r => F3_ r) (fun x => yu x) [] (by
 rintro a0 b0 h
 have e0 := yO.inj (f := F2_) _ _ (List.cons.inj h).1
 subst e0
 rfl)
theorem ZN {ctr : Ctr} (hC : y6 Try.prog ctr) (hm : Try.prog.follows .mixedOrders = true) : yl.Ok Try.prog := by
 refine y8 ?_
 rintro s_ r0 hf0
 try unfold yu at hf0
 refine zx (tt := yE) (keep := true) (rs := [(2, none)]) (n := ⟨8, []⟩) (body := ZE) z6 Try.func68 rfl (by kernel_rfl) rfl rfl (by show (1 : Nat) ≤ 8; decide) fun E hE => ?_
 refine z3j rfl 0 (sz := 1) (t := false) (es := s_.map (eI .i64)) (by kernel_rfl) fun pv0 hv0 hn => ?_
 rcases hn with ⟨hn0, he0⟩ | hn0
 ·obtain ⟨_, hf0⟩ := gdE hf0
  rw [show s_ = [] from List.map_eq_nil_iff.1 he0] at hf0
  obtain rfl := ze hf0
  exact zh ((z8W z6 4 52 (by kernel_rfl) hn0).or ((xMv Try.prog 3 0 pv0 hv0).or X0)) z6 hC hm hE 4000 (hs := [bT]) (x := (eOs 1 true (eI .i64) [])) [ob ((rfl : some pv0 = some pv0)), ob ((⟨rfl, rfl⟩ : T.d (.atom pv0) = T.d (.atom pv0) ∧ T.d (.atom (.slice none 0 0)) = T.d (.atom (.slice none 0 0)))), oT] (by kernel_rfl) (show LeV (eOs 1 true (eI .i64) []) (eOs 1 false (eI .i64) ([] : List Int)) from inferInstance)
 ·obtain ⟨g0, hf0⟩ := gdE hf0
  obtain rfl := ze hf0
  exact zh ((z8W z6 4 52 (by kernel_rfl) hn0).or ((xMv Try.prog 3 0 pv0 hv0).or X0)) z6 hC hm hE 4000 (hs := [bF, .l (s_.map (eI .i64))]) (x := (eOs 1 false (eI .i64) s_)) [ob ((rfl : some pv0 = some pv0)), ob ((⟨rfl, rfl⟩ : T.d (.atom pv0) = T.d (.atom pv0) ∧ T.d (.atom (.slice none 0 0)) = T.d (.atom (.slice none 0 0)))), oF, ob (dM (eI .i64) s_), ob (aL (eI .i64) (eI .i64) g0), ob (aM0 (eI .i64) s_)] (by kernel_rfl) (LeV.refl _)
noncomputable def WU : Code := (Try.f86.body).getD .skip
noncomputable def jb : yw := spF (α := Int × Int) (ρ := Bool) 86 (fun x => [(eI .i64) x.1, (eSp (eI .i64)) x.2]) (fun r => eB r) (fun x => jl x.1 x.2) [] (by
 rintro ⟨a0, a1⟩ ⟨b0, b1⟩ h
 have e0 := yO.inj (f := (eI .i64)) _ _ (List.cons.inj h).1
 replace h := (List.cons.inj h).2
 have e1 := yO.inj (f := (eSp (eI .i64))) _ _ (List.cons.inj h).1
 subst e0 e1
 rfl)
theorem Vy {ctr : Ctr} (hC : y6 Try.prog ctr) (hm : Try.prog.follows .mixedOrders = true) : jb.Ok Try.prog := by
 refine y8 ?_
 rintro ⟨c_, x1⟩ r0 hf0
 try unfold jl at hf0
 refine zx (tt := yE) (keep := true) (rs := [(3, none)]) (n := ⟨11, []⟩) (body := WU) z6 Try.func86 rfl (by kernel_rfl) rfl rfl (by show (2 : Nat) ≤ 11; decide) fun E hE => ?_
 rcases zY hf0 with ⟨c0, hf0⟩ | ⟨c0, hf0⟩
 ·obtain rfl := ze hf0
  exact zh X0 z6 hC hm hE 4000 (hs := (rpN 4 bT [])) (x := (B true)) (rpN 4 (ob c0) []) (by kernel_rfl) (LeV.refl _)
 ·obtain rfl := ze hf0
  exact zh X0 z6 hC hm hE 4000 (hs := (rpN 4 bF [])) (x := (B (decide (c_ ≥ x1)))) (rpN 4 (ob c0) []) (by kernel_rfl) (LeV.refl _)
noncomputable def zX : Code := (Try.f95.body).getD .skip
noncomputable def w6 : yw := spF (α := List Int × Int) (ρ := Int) 95 (fun x => [F2_ x.1, (z02 86 (eSp (eI .i64))) x.2]) (fun r => (eI .i64) r) (fun x => xD x.1 x.2) [] (by
 rintro ⟨a0, a1⟩ ⟨b0, b1⟩ h
 have e0 := yO.inj (f := F2_) _ _ (List.cons.inj h).1
 replace h := (List.cons.inj h).2
 have e1 := yO.inj (f := (z02 86 (eSp (eI .i64)))) _ _ (List.cons.inj h).1
 subst e0 e1
 rfl)
abbrev j4 : List (Nat × T) := []
abbrev qZ (s_ : List Int) (f_ : Int) (x8 : Int) : List (Nat × T) := [(0, .d (eSl 1 false (eI .i64) s_)), (1, .d (.fn 86 [.sptr (I f_)])), (7, .d (I ((s_.length : Nat) : Int))), (8, .d (I x8))]
theorem kl {ctr : Ctr} (hC : y6 Try.prog ctr) (hm : Try.prog.follows .mixedOrders = true) (h_words_Check_1 : ctr.Has jb) : w6.Ok Try.prog := by
 refine y8 ?_
 rintro ⟨s_, f_⟩ r0 hf0
 try unfold xD at hf0
 refine zx (tt := yE) (keep := true) (rs := [(4, none)]) (n := ⟨19, []⟩) (body := zX) z6 Try.func95 rfl (by kernel_rfl) rfl rfl (by show (2 : Nat) ≤ 19; decide) fun E hE => ?_
 refine zI X0 z6 hC hm [0,1] 4000 [.cut 1] (sub [1] zX) (frs [1] [] zX []) [(0, .d (eSl 1 false (eI .i64) s_)), (1, .d (.fn 86 [.sptr (I f_)]))] [] (by kernel_rfl) fun st0 h0 => ?_
 refine zr (X := Unit) (x := (sub [1,2] zX)) (y := (sub [1,1] zX)) (by kernel_rfl) [] [0,1] _ h0 (fun z => w7 = some r0) (fun z => j4) ?_ fun J1 hJ1 => ?_
 ·rintro ⟨⟩ hf0
  unfold w7 at hf0
  obtain rfl := ze hf0
  exact zh X0 z6 hC hm hE 4000 (hs := []) (x := (I (-1))) [] (by kernel_rfl) (LeV.refl _)
 ·obtain ⟨t2, ht2, hf0⟩ := zi hf0
  refine zI X0 z6 hC hm [0,1,7,8] 4000 [aLn s_.length] (sub [1,2,1,0] zX) (frs [1,2,1,0] [J1] zX []) [(0, .d (eSl 1 false (eI .i64) s_)), (1, .d (.fn 86 [.sptr (I f_)])), (7, .d (I ((s_.length : Nat) : Int))), (8, .d (I 0))] [ob (lnM (eI .i64) s_)] (by kernel_rfl) fun st0 h0 => ?_
  refine zN (X := Int × Nat) (c' := (sub [1,2,1,0,0] zX)) (by kernel_rfl) [0,1,7,8] (fun x => yG (fun s => yh s_ f_ s) x.2 x.1 = some t2) (fun x => x.2) (fun x => qZ s_ f_ x.1) (0, wJ) _ h0 inferInstance ht2 ?_
  rintro ⟨x8, n2⟩ hn2 J2 hJ2
  obtain ⟨m2, lr1, rfl, hf1, hl1⟩ := xM hn2
  try unfold yh at hf1
  rcases zY hf1 with ⟨c0, hf1⟩ | ⟨c0, hf1⟩
  ·obtain ⟨s__e, h0, hf1⟩ := zi hf1
   obtain ⟨r_, h1, hf1⟩ := zi hf1
   have o0 := yP h_words_Check_1 (x := (s__e, f_)) h1 (loC (eI .i64) s__e <| loC (eSp (eI .i64)) f_ <| loN)
   rcases zY hf1 with ⟨c1, hf1⟩ | ⟨c1, hf1⟩
   ·obtain rfl := ze hf1
    obtain rfl := hl1
    obtain rfl := ze hf0
    exact zh X0 z6 hC hm hE 4000 (hs := [bT, .a ((eI .i64) s__e), .g [], .a (eB r_), bT]) (x := (I x8)) [ob c0, ob (i0 h0), ob (iM (eI .i64) h0), ob (zJ h_words_Check_1), ob o0, ob c1] (by kernel_rfl) (LeV.refl _)
   ·obtain rfl := ze hf1
    exact zk X0 z6 hC hm [0,1,7,8] 4000 [bT, .a ((eI .i64) s__e), .g [], .a (eB r_), bF] J2 [(0, .d (eSl 1 false (eI .i64) s_)), (1, .d (.fn 86 [.sptr (I f_)])), (7, .d (I ((s_.length : Nat) : Int))), (8, .d (I (w64 (x8 + 1))))] [ob c0, ob (i0 h0), ob (iM (eI .i64) h0), ob (zJ h_words_Check_1), ob o0, ob c1] (by kernel_rfl) fun st0 h0 => hJ2 st0 _ (w64 (x8 + 1), m2) hl1 (Nat.lt_succ_self m2) h0 inferInstance
  ·obtain rfl := ze hf1
   obtain rfl := hl1
   exact zk X0 z6 hC hm [] 4000 [bF] J1 [] [ob c0] (by kernel_rfl) fun st0 h0 => hJ1 st0 _ () hf0 h0 inferInstance
noncomputable def qY : Code := (Try.f82.body).getD .skip
noncomputable def xk : yw := spF (α := List Int × Int) (ρ := Bool) 82 (fun x => [F2_ x.1, (z02 86 (eSp (eI .i64))) x.2]) (fun r => eB r) (fun x => yV x.1 x.2) [] (by
 rintro ⟨a0, a1⟩ ⟨b0, b1⟩ h
 have e0 := yO.inj (f := F2_) _ _ (List.cons.inj h).1
 replace h := (List.cons.inj h).2
 have e1 := yO.inj (f := (z02 86 (eSp (eI .i64)))) _ _ (List.cons.inj h).1
 subst e0 e1
 rfl)
theorem j6 {ctr : Ctr} (hC : y6 Try.prog ctr) (hm : Try.prog.follows .mixedOrders = true) (h_slices_IndexFunc_int_int : ctr.Has w6) : xk.Ok Try.prog := by
 refine y8 ?_
 rintro ⟨s_, f_⟩ r0 hf0
 try unfold yV at hf0
 refine zx (tt := yE) (keep := true) (rs := [(4, none)]) (n := ⟨9, []⟩) (body := qY) z6 Try.func82 rfl (by kernel_rfl) rfl rfl (by show (2 : Nat) ≤ 9; decide) fun E hE => ?_
 obtain ⟨r_, h0, hf0⟩ := zi hf0
 have o0 := yP h_slices_IndexFunc_int_int (x := (s_, f_)) h0 (loC F2_ s_ <| loC (z02 86 (eSp (eI .i64))) f_ <| loN)
 obtain rfl := ze hf0
 exact zh X0 z6 hC hm hE 4000 (hs := [.g [], .a ((eI .i64) r_)]) (x := (B (decide (r_ ≥ 0)))) [ob (zJ h_slices_IndexFunc_int_int), ob o0] (by kernel_rfl) (LeV.refl _)
noncomputable def Q5 : Code := (Try.f73.body).getD .skip
noncomputable def kG : yw := spF (α := List Int × Int) (ρ := Int) 73 (fun x => [F2_ x.1, (eI .i64) x.2]) (fun r => (eI .i64) r) (fun x => qu x.1 x.2) [] (by
 rintro ⟨a0, a1⟩ ⟨b0, b1⟩ h
 have e0 := yO.inj (f := F2_) _ _ (List.cons.inj h).1
 replace h := (List.cons.inj h).2
 have e1 := yO.inj (f := (eI .i64)) _ _ (List.cons.inj h).1
 subst e0 e1
 rfl)
theorem QM {ctr : Ctr} (hC : y6 Try.prog ctr) (hm : Try.prog.follows .mixedOrders = true) (h_slices_ContainsFunc_int_int : ctr.Has xk) : kG.Ok Try.prog := by
 refine y8 ?_
 rintro ⟨w_, inputs⟩ r0 hf0
 try unfold qu at hf0
 refine zx (tt := yE) (keep := true) (rs := [(4, none)]) (n := ⟨19, []⟩) (body := Q5) z6 Try.func73 rfl (by kernel_rfl) rfl rfl (by show (2 : Nat) ≤ 19; decide) fun E hE => ?_
 rcases zY hf0 with ⟨c0, hf0⟩ | ⟨c0, hf0⟩
 ·obtain rfl := ze hf0
  exact zh X0 z6 hC hm hE 4000 (hs := (rpN 5 bT [])) (x := (I 3)) (rpN 4 (ob c0) [oT]) (by kernel_rfl) (LeV.refl _)
 ·rcases zY hf0 with ⟨c1, hf0⟩ | ⟨c1, hf0⟩
  ·obtain rfl := ze hf0
   exact zh X0 z6 hC hm hE 4000 (hs := [bF, bF, aLn w_.length, bF, bF, bT]) (x := (I 3)) [ob c0, ob c0, ob (lnM (eI .i64) w_), ob c0, ob c0, ob c1] (by kernel_rfl) (LeV.refl _)
  ·rcases zY hf0 with ⟨c2, hf0⟩ | ⟨c2, hf0⟩
   ·obtain rfl := ze hf0
    exact zh X0 z6 hC hm hE 4000 (hs := (bF :: bF :: aLn w_.length :: bF :: bF :: bF :: (rpN 5 bT []))) (x := (I 1)) (ob c0 :: ob c0 :: ob (lnM (eI .i64) w_) :: ob c0 :: ob c0 :: ob c1 :: (rpN 4 (ob c2) [oT])) (by kernel_rfl) (LeV.refl _)
   ·obtain ⟨r_, h0, hf0⟩ := zi hf0
    have o0 := yP h_slices_ContainsFunc_int_int (x := (w_, inputs)) h0 (loC F2_ w_ <| loC (z02 86 (eSp (eI .i64))) inputs <| loN)
    rcases zY hf0 with ⟨c3, hf0⟩ | ⟨c3, hf0⟩
    ·obtain rfl := ze hf0
     exact zh X0 z6 hC hm hE 4000 (hs := (bF :: bF :: aLn w_.length :: (rpN 6 bF [.g [], .a (eB r_), bF, bT]))) (x := (I 1)) [ob c0, ob c0, ob (lnM (eI .i64) w_), ob c0, ob c0, ob c1, ob c2, ob c2, ob c2, ob (zJ h_slices_ContainsFunc_int_int), ob o0, ob c2, ob c3] (by kernel_rfl) (LeV.refl _)
    ·obtain rfl := ze hf0
     exact zh X0 z6 hC hm hE 4000 (hs := (bF :: bF :: aLn w_.length :: (rpN 6 bF [.g [], .a (eB r_), bF, bF]))) (x := (I 0)) [ob c0, ob c0, ob (lnM (eI .i64) w_), ob c0, ob c0, ob c1, ob c2, ob c2, ob c2, ob (zJ h_slices_ContainsFunc_int_int), ob o0, ob c2, ob c3] (by kernel_rfl) (LeV.refl _)
noncomputable def xU : Code := (Try.f50.body).getD .skip
noncomputable def qK : yw := spF (α := List (List Int) × Int) (ρ := Int) 50 (fun x => [F7_ x.1, (eI .i64) x.2]) (fun r => (eI .i64) r) (fun x => qw x.1 x.2) [] (by
 rintro ⟨a0, a1⟩ ⟨b0, b1⟩ h
 have e0 := yO.inj (f := F7_) _ _ (List.cons.inj h).1
 replace h := (List.cons.inj h).2
 have e1 := yO.inj (f := (eI .i64)) _ _ (List.cons.inj h).1
 subst e0 e1
 rfl)
abbrev W9 : List (Nat × T) := []
abbrev W8 (l_ : List (List Int)) (inputs : Int) (x19 : Int) : List (Nat × T) := [(1, .d (I inputs)), (17, .d (eSl 1 false F2_ l_)), (18, .d (I ((l_.length : Nat) : Int))), (19, .d (I x19))]
theorem QP {ctr : Ctr} (hC : y6 Try.prog ctr) (hm : Try.prog.follows .mixedOrders = true) (h_words_Check : ctr.Has kG) : qK.Ok Try.prog := by
 refine y8 ?_
 rintro ⟨l_, inputs⟩ r0 hf0
 try unfold qw at hf0
 refine zx (tt := yE) (keep := true) (rs := [(4, none)]) (n := ⟨30, []⟩) (body := xU) z6 Try.func50 rfl (by kernel_rfl) rfl rfl (by show (2 : Nat) ≤ 30; decide) fun E hE => ?_
 rcases zY hf0 with ⟨c0, hf0⟩ | ⟨c0, hf0⟩
 ·obtain rfl := ze hf0
  exact zh X0 z6 hC hm hE 4000 (hs := (rpN 5 bT [])) (x := (I 3)) (rpN 4 (ob c0) [oT]) (by kernel_rfl) (LeV.refl _)
 ·rcases zY hf0 with ⟨c1, hf0⟩ | ⟨c1, hf0⟩
  ·obtain rfl := ze hf0
   exact zh X0 z6 hC hm hE 4000 (hs := [bF, bF, aLn l_.length, bF, bF, bT]) (x := (I 3)) [ob c0, ob c0, ob (lnM F2_ l_), ob c0, ob c0, ob c1] (by kernel_rfl) (LeV.refl _)
  ·rcases zY hf0 with ⟨c2, hf0⟩ | ⟨c2, hf0⟩
   ·obtain rfl := ze hf0
    exact zh X0 z6 hC hm hE 4000 (hs := [bF, bF, aLn l_.length, bF, bF, bF, bT]) (x := (I 1)) [ob c0, ob c0, ob (lnM F2_ l_), ob c0, ob c0, ob c1, ob c2] (by kernel_rfl) (LeV.refl _)
   ·refine zI X0 z6 hC hm [0,1] 4000 (bF :: bF :: aLn l_.length :: (rpN 4 bF [.cut 0])) (sub [1,1,1] xU) (frs [1,1,1] [] xU []) [(0, .d (eSl 1 false F2_ l_)), (1, .d (I inputs))] [ob c0, ob c0, ob (lnM F2_ l_), ob c0, ob c0, ob c1, ob c2] (by kernel_rfl) fun st0 h0 => ?_
    refine zr (X := Unit) (x := (sub [1,1,1,2] xU)) (y := (sub [1,1,1,1] xU)) (by kernel_rfl) [] [0,1] _ h0 (fun z => kD = some r0) (fun z => W9) ?_ fun J1 hJ1 => ?_
    ·rintro ⟨⟩ hf0
     unfold kD at hf0
     obtain rfl := ze hf0
     exact zh X0 z6 hC hm hE 4000 (hs := []) (x := (I 0)) [] (by kernel_rfl) (LeV.refl _)
    ·obtain ⟨t2, ht2, hf0⟩ := zi hf0
     refine zI X0 z6 hC hm [1,17,18,19] 4000 [aLn l_.length] (sub [1,1,1,2,1,0] xU) (frs [1,1,1,2,1,0] [J1] xU []) [(1, .d (I inputs)), (17, .d (eSl 1 false F2_ l_)), (18, .d (I ((l_.length : Nat) : Int))), (19, .d (I 0))] [ob (lnM F2_ l_)] (by kernel_rfl) fun st0 h0 => ?_
     refine zN (X := Int × Nat) (c' := (sub [1,1,1,2,1,0,0] xU)) (by kernel_rfl) [1,17,18,19] (fun x => yG (fun s => vA l_ inputs s) x.2 x.1 = some t2) (fun x => x.2) (fun x => W8 l_ inputs x.1) (0, wJ) _ h0 inferInstance ht2 ?_
     rintro ⟨x19, n2⟩ hn2 J2 hJ2
     obtain ⟨m2, lr1, rfl, hf1, hl1⟩ := xM hn2
     try unfold vA at hf1
     rcases zY hf1 with ⟨c3, hf1⟩ | ⟨c3, hf1⟩
     ·obtain ⟨l__e, h0, hf1⟩ := zi hf1
      obtain ⟨r_, h1, hf1⟩ := zi hf1
      have o0 := yP h_words_Check (x := (l__e, inputs)) h1 (loC F2_ l__e <| loC (eI .i64) inputs <| loN)
      rcases zY hf1 with ⟨c4, hf1⟩ | ⟨c4, hf1⟩
      ·obtain rfl := ze hf1
       obtain rfl := hl1
       obtain rfl := ze hf0
       exact zh X0 z6 hC hm hE 4000 (hs := [bT, .a (F2_ l__e), .g [], .a ((eI .i64) r_), bT]) (x := (I r_)) [ob c3, ob (i0 h0), ob (iM F2_ h0), ob (zJ h_words_Check), ob o0, ob c4] (by kernel_rfl) (LeV.refl _)
      ·obtain rfl := ze hf1
       exact zk X0 z6 hC hm [1,17,18,19] 4000 [bT, .a (F2_ l__e), .g [], .a ((eI .i64) r_), bF] J2 [(1, .d (I inputs)), (17, .d (eSl 1 false F2_ l_)), (18, .d (I ((l_.length : Nat) : Int))), (19, .d (I (w64 (x19 + 1))))] [ob c3, ob (i0 h0), ob (iM F2_ h0), ob (zJ h_words_Check), ob o0, ob c4] (by kernel_rfl) fun st0 h0 => hJ2 st0 _ (w64 (x19 + 1), m2) hl1 (Nat.lt_succ_self m2) h0 inferInstance
     ·obtain rfl := ze hf1
      obtain rfl := hl1
      exact zk X0 z6 hC hm [] 4000 [bF] J1 [] [ob c3] (by kernel_rfl) fun st0 h0 => hJ1 st0 _ () hf0 h0 inferInstance
noncomputable def WV : Code := (Try.f106.body).getD .skip
noncomputable def jf : yw := spF (α := Int) (ρ := Bool) 106 (fun x => [(eI .i64) x]) (fun r => eB r) (fun x => uY x) [] (by
 rintro a0 b0 h
 have e0 := yO.inj (f := (eI .i64)) _ _ (List.cons.inj h).1
 subst e0
 rfl)
theorem VC {ctr : Ctr} (hC : y6 Try.prog ctr) (hm : Try.prog.follows .mixedOrders = true) : jf.Ok Try.prog := by
 refine y8 ?_
 rintro x_ r0 hf0
 try unfold uY at hf0
 refine zx (tt := yE) (keep := true) (rs := [(2, none)]) (n := ⟨6, []⟩) (body := WV) z6 Try.func106 rfl (by kernel_rfl) rfl rfl (by show (1 : Nat) ≤ 6; decide) fun E hE => ?_
 obtain rfl := ze hf0
 exact zh X0 z6 hC hm hE 4000 (hs := []) (x := (B (x_ != x_))) [] (by kernel_rfl) (LeV.refl _)
noncomputable def Xn : Code := (Try.f92.body).getD .skip
noncomputable def vP : yw := spF (α := Int × Int) (ρ := Int) 92 (fun x => [(eI .i64) x.1, (eI .i64) x.2]) (fun r => (eI .i64) r) (fun x => v7 x.1 x.2) [] (by
 rintro ⟨a0, a1⟩ ⟨b0, b1⟩ h
 have e0 := yO.inj (f := (eI .i64)) _ _ (List.cons.inj h).1
 replace h := (List.cons.inj h).2
 have e1 := yO.inj (f := (eI .i64)) _ _ (List.cons.inj h).1
 subst e0 e1
 rfl)
theorem XN {ctr : Ctr} (hC : y6 Try.prog ctr) (hm : Try.prog.follows .mixedOrders = true) (h_cmp_isNaN_int : ctr.Has jf) : vP.Ok Try.prog := by
 refine y8 ?_
 rintro ⟨x_, y_⟩ r0 hf0
 try unfold v7 at hf0
 refine zx (tt := yE) (keep := true) (rs := [(4, none)]) (n := ⟨20, []⟩) (body := Xn) z6 Try.func92 rfl (by kernel_rfl) rfl rfl (by show (2 : Nat) ≤ 20; decide) fun E hE => ?_
 obtain ⟨r_, h0, hf0⟩ := zi hf0
 have o0 := yP h_cmp_isNaN_int (x := x_) h0 (loC (eI .i64) x_ <| loN)
 obtain ⟨r_1, h1, hf0⟩ := zi hf0
 have o1 := yP h_cmp_isNaN_int (x := y_) h1 (loC (eI .i64) y_ <| loN)
 rcases zY hf0 with ⟨c0, hf0⟩ | ⟨c0, hf0⟩
 ·rcases zY hf0 with ⟨c1, hf0⟩ | ⟨c1, hf0⟩
  ·obtain rfl := ze hf0
   exact zh X0 z6 hC hm hE 4000 (hs := [.g [], .a (eB r_), .g [], .a (eB r_1), bT, bT]) (x := (I 0)) [ob (zJ h_cmp_isNaN_int), ob o0, ob (zJ h_cmp_isNaN_int), ob o1, ob c0, ob c1] (by kernel_rfl) (LeV.refl _)
  ·obtain rfl := ze hf0
   exact zh X0 z6 hC hm hE 4000 (hs := [.g [], .a (eB r_), .g [], .a (eB r_1), bT, bF]) (x := (I (-1))) [ob (zJ h_cmp_isNaN_int), ob o0, ob (zJ h_cmp_isNaN_int), ob o1, ob c0, ob c1] (by kernel_rfl) (LeV.refl _)
 ·rcases zY hf0 with ⟨c2, hf0⟩ | ⟨c2, hf0⟩
  ·obtain rfl := ze hf0
   exact zh X0 z6 hC hm hE 4000 (hs := [.g [], .a (eB r_), .g [], .a (eB r_1), bF, bT]) (x := (I 1)) [ob (zJ h_cmp_isNaN_int), ob o0, ob (zJ h_cmp_isNaN_int), ob o1, ob c0, ob c2] (by kernel_rfl) (LeV.refl _)
  ·rcases zY hf0 with ⟨c3, hf0⟩ | ⟨c3, hf0⟩
   ·obtain rfl := ze hf0
    exact zh X0 z6 hC hm hE 4000 (hs := [.g [], .a (eB r_), .g [], .a (eB r_1), bF, bF, bT]) (x := (I (-1))) [ob (zJ h_cmp_isNaN_int), ob o0, ob (zJ h_cmp_isNaN_int), ob o1, ob c0, ob c2, ob c3] (by kernel_rfl) (LeV.refl _)
   ·rcases zY hf0 with ⟨c4, hf0⟩ | ⟨c4, hf0⟩
    ·obtain rfl := ze hf0
     exact zh X0 z6 hC hm hE 4000 (hs := [.g [], .a (eB r_), .g [], .a (eB r_1), bF, bF, bF, bT]) (x := (I 1)) [ob (zJ h_cmp_isNaN_int), ob o0, ob (zJ h_cmp_isNaN_int), ob o1, ob c0, ob c2, ob c3, ob c4] (by kernel_rfl) (LeV.refl _)
    ·obtain rfl := ze hf0
     exact zh X0 z6 hC hm hE 4000 (hs := (.g [] :: .a (eB r_) :: .g [] :: .a (eB r_1) :: (rpN 4 bF []))) (x := (I 0)) [ob (zJ h_cmp_isNaN_int), ob o0, ob (zJ h_cmp_isNaN_int), ob o1, ob c0, ob c2, ob c3, ob c4] (by kernel_rfl) (LeV.refl _)
noncomputable def y5 : Code := (Try.f93.body).getD .skip
noncomputable def wF : yw := spF (α := List Int × List Int) (ρ := Int) 93 (fun x => [F2_ x.1, F2_ x.2]) (fun r => (eI .i64) r) (fun x => xc x.1 x.2) [] (by
 rintro ⟨a0, a1⟩ ⟨b0, b1⟩ h
 have e0 := yO.inj (f := F2_) _ _ (List.cons.inj h).1
 replace h := (List.cons.inj h).2
 have e1 := yO.inj (f := F2_) _ _ (List.cons.inj h).1
 subst e0 e1
 rfl)
abbrev jx (s1 : List Int) (s2 : List Int) : List (Nat × T) := [(0, .d (eSl 1 false (eI .i64) s1)), (1, .d (eSl 1 false (eI .i64) s2))]
abbrev jw (s1 : List Int) (s2 : List Int) (x11 : Int) : List (Nat × T) := [(0, .d (eSl 1 false (eI .i64) s1)), (1, .d (eSl 1 false (eI .i64) s2)), (9, .d (eSl 1 false (eI .i64) s1)), (10, .d (I ((s1.length : Nat) : Int))), (11, .d (I x11))]
theorem kX {ctr : Ctr} (hC : y6 Try.prog ctr) (hm : Try.prog.follows .mixedOrders = true) (h_cmp_Compare_int : ctr.Has vP) : wF.Ok Try.prog := by
 refine y8 ?_
 rintro ⟨s1, s2⟩ r0 hf0
 try unfold xc at hf0
 refine zx (tt := yE) (keep := true) (rs := [(4, none)]) (n := ⟨36, []⟩) (body := y5) z6 Try.func93 rfl (by kernel_rfl) rfl rfl (by show (2 : Nat) ≤ 36; decide) fun E hE => ?_
 refine zI X0 z6 hC hm [0,1] 4000 [.cut 1] (sub [1] y5) (frs [1] [] y5 []) [(0, .d (eSl 1 false (eI .i64) s1)), (1, .d (eSl 1 false (eI .i64) s2))] [] (by kernel_rfl) fun st0 h0 => ?_
 refine zr (X := Unit) (x := (sub [1,2] y5)) (y := (sub [1,1] y5)) (by kernel_rfl) [0,1] [0,1] _ h0 (fun z => xg s1 s2 = some r0) (fun z => jx s1 s2) ?_ fun J1 hJ1 => ?_
 ·rintro ⟨⟩ hf0
  unfold xg at hf0
  rcases zY hf0 with ⟨c0, hf0⟩ | ⟨c0, hf0⟩
  ·obtain rfl := ze hf0
   exact zh X0 z6 hC hm hE 4000 (hs := [aLn s1.length, aLn s2.length, bT]) (x := (I (-1))) [ob (lnM (eI .i64) s1), ob (lnM (eI .i64) s2), ob c0] (by kernel_rfl) (LeV.refl _)
  ·obtain rfl := ze hf0
   exact zh X0 z6 hC hm hE 4000 (hs := [aLn s1.length, aLn s2.length, bF]) (x := (I 0)) [ob (lnM (eI .i64) s1), ob (lnM (eI .i64) s2), ob c0] (by kernel_rfl) (LeV.refl _)
 ·obtain ⟨t2, ht2, hf0⟩ := zi hf0
  refine zI X0 z6 hC hm [0,1,9,10,11] 4000 [aLn s1.length] (sub [1,2,1,0] y5) (frs [1,2,1,0] [J1] y5 []) [(0, .d (eSl 1 false (eI .i64) s1)), (1, .d (eSl 1 false (eI .i64) s2)), (9, .d (eSl 1 false (eI .i64) s1)), (10, .d (I ((s1.length : Nat) : Int))), (11, .d (I 0))] [ob (lnM (eI .i64) s1)] (by kernel_rfl) fun st0 h0 => ?_
  refine zN (X := Int × Nat) (c' := (sub [1,2,1,0,0] y5)) (by kernel_rfl) [0,1,9,10,11] (fun x => yG (fun s => yq s1 s2 s) x.2 x.1 = some t2) (fun x => x.2) (fun x => jw s1 s2 x.1) (0, wJ) _ h0 inferInstance ht2 ?_
  rintro ⟨x11, n2⟩ hn2 J2 hJ2
  obtain ⟨m2, lr1, rfl, hf1, hl1⟩ := xM hn2
  try unfold yq at hf1
  rcases zY hf1 with ⟨c1, hf1⟩ | ⟨c1, hf1⟩
  ·obtain ⟨s_e, h0, hf1⟩ := zi hf1
   rcases zY hf1 with ⟨c2, hf1⟩ | ⟨c2, hf1⟩
   ·obtain rfl := ze hf1
    obtain rfl := hl1
    obtain rfl := ze hf0
    exact zh X0 z6 hC hm hE 4000 (hs := [bT, .a ((eI .i64) s_e), aLn s2.length, bT]) (x := (I 1)) [ob c1, ob (i0 h0), ob (iM (eI .i64) h0), ob (lnM (eI .i64) s2), ob c2] (by kernel_rfl) (LeV.refl _)
   ·obtain ⟨s_e1, h1, hf1⟩ := zi hf1
    obtain ⟨r_, h2, hf1⟩ := zi hf1
    have o0 := yP h_cmp_Compare_int (x := (s_e, s_e1)) h2 (loC (eI .i64) s_e <| loC (eI .i64) s_e1 <| loN)
    rcases zY hf1 with ⟨c3, hf1⟩ | ⟨c3, hf1⟩
    ·obtain rfl := ze hf1
     obtain rfl := hl1
     obtain rfl := ze hf0
     exact zh X0 z6 hC hm hE 4000 (hs := [bT, .a ((eI .i64) s_e), aLn s2.length, bF, .a ((eI .i64) s_e1), .g [], .a ((eI .i64) r_), bT]) (x := (I r_)) [ob c1, ob (i0 h0), ob (iM (eI .i64) h0), ob (lnM (eI .i64) s2), ob c2, ob (i0 h1), ob (iM (eI .i64) h1), ob (zJ h_cmp_Compare_int), ob o0, ob c3] (by kernel_rfl) (LeV.refl _)
    ·obtain rfl := ze hf1
     exact zk X0 z6 hC hm [0,1,9,10,11] 4000 [bT, .a ((eI .i64) s_e), aLn s2.length, bF, .a ((eI .i64) s_e1), .g [], .a ((eI .i64) r_), bF] J2 [(0, .d (eSl 1 false (eI .i64) s1)), (1, .d (eSl 1 false (eI .i64) s2)), (9, .d (eSl 1 false (eI .i64) s1)), (10, .d (I ((s1.length : Nat) : Int))), (11, .d (I (w64 (x11 + 1))))] [ob c1, ob (i0 h0), ob (iM (eI .i64) h0), ob (lnM (eI .i64) s2), ob c2, ob (i0 h1), ob (iM (eI .i64) h1), ob (zJ h_cmp_Compare_int), ob o0, ob c3] (by kernel_rfl) fun st0 h0 => hJ2 st0 _ (w64 (x11 + 1), m2) hl1 (Nat.lt_succ_self m2) h0 inferInstance
  ·obtain rfl := ze hf1
   obtain rfl := hl1
   exact zk X0 z6 hC hm [0,1] 4000 [bF] J1 [(0, .d (eSl 1 false (eI .i64) s1)), (1, .d (eSl 1 false (eI .i64) s2))] [ob c1] (by kernel_rfl) fun st0 h0 => hJ1 st0 _ () hf0 h0 inferInstance
noncomputable def wx : Code := (Try.f91.body).getD .skip
noncomputable def Zu : yw := spF (α := List Int) (ρ := Int) 91 (fun x => [F2_ x]) (fun r => (eI .i64) r) (fun x => Z9 x) [] (by
 rintro a0 b0 h
 have e0 := yO.inj (f := F2_) _ _ (List.cons.inj h).1
 subst e0
 rfl)
abbrev Vj : List (Nat × T) := [(3, .d (I 0))]
abbrev Vi (vals : List Int) (x8 : Int) : List (Nat × T) := [(3, .d (I 0)), (6, .d (eSl 1 false (eI .i64) vals)), (7, .d (I ((vals.length : Nat) : Int))), (8, .d (I x8))]
theorem K4 {ctr : Ctr} (hC : y6 Try.prog ctr) (hm : Try.prog.follows .mixedOrders = true) : Zu.Ok Try.prog := by
 refine y8 ?_
 rintro vals r0 hf0
 try unfold Z9 at hf0
 refine zx (tt := yE) (keep := true) (rs := [(2, none)]) (n := ⟨18, []⟩) (body := wx) z6 Try.func91 rfl (by kernel_rfl) rfl rfl (by show (1 : Nat) ≤ 18; decide) fun E hE => ?_
 refine zI X0 z6 hC hm [0,3] 4000 [.cut 2] (sub [1,1] wx) (frs [1,1] [] wx []) [(0, .d (eSl 1 false (eI .i64) vals)), (3, .d (I 0))] [] (by kernel_rfl) fun st0 h0 => ?_
 refine zr (X := Unit) (x := (sub [1,1,2] wx)) (y := (sub [1,1,1] wx)) (by kernel_rfl) [3] [0,3] _ h0 (fun z => ju = some r0) (fun z => Vj) ?_ fun J1 hJ1 => ?_
 ·rintro ⟨⟩ hf0
  unfold ju at hf0
  obtain rfl := ze hf0
  exact zh X0 z6 hC hm hE 4000 (hs := []) (x := (I 0)) [] (by kernel_rfl) (LeV.refl _)
 ·obtain ⟨t2, ht2, hf0⟩ := zi hf0
  refine zI X0 z6 hC hm [3,6,7,8] 4000 [aLn vals.length] (sub [1,1,2,1,0] wx) (frs [1,1,2,1,0] [J1] wx []) [(3, .d (I 0)), (6, .d (eSl 1 false (eI .i64) vals)), (7, .d (I ((vals.length : Nat) : Int))), (8, .d (I 0))] [ob (lnM (eI .i64) vals)] (by kernel_rfl) fun st0 h0 => ?_
  refine zN (X := Int × Nat) (c' := (sub [1,1,2,1,0,0] wx)) (by kernel_rfl) [3,6,7,8] (fun x => yG (fun s => uc vals s) x.2 x.1 = some t2) (fun x => x.2) (fun x => Vi vals x.1) (0, wJ) _ h0 inferInstance ht2 ?_
  rintro ⟨x8, n2⟩ hn2 J2 hJ2
  obtain ⟨m2, lr1, rfl, hf1, hl1⟩ := xM hn2
  try unfold uc at hf1
  rcases zY hf1 with ⟨c0, hf1⟩ | ⟨c0, hf1⟩
  ·obtain ⟨val_e, h0, hf1⟩ := zi hf1
   rcases zY hf1 with ⟨c1, hf1⟩ | ⟨c1, hf1⟩
   ·obtain rfl := ze hf1
    obtain rfl := hl1
    obtain rfl := ze hf0
    exact zh X0 z6 hC hm hE 4000 (hs := [bT, .a ((eI .i64) val_e), bT]) (x := (I val_e)) [ob c0, ob (i0 h0), ob (iM (eI .i64) h0), ob c1] (by kernel_rfl) (LeV.refl _)
   ·obtain rfl := ze hf1
    exact zk X0 z6 hC hm [3,6,7,8] 4000 [bT, .a ((eI .i64) val_e), bF] J2 [(3, .d (I 0)), (6, .d (eSl 1 false (eI .i64) vals)), (7, .d (I ((vals.length : Nat) : Int))), (8, .d (I (w64 (x8 + 1))))] [ob c0, ob (i0 h0), ob (iM (eI .i64) h0), ob c1] (by kernel_rfl) fun st0 h0 => hJ2 st0 _ (w64 (x8 + 1), m2) hl1 (Nat.lt_succ_self m2) h0 inferInstance
  ·obtain rfl := ze hf1
   obtain rfl := hl1
   exact zk X0 z6 hC hm [3] 4000 [bF] J1 [(3, .d (I 0))] [ob c0] (by kernel_rfl) fun st0 h0 => hJ1 st0 _ () hf0 h0 inferInstance
noncomputable def WT : Code := (Try.f78.body).getD .skip
noncomputable def vo : yw := spF (α := List Int × List Int) (ρ := Int) 78 (fun x => [F2_ x.1, F2_ x.2]) (fun r => (eI .i64) r) (fun x => vd x.1 x.2) [] (by
 rintro ⟨a0, a1⟩ ⟨b0, b1⟩ h
 have e0 := yO.inj (f := F2_) _ _ (List.cons.inj h).1
 replace h := (List.cons.inj h).2
 have e1 := yO.inj (f := F2_) _ _ (List.cons.inj h).1
 subst e0 e1
 rfl)
theorem Vx {ctr : Ctr} (hC : y6 Try.prog ctr) (hm : Try.prog.follows .mixedOrders = true) (h_cmp_Compare_int : ctr.Has vP) (h_slices_Compare_int_int : ctr.Has wF) (h_cmp_Or_int : ctr.Has Zu) : vo.Ok Try.prog := by
 refine y8 ?_
 rintro ⟨a_, b_⟩ r0 hf0
 try unfold vd at hf0
 refine zx (tt := yE) (keep := true) (rs := [(4, none)]) (n := ⟨15, []⟩) (body := WT) z6 Try.func78 rfl (by kernel_rfl) rfl rfl (by show (2 : Nat) ≤ 15; decide) fun E hE => ?_
 obtain ⟨r_, h0, hf0⟩ := zi hf0
 have o0 := yP h_cmp_Compare_int (x := (((a_.length : Nat) : Int), ((b_.length : Nat) : Int))) h0 (loC (eI .i64) ((a_.length : Nat) : Int) <| loC (eI .i64) ((b_.length : Nat) : Int) <| loN)
 obtain ⟨r_1, h1, hf0⟩ := zi hf0
 have o1 := yP h_slices_Compare_int_int (x := (a_, b_)) h1 (loC F2_ a_ <| loC F2_ b_ <| loN)
 have o2 := shM (eI .i64) (eI .i64) ([r_, r_1])
 obtain ⟨r_2, h2, hf0⟩ := zi hf0
 have o3 := yP h_cmp_Or_int (x := [r_, r_1]) h2 (loC F1_ ([r_, r_1] : List Int) <| loN)
 obtain rfl := ze hf0
 exact zh X0 z6 hC hm hE 4000 (hs := [aLn a_.length, aLn b_.length, .g [], .a ((eI .i64) r_), .g [], .a ((eI .i64) r_1), .g [], .l (([r_, r_1]).map (eI .i64)), .a ((eI .i64) r_2)]) (x := (I r_2)) [ob (lnM (eI .i64) a_), ob (lnM (eI .i64) b_), ob (zJ h_cmp_Compare_int), ob o0, ob (zJ h_slices_Compare_int_int), ob o1, ob (zJ h_cmp_Or_int), ob o2, ob o3] (by kernel_rfl) (LeV.refl _)
noncomputable def xV : Code := (Try.f53.body).getD .skip
noncomputable def kI : yw := spF (α := List (List Int)) (ρ := Bool) 53 (fun x => [F7_ x]) (fun r => eB r) (fun x => jH x) [] (by
 rintro a0 b0 h
 have e0 := yO.inj (f := F7_) _ _ (List.cons.inj h).1
 subst e0
 rfl)
abbrev Wb : List (Nat × T) := []
abbrev Wa (l_ : List (List Int)) (i_ : Int) : List (Nat × T) := [(0, .d (eSl 1 false F2_ l_)), (3, .d (I i_))]
theorem QQ {ctr : Ctr} (hC : y6 Try.prog ctr) (hm : Try.prog.follows .mixedOrders = true) (h_words_Compare : ctr.Has vo) : kI.Ok Try.prog := by
 refine y8 ?_
 rintro l_ r0 hf0
 try unfold jH at hf0
 refine zx (tt := yE) (keep := true) (rs := [(2, none)]) (n := ⟨21, []⟩) (body := xV) z6 Try.func53 rfl (by kernel_rfl) rfl rfl (by show (1 : Nat) ≤ 21; decide) fun E hE => ?_
 refine zI X0 z6 hC hm [0] 4000 [.cut 1] (sub [1] xV) (frs [1] [] xV []) [(0, .d (eSl 1 false F2_ l_))] [] (by kernel_rfl) fun st0 h0 => ?_
 refine zr (X := Unit) (x := (sub [1,2] xV)) (y := (sub [1,1] xV)) (by kernel_rfl) [] [0] _ h0 (fun z => qJ = some r0) (fun z => Wb) ?_ fun J1 hJ1 => ?_
 ·rintro ⟨⟩ hf0
  unfold qJ at hf0
  obtain rfl := ze hf0
  exact zh X0 z6 hC hm hE 4000 (hs := []) (x := (B true)) [] (by kernel_rfl) (LeV.refl _)
 ·obtain ⟨t2, ht2, hf0⟩ := zi hf0
  refine zI X0 z6 hC hm [0,3] 4000 [] (sub [1,2,1,0] xV) (frs [1,2,1,0] [J1] xV []) [(0, .d (eSl 1 false F2_ l_)), (3, .d (I 1))] [] (by kernel_rfl) fun st0 h0 => ?_
  refine zN (X := Int × Nat) (c' := (sub [1,2,1,0,0] xV)) (by kernel_rfl) [0,3] (fun x => yG (fun s => vB l_ s) x.2 x.1 = some t2) (fun x => x.2) (fun x => Wa l_ x.1) (1, wJ) _ h0 inferInstance ht2 ?_
  rintro ⟨i_, n2⟩ hn2 J2 hJ2
  obtain ⟨m2, lr1, rfl, hf1, hl1⟩ := xM hn2
  try unfold vB at hf1
  rcases zY hf1 with ⟨c0, hf1⟩ | ⟨c0, hf1⟩
  ·obtain ⟨l__e, h0, hf1⟩ := zi hf1
   obtain ⟨l__e1, h1, hf1⟩ := zi hf1
   obtain ⟨r_, h2, hf1⟩ := zi hf1
   have o0 := yP h_words_Compare (x := (l__e, l__e1)) h2 (loC F2_ l__e <| loC F2_ l__e1 <| loN)
   rcases zY hf1 with ⟨c1, hf1⟩ | ⟨c1, hf1⟩
   ·obtain rfl := ze hf1
    obtain rfl := hl1
    obtain rfl := ze hf0
    exact zh X0 z6 hC hm hE 4000 (hs := [aLn l_.length, bT, .a (F2_ l__e), .a (F2_ l__e1), .g [], .a ((eI .i64) r_), bT]) (x := (B false)) [ob (lnM F2_ l_), ob c0, ob (i0 h0), ob (iM F2_ h0), ob (i0 h1), ob (iM F2_ h1), ob (zJ h_words_Compare), ob o0, ob c1] (by kernel_rfl) (LeV.refl _)
   ·obtain rfl := ze hf1
    exact zk X0 z6 hC hm [0,3] 4000 [aLn l_.length, bT, .a (F2_ l__e), .a (F2_ l__e1), .g [], .a ((eI .i64) r_), bF] J2 [(0, .d (eSl 1 false F2_ l_)), (3, .d (I (w64 (i_ + 1))))] [ob (lnM F2_ l_), ob c0, ob (i0 h0), ob (iM F2_ h0), ob (i0 h1), ob (iM F2_ h1), ob (zJ h_words_Compare), ob o0, ob c1] (by kernel_rfl) fun st0 h0 => hJ2 st0 _ (w64 (i_ + 1), m2) hl1 (Nat.lt_succ_self m2) h0 inferInstance
  ·obtain rfl := ze hf1
   obtain rfl := hl1
   exact zk X0 z6 hC hm [] 4000 [aLn l_.length, bF] J1 [] [ob (lnM F2_ l_), ob c0] (by kernel_rfl) fun st0 h0 => hJ1 st0 _ () hf0 h0 inferInstance
noncomputable def xT : Code := (Try.f54.body).getD .skip
noncomputable def ui : yw := spF (α := List (List Int)) (ρ := Int) 54 (fun x => [F7_ x]) (fun r => (eI .i64) r) (fun x => uw x) [] (by
 rintro a0 b0 h
 have e0 := yO.inj (f := F7_) _ _ (List.cons.inj h).1
 subst e0
 rfl)
abbrev W7 (n_ : Int) : List (Nat × T) := [(2, .d (I n_))]
abbrev W6 (l_ : List (List Int)) (n_1 : Int) (x7 : Int) : List (Nat × T) := [(2, .d (I n_1)), (5, .d (eSl 1 false F2_ l_)), (6, .d (I ((l_.length : Nat) : Int))), (7, .d (I x7))]
theorem QO {ctr : Ctr} (hC : y6 Try.prog ctr) (hm : Try.prog.follows .mixedOrders = true) : ui.Ok Try.prog := by
 refine y8 ?_
 rintro l_ r0 hf0
 try unfold uw at hf0
 refine zx (tt := yE) (keep := true) (rs := [(2, none)]) (n := ⟨17, []⟩) (body := xT) z6 Try.func54 rfl (by kernel_rfl) rfl rfl (by show (1 : Nat) ≤ 17; decide) fun E hE => ?_
 refine zI X0 z6 hC hm [0,2] 4000 [.cut 1] (sub [1] xT) (frs [1] [] xT []) [(0, .d (eSl 1 false F2_ l_)), (2, .d (I 0))] [] (by kernel_rfl) fun st0 h0 => ?_
 refine zr (X := Int) (x := (sub [1,2] xT)) (y := (sub [1,1] xT)) (by kernel_rfl) [2] [0,2] _ h0 (fun z => kC z = some r0) (fun z => W7 z) ?_ fun J1 hJ1 => ?_
 ·rintro n_ hf0
  unfold kC at hf0
  obtain rfl := ze hf0
  exact zh X0 z6 hC hm hE 4000 (hs := []) (x := (I n_)) [] (by kernel_rfl) (LeV.refl _)
 ·obtain ⟨t2, ht2, hf0⟩ := zi hf0
  refine zI X0 z6 hC hm [2,5,6,7] 4000 [aLn l_.length] (sub [1,2,1,0] xT) (frs [1,2,1,0] [J1] xT []) [(2, .d (I 0)), (5, .d (eSl 1 false F2_ l_)), (6, .d (I ((l_.length : Nat) : Int))), (7, .d (I 0))] [ob (lnM F2_ l_)] (by kernel_rfl) fun st0 h0 => ?_
  refine zN (X := (Int × Int) × Nat) (c' := (sub [1,2,1,0,0] xT)) (by kernel_rfl) [2,5,6,7] (fun x => yG (fun s => vz l_ s.1 s.2) x.2 x.1 = some t2) (fun x => x.2) (fun x => W6 l_ x.1.1 x.1.2) ((0,0), wJ) _ h0 inferInstance ht2 ?_
  rintro ⟨⟨n_1, x7⟩, n2⟩ hn2 J2 hJ2
  obtain ⟨m2, lr1, rfl, hf1, hl1⟩ := xM hn2
  try unfold vz at hf1
  rcases zY hf1 with ⟨c0, hf1⟩ | ⟨c0, hf1⟩
  ·obtain ⟨l__e, h0, hf1⟩ := zi hf1
   obtain rfl := ze hf1
   exact zk X0 z6 hC hm [2,5,6,7] 4000 [bT, .a (F2_ l__e), aLn l__e.length] J2 [(2, .d (I (w64 (n_1 + ((l__e.length : Nat) : Int))))), (5, .d (eSl 1 false F2_ l_)), (6, .d (I ((l_.length : Nat) : Int))), (7, .d (I (w64 (x7 + 1))))] [ob c0, ob (i0 h0), ob (iM F2_ h0), ob (lnM (eI .i64) l__e)] (by kernel_rfl) fun st0 h0 => hJ2 st0 _ ((w64 (n_1 + ((l__e.length : Nat) : Int)), w64 (x7 + 1)), m2) hl1 (Nat.lt_succ_self m2) h0 inferInstance
  ·obtain rfl := ze hf1
   obtain rfl := hl1
   exact zk X0 z6 hC hm [2] 4000 [bF] J1 [(2, .d (I n_1))] [ob c0] (by kernel_rfl) fun st0 h0 => hJ1 st0 _ n_1 hf0 h0 inferInstance
noncomputable def Q8 : Code := (Try.f18.body).getD .skip
noncomputable def xR : yw := spF (α := List (List Int) × Int) (ρ := Int) 18 (fun x => [F7_ x.1, (eI .i64) x.2]) (fun r => (eI .i64) r) (fun x => xe x.1 x.2) [] (by
 rintro ⟨a0, a1⟩ ⟨b0, b1⟩ h
 have e0 := yO.inj (f := F7_) _ _ (List.cons.inj h).1
 replace h := (List.cons.inj h).2
 have e1 := yO.inj (f := (eI .i64)) _ _ (List.cons.inj h).1
 subst e0 e1
 rfl)
theorem QU {ctr : Ctr} (hC : y6 Try.prog ctr) (hm : Try.prog.follows .mixedOrders = true) (h_tries_loose : ctr.Has qK) (h_tries_ahead : ctr.Has kI) (h_tries_steps : ctr.Has ui) : xR.Ok Try.prog := by
 refine y8 ?_
 rintro ⟨l_, inputs⟩ r0 hf0
 try unfold xe at hf0
 refine zx (tt := yE) (keep := true) (rs := [(4, none)]) (n := ⟨18, []⟩) (body := Q8) z6 Try.func18 rfl (by kernel_rfl) rfl rfl (by show (2 : Nat) ≤ 18; decide) fun E hE => ?_
 obtain ⟨r_, h0, hf0⟩ := zi hf0
 have o0 := yP h_tries_loose (x := (l_, inputs)) h0 (loC F7_ l_ <| loC (eI .i64) inputs <| loN)
 rcases zY hf0 with ⟨c0, hf0⟩ | ⟨c0, hf0⟩
 ·obtain rfl := ze hf0
  exact zh X0 z6 hC hm hE 4000 (hs := [.g [], .a ((eI .i64) r_), bT]) (x := (I r_)) [ob (zJ h_tries_loose), ob o0, ob c0] (by kernel_rfl) (LeV.refl _)
 ·obtain ⟨r_1, h1, hf0⟩ := zi hf0
  have o1 := yP h_tries_ahead (x := l_) h1 (loC F7_ l_ <| loN)
  rcases zY hf0 with ⟨c1, hf0⟩ | ⟨c1, hf0⟩
  ·obtain rfl := ze hf0
   exact zh X0 z6 hC hm hE 4000 (hs := [.g [], .a ((eI .i64) r_), bF, .g [], .a (eB r_1), bT]) (x := (I 1)) [ob (zJ h_tries_loose), ob o0, ob c0, ob (zJ h_tries_ahead), ob o1, ob c1] (by kernel_rfl) (LeV.refl _)
  ·obtain ⟨r_2, h2, hf0⟩ := zi hf0
   have o2 := yP h_tries_steps (x := l_) h2 (loC F7_ l_ <| loN)
   rcases zY hf0 with ⟨c2, hf0⟩ | ⟨c2, hf0⟩
   ·obtain rfl := ze hf0
    exact zh X0 z6 hC hm hE 4000 (hs := [.g [], .a ((eI .i64) r_), bF, .g [], .a (eB r_1), bF, .g [], .a ((eI .i64) r_2), bT]) (x := (I 3)) [ob (zJ h_tries_loose), ob o0, ob c0, ob (zJ h_tries_ahead), ob o1, ob c1, ob (zJ h_tries_steps), ob o2, ob c2] (by kernel_rfl) (LeV.refl _)
   ·obtain rfl := ze hf0
    exact zh X0 z6 hC hm hE 4000 (hs := [.g [], .a ((eI .i64) r_), bF, .g [], .a (eB r_1), bF, .g [], .a ((eI .i64) r_2), bF]) (x := (I 0)) [ob (zJ h_tries_loose), ob o0, ob c0, ob (zJ h_tries_ahead), ob o1, ob c1, ob (zJ h_tries_steps), ob o2, ob c2] (by kernel_rfl) (LeV.refl _)
noncomputable def kn : Code := (Try.f69.body).getD .skip
noncomputable def yz : yw := spR (α := List (List Int)) (ρ := List (List Int)) 69 (fun x => [F5_ x]) (fun r => F4_ r) (fun x => ye x) [] (by
 rintro a0 b0 h
 have e0 := yO.inj (f := F5_) _ _ (List.cons.inj h).1
 subst e0
 rfl)
theorem wc : ∀ x r, (fun x => ye x) x = some r → (Xk.add yz).run 69 ((Xk.add yz).norm 69 ((fun x => [F5_ x]) x)) = some ((fun r => F4_ r) r) := fun x r h => zaE h rfl
theorem we : (Xk.add yz).lend 69 = none ∧ (Xk.add yz).gives 69 = [] := z7J
theorem wB {ctr : Ctr} (hC : y6 Try.prog ctr) (hm : Try.prog.follows .mixedOrders = true) : yz.Ok Try.prog := by
 refine z4V ?_
 rintro s_ r0 hf0
 try unfold ye at hf0
 refine zx (tt := yE) (keep := true) (rs := [(2, none)]) (n := ⟨9, []⟩) (body := kn) z6 Try.func69 rfl (by kernel_rfl) rfl rfl (by show (1 : Nat) ≤ 9; decide) fun E hE => ?_
 obtain ⟨g0, hf0⟩ := gdE hf0
 have o0 := z9f 1 F1_ s_ 0 ((s_.length : Nat) : Int).toNat
 obtain rfl := ze hf0
 exact zh X0 z6 hC hm hE 4000 (hs := [aLn s_.length, aLn s_.length, .a (eSl 1 true F1_ ((s_.drop 0).take (((s_.length : Nat) : Int).toNat - 0)))]) (x := (eSl 1 true F1_ ((s_.drop 0).take (((s_.length : Nat) : Int).toNat - 0)))) [ob (lnM F1_ s_), ob (lnM F1_ s_), ob (slB g0), ob (slC g0), ob (z5U F1_ g0), ob o0] (by kernel_rfl) (LeV.refl _)
noncomputable def y4 : Code := (Try.f32.body).getD .skip
noncomputable def qL : yw := spF (α := zb) (ρ := List (List Int) × Int) 32 (fun x => [xH x]) (fun r => .tup [F4_ r.1, (eI .i64) r.2]) (fun x => xF x) [] (by
 rintro a0 b0 h
 have e0 := yO.inj (f := xH) _ _ (List.cons.inj h).1
 subst e0
 rfl)
abbrev Wf (t_ : zb) (x3 : Int) (l_ : List (List Int)) : List (Nat × T) := [(1, .own (.box (xH t_))), (2, .own (.box (eOs 1 true F2_ []))), (3, .own (.box (I x3))), (4, .own (.box (eOs 1 false F1_ l_)))]
abbrev w5 (t_ : zb) (r_3 : List z7) (x31 : Int) (l_1 : List (List Int)) (at_ : Int) : List (Nat × T) := [(1, .own (.box (xH t_))), (2, .own (.box (eOs 1 true F2_ []))), (3, .own (.box (I x31))), (4, .own (.box (eOs 1 false F1_ l_1))), (5, .own (.box (I at_))), (29, .d (.fn 85 [.sptr (eSl 2 false zH r_3)]))]
abbrev Wc (t_ : zb) (r_3 : List z7) (x31 : Int) (at_ : Int) (x30 : za) (Node_e : z7) (x49 : Bool) (x50 : Bool) (x54 : Bool) (l_2 : List (List Int)) : List (Nat × T) := [(1, .own (.box (xH t_))), (2, .own (.box (eOs 1 true F2_ []))), (3, .own (.box (I x31))), (4, .own (.box (eOs 1 false F1_ l_2))), (5, .own (.box (I at_))), (29, .d (.fn 85 [.sptr (eSl 2 false zH r_3)])), (43, .d (eSl 1 false (eI .i64) x30.w_)), (44, .d (I ((x30.w_.length : Nat) : Int))), (45, .d (B (decide (((x30.w_.length : Nat) : Int) > 256)))), (48, .d (zH Node_e)), (49, .d (B x49)), (50, .d (B x50)), (54, .d (B x54))]
abbrev We (t_ : zb) (r_3 : List z7) (x31 : Int) (l_1 : List (List Int)) (at_ : Int) (x30 : za) (Node_e : z7) (x49 : Bool) (x50 : Bool) (x54 : Bool) : List (Nat × T) := [(1, .own (.box (xH t_))), (2, .own (.box (eOs 1 true F2_ []))), (3, .own (.box (I x31))), (4, .own (.box (eOs 1 false F1_ l_1))), (5, .own (.box (I at_))), (6, .own (.box (u4 x30))), (7, .own (.box (zH Node_e))), (29, .d (.fn 85 [.sptr (eSl 2 false zH r_3)])), (43, .d (eSl 1 false (eI .i64) x30.w_)), (44, .d (I ((x30.w_.length : Nat) : Int))), (45, .d (B (decide (((x30.w_.length : Nat) : Int) > 256)))), (48, .d (zH Node_e)), (49, .d (B x49)), (50, .d (B x50)), (54, .d (B x54))]
theorem QR {ctr : Ctr} (hC : y6 Try.prog ctr) (hm : Try.prog.follows .mixedOrders = true) (h_tries_tree : ctr.Has Zm) (h_tries_walk : ctr.Has vg) (h_slices_Clip_int_int : ctr.Has zV) (h_tries_leaf : ctr.Has uQ) (h_slices_Clone_int_int : ctr.Has yl) (h_tries_Check : ctr.Has xR) : qL.Ok Try.prog := by
 refine y8 ?_
 rintro t_ r0 hf0
 try unfold xF at hf0
 refine zx (tt := yE) (keep := false) (rs := [(2, some 22), (3, some 25)]) (n := ⟨74, []⟩) (body := y4) z6 Try.func32 rfl (by kernel_rfl) rfl rfl (by show (1 : Nat) ≤ 74; decide) fun E hE => ?_
 rcases zY hf0 with ⟨c0, hf0⟩ | ⟨c0, hf0⟩
 ·have o0 := shM F2_ F2_ []
  obtain rfl := ze hf0
  exact zh X0 z6 hC hm hE 4000 (hs := (rpN 14 bT [.l ([].map F2_)])) (x := (.tup [eSl 1 true F1_ [], I 4])) (rpN 4 (ob c0) (rpN 10 oT [ob o0])) (by kernel_rfl) (show LeV (.tup [eSl 1 true F1_ [], I 4]) (.tup [eSl 1 true F1_ ([] : List (List Int)), I 4]) from inferInstance)
 ·rcases zY hf0 with ⟨c1, hf0⟩ | ⟨c1, hf0⟩
  ·have o1 := shM F2_ F2_ []
   obtain rfl := ze hf0
   exact zh X0 z6 hC hm hE 4000 (hs := (rpN 4 bF (rpN 10 bT [.l ([].map F2_)]))) (x := (.tup [eSl 1 true F1_ [], I 4])) (rpN 4 (ob c0) (rpN 5 (ob c1) (rpN 5 oT [ob o1]))) (by kernel_rfl) (show LeV (.tup [eSl 1 true F1_ [], I 4]) (.tup [eSl 1 true F1_ ([] : List (List Int)), I 4]) from inferInstance)
  ·have o2 := lnM zH t_.Nodes
   rcases zY hf0 with ⟨c2, hf0⟩ | ⟨c2, hf0⟩
   ·have o3 := shM F2_ F2_ []
    obtain rfl := ze hf0
    exact zh X0 z6 hC hm hE 4000 (hs := (rpN 7 bF (aLn t_.Nodes.length :: bF :: bF :: (rpN 5 bT [.l ([].map F2_)])))) (x := (.tup [eSl 1 true F1_ [], I 4])) (rpN 4 (ob c0) (ob c1 :: ob c1 :: ob c1 :: ob o2 :: ob c1 :: ob c1 :: (rpN 4 (ob c2) [oT, ob o3]))) (by kernel_rfl) (show LeV (.tup [eSl 1 true F1_ [], I 4]) (.tup [eSl 1 true F1_ ([] : List (List Int)), I 4]) from inferInstance)
   ·obtain ⟨r_, h0, hf0⟩ := zi hf0
    have o4 := yP h_tries_tree (x := t_) h0 (loC xH t_ <| loN)
    rcases zY hf0 with ⟨c3, hf0⟩ | ⟨c3, hf0⟩
    ·have o5 := shM F2_ F2_ []
     obtain rfl := ze hf0
     exact zh X0 z6 hC hm hE 4000 (hs := (rpN 7 bF (aLn t_.Nodes.length :: (rpN 4 bF [.g [], .a (eB r_), bF, bF, bT, .l ([].map F2_)])))) (x := (.tup [eSl 1 true F1_ [], I 4])) (rpN 4 (ob c0) [ob c1, ob c1, ob c1, ob o2, ob c1, ob c1, ob c2, ob c2, ob (zJ h_tries_tree), ob o4, ob c2, ob c2, ob c3, ob o5]) (by kernel_rfl) (show LeV (.tup [eSl 1 true F1_ [], I 4]) (.tup [eSl 1 true F1_ ([] : List (List Int)), I 4]) from inferInstance)
    ·refine zI X0 z6 hC hm [1,2,3,4,5] 4000 (rpN 7 bF (aLn t_.Nodes.length :: (rpN 4 bF [.g [], .a (eB r_), bF, bF, bF, .cut 2]))) (sub [1,1,1,1] y4) (frs [1,1,1,1] [] y4 []) [(1, .own (.box (xH t_))), (2, .own (.box (eOs 1 true F2_ []))), (3, .own (.box (I 0))), (4, .own (.box (eOs 1 true F2_ []))), (5, .own (.box (I 0)))] (rpN 4 (ob c0) [ob c1, ob c1, ob c1, ob o2, ob c1, ob c1, ob c2, ob c2, ob (zJ h_tries_tree), ob o4, ob c2, ob c2, ob c3]) (by kernel_rfl) fun st0 h0 => ?_
     refine zr (X := Int × List (List Int)) (x := (sub [1,1,1,1,2] y4)) (y := (sub [1,1,1,1,1] y4)) (by kernel_rfl) [1,2,3,4] [1,2,3,4,5] _ h0 (fun z => wD t_ z.1 z.2 = some r0) (fun z => Wf t_ z.1 z.2) ?_ fun J1 hJ1 => ?_
     ·rintro ⟨x3, l_⟩ hf0
      unfold wD at hf0
      have o6 := shM F1_ F1_ l_
      obtain ⟨r_1, h1, hf0⟩ := zi hf0
      have o7 := yP h_tries_Check (x := (l_, t_.Inputs)) h1 (loC F5_ l_ <| loC (eI .i64) t_.Inputs <| loN)
      rcases zY hf0 with ⟨c4, hf0⟩ | ⟨c4, hf0⟩
      ·have o8 := shM F2_ F2_ []
       obtain rfl := ze hf0
       exact zh X0 z6 hC hm hE 4000 (hs := [.g [], .l (l_.map F1_), .a ((eI .i64) r_1), bT, .l ([].map F2_)]) (x := (.tup [eSl 1 true F1_ [], I 4])) [ob (zJ h_tries_Check), ob o6, ob o7, ob c4, ob o8] (by kernel_rfl) (show LeV (.tup [eSl 1 true F1_ [], I 4]) (.tup [eSl 1 true F1_ ([] : List (List Int)), I 4]) from inferInstance)
      ·have o9 := shM F1_ F1_ l_
       have o10 := shM F1_ F1_ l_
       obtain ⟨r_2, h2, hf0⟩ := zi hf0
       have o11 := shM F1_ F1_ l_
       obtain rfl := ze hf0
       exact zh ((QK z6 (wB hC hm) 73).or X0) z6 hC hm hE 4000 (hs := [.g [], .l (l_.map F1_), .a ((eI .i64) r_1), bF, .g [], .l (l_.map F1_), .a (F4_ r_2), .l (l_.map F1_)]) (x := (.tup [eSl 1 true F1_ r_2, I 0])) [ob (zJ h_tries_Check), ob o6, ob o7, ob c4, ob we, ob o10, ob (wc l_ _ h2), ob o11] (by kernel_rfl) (LeV.refl _)
     ·obtain ⟨r_3, h3, hf0⟩ := zi hf0
      have o12 := yP h_tries_walk (x := t_.Nodes) h3 (loC z03 t_.Nodes <| loN)
      obtain ⟨t2, ht2, hf0⟩ := zi hf0
      refine zI X0 z6 hC hm [1,2,3,4,5,29] 4000 [.g [], .a ((z02 85 z8T) r_3)] (sub [1,1,1,1,2,1,0] y4) (frs [1,1,1,1,2,1,0] [J1] y4 []) [(1, .own (.box (xH t_))), (2, .own (.box (eOs 1 true F2_ []))), (3, .own (.box (I 0))), (4, .own (.box (eOs 1 true F1_ []))), (5, .own (.box (I 0))), (29, .d (.fn 85 [.sptr (eSl 2 false zH r_3)]))] [ob (zJ h_tries_walk), ob o12] (by kernel_rfl) fun st0 h0 => ?_
      refine JJ (g := .tmp 29) (ps := [30]) (assign := (sub [1,1,1,1,2,1,0,0] y4)) (body := (sub [1,1,1,1,2,1,0,1] y4)) (K := 85) (caps := [.sptr (eSl 2 false zH r_3)]) (by kernel_rfl) [1,2,3,4,5,29] (fun s => w5 t_ r_3 s.1 s.2.1 s.2.2) (fun s => w5 t_ r_3 s.1 s.2.1 s.2.2) (fun s => Code.ret) ((fun (x : za) (_ : Bool) (_ : Value) => [u4 x])) (F := @x4 r_3) (fun s x => yc t_ s.1 s.2.1 s.2.2 x) (0, ([] : List (List Int)), 0) t2 _ h0 inferInstance (by kernel_rfl) (by decide) (fun _ => rfl) (fun _ => rfl) (by kernel_rfl) (fun _ _ _ => rfl) (qH hC hm h_slices_Clip_int_int r_3) ht2 ?_ ?_
      ·rintro tv2 ⟨x31, l_1, at_⟩ x30 vr lr1 hf1
       replace hf1 : yc t_ x31 l_1 at_ x30 = some lr1 := hf1
       unfold yc at hf1
       refine qa X0 z6 hC hm [1,2,3,4,5,6,29] 4000 [] .normal [(1, .own (.box (xH t_))), (2, .own (.box (eOs 1 true F2_ []))), (3, .own (.box (I x31))), (4, .own (.box (eOs 1 false F1_ l_1))), (5, .own (.box (I at_))), (6, .own (.box (u4 x30))), (29, .d (.fn 85 [.sptr (eSl 2 false zH r_3)]))] [] (by kernel_rfl) fun st0 h0 => ⟨rfl, WW h0 ?_⟩
       obtain ⟨Node_e, h4, hf1⟩ := zi hf1
       have o13 := iM zH h4
       refine zI X0 z6 hC hm [1,2,3,4,5,6,7,29] 4000 [.a (zH Node_e), .cut 0] (sub [1,1,1,1,2,1,0,1,0,1] y4) (frs [1,1,1,1,2,1,0,1,0,1] [J1] y4 []) [(1, .own (.box (xH t_))), (2, .own (.box (eOs 1 true F2_ []))), (3, .own (.box (I x31))), (4, .own (.box (eOs 1 false F1_ l_1))), (5, .own (.box (I at_))), (6, .own (.box (u4 x30))), (7, .own (.box (zH Node_e))), (29, .d (.fn 85 [.sptr (eSl 2 false zH r_3)]))] [ob (i0 h4), ob o13] (by kernel_rfl) fun st0 h0 => ?_
       refine zr (X := Bool × Bool × Bool) (x := (sub [1,1,1,1,2,1,0,1,0,1,2] y4)) (y := (sub [1,1,1,1,2,1,0,1,0,1,1] y4)) (by kernel_rfl) [1,2,3,4,5,6,7,29,43,44,45,48,49,50,54] [1,2,3,4,5,6,7,29] _ h0 (fun z => xP x31 l_1 at_ x30 Node_e z.1 z.2.1 z.2.2 = some lr1) (fun z => We t_ r_3 x31 l_1 at_ x30 Node_e z.1 z.2.1 z.2.2) ?_ fun J3 hJ3 => ?_
       ·rintro ⟨x49, x50, x54⟩ hf1
        unfold xP at hf1
        refine zI X0 z6 hC hm [1,2,3,4,5,6,7,29,43,44,45,48,49,50,54] 4000 [.cut 0] (sub [1,1,1,1,2,1,0,1,0,1,1] y4) (frs [1,1,1,1,2,1,0,1,0,1,1] [J1] y4 []) [(1, .own (.box (xH t_))), (2, .own (.box (eOs 1 true F2_ []))), (3, .own (.box (I x31))), (4, .own (.box (eOs 1 false F1_ l_1))), (5, .own (.box (I at_))), (6, .own (.box (u4 x30))), (7, .own (.box (zH Node_e))), (29, .d (.fn 85 [.sptr (eSl 2 false zH r_3)])), (43, .d (eSl 1 false (eI .i64) x30.w_)), (44, .d (I ((x30.w_.length : Nat) : Int))), (45, .d (B (decide (((x30.w_.length : Nat) : Int) > 256)))), (48, .d (zH Node_e)), (49, .d (B x49)), (50, .d (B x50)), (54, .d (B x54))] [] (by kernel_rfl) fun st0 h0 => ?_
        refine zr (X := List (List Int)) (x := (sub [1,1,1,1,2,1,0,1,0,1,1,2] y4)) (y := (sub [1,1,1,1,2,1,0,1,0,1,1,1] y4)) (by kernel_rfl) [1,2,3,4,5,29,43,44,45,48,49,50,54] [1,2,3,4,5,6,7,29,43,44,45,48,49,50,54] _ h0 (fun z => vC x31 at_ z = some lr1) (fun z => Wc t_ r_3 x31 at_ x30 Node_e x49 x50 x54 z) ?_ fun J4 hJ4 => ?_
        ·rintro l_2 hf1
         unfold vC at hf1
         obtain rfl := ze hf1
         exact qa X0 z6 hC hm [1,2,3,4,5,29] 4000 [] .normal [(1, .own (.box (xH t_))), (2, .own (.box (eOs 1 true F2_ []))), (3, .own (.box (I x31))), (4, .own (.box (eOs 1 false F1_ l_2))), (5, .own (.box (I (w64 (at_ + 1))))), (29, .d (.fn 85 [.sptr (eSl 2 false zH r_3)]))] [] (by kernel_rfl) fun st0 h0 => ⟨rfl, _, h0, (inferInstance : LeL [(1, .own (.box (xH t_))), (2, .own (.box (eOs 1 true F2_ []))), (3, .own (.box (I x31))), (4, .own (.box (eOs 1 false F1_ l_2))), (5, .own (.box (I (w64 (at_ + 1))))), (29, .d (.fn 85 [.sptr (eSl 2 false zH r_3)]))] (w5 t_ r_3 x31 l_2 (w64 (at_ + 1))))⟩
        ·rcases zY hf1 with ⟨c5, hf1⟩ | ⟨c5, hf1⟩
         ·obtain ⟨r_4, h5, hf1⟩ := zi hf1
          have o14 := yP h_slices_Clone_int_int (x := x30.w_) h5 (loC F2_ x30.w_ <| loN)
          obtain ⟨r_5, h6, hf1⟩ := zi hf1
          have o15 := yP h_slices_Clip_int_int (x := r_4) h6 (loC F2_ r_4 <| loN)
          have o16 := dM F1_ ([r_5] : List (List Int))
          have o17 := dM F1_ ([r_5] : List (List Int))
          obtain ⟨g0, hf1⟩ := gdE hf1
          have o18 := aL F1_ F1_ g0
          have o19 := aM F1_ l_1 ([r_5] : List (List Int))
          exact zk X0 z6 hC hm [1,2,3,4,5,29,43,44,45,48,49,50,54] 4000 [bT, .g [], .a (F3_ r_4), .g [], .l (r_4.map (eI .i64)), .a (F1_ r_5), .l (r_4.map (eI .i64)), bT, .l ((l_1 ++ ([r_5] : List (List Int))).map F1_)] J4 [(1, .own (.box (xH t_))), (2, .own (.box (eOs 1 true F2_ []))), (3, .own (.box (I x31))), (4, .own (.box (eOs 1 false F1_ (l_1 ++ ([r_5] : List (List Int)))))), (5, .own (.box (I at_))), (29, .d (.fn 85 [.sptr (eSl 2 false zH r_3)])), (43, .d (eSl 1 false (eI .i64) x30.w_)), (44, .d (I ((x30.w_.length : Nat) : Int))), (45, .d (B (decide (((x30.w_.length : Nat) : Int) > 256)))), (48, .d (zH Node_e)), (49, .d (B x49)), (50, .d (B x50)), (54, .d (B x54))] [ob c5, ob (zJ h_slices_Clone_int_int), ob o14, ob (zJ h_slices_Clip_int_int), ob (shM (eI .i64) (eI .i64) r_4), ob o15, ob (shM (eI .i64) (eI .i64) r_4), ob o16, ob o17, ob o18, ob o19] (by kernel_rfl) fun st0 h0 => hJ4 st0 _ (l_1 ++ ([r_5] : List (List Int))) hf1 h0 inferInstance
         ·exact zk X0 z6 hC hm [1,2,3,4,5,29,43,44,45,48,49,50,54] 4000 [bF] J4 [(1, .own (.box (xH t_))), (2, .own (.box (eOs 1 true F2_ []))), (3, .own (.box (I x31))), (4, .own (.box (eOs 1 false F1_ l_1))), (5, .own (.box (I at_))), (29, .d (.fn 85 [.sptr (eSl 2 false zH r_3)])), (43, .d (eSl 1 false (eI .i64) x30.w_)), (44, .d (I ((x30.w_.length : Nat) : Int))), (45, .d (B (decide (((x30.w_.length : Nat) : Int) > 256)))), (48, .d (zH Node_e)), (49, .d (B x49)), (50, .d (B x50)), (54, .d (B x54))] [ob c5] (by kernel_rfl) fun st0 h0 => hJ4 st0 _ l_1 hf1 h0 inferInstance
       ·rcases zY hf1 with ⟨c6, hf1⟩ | ⟨c6, hf1⟩
        ·obtain rfl := ze hf1
         exact qa X0 z6 hC hm [1,2,3,4,5,29] 4000 (rpN 11 bT []) .ret [(1, .own (.box (xH t_))), (2, .own (.box (eOs 1 true F2_ []))), (3, .own (.box (I 4))), (4, .own (.box (eOs 1 false F1_ l_1))), (5, .own (.box (I at_))), (29, .d (.fn 85 [.sptr (eSl 2 false zH r_3)]))] (rpN 5 (ob c6) (rpN 6 oT [])) (by kernel_rfl) fun st0 h0 => ⟨rfl, _, h0, (inferInstance : LeL [(1, .own (.box (xH t_))), (2, .own (.box (eOs 1 true F2_ []))), (3, .own (.box (I 4))), (4, .own (.box (eOs 1 false F1_ l_1))), (5, .own (.box (I at_))), (29, .d (.fn 85 [.sptr (eSl 2 false zH r_3)]))] (w5 t_ r_3 4 l_1 at_))⟩
        ·rcases zY hf1 with ⟨c7, hf1⟩ | ⟨c7, hf1⟩
         ·obtain rfl := ze hf1
          exact qa X0 z6 hC hm [1,2,3,4,5,29] 4000 (bF :: bF :: bF :: aLn x30.w_.length :: bF :: bF :: (rpN 6 bT [])) .ret [(1, .own (.box (xH t_))), (2, .own (.box (eOs 1 true F2_ []))), (3, .own (.box (I 4))), (4, .own (.box (eOs 1 false F1_ l_1))), (5, .own (.box (I at_))), (29, .d (.fn 85 [.sptr (eSl 2 false zH r_3)]))] (ob c6 :: ob c6 :: ob c6 :: ob (lnM (eI .i64) x30.w_) :: ob c6 :: ob c6 :: (rpN 5 (ob c7) [oT])) (by kernel_rfl) fun st0 h0 => ⟨rfl, _, h0, (inferInstance : LeL [(1, .own (.box (xH t_))), (2, .own (.box (eOs 1 true F2_ []))), (3, .own (.box (I 4))), (4, .own (.box (eOs 1 false F1_ l_1))), (5, .own (.box (I at_))), (29, .d (.fn 85 [.sptr (eSl 2 false zH r_3)]))] (w5 t_ r_3 4 l_1 at_))⟩
         ·obtain ⟨r_6, h7, hf1⟩ := zi hf1
          have o20 := yP h_tries_leaf (x := Node_e) h7 (loC zH Node_e <| loN)
          rcases zY hf1 with ⟨c8, hf1⟩ | ⟨c8, hf1⟩
          ·rcases zY hf1 with ⟨c9, hf1⟩ | ⟨c9, hf1⟩
           ·obtain rfl := ze hf1
            exact qa X0 z6 hC hm [1,2,3,4,5,29] 4000 (bF :: bF :: bF :: aLn x30.w_.length :: (rpN 4 bF [.g [], .a (eB r_6), bF, bT, bT, bT, bF, bT, bF, bT])) .ret [(1, .own (.box (xH t_))), (2, .own (.box (eOs 1 true F2_ []))), (3, .own (.box (I 4))), (4, .own (.box (eOs 1 false F1_ l_1))), (5, .own (.box (I at_))), (29, .d (.fn 85 [.sptr (eSl 2 false zH r_3)]))] [ob c6, ob c6, ob c6, ob (lnM (eI .i64) x30.w_), ob c6, ob c6, ob c7, ob c7, ob (zJ h_tries_leaf), ob o20, ob c7, ob c8, ob c8, ob c8, ob c7, ob c8, ob c7, ob c9] (by kernel_rfl) fun st0 h0 => ⟨rfl, _, h0, (inferInstance : LeL [(1, .own (.box (xH t_))), (2, .own (.box (eOs 1 true F2_ []))), (3, .own (.box (I 4))), (4, .own (.box (eOs 1 false F1_ l_1))), (5, .own (.box (I at_))), (29, .d (.fn 85 [.sptr (eSl 2 false zH r_3)]))] (w5 t_ r_3 4 l_1 at_))⟩
           ·exact zk X0 z6 hC hm [1,2,3,4,5,6,7,29,43,44,45,48,49,50,54] 4000 (bF :: bF :: bF :: aLn x30.w_.length :: (rpN 4 bF [.g [], .a (eB r_6), bF, bT, bT, bT, bF, bT, bF, bF])) J3 [(1, .own (.box (xH t_))), (2, .own (.box (eOs 1 true F2_ []))), (3, .own (.box (I x31))), (4, .own (.box (eOs 1 false F1_ l_1))), (5, .own (.box (I at_))), (6, .own (.box (u4 x30))), (7, .own (.box (zH Node_e))), (29, .d (.fn 85 [.sptr (eSl 2 false zH r_3)])), (43, .d (eSl 1 false (eI .i64) x30.w_)), (44, .d (I ((x30.w_.length : Nat) : Int))), (45, .d (B (decide (((x30.w_.length : Nat) : Int) > 256)))), (48, .d (zH Node_e)), (49, .d (B r_6)), (50, .d (B r_6)), (54, .d (B (!Node_e.End)))] [ob c6, ob c6, ob c6, ob (lnM (eI .i64) x30.w_), ob c6, ob c6, ob c7, ob c7, ob (zJ h_tries_leaf), ob o20, ob c7, ob c8, ob c8, ob c8, ob c7, ob c8, ob c7, ob c9] (by kernel_rfl) fun st0 h0 => hJ3 st0 _ (r_6, r_6, !Node_e.End) hf1 h0 inferInstance
          ·exact zk X0 z6 hC hm [1,2,3,4,5,6,7,29,43,44,45,48,49,50,54] 4000 (bF :: bF :: bF :: aLn x30.w_.length :: (rpN 4 bF (.g [] :: .a (eB r_6) :: (rpN 8 bF [])))) J3 [(1, .own (.box (xH t_))), (2, .own (.box (eOs 1 true F2_ []))), (3, .own (.box (I x31))), (4, .own (.box (eOs 1 false F1_ l_1))), (5, .own (.box (I at_))), (6, .own (.box (u4 x30))), (7, .own (.box (zH Node_e))), (29, .d (.fn 85 [.sptr (eSl 2 false zH r_3)])), (43, .d (eSl 1 false (eI .i64) x30.w_)), (44, .d (I ((x30.w_.length : Nat) : Int))), (45, .d (B (decide (((x30.w_.length : Nat) : Int) > 256)))), (48, .d (zH Node_e)), (49, .d (B r_6)), (50, .d (B r_6)), (54, .d (B false))] [ob c6, ob c6, ob c6, ob (lnM (eI .i64) x30.w_), ob c6, ob c6, ob c7, ob c7, ob (zJ h_tries_leaf), ob o20, ob c7, ob c8, ob c8, ob c8, ob c7, ob c8, ob c7, oF] (by kernel_rfl) fun st0 h0 => hJ3 st0 _ (r_6, r_6, false) hf1 h0 inferInstance
      ·rcases t2 with ⟨x31, l_1, at_⟩ | z
       ·dsimp only at hf0
        exact Xo (by kernel_rfl) (hJ1 _ [(1, .own (.box (xH t_))), (2, .own (.box (eOs 1 true F2_ []))), (3, .own (.box (I x31))), (4, .own (.box (eOs 1 false F1_ l_1)))] (x31, l_1) hf0 (show Own.canon [1,2,3,4] _ = ofL _ by kernel_rfl) inferInstance)
       ·obtain ⟨x31, l_1, at_⟩ := z
        dsimp only at hf0
        show AWP _ _ (Code.ret) _ _
        obtain rfl := ze hf0
        exact zh X0 z6 hC hm hE 4000 (hs := [.l ([].map F2_)]) (x := (.tup [eSl 1 true F1_ [], I x31])) [ob (shM F2_ F2_ [])] (by kernel_rfl) (show LeV (.tup [eSl 1 true F1_ [], I x31]) (.tup [eSl 1 true F1_ ([] : List (List Int)), I x31]) from inferInstance)
noncomputable def yx : Code := (Try.f33.body).getD .skip
noncomputable def qM : yw := spF (α := zb) (ρ := Int × Int) 33 (fun x => [xH x]) (fun r => .tup [(eI .i64) r.1, (eI .i64) r.2]) (fun x => vT x) [] (by
 rintro a0 b0 h
 have e0 := yO.inj (f := xH) _ _ (List.cons.inj h).1
 subst e0
 rfl)
abbrev Wi (n_ : Int) : List (Nat × T) := [(6, .d (I n_))]
abbrev Wh (t_ : zb) (x20 : Int) (n_2 : Int) : List (Nat × T) := [(6, .d (I n_2)), (18, .d (eSl 2 false zH t_.Nodes)), (19, .d (I ((t_.Nodes.length : Nat) : Int))), (20, .d (I x20))]
abbrev Wg (t_ : zb) (n_1 : Int) (x20 : Int) : List (Nat × T) := [(6, .d (I n_1)), (18, .d (eSl 2 false zH t_.Nodes)), (19, .d (I ((t_.Nodes.length : Nat) : Int))), (20, .d (I x20))]
theorem QT {ctr : Ctr} (hC : y6 Try.prog ctr) (hm : Try.prog.follows .mixedOrders = true) (h_tries_Words : ctr.Has qL) (h_tries_leaf : ctr.Has uQ) : qM.Ok Try.prog := by
 refine y8 ?_
 rintro t_ r0 hf0
 try unfold vT at hf0
 refine zx (tt := yE) (keep := false) (rs := [(2, none), (3, none)]) (n := ⟨30, []⟩) (body := yx) z6 Try.func33 rfl (by kernel_rfl) rfl rfl (by show (1 : Nat) ≤ 30; decide) fun E hE => ?_
 obtain ⟨r_, h0, hf0⟩ := zi hf0
 have o0 := yP h_tries_Words (x := t_) h0 (loC xH t_ <| loN)
 rcases zY hf0 with ⟨c0, hf0⟩ | ⟨c0, hf0⟩
 ·obtain rfl := ze hf0
  exact zh X0 z6 hC hm hE 4000 (hs := [.g [], .a (.tup [eSl 1 true F1_ r_.1, I r_.2]), bT]) (x := (.tup [I 0, I r_.2])) [ob (zJ h_tries_Words), ob o0, ob c0] (by kernel_rfl) (LeV.refl _)
 ·refine zI X0 z6 hC hm [1,6] 4000 [.g [], .a (.tup [eSl 1 true F1_ r_.1, I r_.2]), bF, .cut 1] (sub [1,1,1] yx) (frs [1,1,1] [] yx []) [(1, .own (.box (xH t_))), (6, .d (I 0))] [ob (zJ h_tries_Words), ob o0, ob c0] (by kernel_rfl) fun st0 h0 => ?_
  refine zr (X := Int) (x := (sub [1,1,1,2] yx)) (y := (sub [1,1,1,1] yx)) (by kernel_rfl) [6] [1,6] _ h0 (fun z => kF z = some r0) (fun z => Wi z) ?_ fun J1 hJ1 => ?_
  ·rintro n_ hf0
   unfold kF at hf0
   obtain rfl := ze hf0
   exact zh X0 z6 hC hm hE 4000 (hs := []) (x := (.tup [I n_, I 0])) [] (by kernel_rfl) (LeV.refl _)
  ·have o1 := lnM zH t_.Nodes
   obtain ⟨t2, ht2, hf0⟩ := zi hf0
   refine zI X0 z6 hC hm [6,18,19,20] 4000 [aLn t_.Nodes.length] (sub [1,1,1,2,1,0] yx) (frs [1,1,1,2,1,0] [J1] yx []) [(6, .d (I 0)), (18, .d (eSl 2 false zH t_.Nodes)), (19, .d (I ((t_.Nodes.length : Nat) : Int))), (20, .d (I 0))] [ob o1] (by kernel_rfl) fun st0 h0 => ?_
   refine zN (X := (Int × Int) × Nat) (c' := (sub [1,1,1,2,1,0,0] yx)) (by kernel_rfl) [6,18,19,20] (fun x => yG (fun s => xQ t_ s.1 s.2) x.2 x.1 = some t2) (fun x => x.2) (fun x => Wg t_ x.1.1 x.1.2) ((0,0), wJ) _ h0 inferInstance ht2 ?_
   rintro ⟨⟨n_1, x20⟩, n2⟩ hn2 J2 hJ2
   obtain ⟨m2, lr1, rfl, hf1, hl1⟩ := xM hn2
   try unfold xQ at hf1
   rcases zY hf1 with ⟨c1, hf1⟩ | ⟨c1, hf1⟩
   ·refine zI X0 z6 hC hm [6,18,19,20] 4000 [bT, .cut 0] (sub [1,1,1,2,1,0,0,1,1] yx) (frs [1,1,1,2,1,0,0,1,1] [J1, J2] yx []) [(6, .d (I n_1)), (18, .d (eSl 2 false zH t_.Nodes)), (19, .d (I ((t_.Nodes.length : Nat) : Int))), (20, .d (I x20))] [ob c1] (by kernel_rfl) fun st0 h0 => ?_
    refine zr (X := Int) (x := (sub [1,1,1,2,1,0,0,1,1,2] yx)) (y := (sub [1,1,1,2,1,0,0,1,1,1] yx)) (by kernel_rfl) [6,18,19,20] [6,18,19,20] _ h0 (fun z => uh x20 z = some lr1) (fun z => Wh t_ x20 z) ?_ fun J3 hJ3 => ?_
    ·rintro n_2 hf1
     unfold uh at hf1
     obtain rfl := ze hf1
     exact zk X0 z6 hC hm [6,18,19,20] 4000 [] J2 [(6, .d (I n_2)), (18, .d (eSl 2 false zH t_.Nodes)), (19, .d (I ((t_.Nodes.length : Nat) : Int))), (20, .d (I (w64 (x20 + 1))))] [] (by kernel_rfl) fun st0 h0 => hJ2 st0 _ ((n_2, w64 (x20 + 1)), m2) hl1 (Nat.lt_succ_self m2) h0 inferInstance
    ·obtain ⟨Node_e, h1, hf1⟩ := zi hf1
     have o2 := iM zH h1
     obtain ⟨r_1, h2, hf1⟩ := zi hf1
     have o3 := yP h_tries_leaf (x := Node_e) h2 (loC zH Node_e <| loN)
     rcases zY hf1 with ⟨c2, hf1⟩ | ⟨c2, hf1⟩
     ·exact zk X0 z6 hC hm [6,18,19,20] 4000 [.a (zH Node_e), .g [], .a (eB r_1), bT] J3 [(6, .d (I (w64 (n_1 + 1)))), (18, .d (eSl 2 false zH t_.Nodes)), (19, .d (I ((t_.Nodes.length : Nat) : Int))), (20, .d (I x20))] [ob (i0 h1), ob o2, ob (zJ h_tries_leaf), ob o3, ob c2] (by kernel_rfl) fun st0 h0 => hJ3 st0 _ (w64 (n_1 + 1)) hf1 h0 inferInstance
     ·exact zk X0 z6 hC hm [6,18,19,20] 4000 [.a (zH Node_e), .g [], .a (eB r_1), bF] J3 [(6, .d (I n_1)), (18, .d (eSl 2 false zH t_.Nodes)), (19, .d (I ((t_.Nodes.length : Nat) : Int))), (20, .d (I x20))] [ob (i0 h1), ob o2, ob (zJ h_tries_leaf), ob o3, ob c2] (by kernel_rfl) fun st0 h0 => hJ3 st0 _ n_1 hf1 h0 inferInstance
   ·obtain rfl := ze hf1
    obtain rfl := hl1
    exact zk X0 z6 hC hm [6] 4000 [bF] J1 [(6, .d (I n_1))] [ob c1] (by kernel_rfl) fun st0 h0 => hJ1 st0 _ n_1 hf0 h0 inferInstance
noncomputable def wv : Code := (Try.f35.body).getD .skip
noncomputable def jm : yw := spF (α := List (List Int) × List (List Int)) (ρ := Bool) 35 (fun x => [F7_ x.1, F7_ x.2]) (fun r => eB r) (fun x => jB x.1 x.2) [] (by
 rintro ⟨a0, a1⟩ ⟨b0, b1⟩ h
 have e0 := yO.inj (f := F7_) _ _ (List.cons.inj h).1
 replace h := (List.cons.inj h).2
 have e1 := yO.inj (f := F7_) _ _ (List.cons.inj h).1
 subst e0 e1
 rfl)
abbrev Vf : List (Nat × T) := []
abbrev Ve (a_ : List (List Int)) (b_ : List (List Int)) (i_ : Int) : List (Nat × T) := [(0, .d (eSl 1 false F2_ a_)), (1, .d (eSl 1 false F2_ b_)), (5, .d (I i_))]
theorem K1 {ctr : Ctr} (hC : y6 Try.prog ctr) (hm : Try.prog.follows .mixedOrders = true) (h_ref12_compare : ctr.Has yI) : jm.Ok Try.prog := by
 refine y8 ?_
 rintro ⟨a_, b_⟩ r0 hf0
 try unfold jB at hf0
 refine zx (tt := yE) (keep := true) (rs := [(4, none)]) (n := ⟨27, []⟩) (body := wv) z6 Try.func35 rfl (by kernel_rfl) rfl rfl (by show (2 : Nat) ≤ 27; decide) fun E hE => ?_
 rcases zY hf0 with ⟨c0, hf0⟩ | ⟨c0, hf0⟩
 ·obtain rfl := ze hf0
  exact zh X0 z6 hC hm hE 4000 (hs := [aLn a_.length, aLn b_.length, bT]) (x := (B false)) [ob (lnM F2_ a_), ob (lnM F2_ b_), ob c0] (by kernel_rfl) (LeV.refl _)
 ·refine zI X0 z6 hC hm [0,1] 4000 [aLn a_.length, aLn b_.length, bF, .cut 0] (sub [1,1] wv) (frs [1,1] [] wv []) [(0, .d (eSl 1 false F2_ a_)), (1, .d (eSl 1 false F2_ b_))] [ob (lnM F2_ a_), ob (lnM F2_ b_), ob c0] (by kernel_rfl) fun st0 h0 => ?_
  refine zr (X := Unit) (x := (sub [1,1,2] wv)) (y := (sub [1,1,1] wv)) (by kernel_rfl) [] [0,1] _ h0 (fun z => js = some r0) (fun z => Vf) ?_ fun J1 hJ1 => ?_
  ·rintro ⟨⟩ hf0
   unfold js at hf0
   obtain rfl := ze hf0
   exact zh X0 z6 hC hm hE 4000 (hs := []) (x := (B true)) [] (by kernel_rfl) (LeV.refl _)
  ·obtain ⟨t2, ht2, hf0⟩ := zi hf0
   refine zI X0 z6 hC hm [0,1,5] 4000 [] (sub [1,1,2,1,0] wv) (frs [1,1,2,1,0] [J1] wv []) [(0, .d (eSl 1 false F2_ a_)), (1, .d (eSl 1 false F2_ b_)), (5, .d (I 0))] [] (by kernel_rfl) fun st0 h0 => ?_
   refine zN (X := Int × Nat) (c' := (sub [1,1,2,1,0,0] wv)) (by kernel_rfl) [0,1,5] (fun x => yG (fun s => u7 a_ b_ s) x.2 x.1 = some t2) (fun x => x.2) (fun x => Ve a_ b_ x.1) (0, wJ) _ h0 inferInstance ht2 ?_
   rintro ⟨i_, n2⟩ hn2 J2 hJ2
   obtain ⟨m2, lr1, rfl, hf1, hl1⟩ := xM hn2
   try unfold u7 at hf1
   rcases zY hf1 with ⟨c1, hf1⟩ | ⟨c1, hf1⟩
   ·obtain ⟨a__e, h0, hf1⟩ := zi hf1
    obtain ⟨b__e, h1, hf1⟩ := zi hf1
    obtain ⟨r_, h2, hf1⟩ := zi hf1
    have o0 := yP h_ref12_compare (x := (a__e, b__e)) h2 (loC F2_ a__e <| loC F2_ b__e <| loN)
    rcases zY hf1 with ⟨c2, hf1⟩ | ⟨c2, hf1⟩
    ·obtain rfl := ze hf1
     obtain rfl := hl1
     obtain rfl := ze hf0
     exact zh X0 z6 hC hm hE 4000 (hs := [aLn a_.length, bT, .a (F2_ a__e), .a (F2_ b__e), .g [], .a ((eI .i64) r_), bT]) (x := (B false)) [ob (lnM F2_ a_), ob c1, ob (i0 h0), ob (iM F2_ h0), ob (i0 h1), ob (iM F2_ h1), ob (zJ h_ref12_compare), ob o0, ob c2] (by kernel_rfl) (LeV.refl _)
    ·obtain rfl := ze hf1
     exact zk X0 z6 hC hm [0,1,5] 4000 [aLn a_.length, bT, .a (F2_ a__e), .a (F2_ b__e), .g [], .a ((eI .i64) r_), bF] J2 [(0, .d (eSl 1 false F2_ a_)), (1, .d (eSl 1 false F2_ b_)), (5, .d (I (w64 (i_ + 1))))] [ob (lnM F2_ a_), ob c1, ob (i0 h0), ob (iM F2_ h0), ob (i0 h1), ob (iM F2_ h1), ob (zJ h_ref12_compare), ob o0, ob c2] (by kernel_rfl) fun st0 h0 => hJ2 st0 _ (w64 (i_ + 1), m2) hl1 (Nat.lt_succ_self m2) h0 inferInstance
   ·obtain rfl := ze hf1
    obtain rfl := hl1
    exact zk X0 z6 hC hm [] 4000 [aLn a_.length, bF] J1 [] [ob (lnM F2_ a_), ob c1] (by kernel_rfl) fun st0 h0 => hJ1 st0 _ () hf0 h0 inferInstance
noncomputable def JI : Code := (Try.f37.body).getD .skip
noncomputable def Zt : yw := spF (α := List (List Int)) (ρ := List (List Int)) 37 (fun x => [F7_ x]) (fun r => F7_ r) (fun x => yZ x) [] (by
 rintro a0 b0 h
 have e0 := yO.inj (f := F7_) _ _ (List.cons.inj h).1
 subst e0
 rfl)
theorem K3 {ctr : Ctr} (hC : y6 Try.prog ctr) (hm : Try.prog.follows .mixedOrders = true) : Zt.Ok Try.prog := by
 refine y8 ?_
 rintro l_ r0 hf0
 try unfold yZ at hf0
 refine zx (tt := yE) (keep := true) (rs := [(2, none)]) (n := ⟨4, []⟩) (body := JI) z6 Try.func37 rfl (by kernel_rfl) rfl rfl (by show (1 : Nat) ≤ 4; decide) fun E hE => ?_
 obtain rfl := ze hf0
 exact zh X0 z6 hC hm hE 4000 (hs := []) (x := (eSl 1 false F2_ l_)) [] (by kernel_rfl) (LeV.refl _)
noncomputable def Za : Code := (Try.f71.body).getD .skip
noncomputable def wW : yw := spF (α := List (List Int)) (ρ := List (List Int)) 71 (fun x => [F7_ x]) (fun r => F8_ r) (fun x => vW x) [] (by
 rintro a0 b0 h
 have e0 := yO.inj (f := F7_) _ _ (List.cons.inj h).1
 subst e0
 rfl)
theorem Zg {ctr : Ctr} (hC : y6 Try.prog ctr) (hm : Try.prog.follows .mixedOrders = true) : wW.Ok Try.prog := by
 refine y8 ?_
 rintro s_ r0 hf0
 try unfold vW at hf0
 refine zx (tt := yE) (keep := true) (rs := [(2, none)]) (n := ⟨8, []⟩) (body := Za) z6 Try.func71 rfl (by kernel_rfl) rfl rfl (by show (1 : Nat) ≤ 8; decide) fun E hE => ?_
 refine z3j rfl 0 (sz := 1) (t := false) (es := s_.map F2_) (by kernel_rfl) fun pv0 hv0 hn => ?_
 rcases hn with ⟨hn0, he0⟩ | hn0
 ·obtain ⟨_, hf0⟩ := gdE hf0
  rw [show s_ = [] from List.map_eq_nil_iff.1 he0] at hf0
  obtain rfl := ze hf0
  exact zh ((z8W z6 4 22 (by kernel_rfl) hn0).or ((xMv Try.prog 3 0 pv0 hv0).or X0)) z6 hC hm hE 4000 (hs := [bT]) (x := (eOs 1 true F2_ [])) [ob ((rfl : some pv0 = some pv0)), ob ((⟨rfl, rfl⟩ : T.d (.atom pv0) = T.d (.atom pv0) ∧ T.d (.atom (.slice none 0 0)) = T.d (.atom (.slice none 0 0)))), oT] (by kernel_rfl) (show LeV (eOs 1 true F2_ []) (eOs 1 false F2_ ([] : List (List Int))) from inferInstance)
 ·obtain ⟨g0, hf0⟩ := gdE hf0
  have o0 := aL F2_ F2_ g0
  obtain rfl := ze hf0
  exact zh ((z8W z6 4 22 (by kernel_rfl) hn0).or ((xMv Try.prog 3 0 pv0 hv0).or X0)) z6 hC hm hE 4000 (hs := [bF, .l (s_.map F2_)]) (x := (eOs 1 false F2_ s_)) [ob ((rfl : some pv0 = some pv0)), ob ((⟨rfl, rfl⟩ : T.d (.atom pv0) = T.d (.atom pv0) ∧ T.d (.atom (.slice none 0 0)) = T.d (.atom (.slice none 0 0)))), oF, ob (dM F2_ s_), ob o0, ob (aM0 F2_ s_)] (by kernel_rfl) (LeV.refl _)
noncomputable def W3 : Code := (Try.f80.body).getD .skip
noncomputable def qB : yw := spF (α := List Int × List Int) (ρ := Bool) 80 (fun x => [F2_ x.1, F2_ x.2]) (fun r => eB r) (fun x => qI x.1 x.2) [] (by
 rintro ⟨a0, a1⟩ ⟨b0, b1⟩ h
 have e0 := yO.inj (f := F2_) _ _ (List.cons.inj h).1
 replace h := (List.cons.inj h).2
 have e1 := yO.inj (f := F2_) _ _ (List.cons.inj h).1
 subst e0 e1
 rfl)
theorem WN {ctr : Ctr} (hC : y6 Try.prog ctr) (hm : Try.prog.follows .mixedOrders = true) (h_words_Compare : ctr.Has vo) : qB.Ok Try.prog := by
 refine y8 ?_
 rintro ⟨a_, b_⟩ r0 hf0
 try unfold qI at hf0
 refine zx (tt := yE) (keep := true) (rs := [(4, none)]) (n := ⟨9, []⟩) (body := W3) z6 Try.func80 rfl (by kernel_rfl) rfl rfl (by show (2 : Nat) ≤ 9; decide) fun E hE => ?_
 obtain ⟨r_, h0, hf0⟩ := zi hf0
 have o0 := yP h_words_Compare (x := (a_, b_)) h0 (loC F2_ a_ <| loC F2_ b_ <| loN)
 obtain rfl := ze hf0
 exact zh X0 z6 hC hm hE 4000 (hs := [.g [], .a ((eI .i64) r_)]) (x := (B (r_ == 0))) [ob (zJ h_words_Compare), ob o0] (by kernel_rfl) (LeV.refl _)
end Go.Own
