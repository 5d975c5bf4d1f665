/- Walks, further. -/
import Derived.Test.YtlejgipmepemjaaPartF
import Derived.Test.YtlejgipmepemjaaPartC
set_option linter.unusedVariables false
set_option linter.unusedSimpArgs false
namespace Go.Own
open Go.Proofs
set_option maxRecDepth 100000
set_option maxHeartbeats 8000000
noncomputable def zg : Code := (Try.f79.body).getD .skip
noncomputable def xl : yw := spF (α := List (List Int) × Unit) (ρ := List (List Int)) 79 (fun x => [F8_ x.1, (JQ 80) x.2]) (fun r => F8_ r) (fun x => w8 x.1 x.2) [true, false] (by
 rintro ⟨a0, a1⟩ ⟨b0, b1⟩ h
 have e0 := yO.inj (f := F8_) _ _ (List.cons.inj h).1
 replace h := (List.cons.inj h).2
 have e1 := yO.inj (f := (JQ 80)) _ _ (List.cons.inj h).1
 subst e0 e1
 rfl)
abbrev qn (s_ : List (List Int)) : List (Nat × T) := [(0, .own (eOs 1 false F2_ s_))]
abbrev qm (s_ : List (List Int)) (k_ : Int) : List (Nat × T) := [(0, .own (eOs 1 false F2_ s_)), (1, .d (.fn 80 [])), (5, .d (I k_))]
abbrev qj (s_1 : List (List Int)) (k_1 : Int) : List (Nat × T) := [(0, .own (eOs 1 false F2_ s_1)), (5, .d (I k_1))]
abbrev qh (pv0 : Value) (k_ : Int) (k2 : Int) (s_3 : List (List Int)) (k_3 : Int) : List (Nat × T) := [(0, .own (eOs 1 false F2_ s_3)), (1, .d (.fn 80 [])), (5, .d (I k_3)), (6, .d (.atom (qR 1 pv0 k_))), (7, .d (I k2))]
abbrev qe (pv0 : Value) (k_ : Int) (s_2 : List (List Int)) (k_2 : Int) (k2 : Int) : List (Nat × T) := [(0, .own (eOs 1 false F2_ s_2)), (1, .d (.fn 80 [])), (5, .d (I k_2)), (6, .d (.atom (qR 1 pv0 k_))), (7, .d (I k2))]
abbrev qg (s_ : List (List Int)) (k_ : Int) : List (Nat × T) := [(0, .own (eOs 1 false F2_ s_)), (1, .d (.fn 80 [])), (5, .d (I k_))]
theorem j7 {ctr : Ctr} (hC : y6 Try.prog ctr) (hm : Try.prog.follows .mixedOrders = true) (h_tries_sorted_1 : ctr.Has qB) : xl.Ok Try.prog := by
 refine y8 ?_
 rintro ⟨s_, eq⟩ r0 hf0
 try unfold w8 at hf0
 refine zx (tt := yE) (keep := true) (rs := [(4, none)]) (n := ⟨66, []⟩) (body := zg) z6 Try.func79 rfl (by kernel_rfl) rfl rfl (by show (2 : Nat) ≤ 66; decide) fun E hE => ?_
 refine z0E (y := eOs 1 false F2_ s_) rfl 0 (by kernel_rfl) (by kernel_rfl) fun pv0 hv0 => ?_
 rcases zY hf0 with ⟨c0, hf0⟩ | ⟨c0, hf0⟩
 ·obtain rfl := ze hf0
  exact zh ((KZ z6 64).or X0) z6 hC hm hE 4000 (hs := [aLn s_.length, bT]) (x := (eOs 1 false F2_ s_)) [ob (lnM F2_ s_), ob c0] (by kernel_rfl) (LeV.refl _)
 ·refine zI ((KZ z6 64).or X0) z6 hC hm [0,1] 4000 [aLn s_.length, bF, .cut 0] (sub [1,1] zg) (frs [1,1] [] zg []) [(0, .own (eOs 1 false F2_ s_)), (1, .d (.fn 80 []))] [ob (lnM F2_ s_), ob c0] (by kernel_rfl) fun st0 h0 => ?_
  refine zr (X := Unit) (x := (sub [1,1,2] zg)) (y := (sub [1,1,1] zg)) (by kernel_rfl) [0] [0,1] _ h0 (fun z => xu s_ = some r0) (fun z => qn s_) ?_ fun J1 hJ1 => ?_
  ·rintro ⟨⟩ hf0
   unfold xu at hf0
   obtain rfl := ze hf0
   exact zh ((KZ z6 64).or X0) z6 hC hm hE 4000 (hs := []) (x := (eOs 1 false F2_ s_)) [] (by kernel_rfl) (LeV.refl _)
  ·obtain ⟨t2, ht2, hf0⟩ := zi hf0
   refine zI ((KZ z6 64).or X0) z6 hC hm [0,1,5] 4000 [] (sub [1,1,2,1,0] zg) (frs [1,1,2,1,0] [J1] zg []) [(0, .own (eOs 1 false F2_ s_)), (1, .d (.fn 80 [])), (5, .d (I 1))] [] (by kernel_rfl) fun st0 h0 => ?_
   refine zN (X := Int × Nat) (c' := (sub [1,1,2,1,0,0] zg)) (by kernel_rfl) [0,1,5] (fun x => yG (fun s => xp s_ s) x.2 x.1 = some t2) (fun x => x.2) (fun x => qg s_ x.1) (1, wJ) _ h0 inferInstance ht2 ?_
   rintro ⟨k_, n2⟩ hn2 J2 hJ2
   obtain ⟨m2, lr1, rfl, hf1, hl1⟩ := xM hn2
   try unfold xp at hf1
   rcases zY hf1 with ⟨c1, hf1⟩ | ⟨c1, hf1⟩
   ·refine zI ((KZ z6 64).or X0) z6 hC hm [0,1,5] 4000 [aLn s_.length, bT, .cut 0] (sub [1,1,2,1,0,0,1] zg) (frs [1,1,2,1,0,0,1] [J1, J2] zg []) [(0, .own (eOs 1 false F2_ s_)), (1, .d (.fn 80 [])), (5, .d (I k_))] [ob (lnM F2_ s_), ob c1] (by kernel_rfl) fun st0 h0 => ?_
    refine zr (X := Unit) (x := (sub [1,1,2,1,0,0,1,2] zg)) (y := (sub [1,1,2,1,0,0,1,1] zg)) (by kernel_rfl) [0,1,5] [0,1,5] _ h0 (fun z => xr k_ = some lr1) (fun z => qm s_ k_) ?_ fun J3 hJ3 => ?_
    ·rintro ⟨⟩ hf1
     unfold xr at hf1
     obtain rfl := ze hf1
     exact zk ((KZ z6 64).or X0) z6 hC hm [0,1,5] 4000 [] J2 [(0, .own (eOs 1 false F2_ s_)), (1, .d (.fn 80 [])), (5, .d (I (w64 (k_ + 1))))] [] (by kernel_rfl) fun st0 h0 => hJ2 st0 _ (w64 (k_ + 1), m2) hl1 (Nat.lt_succ_self m2) h0 inferInstance
    ·obtain ⟨s__e, h0, hf1⟩ := zi hf1
     obtain ⟨s__e1, h1, hf1⟩ := zi hf1
     obtain ⟨r_, h2, hf1⟩ := zi hf1
     have o0 := yP h_tries_sorted_1 (x := (s__e, s__e1)) h2 (loC F2_ s__e <| loC F2_ s__e1 <| loN)
     rcases zY hf1 with ⟨c2, hf1⟩ | ⟨c2, hf1⟩
     ·obtain ⟨g0, hf1⟩ := gdE hf1
      have o1 := (⟨g0.1, cuB F2_ g0⟩ : (0 : Int) ≤ k_ ∧ k_.toNat ≤ (s_.map F2_).length)
      refine zI ((xAs Try.prog 6 (qR 1 pv0 k_)).or ((xVw z6 31 0 pv0).or ((KZ z6 64).or X0))) z6 hC hm [0,1,5,6] 4000 [.a (F2_ s__e), .a (F2_ s__e1), .g [], .a (eB r_), bT, .cut 1] (sub [1,1,2,1,0,0,1,2,0,1,0,1] zg) (frs [1,1,2,1,0,0,1,2,0,1,0,1] [J1, J2, J3] zg []) [(0, .own (eOs 1 false F2_ s_)), (1, .d (.fn 80 [])), (5, .d (I k_)), (6, .d (.atom (qR 1 pv0 k_)))] [ob (iL F2_ h0), ob (iM F2_ h0), ob (iL F2_ h1), ob (iM F2_ h1), ob (zJ h_tries_sorted_1), ob o0, ob c2, ob ((⟨.inl rfl, rfl⟩ : (T.als 0 [] 0 0 = T.als 0 [] 0 0 ∨ T.als 0 [] 0 0 = T.d (.atom pv0)) ∧ some pv0 = some pv0)), ob o1, ob ((rfl : T.d (.atom (qR 1 pv0 k_)) = T.d (.atom (qR 1 pv0 k_))))] (by kernel_rfl) fun st0 h0 => ?_
      refine zr (X := List (List Int) × Int) (x := (sub [1,1,2,1,0,0,1,2,0,1,0,1,2] zg)) (y := (sub [1,1,2,1,0,0,1,2,0,1,0,1,1] zg)) (by kernel_rfl) [0,5] [0,1,5,6] _ h0 (fun z => xq z.1 z.2 = some lr1) (fun z => qj z.1 z.2) ?_ fun J4 hJ4 => ?_
      ·rintro ⟨s_1, k_1⟩ hf1
       unfold xq at hf1
       obtain ⟨g1, hf1⟩ := gdE hf1
       have o2 := (⟨g1.1, cuB F2_ g1⟩ : (0 : Int) ≤ k_1 ∧ k_1.toNat ≤ (s_1.map F2_).length)
       obtain ⟨g2, hf1⟩ := gdE hf1
       have o3 := (⟨g2.1, cuB F2_ g2, dM F2_ s_1⟩ : (0 : Int) ≤ k_1 ∧ k_1.toNat ≤ (s_1.map F2_).length ∧ A.areD (s_1.map F2_) = true)
       have o4 := vcM F2_ s_1 k_1.toNat ([] : List Int)
       obtain ⟨g3, hf1⟩ := gdE hf1
       have o5 := cuM F2_ (s_1.take k_1.toNat ++ List.replicate (s_1.length - k_1.toNat) []) k_1
       obtain rfl := ze hf1
       obtain rfl := hl1
       obtain rfl := ze hf0
       exact zh ((xVc z6 61 1 0 pv0 k_1).or ((xVw z6 61 0 pv0).or ((KZ z6 64).or X0))) z6 hC hm hE 4000 (hs := [.l ((s_1.take k_1.toNat ++ List.replicate (s_1.length - k_1.toNat) []).map F2_), .l (((s_1.take k_1.toNat ++ List.replicate (s_1.length - k_1.toNat) []).take k_1.toNat).map F2_)]) (x := (eOs 1 false F2_ ((s_1.take k_1.toNat ++ List.replicate (s_1.length - k_1.toNat) []).take k_1.toNat))) [ob ((⟨.inl rfl, rfl⟩ : (T.als 0 [] 0 0 = T.als 0 [] 0 0 ∨ T.als 0 [] 0 0 = T.d (.atom pv0)) ∧ some pv0 = some pv0)), ob o2, ob ((⟨rfl, rfl⟩ : T.d (.atom (qR 1 pv0 k_1)) = T.d (.atom (qR 1 pv0 k_1)) ∧ some pv0 = some pv0)), ob o3, ob o4, ob (g3.1), ob (cuB F2_ g3), ob o5] (by kernel_rfl) (LeV.refl _)
      ·obtain ⟨t5, ht5, hf1⟩ := zi hf1
       refine zI ((KZ z6 64).or X0) z6 hC hm [0,1,5,6,7] 4000 [] (sub [1,1,2,1,0,0,1,2,0,1,0,1,2,1,0] zg) (frs [1,1,2,1,0,0,1,2,0,1,0,1,2,1,0] [J1, J2, J3, J4] zg []) [(0, .own (eOs 1 false F2_ s_)), (1, .d (.fn 80 [])), (5, .d (I k_)), (6, .d (.atom (qR 1 pv0 k_))), (7, .d (I 1))] [] (by kernel_rfl) fun st0 h0 => ?_
       refine zN (X := (List (List Int) × Int × Int) × Nat) (c' := (sub [1,1,2,1,0,0,1,2,0,1,0,1,2,1,0,0] zg)) (by kernel_rfl) [0,1,5,6,7] (fun x => yG (fun s => xo k_ s.1 s.2.1 s.2.2) x.2 x.1 = some t5) (fun x => x.2) (fun x => qe pv0 k_ x.1.1 x.1.2.1 x.1.2.2) ((s_, k_, 1), wJ) _ h0 inferInstance ht5 ?_
       rintro ⟨⟨s_2, k_2, k2⟩, n5⟩ hn5 J5 hJ5
       obtain ⟨m5, lr2, rfl, hf2, hl2⟩ := xM hn5
       try unfold xo at hf2
       have o6 := vlM F2_ s_2 k_.toNat
       rcases zY hf2 with ⟨c3, hf2⟩ | ⟨c3, hf2⟩
       ·refine zI ((xVl z6 34 22 1 0 pv0 k_ (by kernel_rfl)).or ((KZ z6 64).or X0)) z6 hC hm [0,1,5,6,7] 4000 [.a (.atom (.int .i64 ((s_2.length - k_.toNat : Nat) : Int))), bT, .cut 0] (sub [1,1,2,1,0,0,1,2,0,1,0,1,2,1,0,0,1] zg) (frs [1,1,2,1,0,0,1,2,0,1,0,1,2,1,0,0,1] [J1, J2, J3, J4, J5] zg []) [(0, .own (eOs 1 false F2_ s_2)), (1, .d (.fn 80 [])), (5, .d (I k_2)), (6, .d (.atom (qR 1 pv0 k_))), (7, .d (I k2))] [ob ((⟨rfl, rfl⟩ : T.d (.atom (qR 1 pv0 k_)) = T.d (.atom (qR 1 pv0 k_)) ∧ some pv0 = some pv0)), ob o6, ob c3] (by kernel_rfl) fun st0 h0 => ?_
        refine zr (X := List (List Int) × Int) (x := (sub [1,1,2,1,0,0,1,2,0,1,0,1,2,1,0,0,1,2] zg)) (y := (sub [1,1,2,1,0,0,1,2,0,1,0,1,2,1,0,0,1,1] zg)) (by kernel_rfl) [0,1,5,6,7] [0,1,5,6,7] _ h0 (fun z => yC k2 z.1 z.2 = some lr2) (fun z => qh pv0 k_ k2 z.1 z.2) ?_ fun J6 hJ6 => ?_
        ·rintro ⟨s_3, k_3⟩ hf2
         unfold yC at hf2
         obtain rfl := ze hf2
         exact zk ((KZ z6 64).or X0) z6 hC hm [0,1,5,6,7] 4000 [] J5 [(0, .own (eOs 1 false F2_ s_3)), (1, .d (.fn 80 [])), (5, .d (I k_3)), (6, .d (.atom (qR 1 pv0 k_))), (7, .d (I (w64 (k2 + 1))))] [] (by kernel_rfl) fun st0 h0 => hJ5 st0 _ ((s_3, k_3, w64 (k2 + 1)), m5) hl2 (Nat.lt_succ_self m5) h0 inferInstance
        ·obtain ⟨g4, hf2⟩ := gdE hf2
         obtain ⟨s__e2, h3, hf2⟩ := zi hf2
         have o7 := (⟨g4.1, g4.2, (iL F2_ h3).2⟩ : (0 : Int) ≤ k_ ∧ (0 : Int) ≤ k2 ∧ (k_ + k2).toNat < (s_2.map F2_).length)
         obtain ⟨g5, hf2⟩ := gdE hf2
         obtain ⟨s__e3, h4, hf2⟩ := zi hf2
         have o8 := (⟨g5.1, g5.2, (iL F2_ h4).2⟩ : (0 : Int) ≤ k_ ∧ (0 : Int) ≤ w64 (k2 - 1) ∧ (k_ + (w64 (k2 - 1))).toNat < (s_2.map F2_).length)
         obtain ⟨r_1, h5, hf2⟩ := zi hf2
         have o9 := yP h_tries_sorted_1 (x := (s__e2, s__e3)) h5 (loC F2_ s__e2 <| loC F2_ s__e3 <| loN)
         rcases zY hf2 with ⟨c4, hf2⟩ | ⟨c4, hf2⟩
         ·obtain ⟨g6, hf2⟩ := gdE hf2
          obtain ⟨s__e4, h6, hf2⟩ := zi hf2
          have o10 := (⟨g6.1, g6.2, (iL F2_ h6).2⟩ : (0 : Int) ≤ k_ ∧ (0 : Int) ≤ k2 ∧ (k_ + k2).toNat < (s_2.map F2_).length)
          obtain ⟨s__e5, h7, hf2⟩ := zi hf2
          have o11 := sM F2_ s_2 k_2 s__e4
          exact zk ((xVi z6 54 1 0 pv0 k_).or ((xVi z6 46 1 0 pv0 k_).or ((xVi z6 41 1 0 pv0 k_).or ((KZ z6 64).or X0)))) z6 hC hm [0,1,5,6,7] 4000 [.a (F2_ s__e2), .a (F2_ s__e3), .g [], .a (eB r_1), bT, .a (F2_ s__e4), .a (F2_ s__e5), .a (F2_ s__e5), .l ((s_2.set k_2.toNat s__e4).map F2_)] J6 [(0, .own (eOs 1 false F2_ (s_2.set k_2.toNat s__e4))), (1, .d (.fn 80 [])), (5, .d (I (w64 (k_2 + 1)))), (6, .d (.atom (qR 1 pv0 k_))), (7, .d (I k2))] [ob ((⟨rfl, rfl⟩ : T.d (.atom (qR 1 pv0 k_)) = T.d (.atom (qR 1 pv0 k_)) ∧ some pv0 = some pv0)), ob o7, ob (iM F2_ h3), ob ((⟨rfl, rfl⟩ : T.d (.atom (qR 1 pv0 k_)) = T.d (.atom (qR 1 pv0 k_)) ∧ some pv0 = some pv0)), ob o8, ob (iM F2_ h4), ob (zJ h_tries_sorted_1), ob o9, ob c4, ob ((⟨rfl, rfl⟩ : T.d (.atom (qR 1 pv0 k_)) = T.d (.atom (qR 1 pv0 k_)) ∧ some pv0 = some pv0)), ob o10, ob (iM F2_ h6), ob (iL F2_ h7), ob (iM F2_ h7), ob (iM F2_ h7), ob o11] (by kernel_rfl) fun st0 h0 => hJ6 st0 _ ((s_2.set k_2.toNat s__e4), w64 (k_2 + 1)) hf2 h0 inferInstance
         ·exact zk ((xVi z6 46 1 0 pv0 k_).or ((xVi z6 41 1 0 pv0 k_).or ((KZ z6 64).or X0))) z6 hC hm [0,1,5,6,7] 4000 [.a (F2_ s__e2), .a (F2_ s__e3), .g [], .a (eB r_1), bF] J6 [(0, .own (eOs 1 false F2_ s_2)), (1, .d (.fn 80 [])), (5, .d (I k_2)), (6, .d (.atom (qR 1 pv0 k_))), (7, .d (I k2))] [ob ((⟨rfl, rfl⟩ : T.d (.atom (qR 1 pv0 k_)) = T.d (.atom (qR 1 pv0 k_)) ∧ some pv0 = some pv0)), ob o7, ob (iM F2_ h3), ob ((⟨rfl, rfl⟩ : T.d (.atom (qR 1 pv0 k_)) = T.d (.atom (qR 1 pv0 k_)) ∧ some pv0 = some pv0)), ob o8, ob (iM F2_ h4), ob (zJ h_tries_sorted_1), ob o9, ob c4] (by kernel_rfl) fun st0 h0 => hJ6 st0 _ (s_2, k_2) hf2 h0 inferInstance
       ·obtain rfl := ze hf2
        obtain rfl := hl2
        exact zk ((xVl z6 34 22 1 0 pv0 k_ (by kernel_rfl)).or ((KZ z6 64).or X0)) z6 hC hm [0,5] 4000 [.a (.atom (.int .i64 ((s_2.length - k_.toNat : Nat) : Int))), bF] J4 [(0, .own (eOs 1 false F2_ s_2)), (5, .d (I k_2))] [ob ((⟨rfl, rfl⟩ : T.d (.atom (qR 1 pv0 k_)) = T.d (.atom (qR 1 pv0 k_)) ∧ some pv0 = some pv0)), ob o6, ob c3] (by kernel_rfl) fun st0 h0 => hJ4 st0 _ (s_2, k_2) hf1 h0 inferInstance
     ·exact zk ((KZ z6 64).or X0) z6 hC hm [0,1,5] 4000 [.a (F2_ s__e), .a (F2_ s__e1), .g [], .a (eB r_), bF] J3 [(0, .own (eOs 1 false F2_ s_)), (1, .d (.fn 80 [])), (5, .d (I k_))] [ob (iL F2_ h0), ob (iM F2_ h0), ob (iL F2_ h1), ob (iM F2_ h1), ob (zJ h_tries_sorted_1), ob o0, ob c2] (by kernel_rfl) fun st0 h0 => hJ3 st0 _ () hf1 h0 inferInstance
   ·obtain rfl := ze hf1
    obtain rfl := hl1
    exact zk ((KZ z6 64).or X0) z6 hC hm [0] 4000 [aLn s_.length, bF] J1 [(0, .own (eOs 1 false F2_ s_))] [ob (lnM F2_ s_), ob c1] (by kernel_rfl) fun st0 h0 => hJ1 st0 _ () hf0 h0 inferInstance
noncomputable def ko : Code := (Try.f69.body).getD .skip
noncomputable def yA : yw := spR (α := List (List Int)) (ρ := List (List Int)) 69 (fun x => [F8_ x]) (fun r => F6_ r) (fun x => xL x) [true] (by
 rintro a0 b0 h
 have e0 := yO.inj (f := F8_) _ _ (List.cons.inj h).1
 subst e0
 rfl)
theorem km : ∀ x r, (fun x => xL x) x = some r → (Xk.add yA).run 69 ((Xk.add yA).norm 69 ((fun x => [F8_ x]) x)) = some ((fun r => F6_ r) r) := fun x r h => zaE h rfl
theorem wg : (Xk.add yA).lend 69 = none ∧ (Xk.add yA).gives 69 = [true] := z7J
theorem wC {ctr : Ctr} (hC : y6 Try.prog ctr) (hm : Try.prog.follows .mixedOrders = true) : yA.Ok Try.prog := by
 refine z4V ?_
 rintro s_ r0 hf0
 try unfold xL at hf0
 refine zx (tt := yE) (keep := true) (rs := [(2, none)]) (n := ⟨9, []⟩) (body := ko) z6 Try.func69 rfl (by kernel_rfl) rfl rfl (by show (1 : Nat) ≤ 9; decide) fun E hE => ?_
 have o0 := (Int.natCast_nonneg _ : (0 : Int) ≤ ((s_.length : Nat) : Int))
 have o1 := (Int.natCast_nonneg _ : (0 : Int) ≤ ((s_.length : Nat) : Int))
 obtain rfl := ze hf0
 exact zh ((xCl z6 8).or X0) z6 hC hm hE 4000 (hs := [aLn s_.length, aLn s_.length, .a (eOs 1 true F2_ s_)]) (x := (eOs 1 true F2_ s_)) [ob (lnM F2_ s_), ob (lnM F2_ s_), ob o0, ob o1, ob (clB F2_ s_), ob (clE 1 F2_ s_)] (by kernel_rfl) (LeV.refl _)
noncomputable def yf : Code := (Try.f51.body).getD .skip
noncomputable def vU : yw := spF (α := List (List Int)) (ρ := List (List Int) × Int) 51 (fun x => [F7_ x]) (fun r => .tup [F4_ r.1, (eI .i64) r.2]) (fun x => xO x) [] (by
 rintro a0 b0 h
 have e0 := yO.inj (f := F7_) _ _ (List.cons.inj h).1
 subst e0
 rfl)
abbrev Xy (out : List (List Int × Bool)) : List (Nat × T) := [(4, .own (eOs 1 true (eFl 1 (eI .i64)) out))]
abbrev Xx (pv4 : Value) (r_2 : List (List Int)) (out2 : List (List Int × Bool)) (x24 : Int) : List (Nat × T) := [(4, .own (eOs 1 true (eFl 1 (eI .i64)) out2)), (22, .d (.atom (qR 1 pv4 (0 : Int)))), (23, .d (I ((r_2.length - (0 : Int).toNat : Nat) : Int))), (24, .d (I x24))]
theorem UX {ctr : Ctr} (hC : y6 Try.prog ctr) (hm : Try.prog.follows .mixedOrders = true) (h_slices_CloneW_int_int : ctr.Has wW) (h_words_Compare : ctr.Has vo) (h_slices_CompactFuncW_int_int : ctr.Has xl) (h_tries_steps : ctr.Has ui) (h_slices_Clone_int_int : ctr.Has yl) (h_slices_Clip_int_int : ctr.Has zV) : vU.Ok Try.prog := by
 refine y8 ?_
 rintro l_ r0 hf0
 try unfold xO at hf0
 refine zx (tt := yE) (keep := false) (rs := [(2, none), (3, none)]) (n := ⟨37, []⟩) (body := yf) z6 Try.func51 rfl (by kernel_rfl) rfl rfl (by show (1 : Nat) ≤ 37; decide) fun E hE => ?_
 obtain ⟨r_, h0, hf0⟩ := zi hf0
 have o0 := yP h_slices_CloneW_int_int (x := l_) h0 (loC F7_ l_ <| loN)
 refine zI X0 z6 hC hm [4] 4000 [.g [], .a (F8_ r_), .cut 0] (sub [1,1] yf) (frs [1,1] [] yf []) [(4, .own (eOs 1 false F2_ r_))] [ob (zJ h_slices_CloneW_int_int), ob o0] (by kernel_rfl) fun st0 h0 => WW h0 ?_
 obtain ⟨sorted, h1, hf0⟩ := zi hf0
 refine z3i (by kernel_rfl) (x := (sub [1,1,0] yf)) (y := (sub [1,1,1] yf)) 4 (fun st1 => Own.canon [4] st1 = ofL [(4, .own (eOs 1 false F2_ sorted))]) (fun pv4 => qa ((ug (P := Try.prog) yE [4] (z2g z9e (f := F2_) (t := false) (v := pv4) (fun _ => rfl) (fun _ => rfl) (fun x y c h => yX hC h_words_Compare (x := (x, y)) h) h1) 10).or X0) z6 hC hm [4] 4000 [] .normal [(4, .own (eOs 1 false F2_ sorted))] [ob (jM (f := .fn 77 []) (xs := [.atom pv4, .fn 78 []]) (ls := [(pv4, eOs 1 false F2_ r_)]) (r := .tup []) (ys := [eOs 1 false F2_ sorted]) [.atom pv4, .fn 78 []] (show QI [.atom pv4, .fn 78 []] [.atom pv4, .fn 78 []] from inferInstance))] (by kernel_rfl) fun st0 h0 => ⟨rfl, h0⟩) fun st1 h1 => WW h1 ?_
 obtain ⟨r_1, h2, hf0⟩ := zi hf0
 have o1 := yP h_slices_CompactFuncW_int_int (x := (sorted, ())) h2 (loC F8_ sorted <| loC (JQ 80) () <| loN)
 obtain ⟨r_2, h3, hf0⟩ := zi hf0
 have o2 := km r_1 _ h3
 rcases zY hf0 with ⟨c0, hf0⟩ | ⟨c0, hf0⟩
 ·have o3 := shM F2_ F2_ []
  obtain rfl := ze hf0
  exact zh ((QK z6 (wC hC hm) 13).or X0) z6 hC hm hE 4000 (hs := (.g [true, false] :: .a (F8_ r_1) :: .g [true] :: .a (F6_ r_2) :: aLn r_2.length :: (rpN 5 bT [.l ([].map F2_)]))) (x := (.tup [eSl 1 true F1_ [], I 3])) (ob (zJ h_slices_CompactFuncW_int_int) :: ob o1 :: ob wg :: ob o2 :: ob (lnM F2_ r_2) :: (rpN 4 (ob c0) [oT, ob o3])) (by kernel_rfl) (show LeV (.tup [eSl 1 true F1_ [], I 3]) (.tup [eSl 1 true F1_ ([] : List (List Int)), I 3]) from inferInstance)
 ·have o4 := shM F2_ F2_ r_2
  obtain ⟨r_3, h4, hf0⟩ := zi hf0
  have o5 := yP h_tries_steps (x := r_2) h4 (loC (eSl 1 true F2_) r_2 <| loN)
  rcases zY hf0 with ⟨c1, hf0⟩ | ⟨c1, hf0⟩
  ·have o6 := shM F2_ F2_ []
   obtain rfl := ze hf0
   exact zh ((QK z6 (wC hC hm) 13).or X0) z6 hC hm hE 4000 (hs := [.g [true, false], .a (F8_ r_1), .g [true], .a (F6_ r_2), aLn r_2.length, bF, bF, .g [], .l (r_2.map F2_), .a ((eI .i64) r_3), bF, bF, bT, .l ([].map F2_)]) (x := (.tup [eSl 1 true F1_ [], I 3])) [ob (zJ h_slices_CompactFuncW_int_int), ob o1, ob wg, ob o2, ob (lnM F2_ r_2), ob c0, ob c0, ob (zJ h_tries_steps), ob o4, ob o5, ob c0, ob c0, ob c1, ob o6] (by kernel_rfl) (show LeV (.tup [eSl 1 true F1_ [], I 3]) (.tup [eSl 1 true F1_ ([] : List (List Int)), I 3]) from inferInstance)
  ·refine zI ((QK z6 (wC hC hm) 13).or X0) z6 hC hm [4] 4000 [.g [true, false], .a (F8_ r_1), .g [true], .a (F6_ r_2), aLn r_2.length, bF, bF, .g [], .l (r_2.map F2_), .a ((eI .i64) r_3), bF, bF, bF, .cut 0] (sub [1,1,1,1,1] yf) (frs [1,1,1,1,1] [] yf []) [(4, .own (eOs 1 true F2_ r_2))] [ob (zJ h_slices_CompactFuncW_int_int), ob o1, ob wg, ob o2, ob (lnM F2_ r_2), ob c0, ob c0, ob (zJ h_tries_steps), ob o4, ob o5, ob c0, ob c0, ob c1] (by kernel_rfl) fun st0 h0 => WW h0 ?_
   refine z0E (y := eOs 1 true F2_ r_2) (by kernel_rfl) 4 (by kernel_rfl) (by kernel_rfl) fun pv4 hv4 => ?_
   refine zI X0 z6 hC hm [4] 4000 [.cut 0] (sub [1,1,1,1,1] yf) (frs [1,1,1,1,1] [] yf []) [(4, .own (eOs 1 true F2_ r_2))] [] (by kernel_rfl) fun st0 h0 => ?_
   refine zr (X := List (List Int × Bool)) (x := (sub [1,1,1,1,1,2] yf)) (y := (sub [1,1,1,1,1,1] yf)) (by kernel_rfl) [4] [4] _ h0 (fun z => jF z = some r0) (fun z => Xy z) ?_ fun J1 hJ1 => ?_
   ·rintro out hf0
    unfold jF at hf0
    have o7 := shM (eFl 1 (eI .i64)) (eFl 1 (eI .i64)) out
    obtain ⟨hfl0, hf0⟩ := gdE hf0
    obtain rfl := ze hf0
    exact zh X0 z6 hC hm hE 4000 (hs := [.l (out.map (eFl 1 (eI .i64)))]) (x := (.tup [eSl 1 true (eFl 1 (eI .i64)) out, I 0])) [ob o7] (by kernel_rfl) (haveI := flA (s := 1) (t := 1) (b := true) (f := (eI .i64)) hfl0; show LeV (.tup [eSl 1 true (eFl 1 (eI .i64)) out, I 0]) (.tup [eSl 1 true F1_ (out.map (·.1)), I 0]) from inferInstance)
   ·have o8 := vlM F2_ r_2 (0 : Int).toNat
    obtain ⟨t2, ht2, hf0⟩ := zi hf0
    refine zI ((xVl z6 23 22 1 4 pv4 (0 : Int) (by kernel_rfl)).or ((xMw Try.prog 22 4 1 pv4).or X0)) z6 hC hm [4,22,23,24] 4000 [.a (.atom (.int .i64 ((r_2.length - (0 : Int).toNat : Nat) : Int)))] (sub [1,1,1,1,1,2,1,0] yf) (frs [1,1,1,1,1,2,1,0] [J1] yf []) [(4, .own (eOs 1 true F2_ r_2)), (22, .d (.atom (qR 1 pv4 (0 : Int)))), (23, .d (I ((r_2.length - (0 : Int).toNat : Nat) : Int))), (24, .d (I 0))] [ob ((rfl : some pv4 = some pv4)), ob ((⟨rfl, rfl⟩ : T.d (.atom (qR 1 pv4 (0 : Int))) = T.d (.atom (qR 1 pv4 (0 : Int))) ∧ some pv4 = some pv4)), ob o8] (by kernel_rfl) fun st0 h0 => ?_
    refine zN (X := ((List (List Int × Bool)) × Int) × Nat) (c' := (sub [1,1,1,1,1,2,1,0,0] yf)) (by kernel_rfl) [4,22,23,24] (fun x => yG (fun s => jE r_2 s.1 s.2) x.2 x.1 = some t2) (fun x => x.2) (fun x => Xx pv4 r_2 x.1.1 x.1.2) (((r_2.map fun q => (q, false)), 0), wJ) _ h0 inferInstance ht2 ?_
    rintro ⟨⟨out2, x24⟩, n2⟩ hn2 J2 hJ2
    obtain ⟨m2, lr1, rfl, hf1, hl1⟩ := xM hn2
    try unfold jE at hf1
    rcases zY hf1 with ⟨c2, hf1⟩ | ⟨c2, hf1⟩
    ·obtain ⟨g0, hf1⟩ := gdE hf1
     obtain ⟨out_e, h5, hf1⟩ := zi hf1
     have o9 := (⟨g0.1, g0.2, (iL (eFl 1 (eI .i64)) h5).2⟩ : (0 : Int) ≤ 0 ∧ (0 : Int) ≤ x24 ∧ (0 + x24).toNat < (out2.map (eFl 1 (eI .i64))).length)
     obtain ⟨r_4, h6, hf1⟩ := zi hf1
     have o10 := yP h_slices_Clone_int_int (x := out_e.1) h6 (loC (eSl 1 out_e.2 (eI .i64)) out_e.1 <| loN)
     obtain ⟨r_5, h7, hf1⟩ := zi hf1
     have o11 := yP h_slices_Clip_int_int (x := r_4) h7 (loC F2_ r_4 <| loN)
     obtain ⟨out_e1, h8, hf1⟩ := zi hf1
     have o12 := sM (eFl 1 (eI .i64)) out2 x24 (r_5, true)
     obtain rfl := ze hf1
     exact zk ((xVi z6 27 1 4 pv4 (0 : Int)).or X0) z6 hC hm [4,22,23,24] 4000 [bT, .a ((eFl 1 (eI .i64)) out_e), .g [], .a (F3_ r_4), .g [], .l (r_4.map (eI .i64)), .a (F1_ r_5), .l (r_4.map (eI .i64)), .a ((eFl 1 (eI .i64)) out_e1), .a ((eFl 1 (eI .i64)) out_e1), .l ((out2.set x24.toNat (r_5, true)).map (eFl 1 (eI .i64)))] J2 [(4, .own (eOs 1 true (eFl 1 (eI .i64)) (out2.set x24.toNat (r_5, true)))), (22, .d (.atom (qR 1 pv4 (0 : Int)))), (23, .d (I ((r_2.length - (0 : Int).toNat : Nat) : Int))), (24, .d (I (w64 (x24 + 1))))] [ob c2, ob ((⟨rfl, rfl⟩ : T.d (.atom (qR 1 pv4 (0 : Int))) = T.d (.atom (qR 1 pv4 (0 : Int))) ∧ some pv4 = some pv4)), ob o9, ob (iM (eFl 1 (eI .i64)) h5), ob (zJ h_slices_Clone_int_int), ob o10, ob (zJ h_slices_Clip_int_int), ob (shM (eI .i64) (eI .i64) r_4), ob o11, ob (shM (eI .i64) (eI .i64) r_4), ob (iL (eFl 1 (eI .i64)) h8), ob (iM (eFl 1 (eI .i64)) h8), ob (iM (eFl 1 (eI .i64)) h8), ob o12] (by kernel_rfl) fun st0 h0 => hJ2 st0 _ (((out2.set x24.toNat (r_5, true)), w64 (x24 + 1)), m2) hl1 (Nat.lt_succ_self m2) h0 inferInstance
    ·obtain rfl := ze hf1
     obtain rfl := hl1
     exact zk X0 z6 hC hm [4] 4000 [bF] J1 [(4, .own (eOs 1 true (eFl 1 (eI .i64)) out2))] [ob c2] (by kernel_rfl) fun st0 h0 => hJ1 st0 _ out2 hf0 h0 inferInstance
noncomputable def JG : Code := (Try.f14.body).getD .skip
noncomputable def Zp : yw := spF (α := List (List Int) × Int) (ρ := List (List Int) × Int) 14 (fun x => [F7_ x.1, (eI .i64) x.2]) (fun r => .tup [F4_ r.1, (eI .i64) r.2]) (fun x => XP x.1 x.2) [] (by
 rintro ⟨a0, a1⟩ ⟨b0, b1⟩ h
 have e0 := yO.inj (f := F7_) _ _ (List.cons.inj h).1
 replace h := (List.cons.inj h).2
 have e1 := yO.inj (f := (eI .i64)) _ _ (List.cons.inj h).1
 subst e0 e1
 rfl)
theorem JY {ctr : Ctr} (hC : y6 Try.prog ctr) (hm : Try.prog.follows .mixedOrders = true) (h_tries_loose : ctr.Has qK) (h_tries_sorted : ctr.Has vU) : Zp.Ok Try.prog := by
 refine y8 ?_
 rintro ⟨l_, inputs⟩ r0 hf0
 try unfold XP at hf0
 refine zx (tt := yE) (keep := false) (rs := [(4, none), (5, none)]) (n := ⟨17, []⟩) (body := JG) z6 Try.func14 rfl (by kernel_rfl) rfl rfl (by show (2 : Nat) ≤ 17; decide) fun E hE => ?_
 obtain ⟨r_, h0, hf0⟩ := zi hf0
 have o0 := yP h_tries_loose (x := (l_, inputs)) h0 (loC F7_ l_ <| loC (eI .i64) inputs <| loN)
 rcases zY hf0 with ⟨c0, hf0⟩ | ⟨c0, hf0⟩
 ·have o1 := shM F2_ F2_ []
  obtain rfl := ze hf0
  exact zh X0 z6 hC hm hE 4000 (hs := [.g [], .a ((eI .i64) r_), bT, .l ([].map F2_)]) (x := (.tup [eSl 1 true F1_ [], I r_])) [ob (zJ h_tries_loose), ob o0, ob c0, ob o1] (by kernel_rfl) (show LeV (.tup [eSl 1 true F1_ [], I r_]) (.tup [eSl 1 true F1_ ([] : List (List Int)), I r_]) from inferInstance)
 ·obtain ⟨r_1, h1, hf0⟩ := zi hf0
  have o2 := yP h_tries_sorted (x := l_) h1 (loC F7_ l_ <| loN)
  obtain rfl := ze hf0
  exact zh X0 z6 hC hm hE 4000 (hs := [.g [], .a ((eI .i64) r_), bF, .g [], .a (.tup [eSl 1 true F1_ r_1.1, I r_1.2])]) (x := (.tup [eSl 1 true F1_ r_1.1, I r_1.2])) [ob (zJ h_tries_loose), ob o0, ob c0, ob (zJ h_tries_sorted), ob o2] (by kernel_rfl) (LeV.refl _)
noncomputable def yk : Code := (Try.f94.body).getD .skip
abbrev Zd (b_ : zn) (n_Next : List Int) : List (Nat × T) := [(0, .own (.box (z5m b_))), (3, .own (.box (.agg [eOs 1 true (eI .i64) n_Next, B false])))]
abbrev Zc (b_ : zn) (n_Next1 : List Int) (x14 : Int) : List (Nat × T) := [(0, .own (.box (z5m b_))), (3, .own (.box (.agg [eOs 1 true (eI .i64) n_Next1, B false]))), (13, .d (I (((List.replicate b_.inputs_.toNat (0 : Int)).length : Nat) : Int))), (14, .d (I x14))]
theorem jj {ctr : Ctr} (hC : y6 Try.prog ctr) (hm : Try.prog.follows .mixedOrders = true) (cv0 : Value) : ∀ (b_ : zn) (r0 : Int × zn), vO b_ = some r0 → qr Try.prog (.fn 94 []) [.atom cv0] ([cv0].zip [.box (.agg [I b_.inputs_, eOs 2 false F9_ b_.nodes_])]) (I r0.1) [.box (.agg [I r0.2.inputs_, eOs 2 false F9_ r0.2.nodes_])] := by
 intro b_ r0 hf0
 refine z4j (tt := yE) (nt := 38) (body := yk) [0] z6 Try.func94 rfl (by kernel_rfl) rfl rfl (by show (1 : Nat) ≤ 38; decide) (by decide) rfl rfl rfl rfl (fun E hE => ?_) rfl
 unfold vO at hf0
 refine z7U 0 (v := cv0) (y := .box (.agg [I b_.inputs_, eOs 2 false F9_ b_.nodes_])) (by kernel_rfl) (by kernel_rfl) (by kernel_rfl) fun hv0 => ?_
 obtain ⟨g0, hf0⟩ := gdE hf0
 have o0 := rM 1 (eI .i64) b_.inputs_ (0 : Int)
 refine zI X0 z6 hC hm [0,3] 4000 [.a (eOs 1 true (eI .i64) (List.replicate b_.inputs_.toNat (0 : Int))), .cut 0] (sub [1,1] yk) (frs [1,1] [] yk []) [(0, .own (.box (z5m b_))), (3, .own (.box (.agg [eOs 1 true (eI .i64) (List.replicate b_.inputs_.toNat (0 : Int)), B false])))] [ob (rL g0), ob o0] (by kernel_rfl) fun st0 h0 => ?_
 refine zr (X := List Int) (x := (sub [1,1,2] yk)) (y := (sub [1,1,1] yk)) (by kernel_rfl) [0,3] [0,3] _ h0 (fun z => vS b_ z = some r0) (fun z => Zd b_ z) ?_ fun J1 hJ1 => ?_
 ·rintro n_Next hf0
  unfold vS at hf0
  have o1 := oC F9_ (z7.mk n_Next false) []
  obtain ⟨g1, hf0⟩ := gdE hf0
  have o2 := aL F9_ F9_ g1
  have o3 := aM F9_ b_.nodes_ ([(z7.mk n_Next false)] : List z7)
  have o4 := lnM F9_ (b_.nodes_ ++ ([(z7.mk n_Next false)] : List z7))
  obtain rfl := ze hf0
  exact qa ((xNc Try.prog 30 0 cv0).or ((xMv Try.prog 22 0 cv0 hv0).or X0)) z6 hC hm [0,2] 4000 [bF, .l ((b_.nodes_ ++ ([(z7.mk n_Next false)] : List z7)).map F9_), .a (.atom (.int .i64 (((b_.nodes_ ++ ([(z7.mk n_Next false)] : List z7)).length : Nat) : Int)))] .ret [(0, .own (.box (.agg [I b_.inputs_, eOs 2 false F9_ (b_.nodes_ ++ ([(z7.mk n_Next false)] : List z7))]))), (2, .d (I (w64 ((((b_.nodes_ ++ ([(z7.mk n_Next false)] : List z7)).length : Nat) : Int) - 1))))] [ob ((rfl : some cv0 = some cv0)), ob o1, ob o2, ob o3, ob ((⟨rfl, rfl⟩ : T.d (.atom cv0) = T.d (.atom cv0) ∧ some cv0 = some cv0)), ob o4] (by kernel_rfl) fun st0 h0 => hE _ st0 (.inr rfl) (z0p h0 ⟨⟨rfl, rfl⟩, trivial⟩) (zba h0 rfl rfl)
 ·have o5 := lnM (eI .i64) (List.replicate b_.inputs_.toNat (0 : Int))
  obtain ⟨t2, ht2, hf0⟩ := zi hf0
  refine zI X0 z6 hC hm [0,3,13,14] 4000 [.a (.atom (.int .i64 (((List.replicate b_.inputs_.toNat (0 : Int)).length : Nat) : Int)))] (sub [1,1,2,1,0] yk) (frs [1,1,2,1,0] [J1] yk []) [(0, .own (.box (z5m b_))), (3, .own (.box (.agg [eOs 1 true (eI .i64) (List.replicate b_.inputs_.toNat (0 : Int)), B false]))), (13, .d (I (((List.replicate b_.inputs_.toNat (0 : Int)).length : Nat) : Int))), (14, .d (I 0))] [ob o5] (by kernel_rfl) fun st0 h0 => ?_
  refine zN (X := (List Int × Int) × Nat) (c' := (sub [1,1,2,1,0,0] yk)) (by kernel_rfl) [0,3,13,14] (fun x => yG (fun s => vR b_ s.1 s.2) x.2 x.1 = some t2) (fun x => x.2) (fun x => Zc b_ x.1.1 x.1.2) (((List.replicate b_.inputs_.toNat (0 : Int)), 0), wJ) _ h0 inferInstance ht2 ?_
  rintro ⟨⟨n_Next1, x14⟩, n2⟩ hn2 J2 hJ2
  obtain ⟨m2, lr1, rfl, hf1, hl1⟩ := xM hn2
  try unfold vR at hf1
  rcases zY hf1 with ⟨c0, hf1⟩ | ⟨c0, hf1⟩
  ·obtain ⟨n_Next_e, h0, hf1⟩ := zi hf1
   obtain rfl := ze hf1
   exact zk X0 z6 hC hm [0,3,13,14] 4000 [bT, .a ((eI .i64) n_Next_e), .a ((eI .i64) n_Next_e), .l ((n_Next1.set x14.toNat (-1)).map (eI .i64))] J2 [(0, .own (.box (z5m b_))), (3, .own (.box (.agg [eOs 1 true (eI .i64) (n_Next1.set x14.toNat (-1)), B false]))), (13, .d (I (((List.replicate b_.inputs_.toNat (0 : Int)).length : Nat) : Int))), (14, .d (I (w64 (x14 + 1))))] [ob c0, ob (iL (eI .i64) h0), ob (iM (eI .i64) h0), ob (iM (eI .i64) h0), ob (sM (eI .i64) n_Next1 x14 (-1))] (by kernel_rfl) fun st0 h0 => hJ2 st0 _ (((n_Next1.set x14.toNat (-1)), w64 (x14 + 1)), m2) hl1 (Nat.lt_succ_self m2) h0 inferInstance
  ·obtain rfl := ze hf1
   obtain rfl := hl1
   exact zk X0 z6 hC hm [0,3] 4000 [bF] J1 [(0, .own (.box (z5m b_))), (3, .own (.box (.agg [eOs 1 true (eI .i64) n_Next1, B false])))] [ob c0] (by kernel_rfl) fun st0 h0 => hJ1 st0 _ n_Next1 hf0 h0 inferInstance
noncomputable def zF : Code := (Try.f81.body).getD .skip
abbrev ZI (b_inputs1 : Int) (b_nodes1 : List z7) (at_ : Int) : List (Nat × T) := [(0, .own (.box (.agg [I b_inputs1, eOs 2 false F9_ b_nodes1]))), (4, .d (I at_))]
abbrev ZH (w_ : List Int) (at_1 : Int) (x18 : Int) (w__e : Int) (b_inputs3 : Int) (b_nodes3 : List z7) : List (Nat × T) := [(0, .own (.box (.agg [I b_inputs3, eOs 2 false F9_ b_nodes3]))), (4, .d (I at_1)), (6, .d (I w__e)), (16, .d (eSl 1 false (eI .i64) w_)), (17, .d (I ((w_.length : Nat) : Int))), (18, .d (I x18))]
abbrev ZG (w_ : List Int) (b_inputs2 : Int) (b_nodes2 : List z7) (at_1 : Int) (x18 : Int) : List (Nat × T) := [(0, .own (.box (.agg [I b_inputs2, eOs 2 false F9_ b_nodes2]))), (4, .d (I at_1)), (16, .d (eSl 1 false (eI .i64) w_)), (17, .d (I ((w_.length : Nat) : Int))), (18, .d (I x18))]
abbrev ZJ (w_ : List Int) (b_inputs : Int) (b_nodes : List z7) : List (Nat × T) := [(0, .own (.box (.agg [I b_inputs, eOs 2 false F9_ b_nodes]))), (1, .d (eSl 1 false (eI .i64) w_)), (4, .d (I 0))]
theorem YA {ctr : Ctr} (hC : y6 Try.prog ctr) (hm : Try.prog.follows .mixedOrders = true) (cv0 : Value) : ∀ (w_ : List Int) (b_ : zn) (r0 : zn), qA w_ b_ = some r0 → qr Try.prog (.fn 81 []) [.atom cv0, eSl 1 false (eI .i64) w_] ([cv0].zip [.box (.agg [I b_.inputs_, eOs 2 false F9_ b_.nodes_])]) (.tup []) [.box (.agg [I r0.inputs_, eOs 2 false F9_ r0.nodes_])] := by
 intro w_ b_ r0 hf0
 refine z4k (tt := yE) (nt := 66) (body := zF) [0] z6 Try.func81 rfl (by kernel_rfl) rfl rfl (by show (2 : Nat) ≤ 66; decide) (by decide) rfl rfl (fun E hE => ?_) rfl
 unfold qA at hf0
 refine zI X0 z6 hC hm [0,1,4] 4000 [.cut 1] (sub [1] zF) (frs [1] [] zF []) [(0, .own (.box (z5m b_))), (1, .d (eSl 1 false (eI .i64) w_)), (4, .d (I 0))] [] (by kernel_rfl) fun st0 h0 => ?_
 refine zr (X := Int × List z7) (x := (sub [1,2] zF)) (y := (sub [1,1] zF)) (by kernel_rfl) [0,1,4] [0,1,4] _ h0 (fun z => wL w_ z.1 z.2 = some r0) (fun z => ZJ w_ z.1 z.2) ?_ fun J1 hJ1 => ?_
 ·rintro ⟨b_inputs, b_nodes⟩ hf0
  unfold wL at hf0
  refine zI X0 z6 hC hm [0,1,4] 4000 [.cut 0] (sub [1,1] zF) (frs [1,1] [] zF []) [(0, .own (.box (.agg [I b_inputs, eOs 2 false F9_ b_nodes]))), (1, .d (eSl 1 false (eI .i64) w_)), (4, .d (I 0))] [] (by kernel_rfl) fun st0 h0 => ?_
  refine zr (X := Int × List z7 × Int) (x := (sub [1,1,2] zF)) (y := (sub [1,1,1] zF)) (by kernel_rfl) [0,4] [0,1,4] _ h0 (fun z => ue z.1 z.2.1 z.2.2 = some r0) (fun z => ZI z.1 z.2.1 z.2.2) ?_ fun J2 hJ2 => ?_
  ·rintro ⟨b_inputs1, b_nodes1, at_⟩ hf0
   unfold ue at hf0
   obtain ⟨b_node_e, h0, hf0⟩ := zi hf0
   have o0 := iL F9_ h0
   have o1 := iM F9_ h0
   have o2 := iM F9_ h0
   have o3 := iM F9_ h0
   have o4 := sM F9_ b_nodes1 at_ (z7.mk b_node_e.Next true)
   obtain rfl := ze hf0
   exact qa X0 z6 hC hm [0] 4000 [.a (F9_ b_node_e), .a (F9_ b_node_e), .a (F9_ b_node_e), .l ((b_nodes1.set at_.toNat (z7.mk b_node_e.Next true)).map F9_)] .normal [(0, .own (.box (.agg [I b_inputs1, eOs 2 false F9_ (b_nodes1.set at_.toNat (z7.mk b_node_e.Next true))])))] [ob o0, ob o1, ob o2, ob o3, ob o4] (by kernel_rfl) fun st0 h0 => hE _ st0 (.inl rfl) (z0p h0 ⟨⟨rfl, rfl⟩, trivial⟩)
  ·obtain ⟨t3, ht3, hf0⟩ := zi hf0
   refine zI X0 z6 hC hm [0,4,16,17,18] 4000 [aLn w_.length] (sub [1,1,2,1,0] zF) (frs [1,1,2,1,0] [J2] zF []) [(0, .own (.box (.agg [I b_inputs, eOs 2 false F9_ b_nodes]))), (4, .d (I 0)), (16, .d (eSl 1 false (eI .i64) w_)), (17, .d (I ((w_.length : Nat) : Int))), (18, .d (I 0))] [ob (lnM (eI .i64) w_)] (by kernel_rfl) fun st0 h0 => ?_
   refine zN (X := (Int × List z7 × Int × Int) × Nat) (c' := (sub [1,1,2,1,0,0] zF)) (by kernel_rfl) [0,4,16,17,18] (fun x => yG (fun s => ud w_ s.1 s.2.1 s.2.2.1 s.2.2.2) x.2 x.1 = some t3) (fun x => x.2) (fun x => ZG w_ x.1.1 x.1.2.1 x.1.2.2.1 x.1.2.2.2) ((b_inputs, b_nodes, 0,0), wJ) _ h0 inferInstance ht3 ?_
   rintro ⟨⟨b_inputs2, b_nodes2, at_1, x18⟩, n3⟩ hn3 J3 hJ3
   obtain ⟨m3, lr1, rfl, hf1, hl1⟩ := xM hn3
   try unfold ud at hf1
   rcases zY hf1 with ⟨c0, hf1⟩ | ⟨c0, hf1⟩
   ·obtain ⟨w__e, h1, hf1⟩ := zi hf1
    refine zI X0 z6 hC hm [0,4,6,16,17,18] 4000 [bT, .a ((eI .i64) w__e), .cut 0] (sub [1,1,2,1,0,0,1,1,0,0,1] zF) (frs [1,1,2,1,0,0,1,1,0,0,1] [J2, J3] zF []) [(0, .own (.box (.agg [I b_inputs2, eOs 2 false F9_ b_nodes2]))), (4, .d (I at_1)), (6, .d (I w__e)), (16, .d (eSl 1 false (eI .i64) w_)), (17, .d (I ((w_.length : Nat) : Int))), (18, .d (I x18))] [ob c0, ob (i0 h1), ob (iM (eI .i64) h1)] (by kernel_rfl) fun st0 h0 => ?_
    refine zr (X := Int × List z7) (x := (sub [1,1,2,1,0,0,1,1,0,0,1,2] zF)) (y := (sub [1,1,2,1,0,0,1,1,0,0,1,1] zF)) (by kernel_rfl) [0,4,6,16,17,18] [0,4,6,16,17,18] _ h0 (fun z => wK at_1 x18 w__e z.1 z.2 = some lr1) (fun z => ZH w_ at_1 x18 w__e z.1 z.2) ?_ fun J4 hJ4 => ?_
    ·rintro ⟨b_inputs3, b_nodes3⟩ hf1
     unfold wK at hf1
     obtain ⟨b_node_e1, h2, hf1⟩ := zi hf1
     have o5 := iL F9_ h2
     have o6 := iM F9_ h2
     have o7 := iM F9_ h2
     have o8 := iM F9_ h2
     obtain ⟨Next_e, h3, hf1⟩ := zi hf1
     have o9 := iM F9_ h2
     obtain rfl := ze hf1
     exact zk X0 z6 hC hm [0,4,16,17,18] 4000 [.a (F9_ b_node_e1), .a (F9_ b_node_e1), .a (F9_ b_node_e1), .a (F9_ b_node_e1), .a ((eI .i64) Next_e)] J3 [(0, .own (.box (.agg [I b_inputs3, eOs 2 false F9_ b_nodes3]))), (4, .d (I Next_e)), (16, .d (eSl 1 false (eI .i64) w_)), (17, .d (I ((w_.length : Nat) : Int))), (18, .d (I (w64 (x18 + 1))))] [ob o5, ob o6, ob o7, ob o8, ob (iL (eI .i64) h3), ob o9, ob (iM (eI .i64) h3)] (by kernel_rfl) fun st0 h0 => hJ3 st0 _ ((b_inputs3, b_nodes3, Next_e, w64 (x18 + 1)), m3) hl1 (Nat.lt_succ_self m3) h0 inferInstance
    ·obtain ⟨b_node_e2, h4, hf1⟩ := zi hf1
     have o10 := iL F9_ h4
     have o11 := iM F9_ h4
     have o12 := iM F9_ h4
     have o13 := iM F9_ h4
     obtain ⟨Next_e1, h5, hf1⟩ := zi hf1
     have o14 := iM F9_ h4
     rcases zY hf1 with ⟨c1, hf1⟩ | ⟨c1, hf1⟩
     ·obtain ⟨r_, h6, hf1⟩ := zi hf1
      obtain ⟨nodes__e, h7, hf1⟩ := zi hf1
      have o15 := iL F9_ h7
      have o16 := iM F9_ h7
      have o17 := iM F9_ h7
      have o18 := iM F9_ h7
      obtain ⟨Next_e2, h8, hf1⟩ := zi hf1
      have o19 := iM F9_ h7
      have o20 := iM F9_ h7
      have o21 := sM (eI .i64) nodes__e.Next w__e r_.1
      have o22 := sM F9_ r_.2.nodes_ at_1 (z7.mk (nodes__e.Next.set w__e.toNat r_.1) nodes__e.End)
      exact zk ((ug (P := Try.prog) yE [0] (jj hC hm cv0 _ _ h6) 35).or X0) z6 hC hm [0,4,6,16,17,18] 4000 [.a (F9_ b_node_e2), .a (F9_ b_node_e2), .a (F9_ b_node_e2), .a (F9_ b_node_e2), .a ((eI .i64) Next_e1), bT, .a (F9_ nodes__e), .a (F9_ nodes__e), .a (F9_ nodes__e), .a (F9_ nodes__e), .a ((eI .i64) Next_e2), .a (F9_ nodes__e), .a ((eI .i64) Next_e2), .l ((nodes__e.Next.set w__e.toNat r_.1).map (eI .i64)), .l ((r_.2.nodes_.set at_1.toNat (z7.mk (nodes__e.Next.set w__e.toNat r_.1) nodes__e.End)).map F9_)] J4 [(0, .own (.box (.agg [I r_.2.inputs_, eOs 2 false F9_ (r_.2.nodes_.set at_1.toNat (z7.mk (nodes__e.Next.set w__e.toNat r_.1) nodes__e.End))]))), (4, .d (I at_1)), (6, .d (I w__e)), (16, .d (eSl 1 false (eI .i64) w_)), (17, .d (I ((w_.length : Nat) : Int))), (18, .d (I x18))] [ob o10, ob o11, ob o12, ob o13, ob (iL (eI .i64) h5), ob o14, ob (iM (eI .i64) h5), ob c1, ob (jM (f := .fn 94 []) (xs := [.atom cv0]) (ls := [(cv0, .box (.agg [I b_inputs2, eOs 2 false F9_ b_nodes2]))]) (r := I r_.1) (ys := [.box (.agg [I r_.2.inputs_, eOs 2 false F9_ r_.2.nodes_])]) [.atom cv0] (show QI [.atom cv0] [.atom cv0] from inferInstance)), ob o15, ob o16, ob o17, ob o18, ob (iL (eI .i64) h8), ob o19, ob (iM (eI .i64) h8), ob o20, ob (iM (eI .i64) h8), ob o21, ob o22] (by kernel_rfl) fun st0 h0 => hJ4 st0 _ (r_.2.inputs_, (r_.2.nodes_.set at_1.toNat (z7.mk (nodes__e.Next.set w__e.toNat r_.1) nodes__e.End))) hf1 h0 inferInstance
     ·exact zk X0 z6 hC hm [0,4,6,16,17,18] 4000 [.a (F9_ b_node_e2), .a (F9_ b_node_e2), .a (F9_ b_node_e2), .a (F9_ b_node_e2), .a ((eI .i64) Next_e1), bF] J4 [(0, .own (.box (.agg [I b_inputs2, eOs 2 false F9_ b_nodes2]))), (4, .d (I at_1)), (6, .d (I w__e)), (16, .d (eSl 1 false (eI .i64) w_)), (17, .d (I ((w_.length : Nat) : Int))), (18, .d (I x18))] [ob o10, ob o11, ob o12, ob o13, ob (iL (eI .i64) h5), ob o14, ob (iM (eI .i64) h5), ob c1] (by kernel_rfl) fun st0 h0 => hJ4 st0 _ (b_inputs2, b_nodes2) hf1 h0 inferInstance
   ·obtain rfl := ze hf1
    obtain rfl := hl1
    exact zk X0 z6 hC hm [0,4] 4000 [bF] J2 [(0, .own (.box (.agg [I b_inputs2, eOs 2 false F9_ b_nodes2]))), (4, .d (I at_1))] [ob c0] (by kernel_rfl) fun st0 h0 => hJ2 st0 _ (b_inputs2, b_nodes2, at_1) hf0 h0 inferInstance
 ·have o23 := lnM F9_ b_.nodes_
  rcases zY hf0 with ⟨c2, hf0⟩ | ⟨c2, hf0⟩
  ·obtain ⟨r_1, h9, hf0⟩ := zi hf0
   exact zk ((ug (P := Try.prog) yE [0] (jj hC hm cv0 _ _ h9) 15).or X0) z6 hC hm [0,1,4] 4000 [aLn b_.nodes_.length, bT] J1 [(0, .own (.box (.agg [I r_1.2.inputs_, eOs 2 false F9_ r_1.2.nodes_]))), (1, .d (eSl 1 false (eI .i64) w_)), (4, .d (I 0))] [ob o23, ob c2, ob (jM (f := .fn 94 []) (xs := [.atom cv0]) (ls := [(cv0, .box (.agg [I b_.inputs_, eOs 2 false F9_ b_.nodes_]))]) (r := I r_1.1) (ys := [.box (.agg [I r_1.2.inputs_, eOs 2 false F9_ r_1.2.nodes_])]) [.atom cv0] (show QI [.atom cv0] [.atom cv0] from inferInstance))] (by kernel_rfl) fun st0 h0 => hJ1 st0 _ (r_1.2.inputs_, r_1.2.nodes_) hf0 h0 inferInstance
  ·exact zk X0 z6 hC hm [0,1,4] 4000 [aLn b_.nodes_.length, bF] J1 [(0, .own (.box (.agg [I b_.inputs_, eOs 2 false F9_ b_.nodes_]))), (1, .d (eSl 1 false (eI .i64) w_)), (4, .d (I 0))] [ob o23, ob c2] (by kernel_rfl) fun st0 h0 => hJ1 st0 _ (b_.inputs_, b_.nodes_) hf0 h0 inferInstance
noncomputable def wH : Code := (Try.f57.body).getD .skip
noncomputable def jN : yw := spF (α := List (List Int) × Int) (ρ := zn) 57 (fun x => [F7_ x.1, (eI .i64) x.2]) (fun r => z6Z r) (fun x => X4 x.1 x.2) [] (by
 rintro ⟨a0, a1⟩ ⟨b0, b1⟩ h
 have e0 := yO.inj (f := F7_) _ _ (List.cons.inj h).1
 replace h := (List.cons.inj h).2
 have e1 := yO.inj (f := (eI .i64)) _ _ (List.cons.inj h).1
 subst e0 e1
 rfl)
abbrev Qa (b_inputs : Int) (b_nodes : List z7) : List (Nat × T) := [(5, .own (.box (.agg [I b_inputs, eOs 2 false F9_ b_nodes])))]
abbrev Q9 (l_ : List (List Int)) (b_inputs1 : Int) (b_nodes1 : List z7) (x13 : Int) : List (Nat × T) := [(5, .own (.box (.agg [I b_inputs1, eOs 2 false F9_ b_nodes1]))), (11, .d (eSl 1 false F2_ l_)), (12, .d (I ((l_.length : Nat) : Int))), (13, .d (I x13))]
theorem z1F {ctr : Ctr} (hC : y6 Try.prog ctr) (hm : Try.prog.follows .mixedOrders = true) : jN.Ok Try.prog := by
 refine y8 ?_
 rintro ⟨l_, inputs⟩ r0 hf0
 try unfold X4 at hf0
 refine zx (tt := yE) (keep := true) (rs := [(4, none)]) (n := ⟨22, []⟩) (body := wH) z6 Try.func57 rfl (by kernel_rfl) rfl rfl (by show (2 : Nat) ≤ 22; decide) fun E hE => ?_
 refine zI X0 z6 hC hm [0,5] 4000 [.cut 2] (sub [1,1] wH) (frs [1,1] [] wH []) [(0, .d (eSl 1 false F2_ l_)), (5, .own (.box (.agg [I inputs, eOs 2 true zH []])))] [] (by kernel_rfl) fun st0 h0 => WW h0 ?_
 refine z7T (by kernel_rfl) 5 fun pv5 => ?_
 refine zI X0 z6 hC hm [0,5] 4000 [.cut 0] (sub [1,1] wH) (frs [1,1] [] wH []) [(0, .d (eSl 1 false F2_ l_)), (5, .own (.box (.agg [I inputs, eOs 2 true zH []])))] [] (by kernel_rfl) fun st0 h0 => ?_
 refine zr (X := Int × List z7) (x := (sub [1,1,2] wH)) (y := (sub [1,1,1] wH)) (by kernel_rfl) [5] [0,5] _ h0 (fun z => YD z.1 z.2 = some r0) (fun z => Qa z.1 z.2) ?_ fun J1 hJ1 => ?_
 ·rintro ⟨b_inputs, b_nodes⟩ hf0
  unfold YD at hf0
  obtain rfl := ze hf0
  exact zh X0 z6 hC hm hE 4000 (hs := []) (x := (.box (.agg [I b_inputs, eOs 2 false F9_ b_nodes]))) [] (by kernel_rfl) (LeV.refl _)
 ·obtain ⟨t2, ht2, hf0⟩ := zi hf0
  refine zI X0 z6 hC hm [5,11,12,13] 4000 [aLn l_.length] (sub [1,1,2,1,0] wH) (frs [1,1,2,1,0] [J1] wH []) [(5, .own (.box (.agg [I inputs, eOs 2 true F9_ []]))), (11, .d (eSl 1 false F2_ l_)), (12, .d (I ((l_.length : Nat) : Int))), (13, .d (I 0))] [ob (lnM F2_ l_)] (by kernel_rfl) fun st0 h0 => ?_
  refine zN (X := (Int × List z7 × Int) × Nat) (c' := (sub [1,1,2,1,0,0] wH)) (by kernel_rfl) [5,11,12,13] (fun x => yG (fun s => YC l_ s.1 s.2.1 s.2.2) x.2 x.1 = some t2) (fun x => x.2) (fun x => Q9 l_ x.1.1 x.1.2.1 x.1.2.2) ((inputs, ([] : List z7), 0), wJ) _ h0 inferInstance ht2 ?_
  rintro ⟨⟨b_inputs1, b_nodes1, x13⟩, n2⟩ hn2 J2 hJ2
  obtain ⟨m2, lr1, rfl, hf1, hl1⟩ := xM hn2
  try unfold YC at hf1
  rcases zY hf1 with ⟨c0, hf1⟩ | ⟨c0, hf1⟩
  ·obtain ⟨l__e, h0, hf1⟩ := zi hf1
   obtain ⟨r_, h1, hf1⟩ := zi hf1
   obtain rfl := ze hf1
   exact zk ((ug (P := Try.prog) yE [5] (YA hC hm pv5 _ _ _ h1) 19).or X0) z6 hC hm [5,11,12,13] 4000 [bT, .a (F2_ l__e)] J2 [(5, .own (.box (.agg [I r_.inputs_, eOs 2 false F9_ r_.nodes_]))), (11, .d (eSl 1 false F2_ l_)), (12, .d (I ((l_.length : Nat) : Int))), (13, .d (I (w64 (x13 + 1))))] [ob c0, ob (i0 h0), ob (iM F2_ h0), ob (jM (f := .fn 81 []) (xs := [.atom pv5, F2_ l__e]) (ls := [(pv5, .box (.agg [I b_inputs1, eOs 2 false F9_ b_nodes1]))]) (r := .tup []) (ys := [.box (.agg [I r_.inputs_, eOs 2 false F9_ r_.nodes_])]) [.atom pv5, F2_ l__e] (show QI [.atom pv5, F2_ l__e] [.atom pv5, F2_ l__e] from inferInstance))] (by kernel_rfl) fun st0 h0 => hJ2 st0 _ ((r_.inputs_, r_.nodes_, w64 (x13 + 1)), m2) hl1 (Nat.lt_succ_self m2) h0 inferInstance
  ·obtain rfl := ze hf1
   obtain rfl := hl1
   exact zk X0 z6 hC hm [5] 4000 [bF] J1 [(5, .own (.box (.agg [I b_inputs1, eOs 2 false F9_ b_nodes1])))] [ob c0] (by kernel_rfl) fun st0 h0 => hJ1 st0 _ (b_inputs1, b_nodes1) hf0 h0 inferInstance
noncomputable def yK : Code := (Try.f56.body).getD .skip
noncomputable def jd : yw := spF (α := List z7 × Unit) (ρ := List (List Int)) 56 (fun x => [z03 x.1, (JQ 58) x.2]) (fun r => F4_ r) (fun x => Zi x.1 x.2) [] (by
 rintro ⟨a0, a1⟩ ⟨b0, b1⟩ h
 have e0 := yO.inj (f := z03) _ _ (List.cons.inj h).1
 replace h := (List.cons.inj h).2
 have e1 := yO.inj (f := (JQ 58)) _ _ (List.cons.inj h).1
 subst e0 e1
 rfl)
abbrev YU (out : List (List Int)) : List (Nat × T) := [(4, .own (.box (eOs 1 false F1_ out)))]
abbrev uB (nodes : List z7) (r_1 : List z7) (out1 : List (List Int)) : List (Nat × T) := [(2, .own (.box (eSl 2 false zH nodes))), (3, .own (.box (.fn 58 []))), (4, .own (.box (eOs 1 false F1_ out1))), (7, .d (.fn 85 [.sptr (eSl 2 false zH r_1)]))]
theorem Vz {ctr : Ctr} (hC : y6 Try.prog ctr) (hm : Try.prog.follows .mixedOrders = true) (h_tries_walk : ctr.Has vg) (h_slices_Clip_int_int : ctr.Has zV) (h_tries_leaf : ctr.Has uQ) (h_slices_Clone_int_int : ctr.Has yl) : jd.Ok Try.prog := by
 refine y8 ?_
 rintro ⟨nodes, is⟩ r0 hf0
 try unfold Zi at hf0
 refine zx (tt := yE) (keep := false) (rs := [(4, some 22)]) (n := ⟨25, []⟩) (body := yK) z6 Try.func56 rfl (by kernel_rfl) rfl rfl (by show (2 : Nat) ≤ 25; decide) fun E hE => ?_
 refine zI X0 z6 hC hm [2,3,4] 4000 [.cut 1] (sub [1] yK) (frs [1] [] yK []) [(2, .own (.box (eSl 2 false zH nodes))), (3, .own (.box (.fn 58 []))), (4, .own (.box (eOs 1 true F2_ [])))] [] (by kernel_rfl) fun st0 h0 => ?_
 refine zr (X := List (List Int)) (x := (sub [1,2] yK)) (y := (sub [1,1] yK)) (by kernel_rfl) [4] [2,3,4] _ h0 (fun z => j9 z = some r0) (fun z => YU z) ?_ fun J1 hJ1 => ?_
 ·rintro out hf0
  unfold j9 at hf0
  have o0 := shM F1_ F1_ out
  have o1 := shM F1_ F1_ out
  obtain ⟨r_, h0, hf0⟩ := zi hf0
  have o2 := wc out _ h0
  have o3 := shM F1_ F1_ out
  obtain rfl := ze hf0
  exact zh ((QK z6 (wB hC hm) 24).or X0) z6 hC hm hE 4000 (hs := [.g [], .l (out.map F1_), .a (F4_ r_), .l (out.map F1_)]) (x := (eSl 1 true F1_ r_)) [ob we, ob o1, ob o2, ob o3] (by kernel_rfl) (LeV.refl _)
 ·obtain ⟨r_1, h1, hf0⟩ := zi hf0
  have o4 := yP h_tries_walk (x := nodes) h1 (loC z03 nodes <| loN)
  obtain ⟨t2, ht2, hf0⟩ := zi hf0
  refine zI X0 z6 hC hm [2,3,4,7] 4000 [.g [], .a ((z02 85 z8T) r_1)] (sub [1,2,1,0] yK) (frs [1,2,1,0] [J1] yK []) [(2, .own (.box (eSl 2 false zH nodes))), (3, .own (.box (.fn 58 []))), (4, .own (.box (eOs 1 true F1_ []))), (7, .d (.fn 85 [.sptr (eSl 2 false zH r_1)]))] [ob (zJ h_tries_walk), ob o4] (by kernel_rfl) fun st0 h0 => ?_
  refine JJ (g := .tmp 7) (ps := [8]) (assign := (sub [1,2,1,0,0] yK)) (body := (sub [1,2,1,0,1] yK)) (K := 85) (caps := [.sptr (eSl 2 false zH r_1)]) (by kernel_rfl) [2,3,4,7] (fun s => uB nodes r_1 s) (fun z => nomatch z) (fun z => nomatch z) ((fun (x : za) (_ : Bool) (_ : Value) => [u4 x])) (F := @x4 r_1) (fun s x => uq nodes s x) ([] : List (List Int)) t2 _ h0 inferInstance (by kernel_rfl) (by decide) (fun _ => rfl) (by rintro ⟨⟩) (by kernel_rfl) (fun _ _ _ => rfl) (qH hC hm h_slices_Clip_int_int r_1) ht2 ?_ ?_
  ·rintro tv2 out1 x8 vr lr1 hf1
   replace hf1 : uq nodes out1 x8 = some lr1 := hf1
   unfold uq at hf1
   refine qa X0 z6 hC hm [2,3,4,5,7] 4000 [] .normal [(2, .own (.box (eSl 2 false zH nodes))), (3, .own (.box (.fn 58 []))), (4, .own (.box (eOs 1 false F1_ out1))), (5, .own (.box (u4 x8))), (7, .d (.fn 85 [.sptr (eSl 2 false zH r_1)]))] [] (by kernel_rfl) fun st0 h0 => ⟨rfl, WW h0 ?_⟩
   obtain ⟨node_e, h2, hf1⟩ := zi hf1
   have o5 := iM zH h2
   obtain ⟨r_2, h3, hf1⟩ := zi hf1
   have o6 := yP h_tries_leaf (x := node_e) h3 (loC zH node_e <| loN)
   rcases zY hf1 with ⟨c0, hf1⟩ | ⟨c0, hf1⟩
   ·obtain ⟨r_3, h4, hf1⟩ := zi hf1
    have o7 := yP h_slices_Clone_int_int (x := x8.w_) h4 (loC F2_ x8.w_ <| loN)
    obtain ⟨r_4, h5, hf1⟩ := zi hf1
    have o8 := yP h_slices_Clip_int_int (x := r_3) h5 (loC F2_ r_3 <| loN)
    have o9 := dM F1_ ([r_4] : List (List Int))
    have o10 := dM F1_ ([r_4] : List (List Int))
    obtain ⟨g0, hf1⟩ := gdE hf1
    have o11 := aL F1_ F1_ g0
    have o12 := aM F1_ out1 ([r_4] : List (List Int))
    obtain rfl := ze hf1
    exact qa X0 z6 hC hm [2,3,4,7] 4000 [.a (zH node_e), .g [], .a (eB r_2), bT, .g [], .a (F3_ r_3), .g [], .l (r_3.map (eI .i64)), .a (F1_ r_4), .l (r_3.map (eI .i64)), bT, .l ((out1 ++ ([r_4] : List (List Int))).map F1_)] .normal [(2, .own (.box (eSl 2 false zH nodes))), (3, .own (.box (.fn 58 []))), (4, .own (.box (eOs 1 false F1_ (out1 ++ ([r_4] : List (List Int)))))), (7, .d (.fn 85 [.sptr (eSl 2 false zH r_1)]))] [ob (i0 h2), ob o5, ob (zJ h_tries_leaf), ob o6, ob c0, ob (zJ h_slices_Clone_int_int), ob o7, ob (zJ h_slices_Clip_int_int), ob (shM (eI .i64) (eI .i64) r_3), ob o8, ob (shM (eI .i64) (eI .i64) r_3), ob o9, ob o10, ob o11, ob o12] (by kernel_rfl) fun st0 h0 => ⟨rfl, _, h0, (inferInstance : LeL [(2, .own (.box (eSl 2 false zH nodes))), (3, .own (.box (.fn 58 []))), (4, .own (.box (eOs 1 false F1_ (out1 ++ ([r_4] : List (List Int)))))), (7, .d (.fn 85 [.sptr (eSl 2 false zH r_1)]))] (uB nodes r_1 (out1 ++ ([r_4] : List (List Int)))))⟩
   ·obtain rfl := ze hf1
    exact qa X0 z6 hC hm [2,3,4,7] 4000 [.a (zH node_e), .g [], .a (eB r_2), bF] .normal [(2, .own (.box (eSl 2 false zH nodes))), (3, .own (.box (.fn 58 []))), (4, .own (.box (eOs 1 false F1_ out1))), (7, .d (.fn 85 [.sptr (eSl 2 false zH r_1)]))] [ob (i0 h2), ob o5, ob (zJ h_tries_leaf), ob o6, ob c0] (by kernel_rfl) fun st0 h0 => ⟨rfl, _, h0, (inferInstance : LeL [(2, .own (.box (eSl 2 false zH nodes))), (3, .own (.box (.fn 58 []))), (4, .own (.box (eOs 1 false F1_ out1))), (7, .d (.fn 85 [.sptr (eSl 2 false zH r_1)]))] (uB nodes r_1 out1))⟩
  ·rcases t2 with out1 | z
   ·dsimp only at hf0
    exact Xo (by kernel_rfl) (hJ1 _ [(4, .own (.box (eOs 1 false F1_ out1)))] out1 hf0 (show Own.canon [4] _ = ofL _ by kernel_rfl) inferInstance)
   ·cases z
noncomputable def Ux : Code := (Try.f21.body).getD .skip
noncomputable def jO : yw := spF (α := List (List Int) × Int) (ρ := List (List Int) × Int) 21 (fun x => [F7_ x.1, (eI .i64) x.2]) (fun r => .tup [F4_ r.1, (eI .i64) r.2]) (fun x => ZU x.1 x.2) [] (by
 rintro ⟨a0, a1⟩ ⟨b0, b1⟩ h
 have e0 := yO.inj (f := F7_) _ _ (List.cons.inj h).1
 replace h := (List.cons.inj h).2
 have e1 := yO.inj (f := (eI .i64)) _ _ (List.cons.inj h).1
 subst e0 e1
 rfl)
theorem UZ {ctr : Ctr} (hC : y6 Try.prog ctr) (hm : Try.prog.follows .mixedOrders = true) (h_tries_Check : ctr.Has xR) (h_tries_of : ctr.Has jN) (h_tries_collect : ctr.Has jd) : jO.Ok Try.prog := by
 refine y8 ?_
 rintro ⟨l_, inputs⟩ r0 hf0
 try unfold ZU at hf0
 refine zx (tt := yE) (keep := false) (rs := [(4, none), (5, none)]) (n := ⟨20, []⟩) (body := Ux) z6 Try.func21 rfl (by kernel_rfl) rfl rfl (by show (2 : Nat) ≤ 20; decide) fun E hE => ?_
 obtain ⟨r_, h0, hf0⟩ := zi hf0
 have o0 := yP h_tries_Check (x := (l_, inputs)) h0 (loC F7_ l_ <| loC (eI .i64) inputs <| loN)
 rcases zY hf0 with ⟨c0, hf0⟩ | ⟨c0, hf0⟩
 ·have o1 := shM F2_ F2_ []
  obtain rfl := ze hf0
  exact zh X0 z6 hC hm hE 4000 (hs := [.g [], .a ((eI .i64) r_), bT, .l ([].map F2_)]) (x := (.tup [eSl 1 true F1_ [], I r_])) [ob (zJ h_tries_Check), ob o0, ob c0, ob o1] (by kernel_rfl) (show LeV (.tup [eSl 1 true F1_ [], I r_]) (.tup [eSl 1 true F1_ ([] : List (List Int)), I r_]) from inferInstance)
 ·obtain ⟨r_1, h1, hf0⟩ := zi hf0
  have o2 := yP h_tries_of (x := (l_, inputs)) h1 (loC F7_ l_ <| loC (eI .i64) inputs <| loN)
  have o3 := shM F9_ KX r_1.nodes_
  obtain ⟨r_2, h2, hf0⟩ := zi hf0
  have o4 := yP h_tries_collect (x := (r_1.nodes_, ())) h2 (loC (eSl 2 false KX) r_1.nodes_ <| loC (JQ 58) () <| loN)
  have o5 := shM F9_ KX r_1.nodes_
  obtain rfl := ze hf0
  exact zh X0 z6 hC hm hE 4000 (hs := [.g [], .a ((eI .i64) r_), bF, .g [], .a (z6Z r_1), .g [], .l (r_1.nodes_.map KX), .a (F4_ r_2), .l (r_1.nodes_.map KX)]) (x := (.tup [eSl 1 true F1_ r_2, I 0])) [ob (zJ h_tries_Check), ob o0, ob c0, ob (zJ h_tries_of), ob o2, ob (zJ h_tries_collect), ob o3, ob o4, ob o5] (by kernel_rfl) (LeV.refl _)
noncomputable def YQ : Code := (Try.f60.body).getD .skip
noncomputable def vh : yw := spF (α := z7) (ρ := Bool) 60 (fun x => [zH x]) (fun r => eB r) (fun x => ja x) [] (by
 rintro a0 b0 h
 have e0 := yO.inj (f := zH) _ _ (List.cons.inj h).1
 subst e0
 rfl)
theorem X3 {ctr : Ctr} (hC : y6 Try.prog ctr) (hm : Try.prog.follows .mixedOrders = true) : vh.Ok Try.prog := by
 refine y8 ?_
 rintro x0 r0 hf0
 try unfold ja at hf0
 refine zx (tt := yE) (keep := true) (rs := [(2, none)]) (n := ⟨3, []⟩) (body := YQ) z6 Try.func60 rfl (by kernel_rfl) rfl rfl (by show (1 : Nat) ≤ 3; decide) fun E hE => ?_
 obtain rfl := ze hf0
 exact zh X0 z6 hC hm hE 4000 (hs := []) (x := (B true)) [] (by kernel_rfl) (LeV.refl _)
noncomputable def yn : Code := (Try.f56.body).getD .skip
noncomputable def uy : yw := spF (α := List z7 × Unit) (ρ := List (List Int)) 56 (fun x => [z03 x.1, (JQ 60) x.2]) (fun r => F4_ r) (fun x => j8 x.1 x.2) [] (by
 rintro ⟨a0, a1⟩ ⟨b0, b1⟩ h
 have e0 := yO.inj (f := z03) _ _ (List.cons.inj h).1
 replace h := (List.cons.inj h).2
 have e1 := yO.inj (f := (JQ 60)) _ _ (List.cons.inj h).1
 subst e0 e1
 rfl)
abbrev ZP (out : List (List Int)) : List (Nat × T) := [(4, .own (.box (eOs 1 false F1_ out)))]
abbrev vN (nodes : List z7) (r_1 : List z7) (out1 : List (List Int)) : List (Nat × T) := [(2, .own (.box (eSl 2 false zH nodes))), (3, .own (.box (.fn 60 []))), (4, .own (.box (eOs 1 false F1_ out1))), (7, .d (.fn 85 [.sptr (eSl 2 false zH r_1)]))]
theorem X2 {ctr : Ctr} (hC : y6 Try.prog ctr) (hm : Try.prog.follows .mixedOrders = true) (h_tries_walk : ctr.Has vg) (h_slices_Clip_int_int : ctr.Has zV) (h_tries_Prefixes_1 : ctr.Has vh) (h_slices_Clone_int_int : ctr.Has yl) : uy.Ok Try.prog := by
 refine y8 ?_
 rintro ⟨nodes, is⟩ r0 hf0
 try unfold j8 at hf0
 refine zx (tt := yE) (keep := false) (rs := [(4, some 22)]) (n := ⟨25, []⟩) (body := yn) z6 Try.func56 rfl (by kernel_rfl) rfl rfl (by show (2 : Nat) ≤ 25; decide) fun E hE => ?_
 refine zI X0 z6 hC hm [2,3,4] 4000 [.cut 1] (sub [1] yn) (frs [1] [] yn []) [(2, .own (.box (eSl 2 false zH nodes))), (3, .own (.box (.fn 60 []))), (4, .own (.box (eOs 1 true F2_ [])))] [] (by kernel_rfl) fun st0 h0 => ?_
 refine zr (X := List (List Int)) (x := (sub [1,2] yn)) (y := (sub [1,1] yn)) (by kernel_rfl) [4] [2,3,4] _ h0 (fun z => ux z = some r0) (fun z => ZP z) ?_ fun J1 hJ1 => ?_
 ·rintro out hf0
  unfold ux at hf0
  have o0 := shM F1_ F1_ out
  have o1 := shM F1_ F1_ out
  obtain ⟨r_, h0, hf0⟩ := zi hf0
  have o2 := wc out _ h0
  have o3 := shM F1_ F1_ out
  obtain rfl := ze hf0
  exact zh ((QK z6 (wB hC hm) 24).or X0) z6 hC hm hE 4000 (hs := [.g [], .l (out.map F1_), .a (F4_ r_), .l (out.map F1_)]) (x := (eSl 1 true F1_ r_)) [ob we, ob o1, ob o2, ob o3] (by kernel_rfl) (LeV.refl _)
 ·obtain ⟨r_1, h1, hf0⟩ := zi hf0
  have o4 := yP h_tries_walk (x := nodes) h1 (loC z03 nodes <| loN)
  obtain ⟨t2, ht2, hf0⟩ := zi hf0
  refine zI X0 z6 hC hm [2,3,4,7] 4000 [.g [], .a ((z02 85 z8T) r_1)] (sub [1,2,1,0] yn) (frs [1,2,1,0] [J1] yn []) [(2, .own (.box (eSl 2 false zH nodes))), (3, .own (.box (.fn 60 []))), (4, .own (.box (eOs 1 true F1_ []))), (7, .d (.fn 85 [.sptr (eSl 2 false zH r_1)]))] [ob (zJ h_tries_walk), ob o4] (by kernel_rfl) fun st0 h0 => ?_
  refine JJ (g := .tmp 7) (ps := [8]) (assign := (sub [1,2,1,0,0] yn)) (body := (sub [1,2,1,0,1] yn)) (K := 85) (caps := [.sptr (eSl 2 false zH r_1)]) (by kernel_rfl) [2,3,4,7] (fun s => vN nodes r_1 s) (fun z => nomatch z) (fun z => nomatch z) ((fun (x : za) (_ : Bool) (_ : Value) => [u4 x])) (F := @x4 r_1) (fun s x => ve nodes s x) ([] : List (List Int)) t2 _ h0 inferInstance (by kernel_rfl) (by decide) (fun _ => rfl) (by rintro ⟨⟩) (by kernel_rfl) (fun _ _ _ => rfl) (qH hC hm h_slices_Clip_int_int r_1) ht2 ?_ ?_
  ·rintro tv2 out1 x8 vr lr1 hf1
   replace hf1 : ve nodes out1 x8 = some lr1 := hf1
   unfold ve at hf1
   refine qa X0 z6 hC hm [2,3,4,5,7] 4000 [] .normal [(2, .own (.box (eSl 2 false zH nodes))), (3, .own (.box (.fn 60 []))), (4, .own (.box (eOs 1 false F1_ out1))), (5, .own (.box (u4 x8))), (7, .d (.fn 85 [.sptr (eSl 2 false zH r_1)]))] [] (by kernel_rfl) fun st0 h0 => ⟨rfl, WW h0 ?_⟩
   obtain ⟨node_e, h2, hf1⟩ := zi hf1
   have o5 := iM zH h2
   obtain ⟨r_2, h3, hf1⟩ := zi hf1
   have o6 := yP h_tries_Prefixes_1 (x := node_e) h3 (loC zH node_e <| loN)
   rcases zY hf1 with ⟨c0, hf1⟩ | ⟨c0, hf1⟩
   ·obtain ⟨r_3, h4, hf1⟩ := zi hf1
    have o7 := yP h_slices_Clone_int_int (x := x8.w_) h4 (loC F2_ x8.w_ <| loN)
    obtain ⟨r_4, h5, hf1⟩ := zi hf1
    have o8 := yP h_slices_Clip_int_int (x := r_3) h5 (loC F2_ r_3 <| loN)
    have o9 := dM F1_ ([r_4] : List (List Int))
    have o10 := dM F1_ ([r_4] : List (List Int))
    obtain ⟨g0, hf1⟩ := gdE hf1
    have o11 := aL F1_ F1_ g0
    have o12 := aM F1_ out1 ([r_4] : List (List Int))
    obtain rfl := ze hf1
    exact qa X0 z6 hC hm [2,3,4,7] 4000 [.a (zH node_e), .g [], .a (eB r_2), bT, .g [], .a (F3_ r_3), .g [], .l (r_3.map (eI .i64)), .a (F1_ r_4), .l (r_3.map (eI .i64)), bT, .l ((out1 ++ ([r_4] : List (List Int))).map F1_)] .normal [(2, .own (.box (eSl 2 false zH nodes))), (3, .own (.box (.fn 60 []))), (4, .own (.box (eOs 1 false F1_ (out1 ++ ([r_4] : List (List Int)))))), (7, .d (.fn 85 [.sptr (eSl 2 false zH r_1)]))] [ob (i0 h2), ob o5, ob (zJ h_tries_Prefixes_1), ob o6, ob c0, ob (zJ h_slices_Clone_int_int), ob o7, ob (zJ h_slices_Clip_int_int), ob (shM (eI .i64) (eI .i64) r_3), ob o8, ob (shM (eI .i64) (eI .i64) r_3), ob o9, ob o10, ob o11, ob o12] (by kernel_rfl) fun st0 h0 => ⟨rfl, _, h0, (inferInstance : LeL [(2, .own (.box (eSl 2 false zH nodes))), (3, .own (.box (.fn 60 []))), (4, .own (.box (eOs 1 false F1_ (out1 ++ ([r_4] : List (List Int)))))), (7, .d (.fn 85 [.sptr (eSl 2 false zH r_1)]))] (vN nodes r_1 (out1 ++ ([r_4] : List (List Int)))))⟩
   ·obtain rfl := ze hf1
    exact qa X0 z6 hC hm [2,3,4,7] 4000 [.a (zH node_e), .g [], .a (eB r_2), bF] .normal [(2, .own (.box (eSl 2 false zH nodes))), (3, .own (.box (.fn 60 []))), (4, .own (.box (eOs 1 false F1_ out1))), (7, .d (.fn 85 [.sptr (eSl 2 false zH r_1)]))] [ob (i0 h2), ob o5, ob (zJ h_tries_Prefixes_1), ob o6, ob c0] (by kernel_rfl) fun st0 h0 => ⟨rfl, _, h0, (inferInstance : LeL [(2, .own (.box (eSl 2 false zH nodes))), (3, .own (.box (.fn 60 []))), (4, .own (.box (eOs 1 false F1_ out1))), (7, .d (.fn 85 [.sptr (eSl 2 false zH r_1)]))] (vN nodes r_1 out1))⟩
  ·rcases t2 with out1 | z
   ·dsimp only at hf0
    exact Xo (by kernel_rfl) (hJ1 _ [(4, .own (.box (eOs 1 false F1_ out1)))] out1 hf0 (show Own.canon [4] _ = ofL _ by kernel_rfl) inferInstance)
   ·cases z
noncomputable def Q6 : Code := (Try.f59.body).getD .skip
noncomputable def kH : yw := spF (α := List (List Int)) (ρ := List (List Int) × Int) 59 (fun x => [F4_ x]) (fun r => .tup [F4_ r.1, (eI .i64) r.2]) (fun x => YB x) [] (by
 rintro a0 b0 h
 have e0 := yO.inj (f := F4_) _ _ (List.cons.inj h).1
 subst e0
 rfl)
theorem QN {ctr : Ctr} (hC : y6 Try.prog ctr) (hm : Try.prog.follows .mixedOrders = true) (h_tries_steps : ctr.Has ui) : kH.Ok Try.prog := by
 refine y8 ?_
 rintro l_ r0 hf0
 try unfold YB at hf0
 refine zx (tt := yE) (keep := false) (rs := [(2, none), (3, none)]) (n := ⟨13, []⟩) (body := Q6) z6 Try.func59 rfl (by kernel_rfl) rfl rfl (by show (1 : Nat) ≤ 13; decide) fun E hE => ?_
 rcases zY hf0 with ⟨c0, hf0⟩ | ⟨c0, hf0⟩
 ·have o0 := shM F2_ F2_ []
  obtain rfl := ze hf0
  exact zh X0 z6 hC hm hE 4000 (hs := (aLn l_.length :: (rpN 5 bT [.l ([].map F2_)]))) (x := (.tup [eSl 1 true F1_ [], I 3])) (ob (lnM F1_ l_) :: (rpN 4 (ob c0) [oT, ob o0])) (by kernel_rfl) (show LeV (.tup [eSl 1 true F1_ [], I 3]) (.tup [eSl 1 true F1_ ([] : List (List Int)), I 3]) from inferInstance)
 ·obtain ⟨r_, h0, hf0⟩ := zi hf0
  have o1 := yP h_tries_steps (x := l_) h0 (loC F4_ l_ <| loN)
  rcases zY hf0 with ⟨c1, hf0⟩ | ⟨c1, hf0⟩
  ·have o2 := shM F2_ F2_ []
   obtain rfl := ze hf0
   exact zh X0 z6 hC hm hE 4000 (hs := [aLn l_.length, bF, bF, .g [], .a ((eI .i64) r_), bF, bF, bT, .l ([].map F2_)]) (x := (.tup [eSl 1 true F1_ [], I 3])) [ob (lnM F1_ l_), ob c0, ob c0, ob (zJ h_tries_steps), ob o1, ob c0, ob c0, ob c1, ob o2] (by kernel_rfl) (show LeV (.tup [eSl 1 true F1_ [], I 3]) (.tup [eSl 1 true F1_ ([] : List (List Int)), I 3]) from inferInstance)
  ·obtain rfl := ze hf0
   exact zh X0 z6 hC hm hE 4000 (hs := [aLn l_.length, bF, bF, .g [], .a ((eI .i64) r_), bF, bF, bF]) (x := (.tup [eSl 1 true F1_ l_, I 0])) [ob (lnM F1_ l_), ob c0, ob c0, ob (zJ h_tries_steps), ob o1, ob c0, ob c0, ob c1] (by kernel_rfl) (LeV.refl _)
noncomputable def W4 : Code := (Try.f22.body).getD .skip
noncomputable def qC : yw := spF (α := List (List Int) × Int) (ρ := List (List Int) × Int) 22 (fun x => [F7_ x.1, (eI .i64) x.2]) (fun r => .tup [F4_ r.1, (eI .i64) r.2]) (fun x => kE x.1 x.2) [] (by
 rintro ⟨a0, a1⟩ ⟨b0, b1⟩ h
 have e0 := yO.inj (f := F7_) _ _ (List.cons.inj h).1
 replace h := (List.cons.inj h).2
 have e1 := yO.inj (f := (eI .i64)) _ _ (List.cons.inj h).1
 subst e0 e1
 rfl)
theorem WO {ctr : Ctr} (hC : y6 Try.prog ctr) (hm : Try.prog.follows .mixedOrders = true) (h_tries_Check : ctr.Has xR) (h_tries_of : ctr.Has jN) (h_tries_walk : ctr.Has vg) (h_slices_Clip_int_int : ctr.Has zV) (h_tries_Prefixes_1 : ctr.Has vh) (h_slices_Clone_int_int : ctr.Has yl) (h_tries_valid : ctr.Has kH) : qC.Ok Try.prog := by
 refine y8 ?_
 rintro ⟨l_, inputs⟩ r0 hf0
 try unfold kE at hf0
 refine zx (tt := yE) (keep := false) (rs := [(4, none), (5, none)]) (n := ⟨31, []⟩) (body := W4) z6 Try.func22 rfl (by kernel_rfl) rfl rfl (by show (2 : Nat) ≤ 31; decide) fun E hE => ?_
 obtain ⟨r_, h0, hf0⟩ := zi hf0
 have o0 := yP h_tries_Check (x := (l_, inputs)) h0 (loC F7_ l_ <| loC (eI .i64) inputs <| loN)
 rcases zY hf0 with ⟨c0, hf0⟩ | ⟨c0, hf0⟩
 ·have o1 := shM F2_ F2_ []
  obtain rfl := ze hf0
  exact zh X0 z6 hC hm hE 4000 (hs := [.g [], .a ((eI .i64) r_), bT, .l ([].map F2_)]) (x := (.tup [eSl 1 true F1_ [], I r_])) [ob (zJ h_tries_Check), ob o0, ob c0, ob o1] (by kernel_rfl) (show LeV (.tup [eSl 1 true F1_ [], I r_]) (.tup [eSl 1 true F1_ ([] : List (List Int)), I r_]) from inferInstance)
 ·obtain ⟨r_1, h1, hf0⟩ := zi hf0
  have o2 := yP h_tries_of (x := (l_, inputs)) h1 (loC F7_ l_ <| loC (eI .i64) inputs <| loN)
  have o3 := lnM F9_ r_1.nodes_
  rcases zY hf0 with ⟨c1, hf0⟩ | ⟨c1, hf0⟩
  ·have o4 := shM F2_ F2_ []
   obtain rfl := ze hf0
   exact zh X0 z6 hC hm hE 4000 (hs := [.g [], .a ((eI .i64) r_), bF, .g [], .a (z6Z r_1), aLn r_1.nodes_.length, bT, .l ([].map F2_)]) (x := (.tup [eSl 1 true F1_ [], I 3])) [ob (zJ h_tries_Check), ob o0, ob c0, ob (zJ h_tries_of), ob o2, ob o3, ob c1, ob o4] (by kernel_rfl) (show LeV (.tup [eSl 1 true F1_ [], I 3]) (.tup [eSl 1 true F1_ ([] : List (List Int)), I 3]) from inferInstance)
  ·have o5 := zJ (Ctr.add_has Xk uy)
   have o6 := shM F9_ KX r_1.nodes_
   obtain ⟨r_2, h2, hf0⟩ := zi hf0
   have o7 := yP (Ctr.add_has Xk uy) (x := (r_1.nodes_, ())) h2 (loC (eSl 2 false KX) r_1.nodes_ <| loC (JQ 60) () <| loN)
   have o8 := shM F9_ KX r_1.nodes_
   obtain ⟨r_3, h3, hf0⟩ := zi hf0
   have o9 := jM (f := .fn 59 []) (xs := [F4_ r_2]) (ls := []) (r := .tup [eSl 1 true F1_ r_3.1, I r_3.2]) (ys := []) [F4_ r_2] (show QI [F4_ r_2] [F4_ r_2] from inferInstance)
   obtain rfl := ze hf0
   exact zh ((ug (P := Try.prog) yE [] (lentCall (yX hC h_tries_valid (x := r_2) h3)) 28).or ((QK z6 (X2 hC hm h_tries_walk h_slices_Clip_int_int h_tries_Prefixes_1 h_slices_Clone_int_int) 27).or X0)) z6 hC hm hE 4000 (hs := [.g [], .a ((eI .i64) r_), bF, .g [], .a (z6Z r_1), aLn r_1.nodes_.length, bF, .g [], .l (r_1.nodes_.map KX), .a (F4_ r_2), .l (r_1.nodes_.map KX)]) (x := (.tup [eSl 1 true F1_ r_3.1, I r_3.2])) [ob (zJ h_tries_Check), ob o0, ob c0, ob (zJ h_tries_of), ob o2, ob o3, ob c1, ob o5, ob o6, ob o7, ob o8, ob o9] (by kernel_rfl) (LeV.refl _)
noncomputable def wu : Code := (Try.f70.body).getD .skip
noncomputable def Zn : yw := spF (α := Int × List (List (List Int))) (ρ := Int) 70 (fun x => [(eI .i64) x.1, (eSl 1 false F7_) x.2]) (fun r => (eI .i64) r) (fun x => XO x.1 x.2) [] (by
 rintro ⟨a0, a1⟩ ⟨b0, b1⟩ h
 have e0 := yO.inj (f := (eI .i64)) _ _ (List.cons.inj h).1
 replace h := (List.cons.inj h).2
 have e1 := yO.inj (f := (eSl 1 false F7_)) _ _ (List.cons.inj h).1
 subst e0 e1
 rfl)
abbrev V4 : List (Nat × T) := []
abbrev V3 (inputs : Int) (l_ : List (List (List Int))) (x10 : Int) : List (Nat × T) := [(0, .d (I inputs)), (8, .d (eSl 1 false F7_ l_)), (9, .d (I ((l_.length : Nat) : Int))), (10, .d (I x10))]
theorem JW {ctr : Ctr} (hC : y6 Try.prog ctr) (hm : Try.prog.follows .mixedOrders = true) (h_tries_Check : ctr.Has xR) : Zn.Ok Try.prog := by
 refine y8 ?_
 rintro ⟨inputs, l_⟩ r0 hf0
 try unfold XO at hf0
 refine zx (tt := yE) (keep := true) (rs := [(4, none)]) (n := ⟨21, []⟩) (body := wu) z6 Try.func70 rfl (by kernel_rfl) rfl rfl (by show (2 : Nat) ≤ 21; decide) fun E hE => ?_
 refine zI X0 z6 hC hm [0,1] 4000 [.cut 1] (sub [1] wu) (frs [1] [] wu []) [(0, .d (I inputs)), (1, .d (eSl 1 false F7_ l_))] [] (by kernel_rfl) fun st0 h0 => ?_
 refine zr (X := Unit) (x := (sub [1,2] wu)) (y := (sub [1,1] wu)) (by kernel_rfl) [] [0,1] _ h0 (fun z => Zk = some r0) (fun z => V4) ?_ fun J1 hJ1 => ?_
 ·rintro ⟨⟩ hf0
  unfold Zk at hf0
  obtain rfl := ze hf0
  exact zh X0 z6 hC hm hE 4000 (hs := []) (x := (I 0)) [] (by kernel_rfl) (LeV.refl _)
 ·have o0 := lnM F7_ l_
  obtain ⟨t2, ht2, hf0⟩ := zi hf0
  refine zI X0 z6 hC hm [0,8,9,10] 4000 [aLn l_.length] (sub [1,2,1,0] wu) (frs [1,2,1,0] [J1] wu []) [(0, .d (I inputs)), (8, .d (eSl 1 false F7_ l_)), (9, .d (I ((l_.length : Nat) : Int))), (10, .d (I 0))] [ob o0] (by kernel_rfl) fun st0 h0 => ?_
  refine zN (X := Int × Nat) (c' := (sub [1,2,1,0,0] wu)) (by kernel_rfl) [0,8,9,10] (fun x => yG (fun s => Zj inputs l_ s) x.2 x.1 = some t2) (fun x => x.2) (fun x => V3 inputs l_ x.1) (0, wJ) _ h0 inferInstance ht2 ?_
  rintro ⟨x10, n2⟩ hn2 J2 hJ2
  obtain ⟨m2, lr1, rfl, hf1, hl1⟩ := xM hn2
  try unfold Zj at hf1
  rcases zY hf1 with ⟨c0, hf1⟩ | ⟨c0, hf1⟩
  ·obtain ⟨l__e, h0, hf1⟩ := zi hf1
   have o1 := iM F7_ h0
   obtain ⟨r_, h1, hf1⟩ := zi hf1
   have o2 := yP h_tries_Check (x := (l__e, inputs)) h1 (loC F7_ l__e <| loC (eI .i64) inputs <| loN)
   rcases zY hf1 with ⟨c1, hf1⟩ | ⟨c1, hf1⟩
   ·obtain rfl := ze hf1
    obtain rfl := hl1
    obtain rfl := ze hf0
    exact zh X0 z6 hC hm hE 4000 (hs := [bT, .a (F7_ l__e), .g [], .a ((eI .i64) r_), bT]) (x := (I r_)) [ob c0, ob (i0 h0), ob o1, ob (zJ h_tries_Check), ob o2, ob c1] (by kernel_rfl) (LeV.refl _)
   ·obtain rfl := ze hf1
    exact zk X0 z6 hC hm [0,8,9,10] 4000 [bT, .a (F7_ l__e), .g [], .a ((eI .i64) r_), bF] J2 [(0, .d (I inputs)), (8, .d (eSl 1 false F7_ l_)), (9, .d (I ((l_.length : Nat) : Int))), (10, .d (I (w64 (x10 + 1))))] [ob c0, ob (i0 h0), ob o1, ob (zJ h_tries_Check), ob o2, ob c1] (by kernel_rfl) fun st0 h0 => hJ2 st0 _ (w64 (x10 + 1), m2) hl1 (Nat.lt_succ_self m2) h0 inferInstance
  ·obtain rfl := ze hf1
   obtain rfl := hl1
   exact zk X0 z6 hC hm [] 4000 [bF] J1 [] [ob c0] (by kernel_rfl) fun st0 h0 => hJ1 st0 _ () hf0 h0 inferInstance
noncomputable def va : Code := (Try.f72.body).getD .skip
noncomputable def ZW : yw := spF (α := List Int) (ρ := List UInt8) 72 (fun x => [F2_ x]) (fun r => Z8 r) (fun x => VF x) [] (by
 rintro a0 b0 h
 have e0 := yO.inj (f := F2_) _ _ (List.cons.inj h).1
 subst e0
 rfl)
abbrev UB (b_ : List Int) : List (Nat × T) := [(3, .own (eOs 1 true (eI .u8) b_))]
abbrev UA (w_ : List Int) (b_1 : List Int) (x11 : Int) : List (Nat × T) := [(3, .own (eOs 1 true (eI .u8) b_1)), (9, .d (eSl 1 false (eI .i64) w_)), (10, .d (I ((w_.length : Nat) : Int))), (11, .d (I x11))]
theorem z06 {ctr : Ctr} (hC : y6 Try.prog ctr) (hm : Try.prog.follows .mixedOrders = true) : ZW.Ok Try.prog := by
 refine y8 ?_
 rintro w_ r0 hf0
 try unfold VF at hf0
 refine zx (tt := yE) (keep := true) (rs := [(2, none)]) (n := ⟨24, []⟩) (body := va) z6 Try.func72 rfl (by kernel_rfl) rfl rfl (by show (1 : Nat) ≤ 24; decide) fun E hE => ?_
 obtain ⟨g0, hf0⟩ := gdE hf0
 have o0 := rM 1 (eI .u8) ((w_.length : Nat) : Int) (0 : Int)
 refine zI X0 z6 hC hm [0,3] 4000 [aLn w_.length, .a (eOs 1 true (eI .u8) (List.replicate ((w_.length : Nat) : Int).toNat (0 : Int))), .cut 0] (sub [1,1] va) (frs [1,1] [] va []) [(0, .d (eSl 1 false (eI .i64) w_)), (3, .own (eOs 1 true (eI .u8) (List.replicate ((w_.length : Nat) : Int).toNat (0 : Int))))] [ob (lnM (eI .i64) w_), ob (rL g0), ob o0] (by kernel_rfl) fun st0 h0 => ?_
 refine zr (X := List Int) (x := (sub [1,1,2] va)) (y := (sub [1,1,1] va)) (by kernel_rfl) [3] [0,3] _ h0 (fun z => ZT z = some r0) (fun z => UB z) ?_ fun J1 hJ1 => ?_
 ·rintro b_ hf0
  unfold ZT at hf0
  obtain rfl := ze hf0
  exact zh ((zaN Try.prog z69).or X0) z6 hC hm hE 4000 (hs := [.a (Z8 (u8s b_))]) (x := (Z8 (u8s b_))) [ob (stM b_)] (by kernel_rfl) (LeV.refl _)
 ·obtain ⟨t2, ht2, hf0⟩ := zi hf0
  refine zI X0 z6 hC hm [3,9,10,11] 4000 [aLn w_.length] (sub [1,1,2,1,0] va) (frs [1,1,2,1,0] [J1] va []) [(3, .own (eOs 1 true (eI .u8) (List.replicate ((w_.length : Nat) : Int).toNat (0 : Int)))), (9, .d (eSl 1 false (eI .i64) w_)), (10, .d (I ((w_.length : Nat) : Int))), (11, .d (I 0))] [ob (lnM (eI .i64) w_)] (by kernel_rfl) fun st0 h0 => ?_
  refine zN (X := (List Int × Int) × Nat) (c' := (sub [1,1,2,1,0,0] va)) (by kernel_rfl) [3,9,10,11] (fun x => yG (fun s => ZS w_ s.1 s.2) x.2 x.1 = some t2) (fun x => x.2) (fun x => UA w_ x.1.1 x.1.2) (((List.replicate ((w_.length : Nat) : Int).toNat (0 : Int)), 0), wJ) _ h0 inferInstance ht2 ?_
  rintro ⟨⟨b_1, x11⟩, n2⟩ hn2 J2 hJ2
  obtain ⟨m2, lr1, rfl, hf1, hl1⟩ := xM hn2
  try unfold ZS at hf1
  rcases zY hf1 with ⟨c0, hf1⟩ | ⟨c0, hf1⟩
  ·obtain ⟨w__e, h0, hf1⟩ := zi hf1
   obtain ⟨b__e, h1, hf1⟩ := zi hf1
   have o1 := sM (eI .u8) b_1 x11 (IntKind.u8.wrap (w__e))
   obtain rfl := ze hf1
   exact zk X0 z6 hC hm [3,9,10,11] 4000 [bT, .a ((eI .i64) w__e), .a ((eI .u8) b__e), .a ((eI .u8) b__e), .l ((b_1.set x11.toNat (IntKind.u8.wrap (w__e))).map (eI .u8))] J2 [(3, .own (eOs 1 true (eI .u8) (b_1.set x11.toNat (IntKind.u8.wrap (w__e))))), (9, .d (eSl 1 false (eI .i64) w_)), (10, .d (I ((w_.length : Nat) : Int))), (11, .d (I (w64 (x11 + 1))))] [ob c0, ob (i0 h0), ob (iM (eI .i64) h0), ob (iL (eI .u8) h1), ob (iM (eI .u8) h1), ob (iM (eI .u8) h1), ob o1] (by kernel_rfl) fun st0 h0 => hJ2 st0 _ (((b_1.set x11.toNat (IntKind.u8.wrap (w__e))), w64 (x11 + 1)), m2) hl1 (Nat.lt_succ_self m2) h0 inferInstance
  ·obtain rfl := ze hf1
   obtain rfl := hl1
   exact zk X0 z6 hC hm [3] 4000 [bF] J1 [(3, .own (eOs 1 true (eI .u8) b_1))] [ob c0] (by kernel_rfl) fun st0 h0 => hJ1 st0 _ b_1 hf0 h0 inferInstance
noncomputable def zT : Code := (Try.f39.body).getD .skip
noncomputable def jP : yw := spF (α := List (List Int) × List (List Int) × Int) (ρ := List (List Int) × Int) 39 (fun x => [F7_ x.1, F7_ x.2.1, (eI .i64) x.2.2]) (fun r => .tup [F4_ r.1, (eI .i64) r.2]) (fun x => ZV x.1 x.2.1 x.2.2) [] (by
 rintro ⟨a0, a1, a2⟩ ⟨b0, b1, b2⟩ h
 have e0 := yO.inj (f := F7_) _ _ (List.cons.inj h).1
 replace h := (List.cons.inj h).2
 have e1 := yO.inj (f := F7_) _ _ (List.cons.inj h).1
 replace h := (List.cons.inj h).2
 have e2 := yO.inj (f := (eI .i64)) _ _ (List.cons.inj h).1
 subst e0 e1 e2
 rfl)
abbrev XD (out : List (List Int)) : List (Nat × T) := [(11, .own (eOs 1 false F2_ out))]
abbrev XC (a_ : List (List Int)) (b_ : List (List Int)) (x29 : Int) (seen1 : List ((List UInt8) × Bool)) (n_1 : Int) (out2 : List (List Int)) : List (Nat × T) := [(1, .d (eSl 1 false F2_ b_)), (9, .own (.opq (X1 (Ze Z8 eB seen1)))), (10, .d (I n_1)), (11, .own (eOs 1 false F2_ out2)), (27, .d (eSl 1 false F2_ a_)), (28, .d (I ((a_.length : Nat) : Int))), (29, .d (I x29))]
abbrev XB (a_ : List (List Int)) (b_ : List (List Int)) (x29 : Int) (a__e : List Int) (x35 : Int) (seen3 : List ((List UInt8) × Bool)) (n_3 : Int) (out4 : List (List Int)) : List (Nat × T) := [(1, .d (eSl 1 false F2_ b_)), (9, .own (.opq (X1 (Ze Z8 eB seen3)))), (10, .d (I n_3)), (11, .own (eOs 1 false F2_ out4)), (13, .d (eSl 1 false (eI .i64) a__e)), (27, .d (eSl 1 false F2_ a_)), (28, .d (I ((a_.length : Nat) : Int))), (29, .d (I x29)), (33, .d (eSl 1 false F2_ b_)), (34, .d (I ((b_.length : Nat) : Int))), (35, .d (I x35))]
abbrev Xz (a_ : List (List Int)) (b_ : List (List Int)) (x29 : Int) (a__e : List Int) (seen2 : List ((List UInt8) × Bool)) (n_2 : Int) (out3 : List (List Int)) (x35 : Int) : List (Nat × T) := [(1, .d (eSl 1 false F2_ b_)), (9, .own (.opq (X1 (Ze Z8 eB seen2)))), (10, .d (I n_2)), (11, .own (eOs 1 false F2_ out3)), (13, .d (eSl 1 false (eI .i64) a__e)), (27, .d (eSl 1 false F2_ a_)), (28, .d (I ((a_.length : Nat) : Int))), (29, .d (I x29)), (33, .d (eSl 1 false F2_ b_)), (34, .d (I ((b_.length : Nat) : Int))), (35, .d (I x35))]
abbrev XA (a_ : List (List Int)) (b_ : List (List Int)) (seen : List ((List UInt8) × Bool)) (n_ : Int) (out1 : List (List Int)) (x29 : Int) : List (Nat × T) := [(1, .d (eSl 1 false F2_ b_)), (9, .own (.opq (X1 (Ze Z8 eB seen)))), (10, .d (I n_)), (11, .own (eOs 1 false F2_ out1)), (27, .d (eSl 1 false F2_ a_)), (28, .d (I ((a_.length : Nat) : Int))), (29, .d (I x29))]
theorem Q0 {ctr : Ctr} (hC : y6 Try.prog ctr) (hm : Try.prog.follows .mixedOrders = true) (h_tries_both : ctr.Has Zn) (h_slices_Clip_int_int : ctr.Has zV) (h_tries_key : ctr.Has ZW) (h_tries_sorted : ctr.Has vU) : jP.Ok Try.prog := by
 refine y8 ?_
 rintro ⟨a_, b_, inputs⟩ r0 hf0
 try unfold ZV at hf0
 refine zx (tt := yE) (keep := false) (rs := [(6, none), (7, none)]) (n := ⟨75, []⟩) (body := zT) z6 Try.func39 rfl (by kernel_rfl) rfl rfl (by show (3 : Nat) ≤ 75; decide) fun E hE => ?_
 have o0 := shM F7_ F7_ ([a_, b_])
 obtain ⟨r_, h0, hf0⟩ := zi hf0
 have o1 := yP h_tries_both (x := (inputs, [a_, b_])) h0 (loC (eI .i64) inputs <| loC (eSl 1 true F7_) ([a_, b_] : List (List (List Int))) <| loN)
 rcases zY hf0 with ⟨c0, hf0⟩ | ⟨c0, hf0⟩
 ·have o2 := shM F2_ F2_ []
  obtain rfl := ze hf0
  exact zh X0 z6 hC hm hE 4000 (hs := [.g [], .l (([a_, b_]).map F7_), .a ((eI .i64) r_), bT, .l ([].map F2_)]) (x := (.tup [eSl 1 true F1_ [], I r_])) [ob (zJ h_tries_both), ob o0, ob o1, ob c0, ob o2] (by kernel_rfl) (show LeV (.tup [eSl 1 true F1_ [], I r_]) (.tup [eSl 1 true F1_ ([] : List (List Int)), I r_]) from inferInstance)
 ·refine zI ((z96 Try.prog 26).or X0) z6 hC hm [0,1,9,10,11] 4000 [.g [], .l (([a_, b_]).map F7_), .a ((eI .i64) r_), bF, .cut 3] (sub [1,1,1,1,1] zT) (frs [1,1,1,1,1] [] zT []) [(0, .d (eSl 1 false F2_ a_)), (1, .d (eSl 1 false F2_ b_)), (9, .own (.opq (X1 (Ze Z8 eB ([] : List ((List UInt8) × Bool)))))), (10, .d (I 0)), (11, .own (eOs 1 true F2_ []))] [ob (zJ h_tries_both), ob o0, ob o1, ob c0] (by kernel_rfl) fun st0 h0 => ?_
  refine zr (X := List (List Int)) (x := (sub [1,1,1,1,1,2] zT)) (y := (sub [1,1,1,1,1,1] zT)) (by kernel_rfl) [11] [0,1,9,10,11] _ h0 (fun z => jL z = some r0) (fun z => XD z) ?_ fun J1 hJ1 => ?_
  ·rintro out hf0
   unfold jL at hf0
   have o3 := shM F2_ F2_ out
   obtain ⟨r_1, h1, hf0⟩ := zi hf0
   have o4 := yP h_tries_sorted (x := out) h1 (loC F7_ out <| loN)
   have o5 := shM F2_ F2_ out
   obtain rfl := ze hf0
   exact zh X0 z6 hC hm hE 4000 (hs := [.g [], .l (out.map F2_), .a (.tup [eSl 1 true F1_ r_1.1, I r_1.2]), .l (out.map F2_)]) (x := (.tup [eSl 1 true F1_ r_1.1, I r_1.2])) [ob (zJ h_tries_sorted), ob o3, ob o4, ob o5] (by kernel_rfl) (LeV.refl _)
  ·obtain ⟨t2, ht2, hf0⟩ := zi hf0
   refine zI X0 z6 hC hm [1,9,10,11,27,28,29] 4000 [aLn a_.length] (sub [1,1,1,1,1,2,1,0] zT) (frs [1,1,1,1,1,2,1,0] [J1] zT []) [(1, .d (eSl 1 false F2_ b_)), (9, .own (.opq (X1 (Ze Z8 eB ([] : List ((List UInt8) × Bool)))))), (10, .d (I 0)), (11, .own (eOs 1 true F2_ [])), (27, .d (eSl 1 false F2_ a_)), (28, .d (I ((a_.length : Nat) : Int))), (29, .d (I 0))] [ob (lnM F2_ a_)] (by kernel_rfl) fun st0 h0 => ?_
   refine zN (X := ((List ((List UInt8) × Bool)) × Int × List (List Int) × Int) × Nat) (c' := (sub [1,1,1,1,1,2,1,0,0] zT)) (by kernel_rfl) [1,9,10,11,27,28,29] (fun x => yG (fun s => jJ a_ b_ s.1 s.2.1 s.2.2.1 s.2.2.2) x.2 x.1 = some t2) (fun x => x.2) (fun x => XA a_ b_ x.1.1 x.1.2.1 x.1.2.2.1 x.1.2.2.2) ((([] : List ((List UInt8) × Bool)), 0, ([] : List (List Int)), 0), wJ) _ h0 inferInstance ht2 ?_
   rintro ⟨⟨seen, n_, out1, x29⟩, n2⟩ hn2 J2 hJ2
   obtain ⟨m2, lr1, rfl, hf1, hl1⟩ := xM hn2
   try unfold jJ at hf1
   rcases zY hf1 with ⟨c1, hf1⟩ | ⟨c1, hf1⟩
   ·refine zI X0 z6 hC hm [1,9,10,11,27,28,29] 4000 [bT, .cut 0] (sub [1,1,1,1,1,2,1,0,0,1,1] zT) (frs [1,1,1,1,1,2,1,0,0,1,1] [J1, J2] zT []) [(1, .d (eSl 1 false F2_ b_)), (9, .own (.opq (X1 (Ze Z8 eB seen)))), (10, .d (I n_)), (11, .own (eOs 1 false F2_ out1)), (27, .d (eSl 1 false F2_ a_)), (28, .d (I ((a_.length : Nat) : Int))), (29, .d (I x29))] [ob c1] (by kernel_rfl) fun st0 h0 => ?_
    refine zr (X := (List ((List UInt8) × Bool)) × Int × List (List Int)) (x := (sub [1,1,1,1,1,2,1,0,0,1,1,2] zT)) (y := (sub [1,1,1,1,1,2,1,0,0,1,1,1] zT)) (by kernel_rfl) [1,9,10,11,27,28,29] [1,9,10,11,27,28,29] _ h0 (fun z => jK x29 z.1 z.2.1 z.2.2 = some lr1) (fun z => XC a_ b_ x29 z.1 z.2.1 z.2.2) ?_ fun J3 hJ3 => ?_
    ·rintro ⟨seen1, n_1, out2⟩ hf1
     unfold jK at hf1
     obtain rfl := ze hf1
     exact zk X0 z6 hC hm [1,9,10,11,27,28,29] 4000 [] J2 [(1, .d (eSl 1 false F2_ b_)), (9, .own (.opq (X1 (Ze Z8 eB seen1)))), (10, .d (I n_1)), (11, .own (eOs 1 false F2_ out2)), (27, .d (eSl 1 false F2_ a_)), (28, .d (I ((a_.length : Nat) : Int))), (29, .d (I (w64 (x29 + 1))))] [] (by kernel_rfl) fun st0 h0 => hJ2 st0 _ ((seen1, n_1, out2, w64 (x29 + 1)), m2) hl1 (Nat.lt_succ_self m2) h0 inferInstance
    ·obtain ⟨a__e, h2, hf1⟩ := zi hf1
     obtain ⟨t4, ht4, hf1⟩ := zi hf1
     refine zI X0 z6 hC hm [1,9,10,11,13,27,28,29,33,34,35] 4000 [.a (F2_ a__e), aLn b_.length] (sub [1,1,1,1,1,2,1,0,0,1,1,2,0,1,1,0] zT) (frs [1,1,1,1,1,2,1,0,0,1,1,2,0,1,1,0] [J1, J2, J3] zT []) [(1, .d (eSl 1 false F2_ b_)), (9, .own (.opq (X1 (Ze Z8 eB seen)))), (10, .d (I n_)), (11, .own (eOs 1 false F2_ out1)), (13, .d (eSl 1 false (eI .i64) a__e)), (27, .d (eSl 1 false F2_ a_)), (28, .d (I ((a_.length : Nat) : Int))), (29, .d (I x29)), (33, .d (eSl 1 false F2_ b_)), (34, .d (I ((b_.length : Nat) : Int))), (35, .d (I 0))] [ob (i0 h2), ob (iM F2_ h2), ob (lnM F2_ b_)] (by kernel_rfl) fun st0 h0 => ?_
     refine zN (X := ((List ((List UInt8) × Bool)) × Int × List (List Int) × Int) × Nat) (c' := (sub [1,1,1,1,1,2,1,0,0,1,1,2,0,1,1,0,0] zT)) (by kernel_rfl) [1,9,10,11,13,27,28,29,33,34,35] (fun x => yG (fun s => jI b_ a__e s.1 s.2.1 s.2.2.1 s.2.2.2) x.2 x.1 = some t4) (fun x => x.2) (fun x => Xz a_ b_ x29 a__e x.1.1 x.1.2.1 x.1.2.2.1 x.1.2.2.2) ((seen, n_, out1,0), wJ) _ h0 inferInstance ht4 ?_
     rintro ⟨⟨seen2, n_2, out3, x35⟩, n4⟩ hn4 J4 hJ4
     obtain ⟨m4, lr2, rfl, hf2, hl2⟩ := xM hn4
     try unfold jI at hf2
     rcases zY hf2 with ⟨c2, hf2⟩ | ⟨c2, hf2⟩
     ·obtain ⟨b__e, h3, hf2⟩ := zi hf2
      obtain ⟨r_2, h4, hf2⟩ := zi hf2
      have o6 := yP h_slices_Clip_int_int (x := a__e) h4 (loC F2_ a__e <| loN)
      obtain ⟨g0, hf2⟩ := gdE hf2
      rcases zY hf2 with ⟨c3, hf2⟩ | ⟨c3, hf2⟩
      ·have o7 := shM F2_ F2_ []
       obtain rfl := ze hf2
       obtain rfl := hl2
       obtain rfl := ze hf1
       obtain rfl := hl1
       obtain rfl := ze hf0
       exact zh ((xAp z6 42).or X0) z6 hC hm hE 4000 (hs := [bT, .a (F2_ b__e), .g [], .a (F1_ r_2), .l ((r_2 ++ b__e).map (eI .i64)), .a (.atom (.int .i64 (((r_2 ++ b__e).length : Nat) : Int))), bT, .l ([].map F2_)]) (x := (.tup [eSl 1 true F1_ [], I 3])) [ob c2, ob (i0 h3), ob (iM F2_ h3), ob (zJ h_slices_Clip_int_int), ob o6, ob (apM (eI .i64) g0), ob (aM (eI .i64) r_2 b__e), ob (lnM (eI .i64) (r_2 ++ b__e)), ob c3, ob o7] (by kernel_rfl) (show LeV (.tup [eSl 1 true F1_ [], I 3]) (.tup [eSl 1 true F1_ ([] : List (List Int)), I 3]) from inferInstance)
      ·refine zI ((xAp z6 42).or X0) z6 hC hm [1,9,10,11,13,16,27,28,29,33,34,35] 4000 [bT, .a (F2_ b__e), .g [], .a (F1_ r_2), .l ((r_2 ++ b__e).map (eI .i64)), .a (.atom (.int .i64 (((r_2 ++ b__e).length : Nat) : Int))), bF, .cut 0] (sub [1,1,1,1,1,2,1,0,0,1,1,2,0,1,1,0,0,1,1,0,0,1,1,1] zT) (frs [1,1,1,1,1,2,1,0,0,1,1,2,0,1,1,0,0,1,1,0,0,1,1,1] [J1, J2, J3, J4] zT []) [(1, .d (eSl 1 false F2_ b_)), (9, .own (.opq (X1 (Ze Z8 eB seen2)))), (10, .d (I n_2)), (11, .own (eOs 1 false F2_ out3)), (13, .d (eSl 1 false (eI .i64) a__e)), (16, .d (eSl 1 false (eI .i64) (r_2 ++ b__e))), (27, .d (eSl 1 false F2_ a_)), (28, .d (I ((a_.length : Nat) : Int))), (29, .d (I x29)), (33, .d (eSl 1 false F2_ b_)), (34, .d (I ((b_.length : Nat) : Int))), (35, .d (I x35))] [ob c2, ob (i0 h3), ob (iM F2_ h3), ob (zJ h_slices_Clip_int_int), ob o6, ob (apM (eI .i64) g0), ob (aM (eI .i64) r_2 b__e), ob (lnM (eI .i64) (r_2 ++ b__e)), ob c3] (by kernel_rfl) fun st0 h0 => ?_
       refine zr (X := (List ((List UInt8) × Bool)) × Int × List (List Int)) (x := (sub [1,1,1,1,1,2,1,0,0,1,1,2,0,1,1,0,0,1,1,0,0,1,1,1,2] zT)) (y := (sub [1,1,1,1,1,2,1,0,0,1,1,2,0,1,1,0,0,1,1,0,0,1,1,1,1] zT)) (by kernel_rfl) [1,9,10,11,13,27,28,29,33,34,35] [1,9,10,11,13,16,27,28,29,33,34,35] _ h0 (fun z => uP x35 z.1 z.2.1 z.2.2 = some lr2) (fun z => XB a_ b_ x29 a__e x35 z.1 z.2.1 z.2.2) ?_ fun J5 hJ5 => ?_
       ·rintro ⟨seen3, n_3, out4⟩ hf2
        unfold uP at hf2
        rcases zY hf2 with ⟨c4, hf2⟩ | ⟨c4, hf2⟩
        ·have o8 := shM F2_ F2_ []
         obtain rfl := ze hf2
         obtain rfl := hl2
         obtain rfl := ze hf1
         obtain rfl := hl1
         obtain rfl := ze hf0
         exact zh X0 z6 hC hm hE 4000 (hs := (aLn out4.length :: (rpN 4 bT [.l ([].map F2_)]))) (x := (.tup [eSl 1 true F1_ [], I 3])) [ob (lnM F2_ out4), ob c4, ob c4, ob c4, oT, ob o8] (by kernel_rfl) (show LeV (.tup [eSl 1 true F1_ [], I 3]) (.tup [eSl 1 true F1_ ([] : List (List Int)), I 3]) from inferInstance)
        ·rcases zY hf2 with ⟨c5, hf2⟩ | ⟨c5, hf2⟩
         ·have o9 := shM F2_ F2_ []
          obtain rfl := ze hf2
          obtain rfl := hl2
          obtain rfl := ze hf1
          obtain rfl := hl1
          obtain rfl := ze hf0
          exact zh X0 z6 hC hm hE 4000 (hs := [aLn out4.length, bF, bF, bF, bT, .l ([].map F2_)]) (x := (.tup [eSl 1 true F1_ [], I 3])) [ob (lnM F2_ out4), ob c4, ob c4, ob c4, ob c5, ob o9] (by kernel_rfl) (show LeV (.tup [eSl 1 true F1_ [], I 3]) (.tup [eSl 1 true F1_ ([] : List (List Int)), I 3]) from inferInstance)
         ·obtain rfl := ze hf2
          exact zk X0 z6 hC hm [1,9,10,11,13,27,28,29,33,34,35] 4000 (aLn out4.length :: (rpN 4 bF [])) J4 [(1, .d (eSl 1 false F2_ b_)), (9, .own (.opq (X1 (Ze Z8 eB seen3)))), (10, .d (I n_3)), (11, .own (eOs 1 false F2_ out4)), (13, .d (eSl 1 false (eI .i64) a__e)), (27, .d (eSl 1 false F2_ a_)), (28, .d (I ((a_.length : Nat) : Int))), (29, .d (I x29)), (33, .d (eSl 1 false F2_ b_)), (34, .d (I ((b_.length : Nat) : Int))), (35, .d (I (w64 (x35 + 1))))] [ob (lnM F2_ out4), ob c4, ob c4, ob c4, ob c5] (by kernel_rfl) fun st0 h0 => hJ4 st0 _ ((seen3, n_3, out4, w64 (x35 + 1)), m4) hl2 (Nat.lt_succ_self m4) h0 inferInstance
       ·obtain ⟨r_3, h5, hf2⟩ := zi hf2
        have o10 := yP h_tries_key (x := (r_2 ++ b__e)) h5 (loC F2_ (r_2 ++ b__e) <| loN)
        have o11 := (⟨rfl, rfl, z5i (fun _ => rfl) seen2⟩ : A.opq (X1 (Ze Z8 eB seen2)) = A.opq (X1 (Ze Z8 eB seen2)) ∧ Jq (Z8 r_3) = true ∧ ∀ p ∈ Ze Z8 eB seen2, Jq p.1 = true)
        obtain ⟨val, h6, hf2⟩ := zi hf2
        replace h6 := ze h6
        have o12 := (zb9 (f := Z8) (g := eB) (z0 := false) (z := .atom (.bool false)) rfl r_3 seen2).trans (congrArg eB h6)
        rcases zY hf2 with ⟨c6, hf2⟩ | ⟨c6, hf2⟩
        ·have o13 := (⟨rfl, rfl, rfl, rfl, z5i (fun _ => rfl) seen2⟩ : T.own (.opq (X1 (Ze Z8 eB seen2))) = T.own (.opq (X1 (Ze Z8 eB seen2))) ∧ 0 = 0 ∧ Jq (Z8 r_3) = true ∧ (eB true).isD = true ∧ ∀ p ∈ Ze Z8 eB seen2, Jq p.1 = true)
         have o14 := z6e (f := Z8) (g := eB) r_3 true seen2
         have o15 := dM F2_ ([(r_2 ++ b__e)] : List (List Int))
         have o16 := dM F2_ ([(r_2 ++ b__e)] : List (List Int))
         obtain ⟨g1, hf2⟩ := gdE hf2
         have o17 := aL F2_ F2_ g1
         have o18 := aM F2_ out3 ([(r_2 ++ b__e)] : List (List Int))
         exact zk ((zaM z6l 52 (Ze Z8 eB seen2) (Ze Z8 eB (z5b seen2 r_3 true))).or ((z72 z6l 50 (Ze Z8 eB seen2)).or X0)) z6 hC hm [1,9,10,11,13,27,28,29,33,34,35] 4000 [.g [], .a (Z8 r_3), .a (eB val), bT, bT, .l ((out3 ++ ([(r_2 ++ b__e)] : List (List Int))).map F2_), .a (.atom (.int .i64 (((r_2 ++ b__e).length : Nat) : Int)))] J5 [(1, .d (eSl 1 false F2_ b_)), (9, .own (.opq (X1 (Ze Z8 eB (z5b seen2 r_3 true))))), (10, .d (I (w64 (n_2 + (((r_2 ++ b__e).length : Nat) : Int))))), (11, .own (eOs 1 false F2_ (out3 ++ ([(r_2 ++ b__e)] : List (List Int))))), (13, .d (eSl 1 false (eI .i64) a__e)), (27, .d (eSl 1 false F2_ a_)), (28, .d (I ((a_.length : Nat) : Int))), (29, .d (I x29)), (33, .d (eSl 1 false F2_ b_)), (34, .d (I ((b_.length : Nat) : Int))), (35, .d (I x35))] [ob (zJ h_tries_key), ob o10, ob o11, ob o12, ob c6, ob o13, ob o14, ob o15, ob o16, ob o17, ob o18, ob (lnM (eI .i64) (r_2 ++ b__e))] (by kernel_rfl) fun st0 h0 => hJ5 st0 _ ((z5b seen2 r_3 true), w64 (n_2 + (((r_2 ++ b__e).length : Nat) : Int)), (out3 ++ ([(r_2 ++ b__e)] : List (List Int)))) hf2 h0 inferInstance
        ·exact zk ((z72 z6l 50 (Ze Z8 eB seen2)).or X0) z6 hC hm [1,9,10,11,13,27,28,29,33,34,35] 4000 [.g [], .a (Z8 r_3), .a (eB val), bF] J5 [(1, .d (eSl 1 false F2_ b_)), (9, .own (.opq (X1 (Ze Z8 eB seen2)))), (10, .d (I n_2)), (11, .own (eOs 1 false F2_ out3)), (13, .d (eSl 1 false (eI .i64) a__e)), (27, .d (eSl 1 false F2_ a_)), (28, .d (I ((a_.length : Nat) : Int))), (29, .d (I x29)), (33, .d (eSl 1 false F2_ b_)), (34, .d (I ((b_.length : Nat) : Int))), (35, .d (I x35))] [ob (zJ h_tries_key), ob o10, ob o11, ob o12, ob c6] (by kernel_rfl) fun st0 h0 => hJ5 st0 _ (seen2, n_2, out3) hf2 h0 inferInstance
     ·obtain rfl := ze hf2
      obtain rfl := hl2
      exact zk X0 z6 hC hm [1,9,10,11,27,28,29] 4000 [bF] J3 [(1, .d (eSl 1 false F2_ b_)), (9, .own (.opq (X1 (Ze Z8 eB seen2)))), (10, .d (I n_2)), (11, .own (eOs 1 false F2_ out3)), (27, .d (eSl 1 false F2_ a_)), (28, .d (I ((a_.length : Nat) : Int))), (29, .d (I x29))] [ob c2] (by kernel_rfl) fun st0 h0 => hJ3 st0 _ (seen2, n_2, out3) hf1 h0 inferInstance
   ·obtain rfl := ze hf1
    obtain rfl := hl1
    exact zk X0 z6 hC hm [11] 4000 [bF] J1 [(11, .own (eOs 1 false F2_ out1))] [ob c1] (by kernel_rfl) fun st0 h0 => hJ1 st0 _ out1 hf0 h0 inferInstance
noncomputable def ww : Code := (Try.f16.body).getD .skip
noncomputable def Zs : yw := spF (α := List (List Int) × List (List Int)) (ρ := Bool) 16 (fun x => [F4_ x.1, F7_ x.2]) (fun r => eB r) (fun x => uL x.1 x.2) [] (by
 rintro ⟨a0, a1⟩ ⟨b0, b1⟩ h
 have e0 := yO.inj (f := F4_) _ _ (List.cons.inj h).1
 replace h := (List.cons.inj h).2
 have e1 := yO.inj (f := F7_) _ _ (List.cons.inj h).1
 subst e0 e1
 rfl)
abbrev Vh : List (Nat × T) := []
abbrev Vg (a_ : List (List Int)) (i_ : Int) : List (Nat × T) := [(0, .d (eSl 1 true F1_ a_)), (5, .d (I i_))]
theorem K2 {ctr : Ctr} (hC : y6 Try.prog ctr) (hm : Try.prog.follows .mixedOrders = true) (h_ref12_Same : ctr.Has jm) : Zs.Ok Try.prog := by
 refine y8 ?_
 rintro ⟨a_, b_⟩ r0 hf0
 try unfold uL at hf0
 refine zx (tt := yE) (keep := true) (rs := [(4, none)]) (n := ⟨34, []⟩) (body := ww) z6 Try.func16 rfl (by kernel_rfl) rfl rfl (by show (2 : Nat) ≤ 34; decide) fun E hE => ?_
 obtain ⟨r_, h0, hf0⟩ := zi hf0
 have o0 := yP h_ref12_Same (x := (a_, b_)) h0 (loC F4_ a_ <| loC F7_ b_ <| loN)
 rcases zY hf0 with ⟨c0, hf0⟩ | ⟨c0, hf0⟩
 ·obtain rfl := ze hf0
  exact zh X0 z6 hC hm hE 4000 (hs := (.g [] :: .a (eB r_) :: (rpN 7 bT []))) (x := (B false)) (ob (zJ h_ref12_Same) :: ob o0 :: (rpN 6 (ob c0) [oT])) (by kernel_rfl) (LeV.refl _)
 ·rcases zY hf0 with ⟨c1, hf0⟩ | ⟨c1, hf0⟩
  ·obtain rfl := ze hf0
   exact zh X0 z6 hC hm hE 4000 (hs := [.g [], .a (eB r_), bF, bF, aLn a_.length, bF, bF, aLn a_.length, bF, bF, bT]) (x := (B false)) [ob (zJ h_ref12_Same), ob o0, ob c0, ob c0, ob (lnM F1_ a_), ob c0, ob c0, ob (lnM F1_ a_), ob c0, ob c0, ob c1] (by kernel_rfl) (LeV.refl _)
  ·refine zI X0 z6 hC hm [0] 4000 [.g [], .a (eB r_), bF, bF, aLn a_.length, bF, bF, aLn a_.length, bF, bF, bF, .cut 0] (sub [1,1] ww) (frs [1,1] [] ww []) [(0, .d (eSl 1 true F1_ a_))] [ob (zJ h_ref12_Same), ob o0, ob c0, ob c0, ob (lnM F1_ a_), ob c0, ob c0, ob (lnM F1_ a_), ob c0, ob c0, ob c1] (by kernel_rfl) fun st0 h0 => ?_
   refine zr (X := Unit) (x := (sub [1,1,2] ww)) (y := (sub [1,1,1] ww)) (by kernel_rfl) [] [0] _ h0 (fun z => Zz = some r0) (fun z => Vh) ?_ fun J1 hJ1 => ?_
   ·rintro ⟨⟩ hf0
    unfold Zz at hf0
    obtain rfl := ze hf0
    exact zh X0 z6 hC hm hE 4000 (hs := []) (x := (B true)) [] (by kernel_rfl) (LeV.refl _)
   ·obtain ⟨t2, ht2, hf0⟩ := zi hf0
    refine zI X0 z6 hC hm [0,5] 4000 [] (sub [1,1,2,1,0] ww) (frs [1,1,2,1,0] [J1] ww []) [(0, .d (eSl 1 true F1_ a_)), (5, .d (I 0))] [] (by kernel_rfl) fun st0 h0 => ?_
    refine zN (X := Int × Nat) (c' := (sub [1,1,2,1,0,0] ww)) (by kernel_rfl) [0,5] (fun x => yG (fun s => Zy a_ s) x.2 x.1 = some t2) (fun x => x.2) (fun x => Vg a_ x.1) (0, wJ) _ h0 inferInstance ht2 ?_
    rintro ⟨i_, n2⟩ hn2 J2 hJ2
    obtain ⟨m2, lr1, rfl, hf1, hl1⟩ := xM hn2
    try unfold Zy at hf1
    rcases zY hf1 with ⟨c2, hf1⟩ | ⟨c2, hf1⟩
    ·obtain ⟨a__e, h1, hf1⟩ := zi hf1
     obtain ⟨a__e1, h2, hf1⟩ := zi hf1
     rcases zY hf1 with ⟨c3, hf1⟩ | ⟨c3, hf1⟩
     ·obtain rfl := ze hf1
      obtain rfl := hl1
      obtain rfl := ze hf0
      exact zh X0 z6 hC hm hE 4000 (hs := [aLn a_.length, bT, .a (F1_ a__e), aLn a__e.length, .a (F1_ a__e1), aLn a__e1.length, bT]) (x := (B false)) [ob (lnM F1_ a_), ob c2, ob (i0 h1), ob (iM F1_ h1), ob (lnM (eI .i64) a__e), ob (i0 h2), ob (iM F1_ h2), ob (lnM (eI .i64) a__e1), ob c3] (by kernel_rfl) (LeV.refl _)
     ·obtain rfl := ze hf1
      exact zk X0 z6 hC hm [0,5] 4000 [aLn a_.length, bT, .a (F1_ a__e), aLn a__e.length, .a (F1_ a__e1), aLn a__e1.length, bF] J2 [(0, .d (eSl 1 true F1_ a_)), (5, .d (I (w64 (i_ + 1))))] [ob (lnM F1_ a_), ob c2, ob (i0 h1), ob (iM F1_ h1), ob (lnM (eI .i64) a__e), ob (i0 h2), ob (iM F1_ h2), ob (lnM (eI .i64) a__e1), ob c3] (by kernel_rfl) fun st0 h0 => hJ2 st0 _ (w64 (i_ + 1), m2) hl1 (Nat.lt_succ_self m2) h0 inferInstance
    ·obtain rfl := ze hf1
     obtain rfl := hl1
     exact zk X0 z6 hC hm [] 4000 [aLn a_.length, bF] J1 [] [ob (lnM F1_ a_), ob c2] (by kernel_rfl) fun st0 h0 => hJ1 st0 _ () hf0 h0 inferInstance
noncomputable def zG : Code := (Try.f62.body).getD .skip
noncomputable def kx : yw := spF (α := Int × Int × Int) (ρ := List (List Int) × Int) 62 (fun x => [(eI .i64) x.1, (eI .i64) x.2.1, (eI .i64) x.2.2]) (fun r => .tup [F4_ r.1, (eI .i64) r.2]) (fun x => jG x.1 x.2.1 x.2.2) [] (by
 rintro ⟨a0, a1, a2⟩ ⟨b0, b1, b2⟩ h
 have e0 := yO.inj (f := (eI .i64)) _ _ (List.cons.inj h).1
 replace h := (List.cons.inj h).2
 have e1 := yO.inj (f := (eI .i64)) _ _ (List.cons.inj h).1
 replace h := (List.cons.inj h).2
 have e2 := yO.inj (f := (eI .i64)) _ _ (List.cons.inj h).1
 subst e0 e1 e2
 rfl)
abbrev UJ (inputs : Int) (from_ : Int) (to : Int) (k_ : Int) (out1 : List (List Int)) (level1 : List (List Int)) (n_1 : Int) (x45 : Int) (x46 : Bool) (x58 : Bool) : List (Nat × T) := [(0, .d (I inputs)), (1, .d (I from_)), (2, .d (I to)), (8, .own (eOs 1 false F2_ out1)), (9, .own (eOs 1 false F2_ level1)), (10, .d (I n_1)), (11, .d (I k_)), (45, .d (I x45)), (46, .d (B x46)), (49, .d (I k_)), (50, .d (I to)), (51, .d (B (decide (k_ < to)))), (52, .d (B (decide (k_ < to)))), (58, .d (B x58))]
abbrev UG (inputs : Int) (from_ : Int) (to : Int) (k_ : Int) (out2 : List (List Int)) (n_2 : Int) (x581 : Bool) (next : List (List Int)) : List (Nat × T) := [(0, .d (I inputs)), (1, .d (I from_)), (2, .d (I to)), (8, .own (eOs 1 false F2_ out2)), (10, .d (I n_2)), (11, .d (I k_)), (12, .own (eOs 1 false F2_ next)), (45, .d (I n_2)), (46, .d (B (decide (n_2 > 65536)))), (49, .d (I k_)), (50, .d (I to)), (51, .d (B (decide (k_ < to)))), (52, .d (B (decide (k_ < to)))), (58, .d (B x581))]
abbrev UF (inputs : Int) (from_ : Int) (to : Int) (level : List (List Int)) (k_ : Int) (out2 : List (List Int)) (n_2 : Int) (x581 : Bool) (x69 : Int) (next2 : List (List Int)) : List (Nat × T) := [(0, .d (I inputs)), (1, .d (I from_)), (2, .d (I to)), (8, .own (eOs 1 false F2_ out2)), (9, .own (eOs 1 false F2_ level)), (10, .d (I n_2)), (11, .d (I k_)), (12, .own (eOs 1 false F2_ next2)), (45, .d (I n_2)), (46, .d (B (decide (n_2 > 65536)))), (49, .d (I k_)), (50, .d (I to)), (51, .d (B (decide (k_ < to)))), (52, .d (B (decide (k_ < to)))), (58, .d (B x581)), (67, .als 9 [] 0 0), (68, .d (I ((level.length : Nat) : Int))), (69, .d (I x69))]
abbrev UC (inputs : Int) (from_ : Int) (to : Int) (level : List (List Int)) (k_ : Int) (out2 : List (List Int)) (n_2 : Int) (x581 : Bool) (x69 : Int) (level_e : List Int) (next3 : List (List Int)) (x74 : Int) : List (Nat × T) := [(0, .d (I inputs)), (1, .d (I from_)), (2, .d (I to)), (8, .own (eOs 1 false F2_ out2)), (9, .own (eOs 1 false F2_ level)), (10, .d (I n_2)), (11, .d (I k_)), (12, .own (eOs 1 false F2_ next3)), (14, .d (eSl 1 false (eI .i64) level_e)), (45, .d (I n_2)), (46, .d (B (decide (n_2 > 65536)))), (49, .d (I k_)), (50, .d (I to)), (51, .d (B (decide (k_ < to)))), (52, .d (B (decide (k_ < to)))), (58, .d (B x581)), (67, .als 9 [] 0 0), (68, .d (I ((level.length : Nat) : Int))), (69, .d (I x69)), (73, .d (I inputs)), (74, .d (I x74))]
abbrev UD (inputs : Int) (from_ : Int) (to : Int) (level : List (List Int)) (k_ : Int) (out2 : List (List Int)) (n_2 : Int) (x581 : Bool) (next1 : List (List Int)) (x69 : Int) : List (Nat × T) := [(0, .d (I inputs)), (1, .d (I from_)), (2, .d (I to)), (8, .own (eOs 1 false F2_ out2)), (9, .own (eOs 1 false F2_ level)), (10, .d (I n_2)), (11, .d (I k_)), (12, .own (eOs 1 false F2_ next1)), (45, .d (I n_2)), (46, .d (B (decide (n_2 > 65536)))), (49, .d (I k_)), (50, .d (I to)), (51, .d (B (decide (k_ < to)))), (52, .d (B (decide (k_ < to)))), (58, .d (B x581)), (67, .als 9 [] 0 0), (68, .d (I ((level.length : Nat) : Int))), (69, .d (I x69))]
abbrev UH (inputs : Int) (from_ : Int) (to : Int) (level : List (List Int)) (k_ : Int) (out2 : List (List Int)) (n_2 : Int) (x581 : Bool) : List (Nat × T) := [(0, .d (I inputs)), (1, .d (I from_)), (2, .d (I to)), (8, .own (eOs 1 false F2_ out2)), (9, .own (eOs 1 false F2_ level)), (10, .d (I n_2)), (11, .d (I k_)), (45, .d (I n_2)), (46, .d (B (decide (n_2 > 65536)))), (49, .d (I k_)), (50, .d (I to)), (51, .d (B (decide (k_ < to)))), (52, .d (B (decide (k_ < to)))), (58, .d (B x581))]
abbrev UI (inputs : Int) (from_ : Int) (to : Int) (level : List (List Int)) (k_ : Int) (out2 : List (List Int)) (n_2 : Int) : List (Nat × T) := [(0, .d (I inputs)), (1, .d (I from_)), (2, .d (I to)), (8, .own (eOs 1 false F2_ out2)), (9, .own (eOs 1 false F2_ level)), (10, .d (I n_2)), (11, .d (I k_))]
abbrev UE (inputs : Int) (from_ : Int) (to : Int) (out : List (List Int)) (level : List (List Int)) (n_ : Int) (k_ : Int) : List (Nat × T) := [(0, .d (I inputs)), (1, .d (I from_)), (2, .d (I to)), (8, .own (eOs 1 false F2_ out)), (9, .own (eOs 1 false F2_ level)), (10, .d (I n_)), (11, .d (I k_))]
theorem z07 {ctr : Ctr} (hC : y6 Try.prog ctr) (hm : Try.prog.follows .mixedOrders = true) (h_tries_sorted : ctr.Has vU) (h_slices_Clip_int_int : ctr.Has zV) : kx.Ok Try.prog := by
 refine y8 ?_
 rintro ⟨inputs, from_, to⟩ r0 hf0
 try unfold jG at hf0
 refine zx (tt := yE) (keep := false) (rs := [(6, none), (7, none)]) (n := ⟨88, []⟩) (body := zG) z6 Try.func62 rfl (by kernel_rfl) rfl rfl (by show (3 : Nat) ≤ 88; decide) fun E hE => ?_
 rcases zY hf0 with ⟨c0, hf0⟩ | ⟨c0, hf0⟩
 ·have o0 := shM F2_ F2_ []
  obtain rfl := ze hf0
  exact zh ((zC z6 (.inl 83) [82]).or X0) z6 hC hm hE 4000 (hs := [bT, .l ([].map F2_)]) (x := (.tup [eSl 1 true F1_ [], I 3])) [ob c0, ob o0] (by kernel_rfl) (show LeV (.tup [eSl 1 true F1_ [], I 3]) (.tup [eSl 1 true F1_ ([] : List (List Int)), I 3]) from inferInstance)
 ·rcases zY hf0 with ⟨c1, hf0⟩ | ⟨c1, hf0⟩
  ·have o1 := shM F2_ F2_ []
   obtain rfl := ze hf0
   exact zh ((zC z6 (.inl 83) [82]).or X0) z6 hC hm hE 4000 (hs := (bF :: (rpN 4 bT [.l ([].map F2_)]))) (x := (.tup [eSl 1 true F1_ [], I 1])) [ob c0, ob c1, ob c1, ob c1, oT, ob o1] (by kernel_rfl) (show LeV (.tup [eSl 1 true F1_ [], I 1]) (.tup [eSl 1 true F1_ ([] : List (List Int)), I 1]) from inferInstance)
  ·rcases zY hf0 with ⟨c2, hf0⟩ | ⟨c2, hf0⟩
   ·have o2 := shM F2_ F2_ []
    obtain rfl := ze hf0
    exact zh ((zC z6 (.inl 83) [82]).or X0) z6 hC hm hE 4000 (hs := (rpN 4 bF [bT, .l ([].map F2_)])) (x := (.tup [eSl 1 true F1_ [], I 1])) [ob c0, ob c1, ob c1, ob c1, ob c2, ob o2] (by kernel_rfl) (show LeV (.tup [eSl 1 true F1_ [], I 1]) (.tup [eSl 1 true F1_ ([] : List (List Int)), I 1]) from inferInstance)
   ·rcases zY hf0 with ⟨c3, hf0⟩ | ⟨c3, hf0⟩
    ·have o3 := shM F2_ F2_ []
     obtain rfl := ze hf0
     exact zh ((zC z6 (.inl 83) [82]).or X0) z6 hC hm hE 4000 (hs := (rpN 5 bF [bT, .l ([].map F2_)])) (x := (.tup [eSl 1 true F1_ [], I 3])) [ob c0, ob c1, ob c1, ob c1, ob c2, ob c3, ob o3] (by kernel_rfl) (show LeV (.tup [eSl 1 true F1_ [], I 3]) (.tup [eSl 1 true F1_ ([] : List (List Int)), I 3]) from inferInstance)
    ·have o4 := shM F0_ F1_ ([[]] : List (List Int))
     obtain ⟨t1, ht1, hf0⟩ := zi hf0
     refine zI ((zC z6 (.inl 83) [82]).or X0) z6 hC hm [0,1,2,8,9,10,11] 4000 (rpN 6 bF [.v 5 [9], .l (([[]] : List (List Int)).map F1_)]) (sub [1,1,1,1,1,1,1,1,0] zG) (frs [1,1,1,1,1,1,1,1,0] [] zG []) [(0, .d (I inputs)), (1, .d (I from_)), (2, .d (I to)), (8, .own (eOs 1 true F2_ [])), (9, .own (eOs 1 true F1_ ([[]]))), (10, .d (I 0)), (11, .d (I 0))] [ob c0, ob c1, ob c1, ob c1, ob c2, ob c3, ob o4] (by kernel_rfl) fun st0 h0 => ?_
     refine zN (X := (List (List Int) × List (List Int) × Int × Int) × Nat) (c' := (sub [1,1,1,1,1,1,1,1,0,0] zG)) (by kernel_rfl) [0,1,2,8,9,10,11] (fun x => yG (fun s => v8 inputs from_ to s.1 s.2.1 s.2.2.1 s.2.2.2) x.2 x.1 = some t1) (fun x => x.2) (fun x => UE inputs from_ to x.1.1 x.1.2.1 x.1.2.2.1 x.1.2.2.2) ((([] : List (List Int)), ([[]] : List (List Int)), 0,0), wJ) _ h0 inferInstance ht1 ?_
     rintro ⟨⟨out, level, n_, k_⟩, n1⟩ hn1 J1 hJ1
     obtain ⟨m1, lr1, rfl, hf1, hl1⟩ := xM hn1
     try unfold v8 at hf1
     refine zI ((zC z6 (.inl 83) [82]).or X0) z6 hC hm [0,1,2,8,9,10,11] 4000 [.cut 0] (sub [1,1,1,1,1,1,1,1,0,0] zG) (frs [1,1,1,1,1,1,1,1,0,0] [J1] zG []) [(0, .d (I inputs)), (1, .d (I from_)), (2, .d (I to)), (8, .own (eOs 1 false F2_ out)), (9, .own (eOs 1 false F2_ level)), (10, .d (I n_)), (11, .d (I k_))] [] (by kernel_rfl) fun st0 h0 => ?_
     refine zr (X := List (List Int) × List (List Int) × Int × Int × Bool × Bool) (x := (sub [1,1,1,1,1,1,1,1,0,0,2] zG)) (y := (sub [1,1,1,1,1,1,1,1,0,0,1] zG)) (by kernel_rfl) [0,1,2,8,9,10,11,45,46,49,50,51,52,58] [0,1,2,8,9,10,11] _ h0 (fun z => kw k_ z.1 z.2.1 z.2.2.1 z.2.2.2.1 z.2.2.2.2.1 z.2.2.2.2.2 = some lr1) (fun z => UJ inputs from_ to k_ z.1 z.2.1 z.2.2.1 z.2.2.2.1 z.2.2.2.2.1 z.2.2.2.2.2) ?_ fun J2 hJ2 => ?_
     ·rintro ⟨out1, level1, n_1, x45, x46, x58⟩ hf1
      unfold kw at hf1
      obtain rfl := ze hf1
      exact zk ((zC z6 (.inl 83) [82]).or X0) z6 hC hm [0,1,2,8,9,10,11] 4000 [] J1 [(0, .d (I inputs)), (1, .d (I from_)), (2, .d (I to)), (8, .own (eOs 1 false F2_ out1)), (9, .own (eOs 1 false F2_ level1)), (10, .d (I n_1)), (11, .d (I (w64 (k_ + 1))))] [] (by kernel_rfl) fun st0 h0 => hJ1 st0 _ ((out1, level1, n_1, w64 (k_ + 1)), m1) hl1 (Nat.lt_succ_self m1) h0 inferInstance
     ·refine zI ((zC z6 (.inl 83) [82]).or X0) z6 hC hm [0,1,2,8,9,10,11] 4000 [.cut 0] (sub [1,1,1,1,1,1,1,1,0,0,2,0] zG) (frs [1,1,1,1,1,1,1,1,0,0,2,0] [J1, J2] zG []) [(0, .d (I inputs)), (1, .d (I from_)), (2, .d (I to)), (8, .own (eOs 1 false F2_ out)), (9, .own (eOs 1 false F2_ level)), (10, .d (I n_)), (11, .d (I k_))] [] (by kernel_rfl) fun st0 h0 => ?_
      refine zr (X := List (List Int) × Int) (x := (sub [1,1,1,1,1,1,1,1,0,0,2,0,2] zG)) (y := (sub [1,1,1,1,1,1,1,1,0,0,2,0,1] zG)) (by kernel_rfl) [0,1,2,8,9,10,11] [0,1,2,8,9,10,11] _ h0 (fun z => uH inputs to level k_ z.1 z.2 = some lr1) (fun z => UI inputs from_ to level k_ z.1 z.2) ?_ fun J3 hJ3 => ?_
      ·rintro ⟨out2, n_2⟩ hf1
       unfold uH at hf1
       refine zI ((zC z6 (.inl 83) [82]).or X0) z6 hC hm [0,1,2,8,9,10,11] 4000 [.cut 0] (sub [1,1,1,1,1,1,1,1,0,0,2,0,1] zG) (frs [1,1,1,1,1,1,1,1,0,0,2,0,1] [J1, J2] zG []) [(0, .d (I inputs)), (1, .d (I from_)), (2, .d (I to)), (8, .own (eOs 1 false F2_ out2)), (9, .own (eOs 1 false F2_ level)), (10, .d (I n_2)), (11, .d (I k_))] [] (by kernel_rfl) fun st0 h0 => ?_
       refine zr (X := Bool) (x := (sub [1,1,1,1,1,1,1,1,0,0,2,0,1,2] zG)) (y := (sub [1,1,1,1,1,1,1,1,0,0,2,0,1,1] zG)) (by kernel_rfl) [0,1,2,8,9,10,11,45,46,49,50,51,52,58] [0,1,2,8,9,10,11] _ h0 (fun z => uG inputs to level k_ out2 n_2 z = some lr1) (fun z => UH inputs from_ to level k_ out2 n_2 z) ?_ fun J4 hJ4 => ?_
       ·rintro x581 hf1
        unfold uG at hf1
        rcases zY hf1 with ⟨c4, hf1⟩ | ⟨c4, hf1⟩
        ·have o5 := shM F2_ F2_ out2
         obtain ⟨r_, h0, hf1⟩ := zi hf1
         have o6 := yP h_tries_sorted (x := out2) h0 (loC F7_ out2 <| loN)
         have o7 := shM F2_ F2_ out2
         obtain rfl := ze hf1
         obtain rfl := hl1
         obtain rfl := ze hf0
         exact zh ((zC z6 (.inl 83) [82]).or X0) z6 hC hm hE 4000 (hs := [bT, .g [], .l (out2.map F2_), .a (.tup [eSl 1 true F1_ r_.1, I r_.2]), .l (out2.map F2_)]) (x := (.tup [eSl 1 true F1_ r_.1, I r_.2])) [ob c4, ob (zJ h_tries_sorted), ob o5, ob o6, ob o7] (by kernel_rfl) (LeV.refl _)
        ·refine zI ((zC z6 (.inl 83) [82]).or X0) z6 hC hm [0,1,2,8,9,10,11,12,45,46,49,50,51,52,58] 4000 [bF, .cut 1] (sub [1,1,1,1,1,1,1,1,0,0,2,0,1,1,1,1] zG) (frs [1,1,1,1,1,1,1,1,0,0,2,0,1,1,1,1] [J1, J2] zG []) [(0, .d (I inputs)), (1, .d (I from_)), (2, .d (I to)), (8, .own (eOs 1 false F2_ out2)), (9, .own (eOs 1 false F2_ level)), (10, .d (I n_2)), (11, .d (I k_)), (12, .own (eOs 1 true F2_ [])), (45, .d (I n_2)), (46, .d (B (decide (n_2 > 65536)))), (49, .d (I k_)), (50, .d (I to)), (51, .d (B (decide (k_ < to)))), (52, .d (B (decide (k_ < to)))), (58, .d (B x581))] [ob c4] (by kernel_rfl) fun st0 h0 => ?_
         refine zr (X := List (List Int)) (x := (sub [1,1,1,1,1,1,1,1,0,0,2,0,1,1,1,1,2] zG)) (y := (sub [1,1,1,1,1,1,1,1,0,0,2,0,1,1,1,1,1] zG)) (by kernel_rfl) [0,1,2,8,10,11,12,45,46,49,50,51,52,58] [0,1,2,8,9,10,11,12,45,46,49,50,51,52,58] _ h0 (fun z => ku k_ out2 n_2 x581 z = some lr1) (fun z => UG inputs from_ to k_ out2 n_2 x581 z) ?_ fun J5 hJ5 => ?_
         ·rintro next hf1
          unfold ku at hf1
          exact zk ((zC z6 (.inl 83) [82]).or X0) z6 hC hm [0,1,2,8,9,10,11,45,46,49,50,51,52,58] 4000 [] J2 [(0, .d (I inputs)), (1, .d (I from_)), (2, .d (I to)), (8, .own (eOs 1 false F2_ out2)), (9, .own (eOs 1 false F2_ next)), (10, .d (I n_2)), (11, .d (I k_)), (45, .d (I n_2)), (46, .d (B (decide (n_2 > 65536)))), (49, .d (I k_)), (50, .d (I to)), (51, .d (B (decide (k_ < to)))), (52, .d (B (decide (k_ < to)))), (58, .d (B x581))] [] (by kernel_rfl) fun st0 h0 => hJ2 st0 _ (out2, next, n_2, n_2, decide (n_2 > 65536), x581) hf1 h0 inferInstance
         ·obtain ⟨t6, ht6, hf1⟩ := zi hf1
          refine zI ((zC z6 (.inl 83) [82]).or X0) z6 hC hm [0,1,2,8,9,10,11,12,45,46,49,50,51,52,58,67,68,69] 4000 [aLn level.length] (sub [1,1,1,1,1,1,1,1,0,0,2,0,1,1,1,1,2,1,0] zG) (frs [1,1,1,1,1,1,1,1,0,0,2,0,1,1,1,1,2,1,0] [J1, J2, J5] zG []) [(0, .d (I inputs)), (1, .d (I from_)), (2, .d (I to)), (8, .own (eOs 1 false F2_ out2)), (9, .own (eOs 1 false F2_ level)), (10, .d (I n_2)), (11, .d (I k_)), (12, .own (eOs 1 true F2_ [])), (45, .d (I n_2)), (46, .d (B (decide (n_2 > 65536)))), (49, .d (I k_)), (50, .d (I to)), (51, .d (B (decide (k_ < to)))), (52, .d (B (decide (k_ < to)))), (58, .d (B x581)), (67, .als 9 [] 0 0), (68, .d (I ((level.length : Nat) : Int))), (69, .d (I 0))] [ob (lnM F2_ level)] (by kernel_rfl) fun st0 h0 => ?_
          refine zN (X := (List (List Int) × Int) × Nat) (c' := (sub [1,1,1,1,1,1,1,1,0,0,2,0,1,1,1,1,2,1,0,0] zG)) (by kernel_rfl) [0,1,2,8,9,10,11,12,45,46,49,50,51,52,58,67,68,69] (fun x => yG (fun s => wm inputs level s.1 s.2) x.2 x.1 = some t6) (fun x => x.2) (fun x => UD inputs from_ to level k_ out2 n_2 x581 x.1.1 x.1.2) ((([] : List (List Int)), 0), wJ) _ h0 inferInstance ht6 ?_
          rintro ⟨⟨next1, x69⟩, n6⟩ hn6 J6 hJ6
          obtain ⟨m6, lr2, rfl, hf2, hl2⟩ := xM hn6
          try unfold wm at hf2
          rcases zY hf2 with ⟨c5, hf2⟩ | ⟨c5, hf2⟩
          ·refine zI ((zC z6 (.inl 83) [82]).or X0) z6 hC hm [0,1,2,8,9,10,11,12,45,46,49,50,51,52,58,67,68,69] 4000 [bT, .cut 0] (sub [1,1,1,1,1,1,1,1,0,0,2,0,1,1,1,1,2,1,0,0,1,1] zG) (frs [1,1,1,1,1,1,1,1,0,0,2,0,1,1,1,1,2,1,0,0,1,1] [J1, J2, J5, J6] zG []) [(0, .d (I inputs)), (1, .d (I from_)), (2, .d (I to)), (8, .own (eOs 1 false F2_ out2)), (9, .own (eOs 1 false F2_ level)), (10, .d (I n_2)), (11, .d (I k_)), (12, .own (eOs 1 false F2_ next1)), (45, .d (I n_2)), (46, .d (B (decide (n_2 > 65536)))), (49, .d (I k_)), (50, .d (I to)), (51, .d (B (decide (k_ < to)))), (52, .d (B (decide (k_ < to)))), (58, .d (B x581)), (67, .als 9 [] 0 0), (68, .d (I ((level.length : Nat) : Int))), (69, .d (I x69))] [ob c5] (by kernel_rfl) fun st0 h0 => ?_
           refine zr (X := List (List Int)) (x := (sub [1,1,1,1,1,1,1,1,0,0,2,0,1,1,1,1,2,1,0,0,1,1,2] zG)) (y := (sub [1,1,1,1,1,1,1,1,0,0,2,0,1,1,1,1,2,1,0,0,1,1,1] zG)) (by kernel_rfl) [0,1,2,8,9,10,11,12,45,46,49,50,51,52,58,67,68,69] [0,1,2,8,9,10,11,12,45,46,49,50,51,52,58,67,68,69] _ h0 (fun z => kr x69 z = some lr2) (fun z => UF inputs from_ to level k_ out2 n_2 x581 x69 z) ?_ fun J7 hJ7 => ?_
           ·rintro next2 hf2
            unfold kr at hf2
            obtain rfl := ze hf2
            exact zk ((zC z6 (.inl 83) [82]).or X0) z6 hC hm [0,1,2,8,9,10,11,12,45,46,49,50,51,52,58,67,68,69] 4000 [] J6 [(0, .d (I inputs)), (1, .d (I from_)), (2, .d (I to)), (8, .own (eOs 1 false F2_ out2)), (9, .own (eOs 1 false F2_ level)), (10, .d (I n_2)), (11, .d (I k_)), (12, .own (eOs 1 false F2_ next2)), (45, .d (I n_2)), (46, .d (B (decide (n_2 > 65536)))), (49, .d (I k_)), (50, .d (I to)), (51, .d (B (decide (k_ < to)))), (52, .d (B (decide (k_ < to)))), (58, .d (B x581)), (67, .als 9 [] 0 0), (68, .d (I ((level.length : Nat) : Int))), (69, .d (I (w64 (x69 + 1))))] [] (by kernel_rfl) fun st0 h0 => hJ6 st0 _ ((next2, w64 (x69 + 1)), m6) hl2 (Nat.lt_succ_self m6) h0 inferInstance
           ·obtain ⟨level_e, h1, hf2⟩ := zi hf2
            obtain ⟨t8, ht8, hf2⟩ := zi hf2
            refine zI ((zC z6 (.inl 83) [82]).or X0) z6 hC hm [0,1,2,8,9,10,11,12,14,45,46,49,50,51,52,58,67,68,69,73,74] 4000 [.a (F2_ level_e)] (sub [1,1,1,1,1,1,1,1,0,0,2,0,1,1,1,1,2,1,0,0,1,1,2,0,1,1,0] zG) (frs [1,1,1,1,1,1,1,1,0,0,2,0,1,1,1,1,2,1,0,0,1,1,2,0,1,1,0] [J1, J2, J5, J6, J7] zG []) [(0, .d (I inputs)), (1, .d (I from_)), (2, .d (I to)), (8, .own (eOs 1 false F2_ out2)), (9, .own (eOs 1 false F2_ level)), (10, .d (I n_2)), (11, .d (I k_)), (12, .own (eOs 1 false F2_ next1)), (14, .d (eSl 1 false (eI .i64) level_e)), (45, .d (I n_2)), (46, .d (B (decide (n_2 > 65536)))), (49, .d (I k_)), (50, .d (I to)), (51, .d (B (decide (k_ < to)))), (52, .d (B (decide (k_ < to)))), (58, .d (B x581)), (67, .als 9 [] 0 0), (68, .d (I ((level.length : Nat) : Int))), (69, .d (I x69)), (73, .d (I inputs)), (74, .d (I 0))] [ob (iL F2_ h1), ob (iM F2_ h1)] (by kernel_rfl) fun st0 h0 => ?_
            refine zN (X := (List (List Int) × Int) × Nat) (c' := (sub [1,1,1,1,1,1,1,1,0,0,2,0,1,1,1,1,2,1,0,0,1,1,2,0,1,1,0,0] zG)) (by kernel_rfl) [0,1,2,8,9,10,11,12,14,45,46,49,50,51,52,58,67,68,69,73,74] (fun x => yG (fun s => wk inputs level_e s.1 s.2) x.2 x.1 = some t8) (fun x => x.2) (fun x => UC inputs from_ to level k_ out2 n_2 x581 x69 level_e x.1.1 x.1.2) ((next1,0), wJ) _ h0 inferInstance ht8 ?_
            rintro ⟨⟨next3, x74⟩, n8⟩ hn8 J8 hJ8
            obtain ⟨m8, lr3, rfl, hf3, hl3⟩ := xM hn8
            try unfold wk at hf3
            rcases zY hf3 with ⟨c6, hf3⟩ | ⟨c6, hf3⟩
            ·obtain ⟨r_1, h2, hf3⟩ := zi hf3
             have o8 := yP h_slices_Clip_int_int (x := level_e) h2 (loC F2_ level_e <| loN)
             obtain ⟨g0, hf3⟩ := gdE hf3
             have o9 := aN (eI .i64) (eI .i64) g0 (by simp)
             have o10 := aM (eI .i64) r_1 ([x74] : List Int)
             have o11 := shM (eI .i64) (eI .i64) (r_1 ++ ([x74] : List Int))
             have o12 := dM F2_ ([(r_1 ++ ([x74] : List Int))] : List (List Int))
             have o13 := dM F2_ ([(r_1 ++ ([x74] : List Int))] : List (List Int))
             obtain ⟨g1, hf3⟩ := gdE hf3
             have o14 := aL F2_ F2_ g1
             have o15 := aM F2_ next3 ([(r_1 ++ ([x74] : List Int))] : List (List Int))
             obtain rfl := ze hf3
             exact zk ((zC z6 (.inl 83) [82]).or X0) z6 hC hm [0,1,2,8,9,10,11,12,14,45,46,49,50,51,52,58,67,68,69,73,74] 4000 [bT, .g [], .a (F1_ r_1), bT, .l ((r_1 ++ ([x74] : List Int)).map (eI .i64)), .l ((r_1 ++ ([x74] : List Int)).map (eI .i64)), bT, .l ((next3 ++ ([(r_1 ++ ([x74] : List Int))] : List (List Int))).map F2_)] J8 [(0, .d (I inputs)), (1, .d (I from_)), (2, .d (I to)), (8, .own (eOs 1 false F2_ out2)), (9, .own (eOs 1 false F2_ level)), (10, .d (I n_2)), (11, .d (I k_)), (12, .own (eOs 1 false F2_ (next3 ++ ([(r_1 ++ ([x74] : List Int))] : List (List Int))))), (14, .d (eSl 1 false (eI .i64) level_e)), (45, .d (I n_2)), (46, .d (B (decide (n_2 > 65536)))), (49, .d (I k_)), (50, .d (I to)), (51, .d (B (decide (k_ < to)))), (52, .d (B (decide (k_ < to)))), (58, .d (B x581)), (67, .als 9 [] 0 0), (68, .d (I ((level.length : Nat) : Int))), (69, .d (I x69)), (73, .d (I inputs)), (74, .d (I (w64 (x74 + 1))))] [ob c6, ob (zJ h_slices_Clip_int_int), ob o8, ob (dM (eI .i64) ([x74] : List Int)), ob (dM (eI .i64) ([x74] : List Int)), ob o9, ob o10, ob o11, ob o12, ob o13, ob o14, ob o15] (by kernel_rfl) fun st0 h0 => hJ8 st0 _ (((next3 ++ ([(r_1 ++ ([x74] : List Int))] : List (List Int))), w64 (x74 + 1)), m8) hl3 (Nat.lt_succ_self m8) h0 inferInstance
            ·obtain rfl := ze hf3
             obtain rfl := hl3
             exact zk ((zC z6 (.inl 83) [82]).or X0) z6 hC hm [0,1,2,8,9,10,11,12,45,46,49,50,51,52,58,67,68,69] 4000 [bF] J7 [(0, .d (I inputs)), (1, .d (I from_)), (2, .d (I to)), (8, .own (eOs 1 false F2_ out2)), (9, .own (eOs 1 false F2_ level)), (10, .d (I n_2)), (11, .d (I k_)), (12, .own (eOs 1 false F2_ next3)), (45, .d (I n_2)), (46, .d (B (decide (n_2 > 65536)))), (49, .d (I k_)), (50, .d (I to)), (51, .d (B (decide (k_ < to)))), (52, .d (B (decide (k_ < to)))), (58, .d (B x581)), (67, .als 9 [] 0 0), (68, .d (I ((level.length : Nat) : Int))), (69, .d (I x69))] [ob c6] (by kernel_rfl) fun st0 h0 => hJ7 st0 _ next3 hf2 h0 inferInstance
          ·obtain rfl := ze hf2
           obtain rfl := hl2
           exact zk ((zC z6 (.inl 83) [82]).or X0) z6 hC hm [0,1,2,8,10,11,12,45,46,49,50,51,52,58] 4000 [bF] J5 [(0, .d (I inputs)), (1, .d (I from_)), (2, .d (I to)), (8, .own (eOs 1 false F2_ out2)), (10, .d (I n_2)), (11, .d (I k_)), (12, .own (eOs 1 false F2_ next1)), (45, .d (I n_2)), (46, .d (B (decide (n_2 > 65536)))), (49, .d (I k_)), (50, .d (I to)), (51, .d (B (decide (k_ < to)))), (52, .d (B (decide (k_ < to)))), (58, .d (B x581))] [ob c5] (by kernel_rfl) fun st0 h0 => hJ5 st0 _ next1 hf1 h0 inferInstance
       ·rcases zY hf1 with ⟨c7, hf1⟩ | ⟨c7, hf1⟩
        ·have o16 := shM F2_ F2_ []
         obtain rfl := ze hf1
         obtain rfl := hl1
         obtain rfl := ze hf0
         exact zh ((zC z6 (.inl 83) [82]).or X0) z6 hC hm hE 4000 (hs := (aLn out2.length :: (rpN 10 bT [.l ([].map F2_)]))) (x := (.tup [eSl 1 true F1_ [], I 3])) (ob (lnM F2_ out2) :: ob c7 :: ob c7 :: ob c7 :: (rpN 7 oT [ob o16])) (by kernel_rfl) (show LeV (.tup [eSl 1 true F1_ [], I 3]) (.tup [eSl 1 true F1_ ([] : List (List Int)), I 3]) from inferInstance)
        ·rcases zY hf1 with ⟨c8, hf1⟩ | ⟨c8, hf1⟩
         ·have o17 := shM F2_ F2_ []
          obtain rfl := ze hf1
          obtain rfl := hl1
          obtain rfl := ze hf0
          exact zh ((zC z6 (.inl 83) [82]).or X0) z6 hC hm hE 4000 (hs := (aLn out2.length :: bF :: bF :: bF :: (rpN 7 bT [.l ([].map F2_)]))) (x := (.tup [eSl 1 true F1_ [], I 3])) (ob (lnM F2_ out2) :: ob c7 :: ob c7 :: ob c7 :: (rpN 6 (ob c8) [oT, ob o17])) (by kernel_rfl) (show LeV (.tup [eSl 1 true F1_ [], I 3]) (.tup [eSl 1 true F1_ ([] : List (List Int)), I 3]) from inferInstance)
         ·rcases zY hf1 with ⟨c9, hf1⟩ | ⟨c9, hf1⟩
          ·rcases zY hf1 with ⟨c10, hf1⟩ | ⟨c10, hf1⟩
           ·have o18 := shM F2_ F2_ []
            obtain rfl := ze hf1
            obtain rfl := hl1
            obtain rfl := ze hf0
            exact zh ((zC z6 (.inl 83) [82]).or X0) z6 hC hm hE 4000 (hs := (aLn out2.length :: (rpN 7 bF [bT, bT, aLn level.length, bT, bT, bT, bF, bT, bF, bT, .l ([].map F2_)]))) (x := (.tup [eSl 1 true F1_ [], I 3])) (ob (lnM F2_ out2) :: ob c7 :: ob c7 :: ob c7 :: (rpN 4 (ob c8) [ob c9, ob c9, ob (lnM F2_ level), ob c9, ob c9, ob c9, ob c8, ob c9, ob c8, ob c10, ob o18])) (by kernel_rfl) (show LeV (.tup [eSl 1 true F1_ [], I 3]) (.tup [eSl 1 true F1_ ([] : List (List Int)), I 3]) from inferInstance)
           ·exact zk ((zC z6 (.inl 83) [82]).or X0) z6 hC hm [0,1,2,8,9,10,11,45,46,49,50,51,52,58] 4000 (aLn out2.length :: (rpN 7 bF [bT, bT, aLn level.length, bT, bT, bT, bF, bT, bF, bF])) J4 [(0, .d (I inputs)), (1, .d (I from_)), (2, .d (I to)), (8, .own (eOs 1 false F2_ out2)), (9, .own (eOs 1 false F2_ level)), (10, .d (I n_2)), (11, .d (I k_)), (45, .d (I n_2)), (46, .d (B (decide (n_2 > 65536)))), (49, .d (I k_)), (50, .d (I to)), (51, .d (B (decide (k_ < to)))), (52, .d (B (decide (k_ < to)))), (58, .d (B (decide ((w64 (((level.length : Nat) : Int) * inputs)) > 4096))))] (ob (lnM F2_ out2) :: ob c7 :: ob c7 :: ob c7 :: (rpN 4 (ob c8) [ob c9, ob c9, ob (lnM F2_ level), ob c9, ob c9, ob c9, ob c8, ob c9, ob c8, ob c10])) (by kernel_rfl) fun st0 h0 => hJ4 st0 _ (decide ((w64 (((level.length : Nat) : Int) * inputs)) > 4096)) hf1 h0 inferInstance
          ·exact zk ((zC z6 (.inl 83) [82]).or X0) z6 hC hm [0,1,2,8,9,10,11,45,46,49,50,51,52,58] 4000 (aLn out2.length :: (rpN 16 bF [])) J4 [(0, .d (I inputs)), (1, .d (I from_)), (2, .d (I to)), (8, .own (eOs 1 false F2_ out2)), (9, .own (eOs 1 false F2_ level)), (10, .d (I n_2)), (11, .d (I k_)), (45, .d (I n_2)), (46, .d (B (decide (n_2 > 65536)))), (49, .d (I k_)), (50, .d (I to)), (51, .d (B (decide (k_ < to)))), (52, .d (B (decide (k_ < to)))), (58, .d (B false))] (ob (lnM F2_ out2) :: ob c7 :: ob c7 :: ob c7 :: (rpN 4 (ob c8) (rpN 5 (ob c9) [ob c8, ob c9, ob c8, oF]))) (by kernel_rfl) fun st0 h0 => hJ4 st0 _ false hf1 h0 inferInstance
      ·rcases zY hf1 with ⟨c11, hf1⟩ | ⟨c11, hf1⟩
       ·obtain ⟨g2, hf1⟩ := gdE hf1
        have o19 := aL F2_ F2_ g2
        have o20 := aM F2_ out level
        exact zk ((zC z6 (.inl 83) [82]).or X0) z6 hC hm [0,1,2,8,9,10,11] 4000 [bT, bT, .l ((out ++ level).map F2_), aLn level.length] J3 [(0, .d (I inputs)), (1, .d (I from_)), (2, .d (I to)), (8, .own (eOs 1 false F2_ (out ++ level))), (9, .own (eOs 1 false F2_ level)), (10, .d (I (w64 (n_ + (w64 (k_ * ((level.length : Nat) : Int))))))), (11, .d (I k_))] [ob c11, ob (dM F2_ level), ob (dM F2_ level), ob o19, ob o20, ob (lnM F2_ level)] (by kernel_rfl) fun st0 h0 => hJ3 st0 _ ((out ++ level), w64 (n_ + (w64 (k_ * ((level.length : Nat) : Int))))) hf1 h0 inferInstance
       ·exact zk ((zC z6 (.inl 83) [82]).or X0) z6 hC hm [0,1,2,8,9,10,11] 4000 [bF] J3 [(0, .d (I inputs)), (1, .d (I from_)), (2, .d (I to)), (8, .own (eOs 1 false F2_ out)), (9, .own (eOs 1 false F2_ level)), (10, .d (I n_)), (11, .d (I k_))] [ob c11] (by kernel_rfl) fun st0 h0 => hJ3 st0 _ (out, n_) hf1 h0 inferInstance
noncomputable def JF : Code := (Try.f25.body).getD .skip
noncomputable def Zo : yw := spF (α := Int × Int) (ρ := List (List Int) × Int) 25 (fun x => [(eI .i64) x.1, (eI .i64) x.2]) (fun r => .tup [F4_ r.1, (eI .i64) r.2]) (fun x => jz x.1 x.2) [] (by
 rintro ⟨a0, a1⟩ ⟨b0, b1⟩ h
 have e0 := yO.inj (f := (eI .i64)) _ _ (List.cons.inj h).1
 replace h := (List.cons.inj h).2
 have e1 := yO.inj (f := (eI .i64)) _ _ (List.cons.inj h).1
 subst e0 e1
 rfl)
theorem JX {ctr : Ctr} (hC : y6 Try.prog ctr) (hm : Try.prog.follows .mixedOrders = true) (h_tries_all : ctr.Has kx) : Zo.Ok Try.prog := by
 refine y8 ?_
 rintro ⟨inputs, k_⟩ r0 hf0
 try unfold jz at hf0
 refine zx (tt := yE) (keep := false) (rs := [(4, none), (5, none)]) (n := ⟨11, []⟩) (body := JF) z6 Try.func25 rfl (by kernel_rfl) rfl rfl (by show (2 : Nat) ≤ 11; decide) fun E hE => ?_
 obtain ⟨r_, h0, hf0⟩ := zi hf0
 have o0 := yP h_tries_all (x := (inputs, 0, k_)) h0 (loC (eI .i64) inputs <| loC (eI .i64) 0 <| loC (eI .i64) k_ <| loN)
 obtain rfl := ze hf0
 exact zh X0 z6 hC hm hE 4000 (hs := [.g [], .a (.tup [eSl 1 true F1_ r_.1, I r_.2])]) (x := (.tup [eSl 1 true F1_ r_.1, I r_.2])) [ob (zJ h_tries_all), ob o0] (by kernel_rfl) (LeV.refl _)
noncomputable def Q7 : Code := (Try.f26.body).getD .skip
noncomputable def kJ : yw := spF (α := Int × Int) (ρ := List (List Int) × Int) 26 (fun x => [(eI .i64) x.1, (eI .i64) x.2]) (fun r => .tup [F4_ r.1, (eI .i64) r.2]) (fun x => YE x.1 x.2) [] (by
 rintro ⟨a0, a1⟩ ⟨b0, b1⟩ h
 have e0 := yO.inj (f := (eI .i64)) _ _ (List.cons.inj h).1
 replace h := (List.cons.inj h).2
 have e1 := yO.inj (f := (eI .i64)) _ _ (List.cons.inj h).1
 subst e0 e1
 rfl)
theorem QS {ctr : Ctr} (hC : y6 Try.prog ctr) (hm : Try.prog.follows .mixedOrders = true) (h_tries_all : ctr.Has kx) : kJ.Ok Try.prog := by
 refine y8 ?_
 rintro ⟨inputs, k_⟩ r0 hf0
 try unfold YE at hf0
 refine zx (tt := yE) (keep := false) (rs := [(4, none), (5, none)]) (n := ⟨12, []⟩) (body := Q7) z6 Try.func26 rfl (by kernel_rfl) rfl rfl (by show (2 : Nat) ≤ 12; decide) fun E hE => ?_
 obtain ⟨r_, h0, hf0⟩ := zi hf0
 have o0 := yP h_tries_all (x := (inputs, k_, k_)) h0 (loC (eI .i64) inputs <| loC (eI .i64) k_ <| loC (eI .i64) k_ <| loN)
 obtain rfl := ze hf0
 exact zh X0 z6 hC hm hE 4000 (hs := [.g [], .a (.tup [eSl 1 true F1_ r_.1, I r_.2])]) (x := (.tup [eSl 1 true F1_ r_.1, I r_.2])) [ob (zJ h_tries_all), ob o0] (by kernel_rfl) (LeV.refl _)
noncomputable def un : Code := (Try.f84.body).getD .skip
noncomputable def yF : yw := spF (α := List z7) (ρ := List z7) 84 (fun x => [z03 x]) (fun r => z8U r) (fun x => yW x) [] (by
 rintro a0 b0 h
 have e0 := yO.inj (f := z03) _ _ (List.cons.inj h).1
 subst e0
 rfl)
theorem uv {ctr : Ctr} (hC : y6 Try.prog ctr) (hm : Try.prog.follows .mixedOrders = true) : yF.Ok Try.prog := by
 refine y8 ?_
 rintro s_ r0 hf0
 try unfold yW at hf0
 refine zx (tt := yE) (keep := true) (rs := [(2, none)]) (n := ⟨9, []⟩) (body := un) z6 Try.func84 rfl (by kernel_rfl) rfl rfl (by show (1 : Nat) ≤ 9; decide) fun E hE => ?_
 have o0 := lnM zH s_
 have o1 := lnM zH s_
 obtain ⟨g0, hf0⟩ := gdE hf0
 have o2 := z5U zH g0
 have o3 := z9f 2 zH s_ 0 ((s_.length : Nat) : Int).toNat
 obtain rfl := ze hf0
 exact zh X0 z6 hC hm hE 4000 (hs := [aLn s_.length, aLn s_.length, .a (eSl 2 true zH ((s_.drop 0).take (((s_.length : Nat) : Int).toNat - 0)))]) (x := (eSl 2 true zH ((s_.drop 0).take (((s_.length : Nat) : Int).toNat - 0)))) [ob o0, ob o1, ob (slB g0), ob (slC g0), ob o2, ob o3] (by kernel_rfl) (LeV.refl _)
noncomputable def zf : Code := (Try.f63.body).getD .skip
noncomputable def wV : yw := spF (α := zn) (ρ := List z7) 63 (fun x => [z92 x]) (fun r => z8U r) (fun x => vQ x) [true] (by
 rintro a0 b0 h
 have e0 := yO.inj (f := z92) _ _ (List.cons.inj h).1
 subst e0
 rfl)
abbrev u3 (b_ : zn) (r_ : List z7) (number : List Int) (order : List Int) : List (Nat × T) := [(0, .d (.sptr (z5l b_))), (3, .own (.box (eOs 1 true (eI .i64) number))), (4, .own (.box (eOs 1 false (eI .i64) order))), (22, .d (.fn 85 [.sptr (eSl 2 false zH r_)]))]
abbrev kk (out : List z7) : List (Nat × T) := [(6, .own (eOs 2 false wy out))]
abbrev kj (b_ : zn) (bo : List Int × List Int) (x37 : Int) (b_nodes1 : List (Option z7)) (out2 : List z7) : List (Nat × T) := [(0, .own (.box (.agg [I b_.inputs_, eOs 2 false (eOp 2 wy) b_nodes1]))), (3, .own (.box (eOs 1 true (eI .i64) bo.1))), (6, .own (eOs 2 false wy out2)), (35, .d (eSl 1 false (eI .i64) bo.2)), (36, .d (I ((bo.2.length : Nat) : Int))), (37, .d (I x37))]
abbrev ki (b_ : zn) (bo : List Int × List Int) (b_nodes : List (Option z7)) (out1 : List z7) (x37 : Int) (u_ : Int) (b_node_e : z7) (n_Next : List Int) : List (Nat × T) := [(0, .own (.box (.agg [I b_.inputs_, eOs 2 false (eOp 2 wy) (b_nodes.set u_.toNat none)]))), (3, .own (.box (eOs 1 true (eI .i64) bo.1))), (6, .own (eOs 2 false wy out1)), (9, .own (.box (.agg [eOs 1 false (eI .i64) n_Next, B b_node_e.End]))), (35, .d (eSl 1 false (eI .i64) bo.2)), (36, .d (I ((bo.2.length : Nat) : Int))), (37, .d (I x37))]
abbrev kh (b_ : zn) (bo : List Int × List Int) (b_nodes : List (Option z7)) (out1 : List z7) (x37 : Int) (u_ : Int) (b_node_e : z7) (x51 : Int) (n_Next2 : List Int) : List (Nat × T) := [(0, .own (.box (.agg [I b_.inputs_, eOs 2 false (eOp 2 wy) (b_nodes.set u_.toNat none)]))), (3, .own (.box (eOs 1 true (eI .i64) bo.1))), (6, .own (eOs 2 false wy out1)), (9, .own (.box (.agg [eOs 1 false (eI .i64) n_Next2, B b_node_e.End]))), (35, .d (eSl 1 false (eI .i64) bo.2)), (36, .d (I ((bo.2.length : Nat) : Int))), (37, .d (I x37)), (49, .als 9 [.deref, .fld 0] 0 0), (50, .d (I ((b_node_e.Next.length : Nat) : Int))), (51, .d (I x51))]
abbrev ke (b_ : zn) (bo : List Int × List Int) (b_nodes : List (Option z7)) (out1 : List z7) (x37 : Int) (u_ : Int) (b_node_e : z7) (n_Next1 : List Int) (x51 : Int) : List (Nat × T) := [(0, .own (.box (.agg [I b_.inputs_, eOs 2 false (eOp 2 wy) (b_nodes.set u_.toNat none)]))), (3, .own (.box (eOs 1 true (eI .i64) bo.1))), (6, .own (eOs 2 false wy out1)), (9, .own (.box (.agg [eOs 1 false (eI .i64) n_Next1, B b_node_e.End]))), (35, .d (eSl 1 false (eI .i64) bo.2)), (36, .d (I ((bo.2.length : Nat) : Int))), (37, .d (I x37)), (49, .als 9 [.deref, .fld 0] 0 0), (50, .d (I ((b_node_e.Next.length : Nat) : Int))), (51, .d (I x51))]
abbrev kg (b_ : zn) (bo : List Int × List Int) (b_nodes : List (Option z7)) (out1 : List z7) (x37 : Int) : List (Nat × T) := [(0, .own (.box (.agg [I b_.inputs_, eOs 2 false (eOp 2 wy) b_nodes]))), (3, .own (.box (eOs 1 true (eI .i64) bo.1))), (6, .own (eOs 2 false wy out1)), (35, .d (eSl 1 false (eI .i64) bo.2)), (36, .d (I ((bo.2.length : Nat) : Int))), (37, .d (I x37))]
theorem Zf {ctr : Ctr} (hC : y6 Try.prog ctr) (hm : Try.prog.follows .mixedOrders = true) (h_tries_walk : ctr.Has vg) (h_slices_Clip_int_int : ctr.Has zV) (h_slices_Clip_tries_Node_tries_Node : ctr.Has yF) : wV.Ok Try.prog := by
 refine y8 ?_
 rintro b_ r0 hf0
 try unfold vQ at hf0
 refine zx (tt := yE) (keep := true) (rs := [(2, none)]) (n := ⟨74, []⟩) (body := zf) z6 Try.func63 rfl (by kernel_rfl) rfl rfl (by show (1 : Nat) ≤ 74; decide) fun E hE => ?_
 refine z0E (y := .box (.agg [I b_.inputs_, eOs 2 false wy b_.nodes_])) rfl 0 (by kernel_rfl) (by kernel_rfl) fun pv0 hv0 => ?_
 have o0 := lnM wy b_.nodes_
 obtain ⟨g0, hf0⟩ := gdE hf0
 have o1 := rM 1 (eI .i64) ((b_.nodes_.length : Nat) : Int) (0 : Int)
 refine zI X0 z6 hC hm [0,3,4] 4000 [aLn b_.nodes_.length, .a (eOs 1 true (eI .i64) (List.replicate ((b_.nodes_.length : Nat) : Int).toNat (0 : Int))), .cut 1] (sub [1,1,1] zf) (frs [1,1,1] [] zf []) [(0, .own (.box (z93 b_))), (3, .own (.box (eOs 1 true (eI .i64) (List.replicate ((b_.nodes_.length : Nat) : Int).toNat (0 : Int))))), (4, .own (.box (eOs 1 true (eI .i64) [])))] [ob o0, ob (rL g0), ob o1] (by kernel_rfl) fun st0 h0 => WW h0 ?_
 obtain ⟨bo, hq, hf0⟩ := zi hf0
 refine z3k (a := (sub [1,1,1,0,0] zf)) (b := (sub [1,1,1,0,1] zf)) (y := (sub [1,1,1,1] zf)) (by kernel_rfl) 0 (v := pv0) (x := .box (.agg [I b_.inputs_, eOs 2 false wy b_.nodes_])) (x' := .sptr (.agg [I b_.inputs_, eSl 2 false zH b_.nodes_])) [0,3,4] [0,3,4] [(0, .d (.sptr (z5l b_))), (3, .own (.box (eOs 1 true (eI .i64) (List.replicate ((b_.nodes_.length : Nat) : Int).toNat (0 : Int))))), (4, .own (.box (eOs 1 true (eI .i64) [])))] [(0, .d (.sptr (z5l b_))), (3, .own (.box (eOs 1 true (eI .i64) bo.1))), (4, .own (.box (eOs 1 false (eI .i64) bo.2)))] [(0, .own (.box (z93 b_))), (3, .own (.box (eOs 1 true (eI .i64) bo.1))), (4, .own (.box (eOs 1 false (eI .i64) bo.2)))] (by kernel_rfl) ⟨KY.live (f := z92) b_, KY.sh (f := z92) b_⟩ (by kernel_rfl) (by kernel_rfl) (inE (.inl rfl) (inE (.inr (inB _ _ _ _)) (inE (.inr (inB _ _ _ _)) inN))) (by kernel_rfl) (by kernel_rfl) ?_ ?_
 ·unfold uF at hq
  obtain ⟨r_, h0, hq⟩ := zi hq
  have o2 := yP h_tries_walk (x := b_.nodes_) h0 (loC z03 b_.nodes_ <| loN)
  refine qa X0 z6 hC hm [0,3,4,22] 4000 [.g [], .a ((z02 85 z8T) r_)] .normal [(0, .d (.sptr (z5l b_))), (3, .own (.box (eOs 1 true (eI .i64) (List.replicate ((b_.nodes_.length : Nat) : Int).toNat (0 : Int))))), (4, .own (.box (eOs 1 true (eI .i64) []))), (22, .d (.fn 85 [.sptr (eSl 2 false zH r_)]))] [ob (zJ h_tries_walk), ob o2] (by kernel_rfl) fun st0 h0 => ⟨rfl, WW h0 ?_⟩
  obtain ⟨t1, ht1, hq⟩ := zi hq
  refine zI X0 z6 hC hm [0,3,4,22] 4000 [] (sub [1,1,1,0,1,0] zf) [.blk 0] [(0, .d (.sptr (z5l b_))), (3, .own (.box (eOs 1 true (eI .i64) (List.replicate ((b_.nodes_.length : Nat) : Int).toNat (0 : Int))))), (4, .own (.box (eOs 1 true (eI .i64) []))), (22, .d (.fn 85 [.sptr (eSl 2 false zH r_)]))] [] (by kernel_rfl) fun st0 h0 => ?_
  refine JJ (g := .tmp 22) (ps := [23]) (assign := (sub [1,1,1,0,1,0,0] zf)) (body := (sub [1,1,1,0,1,0,1] zf)) (K := 85) (caps := [.sptr (eSl 2 false zH r_)]) (by kernel_rfl) [0,3,4,22] (fun s => u3 b_ r_ s.1 s.2) (fun z => nomatch z) (fun z => nomatch z) ((fun (x : za) (_ : Bool) (_ : Value) => [u4 x])) (F := @x4 r_) (fun s x => xC s.1 s.2 x) ((List.replicate ((b_.nodes_.length : Nat) : Int).toNat (0 : Int)), ([] : List Int)) t1 _ h0 inferInstance (by kernel_rfl) (by decide) (fun _ => rfl) (by rintro ⟨⟩) (by kernel_rfl) (fun _ _ _ => rfl) (qH hC hm h_slices_Clip_int_int r_) ht1 ?_ ?_
  ·rintro tv1 ⟨number, order⟩ x23 vr lr2 hf2
   replace hf2 : xC number order x23 = some lr2 := hf2
   unfold xC at hf2
   refine qa X0 z6 hC hm [0,3,4,5,22] 4000 [] .normal [(0, .d (.sptr (z5l b_))), (3, .own (.box (eOs 1 true (eI .i64) number))), (4, .own (.box (eOs 1 false (eI .i64) order))), (5, .own (.box (u4 x23))), (22, .d (.fn 85 [.sptr (eSl 2 false zH r_)]))] [] (by kernel_rfl) fun st0 h0 => ⟨rfl, WW h0 ?_⟩
   obtain ⟨number_e, h1, hf2⟩ := zi hf2
   have o3 := sM (eI .i64) number x23.at_ ((order.length : Nat) : Int)
   have o4 := dM (eI .i64) ([x23.at_] : List Int)
   have o5 := dM (eI .i64) ([x23.at_] : List Int)
   obtain ⟨g1, hf2⟩ := gdE hf2
   have o6 := aM (eI .i64) order ([x23.at_] : List Int)
   obtain rfl := ze hf2
   exact qa X0 z6 hC hm [0,3,4,22] 4000 [aLn order.length, .a ((eI .i64) number_e), .a ((eI .i64) number_e), .l ((number.set x23.at_.toNat ((order.length : Nat) : Int)).map (eI .i64)), bT, .l ((order ++ ([x23.at_] : List Int)).map (eI .i64))] .normal [(0, .d (.sptr (z5l b_))), (3, .own (.box (eOs 1 true (eI .i64) (number.set x23.at_.toNat ((order.length : Nat) : Int))))), (4, .own (.box (eOs 1 false (eI .i64) (order ++ ([x23.at_] : List Int))))), (22, .d (.fn 85 [.sptr (eSl 2 false zH r_)]))] [ob (lnM (eI .i64) order), ob (iL (eI .i64) h1), ob (iM (eI .i64) h1), ob (iM (eI .i64) h1), ob o3, ob o4, ob o5, ob (aL (eI .i64) (eI .i64) g1), ob o6] (by kernel_rfl) fun st0 h0 => ⟨rfl, _, h0, (inferInstance : LeL [(0, .d (.sptr (z5l b_))), (3, .own (.box (eOs 1 true (eI .i64) (number.set x23.at_.toNat ((order.length : Nat) : Int))))), (4, .own (.box (eOs 1 false (eI .i64) (order ++ ([x23.at_] : List Int))))), (22, .d (.fn 85 [.sptr (eSl 2 false zH r_)]))] (u3 b_ r_ (number.set x23.at_.toNat ((order.length : Nat) : Int)) (order ++ ([x23.at_] : List Int))))⟩
  ·rcases t1 with ⟨number, order⟩ | z
   ·dsimp only at hq
    obtain rfl := ze hq
    exact z9m ⟨rfl, by kernel_rfl⟩
   ·cases z
 ·refine zI X0 z6 hC hm [0,3,4,6] 4000 [.v 2 [4], .l (bo.2.map (eI .i64)), .cut 0] (sub [1,1,1,1,1] zf) (frs [1,1,1,1,1] [] zf []) [(0, .own (.box (z93 b_))), (3, .own (.box (eOs 1 true (eI .i64) bo.1))), (4, .own (.box (eSl 1 false (eI .i64) bo.2))), (6, .own (eOs 2 true zH []))] [ob (shM (eI .i64) (eI .i64) bo.2)] (by kernel_rfl) fun st0 h0 => ?_
  refine zr (X := List z7) (x := (sub [1,1,1,1,1,2] zf)) (y := (sub [1,1,1,1,1,1] zf)) (by kernel_rfl) [6] [0,3,4,6] _ h0 (fun z => wU z = some r0) (fun z => kk z) ?_ fun J2 hJ2 => ?_
  ·rintro out hf0
   unfold wU at hf0
   have o7 := zJ h_slices_Clip_tries_Node_tries_Node
   have o8 := shM wy zH out
   obtain ⟨r_1, h2, hf0⟩ := zi hf0
   have o9 := yP h_slices_Clip_tries_Node_tries_Node (x := out) h2 (loC z03 out <| loN)
   have o10 := shM wy zH out
   obtain rfl := ze hf0
   exact zh X0 z6 hC hm hE 4000 (hs := [.g [], .l (out.map zH), .a (z8U r_1), .l (out.map zH)]) (x := (eSl 2 true zH r_1)) [ob o7, ob o8, ob o9, ob o10] (by kernel_rfl) (LeV.refl _)
  ·obtain ⟨t3, ht3, hf0⟩ := zi hf0
   refine zI X0 z6 hC hm [0,3,6,35,36,37] 4000 [aLn bo.2.length] (sub [1,1,1,1,1,2,1,0] zf) (frs [1,1,1,1,1,2,1,0] [J2] zf []) [(0, .own (.box (.agg [I b_.inputs_, eOs 2 false wy b_.nodes_]))), (3, .own (.box (eOs 1 true (eI .i64) bo.1))), (6, .own (eOs 2 true wy [])), (35, .d (eSl 1 false (eI .i64) bo.2)), (36, .d (I ((bo.2.length : Nat) : Int))), (37, .d (I 0))] [ob (lnM (eI .i64) bo.2)] (by kernel_rfl) fun st0 h0 => ?_
   refine zN (X := (List (Option z7) × List z7 × Int) × Nat) (c' := (sub [1,1,1,1,1,2,1,0,0] zf)) (by kernel_rfl) [0,3,6,35,36,37] (fun x => yG (fun s => wR bo s.1 s.2.1 s.2.2) x.2 x.1 = some t3) (fun x => x.2) (fun x => kg b_ bo x.1.1 x.1.2.1 x.1.2.2) (((b_.nodes_.map some), ([] : List z7), 0), wJ) _ h0 inferInstance ht3 ?_
   rintro ⟨⟨b_nodes, out1, x37⟩, n3⟩ hn3 J3 hJ3
   obtain ⟨m3, lr1, rfl, hf1, hl1⟩ := xM hn3
   try unfold wR at hf1
   rcases zY hf1 with ⟨c0, hf1⟩ | ⟨c0, hf1⟩
   ·refine zI X0 z6 hC hm [0,3,6,35,36,37] 4000 [bT, .cut 0] (sub [1,1,1,1,1,2,1,0,0,1,1] zf) (frs [1,1,1,1,1,2,1,0,0,1,1] [J2, J3] zf []) [(0, .own (.box (.agg [I b_.inputs_, eOs 2 false (eOp 2 wy) b_nodes]))), (3, .own (.box (eOs 1 true (eI .i64) bo.1))), (6, .own (eOs 2 false wy out1)), (35, .d (eSl 1 false (eI .i64) bo.2)), (36, .d (I ((bo.2.length : Nat) : Int))), (37, .d (I x37))] [ob c0] (by kernel_rfl) fun st0 h0 => ?_
    refine zr (X := List (Option z7) × List z7) (x := (sub [1,1,1,1,1,2,1,0,0,1,1,2] zf)) (y := (sub [1,1,1,1,1,2,1,0,0,1,1,1] zf)) (by kernel_rfl) [0,3,6,35,36,37] [0,3,6,35,36,37] _ h0 (fun z => wT x37 z.1 z.2 = some lr1) (fun z => kj b_ bo x37 z.1 z.2) ?_ fun J4 hJ4 => ?_
    ·rintro ⟨b_nodes1, out2⟩ hf1
     unfold wT at hf1
     obtain rfl := ze hf1
     exact zk X0 z6 hC hm [0,3,6,35,36,37] 4000 [] J3 [(0, .own (.box (.agg [I b_.inputs_, eOs 2 false (eOp 2 wy) b_nodes1]))), (3, .own (.box (eOs 1 true (eI .i64) bo.1))), (6, .own (eOs 2 false wy out2)), (35, .d (eSl 1 false (eI .i64) bo.2)), (36, .d (I ((bo.2.length : Nat) : Int))), (37, .d (I (w64 (x37 + 1))))] [] (by kernel_rfl) fun st0 h0 => hJ3 st0 _ ((b_nodes1, out2, w64 (x37 + 1)), m3) hl1 (Nat.lt_succ_self m3) h0 inferInstance
    ·obtain ⟨u_, h3, hf1⟩ := zi hf1
     obtain ⟨there, h4, hf1⟩ := zi hf1
     obtain ⟨b_node_e, h5, hf1⟩ := zi hf1
     have o11 := iL (eOp 2 wy) h4
     have o12 := iMo 2 wy h4 h5
     have o13 := iMo 2 wy h4 h5
     have o14 := iMo 2 wy h4 h5
     have o15 := sMn 2 wy b_nodes u_
     refine zI X0 z6 hC hm [0,3,6,9,35,36,37] 4000 [.a ((eI .i64) u_), .a (wy b_node_e), .a (wy b_node_e), .a (wy b_node_e), .l ((b_nodes.set u_.toNat none).map (eOp 2 wy)), .cut 0] (sub [1,1,1,1,1,2,1,0,0,1,1,2,0,1,1] zf) (frs [1,1,1,1,1,2,1,0,0,1,1,2,0,1,1] [J2, J3, J4] zf []) [(0, .own (.box (.agg [I b_.inputs_, eOs 2 false (eOp 2 wy) (b_nodes.set u_.toNat none)]))), (3, .own (.box (eOs 1 true (eI .i64) bo.1))), (6, .own (eOs 2 false wy out1)), (9, .own (.box (wy b_node_e))), (35, .d (eSl 1 false (eI .i64) bo.2)), (36, .d (I ((bo.2.length : Nat) : Int))), (37, .d (I x37))] [ob (i0 h3), ob (iM (eI .i64) h3), ob o11, ob o12, ob o13, ob o14, ob o15] (by kernel_rfl) fun st0 h0 => ?_
     refine zr (X := List Int) (x := (sub [1,1,1,1,1,2,1,0,0,1,1,2,0,1,1,2] zf)) (y := (sub [1,1,1,1,1,2,1,0,0,1,1,2,0,1,1,1] zf)) (by kernel_rfl) [0,3,6,9,35,36,37] [0,3,6,9,35,36,37] _ h0 (fun z => wS b_nodes out1 x37 u_ b_node_e z = some lr1) (fun z => ki b_ bo b_nodes out1 x37 u_ b_node_e z) ?_ fun J5 hJ5 => ?_
     ·rintro n_Next hf1
      unfold wS at hf1
      have o16 := oC wy (z7.mk n_Next b_node_e.End) []
      obtain ⟨g2, hf1⟩ := gdE hf1
      have o17 := aL wy wy g2
      have o18 := aM wy out1 ([(z7.mk n_Next b_node_e.End)] : List z7)
      exact zk X0 z6 hC hm [0,3,6,35,36,37] 4000 [bF, .l ((out1 ++ ([(z7.mk n_Next b_node_e.End)] : List z7)).map wy)] J4 [(0, .own (.box (.agg [I b_.inputs_, eOs 2 false (eOp 2 wy) (b_nodes.set u_.toNat none)]))), (3, .own (.box (eOs 1 true (eI .i64) bo.1))), (6, .own (eOs 2 false wy (out1 ++ ([(z7.mk n_Next b_node_e.End)] : List z7)))), (35, .d (eSl 1 false (eI .i64) bo.2)), (36, .d (I ((bo.2.length : Nat) : Int))), (37, .d (I x37))] [ob o16, ob o17, ob o18] (by kernel_rfl) fun st0 h0 => hJ4 st0 _ ((b_nodes.set u_.toNat none), (out1 ++ ([(z7.mk n_Next b_node_e.End)] : List z7))) hf1 h0 inferInstance
     ·obtain ⟨t6, ht6, hf1⟩ := zi hf1
      refine zI X0 z6 hC hm [0,3,6,9,35,36,37,49,50,51] 4000 [aLn b_node_e.Next.length] (sub [1,1,1,1,1,2,1,0,0,1,1,2,0,1,1,2,1,0] zf) (frs [1,1,1,1,1,2,1,0,0,1,1,2,0,1,1,2,1,0] [J2, J3, J4, J5] zf []) [(0, .own (.box (.agg [I b_.inputs_, eOs 2 false (eOp 2 wy) (b_nodes.set u_.toNat none)]))), (3, .own (.box (eOs 1 true (eI .i64) bo.1))), (6, .own (eOs 2 false wy out1)), (9, .own (.box (.agg [eOs 1 false (eI .i64) b_node_e.Next, B b_node_e.End]))), (35, .d (eSl 1 false (eI .i64) bo.2)), (36, .d (I ((bo.2.length : Nat) : Int))), (37, .d (I x37)), (49, .als 9 [.deref, .fld 0] 0 0), (50, .d (I ((b_node_e.Next.length : Nat) : Int))), (51, .d (I 0))] [ob (lnM (eI .i64) b_node_e.Next)] (by kernel_rfl) fun st0 h0 => ?_
      refine zN (X := (List Int × Int) × Nat) (c' := (sub [1,1,1,1,1,2,1,0,0,1,1,2,0,1,1,2,1,0,0] zf)) (by kernel_rfl) [0,3,6,9,35,36,37,49,50,51] (fun x => yG (fun s => wQ bo b_node_e s.1 s.2) x.2 x.1 = some t6) (fun x => x.2) (fun x => ke b_ bo b_nodes out1 x37 u_ b_node_e x.1.1 x.1.2) ((b_node_e.Next, 0), wJ) _ h0 inferInstance ht6 ?_
      rintro ⟨⟨n_Next1, x51⟩, n6⟩ hn6 J6 hJ6
      obtain ⟨m6, lr2, rfl, hf2, hl2⟩ := xM hn6
      try unfold wQ at hf2
      rcases zY hf2 with ⟨c1, hf2⟩ | ⟨c1, hf2⟩
      ·refine zI X0 z6 hC hm [0,3,6,9,35,36,37,49,50,51] 4000 [bT, .cut 0] (sub [1,1,1,1,1,2,1,0,0,1,1,2,0,1,1,2,1,0,0,1,1] zf) (frs [1,1,1,1,1,2,1,0,0,1,1,2,0,1,1,2,1,0,0,1,1] [J2, J3, J4, J5, J6] zf []) [(0, .own (.box (.agg [I b_.inputs_, eOs 2 false (eOp 2 wy) (b_nodes.set u_.toNat none)]))), (3, .own (.box (eOs 1 true (eI .i64) bo.1))), (6, .own (eOs 2 false wy out1)), (9, .own (.box (.agg [eOs 1 false (eI .i64) n_Next1, B b_node_e.End]))), (35, .d (eSl 1 false (eI .i64) bo.2)), (36, .d (I ((bo.2.length : Nat) : Int))), (37, .d (I x37)), (49, .als 9 [.deref, .fld 0] 0 0), (50, .d (I ((b_node_e.Next.length : Nat) : Int))), (51, .d (I x51))] [ob c1] (by kernel_rfl) fun st0 h0 => ?_
       refine zr (X := List Int) (x := (sub [1,1,1,1,1,2,1,0,0,1,1,2,0,1,1,2,1,0,0,1,1,2] zf)) (y := (sub [1,1,1,1,1,2,1,0,0,1,1,2,0,1,1,2,1,0,0,1,1,1] zf)) (by kernel_rfl) [0,3,6,9,35,36,37,49,50,51] [0,3,6,9,35,36,37,49,50,51] _ h0 (fun z => xA x51 z = some lr2) (fun z => kh b_ bo b_nodes out1 x37 u_ b_node_e x51 z) ?_ fun J7 hJ7 => ?_
       ·rintro n_Next2 hf2
        unfold xA at hf2
        obtain rfl := ze hf2
        exact zk X0 z6 hC hm [0,3,6,9,35,36,37,49,50,51] 4000 [] J6 [(0, .own (.box (.agg [I b_.inputs_, eOs 2 false (eOp 2 wy) (b_nodes.set u_.toNat none)]))), (3, .own (.box (eOs 1 true (eI .i64) bo.1))), (6, .own (eOs 2 false wy out1)), (9, .own (.box (.agg [eOs 1 false (eI .i64) n_Next2, B b_node_e.End]))), (35, .d (eSl 1 false (eI .i64) bo.2)), (36, .d (I ((bo.2.length : Nat) : Int))), (37, .d (I x37)), (49, .als 9 [.deref, .fld 0] 0 0), (50, .d (I ((b_node_e.Next.length : Nat) : Int))), (51, .d (I (w64 (x51 + 1))))] [] (by kernel_rfl) fun st0 h0 => hJ6 st0 _ ((n_Next2, w64 (x51 + 1)), m6) hl2 (Nat.lt_succ_self m6) h0 inferInstance
       ·obtain ⟨n_Next_e, h6, hf2⟩ := zi hf2
        rcases zY hf2 with ⟨c2, hf2⟩ | ⟨c2, hf2⟩
        ·obtain ⟨u_1, h7, hf2⟩ := zi hf2
         obtain ⟨n_Next_e1, h8, hf2⟩ := zi hf2
         exact zk ((xRf z6 65 9 0 49).or X0) z6 hC hm [0,3,6,9,35,36,37,49,50,51] 4000 [.a ((eI .i64) n_Next_e), bT, .a ((eI .i64) u_1), .a ((eI .i64) n_Next_e1), .l ((n_Next1.set x51.toNat u_1).map (eI .i64))] J7 [(0, .own (.box (.agg [I b_.inputs_, eOs 2 false (eOp 2 wy) (b_nodes.set u_.toNat none)]))), (3, .own (.box (eOs 1 true (eI .i64) bo.1))), (6, .own (eOs 2 false wy out1)), (9, .own (.box (.agg [eOs 1 false (eI .i64) (n_Next1.set x51.toNat u_1), B b_node_e.End]))), (35, .d (eSl 1 false (eI .i64) bo.2)), (36, .d (I ((bo.2.length : Nat) : Int))), (37, .d (I x37)), (49, .als 9 [.deref, .fld 0] 0 0), (50, .d (I ((b_node_e.Next.length : Nat) : Int))), (51, .d (I x51))] [ob (iL (eI .i64) h6), ob (iM (eI .i64) h6), ob c2, ob (iL (eI .i64) h7), ob (iM (eI .i64) h7), ob (iL (eI .i64) h8), ob (iM (eI .i64) h8), ob (sM (eI .i64) n_Next1 x51 u_1)] (by kernel_rfl) fun st0 h0 => hJ7 st0 _ (n_Next1.set x51.toNat u_1) hf2 h0 inferInstance
        ·exact zk X0 z6 hC hm [0,3,6,9,35,36,37,49,50,51] 4000 [.a ((eI .i64) n_Next_e), bF] J7 [(0, .own (.box (.agg [I b_.inputs_, eOs 2 false (eOp 2 wy) (b_nodes.set u_.toNat none)]))), (3, .own (.box (eOs 1 true (eI .i64) bo.1))), (6, .own (eOs 2 false wy out1)), (9, .own (.box (.agg [eOs 1 false (eI .i64) n_Next1, B b_node_e.End]))), (35, .d (eSl 1 false (eI .i64) bo.2)), (36, .d (I ((bo.2.length : Nat) : Int))), (37, .d (I x37)), (49, .als 9 [.deref, .fld 0] 0 0), (50, .d (I ((b_node_e.Next.length : Nat) : Int))), (51, .d (I x51))] [ob (iL (eI .i64) h6), ob (iM (eI .i64) h6), ob c2] (by kernel_rfl) fun st0 h0 => hJ7 st0 _ n_Next1 hf2 h0 inferInstance
      ·obtain rfl := ze hf2
       obtain rfl := hl2
       exact zk X0 z6 hC hm [0,3,6,9,35,36,37] 4000 [bF] J5 [(0, .own (.box (.agg [I b_.inputs_, eOs 2 false (eOp 2 wy) (b_nodes.set u_.toNat none)]))), (3, .own (.box (eOs 1 true (eI .i64) bo.1))), (6, .own (eOs 2 false wy out1)), (9, .own (.box (.agg [eOs 1 false (eI .i64) n_Next1, B b_node_e.End]))), (35, .d (eSl 1 false (eI .i64) bo.2)), (36, .d (I ((bo.2.length : Nat) : Int))), (37, .d (I x37))] [ob c1] (by kernel_rfl) fun st0 h0 => hJ5 st0 _ n_Next1 hf1 h0 inferInstance
   ·obtain rfl := ze hf1
    obtain rfl := hl1
    exact zk X0 z6 hC hm [6] 4000 [bF] J2 [(6, .own (eOs 2 false wy out1))] [ob c0] (by kernel_rfl) fun st0 h0 => hJ2 st0 _ out1 hf0 h0 inferInstance
noncomputable def z0D : Code := (Try.f29.body).getD .skip
noncomputable def YF : yw := spF (α := List (List Int) × Int) (ρ := zb × Int) 29 (fun x => [F7_ x.1, (eI .i64) x.2]) (fun r => .tup [z94 r.1, (eI .i64) r.2]) (fun x => Jb x.1 x.2) [] (by
 rintro ⟨a0, a1⟩ ⟨b0, b1⟩ h
 have e0 := yO.inj (f := F7_) _ _ (List.cons.inj h).1
 replace h := (List.cons.inj h).2
 have e1 := yO.inj (f := (eI .i64)) _ _ (List.cons.inj h).1
 subst e0 e1
 rfl)
theorem z1G {ctr : Ctr} (hC : y6 Try.prog ctr) (hm : Try.prog.follows .mixedOrders = true) (h_tries_Check : ctr.Has xR) (h_tries_of : ctr.Has jN) (h_tries_builder_ordered : ctr.Has wV) : YF.Ok Try.prog := by
 refine y8 ?_
 rintro ⟨l_, inputs⟩ r0 hf0
 try unfold Jb at hf0
 refine zx (tt := yE) (keep := false) (rs := [(4, some 44), (5, none)]) (n := ⟨20, []⟩) (body := z0D) z6 Try.func29 rfl (by kernel_rfl) rfl rfl (by show (2 : Nat) ≤ 20; decide) fun E hE => ?_
 obtain ⟨r_, h0, hf0⟩ := zi hf0
 have o0 := yP h_tries_Check (x := (l_, inputs)) h0 (loC F7_ l_ <| loC (eI .i64) inputs <| loN)
 rcases zY hf0 with ⟨c0, hf0⟩ | ⟨c0, hf0⟩
 ·have o1 := shM zH zH []
  obtain rfl := ze hf0
  exact zh X0 z6 hC hm hE 4000 (hs := [.g [], .a ((eI .i64) r_), bT, .l ([].map zH)]) (x := (.tup [.agg [I 0, eSl 2 true zH []], I r_])) [ob (zJ h_tries_Check), ob o0, ob c0, ob o1] (by kernel_rfl) (LeV.refl _)
 ·obtain ⟨r_1, h1, hf0⟩ := zi hf0
  have o2 := yP h_tries_of (x := (l_, inputs)) h1 (loC F7_ l_ <| loC (eI .i64) inputs <| loN)
  obtain ⟨r_2, h2, hf0⟩ := zi hf0
  have o3 := yP h_tries_builder_ordered (x := r_1) h2 (loC z6Z r_1 <| loN)
  obtain rfl := ze hf0
  exact zh X0 z6 hC hm hE 4000 (hs := [.g [], .a ((eI .i64) r_), bF, .g [], .a (z6Z r_1), .g [true], .a (z8U r_2)]) (x := (.tup [.agg [I inputs, eSl 2 true zH r_2], I 0])) [ob (zJ h_tries_Check), ob o0, ob c0, ob (zJ h_tries_of), ob o2, ob (zJ h_tries_builder_ordered), ob o3] (by kernel_rfl) (LeV.refl _)
noncomputable def uo : Code := (Try.f15.body).getD .skip
noncomputable def kO : yw := spF (α := Unit) (ρ := Bool) 15 (fun x => []) (fun r => eB r) (fun x => uz) [] (fun _ _ _ => rfl)
theorem Ja {ctr : Ctr} (hC : y6 Try.prog ctr) (hm : Try.prog.follows .mixedOrders = true) (h_law12_list : ctr.Has Zt) (h_tries_Sort : ctr.Has Zp) (h_tries_Reduce : ctr.Has jO) (h_tries_Prefixes : ctr.Has qC) (h_tries_Concat : ctr.Has jP) (h_law12_same : ctr.Has Zs) (h_tries_Upto : ctr.Has Zo) (h_tries_Exact : ctr.Has kJ) (h_tries_Of : ctr.Has YF) (h_tries_Count : ctr.Has qM) (h_ref12_Equal : ctr.Has qN) (h_tries_Check : ctr.Has xR) : kO.Ok Try.prog := by
 refine y8 ?_
 rintro ⟨⟩ r0 hf0
 try unfold uz at hf0
 refine zx (tt := yE) (keep := true) (rs := [(0, none)]) (n := ⟨214, []⟩) (body := uo) z6 Try.func15 rfl (by kernel_rfl) rfl rfl (by show (0 : Nat) ≤ 214; decide) fun E hE => ?_
 have o0 := shM F0_ F1_ ([[1,0], [1], [0], [1]])
 obtain ⟨r_, h0, hf0⟩ := zi hf0
 have o1 := yP h_law12_list (x := [[1,0], [1], [0], [1]]) h0 (loC F4_ ([[1,0], [1], [0], [1]] : List (List Int)) <| loN)
 have o2 := shM F0_ F1_ ([[1,0], [1], [0], [1]])
 obtain ⟨r_1, h1, hf0⟩ := zi hf0
 have o3 := yP h_tries_Sort (x := (r_, 2)) h1 (loC F7_ r_ <| loC (eI .i64) 2 <| loN)
 have o4 := shM F0_ F1_ ([[], [0], [1], [1,0]])
 obtain ⟨r_2, h2, hf0⟩ := zi hf0
 have o5 := yP h_law12_list (x := [[], [0], [1], [1,0]]) h2 (loC F4_ ([[], [0], [1], [1,0]] : List (List Int)) <| loN)
 have o6 := shM F0_ F1_ ([[], [0], [1], [1,0]])
 obtain ⟨r_3, h3, hf0⟩ := zi hf0
 have o7 := yP h_tries_Reduce (x := (r_2,2)) h3 (loC F7_ r_2 <| loC (eI .i64) 2 <| loN)
 have o8 := shM F0_ F1_ ([[1,0]])
 obtain ⟨r_4, h4, hf0⟩ := zi hf0
 have o9 := yP h_law12_list (x := [[1,0]]) h4 (loC F4_ ([[1,0]] : List (List Int)) <| loN)
 have o10 := shM F0_ F1_ ([[1,0]])
 obtain ⟨r_5, h5, hf0⟩ := zi hf0
 have o11 := yP h_tries_Prefixes (x := (r_4,2)) h5 (loC F7_ r_4 <| loC (eI .i64) 2 <| loN)
 have o12 := shM F0_ F1_ ([[], [0]])
 obtain ⟨r_6, h6, hf0⟩ := zi hf0
 have o13 := yP h_law12_list (x := [[], [0]]) h6 (loC F4_ ([[], [0]] : List (List Int)) <| loN)
 have o14 := shM F0_ F1_ ([[], [0]])
 have o15 := shM F0_ F1_ ([[0], [1]])
 obtain ⟨r_7, h7, hf0⟩ := zi hf0
 have o16 := yP h_law12_list (x := [[0], [1]]) h7 (loC F4_ ([[0], [1]] : List (List Int)) <| loN)
 have o17 := shM F0_ F1_ ([[0], [1]])
 obtain ⟨r_8, h8, hf0⟩ := zi hf0
 have o18 := yP h_tries_Concat (x := (r_6, r_7,2)) h8 (loC F7_ r_6 <| loC F7_ r_7 <| loC (eI .i64) 2 <| loN)
 refine zI X0 z6 hC hm [1,2,3,4,5,6,7,8] 4000 [.g [], .l (([[1,0], [1], [0], [1]]).map F1_), .a (F7_ r_), .l (([[1,0], [1], [0], [1]]).map F1_), .g [], .a (.tup [eSl 1 true F1_ r_1.1, I r_1.2]), .g [], .l (([[], [0], [1], [1,0]]).map F1_), .a (F7_ r_2), .l (([[], [0], [1], [1,0]]).map F1_), .g [], .a (.tup [eSl 1 true F1_ r_3.1, I r_3.2]), .g [], .l (([[1,0]]).map F1_), .a (F7_ r_4), .l (([[1,0]]).map F1_), .g [], .a (.tup [eSl 1 true F1_ r_5.1, I r_5.2]), .g [], .l (([[], [0]]).map F1_), .a (F7_ r_6), .l (([[], [0]]).map F1_), .g [], .l (([[0], [1]]).map F1_), .a (F7_ r_7), .l (([[0], [1]]).map F1_), .g [], .a (.tup [eSl 1 true F1_ r_8.1, I r_8.2]), .cut 1] (sub [1,1,1,1,1,0] uo) (frs [1,1,1,1,1,0] [] uo []) [(1, .d (eSl 1 true F1_ r_1.1)), (2, .d (I r_1.2)), (3, .d (eSl 1 true F1_ r_3.1)), (4, .d (I r_3.2)), (5, .d (eSl 1 true F1_ r_5.1)), (6, .d (I r_5.2)), (7, .d (eSl 1 true F1_ r_8.1)), (8, .d (I r_8.2))] [ob (zJ h_law12_list), ob o0, ob o1, ob o2, ob (zJ h_tries_Sort), ob o3, ob (zJ h_law12_list), ob o4, ob o5, ob o6, ob (zJ h_tries_Reduce), ob o7, ob (zJ h_law12_list), ob o8, ob o9, ob o10, ob (zJ h_tries_Prefixes), ob o11, ob (zJ h_law12_list), ob o12, ob o13, ob o14, ob (zJ h_law12_list), ob o15, ob o16, ob o17, ob (zJ h_tries_Concat), ob o18] (by kernel_rfl) fun st0 h0 => WW h0 ?_
 rcases zY hf0 with ⟨c0, hf0⟩ | ⟨c0, hf0⟩
 ·obtain rfl := ze hf0
  exact zh X0 z6 hC hm hE 4000 (hs := (rpN 45 bT [])) (x := (B false)) (ob c0 :: ob c0 :: ob c0 :: (rpN 42 oT [])) (by kernel_rfl) (LeV.refl _)
 ·rcases zY hf0 with ⟨c1, hf0⟩ | ⟨c1, hf0⟩
  ·obtain rfl := ze hf0
   exact zh X0 z6 hC hm hE 4000 (hs := (bF :: bF :: bF :: (rpN 42 bT []))) (x := (B false)) (ob c0 :: ob c0 :: ob c0 :: ob c1 :: ob c1 :: ob c1 :: (rpN 39 oT [])) (by kernel_rfl) (LeV.refl _)
  ·rcases zY hf0 with ⟨c2, hf0⟩ | ⟨c2, hf0⟩
   ·obtain rfl := ze hf0
    exact zh X0 z6 hC hm hE 4000 (hs := (rpN 6 bF (rpN 39 bT []))) (x := (B false)) (ob c0 :: ob c0 :: ob c0 :: ob c1 :: ob c1 :: ob c1 :: ob c2 :: ob c2 :: ob c2 :: (rpN 36 oT [])) (by kernel_rfl) (LeV.refl _)
   ·rcases zY hf0 with ⟨c3, hf0⟩ | ⟨c3, hf0⟩
    ·obtain rfl := ze hf0
     exact zh X0 z6 hC hm hE 4000 (hs := (rpN 9 bF (rpN 36 bT []))) (x := (B false)) (ob c0 :: ob c0 :: ob c0 :: ob c1 :: ob c1 :: ob c1 :: ob c2 :: ob c2 :: ob c2 :: (rpN 9 (ob c3) (rpN 27 oT []))) (by kernel_rfl) (LeV.refl _)
    ·have o19 := shM F0_ F1_ ([[0], [1], [1,0]])
     obtain ⟨r_9, h9, hf0⟩ := zi hf0
     have o20 := yP h_law12_list (x := [[0], [1], [1,0]]) h9 (loC F4_ ([[0], [1], [1,0]] : List (List Int)) <| loN)
     have o21 := shM F0_ F1_ ([[0], [1], [1,0]])
     obtain ⟨r_10, h10, hf0⟩ := zi hf0
     have o22 := jM (f := .fn 16 []) (xs := [F4_ r_1.1, F7_ r_9]) (ls := []) (r := B r_10) (ys := []) [F4_ r_1.1, F7_ r_9] (show QI [F4_ r_1.1, F7_ r_9] [F4_ r_1.1, F7_ r_9] from inferInstance)
     rcases zY hf0 with ⟨c4, hf0⟩ | ⟨c4, hf0⟩
     ·obtain rfl := ze hf0
      exact zh ((ug (P := Try.prog) yE [] (lentCall (yX hC h_law12_same (x := (r_1.1, r_9)) h10)) 72).or X0) z6 hC hm hE 4000 (hs := (rpN 15 bF (.g [] :: .l (([[0], [1], [1,0]]).map F1_) :: .a (F7_ r_9) :: .l (([[0], [1], [1,0]]).map F1_) :: bF :: bF :: bF :: (rpN 27 bT [])))) (x := (B false)) (ob c0 :: ob c0 :: ob c0 :: ob c1 :: ob c1 :: ob c1 :: ob c2 :: ob c2 :: ob c2 :: (rpN 6 (ob c3) (ob (zJ h_law12_list) :: ob o19 :: ob o20 :: ob o21 :: ob c3 :: ob o22 :: ob c3 :: ob c3 :: (rpN 8 (ob c4) (rpN 19 oT []))))) (by kernel_rfl) (LeV.refl _)
     ·have o23 := shM F0_ F1_ ([[0], [1,0]])
      obtain ⟨r_11, h11, hf0⟩ := zi hf0
      have o24 := yP h_law12_list (x := [[0], [1,0]]) h11 (loC F4_ ([[0], [1,0]] : List (List Int)) <| loN)
      have o25 := shM F0_ F1_ ([[0], [1,0]])
      obtain ⟨r_12, h12, hf0⟩ := zi hf0
      have o26 := jM (f := .fn 16 []) (xs := [F4_ r_3.1, F7_ r_11]) (ls := []) (r := B r_12) (ys := []) [F4_ r_3.1, F7_ r_11] (show QI [F4_ r_3.1, F7_ r_11] [F4_ r_3.1, F7_ r_11] from inferInstance)
      rcases zY hf0 with ⟨c5, hf0⟩ | ⟨c5, hf0⟩
      ·obtain rfl := ze hf0
       exact zh ((ug (P := Try.prog) yE [] (lentCall (yX hC h_law12_same (x := (r_3.1, r_11)) h12)) 81).or ((ug (P := Try.prog) yE [] (lentCall (yX hC h_law12_same (x := (r_1.1, r_9)) h10)) 72).or X0)) z6 hC hm hE 4000 (hs := (rpN 15 bF (.g [] :: .l (([[0], [1], [1,0]]).map F1_) :: .a (F7_ r_9) :: .l (([[0], [1], [1,0]]).map F1_) :: (rpN 8 bF (.g [] :: .l (([[0], [1,0]]).map F1_) :: .a (F7_ r_11) :: .l (([[0], [1,0]]).map F1_) :: bF :: bF :: bF :: (rpN 19 bT [])))))) (x := (B false)) (ob c0 :: ob c0 :: ob c0 :: ob c1 :: ob c1 :: ob c1 :: ob c2 :: ob c2 :: ob c2 :: (rpN 6 (ob c3) (ob (zJ h_law12_list) :: ob o19 :: ob o20 :: ob o21 :: ob c3 :: ob o22 :: ob c3 :: ob c3 :: (rpN 5 (ob c4) (ob (zJ h_law12_list) :: ob o23 :: ob o24 :: ob o25 :: ob c4 :: ob o26 :: ob c4 :: ob c4 :: (rpN 8 (ob c5) (rpN 11 oT []))))))) (by kernel_rfl) (LeV.refl _)
      ·have o27 := shM F0_ F1_ ([[], [1], [1,0]])
       obtain ⟨r_13, h13, hf0⟩ := zi hf0
       have o28 := yP h_law12_list (x := [[], [1], [1,0]]) h13 (loC F4_ ([[], [1], [1,0]] : List (List Int)) <| loN)
       have o29 := shM F0_ F1_ ([[], [1], [1,0]])
       obtain ⟨r_14, h14, hf0⟩ := zi hf0
       have o30 := jM (f := .fn 16 []) (xs := [F4_ r_5.1, F7_ r_13]) (ls := []) (r := B r_14) (ys := []) [F4_ r_5.1, F7_ r_13] (show QI [F4_ r_5.1, F7_ r_13] [F4_ r_5.1, F7_ r_13] from inferInstance)
       rcases zY hf0 with ⟨c6, hf0⟩ | ⟨c6, hf0⟩
       ·obtain rfl := ze hf0
        exact zh ((ug (P := Try.prog) yE [] (lentCall (yX hC h_law12_same (x := (r_5.1, r_13)) h14)) 90).or ((ug (P := Try.prog) yE [] (lentCall (yX hC h_law12_same (x := (r_3.1, r_11)) h12)) 81).or ((ug (P := Try.prog) yE [] (lentCall (yX hC h_law12_same (x := (r_1.1, r_9)) h10)) 72).or X0))) z6 hC hm hE 4000 (hs := (rpN 15 bF (.g [] :: .l (([[0], [1], [1,0]]).map F1_) :: .a (F7_ r_9) :: .l (([[0], [1], [1,0]]).map F1_) :: (rpN 8 bF (.g [] :: .l (([[0], [1,0]]).map F1_) :: .a (F7_ r_11) :: .l (([[0], [1,0]]).map F1_) :: (rpN 8 bF (.g [] :: .l (([[], [1], [1,0]]).map F1_) :: .a (F7_ r_13) :: .l (([[], [1], [1,0]]).map F1_) :: bF :: bF :: bF :: (rpN 11 bT [])))))))) (x := (B false)) (ob c0 :: ob c0 :: ob c0 :: ob c1 :: ob c1 :: ob c1 :: ob c2 :: ob c2 :: ob c2 :: (rpN 6 (ob c3) (ob (zJ h_law12_list) :: ob o19 :: ob o20 :: ob o21 :: ob c3 :: ob o22 :: ob c3 :: ob c3 :: (rpN 5 (ob c4) (ob (zJ h_law12_list) :: ob o23 :: ob o24 :: ob o25 :: ob c4 :: ob o26 :: ob c4 :: ob c4 :: (rpN 5 (ob c5) (ob (zJ h_law12_list) :: ob o27 :: ob o28 :: ob o29 :: ob c5 :: ob o30 :: ob c5 :: ob c5 :: (rpN 10 (ob c6) [oT])))))))) (by kernel_rfl) (LeV.refl _)
       ·have o31 := shM F0_ F1_ ([[0], [1], [0,0], [0,1]])
        obtain ⟨r_15, h15, hf0⟩ := zi hf0
        have o32 := yP h_law12_list (x := [[0], [1], [0,0], [0,1]]) h15 (loC F4_ ([[0], [1], [0,0], [0,1]] : List (List Int)) <| loN)
        have o33 := shM F0_ F1_ ([[0], [1], [0,0], [0,1]])
        obtain ⟨r_16, h16, hf0⟩ := zi hf0
        have o34 := jM (f := .fn 16 []) (xs := [F4_ r_8.1, F7_ r_15]) (ls := []) (r := B r_16) (ys := []) [F4_ r_8.1, F7_ r_15] (show QI [F4_ r_8.1, F7_ r_15] [F4_ r_8.1, F7_ r_15] from inferInstance)
        rcases zY hf0 with ⟨c7, hf0⟩ | ⟨c7, hf0⟩
        ·obtain rfl := ze hf0
         exact zh ((ug (P := Try.prog) yE [] (lentCall (yX hC h_law12_same (x := (r_8.1, r_15)) h16)) 101).or ((ug (P := Try.prog) yE [] (lentCall (yX hC h_law12_same (x := (r_5.1, r_13)) h14)) 90).or ((ug (P := Try.prog) yE [] (lentCall (yX hC h_law12_same (x := (r_3.1, r_11)) h12)) 81).or ((ug (P := Try.prog) yE [] (lentCall (yX hC h_law12_same (x := (r_1.1, r_9)) h10)) 72).or X0)))) z6 hC hm hE 4000 (hs := (rpN 15 bF (.g [] :: .l (([[0], [1], [1,0]]).map F1_) :: .a (F7_ r_9) :: .l (([[0], [1], [1,0]]).map F1_) :: (rpN 8 bF (.g [] :: .l (([[0], [1,0]]).map F1_) :: .a (F7_ r_11) :: .l (([[0], [1,0]]).map F1_) :: (rpN 8 bF (.g [] :: .l (([[], [1], [1,0]]).map F1_) :: .a (F7_ r_13) :: .l (([[], [1], [1,0]]).map F1_) :: (rpN 10 bF [.g [], .l (([[0], [1], [0,0], [0,1]]).map F1_), .a (F7_ r_15), .l (([[0], [1], [0,0], [0,1]]).map F1_), bF, bF, bF, bT])))))))) (x := (B false)) (ob c0 :: ob c0 :: ob c0 :: ob c1 :: ob c1 :: ob c1 :: ob c2 :: ob c2 :: ob c2 :: (rpN 6 (ob c3) (ob (zJ h_law12_list) :: ob o19 :: ob o20 :: ob o21 :: ob c3 :: ob o22 :: ob c3 :: ob c3 :: (rpN 5 (ob c4) (ob (zJ h_law12_list) :: ob o23 :: ob o24 :: ob o25 :: ob c4 :: ob o26 :: ob c4 :: ob c4 :: (rpN 5 (ob c5) (ob (zJ h_law12_list) :: ob o27 :: ob o28 :: ob o29 :: ob c5 :: ob o30 :: ob c5 :: ob c5 :: (rpN 7 (ob c6) [ob (zJ h_law12_list), ob o31, ob o32, ob o33, ob c6, ob o34, ob c6, ob c6, ob c7])))))))) (by kernel_rfl) (LeV.refl _)
        ·obtain ⟨r_17, h17, hf0⟩ := zi hf0
         have o35 := yP h_tries_Upto (x := (2,1)) h17 (loC (eI .i64) 2 <| loC (eI .i64) 1 <| loN)
         obtain ⟨r_18, h18, hf0⟩ := zi hf0
         have o36 := yP h_tries_Exact (x := (2,2)) h18 (loC (eI .i64) 2 <| loC (eI .i64) 2 <| loN)
         obtain ⟨r_19, h19, hf0⟩ := zi hf0
         have o37 := yP h_tries_Upto (x := (2,12)) h19 (loC (eI .i64) 2 <| loC (eI .i64) 12 <| loN)
         have o38 := shM F0_ F1_ ([[0], [1,0]])
         obtain ⟨r_20, h20, hf0⟩ := zi hf0
         have o39 := yP h_law12_list (x := [[0], [1,0]]) h20 (loC F4_ ([[0], [1,0]] : List (List Int)) <| loN)
         have o40 := shM F0_ F1_ ([[0], [1,0]])
         obtain ⟨r_21, h21, hf0⟩ := zi hf0
         have o41 := yP h_tries_Of (x := (r_20,2)) h21 (loC F7_ r_20 <| loC (eI .i64) 2 <| loN)
         obtain ⟨r_22, h22, hf0⟩ := zi hf0
         have o42 := yP h_tries_Count (x := r_21.1) h22 (loC z94 r_21.1 <| loN)
         refine zI ((ug (P := Try.prog) yE [] (lentCall (yX hC h_law12_same (x := (r_8.1, r_15)) h16)) 101).or ((ug (P := Try.prog) yE [] (lentCall (yX hC h_law12_same (x := (r_5.1, r_13)) h14)) 90).or ((ug (P := Try.prog) yE [] (lentCall (yX hC h_law12_same (x := (r_3.1, r_11)) h12)) 81).or ((ug (P := Try.prog) yE [] (lentCall (yX hC h_law12_same (x := (r_1.1, r_9)) h10)) 72).or X0)))) z6 hC hm [1,2,3,4,6,8,9,10,11,13] 4000 (rpN 15 bF (.g [] :: .l (([[0], [1], [1,0]]).map F1_) :: .a (F7_ r_9) :: .l (([[0], [1], [1,0]]).map F1_) :: (rpN 8 bF (.g [] :: .l (([[0], [1,0]]).map F1_) :: .a (F7_ r_11) :: .l (([[0], [1,0]]).map F1_) :: (rpN 8 bF (.g [] :: .l (([[], [1], [1,0]]).map F1_) :: .a (F7_ r_13) :: .l (([[], [1], [1,0]]).map F1_) :: (rpN 10 bF (.g [] :: .l (([[0], [1], [0,0], [0,1]]).map F1_) :: .a (F7_ r_15) :: .l (([[0], [1], [0,0], [0,1]]).map F1_) :: (rpN 4 bF [.g [], .a (.tup [eSl 1 true F1_ r_17.1, I r_17.2]), .g [], .a (.tup [eSl 1 true F1_ r_18.1, I r_18.2]), .g [], .a (.tup [eSl 1 true F1_ r_19.1, I r_19.2]), .g [], .l (([[0], [1,0]]).map F1_), .a (F7_ r_20), .l (([[0], [1,0]]).map F1_), .g [], .a (.tup [.agg [I r_21.1.Inputs, eSl 2 true zH r_21.1.Nodes], I r_21.2]), .g [], .a (.tup [I r_22.1, I r_22.2]), .cut 3]))))))))) (sub [1,1,1,1,1,1,1,1,1,1,1,1,1,0] uo) (frs [1,1,1,1,1,1,1,1,1,1,1,1,1,0] [] uo []) [(1, .d (eSl 1 true F1_ r_17.1)), (2, .d (I r_17.2)), (3, .d (eSl 1 true F1_ r_18.1)), (4, .d (I r_18.2)), (6, .d (I r_19.2)), (8, .d (I r_21.2)), (9, .own (.box (z94 r_21.1))), (10, .d (I r_22.1)), (11, .d (I r_22.2)), (13, .own (.box (.agg [I 2, eOs 2 true F9_ ([(z7.mk ([1,2]) false), (z7.mk ([(-1), (-1)]) true), (z7.mk ([3, (-1)]) false), (z7.mk ([(-1), (-1)]) true)])])))] (ob c0 :: ob c0 :: ob c0 :: ob c1 :: ob c1 :: ob c1 :: ob c2 :: ob c2 :: ob c2 :: (rpN 6 (ob c3) (ob (zJ h_law12_list) :: ob o19 :: ob o20 :: ob o21 :: ob c3 :: ob o22 :: ob c3 :: ob c3 :: (rpN 5 (ob c4) (ob (zJ h_law12_list) :: ob o23 :: ob o24 :: ob o25 :: ob c4 :: ob o26 :: ob c4 :: ob c4 :: (rpN 5 (ob c5) (ob (zJ h_law12_list) :: ob o27 :: ob o28 :: ob o29 :: ob c5 :: ob o30 :: ob c5 :: ob c5 :: (rpN 7 (ob c6) [ob (zJ h_law12_list), ob o31, ob o32, ob o33, ob c6, ob o34, ob c6, ob c6, ob c7, ob (zJ h_tries_Upto), ob o35, ob (zJ h_tries_Exact), ob o36, ob (zJ h_tries_Upto), ob o37, ob (zJ h_law12_list), ob o38, ob o39, ob o40, ob (zJ h_tries_Of), ob o41, ob (zJ h_tries_Count), ob o42])))))))) (by kernel_rfl) fun st0 h0 => WW h0 ?_
         rcases zY hf0 with ⟨c8, hf0⟩ | ⟨c8, hf0⟩
         ·obtain rfl := ze hf0
          exact zh X0 z6 hC hm hE 4000 (hs := (rpN 39 bT [])) (x := (B false)) (ob c8 :: ob c8 :: ob c8 :: (rpN 36 oT [])) (by kernel_rfl) (LeV.refl _)
         ·rcases zY hf0 with ⟨c9, hf0⟩ | ⟨c9, hf0⟩
          ·obtain rfl := ze hf0
           exact zh X0 z6 hC hm hE 4000 (hs := (bF :: bF :: bF :: (rpN 36 bT []))) (x := (B false)) (ob c8 :: ob c8 :: ob c8 :: ob c9 :: ob c9 :: ob c9 :: (rpN 33 oT [])) (by kernel_rfl) (LeV.refl _)
          ·rcases zY hf0 with ⟨c10, hf0⟩ | ⟨c10, hf0⟩
           ·obtain rfl := ze hf0
            exact zh X0 z6 hC hm hE 4000 (hs := (rpN 6 bF (rpN 33 bT []))) (x := (B false)) (ob c8 :: ob c8 :: ob c8 :: ob c9 :: ob c9 :: ob c9 :: ob c10 :: ob c10 :: ob c10 :: (rpN 30 oT [])) (by kernel_rfl) (LeV.refl _)
           ·rcases zY hf0 with ⟨c11, hf0⟩ | ⟨c11, hf0⟩
            ·obtain rfl := ze hf0
             exact zh X0 z6 hC hm hE 4000 (hs := (rpN 9 bF (rpN 30 bT []))) (x := (B false)) (ob c8 :: ob c8 :: ob c8 :: ob c9 :: ob c9 :: ob c9 :: ob c10 :: ob c10 :: ob c10 :: ob c11 :: ob c11 :: ob c11 :: (rpN 27 oT [])) (by kernel_rfl) (LeV.refl _)
            ·rcases zY hf0 with ⟨c12, hf0⟩ | ⟨c12, hf0⟩
             ·obtain rfl := ze hf0
              exact zh X0 z6 hC hm hE 4000 (hs := (rpN 12 bF (rpN 27 bT []))) (x := (B false)) (ob c8 :: ob c8 :: ob c8 :: ob c9 :: ob c9 :: ob c9 :: ob c10 :: ob c10 :: ob c10 :: ob c11 :: ob c11 :: ob c11 :: ob c12 :: ob c12 :: ob c12 :: (rpN 24 oT [])) (by kernel_rfl) (LeV.refl _)
             ·rcases zY hf0 with ⟨c13, hf0⟩ | ⟨c13, hf0⟩
              ·obtain rfl := ze hf0
               exact zh X0 z6 hC hm hE 4000 (hs := (rpN 15 bF (rpN 24 bT []))) (x := (B false)) (ob c8 :: ob c8 :: ob c8 :: ob c9 :: ob c9 :: ob c9 :: ob c10 :: ob c10 :: ob c10 :: ob c11 :: ob c11 :: ob c11 :: ob c12 :: ob c12 :: ob c12 :: (rpN 8 (ob c13) (rpN 16 oT []))) (by kernel_rfl) (LeV.refl _)
              ·have o43 := shM F0_ F1_ ([[], [0], [1]])
               obtain ⟨r_23, h23, hf0⟩ := zi hf0
               have o44 := yP h_law12_list (x := [[], [0], [1]]) h23 (loC F4_ ([[], [0], [1]] : List (List Int)) <| loN)
               have o45 := shM F0_ F1_ ([[], [0], [1]])
               obtain ⟨r_24, h24, hf0⟩ := zi hf0
               have o46 := jM (f := .fn 16 []) (xs := [F4_ r_17.1, F7_ r_23]) (ls := []) (r := B r_24) (ys := []) [F4_ r_17.1, F7_ r_23] (show QI [F4_ r_17.1, F7_ r_23] [F4_ r_17.1, F7_ r_23] from inferInstance)
               rcases zY hf0 with ⟨c14, hf0⟩ | ⟨c14, hf0⟩
               ·obtain rfl := ze hf0
                exact zh ((ug (P := Try.prog) yE [] (lentCall (yX hC h_law12_same (x := (r_17.1, r_23)) h24)) 172).or X0) z6 hC hm hE 4000 (hs := (rpN 20 bF (.g [] :: .l (([[], [0], [1]]).map F1_) :: .a (F7_ r_23) :: .l (([[], [0], [1]]).map F1_) :: bF :: bF :: bF :: (rpN 16 bT [])))) (x := (B false)) (ob c8 :: ob c8 :: ob c8 :: ob c9 :: ob c9 :: ob c9 :: ob c10 :: ob c10 :: ob c10 :: ob c11 :: ob c11 :: ob c11 :: ob c12 :: ob c12 :: ob c12 :: (rpN 5 (ob c13) (ob (zJ h_law12_list) :: ob o43 :: ob o44 :: ob o45 :: ob c13 :: ob o46 :: ob c13 :: ob c13 :: (rpN 10 (ob c14) (rpN 6 oT []))))) (by kernel_rfl) (LeV.refl _)
               ·have o47 := shM F0_ F1_ ([[0,0], [0,1], [1,0], [1,1]])
                obtain ⟨r_25, h25, hf0⟩ := zi hf0
                have o48 := yP h_law12_list (x := [[0,0], [0,1], [1,0], [1,1]]) h25 (loC F4_ ([[0,0], [0,1], [1,0], [1,1]] : List (List Int)) <| loN)
                have o49 := shM F0_ F1_ ([[0,0], [0,1], [1,0], [1,1]])
                obtain ⟨r_26, h26, hf0⟩ := zi hf0
                have o50 := jM (f := .fn 16 []) (xs := [F4_ r_18.1, F7_ r_25]) (ls := []) (r := B r_26) (ys := []) [F4_ r_18.1, F7_ r_25] (show QI [F4_ r_18.1, F7_ r_25] [F4_ r_18.1, F7_ r_25] from inferInstance)
                rcases zY hf0 with ⟨c15, hf0⟩ | ⟨c15, hf0⟩
                ·obtain rfl := ze hf0
                 exact zh ((ug (P := Try.prog) yE [] (lentCall (yX hC h_law12_same (x := (r_18.1, r_25)) h26)) 183).or ((ug (P := Try.prog) yE [] (lentCall (yX hC h_law12_same (x := (r_17.1, r_23)) h24)) 172).or X0)) z6 hC hm hE 4000 (hs := (rpN 20 bF (.g [] :: .l (([[], [0], [1]]).map F1_) :: .a (F7_ r_23) :: .l (([[], [0], [1]]).map F1_) :: (rpN 10 bF (.g [] :: .l (([[0,0], [0,1], [1,0], [1,1]]).map F1_) :: .a (F7_ r_25) :: .l (([[0,0], [0,1], [1,0], [1,1]]).map F1_) :: bF :: bF :: bF :: (rpN 6 bT [])))))) (x := (B false)) (ob c8 :: ob c8 :: ob c8 :: ob c9 :: ob c9 :: ob c9 :: ob c10 :: ob c10 :: ob c10 :: ob c11 :: ob c11 :: ob c11 :: ob c12 :: ob c12 :: ob c12 :: (rpN 5 (ob c13) (ob (zJ h_law12_list) :: ob o43 :: ob o44 :: ob o45 :: ob c13 :: ob o46 :: ob c13 :: ob c13 :: (rpN 7 (ob c14) (ob (zJ h_law12_list) :: ob o47 :: ob o48 :: ob o49 :: ob c14 :: ob o50 :: ob c14 :: ob c14 :: (rpN 5 (ob c15) [oT])))))) (by kernel_rfl) (LeV.refl _)
                ·have o51 := shM F9_ KX ([(z7.mk ([1,2]) false), (z7.mk ([(-1), (-1)]) true), (z7.mk ([3, (-1)]) false), (z7.mk ([(-1), (-1)]) true)])
                 obtain ⟨r_27, h27, hf0⟩ := zi hf0
                 have o52 := yP h_ref12_Equal (x := (r_21.1, (zb.mk 2 ([(z7.mk ([1,2]) false), (z7.mk ([(-1), (-1)]) true), (z7.mk ([3, (-1)]) false), (z7.mk ([(-1), (-1)]) true)])))) h27 (loC z94 r_21.1 <| loC (xS (eI .i64) (eSl 2 true KX)) (zb.mk 2 ([(z7.mk ([1,2]) false), (z7.mk ([(-1), (-1)]) true), (z7.mk ([3, (-1)]) false), (z7.mk ([(-1), (-1)]) true)])) <| loN)
                 rcases zY hf0 with ⟨c16, hf0⟩ | ⟨c16, hf0⟩
                 ·obtain rfl := ze hf0
                  exact zh ((ug (P := Try.prog) yE [] (lentCall (yX hC h_law12_same (x := (r_18.1, r_25)) h26)) 183).or ((ug (P := Try.prog) yE [] (lentCall (yX hC h_law12_same (x := (r_17.1, r_23)) h24)) 172).or X0)) z6 hC hm hE 4000 (hs := (rpN 20 bF (.g [] :: .l (([[], [0], [1]]).map F1_) :: .a (F7_ r_23) :: .l (([[], [0], [1]]).map F1_) :: (rpN 10 bF (.g [] :: .l (([[0,0], [0,1], [1,0], [1,1]]).map F1_) :: .a (F7_ r_25) :: .l (([[0,0], [0,1], [1,0], [1,1]]).map F1_) :: (rpN 6 bF [.g [], .l (([(z7.mk ([1,2]) false), (z7.mk ([(-1), (-1)]) true), (z7.mk ([3, (-1)]) false), (z7.mk ([(-1), (-1)]) true)]).map KX), .a (eB r_27), bF, bF, bT])))))) (x := (B false)) (ob c8 :: ob c8 :: ob c8 :: ob c9 :: ob c9 :: ob c9 :: ob c10 :: ob c10 :: ob c10 :: ob c11 :: ob c11 :: ob c11 :: ob c12 :: ob c12 :: ob c12 :: (rpN 5 (ob c13) (ob (zJ h_law12_list) :: ob o43 :: ob o44 :: ob o45 :: ob c13 :: ob o46 :: ob c13 :: ob c13 :: (rpN 7 (ob c14) [ob (zJ h_law12_list), ob o47, ob o48, ob o49, ob c14, ob o50, ob c14, ob c14, ob c15, ob c15, ob c15, ob (zJ h_ref12_Equal), ob o51, ob o52, ob c15, ob c15, ob c16])))) (by kernel_rfl) (LeV.refl _)
                 ·have o53 := shM F0_ F1_ ([[1], [0]])
                  obtain ⟨r_28, h28, hf0⟩ := zi hf0
                  have o54 := yP h_law12_list (x := [[1], [0]]) h28 (loC F4_ ([[1], [0]] : List (List Int)) <| loN)
                  have o55 := shM F0_ F1_ ([[1], [0]])
                  obtain ⟨r_29, h29, hf0⟩ := zi hf0
                  have o56 := yP h_tries_Check (x := (r_28,2)) h29 (loC F7_ r_28 <| loC (eI .i64) 2 <| loN)
                  rcases zY hf0 with ⟨c17, hf0⟩ | ⟨c17, hf0⟩
                  ·have o57 := shM F0_ F1_ ([[0], [2]])
                   obtain ⟨r_30, h30, hf0⟩ := zi hf0
                   have o58 := yP h_law12_list (x := [[0], [2]]) h30 (loC F4_ ([[0], [2]] : List (List Int)) <| loN)
                   have o59 := shM F0_ F1_ ([[0], [2]])
                   obtain ⟨r_31, h31, hf0⟩ := zi hf0
                   have o60 := yP h_tries_Check (x := (r_30,2)) h31 (loC F7_ r_30 <| loC (eI .i64) 2 <| loN)
                   rcases zY hf0 with ⟨c18, hf0⟩ | ⟨c18, hf0⟩
                   ·obtain ⟨r_32, h32, hf0⟩ := zi hf0
                    have o61 := yP h_tries_Check (x := ([], 0)) h32 (loC (eSl 1 true F2_) ([] : List (List Int)) <| loC (eI .i64) 0 <| loN)
                    rcases zY hf0 with ⟨c19, hf0⟩ | ⟨c19, hf0⟩
                    ·obtain ⟨r_33, h33, hf0⟩ := zi hf0
                     have o62 := yP h_tries_Check (x := ([], 17)) h33 (loC (eSl 1 true F2_) ([] : List (List Int)) <| loC (eI .i64) 17 <| loN)
                     obtain rfl := ze hf0
                     exact zh ((ug (P := Try.prog) yE [] (lentCall (yX hC h_law12_same (x := (r_18.1, r_25)) h26)) 183).or ((ug (P := Try.prog) yE [] (lentCall (yX hC h_law12_same (x := (r_17.1, r_23)) h24)) 172).or X0)) z6 hC hm hE 4000 (hs := (rpN 20 bF (.g [] :: .l (([[], [0], [1]]).map F1_) :: .a (F7_ r_23) :: .l (([[], [0], [1]]).map F1_) :: (rpN 10 bF (.g [] :: .l (([[0,0], [0,1], [1,0], [1,1]]).map F1_) :: .a (F7_ r_25) :: .l (([[0,0], [0,1], [1,0], [1,1]]).map F1_) :: (rpN 6 bF (.g [] :: .l (([(z7.mk ([1,2]) false), (z7.mk ([(-1), (-1)]) true), (z7.mk ([3, (-1)]) false), (z7.mk ([(-1), (-1)]) true)]).map KX) :: .a (eB r_27) :: bF :: bF :: bF :: .g [] :: .l (([[1], [0]]).map F1_) :: .a (F7_ r_28) :: .l (([[1], [0]]).map F1_) :: .g [] :: .a ((eI .i64) r_29) :: (rpN 4 bT [.g [], .l (([[0], [2]]).map F1_), .a (F7_ r_30), .l (([[0], [2]]).map F1_), bT, .g [], .a ((eI .i64) r_31), bT, bT, bT, .g [], .a ((eI .i64) r_32), bT, bT, bT, .g [], .a ((eI .i64) r_33), bT, bT])))))))) (x := (B (r_33 == 3))) (ob c8 :: ob c8 :: ob c8 :: ob c9 :: ob c9 :: ob c9 :: ob c10 :: ob c10 :: ob c10 :: ob c11 :: ob c11 :: ob c11 :: ob c12 :: ob c12 :: ob c12 :: (rpN 5 (ob c13) (ob (zJ h_law12_list) :: ob o43 :: ob o44 :: ob o45 :: ob c13 :: ob o46 :: ob c13 :: ob c13 :: (rpN 7 (ob c14) (ob (zJ h_law12_list) :: ob o47 :: ob o48 :: ob o49 :: ob c14 :: ob o50 :: ob c14 :: ob c14 :: ob c15 :: ob c15 :: ob c15 :: ob (zJ h_ref12_Equal) :: ob o51 :: ob o52 :: ob c15 :: ob c15 :: ob c16 :: ob (zJ h_law12_list) :: ob o53 :: ob o54 :: ob o55 :: ob (zJ h_tries_Check) :: ob o56 :: (rpN 4 (ob c17) [ob (zJ h_law12_list), ob o57, ob o58, ob o59, ob c17, ob (zJ h_tries_Check), ob o60, ob c17, ob c17, ob c18, ob (zJ h_tries_Check), ob o61, ob c18, ob c18, ob c19, ob (zJ h_tries_Check), ob o62, ob c19, ob c19])))))) (by kernel_rfl) (LeV.refl _)
                    ·obtain rfl := ze hf0
                     exact zh ((ug (P := Try.prog) yE [] (lentCall (yX hC h_law12_same (x := (r_18.1, r_25)) h26)) 183).or ((ug (P := Try.prog) yE [] (lentCall (yX hC h_law12_same (x := (r_17.1, r_23)) h24)) 172).or X0)) z6 hC hm hE 4000 (hs := (rpN 20 bF (.g [] :: .l (([[], [0], [1]]).map F1_) :: .a (F7_ r_23) :: .l (([[], [0], [1]]).map F1_) :: (rpN 10 bF (.g [] :: .l (([[0,0], [0,1], [1,0], [1,1]]).map F1_) :: .a (F7_ r_25) :: .l (([[0,0], [0,1], [1,0], [1,1]]).map F1_) :: (rpN 6 bF (.g [] :: .l (([(z7.mk ([1,2]) false), (z7.mk ([(-1), (-1)]) true), (z7.mk ([3, (-1)]) false), (z7.mk ([(-1), (-1)]) true)]).map KX) :: .a (eB r_27) :: bF :: bF :: bF :: .g [] :: .l (([[1], [0]]).map F1_) :: .a (F7_ r_28) :: .l (([[1], [0]]).map F1_) :: .g [] :: .a ((eI .i64) r_29) :: (rpN 4 bT [.g [], .l (([[0], [2]]).map F1_), .a (F7_ r_30), .l (([[0], [2]]).map F1_), bT, .g [], .a ((eI .i64) r_31), bT, bT, bT, .g [], .a ((eI .i64) r_32), bT, bT, bF, bF, bF])))))))) (x := (B false)) (ob c8 :: ob c8 :: ob c8 :: ob c9 :: ob c9 :: ob c9 :: ob c10 :: ob c10 :: ob c10 :: ob c11 :: ob c11 :: ob c11 :: ob c12 :: ob c12 :: ob c12 :: (rpN 5 (ob c13) (ob (zJ h_law12_list) :: ob o43 :: ob o44 :: ob o45 :: ob c13 :: ob o46 :: ob c13 :: ob c13 :: (rpN 7 (ob c14) (ob (zJ h_law12_list) :: ob o47 :: ob o48 :: ob o49 :: ob c14 :: ob o50 :: ob c14 :: ob c14 :: ob c15 :: ob c15 :: ob c15 :: ob (zJ h_ref12_Equal) :: ob o51 :: ob o52 :: ob c15 :: ob c15 :: ob c16 :: ob (zJ h_law12_list) :: ob o53 :: ob o54 :: ob o55 :: ob (zJ h_tries_Check) :: ob o56 :: (rpN 4 (ob c17) [ob (zJ h_law12_list), ob o57, ob o58, ob o59, ob c17, ob (zJ h_tries_Check), ob o60, ob c17, ob c17, ob c18, ob (zJ h_tries_Check), ob o61, ob c18, ob c18, ob c19, ob c19, ob c19])))))) (by kernel_rfl) (LeV.refl _)
                   ·obtain rfl := ze hf0
                    exact zh ((ug (P := Try.prog) yE [] (lentCall (yX hC h_law12_same (x := (r_18.1, r_25)) h26)) 183).or ((ug (P := Try.prog) yE [] (lentCall (yX hC h_law12_same (x := (r_17.1, r_23)) h24)) 172).or X0)) z6 hC hm hE 4000 (hs := (rpN 20 bF (.g [] :: .l (([[], [0], [1]]).map F1_) :: .a (F7_ r_23) :: .l (([[], [0], [1]]).map F1_) :: (rpN 10 bF (.g [] :: .l (([[0,0], [0,1], [1,0], [1,1]]).map F1_) :: .a (F7_ r_25) :: .l (([[0,0], [0,1], [1,0], [1,1]]).map F1_) :: (rpN 6 bF (.g [] :: .l (([(z7.mk ([1,2]) false), (z7.mk ([(-1), (-1)]) true), (z7.mk ([3, (-1)]) false), (z7.mk ([(-1), (-1)]) true)]).map KX) :: .a (eB r_27) :: bF :: bF :: bF :: .g [] :: .l (([[1], [0]]).map F1_) :: .a (F7_ r_28) :: .l (([[1], [0]]).map F1_) :: .g [] :: .a ((eI .i64) r_29) :: (rpN 4 bT (.g [] :: .l (([[0], [2]]).map F1_) :: .a (F7_ r_30) :: .l (([[0], [2]]).map F1_) :: bT :: .g [] :: .a ((eI .i64) r_31) :: bT :: bT :: (rpN 6 bF [])))))))))) (x := (B false)) (ob c8 :: ob c8 :: ob c8 :: ob c9 :: ob c9 :: ob c9 :: ob c10 :: ob c10 :: ob c10 :: ob c11 :: ob c11 :: ob c11 :: ob c12 :: ob c12 :: ob c12 :: (rpN 5 (ob c13) (ob (zJ h_law12_list) :: ob o43 :: ob o44 :: ob o45 :: ob c13 :: ob o46 :: ob c13 :: ob c13 :: (rpN 7 (ob c14) (ob (zJ h_law12_list) :: ob o47 :: ob o48 :: ob o49 :: ob c14 :: ob o50 :: ob c14 :: ob c14 :: ob c15 :: ob c15 :: ob c15 :: ob (zJ h_ref12_Equal) :: ob o51 :: ob o52 :: ob c15 :: ob c15 :: ob c16 :: ob (zJ h_law12_list) :: ob o53 :: ob o54 :: ob o55 :: ob (zJ h_tries_Check) :: ob o56 :: (rpN 4 (ob c17) [ob (zJ h_law12_list), ob o57, ob o58, ob o59, ob c17, ob (zJ h_tries_Check), ob o60, ob c17, ob c17, ob c18, ob c18, ob c18, oF, oF, oF])))))) (by kernel_rfl) (LeV.refl _)
                  ·obtain rfl := ze hf0
                   exact zh ((ug (P := Try.prog) yE [] (lentCall (yX hC h_law12_same (x := (r_18.1, r_25)) h26)) 183).or ((ug (P := Try.prog) yE [] (lentCall (yX hC h_law12_same (x := (r_17.1, r_23)) h24)) 172).or X0)) z6 hC hm hE 4000 (hs := (rpN 20 bF (.g [] :: .l (([[], [0], [1]]).map F1_) :: .a (F7_ r_23) :: .l (([[], [0], [1]]).map F1_) :: (rpN 10 bF (.g [] :: .l (([[0,0], [0,1], [1,0], [1,1]]).map F1_) :: .a (F7_ r_25) :: .l (([[0,0], [0,1], [1,0], [1,1]]).map F1_) :: (rpN 6 bF (.g [] :: .l (([(z7.mk ([1,2]) false), (z7.mk ([(-1), (-1)]) true), (z7.mk ([3, (-1)]) false), (z7.mk ([(-1), (-1)]) true)]).map KX) :: .a (eB r_27) :: bF :: bF :: bF :: .g [] :: .l (([[1], [0]]).map F1_) :: .a (F7_ r_28) :: .l (([[1], [0]]).map F1_) :: .g [] :: .a ((eI .i64) r_29) :: (rpN 13 bF [])))))))) (x := (B false)) (ob c8 :: ob c8 :: ob c8 :: ob c9 :: ob c9 :: ob c9 :: ob c10 :: ob c10 :: ob c10 :: ob c11 :: ob c11 :: ob c11 :: ob c12 :: ob c12 :: ob c12 :: (rpN 5 (ob c13) (ob (zJ h_law12_list) :: ob o43 :: ob o44 :: ob o45 :: ob c13 :: ob o46 :: ob c13 :: ob c13 :: (rpN 7 (ob c14) (ob (zJ h_law12_list) :: ob o47 :: ob o48 :: ob o49 :: ob c14 :: ob o50 :: ob c14 :: ob c14 :: ob c15 :: ob c15 :: ob c15 :: ob (zJ h_ref12_Equal) :: ob o51 :: ob o52 :: ob c15 :: ob c15 :: ob c16 :: ob (zJ h_law12_list) :: ob o53 :: ob o54 :: ob o55 :: ob (zJ h_tries_Check) :: ob o56 :: (rpN 7 (ob c17) (rpN 6 oF []))))))) (by kernel_rfl) (LeV.refl _)
noncomputable def Uy : Code := (Try.f61.body).getD .skip
noncomputable def jQ : yw := spF (α := List Int × List Int) (ρ := Bool) 61 (fun x => [F2_ x.1, F2_ x.2]) (fun r => eB r) (fun x => qV x.1 x.2) [] (by
 rintro ⟨a0, a1⟩ ⟨b0, b1⟩ h
 have e0 := yO.inj (f := F2_) _ _ (List.cons.inj h).1
 replace h := (List.cons.inj h).2
 have e1 := yO.inj (f := F2_) _ _ (List.cons.inj h).1
 subst e0 e1
 rfl)
theorem Q1 {ctr : Ctr} (hC : y6 Try.prog ctr) (hm : Try.prog.follows .mixedOrders = true) (h_ref12_compare : ctr.Has yI) : jQ.Ok Try.prog := by
 refine y8 ?_
 rintro ⟨a_, b_⟩ r0 hf0
 try unfold qV at hf0
 refine zx (tt := yE) (keep := true) (rs := [(4, none)]) (n := ⟨19, []⟩) (body := Uy) z6 Try.func61 rfl (by kernel_rfl) rfl rfl (by show (2 : Nat) ≤ 19; decide) fun E hE => ?_
 rcases zY hf0 with ⟨c0, hf0⟩ | ⟨c0, hf0⟩
 ·obtain ⟨g0, hf0⟩ := gdE hf0
  have o0 := slM 1 false (eI .i64) b_ 0 ((a_.length : Nat) : Int).toNat
  obtain ⟨r_, h0, hf0⟩ := zi hf0
  have o1 := yP h_ref12_compare (x := (a_, ((b_.drop 0).take (((a_.length : Nat) : Int).toNat - 0)))) h0 (loC F2_ a_ <| loC F2_ ((b_.drop 0).take (((a_.length : Nat) : Int).toNat - 0)) <| loN)
  obtain rfl := ze hf0
  exact zh X0 z6 hC hm hE 4000 (hs := (aLn a_.length :: aLn b_.length :: (rpN 4 bT [aLn a_.length, bT, .a (eSl 1 false (eI .i64) ((b_.drop 0).take (((a_.length : Nat) : Int).toNat - 0))), bT, .g [], .a ((eI .i64) r_), bT, bT]))) (x := (B (r_ == 0))) (ob (lnM (eI .i64) a_) :: ob (lnM (eI .i64) b_) :: (rpN 4 (ob c0) [ob (lnM (eI .i64) a_), ob c0, ob (slB g0), ob (z7k (eI .i64) g0), ob o0, ob c0, ob (zJ h_ref12_compare), ob o1, ob c0, ob c0])) (by kernel_rfl) (LeV.refl _)
 ·obtain rfl := ze hf0
  exact zh X0 z6 hC hm hE 4000 (hs := (aLn a_.length :: aLn b_.length :: (rpN 8 bF []))) (x := (B false)) (ob (lnM (eI .i64) a_) :: ob (lnM (eI .i64) b_) :: (rpN 8 (ob c0) [])) (by kernel_rfl) (LeV.refl _)
noncomputable def zU : Code := (Try.f23.body).getD .skip
noncomputable def jR : yw := spF (α := List (List Int)) (ρ := List (List Int)) 23 (fun x => [F7_ x]) (fun r => F8_ r) (fun x => uJ x) [] (by
 rintro a0 b0 h
 have e0 := yO.inj (f := F7_) _ _ (List.cons.inj h).1
 subst e0
 rfl)
abbrev XJ (out : List (List Int)) : List (Nat × T) := [(3, .own (eOs 1 false F2_ out))]
abbrev XI (l_ : List (List Int)) (i_ : Int) (out2 : List (List Int)) : List (Nat × T) := [(0, .d (eSl 1 false F2_ l_)), (3, .own (eOs 1 false F2_ out2)), (4, .d (I i_))]
abbrev XG (l_ : List (List Int)) (out1 : List (List Int)) (i_ : Int) (proper : Bool) : List (Nat × T) := [(0, .d (eSl 1 false F2_ l_)), (3, .own (eOs 1 false F2_ out1)), (4, .d (I i_)), (5, .d (B proper))]
abbrev XE (l_ : List (List Int)) (out1 : List (List Int)) (i_ : Int) (proper1 : Bool) (k_ : Int) : List (Nat × T) := [(0, .d (eSl 1 false F2_ l_)), (3, .own (eOs 1 false F2_ out1)), (4, .d (I i_)), (5, .d (B proper1)), (6, .d (I k_))]
abbrev XF (l_ : List (List Int)) (out1 : List (List Int)) (i_ : Int) : List (Nat × T) := [(0, .d (eSl 1 false F2_ l_)), (3, .own (eOs 1 false F2_ out1)), (4, .d (I i_))]
theorem Q2 {ctr : Ctr} (hC : y6 Try.prog ctr) (hm : Try.prog.follows .mixedOrders = true) (h_ref12_prefix : ctr.Has jQ) : jR.Ok Try.prog := by
 refine y8 ?_
 rintro l_ r0 hf0
 try unfold uJ at hf0
 refine zx (tt := yE) (keep := true) (rs := [(2, none)]) (n := ⟨41, []⟩) (body := zU) z6 Try.func23 rfl (by kernel_rfl) rfl rfl (by show (1 : Nat) ≤ 41; decide) fun E hE => ?_
 refine zI X0 z6 hC hm [0,3] 4000 [.cut 2] (sub [1,1] zU) (frs [1,1] [] zU []) [(0, .d (eSl 1 false F2_ l_)), (3, .own (eOs 1 true F2_ []))] [] (by kernel_rfl) fun st0 h0 => ?_
 refine zr (X := List (List Int)) (x := (sub [1,1,2] zU)) (y := (sub [1,1,1] zU)) (by kernel_rfl) [3] [0,3] _ h0 (fun z => jW z = some r0) (fun z => XJ z) ?_ fun J1 hJ1 => ?_
 ·rintro out hf0
  unfold jW at hf0
  obtain rfl := ze hf0
  exact zh X0 z6 hC hm hE 4000 (hs := []) (x := (eOs 1 false F2_ out)) [] (by kernel_rfl) (LeV.refl _)
 ·obtain ⟨t2, ht2, hf0⟩ := zi hf0
  refine zI X0 z6 hC hm [0,3,4] 4000 [] (sub [1,1,2,1,0] zU) (frs [1,1,2,1,0] [J1] zU []) [(0, .d (eSl 1 false F2_ l_)), (3, .own (eOs 1 true F2_ [])), (4, .d (I 0))] [] (by kernel_rfl) fun st0 h0 => ?_
  refine zN (X := (List (List Int) × Int) × Nat) (c' := (sub [1,1,2,1,0,0] zU)) (by kernel_rfl) [0,3,4] (fun x => yG (fun s => xw l_ s.1 s.2) x.2 x.1 = some t2) (fun x => x.2) (fun x => XF l_ x.1.1 x.1.2) ((([] : List (List Int)), 0), wJ) _ h0 inferInstance ht2 ?_
  rintro ⟨⟨out1, i_⟩, n2⟩ hn2 J2 hJ2
  obtain ⟨m2, lr1, rfl, hf1, hl1⟩ := xM hn2
  try unfold xw at hf1
  rcases zY hf1 with ⟨c0, hf1⟩ | ⟨c0, hf1⟩
  ·refine zI X0 z6 hC hm [0,3,4] 4000 [aLn l_.length, bT, .cut 0] (sub [1,1,2,1,0,0,1] zU) (frs [1,1,2,1,0,0,1] [J1, J2] zU []) [(0, .d (eSl 1 false F2_ l_)), (3, .own (eOs 1 false F2_ out1)), (4, .d (I i_))] [ob (lnM F2_ l_), ob c0] (by kernel_rfl) fun st0 h0 => ?_
   refine zr (X := List (List Int)) (x := (sub [1,1,2,1,0,0,1,2] zU)) (y := (sub [1,1,2,1,0,0,1,1] zU)) (by kernel_rfl) [0,3,4] [0,3,4] _ h0 (fun z => vX i_ z = some lr1) (fun z => XI l_ i_ z) ?_ fun J3 hJ3 => ?_
   ·rintro out2 hf1
    unfold vX at hf1
    obtain rfl := ze hf1
    exact zk X0 z6 hC hm [0,3,4] 4000 [] J2 [(0, .d (eSl 1 false F2_ l_)), (3, .own (eOs 1 false F2_ out2)), (4, .d (I (w64 (i_ + 1))))] [] (by kernel_rfl) fun st0 h0 => hJ2 st0 _ ((out2, w64 (i_ + 1)), m2) hl1 (Nat.lt_succ_self m2) h0 inferInstance
   ·refine zI X0 z6 hC hm [0,3,4,5] 4000 [.cut 1] (sub [1,1,2,1,0,0,1,2,0,1] zU) (frs [1,1,2,1,0,0,1,2,0,1] [J1, J2, J3] zU []) [(0, .d (eSl 1 false F2_ l_)), (3, .own (eOs 1 false F2_ out1)), (4, .d (I i_)), (5, .d (B false))] [] (by kernel_rfl) fun st0 h0 => ?_
    refine zr (X := Bool) (x := (sub [1,1,2,1,0,0,1,2,0,1,2] zU)) (y := (sub [1,1,2,1,0,0,1,2,0,1,1] zU)) (by kernel_rfl) [0,3,4,5] [0,3,4,5] _ h0 (fun z => uV l_ out1 i_ z = some lr1) (fun z => XG l_ out1 i_ z) ?_ fun J4 hJ4 => ?_
    ·rintro proper hf1
     unfold uV at hf1
     rcases zY hf1 with ⟨c1, hf1⟩ | ⟨c1, hf1⟩
     ·obtain ⟨l__e, h0, hf1⟩ := zi hf1
      have o0 := dM F2_ ([l__e] : List (List Int))
      have o1 := dM F2_ ([l__e] : List (List Int))
      obtain ⟨g0, hf1⟩ := gdE hf1
      have o2 := aL F2_ F2_ g0
      have o3 := aM F2_ out1 ([l__e] : List (List Int))
      exact zk X0 z6 hC hm [0,3,4] 4000 [bT, .a (F2_ l__e), bT, .l ((out1 ++ ([l__e] : List (List Int))).map F2_)] J3 [(0, .d (eSl 1 false F2_ l_)), (3, .own (eOs 1 false F2_ (out1 ++ ([l__e] : List (List Int))))), (4, .d (I i_))] [ob c1, ob (i0 h0), ob (iM F2_ h0), ob o0, ob o1, ob o2, ob o3] (by kernel_rfl) fun st0 h0 => hJ3 st0 _ (out1 ++ ([l__e] : List (List Int))) hf1 h0 inferInstance
     ·exact zk X0 z6 hC hm [0,3,4] 4000 [bF] J3 [(0, .d (eSl 1 false F2_ l_)), (3, .own (eOs 1 false F2_ out1)), (4, .d (I i_))] [ob c1] (by kernel_rfl) fun st0 h0 => hJ3 st0 _ out1 hf1 h0 inferInstance
    ·obtain ⟨t5, ht5, hf1⟩ := zi hf1
     refine zI X0 z6 hC hm [0,3,4,5,6] 4000 [] (sub [1,1,2,1,0,0,1,2,0,1,2,1,0] zU) (frs [1,1,2,1,0,0,1,2,0,1,2,1,0] [J1, J2, J3, J4] zU []) [(0, .d (eSl 1 false F2_ l_)), (3, .own (eOs 1 false F2_ out1)), (4, .d (I i_)), (5, .d (B false)), (6, .d (I 0))] [] (by kernel_rfl) fun st0 h0 => ?_
     refine zN (X := (Bool × Int) × Nat) (c' := (sub [1,1,2,1,0,0,1,2,0,1,2,1,0,0] zU)) (by kernel_rfl) [0,3,4,5,6] (fun x => yG (fun s => xv l_ i_ s.1 s.2) x.2 x.1 = some t5) (fun x => x.2) (fun x => XE l_ out1 i_ x.1.1 x.1.2) ((false, 0), wJ) _ h0 inferInstance ht5 ?_
     rintro ⟨⟨proper1, k_⟩, n5⟩ hn5 J5 hJ5
     obtain ⟨m5, lr2, rfl, hf2, hl2⟩ := xM hn5
     try unfold xv at hf2
     rcases zY hf2 with ⟨c2, hf2⟩ | ⟨c2, hf2⟩
     ·rcases zY hf2 with ⟨c3, hf2⟩ | ⟨c3, hf2⟩
      ·obtain rfl := ze hf2
       exact zk X0 z6 hC hm [0,3,4,5,6] 4000 (aLn l_.length :: (rpN 11 bT [])) J5 [(0, .d (eSl 1 false F2_ l_)), (3, .own (eOs 1 false F2_ out1)), (4, .d (I i_)), (5, .d (B true)), (6, .d (I (w64 (k_ + 1))))] (ob (lnM F2_ l_) :: ob c2 :: (rpN 10 (ob c3) [])) (by kernel_rfl) fun st0 h0 => hJ5 st0 _ ((true, w64 (k_ + 1)), m5) hl2 (Nat.lt_succ_self m5) h0 inferInstance
      ·obtain ⟨l__e1, h1, hf2⟩ := zi hf2
       obtain ⟨l__e2, h2, hf2⟩ := zi hf2
       obtain ⟨r_, h3, hf2⟩ := zi hf2
       have o4 := yP h_ref12_prefix (x := (l__e1, l__e2)) h3 (loC F2_ l__e1 <| loC F2_ l__e2 <| loN)
       obtain rfl := ze hf2
       exact zk X0 z6 hC hm [0,3,4,5,6] 4000 (aLn l_.length :: bT :: bF :: bF :: bF :: .a (F2_ l__e1) :: (rpN 4 bF [.a (F2_ l__e2), bF, bF, .g [], .a (eB r_), bF])) J5 [(0, .d (eSl 1 false F2_ l_)), (3, .own (eOs 1 false F2_ out1)), (4, .d (I i_)), (5, .d (B r_)), (6, .d (I (w64 (k_ + 1))))] (ob (lnM F2_ l_) :: ob c2 :: ob c3 :: ob c3 :: ob c3 :: ob (i0 h1) :: ob (iM F2_ h1) :: (rpN 4 (ob c3) [ob (i0 h2), ob (iM F2_ h2), ob c3, ob c3, ob (zJ h_ref12_prefix), ob o4, ob c3])) (by kernel_rfl) fun st0 h0 => hJ5 st0 _ ((r_, w64 (k_ + 1)), m5) hl2 (Nat.lt_succ_self m5) h0 inferInstance
     ·obtain rfl := ze hf2
      obtain rfl := hl2
      exact zk X0 z6 hC hm [0,3,4,5] 4000 [aLn l_.length, bF] J4 [(0, .d (eSl 1 false F2_ l_)), (3, .own (eOs 1 false F2_ out1)), (4, .d (I i_)), (5, .d (B proper1))] [ob (lnM F2_ l_), ob c2] (by kernel_rfl) fun st0 h0 => hJ4 st0 _ proper1 hf1 h0 inferInstance
  ·obtain rfl := ze hf1
   obtain rfl := hl1
   exact zk X0 z6 hC hm [3] 4000 [aLn l_.length, bF] J1 [(3, .own (eOs 1 false F2_ out1))] [ob (lnM F2_ l_), ob c0] (by kernel_rfl) fun st0 h0 => hJ1 st0 _ out1 hf0 h0 inferInstance
noncomputable def yD : Code := (Try.f7.body).getD .skip
noncomputable def uR : yw := spF (α := zb) (ρ := Bool) 7 (fun x => [xH x]) (fun r => eB r) (fun x => vZ x) [] (by
 rintro a0 b0 h
 have e0 := yO.inj (f := xH) _ _ (List.cons.inj h).1
 subst e0
 rfl)
abbrev Ye (t_ : zb) : List (Nat × T) := [(1, .own (.box (xH t_)))]
abbrev Yd (t_ : zb) (i_ : Int) : List (Nat × T) := [(1, .own (.box (xH t_))), (3, .d (I i_))]
theorem XM {ctr : Ctr} (hC : y6 Try.prog ctr) (hm : Try.prog.follows .mixedOrders = true) (h_ref12_Words : ctr.Has kK) (h_tries_Words : ctr.Has qL) (h_tries_Count : ctr.Has qM) (h_ref12_Same : ctr.Has jm) (h_law12_lives : ctr.Has kO) (h_ref12_Reduce : ctr.Has jR) : uR.Ok Try.prog := by
 refine y8 ?_
 rintro t_ r0 hf0
 try unfold vZ at hf0
 refine zx (tt := yE) (keep := true) (rs := [(2, none)]) (n := ⟨78, []⟩) (body := yD) z6 Try.func7 rfl (by kernel_rfl) rfl rfl (by show (1 : Nat) ≤ 78; decide) fun E hE => ?_
 have o0 := lnM zH t_.Nodes
 rcases zY hf0 with ⟨c0, hf0⟩ | ⟨c0, hf0⟩
 ·obtain rfl := ze hf0
  exact zh X0 z6 hC hm hE 4000 (hs := [aLn t_.Nodes.length, bT]) (x := (B true)) [ob o0, ob c0] (by kernel_rfl) (LeV.refl _)
 ·refine zI X0 z6 hC hm [1] 4000 [aLn t_.Nodes.length, bF, .cut 0] (sub [1,1] yD) (frs [1,1] [] yD []) [(1, .own (.box (xH t_)))] [ob o0, ob c0] (by kernel_rfl) fun st0 h0 => ?_
  refine zr (X := Unit) (x := (sub [1,1,2] yD)) (y := (sub [1,1,1] yD)) (by kernel_rfl) [1] [1] _ h0 (fun z => wr t_ = some r0) (fun z => Ye t_) ?_ fun J1 hJ1 => ?_
  ·rintro ⟨⟩ hf0
   unfold wr at hf0
   obtain ⟨r_, h0, hf0⟩ := zi hf0
   have o1 := yP h_ref12_Words (x := t_) h0 (loC xH t_ <| loN)
   obtain ⟨r_1, h1, hf0⟩ := zi hf0
   have o2 := yP h_tries_Words (x := t_) h1 (loC xH t_ <| loN)
   obtain ⟨r_2, h2, hf0⟩ := zi hf0
   have o3 := yP h_tries_Count (x := t_) h2 (loC xH t_ <| loN)
   rcases zY hf0 with ⟨c1, hf0⟩ | ⟨c1, hf0⟩
   ·obtain rfl := ze hf0
    exact zh X0 z6 hC hm hE 4000 (hs := (.g [] :: .a (.tup [eSl 1 false F2_ r_.1, I r_.2]) :: .g [] :: .a (.tup [eSl 1 true F1_ r_1.1, I r_1.2]) :: .g [] :: .a (.tup [I r_2.1, I r_2.2]) :: (rpN 10 bT []))) (x := (B false)) (ob (zJ h_ref12_Words) :: ob o1 :: ob (zJ h_tries_Words) :: ob o2 :: ob (zJ h_tries_Count) :: ob o3 :: (rpN 4 (ob c1) (rpN 6 oT []))) (by kernel_rfl) (LeV.refl _)
   ·rcases zY hf0 with ⟨c2, hf0⟩ | ⟨c2, hf0⟩
    ·obtain rfl := ze hf0
     exact zh X0 z6 hC hm hE 4000 (hs := (.g [] :: .a (.tup [eSl 1 false F2_ r_.1, I r_.2]) :: .g [] :: .a (.tup [eSl 1 true F1_ r_1.1, I r_1.2]) :: .g [] :: .a (.tup [I r_2.1, I r_2.2]) :: (rpN 4 bF (rpN 6 bT [])))) (x := (B false)) (ob (zJ h_ref12_Words) :: ob o1 :: ob (zJ h_tries_Words) :: ob o2 :: ob (zJ h_tries_Count) :: ob o3 :: (rpN 4 (ob c1) (rpN 5 (ob c2) [oT]))) (by kernel_rfl) (LeV.refl _)
    ·obtain ⟨r_3, h3, hf0⟩ := zi hf0
     have o4 := yP h_ref12_Same (x := (r_1.1, r_.1)) h3 (loC F4_ r_1.1 <| loC F7_ r_.1 <| loN)
     rcases zY hf0 with ⟨c3, hf0⟩ | ⟨c3, hf0⟩
     ·obtain rfl := ze hf0
      exact zh X0 z6 hC hm hE 4000 (hs := (.g [] :: .a (.tup [eSl 1 false F2_ r_.1, I r_.2]) :: .g [] :: .a (.tup [eSl 1 true F1_ r_1.1, I r_1.2]) :: .g [] :: .a (.tup [I r_2.1, I r_2.2]) :: (rpN 7 bF [.g [], .a (eB r_3), bF, bF, bT]))) (x := (B false)) (ob (zJ h_ref12_Words) :: ob o1 :: ob (zJ h_tries_Words) :: ob o2 :: ob (zJ h_tries_Count) :: ob o3 :: (rpN 4 (ob c1) [ob c2, ob c2, ob c2, ob (zJ h_ref12_Same), ob o4, ob c2, ob c2, ob c3])) (by kernel_rfl) (LeV.refl _)
     ·rcases zY hf0 with ⟨c4, hf0⟩ | ⟨c4, hf0⟩
      ·rcases zY hf0 with ⟨c5, hf0⟩ | ⟨c5, hf0⟩
       ·obtain ⟨r_4, h4, hf0⟩ := zi hf0
        have o5 := yP h_law12_lives (x := ()) h4 (loN)
        obtain rfl := ze hf0
        exact zh X0 z6 hC hm hE 4000 (hs := (.g [] :: .a (.tup [eSl 1 false F2_ r_.1, I r_.2]) :: .g [] :: .a (.tup [eSl 1 true F1_ r_1.1, I r_1.2]) :: .g [] :: .a (.tup [I r_2.1, I r_2.2]) :: (rpN 7 bF (.g [] :: .a (eB r_3) :: bF :: bF :: bF :: (rpN 9 bT [.g [], .a (eB r_4), bT]))))) (x := (B r_4)) (ob (zJ h_ref12_Words) :: ob o1 :: ob (zJ h_tries_Words) :: ob o2 :: ob (zJ h_tries_Count) :: ob o3 :: (rpN 4 (ob c1) (ob c2 :: ob c2 :: ob c2 :: ob (zJ h_ref12_Same) :: ob o4 :: ob c2 :: ob c2 :: ob c3 :: ob c4 :: ob c4 :: ob c4 :: (rpN 5 (ob c5) [oT, ob (zJ h_law12_lives), ob o5, oT])))) (by kernel_rfl) (LeV.refl _)
       ·rcases zY hf0 with ⟨c6, hf0⟩ | ⟨c6, hf0⟩
        ·obtain ⟨r_5, h5, hf0⟩ := zi hf0
         have o6 := yP h_ref12_Reduce (x := r_.1) h5 (loC F7_ r_.1 <| loN)
         rcases zY hf0 with ⟨c7, hf0⟩ | ⟨c7, hf0⟩
         ·obtain ⟨r_6, h6, hf0⟩ := zi hf0
          have o7 := yP h_law12_lives (x := ()) h6 (loN)
          obtain rfl := ze hf0
          exact zh X0 z6 hC hm hE 4000 (hs := (.g [] :: .a (.tup [eSl 1 false F2_ r_.1, I r_.2]) :: .g [] :: .a (.tup [eSl 1 true F1_ r_1.1, I r_1.2]) :: .g [] :: .a (.tup [I r_2.1, I r_2.2]) :: (rpN 7 bF [.g [], .a (eB r_3), bF, bF, bF, bT, bT, bT, bF, bF, bF, bT, bT, bT, .g [], .a (F8_ r_5), bT, aLn r_5.length, bT, bF, bT, bF, bT, .g [], .a (eB r_6), bT]))) (x := (B r_6)) (ob (zJ h_ref12_Words) :: ob o1 :: ob (zJ h_tries_Words) :: ob o2 :: ob (zJ h_tries_Count) :: ob o3 :: (rpN 4 (ob c1) [ob c2, ob c2, ob c2, ob (zJ h_ref12_Same), ob o4, ob c2, ob c2, ob c3, ob c4, ob c4, ob c4, ob c5, ob c5, ob c5, ob c6, ob c6, ob c6, ob (zJ h_ref12_Reduce), ob o6, ob c6, ob (lnM F2_ r_5), ob c6, ob c5, ob c6, ob c5, ob c7, ob (zJ h_law12_lives), ob o7, ob c7])) (by kernel_rfl) (LeV.refl _)
         ·obtain rfl := ze hf0
          exact zh X0 z6 hC hm hE 4000 (hs := (.g [] :: .a (.tup [eSl 1 false F2_ r_.1, I r_.2]) :: .g [] :: .a (.tup [eSl 1 true F1_ r_1.1, I r_1.2]) :: .g [] :: .a (.tup [I r_2.1, I r_2.2]) :: (rpN 7 bF [.g [], .a (eB r_3), bF, bF, bF, bT, bT, bT, bF, bF, bF, bT, bT, bT, .g [], .a (F8_ r_5), bT, aLn r_5.length, bT, bF, bT, bF, bF, bF]))) (x := (B false)) (ob (zJ h_ref12_Words) :: ob o1 :: ob (zJ h_tries_Words) :: ob o2 :: ob (zJ h_tries_Count) :: ob o3 :: (rpN 4 (ob c1) [ob c2, ob c2, ob c2, ob (zJ h_ref12_Same), ob o4, ob c2, ob c2, ob c3, ob c4, ob c4, ob c4, ob c5, ob c5, ob c5, ob c6, ob c6, ob c6, ob (zJ h_ref12_Reduce), ob o6, ob c6, ob (lnM F2_ r_5), ob c6, ob c5, ob c6, ob c5, ob c7, ob c7])) (by kernel_rfl) (LeV.refl _)
        ·obtain rfl := ze hf0
         exact zh X0 z6 hC hm hE 4000 (hs := (.g [] :: .a (.tup [eSl 1 false F2_ r_.1, I r_.2]) :: .g [] :: .a (.tup [eSl 1 true F1_ r_1.1, I r_1.2]) :: .g [] :: .a (.tup [I r_2.1, I r_2.2]) :: (rpN 7 bF (.g [] :: .a (eB r_3) :: bF :: bF :: bF :: bT :: bT :: bT :: (rpN 13 bF []))))) (x := (B false)) (ob (zJ h_ref12_Words) :: ob o1 :: ob (zJ h_tries_Words) :: ob o2 :: ob (zJ h_tries_Count) :: ob o3 :: (rpN 4 (ob c1) (ob c2 :: ob c2 :: ob c2 :: ob (zJ h_ref12_Same) :: ob o4 :: ob c2 :: ob c2 :: ob c3 :: ob c4 :: ob c4 :: ob c4 :: ob c5 :: ob c5 :: ob c5 :: (rpN 5 (ob c6) [ob c5, ob c6, ob c5, oF, oF])))) (by kernel_rfl) (LeV.refl _)
      ·rcases zY hf0 with ⟨c8, hf0⟩ | ⟨c8, hf0⟩
       ·obtain ⟨r_7, h7, hf0⟩ := zi hf0
        have o8 := yP h_ref12_Reduce (x := r_.1) h7 (loC F7_ r_.1 <| loN)
        rcases zY hf0 with ⟨c9, hf0⟩ | ⟨c9, hf0⟩
        ·obtain ⟨r_8, h8, hf0⟩ := zi hf0
         have o9 := yP h_law12_lives (x := ()) h8 (loN)
         obtain rfl := ze hf0
         exact zh X0 z6 hC hm hE 4000 (hs := (.g [] :: .a (.tup [eSl 1 false F2_ r_.1, I r_.2]) :: .g [] :: .a (.tup [eSl 1 true F1_ r_1.1, I r_1.2]) :: .g [] :: .a (.tup [I r_2.1, I r_2.2]) :: (rpN 7 bF (.g [] :: .a (eB r_3) :: (rpN 9 bF [bT, bT, bT, .g [], .a (F8_ r_7), bT, aLn r_7.length, bT, bF, bT, bF, bT, .g [], .a (eB r_8), bT]))))) (x := (B r_8)) (ob (zJ h_ref12_Words) :: ob o1 :: ob (zJ h_tries_Words) :: ob o2 :: ob (zJ h_tries_Count) :: ob o3 :: (rpN 4 (ob c1) [ob c2, ob c2, ob c2, ob (zJ h_ref12_Same), ob o4, ob c2, ob c2, ob c3, ob c4, ob c4, ob c4, oF, oF, oF, ob c8, ob c8, ob c8, ob (zJ h_ref12_Reduce), ob o8, ob c8, ob (lnM F2_ r_7), ob c8, oF, ob c8, oF, ob c9, ob (zJ h_law12_lives), ob o9, ob c9])) (by kernel_rfl) (LeV.refl _)
        ·obtain rfl := ze hf0
         exact zh X0 z6 hC hm hE 4000 (hs := (.g [] :: .a (.tup [eSl 1 false F2_ r_.1, I r_.2]) :: .g [] :: .a (.tup [eSl 1 true F1_ r_1.1, I r_1.2]) :: .g [] :: .a (.tup [I r_2.1, I r_2.2]) :: (rpN 7 bF (.g [] :: .a (eB r_3) :: (rpN 9 bF [bT, bT, bT, .g [], .a (F8_ r_7), bT, aLn r_7.length, bT, bF, bT, bF, bF, bF]))))) (x := (B false)) (ob (zJ h_ref12_Words) :: ob o1 :: ob (zJ h_tries_Words) :: ob o2 :: ob (zJ h_tries_Count) :: ob o3 :: (rpN 4 (ob c1) [ob c2, ob c2, ob c2, ob (zJ h_ref12_Same), ob o4, ob c2, ob c2, ob c3, ob c4, ob c4, ob c4, oF, oF, oF, ob c8, ob c8, ob c8, ob (zJ h_ref12_Reduce), ob o8, ob c8, ob (lnM F2_ r_7), ob c8, oF, ob c8, oF, ob c9, ob c9])) (by kernel_rfl) (LeV.refl _)
       ·obtain rfl := ze hf0
        exact zh X0 z6 hC hm hE 4000 (hs := (.g [] :: .a (.tup [eSl 1 false F2_ r_.1, I r_.2]) :: .g [] :: .a (.tup [eSl 1 true F1_ r_1.1, I r_1.2]) :: .g [] :: .a (.tup [I r_2.1, I r_2.2]) :: (rpN 7 bF (.g [] :: .a (eB r_3) :: (rpN 19 bF []))))) (x := (B false)) (ob (zJ h_ref12_Words) :: ob o1 :: ob (zJ h_tries_Words) :: ob o2 :: ob (zJ h_tries_Count) :: ob o3 :: (rpN 4 (ob c1) (ob c2 :: ob c2 :: ob c2 :: ob (zJ h_ref12_Same) :: ob o4 :: ob c2 :: ob c2 :: ob c3 :: ob c4 :: ob c4 :: ob c4 :: oF :: oF :: oF :: (rpN 5 (ob c8) [oF, ob c8, oF, oF, oF])))) (by kernel_rfl) (LeV.refl _)
  ·obtain ⟨t2, ht2, hf0⟩ := zi hf0
   refine zI X0 z6 hC hm [1,3] 4000 [] (sub [1,1,2,1,0] yD) (frs [1,1,2,1,0] [J1] yD []) [(1, .own (.box (xH t_))), (3, .d (I 0))] [] (by kernel_rfl) fun st0 h0 => ?_
   refine zN (X := Int × Nat) (c' := (sub [1,1,2,1,0,0] yD)) (by kernel_rfl) [1,3] (fun x => yG (fun s => xE t_ s) x.2 x.1 = some t2) (fun x => x.2) (fun x => Yd t_ x.1) (0, wJ) _ h0 inferInstance ht2 ?_
   rintro ⟨i_, n2⟩ hn2 J2 hJ2
   obtain ⟨m2, lr1, rfl, hf1, hl1⟩ := xM hn2
   try unfold xE at hf1
   have o10 := lnM zH t_.Nodes
   rcases zY hf1 with ⟨c10, hf1⟩ | ⟨c10, hf1⟩
   ·obtain ⟨Node_e, h9, hf1⟩ := zi hf1
    have o11 := iM zH h9
    rcases zY hf1 with ⟨c11, hf1⟩ | ⟨c11, hf1⟩
    ·obtain rfl := ze hf1
     obtain rfl := hl1
     obtain rfl := ze hf0
     exact zh X0 z6 hC hm hE 4000 (hs := [aLn t_.Nodes.length, bT, .a (zH Node_e), aLn Node_e.Next.length, bT]) (x := (B true)) [ob o10, ob c10, ob (i0 h9), ob o11, ob (lnM (eI .i64) Node_e.Next), ob c11] (by kernel_rfl) (LeV.refl _)
    ·obtain rfl := ze hf1
     exact zk X0 z6 hC hm [1,3] 4000 [aLn t_.Nodes.length, bT, .a (zH Node_e), aLn Node_e.Next.length, bF] J2 [(1, .own (.box (xH t_))), (3, .d (I (w64 (i_ + 1))))] [ob o10, ob c10, ob (i0 h9), ob o11, ob (lnM (eI .i64) Node_e.Next), ob c11] (by kernel_rfl) fun st0 h0 => hJ2 st0 _ (w64 (i_ + 1), m2) hl1 (Nat.lt_succ_self m2) h0 inferInstance
   ·obtain rfl := ze hf1
    obtain rfl := hl1
    exact zk X0 z6 hC hm [1] 4000 [aLn t_.Nodes.length, bF] J1 [(1, .own (.box (xH t_)))] [ob o10, ob c10] (by kernel_rfl) fun st0 h0 => hJ1 st0 _ () hf0 h0 inferInstance
end Go.Own

namespace Go.Own
open Go.Proofs
theorem yR {l : List yw} {s : yw} (h : ((l.map yw.k).contains s.k) = false) : ∀ t ∈ l, t.k ≠ s.k := by
 intro t ht e
 have : (l.map yw.k).contains s.k = true := by
  rw [List.contains_iff_mem, ← e]
  exact List.mem_map_of_mem ht
 rw [h] at this
 cases this
theorem zB {l : List yw} {c : Ctr} (H : ∀ t ∈ l, c.Has t) (i : Nat) {s : yw} (h : l[i]? = some s) : c.Has s := H _ (List.mem_of_getElem? h)
theorem yd : Try.prog.follows .mixedOrders = true := by kernel_rfl
noncomputable def L0 : List yw := Zq :: []
noncomputable def L1 : List yw := je :: L0
noncomputable def L2 : List yw := kM :: L1
noncomputable def L3 : List yw := yI :: L2
noncomputable def L4 : List yw := kL :: L3
noncomputable def L5 : List yw := kN :: L4
noncomputable def L6 : List yw := ZX :: L5
noncomputable def L7 : List yw := qD :: L6
noncomputable def L8 : List yw := ZY :: L7
noncomputable def L9 : List yw := Zr :: L8
noncomputable def L10 : List yw := qN :: L9
noncomputable def L11 : List yw := kK :: L10
noncomputable def L12 : List yw := Zm :: L11
noncomputable def L13 : List yw := vg :: L12
noncomputable def L14 : List yw := zV :: L13
noncomputable def L15 : List yw := vV :: L14
noncomputable def L16 : List yw := uQ :: L15
noncomputable def L17 : List yw := yl :: L16
noncomputable def L18 : List yw := jb :: L17
noncomputable def L19 : List yw := w6 :: L18
noncomputable def L20 : List yw := xk :: L19
noncomputable def L21 : List yw := kG :: L20
noncomputable def L22 : List yw := qK :: L21
noncomputable def L23 : List yw := jf :: L22
noncomputable def L24 : List yw := vP :: L23
noncomputable def L25 : List yw := wF :: L24
noncomputable def L26 : List yw := Zu :: L25
noncomputable def L27 : List yw := vo :: L26
noncomputable def L28 : List yw := kI :: L27
noncomputable def L29 : List yw := ui :: L28
noncomputable def L30 : List yw := xR :: L29
noncomputable def L31 : List yw := qL :: L30
noncomputable def L32 : List yw := qM :: L31
noncomputable def L33 : List yw := jm :: L32
noncomputable def L34 : List yw := Zt :: L33
noncomputable def L35 : List yw := wW :: L34
noncomputable def L36 : List yw := qB :: L35
noncomputable def L37 : List yw := xl :: L36
noncomputable def L38 : List yw := vU :: L37
noncomputable def L39 : List yw := Zp :: L38
noncomputable def L40 : List yw := jN :: L39
noncomputable def L41 : List yw := jd :: L40
noncomputable def L42 : List yw := jO :: L41
noncomputable def L43 : List yw := vh :: L42
noncomputable def L44 : List yw := kH :: L43
noncomputable def L45 : List yw := qC :: L44
noncomputable def L46 : List yw := Zn :: L45
noncomputable def L47 : List yw := ZW :: L46
noncomputable def L48 : List yw := jP :: L47
noncomputable def L49 : List yw := Zs :: L48
noncomputable def L50 : List yw := kx :: L49
noncomputable def L51 : List yw := Zo :: L50
noncomputable def L52 : List yw := kJ :: L51
noncomputable def L53 : List yw := yF :: L52
noncomputable def L54 : List yw := wV :: L53
noncomputable def L55 : List yw := YF :: L54
noncomputable def L56 : List yw := kO :: L55
noncomputable def L57 : List yw := jQ :: L56
noncomputable def L58 : List yw := jR :: L57
noncomputable def L59 : List yw := uR :: L58
theorem za3 : zK Try.prog L0 := ⟨fun _ hC H => JZ hC yd, yR (by kernel_rfl), trivial⟩
theorem za2 : zK Try.prog L1 := ⟨fun _ hC H => VA hC yd, yR (by kernel_rfl), za3⟩
theorem za1 : zK Try.prog L2 := ⟨fun _ hC H => QY hC yd (zB H 1 rfl) (zB H 0 rfl), yR (by kernel_rfl), za2⟩
theorem za0 : zK Try.prog L3 := ⟨fun _ hC H => VB hC yd, yR (by kernel_rfl), za1⟩
theorem z9Z : zK Try.prog L4 := ⟨fun _ hC H => QX hC yd, yR (by kernel_rfl), za0⟩
theorem z9Y : zK Try.prog L5 := ⟨fun _ hC H => J0 hC yd (zB H 2 rfl) (zB H 1 rfl) (zB H 0 rfl), yR (by kernel_rfl), z9Z⟩
theorem z9X : zK Try.prog L6 := ⟨fun _ hC H => z08 hC yd (zB H 2 rfl), yR (by kernel_rfl), z9Y⟩
theorem z9W : zK Try.prog L7 := ⟨fun _ hC H => WP hC yd (zB H 0 rfl), yR (by kernel_rfl), z9X⟩
theorem z9V : zK Try.prog L8 := ⟨fun _ hC H => z09 hC yd (zB H 4 rfl), yR (by kernel_rfl), z9W⟩
theorem z9U : zK Try.prog L9 := ⟨fun _ hC H => K0 hC yd (zB H 1 rfl) (zB H 0 rfl) (zB H 5 rfl), yR (by kernel_rfl), z9V⟩
theorem z8S : zK Try.prog L10 := ⟨fun _ hC H => QZ hC yd (zB H 6 rfl), yR (by kernel_rfl), z9U⟩
theorem z8R : zK Try.prog L11 := ⟨fun _ hC H => QV hC yd (zB H 5 rfl) (zB H 1 rfl) (zB H 0 rfl), yR (by kernel_rfl), z8S⟩
theorem z8Q : zK Try.prog L12 := ⟨fun _ hC H => JU hC yd, yR (by kernel_rfl), z8R⟩
theorem z8P : zK Try.prog L13 := ⟨fun _ hC H => JT hC yd, yR (by kernel_rfl), z8Q⟩
theorem z8O : zK Try.prog L14 := ⟨fun _ hC H => ZR hC yd, yR (by kernel_rfl), z8P⟩
theorem z8N : zK Try.prog L15 := ⟨fun _ hC H => UY hC yd, yR (by kernel_rfl), z8O⟩
theorem z8M : zK Try.prog L16 := ⟨fun _ hC H => JV hC yd (zB H 0 rfl), yR (by kernel_rfl), z8N⟩
theorem z8L : zK Try.prog L17 := ⟨fun _ hC H => ZN hC yd, yR (by kernel_rfl), z8M⟩
theorem z8K : zK Try.prog L18 := ⟨fun _ hC H => Vy hC yd, yR (by kernel_rfl), z8L⟩
theorem z8J : zK Try.prog L19 := ⟨fun _ hC H => kl hC yd (zB H 0 rfl), yR (by kernel_rfl), z8K⟩
theorem z8I : zK Try.prog L20 := ⟨fun _ hC H => j6 hC yd (zB H 0 rfl), yR (by kernel_rfl), z8J⟩
theorem z8H : zK Try.prog L21 := ⟨fun _ hC H => QM hC yd (zB H 0 rfl), yR (by kernel_rfl), z8I⟩
theorem z8G : zK Try.prog L22 := ⟨fun _ hC H => QP hC yd (zB H 0 rfl), yR (by kernel_rfl), z8H⟩
theorem z8F : zK Try.prog L23 := ⟨fun _ hC H => VC hC yd, yR (by kernel_rfl), z8G⟩
theorem z8E : zK Try.prog L24 := ⟨fun _ hC H => XN hC yd (zB H 0 rfl), yR (by kernel_rfl), z8F⟩
theorem z8D : zK Try.prog L25 := ⟨fun _ hC H => kX hC yd (zB H 0 rfl), yR (by kernel_rfl), z8E⟩
theorem z8C : zK Try.prog L26 := ⟨fun _ hC H => K4 hC yd, yR (by kernel_rfl), z8D⟩
theorem z8B : zK Try.prog L27 := ⟨fun _ hC H => Vx hC yd (zB H 2 rfl) (zB H 1 rfl) (zB H 0 rfl), yR (by kernel_rfl), z8C⟩
theorem z8A : zK Try.prog L28 := ⟨fun _ hC H => QQ hC yd (zB H 0 rfl), yR (by kernel_rfl), z8B⟩
theorem z8z : zK Try.prog L29 := ⟨fun _ hC H => QO hC yd, yR (by kernel_rfl), z8A⟩
theorem z8y : zK Try.prog L30 := ⟨fun _ hC H => QU hC yd (zB H 7 rfl) (zB H 1 rfl) (zB H 0 rfl), yR (by kernel_rfl), z8z⟩
theorem z8x : zK Try.prog L31 := ⟨fun _ hC H => QR hC yd (zB H 18 rfl) (zB H 17 rfl) (zB H 16 rfl) (zB H 14 rfl) (zB H 13 rfl) (zB H 0 rfl), yR (by kernel_rfl), z8y⟩
theorem z8w : zK Try.prog L32 := ⟨fun _ hC H => QT hC yd (zB H 0 rfl) (zB H 15 rfl), yR (by kernel_rfl), z8x⟩
theorem z8v : zK Try.prog L33 := ⟨fun _ hC H => K1 hC yd (zB H 29 rfl), yR (by kernel_rfl), z8w⟩
theorem z8u : zK Try.prog L34 := ⟨fun _ hC H => K3 hC yd, yR (by kernel_rfl), z8v⟩
theorem z8t : zK Try.prog L35 := ⟨fun _ hC H => Zg hC yd, yR (by kernel_rfl), z8u⟩
theorem z8s : zK Try.prog L36 := ⟨fun _ hC H => WN hC yd (zB H 8 rfl), yR (by kernel_rfl), z8t⟩
theorem z8r : zK Try.prog L37 := ⟨fun _ hC H => j7 hC yd (zB H 0 rfl), yR (by kernel_rfl), z8s⟩
theorem z8q : zK Try.prog L38 := ⟨fun _ hC H => UX hC yd (zB H 2 rfl) (zB H 10 rfl) (zB H 0 rfl) (zB H 8 rfl) (zB H 20 rfl) (zB H 23 rfl), yR (by kernel_rfl), z8r⟩
theorem z8p : zK Try.prog L39 := ⟨fun _ hC H => JY hC yd (zB H 16 rfl) (zB H 0 rfl), yR (by kernel_rfl), z8q⟩
theorem z8o : zK Try.prog L40 := ⟨fun _ hC H => z1F hC yd, yR (by kernel_rfl), z8p⟩
theorem z8n : zK Try.prog L41 := ⟨fun _ hC H => Vz hC yd (zB H 27 rfl) (zB H 26 rfl) (zB H 24 rfl) (zB H 23 rfl), yR (by kernel_rfl), z8o⟩
theorem z8m : zK Try.prog L42 := ⟨fun _ hC H => UZ hC yd (zB H 11 rfl) (zB H 1 rfl) (zB H 0 rfl), yR (by kernel_rfl), z8n⟩
theorem z8l : zK Try.prog L43 := ⟨fun _ hC H => X3 hC yd, yR (by kernel_rfl), z8m⟩
theorem z8k : zK Try.prog L44 := ⟨fun _ hC H => QN hC yd (zB H 14 rfl), yR (by kernel_rfl), z8l⟩
theorem z8j : zK Try.prog L45 := ⟨fun _ hC H => WO hC yd (zB H 14 rfl) (zB H 4 rfl) (zB H 31 rfl) (zB H 30 rfl) (zB H 1 rfl) (zB H 27 rfl) (zB H 0 rfl), yR (by kernel_rfl), z8k⟩
theorem z8i : zK Try.prog L46 := ⟨fun _ hC H => JW hC yd (zB H 15 rfl), yR (by kernel_rfl), z8j⟩
theorem z8h : zK Try.prog L47 := ⟨fun _ hC H => z06 hC yd, yR (by kernel_rfl), z8i⟩
theorem z8g : zK Try.prog L48 := ⟨fun _ hC H => Q0 hC yd (zB H 1 rfl) (zB H 33 rfl) (zB H 0 rfl) (zB H 9 rfl), yR (by kernel_rfl), z8h⟩
theorem z8f : zK Try.prog L49 := ⟨fun _ hC H => K2 hC yd (zB H 15 rfl), yR (by kernel_rfl), z8g⟩
theorem z8e : zK Try.prog L50 := ⟨fun _ hC H => z07 hC yd (zB H 11 rfl) (zB H 35 rfl), yR (by kernel_rfl), z8f⟩
theorem z8d : zK Try.prog L51 := ⟨fun _ hC H => JX hC yd (zB H 0 rfl), yR (by kernel_rfl), z8e⟩
theorem z8c : zK Try.prog L52 := ⟨fun _ hC H => QS hC yd (zB H 1 rfl), yR (by kernel_rfl), z8d⟩
theorem z8b : zK Try.prog L53 := ⟨fun _ hC H => uv hC yd, yR (by kernel_rfl), z8c⟩
theorem z8a : zK Try.prog L54 := ⟨fun _ hC H => Zf hC yd (zB H 40 rfl) (zB H 39 rfl) (zB H 0 rfl), yR (by kernel_rfl), z8b⟩
theorem z89 : zK Try.prog L55 := ⟨fun _ hC H => z1G hC yd (zB H 24 rfl) (zB H 14 rfl) (zB H 0 rfl), yR (by kernel_rfl), z8a⟩
theorem z88 : zK Try.prog L56 := ⟨fun _ hC H => Ja hC yd (zB H 21 rfl) (zB H 16 rfl) (zB H 13 rfl) (zB H 10 rfl) (zB H 7 rfl) (zB H 6 rfl) (zB H 4 rfl) (zB H 3 rfl) (zB H 0 rfl) (zB H 23 rfl) (zB H 45 rfl) (zB H 25 rfl), yR (by kernel_rfl), z89⟩
theorem z87 : zK Try.prog L57 := ⟨fun _ hC H => Q1 hC yd (zB H 53 rfl), yR (by kernel_rfl), z88⟩
theorem z86 : zK Try.prog L58 := ⟨fun _ hC H => Q2 hC yd (zB H 0 rfl), yR (by kernel_rfl), z87⟩
theorem z85 : zK Try.prog L59 := ⟨fun _ hC H => XM hC yd (zB H 47 rfl) (zB H 27 rfl) (zB H 26 rfl) (zB H 25 rfl) (zB H 2 rfl) (zB H 0 rfl), yR (by kernel_rfl), z86⟩
end Go.Own

namespace Go.Own
theorem xy {x : Int} (h1 : -9223372036854775808 ≤ x) (h2 : x ≤ 9223372036854775807) : w64 x = x := by
 simp only [w64, IntKind.wrap, IntKind.bits, IntKind.signed]
 simp
 omega
section
variable {α β σ τ ρ : Type}
def Ret (x : Option α) (Q : α → Prop) : Prop := ∃ a, x = some a ∧ Q a
theorem Ret.mono {x : Option α} {Q R : α → Prop} (h : Ret x Q) (q : ∀ a, Q a → R a) : Ret x R := by
 obtain ⟨a, e, h⟩ := h
 exact ⟨a, e, q a h⟩
theorem Ret.eq {x : Option α} {a : α} (h : Ret x fun b => b = a) : x = some a := by
 obtain ⟨b, e, rfl⟩ := h
 exact e
theorem xa {a : α} {Q : α → Prop} : Ret (some a) Q ↔ Q a := ⟨fun ⟨b, e, q⟩ => by cases e; exact q, fun q => ⟨a, rfl, q⟩⟩
theorem Vn {x : Option α} {f : α → Option β} {Q : β → Prop} : Ret (Option.bind x f) Q ↔ Ret x fun a => Ret (f a) Q := by
 cases x with
 | none => exact ⟨fun ⟨b, e, _⟩ => (by cases e), fun ⟨b, e, _⟩ => (by cases e)⟩
 | some a => exact ⟨fun h => ⟨a, rfl, h⟩, fun ⟨b, e, h⟩ => by cases e; exact h⟩
theorem Zv {c : Bool} {x y : Option α} {Q : α → Prop} : Ret (bif c then x else y) Q ↔ (c = true → Ret x Q) ∧ (c = false → Ret y Q) := by
 cases c <;> simp
theorem gdT {p : Prop} [Decidable p] {x : Option α} (h : p) : gd p x = x := by unfold gd; rw [if_pos h]
theorem bdT {x : Option α} {u : α} {f : α → Option ρ} (h : x = some u) : Option.bind x f = f u := by rw [h]; rfl
theorem wY (step : σ → Option (LR σ τ)) (n : Nat) (s : σ) : yG step (n + 1) s = (match step s with | none => none | some (.next s') => yG step n s' | some (.done t) => some t) := rfl
def LRP (N : σ → Prop) (D : τ → Prop) : LR σ τ → Prop
 | .next s => N s
 | .done t => D t
theorem Vm {step : σ → Option (LR σ τ)} (I : σ → Prop) (m : σ → Nat) {R : τ → Prop} {s : σ} (hs : I s) (hm : m s < 18446744073709551616)
  (h : ∀ s, I s → Ret (step s) (LRP (fun s' => I s' ∧ m s' < m s) R)) : Ret (loop step s) R := by
 have gen : ∀ (n : Nat) (s : σ), I s → m s < n → Ret (yG step n s) R := by
  intro n
  induction n with
  | zero => intro s _ h; omega
  | succ n ih =>
   intro s hs hm
   obtain ⟨a, e, q⟩ := h s hs
   rw [wY, e]
   cases a with
   | next s' => exact ih s' q.1 (by have := q.2; omega)
   | done t => exact ⟨t, rfl, q⟩
 exact gen wJ s hs hm
theorem uW {step : σ → Option (LR σ τ)} (st : Nat → σ) (n : Nat) {t : τ} (hn : n < 9223372036854775808) (h : ∀ i, i < n → step (st i) = some (.next (st (i + 1)))) (hd : step (st n) = some (.done t)) : loop step (st 0) = some t := by
 have gen : ∀ (k : Nat) (i : Nat), i ≤ n → n - i < k → yG step k (st i) = some t := by
  intro k
  induction k with
  | zero => intro i _ h; omega
  | succ k ih =>
   intro i hi hk
   rw [wY]
   rcases Nat.lt_or_ge i n with q | q
   ·rw [h i q]
    exact ih (i + 1) q (by omega)
   ·have : i = n := by omega
    subst this
    rw [hd]
 exact gen wJ 0 (Nat.zero_le _) (by show n - 0 < 18446744073709551616; omega)
def yQ (f : Nat → α → Option ρ) : List α → Nat → Option ρ
 | [], _ => none
 | x :: l, i => match f i x with | some r => some r | none => yQ f l (i + 1)
theorem YO {f : Nat → α → Option ρ} : ∀ {l : List α} {k : Nat}, (∀ i x, l[i]? = some x → f (k + i) x = none) → yQ f l k = none
 | [], _, _ => rfl
 | x :: l, k, h => by
  have h0 := h 0 x rfl
  simp only [Nat.add_zero] at h0
  simp only [yQ, h0]
  exact YO fun i y hy => by have := h (i + 1) y (by simpa using hy); rwa [show k + 1 + i = k + (i + 1) by omega]
theorem u0 {f : Nat → α → Option ρ} {r : ρ} : ∀ {l : List α} {k : Nat}, yQ f l k = some r → ∃ i x, l[i]? = some x ∧ f (k + i) x = some r
 | [], _, h => by cases h
 | x :: l, k, h => by
  simp only [yQ] at h
  cases hf : f k x with
  | some r' => rw [hf] at h; exact ⟨0, x, rfl, by rw [Nat.add_zero, hf]; exact h⟩
  | none =>
   rw [hf] at h
   obtain ⟨i, y, h1, h2⟩ := u0 h
   exact ⟨i + 1, y, by simpa using h1, by rw [← h2]; congr 1; omega⟩
theorem jt {f : Nat → α → Option ρ} {l : List α} {k : Nat} (h : yQ f l k = none) : ∀ i x, l[i]? = some x → f (k + i) x = none := by
 induction l generalizing k with
 | nil => intro i x h; simp at h
 | cons y l ih =>
  intro i x hx
  simp only [yQ] at h
  cases hf : f k y with
  | some r' => rw [hf] at h; cases h
  | none =>
   rw [hf] at h
   cases i with
   | zero => simp at hx; subst hx; simpa using hf
   | succ i => have := ih h i x (by simpa using hx); rwa [show k + (i + 1) = k + 1 + i by omega]
def oS : Option ρ → Unit ⊕ ρ
 | some r => .inr r
 | none => .inl ()
def nS (i : Nat) : Option ρ → LR Int (Unit ⊕ ρ)
 | some r => .done (.inr r)
 | none => .next (w64 ((i : Int) + 1))
theorem wX (l : List α) (hl : l.length < 4611686018427387904) {step : Int → Option (LR Int (Unit ⊕ ρ))} (f : Nat → α → Option ρ)
  (h : ∀ (i : Nat) (x : α), l[i]? = some x → step (i : Int) = some (nS i (f i x))) (h2 : step (l.length : Int) = some (.done (.inl ()))) :
  loop step 0 = some (oS (yQ f l 0)) := by
 have gen : ∀ (n : Nat) (k : Nat), k ≤ l.length → l.length - k < n → yG step n (k : Int) = some (oS (yQ f (l.drop k) k)) := by
  intro n
  induction n with
  | zero => intro k _ h; omega
  | succ n ih =>
   intro k hk hn
   rw [wY]
   rcases Nat.lt_or_ge k l.length with hlt | hge
   ·have hx : l[k]? = some l[k] := List.getElem?_eq_getElem hlt
    rw [h k _ hx, List.drop_eq_getElem_cons hlt]
    simp only [yQ]
    cases hf : f k l[k] with
    | some r => rfl
    | none =>
     simp only [nS]
     rw [xy (by omega) (by omega)]
     exact ih (k + 1) hlt (by omega)
   ·have : k = l.length := by omega
    subst this
    rw [h2, List.drop_length]
    rfl
 exact gen wJ 0 (Nat.zero_le _) (by show l.length - 0 < 18446744073709551616; omega)
end
end Go.Own

namespace Go.Own
def Yy : List Int → List Int → Int
 | [], [] => 0
 | [], _ :: _ => -1
 | _ :: _, [] => 1
 | x :: a, y :: b => if x < y then -1 else if y < x then 1 else Yy a b
def uM (a b : List Int) : Int := if a.length < b.length then -1 else if b.length < a.length then 1 else Yy a b
theorem z2K : ∀ {a b : List Int}, Yy a b = 0 → a = b
 | [], [], _ => rfl
 | [], _ :: _, h => by simp [Yy] at h
 | _ :: _, [], h => by simp [Yy] at h
 | x :: a, y :: b, h => by
  simp only [Yy] at h
  split at h
  ·simp at h
  ·split at h
   ·simp at h
   ·rw [show x = y by omega, z2K h]
theorem KB : ∀ a : List Int, Yy a a = 0
 | [] => rfl
 | x :: a => by simp [Yy, KB a]
theorem z19 : ∀ a b : List Int, Yy b a = - Yy a b
 | [], [] => rfl
 | [], _ :: _ => rfl
 | _ :: _, [] => rfl
 | x :: a, y :: b => by
  simp only [Yy]
  split
  ·rw [if_neg (by omega)]
  ·split
   ·rfl
   ·exact z19 a b
theorem Qv : ∀ {a b c : List Int}, Yy a b < 0 → Yy b c < 0 → Yy a c < 0
 | [], [], _, h, _ => by simp [Yy] at h
 | [], _ :: _, [], _, h => by simp [Yy] at h
 | [], _ :: _, _ :: _, _, _ => by simp [Yy]
 | _ :: _, [], _, h, _ => by simp [Yy] at h
 | _ :: _, _ :: _, [], _, h => by simp [Yy] at h
 | x :: a, y :: b, z :: c, h1, h2 => by
  simp only [Yy] at h1 h2 ⊢
  by_cases e1 : x < y
  ·by_cases e2 : y < z
   ·rw [if_pos (by omega)]; omega
   ·rw [if_neg e2] at h2
    by_cases e3 : z < y
    ·rw [if_pos e3] at h2; omega
    ·rw [if_pos (by omega)]; omega
  ·rw [if_neg e1] at h1
   by_cases e3 : y < x
   ·rw [if_pos e3] at h1; omega
   ·rw [if_neg e3] at h1
    have : x = y := by omega
    subst this
    by_cases e2 : x < z
    ·rw [if_pos e2]; omega
    ·rw [if_neg e2] at h2 ⊢
     by_cases e4 : z < x
     ·rw [if_pos e4] at h2; omega
     ·rw [if_neg e4] at h2 ⊢
      exact Qv h1 h2
theorem Ya {a b : List Int} (h : uM a b = 0) : a = b := by
 unfold uM at h
 split at h
 ·simp at h
 ·split at h
  ·simp at h
  ·exact z2K h
theorem uZ (a : List Int) : uM a a = 0 := by simp [uM, KB]
theorem z1w {a b : List Int} : uM a b = 0 ↔ a = b := ⟨Ya, fun h => h ▸ uZ a⟩
theorem z1v (a b : List Int) : uM b a = - uM a b := by
 unfold uM
 by_cases h1 : a.length < b.length
 ·rw [if_pos h1, if_neg (by omega), if_pos h1]; rfl
 ·by_cases h2 : b.length < a.length
  ·rw [if_pos h2, if_neg h1, if_pos h2]
  ·rw [if_neg h1, if_neg h2, if_neg h2, if_neg h1, z19]
theorem jC {a b c : List Int} (h1 : uM a b < 0) (h2 : uM b c < 0) : uM a c < 0 := by
 unfold uM at *
 by_cases e1 : a.length < b.length
 ·by_cases e2 : b.length < c.length
  ·rw [if_pos (by omega)]; omega
  ·rw [if_neg e2] at h2
   by_cases e3 : c.length < b.length
   ·rw [if_pos e3] at h2; omega
   ·rw [if_pos (by omega)]; omega
 ·rw [if_neg e1] at h1
  by_cases e3 : b.length < a.length
  ·rw [if_pos e3] at h1; omega
  ·rw [if_neg e3] at h1
   have e : a.length = b.length := by omega
   rw [e]
   by_cases e2 : b.length < c.length
   ·rw [if_pos e2]; omega
   ·rw [if_neg e2] at h2 ⊢
    by_cases e4 : c.length < b.length
    ·rw [if_pos e4] at h2; omega
    ·rw [if_neg e4] at h2 ⊢
     exact Qv h1 h2
theorem Vu (a : List Int) : ¬ uM a a < 0 := by rw [uZ]; omega
theorem KP {a b : List Int} (h : uM a b < 0) : ¬ uM b a < 0 := by rw [z1v a b]; omega
theorem z36 {a b : List Int} : ¬ uM a b < 0 ↔ uM b a < 0 ∨ a = b := by
 rw [← z1w, z1v a b]; omega
def SW (l : List (List Int)) : Prop := l.Pairwise fun a b => uM a b < 0
theorem SW.nil : SW [] := List.Pairwise.nil
theorem SW.tail {x : List Int} {l : List (List Int)} (h : SW (x :: l)) : SW l := (List.pairwise_cons.1 h).2
theorem SW.head {x : List Int} {l : List (List Int)} (h : SW (x :: l)) : ∀ y ∈ l, uM x y < 0 := (List.pairwise_cons.1 h).1
theorem SW.unique : ∀ {l m : List (List Int)}, SW l → SW m → (∀ x, x ∈ l ↔ x ∈ m) → l = m
 | [], [], _, _, _ => rfl
 | [], y :: m, _, _, h => by have := (h y).2 (by simp); simp at this
 | x :: l, [], _, _, h => by have := (h x).1 (by simp); simp at this
 | x :: l, y :: m, h1, h2, h => by
  have hxy : x = y := by
   rcases List.mem_cons.1 ((h x).1 (by simp)) with e | e
   ·exact e
   ·rcases List.mem_cons.1 ((h y).2 (by simp)) with e' | e'
    ·exact e'.symm
    ·exact absurd (h2.head x e) (KP (h1.head y e'))
  subst hxy
  rw [SW.unique h1.tail h2.tail fun z => ?_]
  constructor
  ·intro hz
   rcases List.mem_cons.1 ((h z).1 (by simp [hz])) with e | e
   ·subst e; exact absurd (h1.head _ hz) (Vu _)
   ·exact e
  ·intro hz
   rcases List.mem_cons.1 ((h z).2 (by simp [hz])) with e | e
   ·subst e; exact absurd (h2.head _ hz) (Vu _)
   ·exact e
theorem SW.sub {l m : List (List Int)} (h : SW l) (hs : List.Sublist m l) : SW m := List.Pairwise.sublist hs h
theorem SW.filter {l : List (List Int)} (h : SW l) (p : List Int → Bool) : SW (l.filter p) := h.sub List.filter_sublist
theorem SW.nodup {l : List (List Int)} (h : SW l) : l.Nodup := List.Pairwise.imp (fun {a b} q e => by subst e; exact Vu _ q) h
def Qm (w : List Int) : List (List Int) → List (List Int)
 | [] => [w]
 | x :: l => if uM x w < 0 then x :: Qm w l else if uM x w = 0 then x :: l else w :: x :: l
theorem Xg {w x : List Int} : ∀ {l : List (List Int)}, x ∈ Qm w l ↔ x = w ∨ x ∈ l
 | [] => by simp [Qm]
 | y :: l => by
  simp only [Qm]
  split
  ·simp only [List.mem_cons, Xg]
   constructor
   ·rintro (h | h | h) <;> simp [h]
   ·rintro (h | h | h) <;> simp [h]
  ·split
   ·rename_i h1 h2
    have := Ya h2
    subst this
    simp
   ·simp
theorem SW.put {w : List Int} : ∀ {l : List (List Int)}, SW l → SW (Qm w l)
  | [], _ => by simp [Qm, SW]
  | y :: l, h => by
    simp only [Qm]
    split
    · rename_i h1
      refine List.pairwise_cons.2 ⟨fun z hz => ?_, SW.put h.tail⟩
      rcases Xg.1 hz with rfl | hz
      · exact h1
      · exact h.head z hz
    · split
      · exact h
      · rename_i h1 h2
        have hw : uM w y < 0 := by
          rcases z36.1 h1 with q | q
          · exact q
          · exact absurd (z1w.2 q) h2
        refine List.pairwise_cons.2 ⟨fun z hz => ?_, h⟩
        rcases List.mem_cons.1 hz with rfl | hz
        · exact hw
        · exact jC hw (h.head z hz)
theorem z12 (w : List Int) : ∀ l, (Qm w l).length ≤ l.length + 1
 | [] => by simp [Qm]
 | y :: l => by
  simp only [Qm]
  split
  ·have := z12 w l; simp; omega
  ·split <;> simp
def srt (l : List (List Int)) : List (List Int) := l.foldl (fun m w => Qm w m) []
theorem z0c : ∀ (l m : List (List Int)), SW m → SW (l.foldl (fun m w => Qm w m) m) ∧ ∀ x, x ∈ l.foldl (fun m w => Qm w m) m ↔ x ∈ m ∨ x ∈ l
 | [], m, h => ⟨h, by simp⟩
 | w :: l, m, h => by
  obtain ⟨h1, h2⟩ := z0c l (Qm w m) h.put
  refine ⟨h1, fun x => ?_⟩
  rw [List.foldl_cons, h2, Xg]
  simp only [List.mem_cons]
  constructor
  ·rintro ((h | h) | h) <;> simp [h]
  ·rintro (h | h | h) <;> simp [h]
theorem Z0 (l : List (List Int)) : SW (srt l) := (z0c l [] .nil).1
theorem wb {l : List (List Int)} {x : List Int} : x ∈ srt l ↔ x ∈ l := by rw [srt, (z0c l [] .nil).2]; simp
theorem z7j {l m : List (List Int)} (h : SW m) (hm : ∀ x, x ∈ m ↔ x ∈ l) : m = srt l := h.unique (Z0 l) fun x => by rw [hm, wb]
theorem K9 {l : List (List Int)} (h : SW l) : srt l = l := (z7j h fun _ => .rfl).symm
theorem z3N (l : List (List Int)) (w : List Int) : srt (l ++ [w]) = Qm w (srt l) := by simp [srt]
theorem Jg (l : List (List Int)) : (srt l).length ≤ l.length := by
 have : ∀ (l m : List (List Int)), (l.foldl (fun m w => Qm w m) m).length ≤ m.length + l.length := by
  intro l
  induction l with
  | nil => intro m; simp
  | cons w l ih => intro m; have := ih (Qm w m); have := z12 w m; simp only [List.foldl_cons, List.length_cons]; omega
 have q := this l []
 simp only [List.length_nil, Nat.zero_add] at q
 exact q
end Go.Own
