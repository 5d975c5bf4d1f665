/- Walks, further. -/
import Derived.Test.YtcodjgfoodacaaaGreatDoorPartF
import Derived.Test.YtcodjgfoodacaaaGreatDoorPartC
import Derived.Test.YtcodjgfoodacaaaGreatDoorPartE
noncomputable section
set_option linter.unusedVariables false
set_option linter.unusedSimpArgs false
namespace Go.Own
open Go.Proofs
set_option maxRecDepth 100000
set_option maxHeartbeats 8000000
def w6 : Code := (Tryz.f37.body).getD .skip
def ZX : zS := spF (α := z6 × Int) (ρ := List (List Int) × Int) 37 (fun x => [yq x.1, (Vb 41 (eSp (eI .i64))) x.2]) (fun r => .tup [F7_ r.1, (eI .i64) r.2]) (fun x => vh x.1 x.2) [] (by
 rintro ⟨a0, a1⟩ ⟨b0, b1⟩ h
 have e0 := Zt.inj (f := yq) _ _ (List.cons.inj h).1
 replace h := (List.cons.inj h).2
 have e1 := Zt.inj (f := (Vb 41 (eSp (eI .i64)))) _ _ (List.cons.inj h).1
 subst e0 e1
 rfl)
abbrev We (m_ : z6) (x5 : Int) (out : List (List Int)) : List (Nat × T) := [(2, .own (.box (yq m_))), (4, .own (.box (eOs 1 true F3_ []))), (5, .own (.box (I x5))), (6, .own (.box (eOs 1 false F2_ out)))]
abbrev xV (m_ : z6) (is : Int) (r_1 : Int) (x51 : Int) (out1 : List (List Int)) : List (Nat × T) := [(2, .own (.box (yq m_))), (3, .own (.box (.fn 41 [.sptr (I is)]))), (4, .own (.box (eOs 1 true F3_ []))), (5, .own (.box (I x51))), (6, .own (.box (eOs 1 false F2_ out1))), (15, .d (.fn 80 [.sptr (I r_1)]))]
theorem Uu {ctr : Ctr} (hC : zx Tryz.prog ctr) (h05 : ctr.Has wV) (h0u : ctr.Has kM) (h0g : ctr.Has vp) (h08 : ctr.Has jP) : ZX.Ok Tryz.prog := by
 refine zB ?_
 rintro ⟨m_, is⟩ r0 hf0
 try unfold vh at hf0
 refine yO false [(4, some 32), (5, some 33)] w6 44 Tryz.func37 fun E hE => ?_
 refine yJ X0 hC w6 [1,1] [] [2,4,5,6] (fun z : Int × List (List Int) => ut m_ z.1 z.2 = some r0) (fun z => We m_ z.1 z.2) [(2, .own (.box (yq m_))), (3, .own (.box (.fn 41 [.sptr (I is)]))), (4, .own (.box (eOs 1 true F3_ []))), (5, .own (.box (I 0))), (6, .own (.box (eOs 1 true F3_ [])))] [Hh (.cut 2)] ?_ fun J1 hJ1 => ?_
 ·rintro ⟨x5, out⟩ hf0
  unfold ut at hf0
  obtain ⟨r_, h0, hf0⟩ := zg hf0
  obtain rfl := zb hf0
  exact yE X0 hC hE [Hg (Jx h08), Hm (shM F2_ F2_ out), Hs (Jy h08 (x := (out, m_.Inputs)) h0 (loC (eSl 1 false F2_) out <| loC (eI .i64) m_.Inputs <| loN)), Hm (shM F2_ F2_ out)]
 ·obtain ⟨r_1, h1, hf0⟩ := zg hf0
  obtain ⟨t2, ht2, hf0⟩ := zg hf0
  refine yAt X0 hC (sub [1,1,2,1,0] w6) (frs [1,1,2,1,0] [J1] w6 []) [(2, .own (.box (yq m_))), (3, .own (.box (.fn 41 [.sptr (I is)]))), (4, .own (.box (eOs 1 true F3_ []))), (5, .own (.box (I 0))), (6, .own (.box (eOs 1 true F2_ []))), (15, .d (.fn 80 [.sptr (I r_1)]))] [Ha (lnM uE m_.Rows), Hc h05 (x := ((m_.Rows.length : Nat) : Int)) h1 (loC (eI .i64) ((m_.Rows.length : Nat) : Int) <| loN)] fun st0 h0 => ?_
  refine VX (g := .tmp 15) (ps := [16,17]) (assign := (sub [1,1,2,1,0,0] w6)) (body := (sub [1,1,2,1,0,1] w6)) (K := 80) (caps := [.sptr (I r_1)]) (by kernel_rfl) [2,3,4,5,6,15] (fun s => xV m_ is r_1 s.1 s.2) (fun s => xV m_ is r_1 s.1 s.2) (fun s => Code.ret) ((fun (x : Int × Int) (_ : Bool) (_ : Value) => [(eI .i64) x.1, (eI .i64) x.2])) (F := @yP r_1) (fun s x => yK m_ is s.1 s.2 x.1 x.2) (0, ([] : List (List Int))) t2 _ h0 inferInstance (by kernel_rfl) (by decide) (fun _ => rfl) (fun _ => rfl) (by kernel_rfl) (fun _ _ _ => rfl) (jp hC r_1) ht2 ?_ ?_
  ·rintro tv2 ⟨x51, out1⟩ ⟨x16, x17⟩ vr lr1 hf1
   replace hf1 : yK m_ is x51 out1 x16 x17 = some lr1 := hf1
   unfold yK at hf1
   refine yF X0 hC .normal [(2, .own (.box (yq m_))), (3, .own (.box (.fn 41 [.sptr (I is)]))), (4, .own (.box (eOs 1 true F3_ []))), (5, .own (.box (I x51))), (6, .own (.box (eOs 1 false F2_ out1))), (7, .d (I x16)), (8, .d (I x17)), (15, .d (.fn 80 [.sptr (I r_1)]))] [] fun st0 h0 => ⟨rfl, z1l h0 ?_⟩
   obtain ⟨r_2, h2, hf1⟩ := zg hf1
   let Z0 : List HO := [Hc h0u (x := (x16, x17, is)) h2 (loC (eI .i64) x16 <| loC (eI .i64) x17 <| loC (eSp (eI .i64)) is <| loN)]
   rcases zO hf1 with ⟨c0, hf1⟩ | ⟨c0, hf1⟩
   ·obtain rfl := zb hf1
    exact yF X0 hC .normal (xV m_ is r_1 x51 out1) (Z0 ++ [Hq c0]) fun st0 h0 => ⟨rfl, _, h0, LeL.refl _⟩
   ·obtain ⟨r_3, h3, hf1⟩ := zg hf1
    let Z1 : List HO := (Z0 ++ [Hq c0, Hc h0g (x := (m_, x16, x17)) h3 (loC yq m_ <| loC (eI .i64) x16 <| loC (eI .i64) x17 <| loN)])
    rcases zO hf1 with ⟨c1, hf1⟩ | ⟨c1, hf1⟩
    ·obtain rfl := zb hf1
     exact yF X0 hC .ret (xV m_ is r_1 r_3.2.2 out1) (Z1 ++ [Hq c1]) fun st0 h0 => ⟨rfl, _, h0, LeL.refl _⟩
    ·obtain ⟨g0, hf1⟩ := gdE hf1
     obtain rfl := zb hf1
     exact yF X0 hC .normal (xV m_ is r_1 x51 (out1 ++ ([r_3.1] : List (List Int)))) (Z1 ++ [Hq c1, Hq (dM F2_ ([r_3.1] : List (List Int))), Hn (dM F2_ ([r_3.1] : List (List Int))), Hn (aL F2_ F2_ g0), Hl (aM F2_ out1 ([r_3.1] : List (List Int)))]) fun st0 h0 => ⟨rfl, _, h0, LeL.refl _⟩
  ·rcases t2 with ⟨x51, out1⟩ | z
   ·dsimp only at hf0
    exact Zb (by kernel_rfl) (hJ1 _ [(2, .own (.box (yq m_))), (4, .own (.box (eOs 1 true F3_ []))), (5, .own (.box (I x51))), (6, .own (.box (eOs 1 false F2_ out1)))] (x51, out1) hf0 (show Own.canon [2,4,5,6] _ = ofL _ by kernel_rfl) inferInstance)
   ·obtain ⟨x51, out1⟩ := z
    dsimp only at hf0
    show AWP _ _ (Code.ret) _ _
    obtain rfl := zb hf0
    exact yEx X0 hC hE [Hm (shM F3_ F3_ [])] (.tup [eSl 1 true F2_ [], I x51]) (show LeV (.tup [eSl 1 true F2_ [], I x51]) (.tup [eSl 1 true F2_ ([] : List (List Int)), I x51]) from inferInstance)
def z2w : Code := (Tryz.f13.body).getD .skip
def YK : zS := spF (α := z6 × Int) (ρ := List (List Int) × Int) 13 (fun x => [yq x.1, (eI .i64) x.2]) (fun r => .tup [F7_ r.1, (eI .i64) r.2]) (fun x => kX x.1 x.2) [] (Vt)
theorem z2F {ctr : Ctr} (hC : zx Tryz.prog ctr) (h0h : ctr.Has wU) (h05 : ctr.Has wV) (h0u : ctr.Has kM) (h0g : ctr.Has vp) (h08 : ctr.Has jP) : YK.Ok Tryz.prog := by
 refine zB ?_
 rintro ⟨m_, s_⟩ r0 hf0
 try unfold kX at hf0
 refine yO false [(4, none), (5, none)] z2w 26 Tryz.func13 fun E hE => ?_
 obtain ⟨r_, h0, hf0⟩ := zg hf0
 let Z0 : List HO := [Hc h0h (x := m_) h0 (loC yq m_ <| loN)]
 rcases zO hf0 with ⟨c0, hf0⟩ | ⟨c0, hf0⟩
 ·obtain rfl := zb hf0
  exact yEx X0 hC hE (Z0 ++ [Hq c0, Hm (shM F3_ F3_ [])]) (.tup [eSl 1 true F2_ [], I r_]) (show LeV (.tup [eSl 1 true F2_ [], I r_]) (.tup [eSl 1 true F2_ ([] : List (List Int)), I r_]) from inferInstance)
 ·rcases zO hf0 with ⟨c1, hf0⟩ | ⟨c1, hf0⟩
  ·obtain rfl := zb hf0
   exact yEx X0 hC hE (Z0 ++ (Hq c0 :: (rpN 6 (Hq c1) [qT, Hm (shM F3_ F3_ [])]))) (.tup [eSl 1 true F2_ [], I 1]) (show LeV (.tup [eSl 1 true F2_ [], I 1]) (.tup [eSl 1 true F2_ ([] : List (List Int)), I 1]) from inferInstance)
  ·let Z1 : List HO := (Z0 ++ (Hq c0 :: (rpN 4 (Hq c1) [Ha (lnM uE m_.Rows), Hq c1, Hq c1])))
   rcases zO hf0 with ⟨c2, hf0⟩ | ⟨c2, hf0⟩
   ·obtain rfl := zb hf0
    exact yEx X0 hC hE (Z1 ++ [Hq c2, Hm (shM F3_ F3_ [])]) (.tup [eSl 1 true F2_ [], I 1]) (show LeV (.tup [eSl 1 true F2_ [], I 1]) (.tup [eSl 1 true F2_ ([] : List (List Int)), I 1]) from inferInstance)
   ·obtain ⟨r_1, h1, hf0⟩ := zg hf0
    obtain rfl := zb hf0
    exact yE ((QX zu (Uu hC h05 h0u h0g h08) 23).or X0) hC hE (Z1 ++ [Hq c2, Hc (Ctr.add_has Vu ZX) (x := (m_, s_)) h1 (loC yq m_ <| loC (Vb 41 (eSp (eI .i64))) s_ <| loN)])
def Jk : Code := (Tryz.f43.body).getD .skip
def Zl : zS := spF (α := Unit) (ρ := z6) 43 (fun x => []) (fun r => z2A r) (fun x => XB) [] (fun _ _ _ => rfl)
theorem JJ {ctr : Ctr} (hC : zx Tryz.prog ctr) : Zl.Ok Tryz.prog := by
 refine zB ?_
 rintro ⟨⟩ r0 hf0
 try unfold XB at hf0
 refine yO false [(0, some 30)] Jk 12 Tryz.func43 fun E hE => ?_
 obtain rfl := zb hf0
 exact yE X0 hC hE [Hm (shM z1q z8w ([[(z8.mk 1 0), (z8.mk 0 0)], [(z8.mk 2 0), (z8.mk 1 1)], [(z8.mk 0 1), (z8.mk 2 0)]]))]
def z1i : Code := (Tryz.f44.body).getD .skip
def Xs : zS := spF (α := List (List Int)) (ρ := List (List Int)) 44 (fun x => [vL x]) (fun r => vL r) (fun x => kD x) [] (WA)
theorem z1w {ctr : Ctr} (hC : zx Tryz.prog ctr) : Xs.Ok Tryz.prog := by
 refine zB ?_
 rintro l_ r0 hf0
 try unfold kD at hf0
 refine yO true [(2, none)] z1i 4 Tryz.func44 fun E hE => ?_
 obtain rfl := zb hf0
 exact yE X0 hC hE []
def z1h : Code := (Tryz.f11.body).getD .skip
def Xr : zS := spF (α := List (List Int) × List (List Int)) (ρ := Bool) 11 (fun x => [F7_ x.1, vL x.2]) (fun r => eB r) (fun x => jH x.1 x.2) [] (Vt)
theorem z1v {ctr : Ctr} (hC : zx Tryz.prog ctr) (h0m : ctr.Has Zx) : Xr.Ok Tryz.prog := by
 refine zB ?_
 rintro ⟨a_, b_⟩ r0 hf0
 try unfold jH at hf0
 refine yO true [(4, none)] z1h 15 Tryz.func11 fun E hE => ?_
 obtain ⟨r_, h0, hf0⟩ := zg hf0
 let Z0 : List HO := [Hc h0m (x := (a_, b_)) h0 (loC F7_ a_ <| loC vL b_ <| loN)]
 rcases zO hf0 with ⟨c0, hf0⟩ | ⟨c0, hf0⟩
 ·obtain rfl := zb hf0
  exact yE X0 hC hE (Z0 ++ [Hq c0, Hq c0, Ha (lnM F2_ a_), Hq c0, Hq c0, Ha (lnM F2_ a_), Hq c0, Hq c0])
 ·obtain rfl := zb hf0
  exact yE X0 hC hE (Z0 ++ (rpN 6 (Hq c0) []))
def VV : Code := (Tryz.f22.body).getD .skip
def jC : zS := spF (α := z6 × List (List Int) × Int) (ρ := List (List Int) × Int) 22 (fun x => [yq x.1, vL x.2.1, (eI .i64) x.2.2]) (fun r => .tup [F7_ r.1, (eI .i64) r.2]) (fun x => Zp x.1 x.2.1 x.2.2) [] (z8W)
theorem Uy {ctr : Ctr} (hC : zx Tryz.prog ctr) (h0i : ctr.Has qz) (h06 : ctr.Has xX) : jC.Ok Tryz.prog := by
 refine zB ?_
 rintro ⟨m_, l_, s_⟩ r0 hf0
 try unfold Zp at hf0
 refine yO false [(6, none), (7, none)] VV 28 Tryz.func22 fun E hE => ?_
 obtain ⟨r_, h0, hf0⟩ := zg hf0
 let Z0 : List HO := [Hc h0i (x := (m_, l_)) h0 (loC yq m_ <| loC vL l_ <| loN)]
 rcases zO hf0 with ⟨c0, hf0⟩ | ⟨c0, hf0⟩
 ·obtain rfl := zb hf0
  exact yEx X0 hC hE (Z0 ++ [Hq c0, Hm (shM F3_ F3_ [])]) (.tup [eSl 1 true F2_ [], I r_]) (show LeV (.tup [eSl 1 true F2_ [], I r_]) (.tup [eSl 1 true F2_ ([] : List (List Int)), I r_]) from inferInstance)
 ·rcases zO hf0 with ⟨c1, hf0⟩ | ⟨c1, hf0⟩
  ·obtain rfl := zb hf0
   exact yEx X0 hC hE (Z0 ++ (Hq c0 :: (rpN 6 (Hq c1) [qT, Hm (shM F3_ F3_ [])]))) (.tup [eSl 1 true F2_ [], I 1]) (show LeV (.tup [eSl 1 true F2_ [], I 1]) (.tup [eSl 1 true F2_ ([] : List (List Int)), I 1]) from inferInstance)
  ·let Z1 : List HO := (Z0 ++ (Hq c0 :: (rpN 4 (Hq c1) [Ha (lnM uE m_.Rows), Hq c1, Hq c1])))
   rcases zO hf0 with ⟨c2, hf0⟩ | ⟨c2, hf0⟩
   ·obtain rfl := zb hf0
    exact yEx X0 hC hE (Z1 ++ [Hq c2, Hm (shM F3_ F3_ [])]) (.tup [eSl 1 true F2_ [], I 1]) (show LeV (.tup [eSl 1 true F2_ [], I 1]) (.tup [eSl 1 true F2_ ([] : List (List Int)), I 1]) from inferInstance)
   ·obtain ⟨r_1, h1, hf0⟩ := zg hf0
    obtain rfl := zb hf0
    exact yE X0 hC hE (Z1 ++ [Hq c2, Hc h06 (x := (m_, l_, s_)) h1 (loC yq m_ <| loC vL l_ <| loC (eI .i64) s_ <| loN), Hm (shM F2_ F2_ r_1)])
def Vv : Code := (Tryz.f16.body).getD .skip
def X3 : zS := spF (α := Unit) (ρ := Bool) 16 (fun x => []) (fun r => eB r) (fun x => XA) [] (fun _ _ _ => rfl)
theorem z0H {ctr : Ctr} (hC : zx Tryz.prog ctr) (h1s : ctr.Has Zl) (h03 : ctr.Has Xs) (h07 : ctr.Has jT) (h0j : ctr.Has YK) (h0n : ctr.Has jq) (h00 : ctr.Has Xr) (h0o : ctr.Has jS) (h1t : ctr.Has jC) (h0c : ctr.Has uY) (h04 : ctr.Has Zy) : X3.Ok Tryz.prog := by
 refine zB ?_
 rintro ⟨⟩ r0 hf0
 try unfold XA at hf0
 refine yO true [(0, none)] Vv 212 Tryz.func16 fun E hE => ?_
 obtain ⟨r_, h0, hf0⟩ := zg hf0
 obtain ⟨r_1, h1, hf0⟩ := zg hf0
 obtain ⟨r_2, h2, hf0⟩ := zg hf0
 obtain ⟨r_3, h3, hf0⟩ := zg hf0
 obtain ⟨r_4, h4, hf0⟩ := zg hf0
 obtain ⟨r_5, h5, hf0⟩ := zg hf0
 obtain ⟨r_6, h6, hf0⟩ := zg hf0
 let Z0 : List HO := [Hc h1s (x := ()) h0 (loN), Hg (Jx h03), Hm (shM F1_ F2_ ([[0], [1]])), Hs (Jy h03 (x := [[0], [1]]) h1 (loC F7_ ([[0], [1]] : List (List Int)) <| loN)), Hm (shM F1_ F2_ ([[0], [1]])), Hc h07 (x := r_) h2 (loC z2A r_ <| loN), Hc h0j (x := (r_, 0)) h3 (loC z2A r_ <| loC (eI .i64) 0 <| loN), Hc h0j (x := (r_, 1)) h4 (loC z2A r_ <| loC (eI .i64) 1 <| loN), Hc h0j (x := (r_, 2)) h5 (loC z2A r_ <| loC (eI .i64) 2 <| loN), Hc h0n (x := r_) h6 (loC z2A r_ <| loN)]
 rcases zO hf0 with ⟨c0, hf0⟩ | ⟨c0, hf0⟩
 ·obtain rfl := zb hf0
  exact yE X0 hC hE (Z0 ++ (Hq c0 :: Hq c0 :: Hq c0 :: (rpN 36 qT [])))
 ·rcases zO hf0 with ⟨c1, hf0⟩ | ⟨c1, hf0⟩
  ·obtain rfl := zb hf0
   exact yE X0 hC hE (Z0 ++ (Hq c0 :: Hq c0 :: Hq c0 :: Hq c1 :: Hq c1 :: Hq c1 :: (rpN 33 qT [])))
  ·let Z1 : List HO := (Z0 ++ [Hq c0, Hq c0, Hq c0, Hq c1, Hq c1, Hq c1])
   rcases zO hf0 with ⟨c2, hf0⟩ | ⟨c2, hf0⟩
   ·obtain rfl := zb hf0
    exact yE X0 hC hE (Z1 ++ (Hq c2 :: Hq c2 :: Hq c2 :: (rpN 30 qT [])))
   ·rcases zO hf0 with ⟨c3, hf0⟩ | ⟨c3, hf0⟩
    ·obtain rfl := zb hf0
     exact yE X0 hC hE (Z1 ++ (Hq c2 :: Hq c2 :: Hq c2 :: Hq c3 :: Hq c3 :: Hq c3 :: (rpN 27 qT [])))
    ·let Z2 : List HO := (Z1 ++ [Hq c2, Hq c2, Hq c2, Hq c3, Hq c3, Hq c3])
     rcases zO hf0 with ⟨c4, hf0⟩ | ⟨c4, hf0⟩
     ·obtain rfl := zb hf0
      exact yE X0 hC hE (Z2 ++ (rpN 5 (Hq c4) (rpN 22 qT [])))
     ·obtain ⟨r_7, h7, hf0⟩ := zg hf0
      let Z3 : List HO := (Z2 ++ [Hq c4, Hq c4, Hq c4, Hn (Zh (f := .fn 11 []) (xs := [F7_ r_2.1, vL r_1]) (ls := []) (r := B r_7) (ys := []) [F7_ r_2.1, vL r_1] (show Q4 [F7_ r_2.1, vL r_1] [F7_ r_2.1, vL r_1] from inferInstance)), Hq c4, Hq c4])
      rcases zO hf0 with ⟨c5, hf0⟩ | ⟨c5, hf0⟩
      ·obtain rfl := zb hf0
       exact yE ((uV (P := Tryz.prog) yD [] (lentCall (yN hC h00 (x := (r_2.1, r_1)) h7)) 73).or X0) hC hE (Z3 ++ (rpN 5 (Hq c5) (rpN 17 qT [])))
      ·obtain ⟨r_8, h8, hf0⟩ := zg hf0
       let Z4 : List HO := (Z3 ++ [Hq c5, Hq c5, Hq c5, Hn (Zh (f := .fn 11 []) (xs := [F7_ r_3.1, vL r_1]) (ls := []) (r := B r_8) (ys := []) [F7_ r_3.1, vL r_1] (show Q4 [F7_ r_3.1, vL r_1] [F7_ r_3.1, vL r_1] from inferInstance)), Hq c5, Hq c5])
       rcases zO hf0 with ⟨c6, hf0⟩ | ⟨c6, hf0⟩
       ·obtain rfl := zb hf0
        exact yE ((uV (P := Tryz.prog) yD [] (lentCall (yN hC h00 (x := (r_3.1, r_1)) h8)) 79).or ((uV (P := Tryz.prog) yD [] (lentCall (yN hC h00 (x := (r_2.1, r_1)) h7)) 73).or X0)) hC hE (Z4 ++ (rpN 5 (Hq c6) (rpN 12 qT [])))
       ·obtain ⟨r_9, h9, hf0⟩ := zg hf0
        let Z5 : List HO := (Z4 ++ [Hq c6, Hq c6, Hq c6, Hn (Zh (f := .fn 11 []) (xs := [F7_ r_4.1, vL r_1]) (ls := []) (r := B r_9) (ys := []) [F7_ r_4.1, vL r_1] (show Q4 [F7_ r_4.1, vL r_1] [F7_ r_4.1, vL r_1] from inferInstance)), Hq c6, Hq c6])
        rcases zO hf0 with ⟨c7, hf0⟩ | ⟨c7, hf0⟩
        ·obtain rfl := zb hf0
         exact yE ((uV (P := Tryz.prog) yD [] (lentCall (yN hC h00 (x := (r_4.1, r_1)) h9)) 85).or ((uV (P := Tryz.prog) yD [] (lentCall (yN hC h00 (x := (r_3.1, r_1)) h8)) 79).or ((uV (P := Tryz.prog) yD [] (lentCall (yN hC h00 (x := (r_2.1, r_1)) h7)) 73).or X0))) hC hE (Z5 ++ (rpN 6 (Hq c7) (rpN 6 qT [])))
        ·obtain ⟨g0, hf0⟩ := gdE hf0
         obtain ⟨r_10, h10, hf0⟩ := zg hf0
         let Z6 : List HO := (Z5 ++ [Hq c7, Hq c7, Hq c7, Hn (slB g0), Hn (z4Z F3_ g0), Ha (slM 1 false F3_ r_1 0 (1 : Int).toNat), Hq c7, Hn (Zh (f := .fn 11 []) (xs := [F7_ r_5.1, vL ((r_1.drop 0).take ((1 : Int).toNat - 0))]) (ls := []) (r := B r_10) (ys := []) [F7_ r_5.1, vL ((r_1.drop 0).take ((1 : Int).toNat - 0))] (show Q4 [F7_ r_5.1, vL ((r_1.drop 0).take ((1 : Int).toNat - 0))] [F7_ r_5.1, vL ((r_1.drop 0).take ((1 : Int).toNat - 0))] from inferInstance)), Hq c7, Hq c7])
         rcases zO hf0 with ⟨c8, hf0⟩ | ⟨c8, hf0⟩
         ·obtain rfl := zb hf0
          exact yE ((uV (P := Tryz.prog) yD [] (lentCall (yN hC h00 (x := (r_5.1, ((r_1.drop 0).take ((1 : Int).toNat - 0)))) h10)) 92).or ((uV (P := Tryz.prog) yD [] (lentCall (yN hC h00 (x := (r_4.1, r_1)) h9)) 85).or ((uV (P := Tryz.prog) yD [] (lentCall (yN hC h00 (x := (r_3.1, r_1)) h8)) 79).or ((uV (P := Tryz.prog) yD [] (lentCall (yN hC h00 (x := (r_2.1, r_1)) h7)) 73).or X0)))) hC hE (Z6 ++ (rpN 5 (Hq c8) [qT]))
         ·obtain ⟨r_11, h11, hf0⟩ := zg hf0
          let Z7 : List HO := (Z6 ++ [Hq c8, Hq c8, Hq c8, Hn (Zh (f := .fn 11 []) (xs := [F7_ r_6.1, vL r_1]) (ls := []) (r := B r_11) (ys := []) [F7_ r_6.1, vL r_1] (show Q4 [F7_ r_6.1, vL r_1] [F7_ r_6.1, vL r_1] from inferInstance)), Hq c8, Hq c8])
          rcases zO hf0 with ⟨c9, hf0⟩ | ⟨c9, hf0⟩
          ·obtain rfl := zb hf0
           exact yE ((uV (P := Tryz.prog) yD [] (lentCall (yN hC h00 (x := (r_6.1, r_1)) h11)) 98).or ((uV (P := Tryz.prog) yD [] (lentCall (yN hC h00 (x := (r_5.1, ((r_1.drop 0).take ((1 : Int).toNat - 0)))) h10)) 92).or ((uV (P := Tryz.prog) yD [] (lentCall (yN hC h00 (x := (r_4.1, r_1)) h9)) 85).or ((uV (P := Tryz.prog) yD [] (lentCall (yN hC h00 (x := (r_3.1, r_1)) h8)) 79).or ((uV (P := Tryz.prog) yD [] (lentCall (yN hC h00 (x := (r_2.1, r_1)) h7)) 73).or X0))))) hC hE (Z7 ++ [Hq c9])
          ·obtain ⟨g1, hf0⟩ := gdE hf0
           obtain ⟨r_12, h12, hf0⟩ := zg hf0
           obtain ⟨r_13, h13, hf0⟩ := zg hf0
           obtain ⟨r_14, h14, hf0⟩ := zg hf0
           obtain ⟨r_15, h15, hf0⟩ := zg hf0
           obtain ⟨r_16, h16, hf0⟩ := zg hf0
           obtain ⟨r_17, h17, hf0⟩ := zg hf0
           obtain ⟨g2, hf0⟩ := gdE hf0
           obtain ⟨r_18, h18, hf0⟩ := zg hf0
           obtain ⟨r_19, h19, hf0⟩ := zg hf0
           obtain ⟨g3, hf0⟩ := gdE hf0
           obtain ⟨r_20, h20, hf0⟩ := zg hf0
           obtain ⟨r_21, h21, hf0⟩ := zg hf0
           obtain ⟨g4, hf0⟩ := gdE hf0
           obtain ⟨r_22, h22, hf0⟩ := zg hf0
           refine yA ((uV (P := Tryz.prog) yD [] (lentCall (yN hC h00 (x := (r_6.1, r_1)) h11)) 98).or ((uV (P := Tryz.prog) yD [] (lentCall (yN hC h00 (x := (r_5.1, ((r_1.drop 0).take ((1 : Int).toNat - 0)))) h10)) 92).or ((uV (P := Tryz.prog) yD [] (lentCall (yN hC h00 (x := (r_4.1, r_1)) h9)) 85).or ((uV (P := Tryz.prog) yD [] (lentCall (yN hC h00 (x := (r_3.1, r_1)) h8)) 79).or ((uV (P := Tryz.prog) yD [] (lentCall (yN hC h00 (x := (r_2.1, r_1)) h7)) 73).or X0))))) hC Vv [1,1,1,1,1,1,1,1,1,1,1,1,1,1,1,1] [] [(2, .d (eSl 1 false F3_ r_1)), (4, .d (I r_12.2)), (6, .d (I r_14.2)), (8, .d (I r_15.2)), (10, .d (I r_17.2)), (12, .d (I r_19.2)), (13, .d (B r_12.1)), (14, .d (B r_14.1)), (15, .d (eSl 1 true F2_ r_15.1)), (16, .d (eSl 1 true (eI .i64) r_17.1)), (17, .d (eSl 1 true (eI .i64) r_19.1)), (18, .d (eSl 1 true (eI .i64) r_21.1)), (19, .d (I r_21.2)), (21, .d (I r_22.2))] (Z7 ++ [Hq c9, Hn (slB g1), Hn (z4Z F3_ g1), Ha (slM 1 false F3_ r_1 0 (1 : Int).toNat), Hc h0o (x := (r_, ((r_1.drop 0).take ((1 : Int).toNat - 0)))) h12 (loC z2A r_ <| loC vL ((r_1.drop 0).take ((1 : Int).toNat - 0)) <| loN), Hg (Jx h03), Hm (shM F1_ F2_ ([[0,0]])), Hs (Jy h03 (x := [[0,0]]) h13 (loC F7_ ([[0,0]] : List (List Int)) <| loN)), Hm (shM F1_ F2_ ([[0,0]])), Hc h0o (x := (r_, r_13)) h14 (loC z2A r_ <| loC vL r_13 <| loN), Hc h1t (x := (r_, r_1,1)) h15 (loC z2A r_ <| loC vL r_1 <| loC (eI .i64) 1 <| loN), Hg (Jx h03), Hm (shM F1_ F2_ ([[0], [0]])), Hs (Jy h03 (x := [[0], [0]]) h16 (loC F7_ ([[0], [0]] : List (List Int)) <| loN)), Hm (shM F1_ F2_ ([[0], [0]])), Hc h0c (x := (r_, r_1, r_16)) h17 (loC z2A r_ <| loC vL r_1 <| loC vL r_16 <| loN), Hn (slB g2), Hn (z4Z F3_ g2), Ha (slM 1 false F3_ r_1 0 (1 : Int).toNat), Hg (Jx h03), Hm (shM F1_ F2_ ([[0]])), Hs (Jy h03 (x := [[0]]) h18 (loC F7_ ([[0]] : List (List Int)) <| loN)), Hm (shM F1_ F2_ ([[0]])), Hc h0c (x := (r_, ((r_1.drop 0).take ((1 : Int).toNat - 0)), r_18)) h19 (loC z2A r_ <| loC vL ((r_1.drop 0).take ((1 : Int).toNat - 0)) <| loC vL r_18 <| loN), Hn (slB g3), Hn (z4Z F3_ g3), Ha (slM 1 false F3_ r_1 0 (1 : Int).toNat), Hg (Jx h03), Hm (shM F1_ F2_ ([[7]])), Hs (Jy h03 (x := [[7]]) h20 (loC F7_ ([[7]] : List (List Int)) <| loN)), Hm (shM F1_ F2_ ([[7]])), Hc h0c (x := (r_, ((r_1.drop 0).take ((1 : Int).toNat - 0)), r_20)) h21 (loC z2A r_ <| loC vL ((r_1.drop 0).take ((1 : Int).toNat - 0)) <| loC vL r_20 <| loN), Hn (slB g4), Hn (z4Z F3_ g4), Ha (slM 1 false F3_ r_1 0 (1 : Int).toNat), Hc h0c (x := (r_, ((r_1.drop 0).take ((1 : Int).toNat - 0)), [])) h22 (loC z2A r_ <| loC vL ((r_1.drop 0).take ((1 : Int).toNat - 0)) <| loC F9_ ([] : List (List Int)) <| loN), Hh (.cut 0)]) ?_
           rcases zO hf0 with ⟨c10, hf0⟩ | ⟨c10, hf0⟩
           ·rcases zO hf0 with ⟨c11, hf0⟩ | ⟨c11, hf0⟩
            ·let Z8 : List HO := [Hq c10, Hq c10, Hq c10, Hq c11, Hq c11, Hq c11]
             rcases zO hf0 with ⟨c12, hf0⟩ | ⟨c12, hf0⟩
             ·rcases zO hf0 with ⟨c13, hf0⟩ | ⟨c13, hf0⟩
              ·let Z9 : List HO := (Z8 ++ [Hq c12, Hq c12, Hq c12, Hq c13, Hq c13, Hq c13])
               rcases zO hf0 with ⟨c14, hf0⟩ | ⟨c14, hf0⟩
               ·rcases zO hf0 with ⟨c15, hf0⟩ | ⟨c15, hf0⟩
                ·let Z10 : List HO := (Z9 ++ [Hq c14, Hq c14, Hq c14, Hq c15, Hq c15, Hq c15])
                 rcases zO hf0 with ⟨c16, hf0⟩ | ⟨c16, hf0⟩
                 ·rcases zO hf0 with ⟨c17, hf0⟩ | ⟨c17, hf0⟩
                  ·obtain ⟨r_23, h23, hf0⟩ := zg hf0
                   let Z11 : List HO := (Z10 ++ [Hq c16, Hq c16, Hq c17, Hq c17, Hq c17, Hn (Zh (f := .fn 11 []) (xs := [F7_ r_15.1, vL r_1]) (ls := []) (r := B r_23) (ys := []) [F7_ r_15.1, vL r_1] (show Q4 [F7_ r_15.1, vL r_1] [F7_ r_15.1, vL r_1] from inferInstance)), Hq c17])
                   rcases zO hf0 with ⟨c18, hf0⟩ | ⟨c18, hf0⟩
                   ·obtain ⟨r_24, h24, hf0⟩ := zg hf0
                    let Z12 : List HO := (Z11 ++ [Hq c18, Hq c18, Hq c18, Hm (shM (eI .i64) (eI .i64) ([0])), Hn (Zh (f := .fn 26 []) (xs := [F2_ r_17.1, F3_ ([0] : List Int)]) (ls := []) (r := B r_24) (ys := []) [F2_ r_17.1, F2_ ([0] : List Int)] (show Q4 [F2_ r_17.1, F2_ ([0] : List Int)] [F2_ r_17.1, F3_ ([0] : List Int)] from inferInstance)), Hq c18])
                    rcases zO hf0 with ⟨c19, hf0⟩ | ⟨c19, hf0⟩
                    ·obtain ⟨r_25, h25, hf0⟩ := zg hf0
                     let Z13 : List HO := (Z12 ++ [Hq c19, Hq c19, Hq c19, Hm (shM (eI .i64) (eI .i64) ([0,1])), Hn (Zh (f := .fn 26 []) (xs := [F2_ r_19.1, F3_ ([0,1] : List Int)]) (ls := []) (r := B r_25) (ys := []) [F2_ r_19.1, F2_ ([0,1] : List Int)] (show Q4 [F2_ r_19.1, F2_ ([0,1] : List Int)] [F2_ r_19.1, F3_ ([0,1] : List Int)] from inferInstance)), Hq c19])
                     rcases zO hf0 with ⟨c20, hf0⟩ | ⟨c20, hf0⟩
                     ·let Z14 : List HO := (Z13 ++ [Hq c20, Hq c20, Ha (lnM (eI .i64) r_21.1), Hq c20, Hq c20])
                      rcases zO hf0 with ⟨c21, hf0⟩ | ⟨c21, hf0⟩
                      ·obtain rfl := zb hf0
                       exact yE ((uV (P := Tryz.prog) yD [] (lentCall (yN hC h04 (x := (r_19.1, ([0,1] : List Int))) h25)) 201).or ((uV (P := Tryz.prog) yD [] (lentCall (yN hC h04 (x := (r_17.1, ([0] : List Int))) h24)) 196).or ((uV (P := Tryz.prog) yD [] (lentCall (yN hC h00 (x := (r_15.1, r_1)) h23)) 191).or X0))) hC hE (Z14 ++ [Hq c21, Hq c21, Hq c21])
                      ·obtain rfl := zb hf0
                       exact yE ((uV (P := Tryz.prog) yD [] (lentCall (yN hC h04 (x := (r_19.1, ([0,1] : List Int))) h25)) 201).or ((uV (P := Tryz.prog) yD [] (lentCall (yN hC h04 (x := (r_17.1, ([0] : List Int))) h24)) 196).or ((uV (P := Tryz.prog) yD [] (lentCall (yN hC h00 (x := (r_15.1, r_1)) h23)) 191).or X0))) hC hE (Z14 ++ [Hq c21, Hq c21, Hq c21])
                     ·obtain rfl := zb hf0
                      exact yE ((uV (P := Tryz.prog) yD [] (lentCall (yN hC h04 (x := (r_19.1, ([0,1] : List Int))) h25)) 201).or ((uV (P := Tryz.prog) yD [] (lentCall (yN hC h04 (x := (r_17.1, ([0] : List Int))) h24)) 196).or ((uV (P := Tryz.prog) yD [] (lentCall (yN hC h00 (x := (r_15.1, r_1)) h23)) 191).or X0))) hC hE (Z13 ++ (rpN 4 (Hq c20) [qF, qF, qF]))
                    ·obtain rfl := zb hf0
                     exact yE ((uV (P := Tryz.prog) yD [] (lentCall (yN hC h04 (x := (r_17.1, ([0] : List Int))) h24)) 196).or ((uV (P := Tryz.prog) yD [] (lentCall (yN hC h00 (x := (r_15.1, r_1)) h23)) 191).or X0)) hC hE (Z12 ++ (rpN 4 (Hq c19) (rpN 7 qF [])))
                   ·obtain rfl := zb hf0
                    exact yE ((uV (P := Tryz.prog) yD [] (lentCall (yN hC h00 (x := (r_15.1, r_1)) h23)) 191).or X0) hC hE (Z11 ++ (rpN 4 (Hq c18) (rpN 11 qF [])))
                  ·obtain rfl := zb hf0
                   exact yE X0 hC hE (Z10 ++ (Hq c16 :: Hq c16 :: (rpN 4 (Hq c17) (rpN 15 qF []))))
                 ·obtain rfl := zb hf0
                  exact yE X0 hC hE (Z10 ++ (Hq c16 :: Hq c16 :: (rpN 19 qF [])))
                ·obtain rfl := zb hf0
                 exact yE X0 hC hE (Z9 ++ (Hq c14 :: Hq c14 :: Hq c14 :: Hq c15 :: Hq c15 :: Hq c15 :: (rpN 21 qF [])))
               ·obtain rfl := zb hf0
                exact yE X0 hC hE (Z9 ++ (Hq c14 :: Hq c14 :: Hq c14 :: (rpN 24 qF [])))
              ·obtain rfl := zb hf0
               exact yE X0 hC hE (Z8 ++ (Hq c12 :: Hq c12 :: Hq c12 :: Hq c13 :: Hq c13 :: Hq c13 :: (rpN 27 qF [])))
             ·obtain rfl := zb hf0
              exact yE X0 hC hE (Z8 ++ (Hq c12 :: Hq c12 :: Hq c12 :: (rpN 30 qF [])))
            ·obtain rfl := zb hf0
             exact yE X0 hC hE (Hq c10 :: Hq c10 :: Hq c10 :: Hq c11 :: Hq c11 :: Hq c11 :: (rpN 33 qF []))
           ·obtain rfl := zb hf0
            exact yE X0 hC hE (Hq c10 :: Hq c10 :: Hq c10 :: (rpN 36 qF []))
def xg : Code := (Tryz.f7.body).getD .skip
def ji : zS := spF (α := Unit) (ρ := Bool) 7 (fun x => []) (fun r => eB r) (fun x => qY) [] (fun _ _ _ => rfl)
abbrev XT : List (Nat × T) := []
abbrev XS (n_ : Int) (x123 : List (List Int)) (x124 : Int) (x127 : Bool) (x130 : List (List Int)) (x131 : List Int) (x132 : List Int) (x133 : Int) (x134 : Bool) (x137 : List (List Int)) (x140 : List Int) (x141 : List Int) (x142 : Int) (x145 : Bool) (x148 : Int) (x149 : Bool) (x152 : List (List Int)) (x153 : Int) (x156 : Bool) : List (Nat × T) := [(10, .d (I n_)), (123, .d (eSl 1 true F2_ x123)), (124, .d (I x124)), (125, .d (I n_)), (126, .d (I (w64 (n_ - 1)))), (127, .d (B x127)), (130, .d (eSl 1 true F2_ x130)), (131, .d (.sptr (eSl 1 true (eI .i64) x131))), (132, .d (eSl 1 true (eI .i64) x132)), (133, .d (I x133)), (134, .d (B x134)), (137, .d (eSl 1 true F2_ x137)), (138, .d (I n_)), (139, .d (I (w64 (n_ - 2)))), (140, .d (.sptr (eSl 1 true (eI .i64) x140))), (141, .d (eSl 1 true (eI .i64) x141)), (142, .d (I x142)), (143, .d (I n_)), (144, .d (I (w64 (n_ - 1)))), (145, .d (B x145)), (148, .d (I x148)), (149, .d (B x149)), (152, .d (eSl 1 true F2_ x152)), (153, .d (I x153)), (154, .d (I n_)), (155, .d (I (w64 (n_ - 1)))), (156, .d (B x156))]
abbrev XR (n_ : Int) (m_Rows : List (List z8)) : List (Nat × T) := [(10, .d (I n_)), (11, .own (.box (.agg [I 1, I 2, eOs 1 false z1q m_Rows])))]
abbrev XP (n_ : Int) (m_Rows1 : List (List z8)) (s_ : Int) : List (Nat × T) := [(10, .d (I n_)), (11, .own (.box (.agg [I 1, I 2, eOs 1 false z1q m_Rows1]))), (12, .d (I s_))]
abbrev XQ (n_ : Int) : List (Nat × T) := [(10, .d (I n_))]
theorem VB {ctr : Ctr} (hC : zx Tryz.prog ctr) (h07 : ctr.Has jT) (h0n : ctr.Has jq) (h0o : ctr.Has jS) (h0c : ctr.Has uY) (h04 : ctr.Has Zy) (h0j : ctr.Has YK) (h1u : ctr.Has X3) : ji.Ok Tryz.prog := by
 refine zB ?_
 rintro ⟨⟩ r0 hf0
 try unfold qY at hf0
 refine yO true [(0, none)] xg 179 Tryz.func7 fun E hE => ?_
 obtain ⟨r_, h0, hf0⟩ := zg hf0
 obtain ⟨r_1, h1, hf0⟩ := zg hf0
 obtain ⟨r_2, h2, hf0⟩ := zg hf0
 obtain ⟨r_3, h3, hf0⟩ := zg hf0
 let Z0 : List HO := [Hg (Jx h07), Hm (shM z1q z8w ([[(z8.mk 0 0), (z8.mk 0 0)]])), Hs (Jy h07 (x := (z6.mk 2 1 ([[(z8.mk 0 0), (z8.mk 0 0)]]))) h0 (loC z2A (z6.mk 2 1 ([[(z8.mk 0 0), (z8.mk 0 0)]])) <| loN)), Hm (shM z1q z8w ([[(z8.mk 0 0), (z8.mk 0 0)]])), Hc h0n (x := (z6.mk 2 1 ([[(z8.mk 0 0), (z8.mk 0 0)]]))) h1 (loC z2A (z6.mk 2 1 ([[(z8.mk 0 0), (z8.mk 0 0)]])) <| loN), Hc h0o (x := ((z6.mk 2 1 ([[(z8.mk 0 0), (z8.mk 0 0)]])), [])) h2 (loC z2A (z6.mk 2 1 ([[(z8.mk 0 0), (z8.mk 0 0)]])) <| loC F9_ ([] : List (List Int)) <| loN), Hc h0c (x := ((z6.mk 2 1 ([[(z8.mk 0 0), (z8.mk 0 0)]])), [], [])) h3 (loC z2A (z6.mk 2 1 ([[(z8.mk 0 0), (z8.mk 0 0)]])) <| loC F9_ ([] : List (List Int)) <| loC F9_ ([] : List (List Int)) <| loN)]
 rcases zO hf0 with ⟨c0, hf0⟩ | ⟨c0, hf0⟩
 ·obtain rfl := zb hf0
  exact yE X0 hC hE (Z0 ++ (Hq c0 :: Hq c0 :: Hq c0 :: (rpN 22 qT [])))
 ·rcases zO hf0 with ⟨c1, hf0⟩ | ⟨c1, hf0⟩
  ·obtain rfl := zb hf0
   exact yE X0 hC hE (Z0 ++ (Hq c0 :: Hq c0 :: Hq c0 :: Hq c1 :: Hq c1 :: Hq c1 :: (rpN 19 qT [])))
  ·let Z1 : List HO := (Z0 ++ [Hq c0, Hq c0, Hq c0, Hq c1, Hq c1, Hq c1])
   rcases zO hf0 with ⟨c2, hf0⟩ | ⟨c2, hf0⟩
   ·obtain rfl := zb hf0
    exact yE X0 hC hE (Z1 ++ (Hq c2 :: Hq c2 :: Hq c2 :: (rpN 16 qT [])))
   ·rcases zO hf0 with ⟨c3, hf0⟩ | ⟨c3, hf0⟩
    ·obtain rfl := zb hf0
     exact yE X0 hC hE (Z1 ++ (Hq c2 :: Hq c2 :: Hq c2 :: (rpN 7 (Hq c3) (rpN 9 qT []))))
    ·let Z2 : List HO := (Z1 ++ [Hq c2, Hq c2, Hq c2, Hq c3, Hq c3, Ha (lnM F2_ r_.1), Hq c3, Hq c3, Ha (lnM F2_ r_1.1), Hq c3, Hq c3, Hq c3])
     rcases zO hf0 with ⟨c4, hf0⟩ | ⟨c4, hf0⟩
     ·obtain rfl := zb hf0
      exact yE X0 hC hE (Z2 ++ (Hq c4 :: Hq c4 :: Hq c4 :: (rpN 6 qT [])))
     ·rcases zO hf0 with ⟨c5, hf0⟩ | ⟨c5, hf0⟩
      ·obtain rfl := zb hf0
       exact yE X0 hC hE (Z2 ++ (Hq c4 :: Hq c4 :: Hq c4 :: (rpN 5 (Hq c5) [qT])))
      ·obtain ⟨r_4, h4, hf0⟩ := zg hf0
       let Z3 : List HO := (Z2 ++ [Hq c4, Hq c4, Hq c4, Hq c5, Hq c5, Hq c5, Hm (shM (eI .i64) (eI .i64) ([0])), Hn (Zh (f := .fn 26 []) (xs := [F2_ r_3.1, F3_ ([0] : List Int)]) (ls := []) (r := B r_4) (ys := []) [F2_ r_3.1, F2_ ([0] : List Int)] (show Q4 [F2_ r_3.1, F2_ ([0] : List Int)] [F2_ r_3.1, F3_ ([0] : List Int)] from inferInstance)), Hq c5, Hq c5])
       rcases zO hf0 with ⟨c6, hf0⟩ | ⟨c6, hf0⟩
       ·obtain rfl := zb hf0
        exact yE ((uV (P := Tryz.prog) yD [] (lentCall (yN hC h04 (x := (r_3.1, ([0] : List Int))) h4)) 73).or X0) hC hE (Z3 ++ [Hq c6])
       ·refine yJ ((uV (P := Tryz.prog) yD [] (lentCall (yN hC h04 (x := (r_3.1, ([0] : List Int))) h4)) 73).or X0) hC xg [1,1,1,1,1,1,1] [] [] (fun z : Unit => vO = some r0) (fun z => XT) [] (Z3 ++ [Hq c6, Hh (.cut 0)]) ?_ fun J1 hJ1 => ?_
        ·rintro ⟨⟩ hf0
         unfold vO at hf0
         obtain ⟨r_5, h5, hf0⟩ := zg hf0
         obtain rfl := zb hf0
         exact yE X0 hC hE [Hc h1u (x := ()) h5 (loN)]
        ·obtain ⟨t2, ht2, hf0⟩ := zg hf0
         refine yL X0 hC xg [1,1,1,1,1,1,1,2,1,0] [J1] (fun s => zX s) (fun x => XQ x) 2 ht2  [] ?_
         rintro n_ m2 lr1 hf1 hl1 J2 hJ2
         try unfold zX at hf1
         rcases zO hf1 with ⟨c7, hf1⟩ | ⟨c7, hf1⟩
         ·refine yJ X0 hC xg [1,1,1,1,1,1,1,2,1,0,0,1] [J1, J2] [10,123,124,125,126,127,130,131,132,133,134,137,138,139,140,141,142,143,144,145,148,149,152,153,154,155,156] (fun z : List (List Int) × Int × Bool × List (List Int) × List Int × List Int × Int × Bool × List (List Int) × List Int × List Int × Int × Bool × Int × Bool × List (List Int) × Int × Bool => xO n_ z.1 z.2.1 z.2.2.1 z.2.2.2.1 z.2.2.2.2.1 z.2.2.2.2.2.1 z.2.2.2.2.2.2.1 z.2.2.2.2.2.2.2.1 z.2.2.2.2.2.2.2.2.1 z.2.2.2.2.2.2.2.2.2.1 z.2.2.2.2.2.2.2.2.2.2.1 z.2.2.2.2.2.2.2.2.2.2.2.1 z.2.2.2.2.2.2.2.2.2.2.2.2.1 z.2.2.2.2.2.2.2.2.2.2.2.2.2.1 z.2.2.2.2.2.2.2.2.2.2.2.2.2.2.1 z.2.2.2.2.2.2.2.2.2.2.2.2.2.2.2.1 z.2.2.2.2.2.2.2.2.2.2.2.2.2.2.2.2.1 z.2.2.2.2.2.2.2.2.2.2.2.2.2.2.2.2.2 = some lr1) (fun z => XS n_ z.1 z.2.1 z.2.2.1 z.2.2.2.1 z.2.2.2.2.1 z.2.2.2.2.2.1 z.2.2.2.2.2.2.1 z.2.2.2.2.2.2.2.1 z.2.2.2.2.2.2.2.2.1 z.2.2.2.2.2.2.2.2.2.1 z.2.2.2.2.2.2.2.2.2.2.1 z.2.2.2.2.2.2.2.2.2.2.2.1 z.2.2.2.2.2.2.2.2.2.2.2.2.1 z.2.2.2.2.2.2.2.2.2.2.2.2.2.1 z.2.2.2.2.2.2.2.2.2.2.2.2.2.2.1 z.2.2.2.2.2.2.2.2.2.2.2.2.2.2.2.1 z.2.2.2.2.2.2.2.2.2.2.2.2.2.2.2.2.1 z.2.2.2.2.2.2.2.2.2.2.2.2.2.2.2.2.2) [(10, .d (I n_))] [Hq c7, Hh (.cut 0)] ?_ fun J3 hJ3 => ?_
          ·rintro ⟨x123, x124, x127, x130, x131, x132, x133, x134, x137, x140, x141, x142, x145, x148, x149, x152, x153, x156⟩ hf1
           unfold xO at hf1
           obtain rfl := zb hf1
           exact yB X0 hC hJ2 (w64 (n_ + 1)) hl1 []
          ·refine yJ X0 hC xg [1,1,1,1,1,1,1,2,1,0,0,1,2,0,1] [J1, J2, J3] [10,11] (fun z : List (List z8) => wD n_ z = some lr1) (fun z => XR n_ z) [(10, .d (I n_)), (11, .own (.box (.agg [I 1, I 2, eOs 1 true uE []])))] [Hh (.cut 1)] ?_ fun J4 hJ4 => ?_
           ·rintro m_Rows hf1
            unfold wD at hf1
            obtain ⟨m_Row_e, h6, hf1⟩ := zg hf1
            obtain ⟨m_Row_e_e, h7, hf1⟩ := zg hf1
            obtain ⟨r_6, h8, hf1⟩ := zg hf1
            obtain ⟨r_7, h9, hf1⟩ := zg hf1
            obtain ⟨r_8, h10, hf1⟩ := zg hf1
            refine yA X0 hC xg [1,1,1,1,1,1,1,2,1,0,0,1,2,0,1,1,1,1,1,1,0] [J1, J2, J3] [(10, .d (I n_)), (13, .d (eSl 1 true F2_ r_6.1)), (14, .d (I r_6.2)), (15, .d (eSl 1 true F2_ r_7.1)), (16, .d (I r_7.2)), (17, .d (eSl 1 true F2_ r_8.1)), (18, .d (I r_8.2))] [Hn (iL z1q h6), Hs (iM z1q h6), Hs (iM z1q h6), Hn (iL F6_ h7), Hs (iM z1q h6), Hs (iM F6_ h7), Hs (iM z1q h6), Hs (iM F6_ h7), Hs (iM z1q h6), Hs (iM F6_ h7), Hl (sM F6_ m_Row_e 0 (z8.mk m_Row_e_e.To 1)), Hl (sM z1q m_Rows (w64 (n_ - 1)) (m_Row_e.set (0 : Int).toNat (z8.mk m_Row_e_e.To 1))), Hg (Jx h07), Hm (shM z1q z8w (m_Rows.set (w64 (n_ - 1)).toNat (m_Row_e.set (0 : Int).toNat (z8.mk m_Row_e_e.To 1)))), Hs (Jy h07 (x := (z6.mk 1 2 (m_Rows.set (w64 (n_ - 1)).toNat (m_Row_e.set (0 : Int).toNat (z8.mk m_Row_e_e.To 1))))) h8 (loC (wa (eI .i64) (eI .i64) (eSl 1 false z8w)) (z6.mk 1 2 (m_Rows.set (w64 (n_ - 1)).toNat (m_Row_e.set (0 : Int).toNat (z8.mk m_Row_e_e.To 1)))) <| loN)), Hm (shM z1q z8w (m_Rows.set (w64 (n_ - 1)).toNat (m_Row_e.set (0 : Int).toNat (z8.mk m_Row_e_e.To 1)))), Hc h0n (x := (z6.mk 1 2 (m_Rows.set (w64 (n_ - 1)).toNat (m_Row_e.set (0 : Int).toNat (z8.mk m_Row_e_e.To 1))))) h9 (loC (wa (eI .i64) (eI .i64) (eSl 1 false z8w)) (z6.mk 1 2 (m_Rows.set (w64 (n_ - 1)).toNat (m_Row_e.set (0 : Int).toNat (z8.mk m_Row_e_e.To 1)))) <| loN), Hc h0j (x := ((z6.mk 1 2 (m_Rows.set (w64 (n_ - 1)).toNat (m_Row_e.set (0 : Int).toNat (z8.mk m_Row_e_e.To 1)))), 0)) h10 (loC (wa (eI .i64) (eI .i64) (eSl 1 false z8w)) (z6.mk 1 2 (m_Rows.set (w64 (n_ - 1)).toNat (m_Row_e.set (0 : Int).toNat (z8.mk m_Row_e_e.To 1)))) <| loC (eI .i64) 0 <| loN), Hh (.cut 1)] ?_
            rcases zO hf1 with ⟨c8, hf1⟩ | ⟨c8, hf1⟩
            ·obtain rfl := zb hf1
             obtain rfl := hl1
             obtain rfl := zb hf0
             exact yE X0 hC hE (rpN 6 (Hq c8) (rpN 26 qT []))
            ·let Z4 : List HO := (Hq c8 :: Hq c8 :: Ha (lnM F2_ r_6.1) :: (rpN 4 (Hq c8) []))
             rcases zO hf1 with ⟨c9, hf1⟩ | ⟨c9, hf1⟩
             ·obtain rfl := zb hf1
              obtain rfl := hl1
              obtain rfl := zb hf0
              exact yE X0 hC hE (Z4 ++ (rpN 6 (Hq c9) (rpN 20 qT [])))
             ·obtain ⟨u_, h11, hf1⟩ := zg hf1
              let Z5 : List HO := (Z4 ++ [Hq c9, Hq c9, Hi F2_ h11, Hq c9, Hq c9, Ha (lnM (eI .i64) u_), Hq c9, Hq c9])
              rcases zO hf1 with ⟨c10, hf1⟩ | ⟨c10, hf1⟩
              ·obtain rfl := zb hf1
               obtain rfl := hl1
               obtain rfl := zb hf0
               exact yE X0 hC hE (Z5 ++ (rpN 10 (Hq c10) (rpN 10 qT [])))
              ·obtain ⟨u_1, h12, hf1⟩ := zg hf1
               let Z6 : List HO := (Z5 ++ (rpN 4 (Hq c10) (Hi F2_ h12 :: Hq c10 :: Hq c10 :: Ha (lnM (eI .i64) u_1) :: (rpN 4 (Hq c10) []))))
               rcases zO hf1 with ⟨c11, hf1⟩ | ⟨c11, hf1⟩
               ·obtain rfl := zb hf1
                obtain rfl := hl1
                obtain rfl := zb hf0
                exact yE X0 hC hE (Z6 ++ (Hq c11 :: Hq c11 :: Hq c11 :: (rpN 7 qT [])))
               ·rcases zO hf1 with ⟨c12, hf1⟩ | ⟨c12, hf1⟩
                ·obtain rfl := zb hf1
                 obtain rfl := hl1
                 obtain rfl := zb hf0
                 exact yE X0 hC hE (Z6 ++ (Hq c11 :: Hq c11 :: Hq c11 :: (rpN 6 (Hq c12) [qT])))
                ·let Z7 : List HO := (Z6 ++ (Hq c11 :: Hq c11 :: Hq c11 :: Hq c12 :: Hq c12 :: Ha (lnM F2_ r_8.1) :: (rpN 4 (Hq c12) [])))
                 rcases zO hf1 with ⟨c13, hf1⟩ | ⟨c13, hf1⟩
                 ·obtain rfl := zb hf1
                  obtain rfl := hl1
                  obtain rfl := zb hf0
                  exact yE X0 hC hE (Z7 ++ [Hq c13])
                 ·rcases zO hf1 with ⟨c14, hf1⟩ | ⟨c14, hf1⟩
                  ·rcases zO hf1 with ⟨c15, hf1⟩ | ⟨c15, hf1⟩
                   ·obtain rfl := zb hf1
                    obtain rfl := hl1
                    obtain rfl := zb hf0
                    exact yE X0 hC hE (Z7 ++ [Hq c13, Hq c14, Hq c15])
                   ·exact yB X0 hC hJ3 (r_6.1, ((r_6.1.length : Nat) : Int), ((r_6.1.length : Nat) : Int) != (w64 (n_ - 1)), r_6.1, u_, u_, ((u_.length : Nat) : Int), ((u_.length : Nat) : Int) != 1, r_6.1, u_1, u_1, ((u_1.length : Nat) : Int), ((u_1.length : Nat) : Int) != (w64 (n_ - 1)), r_8.2, r_8.2 != 0, r_8.1, ((r_8.1.length : Nat) : Int), ((r_8.1.length : Nat) : Int) != (w64 (n_ - 1))) hf1 (Z7 ++ [Hq c13, Hq c14, Hq c15])
                  ·rcases zO hf1 with ⟨c16, hf1⟩ | ⟨c16, hf1⟩
                   ·obtain rfl := zb hf1
                    obtain rfl := hl1
                    obtain rfl := zb hf0
                    exact yE X0 hC hE (Z7 ++ (Hq c13 :: Hq c14 :: (rpN 4 (Hq c16) (rpN 9 qT []))))
                   ·let Z8 : List HO := (Z7 ++ [Hq c13, Hq c14, Hq c16, Hq c16, Ha (lnM F2_ r_7.1), Hq c16, Hq c16])
                    rcases zO hf1 with ⟨c17, hf1⟩ | ⟨c17, hf1⟩
                    ·obtain rfl := zb hf1
                     obtain rfl := hl1
                     obtain rfl := zb hf0
                     exact yE X0 hC hE (Z8 ++ (rpN 8 (Hq c17) [qT]))
                    ·obtain ⟨u_2, h13, hf1⟩ := zg hf1
                     let Z9 : List HO := (Z8 ++ (Hq c17 :: Hq c17 :: Hi F2_ h13 :: Hq c17 :: Hq c17 :: Ha (lnM (eI .i64) u_2) :: (rpN 4 (Hq c17) [])))
                     rcases zO hf1 with ⟨c18, hf1⟩ | ⟨c18, hf1⟩
                     ·obtain rfl := zb hf1
                      obtain rfl := hl1
                      obtain rfl := zb hf0
                      exact yE X0 hC hE (Z9 ++ [Hq c18])
                     ·exact yB X0 hC hJ3 (r_6.1, ((r_6.1.length : Nat) : Int), ((r_6.1.length : Nat) : Int) != (w64 (n_ - 1)), r_6.1, u_, u_, ((u_.length : Nat) : Int), ((u_.length : Nat) : Int) != 1, r_6.1, u_1, u_1, ((u_1.length : Nat) : Int), ((u_1.length : Nat) : Int) != (w64 (n_ - 1)), r_8.2, r_8.2 != 0, r_8.1, ((r_8.1.length : Nat) : Int), ((r_8.1.length : Nat) : Int) != (w64 (n_ - 1))) hf1 (Z9 ++ [Hq c18])
           ·obtain ⟨t5, ht5, hf1⟩ := zg hf1
            refine yLx X0 hC xg [1,1,1,1,1,1,1,2,1,0,0,1,2,0,1,2,1,0] [J1, J2, J3, J4] (fun s => y8 n_ s.1 s.2) (fun x => XP n_ x.1 x.2) (([] : List (List z8)), 0) ht5 [(10, .d (I n_)), (11, .own (.box (.agg [I 1, I 2, eOs 1 true z1q []]))), (12, .d (I 0))] inferInstance [] ?_
            rintro ⟨m_Rows1, s_⟩ m5 lr2 hf2 hl2 J5 hJ5
            try unfold y8 at hf2
            rcases zO hf2 with ⟨c19, hf2⟩ | ⟨c19, hf2⟩
            ·obtain ⟨g0, hf2⟩ := gdE hf2
             obtain ⟨g1, hf2⟩ := gdE hf2
             obtain rfl := zb hf2
             exact yB X0 hC hJ5 ((m_Rows1 ++ ([[(z8.mk (Int.tmod (w64 (s_ + 1)) n_) 0)]] : List (List z8))), w64 (s_ + 1)) hl2 [Hq c19, Hn g0, Hq (oC z1q ([(z8.mk (Int.tmod (w64 (s_ + 1)) n_) 0)]) []), Hn (aL z1q z1q g1), Hl (aM z1q m_Rows1 ([[(z8.mk (Int.tmod (w64 (s_ + 1)) n_) 0)]] : List (List z8)))]
            ·obtain rfl := zb hf2
             obtain rfl := hl2
             exact yB X0 hC hJ4 m_Rows1 hf1 [Hq c19]
         ·obtain rfl := zb hf1
          obtain rfl := hl1
          exact yB X0 hC hJ1 () hf0 [Hq c7]
theorem yc {l : List zS} {s : zS} (h : ((l.map zS.k).contains s.k) = false) : ∀ t ∈ l, t.k ≠ s.k := by
 intro t ht e
 have : (l.map zS.k).contains s.k = true := by
  rw [List.contains_iff_mem, ← e]
  exact List.mem_map_of_mem ht
 rw [h] at this
 cases this
theorem zr {l : List zS} {c : Ctr} (H : ∀ t ∈ l, c.Has t) (i : Nat) {s : zS} (h : l[i]? = some s) : c.Has s := H _ (List.mem_of_getElem? h)
def L0 : List zS := uJ :: []
def L1 : List zS := Zk :: L0
def L2 : List zS := jA :: L1
def L3 : List zS := yZ :: L2
def L4 : List zS := yu :: L3
def L5 : List zS := xz :: L4
def L6 : List zS := jR :: L5
def L7 : List zS := kA :: L6
def L8 : List zS := ve :: L7
def L9 : List zS := qu :: L8
def L10 : List zS := jh :: L9
def L11 : List zS := jg :: L10
def L12 : List zS := vG :: L11
def L13 : List zS := wF :: L12
def L14 : List zS := qw :: L13
def L15 : List zS := jf :: L14
def L16 : List zS := ky :: L15
def L17 : List zS := ZU :: L16
def L18 : List zS := uX :: L17
def L19 : List zS := xH :: L18
def L20 : List zS := jQ :: L19
def L21 : List zS := qt :: L20
def L22 : List zS := je :: L21
def L23 : List zS := wU :: L22
def L24 : List zS := wV :: L23
def L25 : List zS := Y0 :: L24
def L26 : List zS := vT :: L25
def L27 : List zS := ZS :: L26
def L28 : List zS := ZT :: L27
def L29 : List zS := wp :: L28
def L30 : List zS := yn :: L29
def L31 : List zS := jz :: L30
def L32 : List zS := wG :: L31
def L33 : List zS := vp :: L32
def L34 : List zS := Zi :: L33
def L35 : List zS := wT :: L34
def L36 : List zS := we :: L35
def L37 : List zS := kJ :: L36
def L38 : List zS := kL :: L37
def L39 : List zS := vV :: L38
def L40 : List zS := Zm :: L39
def L41 : List zS := uZ :: L40
def L42 : List zS := vH :: L41
def L43 : List zS := Xt :: L42
def L44 : List zS := uH :: L43
def L45 : List zS := kx :: L44
def L46 : List zS := wf :: L45
def L47 : List zS := kK :: L46
def L48 : List zS := ZR :: L47
def L49 : List zS := jP :: L48
def L50 : List zS := ZY :: L49
def L51 : List zS := jT :: L50
def L52 : List zS := kz :: L51
def L53 : List zS := ZV :: L52
def L54 : List zS := ZW :: L53
def L55 : List zS := xX :: L54
def L56 : List zS := qA :: L55
def L57 : List zS := xm :: L56
def L58 : List zS := wW :: L57
def L59 : List zS := jB :: L58
def L60 : List zS := vW :: L59
def L61 : List zS := uW :: L60
def L62 : List zS := wH :: L61
def L63 : List zS := vg :: L62
def L64 : List zS := ZZ :: L63
def L65 : List zS := jq :: L64
def L66 : List zS := X1 :: L65
def L67 : List zS := X2 :: L66
def L68 : List zS := qz :: L67
def L69 : List zS := jS :: L68
def L70 : List zS := vN :: L69
def L71 : List zS := uY :: L70
def L72 : List zS := Zj :: L71
def L73 : List zS := Zx :: L72
def L74 : List zS := Zy :: L73
def L75 : List zS := kM :: L74
def L76 : List zS := YK :: L75
def L77 : List zS := Zl :: L76
def L78 : List zS := Xs :: L77
def L79 : List zS := Xr :: L78
def L80 : List zS := jC :: L79
def L81 : List zS := X3 :: L80
def L82 : List zS := ji :: L81
theorem zfT : zt Tryz.prog L0 := ⟨fun _ hC H => JH hC, yc (by kernel_rfl), trivial⟩
theorem zfS : zt Tryz.prog L1 := ⟨fun _ hC H => JI hC (zr H 0 rfl), yc (by kernel_rfl), zfT⟩
theorem zfR : zt Tryz.prog L2 := ⟨fun _ hC H => Ut hC (zr H 0 rfl), yc (by kernel_rfl), zfS⟩
theorem zfQ : zt Tryz.prog L3 := ⟨fun _ hC H => jj hC (zr H 0 rfl), yc (by kernel_rfl), zfR⟩
theorem zfP : zt Tryz.prog L4 := ⟨fun _ hC H => qr hC (zr H 0 rfl), yc (by kernel_rfl), zfQ⟩
theorem zfO : zt Tryz.prog L5 := ⟨fun _ hC H => Jd hC (zr H 0 rfl), yc (by kernel_rfl), zfP⟩
theorem zfN : zt Tryz.prog L6 := ⟨fun _ hC H => Qb hC, yc (by kernel_rfl), zfO⟩
theorem zfM : zt Tryz.prog L7 := ⟨fun _ hC H => Jc hC, yc (by kernel_rfl), zfN⟩
theorem zfL : zt Tryz.prog L8 := ⟨fun _ hC H => YT hC, yc (by kernel_rfl), zfM⟩
theorem zfK : zt Tryz.prog L9 := ⟨fun _ hC H => V5 hC (zr H 1 rfl) (zr H 8 rfl) (zr H 0 rfl), yc (by kernel_rfl), zfL⟩
theorem zeq : zt Tryz.prog L10 := ⟨fun _ hC H => VA hC (zr H 4 rfl) (zr H 0 rfl), yc (by kernel_rfl), zfK⟩
theorem zep : zt Tryz.prog L11 := ⟨fun _ hC H => Vz hC (zr H 0 rfl), yc (by kernel_rfl), zeq⟩
theorem zeo : zt Tryz.prog L12 := ⟨fun _ hC H => X9 hC, yc (by kernel_rfl), zep⟩
theorem zen : zt Tryz.prog L13 := ⟨fun _ hC H => ZO hC (zr H 0 rfl), yc (by kernel_rfl), zeo⟩
theorem zem : zt Tryz.prog L14 := ⟨fun _ hC H => V6 hC (zr H 8 rfl) (zr H 0 rfl), yc (by kernel_rfl), zen⟩
theorem zel : zt Tryz.prog L15 := ⟨fun _ hC H => Vy hC (zr H 0 rfl), yc (by kernel_rfl), zem⟩
theorem zek : zt Tryz.prog L16 := ⟨fun _ hC H => Ja hC, yc (by kernel_rfl), zel⟩
theorem zej : zt Tryz.prog L17 := ⟨fun _ hC H => KO hC, yc (by kernel_rfl), zek⟩
theorem zei : zt Tryz.prog L18 := ⟨fun _ hC H => Q9 hC (zr H 0 rfl), yc (by kernel_rfl), zej⟩
theorem zeh : zt Tryz.prog L19 := ⟨fun _ hC H => XX hC, yc (by kernel_rfl), zei⟩
theorem zeg : zt Tryz.prog L20 := ⟨fun _ hC H => Qa hC (zr H 14 rfl) (zr H 3 rfl) (zr H 1 rfl) (zr H 0 rfl), yc (by kernel_rfl), zeh⟩
theorem zef : zt Tryz.prog L21 := ⟨fun _ hC H => V4 hC, yc (by kernel_rfl), zeg⟩
theorem zee : zt Tryz.prog L22 := ⟨fun _ hC H => Vx hC (zr H 1 rfl) (zr H 0 rfl), yc (by kernel_rfl), zef⟩
theorem zed : zt Tryz.prog L23 := ⟨fun _ hC H => Ur hC (zr H 17 rfl) (zr H 16 rfl) (zr H 11 rfl) (zr H 7 rfl) (zr H 0 rfl), yc (by kernel_rfl), zee⟩
theorem zec : zt Tryz.prog L24 := ⟨fun _ hC H => KT hC, yc (by kernel_rfl), zed⟩
theorem zeb : zt Tryz.prog L25 := ⟨fun _ hC H => KW hC, yc (by kernel_rfl), zec⟩
theorem zea : zt Tryz.prog L26 := ⟨fun _ hC H => QZ hC, yc (by kernel_rfl), zeb⟩
theorem ze9 : zt Tryz.prog L27 := ⟨fun _ hC H => KL hC (zr H 21 rfl) (zr H 0 rfl), yc (by kernel_rfl), zea⟩
theorem ze8 : zt Tryz.prog L28 := ⟨fun _ hC H => KN hC, yc (by kernel_rfl), ze9⟩
theorem ze7 : zt Tryz.prog L29 := ⟨fun _ hC H => Xm hC, yc (by kernel_rfl), ze8⟩
theorem ze6 : zt Tryz.prog L30 := ⟨fun _ hC H => Wn hC, yc (by kernel_rfl), ze7⟩
theorem ze5 : zt Tryz.prog L31 := ⟨fun _ hC H => Uo hC (zr H 2 rfl) (zr H 1 rfl) (zr H 0 rfl), yc (by kernel_rfl), ze6⟩
theorem ze4 : zt Tryz.prog L32 := ⟨fun _ hC H => XY hC, yc (by kernel_rfl), ze5⟩
theorem ze3 : zt Tryz.prog L33 := ⟨fun _ hC H => Q8 hC (zr H 5 rfl) (zr H 1 rfl) (zr H 0 rfl) (zr H 2 rfl), yc (by kernel_rfl), ze4⟩
theorem ze2 : zt Tryz.prog L34 := ⟨fun _ hC H => JF hC, yc (by kernel_rfl), ze3⟩
theorem ze1 : zt Tryz.prog L35 := ⟨fun _ hC H => Yw hC (zr H 0 rfl), yc (by kernel_rfl), ze2⟩
theorem ze0 : zt Tryz.prog L36 := ⟨fun _ hC H => Zf hC (zr H 0 rfl), yc (by kernel_rfl), ze1⟩
theorem zdZ : zt Tryz.prog L37 := ⟨fun _ hC H => z0C hC (zr H 0 rfl), yc (by kernel_rfl), ze0⟩
theorem zdY : zt Tryz.prog L38 := ⟨fun _ hC H => z0E hC (zr H 0 rfl), yc (by kernel_rfl), zdZ⟩
theorem zdX : zt Tryz.prog L39 := ⟨fun _ hC H => Xn hC, yc (by kernel_rfl), zdY⟩
theorem zdW : zt Tryz.prog L40 := ⟨fun _ hC H => JL hC, yc (by kernel_rfl), zdX⟩
theorem zdV : zt Tryz.prog L41 := ⟨fun _ hC H => Qd hC (zr H 0 rfl), yc (by kernel_rfl), zdW⟩
theorem zdU : zt Tryz.prog L42 := ⟨fun _ hC H => Xa hC (zr H 0 rfl), yc (by kernel_rfl), zdV⟩
theorem zdT : zt Tryz.prog L43 := ⟨fun _ hC H => z1z hC, yc (by kernel_rfl), zdU⟩
theorem zdS : zt Tryz.prog L44 := ⟨fun _ hC H => JE hC (zr H 2 rfl) (zr H 1 rfl) (zr H 0 rfl), yc (by kernel_rfl), zdT⟩
theorem zdR : zt Tryz.prog L45 := ⟨fun _ hC H => QY hC (zr H 0 rfl), yc (by kernel_rfl), zdS⟩
theorem zdQ : zt Tryz.prog L46 := ⟨fun _ hC H => Zg hC (zr H 0 rfl), yc (by kernel_rfl), zdR⟩
theorem zdP : zt Tryz.prog L47 := ⟨fun _ hC H => z0D hC, yc (by kernel_rfl), zdQ⟩
theorem zdO : zt Tryz.prog L48 := ⟨fun _ hC H => KK hC (zr H 8 rfl) (zr H 3 rfl) (zr H 1 rfl) (zr H 0 rfl) (zr H 15 rfl) (zr H 17 rfl), yc (by kernel_rfl), zdP⟩
theorem zdN : zt Tryz.prog L49 := ⟨fun _ hC H => z1t hC (zr H 10 rfl) (zr H 0 rfl), yc (by kernel_rfl), zdO⟩
theorem zdM : zt Tryz.prog L50 := ⟨fun _ hC H => KR hC (zr H 25 rfl) (zr H 24 rfl) (zr H 16 rfl) (zr H 0 rfl), yc (by kernel_rfl), zdN⟩
theorem zdL : zt Tryz.prog L51 := ⟨fun _ hC H => z1y hC (zr H 27 rfl) (zr H 0 rfl), yc (by kernel_rfl), zdM⟩
theorem zdK : zt Tryz.prog L52 := ⟨fun _ hC H => Jb hC (zr H 46 rfl), yc (by kernel_rfl), zdL⟩
theorem zdJ : zt Tryz.prog L53 := ⟨fun _ hC H => KP hC (zr H 52 rfl), yc (by kernel_rfl), zdK⟩
theorem zdI : zt Tryz.prog L54 := ⟨fun _ hC H => KQ hC (zr H 1 rfl) (zr H 16 rfl) (zr H 0 rfl), yc (by kernel_rfl), zdJ⟩
theorem zdH : zt Tryz.prog L55 := ⟨fun _ hC H => Uv hC (zr H 0 rfl), yc (by kernel_rfl), zdI⟩
theorem zdG : zt Tryz.prog L56 := ⟨fun _ hC H => V7 hC (zr H 36 rfl), yc (by kernel_rfl), zdH⟩
theorem zdF : zt Tryz.prog L57 := ⟨fun _ hC H => jy hC (zr H 0 rfl), yc (by kernel_rfl), zdG⟩
theorem zdE : zt Tryz.prog L58 := ⟨fun _ hC H => Ux hC (zr H 0 rfl), yc (by kernel_rfl), zdF⟩
theorem zdD : zt Tryz.prog L59 := ⟨fun _ hC H => Uw hC (zr H 34 rfl) (zr H 3 rfl) (zr H 0 rfl), yc (by kernel_rfl), zdE⟩
theorem zdC : zt Tryz.prog L60 := ⟨fun _ hC H => Xo hC, yc (by kernel_rfl), zdD⟩
theorem zdB : zt Tryz.prog L61 := ⟨fun _ hC H => Wo hC (zr H 0 rfl), yc (by kernel_rfl), zdC⟩
theorem zdA : zt Tryz.prog L62 := ⟨fun _ hC H => ZP hC, yc (by kernel_rfl), zdB⟩
theorem zdz : zt Tryz.prog L63 := ⟨fun _ hC H => YU hC (zr H 0 rfl), yc (by kernel_rfl), zdA⟩
theorem zdy : zt Tryz.prog L64 := ⟨fun _ hC H => KU hC (zr H 0 rfl), yc (by kernel_rfl), zdz⟩
theorem zdx : zt Tryz.prog L65 := ⟨fun _ hC H => JK hC (zr H 13 rfl) (zr H 5 rfl) (zr H 3 rfl) (zr H 0 rfl), yc (by kernel_rfl), zdy⟩
theorem zdw : zt Tryz.prog L66 := ⟨fun _ hC H => z0F hC (zr H 21 rfl), yc (by kernel_rfl), zdx⟩
theorem zdv : zt Tryz.prog L67 := ⟨fun _ hC H => z0G hC (zr H 28 rfl) (zr H 0 rfl) (zr H 19 rfl), yc (by kernel_rfl), zdw⟩
theorem zdu : zt Tryz.prog L68 := ⟨fun _ hC H => KS hC (zr H 44 rfl) (zr H 0 rfl), yc (by kernel_rfl), zdv⟩
theorem zdt : zt Tryz.prog L69 := ⟨fun _ hC H => KV hC (zr H 0 rfl) (zr H 13 rfl) (zr H 44 rfl) (zr H 10 rfl), yc (by kernel_rfl), zdu⟩
theorem zds : zt Tryz.prog L70 := ⟨fun _ hC H => VC hC, yc (by kernel_rfl), zdt⟩
theorem zdr : zt Tryz.prog L71 := ⟨fun _ hC H => Qc hC (zr H 2 rfl) (zr H 0 rfl) (zr H 15 rfl) (zr H 12 rfl) (zr H 40 rfl), yc (by kernel_rfl), zds⟩
theorem zdq : zt Tryz.prog L72 := ⟨fun _ hC H => JG hC, yc (by kernel_rfl), zdr⟩
theorem zdp : zt Tryz.prog L73 := ⟨fun _ hC H => z1u hC (zr H 0 rfl), yc (by kernel_rfl), zdq⟩
theorem zdo : zt Tryz.prog L74 := ⟨fun _ hC H => z1x hC (zr H 0 rfl), yc (by kernel_rfl), zdp⟩
theorem zdn : zt Tryz.prog L75 := ⟨fun _ hC H => z0I hC, yc (by kernel_rfl), zdo⟩
theorem zdm : zt Tryz.prog L76 := ⟨fun _ hC H => z2F hC (zr H 52 rfl) (zr H 51 rfl) (zr H 0 rfl) (zr H 42 rfl) (zr H 26 rfl), yc (by kernel_rfl), zdn⟩
theorem zdl : zt Tryz.prog L77 := ⟨fun _ hC H => JJ hC, yc (by kernel_rfl), zdm⟩
theorem zdk : zt Tryz.prog L78 := ⟨fun _ hC H => z1w hC, yc (by kernel_rfl), zdl⟩
theorem zdj : zt Tryz.prog L79 := ⟨fun _ hC H => z1v hC (zr H 5 rfl), yc (by kernel_rfl), zdk⟩
theorem zdi : zt Tryz.prog L80 := ⟨fun _ hC H => Uy hC (zr H 11 rfl) (zr H 24 rfl), yc (by kernel_rfl), zdj⟩
theorem zdh : zt Tryz.prog L81 := ⟨fun _ hC H => z0H hC (zr H 3 rfl) (zr H 2 rfl) (zr H 29 rfl) (zr H 4 rfl) (zr H 15 rfl) (zr H 1 rfl) (zr H 11 rfl) (zr H 0 rfl) (zr H 9 rfl) (zr H 6 rfl), yc (by kernel_rfl), zdi⟩
theorem zdg : zt Tryz.prog L82 := ⟨fun _ hC H => VB hC (zr H 30 rfl) (zr H 16 rfl) (zr H 12 rfl) (zr H 10 rfl) (zr H 7 rfl) (zr H 5 rfl) (zr H 0 rfl), yc (by kernel_rfl), zdh⟩
theorem xS {x : Int} (h1 : -9223372036854775808 ≤ x) (h2 : x ≤ 9223372036854775807) : w64 x = x := by
 simp only [w64, IntKind.wrap, IntKind.bits, IntKind.signed]
 simp
 omega
section
variable {α β σ τ ρ : Type}
def Ret (x : Option α) (Q : α → Prop) : Prop := ∃ a, x = some a ∧ Q a
theorem Ret.mono {x : Option α} {Q R : α → Prop} (h : Ret x Q) (q : ∀ a, Q a → R a) : Ret x R := by
 obtain ⟨a, e, h⟩ := h
 exact ⟨a, e, q a h⟩
theorem Ret.eq {x : Option α} {a : α} (h : Ret x fun b => b = a) : x = some a := by
 obtain ⟨b, e, rfl⟩ := h
 exact e
theorem zl {a : α} {Q : α → Prop} : Ret (some a) Q ↔ Q a := ⟨fun ⟨b, e, q⟩ => by cases e; exact q, fun q => ⟨a, rfl, q⟩⟩
theorem zP {x : Option α} {f : α → Option β} {Q : β → Prop} : Ret (Option.bind x f) Q ↔ Ret x fun a => Ret (f a) Q := by
 cases x with
 | none => exact ⟨fun ⟨b, e, _⟩ => (by cases e), fun ⟨b, e, _⟩ => (by cases e)⟩
 | some a => exact ⟨fun h => ⟨a, rfl, h⟩, fun ⟨b, e, h⟩ => by cases e; exact h⟩
theorem UD {p : Prop} [Decidable p] {x : Option α} {Q : α → Prop} : Ret (gd p x) Q ↔ p ∧ Ret x Q := by
 unfold gd
 by_cases h : p
 ·rw [if_pos h]; exact ⟨fun q => ⟨h, q⟩, fun q => q.2⟩
 ·rw [if_neg h]; exact ⟨fun ⟨b, e, _⟩ => by (cases e), fun q => (h q.1).elim⟩
theorem yz {c : Bool} {x y : Option α} {Q : α → Prop} : Ret (bif c then x else y) Q ↔ (c = true → Ret x Q) ∧ (c = false → Ret y Q) := by
 cases c <;> simp
theorem za2 {l : List α} {i : Int} {Q : α → Prop} : Ret (idx l i) Q ↔ 0 ≤ i ∧ ∃ x, l[i.toNat]? = some x ∧ Q x := by
 cases i with
 | ofNat n =>
  show (∃ a, l[n]? = some a ∧ Q a) ↔ _
  simp
 | negSucc n => exact ⟨fun ⟨b, e, _⟩ => by (cases e), fun ⟨h, _⟩ => by omega⟩
theorem yU (l : List α) (i : Nat) : idx l (i : Int) = l[i]? := rfl
theorem gdT {p : Prop} [Decidable p] {x : Option α} (h : p) : gd p x = x := by unfold gd; rw [if_pos h]
theorem bdT {x : Option α} {u : α} {f : α → Option ρ} (h : x = some u) : Option.bind x f = f u := by rw [h]; rfl
theorem WW (step : σ → Option (LR σ τ)) (n : Nat) (s : σ) : UH step (n + 1) s = (match step s with | none => none | some (.next s') => UH step n s' | some (.done t) => some t) := rfl
def LRP (N : σ → Prop) (D : τ → Prop) : LR σ τ → Prop
 | .next s => N s
 | .done t => D t
theorem wK {step : σ → Option (LR σ τ)} (I : σ → Prop) (m : σ → Nat) {R : τ → Prop} {s : σ} (hs : I s) (hm : m s < 18446744073709551616)
  (h : ∀ s, I s → Ret (step s) (LRP (fun s' => I s' ∧ m s' < m s) R)) : Ret (loop step s) R := by
 have gen : ∀ (n : Nat) (s : σ), I s → m s < n → Ret (UH step n s) R := by
  intro n
  induction n with
  | zero => intro s _ h; omega
  | succ n ih =>
   intro s hs hm
   obtain ⟨a, e, q⟩ := h s hs
   rw [WW, e]
   cases a with
   | next s' => exact ih s' q.1 (by have := q.2; omega)
   | done t => exact ⟨t, rfl, q⟩
 exact gen fuel s hs hm
theorem Xz {step : σ → Option (LR σ τ)} (st : Nat → σ) (n : Nat) {t : τ} (hn : n < 9223372036854775808) (h : ∀ i, i < n → step (st i) = some (.next (st (i + 1)))) (hd : step (st n) = some (.done t)) : loop step (st 0) = some t := by
 have gen : ∀ (k : Nat) (i : Nat), i ≤ n → n - i < k → UH step k (st i) = some t := by
  intro k
  induction k with
  | zero => intro i _ h; omega
  | succ k ih =>
   intro i hi hk
   rw [WW]
   rcases Nat.lt_or_ge i n with q | q
   ·rw [h i q]
    exact ih (i + 1) q (by omega)
   ·have : i = n := by omega
    subst this
    rw [hd]
 exact gen fuel 0 (Nat.zero_le _) (by show n - 0 < 18446744073709551616; omega)
def xL (f : Nat → α → Option ρ) : List α → Nat → Option ρ
 | [], _ => none
 | x :: l, i => match f i x with | some r => some r | none => xL f l (i + 1)
theorem Ye {f : Nat → α → Option ρ} : ∀ {l : List α} {k : Nat}, (∀ i x, l[i]? = some x → f (k + i) x = none) → xL f l k = none
 | [], _, _ => rfl
 | x :: l, k, h => by
  have h0 := h 0 x rfl
  simp only [Nat.add_zero] at h0
  simp only [xL, h0]
  exact Ye fun i y hy => by have := h (i + 1) y (by simpa using hy); rwa [show k + 1 + i = k + (i + 1) by omega]
theorem kH {f : Nat → α → Option ρ} {r : ρ} : ∀ {l : List α} {k : Nat}, xL f l k = some r → ∃ i x, l[i]? = some x ∧ f (k + i) x = some r
 | [], _, h => by cases h
 | x :: l, k, h => by
  simp only [xL] at h
  cases hf : f k x with
  | some r' => rw [hf] at h; exact ⟨0, x, rfl, by rw [Nat.add_zero, hf]; exact h⟩
  | none =>
   rw [hf] at h
   obtain ⟨i, y, h1, h2⟩ := kH h
   exact ⟨i + 1, y, by simpa using h1, by rw [← h2]; congr 1; omega⟩
theorem ZA {f : Nat → α → Option ρ} {l : List α} {k : Nat} (h : xL f l k = none) : ∀ i x, l[i]? = some x → f (k + i) x = none := by
 induction l generalizing k with
 | nil => intro i x h; simp at h
 | cons y l ih =>
  intro i x hx
  simp only [xL] at h
  cases hf : f k y with
  | some r' => rw [hf] at h; cases h
  | none =>
   rw [hf] at h
   cases i with
   | zero => simp at hx; subst hx; simpa using hf
   | succ i => have := ih h i x (by simpa using hx); rwa [show k + (i + 1) = k + 1 + i by omega]
def oS : Option ρ → Unit ⊕ ρ
 | some r => .inr r
 | none => .inl ()
def nS (i : Nat) : Option ρ → LR Int (Unit ⊕ ρ)
 | some r => .done (.inr r)
 | none => .next (w64 ((i : Int) + 1))
theorem qK (l : List α) (hl : l.length < 4611686018427387904) {step : Int → Option (LR Int (Unit ⊕ ρ))} (f : Nat → α → Option ρ)
  (h : ∀ (i : Nat) (x : α), l[i]? = some x → step (i : Int) = some (nS i (f i x))) (h2 : step (l.length : Int) = some (.done (.inl ()))) :
  loop step 0 = some (oS (xL f l 0)) := by
 have gen : ∀ (n : Nat) (k : Nat), k ≤ l.length → l.length - k < n → UH step n (k : Int) = some (oS (xL f (l.drop k) k)) := by
  intro n
  induction n with
  | zero => intro k _ h; omega
  | succ n ih =>
   intro k hk hn
   rw [WW]
   rcases Nat.lt_or_ge k l.length with hlt | hge
   ·have hx : l[k]? = some l[k] := List.getElem?_eq_getElem hlt
    rw [h k _ hx, List.drop_eq_getElem_cons hlt]
    simp only [xL]
    cases hf : f k l[k] with
    | some r => rfl
    | none =>
     simp only [nS]
     rw [xS (by omega) (by omega)]
     exact ih (k + 1) hlt (by omega)
   ·have : k = l.length := by omega
    subst this
    rw [h2, List.drop_length]
    rfl
 exact gen fuel 0 (Nat.zero_le _) (by show l.length - 0 < 18446744073709551616; omega)
end
def z32 (m : z6) (x : z8) : Bool := (x.To == -1 && x.Out == -1) || (decide (0 ≤ x.To) && decide (x.To < (m.Rows.length : Int)) && decide (0 ≤ x.Out) && decide (x.Out < m.Outputs))
def z4k (m : z6) (r : List z8) : Bool := decide ((r.length : Int) = m.Inputs) && r.all (z32 m)
def chk (m : z6) : Int :=
 if m.Inputs > 16 ∨ m.Outputs > 16 ∨ (m.Rows.length : Int) > 64 then 3 else if m.Inputs < 1 ∨ m.Outputs < 1 ∨ m.Rows.length = 0 then 1 else if m.Rows.all (z4k m) = true then 0 else 1
theorem zav (m : z6) (x : z8) : k0 m x = some (z32 m x) := by
 unfold k0 vA
 simp only [Option.bind_some, Bool.and_true]
 rcases Bool.eq_false_or_eq_true (x.To == (-1) && x.Out == (-1)) with h | h
 ·simp [z32, h]
 ·rw [h]
  simp only [z32, h, Bool.false_or, cond_false]
  by_cases h1 : (0 : Int) ≤ x.To
  ·by_cases h2 : x.To < (m.Rows.length : Int)
   ·by_cases h3 : (0 : Int) ≤ x.Out
    ·simp [Bool.cond_eq_ite, h1, h2, h3]
    ·simp [Bool.cond_eq_ite, h1, h2, h3]
   ·simp [Bool.cond_eq_ite, h1, h2]
  ·simp [h1]
theorem z37 (m : z6) (r : List z8) (hl : r.length < 4611686018427387904) : zQ r m = some (!r.all (z32 m)) := by
 have hloop : loop (fun s => zJ r m s) 0 = some (oS (xL (fun i x => if z32 m x = true then none else some (i : Int)) r 0)) := by
  refine qK r hl _ ?_ ?_
  ·intro i x hx
   have hi := (List.getElem?_eq_some_iff.1 hx).1
   unfold zJ
   have hd : decide ((i : Int) < ((r.length : Nat) : Int)) = true := by simpa using hi
   rw [hd, cond_true, yU, bdT hx]
   unfold jt
   simp only [zav, Option.bind_some]
   cases z32 m x <;> rfl
  ·unfold zJ
   simp
 unfold zQ yj
 rw [hloop]
 simp only [Option.bind_some]
 cases hf : xL (fun i x => if z32 m x = true then none else some (i : Int)) r 0 with
 | some q =>
  obtain ⟨i, x, h1, h2⟩ := kH hf
  have hx : z32 m x ≠ true := by
   intro h; rw [if_pos h] at h2; cases h2
  rw [if_neg hx] at h2
  simp only [Option.some.injEq] at h2
  have : r.all (z32 m) = false := by
   rw [List.all_eq_false]
   exact ⟨x, List.mem_of_getElem? h1, hx⟩
  rw [this]
  have : (q : Int) ≥ 0 := by rw [← h2]; omega
  show some (decide (q ≥ 0)) = _
  simp [this]
 | none =>
  have : r.all (z32 m) = true := by
   rw [List.all_eq_true]
   intro x hx
   obtain ⟨i, hi⟩ := List.getElem?_of_mem hx
   have := ZA hf i x hi
   by_cases h : z32 m x = true
   ·exact h
   ·rw [if_neg h] at this; cases this
  rw [this]
  rfl
theorem z4y {m : z6} (h0 : (m.Rows.length : Int) ≤ 64) (h1 : m.Inputs ≤ 16) : loop (fun s => wR m s) 0 = some (oS (xL (fun _ r => if z4k m r = true then none else some (1 : Int)) m.Rows 0)) := by
 refine qK m.Rows (by omega) _ ?_ ?_
 ·intro i r hr
  have hi := (List.getElem?_eq_some_iff.1 hr).1
  unfold wR
  have hd : decide ((i : Int) < ((m.Rows.length : Nat) : Int)) = true := by simpa using hi
  rw [hd, cond_true, yU, bdT hr]
  by_cases hlen : (r.length : Int) = m.Inputs
  ·have hne : (((r.length : Nat) : Int) != m.Inputs) = false := by simpa using hlen
   rw [hne, cond_false, bdT (z37 m r (by omega))]
   have : z4k m r = r.all (z32 m) := by simp [z4k, hlen]
   rw [this]
   cases r.all (z32 m) <;> rfl
  ·have hne : (((r.length : Nat) : Int) != m.Inputs) = true := by simpa using hlen
   rw [hne, cond_true]
   have : z4k m r = false := by simp [z4k, hlen]
   rw [this]; rfl
 ·unfold wR
  simp
theorem z4j (m : z6) : xL (fun _ r => if z4k m r = true then none else some (1 : Int)) m.Rows 0 = if m.Rows.all (z4k m) = true then none else some 1 := by
 by_cases h : m.Rows.all (z4k m) = true
 ·rw [if_pos h]
  refine Ye fun i r hr => ?_
  rw [if_pos (List.all_eq_true.1 h r (List.mem_of_getElem? hr))]
 ·rw [if_neg h]
  cases hf : xL (fun _ r => if z4k m r = true then none else some (1 : Int)) m.Rows 0 with
  | some q =>
   obtain ⟨i, x, h1, h2⟩ := kH hf
   split at h2
   ·cases h2
   ·exact h2.symm ▸ rfl
  | none =>
   exfalso
   apply h
   rw [List.all_eq_true]
   intro x hx
   obtain ⟨i, hi⟩ := List.getElem?_of_mem hx
   have := ZA hf i x hi
   by_cases h : z4k m x = true
   ·exact h
   ·rw [if_neg h] at this; cases this
theorem V0 (m : z6) : xF m = some (chk m) := by
 unfold xF chk
 by_cases h1 : m.Inputs > 16
 ·simp [h1]
 by_cases h2 : m.Outputs > 16
 ·simp [Bool.cond_eq_ite, h1, h2]
 by_cases h3 : (m.Rows.length : Int) > 64
 ·simp [Bool.cond_eq_ite, h1, h2, h3]
 rw [if_neg (by simp [Bool.cond_eq_ite, h1, h2, h3])]
 by_cases h4 : m.Inputs < 1
 ·simp [Bool.cond_eq_ite, h1, h2, h3, h4]
 by_cases h5 : m.Outputs < 1
 ·simp [Bool.cond_eq_ite, h1, h2, h3, h4, h5]
 by_cases h6 : m.Rows.length = 0
 ·simp [Bool.cond_eq_ite, h1, h2, h4, h5, h6]
 rw [if_neg (by simp [h4, h5, h6])]
 have h6' : decide (((m.Rows.length : Nat) : Int) < 1) = false := by simp; omega
 have e1 : decide (m.Inputs > 16) = false := by simpa using h1
 have e2 : decide (m.Outputs > 16) = false := by simpa using h2
 have e3 : decide (((m.Rows.length : Nat) : Int) > 64) = false := by simpa using h3
 have e4 : decide (m.Inputs < 1) = false := by simpa using h4
 have e5 : decide (m.Outputs < 1) = false := by simpa using h5
 simp only [e1, e2, e3, e4, e5, h6', cond_false]
 rw [bdT (z4y (by omega) (by omega)), z4j]
 by_cases h : m.Rows.all (z4k m) = true
 ·rw [if_pos h, if_pos h]; rfl
 ·rw [if_neg h, if_neg h]; rfl
structure VM (m : z6) : Prop where
 in1 : 1 ≤ m.Inputs
 in16 : m.Inputs ≤ 16
 out1 : 1 ≤ m.Outputs
 out16 : m.Outputs ≤ 16
 len1 : 1 ≤ m.Rows.length
 len64 : m.Rows.length ≤ 64
 row : ∀ r ∈ m.Rows, (r.length : Int) = m.Inputs
 edge : ∀ r ∈ m.Rows, ∀ x ∈ r, (x.To = -1 ∧ x.Out = -1) ∨ (0 ≤ x.To ∧ x.To < (m.Rows.length : Int) ∧ 0 ≤ x.Out ∧ x.Out < m.Outputs)
theorem z0r {m : z6} (h : VM m) : chk m = 0 := by
 unfold chk
 have := h.in1; have := h.in16; have := h.out1; have := h.out16; have := h.len1; have := h.len64
 rw [if_neg (by omega), if_neg (by omega), if_pos]
 rw [List.all_eq_true]
 intro r hr
 simp only [z4k, Bool.and_eq_true, decide_eq_true_eq, List.all_eq_true]
 refine ⟨h.row r hr, fun x hx => ?_⟩
 simp only [z32, Bool.or_eq_true, Bool.and_eq_true, beq_iff_eq, decide_eq_true_eq]
 rcases h.edge r hr x hx with ⟨a, b⟩ | ⟨a, b, c, d⟩
 ·exact .inl ⟨a, b⟩
 ·exact .inr ⟨⟨⟨a, b⟩, c⟩, d⟩
def kk (m : z6) : Nat := m.Inputs.toNat
def E (m : z6) (s i : Nat) : z8 := ((m.Rows[s]?.getD [])[i]?).getD ⟨-1, -1⟩
section
variable {m : z6} (h : VM m)
include h
theorem VM.kk_eq : ((kk m : Nat) : Int) = m.Inputs := by have := h.in1; unfold kk; omega
theorem VM.kk_le : kk m ≤ 16 := by have := h.in16; unfold kk; omega
theorem VM.rowAt {s : Nat} (hs : s < m.Rows.length) : ∃ r, m.Rows[s]? = some r ∧ r.length = kk m ∧ ∀ i, i < kk m → r[i]? = some (E m s i) := by
 have hr := List.getElem?_eq_getElem hs
 have hl := h.row _ (List.getElem_mem hs)
 have hl' : m.Rows[s].length = kk m := by unfold kk; omega
 refine ⟨_, hr, hl', fun i hi => ?_⟩
 have hi' : i < m.Rows[s].length := by omega
 unfold E
 rw [hr]
 simp only [Option.getD_some]
 rw [List.getElem?_eq_getElem hi']
 rfl
theorem VM.edgeAt {s i : Nat} (hs : s < m.Rows.length) (hi : i < kk m) : ((E m s i).To = -1 ∧ (E m s i).Out = -1) ∨ (0 ≤ (E m s i).To ∧ (E m s i).To < (m.Rows.length : Int) ∧ 0 ≤ (E m s i).Out ∧ (E m s i).Out < m.Outputs) := by
 obtain ⟨r, h1, _, h2⟩ := h.rowAt hs
 exact h.edge r (List.mem_of_getElem? h1) _ (List.mem_of_getElem? (h2 i hi))
theorem VM.edge_eq {s i : Nat} (hs : s < m.Rows.length) (hi : i < kk m) {β : Type} {f : z8 → Option β} :
  (Option.bind (idx m.Rows (s : Int)) fun r => Option.bind (idx r (i : Int)) f) = f (E m s i) := by
 obtain ⟨r, h1, _, h2⟩ := h.rowAt hs
 rw [yU, h1, Option.bind_some, yU, h2 i hi, Option.bind_some]
end
section
variable {K V : Type} [BEq K] [LawfulBEq K]
theorem Jv (l : List (K × V)) (x y : K) (v : V) : QM (z4n l x v) y = if (x == y) = true then some v else QM l y := by
 induction l with
 | nil => simp only [z4n, QM]
 | cons p l ih =>
  simp only [z4n]
  by_cases h : p.1 = x
  ·rw [if_pos (by simpa using h)]
   simp only [QM]
   by_cases q : x = y
   ·rw [if_pos (by simpa using q), if_pos (by simpa using q)]
   ·rw [if_neg (by simpa using q), if_neg (by simpa using q), if_neg (by rw [h]; simpa using q)]
  ·rw [if_neg (by simpa using h)]
   simp only [QM, ih]
   by_cases q : p.1 = y
   ·have q' : ¬ x = y := by rintro rfl; exact h q
    have e1 : (p.1 == y) = true := by simpa using q
    have e2 : (x == y) = false := by simpa using q'
    simp [e1, e2]
   ·have e1 : (p.1 == y) = false := by simpa using q
    simp [e1]
end
section
variable {S : Type}
def QB (k : Nat) (bad : S → Nat → Bool) (nx : S → Nat → Option S) : S → List Nat → Prop
 | _, [] => False
 | p, [i] => i < k ∧ bad p i = true
 | p, i :: w => i < k ∧ bad p i = false ∧ ∃ q, nx p i = some q ∧ QB k bad nx q w
variable {k : Nat} {bad : S → Nat → Bool} {nx : S → Nat → Option S} {p0 : S}
def z8v : List Nat → List Nat → Prop
 | [], _ => True
 | i :: u, j :: v => i < j ∨ i = j ∧ z8v u v
 | _ :: _, [] => False
theorem z2I : ∀ {w : List Nat} {p : S}, QB k bad nx p w → ∀ x ∈ w, x < k
 | [], _, h => h.elim
 | [i], _, h => by simpa using h.1
 | i :: j :: w, _, ⟨hi, _, q, _, h⟩ => by
  intro x hx
  rcases List.mem_cons.1 hx with rfl | hx
  ·exact hi
  ·exact z2I h x hx
def Mk (k : Nat) (bad : S → Nat → Bool) (nx : S → Nat → Option S) : Nat → S → Prop
 | 0, _ => False
 | n + 1, p => Mk k bad nx n p ∨ ∃ i, i < k ∧ (bad p i = true ∨ ∃ q, nx p i = some q ∧ Mk k bad nx n q)
theorem Mk.mono {n m : Nat} {p : S} (h : Mk k bad nx n p) (hm : n ≤ m) : Mk k bad nx m p := by
 induction hm with
 | refl => exact h
 | step _ ih => exact .inl ih
theorem Mk.tell : ∀ {n : Nat} {p : S}, Mk k bad nx n p → ∃ w, QB k bad nx p w ∧ w.length ≤ n
 | 0, _, h => h.elim
 | n + 1, p, .inl h => by
  obtain ⟨w, h1, h2⟩ := Mk.tell h
  exact ⟨w, h1, by omega⟩
 | n + 1, p, .inr ⟨i, hi, h⟩ => by
  by_cases hb : bad p i = true
  ·exact ⟨[i], ⟨hi, hb⟩, by simp⟩
  ·rcases h with h | ⟨q, hq, h⟩
   ·exact (hb h).elim
   ·obtain ⟨w, h1, h2⟩ := Mk.tell h
    refine ⟨i :: w, ?_, by simp; omega⟩
    cases w with
    | nil => exact h1.elim
    | cons j w => exact ⟨hi, by simpa using hb, q, hq, h1⟩
theorem Xp : ∀ {w : List Nat} {p : S}, QB k bad nx p w → Mk k bad nx w.length p
 | [], _, h => h.elim
 | [i], p, h => .inr ⟨i, h.1, .inl h.2⟩
 | i :: j :: w, p, ⟨hi, hb, q, hn, h⟩ => .inr ⟨i, hi, .inr ⟨q, hn, Xp h⟩⟩
end
def Yj (a b : z6) (p : Nat × Nat) (i : Nat) : Bool := (E a p.1 i).Out != (E b p.2 i).Out
def nxP (a b : z6) (p : Nat × Nat) (i : Nat) : Option (Nat × Nat) := if 0 ≤ (E a p.1 i).To ∧ 0 ≤ (E b p.2 i).To then some ((E a p.1 i).To.toNat, (E b p.2 i).To.toNat) else none
theorem Ks {α : Type} {p q : α → Bool} : ∀ {l : List α}, (∀ x ∈ l, p x = true → q x = true) → (∃ x ∈ l, q x = true ∧ p x = false) → l.countP p < l.countP q
 | [], _, ⟨x, hx, _⟩ => by cases hx
 | y :: l, h, ⟨x, hx, h1, h2⟩ => by
  have hm : l.countP p ≤ l.countP q := List.countP_mono_left fun z hz => h z (List.mem_cons_of_mem _ hz)
  simp only [List.countP_cons]
  rcases List.mem_cons.1 hx with rfl | hx
  ·simp only [h1, h2, if_true, Bool.false_eq_true, if_false]
   omega
  ·have := Ks (fun z hz => h z (List.mem_cons_of_mem _ hz)) ⟨x, hx, h1, h2⟩
   cases hp : p y with
   | true => simp only [h y (by simp) hp, if_true]; omega
   | false =>
    simp only [Bool.false_eq_true, if_false]
    split <;> omega
open Classical in
def z8J (N : Nat) (R : Nat → Nat → Prop) : Nat := (List.range N).countP fun s => decide (∀ t, t < s → ¬ R s t)
theorem zgV {N : Nat} (hN : 0 < N) (R : Nat → Nat → Nat → Prop) (symm : ∀ k s t, s < N → t < N → R k s t → R k t s) (trans : ∀ k s t u, s < N → t < N → u < N → R k s t → R k t u → R k s u)
  (refl : ∀ k s, s < N → R k s s) (mono : ∀ k s t, s < N → t < N → R (k + 1) s t → R k s t) (stat : ∀ k, (∀ s t, s < N → t < N → R k s t → R (k + 1) s t) → ∀ s t, s < N → t < N → R (k + 1) s t → R (k + 2) s t) :
  ∀ s t, s < N → t < N → R (N - 1) s t → ∀ j, R j s t := by
 classical
 have step : ∀ k, (¬ ∀ s t, s < N → t < N → R k s t → R (k + 1) s t) → z8J N (R k) < z8J N (R (k + 1)) := by
  intro k hk
  simp only [Classical.not_forall] at hk
  obtain ⟨s, t, hs, ht, h1, h2⟩ := hk
  unfold z8J
  refine Ks (fun x hx => ?_) ?_
  ·have hx := List.mem_range.1 hx
   simp only [decide_eq_true_eq]
   exact fun h t ht q => h t ht (mono k x t hx (by omega) q)
  ·
   have hmin : ∃ z, z < N ∧ R k z s ∧ ∀ y, y < z → ¬ R k y s := by
    have key : ∀ n, ∀ z, z ≤ n → z < N → R k z s → ∃ z, z < N ∧ R k z s ∧ ∀ y, y < z → ¬ R k y s := by
     intro n
     induction n with
     | zero => intro z hz hzN hr; exact ⟨z, hzN, hr, fun y hy => by omega⟩
     | succ n ih =>
      intro z hz hzN hr
      by_cases q : ∃ y, y < z ∧ R k y s
      ·obtain ⟨y, y1, y2⟩ := q
       exact ih y (by omega) (by omega) y2
      ·exact ⟨z, hzN, hr, fun y hy g => q ⟨y, hy, g⟩⟩
    exact key s s (Nat.le_refl _) hs (refl k s hs)
   obtain ⟨z, hz, hzs, hzm⟩ := hmin
   have hzt : R k z t := trans k z s t hz hs ht hzs h1
   obtain ⟨u, hu, hzu, hne⟩ : ∃ u, u < N ∧ R k z u ∧ ¬ R (k + 1) z u := by
    by_cases q : R (k + 1) z s
    ·by_cases g : R (k + 1) z t
     ·exact (h2 (trans (k + 1) s z t hs hz ht (symm _ _ _ hz hs q) g)).elim
     ·exact ⟨t, ht, hzt, g⟩
    ·exact ⟨s, hs, hzs, q⟩
   have hmin : ∃ y, y < N ∧ R (k + 1) y u ∧ ∀ x, x < y → ¬ R (k + 1) x u := by
    have key : ∀ n, ∀ z, z ≤ n → z < N → R (k + 1) z u → ∃ z, z < N ∧ R (k + 1) z u ∧ ∀ y, y < z → ¬ R (k + 1) y u := by
     intro n
     induction n with
     | zero => intro z hz hzN hr; exact ⟨z, hzN, hr, fun y hy => by omega⟩
     | succ n ih =>
      intro z hz hzN hr
      by_cases q : ∃ y, y < z ∧ R (k + 1) y u
      ·obtain ⟨y, y1, y2⟩ := q
       exact ih y (by omega) (by omega) y2
      ·exact ⟨z, hzN, hr, fun y hy g => q ⟨y, hy, g⟩⟩
    exact key u u (Nat.le_refl _) hu (refl _ u hu)
   obtain ⟨y, hy, hyu, hym⟩ := hmin
   have hyk : R k y u := mono k y u hy hu hyu
   have hyz : R k y z := trans k y u z hy hu hz hyk (symm _ _ _ hz hu hzu)
   have hzy : z < y := by
    rcases Nat.lt_trichotomy z y with g | g | g
    ·exact g
    ·subst g; exact (hne hyu).elim
    ·exact (hzm y g (trans k y z s hy hz hs hyz hzs)).elim
   refine ⟨y, List.mem_range.2 hy, ?_, ?_⟩
   ·simp only [decide_eq_true_eq]
    intro x hx q
    exact hym x hx (trans (k + 1) x y u (by omega) hy hu (symm _ _ _ hy (by omega) q) hyu)
   ·simp only [decide_eq_false_iff_not]
    intro q
    exact q z hzy hyz
 have le : ∀ k, z8J N (R k) ≤ N := by
  intro k
  unfold z8J
  refine Nat.le_trans (List.countP_le_length) ?_
  simp
 have one : ∀ k, 1 ≤ z8J N (R k) := by
  intro k
  unfold z8J
  refine List.countP_pos_iff.2 ⟨0, List.mem_range.2 hN, ?_⟩
  simp
 have rest : ∃ k, k < N ∧ ∀ s t, s < N → t < N → R k s t → R (k + 1) s t := by
  refine Classical.byContradiction fun hno => ?_
  have : ∀ k, k ≤ N → k + 1 ≤ z8J N (R k) := by
   intro k
   induction k with
   | zero => intro _; exact one 0
   | succ k ih =>
    intro hk
    have := step k fun h => hno ⟨k, by omega, h⟩
    have := ih (by omega)
    omega
  have := this N (Nat.le_refl _)
  have := le N
  omega
 obtain ⟨k, hk, hst⟩ := rest
 have up : ∀ d, ∀ s t, s < N → t < N → R (k + d) s t → R (k + d + 1) s t := by
  intro d
  induction d with
  | zero => exact hst
  | succ d ih => exact stat (k + d) ih
 have down : ∀ d j s t, s < N → t < N → R (j + d) s t → R j s t := by
  intro d
  induction d with
  | zero => intro j s t _ _ h; exact h
  | succ d ih => intro j s t hs ht h; exact ih j s t hs ht (mono _ s t hs ht h)
 intro s t hs ht h j
 have hk' : R k s t := down (N - 1 - k) k s t hs ht (by rw [show k + (N - 1 - k) = N - 1 by omega]; exact h)
 have far : ∀ d, R (k + d) s t := by
  intro d
  induction d with
  | zero => exact hk'
  | succ d ih => exact up d s t hs ht ih
 exact down k j s t hs ht (by rw [Nat.add_comm]; exact far j)
section
variable {S S' : Type} {k : Nat} {bad : S → Nat → Bool} {nx : S → Nat → Option S} {bad' : S' → Nat → Bool} {nx' : S' → Nat → Option S'} (φ : S → S') (I : S → Prop)
 (hI : ∀ p i q, I p → i < k → nx p i = some q → I q) (hb : ∀ p i, I p → i < k → bad' (φ p) i = bad p i) (hn : ∀ p i, I p → i < k → nx' (φ p) i = (nx p i).map φ)
include hI hb hn
end
structure WM (m : z6) : Prop where
 in1 : 1 ≤ m.Inputs
 in16 : m.Inputs ≤ 16
 len1 : 1 ≤ m.Rows.length
 len : m.Rows.length ≤ 128
 row : ∀ r ∈ m.Rows, (r.length : Int) = m.Inputs
 edge : ∀ r ∈ m.Rows, ∀ x ∈ r, (x.To = -1 ∧ x.Out = -1) ∨ (0 ≤ x.To ∧ x.To < (m.Rows.length : Int) ∧ 0 ≤ x.Out)
theorem VM.wm {m : z6} (h : VM m) : WM m := ⟨h.in1, h.in16, h.len1, by have := h.len64; omega, h.row, fun r hr x hx => by
 rcases h.edge r hr x hx with g | ⟨g1, g2, g3, _⟩
 ·exact .inl g
 ·exact .inr ⟨g1, g2, g3⟩⟩
section
variable {m : z6} (h : WM m)
include h
theorem WM.rowAt {s : Nat} (hs : s < m.Rows.length) : ∃ r, m.Rows[s]? = some r ∧ r.length = kk m ∧ ∀ i, i < kk m → r[i]? = some (E m s i) := by
 have hr := List.getElem?_eq_getElem hs
 have hl := h.row _ (List.getElem_mem hs)
 have hl' : m.Rows[s].length = kk m := by unfold kk; omega
 refine ⟨_, hr, hl', fun i hi => ?_⟩
 have hi' : i < m.Rows[s].length := by omega
 unfold E
 rw [hr]
 simp only [Option.getD_some]
 rw [List.getElem?_eq_getElem hi']
 rfl
theorem WM.edgeAt {s i : Nat} (hs : s < m.Rows.length) (hi : i < kk m) : ((E m s i).To = -1 ∧ (E m s i).Out = -1) ∨ (0 ≤ (E m s i).To ∧ (E m s i).To < (m.Rows.length : Int) ∧ 0 ≤ (E m s i).Out) := by
 obtain ⟨r, h1, _, h2⟩ := h.rowAt hs
 exact h.edge r (List.mem_of_getElem? h1) _ (List.mem_of_getElem? (h2 i hi))
theorem WM.nx_in {p : Nat × Nat} {i : Nat} {q : Nat × Nat} (h1 : p.1 < m.Rows.length) (h2 : p.2 < m.Rows.length) (hi : i < kk m) (hq : nxP m m p i = some q) : q.1 < m.Rows.length ∧ q.2 < m.Rows.length := by
 unfold nxP at hq
 split at hq
 ·rename_i hc
  cases hq
  have a := h.edgeAt h1 hi
  have b := h.edgeAt h2 hi
  simp only
  omega
 ·cases hq
end
theorem z12 {m : z6} (h : WM m) {s t : Nat} (hs : s < m.Rows.length) (ht : t < m.Rows.length) {j : Nat} (hj : Mk (kk m) (Yj m m) (nxP m m) j (s, t)) : Mk (kk m) (Yj m m) (nxP m m) (m.Rows.length - 1) (s, t) := by
 refine Classical.byContradiction fun hno => ?_
 have same : ∀ {p : Nat × Nat} {i : Nat}, p.1 < m.Rows.length → p.2 < m.Rows.length → i < kk m → Yj m m p i = false → ((E m p.1 i).To ≥ 0 ↔ (E m p.2 i).To ≥ 0) := by
  intro p i h1 h2 hi hb
  have e : (E m p.1 i).Out = (E m p.2 i).Out := by simpa [Yj] using hb
  have a := h.edgeAt h1 hi
  have b := h.edgeAt h2 hi
  omega
 have symm : ∀ k s t, Mk (kk m) (Yj m m) (nxP m m) k (s, t) → Mk (kk m) (Yj m m) (nxP m m) k (t, s) := by
  intro k
  induction k with
  | zero => intro s t h; exact h
  | succ k ih =>
   rintro s t (h | ⟨i, hi, h | ⟨q, hq, h⟩⟩)
   ·exact .inl (ih _ _ h)
   ·exact .inr ⟨i, hi, .inl (by
     unfold Yj at h ⊢
     simp only [bne_iff_ne, ne_eq] at h ⊢
     exact fun e => h e.symm)⟩
   ·refine .inr ⟨i, hi, .inr ⟨(q.2, q.1), ?_, ih _ _ h⟩⟩
    unfold nxP at hq ⊢
    split at hq
    ·rename_i hc
     cases hq
     rw [if_pos ⟨hc.2, hc.1⟩]
    ·cases hq
 have trans : ∀ k s t u, s < m.Rows.length → t < m.Rows.length → u < m.Rows.length → Mk (kk m) (Yj m m) (nxP m m) k (s, u) → Mk (kk m) (Yj m m) (nxP m m) k (s, t) ∨ Mk (kk m) (Yj m m) (nxP m m) k (t, u) := by
  intro k
  induction k with
  | zero => intro s t u _ _ _ h; exact h.elim
  | succ k ih =>
   rintro s t u hs ht hu (g | ⟨i, hi, g | ⟨q, hq, g⟩⟩)
   ·rcases ih s t u hs ht hu g with g | g
    ·exact .inl (.inl g)
    ·exact .inr (.inl g)
   ·cases b1 : Yj m m (s, t) i with
    | true => exact .inl (.inr ⟨i, hi, .inl b1⟩)
    | false =>
     refine .inr (.inr ⟨i, hi, .inl ?_⟩)
     unfold Yj at b1 g ⊢
     simp only [bne_iff_ne, ne_eq, bne_eq_false_iff_eq] at b1 g ⊢
     rw [← b1]
     exact g
   ·cases b1 : Yj m m (s, t) i with
    | true => exact .inl (.inr ⟨i, hi, .inl b1⟩)
    | false =>
     cases b2 : Yj m m (t, u) i with
     | true => exact .inr (.inr ⟨i, hi, .inl b2⟩)
     | false =>
      have c1 := same (p := (s, t)) hs ht hi b1
      have c2 := same (p := (t, u)) ht hu hi b2
      simp only at c1 c2
      unfold nxP at hq
      split at hq
      ·rename_i hc
       cases hq
       simp only at hc g
       have e1 := h.edgeAt hs hi
       have e2 := h.edgeAt ht hi
       have e3 := h.edgeAt hu hi
       rcases ih (E m s i).To.toNat (E m t i).To.toNat (E m u i).To.toNat (by omega) (by omega) (by omega) g with g | g
       ·exact .inl (.inr ⟨i, hi, .inr ⟨_, by unfold nxP; rw [if_pos ⟨hc.1, by simp only; omega⟩], g⟩⟩)
       ·exact .inr (.inr ⟨i, hi, .inr ⟨_, by unfold nxP; rw [if_pos ⟨by simp only; omega, hc.2⟩], g⟩⟩)
      ·cases hq
 have refl : ∀ k s, ¬ Mk (kk m) (Yj m m) (nxP m m) k (s, s) := by
  intro k
  induction k with
  | zero => intro s h; exact h
  | succ k ih =>
   rintro s (g | ⟨i, hi, g | ⟨q, hq, g⟩⟩)
   ·exact ih s g
   ·simp [Yj] at g
   ·unfold nxP at hq
    split at hq
    ·cases hq; exact ih _ g
    ·cases hq
 exact zgV (N := m.Rows.length) h.len1 (fun k s t => ¬ Mk (kk m) (Yj m m) (nxP m m) k (s, t)) (fun k s t _ _ g q => g (symm k t s q)) (fun k s t u hs ht hu g1 g2 q => by
   rcases trans k s t u hs ht hu q with g | g
   ·exact g1 g
   ·exact g2 g) (fun k s _ => refl k s) (fun k s t _ _ g q => g (.inl q)) (fun k hk s t hs ht g q => by
   rcases q with q | ⟨i, hi, q | ⟨r, hr, q⟩⟩
   ·exact g q
   ·exact g (.inr ⟨i, hi, .inl q⟩)
   ·have hin := h.nx_in (p := (s, t)) hs ht hi hr
    have : Mk (kk m) (Yj m m) (nxP m m) k r := Classical.byContradiction fun c => hk r.1 r.2 hin.1 hin.2 c q
    exact g (.inr ⟨i, hi, .inr ⟨r, hr, this⟩⟩)) s t hs ht hno j hj
def nxE (m : z6) (s : Int) (i : Nat) : z8 := if s < 0 then ⟨-1, -1⟩ else E m s.toNat i
def rsp (m : z6) : Int → List Nat → List Int
 | _, [] => []
 | s, i :: w => (nxE m s i).Out :: rsp m (nxE m s i).To w
def aft (m : z6) : Int → List Nat → Int
 | s, [] => s
 | s, i :: w => aft m (nxE m s i).To w
theorem Jr (m : z6) : ∀ (w : List Nat) (s : Int) (i : Nat), rsp m s (w ++ [i]) = rsp m s w ++ [(nxE m (aft m s w) i).Out] ∧ aft m s (w ++ [i]) = (nxE m (aft m s w) i).To
 | [], s, i => ⟨rfl, rfl⟩
 | j :: w, s, i => by
  have := Jr m w (nxE m s j).To i
  simp only [List.cons_append, rsp, aft, this.1, this.2, and_self]
theorem z2R (m : z6) : ∀ (w : List Nat) (s : Int), (rsp m s w).length = w.length
 | [], _ => rfl
 | i :: w, s => by simp [rsp, z2R m w]
def z95 (m : z6) (s : Int) : Prop := -1 ≤ s ∧ s < (m.Rows.length : Int)
theorem zeZ {m : z6} (h : VM m) {s : Int} (hs : z95 m s) {i : Nat} (hi : i < kk m) : z95 m (nxE m s i).To := by
 unfold nxE
 have := h.len1
 by_cases h0 : s < 0
 ·rw [if_pos h0]
  unfold z95
  simp only
  omega
 ·rw [if_neg h0]
  have hl : s.toNat < m.Rows.length := by have := hs.2; omega
  have := h.edgeAt hl hi
  unfold z95
  omega
def SEq (m : z6) (s t : Nat) : Prop := ∀ w : List Nat, (∀ i ∈ w, i < kk m) → rsp m (s : Int) w = rsp m (t : Int) w
theorem Y7 (m : z6) (s i : Nat) : nxE m (s : Int) i = E m s i := by
 unfold nxE
 rw [if_neg (by omega), Int.toNat_natCast]
def zfX (k : Nat) : List Nat → Nat
 | [] => 0
 | d :: r => d + k * zfX k r
def GG (k : Nat) : Nat → Nat
 | 0 => 0
 | n + 1 => GG k n + k ^ n
def rk (k : Nat) (w : List Nat) : Nat := GG k w.length + zfX k w.reverse
def Wd (k : Nat) (w : List Nat) : Prop := ∀ i ∈ w, i < k
section
variable {m : z6}
theorem z93 (h : VM m) : ∀ (w : List Nat) (s : Int), z95 m s → Wd (kk m) w → z95 m (aft m s w)
 | [], s, hs, _ => hs
 | i :: w, s, hs, hw => z93 h w _ (zeZ h hs (hw i (by simp))) fun j hj => hw j (by simp [hj])
end
structure Acc (m : z6) (t : Nat) (v : List Nat) : Prop where
 wd : Wd (kk m) v
 len : v.length < m.Rows.length
 aft : aft m 0 v = (t : Int)
 least : ∀ u, Wd (kk m) u → Go.Own.aft m 0 u = (t : Int) → rk (kk m) v ≤ rk (kk m) u
def zdc (m : z6) (L : List Nat) : Prop := L.Pairwise fun s t => ∀ v w, Acc m s v → Acc m t w → rk (kk m) v < rk (kk m) w
structure zfV (m : z6) (F : List Nat) : Prop where
 sorted : zdc m F
 acc : ∀ t ∈ F, t < m.Rows.length ∧ ∃ v, Acc m t v
 dist : F.Pairwise fun s t => ¬ SEq m s t
 all : ∀ t v, t < m.Rows.length → Acc m t v → ∃ s ∈ F, SEq m s t ∧ ∃ w, Acc m s w ∧ rk (kk m) w ≤ rk (kk m) v
def Rch (m : z6) (t : Nat) : Prop := ∃ u, Wd (kk m) u ∧ aft m 0 u = (t : Int)
theorem z4J {out : List Bool} {j t : Nat} (hj : j < out.length) : (out.set j true)[t]? = some true ↔ t = j ∨ out[t]? = some true := by
 by_cases e : t = j
 ·subst e; simp [hj]
 ·rw [List.getElem?_set_ne (Ne.symm e)]
  exact ⟨.inr, fun q => q.resolve_left e⟩
section
variable {m : z6} (h : VM m)
include h
omit h in theorem rch_step {s i : Nat} (hs : Rch m s) (hi : i < kk m) (h0 : 0 ≤ (E m s i).To) : Rch m (E m s i).To.toNat := by
 obtain ⟨u, hu, e⟩ := hs
 refine ⟨u ++ [i], fun j hj => ?_, ?_⟩
 ·rcases List.mem_append.1 hj with q | q
  ·exact hu j q
  ·have : j = i := by simpa using q
   omega
 ·have := (Jr m u 0 i).2
  rw [e, Y7] at this
  rw [this]
  omega
end
def qL : List Int → List Int → Int
 | [], [] => 0
 | [], _ :: _ => -1
 | _ :: _, [] => 1
 | x :: a, y :: b => if x < y then -1 else if y < x then 1 else qL a b
def XV (a b : List Int) : Int := if a.length < b.length then -1 else if b.length < a.length then 1 else qL a b
theorem z5I : ∀ {a b : List Int}, qL a b = 0 → a = b
 | [], [], _ => rfl
 | [], _ :: _, h => by simp [qL] at h
 | _ :: _, [], h => by simp [qL] at h
 | x :: a, y :: b, h => by
  simp only [qL] at h
  split at h
  ·simp at h
  ·split at h
   ·simp at h
   ·rw [show x = y by omega, z5I h]
theorem z2c : ∀ a : List Int, qL a a = 0
 | [] => rfl
 | x :: a => by simp [qL, z2c a]
theorem z3O : ∀ a b : List Int, qL b a = - qL a b
 | [], [] => rfl
 | [], _ :: _ => rfl
 | _ :: _, [] => rfl
 | x :: a, y :: b => by
  simp only [qL]
  split
  ·rw [if_neg (by omega)]
  ·split
   ·rfl
   ·exact z3O a b
theorem z0k : ∀ {a b c : List Int}, qL a b < 0 → qL b c < 0 → qL a c < 0
 | [], [], _, h, _ => by simp [qL] at h
 | [], _ :: _, [], _, h => by simp [qL] at h
 | [], _ :: _, _ :: _, _, _ => by simp [qL]
 | _ :: _, [], _, h, _ => by simp [qL] at h
 | _ :: _, _ :: _, [], _, h => by simp [qL] at h
 | x :: a, y :: b, z :: c, h1, h2 => by
  simp only [qL] at h1 h2 ⊢
  by_cases e1 : x < y
  ·by_cases e2 : y < z
   ·rw [if_pos (by omega)]; omega
   ·rw [if_neg e2] at h2
    by_cases e3 : z < y
    ·rw [if_pos e3] at h2; omega
    ·rw [if_pos (by omega)]; omega
  ·rw [if_neg e1] at h1
   by_cases e3 : y < x
   ·rw [if_pos e3] at h1; omega
   ·rw [if_neg e3] at h1
    have : x = y := by omega
    subst this
    by_cases e2 : x < z
    ·rw [if_pos e2]; omega
    ·rw [if_neg e2] at h2 ⊢
     by_cases e4 : z < x
     ·rw [if_pos e4] at h2; omega
     ·rw [if_neg e4] at h2 ⊢
      exact z0k h1 h2
theorem z3b {a b : List Int} (h : XV a b = 0) : a = b := by
 unfold XV at h
 split at h
 ·simp at h
 ·split at h
  ·simp at h
  ·exact z5I h
theorem Kt (a : List Int) : XV a a = 0 := by simp [XV, z2c]
theorem z44 {a b : List Int} : XV a b = 0 ↔ a = b := ⟨z3b, fun h => h ▸ Kt a⟩
theorem z43 (a b : List Int) : XV b a = - XV a b := by
 unfold XV
 by_cases h1 : a.length < b.length
 ·rw [if_pos h1, if_neg (by omega), if_pos h1]; rfl
 ·by_cases h2 : b.length < a.length
  ·rw [if_pos h2, if_neg h1, if_pos h2]
  ·rw [if_neg h1, if_neg h2, if_neg h2, if_neg h1, z3O]
theorem WZ {a b c : List Int} (h1 : XV a b < 0) (h2 : XV b c < 0) : XV a c < 0 := by
 unfold XV at *
 by_cases e1 : a.length < b.length
 ·by_cases e2 : b.length < c.length
  ·rw [if_pos (by omega)]; omega
  ·rw [if_neg e2] at h2
   by_cases e3 : c.length < b.length
   ·rw [if_pos e3] at h2; omega
   ·rw [if_pos (by omega)]; omega
 ·rw [if_neg e1] at h1
  by_cases e3 : b.length < a.length
  ·rw [if_pos e3] at h1; omega
  ·rw [if_neg e3] at h1
   have e : a.length = b.length := by omega
   rw [e]
   by_cases e2 : b.length < c.length
   ·rw [if_pos e2]; omega
   ·rw [if_neg e2] at h2 ⊢
    by_cases e4 : c.length < b.length
    ·rw [if_pos e4] at h2; omega
    ·rw [if_neg e4] at h2 ⊢
     exact z0k h1 h2
theorem z1e (a : List Int) : ¬ XV a a < 0 := by rw [Kt]; omega
theorem z6a {a b : List Int} (h : XV a b < 0) : ¬ XV b a < 0 := by rw [z43 a b]; omega
theorem z3a {a b : List Int} : ¬ XV a b < 0 ↔ XV b a < 0 ∨ a = b := by
 rw [← z44, z43 a b]; omega
def SW (l : List (List Int)) : Prop := l.Pairwise fun a b => XV a b < 0
theorem SW.nil : SW [] := List.Pairwise.nil
theorem SW.tail {x : List Int} {l : List (List Int)} (h : SW (x :: l)) : SW l := (List.pairwise_cons.1 h).2
theorem SW.head {x : List Int} {l : List (List Int)} (h : SW (x :: l)) : ∀ y ∈ l, XV x y < 0 := (List.pairwise_cons.1 h).1
theorem SW.unique : ∀ {l m : List (List Int)}, SW l → SW m → (∀ x, x ∈ l ↔ x ∈ m) → l = m
 | [], [], _, _, _ => rfl
 | [], y :: m, _, _, h => by have := (h y).2 (by simp); simp at this
 | x :: l, [], _, _, h => by have := (h x).1 (by simp); simp at this
 | x :: l, y :: m, h1, h2, h => by
  have hxy : x = y := by
   rcases List.mem_cons.1 ((h x).1 (by simp)) with e | e
   ·exact e
   ·rcases List.mem_cons.1 ((h y).2 (by simp)) with e' | e'
    ·exact e'.symm
    ·exact absurd (h2.head x e) (z6a (h1.head y e'))
  subst hxy
  rw [SW.unique h1.tail h2.tail fun z => ?_]
  constructor
  ·intro hz
   rcases List.mem_cons.1 ((h z).1 (by simp [hz])) with e | e
   ·subst e; exact absurd (h1.head _ hz) (z1e _)
   ·exact e
  ·intro hz
   rcases List.mem_cons.1 ((h z).2 (by simp [hz])) with e | e
   ·subst e; exact absurd (h2.head _ hz) (z1e _)
   ·exact e
def z2C (w : List Int) : List (List Int) → List (List Int)
 | [] => [w]
 | x :: l => if XV x w < 0 then x :: z2C w l else if XV x w = 0 then x :: l else w :: x :: l
theorem z14 {w x : List Int} : ∀ {l : List (List Int)}, x ∈ z2C w l ↔ x = w ∨ x ∈ l
 | [] => by simp [z2C]
 | y :: l => by
  simp only [z2C]
  split
  ·simp only [List.mem_cons, z14]
   constructor
   ·rintro (h | h | h) <;> simp [h]
   ·rintro (h | h | h) <;> simp [h]
  ·split
   ·rename_i h1 h2
    have := z3b h2
    subst this
    simp
   ·simp
theorem SW.put {w : List Int} : ∀ {l : List (List Int)}, SW l → SW (z2C w l)
 | [], _ => by simp [z2C, SW]
 | y :: l, h => by
  simp only [z2C]
  split
  ·rename_i h1
   refine List.pairwise_cons.2 ⟨fun z hz => ?_, SW.put h.tail⟩
   rcases z14.1 hz with rfl | hz
   ·exact h1
   ·exact h.head z hz
  ·split
   ·exact h
   ·rename_i h1 h2
    have hw : XV w y < 0 := by
     rcases z3a.1 h1 with q | q
     ·exact q
     ·exact absurd (z44.2 q) h2
    refine List.pairwise_cons.2 ⟨fun z hz => ?_, h⟩
    rcases List.mem_cons.1 hz with rfl | hz
    ·exact hw
    ·exact WZ hw (h.head z hz)
theorem z3G (w : List Int) : ∀ l, (z2C w l).length ≤ l.length + 1
 | [] => by simp [z2C]
 | y :: l => by
  simp only [z2C]
  split
  ·have := z3G w l; simp; omega
  ·split <;> simp
def srt (l : List (List Int)) : List (List Int) := l.foldl (fun m w => z2C w m) []
theorem z2L : ∀ (l m : List (List Int)), SW m → SW (l.foldl (fun m w => z2C w m) m) ∧ ∀ x, x ∈ l.foldl (fun m w => z2C w m) m ↔ x ∈ m ∨ x ∈ l
 | [], m, h => ⟨h, by simp⟩
 | w :: l, m, h => by
  obtain ⟨h1, h2⟩ := z2L l (z2C w m) h.put
  refine ⟨h1, fun x => ?_⟩
  rw [List.foldl_cons, h2, z14]
  simp only [List.mem_cons]
  constructor
  ·rintro ((h | h) | h) <;> simp [h]
  ·rintro (h | h | h) <;> simp [h]
theorem z8z (l : List (List Int)) : SW (srt l) := (z2L l [] .nil).1
theorem z13 {l : List (List Int)} {x : List Int} : x ∈ srt l ↔ x ∈ l := by rw [srt, (z2L l [] .nil).2]; simp
theorem z3q {l m : List (List Int)} (h : SW m) (hm : ∀ x, x ∈ m ↔ x ∈ l) : m = srt l := h.unique (z8z l) fun x => by rw [hm, z13]
theorem z1F {l : List (List Int)} (h : SW l) : srt l = l := (z3q h fun _ => .rfl).symm
theorem z4U {l m : List (List Int)} (h : ∀ x, x ∈ l ↔ x ∈ m) : srt l = srt m := z3q (z8z l) fun x => by rw [z13, h]
theorem z4T (l : List (List Int)) : (srt l).length ≤ l.length := by
 have : ∀ (l m : List (List Int)), (l.foldl (fun m w => z2C w m) m).length ≤ m.length + l.length := by
  intro l
  induction l with
  | nil => intro m; simp
  | cons w l ih => intro m; have := ih (z2C w m); have := z3G w m; simp only [List.foldl_cons, List.length_cons]; omega
 have q := this l []
 simp only [List.length_nil, Nat.zero_add] at q
 exact q
theorem xj {α : Type} {l : List α} {i : Nat} {x : α} (h : l[i]? = some x) : idx l (i : Int) = some x := h
theorem z8Y (b : List Int) (g : Nat → Int → Option Int) (hg : ∀ i x y, b[i]? = some y → g i x = if x < y then some (-1) else if y < x then some 1 else none) :
  ∀ (a : List Int) (k : Nat), k + a.length = b.length → (xL g a k).getD 0 = qL a (b.drop k)
 | [], k, h => by
  have : b.drop k = [] := List.drop_eq_nil_of_le (by simp at h; omega)
  rw [this]; rfl
 | x :: a, k, h => by
  simp only [List.length_cons] at h
  have hk : k < b.length := by omega
  rw [List.drop_eq_getElem_cons hk]
  simp only [xL, qL, hg k x b[k] (List.getElem?_eq_getElem hk)]
  by_cases h1 : x < b[k]
  ·simp [h1]
  ·by_cases h2 : b[k] < x
   ·simp [h1, h2]
   ·simp only [h1, h2, if_false]
    exact z8Y b g hg a (k + 1) (by omega)
def cI (x y : Int) : Int := if x < y then -1 else if y < x then 1 else 0
theorem z69 (x y : Int) : uf x y = some (cI x y) := by
 unfold uf kc cI
 simp only [bne_self_eq_false, Option.bind_some, cond_false]
 by_cases h1 : x < y
 ·simp [h1]
 ·by_cases h2 : y < x
  ·simp [h1, h2]
  ·simp [h1, h2]
theorem z9V (a b : List Int) (h : a.length < 4611686018427387904) : ∃ c, xT a b = some c ∧ (a.length = b.length → c = qL a b) := by
 unfold xT
 have hloop := qK a h (step := fun s => yl a b s) (fun i x => match b[i]? with | some y => if x < y then some (-1 : Int) else if y < x then some 1 else none | none => some 1) (by
  intro i x hx
  have hi : i < a.length := (List.getElem?_eq_some_iff.1 hx).1
  unfold yl
  have hc : decide ((i : Int) < (a.length : Int)) = true := by simpa using hi
  simp only [hc, cond_true, xj hx, Option.bind_some]
  by_cases hb : i < b.length
  ·have hy : b[i]? = some b[i] := List.getElem?_eq_getElem hb
   have hd : decide ((i : Int) ≥ (b.length : Int)) = false := by simp; omega
   simp only [hd, cond_false, xj hy, hy, Option.bind_some, z69]
   unfold cI
   by_cases h1 : x < b[i]
   ·simp [h1, nS]
   ·by_cases h2 : b[i] < x
    ·simp [h1, h2, nS]
    ·simp [h1, h2, nS]
  ·have hy : b[i]? = none := List.getElem?_eq_none (by omega)
   have hd : decide ((i : Int) ≥ (b.length : Int)) = true := by simp; omega
   simp only [hd, cond_true, hy, nS]) (by unfold yl; simp)
 rw [bdT hloop]
 have q := fun hl => z8Y b (fun i x => match b[i]? with | some y => if x < y then some (-1 : Int) else if y < x then some 1 else none | none => some 1) (fun i x y hy => by simp only [hy]) a 0 hl
 cases hf : xL (fun i x => match b[i]? with | some y => if x < y then some (-1 : Int) else if y < x then some 1 else none | none => some 1) a 0 with
 | some r =>
  refine ⟨r, rfl, fun hl => ?_⟩
  have := q (by omega)
  rw [hf] at this
  simpa using this
 | none =>
  unfold w8
  by_cases hl : a.length < b.length
  ·refine ⟨-1, by simp [oS, hl], fun hl2 => by omega⟩
  ·refine ⟨0, by simp [oS, hl], fun hl2 => ?_⟩
   have := q (by omega)
   rw [hf] at this
   simpa using this
theorem zhe (x y : Int) : Xg [x, y] = some (if x = 0 then y else x) := by
 unfold Xg
 rw [bdT (qK [x, y] (by simp) (step := fun s => j8 [x, y] s) (fun i v => if v ≠ 0 then some v else none) ?_ ?_)]
 ·by_cases h1 : x = 0
  ·by_cases h2 : y = 0
   ·simp [xL, h1, h2, oS, ZB]
   ·simp [xL, h1, h2, oS]
  ·simp [xL, h1, oS]
 ·intro i v hv
  have hi : i < [x, y].length := (List.getElem?_eq_some_iff.1 hv).1
  unfold j8
  have hc : decide ((i : Int) < (([x, y] : List Int).length : Int)) = true := by simp only [decide_eq_true_eq]; omega
  simp only [hc, cond_true, xj hv, Option.bind_some]
  by_cases h : v = 0
  ·simp [h, nS]
  ·have hb : (v != 0) = true := by simpa using h
   simp [h, hb, nS]
 ·unfold j8; simp
theorem z0z (a b : List Int) (h : a.length < 4611686018427387904) : xw a b = some (XV a b) := by
 unfold xw
 obtain ⟨c, hc, hl⟩ := z9V a b h
 rw [z69, hc]
 simp only [Option.bind_some, zhe]
 unfold cI XV
 by_cases h1 : a.length < b.length
 ·simp [h1]
 ·by_cases h2 : b.length < a.length
  ·simp [h1, h2]
  ·simp [h1, h2, hl (by omega)]
def wE (n : Int) (w : List Int) : Int := if 256 < w.length then 3 else if w.any (fun c => decide (c < 0) || decide (n ≤ c)) then 1 else 0
theorem z2G {n : Int} {w : List Int} : wE n w = 0 ↔ w.length ≤ 256 ∧ ∀ c ∈ w, 0 ≤ c ∧ c < n := by
 unfold wE
 by_cases h : 256 < w.length
 ·rw [if_pos h]
  exact ⟨fun q => by simp at q, fun q => by omega⟩
 ·rw [if_neg h]
  by_cases h2 : w.any (fun c => decide (c < 0) || decide (n ≤ c)) = true
  ·rw [if_pos h2]
   simp only [List.any_eq_true, Bool.or_eq_true, decide_eq_true_eq] at h2
   obtain ⟨c, h3, h4⟩ := h2
   refine ⟨fun q => by simp at q, fun q => ?_⟩
   have := q.2 c h3
   omega
  ·rw [if_neg h2]
   simp only [List.any_eq_true, Bool.or_eq_true, decide_eq_true_eq, not_exists, not_and, not_or] at h2
   refine ⟨fun _ => ⟨by omega, fun c hc => ?_⟩, fun _ => rfl⟩
   have := h2 c hc
   omega
theorem z8Z {ρ : Type} (p : Int → Bool) (g : Nat → Int → Option ρ) (hg : ∀ i x, (g i x).isSome = p x) : ∀ (w : List Int) (k : Nat), (xL g w k).isSome = w.any p
 | [], k => rfl
 | x :: w, k => by
  simp only [xL, List.any_cons]
  have := hg k x
  cases hx : g k x with
  | some r => rw [hx] at this; simp at this; simp [← this]
  | none => rw [hx] at this; simp at this; rw [this, Bool.false_or]; exact z8Z p g hg w (k + 1)
theorem z1A (n : Int) (w : List Int) : qq w n = some (if 16 < n then 3 else if 256 < w.length then 3 else if n < 1 then 1 else wE n w) := by
 unfold qq
 by_cases h0 : 16 < n
 ·simp [h0]
 by_cases h : 256 < w.length
 ·have h' : (256 : Int) < (w.length : Int) := by omega
  simp [h0, h, h']
 by_cases h1 : n < 1
 ·have h' : ¬ (256 : Int) < (w.length : Int) := by omega
  simp [h0, h, h', h1]
 ·have hd : decide (((w.length : Nat) : Int) > 256) = false := by simp; omega
  have hd0 : decide (n > 16) = false := by simp; omega
  have hd1 : decide (n < 1) = false := by simp; omega
  simp only [hd, hd0, hd1, cond_false, if_neg h, if_neg h0, if_neg h1]
  unfold xJ wq wE
  have hl := qK w (by omega) (step := fun s => ya w n s) (fun i c => if c < 0 ∨ n ≤ c then some (i : Int) else none) (by
   intro i c hc
   have hi : i < w.length := (List.getElem?_eq_some_iff.1 hc).1
   unfold ya Zw
   have hq : decide ((i : Int) < (w.length : Int)) = true := by simpa using hi
   simp only [hq, cond_true, xj hc, Option.bind_some]
   by_cases h1 : c < 0
   ·simp [h1, nS]
   ·by_cases h2 : n ≤ c
    ·simp [h1, h2, nS]
    ·simp [h1, h2, nS]) (by unfold ya; simp)
  rw [bdT hl, if_neg h]
  have q := z8Z (fun c => decide (c < 0) || decide (n ≤ c)) (fun i c => if c < 0 ∨ n ≤ c then some (i : Int) else none) (fun i c => by by_cases h : c < 0 ∨ n ≤ c <;> simp [h] <;> simpa using h) w 0
  cases hf : xL (fun i c => if c < 0 ∨ n ≤ c then some (i : Int) else none) w 0 with
  | none => rw [hf] at q; rw [← q]; rfl
  | some r =>
   rw [hf] at q
   obtain ⟨i, x, h1, h2⟩ := kH hf
   rw [← q]
   split at h2
   ·cases h2
    simp [oS]
   ·cases h2
def eS (e : Int) : Option Int := if e = 0 then none else some e
def loE (n : Int) (l : List (List Int)) : Int := if 16 < n then 3 else if 4096 < l.length then 3 else if n < 1 then 1 else (xL (fun _ w => eS (wE n w)) l 0).getD 0
theorem z3X {n : Int} : ∀ {l : List (List Int)} {k : Nat}, (xL (fun _ w => eS (wE n w)) l k).getD 0 = 0 ↔ ∀ w ∈ l, wE n w = 0
 | [], _ => by simp [xL]
 | w :: l, k => by
  by_cases h : wE n w = 0
  ·have : eS (wE n w) = none := by simp [eS, h]
   simp only [xL, this]
   rw [z3X]
   simp [h]
  ·have : eS (wE n w) = some (wE n w) := by simp [eS, h]
   simp [xL, this, h]
theorem z7R {n : Int} {l : List (List Int)} : loE n l = 0 ↔ (1 ≤ n ∧ n ≤ 16) ∧ l.length ≤ 4096 ∧ ∀ w ∈ l, w.length ≤ 256 ∧ ∀ c ∈ w, 0 ≤ c ∧ c < n := by
 unfold loE
 by_cases h0 : 16 < n
 ·rw [if_pos h0]; exact ⟨fun q => by simp at q, fun q => by omega⟩
 by_cases h1 : 4096 < l.length
 ·rw [if_neg h0, if_pos h1]; exact ⟨fun q => by simp at q, fun q => by omega⟩
 by_cases h2 : n < 1
 ·rw [if_neg h0, if_neg h1, if_pos h2]; exact ⟨fun q => by simp at q, fun q => by omega⟩
 rw [if_neg h0, if_neg h1, if_neg h2, z3X]
 constructor
 ·intro q; exact ⟨by omega, by omega, fun w hw => z2G.1 (q w hw)⟩
 ·intro q w hw; exact z2G.2 (q.2.2 w hw)
theorem z7L (l : List (List Int)) (n : Int) : ku l n = some (loE n l) := by
 unfold ku loE
 by_cases h0 : 16 < n
 ·simp [h0]
 by_cases h1 : 4096 < l.length
 ·have h' : (4096 : Int) < (l.length : Int) := by omega
  simp [h0, h1, h']
 by_cases h2 : n < 1
 ·have h' : ¬ (4096 : Int) < (l.length : Int) := by omega
  simp [h0, h1, h2, h']
 have d0 : decide (n > 16) = false := by simp; omega
 have d1 : decide (((l.length : Nat) : Int) > 4096) = false := by simp; omega
 have d2 : decide (n < 1) = false := by simp; omega
 simp only [d0, d1, d2, cond_false, if_neg h0, if_neg h1, if_neg h2]
 rw [bdT (qK l (by omega) (step := fun s => uT l n s) (fun _ w => eS (wE n w)) ?_ ?_)]
 ·cases xL (fun _ w => eS (wE n w)) l 0 <;> rfl
 ·intro i w hw
  have hi : i < l.length := (List.getElem?_eq_some_iff.1 hw).1
  have hq : decide ((i : Int) < (l.length : Int)) = true := by simpa using hi
  have he : qq w n = some (wE n w) := by
   rw [z1A, if_neg h0, if_neg h2]
   by_cases h : 256 < w.length
   ·rw [if_pos h]; unfold wE; rw [if_pos h]
   ·rw [if_neg h]
  unfold uT
  simp only [hq, cond_true, xj hw, Option.bind_some, he]
  by_cases hz : wE n w = 0
  ·simp [hz, eS, nS]
  ·have hb : (wE n w != 0) = true := by simpa using hz
   simp [hz, hb, eS, nS]
 ·unfold uT; simp
theorem z7M (l : List (List Int)) (hl : l.length < 4611686018427387904) {step : Int × Int → Option (LR (Int × Int) Int)}
  (h : ∀ (n : Int) (i : Nat) (x : List Int), l[i]? = some x → step (n, (i : Int)) = some (.next (w64 (n + ((x.length : Nat) : Int)), w64 ((i : Int) + 1)))) (h2 : ∀ n, step (n, (l.length : Int)) = some (.done n)) :
  loop step (0, 0) = some (l.foldl (fun n x => w64 (n + ((x.length : Nat) : Int))) 0) := by
 have gen : ∀ (m k : Nat) (n : Int), k ≤ l.length → l.length - k < m → UH step m (n, (k : Int)) = some ((l.drop k).foldl (fun n x => w64 (n + ((x.length : Nat) : Int))) n) := by
  intro m
  induction m with
  | zero => intro k n _ h; omega
  | succ m ih =>
   intro k n hk hn
   rw [WW]
   rcases Nat.lt_or_ge k l.length with hlt | hge
   ·have hx : l[k]? = some l[k] := List.getElem?_eq_getElem hlt
    rw [h n k _ hx, List.drop_eq_getElem_cons hlt]
    simp only [List.foldl_cons]
    rw [xS (x := (k : Int) + 1) (by omega) (by omega)]
    exact ih (k + 1) _ hlt (by omega)
   ·have : k = l.length := by omega
    subst this
    rw [h2, List.drop_length]
    rfl
 exact gen fuel 0 0 (Nat.zero_le _) (by show l.length - 0 < 18446744073709551616; omega)
def stW (l : List (List Int)) : Int := l.foldl (fun n x => w64 (n + ((x.length : Nat) : Int))) 0
theorem z7d (l : List (List Int)) (hl : l.length < 4611686018427387904) : kr l = some (stW l) := by
 unfold kr
 rw [bdT (z7M l hl (step := fun s => uR l s.1 s.2) ?_ ?_)]
 ·rfl
 ·intro n i x hx
  have hi : i < l.length := (List.getElem?_eq_some_iff.1 hx).1
  have hq : decide ((i : Int) < (l.length : Int)) = true := by simpa using hi
  unfold uR
  simp only [hq, cond_true, xj hx, Option.bind_some]
 ·intro n; unfold uR; simp
def z04 (l : List (List Int)) : Nat := (l.map List.length).sum
theorem zbJ {l : List (List Int)} (h : z04 l < 4611686018427387904) : stW l = (z04 l : Int) := by
 have gen : ∀ (l : List (List Int)) (n : Nat), n + z04 l < 4611686018427387904 → l.foldl (fun n x => w64 (n + ((x.length : Nat) : Int))) (n : Int) = ((n + z04 l : Nat) : Int) := by
  intro l
  induction l with
  | nil => intro n _; simp [z04]
  | cons x l ih =>
   intro n hn
   have hs : z04 (x :: l) = x.length + z04 l := by simp [z04]
   rw [hs] at hn ⊢
   rw [List.foldl_cons, xS (by omega) (by omega), ← Int.natCast_add, ih (n + x.length) (by omega)]
   congr 1; omega
 have := gen l 0 (by omega)
 simpa [stW] using this
theorem z4N {l : List (List Int)} {m : Nat} (h : ∀ w ∈ l, w.length ≤ m) : z04 l ≤ l.length * m := by
 induction l with
 | nil => simp [z04]
 | cons x l ih =>
  have hs : z04 (x :: l) = x.length + z04 l := by simp [z04]
  have h1 := h x (by simp)
  have h2 := ih fun w hw => h w (by simp [hw])
  rw [hs, List.length_cons, Nat.add_mul]
  omega
instance (l : List (List Int)) : Decidable (SW l) := by unfold SW; infer_instance
def chE (n : Int) (l : List (List Int)) : Int := if loE n l ≠ 0 then loE n l else if SW l then (if 65536 < z04 l then 3 else 0) else 1
theorem zaC (w : List Int) : y4 w = some w := by
 unfold y4
 rw [gdT (by omega)]
 simp
theorem z8d (w : List Int) (h : w.length ≤ 4294967296) : ym w = some w := by
 unfold ym
 rw [gdT (by simpa using h)]
theorem z3y (a b : List Int) (h : a.length < 4611686018427387904) : uS a b = some (decide (a = b)) := by
 unfold uS
 rw [z0z a b h]
 simp only [Option.bind_some]
 by_cases e : a = b
 ·subst e; simp [Kt]
 ·have : XV a b ≠ 0 := fun q => e (z3b q)
  simp [e, this]
def QW (l : List (List Int)) : Prop := l.Pairwise fun a b => ¬ XV b a < 0
theorem YN {α : Type} {l : List α} {n : Nat} {x : α} : x ∈ l.take n ↔ ∃ i, i < n ∧ l[i]? = some x := by
 rw [List.mem_iff_getElem?]
 constructor
 ·rintro ⟨i, h⟩
  rw [List.getElem?_take] at h
  split at h
  ·exact ⟨i, by omega, h⟩
  ·cases h
 ·rintro ⟨i, h1, h2⟩
  exact ⟨i, by rw [List.getElem?_take, if_pos h1]; exact h2⟩
theorem z4O {l : List (List Int)} {x : List Int} (h : SW l) (hx : ∀ y ∈ l, XV y x < 0) : SW (l ++ [x]) := by
 unfold SW
 rw [List.pairwise_append]
 exact ⟨h, by simp, fun a ha b hb => by simp at hb; subst hb; exact hx a ha⟩
section
variable {s : List (List Int)} (hq : QW s) (hl : s.length ≤ 4294967296) (hw : ∀ w ∈ s, w.length < 4611686018427387904)
include hq hl hw
omit hl hw in
theorem z7D {i j : Nat} {x y : List Int} (hi : s[i]? = some x) (hj : s[j]? = some y) (h : i ≤ j) : XV x y < 0 ∨ x = y := by
 rcases Nat.lt_or_ge i j with h | h
 ·have := (List.pairwise_iff_getElem.1 hq) i j (List.getElem?_eq_some_iff.1 hi).1 (List.getElem?_eq_some_iff.1 hj).1 h
  rw [(List.getElem?_eq_some_iff.1 hi).2, (List.getElem?_eq_some_iff.1 hj).2] at this
  rcases z3a.1 this with q | q
  ·exact .inl q
  ·exact .inr q.symm
 ·have : i = j := by omega
  subst this
  rw [hi] at hj
  exact .inr (by simpa using hj)
theorem z2v {k : Nat} (h1 : 1 ≤ k) (hk : k < s.length) (hd : s[k - 1]? = s[k]?) (hs : SW (s.take k)) :
  Ret (Option.bind (loop (fun q => zT (k : Int) q.1 q.2.1 q.2.2) (s, (k : Int), 1)) fun t => zV t.1 t.2) fun r => r = .done (.inr (srt s)) := by
 rw [zP]
 refine Ret.mono (wK (fun q => ∃ kk k2 : Nat, q.2.1 = (kk : Int) ∧ q.2.2 = (k2 : Int) ∧ 1 ≤ k2 ∧ k + k2 ≤ s.length ∧ kk < k + k2 ∧ q.1.length = s.length ∧ (∀ i, kk ≤ i → q.1[i]? = s[i]?) ∧ SW (q.1.take kk) ∧ ∀ x, x ∈ q.1.take kk ↔ x ∈ s.take (k + k2)) (fun q => s.length - q.2.2.toNat) (R := fun t => ∃ kk : Nat, t.2 = (kk : Int) ∧ kk ≤ s.length ∧ t.1.length = s.length ∧ t.1.take kk = srt s) ?_ ?_ ?_) ?_
 ·refine ⟨k, 1, rfl, rfl, Nat.le_refl _, hk, by omega, rfl, fun _ _ => rfl, hs, fun x => ?_⟩
  rw [YN, YN]
  constructor
  ·rintro ⟨i, h2, h3⟩; exact ⟨i, by omega, h3⟩
  ·rintro ⟨i, h2, h3⟩
   rcases Nat.lt_or_ge i k with h | h
   ·exact ⟨i, h, h3⟩
   ·have : i = k := by omega
    subst this
    exact ⟨i - 1, by omega, by rw [hd]; exact h3⟩
 ·show s.length - _ < _
  omega
 ·rintro ⟨S, a, b⟩ ⟨kk, k2, rfl, rfl, g1, g2, g3, g4, g5, g6, g7⟩
  simp only at g4 g5 g6 g7
  show Ret (zT (k : Int) S (kk : Int) (k2 : Int)) _
  unfold zT
  rw [yz]
  refine ⟨fun hc => ?_, fun hc => ?_⟩
  ·have hlt : k2 < s.length - k := by rw [g4] at hc; simpa using hc
   have e1 : s[k + k2]? = some s[k + k2] := List.getElem?_eq_getElem (by omega)
   have e2 : s[k + k2 - 1]? = some s[k + k2 - 1] := List.getElem?_eq_getElem (by omega)
   have f1 : idx S ((k : Int) + (k2 : Int)) = some s[k + k2] := by
    rw [← Int.natCast_add, yU, g5 _ (by omega), e1]
   have f2 : idx S ((k : Int) + w64 ((k2 : Int) - 1)) = some s[k + k2 - 1] := by
    rw [xS (by omega) (by omega), show (k : Int) + ((k2 : Int) - 1) = ((k + k2 - 1 : Nat) : Int) by omega, yU, g5 _ (by omega), e2]
   rw [gdT (by omega), f1]
   simp only [Option.bind_some]
   rw [gdT (by rw [xS (by omega) (by omega)]; omega), f2]
   simp only [Option.bind_some]
   rw [z3y _ _ (hw _ (List.getElem_mem (by omega)))]
   simp only [Option.bind_some]
   have hk2 : w64 ((k2 : Int) + 1) = ((k2 + 1 : Nat) : Int) := by rw [xS (by omega) (by omega)]; omega
   by_cases he : s[k + k2] = s[k + k2 - 1]
   ·simp only [he, decide_true, Bool.not_true, cond_false]
    unfold zU
    rw [hk2, zl]
    refine ⟨⟨kk, k2 + 1, rfl, rfl, by omega, by omega, by omega, g4, g5, g6, fun x => ?_⟩, by simp only [Int.toNat_natCast]; omega⟩
    rw [g7, YN, YN]
    constructor
    ·rintro ⟨i, h2, h3⟩; exact ⟨i, by omega, h3⟩
    ·rintro ⟨i, h2, h3⟩
     rcases Nat.lt_or_ge i (k + k2) with h | h
     ·exact ⟨i, h, h3⟩
     ·have : i = k + k2 := by omega
      subst this
      exact ⟨k + k2 - 1, by omega, by rw [e2, ← he, ← e1]; exact h3⟩
   ·simp only [he, decide_false, Bool.not_false, cond_true]
    rw [gdT (by omega)]
    have e3 : idx S (kk : Int) = some s[kk] := by rw [yU, g5 _ (Nat.le_refl _), List.getElem?_eq_getElem (by omega)]
    rw [e3]
    simp only [Option.bind_some]
    unfold zU
    rw [hk2, xS (x := (kk : Int) + 1) (by omega) (by omega), zl]
    have hset : (S.set ((kk : Int).toNat) s[k + k2]).take (kk + 1) = S.take kk ++ [s[k + k2]] := by
     rw [Int.toNat_natCast, List.take_add_one, List.take_set_of_le (Nat.le_refl _), List.getElem?_set_self (by omega)]
     rfl
    refine ⟨⟨kk + 1, k2 + 1, rfl, rfl, by omega, by omega, by omega, by simp [g4], fun i hi => ?_, ?_, fun x => ?_⟩, by simp only [Int.toNat_natCast]; omega⟩
    ·simp only
     rw [List.getElem?_set_ne (by omega), g5 _ (by omega)]
    ·simp only
     rw [hset]
     refine z4O g6 fun y hy => ?_
     obtain ⟨i, h2, h3⟩ := YN.1 ((g7 y).1 hy)
     have hlast : XV s[k + k2 - 1] s[k + k2] < 0 := by
      rcases z7D hq e2 e1 (by omega) with q | q
      ·exact q
      ·exact absurd q.symm he
     rcases z7D hq h3 e2 (by omega) with q | q
     ·exact WZ q hlast
     ·rw [q]; exact hlast
    ·simp only
     rw [hset, List.mem_append, g7, YN, YN]
     constructor
     ·rintro (⟨i, h2, h3⟩ | h)
      ·exact ⟨i, by omega, h3⟩
      ·simp at h; subst h; exact ⟨k + k2, by omega, e1⟩
     ·rintro ⟨i, h2, h3⟩
      rcases Nat.lt_or_ge i (k + k2) with h | h
      ·exact .inl ⟨i, h, h3⟩
      ·have : i = k + k2 := by omega
       subst this
       rw [e1] at h3
       exact .inr (by simpa using h3.symm)
  ·have hge : s.length - k ≤ k2 := by rw [g4] at hc; simpa using hc
   have hkk : k + k2 = s.length := by omega
   rw [zl]
   refine ⟨kk, rfl, by omega, g4, z3q g6 fun x => ?_⟩
   rw [g7, hkk, List.take_length]
 ·rintro ⟨S, a⟩ ⟨kk, rfl, h1, h2, h3⟩
  simp only at h2 h3
  show Ret (zV S (kk : Int)) _
  unfold zV
  have hlen : (S.take (kk : Int).toNat ++ List.replicate (S.length - (kk : Int).toNat) ([] : List Int)).length = S.length := by simp [List.length_take]; omega
  rw [gdT (by omega), gdT (by omega), gdT (by rw [hlen]; omega), zl]
  simp only [Int.toNat_natCast]
  rw [List.take_left' (by rw [List.length_take]; omega), h3]
theorem z4w : yI s () = some (srt s) := by
 unfold yI
 by_cases h2 : s.length < 2
 ·have hd : decide (((s.length : Nat) : Int) < 2) = true := by simp; omega
  simp only [hd, cond_true]
  rw [z1F]
  match s, h2 with
  | [], _ => exact SW.nil
  | [x], _ => simp [SW]
 ·have hd : decide (((s.length : Nat) : Int) < 2) = false := by simp; omega
  simp only [hd, cond_false]
  apply Ret.eq
  rw [zP]
  refine Ret.mono (wK (fun q : Int => ∃ j : Nat, q = (j : Int) ∧ 1 ≤ j ∧ j ≤ s.length ∧ SW (s.take j)) (fun q => s.length - q.toNat) (R := fun t : Unit ⊕ List (List Int) => match t with | .inl _ => srt s = s | .inr p => p = srt s) ?_ ?_ ?_) ?_
  ·refine ⟨1, rfl, Nat.le_refl _, by omega, ?_⟩
   match s, h2 with
   | [], h2 => simp at h2
   | x :: l, _ => simp [SW]
  ·show s.length - _ < _
   omega
  ·rintro _ ⟨j, rfl, g1, g2, g3⟩
   show Ret (yf s (j : Int)) _
   unfold yf
   rw [yz]
   refine ⟨fun hc => ?_, fun hc => ?_⟩
   ·have hj : j < s.length := by simpa using hc
    have e1 : s[j]? = some s[j] := List.getElem?_eq_getElem hj
    have e2 : s[j - 1]? = some s[j - 1] := List.getElem?_eq_getElem (by omega)
    rw [xS (x := (j : Int) - 1) (by omega) (by omega), show (j : Int) - 1 = ((j - 1 : Nat) : Int) by omega, xj e1, xj e2]
    simp only [Option.bind_some]
    rw [z3y _ _ (hw _ (List.getElem_mem hj))]
    simp only [Option.bind_some]
    by_cases he : s[j] = s[j - 1]
    ·simp only [he, decide_true, cond_true]
     rw [gdT (by omega)]
     refine (z2v hq hl hw g1 hj (by rw [e1, e2, he]) g3).mono ?_
     rintro _ rfl
     rfl
    ·simp only [he, decide_false, cond_false]
     unfold xh
     rw [xS (by omega) (by omega), zl]
     refine ⟨⟨j + 1, rfl, by omega, hj, ?_⟩, by simp only [Int.toNat_natCast]; omega⟩
     have : s.take (j + 1) = s.take j ++ [s[j]] := by rw [List.take_add_one, e1]; rfl
     rw [this]
     refine z4O g3 fun y hy => ?_
     obtain ⟨i, h3, h4⟩ := YN.1 hy
     have hlast : XV s[j - 1] s[j] < 0 := by
      rcases z7D hq e2 e1 (by omega) with q | q
      ·exact q
      ·exact absurd q.symm he
     rcases z7D hq h4 e2 (by omega) with q | q
     ·exact WZ q hlast
     ·rw [q]; exact hlast
   ·have hj : j = s.length := by
     have : ¬ j < s.length := by simpa using hc
     omega
    rw [zl]
    show srt s = s
    rw [hj, List.take_length] at g3
    exact z1F g3
  ·rintro (u | p) h
   ·show Ret (some s) _
    rw [zl]
    exact h.symm
   ·show Ret (some p) _
    rw [zl]
    exact h
end
theorem z1G (l : List (List Int)) : SOk XV l :=
 ⟨fun x _ => z1e x, fun x _ y _ z _ h1 h2 => WZ h1 h2, fun x _ y _ h1 h2 => by
  rcases z3a.1 h1 with q | q
  ·exact absurd q h2
  ·exact q⟩
theorem z7g {l m : List (List Int)} (h : l.Perm m) : srt l = srt m := z4U fun x => h.mem_iff
theorem Kj {c d : List Int → List Int → Int} : ∀ {l : List (List Int)}, (∀ x ∈ l, ∀ y ∈ l, c x y = d x y) → VO c l = VO d l
 | [], _ => rfl
 | x :: l, h => by
  have ih := Kj (c := c) (d := d) (l := l) fun a ha b hb => h a (by simp [ha]) b (by simp [hb])
  show z4E c x (VO c l) = z4E d x (VO d l)
  rw [ih]
  have gen : ∀ m : List (List Int), (∀ y ∈ m, y ∈ l) → z4E c x m = z4E d x m := by
   intro m
   induction m with
   | nil => intro _; rfl
   | cons y m ih2 =>
    intro hm
    simp only [z4E]
    rw [h y (by simp [hm y (by simp)]) x (by simp), ih2 fun z hz => hm z (by simp [hz])]
  exact gen _ fun y hy => (kE d l).mem_iff.1 hy
def soR (l : List (List Int)) : List (List Int) × Int := if 4096 < (srt l).length ∨ 65536 < z04 (srt l) then ([], 3) else (srt l, 0)
theorem z7i {l : List (List Int)} (hl : l.length ≤ 100000) (hw : ∀ w ∈ l, w.length ≤ 4294967296) : kQ l = some (soR l) := by
 unfold kQ vu
 rw [gdT (by simp; omega)]
 simp only [Option.bind_some]
 have hc : ∀ x ∈ l, ∀ y, xw x y = some (XV x y) := fun x hx y => z0z x y (by have := hw x hx; omega)
 have hso : z4Y (fun x y => xw x y) l = some (VO XV l) := by
  unfold z4Y
  rw [gdT ⟨by omega, fun x hx y hy => by simp only [hc x hx y]; rfl⟩]
  have hcc : ∀ x ∈ l, ∀ y ∈ l, (xw x y).getD 0 = XV x y := fun x hx y _ => by rw [hc x hx y]; rfl
  rw [gdT, Kj (c := fun x y => (xw x y).getD 0) (d := XV) hcc]
  have q := z1G l
  refine ⟨fun x hx => by show ¬ (xw x x).getD 0 < 0; rw [hcc x hx x hx]; exact q.1 x hx, fun x hx y hy z hz h1 h2 => ?_, fun x hx y hy h1 h2 => ?_⟩
  ·simp only [hcc x hx y hy, hcc y hy z hz, hcc x hx z hz] at h1 h2 ⊢
   exact q.2.1 x hx y hy z hz h1 h2
  ·simp only [hcc x hx y hy, hcc y hy x hx] at h1 h2
   exact q.2.2 x hx y hy h1 h2
 rw [hso]
 simp only [Option.bind_some]
 have hp := kE XV l
 have hq : QW (VO XV l) := Wz (z1G l) (fun y hy => hy)
 rw [z4w hq (by rw [hp.length_eq]; omega) (fun w h => by have := hw w (hp.mem_iff.1 h); omega)]
 simp only [Option.bind_some]
 unfold xK
 simp only [Option.bind_some]
 rw [z7g hp]
 have hlen : (srt l).length ≤ 100000 := Nat.le_trans (z4T l) hl
 have hws : ∀ w ∈ srt l, w.length ≤ 4294967296 := fun w h => hw w (z13.1 h)
 unfold soR
 generalize srt l = r at hlen hws
 have hsy : z04 r ≤ 100000 * 4294967296 := Nat.le_trans (z4N hws) (Nat.mul_le_mul_right _ hlen)
 by_cases h1 : 4096 < r.length
 ·have : (4096 : Int) < (r.length : Int) := by omega
  simp [h1, this]
 ·have d1 : decide (((r.length : Nat) : Int) > 4096) = false := by simp; omega
  simp only [d1, cond_false]
  rw [z7d r (by omega), zbJ (by omega)]
  simp only [Option.bind_some]
  by_cases h2 : 65536 < z04 r
  ·have : (65536 : Int) < (z04 r : Int) := by omega
   simp [h2, this]
  ·have d2 : decide (((z04 r : Nat) : Int) > 65536) = false := by simp; omega
   simp only [d2, cond_false]
   rw [if_neg (by omega)]
   have hloop := Xz (step := fun s => wc r s.1 s.2) (fun i => ((r.take i).map (fun q => (q, true)) ++ (r.drop i).map (fun q => (q, false)), (i : Int))) r.length (t := r.map fun q => (q, true)) (by omega) (by
    intro i hi
    have hA : ((r.take i).map (fun q : List Int => (q, true))).length = i := by rw [List.length_map, List.length_take]; omega
    have hd : r.drop i = r[i] :: r.drop (i + 1) := List.drop_eq_getElem_cons hi
    have hx : ((r.take i).map (fun q => (q, true)) ++ (r.drop i).map (fun q => (q, false)))[i]? = some (r[i], false) := by
     rw [List.getElem?_append_right (by omega), hA, hd]; simp
    show wc r _ (i : Int) = _
    unfold wc
    have hq : decide ((i : Int) < ((r.length - (0 : Int).toNat : Nat) : Int)) = true := by simpa using hi
    simp only [hq, cond_true]
    rw [gdT (by omega), Int.zero_add, xj hx]
    simp only [Option.bind_some]
    rw [z8d _ (hws _ (List.getElem_mem hi))]
    simp only [Option.bind_some, zaC, Int.toNat_natCast]
    rw [xS (by omega) (by omega)]
    congr 3
    rw [List.set_append_right _ _ (by omega), hA, hd, List.take_add_one, List.getElem?_eq_getElem hi]
    simp only [Nat.sub_self, List.map_cons, List.set_cons_zero, List.map_append, Option.toList_some, List.map_nil, List.append_assoc, List.cons_append, List.nil_append]) (by
    show wc r _ (r.length : Int) = _
    unfold wc
    simp)
   have h0 : ((r.take 0).map (fun q => (q, true)) ++ (r.drop 0).map (fun q => (q, false)), ((0 : Nat) : Int)) = (r.map (fun q => (q, false)), (0 : Int)) := by simp
   rw [h0] at hloop
   rw [hloop]
   simp only [Option.bind_some]
   unfold jO
   rw [gdT (by intro q hq; obtain ⟨_, _, rfl⟩ := List.mem_map.1 hq; rfl)]
   simp [List.map_map, Function.comp_def]
theorem z6E {i : Nat} (h : i < 9223372036854775807) : w64 ((i : Int) + 1) = ((i + 1 : Nat) : Int) := by rw [xS (by omega) (by omega)]; rfl
def un (x : List Bool) : Nat := x.countP fun b => !b
theorem zb5 {x : List Bool} {s : Nat} (h : x[s]? = some false) : un (x.set s true) < un x := by
 induction x generalizing s with
 | nil => simp at h
 | cons b x ih =>
  cases s with
  | zero => simp at h; subst h; simp [un]
  | succ s =>
   have := ih (s := s) (by simpa using h)
   unfold un at *
   rw [List.set_cons_succ, List.countP_cons, List.countP_cons]
   omega
theorem zb6 : ∀ {x y : List Bool}, y.length = x.length → (∀ t : Nat, x[t]? = some true → y[t]? = some true) → un y ≤ un x
 | [], [], _, _ => Nat.le_refl _
 | a :: x, b :: y, hl, h => by
  have ih := zb6 (x := x) (y := y) (by simpa using hl) fun t ht => by simpa using h (t + 1) (by simpa using ht)
  have h0 := h 0
  unfold un at *
  rw [List.countP_cons, List.countP_cons]
  cases a <;> cases b <;> simp at h0 ⊢ <;> omega
 | [], _ :: _, hl, _ => by simp at hl
 | _ :: _, [], hl, _ => by simp at hl
structure Dfs (m : z6) (P : Nat → Prop) (x y : List Bool) : Prop where
 len : y.length = x.length
 mono : ∀ t : Nat, x[t]? = some true → y[t]? = some true
 new : ∀ t : Nat, y[t]? = some true → x[t]? = some true ∨ P t ∧ ∀ i, i < kk m → 0 ≤ (E m t i).To → y[(E m t i).To.toNat]? = some true
theorem Dfs.refl {m : z6} {P : Nat → Prop} (x : List Bool) : Dfs m P x x := ⟨rfl, fun _ h => h, fun _ h => .inl h⟩
theorem Dfs.trans {m : z6} {P : Nat → Prop} {x y z : List Bool} (h : Dfs m P x y) (k : Dfs m P y z) : Dfs m P x z := {
 len := k.len.trans h.len
 mono := fun t q => k.mono t (h.mono t q)
 new := fun t q => by
  rcases k.new t q with g | g
  ·rcases h.new t g with r | ⟨r1, r2⟩
   ·exact .inl r
   ·exact .inr ⟨r1, fun i hi h0 => k.mono _ (r2 i hi h0)⟩
  ·exact .inr g }
section
variable {m : z6} (h : VM m)
include h
theorem z67 {P : Nat → Prop} (hP : ∀ t i, P t → t < m.Rows.length → i < kk m → 0 ≤ (E m t i).To → P (E m t i).To.toNat) : ∀ (fu : Nat) (x : List Bool), x.length = m.Rows.length → un x < fu → ∀ s : Int, z95 m s → (0 ≤ s → P s.toNat) →
  ∃ y, y7 fu s x m = some (y, m) ∧ Dfs m P x y ∧ (0 ≤ s → y[s.toNat]? = some true)
 | 0, x, _, hu, _, _, _ => by omega
 | fu + 1, x, hx, hu, s, hs, hPs => by
  have hk := h.kk_le
  show ∃ y, xU (y7 fu) s x m = some (y, m) ∧ _
  unfold xU
  by_cases h1 : s = -1
  ·have : (s == -1) = true := by simpa using h1
   rw [this, cond_true]
   exact ⟨x, rfl, Dfs.refl x, fun q => by omega⟩
  ·have e1 : (s == -1) = false := by simpa using h1
   obtain ⟨n, rfl⟩ : ∃ n : Nat, s = n := ⟨s.toNat, by have := hs.1; omega⟩
   have hn : n < m.Rows.length := by have := hs.2; omega
   have hxn : x[n]? = some x[n] := List.getElem?_eq_getElem (by omega)
   rw [e1, cond_false, xj hxn, Option.bind_some]
   by_cases hb : x[n] = true
   ·rw [hb, cond_true]
    exact ⟨x, rfl, Dfs.refl x, fun _ => by simp only [Int.toNat_natCast]; rw [hxn, hb]⟩
   ·have hb : x[n] = false := by simpa using hb
    obtain ⟨r, hr, hrl, hre⟩ := h.rowAt hn
    rw [hb, cond_false, Option.bind_some, xj hr, Option.bind_some]
    simp only [Int.toNat_natCast]
    rw [hb] at hxn
    have hu1 := zb5 hxn
    have hxl : (x.set n true).length = m.Rows.length := by simpa using hx
    have run : Ret (loop (fun s => yT (y7 fu) r s.1 s.2.1 s.2.2.1 s.2.2.2.1 s.2.2.2.2) (x.set n true, m.Inputs, m.Outputs, m.Rows, 0)) fun q => q.2 = m ∧ Dfs m P (x.set n true) q.1 ∧ ∀ j, j < kk m → 0 ≤ (E m n j).To → q.1[(E m n j).To.toNat]? = some true := by
     refine wK (fun q => ∃ i : Nat, q.2 = (m.Inputs, m.Outputs, m.Rows, (i : Int)) ∧ i ≤ kk m ∧ Dfs m P (x.set n true) q.1 ∧ ∀ j, j < i → 0 ≤ (E m n j).To → q.1[(E m n j).To.toNat]? = some true) (fun q => 100 - q.2.2.2.2.toNat) ⟨0, rfl, Nat.zero_le _, Dfs.refl _, fun j hj => by omega⟩ (by show 100 - _ < _; omega) ?_
     rintro ⟨q, _⟩ ⟨i, rfl, hi, hd, hall⟩
     simp only at hd hall
     show Ret (yT (y7 fu) r q m.Inputs m.Outputs m.Rows (i : Int)) _
     unfold yT
     rw [yz]
     refine ⟨fun hc => ?_, fun hc => ?_⟩
     ·have hlt : i < kk m := by simp at hc; omega
      rw [xj (hre i hlt), Option.bind_some]
      have hst : z95 m (E m n i).To := by
       rcases h.edgeAt hn hlt with ⟨g, _⟩ | ⟨g1, g2, _⟩
       ·exact ⟨by omega, by have := h.len1; omega⟩
       ·exact ⟨by omega, g2⟩
      have hPn : P n := by simpa using hPs (by omega)
      obtain ⟨y, y1, y2, y3⟩ := z67 hP fu q (by rw [hd.len]; exact hxl) (by have := zb6 hd.len hd.mono; omega) (E m n i).To hst (fun h0 => hP n i hPn hn hlt h0)
      have y1' : y7 fu (E m n i).To q (z6.mk m.Inputs m.Outputs m.Rows) = some (y, m) := y1
      rw [y1', Option.bind_some, zl, z6E (by omega)]
      refine ⟨⟨i + 1, rfl, hlt, hd.trans y2, fun j hj h0 => ?_⟩, by simp only; omega⟩
      by_cases e : j = i
      ·subst e; exact y3 h0
      ·exact y2.mono _ (hall j (by omega) h0)
     ·have : i = kk m := by simp at hc; omega
      subst this
      rw [zl]
      exact ⟨rfl, hd, hall⟩
    obtain ⟨⟨y, m'⟩, e, hm, hd, hall⟩ := run
    simp only at hm hd hall
    subst hm
    rw [e]
    refine ⟨y, rfl, ?_, fun _ => hd.mono _ ((z4J (by omega)).2 (.inl rfl))⟩
    refine ⟨by rw [hd.len]; simp, fun t ht => hd.mono t ((z4J (by omega)).2 (.inr ht)), fun t ht => ?_⟩
    rcases hd.new t ht with g | g
    ·rcases (z4J (by omega)).1 g with rfl | g
     ·exact .inr ⟨by simpa using hPs (by omega), hall⟩
     ·exact .inl g
    ·exact .inr g
omit h in
theorem KY (l : List Bool) (hl : l.length < 4611686018427387904) : xp l false = some (!(l.all id)) := by
 unfold xp va
 have hfs : ∀ (l : List Bool) (k : Nat), (xL (fun i x => if x = true then none else some ((i : Nat) : Int)) l k = none ∧ l.all id = true) ∨ ∃ i : Nat, xL (fun i x => if x = true then none else some ((i : Nat) : Int)) l k = some (i : Int) ∧ l.all id = false := by
  intro l
  induction l with
  | nil => intro k; exact .inl ⟨rfl, rfl⟩
  | cons x l ih =>
   intro k
   simp only [xL, List.all_cons]
   cases x with
   | true => simpa using ih (k + 1)
   | false => exact .inr ⟨k, by simp, by simp⟩
 rw [bdT (qK l hl (step := fun s => yk l false s) (fun i x => if x = true then none else some ((i : Nat) : Int)) ?_ ?_)]
 ·rcases hfs l 0 with ⟨h1, h2⟩ | ⟨i, h1, h2⟩
  ·rw [h1, h2]; rfl
  ·rw [h1, h2]; simp [oS]
 ·intro i x hx
  have hi := (List.getElem?_eq_some_iff.1 hx).1
  unfold yk
  rw [decide_eq_true (by omega), cond_true, xj hx, Option.bind_some]
  cases x <;> rfl
 ·unfold yk
  rw [decide_eq_false (by omega), cond_false]
theorem z1d : Ret (vB m) fun r => r.2 = 0 ∧ (r.1 = true ↔ ∀ t, t < m.Rows.length → Rch m t) := by
 have l1 := h.len1
 have l64 := h.len64
 unfold vB
 rw [V0, z0r h, Option.bind_some, bne_self_eq_false, cond_false, gdT (by omega)]
 have e0 : ((m.Rows.length : Nat) : Int).toNat = m.Rows.length := by simp
 rw [e0]
 have hun : un (List.replicate m.Rows.length false) < fuel := by
  have : un (List.replicate m.Rows.length false) ≤ (List.replicate m.Rows.length false).length := List.countP_le_length
  rw [List.length_replicate] at this
  show _ < 18446744073709551616
  omega
 have hP : ∀ t i, Rch m t → t < m.Rows.length → i < kk m → 0 ≤ (E m t i).To → Rch m (E m t i).To.toNat := fun t i ht _ hi h0 => rch_step ht hi h0
 obtain ⟨y, y1, y2, y3⟩ := z67 h hP fuel (List.replicate m.Rows.length false) (by simp) hun 0 ⟨by omega, by omega⟩ (fun _ => ⟨[], by simp [Wd], rfl⟩)
 have hyl : y.length = m.Rows.length := by rw [y2.len]; simp
 have no : ∀ t : Nat, (List.replicate m.Rows.length false)[t]? ≠ some true := fun t q => by
  rw [List.getElem?_replicate] at q
  split at q <;> cases q
 rw [y1, Option.bind_some, KY y (by omega), Option.bind_some, zl]
 refine ⟨rfl, ?_⟩
 rw [Bool.not_not, List.all_eq_true]
 have clo : ∀ (u : List Nat) (t : Nat), Wd (kk m) u → aft m 0 u = (t : Int) → y[t]? = some true := by
  intro u
  generalize hlen : u.length = n
  induction n generalizing u with
  | zero =>
   intro t _ e
   rw [List.length_eq_zero_iff.1 hlen] at e
   have : t = 0 := by have : (0 : Int) = t := e; omega
   subst this
   exact y3 (by omega)
  | succ n ih =>
   intro t hu e
   have hne : u ≠ [] := by intro q; rw [q] at hlen; simp at hlen
   have hsplit := List.dropLast_concat_getLast hne
   have hu' : Wd (kk m) u.dropLast := fun i hi => hu i (List.dropLast_subset _ hi)
   have hi : u.getLast hne < kk m := hu _ (List.getLast_mem hne)
   have h2 := (Jr m u.dropLast 0 (u.getLast hne)).2
   rw [hsplit, e] at h2
   have hin := z93 h u.dropLast 0 ⟨by omega, by omega⟩ hu'
   by_cases hneg : aft m 0 u.dropLast < 0
   ·exfalso
    unfold nxE at h2
    rw [if_pos hneg] at h2
    simp at h2
   ·obtain ⟨s, hs⟩ : ∃ s : Nat, aft m 0 u.dropLast = s := ⟨(aft m 0 u.dropLast).toNat, by omega⟩
    have hy := ih u.dropLast (by simp [hlen]) s hu' hs
    rw [hs, Y7] at h2
    rcases y2.new s hy with g | ⟨_, g⟩
    ·exact absurd g (no s)
    ·have := g _ hi (by omega)
     rw [← h2] at this
     simpa using this
 constructor
 ·intro q t ht
  have hx : y[t]? = some y[t] := List.getElem?_eq_getElem (by omega)
  have := q _ (List.mem_of_getElem? hx)
  rw [show y[t] = true from this] at hx
  rcases y2.new t hx with g | ⟨g, _⟩
  ·exact absurd g (no t)
  ·exact g
 ·intro q b hb
  obtain ⟨t, ht⟩ := List.mem_iff_getElem?.1 hb
  have htl := (List.getElem?_eq_some_iff.1 ht).1
  obtain ⟨u, hu, e⟩ := q t (by omega)
  have := clo u t hu e
  rw [ht] at this
  cases this
  rfl
end
theorem Jq {α : Type} (x : yW α) (i : Nat) (v : α) : (yW.setI x (i : Int) v).toL = x.toL.set i v := by
 unfold yW.setI
 rw [yW.toL_ofL _ _ (by simp [yW.toL]), Int.toNat_natCast]
theorem z9f {α : Type} {x y : yW α} (h : x.toL = y.toL) : x = y := by
 cases x; cases y
 simp only [yW.toL, List.cons.injEq, and_true] at h
 simp only [yW.mk.injEq]
 exact h
instance : LawfulBEq (yW (wn Int)) := {
 eq_of_beq := by
  intro a b h
  cases a; cases b
  simp only [BEq.beq, Bool.and_eq_true, decide_eq_true_eq] at h
  simp only [yW.mk.injEq]
  obtain ⟨⟨⟨⟨⟨⟨⟨⟨⟨⟨⟨⟨⟨⟨⟨h0, h1⟩, h2⟩, h3⟩, h4⟩, h5⟩, h6⟩, h7⟩, h8⟩, h9⟩, h10⟩, h11⟩, h12⟩, h13⟩, h14⟩, h15⟩ := h
  have e : ∀ {p q : wn Int}, (p.e0 = q.e0 ∧ p.e1 = q.e1) → p = q := by
   rintro ⟨a0, a1⟩ ⟨b0, b1⟩ ⟨rfl, rfl⟩; rfl
  exact ⟨e h0, e h1, e h2, e h3, e h4, e h5, e h6, e h7, e h8, e h9, e h10, e h11, e h12, e h13, e h14, e h15⟩
 rfl := by
  intro a
  cases a
  simp [BEq.beq] }
instance : LawfulBEq zw := {
 eq_of_beq := by
  intro a b h
  have h : (a.block_ == b.block_ && a.signature_ == b.signature_) = true := h
  rw [Bool.and_eq_true, beq_iff_eq, beq_iff_eq] at h
  obtain ⟨a0, a1⟩ := a
  obtain ⟨b0, b1⟩ := b
  obtain ⟨h0, h1⟩ := h
  have h0 : a0 = b0 := h0
  have h1 : a1 = b1 := h1
  rw [h0, h1]
 rfl := by
  intro a
  show (a.block_ == a.block_ && a.signature_ == a.signature_) = true
  rw [beq_self_eq_true, beq_self_eq_true]; rfl }
def sgN (m : z6) (p : List Int) (s j : Nat) : wn Int := if j < kk m then ⟨(E m s j).Out, if (E m s j).To = -1 then -1 else (p[(E m s j).To.toNat]?).getD 0⟩ else ⟨0, 0⟩
theorem z5m {α : Type} (f g : Nat → α) {n i : Nat} (v : α) (h : ∀ j, j < n → g j = if j = i then v else f j) : ((List.range n).map f).set i v = (List.range n).map g := by
 apply List.ext_getElem?
 intro j
 by_cases hj : j < n
 ·have e1 : ((List.range n).map g)[j]? = some (g j) := by simp [hj]
  have e2 : ((List.range n).map f)[j]? = some (f j) := by simp [hj]
  rw [e1, h j hj]
  by_cases e : j = i
  ·subst e
   rw [List.getElem?_set_self (by simpa using hj), if_pos rfl]
  ·rw [List.getElem?_set_ne (fun q => e q.symm), e2, if_neg e]
 ·rw [List.getElem?_eq_none (by simp; omega), List.getElem?_eq_none (by simp; omega)]
section
variable {m : z6} (h : VM m)
include h
theorem z7l {p : List Int} (hp : p.length = m.Rows.length) {s : Nat} (hs : s < m.Rows.length) : Ret (qE m p (s : Int)) fun a => a.toL = (List.range 16).map (sgN m p s) := by
 obtain ⟨r, r1, r2, r3⟩ := h.rowAt hs
 have hk := h.kk_le
 unfold qE jV
 rw [bdT (xj r1), zP]
 refine Ret.mono ?_ fun a ha => zl.2 ha
 refine wK (fun st => ∃ i : Nat, st.2 = (i : Int) ∧ i ≤ kk m ∧ st.1.toL = (List.range 16).map fun j => if j < i then sgN m p s j else ⟨0, 0⟩) (fun st => 20 - st.2.toNat) ⟨0, rfl, by omega, by simp [yW.toL, List.range_succ]⟩ (by show 20 - _ < _; omega) ?_
 rintro ⟨a, _⟩ ⟨i, rfl, hi, ha⟩
 simp only at ha
 show Ret (qC p r a (i : Int)) _
 unfold qC qD
 rw [yz]
 refine ⟨fun hc => ?_, fun hc => ?_⟩
 ·have hc : (i : Int) < ((r.length : Nat) : Int) := of_decide_eq_true hc
  have hik : i < kk m := by omega
  have e1 : a.toL[i]? = some ⟨0, 0⟩ := by rw [ha]; simp [show i < 16 by omega]
  have w2 : w64 ((i : Int) + 1) = ((i + 1 : Nat) : Int) := by rw [xS (by omega) (by omega)]; rfl
  have hed := h.edgeAt hs hik
  have step : ∀ v : wn Int, sgN m p s i = v → ∀ b : yW (wn Int), b.toL = ((List.range 16).map fun j => if j < i then sgN m p s j else ⟨0, 0⟩).set i v → b.toL = (List.range 16).map fun j => if j < i + 1 then sgN m p s j else ⟨0, 0⟩ := by
   intro v hv b hb
   rw [hb]
   refine z5m _ _ v fun j hj => ?_
   by_cases e : j = i
   ·subst e
    rw [if_pos (by omega), if_pos rfl, hv]
   ·rw [if_neg e]
    by_cases e2 : j < i
    ·rw [if_pos e2, if_pos (by omega)]
    ·rw [if_neg e2, if_neg (by omega)]
  rw [bdT (xj (r3 i hik)), bdT (xj e1), Option.bind_some, yz]
  refine ⟨fun ht => ?_, fun ht => ?_⟩
  ·have ht : (E m s i).To ≠ -1 := by simpa using ht
   obtain ⟨t, htn⟩ : ∃ t : Nat, (E m s i).To = t := ⟨(E m s i).To.toNat, by omega⟩
   have hpt : p[t]? = some p[t] := List.getElem?_eq_getElem (by omega)
   have e2 : (yW.setI a (i : Int) ⟨(E m s i).Out, -1⟩).toL[i]? = some ⟨(E m s i).Out, -1⟩ := by
    rw [Jq, List.getElem?_set_self (by rw [ha]; simp; omega)]
   rw [htn, bdT (xj hpt), bdT (xj e2), Option.bind_some, zl, w2]
   refine ⟨⟨i + 1, rfl, by omega, step _ ?_ _ (by rw [Jq, Jq, ha, List.set_set])⟩, by simp only [Int.toNat_natCast]; omega⟩
   unfold sgN
   rw [if_pos hik, if_neg ht, htn, Int.toNat_natCast, hpt, Option.getD_some]
  ·have ht : (E m s i).To = -1 := by simpa using ht
   rw [zl, w2]
   refine ⟨⟨i + 1, rfl, by omega, step _ ?_ _ (by rw [Jq, ha])⟩, by simp only [Int.toNat_natCast]; omega⟩
   unfold sgN
   rw [if_pos hik, if_pos ht]
 ·have hc := of_decide_eq_false hc
  have : i = kk m := by omega
  subst this
  refine zl.2 ?_
  show a.toL = _
  rw [ha]
  refine List.map_congr_left fun j hj => ?_
  unfold sgN
  by_cases e : j < kk m
  ·rw [if_pos e, if_pos e]
  ·rw [if_neg e, if_neg e]
end
def Rgf (l : List Int) : Prop := ∀ (s : Nat) (x : Int), l[s]? = some x → ∃ v : Nat, x = (v : Int) ∧ ∀ w : Nat, w < v → ∃ t, t < s ∧ l[t]? = some (w : Int)
theorem z3A {l r : List Int} (hl : Rgf l) (hr : Rgf r) (hlen : l.length = r.length) (h : ∀ s t : Nat, s < l.length → t < l.length → (l[s]? = l[t]? ↔ r[s]? = r[t]?)) : l = r := by
 have gen : ∀ n s, s < n → s < l.length → l[s]? = r[s]? := by
  intro n
  induction n with
  | zero => intro s q; omega
  | succ n ih =>
   intro s hs hsl
   have hx : l[s]? = some l[s] := List.getElem?_eq_getElem hsl
   have hy : r[s]? = some r[s] := List.getElem?_eq_getElem (by omega)
   by_cases old : ∃ t, t < s ∧ l[t]? = l[s]?
   ·obtain ⟨t, t1, t2⟩ := old
    rw [← t2, ih t (by omega) (by omega)]
    exact (h t s (by omega) hsl).1 t2
   ·obtain ⟨v, v1, v2⟩ := hl s _ hx
    obtain ⟨u, u1, u2⟩ := hr s _ hy
    rw [hx, hy, v1, u1]
    rcases Nat.lt_trichotomy v u with q | q | q
    ·exfalso
     obtain ⟨t, t1, t2⟩ := u2 v q
     exact old ⟨t, t1, by rw [ih t (by omega) (by omega), t2, hx, v1]⟩
    ·rw [q]
    ·exfalso
     obtain ⟨t, t1, t2⟩ := v2 u q
     have : r[t]? = r[s]? := by rw [← ih t (by omega) (by omega), t2, hy, u1]
     exact old ⟨t, t1, (h t s (by omega) hsl).2 this⟩
 apply List.ext_getElem?
 intro s
 by_cases hs : s < l.length
 ·exact gen (s + 1) s (by omega) hs
 ·rw [List.getElem?_eq_none (by omega), List.getElem?_eq_none (by omega)]
theorem z3L {K V : Type} [BEq K] (x : K) (v : V) : ∀ l : List (K × V), QM l x = none → (z4n l x v).length = l.length + 1
 | [], _ => rfl
 | p :: l, hg => by
  simp only [QM] at hg
  split at hg
  ·cases hg
  ·rename_i q
   simp only [z4n, q]
   show ((p :: z4n l x v).length) = _
   rw [List.length_cons, z3L x v l hg, List.length_cons]
section
variable {m : z6} (h : VM m)
include h
def z8x (m : z6) (p : List Int) (s t : Nat) : Prop := p[s]? = p[t]? ∧ ∀ j, j < kk m → sgN m p s j = sgN m p t j
theorem z2T {p : List Int} (hp : p.length = m.Rows.length) : Ret (qG m p) fun q => q.length = m.Rows.length ∧ Rgf q ∧ ∀ s t : Nat, s < m.Rows.length → t < m.Rows.length → (q[s]? = q[t]? ↔ z8x m p s t) := by
 have hN := h.len64
 have hk := h.kk_le
 have hkey : ∀ s, s < m.Rows.length → ∃ key : zw, key.block_ = (p[s]?).getD 0 ∧ key.signature_.toL = (List.range 16).map (sgN m p s) ∧ qE m p (s : Int) = some key.signature_ := by
  intro s hs
  obtain ⟨a, a1, a2⟩ := z7l h hp hs
  exact ⟨⟨(p[s]?).getD 0, a⟩, rfl, a2, a1⟩
 have : ∃ key : Nat → zw, ∀ s, s < m.Rows.length → (key s).block_ = (p[s]?).getD 0 ∧ (key s).signature_.toL = (List.range 16).map (sgN m p s) ∧ qE m p (s : Int) = some (key s).signature_ := by
  classical
  refine ⟨fun s => if q : s < m.Rows.length then (hkey s q).choose else ⟨0, yW.mk ⟨0, 0⟩ ⟨0, 0⟩ ⟨0, 0⟩ ⟨0, 0⟩ ⟨0, 0⟩ ⟨0, 0⟩ ⟨0, 0⟩ ⟨0, 0⟩ ⟨0, 0⟩ ⟨0, 0⟩ ⟨0, 0⟩ ⟨0, 0⟩ ⟨0, 0⟩ ⟨0, 0⟩ ⟨0, 0⟩ ⟨0, 0⟩⟩, fun s hs => ?_⟩
  simp only [hs, dif_pos]
  exact (hkey s hs).choose_spec
 obtain ⟨key, hkey⟩ := this
 have alike : ∀ s t, s < m.Rows.length → t < m.Rows.length → (key s = key t ↔ z8x m p s t) := by
  intro s t hs ht
  obtain ⟨a1, a2, _⟩ := hkey s hs
  obtain ⟨b1, b2, _⟩ := hkey t ht
  have xs : p[s]? = some p[s] := List.getElem?_eq_getElem (by omega)
  have xt : p[t]? = some p[t] := List.getElem?_eq_getElem (by omega)
  rw [xs, Option.getD_some] at a1
  rw [xt, Option.getD_some] at b1
  constructor
  ·intro e
   refine ⟨by rw [xs, xt, ← a1, ← b1, e], fun j hj => ?_⟩
   have e2 : (List.range 16).map (sgN m p s) = (List.range 16).map (sgN m p t) := by rw [← a2, ← b2, e]
   have := congrArg (fun l => l[j]?) e2
   simpa [show j < 16 by omega] using this
  ·rintro ⟨e1, e2⟩
   have e3 : (key s).signature_ = (key t).signature_ := z9f (by
    rw [a2, b2]
    refine List.map_congr_left fun j hj => ?_
    by_cases q : j < kk m
    ·exact e2 j q
    ·unfold sgN
     rw [if_neg q, if_neg q])
   have e4 : (key s).block_ = (key t).block_ := by
    rw [a1, b1]
    rw [xs, xt] at e1
    exact Option.some.inj e1
   revert e3 e4
   generalize key s = u
   generalize key t = v
   intro e3 e4
   obtain ⟨u0, u1⟩ := u
   obtain ⟨v0, v1⟩ := v
   simp only at e3 e4
   rw [e3, e4]
 unfold qG q9
 rw [gdT (by omega), zP]
 refine Ret.mono ?_ fun q hq => zl.2 hq
 refine wK (fun st => ∃ i : Nat, st.2.2 = (i : Int) ∧ i ≤ m.Rows.length ∧ st.2.1.length = m.Rows.length ∧ (∀ s, s < i → ∃ v : Nat, st.2.1[s]? = some (v : Int) ∧ v < st.1.length ∧ QM st.1 (key s) = some (v : Int) ∧ ∀ w : Nat, w < v → ∃ t, t < s ∧ st.2.1[t]? = some (w : Int)) ∧ (∀ w : Nat, w < st.1.length → ∃ t, t < i ∧ st.2.1[t]? = some (w : Int)) ∧
   (∀ k v, QM st.1 k = some v → ∃ t, t < i ∧ key t = k) ∧ ∀ s t : Nat, s < i → t < i → st.2.1[s]? = st.2.1[t]? → key s = key t) (fun st => 100 - st.2.2.toNat) ⟨0, rfl, by omega, by simp [hp], fun s q => by omega, fun w q => by simp at q, fun k v q => by simp [QM] at q, fun s t q => by omega⟩ (by show 100 - _ < _; omega) ?_
 rintro ⟨names, out, _⟩ ⟨i, rfl, hi, ho, h1, h2, h3, h4⟩
 simp only at ho h1 h2 h3 h4
 show Ret (vw m p names out (i : Int)) _
 unfold vw
 rw [yz]
 refine ⟨fun hc => ?_, fun hc => ?_⟩
 ·have hc : (i : Int) < ((p.length : Nat) : Int) := of_decide_eq_true hc
  have hiN : i < m.Rows.length := by omega
  obtain ⟨a1, a2, a3⟩ := hkey i hiN
  have xi : p[i]? = some p[i] := List.getElem?_eq_getElem (by omega)
  rw [xi, Option.getD_some] at a1
  have hmk : zw.mk p[i] (key i).signature_ = key i := by
   rw [← a1]
  have w2 : w64 ((i : Int) + 1) = ((i + 1 : Nat) : Int) := by rw [xS (by omega) (by omega)]; rfl
  have hoi : out[i]? = some out[i] := List.getElem?_eq_getElem (by omega)
  rw [bdT (xj xi), bdT a3, Option.bind_some, hmk]
  cases hg : QM names (key i) with
  | none =>
   rw [Option.isSome_none, Bool.not_false, cond_true]
   unfold wu
   have hfresh : ∀ t, t < i → key t ≠ key i := fun t ht e => by
    obtain ⟨v, _, _, v3, _⟩ := h1 t ht
    rw [e, hg] at v3
    cases v3
   have hlen := z3L (key i) ((names.length : Nat) : Int) names hg
   rw [hmk, Jv, if_pos (by simp), Option.getD_some, Option.bind_some, bdT (xj hoi), zl, w2, Int.toNat_natCast]
   have keep : ∀ t : Nat, t < i → (out.set i ((names.length : Nat) : Int))[t]? = out[t]? := fun t ht => List.getElem?_set_ne (by omega)
   have new : (out.set i ((names.length : Nat) : Int))[i]? = some ((names.length : Nat) : Int) := List.getElem?_set_self (by omega)
   refine ⟨⟨i + 1, rfl, by omega, by simp [ho], fun s hs => ?_, fun w hw => ?_, fun k v q => ?_, fun s t hs ht q => ?_⟩, by simp only [Int.toNat_natCast]; omega⟩
   ·simp only
    by_cases e : s = i
    ·subst e
     refine ⟨names.length, new, by omega, by rw [Jv, if_pos (by simp)], fun w hw => ?_⟩
     obtain ⟨t, t1, t2⟩ := h2 w hw
     exact ⟨t, t1, by rw [keep t t1]; exact t2⟩
    ·obtain ⟨v, v1, v2, v3, v4⟩ := h1 s (by omega)
     refine ⟨v, by rw [keep s (by omega)]; exact v1, by omega, ?_, fun w hw => ?_⟩
     ·rw [Jv, if_neg (by simpa using fun q => hfresh s (by omega) q.symm)]
      exact v3
     ·obtain ⟨t, t1, t2⟩ := v4 w hw
      exact ⟨t, t1, by rw [keep t (by omega)]; exact t2⟩
   ·simp only at hw ⊢
    by_cases e : w < names.length
    ·obtain ⟨t, t1, t2⟩ := h2 w e
     exact ⟨t, by omega, by rw [keep t t1]; exact t2⟩
    ·have : w = names.length := by omega
     subst this
     exact ⟨i, by omega, new⟩
   ·simp only at q
    rw [Jv] at q
    by_cases e : key i = k
    ·exact ⟨i, by omega, e⟩
    ·rw [if_neg (by simpa using e)] at q
     obtain ⟨t, t1, t2⟩ := h3 k v q
     exact ⟨t, by omega, t2⟩
   ·simp only at q
    have low : ∀ t, t < i → out[t]? ≠ some ((names.length : Nat) : Int) := fun t ht g => by
     obtain ⟨v, v1, v2, _⟩ := h1 t ht
     rw [v1] at g
     have := Option.some.inj g
     omega
    by_cases es : s = i
    ·by_cases et : t = i
     ·rw [es, et]
     ·exfalso
      rw [es, new, keep t (by omega)] at q
      exact low t (by omega) q.symm
    ·by_cases et : t = i
     ·exfalso
      rw [et, new, keep s (by omega)] at q
      exact low s (by omega) q
     ·rw [keep s (by omega), keep t (by omega)] at q
      exact h4 s t (by omega) (by omega) q
  | some v =>
   rw [Option.isSome_some, Bool.not_true, cond_false]
   unfold wu
   obtain ⟨t0, t1, t2⟩ := h3 _ _ hg
   obtain ⟨u, u1, u2, u3, u4⟩ := h1 t0 t1
   rw [t2, hg] at u3
   have hvu : v = (u : Int) := Option.some.inj u3
   rw [hmk, hg, Option.getD_some, Option.bind_some, bdT (xj hoi), zl, w2, Int.toNat_natCast]
   have keep : ∀ t : Nat, t < i → (out.set i v)[t]? = out[t]? := fun t ht => List.getElem?_set_ne (by omega)
   have new : (out.set i v)[i]? = some v := List.getElem?_set_self (by omega)
   refine ⟨⟨i + 1, rfl, by omega, by simp [ho], fun s hs => ?_, fun w hw => ?_, fun k v q => ?_, fun s t hs ht q => ?_⟩, by simp only [Int.toNat_natCast]; omega⟩
   ·simp only
    by_cases e : s = i
    ·subst e
     refine ⟨u, by rw [new, hvu], u2, by rw [hg, hvu], fun w hw => ?_⟩
     obtain ⟨t, g1, g2⟩ := u4 w hw
     exact ⟨t, by omega, by rw [keep t (by omega)]; exact g2⟩
    ·obtain ⟨v', v1, v2, v3, v4⟩ := h1 s (by omega)
     refine ⟨v', by rw [keep s (by omega)]; exact v1, v2, v3, fun w hw => ?_⟩
     obtain ⟨t, g1, g2⟩ := v4 w hw
     exact ⟨t, g1, by rw [keep t (by omega)]; exact g2⟩
   ·simp only at hw ⊢
    obtain ⟨t, g1, g2⟩ := h2 w hw
    exact ⟨t, by omega, by rw [keep t g1]; exact g2⟩
   ·obtain ⟨t, g1, g2⟩ := h3 k v q
    exact ⟨t, by omega, g2⟩
   ·simp only at q
    have like : ∀ t, t < i → out[t]? = some v → key t = key i := fun t ht g => by
     rw [← t2]
     exact h4 t t0 ht t1 (by rw [g, u1, hvu])
    by_cases es : s = i
    ·by_cases et : t = i
     ·rw [es, et]
     ·rw [es, new, keep t (by omega)] at q
      rw [es]
      exact (like t (by omega) q.symm).symm
    ·by_cases et : t = i
     ·rw [et, new, keep s (by omega)] at q
      rw [et]
      exact like s (by omega) q
     ·rw [keep s (by omega), keep t (by omega)] at q
      exact h4 s t (by omega) (by omega) q
 ·have hc := of_decide_eq_false hc
  have : i = m.Rows.length := by omega
  subst this
  refine zl.2 ⟨ho, fun s x hx => ?_, fun s t hs ht => ?_⟩
  ·have hs : s < m.Rows.length := by have := (List.getElem?_eq_some_iff.1 hx).1; omega
   obtain ⟨v, v1, _, _, v4⟩ := h1 s hs
   rw [hx] at v1
   exact ⟨v, Option.some.inj v1, v4⟩
  ·rw [← alike s t hs ht]
   refine ⟨h4 s t hs ht, fun e => ?_⟩
   obtain ⟨v, v1, _, v3, _⟩ := h1 s hs
   obtain ⟨u, u1, _, u3, _⟩ := h1 t ht
   rw [e, u3] at v3
   rw [v1, u1, ← Option.some.inj v3]
end
theorem z2s (a b : List Int) (ha : a.length < 4611686018427387904) : xN a b = some (decide (a = b)) := by
 unfold xN wI
 by_cases hl : a.length = b.length
 ·have e : (((a.length : Nat) : Int) != ((b.length : Nat) : Int)) = false := by simp [hl]
  rw [e, cond_false, qK a ha (step := fun s => yR a b s) (fun i x => if b[i]? = some x then none else some false) ?_ ?_]
  ·by_cases q : a = b
   ·rw [Ye fun i x hx => by rw [Nat.zero_add, ← q, if_pos hx]]
    simp [oS, q]
   ·cases hf : xL (fun i x => if b[i]? = some x then none else some false) a 0 with
    | none =>
     exfalso
     refine q (List.ext_getElem? fun i => ?_)
     by_cases hi : i < a.length
     ·have hx : a[i]? = some a[i] := List.getElem?_eq_getElem hi
      have := ZA hf i _ hx
      rw [Nat.zero_add] at this
      split at this
      ·rename_i g; rw [hx, g]
      ·cases this
     ·rw [List.getElem?_eq_none (by omega), List.getElem?_eq_none (by omega)]
    | some r =>
     obtain ⟨i, x, _, h2⟩ := kH hf
     split at h2
     ·cases h2
     ·cases h2
      simp [oS, q]
  ·intro i x hx
   have hi := (List.getElem?_eq_some_iff.1 hx).1
   have hy : b[i]? = some b[i] := List.getElem?_eq_getElem (by omega)
   unfold yR
   rw [decide_eq_true (by omega), cond_true, bdT (xj hx), bdT (xj hy), hy]
   by_cases e2 : x = b[i]
   ·rw [e2, bne_self_eq_false, cond_false, if_pos rfl]
    rfl
   ·have e3 : (x != b[i]) = true := by simpa using e2
    rw [e3, cond_true, if_neg fun g => e2 (Option.some.inj g).symm]
    rfl
  ·unfold yR
   rw [decide_eq_false (by omega), cond_false]
 ·have e : (((a.length : Nat) : Int) != ((b.length : Nat) : Int)) = true := by simpa using fun g : (a.length : Int) = b.length => hl (by omega)
  rw [e, cond_true, decide_eq_false fun q => hl (by rw [q])]
section
variable {m : z6} (h : VM m)
include h
omit h in theorem seq_out {s t : Nat} (q : SEq m s t) {j : Nat} (hj : j < kk m) : (E m s j).Out = (E m t j).Out ∧ ∀ w : List Nat, (∀ i ∈ w, i < kk m) → rsp m (E m s j).To w = rsp m (E m t j).To w := by
 have gen : ∀ w : List Nat, (∀ i ∈ w, i < kk m) → (E m s j).Out = (E m t j).Out ∧ rsp m (E m s j).To w = rsp m (E m t j).To w := by
  intro w hw
  have := q (j :: w) (fun i hi => by rcases List.mem_cons.1 hi with rfl | g; exact hj; exact hw i g)
  simp only [rsp, Y7, List.cons.injEq] at this
  exact this
 exact ⟨(gen [] (by simp)).1, fun w hw => (gen w hw).2⟩
theorem z51 {p : List Int} (hp : p.length = m.Rows.length) (hq : ∀ s t, s < m.Rows.length → t < m.Rows.length → SEq m s t → p[s]? = p[t]?) {s t : Nat} (hs : s < m.Rows.length) (ht : t < m.Rows.length) (q : SEq m s t) : z8x m p s t := by
 refine ⟨hq s t hs ht q, fun j hj => ?_⟩
 obtain ⟨o1, o2⟩ := seq_out q hj
 have hes := h.edgeAt hs hj
 have het := h.edgeAt ht hj
 unfold sgN
 rw [if_pos hj, if_pos hj, o1]
 rcases hes with ⟨a1, a2⟩ | ⟨a1, a2, a3, a4⟩
 ·rcases het with ⟨b1, b2⟩ | ⟨b1, b2, b3, b4⟩
  ·rw [if_pos a1, if_pos b1]
  ·omega
 ·rcases het with ⟨b1, b2⟩ | ⟨b1, b2, b3, b4⟩
  ·omega
  ·rw [if_neg (by omega), if_neg (by omega)]
   have e1 : (((E m s j).To.toNat : Nat) : Int) = (E m s j).To := by omega
   have e2 : (((E m t j).To.toNat : Nat) : Int) = (E m t j).To := by omega
   have := hq _ _ (by omega) (by omega) (show SEq m (E m s j).To.toNat (E m t j).To.toNat from fun w hw => by rw [e1, e2]; exact o2 w hw)
   rw [this]
theorem z5Y {p : List Int} (hp : p.length = m.Rows.length) (hr : Rgf p) (hf : ∀ s t, s < m.Rows.length → t < m.Rows.length → p[s]? = p[t]? → z8x m p s t) : ∀ (w : List Nat) (s t : Nat), s < m.Rows.length → t < m.Rows.length → p[s]? = p[t]? → (∀ i ∈ w, i < kk m) → rsp m (s : Int) w = rsp m (t : Int) w
 | [], _, _, _, _, _, _ => rfl
 | j :: w, s, t, hs, ht, e, hw => by
  have hj : j < kk m := hw j (by simp)
  have hw' : ∀ i ∈ w, i < kk m := fun i hi => hw i (by simp [hi])
  have hal := (hf s t hs ht e).2 j hj
  have hes := h.edgeAt hs hj
  have het := h.edgeAt ht hj
  have pos : ∀ u : Nat, u < m.Rows.length → 0 ≤ (p[u]?).getD 0 := fun u hu => by
   have hx : p[u]? = some p[u] := List.getElem?_eq_getElem (by omega)
   obtain ⟨v, v1, _⟩ := hr u _ hx
   rw [hx, Option.getD_some, v1]
   omega
  unfold sgN at hal
  rw [if_pos hj, if_pos hj] at hal
  have a0 := congrArg wn.e0 hal
  have a1 := congrArg wn.e1 hal
  simp only at a0 a1
  simp only [rsp, Y7, a0, List.cons.injEq, true_and]
  rcases hes with ⟨b1, b2⟩ | ⟨b1, b2, b3, b4⟩
  ·rcases het with ⟨c1, c2⟩ | ⟨c1, c2, c3, c4⟩
   ·rw [b1, c1]
   ·rw [if_pos b1, if_neg (by omega)] at a1
    have := pos (E m t j).To.toNat (by omega)
    omega
  ·rcases het with ⟨c1, c2⟩ | ⟨c1, c2, c3, c4⟩
   ·rw [if_neg (by omega), if_pos c1] at a1
    have := pos (E m s j).To.toNat (by omega)
    omega
   ·rw [if_neg (by omega), if_neg (by omega)] at a1
    have x1 : p[(E m s j).To.toNat]? = some p[(E m s j).To.toNat] := List.getElem?_eq_getElem (by omega)
    have x2 : p[(E m t j).To.toNat]? = some p[(E m t j).To.toNat] := List.getElem?_eq_getElem (by omega)
    have := z5Y hp hr hf w (E m s j).To.toNat (E m t j).To.toNat (by omega) (by omega) (by rw [x1, x2] at a1 ⊢; exact congrArg some a1) hw'
    have e1 : (((E m s j).To.toNat : Nat) : Int) = (E m s j).To := by omega
    have e2 : (((E m t j).To.toNat : Nat) : Int) = (E m t j).To := by omega
    rw [e1, e2] at this
    exact this
def WQ (N : Nat) (p : List Int) : Nat := ((List.range N).flatMap fun s => (List.range N).map fun t => (s, t)).countP fun x => decide (p[x.1]? = p[x.2]?)
omit h in
theorem z28 {N s t : Nat} : (s, t) ∈ ((List.range N).flatMap fun s => (List.range N).map fun t => (s, t)) ↔ s < N ∧ t < N := by
 simp only [List.mem_flatMap, List.mem_map, List.mem_range, Prod.mk.injEq]
 constructor
 ·rintro ⟨a, ha, b, hb, rfl, rfl⟩; exact ⟨ha, hb⟩
 ·rintro ⟨a, b⟩; exact ⟨s, a, t, b, rfl, rfl⟩
theorem z4x : Ret (qH m) fun r => r.2.2 = 0 ∧ r.1.length = m.Rows.length ∧ Rgf r.1 ∧ ∀ s t : Nat, s < m.Rows.length → t < m.Rows.length → (r.1[s]? = r.1[t]? ↔ SEq m s t) := by
 have hN := h.len64
 have hN1 := h.len1
 unfold qH kN
 rw [V0, z0r h, Option.bind_some, bne_self_eq_false, cond_false, Option.bind_some]
 unfold uK
 rw [gdT (by omega), zP, zP]
 have e0 : ((m.Rows.length : Nat) : Int).toNat = m.Rows.length := by simp
 rw [e0]
 refine (wK (R := fun y : LR (List Int × Int) Empty => ∃ p n, y = .next (p, n) ∧ p.length = m.Rows.length ∧ Rgf p ∧ ∀ s t : Nat, s < m.Rows.length → t < m.Rows.length → (p[s]? = p[t]? ↔ SEq m s t))
  (fun st : LR (List Int × Int) Empty × List Int => (∃ x, st.1 = .next x) ∧ st.2.length = m.Rows.length ∧ Rgf st.2 ∧ ∀ s t : Nat, s < m.Rows.length → t < m.Rows.length → SEq m s t → st.2[s]? = st.2[t]?) (fun st => WQ m.Rows.length st.2) ⟨⟨_, rfl⟩, by simp, ?_, ?_⟩ ?_ ?_).mono ?_
 ·intro s x hx
  simp only [List.getElem?_replicate] at hx
  split at hx
  ·cases hx
   exact ⟨0, rfl, fun w q => by omega⟩
  ·cases hx
 ·intro s t hs ht _
  simp only [List.getElem?_replicate]
  rw [if_pos hs, if_pos ht]
 ·have : WQ m.Rows.length (List.replicate m.Rows.length (0 : Int)) ≤ ((List.range m.Rows.length).flatMap fun s => (List.range m.Rows.length).map fun t => (s, t)).length := List.countP_le_length
  have e : ((List.range m.Rows.length).flatMap fun s => (List.range m.Rows.length).map fun t => (s, t)).length = m.Rows.length * m.Rows.length := by
   rw [List.length_flatMap]
   simp only [List.length_map, List.length_range, List.map_const', List.sum_replicate_nat]
  rw [e] at this
  have := Nat.mul_le_mul hN hN
  show WQ m.Rows.length (List.replicate m.Rows.length (0 : Int)) < 18446744073709551616
  omega
 ·rintro ⟨y, p⟩ ⟨⟨⟨x, n⟩, rfl⟩, hp, hr, hq⟩
  simp only at hp hr hq
  show Ret (wY m (yOf fun s x => wv s.1 s.2 x) (.next (x, n)) p) _
  unfold wY
  simp only [yOf, wv, Option.bind_some, cond_true]
  rw [zP]
  refine (z2T h hp).mono ?_
  rintro q ⟨q1, q2, q3⟩
  rw [z2s p q (by omega), Option.bind_some, yz]
  refine ⟨fun hc => ?_, fun hc => ?_⟩
  ·have hc : p = q := of_decide_eq_true hc
   rw [zl]
   refine ⟨p, w64 (n + 1), rfl, hp, hr, fun s t hs ht => ⟨fun e w hw => ?_, hq s t hs ht⟩⟩
   exact z5Y h hp hr (fun s t hs ht e => (q3 s t hs ht).1 (by rw [← hc]; exact e)) w s t hs ht e hw
  ·have hc : ¬ p = q := of_decide_eq_false hc
   rw [zl]
   refine ⟨⟨⟨_, rfl⟩, q1, q2, fun s t hs ht e => (q3 s t hs ht).2 (z51 h hp hq hs ht e)⟩, ?_⟩
   show WQ m.Rows.length q < WQ m.Rows.length p
   unfold WQ
   refine Ks (fun z hz hd => ?_) ?_
   ·obtain ⟨s, t⟩ := z
    obtain ⟨hs, ht⟩ := z28.1 hz
    simp only [decide_eq_true_eq] at hd ⊢
    exact ((q3 s t hs ht).1 hd).1
   ·refine Classical.byContradiction fun g => hc (z3A hr q2 (by omega) fun s t hs ht => ⟨fun e => ?_, fun e => ((q3 s t (by omega) (by omega)).1 e).1⟩)
    refine Classical.byContradiction fun g2 => g ⟨(s, t), z28.2 ⟨by omega, by omega⟩, by simpa using e, by simpa using g2⟩
 ·rintro y ⟨p, n, rfl, g1, g2, g3⟩
  rw [zl]
  unfold qa
  simp only
  rw [zl]
  exact ⟨rfl, g1, g2, g3⟩
end
theorem z8M : ∀ (N : Nat) (l : List Nat), l.Nodup → (∀ t ∈ l, t < N) → l.length ≤ N
 | 0, l, _, h => by
  cases l with
  | nil => exact Nat.le_refl _
  | cons x l => have := h x (by simp); omega
 | N + 1, l, hn, h => by
  have ih := z8M N (l.erase N) (hn.erase N) fun t ht => by
   have h1 := h t (List.mem_of_mem_erase ht)
   have h2 : t ≠ N := fun e => by subst e; exact absurd ht (hn.not_mem_erase)
   omega
  by_cases hm : N ∈ l
  ·rw [List.length_erase_of_mem hm] at ih; omega
  ·rw [List.erase_of_not_mem hm] at ih; omega
def Cpl (m : z6) : Prop := ∀ s i, s < m.Rows.length → i < kk m → 0 ≤ (E m s i).To
def zde (m : z6) : Prop := ∀ t, t < m.Rows.length → Rch m t
def zb1 (m : z6) : Prop := ∀ s t, s < m.Rows.length → t < m.Rows.length → SEq m s t → s = t
def PE (m : z6) (e : Int) : Prop := (e = 9 ∧ ¬ Cpl m) ∨ (e = 11 ∧ Cpl m ∧ ¬ zde m) ∨ (e = 12 ∧ Cpl m ∧ zde m ∧ ¬ zb1 m) ∨ (e = 0 ∧ Cpl m ∧ zde m ∧ zb1 m)
theorem PE.uniq {m : z6} {e f : Int} (h : PE m e) (g : PE m f) : e = f := by
 rcases h with ⟨rfl, a⟩ | ⟨rfl, a, b⟩ | ⟨rfl, a, b, c⟩ | ⟨rfl, a, b, c⟩ <;> rcases g with ⟨rfl, x⟩ | ⟨rfl, x, y⟩ | ⟨rfl, x, y, z⟩ | ⟨rfl, x, y, z⟩ <;> first | rfl | exact absurd x a | exact absurd a x | exact absurd y b | exact absurd b y | exact absurd z c | exact absurd c z
section
variable {m : z6} (h : VM m)
include h
theorem z88 {s : Nat} (hs : s < m.Rows.length) {r : List z8} (r2 : r.length = kk m) (r3 : ∀ i, i < kk m → r[i]? = some (E m s i)) {out0 : List (wn Int)} (hl : out0.length ≤ s * 16) :
  Ret (loop (fun st => xZ (yOf fun s x => yg s x.1 x.2) (s : Int) r st.1 st.2) ((.next out0 : LR (List (wn Int)) Empty), 0)) fun y => ∃ out, y = .inl (.next out) ∧ out.length ≤ (s + 1) * 16 ∧ (out = [] ↔ out0 = [] ∧ ∀ i, i < kk m → 0 ≤ (E m s i).To) := by
 have hk := h.kk_le
 have hN := h.len64
 refine wK (fun st => ∃ (i : Nat) (out : List (wn Int)), st.2 = (i : Int) ∧ i ≤ kk m ∧ st.1 = .next out ∧ out.length ≤ s * 16 + i ∧ (out = [] ↔ out0 = [] ∧ ∀ j, j < i → 0 ≤ (E m s j).To)) (fun st => 20 - st.2.toNat) ⟨0, out0, rfl, by omega, rfl, by omega, by simp⟩ (by show 20 - _ < _; omega) ?_
 rintro ⟨_, _⟩ ⟨i, out, rfl, hi, rfl, ho, he⟩
 show Ret (xZ (yOf fun s x => yg s x.1 x.2) (s : Int) r (.next out) (i : Int)) _
 unfold xZ
 rw [yz]
 refine ⟨fun hc => ?_, fun hc => ?_⟩
 ·have hc : (i : Int) < ((r.length : Nat) : Int) := of_decide_eq_true hc
  have hik : i < kk m := by omega
  have w2 : w64 ((i : Int) + 1) = ((i + 1 : Nat) : Int) := by rw [xS (by omega) (by omega)]; rfl
  have hed := h.edgeAt hs hik
  rw [bdT (xj (r3 i hik))]
  unfold yOf yg vA
  simp only [Option.bind_some]
  by_cases ht : (E m s i).To = -1
  ·have ho1 : (E m s i).Out = -1 := by omega
   rw [ht, ho1]
   simp only [beq_self_eq_true, Bool.and_self, cond_true]
   rw [gdT (by simp; omega)]
   simp only [Option.bind_some, Bool.not_true, cond_false]
   rw [zl, w2]
   refine ⟨⟨i + 1, _, rfl, by omega, rfl, by simp; omega, ?_⟩, by simp only [Int.toNat_natCast]; omega⟩
   constructor
   ·intro q; simp at q
   ·rintro ⟨_, q⟩
    have := q i (by omega)
    omega
  ·have e1 : ((E m s i).To == -1) = false := by simpa using ht
   rw [e1, Bool.false_and, cond_false]
   simp only [Option.bind_some, Bool.not_true, cond_false]
   rw [zl, w2]
   refine ⟨⟨i + 1, out, rfl, by omega, rfl, by omega, he.trans ?_⟩, by simp only [Int.toNat_natCast]; omega⟩
   constructor
   ·rintro ⟨a, b⟩
    refine ⟨a, fun j hj => ?_⟩
    by_cases e : j = i
    ·subst e; omega
    ·exact b j (by omega)
   ·rintro ⟨a, b⟩; exact ⟨a, fun j hj => b j (by omega)⟩
 ·have hc := of_decide_eq_false hc
  have : i = kk m := by omega
  subst this
  exact zl.2 ⟨out, rfl, by omega, he⟩
theorem z2u : Ret (ub m) fun r => r.2 = 0 ∧ (r.1 = true ↔ Cpl m) := by
 have hk := h.kk_le
 have hN := h.len64
 unfold ub qd kO
 rw [V0, z0r h, Option.bind_some, bne_self_eq_false, cond_false, Option.bind_some]
 unfold uL
 rw [zP, zP, zP]
 refine (wK (R := fun y : LR (List (wn Int)) Empty => ∃ out, y = .next out ∧ out.length ≤ 2000 ∧ (out = [] ↔ Cpl m)) (fun st : LR (List (wn Int)) Empty × Int => ∃ (s : Nat) (out : List (wn Int)), st.2 = (s : Int) ∧ s ≤ m.Rows.length ∧ st.1 = .next out ∧ out.length ≤ s * 16 ∧ (out = [] ↔ ∀ t j, t < s → j < kk m → 0 ≤ (E m t j).To)) (fun st => 100 - st.2.toNat) ⟨0, [], rfl, by omega, rfl, by simp, by simp⟩ (by show 100 - _ < _; omega) ?_).mono ?_
 ·rintro ⟨_, _⟩ ⟨s, out, rfl, hs, rfl, ho, he⟩
  show Ret (wZ m (yOf fun s x => yg s x.1 x.2) (.next out) (s : Int)) _
  unfold wZ
  rw [yz]
  refine ⟨fun hc => ?_, fun hc => ?_⟩
  ·have hc : (s : Int) < ((m.Rows.length : Nat) : Int) := of_decide_eq_true hc
   have hsN : s < m.Rows.length := by omega
   obtain ⟨r, r1, r2, r3⟩ := h.rowAt hsN
   rw [bdT (xj r1), zP]
   refine (z88 h hsN r2 r3 ho).mono ?_
   rintro y ⟨out', rfl, g1, g2⟩
   simp only
   unfold ur
   rw [zl, xS (x := (s : Int) + 1) (by omega) (by omega)]
   refine ⟨⟨s + 1, out', rfl, by omega, rfl, g1, g2.trans ?_⟩, by simp only; omega⟩
   rw [he]
   constructor
   ·rintro ⟨a, b⟩ t j ht hj
    by_cases e : t = s
    ·subst e; exact b j hj
    ·exact a t j (by omega) hj
   ·intro a
    exact ⟨fun t j ht hj => a t j (by omega) hj, fun j hj => a s j (by omega) hj⟩
  ·have hc := of_decide_eq_false hc
   have : s = m.Rows.length := by omega
   subst this
   exact zl.2 ⟨out, rfl, by omega, he⟩
 ·rintro y ⟨out, rfl, g1, g2⟩
  rw [zl]
  simp only
  unfold vz wJ
  rw [gdT (by omega), Option.bind_some, zl, zl]
  refine ⟨rfl, ?_⟩
  rw [← g2]
  cases out with
  | nil => simp
  | cons a l => simp; omega
omit h in
theorem zak {l : List Int} (h0 : 0 < l.length) (hl : l.length ≤ 100000) : Ret (vt l) fun x => x ∈ l ∧ ∀ y ∈ l, y ≤ x := by
 unfold vt vq
 have e0 : l[0]? = some l[0] := List.getElem?_eq_getElem h0
 rw [decide_eq_false (by omega), cond_false, bdT (show idx l 0 = some l[0] from e0), zP]
 refine Ret.mono ?_ fun x hx => zl.2 hx
 refine wK (fun st => ∃ i : Nat, st.2 = (i : Int) ∧ 1 ≤ i ∧ i ≤ l.length ∧ st.1 ∈ l ∧ ∀ j y, j < i → l[j]? = some y → y ≤ st.1) (fun st => 100000 - st.2.toNat) ⟨1, rfl, by omega, by omega, List.getElem_mem _, fun j y hj hy => by
  have : j = 0 := by omega
  subst this
  rw [e0] at hy
  cases hy
  exact Int.le_refl _⟩ (by show 100000 - _ < _; omega) ?_
 rintro ⟨x, _⟩ ⟨i, rfl, i1, i2, hx, hm⟩
 simp only at hx hm
 show Ret (wg l x (i : Int)) _
 unfold wg
 rw [yz]
 refine ⟨fun hc => ?_, fun hc => ?_⟩
 ·have hc : (i : Int) < ((l.length : Nat) : Int) := of_decide_eq_true hc
  have hy : l[i]? = some l[i] := List.getElem?_eq_getElem (by omega)
  rw [bdT (xj hy), zl, xS (x := (i : Int) + 1) (by omega) (by omega)]
  refine ⟨⟨i + 1, rfl, by omega, by omega, ?_, fun j y hj hjy => ?_⟩, by simp only; omega⟩
  ·show mx x l[i] ∈ l
   unfold mx
   split
   ·exact List.getElem_mem _
   ·exact hx
  ·show y ≤ mx x l[i]
   unfold mx
   by_cases e : j = i
   ·subst e
    rw [hy] at hjy
    cases hjy
    split <;> omega
   ·have := hm j y (by omega) hjy
    split <;> omega
 ·have hc := of_decide_eq_false hc
  refine zl.2 ⟨hx, fun y hy => ?_⟩
  obtain ⟨j, hj⟩ := List.mem_iff_getElem?.1 hy
  exact hm j y (by have := (List.getElem?_eq_some_iff.1 hj).1; omega) hj
omit h in
theorem za1 {p : List Int} (hr : Rgf p) (h0 : 0 < p.length) {x : Int} (hx : x ∈ p) (hm : ∀ y ∈ p, y ≤ x) : x = (p.length : Int) - 1 ↔ ∀ s t : Nat, s < p.length → t < p.length → p[s]? = p[t]? → s = t := by
 constructor
 ·intro e
  obtain ⟨s0, hs0⟩ := List.mem_iff_getElem?.1 hx
  obtain ⟨v, v1, v2⟩ := hr s0 x hs0
  have hs0l := (List.getElem?_eq_some_iff.1 hs0).1
  have place : ∀ w : Nat, w < p.length → ∃ s, s < p.length ∧ p[s]? = some (w : Int) := by
   intro w hw
   by_cases q : w = v
   ·subst q; exact ⟨s0, hs0l, by rw [hs0, v1]⟩
   ·obtain ⟨t, t1, t2⟩ := v2 w (by omega)
    exact ⟨t, by omega, t2⟩
  intro s t hs ht hst
  refine Classical.byContradiction fun hne => ?_
  have : ∃ g : Nat → Nat, ∀ w, w < p.length → g w < p.length ∧ p[g w]? = some (w : Int) := by
   classical
   exact ⟨fun w => if q : w < p.length then (place w q).choose else 0, fun w hw => by simp only [hw, dif_pos]; exact (place w hw).choose_spec⟩
  obtain ⟨g, hg⟩ := this
  have : ∃ u, u < p.length ∧ ∀ w, w < p.length → g w ≠ u := by
   refine Classical.byContradiction fun q => ?_
   have q : ∀ u, u < p.length → ∃ w, w < p.length ∧ g w = u := fun u hu => Classical.byContradiction fun q2 => q ⟨u, hu, fun w hw e => q2 ⟨w, hw, e⟩⟩
   obtain ⟨a, a1, rfl⟩ := q s hs
   obtain ⟨b, b1, rfl⟩ := q t ht
   rw [(hg a a1).2, (hg b b1).2] at hst
   have : a = b := by have := Option.some.inj hst; omega
   exact hne (by rw [this])
  obtain ⟨u, hu, hgu⟩ := this
  have hnd : (u :: (List.range p.length).map g).Nodup := by
   rw [List.nodup_cons]
   refine ⟨fun q => ?_, ?_⟩
   ·obtain ⟨w, hw, e⟩ := List.mem_map.1 q
    exact hgu w (List.mem_range.1 hw) e
   ·rw [List.Nodup, List.pairwise_map]
    refine List.Pairwise.imp_of_mem (fun {a b} ha hb hab => ?_) List.nodup_range
    intro e
    have ha := hg a (List.mem_range.1 ha)
    have hb := hg b (List.mem_range.1 hb)
    rw [e, hb.2] at ha
    have := Option.some.inj ha.2
    omega
  have := z8M p.length _ hnd (fun w hw => by
   rcases List.mem_cons.1 hw with rfl | q
   ·exact hu
   ·obtain ⟨z, hz, rfl⟩ := List.mem_map.1 q
    exact (hg z (List.mem_range.1 hz)).1)
  simp at this
  omega
 ·intro q
  have e : p = (List.range p.length).map Int.ofNat := by
   refine z3A hr (fun s y hy => ?_) (by simp) fun s t hs ht => ?_
   ·have hs : s < p.length := by have := (List.getElem?_eq_some_iff.1 hy).1; simpa using this
    simp [hs] at hy
    refine ⟨s, hy.symm, fun w hw => ⟨w, hw, by simp [show w < p.length by omega]⟩⟩
   ·constructor
    ·intro g; rw [q s t hs ht g]
    ·intro g
     simp [hs, ht] at g
     have : s = t := by omega
     rw [this]
  have hin : ((p.length - 1 : Nat) : Int) ∈ (List.range p.length).map Int.ofNat := List.mem_map.2 ⟨p.length - 1, List.mem_range.2 (by omega), rfl⟩
  rw [← e] at hin
  have h1 := hm _ hin
  rw [e] at hx
  obtain ⟨w, hw, rfl⟩ := List.mem_map.1 hx
  have := List.mem_range.1 hw
  have : Int.ofNat w = (w : Int) := rfl
  omega
theorem z4m : Ret (xQ m) (PE m) := by
 have hN := h.len64
 have hN1 := h.len1
 unfold xQ jW qX qW qV uq
 rw [V0, z0r h, Option.bind_some, bne_self_eq_false, cond_false, Option.bind_some, zP, zP]
 refine (z2u h).mono ?_
 rintro ⟨b1, _⟩ ⟨_, hb1⟩
 rw [zl]
 simp only at hb1 ⊢
 cases b1 with
 | false => exact zl.2 (.inl ⟨rfl, fun q => by have := hb1.2 q; cases this⟩)
 | true =>
  have hc := hb1.1 rfl
  simp only [Bool.not_true, cond_false]
  rw [zP, zP]
  refine (z1d h).mono ?_
  rintro ⟨b2, _⟩ ⟨_, hb2⟩
  rw [zl]
  simp only at hb2 ⊢
  cases b2 with
  | false => exact zl.2 (.inr (.inl ⟨rfl, hc, fun q => by have := hb2.2 q; cases this⟩))
  | true =>
   have hr := hb2.1 rfl
   simp only [Bool.not_true, cond_false]
   rw [zP, zP]
   refine (z4x h).mono ?_
   rintro ⟨p, n, e⟩ ⟨_, hp, hrg, hq⟩
   simp only at hp hrg hq ⊢
   rw [zP]
   refine (zak (l := p) (by omega) (by omega)).mono ?_
   rintro x ⟨x1, x2⟩
   have hmax := za1 hrg (by omega) x1 x2
   rw [zl, xS (x := ((p.length : Nat) : Int) - 1) (by omega) (by omega)]
   have hd : zb1 m ↔ ∀ s t : Nat, s < p.length → t < p.length → p[s]? = p[t]? → s = t := by
    rw [hp]
    exact ⟨fun d s t hs ht g => d s t hs ht ((hq s t hs ht).1 g), fun d s t hs ht g => d s t hs ht ((hq s t hs ht).2 g)⟩
   by_cases g : x = (p.length : Int) - 1
   ·rw [beq_iff_eq.2 g]
    simp only [Bool.not_true, cond_false]
    exact zl.2 (.inr (.inr (.inr ⟨rfl, hc, hr, hd.2 (hmax.1 g)⟩)))
   ·have : (x == (p.length : Int) - 1) = false := by simpa using g
    rw [this]
    simp only [Bool.not_false, cond_true]
    exact zl.2 (.inr (.inr (.inl ⟨rfl, hc, hr, fun d => g (hmax.2 (hd.1 d))⟩)))
end
section
variable {S : Type} {k : Nat} {bad : S → Nat → Bool} {nx : S → Nat → Option S}
def Lst (k : Nat) (bad : S → Nat → Bool) (nx : S → Nat → Option S) (p : S) (w : List Nat) : Prop :=
 QB k bad nx p w ∧ ∀ v, QB k bad nx p v → w.length ≤ v.length ∧ (w.length = v.length → z8v w v)
theorem z0j : ∀ {w v : List Nat}, z8v w v → z8v v w → w.length = v.length → w = v
 | [], [], _, _, _ => rfl
 | [], _ :: _, _, _, h => by simp at h
 | _ :: _, [], _, _, h => by simp at h
 | i :: u, j :: v, h1, h2, hl => by
  rcases h1 with a | ⟨rfl, a⟩
  ·rcases h2 with b | ⟨b, _⟩ <;> omega
  ·rcases h2 with b | ⟨_, b⟩
   ·omega
   ·rw [z0j a b (by simpa using hl)]
theorem Lst.uniq {p : S} {w v : List Nat} (h : Lst k bad nx p w) (g : Lst k bad nx p v) : w = v := by
 have a := h.2 v g.1
 have b := g.2 w h.1
 exact z0j (a.2 (by omega)) (b.2 (by omega)) (by omega)
theorem Lst.le {n : Nat} {p : S} {w : List Nat} (h : Lst k bad nx p w) (hm : Mk k bad nx n p) : w.length ≤ n := by
 obtain ⟨v, h1, h2⟩ := hm.tell
 have := (h.2 v h1).1
 omega
theorem z5F {p : S} {i : Nat} (hi : i < k) (hb : bad p i = true) (hl : ∀ j, j < i → bad p j = false) : Lst k bad nx p [i] := by
 refine ⟨⟨hi, hb⟩, fun v hv => ?_⟩
 cases v with
 | nil => exact hv.elim
 | cons j v =>
  refine ⟨by simp, fun e => ?_⟩
  have : v = [] := by simpa using e.symm
  subst this
  rcases Nat.lt_trichotomy i j with q | q | q
  ·exact .inl q
  ·exact .inr ⟨q, trivial⟩
  ·have := hl j q
   rw [hv.2] at this
   cases this
theorem z5z {n : Nat} {p : S} (hn : ¬ Mk k bad nx (n + 1) p) {j : Nat} (hj : j < k) : bad p j = false := by
 cases hc : bad p j with
 | false => rfl
 | true => exact (hn ((Mk.mono (n := 1) (.inr ⟨j, hj, .inl hc⟩) (by omega)))).elim
theorem z3M {n : Nat} {p q : S} {i : Nat} {u : List Nat} (hn : ¬ Mk k bad nx (n + 1) p) (hi : i < k) (hq : nx p i = some q) (hu : Lst k bad nx q u) (hul : u.length = n + 1)
  (hl : ∀ j, j < i → ∀ r, nx p j = some r → ¬ Mk k bad nx (n + 1) r) : Lst k bad nx p (i :: u) := by
 refine ⟨?_, fun v hv => ?_⟩
 ·cases u with
  | nil => simp at hul
  | cons j u => exact ⟨hi, z5z hn hi, q, hq, hu.1⟩
 ·have hlen : n + 2 ≤ v.length := by
   rcases Nat.lt_or_ge v.length (n + 2) with g | g
   ·exact (hn (Mk.mono (Xp hv) (by omega))).elim
   ·exact g
  refine ⟨by simp [hul]; omega, fun e => ?_⟩
  match v, hv with
  | [], hv => exact hv.elim
  | [j], hv => simp [hul] at e
  | j :: x :: v, ⟨hj, hjb, r, hr, hv⟩ =>
   have hmj : Mk k bad nx (n + 1) r := Mk.mono (Xp hv) (by simp [hul] at e ⊢; omega)
   rcases Nat.lt_trichotomy i j with g | rfl | g
   ·exact .inl g
   ·rw [hq] at hr
    cases hr
    exact .inr ⟨rfl, (hu.2 _ hv).2 (by simpa using e)⟩
   ·exact (hl j g r hr hmj).elim
end
section
variable {m : z6} (h : WM m)
theorem z47 (p : Nat × Nat) (i : Nat) : Yj m m (p.2, p.1) i = Yj m m p i := by
 unfold Yj
 exact bne_comm
theorem zaf (p : Nat × Nat) (i : Nat) : nxP m m (p.2, p.1) i = (nxP m m p i).map fun q => (q.2, q.1) := by
 unfold nxP
 by_cases e : 0 ≤ (E m p.1 i).To ∧ 0 ≤ (E m p.2 i).To
 ·rw [if_pos e, if_pos ⟨e.2, e.1⟩]
  rfl
 ·rw [if_neg e, if_neg fun q => e ⟨q.2, q.1⟩]
  rfl
theorem z3i : ∀ {w : List Nat} {p : Nat × Nat}, QB (kk m) (Yj m m) (nxP m m) p w → QB (kk m) (Yj m m) (nxP m m) (p.2, p.1) w
 | [], _, g => g.elim
 | [i], p, g => ⟨g.1, by rw [z47]; exact g.2⟩
 | i :: j :: w, p, ⟨hi, hb, q, hq, g⟩ => ⟨hi, by rw [z47]; exact hb, (q.2, q.1), by rw [zaf, hq]; rfl, z3i g⟩
theorem z7K {w : List Nat} {p : Nat × Nat} (g : Lst (kk m) (Yj m m) (nxP m m) p w) : Lst (kk m) (Yj m m) (nxP m m) (p.2, p.1) w :=
 ⟨z3i g.1, fun v hv => g.2 v (z3i hv)⟩
theorem z2X {n : Nat} {p : Nat × Nat} (g : Mk (kk m) (Yj m m) (nxP m m) n p) : Mk (kk m) (Yj m m) (nxP m m) n (p.2, p.1) := by
 obtain ⟨w, h1, h2⟩ := g.tell
 exact (Xp (z3i h1)).mono h2
theorem z1D : ∀ {w : List Nat} {s : Nat}, ¬ QB (kk m) (Yj m m) (nxP m m) (s, s) w
 | [], _, g => g
 | [i], s, g => by
  have := g.2
  simp [Yj] at this
 | i :: j :: w, s, ⟨_, _, q, hq, g⟩ => by
  unfold nxP at hq
  split at hq
  ·cases hq
   exact z1D g
  ·cases hq
theorem zaj {n s : Nat} : ¬ Mk (kk m) (Yj m m) (nxP m m) n (s, s) := fun g => by
 obtain ⟨w, h1, _⟩ := g.tell
 exact z1D h1
theorem JO : ∀ {w : List Nat} {p : Nat × Nat}, QB (kk m) (Yj m m) (nxP m m) p w → rsp m (p.1 : Int) w ≠ rsp m (p.2 : Int) w
 | [], _, g => g.elim
 | [i], p, g => by
  intro e
  simp only [rsp, Y7, List.cons.injEq, and_true] at e
  have := g.2
  simp [Yj, e] at this
 | i :: j :: w, p, ⟨_, _, q, hq, g⟩ => by
  intro e
  have ih := JO g
  have e2 := (List.cons.inj (show (nxE m (p.1 : Int) i).Out :: rsp m (nxE m (p.1 : Int) i).To (j :: w) = (nxE m (p.2 : Int) i).Out :: rsp m (nxE m (p.2 : Int) i).To (j :: w) from e)).2
  rw [Y7, Y7] at e2
  unfold nxP at hq
  split at hq
  ·rename_i hc
   cases hq
   simp only [Int.toNat_of_nonneg hc.1, Int.toNat_of_nonneg hc.2] at ih
   exact ih e2
  ·cases hq
include h
theorem z0U : ∀ (w : List Nat) (p : Nat × Nat), p.1 < m.Rows.length → p.2 < m.Rows.length → Wd (kk m) w → rsp m (p.1 : Int) w ≠ rsp m (p.2 : Int) w → ∃ v u, QB (kk m) (Yj m m) (nxP m m) p v ∧ w = v ++ u
 | [], _, _, _, _, q => (q rfl).elim
 | i :: w, p, h1, h2, hw, q => by
  have hi := hw i (by simp)
  by_cases hb : Yj m m p i = true
  ·exact ⟨[i], w, ⟨hi, hb⟩, rfl⟩
  ·have he : (E m p.1 i).Out = (E m p.2 i).Out := by simpa [Yj] using hb
   simp only [rsp, Y7, he, ne_eq, List.cons.injEq, true_and] at q
   have a := h.edgeAt h1 hi
   have b := h.edgeAt h2 hi
   by_cases hc : 0 ≤ (E m p.1 i).To ∧ 0 ≤ (E m p.2 i).To
   ·have hr : nxP m m p i = some ((E m p.1 i).To.toNat, (E m p.2 i).To.toNat) := by unfold nxP; rw [if_pos hc]
    have hin := h.nx_in h1 h2 hi hr
    obtain ⟨v, u, g1, g2⟩ := z0U w _ hin.1 hin.2 (fun j hj => hw j (by simp [hj])) (by simpa only [Int.toNat_of_nonneg hc.1, Int.toNat_of_nonneg hc.2] using q)
    refine ⟨i :: v, u, ?_, by rw [g2]; rfl⟩
    cases v with
    | nil => exact g1.elim
    | cons j v => exact ⟨hi, by simpa using hb, _, hr, g1⟩
   ·exfalso
    refine q ?_
    have e1 : (E m p.1 i).To = -1 := by omega
    have e2 : (E m p.2 i).To = -1 := by omega
    rw [e1, e2]
end
abbrev TbT := ArN 64 (ArN 64 (List Int))
def cl (f : TbT) (s t : Nat) : List Int := ((f.l[s]?.map fun r => r.l[t]?.getD [])).getD []
theorem z0q (f : TbT) {s t : Nat} (hs : s < 64) (ht : t < 64) : ∃ r, f.l[s]? = some r ∧ r.l[t]? = some (cl f s t) := by
 have h1 : f.l[s]? = some (f.l[s]'(by rw [f.len]; exact hs)) := List.getElem?_eq_getElem (by rw [f.len]; exact hs)
 refine ⟨_, h1, ?_⟩
 unfold cl
 rw [h1]
 have h2 : (f.l[s]'(by rw [f.len]; exact hs)).l[t]? = some _ := List.getElem?_eq_getElem (by rw [ArN.len]; exact ht)
 simp only [Option.map_some, Option.getD_some]
 rw [h2]
 rfl
def z4z (f : TbT) (s t : Nat) (w : List Int) : TbT := match f.l[s]? with | some r => ArN.setI f (s : Int) (ArN.setI r (t : Int) w) | none => f
theorem z6b (f : TbT) {s t : Nat} (hs : s < 64) (ht : t < 64) (w : List Int) (x y : Nat) : cl (z4z f s t w) x y = if x = s ∧ y = t then w else cl f x y := by
 obtain ⟨r, h1, h2⟩ := z0q f hs ht
 have hl : s < f.l.length := by rw [f.len]; exact hs
 have hr : t < r.l.length := by rw [r.len]; exact ht
 unfold z4z
 rw [h1]
 simp only [cl, ArN.setI, Int.toNat_natCast, List.getElem?_set]
 by_cases hx : s = x
 ·subst hx
  rw [if_pos rfl, if_pos hl, h1]
  simp only [Option.map_some, Option.getD_some, true_and, List.getElem?_set]
  by_cases hy : t = y
  ·subst hy
   rw [if_pos rfl, if_pos hr, if_pos rfl]
   rfl
  ·rw [if_neg hy, if_neg (fun e => hy e.symm)]
 ·rw [if_neg hx, if_neg (fun e => hx e.1.symm)]
theorem z9e (f : TbT) {s t : Nat} (hs : s < 64) (ht : t < 64) (w : List Int) : uG (s : Int) (t : Int) w f = some (z4z (z4z f s t w) t s w) := by
 obtain ⟨r, h1, h2⟩ := z0q f hs ht
 obtain ⟨r', h3, h4⟩ := z0q (z4z f s t w) ht hs
 have e1 : z4z f s t w = ArN.setI f (s : Int) (ArN.setI r (t : Int) w) := by unfold z4z; rw [h1]
 unfold uG
 rw [yU, bdT h1, yU, bdT h2, Option.bind_some, Option.bind_some, ← e1, yU, bdT h3, yU, bdT h4, Option.bind_some, Option.bind_some]
 unfold z4z
 rw [h1]
 rw [e1] at h3
 simp only
 rw [h3]
theorem zcz (a : Int) (w : List Int) (hw : w.length ≤ 1000) : wh [[a], w] = some (a :: w) := by
 have e0 : idx [[a], w] 0 = some [a] := rfl
 have e1 : idx [[a], w] 1 = some w := rfl
 have w1 : w64 1 = 1 := xS (by omega) (by omega)
 have w2 : w64 2 = 2 := xS (by omega) (by omega)
 have w3 : w64 (1 + ((w.length : Nat) : Int)) = 1 + ((w.length : Nat) : Int) := by rw [xS (by omega) (by omega)]
 have h1 : loop (fun s => zD [[a], w] s.1 s.2) (0, 0) = some (1 + (w.length : Int)) := by
  refine Xz (step := fun s => zD [[a], w] s.1 s.2) (fun i => match i with | 0 => ((0 : Int), (0 : Int)) | 1 => (1, 1) | _ => (1 + (w.length : Int), 2)) 2 (by omega) (fun i hi => ?_) ?_
  ·match i, hi with
   | 0, _ =>
    show zD [[a], w] 0 0 = _
    unfold zD
    rw [e0]
    simp [w1]
   | 1, _ =>
    show zD [[a], w] 1 1 = _
    unfold zD
    rw [e1]
    have : ¬ (1 + ((w.length : Nat) : Int) < 0) := by omega
    simp [this, w2, w3]
  ·show zD [[a], w] _ 2 = _
   unfold zD
   simp
 have h2 : loop (fun s => zF [[a], w] s.1 s.2) (([] : List Int), 0) = some (a :: w) := by
  refine Xz (step := fun s => zF [[a], w] s.1 s.2) (fun i => match i with | 0 => (([] : List Int), (0 : Int)) | 1 => ([a], 1) | _ => (a :: w, 2)) 2 (by omega) (fun i hi => ?_) ?_
  ·match i, hi with
   | 0, _ =>
    show zF [[a], w] [] 0 = _
    unfold zF
    rw [e0]
    simp [w1, gd]
   | 1, _ =>
    show zF [[a], w] [a] 1 = _
    unfold zF
    rw [e1]
    have : 1 + w.length ≤ 4294967296 := by omega
    simp [w2, gd, this]
  ·show zF [[a], w] _ 2 = _
   unfold zF
   simp
 unfold wh ws xI wr
 rw [bdT h1]
 have g : (([] : List Int).isEmpty && (decide (0 < 1 + (w.length : Int)) && decide (1 + (w.length : Int) ≤ 1000000))) = true := by simp; omega
 rw [g, cond_true, Option.bind_some, bdT h2]
theorem z90 (s : List Int) (hs : s.length ≤ 1000) : y4 s = some s := by
 unfold y4
 rw [gdT ⟨by omega, by omega, by omega, by omega⟩]
 simp
theorem zcy (s : List Int) (hs : s.length ≤ 1000) : ym s = some s := by
 unfold ym
 rw [gdT (by simp; omega)]
theorem z4g (m : z6) (hN : m.Rows.length ≤ 1000) {σ : Type} (yy : σ → (Int × Int) → Option (σ × Bool)) (I : Nat → Nat → σ → Prop) (Q : σ → Prop) {sg : σ} (h0 : I 0 1 sg)
  (hy : ∀ (s t : Nat) sg, s < t → t < m.Rows.length → I s t sg → Ret (yy sg ((s : Int), (t : Int))) fun r => (r.2 = true ∧ I s (t + 1) r.1) ∨ (r.2 = false ∧ Q r.1))
  (hr : ∀ (s t : Nat) sg, s < m.Rows.length → s < t → m.Rows.length ≤ t → I s t sg → I (s + 1) (s + 2) sg) (hq : ∀ (s t : Nat) sg, m.Rows.length ≤ s → I s t sg → Q sg) : Ret (vF m yy sg) Q := by
 have hw : ∀ k : Nat, k ≤ 1000 → w64 ((k : Int) + 1) = ((k + 1 : Nat) : Int) := fun k hk => by rw [xS (by omega) (by omega)]; rfl
 unfold vF
 rw [zP]
 refine Ret.mono (Q := Q) ?_ fun o ho => zl.2 ho
 refine wK (fun q => ∃ s : Nat, q.2 = (s : Int) ∧ s ≤ m.Rows.length ∧ I s (s + 1) q.1) (fun q => 2000 - q.2.toNat) ⟨0, rfl, Nat.zero_le _, h0⟩ (by simp) ?_
 rintro ⟨g, q⟩ ⟨s, e2, hs, hI⟩
 simp only at e2 hI
 subst e2
 unfold qR
 rw [yz]
 refine ⟨fun hc => ?_, fun hc => ?_⟩
 ·have hs' : s < m.Rows.length := by simpa using hc
  rw [zP, hw s (by omega)]
  have inner : Ret (loop (fun q => vQ m yy (s : Int) q.1 q.2) (g, ((s + 1 : Nat) : Int))) fun r => match r with | .inl g' => ∃ t : Nat, s < t ∧ m.Rows.length ≤ t ∧ I s t g' | .inr g' => Q g' := by
   refine wK (fun q => ∃ t : Nat, q.2 = (t : Int) ∧ s < t ∧ t ≤ m.Rows.length ∧ I s t q.1) (fun q => 2000 - q.2.toNat) ⟨s + 1, rfl, by omega, by omega, hI⟩ (by simp only; omega) ?_
   rintro ⟨g', q⟩ ⟨t, e2, ht1, ht2, hI⟩
   simp only at e2 hI
   subst e2
   unfold vQ
   rw [yz]
   refine ⟨fun hc => ?_, fun hc => ?_⟩
   ·have ht' : t < m.Rows.length := by simpa using hc
    rw [zP]
    refine (hy s t g' ht1 ht' hI).mono fun r hr => ?_
    rw [yz, hw t (by omega)]
    rcases hr with ⟨e, h⟩ | ⟨e, h⟩
    ·exact ⟨fun c => by simp [e] at c, fun _ => zl.2 ⟨⟨t + 1, rfl, by omega, by omega, h⟩, by simp only [Int.toNat_natCast]; omega⟩⟩
    ·exact ⟨fun _ => zl.2 h, fun c => by simp [e] at c⟩
   ·have ht' : ¬ t < m.Rows.length := by simpa using hc
    exact zl.2 ⟨t, ht1, by omega, hI⟩
  refine inner.mono fun r hr' => ?_
  cases r with
  | inl p =>
   obtain ⟨t, h1, h2, h3⟩ := hr'
   unfold qS
   rw [hw s (by omega)]
   exact zl.2 ⟨⟨s + 1, rfl, by omega, hr s t p hs' h1 h2 h3⟩, by simp only [Int.toNat_natCast]; omega⟩
  | inr p => exact zl.2 hr'
 ·have hs' : ¬ s < m.Rows.length := by simpa using hc
  exact zl.2 (hq s (s + 1) g (by omega) hI)
theorem Qp (n : Nat) (hN : n ≤ 1000) {σ : Type} (yy : σ → (Int × Int) → Option (σ × Bool)) (I : Nat → Nat → σ → Prop) (Q : σ → Prop) {sg : σ} (h0 : I 0 1 sg)
  (hy : ∀ (s t : Nat) sg, s < t → t < n → I s t sg → Ret (yy sg ((s : Int), (t : Int))) fun r => (r.2 = true ∧ I s (t + 1) r.1) ∨ (r.2 = false ∧ Q r.1))
  (hr : ∀ (s t : Nat) sg, s < n → s < t → n ≤ t → I s t sg → I (s + 1) (s + 2) sg) (hq : ∀ (s t : Nat) sg, n ≤ s → I s t sg → Q sg) : Ret (yP (n : Int) yy sg) Q := by
 have hw : ∀ k : Nat, k ≤ 1000 → w64 ((k : Int) + 1) = ((k + 1 : Nat) : Int) := fun k hk => by rw [xS (by omega) (by omega)]; rfl
 unfold yP
 rw [zP]
 refine Ret.mono (Q := Q) ?_ fun o ho => zl.2 ho
 refine wK (fun q => ∃ s : Nat, q.2 = (s : Int) ∧ s ≤ n ∧ I s (s + 1) q.1) (fun q => 2000 - q.2.toNat) ⟨0, rfl, Nat.zero_le _, h0⟩ (by simp) ?_
 rintro ⟨g, q⟩ ⟨s, e2, hs, hI⟩
 simp only at e2 hI
 subst e2
 unfold j4
 rw [yz]
 refine ⟨fun hc => ?_, fun hc => ?_⟩
 ·have hs' : s < n := by simpa using hc
  rw [zP, hw s (by omega)]
  have inner : Ret (loop (fun q => ud (n : Int) yy (s : Int) q.1 q.2) (g, ((s + 1 : Nat) : Int))) fun r => match r with | .inl g' => ∃ t : Nat, s < t ∧ n ≤ t ∧ I s t g' | .inr g' => Q g' := by
   refine wK (fun q => ∃ t : Nat, q.2 = (t : Int) ∧ s < t ∧ t ≤ n ∧ I s t q.1) (fun q => 2000 - q.2.toNat) ⟨s + 1, rfl, by omega, by omega, hI⟩ (by simp only; omega) ?_
   rintro ⟨g', q⟩ ⟨t, e2, ht1, ht2, hI⟩
   simp only at e2 hI
   subst e2
   unfold ud
   rw [yz]
   refine ⟨fun hc => ?_, fun hc => ?_⟩
   ·have ht' : t < n := by simpa using hc
    rw [zP]
    refine (hy s t g' ht1 ht' hI).mono fun r hr => ?_
    rw [yz, hw t (by omega)]
    rcases hr with ⟨e, h⟩ | ⟨e, h⟩
    ·exact ⟨fun c => by simp [e] at c, fun _ => zl.2 ⟨⟨t + 1, rfl, by omega, by omega, h⟩, by simp only [Int.toNat_natCast]; omega⟩⟩
    ·exact ⟨fun _ => zl.2 h, fun c => by simp [e] at c⟩
   ·have ht' : ¬ t < n := by simpa using hc
    exact zl.2 ⟨t, ht1, by omega, hI⟩
  refine inner.mono fun r hr' => ?_
  cases r with
  | inl p =>
   obtain ⟨t, h1, h2, h3⟩ := hr'
   unfold j5
   rw [hw s (by omega)]
   exact zl.2 ⟨⟨s + 1, rfl, by omega, hr s t p hs' h1 h2 h3⟩, by simp only [Int.toNat_natCast]; omega⟩
  | inr p => exact zl.2 hr'
 ·have hs' : ¬ s < n := by simpa using hc
  exact zl.2 (hq s (s + 1) g (by omega) hI)
abbrev MkP (m : z6) (n : Nat) (p : Nat × Nat) : Prop := Mk (kk m) (Yj m m) (nxP m m) n p
abbrev z4a (m : z6) (p : Nat × Nat) (w : List Nat) : Prop := Lst (kk m) (Yj m m) (nxP m m) p w
def Tb (m : z6) (r : Nat) (f : TbT) : Prop :=
 ∀ s t, s < m.Rows.length → t < m.Rows.length → (MkP m r (s, t) → ∃ w, z4a m (s, t) w ∧ cl f s t = w.map Int.ofNat) ∧ (¬ MkP m r (s, t) → cl f s t = [])
theorem zal {m : z6} {r i : Nat} {p q : Nat × Nat} {w : List Nat} (hn : ¬ MkP m r p) (hi : i < kk m) (hb : Yj m m p i = false) (hq : nxP m m p i = some q) (hw : z4a m q w) (hm : MkP m r q) : w.length = r := by
 have h1 := hw.le hm
 rcases Nat.lt_or_ge w.length r with g | g
 ·refine (hn ?_).elim
  have ht : QB (kk m) (Yj m m) (nxP m m) p (i :: w) := by
   cases w with
   | nil => exact hw.1.elim
   | cons j w => exact ⟨hi, hb, q, hq, hw.1⟩
  exact Mk.mono (Xp ht) (by simp only [List.length_cons]; omega)
 ·omega
section
variable {m : z6} (h : VM m) (hc : Cpl m)
include h hc
theorem z7e {f : TbT} {r s t : Nat} (hf : Tb m r f) (hs : s < m.Rows.length) (ht : t < m.Rows.length) (hr : r ≤ 100) (hn : ¬ MkP m r (s, t)) :
  Ret (vR m (s : Int) (t : Int) ((r + 1 : Nat) : Int) f) fun o => o.2 = f ∧ (MkP m (r + 1) (s, t) → ∃ w, w.length = r + 1 ∧ z4a m (s, t) w ∧ o.1 = w.map Int.ofNat) ∧ (¬ MkP m (r + 1) (s, t) → o.1 = []) := by
 have hl := h.len64
 have hk := h.kk_le
 obtain ⟨row, r1, r2, r3⟩ := h.rowAt hs
 obtain ⟨row', q1, q2, q3⟩ := h.rowAt ht
 unfold vR
 rw [yU, bdT r1, zP]
 have main : Ret (loop (fun x => wC m (t : Int) ((r + 1 : Nat) : Int) f row x) 0) fun out => (MkP m (r + 1) (s, t) ∧ ∃ w, w.length = r + 1 ∧ z4a m (s, t) w ∧ out = w.map Int.ofNat) ∨ (¬ MkP m (r + 1) (s, t) ∧ out = []) := by
  refine wK (fun x => ∃ i : Nat, x = (i : Int) ∧ i ≤ kk m ∧ ∀ j, j < i → Yj m m (s, t) j = false ∧ ∀ q, nxP m m (s, t) j = some q → ¬ MkP m r q) (fun x => 100 - x.toNat) ⟨0, rfl, Nat.zero_le _, fun j hj => by omega⟩ (by simp) ?_
  rintro x ⟨i, rfl, hi, hj⟩
  unfold wC xM
  rw [yz, r2]
  refine ⟨fun c => ?_, fun c => ?_⟩
  ·have hi' : i < kk m := by simpa using c
   have ew : w64 ((i : Int) + 1) = ((i + 1 : Nat) : Int) := by rw [xS (by omega) (by omega)]; rfl
   have en : w64 (((r + 1 : Nat) : Int) - 1) = (r : Int) := by rw [xS (by omega) (by omega)]; omega
   have step : Yj m m (s, t) i = false → (∀ q, nxP m m (s, t) i = some q → ¬ MkP m r q) → Ret (some (.next (w64 ((i : Int) + 1))) : Option (LR Int (List Int))) (LRP (fun s' => (∃ i : Nat, s' = (i : Int) ∧ i ≤ kk m ∧ ∀ j, j < i → Yj m m (s, t) j = false ∧ ∀ q, nxP m m (s, t) j = some q → ¬ MkP m r q) ∧ 100 - s'.toNat < 100 - (i : Int).toNat) fun out => (MkP m (r + 1) (s, t) ∧ ∃ w, w.length = r + 1 ∧ z4a m (s, t) w ∧ out = w.map Int.ofNat) ∨ (¬ MkP m (r + 1) (s, t) ∧ out = [])) := by
    intro g1 g2
    rw [ew]
    refine zl.2 ⟨⟨i + 1, rfl, hi', fun j hj' => ?_⟩, by simp only [Int.toNat_natCast]; omega⟩
    rcases Nat.lt_or_ge j i with q | q
    ·exact hj j q
    ·have : j = i := by omega
     subst this
     exact ⟨g1, g2⟩
   rw [yU, bdT (r3 i hi'), yU, bdT q1, yU, bdT (q3 i hi'), yz]
   refine ⟨fun c1 => ?_, fun c1 => ?_⟩
   ·have hb : Yj m m (s, t) i = true := c1
    have h0 : r = 0 := by
     cases r with
     | zero => rfl
     | succ r => rw [z5z hn hi'] at hb; cases hb
    subst h0
    exact zl.2 (.inl ⟨.inr ⟨i, hi', .inl hb⟩, [i], rfl, z5F hi' hb fun j hj' => (hj j hj').1, rfl⟩)
   ·have hb : Yj m m (s, t) i = false := c1
    rw [yz]
    refine ⟨fun c2 => ?_, fun c2 => ?_⟩
    ·have hr1 : 1 ≤ r := by
      have : (1 : Int) < ((r + 1 : Nat) : Int) := by simpa using c2
      omega
     have a0 := hc s i hs hi'
     have b0 := hc t i ht hi'
     have a1 := h.edgeAt hs hi'
     have b1 := h.edgeAt ht hi'
     obtain ⟨a, ha⟩ : ∃ a : Nat, (E m s i).To = a := ⟨(E m s i).To.toNat, by omega⟩
     obtain ⟨b, hb'⟩ : ∃ b : Nat, (E m t i).To = b := ⟨(E m t i).To.toNat, by omega⟩
     have hal : a < m.Rows.length := by omega
     have hbl : b < m.Rows.length := by omega
     have hnx : nxP m m (s, t) i = some (a, b) := by
      unfold nxP
      rw [if_pos ⟨a0, b0⟩]
      simp [ha, hb']
     rw [yz]
     refine ⟨fun c3 => ?_, fun c3 => absurd (show (E m s i).To = -1 by simpa using c3) (by omega)⟩
     obtain ⟨g, g1, g2⟩ := z0q f (show a < 64 by omega) (show b < 64 by omega)
     rw [ha, hb', yU, bdT g1, yU, bdT g2, en, yz]
     have hab := hf a b hal hbl
     by_cases hm : MkP m r (a, b)
     ·obtain ⟨w, w1, w2⟩ := hab.1 hm
      have hwl := zal hn hi' hb hnx w1 hm
      refine ⟨fun c4 => ?_, fun c4 => ?_⟩
      ·rw [bdT g1, yU, bdT g2, w2, bdT (zcz _ _ (by simp; omega))]
       refine zl.2 (.inl ⟨.inr ⟨i, hi', .inr ⟨_, hnx, hm⟩⟩, i :: w, by simp [hwl], ?_, rfl⟩)
       obtain ⟨r', rfl⟩ : ∃ r', r = r' + 1 := ⟨r - 1, by omega⟩
       exact z3M hn hi' hnx w1 hwl fun j hj' q hq => (hj j hj').2 q hq
      ·rw [w2] at c4
       simp [hwl] at c4
     ·rw [hab.2 hm]
      refine ⟨fun c4 => ?_, fun c4 => step hb fun q hq => ?_⟩
      ·have : ((([] : List Int).length : Nat) : Int) = (r : Int) := by simpa using c4
       simp at this
       omega
      ·rw [hnx] at hq
       cases hq
       exact hm
    ·have h0 : r = 0 := by
      have : ¬ (1 : Int) < ((r + 1 : Nat) : Int) := by simpa using c2
      omega
     subst h0
     exact step hb fun q hq g => g
  ·have hi' : i = kk m := by
    have : ¬ i < kk m := by simpa using c
    omega
   subst hi'
   refine zl.2 (.inr ⟨fun g => ?_, rfl⟩)
   rcases g with g | ⟨i, gi, g | ⟨q, gq, g⟩⟩
   ·exact hn g
   ·rw [(hj i gi).1] at g
    cases g
   ·exact (hj i gi).2 q gq g
 refine main.mono fun out ho => ?_
 unfold vM
 rcases ho with ⟨o1, w, o2, o3, rfl⟩ | ⟨o1, rfl⟩
 ·rw [yz]
  refine ⟨fun c => by simp [o2] at c, fun _ => ?_⟩
  rw [bdT (z90 _ (by simp; omega)), UD]
  refine ⟨fun e => ?_, zl.2 ⟨rfl, fun _ => ⟨w, o2, o3, rfl⟩, fun g => (g o1).elim⟩⟩
  have : w = [] := by simpa using e
  subst this
  simp at o2
 ·rw [yz]
  refine ⟨fun _ => zl.2 ⟨rfl, fun g => (o1 g).elim, fun _ => rfl⟩, fun c => ?_⟩
  have : ((([] : List Int).length : Nat) : Int) = ((r + 1 : Nat) : Int) := by simpa using c
  simp at this
  omega
omit hc in
theorem Tb.zero : Tb m 0 (ArN.rep 64 (ArN.rep 64 [])) := by
 have hl := h.len64
 intro s t hs ht
 refine ⟨fun g => g.elim, fun _ => ?_⟩
 unfold cl
 have h1 : s < 64 := by omega
 have h2 : t < 64 := by omega
 rw [show (ArN.rep 64 (ArN.rep 64 ([] : List Int))).l = List.replicate 64 (ArN.rep 64 []) from rfl, List.getElem?_replicate, if_pos h1]
 simp only [Option.map_some, Option.getD_some]
 rw [show (ArN.rep 64 ([] : List Int)).l = List.replicate 64 [] from rfl, List.getElem?_replicate, if_pos h2]
 rfl
structure Now (m : z6) (r : Nat) (P : Nat → Nat → Prop) (now : List zA) : Prop where
 ok : ∀ x ∈ now, ∃ a b w, a < m.Rows.length ∧ b < m.Rows.length ∧ x.S = (a : Int) ∧ x.T = (b : Int) ∧ x.Word = w.map Int.ofNat ∧ z4a m (a, b) w ∧ MkP m (r + 1) (a, b)
 all : ∀ a b, P a b → a < b → b < m.Rows.length → ¬ MkP m r (a, b) → MkP m (r + 1) (a, b) → ∃ x ∈ now, x.S = (a : Int) ∧ x.T = (b : Int)
theorem z5i {f : TbT} {r : Nat} (hf : Tb m r f) (hr : r ≤ 100) :
  Ret (vF m (yOf (fun s x => xy m ((r + 1 : Nat) : Int) s.1 s.2 x.1 x.2)) (.next (f, ([] : List zA)))) fun o => ∃ now, o = .next (f, now) ∧ Now m r (fun _ _ => True) now ∧ now.length ≤ 5000 := by
 have hl := h.len64
 refine z4g m (by omega) _ (fun s t o => ∃ now, o = .next (f, now) ∧ Now m r (fun a b => a < s ∨ (a = s ∧ b < t)) now ∧ now.length ≤ 64 * s + t ∧ t ≤ 66 ∧ s ≤ 64) _ ⟨[], rfl, ⟨fun x hx => by simp at hx, fun a b q => by omega⟩, by simp, by omega, by omega⟩ ?_ ?_ ?_
 ·rintro s t o hst ht ⟨now, rfl, hn, hnl, _⟩
  have hs : s < m.Rows.length := by omega
  obtain ⟨g, g1, g2⟩ := z0q f (show s < 64 by omega) (show t < 64 by omega)
  have hst' := hf s t hs ht
  have keep : (¬ MkP m r (s, t) → ¬ MkP m (r + 1) (s, t)) → Now m r (fun a b => a < s ∨ (a = s ∧ b < t + 1)) now := fun q => ⟨hn.ok, fun a b hab h1 h2 h3 h4 => by
   rcases hab with e | ⟨e, e2⟩
   ·exact hn.all a b (.inl e) h1 h2 h3 h4
   ·rcases Nat.lt_or_ge b t with e3 | e3
    ·exact hn.all a b (.inr ⟨e, e3⟩) h1 h2 h3 h4
    ·have : b = t := by omega
     subst this; subst e
     exact (q h3 h4).elim⟩
  have main : Ret (xy m ((r + 1 : Nat) : Int) f now (s : Int) (t : Int)) fun o => ∃ now', o = .next (f, now') ∧ Now m r (fun a b => a < s ∨ (a = s ∧ b < t + 1)) now' ∧ now'.length ≤ now.length + 1 := by
   unfold xy
   rw [yU, bdT g1, yU, bdT g2, yz]
   refine ⟨fun c => ?_, fun c => ?_⟩
   ·refine zl.2 ⟨now, rfl, keep fun q => ?_, by omega⟩
    rw [hst'.2 q] at c
    simp at c
   ·have hno : ¬ MkP m r (s, t) := fun q => by
     obtain ⟨w, w1, w2⟩ := hst'.1 q
     rw [w2] at c
     cases w with
     | nil => exact w1.1
     | cons i w => simp at c
    rw [zP]
    refine (z7e h hc hf hs ht hr hno).mono fun o ho => ?_
    obtain ⟨o1, o2, o3⟩ := ho
    rw [yz]
    refine ⟨fun c => ?_, fun c => ?_⟩
    ·by_cases hm : MkP m (r + 1) (s, t)
     ·obtain ⟨w, w1, w2, w3⟩ := o2 hm
      rw [UD, o1]
      refine ⟨by simp; omega, zl.2 ⟨_, rfl, ⟨fun x hx => ?_, fun a b hab h1 h2 h3 h4 => ?_⟩, by simp⟩⟩
      ·rcases List.mem_append.1 hx with hx | hx
       ·exact hn.ok x hx
       ·rw [List.mem_singleton.1 hx]
        exact ⟨s, t, w, hs, ht, rfl, rfl, w3, w2, hm⟩
      ·by_cases e : a = s ∧ b = t
       ·exact ⟨_, List.mem_append.2 (.inr (List.mem_singleton.2 rfl)), by rw [e.1], by rw [e.2]⟩
       ·obtain ⟨x, x1, x2⟩ := hn.all a b (by omega) h1 h2 h3 h4
        exact ⟨x, List.mem_append.2 (.inl x1), x2⟩
     ·rw [o3 hm] at c
      simp at c
    ·rw [o1]
     refine zl.2 ⟨now, rfl, keep fun _ q => ?_, by omega⟩
     obtain ⟨w, w1, w2, w3⟩ := o2 q
     rw [w3] at c
     cases w with
     | nil => simp at w1
     | cons i w => simp at c
  obtain ⟨o, e, now', rfl, q1, q2⟩ := main
  refine ⟨(.next (f, now'), true), ?_, .inl ⟨rfl, now', rfl, q1, by omega, by omega, by omega⟩⟩
  simp only [yOf]
  rw [e]
 ·rintro s t o hs hst ht ⟨now, rfl, hn, hnl, _⟩
  refine ⟨now, rfl, ⟨hn.ok, fun a b hab h1 h2 h3 h4 => hn.all a b (by omega) h1 h2 h3 h4⟩, by omega, by omega, by omega⟩
 ·rintro s t o hs ⟨now, rfl, hn, hnl, _⟩
  refine ⟨now, rfl, ⟨hn.ok, fun a b _ h1 h2 h3 h4 => hn.all a b (by omega) h1 h2 h3 h4⟩, by omega⟩
omit hc in
theorem z7E {f : TbT} {r : Nat} (hf : Tb m r f) {now : List zA} (hn : Now m r (fun _ _ => True) now) (hl5 : now.length ≤ 5000) :
  Ret (loop (fun s => wS now s.1 s.2) (f, 0)) fun f' => Tb m (r + 1) f' := by
 have hl := h.len64
 let G : TbT → Nat → Nat → Prop := fun g a b => ∃ w, z4a m (a, b) w ∧ cl g a b = w.map Int.ofNat
 have hw : ∀ k : Nat, k ≤ 5000 → w64 ((k : Int) + 1) = ((k + 1 : Nat) : Int) := fun k hk => by rw [xS (by omega) (by omega)]; rfl
 refine wK (fun q => ∃ k : Nat, q.2 = (k : Int) ∧ k ≤ now.length ∧ (∀ a b, a < m.Rows.length → b < m.Rows.length → (G q.1 a b ∧ MkP m (r + 1) (a, b)) ∨ cl q.1 a b = cl f a b) ∧
  ∀ (j : Nat) x (a b : Nat), j < k → now[j]? = some x → x.S = (a : Int) → x.T = (b : Int) → G q.1 a b ∧ G q.1 b a) (fun q => 10000 - q.2.toNat) ⟨0, rfl, Nat.zero_le _, fun a b _ _ => .inr rfl, fun j x a b hj => by omega⟩ (by simp) ?_
 rintro ⟨g, q⟩ ⟨k, e2, hk, j1, j2⟩
 simp only at e2 j1 j2
 subst e2
 unfold wS
 rw [yz]
 refine ⟨fun c => ?_, fun c => ?_⟩
 ·have hk' : k < now.length := by simpa using c
  have hx : now[k]? = some now[k] := List.getElem?_eq_getElem hk'
  obtain ⟨a, b, w, q1, q2, q3, q4, q5, q6, q7⟩ := hn.ok _ (List.getElem_mem hk')
  have a64 : a < 64 := by omega
  have b64 : b < 64 := by omega
  rw [yU, bdT hx, q3, q4, q5, bdT (z9e g a64 b64 _), hw k (by omega)]
  have hcl : ∀ x y, cl (z4z (z4z g a b (w.map Int.ofNat)) b a (w.map Int.ofNat)) x y = if x = b ∧ y = a then w.map Int.ofNat else if x = a ∧ y = b then w.map Int.ofNat else cl g x y := fun x y => by
   rw [z6b _ b64 a64, z6b _ a64 b64]
  have hG : ∀ x y, G g x y ∨ (x = a ∧ y = b) ∨ (x = b ∧ y = a) → G (z4z (z4z g a b (w.map Int.ofNat)) b a (w.map Int.ofNat)) x y := by
   intro x y hxy
   by_cases e1 : x = b ∧ y = a
   ·obtain ⟨rfl, rfl⟩ := e1
    exact ⟨w, z7K q6, by rw [hcl, if_pos ⟨rfl, rfl⟩]⟩
   ·by_cases e2 : x = a ∧ y = b
    ·obtain ⟨rfl, rfl⟩ := e2
     exact ⟨w, q6, by rw [hcl, if_neg e1, if_pos ⟨rfl, rfl⟩]⟩
    ·rcases hxy with ⟨v, v1, v2⟩ | g | g
     ·exact ⟨v, v1, by rw [hcl, if_neg e1, if_neg e2]; exact v2⟩
     ·exact (e2 g).elim
     ·exact (e1 g).elim
  refine zl.2 ⟨⟨k + 1, rfl, hk', fun x y hx hy => ?_, fun j z x y hj hz z1 z2 => ?_⟩, by simp only [Int.toNat_natCast]; omega⟩
  ·by_cases e1 : x = b ∧ y = a
   ·refine .inl ⟨hG x y (.inr (.inr e1)), ?_⟩
    obtain ⟨rfl, rfl⟩ := e1
    exact z2X q7
   ·by_cases e2 : x = a ∧ y = b
    ·refine .inl ⟨hG x y (.inr (.inl e2)), ?_⟩
     obtain ⟨rfl, rfl⟩ := e2
     exact q7
    ·rcases j1 x y hx hy with ⟨g1, g2⟩ | g1
     ·exact .inl ⟨hG x y (.inl g1), g2⟩
     ·exact .inr (by rw [hcl, if_neg e1, if_neg e2]; exact g1)
  ·rcases Nat.lt_or_ge j k with hjk | hjk
   ·obtain ⟨g1, g2⟩ := j2 j z x y hjk hz z1 z2
    exact ⟨hG x y (.inl g1), hG y x (.inl g2)⟩
   ·have : j = k := by omega
    subst this
    rw [hx] at hz
    cases hz
    rw [q3] at z1
    rw [q4] at z2
    have e1 : x = a := by omega
    have e2 : y = b := by omega
    exact ⟨hG x y (.inr (.inl ⟨e1, e2⟩)), hG y x (.inr (.inr ⟨e2, e1⟩))⟩
 ·have hk' : k = now.length := by
   have : ¬ k < now.length := by simpa using c
   omega
  subst hk'
  refine zl.2 fun s t hs ht => ⟨fun hm => ?_, fun hm => ?_⟩
  ·by_cases hmr : MkP m r (s, t)
   ·rcases j1 s t hs ht with ⟨g1, _⟩ | g1
    ·exact g1
    ·obtain ⟨w, w1, w2⟩ := (hf s t hs ht).1 hmr
     exact ⟨w, w1, by rw [g1]; exact w2⟩
   ·rcases Nat.lt_trichotomy s t with g | g | g
    ·obtain ⟨x, x1, x2, x3⟩ := hn.all s t trivial g ht hmr hm
     obtain ⟨j, hj⟩ := List.mem_iff_getElem?.1 x1
     exact (j2 j x s t (List.getElem?_eq_some_iff.1 hj).1 hj x2 x3).1
    ·subst g
     exact (zaj hm).elim
    ·obtain ⟨x, x1, x2, x3⟩ := hn.all t s trivial g hs (fun q => hmr (z2X q)) (z2X hm)
     obtain ⟨j, hj⟩ := List.mem_iff_getElem?.1 x1
     exact (j2 j x t s (List.getElem?_eq_some_iff.1 hj).1 hj x2 x3).2
  ·rcases j1 s t hs ht with ⟨_, g1⟩ | g1
   ·exact (hm g1).elim
   ·rw [g1]
    exact (hf s t hs ht).2 fun q => hm (q.mono (by omega))
omit h hc in
theorem zcc {n : Nat} : mx (n : Int) 2 = ((if n < 2 then 2 else n : Nat) : Int) := by
 unfold mx
 by_cases e : n < 2
 ·rw [if_pos (by omega), if_pos e]; rfl
 ·rw [if_neg (by omega), if_neg e]
theorem UC : Ret (uF m) fun f => ∀ s t, s < m.Rows.length → t < m.Rows.length → (∃ w, z4a m (s, t) w ∧ cl f s t = w.map Int.ofNat) ∨ ((∀ w, ¬ QB (kk m) (Yj m m) (nxP m m) (s, t) w) ∧ cl f s t = []) := by
 have hl := h.len64
 have hl1 := h.len1
 unfold uF
 rw [zP]
 refine Ret.mono (Q := fun f => ∃ r, m.Rows.length ≤ r + 1 ∧ Tb m r f) ?_ fun f hf => ?_
 ·refine wK (fun q => ∃ r : Nat, q.2 = ((r + 1 : Nat) : Int) ∧ r ≤ 64 ∧ Tb m r q.1) (fun q => 100 - q.2.toNat) ⟨0, rfl, by omega, Tb.zero h⟩ (by simp) ?_
  rintro ⟨f, q⟩ ⟨r, e2, hr, hf⟩
  simp only at e2 hf
  subst e2
  unfold uk YJ
  rw [yz, Option.bind_some, zcc]
  refine ⟨fun c => ?_, fun c => ?_⟩
  ·have hr' : r + 1 < (if m.Rows.length < 2 then 2 else m.Rows.length) := by
    have := of_decide_eq_true c
    omega
   rw [zP]
   refine (z5i h hc hf (by omega)).mono fun o ho => ?_
   obtain ⟨now, rfl, hn, hnl⟩ := ho
   unfold ul um
   simp only
   rw [zP]
   refine (z7E h hf hn hnl).mono fun f' hf' => ?_
   have e : w64 (((r + 1 : Nat) : Int) + 1) = ((r + 1 + 1 : Nat) : Int) := by rw [xS (by omega) (by omega)]; rfl
   rw [e]
   have : r + 1 < 64 := by
    split at hr' <;> omega
   exact zl.2 ⟨⟨r + 1, rfl, by omega, hf'⟩, by simp only [Int.toNat_natCast]; omega⟩
  ·refine zl.2 ⟨r, ?_, hf⟩
   have hr' : ¬ r + 1 < (if m.Rows.length < 2 then 2 else m.Rows.length) := by
    intro g
    have := of_decide_eq_false c
    omega
   split at hr' <;> omega
 ·obtain ⟨r, hr, hf⟩ := hf
  unfold uo
  refine zl.2 fun s t hs ht => ?_
  by_cases hm : MkP m r (s, t)
  ·exact .inl ((hf s t hs ht).1 hm)
  ·refine .inr ⟨fun w hw => hm ?_, (hf s t hs ht).2 hm⟩
   exact (z12 h.wm hs ht (Xp hw)).mono (by omega)
end
open Classical in
def lw (m : z6) (s t : Nat) : List Nat := if h : ∃ w, z4a m (s, t) w then Classical.choose h else []
theorem zcg {m : z6} {s t : Nat} {w : List Nat} (h : z4a m (s, t) w) : lw m s t = w := by
 have hx : ∃ w, z4a m (s, t) w := ⟨w, h⟩
 unfold lw
 rw [dif_pos hx]
 exact (Classical.choose_spec hx).uniq h
noncomputable abbrev lwI (m : z6) (s t : Nat) : List Int := (lw m s t).map Int.ofNat
def Wx (m : z6) (P D : Nat → Nat → Prop) (out : List (List Int)) : Prop := ∀ x, x ∈ out ↔ ∃ a b, a < b ∧ b < m.Rows.length ∧ D a b ∧ P a b ∧ x = lwI m a b
theorem Wx.add {m : z6} {P D D' : Nat → Nat → Prop} {out : List (List Int)} (h : Wx m P D out) {s t : Nat} (hst : s < t) (ht : t < m.Rows.length) (hD : ∀ a b, D' a b ↔ D a b ∨ (a = s ∧ b = t)) (hP : P s t) : Wx m P D' (out ++ [lwI m s t]) := by
 intro x
 rw [List.mem_append, h x, List.mem_singleton]
 constructor
 ·rintro (⟨a, b, h1, h2, h3, h4⟩ | rfl)
  ·exact ⟨a, b, h1, h2, (hD a b).2 (.inl h3), h4⟩
  ·exact ⟨s, t, hst, ht, (hD s t).2 (.inr ⟨rfl, rfl⟩), hP, rfl⟩
 ·rintro ⟨a, b, h1, h2, h3, h4, h5⟩
  rcases (hD a b).1 h3 with g | ⟨rfl, rfl⟩
  ·exact .inl ⟨a, b, h1, h2, g, h4, h5⟩
  ·exact .inr h5
theorem Wx.skip {m : z6} {P D D' : Nat → Nat → Prop} {out : List (List Int)} (h : Wx m P D out) {s t : Nat} (hD : ∀ a b, D' a b ↔ D a b ∨ (a = s ∧ b = t)) (hP : ¬ P s t) : Wx m P D' out := by
 intro x
 rw [h x]
 constructor
 ·rintro ⟨a, b, h1, h2, h3, h4⟩
  exact ⟨a, b, h1, h2, (hD a b).2 (.inl h3), h4⟩
 ·rintro ⟨a, b, h1, h2, h3, h4, h5⟩
  rcases (hD a b).1 h3 with g | ⟨rfl, rfl⟩
  ·exact ⟨a, b, h1, h2, g, h4, h5⟩
  ·exact (hP h4).elim
theorem Wx.congr {m : z6} {P D D' : Nat → Nat → Prop} {out : List (List Int)} (h : Wx m P D out) (hD : ∀ a b, a < b → b < m.Rows.length → (D' a b ↔ D a b)) : Wx m P D' out := by
 intro x
 rw [h x]
 constructor
 ·rintro ⟨a, b, h1, h2, h3, h4⟩
  exact ⟨a, b, h1, h2, (hD a b h1 h2).2 h3, h4⟩
 ·rintro ⟨a, b, h1, h2, h3, h4⟩
  exact ⟨a, b, h1, h2, (hD a b h1 h2).1 h3, h4⟩
section
variable {m : z6} (h : VM m) (hc : Cpl m) (hd : zb1 m)
include h
theorem z4R {s t : Nat} (hs : s < m.Rows.length) (ht : t < m.Rows.length) : kR m [(s : Int), (t : Int)] = some 0 := by
 have st : ∀ x : Nat, x < m.Rows.length → jk (x : Int) m = some false := fun x hx => by
  unfold jk
  have e1 : ¬ ((x : Int) < 0) := by omega
  have e2 : ¬ ((x : Int) ≥ ((m.Rows.length : Nat) : Int)) := by omega
  rw [decide_eq_false e1, cond_false, decide_eq_false e2]
 have hi : yo [(s : Int), (t : Int)] m = some (-1) := by
  unfold yo
  have := qK [(s : Int), (t : Int)] (by simp) (step := fun x => zR [(s : Int), (t : Int)] m x) (fun _ _ => (none : Option Int)) (fun i x hx => by
   unfold zR
   have hlt := (List.getElem?_eq_some_iff.1 hx).1
   have hxm : ∃ k : Nat, x = (k : Int) ∧ k < m.Rows.length := by
    rcases List.mem_cons.1 (List.mem_of_getElem? hx) with e | e
    ·exact ⟨s, e, hs⟩
    ·exact ⟨t, by simpa using e, ht⟩
   obtain ⟨k, rfl, hk⟩ := hxm
   have hlt' : (i : Int) < ((([(s : Int), (t : Int)] : List Int).length : Nat) : Int) := by omega
   rw [decide_eq_true hlt', cond_true, yU, bdT hx, bdT (st k hk), cond_false]
   rfl) (by
   unfold zR
   rw [decide_eq_false (by omega), cond_false])
  rw [bdT this]
  rfl
 unfold kR yS
 rw [bdT (V0 m), z0r h, bdT hi]
 rfl
include hc
theorem z96 {s t : Nat} (hs : s < m.Rows.length) (ht : t < m.Rows.length) {w : List Nat} (hw : z4a m (s, t) w) : vS m (s : Int) (t : Int) = some (w.map Int.ofNat, true, 0) := by
 have hl := h.len64
 have hwl : w.length ≤ 64 := by have := hw.le (z12 h.wm hs ht (Xp hw.1)); omega
 unfold vS
 rw [bdT (z4R h hs ht)]
 obtain ⟨f, f1, f2⟩ := UC h hc
 have hcl : cl f s t = w.map Int.ofNat := by
  rcases f2 s t hs ht with ⟨v, v1, v2⟩ | ⟨v1, _⟩
  ·rw [v2, v1.uniq hw]
  ·exact (v1 w hw.1).elim
 obtain ⟨g, g1, g2⟩ := z0q f (show s < 64 by omega) (show t < 64 by omega)
 rw [show ((0 : Int) != 0) = false from rfl, cond_false, bdT f1, yU, bdT g1, yU, bdT g2, hcl, bdT (zcy _ (by simp; omega)), bdT (z90 _ (by simp; omega))]
 have hw1 : 0 < w.length := by
  cases w with
  | nil => exact hw.1.elim
  | cons i w => simp
 have : decide ((((w.map Int.ofNat).length : Nat) : Int) > 0) = true := decide_eq_true (by simp only [List.length_map]; omega)
 rw [this]
include hd
theorem z7J {s t : Nat} (hs : s < m.Rows.length) (ht : t < m.Rows.length) (hst : s ≠ t) : z4a m (s, t) (lw m s t) := by
 obtain ⟨f, f1, f2⟩ := UC h hc
 rcases f2 s t hs ht with ⟨w, w1, _⟩ | ⟨w1, _⟩
 ·rw [zcg w1]
  exact w1
 ·exfalso
  refine hst (hd s t hs ht fun w hw => ?_)
  refine Classical.byContradiction fun hne => ?_
  obtain ⟨v, u, g, _⟩ := z0U h.wm w (s, t) hs ht hw hne
  exact w1 v g
theorem zch {s t : Nat} (hs : s < m.Rows.length) (ht : t < m.Rows.length) (hst : s ≠ t) : (lw m s t).length + 1 ≤ m.Rows.length := by
 have hw := z7J h hc hd hs ht hst
 have := hw.le (z12 h.wm hs ht (Xp hw.1))
 have := h.len1
 omega
theorem Wx.len {P D : Nat → Nat → Prop} {out : List (List Int)} (hx : Wx m P D out) {x : List Int} (q : x ∈ out) : x.length + 1 ≤ m.Rows.length ∧ ∀ c ∈ x, 0 ≤ c ∧ c < m.Inputs := by
 obtain ⟨a, b, h1, h2, _, _, rfl⟩ := (hx x).1 q
 refine ⟨by simpa using zch h hc hd (show a < m.Rows.length by omega) h2 (by omega), fun c hcx => ?_⟩
 obtain ⟨i, hi, rfl⟩ := List.mem_map.1 hcx
 have := z2I (z7J h hc hd (show a < m.Rows.length by omega) h2 (by omega)).1 i hi
 have hke := h.kk_eq
 show 0 ≤ (i : Int) ∧ (i : Int) < m.Inputs
 omega
theorem z3k {P D : Nat → Nat → Prop} {out : List (List Int)} (hx : Wx m P D out) (hN : m.Rows.length ≤ 30) (hl : out.length ≤ 1000) : ZL out m.Inputs = some (srt out, 0) := by
 have hlen := fun (x : List Int) (q : x ∈ out) => hx.len h hc hd q
 have h0 : loE m.Inputs out = 0 := z7R.2 ⟨⟨h.in1, h.in16⟩, by omega, fun w hw => ⟨by have := (hlen w hw).1; omega, (hlen w hw).2⟩⟩
 unfold ZL
 rw [bdT (z7L _ _), h0, bdT (z7i (by omega) fun w hw => by have := (hlen w hw).1; omega)]
 have hs := z4T out
 have hy := z4N (l := srt out) (m := 30) fun w hw => by have := (hlen w (z13.1 hw)).1; omega
 have : ¬ (4096 < (srt out).length ∨ 65536 < z04 (srt out)) := by
  intro g
  rcases g with g | g
  ·omega
  ·have : (srt out).length * 30 ≤ 1000 * 30 := Nat.mul_le_mul_right _ (by omega)
   omega
 unfold soR
 rw [if_neg this]
 rfl
theorem z4M (hN : m.Rows.length ≤ 30) : Ret (kU m ()) fun o => ∃ out, Wx m (fun _ _ => True) (fun _ _ => True) out ∧ out.length ≤ 1000 ∧ o = (srt out, 0) := by
 unfold kU vC
 rw [Option.bind_some, zP]
 refine Ret.mono (Q := fun o => ∃ out, o = .next ((0 : Int), out) ∧ Wx m (fun _ _ => True) (fun _ _ => True) out ∧ out.length ≤ 1000) ?_ fun o ho => ?_
 ·refine Qp m.Rows.length (by omega) _ (fun s t o => ∃ out, o = .next ((0 : Int), out) ∧ Wx m (fun _ _ => True) (fun a b => a < s ∨ (a = s ∧ b < t)) out ∧ out.length ≤ 30 * s + t ∧ s ≤ 30 ∧ t ≤ 32) _ ⟨[], rfl, fun x => ?_, by simp, by omega, by omega⟩ ?_ ?_ ?_
  ·constructor
   ·intro q; simp at q
   ·rintro ⟨a, b, h1, h2, h3, _⟩; omega
  ·rintro s t o hst ht ⟨out, rfl, ho, hl, h1, h2⟩
   have hw := z7J h hc hd (show s < m.Rows.length by omega) ht (by omega)
   have e : uc m 0 out (s : Int) (t : Int) = some (.next (0, out ++ [lwI m s t])) := by
    unfold uc YO
    rw [Option.bind_some, show (!true) = false from rfl, cond_false, bdT (z96 h hc (show s < m.Rows.length by omega) ht hw), show ((0 : Int) != 0) = false from rfl, cond_false, gdT (by simp; omega)]
   refine ⟨(.next (0, out ++ [lwI m s t]), true), ?_, .inl ⟨rfl, _, rfl, ho.add hst ht (fun a b => by omega) trivial, by simp; omega, by omega, by omega⟩⟩
   simp only [yOf]
   rw [e]
  ·rintro s t o hs hst ht ⟨out, rfl, ho, hl, h1, h2⟩
   exact ⟨out, rfl, ho.congr fun a b _ _ => by omega, by omega, by omega, by omega⟩
  ·rintro s t o hs ⟨out, rfl, ho, hl, h1, h2⟩
   exact ⟨out, rfl, ho.congr fun a b _ _ => by simp; omega, by omega⟩
 ·obtain ⟨out, rfl, h1, h2⟩ := ho
  unfold k7
  simp only
  rw [bdT (z3k h hc hd h1 hN h2)]
  exact zl.2 ⟨out, h1, h2, rfl⟩
theorem z4f (hN : m.Rows.length ≤ 30) (z : Nat) : Ret (vh m (z : Int)) fun o => ∃ out, Wx m (fun a b => a = z ∨ b = z) (fun _ _ => True) out ∧ out.length ≤ 1000 ∧ o = (srt out, 0) := by
 unfold vh vC
 rw [Option.bind_some, zP]
 refine Ret.mono (Q := fun o => ∃ out, o = .next ((0 : Int), out) ∧ Wx m (fun a b => a = z ∨ b = z) (fun _ _ => True) out ∧ out.length ≤ 1000) ?_ fun o ho => ?_
 ·refine Qp m.Rows.length (by omega) _ (fun s t o => ∃ out, o = .next ((0 : Int), out) ∧ Wx m (fun a b => a = z ∨ b = z) (fun a b => a < s ∨ (a = s ∧ b < t)) out ∧ out.length ≤ 30 * s + t ∧ s ≤ 30 ∧ t ≤ 32) _ ⟨[], rfl, fun x => ?_, by simp, by omega, by omega⟩ ?_ ?_ ?_
  ·constructor
   ·intro q; simp at q
   ·rintro ⟨a, b, h1, h2, h3, _⟩; omega
  ·rintro s t o hst ht ⟨out, rfl, ho, hl, h1, h2⟩
   have hw := z7J h hc hd (show s < m.Rows.length by omega) ht (by omega)
   have e1 : Ya (s : Int) (t : Int) (z : Int) = some (decide (s = z ∨ t = z)) := by
    unfold Ya
    by_cases e : s = z
    ·subst e; simp
    ·have e' : ((s : Int) == (z : Int)) = false := by simp; omega
     rw [e', cond_false]
     by_cases e2 : t = z
     ·subst e2; simp
     ·have e2' : ((t : Int) == (z : Int)) = false := by simp; omega
      rw [e2']
      simp [e, e2]
   by_cases hz : s = z ∨ t = z
   ·have e : yK m (z : Int) 0 out (s : Int) (t : Int) = some (.next (0, out ++ [lwI m s t])) := by
     unfold yK
     rw [bdT e1, decide_eq_true hz, show (!true) = false from rfl, cond_false, bdT (z96 h hc (show s < m.Rows.length by omega) ht hw), show ((0 : Int) != 0) = false from rfl, cond_false, gdT (by simp; omega)]
    refine ⟨(.next (0, out ++ [lwI m s t]), true), ?_, .inl ⟨rfl, _, rfl, ho.add hst ht (fun a b => by omega) hz, by simp; omega, by omega, by omega⟩⟩
    simp only [yOf]
    rw [e]
   ·have e : yK m (z : Int) 0 out (s : Int) (t : Int) = some (.next (0, out)) := by
     unfold yK
     rw [bdT e1, decide_eq_false hz, show (!false) = true from rfl, cond_true]
    refine ⟨(.next (0, out), true), ?_, .inl ⟨rfl, _, rfl, ho.skip (s := s) (t := t) (fun a b => by omega) hz, by omega, by omega, by omega⟩⟩
    simp only [yOf]
    rw [e]
  ·rintro s t o hs hst ht ⟨out, rfl, ho, hl, h1, h2⟩
   exact ⟨out, rfl, ho.congr fun a b _ _ => by omega, by omega, by omega, by omega⟩
  ·rintro s t o hs ⟨out, rfl, ho, hl, h1, h2⟩
   exact ⟨out, rfl, ho.congr fun a b _ _ => by simp; omega, by omega⟩
 ·obtain ⟨out, rfl, h1, h2⟩ := ho
  unfold ut
  simp only
  rw [bdT (z3k h hc hd h1 hN h2)]
  exact zl.2 ⟨out, h1, h2, rfl⟩
end
structure KM (m : z6) : Prop where
 vm : VM m
 cpl : Cpl m
 dist : zb1 m
 rall : zde m
 inp : m.Inputs ≤ 4
 len : m.Rows.length ≤ 6
def uI (w : List Int) : List Nat := w.map Int.toNat
theorem zb7 {w : List Int} (h : ∀ c ∈ w, 0 ≤ c) : (uI w).map Int.ofNat = w := by
 unfold uI
 rw [List.map_map]
 exact (List.map_congr_left (g := id) fun c hc => by have := h c hc; show ((c.toNat : Nat) : Int) = c; omega).trans (List.map_id w)
structure VW (m : z6) (w : List Int) : Prop where
 len : w.length ≤ 256
 sym : ∀ c ∈ w, 0 ≤ c ∧ c < m.Inputs
theorem VW.wd {m : z6} {w : List Int} (h : VW m w) (hk : ((kk m : Nat) : Int) = m.Inputs) : Wd (kk m) (uI w) := by
 intro i hi
 obtain ⟨c, hc, rfl⟩ := List.mem_map.1 hi
 have := h.sym c hc
 omega
theorem VW.map {m : z6} {w : List Int} (h : VW m w) : (uI w).map Int.ofNat = w := zb7 fun c hc => (h.sym c hc).1
def sgn (m : z6) (l : List (List Int)) (s : Nat) : List (List Int) := l.map fun w => rsp m (s : Int) (uI w)
theorem z7n {m : z6} {l : List (List Int)} {s i : Nat} {x : List Int} (hx : l[i]? = some x) : sgn m (l.take (i + 1)) s = sgn m (l.take i) s ++ [rsp m (s : Int) (uI x)] := by
 rw [List.take_add_one, hx]
 simp only [sgn, List.map_append, Option.toList_some, List.map_cons, List.map_nil]
section
variable {m : z6} (h : VM m) (hc : Cpl m)
include h hc
theorem zag {s : Nat} (hs : s < m.Rows.length) (v : List Nat) (hv : Wd (kk m) v) (hl : v.length ≤ 1000) : Ret (kS m (s : Int) (v.map Int.ofNat)) fun o => o.1 = rsp m (s : Int) v := by
 have hN := h.len64
 have hw : ∀ k : Nat, k ≤ 1000 → w64 ((k : Int) + 1) = ((k + 1 : Nat) : Int) := fun k hk => by rw [xS (by omega) (by omega)]; rfl
 unfold kS
 rw [UD]
 refine ⟨by simp only [List.length_map]; omega, ?_⟩
 rw [zP]
 refine Ret.mono (Q := fun o => o.2 = rsp m (s : Int) v) ?_ fun o ho => ?_
 ·refine wK (fun q => ∃ (i t : Nat), q.2.2 = (i : Int) ∧ i ≤ v.length ∧ q.1 = (t : Int) ∧ t < m.Rows.length ∧ aft m (s : Int) (v.take i) = (t : Int) ∧ q.2.1 = rsp m (s : Int) (v.take i) ++ List.replicate (v.length - i) 0) (fun q => 2000 - q.2.2.toNat) ⟨0, s, rfl, Nat.zero_le _, rfl, hs, rfl, by simp [rsp]⟩ (by simp) ?_
  rintro ⟨st, out, q⟩ ⟨i, t, e2, hi, e1, ht, ha, e3⟩
  simp only at e1 e2 e3
  subst e1; subst e2; subst e3
  unfold jY vA
  rw [yz]
  refine ⟨fun c => ?_, fun c => ?_⟩
  ·have hi' : i < v.length := by simpa using c
   have hx : v[i]? = some v[i] := List.getElem?_eq_getElem hi'
   have hxk : v[i] < kk m := hv _ (List.getElem_mem hi')
   have hgx : (v.map Int.ofNat)[i]? = some ((v[i] : Nat) : Int) := by rw [List.getElem?_map, hx]; rfl
   have hne : ((t : Int) != (-1)) = true := by simp
   rw [yU, bdT hgx, Option.bind_some, hne, cond_true, h.edge_eq ht hxk]
   have hrl : (rsp m (s : Int) (v.take i)).length = i := by rw [z2R, List.length_take]; omega
   have hrep : List.replicate (v.length - i) (0 : Int) = 0 :: List.replicate (v.length - (i + 1)) 0 := by rw [show v.length - i = (v.length - (i + 1)) + 1 by omega]; rfl
   have e0 : (0 : Int) ≤ (E m t v[i]).To := hc t _ ht hxk
   have e1 := h.edgeAt ht hxk
   unfold qJ
   have hg : (rsp m (s : Int) (v.take i) ++ List.replicate (v.length - i) 0)[i]? = some (0 : Int) := by
    rw [hrep, List.getElem?_append_right (by omega), hrl]
    simp
   rw [yU, bdT hg, hw i (by omega)]
   have htk : v.take (i + 1) = v.take i ++ [v[i]] := by rw [List.take_add_one, hx]; rfl
   obtain ⟨r1, r2⟩ := Jr m (v.take i) (s : Int) v[i]
   refine zl.2 ⟨⟨i + 1, (E m t v[i]).To.toNat, rfl, hi', by simp only; omega, by omega, ?_, ?_⟩, by simp only [Int.toNat_natCast]; omega⟩
   ·rw [htk, r2, ha, Y7]
    omega
   ·simp only [Int.toNat_natCast]
    rw [htk, r1, ha, Y7, hrep, List.set_append, if_neg (by omega), hrl, Nat.sub_self]
    simp
  ·have hi' : i = v.length := by
    have : ¬ i < v.length := by simpa using c
    omega
   subst hi'
   refine zl.2 ?_
   show rsp m (s : Int) (v.take v.length) ++ List.replicate (v.length - v.length) 0 = rsp m (s : Int) v
   simp
 ·unfold jZ
  exact zl.2 ho
theorem zdd {s : Nat} (hs : s < m.Rows.length) {w : List Int} (hw : VW m w) : kT m (s : Int) w = some (rsp m (s : Int) (uI w), 0) := by
 have hN := h.len64
 obtain ⟨o, e, e1⟩ := zag h hc hs (uI w) (hw.wd h.kk_eq) (by have := hw.len; unfold uI; simp; omega)
 rw [hw.map] at e
 have hst : jn m (s : Int) = some 0 := by
  unfold jn
  rw [bdT (V0 m), z0r h, show ((0 : Int) != 0) = false from rfl, cond_false, decide_eq_false (by omega), cond_false, decide_eq_false (by omega), cond_false]
 have hck : qq w m.Inputs = some 0 := by
  rw [z1A, if_neg (by have := h.in16; omega), if_neg (by have := hw.len; omega), if_neg (by have := h.in1; omega)]
  have : wE m.Inputs w = 0 := z2G.2 ⟨hw.len, hw.sym⟩
  rw [this]
 unfold kT
 rw [bdT hst, show ((0 : Int) != 0) = false from rfl, cond_false, bdT hck, show ((0 : Int) != 0) = false from rfl, cond_false, bdT e, e1]
theorem z8B {s : Nat} (hs : s < m.Rows.length) {l : List (List Int)} (hl : l.length ≤ 100000) (hw : ∀ w ∈ l, VW m w) : xx m l (s : Int) = some (sgn m l s) := by
 unfold xx uu yb
 have := Xz (step := fun q => yM m l (s : Int) q.1 q.2) (fun i => (sgn m (l.take i) s, (i : Int))) l.length (t := sgn m l s) (by omega) (fun i hi => by
  have hx : l[i]? = some l[i] := List.getElem?_eq_getElem hi
  show yM m l (s : Int) (sgn m (l.take i) s) (i : Int) = _
  unfold yM
  have hlen : (sgn m (l.take i) s).length ≤ 100000 := by unfold sgn; simp; omega
  rw [decide_eq_true (by omega), cond_true, yU, bdT hx, bdT (zdd h hc hs (hw _ (List.getElem_mem hi))), gdT (by simp; omega), xS (by omega) (by omega), z7n hx]
  rfl) (by
  show yM m l (s : Int) _ _ = _
  unfold yM
  rw [decide_eq_false (by omega), cond_false, List.take_length])
 have h0 : ((sgn m (l.take 0) s, ((0 : Nat) : Int))) = (([] : List (List Int)), (0 : Int)) := by simp [sgn]
 rw [h0] at this
 rw [bdT this]
 rfl
end
theorem zct (a b : List (List Int)) (ha : a.length ≤ 1000000) (hw : ∀ x ∈ a, x.length ≤ 1000000) : wy a b = some (decide (a = b)) := by
 unfold wy yp
 by_cases e : a.length = b.length
 ·have e' : (((a.length : Nat) : Int) != ((b.length : Nat) : Int)) = false := by simp; omega
  rw [e', cond_false, qK a (by omega) (step := fun s => zK a b s) (fun i x => if b[i]? = some x then none else some false) ?_ ?_]
  ·by_cases hab : a = b
   ·subst hab
    rw [Ye (fun i x hx => by rw [Nat.zero_add, if_pos hx]), decide_eq_true rfl]
    rfl
   ·rw [decide_eq_false hab]
    cases hf : xL (fun i x => if b[i]? = some x then none else some false) a 0 with
    | none =>
     exfalso
     refine hab (List.ext_getElem? fun i => ?_)
     cases hx : a[i]? with
     | none =>
      have : a.length ≤ i := List.getElem?_eq_none_iff.1 hx
      exact (List.getElem?_eq_none_iff.2 (by omega)).symm
     | some x =>
      have := ZA hf i x hx
      rw [Nat.zero_add] at this
      split at this
      ·rename_i hb; exact hb.symm
      ·cases this
    | some r =>
     obtain ⟨i, x, _, hr⟩ := kH hf
     split at hr
     ·cases hr
     ·cases hr; rfl
  ·intro i x hx
   have hlt := (List.getElem?_eq_some_iff.1 hx).1
   have hb : b[i]? = some (b[i]'(by omega)) := List.getElem?_eq_getElem (by omega)
   unfold zK qe
   rw [decide_eq_true (by omega), cond_true, yU, bdT hx, yU, bdT hb, bdT (z2s x _ (by have := hw x (List.mem_of_getElem? hx); omega)), Option.bind_some, hb]
   by_cases hxb : x = b[i]'(by omega)
   ·rw [decide_eq_true hxb, if_pos (by rw [hxb])]
    rfl
   ·rw [decide_eq_false hxb, if_neg (fun q => hxb (Option.some.inj q).symm)]
    rfl
  ·unfold zK
   rw [decide_eq_false (by omega), cond_false]
 ·have e' : (((a.length : Nat) : Int) != ((b.length : Nat) : Int)) = true := by simp; omega
  rw [e', cond_true, decide_eq_false (fun q => e (by rw [q]))]
  rfl
theorem z9I (m : z6) (l : List (List Int)) (s : Nat) : (sgn m l s).length = l.length := by simp [sgn]
theorem z7m {m : z6} {l : List (List Int)} {s : Nat} {x : List Int} (hw : ∀ w ∈ l, VW m w) (hx : x ∈ sgn m l s) : x.length ≤ 256 := by
 obtain ⟨w, h1, rfl⟩ := List.mem_map.1 hx
 rw [z2R]
 have := (hw w h1).len
 unfold uI
 simpa using this
theorem zeC (x : Int) : 0 ≤ IntKind.u64.wrap x ∧ IntKind.u64.wrap x < 18446744073709551616 := by
 simp only [IntKind.wrap, IntKind.bits, IntKind.signed]
 simp
 omega
theorem z0A {x : Int} (h1 : 0 ≤ x) (h2 : x < 18446744073709551616) : IntKind.u64.wrap x = x := by
 simp only [IntKind.wrap, IntKind.bits, IntKind.signed]
 simp
 omega
theorem z1H : ∀ n : Fin 13, Je .u64 1 ((n : Nat) : Int) = ((2 ^ (n : Nat) : Nat) : Int) := by decide
theorem zcw : (z4u.l.all fun c => decide (0 ≤ c) && decide (c ≤ 63)) = true := by kernel_rfl
theorem zb8 (x : Int) : Ret (xq x) fun r => 0 ≤ r := by
 unfold xq
 rw [yz]
 refine ⟨fun _ => zl.2 (by decide), fun _ => ?_⟩
 rw [zP, za2]
 have hw := zeC ((Wl .u64 x (IntKind.u64.wrap (0 - x))) * 285870213051353865)
 generalize IntKind.u64.wrap ((Wl .u64 x (IntKind.u64.wrap (0 - x))) * 285870213051353865) = y at hw
 have e : Int.fdiv y (2 ^ 58) = y / (2 ^ 58) := Int.fdiv_eq_ediv_of_nonneg _ (by decide)
 rw [e]
 have h1 : 0 ≤ y / (2 ^ 58) := Int.ediv_nonneg hw.1 (by decide)
 have h2 : y / (2 ^ 58) < 64 := Int.ediv_lt_of_lt_mul (by decide) (by omega)
 refine ⟨h1, ?_⟩
 have hl : (y / (2 ^ 58)).toNat < z4u.l.length := by rw [z4u.len]; omega
 refine ⟨_, List.getElem?_eq_getElem hl, zl.2 ?_⟩
 have := List.all_eq_true.1 zcw _ (List.getElem_mem hl)
 simp only [Bool.and_eq_true, decide_eq_true_eq] at this
 rw [xS (by omega) (by omega)]
 exact this.1
theorem zc7 (x : Int) : Ret (y5 x) fun _ => True := ⟨_, rfl, trivial⟩
theorem z6u (a b : Int) : Ret (kW a b) fun _ => True := by
 unfold kW wL
 rw [zP, zP]
 refine (zb8 _).mono fun r hr => ?_
 refine zl.2 ?_
 rw [UD]
 exact ⟨hr, zl.2 trivial⟩
end Go.Own
end
