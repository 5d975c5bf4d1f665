/- Walks, further. -/
import Derived.Test.YtcodjgfoodacaaaGreatDoorPartF
import Derived.Test.YtcodjgfoodacaaaGreatDoorPartC
import Derived.Test.YtcodjgfoodacaaaGreatDoorPartE
noncomputable section
set_option linter.unusedVariables false
set_option linter.unusedSimpArgs false
namespace Go.Own
open Go.Proofs
set_option maxRecDepth 100000
set_option maxHeartbeats 8000000
def yo:Code:=(Tryz.f45.body).getD .skip
def Za:zN:=spF (α:=z6 × List (List Int)) (ρ:=List Int) 45 (fun x => [zI x.1,w8 x.2]) (fun r => (eSl 1 false (eI .u64)) r) (fun x => qL x.1 x.2) [] (VA)
abbrev UD (out:List Int):List (Nat × T):=[(4,.own (.box (eOs 1 false (eI .u64) out)))]
abbrev Y8 (m_:z6) (w_:List (List Int)) (r_:Int) (out1:List Int):List (Nat × T):=[(2,.own (.box (zI m_))),(3,.own (.box (eSl 1 false F3_ w_))),(4,.own (.box (eOs 1 false (eI .u64) out1))),(12,.d (.fn 80 [.sptr (I r_)]))]
abbrev UC (m_:z6) (w_:List (List Int)) (r_:Int) (out1:List Int) (set_:Int):List (Nat × T):=[(2,.own (.box (zI m_))),(3,.own (.box (eSl 1 false F3_ w_))),(4,.own (.box (eOs 1 false (eI .u64) out1))),(7,.d (.atom (.int .u64 set_))),(12,.d (.fn 80 [.sptr (I r_)]))]
abbrev UB (m_:z6) (w_:List (List Int)) (r_:Int) (out1:List Int) (x13:Int) (x14:Int) (x17:Int) (set_2:Int):List (Nat × T):=[(2,.own (.box (zI m_))),(3,.own (.box (eSl 1 false F3_ w_))),(4,.own (.box (eOs 1 false (eI .u64) out1))),(5,.d (I x13)),(6,.d (I x14)),(7,.d (.atom (.int .u64 set_2))),(12,.d (.fn 80 [.sptr (I r_)])),(16,.d (I ((w_.length:Nat):Int))),(17,.d (I x17))]
abbrev UA (m_:z6) (w_:List (List Int)) (r_:Int) (out1:List Int) (x13:Int) (x14:Int) (set_1:Int) (x17:Int):List (Nat × T):=[(2,.own (.box (zI m_))),(3,.own (.box (eSl 1 false F3_ w_))),(4,.own (.box (eOs 1 false (eI .u64) out1))),(5,.d (I x13)),(6,.d (I x14)),(7,.d (.atom (.int .u64 set_1))),(12,.d (.fn 80 [.sptr (I r_)])),(16,.d (I ((w_.length:Nat):Int))),(17,.d (I x17))]
theorem Km {ctr:Ctr} (hC:zw Tryz.prog ctr) (h05:ctr.Has vo) (h06:ctr.Has we) (h08:ctr.Has vp):Za.Ok Tryz.prog:=by
 refine zx ?_
 rintro ⟨m_,w_⟩ r0 hf0
 try unfold qL at hf0
 refine yO false [(4,some 76)] yo 48 Tryz.func45 fun E hE => ?_
 refine yJ X0 hC yo [1] [] [4] (fun z:List Int => Zb z = some r0) (fun z => UD z) [(2,.own (.box (zI m_))),(3,.own (.box (eSl 1 false F3_ w_))),(4,.own (.box (eOs 1 true (eI .u64) [])))] [Hh (.cut 1)] ?_ fun J1 hJ1 => ?_
 ·rintro out hf0
  unfold Zb at hf0
  obtain rfl:=z8 hf0
  exact yE X0 hC hE [Hh (.v 0 [4]),Hm (shM (eI .u64) (eI .u64) out),Hh (.v 1 [4])]
 ·obtain ⟨r_,h0,hf0⟩:=zb hf0
  obtain ⟨t2,ht2,hf0⟩:=zb hf0
  refine yAt X0 hC (sub [1,2,1,0] yo) (frs [1,2,1,0] [J1] yo []) [(2,.own (.box (zI m_))),(3,.own (.box (eSl 1 false F3_ w_))),(4,.own (.box (eOs 1 true (eI .u64) []))),(12,.d (.fn 80 [.sptr (I r_)]))] [Ha (lnM wS m_.Rows),Hc h05 (x:=((m_.Rows.length:Nat):Int)) h0 (loC (eI .i64) ((m_.Rows.length:Nat):Int) <| loN)] fun st0 h0 => ?_
  refine JH (g:=.tmp 12) (ps:=[13,14]) (assign:=(sub [1,2,1,0,0] yo)) (body:=(sub [1,2,1,0,1] yo)) (K:=80) (caps:=[.sptr (I r_)]) (by kernel_rfl) [2,3,4,12] (fun s => Y8 m_ w_ r_ s) (fun z => nomatch z) (fun z => nomatch z) ((fun (x:Int × Int) (_:Bool) (_:Value) => [(eI .i64) x.1,(eI .i64) x.2])) (F:=@yW r_) (fun s x => wi m_ w_ s x.1 x.2) ([]:List Int) t2 _ h0 inferInstance (by kernel_rfl) (by decide) (fun _ => rfl) (by rintro ⟨⟩) (by kernel_rfl) (fun _ _ _ => rfl) (kG hC r_) ht2 ?_ ?_
  ·rintro tv2 out1 ⟨x13,x14⟩ vr lr1 hf1
   replace hf1:wi m_ w_ out1 x13 x14 = some lr1:=hf1
   unfold wi at hf1
   refine yF X0 hC .normal [(2,.own (.box (zI m_))),(3,.own (.box (eSl 1 false F3_ w_))),(4,.own (.box (eOs 1 false (eI .u64) out1))),(5,.d (I x13)),(6,.d (I x14)),(12,.d (.fn 80 [.sptr (I r_)]))] [] fun st0 h0 => ⟨rfl,z5h h0 ?_⟩
   refine yJ X0 hC yo [1,2,1,0,1,0,1] [J1] [2,3,4,7,12] (fun z:Int => qo out1 z = some lr1) (fun z => UC m_ w_ r_ out1 z) [(2,.own (.box (zI m_))),(3,.own (.box (eSl 1 false F3_ w_))),(4,.own (.box (eOs 1 false (eI .u64) out1))),(5,.d (I x13)),(6,.d (I x14)),(7,.d (.atom (.int .u64 0))),(12,.d (.fn 80 [.sptr (I r_)]))] [Hh (.cut 1)] ?_ fun J3 hJ3 => ?_
   ·rintro set_ hf1
    unfold qo at hf1
    obtain ⟨g0,hf1⟩:=gdE hf1
    obtain rfl:=z8 hf1
    exact yF X0 hC .normal (Y8 m_ w_ r_ (out1 ++ ([set_]:List Int))) [Hq (dM (eI .u64) ([set_]:List Int)),Hn (dM (eI .u64) ([set_]:List Int)),Hn (aL (eI .u64) (eI .u64) g0),Hl (aM (eI .u64) out1 ([set_]:List Int))] fun st0 h0 => ⟨rfl,_,h0,LeL.refl _⟩
   ·obtain ⟨t4,ht4,hf1⟩:=zb hf1
    refine yL X0 hC yo [1,2,1,0,1,0,1,2,1,0] [J1,J3] (fun s => qn m_ w_ x13 x14 s.1 s.2) (fun x => UA m_ w_ r_ out1 x13 x14 x.1 x.2) (0,0) ht4  [Ha (lnM F3_ w_)] ?_
    rintro ⟨set_1,x17⟩ m4 lr2 hf2 hl2 J4 hJ4
    try unfold qn at hf2
    rcases zC hf2 with ⟨c0,hf2⟩ | ⟨c0,hf2⟩
    ·refine yJ X0 hC yo [1,2,1,0,1,0,1,2,1,0,0,1,1] [J1,J3,J4] [2,3,4,5,6,7,12,16,17] (fun z:Int => vD x17 z = some lr2) (fun z => UB m_ w_ r_ out1 x13 x14 x17 z) [(2,.own (.box (zI m_))),(3,.own (.box (eSl 1 false F3_ w_))),(4,.own (.box (eOs 1 false (eI .u64) out1))),(5,.d (I x13)),(6,.d (I x14)),(7,.d (.atom (.int .u64 set_1))),(12,.d (.fn 80 [.sptr (I r_)])),(16,.d (I ((w_.length:Nat):Int))),(17,.d (I x17))] [Hq c0,Hh (.cut 0)] ?_ fun J5 hJ5 => ?_
     ·rintro set_2 hf2
      unfold vD at hf2
      obtain rfl:=z8 hf2
      exact yB X0 hC hJ4 (set_2,w64 (x17 + 1)) hl2 []
     ·obtain ⟨g1,hf2⟩:=gdE hf2
      obtain ⟨r_1,h1,hf2⟩:=zb hf2
      obtain ⟨g2,hf2⟩:=gdE hf2
      obtain ⟨r_2,h2,hf2⟩:=zb hf2
      obtain ⟨r_3,h3,hf2⟩:=zb hf2
      let Z0:List HO:=[Hn (slA g1),Hn (slB g1),Hn (zgt F3_ g1),Ha (slM 1 false F3_ w_ x17.toNat (w64 (x17 + 1)).toNat),Hc h06 (x:=(m_,((w_.drop x17.toNat).take ((w64 (x17 + 1)).toNat - x17.toNat)),x13)) h1 (loC zI m_ <| loC w8 ((w_.drop x17.toNat).take ((w64 (x17 + 1)).toNat - x17.toNat)) <| loC (eI .i64) x13 <| loN),Hn (slA g2),Hn (slB g2),Hn (zgt F3_ g2),Ha (slM 1 false F3_ w_ x17.toNat (w64 (x17 + 1)).toNat),Hc h06 (x:=(m_,((w_.drop x17.toNat).take ((w64 (x17 + 1)).toNat - x17.toNat)),x14)) h2 (loC zI m_ <| loC w8 ((w_.drop x17.toNat).take ((w64 (x17 + 1)).toNat - x17.toNat)) <| loC (eI .i64) x14 <| loN),Hg (z1T h08),Hm (shM F2_ F2_ r_1),Hm (shM F2_ F2_ r_2),Hs (z1U h08 (x:=(r_1,r_2)) h3 (loC F7_ r_1 <| loC F7_ r_2 <| loN))]
      rcases zC hf2 with ⟨c1,hf2⟩ | ⟨c1,hf2⟩
      ·obtain ⟨g3,hf2⟩:=gdE hf2
       exact yB ((z7q Tryz.prog).or ((zjx Tryz.prog).or X0)) hC hJ5 (orK .u64 set_1 (z3A .u64 1 x17)) hf2 (Z0 ++ [Hq c1,Hn g3])
      ·exact yB X0 hC hJ5 set_1 hf2 (Z0 ++ [Hq c1])
    ·obtain rfl:=z8 hf2
     obtain rfl:=hl2
     exact yB X0 hC hJ3 set_1 hf1 [Hq c0]
  ·rcases t2 with out1 | z
   ·dsimp only at hf0
    exact YR (by kernel_rfl) (hJ1 _ [(4,.own (.box (eOs 1 false (eI .u64) out1)))] out1 hf0 (show Own.canon [4] _ = ofL _ by kernel_rfl) inferInstance)
   ·cases z
def yi:Code:=(Tryz.f76.body).getD .skip
def uC:zN:=spF (α:=Int) (ρ:=Int) 76 (fun x => [(eI .u64) x]) (fun r => (eI .i64) r) (fun x => jP x) [] (Wn)
abbrev Wg (x_6:Int):List (Nat × T):=[(0,.d (.atom (.int .u64 x_6)))]
abbrev Wh (x_5:Int):List (Nat × T):=[(0,.d (.atom (.int .u64 x_5)))]
abbrev Wi (x_4:Int):List (Nat × T):=[(0,.d (.atom (.int .u64 x_4)))]
abbrev Wj (x_3:Int):List (Nat × T):=[(0,.d (.atom (.int .u64 x_3)))]
abbrev Wk (x_2:Int):List (Nat × T):=[(0,.d (.atom (.int .u64 x_2)))]
abbrev Wl (x_1:Int):List (Nat × T):=[(0,.d (.atom (.int .u64 x_1)))]
theorem VD {ctr:Ctr} (hC:zw Tryz.prog ctr):uC.Ok Tryz.prog:=by
 refine zx ?_
 rintro x_ r0 hf0
 try unfold jP at hf0
 refine yO true [(2,none)] yi 35 Tryz.func76 fun E hE => ?_
 refine yJ X0 hC yi [1] [] [0] (fun z:Int => uN z = some r0) (fun z => Wl z) [(0,.d (.atom (.int .u64 x_)))] [Hh (.cut 1)] ?_ fun J1 hJ1 => ?_
 ·rintro x_1 hf0
  unfold uN at hf0
  refine yJ X0 hC yi [1,1] [] [0] (fun z:Int => uM z = some r0) (fun z => Wk z) [(0,.d (.atom (.int .u64 x_1)))] [Hh (.cut 0)] ?_ fun J2 hJ2 => ?_
  ·rintro x_2 hf0
   unfold uM at hf0
   refine yJ X0 hC yi [1,1,1] [] [0] (fun z:Int => uL z = some r0) (fun z => Wj z) [(0,.d (.atom (.int .u64 x_2)))] [Hh (.cut 0)] ?_ fun J3 hJ3 => ?_
   ·rintro x_3 hf0
    unfold uL at hf0
    refine yJ X0 hC yi [1,1,1,1] [] [0] (fun z:Int => uK z = some r0) (fun z => Wi z) [(0,.d (.atom (.int .u64 x_3)))] [Hh (.cut 0)] ?_ fun J4 hJ4 => ?_
    ·rintro x_4 hf0
     unfold uK at hf0
     refine yJ X0 hC yi [1,1,1,1,1] [] [0] (fun z:Int => uJ z = some r0) (fun z => Wh z) [(0,.d (.atom (.int .u64 x_4)))] [Hh (.cut 0)] ?_ fun J5 hJ5 => ?_
     ·rintro x_5 hf0
      unfold uJ at hf0
      refine yJ X0 hC yi [1,1,1,1,1,1] [] [0] (fun z:Int => uH z = some r0) (fun z => Wg z) [(0,.d (.atom (.int .u64 x_5)))] [Hh (.cut 0)] ?_ fun J6 hJ6 => ?_
      ·rintro x_6 hf0
       unfold uH at hf0
       obtain rfl:=z8 hf0
       exact yE ((z7q Tryz.prog).or X0) hC hE []
      ·exact yB ((zdF Tryz.prog).or X0) hC hJ6 (IntKind.u64.wrap (x_5 + (Int.fdiv x_5 (2 ^ 32)))) hf0 []
     ·exact yB ((zdF Tryz.prog).or X0) hC hJ5 (IntKind.u64.wrap (x_4 + (Int.fdiv x_4 (2 ^ 16)))) hf0 []
    ·exact yB ((zdF Tryz.prog).or X0) hC hJ4 (IntKind.u64.wrap (x_3 + (Int.fdiv x_3 (2 ^ 8)))) hf0 []
   ·exact yB ((z7q Tryz.prog).or ((zdF Tryz.prog).or X0)) hC hJ3 (z3c .u64 (IntKind.u64.wrap ((Int.fdiv x_2 (2 ^ 4)) + x_2)) 1085102592571150095) hf0 []
  ·exact yB ((z7q Tryz.prog).or ((z7q Tryz.prog).or ((zdF Tryz.prog).or X0))) hC hJ2 (IntKind.u64.wrap ((z3c .u64 (Int.fdiv x_1 (2 ^ 2)) 3689348814741910323) + (z3c .u64 x_1 3689348814741910323))) hf0 []
 ·exact yB ((z7q Tryz.prog).or ((z7q Tryz.prog).or ((zdF Tryz.prog).or X0))) hC hJ1 (IntKind.u64.wrap ((z3c .u64 (Int.fdiv x_ (2 ^ 1)) 6148914691236517205) + (z3c .u64 x_ 6148914691236517205))) hf0 []
def Um:Code:=(Tryz.f46.body).getD .skip
def j9:zN:=spF (α:=Int) (ρ:=Int) 46 (fun x => [(eI .u64) x]) (fun r => (eI .i64) r) (fun x => vB x) [] (Wn)
theorem UG {ctr:Ctr} (hC:zw Tryz.prog ctr) (h1z:ctr.Has uC):j9.Ok Tryz.prog:=by
 refine zx ?_
 rintro x_ r0 hf0
 try unfold vB at hf0
 refine yO true [(2,none)] Um 8 Tryz.func46 fun E hE => ?_
 obtain ⟨r_,h0,hf0⟩:=zb hf0
 obtain rfl:=z8 hf0
 exact yE X0 hC hE [qF,Hc h1z (x:=x_) h0 (loC (eI .u64) x_ <| loN)]
def Xp:Code:=(Tryz.f109.body).getD .skip
def wV:zN:=spF (α:=Int) (ρ:=Int) 109 (fun x => [(eI .u64) x]) (fun r => (eI .i64) r) (fun x => xE x) [] (Wn)
theorem Xz {ctr:Ctr} (hC:zw Tryz.prog ctr):wV.Ok Tryz.prog:=by
 refine zx ?_
 rintro x_ r0 hf0
 try unfold xE at hf0
 refine yO true [(2,none)] Xp 14 Tryz.func109 fun E hE => ?_
 rcases zC hf0 with ⟨c0,hf0⟩ | ⟨c0,hf0⟩
 ·obtain rfl:=z8 hf0
  exact yE X0 hC hE [Hq c0]
 ·obtain ⟨cell,h0,hf0⟩:=zb hf0
  obtain rfl:=z8 hf0
  exact yE ((zdF Tryz.prog).or ((z7q Tryz.prog).or X0)) hC hE [Hq c0,Hs (iM (eI .u8) h0),Hn (Ug (by kernel_rfl) z8J (i0 h0):Y7 yN 162 ((z8J.l).map (eI .u8)) (Int.fdiv (IntKind.u64.wrap ((z3c .u64 x_ (IntKind.u64.wrap (0 - x_))) * 285870213051353865)) (2 ^ 58)) = true)]
def Wy:Code:=(Tryz.f77.body).getD .skip
def vK:zN:=spF (α:=Int) (ρ:=Int) 77 (fun x => [(eI .u64) x]) (fun r => (eI .i64) r) (fun x => wY x) [] (Wn)
theorem WS {ctr:Ctr} (hC:zw Tryz.prog ctr) (h1A:ctr.Has wV):vK.Ok Tryz.prog:=by
 refine zx ?_
 rintro x_ r0 hf0
 try unfold wY at hf0
 refine yO true [(2,none)] Wy 8 Tryz.func77 fun E hE => ?_
 obtain ⟨r_,h0,hf0⟩:=zb hf0
 obtain rfl:=z8 hf0
 exact yE X0 hC hE [qF,Hc h1A (x:=x_) h0 (loC (eI .u64) x_ <| loN)]
def z38:Code:=(Tryz.f47.body).getD .skip
def XP:zN:=spF (α:=Int × Int) (ρ:=Bool) 47 (fun x => [(eI .u64) x.1,(eI .u64) x.2]) (fun r => eB r) (fun x => YN x.1 x.2) [] (VA)
theorem z3x {ctr:Ctr} (hC:zw Tryz.prog ctr) (h1B:ctr.Has vK):XP.Ok Tryz.prog:=by
 refine zx ?_
 rintro ⟨a_,b_⟩ r0 hf0
 try unfold YN at hf0
 refine yO true [(4,none)] z38 13 Tryz.func47 fun E hE => ?_
 obtain ⟨r_,h0,hf0⟩:=zb hf0
 obtain ⟨g0,hf0⟩:=gdE hf0
 obtain rfl:=z8 hf0
 exact yE ((z7q Tryz.prog).or ((zjw Tryz.prog).or ((z7q Tryz.prog).or X0))) hC hE [Hc h1B (x:=zfK .u64 a_ b_) h0 (loC (eI .u64) (zfK .u64 a_ b_) <| loN),Hn g0]
def ye:Code:=(Tryz.f17.body).getD .skip
def kI:zN:=spF (α:=z6) (ρ:=List (List Int) × Int) 17 (fun x => [zI x]) (fun r => .tup [F7_ r.1,(eI .i64) r.2]) (fun x => uc x) [] (Wn)
abbrev K8 (out:List (List Int)):List (Nat × T):=[(13,.own (eOs 1 false F2_ out))]
abbrev K7 (r_:List (List Int) × Int) (best:Int) (x78:Int) (out2:List (List Int)):List (Nat × T):=[(7,.d (.atom (.int .u64 best))),(13,.own (eOs 1 false F2_ out2)),(76,.d (eSl 1 true F2_ r_.1)),(77,.d (I ((r_.1.length:Nat):Int))),(78,.d (I x78))]
abbrev K3 (r_:List (List Int) × Int) (best:Int) (out1:List (List Int)) (x78:Int):List (Nat × T):=[(7,.d (.atom (.int .u64 best))),(13,.own (eOs 1 false F2_ out1)),(76,.d (eSl 1 true F2_ r_.1)),(77,.d (I ((r_.1.length:Nat):Int))),(78,.d (I x78))]
abbrev K9 (r_:List (List Int) × Int) (best:Int):List (Nat × T):=[(4,.d (eSl 1 true F2_ r_.1)),(7,.d (.atom (.int .u64 best)))]
abbrev K6 (r_:List (List Int) × Int) (r_1:List Int) (x37:Int) (best2:Int):List (Nat × T):=[(4,.d (eSl 1 true F2_ r_.1)),(6,.d (eSl 1 false (eI .u64) r_1)),(7,.d (.atom (.int .u64 best2))),(36,.d (.atom (.int .u64 (z3A .u64 1 ((r_.1.length:Nat):Int))))),(37,.d (.atom (.int .u64 x37)))]
abbrev K4 (r_:List (List Int) × Int) (r_1:List Int) (x37:Int) (r_3:Int) (r_4:Int) (x61:Bool):List (Nat × T):=[(4,.d (eSl 1 true F2_ r_.1)),(6,.d (eSl 1 false (eI .u64) r_1)),(8,.d (.atom (.int .u64 x37))),(36,.d (.atom (.int .u64 (z3A .u64 1 ((r_.1.length:Nat):Int))))),(37,.d (.atom (.int .u64 x37))),(48,.d (I r_3)),(49,.d (I r_4)),(50,.d (B (r_3 == r_4))),(51,.d (B (r_3 == r_4))),(61,.d (B x61))]
abbrev K1 (r_:List (List Int) × Int) (r_1:List Int) (best1:Int) (x37:Int) (r_3:Int) (r_4:Int) (x61:Bool) (x65:Int):List (Nat × T):=[(4,.d (eSl 1 true F2_ r_.1)),(6,.d (eSl 1 false (eI .u64) r_1)),(7,.d (.atom (.int .u64 best1))),(8,.d (.atom (.int .u64 x37))),(36,.d (.atom (.int .u64 (z3A .u64 1 ((r_.1.length:Nat):Int))))),(37,.d (.atom (.int .u64 x37))),(48,.d (I r_3)),(49,.d (I r_4)),(50,.d (B (r_3 == r_4))),(51,.d (B (r_3 == r_4))),(61,.d (B x61)),(63,.d (eSl 1 false (eI .u64) r_1)),(64,.d (I ((r_1.length:Nat):Int))),(65,.d (I x65))]
abbrev K5 (r_:List (List Int) × Int) (r_1:List Int) (best1:Int) (x37:Int) (r_3:Int) (r_4:Int) (x61:Bool):List (Nat × T):=[(4,.d (eSl 1 true F2_ r_.1)),(6,.d (eSl 1 false (eI .u64) r_1)),(7,.d (.atom (.int .u64 best1))),(8,.d (.atom (.int .u64 x37))),(36,.d (.atom (.int .u64 (z3A .u64 1 ((r_.1.length:Nat):Int))))),(37,.d (.atom (.int .u64 x37))),(48,.d (I r_3)),(49,.d (I r_4)),(50,.d (B (r_3 == r_4))),(51,.d (B (r_3 == r_4))),(61,.d (B x61))]
abbrev K2 (r_:List (List Int) × Int) (r_1:List Int) (best1:Int) (x37:Int):List (Nat × T):=[(4,.d (eSl 1 true F2_ r_.1)),(6,.d (eSl 1 false (eI .u64) r_1)),(7,.d (.atom (.int .u64 best1))),(36,.d (.atom (.int .u64 (z3A .u64 1 ((r_.1.length:Nat):Int))))),(37,.d (.atom (.int .u64 x37)))]
theorem z2e {ctr:Ctr} (hC:zw Tryz.prog ctr) (h0i:ctr.Has Zv) (h1C:ctr.Has Za) (h0G:ctr.Has j9) (h1D:ctr.Has XP):kI.Ok Tryz.prog:=by
 refine zx ?_
 rintro m_ r0 hf0
 try unfold uc at hf0
 refine yO false [(2,none),(3,none)] ye 95 Tryz.func17 fun E hE => ?_
 refine yA X0 hC ye [1] [] [(1,.own (.box (zI m_)))] [] ?_
 refine z8n (c':=(sub [1,0] ye)) (by kernel_rfl) (zeu _) ?_
 obtain ⟨r_,h0,hf0⟩:=zb hf0
 let Z0:List HO:=[Hc h0i (x:=m_) h0 (loC zI m_ <| loN)]
 rcases zC hf0 with ⟨c0,hf0⟩ | ⟨c0,hf0⟩
 ·obtain rfl:=z8 hf0
  exact yEx X0 hC hE (Z0 ++ [Hq c0,Hm (shM F3_ F3_ [])]) (.tup [eSl 1 true F2_ [],I r_.2]) (show LeV (.tup [eSl 1 true F2_ [],I r_.2]) (.tup [eSl 1 true F2_ ([]:List (List Int)),I r_.2]) from inferInstance)
 ·let Z1:List HO:=(Z0 ++ [Hq c0,Ha (lnM F2_ r_.1)])
  rcases zC hf0 with ⟨c1,hf0⟩ | ⟨c1,hf0⟩
  ·obtain rfl:=z8 hf0
   exact yEx X0 hC hE (Z1 ++ [Hq c1,Hm (shM F3_ F3_ [])]) (.tup [eSl 1 true F2_ [],I 3]) (show LeV (.tup [eSl 1 true F2_ [],I 3]) (.tup [eSl 1 true F2_ ([]:List (List Int)),I 3]) from inferInstance)
  ·obtain ⟨r_1,h1,hf0⟩:=zb hf0
   obtain ⟨g0,hf0⟩:=gdE hf0
   refine yJ ((zjx Tryz.prog).or X0) hC ye [1,0,1,1,1,1,1,1] [] [4,7] (fun z:Int => kW r_ z = some r0) (fun z => K9 r_ z) [(4,.d (eSl 1 true F2_ r_.1)),(6,.d (eSl 1 false (eI .u64) r_1)),(7,.d (.atom (.int .u64 (IntKind.u64.wrap ((z3A .u64 1 ((r_.1.length:Nat):Int)) - 1)))))] (Z1 ++ [Hq c1,Hc h1C (x:=(m_,r_.1)) h1 (loC zI m_ <| loC F7_ r_.1 <| loN),Ha (lnM F2_ r_.1),Hn g0,Hh (.cut 1)]) ?_ fun J1 hJ1 => ?_
   ·rintro best hf0
    unfold kW at hf0
    refine yJ X0 hC ye [1,0,1,1,1,1,1,1,1,1] [] [13] (fun z:List (List Int) => kV z = some r0) (fun z => K8 z) [(4,.d (eSl 1 true F2_ r_.1)),(7,.d (.atom (.int .u64 best))),(13,.own (eOs 1 true F3_ []))] [Hh (.cut 1)] ?_ fun J2 hJ2 => ?_
    ·rintro out hf0
     unfold kV at hf0
     obtain ⟨r_2,h2,hf0⟩:=zb hf0
     obtain rfl:=z8 hf0
     exact yE ((z1n zy (ko hC) 94).or X0) hC hE [Hh (.g [true]),Hn jS,Hx (.a (F8_ r_2)) (jR out _ h2),Hm (shM F2_ F2_ r_2)]
    ·obtain ⟨t3,ht3,hf0⟩:=zb hf0
     refine yLx X0 hC ye [1,0,1,1,1,1,1,1,1,1,2,1,0] [J2] (fun s => kT r_ best s.1 s.2) (fun x => K3 r_ best x.1 x.2) (([]:List (List Int)),0) ht3 [(7,.d (.atom (.int .u64 best))),(13,.own (eOs 1 true F2_ [])),(76,.d (eSl 1 true F2_ r_.1)),(77,.d (I ((r_.1.length:Nat):Int))),(78,.d (I 0))] inferInstance [Ha (lnM F2_ r_.1)] ?_
     rintro ⟨out1,x78⟩ m3 lr1 hf1 hl1 J3 hJ3
     try unfold kT at hf1
     rcases zC hf1 with ⟨c2,hf1⟩ | ⟨c2,hf1⟩
     ·refine yJ X0 hC ye [1,0,1,1,1,1,1,1,1,1,2,1,0,0,1,1] [J2,J3] [7,13,76,77,78] (fun z:List (List Int) => qO x78 z = some lr1) (fun z => K7 r_ best x78 z) [(7,.d (.atom (.int .u64 best))),(13,.own (eOs 1 false F2_ out1)),(76,.d (eSl 1 true F2_ r_.1)),(77,.d (I ((r_.1.length:Nat):Int))),(78,.d (I x78))] [Hq c2,Hh (.cut 0)] ?_ fun J4 hJ4 => ?_
      ·rintro out2 hf1
       unfold qO at hf1
       obtain rfl:=z8 hf1
       exact yB X0 hC hJ3 (out2,w64 (x78 + 1)) hl1 []
      ·obtain ⟨u_,h3,hf1⟩:=zb hf1
       obtain ⟨g1,hf1⟩:=gdE hf1
       let Z2:List HO:=[Hi F2_ h3,Hn g1]
       rcases zC hf1 with ⟨c3,hf1⟩ | ⟨c3,hf1⟩
       ·obtain ⟨g2,hf1⟩:=gdE hf1
        exact yB ((z7q Tryz.prog).or ((zjw Tryz.prog).or X0)) hC hJ4 (out1 ++ ([u_]:List (List Int))) hf1 (Z2 ++ [Hq c3,Hq (dM F2_ ([u_]:List (List Int))),Hn (dM F2_ ([u_]:List (List Int))),Hn (aL F2_ F2_ g2),Hl (aM F2_ out1 ([u_]:List (List Int)))])
       ·exact yB ((z7q Tryz.prog).or ((zjw Tryz.prog).or X0)) hC hJ4 out1 hf1 (Z2 ++ [Hq c3])
     ·obtain rfl:=z8 hf1
      obtain rfl:=hl1
      exact yB X0 hC hJ2 out1 hf0 [Hq c2]
   ·obtain ⟨g3,hf0⟩:=gdE hf0
    obtain ⟨t5,ht5,hf0⟩:=zb hf0
    refine yL ((zjx Tryz.prog).or X0) hC ye [1,0,1,1,1,1,1,1,2,1,0] [J1] (fun s => qN r_ r_1 s.1 s.2) (fun x => K2 r_ r_1 x.1 x.2) (IntKind.u64.wrap ((z3A .u64 1 ((r_.1.length:Nat):Int)) - 1),0) ht5  [Ha (lnM F2_ r_.1),Hn g3] ?_
    rintro ⟨best1,x37⟩ m5 lr1 hf1 hl1 J5 hJ5
    try unfold qN at hf1
    rcases zC hf1 with ⟨c4,hf1⟩ | ⟨c4,hf1⟩
    ·refine yJ X0 hC ye [1,0,1,1,1,1,1,1,2,1,0,0,1,1] [J1,J5] [4,6,7,36,37] (fun z:Int => xK x37 z = some lr1) (fun z => K6 r_ r_1 x37 z) [(4,.d (eSl 1 true F2_ r_.1)),(6,.d (eSl 1 false (eI .u64) r_1)),(7,.d (.atom (.int .u64 best1))),(36,.d (.atom (.int .u64 (z3A .u64 1 ((r_.1.length:Nat):Int))))),(37,.d (.atom (.int .u64 x37)))] [Hq c4,Hh (.cut 0)] ?_ fun J6 hJ6 => ?_
     ·rintro best2 hf1
      unfold xK at hf1
      obtain rfl:=z8 hf1
      exact yB X0 hC hJ5 (best2,IntKind.u64.wrap (x37 + 1)) hl1 []
     ·obtain ⟨r_3,h4,hf1⟩:=zb hf1
      obtain ⟨r_4,h5,hf1⟩:=zb hf1
      refine yJ X0 hC ye [1,0,1,1,1,1,1,1,2,1,0,0,1,1,2,0,1,1] [J1,J5,J6] [4,6,7,8,36,37,48,49,50,51,61] (fun z:Bool => vP r_1 best1 x37 z = some lr1) (fun z => K5 r_ r_1 best1 x37 r_3 r_4 z) [(4,.d (eSl 1 true F2_ r_.1)),(6,.d (eSl 1 false (eI .u64) r_1)),(7,.d (.atom (.int .u64 best1))),(8,.d (.atom (.int .u64 x37))),(9,.d (I r_3)),(10,.d (I r_4)),(36,.d (.atom (.int .u64 (z3A .u64 1 ((r_.1.length:Nat):Int))))),(37,.d (.atom (.int .u64 x37)))] [Hc h0G (x:=x37) h4 (loC (eI .u64) x37 <| loN),Hc h0G (x:=best1) h5 (loC (eI .u64) best1 <| loN),Hh (.cut 0)] ?_ fun J7 hJ7 => ?_
      ·rintro x61 hf1
       unfold vP at hf1
       refine yJ X0 hC ye [1,0,1,1,1,1,1,1,2,1,0,0,1,1,2,0,1,1,1] [J1,J5,J6] [4,6,8,36,37,48,49,50,51,61] (fun z:Unit => kU x37 = some lr1) (fun z => K4 r_ r_1 x37 r_3 r_4 x61) [(4,.d (eSl 1 true F2_ r_.1)),(6,.d (eSl 1 false (eI .u64) r_1)),(7,.d (.atom (.int .u64 best1))),(8,.d (.atom (.int .u64 x37))),(36,.d (.atom (.int .u64 (z3A .u64 1 ((r_.1.length:Nat):Int))))),(37,.d (.atom (.int .u64 x37))),(48,.d (I r_3)),(49,.d (I r_4)),(50,.d (B (r_3 == r_4))),(51,.d (B (r_3 == r_4))),(61,.d (B x61))] [Hh (.cut 0)] ?_ fun J8 hJ8 => ?_
       ·rintro ⟨⟩ hf1
        unfold kU at hf1
        exact yB X0 hC hJ6 x37 hf1 []
       ·obtain ⟨t9,ht9,hf1⟩:=zb hf1
        refine yL X0 hC ye [1,0,1,1,1,1,1,1,2,1,0,0,1,1,2,0,1,1,1,2,1,0] [J1,J5,J6,J8] (fun s => vO r_1 best1 x37 s) (fun x => K1 r_ r_1 best1 x37 r_3 r_4 x61 x) 0 ht9  [Ha (lnM (eI .u64) r_1)] ?_
        rintro x65 m9 lr2 hf2 hl2 J9 hJ9
        try unfold vO at hf2
        rcases zC hf2 with ⟨c5,hf2⟩ | ⟨c5,hf2⟩
        ·obtain ⟨r__e,h6,hf2⟩:=zb hf2
         rcases zC hf2 with ⟨c6,hf2⟩ | ⟨c6,hf2⟩
         ·obtain rfl:=z8 hf2
          obtain rfl:=hl2
          exact yB ((z7q Tryz.prog).or X0) hC hJ6 best1 hf1 [Hq c5,Hi (eI .u64) h6,Hq c6]
         ·obtain rfl:=z8 hf2
          exact yB ((z7q Tryz.prog).or X0) hC hJ9 (w64 (x65 + 1)) hl2 [Hq c5,Hi (eI .u64) h6,Hq c6]
        ·obtain rfl:=z8 hf2
         obtain rfl:=hl2
         exact yB X0 hC hJ8 () hf1 [Hq c5]
      ·rcases zC hf1 with ⟨c7,hf1⟩ | ⟨c7,hf1⟩
       ·exact yB X0 hC hJ6 best1 hf1 (rpN 6 (Hq c7) [qT])
       ·let Z3:List HO:=(rpN 4 (Hq c7) [])
        rcases zC hf1 with ⟨c8,hf1⟩ | ⟨c8,hf1⟩
        ·let Z4:List HO:=(Z3 ++ (rpN 4 (Hq c8) []))
         rcases zC hf1 with ⟨c9,hf1⟩ | ⟨c9,hf1⟩
         ·exact yB X0 hC hJ6 best1 hf1 (Z4 ++ (rpN 4 (Hq c9) [Hq c8,Hq c9,Hq c7,Hq c8,Hq c7,qT]))
         ·obtain ⟨r_5,h7,hf1⟩:=zb hf1
          let Z5:List HO:=(Z4 ++ [Hq c9,Hq c9,Hq c9,Hc h1D (x:=(x37,best1)) h7 (loC (eI .u64) x37 <| loC (eI .u64) best1 <| loN),Hq c9,Hq c8,Hq c9,Hq c7,Hq c8,Hq c7])
          rcases zC hf1 with ⟨c10,hf1⟩ | ⟨c10,hf1⟩
          ·exact yB X0 hC hJ6 best1 hf1 (Z5 ++ [Hq c10])
          ·exact yB X0 hC hJ7 (!r_5) hf1 (Z5 ++ [Hq c10])
        ·exact yB X0 hC hJ7 false hf1 (Z3 ++ (rpN 5 (Hq c8) [Hq c7,Hq c8,Hq c7,qF]))
    ·obtain rfl:=z8 hf1
     obtain rfl:=hl1
     exact yB X0 hC hJ1 best1 hf0 [Hq c4]
def z3H:Code:=(Tryz.f41.body).getD .skip
def Yy:zN:=spF (α:=Int × Int × Int) (ρ:=Bool) 41 (fun x => [(eI .i64) x.1,(eI .i64) x.2.1,(eSp (eI .i64)) x.2.2]) (fun r => eB r) (fun x => W5 x.1 x.2.1 x.2.2) [] (z8V)
theorem z4x {ctr:Ctr} (hC:zw Tryz.prog ctr):Yy.Ok Tryz.prog:=by
 refine zx ?_
 rintro ⟨a_,b_,x2⟩ r0 hf0
 try unfold W5 at hf0
 refine yO true [(5,none)] z3H 14 Tryz.func41 fun E hE => ?_
 rcases zC hf0 with ⟨c0,hf0⟩ | ⟨c0,hf0⟩
 ·obtain rfl:=z8 hf0
  exact yE X0 hC hE (rpN 4 (Hq c0) [])
 ·obtain rfl:=z8 hf0
  exact yE X0 hC hE (rpN 4 (Hq c0) [])
def wk:Code:=(Tryz.f37.body).getD .skip
def XN:zN:=spF (α:=z6 × Int) (ρ:=List (List Int) × Int) 37 (fun x => [zI x.1,(QK 41 (eSp (eI .i64))) x.2]) (fun r => .tup [F7_ r.1,(eI .i64) r.2]) (fun x => qK x.1 x.2) [] (by
 rintro ⟨a0,a1⟩ ⟨b0,b1⟩ h
 have e0:=Y6.inj (f:=zI) _ _ (List.cons.inj h).1
 replace h:=(List.cons.inj h).2
 have e1:=Y6.inj (f:=(QK 41 (eSp (eI .i64)))) _ _ (List.cons.inj h).1
 subst e0 e1
 rfl)
abbrev Ux (m_:z6) (x5:Int) (out:List (List Int)):List (Nat × T):=[(2,.own (.box (zI m_))),(4,.own (.box (eOs 1 true F3_ []))),(5,.own (.box (I x5))),(6,.own (.box (eOs 1 false F2_ out)))]
abbrev wb (m_:z6) (is:Int) (r_1:Int) (x51:Int) (out1:List (List Int)):List (Nat × T):=[(2,.own (.box (zI m_))),(3,.own (.box (.fn 41 [.sptr (I is)]))),(4,.own (.box (eOs 1 true F3_ []))),(5,.own (.box (I x51))),(6,.own (.box (eOs 1 false F2_ out1))),(15,.d (.fn 80 [.sptr (I r_1)]))]
theorem Kk {ctr:Ctr} (hC:zw Tryz.prog ctr) (h05:ctr.Has vo) (h0u:ctr.Has Yy) (h0g:ctr.Has vT) (h07:ctr.Has Zm):XN.Ok Tryz.prog:=by
 refine zx ?_
 rintro ⟨m_,is⟩ r0 hf0
 try unfold qK at hf0
 refine yO false [(4,some 32),(5,some 33)] wk 44 Tryz.func37 fun E hE => ?_
 refine yJ X0 hC wk [1,1] [] [2,4,5,6] (fun z:Int × List (List Int) => qj m_ z.1 z.2 = some r0) (fun z => Ux m_ z.1 z.2) [(2,.own (.box (zI m_))),(3,.own (.box (.fn 41 [.sptr (I is)]))),(4,.own (.box (eOs 1 true F3_ []))),(5,.own (.box (I 0))),(6,.own (.box (eOs 1 true F3_ [])))] [Hh (.cut 2)] ?_ fun J1 hJ1 => ?_
 ·rintro ⟨x5,out⟩ hf0
  unfold qj at hf0
  obtain ⟨r_,h0,hf0⟩:=zb hf0
  obtain rfl:=z8 hf0
  exact yE X0 hC hE [Hg (z1T h07),Hm (shM F2_ F2_ out),Hs (z1U h07 (x:=(out,m_.Inputs)) h0 (loC (eSl 1 false F2_) out <| loC (eI .i64) m_.Inputs <| loN)),Hm (shM F2_ F2_ out)]
 ·obtain ⟨r_1,h1,hf0⟩:=zb hf0
  obtain ⟨t2,ht2,hf0⟩:=zb hf0
  refine yAt X0 hC (sub [1,1,2,1,0] wk) (frs [1,1,2,1,0] [J1] wk []) [(2,.own (.box (zI m_))),(3,.own (.box (.fn 41 [.sptr (I is)]))),(4,.own (.box (eOs 1 true F3_ []))),(5,.own (.box (I 0))),(6,.own (.box (eOs 1 true F2_ []))),(15,.d (.fn 80 [.sptr (I r_1)]))] [Ha (lnM wS m_.Rows),Hc h05 (x:=((m_.Rows.length:Nat):Int)) h1 (loC (eI .i64) ((m_.Rows.length:Nat):Int) <| loN)] fun st0 h0 => ?_
  refine JH (g:=.tmp 15) (ps:=[16,17]) (assign:=(sub [1,1,2,1,0,0] wk)) (body:=(sub [1,1,2,1,0,1] wk)) (K:=80) (caps:=[.sptr (I r_1)]) (by kernel_rfl) [2,3,4,5,6,15] (fun s => wb m_ is r_1 s.1 s.2) (fun s => wb m_ is r_1 s.1 s.2) (fun s => Code.ret) ((fun (x:Int × Int) (_:Bool) (_:Value) => [(eI .i64) x.1,(eI .i64) x.2])) (F:=@yW r_1) (fun s x => yS m_ is s.1 s.2 x.1 x.2) (0,([]:List (List Int))) t2 _ h0 inferInstance (by kernel_rfl) (by decide) (fun _ => rfl) (fun _ => rfl) (by kernel_rfl) (fun _ _ _ => rfl) (kG hC r_1) ht2 ?_ ?_
  ·rintro tv2 ⟨x51,out1⟩ ⟨x16,x17⟩ vr lr1 hf1
   replace hf1:yS m_ is x51 out1 x16 x17 = some lr1:=hf1
   unfold yS at hf1
   refine yF X0 hC .normal [(2,.own (.box (zI m_))),(3,.own (.box (.fn 41 [.sptr (I is)]))),(4,.own (.box (eOs 1 true F3_ []))),(5,.own (.box (I x51))),(6,.own (.box (eOs 1 false F2_ out1))),(7,.d (I x16)),(8,.d (I x17)),(15,.d (.fn 80 [.sptr (I r_1)]))] [] fun st0 h0 => ⟨rfl,z5h h0 ?_⟩
   obtain ⟨r_2,h2,hf1⟩:=zb hf1
   let Z0:List HO:=[Hc h0u (x:=(x16,x17,is)) h2 (loC (eI .i64) x16 <| loC (eI .i64) x17 <| loC (eSp (eI .i64)) is <| loN)]
   rcases zC hf1 with ⟨c0,hf1⟩ | ⟨c0,hf1⟩
   ·obtain rfl:=z8 hf1
    exact yF X0 hC .normal (wb m_ is r_1 x51 out1) (Z0 ++ [Hq c0]) fun st0 h0 => ⟨rfl,_,h0,LeL.refl _⟩
   ·obtain ⟨r_3,h3,hf1⟩:=zb hf1
    let Z1:List HO:=(Z0 ++ [Hq c0,Hc h0g (x:=(m_,x16,x17)) h3 (loC zI m_ <| loC (eI .i64) x16 <| loC (eI .i64) x17 <| loN)])
    rcases zC hf1 with ⟨c1,hf1⟩ | ⟨c1,hf1⟩
    ·obtain rfl:=z8 hf1
     exact yF X0 hC .ret (wb m_ is r_1 r_3.2.2 out1) (Z1 ++ [Hq c1]) fun st0 h0 => ⟨rfl,_,h0,LeL.refl _⟩
    ·obtain ⟨g0,hf1⟩:=gdE hf1
     obtain rfl:=z8 hf1
     exact yF X0 hC .normal (wb m_ is r_1 x51 (out1 ++ ([r_3.1]:List (List Int)))) (Z1 ++ [Hq c1,Hq (dM F2_ ([r_3.1]:List (List Int))),Hn (dM F2_ ([r_3.1]:List (List Int))),Hn (aL F2_ F2_ g0),Hl (aM F2_ out1 ([r_3.1]:List (List Int)))]) fun st0 h0 => ⟨rfl,_,h0,LeL.refl _⟩
  ·rcases t2 with ⟨x51,out1⟩ | z
   ·dsimp only at hf0
    exact YR (by kernel_rfl) (hJ1 _ [(2,.own (.box (zI m_))),(4,.own (.box (eOs 1 true F3_ []))),(5,.own (.box (I x51))),(6,.own (.box (eOs 1 false F2_ out1)))] (x51,out1) hf0 (show Own.canon [2,4,5,6] _ = ofL _ by kernel_rfl) inferInstance)
   ·obtain ⟨x51,out1⟩:=z
    dsimp only at hf0
    show AWP _ _ (Code.ret) _ _
    obtain rfl:=z8 hf0
    exact yEx X0 hC hE [Hm (shM F3_ F3_ [])] (.tup [eSl 1 true F2_ [],I x51]) (show LeV (.tup [eSl 1 true F2_ [],I x51]) (.tup [eSl 1 true F2_ ([]:List (List Int)),I x51]) from inferInstance)
def z6y:Code:=(Tryz.f13.body).getD .skip
def WE:zN:=spF (α:=z6 × Int) (ρ:=List (List Int) × Int) 13 (fun x => [zI x.1,(eI .i64) x.2]) (fun r => .tup [F7_ r.1,(eI .i64) r.2]) (fun x => qM x.1 x.2) [] (VA)
theorem z6H {ctr:Ctr} (hC:zw Tryz.prog ctr) (h0h:ctr.Has vn) (h05:ctr.Has vo) (h0u:ctr.Has Yy) (h0g:ctr.Has vT) (h07:ctr.Has Zm):WE.Ok Tryz.prog:=by
 refine zx ?_
 rintro ⟨m_,s_⟩ r0 hf0
 try unfold qM at hf0
 refine yO false [(4,none),(5,none)] z6y 26 Tryz.func13 fun E hE => ?_
 obtain ⟨r_,h0,hf0⟩:=zb hf0
 let Z0:List HO:=[Hc h0h (x:=m_) h0 (loC zI m_ <| loN)]
 rcases zC hf0 with ⟨c0,hf0⟩ | ⟨c0,hf0⟩
 ·obtain rfl:=z8 hf0
  exact yEx X0 hC hE (Z0 ++ [Hq c0,Hm (shM F3_ F3_ [])]) (.tup [eSl 1 true F2_ [],I r_]) (show LeV (.tup [eSl 1 true F2_ [],I r_]) (.tup [eSl 1 true F2_ ([]:List (List Int)),I r_]) from inferInstance)
 ·rcases zC hf0 with ⟨c1,hf0⟩ | ⟨c1,hf0⟩
  ·obtain rfl:=z8 hf0
   exact yEx X0 hC hE (Z0 ++ (Hq c0 :: (rpN 6 (Hq c1) [qT,Hm (shM F3_ F3_ [])]))) (.tup [eSl 1 true F2_ [],I 1]) (show LeV (.tup [eSl 1 true F2_ [],I 1]) (.tup [eSl 1 true F2_ ([]:List (List Int)),I 1]) from inferInstance)
  ·let Z1:List HO:=(Z0 ++ (Hq c0 :: (rpN 4 (Hq c1) [Ha (lnM wS m_.Rows),Hq c1,Hq c1])))
   rcases zC hf0 with ⟨c2,hf0⟩ | ⟨c2,hf0⟩
   ·obtain rfl:=z8 hf0
    exact yEx X0 hC hE (Z1 ++ [Hq c2,Hm (shM F3_ F3_ [])]) (.tup [eSl 1 true F2_ [],I 1]) (show LeV (.tup [eSl 1 true F2_ [],I 1]) (.tup [eSl 1 true F2_ ([]:List (List Int)),I 1]) from inferInstance)
   ·obtain ⟨r_1,h1,hf0⟩:=zb hf0
    obtain rfl:=z8 hf0
    exact yE ((z1n zy (Kk hC h05 h0u h0g h07) 23).or X0) hC hE (Z1 ++ [Hq c2,Hc (Ctr.add_has Jf XN) (x:=(m_,s_)) h1 (loC zI m_ <| loC (QK 41 (eSp (eI .i64))) s_ <| loN)])
def z5b:Code:=(Tryz.f88.body).getD .skip
def VH:zN:=spF (α:=List Int) (ρ:=Int) 88 (fun x => [F3_ x]) (fun r => (eI .i64) r) (fun x => Xw x) [] (Wn)
theorem z5r {ctr:Ctr} (hC:zw Tryz.prog ctr):VH.Ok Tryz.prog:=by
 refine zx ?_
 rintro w_ r0 hf0
 try unfold Xw at hf0
 refine yO true [(2,none)] z5b 6 Tryz.func88 fun E hE => ?_
 rcases zC hf0 with ⟨c0,hf0⟩ | ⟨c0,hf0⟩
 ·obtain rfl:=z8 hf0
  exact yE X0 hC hE [Ha (lnM (eI .i64) w_),Hq c0]
 ·obtain rfl:=z8 hf0
  exact yE X0 hC hE [Ha (lnM (eI .i64) w_),Hq c0]
def Xa:Code:=(Tryz.f89.body).getD .skip
def X1:zN:=spF (α:=List Int × Int) (ρ:=Int) 89 (fun x => [F3_ x.1,(eI .i64) x.2]) (fun r => (eI .i64) r) (fun x => Zy x.1 x.2) [] (VA)
abbrev JM:List (Nat × T):=[]
abbrev JL (w_:List Int) (inputs:Int) (i_:Int):List (Nat × T):=[(0,.d (eSl 1 false (eI .i64) w_)),(1,.d (I inputs)),(5,.d (I i_))]
theorem z26 {ctr:Ctr} (hC:zw Tryz.prog ctr):X1.Ok Tryz.prog:=by
 refine zx ?_
 rintro ⟨w_,inputs⟩ r0 hf0
 try unfold Zy at hf0
 refine yO true [(4,none)] Xa 25 Tryz.func89 fun E hE => ?_
 refine yJ X0 hC Xa [1] [] [] (fun z:Unit => X8 = some r0) (fun z => JM) [(0,.d (eSl 1 false (eI .i64) w_)),(1,.d (I inputs))] [Hh (.cut 1)] ?_ fun J1 hJ1 => ?_
 ·rintro ⟨⟩ hf0
  unfold X8 at hf0
  obtain rfl:=z8 hf0
  exact yE X0 hC hE []
 ·obtain ⟨t2,ht2,hf0⟩:=zb hf0
  refine yL X0 hC Xa [1,2,1,0] [J1] (fun s => vL w_ inputs s) (fun x => JL w_ inputs x) 0 ht2  [] ?_
  rintro i_ m2 lr1 hf1 hl1 J2 hJ2
  try unfold vL at hf1
  rcases zC hf1 with ⟨c0,hf1⟩ | ⟨c0,hf1⟩
  ·obtain ⟨w__e,h0,hf1⟩:=zb hf1
   let Z0:List HO:=[Ha (lnM (eI .i64) w_),Hq c0,Hi (eI .i64) h0]
   rcases zC hf1 with ⟨c1,hf1⟩ | ⟨c1,hf1⟩
   ·obtain rfl:=z8 hf1
    obtain rfl:=hl1
    obtain rfl:=z8 hf0
    exact yE X0 hC hE (Z0 ++ (rpN 7 (Hq c1) [qT]))
   ·obtain ⟨w__e1,h1,hf1⟩:=zb hf1
    let Z1:List HO:=(Z0 ++ (Hq c1 :: Hq c1 :: Hq c1 :: Hi (eI .i64) h1 :: (rpN 4 (Hq c1) [])))
    rcases zC hf1 with ⟨c2,hf1⟩ | ⟨c2,hf1⟩
    ·obtain rfl:=z8 hf1
     obtain rfl:=hl1
     obtain rfl:=z8 hf0
     exact yE X0 hC hE (Z1 ++ [Hq c2])
    ·obtain rfl:=z8 hf1
     exact yB X0 hC hJ2 (w64 (i_ + 1)) hl1 (Z1 ++ [Hq c2])
  ·obtain rfl:=z8 hf1
   obtain rfl:=hl1
   exact yB X0 hC hJ1 () hf0 [Ha (lnM (eI .i64) w_),Hq c0]
def Vf:Code:=(Tryz.f64.body).getD .skip
def WX:zN:=spF (α:=List (List Int) × Int) (ρ:=Int) 64 (fun x => [w8 x.1,(eI .i64) x.2]) (fun r => (eI .i64) r) (fun x => XV x.1 x.2) [] (VA)
abbrev z0S:List (Nat × T):=[]
abbrev z0R (l_:List (List Int)) (inputs:Int) (i_:Int):List (Nat × T):=[(0,.d (eSl 1 false F3_ l_)),(1,.d (I inputs)),(5,.d (I i_))]
theorem z4r {ctr:Ctr} (hC:zw Tryz.prog ctr) (h1E:ctr.Has VH) (h1F:ctr.Has X1):WX.Ok Tryz.prog:=by
 refine zx ?_
 rintro ⟨l_,inputs⟩ r0 hf0
 try unfold XV at hf0
 refine yO true [(4,none)] Vf 40 Tryz.func64 fun E hE => ?_
 rcases zC hf0 with ⟨c0,hf0⟩ | ⟨c0,hf0⟩
 ·obtain rfl:=z8 hf0
  exact yE X0 hC hE (rpN 4 (Hq c0) [qT])
 ·let Z0:List HO:=[Hq c0,Hq c0,Ha (lnM F3_ l_),Hq c0,Hq c0]
  rcases zC hf0 with ⟨c1,hf0⟩ | ⟨c1,hf0⟩
  ·obtain rfl:=z8 hf0
   exact yE X0 hC hE (Z0 ++ [Hq c1])
  ·rcases zC hf0 with ⟨c2,hf0⟩ | ⟨c2,hf0⟩
   ·obtain rfl:=z8 hf0
    exact yE X0 hC hE (Z0 ++ [Hq c1,Hq c2])
   ·refine yJ X0 hC Vf [1,1,1] [] [] (fun z:Unit => V4 = some r0) (fun z => z0S) [(0,.d (eSl 1 false F3_ l_)),(1,.d (I inputs))] (Z0 ++ [Hq c1,Hq c2,Hh (.cut 0)]) ?_ fun J1 hJ1 => ?_
    ·rintro ⟨⟩ hf0
     unfold V4 at hf0
     obtain rfl:=z8 hf0
     exact yE X0 hC hE []
    ·obtain ⟨t2,ht2,hf0⟩:=zb hf0
     refine yL X0 hC Vf [1,1,1,2,1,0] [J1] (fun s => qW l_ inputs s) (fun x => z0R l_ inputs x) 0 ht2  [] ?_
     rintro i_ m2 lr1 hf1 hl1 J2 hJ2
     try unfold qW at hf1
     let Z1:List HO:=[Ha (lnM F3_ l_)]
     rcases zC hf1 with ⟨c3,hf1⟩ | ⟨c3,hf1⟩
     ·obtain ⟨l__e,h0,hf1⟩:=zb hf1
      obtain ⟨r_,h1,hf1⟩:=zb hf1
      let Z2:List HO:=(Z1 ++ [Hq c3,Hi F3_ h0,Hc h1E (x:=l__e) h1 (loC F3_ l__e <| loN)])
      rcases zC hf1 with ⟨c4,hf1⟩ | ⟨c4,hf1⟩
      ·obtain rfl:=z8 hf1
       obtain rfl:=hl1
       obtain rfl:=z8 hf0
       exact yE X0 hC hE (Z2 ++ [Hq c4])
      ·obtain ⟨l__e1,h2,hf1⟩:=zb hf1
       obtain ⟨r_1,h3,hf1⟩:=zb hf1
       let Z3:List HO:=(Z2 ++ [Hq c4,Hi F3_ h2,Hc h1F (x:=(l__e1,inputs)) h3 (loC F3_ l__e1 <| loC (eI .i64) inputs <| loN)])
       rcases zC hf1 with ⟨c5,hf1⟩ | ⟨c5,hf1⟩
       ·obtain rfl:=z8 hf1
        obtain rfl:=hl1
        obtain rfl:=z8 hf0
        exact yE X0 hC hE (Z3 ++ [Hq c5])
       ·obtain rfl:=z8 hf1
        exact yB X0 hC hJ2 (w64 (i_ + 1)) hl1 (Z3 ++ [Hq c5])
     ·obtain rfl:=z8 hf1
      obtain rfl:=hl1
      exact yB X0 hC hJ1 () hf0 (Z1 ++ [Hq c3])
def Xb:Code:=(Tryz.f65.body).getD .skip
def kH:zN:=spF (α:=List Int × List Int) (ρ:=Int) 65 (fun x => [F3_ x.1,F3_ x.2]) (fun r => (eI .i64) r) (fun x => k9 x.1 x.2) [] (VA)
abbrev JO:List (Nat × T):=[]
abbrev JN (a_:List Int) (b_:List Int) (i_:Int):List (Nat × T):=[(0,.d (eSl 1 false (eI .i64) a_)),(1,.d (eSl 1 false (eI .i64) b_)),(5,.d (I i_))]
theorem z27 {ctr:Ctr} (hC:zw Tryz.prog ctr):kH.Ok Tryz.prog:=by
 refine zx ?_
 rintro ⟨a_,b_⟩ r0 hf0
 try unfold k9 at hf0
 refine yO true [(4,none)] Xb 40 Tryz.func65 fun E hE => ?_
 let Z0:List HO:=[Ha (lnM (eI .i64) a_),Ha (lnM (eI .i64) b_)]
 rcases zC hf0 with ⟨c0,hf0⟩ | ⟨c0,hf0⟩
 ·let Z1:List HO:=(Z0 ++ [Hq c0,Ha (lnM (eI .i64) a_),Ha (lnM (eI .i64) b_)])
  rcases zC hf0 with ⟨c1,hf0⟩ | ⟨c1,hf0⟩
  ·obtain rfl:=z8 hf0
   exact yE X0 hC hE (Z1 ++ [Hq c1])
  ·obtain rfl:=z8 hf0
   exact yE X0 hC hE (Z1 ++ [Hq c1])
 ·refine yJ X0 hC Xb [1,1] [] [] (fun z:Unit => X9 = some r0) (fun z => JO) [(0,.d (eSl 1 false (eI .i64) a_)),(1,.d (eSl 1 false (eI .i64) b_))] (Z0 ++ [Hq c0,Hh (.cut 0)]) ?_ fun J1 hJ1 => ?_
  ·rintro ⟨⟩ hf0
   unfold X9 at hf0
   obtain rfl:=z8 hf0
   exact yE X0 hC hE []
  ·obtain ⟨t2,ht2,hf0⟩:=zb hf0
   refine yL X0 hC Xb [1,1,2,1,0] [J1] (fun s => qD a_ b_ s) (fun x => JN a_ b_ x) 0 ht2  [] ?_
   rintro i_ m2 lr1 hf1 hl1 J2 hJ2
   try unfold qD at hf1
   rcases zC hf1 with ⟨c2,hf1⟩ | ⟨c2,hf1⟩
   ·obtain ⟨a__e,h0,hf1⟩:=zb hf1
    obtain ⟨b__e,h1,hf1⟩:=zb hf1
    let Z2:List HO:=[Ha (lnM (eI .i64) a_),Hq c2,Hi (eI .i64) h0,Hi (eI .i64) h1]
    rcases zC hf1 with ⟨c3,hf1⟩ | ⟨c3,hf1⟩
    ·obtain rfl:=z8 hf1
     obtain rfl:=hl1
     obtain rfl:=z8 hf0
     exact yE X0 hC hE (Z2 ++ [Hq c3])
    ·obtain ⟨a__e1,h2,hf1⟩:=zb hf1
     obtain ⟨b__e1,h3,hf1⟩:=zb hf1
     let Z3:List HO:=(Z2 ++ [Hq c3,Hi (eI .i64) h2,Hi (eI .i64) h3])
     rcases zC hf1 with ⟨c4,hf1⟩ | ⟨c4,hf1⟩
     ·obtain rfl:=z8 hf1
      obtain rfl:=hl1
      obtain rfl:=z8 hf0
      exact yE X0 hC hE (Z3 ++ [Hq c4])
     ·obtain rfl:=z8 hf1
      exact yB X0 hC hJ2 (w64 (i_ + 1)) hl1 (Z3 ++ [Hq c4])
   ·obtain rfl:=z8 hf1
    obtain rfl:=hl1
    exact yB X0 hC hJ1 () hf0 [Ha (lnM (eI .i64) a_),Hq c2]
def Vg:Code:=(Tryz.f31.body).getD .skip
def WY:zN:=spF (α:=List (List Int) × Int) (ρ:=Int) 31 (fun x => [w8 x.1,(eI .i64) x.2]) (fun r => (eI .i64) r) (fun x => XW x.1 x.2) [] (VA)
abbrev z0U (l_:List (List Int)):List (Nat × T):=[(0,.d (eSl 1 false F3_ l_))]
abbrev z0T (l_:List (List Int)) (i_:Int):List (Nat × T):=[(0,.d (eSl 1 false F3_ l_)),(6,.d (I i_))]
theorem z4s {ctr:Ctr} (hC:zw Tryz.prog ctr) (h1G:ctr.Has WX) (h0v:ctr.Has kH) (h0o:ctr.Has Yx):WY.Ok Tryz.prog:=by
 refine zx ?_
 rintro ⟨l_,inputs⟩ r0 hf0
 try unfold XW at hf0
 refine yO true [(4,none)] Vg 33 Tryz.func31 fun E hE => ?_
 obtain ⟨r_,h0,hf0⟩:=zb hf0
 let Z0:List HO:=[Hc h1G (x:=(l_,inputs)) h0 (loC w8 l_ <| loC (eI .i64) inputs <| loN)]
 rcases zC hf0 with ⟨c0,hf0⟩ | ⟨c0,hf0⟩
 ·obtain rfl:=z8 hf0
  exact yE X0 hC hE (Z0 ++ [Hq c0])
 ·refine yJ X0 hC Vg [1,1] [] [0] (fun z:Unit => YA l_ = some r0) (fun z => z0U l_) [(0,.d (eSl 1 false F3_ l_))] (Z0 ++ [Hq c0,Hh (.cut 0)]) ?_ fun J1 hJ1 => ?_
  ·rintro ⟨⟩ hf0
   unfold YA at hf0
   obtain ⟨r_1,h1,hf0⟩:=zb hf0
   let Z1:List HO:=[Hc h0o (x:=l_) h1 (loC w8 l_ <| loN)]
   rcases zC hf0 with ⟨c1,hf0⟩ | ⟨c1,hf0⟩
   ·obtain rfl:=z8 hf0
    exact yE X0 hC hE (Z1 ++ [Hq c1])
   ·obtain rfl:=z8 hf0
    exact yE X0 hC hE (Z1 ++ [Hq c1])
  ·obtain ⟨t2,ht2,hf0⟩:=zb hf0
   refine yL X0 hC Vg [1,1,2,1,0] [J1] (fun s => qX l_ s) (fun x => z0T l_ x) 1 ht2  [] ?_
   rintro i_ m2 lr1 hf1 hl1 J2 hJ2
   try unfold qX at hf1
   let Z2:List HO:=[Ha (lnM F3_ l_)]
   rcases zC hf1 with ⟨c2,hf1⟩ | ⟨c2,hf1⟩
   ·obtain ⟨l__e,h2,hf1⟩:=zb hf1
    obtain ⟨l__e1,h3,hf1⟩:=zb hf1
    obtain ⟨r_2,h4,hf1⟩:=zb hf1
    let Z3:List HO:=(Z2 ++ [Hq c2,Hi F3_ h2,Hi F3_ h3,Hc h0v (x:=(l__e,l__e1)) h4 (loC F3_ l__e <| loC F3_ l__e1 <| loN)])
    rcases zC hf1 with ⟨c3,hf1⟩ | ⟨c3,hf1⟩
    ·obtain rfl:=z8 hf1
     obtain rfl:=hl1
     obtain rfl:=z8 hf0
     exact yE X0 hC hE (Z3 ++ [Hq c3])
    ·obtain rfl:=z8 hf1
     exact yB X0 hC hJ2 (w64 (i_ + 1)) hl1 (Z3 ++ [Hq c3])
   ·obtain rfl:=z8 hf1
    obtain rfl:=hl1
    exact yB X0 hC hJ1 () hf0 (Z2 ++ [Hq c2])
def Vd:Code:=(Tryz.f110.body).getD .skip
def WV:zN:=spF (α:=List (List Int)) (ρ:=Bool) 110 (fun x => [w8 x]) (fun r => eB r) (fun x => XB x) [] (Wn)
abbrev z0O:List (Nat × T):=[]
abbrev z0N (l_:List (List Int)) (i_:Int):List (Nat × T):=[(0,.d (eSl 1 false F3_ l_)),(3,.d (I i_))]
theorem z4o {ctr:Ctr} (hC:zw Tryz.prog ctr) (h0f:ctr.Has qA):WV.Ok Tryz.prog:=by
 refine zx ?_
 rintro l_ r0 hf0
 try unfold XB at hf0
 refine yO true [(2,none)] Vd 21 Tryz.func110 fun E hE => ?_
 refine yJ X0 hC Vd [1] [] [] (fun z:Unit => Yt = some r0) (fun z => z0O) [(0,.d (eSl 1 false F3_ l_))] [Hh (.cut 1)] ?_ fun J1 hJ1 => ?_
 ·rintro ⟨⟩ hf0
  unfold Yt at hf0
  obtain rfl:=z8 hf0
  exact yE X0 hC hE []
 ·obtain ⟨t2,ht2,hf0⟩:=zb hf0
  refine yL X0 hC Vd [1,2,1,0] [J1] (fun s => qU l_ s) (fun x => z0N l_ x) 1 ht2  [] ?_
  rintro i_ m2 lr1 hf1 hl1 J2 hJ2
  try unfold qU at hf1
  let Z0:List HO:=[Ha (lnM F3_ l_)]
  rcases zC hf1 with ⟨c0,hf1⟩ | ⟨c0,hf1⟩
  ·obtain ⟨l__e,h0,hf1⟩:=zb hf1
   obtain ⟨l__e1,h1,hf1⟩:=zb hf1
   obtain ⟨r_,h2,hf1⟩:=zb hf1
   let Z1:List HO:=(Z0 ++ [Hq c0,Hi F3_ h0,Hi F3_ h1,Hc h0f (x:=(l__e,l__e1)) h2 (loC F3_ l__e <| loC F3_ l__e1 <| loN)])
   rcases zC hf1 with ⟨c1,hf1⟩ | ⟨c1,hf1⟩
   ·obtain rfl:=z8 hf1
    obtain rfl:=hl1
    obtain rfl:=z8 hf0
    exact yE X0 hC hE (Z1 ++ [Hq c1])
   ·obtain rfl:=z8 hf1
    exact yB X0 hC hJ2 (w64 (i_ + 1)) hl1 (Z1 ++ [Hq c1])
  ·obtain rfl:=z8 hf1
   obtain rfl:=hl1
   exact yB X0 hC hJ1 () hf0 (Z0 ++ [Hq c0])
def z3G:Code:=(Tryz.f78.body).getD .skip
def WW:zN:=spF (α:=List (List Int) × Int) (ρ:=Int) 78 (fun x => [w8 x.1,(eI .i64) x.2]) (fun r => (eI .i64) r) (fun x => XC x.1 x.2) [] (VA)
theorem z4p {ctr:Ctr} (hC:zw Tryz.prog ctr) (h0t:ctr.Has Yw) (h1H:ctr.Has WV) (h0l:ctr.Has Yv):WW.Ok Tryz.prog:=by
 refine zx ?_
 rintro ⟨l_,inputs⟩ r0 hf0
 try unfold XC at hf0
 refine yO true [(4,none)] z3G 18 Tryz.func78 fun E hE => ?_
 obtain ⟨r_,h0,hf0⟩:=zb hf0
 let Z0:List HO:=[Hc h0t (x:=(l_,inputs)) h0 (loC w8 l_ <| loC (eI .i64) inputs <| loN)]
 rcases zC hf0 with ⟨c0,hf0⟩ | ⟨c0,hf0⟩
 ·obtain rfl:=z8 hf0
  exact yE X0 hC hE (Z0 ++ [Hq c0])
 ·obtain ⟨r_1,h1,hf0⟩:=zb hf0
  let Z1:List HO:=(Z0 ++ [Hq c0,Hc h1H (x:=l_) h1 (loC w8 l_ <| loN)])
  rcases zC hf0 with ⟨c1,hf0⟩ | ⟨c1,hf0⟩
  ·obtain rfl:=z8 hf0
   exact yE X0 hC hE (Z1 ++ [Hq c1])
  ·obtain ⟨r_2,h2,hf0⟩:=zb hf0
   let Z2:List HO:=(Z1 ++ [Hq c1,Hc h0l (x:=l_) h2 (loC w8 l_ <| loN)])
   rcases zC hf0 with ⟨c2,hf0⟩ | ⟨c2,hf0⟩
   ·obtain rfl:=z8 hf0
    exact yE X0 hC hE (Z2 ++ [Hq c2])
   ·obtain rfl:=z8 hf0
    exact yE X0 hC hE (Z2 ++ [Hq c2])
def z36:Code:=(Tryz.f49.body).getD .skip
def jD:zN:=spF (α:=z6 × List (List Int)) (ρ:=Int) 49 (fun x => [zI x.1,w8 x.2]) (fun r => (eI .i64) r) (fun x => va x.1 x.2) [] (VA)
theorem z3v {ctr:Ctr} (hC:zw Tryz.prog ctr) (h0h:ctr.Has vn) (h1I:ctr.Has WW):jD.Ok Tryz.prog:=by
 refine zx ?_
 rintro ⟨m_,l_⟩ r0 hf0
 try unfold va at hf0
 refine yO true [(4,none)] z36 15 Tryz.func49 fun E hE => ?_
 obtain ⟨r_,h0,hf0⟩:=zb hf0
 let Z0:List HO:=[Hc h0h (x:=m_) h0 (loC zI m_ <| loN)]
 rcases zC hf0 with ⟨c0,hf0⟩ | ⟨c0,hf0⟩
 ·obtain rfl:=z8 hf0
  exact yE X0 hC hE (Z0 ++ [Hq c0])
 ·obtain ⟨r_1,h1,hf0⟩:=zb hf0
  obtain rfl:=z8 hf0
  exact yE X0 hC hE (Z0 ++ [Hq c0,Hc h1I (x:=(l_,m_.Inputs)) h1 (loC w8 l_ <| loC (eI .i64) m_.Inputs <| loN)])
def ww:Code:=(Tryz.f18.body).getD .skip
def Zu:zN:=spF (α:=z6 × List (List Int)) (ρ:=Bool × Int) 18 (fun x => [zI x.1,w8 x.2]) (fun r => .tup [eB r.1,(eI .i64) r.2]) (fun x => ua x.1 x.2) [] (VA)
abbrev z07:List (Nat × T):=[(4,.own (.box (B false))),(5,.own (.box (I 0)))]
abbrev ju (all:List (List (List Int))) (r_1:Int):List (Nat × T):=[(4,.own (.box (B false))),(5,.own (.box (I 0))),(7,.own (.box (eOs 1 false F7_ all))),(34,.d (.fn 80 [.sptr (I r_1)]))]
abbrev z08 (m_:z6) (all:List (List (List Int))):List (Nat × T):=[(2,.own (.box (zI m_))),(4,.own (.box (B false))),(5,.own (.box (I 0))),(7,.own (.box (eOs 1 false F7_ all)))]
abbrev z06 (m_:z6) (l_:List (List Int)) (all1:List (List (List Int))) (x20:Int):List (Nat × T):=[(1,.d (eSl 1 false F3_ l_)),(2,.own (.box (zI m_))),(4,.own (.box (B false))),(5,.own (.box (I 0))),(7,.own (.box (eOs 1 false F7_ all1))),(19,.d (I ((m_.Rows.length:Nat):Int))),(20,.d (I x20))]
def yY:XH Tryz.prog:=((Kd zy (.inl 28) [27]).or X0)
theorem z3y {ctr:Ctr} (hC:zw Tryz.prog ctr) (h0j:ctr.Has jD) (h06:ctr.Has we) (h05:ctr.Has vo) (h08:ctr.Has vp):Zu.Ok Tryz.prog:=by
 refine zx ?_
 rintro ⟨m_,l_⟩ r0 hf0
 try unfold ua at hf0
 refine yO false [(4,some 4),(5,some 33)] ww 46 Tryz.func18 fun E hE => ?_
 obtain ⟨r_,h0,hf0⟩:=zb hf0
 let Z0:List HO:=[Hc h0j (x:=(m_,l_)) h0 (loC zI m_ <| loC w8 l_ <| loN)]
 rcases zC hf0 with ⟨c0,hf0⟩ | ⟨c0,hf0⟩
 ·obtain rfl:=z8 hf0
  exact yE yY hC hE (Z0 ++ [Hq c0])
 ·refine yJ yY hC ww [1,1,1] [] [2,4,5,7] (fun z:List (List (List Int)) => ZS m_ z = some r0) (fun z => z08 m_ z) [(1,.d (eSl 1 false F3_ l_)),(2,.own (.box (zI m_))),(4,.own (.box (B false))),(5,.own (.box (I 0))),(7,.own (.box (eOs 1 true w8 [])))] (Z0 ++ [Hq c0,Hh (.cut 1)]) ?_ fun J1 hJ1 => ?_
  ·rintro all hf0
   unfold ZS at hf0
   refine yJ yY hC ww [1,1,1,1] [] [4,5] (fun z:Unit => ZR = some r0) (fun z => z07) [(2,.own (.box (zI m_))),(4,.own (.box (B false))),(5,.own (.box (I 0))),(7,.own (.box (eOs 1 false F7_ all)))] [Hh (.cut 0)] ?_ fun J2 hJ2 => ?_
   ·rintro ⟨⟩ hf0
    unfold ZR at hf0
    obtain rfl:=z8 hf0
    exact yE yY hC hE []
   ·obtain ⟨r_1,h1,hf0⟩:=zb hf0
    obtain ⟨t3,ht3,hf0⟩:=zb hf0
    refine yAt yY hC (sub [1,1,1,1,2,1,0] ww) (frs [1,1,1,1,2,1,0] [J2] ww []) [(4,.own (.box (B false))),(5,.own (.box (I 0))),(7,.own (.box (eOs 1 false F7_ all))),(34,.d (.fn 80 [.sptr (I r_1)]))] [Ha (lnM wS m_.Rows),Hc h05 (x:=((m_.Rows.length:Nat):Int)) h1 (loC (eI .i64) ((m_.Rows.length:Nat):Int) <| loN)] fun st0 h0 => ?_
    refine JH (g:=.tmp 34) (ps:=[35,36]) (assign:=(sub [1,1,1,1,2,1,0,0] ww)) (body:=(sub [1,1,1,1,2,1,0,1] ww)) (K:=80) (caps:=[.sptr (I r_1)]) (by kernel_rfl) [4,5,7,34] (fun s => ju all r_1) (fun s => ju all r_1) (fun s => Code.ret) ((fun (x:Int × Int) (_:Bool) (_:Value) => [(eI .i64) x.1,(eI .i64) x.2])) (F:=@yW r_1) (fun s x => uR all x.1 x.2) () t3 _ h0 inferInstance (by kernel_rfl) (by decide) (fun _ => rfl) (fun _ => rfl) (by kernel_rfl) (fun _ _ _ => rfl) (kG hC r_1) ht3 ?_ ?_
    ·rintro tv3 ⟨⟩ ⟨x35,x36⟩ vr lr1 hf1
     replace hf1:uR all x35 x36 = some lr1:=hf1
     unfold uR at hf1
     refine yF yY hC .normal [(4,.own (.box (B false))),(5,.own (.box (I 0))),(7,.own (.box (eOs 1 false F7_ all))),(9,.d (I x35)),(10,.d (I x36)),(34,.d (.fn 80 [.sptr (I r_1)]))] [] fun st0 h0 => ⟨rfl,z5h h0 ?_⟩
     obtain ⟨all_e,h2,hf1⟩:=zb hf1
     obtain ⟨all_e1,h3,hf1⟩:=zb hf1
     obtain ⟨r_2,h4,hf1⟩:=zb hf1
     let Z1:List HO:=[Hn (iL F7_ h2),Hs (iM F7_ h2),Hn (iL F7_ h3),Hs (iM F7_ h3),Hc h08 (x:=(all_e,all_e1)) h4 (loC F7_ all_e <| loC F7_ all_e1 <| loN)]
     rcases zC hf1 with ⟨c1,hf1⟩ | ⟨c1,hf1⟩
     ·obtain rfl:=z8 hf1
      exact yF yY hC .ret (ju all r_1) (Z1 ++ [Hq c1]) fun st0 h0 => ⟨rfl,_,h0,LeL.refl _⟩
     ·obtain rfl:=z8 hf1
      exact yF yY hC .normal (ju all r_1) (Z1 ++ [Hq c1]) fun st0 h0 => ⟨rfl,_,h0,LeL.refl _⟩
    ·rcases t3 with ⟨⟩ | z
     ·dsimp only at hf0
      exact YR (by kernel_rfl) (hJ2 _ [(4,.own (.box (B false))),(5,.own (.box (I 0)))] () hf0 (show Own.canon [4,5] _ = ofL _ by kernel_rfl) inferInstance)
     ·obtain ⟨⟩:=z
      dsimp only at hf0
      show AWP _ _ (Code.ret) _ _
      obtain rfl:=z8 hf0
      exact yE yY hC hE []
  ·obtain ⟨t4,ht4,hf0⟩:=zb hf0
   refine yLx yY hC ww [1,1,1,2,1,0] [J1] (fun s => wv m_ l_ s.1 s.2) (fun x => z06 m_ l_ x.1 x.2) (([]:List (List (List Int))),0) ht4 [(1,.d (eSl 1 false F3_ l_)),(2,.own (.box (zI m_))),(4,.own (.box (B false))),(5,.own (.box (I 0))),(7,.own (.box (eOs 1 true F7_ []))),(19,.d (I ((m_.Rows.length:Nat):Int))),(20,.d (I 0))] inferInstance [Ha (lnM wS m_.Rows)] ?_
   rintro ⟨all1,x20⟩ m4 lr1 hf1 hl1 J4 hJ4
   try unfold wv at hf1
   rcases zC hf1 with ⟨c2,hf1⟩ | ⟨c2,hf1⟩
   ·obtain ⟨r_3,h5,hf1⟩:=zb hf1
    obtain ⟨g0,hf1⟩:=gdE hf1
    obtain rfl:=z8 hf1
    exact yB yY hC hJ4 ((all1 ++ ([r_3]:List (List (List Int)))),w64 (x20 + 1)) hl1 [Hq c2,Hc h06 (x:=(m_,l_,x20)) h5 (loC zI m_ <| loC w8 l_ <| loC (eI .i64) x20 <| loN),Hm (shM F2_ F2_ r_3),Hq (dM F7_ ([r_3]:List (List (List Int)))),Hn (dM F7_ ([r_3]:List (List (List Int)))),Hn (aL F7_ F7_ g0),Hl (aM F7_ all1 ([r_3]:List (List (List Int))))]
   ·obtain rfl:=z8 hf1
    obtain rfl:=hl1
    exact yB yY hC hJ1 all1 hf0 [Hq c2]
def JG:Code:=(Tryz.f22.body).getD .skip
def qe:zN:=spF (α:=z6 × List (List Int) × Int) (ρ:=List (List Int) × Int) 22 (fun x => [zI x.1,w8 x.2.1,(eI .i64) x.2.2]) (fun r => .tup [F7_ r.1,(eI .i64) r.2]) (fun x => yX x.1 x.2.1 x.2.2) [] (z8V)
theorem Ko {ctr:Ctr} (hC:zw Tryz.prog ctr) (h0j:ctr.Has jD) (h06:ctr.Has we):qe.Ok Tryz.prog:=by
 refine zx ?_
 rintro ⟨m_,l_,s_⟩ r0 hf0
 try unfold yX at hf0
 refine yO false [(6,none),(7,none)] JG 28 Tryz.func22 fun E hE => ?_
 obtain ⟨r_,h0,hf0⟩:=zb hf0
 let Z0:List HO:=[Hc h0j (x:=(m_,l_)) h0 (loC zI m_ <| loC w8 l_ <| loN)]
 rcases zC hf0 with ⟨c0,hf0⟩ | ⟨c0,hf0⟩
 ·obtain rfl:=z8 hf0
  exact yEx X0 hC hE (Z0 ++ [Hq c0,Hm (shM F3_ F3_ [])]) (.tup [eSl 1 true F2_ [],I r_]) (show LeV (.tup [eSl 1 true F2_ [],I r_]) (.tup [eSl 1 true F2_ ([]:List (List Int)),I r_]) from inferInstance)
 ·rcases zC hf0 with ⟨c1,hf0⟩ | ⟨c1,hf0⟩
  ·obtain rfl:=z8 hf0
   exact yEx X0 hC hE (Z0 ++ (Hq c0 :: (rpN 6 (Hq c1) [qT,Hm (shM F3_ F3_ [])]))) (.tup [eSl 1 true F2_ [],I 1]) (show LeV (.tup [eSl 1 true F2_ [],I 1]) (.tup [eSl 1 true F2_ ([]:List (List Int)),I 1]) from inferInstance)
  ·let Z1:List HO:=(Z0 ++ (Hq c0 :: (rpN 4 (Hq c1) [Ha (lnM wS m_.Rows),Hq c1,Hq c1])))
   rcases zC hf0 with ⟨c2,hf0⟩ | ⟨c2,hf0⟩
   ·obtain rfl:=z8 hf0
    exact yEx X0 hC hE (Z1 ++ [Hq c2,Hm (shM F3_ F3_ [])]) (.tup [eSl 1 true F2_ [],I 1]) (show LeV (.tup [eSl 1 true F2_ [],I 1]) (.tup [eSl 1 true F2_ ([]:List (List Int)),I 1]) from inferInstance)
   ·obtain ⟨r_1,h1,hf0⟩:=zb hf0
    obtain rfl:=z8 hf0
    exact yE X0 hC hE (Z1 ++ [Hq c2,Hc h06 (x:=(m_,l_,s_)) h1 (loC zI m_ <| loC w8 l_ <| loC (eI .i64) s_ <| loN),Hm (shM F2_ F2_ r_1)])
def QP:Code:=(Tryz.f57.body).getD .skip
def ur:zN:=spF (α:=List Int × List Int) (ρ:=Bool) 57 (fun x => [F3_ x.1,F3_ x.2]) (fun r => eB r) (fun x => uS x.1 x.2) [] (VA)
theorem Jm {ctr:Ctr} (hC:zw Tryz.prog ctr):ur.Ok Tryz.prog:=by
 refine zx ?_
 rintro ⟨a_,b_⟩ r0 hf0
 try unfold uS at hf0
 refine yO true [(4,none)] QP 10 Tryz.func57 fun E hE => ?_
 obtain rfl:=z8 hf0
 exact yE X0 hC hE [Ha (lnM (eI .i64) a_),Ha (lnM (eI .i64) b_)]
def yM:Code:=(Tryz.f56.body).getD .skip
def wl:zN:=spF (α:=List (List Int) × List (List Int) × Unit) (ρ:=Bool) 56 (fun x => [w8 x.1,w8 x.2.1,(z7e 57) x.2.2]) (fun r => eB r) (fun x => zF x.1 x.2.1 x.2.2) [] (by
 rintro ⟨a0,a1,a2⟩ ⟨b0,b1,b2⟩ h
 have e0:=Y6.inj (f:=w8) _ _ (List.cons.inj h).1
 replace h:=(List.cons.inj h).2
 have e1:=Y6.inj (f:=w8) _ _ (List.cons.inj h).1
 replace h:=(List.cons.inj h).2
 have e2:=Y6.inj (f:=(z7e 57)) _ _ (List.cons.inj h).1
 subst e0 e1 e2
 rfl)
abbrev qu:List (Nat × T):=[]
abbrev qt (s1:List (List Int)) (s2:List (List Int)) (x17:Int):List (Nat × T):=[(1,.d (eSl 1 false F3_ s2)),(2,.d (.fn 57 [])),(15,.d (eSl 1 false F3_ s1)),(16,.d (I ((s1.length:Nat):Int))),(17,.d (I x17))]
theorem wo {ctr:Ctr} (hC:zw Tryz.prog ctr) (h0m:ctr.Has ur):wl.Ok Tryz.prog:=by
 refine zx ?_
 rintro ⟨s1,s2,eq⟩ r0 hf0
 try unfold zF at hf0
 refine yO true [(6,none)] yM 32 Tryz.func56 fun E hE => ?_
 let Z0:List HO:=[Ha (lnM F3_ s1),Ha (lnM F3_ s2)]
 rcases zC hf0 with ⟨c0,hf0⟩ | ⟨c0,hf0⟩
 ·obtain rfl:=z8 hf0
  exact yE X0 hC hE (Z0 ++ [Hq c0])
 ·refine yJ X0 hC yM [1,1] [] [] (fun z:Unit => yK = some r0) (fun z => qu) [(0,.d (eSl 1 false F3_ s1)),(1,.d (eSl 1 false F3_ s2)),(2,.d (.fn 57 []))] (Z0 ++ [Hq c0,Hh (.cut 0)]) ?_ fun J1 hJ1 => ?_
  ·rintro ⟨⟩ hf0
   unfold yK at hf0
   obtain rfl:=z8 hf0
   exact yE X0 hC hE []
  ·obtain ⟨t2,ht2,hf0⟩:=zb hf0
   refine yL X0 hC yM [1,1,2,1,0] [J1] (fun s => zu s1 s2 s) (fun x => qt s1 s2 x) 0 ht2  [Ha (lnM F3_ s1)] ?_
   rintro x17 m2 lr1 hf1 hl1 J2 hJ2
   try unfold zu at hf1
   rcases zC hf1 with ⟨c1,hf1⟩ | ⟨c1,hf1⟩
   ·obtain ⟨s_e,h0,hf1⟩:=zb hf1
    obtain ⟨s_e1,h1,hf1⟩:=zb hf1
    obtain ⟨r_,h2,hf1⟩:=zb hf1
    let Z1:List HO:=[Hq c1,Hi F3_ h0,Hi F3_ h1,Hc h0m (x:=(s_e,s_e1)) h2 (loC F3_ s_e <| loC F3_ s_e1 <| loN)]
    rcases zC hf1 with ⟨c2,hf1⟩ | ⟨c2,hf1⟩
    ·obtain rfl:=z8 hf1
     obtain rfl:=hl1
     obtain rfl:=z8 hf0
     exact yE X0 hC hE (Z1 ++ [Hq c2])
    ·obtain rfl:=z8 hf1
     exact yB X0 hC hJ2 (w64 (x17 + 1)) hl1 (Z1 ++ [Hq c2])
   ·obtain rfl:=z8 hf1
    obtain rfl:=hl1
    exact yB X0 hC hJ1 () hf0 [Hq c1]
def jt:Code:=(Tryz.f25.body).getD .skip
def jb:zN:=spF (α:=z6 × List (List Int) × List (List Int)) (ρ:=List Int × Int) 25 (fun x => [zI x.1,w8 x.2.1,w8 x.2.2]) (fun r => .tup [F2_ r.1,(eI .i64) r.2]) (fun x => yh x.1 x.2.1 x.2.2) [] (z8V)
abbrev Qq (out:List Int):List (Nat × T):=[(9,.own (eOs 1 false (eI .i64) out))]
abbrev Qp (m_:z6) (l_:List (List Int)) (responses:List (List Int)) (x24:Int) (out2:List Int):List (Nat × T):=[(1,.d (eSl 1 false F3_ l_)),(2,.d (eSl 1 false F3_ responses)),(3,.own (.box (zI m_))),(9,.own (eOs 1 false (eI .i64) out2)),(23,.d (I ((m_.Rows.length:Nat):Int))),(24,.d (I x24))]
abbrev Qo (m_:z6) (l_:List (List Int)) (responses:List (List Int)) (out1:List Int) (x24:Int):List (Nat × T):=[(1,.d (eSl 1 false F3_ l_)),(2,.d (eSl 1 false F3_ responses)),(3,.own (.box (zI m_))),(9,.own (eOs 1 false (eI .i64) out1)),(23,.d (I ((m_.Rows.length:Nat):Int))),(24,.d (I x24))]
theorem z0l {ctr:Ctr} (hC:zw Tryz.prog ctr) (h0j:ctr.Has jD) (h0m:ctr.Has ur) (h06:ctr.Has we) (h08:ctr.Has vp) (h01:ctr.Has yC):jb.Ok Tryz.prog:=by
 refine zx ?_
 rintro ⟨m_,l_,responses⟩ r0 hf0
 try unfold yh at hf0
 refine yO false [(6,none),(7,none)] jt 40 Tryz.func25 fun E hE => ?_
 obtain ⟨r_,h0,hf0⟩:=zb hf0
 let Z0:List HO:=[Hc h0j (x:=(m_,l_)) h0 (loC zI m_ <| loC w8 l_ <| loN)]
 rcases zC hf0 with ⟨c0,hf0⟩ | ⟨c0,hf0⟩
 ·obtain rfl:=z8 hf0
  exact yEx X0 hC hE (Z0 ++ [Hq c0,Hm (shM (eI .i64) (eI .i64) [])]) (.tup [eSl 1 true (eI .i64) [],I r_]) (show LeV (.tup [eSl 1 true (eI .i64) [],I r_]) (.tup [eSl 1 true (eI .i64) ([]:List Int),I r_]) from inferInstance)
 ·obtain ⟨r_1,h1,hf0⟩:=zb hf0
  let Z1:List HO:=(Z0 ++ [Hq c0,Hc (Ctr.add_has Jf wl) (x:=(l_,responses,())) h1 (loC w8 l_ <| loC w8 responses <| loC (z7e 57) () <| loN)])
  rcases zC hf0 with ⟨c1,hf0⟩ | ⟨c1,hf0⟩
  ·obtain rfl:=z8 hf0
   exact yEx ((z1n zy (wo hC h0m) 19).or X0) hC hE (Z1 ++ [Hq c1,Hm (shM (eI .i64) (eI .i64) [])]) (.tup [eSl 1 true (eI .i64) [],I 16]) (show LeV (.tup [eSl 1 true (eI .i64) [],I 16]) (.tup [eSl 1 true (eI .i64) ([]:List Int),I 16]) from inferInstance)
  ·refine yJ ((z1n zy (wo hC h0m) 19).or X0) hC jt [1,1,1,1] [] [9] (fun z:List Int => jq z = some r0) (fun z => Qq z) [(1,.d (eSl 1 false F3_ l_)),(2,.d (eSl 1 false F3_ responses)),(3,.own (.box (zI m_))),(9,.own (eOs 1 true (eI .i64) []))] (Z1 ++ [Hq c1,Hh (.cut 1)]) ?_ fun J1 hJ1 => ?_
   ·rintro out hf0
    unfold jq at hf0
    obtain ⟨r_2,h2,hf0⟩:=zb hf0
    obtain rfl:=z8 hf0
    exact yE X0 hC hE [Hg (z1T h01),Hm (shM (eI .i64) (eI .i64) out),Hs (z1U h01 (x:=out) h2 (loC F3_ out <| loN)),Hm (shM (eI .i64) (eI .i64) out)]
   ·obtain ⟨t2,ht2,hf0⟩:=zb hf0
    refine yLx X0 hC jt [1,1,1,1,2,1,0] [J1] (fun s => xw m_ l_ responses s.1 s.2) (fun x => Qo m_ l_ responses x.1 x.2) (([]:List Int),0) ht2 [(1,.d (eSl 1 false F3_ l_)),(2,.d (eSl 1 false F3_ responses)),(3,.own (.box (zI m_))),(9,.own (eOs 1 true (eI .i64) [])),(23,.d (I ((m_.Rows.length:Nat):Int))),(24,.d (I 0))] inferInstance [Ha (lnM wS m_.Rows)] ?_
    rintro ⟨out1,x24⟩ m2 lr1 hf1 hl1 J2 hJ2
    try unfold xw at hf1
    rcases zC hf1 with ⟨c2,hf1⟩ | ⟨c2,hf1⟩
    ·refine yJ X0 hC jt [1,1,1,1,2,1,0,0,1,1] [J1,J2] [1,2,3,9,23,24] (fun z:List Int => ub x24 z = some lr1) (fun z => Qp m_ l_ responses x24 z) [(1,.d (eSl 1 false F3_ l_)),(2,.d (eSl 1 false F3_ responses)),(3,.own (.box (zI m_))),(9,.own (eOs 1 false (eI .i64) out1)),(23,.d (I ((m_.Rows.length:Nat):Int))),(24,.d (I x24))] [Hq c2,Hh (.cut 0)] ?_ fun J3 hJ3 => ?_
     ·rintro out2 hf1
      unfold ub at hf1
      obtain rfl:=z8 hf1
      exact yB X0 hC hJ2 (out2,w64 (x24 + 1)) hl1 []
     ·obtain ⟨r_3,h3,hf1⟩:=zb hf1
      obtain ⟨r_4,h4,hf1⟩:=zb hf1
      let Z2:List HO:=[Hc h06 (x:=(m_,l_,x24)) h3 (loC zI m_ <| loC w8 l_ <| loC (eI .i64) x24 <| loN),Hg (z1T h08),Hm (shM F2_ F2_ r_3),Hs (z1U h08 (x:=(r_3,responses)) h4 (loC F7_ r_3 <| loC w8 responses <| loN))]
      rcases zC hf1 with ⟨c3,hf1⟩ | ⟨c3,hf1⟩
      ·obtain ⟨g0,hf1⟩:=gdE hf1
       exact yB X0 hC hJ3 (out1 ++ ([x24]:List Int)) hf1 (Z2 ++ [Hq c3,Hq (dM (eI .i64) ([x24]:List Int)),Hn (dM (eI .i64) ([x24]:List Int)),Hn (aL (eI .i64) (eI .i64) g0),Hl (aM (eI .i64) out1 ([x24]:List Int))])
      ·exact yB X0 hC hJ3 out1 hf1 (Z2 ++ [Hq c3])
    ·obtain rfl:=z8 hf1
     obtain rfl:=hl1
     exact yB X0 hC hJ1 out1 hf0 [Hq c2]
def z1D:Code:=(Tryz.f43.body).getD .skip
def X6:zN:=spF (α:=Unit) (ρ:=z6) 43 (fun x => []) (fun r => z8P r) (fun x => VQ) [] (fun _ _ _ => rfl)
theorem z2d {ctr:Ctr} (hC:zw Tryz.prog ctr):X6.Ok Tryz.prog:=by
 refine zx ?_
 rintro ⟨⟩ r0 hf0
 try unfold VQ at hf0
 refine yO false [(0,some 30)] z1D 12 Tryz.func43 fun E hE => ?_
 obtain rfl:=z8 hf0
 exact yE X0 hC hE [Hm (shM (eOs 2 true F6_) zlX ([[(zh.mk 1 0),(zh.mk 0 0)],[(zh.mk 2 0),(zh.mk 1 1)],[(zh.mk 0 1),(zh.mk 2 0)]]))]
def z5e:Code:=(Tryz.f44.body).getD .skip
def VK:zN:=spF (α:=List (List Int)) (ρ:=List (List Int)) 44 (fun x => [w8 x]) (fun r => w8 r) (fun x => Yo x) [] (Wn)
theorem z5v {ctr:Ctr} (hC:zw Tryz.prog ctr):VK.Ok Tryz.prog:=by
 refine zx ?_
 rintro l_ r0 hf0
 try unfold Yo at hf0
 refine yO true [(2,none)] z5e 4 Tryz.func44 fun E hE => ?_
 obtain rfl:=z8 hf0
 exact yE X0 hC hE []
def Ua:Code:=(Tryz.f39.body).getD .skip
def Zp:zN:=spF (α:=List (List Int) × List (List Int)) (ρ:=Bool) 39 (fun x => [w8 x.1,w8 x.2]) (fun r => eB r) (fun x => Yl x.1 x.2) [] (VA)
abbrev z1J:List (Nat × T):=[]
abbrev z1I (a_:List (List Int)) (b_:List (List Int)) (i_:Int):List (Nat × T):=[(0,.d (eSl 1 false F3_ a_)),(1,.d (eSl 1 false F3_ b_)),(5,.d (I i_))]
theorem z5s {ctr:Ctr} (hC:zw Tryz.prog ctr) (h0v:ctr.Has kH):Zp.Ok Tryz.prog:=by
 refine zx ?_
 rintro ⟨a_,b_⟩ r0 hf0
 try unfold Yl at hf0
 refine yO true [(4,none)] Ua 27 Tryz.func39 fun E hE => ?_
 let Z0:List HO:=[Ha (lnM F3_ a_),Ha (lnM F3_ b_)]
 rcases zC hf0 with ⟨c0,hf0⟩ | ⟨c0,hf0⟩
 ·obtain rfl:=z8 hf0
  exact yE X0 hC hE (Z0 ++ [Hq c0])
 ·refine yJ X0 hC Ua [1,1] [] [] (fun z:Unit => Xi = some r0) (fun z => z1J) [(0,.d (eSl 1 false F3_ a_)),(1,.d (eSl 1 false F3_ b_))] (Z0 ++ [Hq c0,Hh (.cut 0)]) ?_ fun J1 hJ1 => ?_
  ·rintro ⟨⟩ hf0
   unfold Xi at hf0
   obtain rfl:=z8 hf0
   exact yE X0 hC hE []
  ·obtain ⟨t2,ht2,hf0⟩:=zb hf0
   refine yL X0 hC Ua [1,1,2,1,0] [J1] (fun s => ka a_ b_ s) (fun x => z1I a_ b_ x) 0 ht2  [] ?_
   rintro i_ m2 lr1 hf1 hl1 J2 hJ2
   try unfold ka at hf1
   let Z1:List HO:=[Ha (lnM F3_ a_)]
   rcases zC hf1 with ⟨c1,hf1⟩ | ⟨c1,hf1⟩
   ·obtain ⟨a__e,h0,hf1⟩:=zb hf1
    obtain ⟨b__e,h1,hf1⟩:=zb hf1
    obtain ⟨r_,h2,hf1⟩:=zb hf1
    let Z2:List HO:=(Z1 ++ [Hq c1,Hi F3_ h0,Hi F3_ h1,Hc h0v (x:=(a__e,b__e)) h2 (loC F3_ a__e <| loC F3_ b__e <| loN)])
    rcases zC hf1 with ⟨c2,hf1⟩ | ⟨c2,hf1⟩
    ·obtain rfl:=z8 hf1
     obtain rfl:=hl1
     obtain rfl:=z8 hf0
     exact yE X0 hC hE (Z2 ++ [Hq c2])
    ·obtain rfl:=z8 hf1
     exact yB X0 hC hJ2 (w64 (i_ + 1)) hl1 (Z2 ++ [Hq c2])
   ·obtain rfl:=z8 hf1
    obtain rfl:=hl1
    exact yB X0 hC hJ1 () hf0 (Z1 ++ [Hq c1])
def z5d:Code:=(Tryz.f11.body).getD .skip
def VJ:zN:=spF (α:=List (List Int) × List (List Int)) (ρ:=Bool) 11 (fun x => [F7_ x.1,w8 x.2]) (fun r => eB r) (fun x => Zf x.1 x.2) [] (VA)
theorem z5u {ctr:Ctr} (hC:zw Tryz.prog ctr) (h09:ctr.Has Zp):VJ.Ok Tryz.prog:=by
 refine zx ?_
 rintro ⟨a_,b_⟩ r0 hf0
 try unfold Zf at hf0
 refine yO true [(4,none)] z5d 15 Tryz.func11 fun E hE => ?_
 obtain ⟨r_,h0,hf0⟩:=zb hf0
 let Z0:List HO:=[Hc h09 (x:=(a_,b_)) h0 (loC F7_ a_ <| loC w8 b_ <| loN)]
 rcases zC hf0 with ⟨c0,hf0⟩ | ⟨c0,hf0⟩
 ·obtain rfl:=z8 hf0
  exact yE X0 hC hE (Z0 ++ [Hq c0,Hq c0,Ha (lnM F2_ a_),Hq c0,Hq c0,Ha (lnM F2_ a_),Hq c0,Hq c0])
 ·obtain rfl:=z8 hf0
  exact yE X0 hC hE (Z0 ++ (rpN 6 (Hq c0) []))
def z5f:Code:=(Tryz.f26.body).getD .skip
def Xh:zN:=spF (α:=List Int × List Int) (ρ:=Bool) 26 (fun x => [F2_ x.1,F3_ x.2]) (fun r => eB r) (fun x => Yp x.1 x.2) [] (VA)
theorem z5w {ctr:Ctr} (hC:zw Tryz.prog ctr) (h09:ctr.Has Zp):Xh.Ok Tryz.prog:=by
 refine zx ?_
 rintro ⟨a_,b_⟩ r0 hf0
 try unfold Yp at hf0
 refine yO true [(4,none)] z5f 17 Tryz.func26 fun E hE => ?_
 obtain ⟨r_,h0,hf0⟩:=zb hf0
 let Z0:List HO:=[Hg (z1T h09),Hm (shM F2_ F2_ ([a_])),Hm (shM F3_ F3_ ([b_])),Hs (z1U h09 (x:=([a_],[b_])) h0 (loC F7_ ([a_]:List (List Int)) <| loC F9_ ([b_]:List (List Int)) <| loN))]
 rcases zC hf0 with ⟨c0,hf0⟩ | ⟨c0,hf0⟩
 ·obtain rfl:=z8 hf0
  exact yE X0 hC hE (Z0 ++ [Hq c0,Hq c0,Ha (lnM (eI .i64) a_),Hq c0,Hq c0,Ha (lnM (eI .i64) a_),Hq c0,Hq c0])
 ·obtain rfl:=z8 hf0
  exact yE X0 hC hE (Z0 ++ (rpN 6 (Hq c0) []))
def Jg:Code:=(Tryz.f16.body).getD .skip
def V2:zN:=spF (α:=Unit) (ρ:=Bool) 16 (fun x => []) (fun r => eB r) (fun x => Yn) [] (fun _ _ _ => rfl)
theorem z4w {ctr:Ctr} (hC:zw Tryz.prog ctr) (h1J:ctr.Has X6) (h03:ctr.Has VK) (h0i:ctr.Has Zv) (h0k:ctr.Has WE) (h0w:ctr.Has kI) (h00:ctr.Has VJ) (h0n:ctr.Has Zu) (h0x:ctr.Has qe) (h0c:ctr.Has jb) (h04:ctr.Has Xh):V2.Ok Tryz.prog:=by
 refine zx ?_
 rintro ⟨⟩ r0 hf0
 try unfold Yn at hf0
 refine yO true [(0,none)] Jg 212 Tryz.func16 fun E hE => ?_
 obtain ⟨r_,h0,hf0⟩:=zb hf0
 obtain ⟨r_1,h1,hf0⟩:=zb hf0
 obtain ⟨r_2,h2,hf0⟩:=zb hf0
 obtain ⟨r_3,h3,hf0⟩:=zb hf0
 obtain ⟨r_4,h4,hf0⟩:=zb hf0
 obtain ⟨r_5,h5,hf0⟩:=zb hf0
 obtain ⟨r_6,h6,hf0⟩:=zb hf0
 let Z0:List HO:=[Hc h1J (x:=()) h0 (loN),Hg (z1T h03),Hm (shM F1_ F2_ ([[0],[1]])),Hs (z1U h03 (x:=[[0],[1]]) h1 (loC F7_ ([[0],[1]]:List (List Int)) <| loN)),Hm (shM F1_ F2_ ([[0],[1]])),Hc h0i (x:=r_) h2 (loC z8P r_ <| loN),Hc h0k (x:=(r_,0)) h3 (loC z8P r_ <| loC (eI .i64) 0 <| loN),Hc h0k (x:=(r_,1)) h4 (loC z8P r_ <| loC (eI .i64) 1 <| loN),Hc h0k (x:=(r_,2)) h5 (loC z8P r_ <| loC (eI .i64) 2 <| loN),Hc h0w (x:=r_) h6 (loC z8P r_ <| loN)]
 rcases zC hf0 with ⟨c0,hf0⟩ | ⟨c0,hf0⟩
 ·obtain rfl:=z8 hf0
  exact yE X0 hC hE (Z0 ++ (Hq c0 :: Hq c0 :: Hq c0 :: (rpN 36 qT [])))
 ·rcases zC hf0 with ⟨c1,hf0⟩ | ⟨c1,hf0⟩
  ·obtain rfl:=z8 hf0
   exact yE X0 hC hE (Z0 ++ (Hq c0 :: Hq c0 :: Hq c0 :: Hq c1 :: Hq c1 :: Hq c1 :: (rpN 33 qT [])))
  ·let Z1:List HO:=(Z0 ++ [Hq c0,Hq c0,Hq c0,Hq c1,Hq c1,Hq c1])
   rcases zC hf0 with ⟨c2,hf0⟩ | ⟨c2,hf0⟩
   ·obtain rfl:=z8 hf0
    exact yE X0 hC hE (Z1 ++ (Hq c2 :: Hq c2 :: Hq c2 :: (rpN 30 qT [])))
   ·rcases zC hf0 with ⟨c3,hf0⟩ | ⟨c3,hf0⟩
    ·obtain rfl:=z8 hf0
     exact yE X0 hC hE (Z1 ++ (Hq c2 :: Hq c2 :: Hq c2 :: Hq c3 :: Hq c3 :: Hq c3 :: (rpN 27 qT [])))
    ·let Z2:List HO:=(Z1 ++ [Hq c2,Hq c2,Hq c2,Hq c3,Hq c3,Hq c3])
     rcases zC hf0 with ⟨c4,hf0⟩ | ⟨c4,hf0⟩
     ·obtain rfl:=z8 hf0
      exact yE X0 hC hE (Z2 ++ (rpN 5 (Hq c4) (rpN 22 qT [])))
     ·obtain ⟨r_7,h7,hf0⟩:=zb hf0
      let Z3:List HO:=(Z2 ++ [Hq c4,Hq c4,Hq c4,Hn (YX (f:=.fn 11 []) (xs:=[F7_ r_2.1,w8 r_1]) (ls:=[]) (r:=B r_7) (ys:=[]) [F7_ r_2.1,w8 r_1] (show z09 [F7_ r_2.1,w8 r_1] [F7_ r_2.1,w8 r_1] from inferInstance)),Hq c4,Hq c4])
      rcases zC hf0 with ⟨c5,hf0⟩ | ⟨c5,hf0⟩
      ·obtain rfl:=z8 hf0
       exact yE ((j8 (P:=Tryz.prog) yN [] (lentCall (yU hC h00 (x:=(r_2.1,r_1)) h7)) 73).or X0) hC hE (Z3 ++ (rpN 5 (Hq c5) (rpN 17 qT [])))
      ·obtain ⟨r_8,h8,hf0⟩:=zb hf0
       let Z4:List HO:=(Z3 ++ [Hq c5,Hq c5,Hq c5,Hn (YX (f:=.fn 11 []) (xs:=[F7_ r_3.1,w8 r_1]) (ls:=[]) (r:=B r_8) (ys:=[]) [F7_ r_3.1,w8 r_1] (show z09 [F7_ r_3.1,w8 r_1] [F7_ r_3.1,w8 r_1] from inferInstance)),Hq c5,Hq c5])
       rcases zC hf0 with ⟨c6,hf0⟩ | ⟨c6,hf0⟩
       ·obtain rfl:=z8 hf0
        exact yE ((j8 (P:=Tryz.prog) yN [] (lentCall (yU hC h00 (x:=(r_3.1,r_1)) h8)) 79).or ((j8 (P:=Tryz.prog) yN [] (lentCall (yU hC h00 (x:=(r_2.1,r_1)) h7)) 73).or X0)) hC hE (Z4 ++ (rpN 5 (Hq c6) (rpN 12 qT [])))
       ·obtain ⟨r_9,h9,hf0⟩:=zb hf0
        let Z5:List HO:=(Z4 ++ [Hq c6,Hq c6,Hq c6,Hn (YX (f:=.fn 11 []) (xs:=[F7_ r_4.1,w8 r_1]) (ls:=[]) (r:=B r_9) (ys:=[]) [F7_ r_4.1,w8 r_1] (show z09 [F7_ r_4.1,w8 r_1] [F7_ r_4.1,w8 r_1] from inferInstance)),Hq c6,Hq c6])
        rcases zC hf0 with ⟨c7,hf0⟩ | ⟨c7,hf0⟩
        ·obtain rfl:=z8 hf0
         exact yE ((j8 (P:=Tryz.prog) yN [] (lentCall (yU hC h00 (x:=(r_4.1,r_1)) h9)) 85).or ((j8 (P:=Tryz.prog) yN [] (lentCall (yU hC h00 (x:=(r_3.1,r_1)) h8)) 79).or ((j8 (P:=Tryz.prog) yN [] (lentCall (yU hC h00 (x:=(r_2.1,r_1)) h7)) 73).or X0))) hC hE (Z5 ++ (rpN 6 (Hq c7) (rpN 6 qT [])))
        ·obtain ⟨g0,hf0⟩:=gdE hf0
         obtain ⟨r_10,h10,hf0⟩:=zb hf0
         let Z6:List HO:=(Z5 ++ [Hq c7,Hq c7,Hq c7,Hn (slB g0),Hn (z9l F3_ g0),Ha (slM 1 false F3_ r_1 0 (1:Int).toNat),Hq c7,Hn (YX (f:=.fn 11 []) (xs:=[F7_ r_5.1,w8 ((r_1.drop 0).take ((1:Int).toNat - 0))]) (ls:=[]) (r:=B r_10) (ys:=[]) [F7_ r_5.1,w8 ((r_1.drop 0).take ((1:Int).toNat - 0))] (show z09 [F7_ r_5.1,w8 ((r_1.drop 0).take ((1:Int).toNat - 0))] [F7_ r_5.1,w8 ((r_1.drop 0).take ((1:Int).toNat - 0))] from inferInstance)),Hq c7,Hq c7])
         rcases zC hf0 with ⟨c8,hf0⟩ | ⟨c8,hf0⟩
         ·obtain rfl:=z8 hf0
          exact yE ((j8 (P:=Tryz.prog) yN [] (lentCall (yU hC h00 (x:=(r_5.1,((r_1.drop 0).take ((1:Int).toNat - 0)))) h10)) 92).or ((j8 (P:=Tryz.prog) yN [] (lentCall (yU hC h00 (x:=(r_4.1,r_1)) h9)) 85).or ((j8 (P:=Tryz.prog) yN [] (lentCall (yU hC h00 (x:=(r_3.1,r_1)) h8)) 79).or ((j8 (P:=Tryz.prog) yN [] (lentCall (yU hC h00 (x:=(r_2.1,r_1)) h7)) 73).or X0)))) hC hE (Z6 ++ (rpN 5 (Hq c8) [qT]))
         ·obtain ⟨r_11,h11,hf0⟩:=zb hf0
          let Z7:List HO:=(Z6 ++ [Hq c8,Hq c8,Hq c8,Hn (YX (f:=.fn 11 []) (xs:=[F7_ r_6.1,w8 r_1]) (ls:=[]) (r:=B r_11) (ys:=[]) [F7_ r_6.1,w8 r_1] (show z09 [F7_ r_6.1,w8 r_1] [F7_ r_6.1,w8 r_1] from inferInstance)),Hq c8,Hq c8])
          rcases zC hf0 with ⟨c9,hf0⟩ | ⟨c9,hf0⟩
          ·obtain rfl:=z8 hf0
           exact yE ((j8 (P:=Tryz.prog) yN [] (lentCall (yU hC h00 (x:=(r_6.1,r_1)) h11)) 98).or ((j8 (P:=Tryz.prog) yN [] (lentCall (yU hC h00 (x:=(r_5.1,((r_1.drop 0).take ((1:Int).toNat - 0)))) h10)) 92).or ((j8 (P:=Tryz.prog) yN [] (lentCall (yU hC h00 (x:=(r_4.1,r_1)) h9)) 85).or ((j8 (P:=Tryz.prog) yN [] (lentCall (yU hC h00 (x:=(r_3.1,r_1)) h8)) 79).or ((j8 (P:=Tryz.prog) yN [] (lentCall (yU hC h00 (x:=(r_2.1,r_1)) h7)) 73).or X0))))) hC hE (Z7 ++ [Hq c9])
          ·obtain ⟨g1,hf0⟩:=gdE hf0
           obtain ⟨r_12,h12,hf0⟩:=zb hf0
           obtain ⟨r_13,h13,hf0⟩:=zb hf0
           obtain ⟨r_14,h14,hf0⟩:=zb hf0
           obtain ⟨r_15,h15,hf0⟩:=zb hf0
           obtain ⟨r_16,h16,hf0⟩:=zb hf0
           obtain ⟨r_17,h17,hf0⟩:=zb hf0
           obtain ⟨g2,hf0⟩:=gdE hf0
           obtain ⟨r_18,h18,hf0⟩:=zb hf0
           obtain ⟨r_19,h19,hf0⟩:=zb hf0
           obtain ⟨g3,hf0⟩:=gdE hf0
           obtain ⟨r_20,h20,hf0⟩:=zb hf0
           obtain ⟨r_21,h21,hf0⟩:=zb hf0
           obtain ⟨g4,hf0⟩:=gdE hf0
           obtain ⟨r_22,h22,hf0⟩:=zb hf0
           refine yA ((j8 (P:=Tryz.prog) yN [] (lentCall (yU hC h00 (x:=(r_6.1,r_1)) h11)) 98).or ((j8 (P:=Tryz.prog) yN [] (lentCall (yU hC h00 (x:=(r_5.1,((r_1.drop 0).take ((1:Int).toNat - 0)))) h10)) 92).or ((j8 (P:=Tryz.prog) yN [] (lentCall (yU hC h00 (x:=(r_4.1,r_1)) h9)) 85).or ((j8 (P:=Tryz.prog) yN [] (lentCall (yU hC h00 (x:=(r_3.1,r_1)) h8)) 79).or ((j8 (P:=Tryz.prog) yN [] (lentCall (yU hC h00 (x:=(r_2.1,r_1)) h7)) 73).or X0))))) hC Jg [1,1,1,1,1,1,1,1,1,1,1,1,1,1,1,1] [] [(2,.d (eSl 1 false F3_ r_1)),(4,.d (I r_12.2)),(6,.d (I r_14.2)),(8,.d (I r_15.2)),(10,.d (I r_17.2)),(12,.d (I r_19.2)),(13,.d (B r_12.1)),(14,.d (B r_14.1)),(15,.d (eSl 1 true F2_ r_15.1)),(16,.d (eSl 1 true (eI .i64) r_17.1)),(17,.d (eSl 1 true (eI .i64) r_19.1)),(18,.d (eSl 1 true (eI .i64) r_21.1)),(19,.d (I r_21.2)),(21,.d (I r_22.2))] (Z7 ++ [Hq c9,Hn (slB g1),Hn (z9l F3_ g1),Ha (slM 1 false F3_ r_1 0 (1:Int).toNat),Hc h0n (x:=(r_,((r_1.drop 0).take ((1:Int).toNat - 0)))) h12 (loC z8P r_ <| loC w8 ((r_1.drop 0).take ((1:Int).toNat - 0)) <| loN),Hg (z1T h03),Hm (shM F1_ F2_ ([[0,0]])),Hs (z1U h03 (x:=[[0,0]]) h13 (loC F7_ ([[0,0]]:List (List Int)) <| loN)),Hm (shM F1_ F2_ ([[0,0]])),Hc h0n (x:=(r_,r_13)) h14 (loC z8P r_ <| loC w8 r_13 <| loN),Hc h0x (x:=(r_,r_1,1)) h15 (loC z8P r_ <| loC w8 r_1 <| loC (eI .i64) 1 <| loN),Hg (z1T h03),Hm (shM F1_ F2_ ([[0],[0]])),Hs (z1U h03 (x:=[[0],[0]]) h16 (loC F7_ ([[0],[0]]:List (List Int)) <| loN)),Hm (shM F1_ F2_ ([[0],[0]])),Hc h0c (x:=(r_,r_1,r_16)) h17 (loC z8P r_ <| loC w8 r_1 <| loC w8 r_16 <| loN),Hn (slB g2),Hn (z9l F3_ g2),Ha (slM 1 false F3_ r_1 0 (1:Int).toNat),Hg (z1T h03),Hm (shM F1_ F2_ ([[0]])),Hs (z1U h03 (x:=[[0]]) h18 (loC F7_ ([[0]]:List (List Int)) <| loN)),Hm (shM F1_ F2_ ([[0]])),Hc h0c (x:=(r_,((r_1.drop 0).take ((1:Int).toNat - 0)),r_18)) h19 (loC z8P r_ <| loC w8 ((r_1.drop 0).take ((1:Int).toNat - 0)) <| loC w8 r_18 <| loN),Hn (slB g3),Hn (z9l F3_ g3),Ha (slM 1 false F3_ r_1 0 (1:Int).toNat),Hg (z1T h03),Hm (shM F1_ F2_ ([[7]])),Hs (z1U h03 (x:=[[7]]) h20 (loC F7_ ([[7]]:List (List Int)) <| loN)),Hm (shM F1_ F2_ ([[7]])),Hc h0c (x:=(r_,((r_1.drop 0).take ((1:Int).toNat - 0)),r_20)) h21 (loC z8P r_ <| loC w8 ((r_1.drop 0).take ((1:Int).toNat - 0)) <| loC w8 r_20 <| loN),Hn (slB g4),Hn (z9l F3_ g4),Ha (slM 1 false F3_ r_1 0 (1:Int).toNat),Hc h0c (x:=(r_,((r_1.drop 0).take ((1:Int).toNat - 0)),[])) h22 (loC z8P r_ <| loC w8 ((r_1.drop 0).take ((1:Int).toNat - 0)) <| loC F9_ ([]:List (List Int)) <| loN),Hh (.cut 0)]) ?_
           rcases zC hf0 with ⟨c10,hf0⟩ | ⟨c10,hf0⟩
           ·rcases zC hf0 with ⟨c11,hf0⟩ | ⟨c11,hf0⟩
            ·let Z8:List HO:=[Hq c10,Hq c10,Hq c10,Hq c11,Hq c11,Hq c11]
             rcases zC hf0 with ⟨c12,hf0⟩ | ⟨c12,hf0⟩
             ·rcases zC hf0 with ⟨c13,hf0⟩ | ⟨c13,hf0⟩
              ·let Z9:List HO:=(Z8 ++ [Hq c12,Hq c12,Hq c12,Hq c13,Hq c13,Hq c13])
               rcases zC hf0 with ⟨c14,hf0⟩ | ⟨c14,hf0⟩
               ·rcases zC hf0 with ⟨c15,hf0⟩ | ⟨c15,hf0⟩
                ·let Z10:List HO:=(Z9 ++ [Hq c14,Hq c14,Hq c14,Hq c15,Hq c15,Hq c15])
                 rcases zC hf0 with ⟨c16,hf0⟩ | ⟨c16,hf0⟩
                 ·rcases zC hf0 with ⟨c17,hf0⟩ | ⟨c17,hf0⟩
                  ·obtain ⟨r_23,h23,hf0⟩:=zb hf0
                   let Z11:List HO:=(Z10 ++ [Hq c16,Hq c16,Hq c17,Hq c17,Hq c17,Hn (YX (f:=.fn 11 []) (xs:=[F7_ r_15.1,w8 r_1]) (ls:=[]) (r:=B r_23) (ys:=[]) [F7_ r_15.1,w8 r_1] (show z09 [F7_ r_15.1,w8 r_1] [F7_ r_15.1,w8 r_1] from inferInstance)),Hq c17])
                   rcases zC hf0 with ⟨c18,hf0⟩ | ⟨c18,hf0⟩
                   ·obtain ⟨r_24,h24,hf0⟩:=zb hf0
                    let Z12:List HO:=(Z11 ++ [Hq c18,Hq c18,Hq c18,Hm (shM (eI .i64) (eI .i64) ([0])),Hn (YX (f:=.fn 26 []) (xs:=[F2_ r_17.1,F3_ ([0]:List Int)]) (ls:=[]) (r:=B r_24) (ys:=[]) [F2_ r_17.1,F2_ ([0]:List Int)] (show z09 [F2_ r_17.1,F2_ ([0]:List Int)] [F2_ r_17.1,F3_ ([0]:List Int)] from inferInstance)),Hq c18])
                    rcases zC hf0 with ⟨c19,hf0⟩ | ⟨c19,hf0⟩
                    ·obtain ⟨r_25,h25,hf0⟩:=zb hf0
                     let Z13:List HO:=(Z12 ++ [Hq c19,Hq c19,Hq c19,Hm (shM (eI .i64) (eI .i64) ([0,1])),Hn (YX (f:=.fn 26 []) (xs:=[F2_ r_19.1,F3_ ([0,1]:List Int)]) (ls:=[]) (r:=B r_25) (ys:=[]) [F2_ r_19.1,F2_ ([0,1]:List Int)] (show z09 [F2_ r_19.1,F2_ ([0,1]:List Int)] [F2_ r_19.1,F3_ ([0,1]:List Int)] from inferInstance)),Hq c19])
                     rcases zC hf0 with ⟨c20,hf0⟩ | ⟨c20,hf0⟩
                     ·let Z14:List HO:=(Z13 ++ [Hq c20,Hq c20,Ha (lnM (eI .i64) r_21.1),Hq c20,Hq c20])
                      rcases zC hf0 with ⟨c21,hf0⟩ | ⟨c21,hf0⟩
                      ·obtain rfl:=z8 hf0
                       exact yE ((j8 (P:=Tryz.prog) yN [] (lentCall (yU hC h04 (x:=(r_19.1,([0,1]:List Int))) h25)) 201).or ((j8 (P:=Tryz.prog) yN [] (lentCall (yU hC h04 (x:=(r_17.1,([0]:List Int))) h24)) 196).or ((j8 (P:=Tryz.prog) yN [] (lentCall (yU hC h00 (x:=(r_15.1,r_1)) h23)) 191).or X0))) hC hE (Z14 ++ [Hq c21,Hq c21,Hq c21])
                      ·obtain rfl:=z8 hf0
                       exact yE ((j8 (P:=Tryz.prog) yN [] (lentCall (yU hC h04 (x:=(r_19.1,([0,1]:List Int))) h25)) 201).or ((j8 (P:=Tryz.prog) yN [] (lentCall (yU hC h04 (x:=(r_17.1,([0]:List Int))) h24)) 196).or ((j8 (P:=Tryz.prog) yN [] (lentCall (yU hC h00 (x:=(r_15.1,r_1)) h23)) 191).or X0))) hC hE (Z14 ++ [Hq c21,Hq c21,Hq c21])
                     ·obtain rfl:=z8 hf0
                      exact yE ((j8 (P:=Tryz.prog) yN [] (lentCall (yU hC h04 (x:=(r_19.1,([0,1]:List Int))) h25)) 201).or ((j8 (P:=Tryz.prog) yN [] (lentCall (yU hC h04 (x:=(r_17.1,([0]:List Int))) h24)) 196).or ((j8 (P:=Tryz.prog) yN [] (lentCall (yU hC h00 (x:=(r_15.1,r_1)) h23)) 191).or X0))) hC hE (Z13 ++ (rpN 4 (Hq c20) [qF,qF,qF]))
                    ·obtain rfl:=z8 hf0
                     exact yE ((j8 (P:=Tryz.prog) yN [] (lentCall (yU hC h04 (x:=(r_17.1,([0]:List Int))) h24)) 196).or ((j8 (P:=Tryz.prog) yN [] (lentCall (yU hC h00 (x:=(r_15.1,r_1)) h23)) 191).or X0)) hC hE (Z12 ++ (rpN 4 (Hq c19) (rpN 7 qF [])))
                   ·obtain rfl:=z8 hf0
                    exact yE ((j8 (P:=Tryz.prog) yN [] (lentCall (yU hC h00 (x:=(r_15.1,r_1)) h23)) 191).or X0) hC hE (Z11 ++ (rpN 4 (Hq c18) (rpN 11 qF [])))
                  ·obtain rfl:=z8 hf0
                   exact yE X0 hC hE (Z10 ++ (Hq c16 :: Hq c16 :: (rpN 4 (Hq c17) (rpN 15 qF []))))
                 ·obtain rfl:=z8 hf0
                  exact yE X0 hC hE (Z10 ++ (Hq c16 :: Hq c16 :: (rpN 19 qF [])))
                ·obtain rfl:=z8 hf0
                 exact yE X0 hC hE (Z9 ++ (Hq c14 :: Hq c14 :: Hq c14 :: Hq c15 :: Hq c15 :: Hq c15 :: (rpN 21 qF [])))
               ·obtain rfl:=z8 hf0
                exact yE X0 hC hE (Z9 ++ (Hq c14 :: Hq c14 :: Hq c14 :: (rpN 24 qF [])))
              ·obtain rfl:=z8 hf0
               exact yE X0 hC hE (Z8 ++ (Hq c12 :: Hq c12 :: Hq c12 :: Hq c13 :: Hq c13 :: Hq c13 :: (rpN 27 qF [])))
             ·obtain rfl:=z8 hf0
              exact yE X0 hC hE (Z8 ++ (Hq c12 :: Hq c12 :: Hq c12 :: (rpN 30 qF [])))
            ·obtain rfl:=z8 hf0
             exact yE X0 hC hE (Hq c10 :: Hq c10 :: Hq c10 :: Hq c11 :: Hq c11 :: Hq c11 :: (rpN 33 qF []))
           ·obtain rfl:=z8 hf0
            exact yE X0 hC hE (Hq c10 :: Hq c10 :: Hq c10 :: (rpN 36 qF []))
def U0:Code:=(Tryz.f32.body).getD .skip
def VG:zN:=spF (α:=List (List Int) × List (List Int)) (ρ:=Bool) 32 (fun x => [w8 x.1,w8 x.2]) (fun r => eB r) (fun x => Vk x.1 x.2) [] (VA)
abbrev z1H:List (Nat × T):=[]
abbrev z1G (l_:List (List Int)) (responses:List (List Int)) (i_:Int):List (Nat × T):=[(0,.d (eSl 1 false F3_ l_)),(1,.d (eSl 1 false F3_ responses)),(5,.d (I i_))]
theorem z5q {ctr:Ctr} (hC:zw Tryz.prog ctr):VG.Ok Tryz.prog:=by
 refine zx ?_
 rintro ⟨l_,responses⟩ r0 hf0
 try unfold Vk at hf0
 refine yO true [(4,none)] U0 28 Tryz.func32 fun E hE => ?_
 let Z0:List HO:=[Ha (lnM F3_ l_),Ha (lnM F3_ responses)]
 rcases zC hf0 with ⟨c0,hf0⟩ | ⟨c0,hf0⟩
 ·obtain rfl:=z8 hf0
  exact yE X0 hC hE (Z0 ++ [Hq c0])
 ·refine yJ X0 hC U0 [1,1] [] [] (fun z:Unit => VO = some r0) (fun z => z1H) [(0,.d (eSl 1 false F3_ l_)),(1,.d (eSl 1 false F3_ responses))] (Z0 ++ [Hq c0,Hh (.cut 0)]) ?_ fun J1 hJ1 => ?_
  ·rintro ⟨⟩ hf0
   unfold VO at hf0
   obtain rfl:=z8 hf0
   exact yE X0 hC hE []
  ·obtain ⟨t2,ht2,hf0⟩:=zb hf0
   refine yL X0 hC U0 [1,1,2,1,0] [J1] (fun s => k8 l_ responses s) (fun x => z1G l_ responses x) 0 ht2  [] ?_
   rintro i_ m2 lr1 hf1 hl1 J2 hJ2
   try unfold k8 at hf1
   let Z1:List HO:=[Ha (lnM F3_ l_)]
   rcases zC hf1 with ⟨c1,hf1⟩ | ⟨c1,hf1⟩
   ·obtain ⟨l__e,h0,hf1⟩:=zb hf1
    obtain ⟨response_e,h1,hf1⟩:=zb hf1
    let Z2:List HO:=(Z1 ++ [Hq c1,Hi F3_ h0,Ha (lnM (eI .i64) l__e),Hi F3_ h1,Ha (lnM (eI .i64) response_e)])
    rcases zC hf1 with ⟨c2,hf1⟩ | ⟨c2,hf1⟩
    ·obtain rfl:=z8 hf1
     obtain rfl:=hl1
     obtain rfl:=z8 hf0
     exact yE X0 hC hE (Z2 ++ [Hq c2])
    ·obtain rfl:=z8 hf1
     exact yB X0 hC hJ2 (w64 (i_ + 1)) hl1 (Z2 ++ [Hq c2])
   ·obtain rfl:=z8 hf1
    obtain rfl:=hl1
    exact yB X0 hC hJ1 () hf0 (Z1 ++ [Hq c1])
def z5c:Code:=(Tryz.f84.body).getD .skip
def VI:zN:=spF (α:=z6 × Int × Int) (ρ:=zh) 84 (fun x => [zI x.1,(eI .i64) x.2.1,(eI .i64) x.2.2]) (fun r => F6_ r) (fun x => Vl x.1 x.2.1 x.2.2) [] (z8V)
theorem z5t {ctr:Ctr} (hC:zw Tryz.prog ctr):VI.Ok Tryz.prog:=by
 refine zx ?_
 rintro ⟨m_,s_,i_⟩ r0 hf0
 try unfold Vl at hf0
 refine yO false [(6,some 67)] z5c 18 Tryz.func84 fun E hE => ?_
 rcases zC hf0 with ⟨c0,hf0⟩ | ⟨c0,hf0⟩
 ·obtain rfl:=z8 hf0
  exact yE X0 hC hE [Hq c0]
 ·obtain ⟨Row_e,h0,hf0⟩:=zb hf0
  obtain ⟨Row_e_e,h1,hf0⟩:=zb hf0
  obtain rfl:=z8 hf0
  exact yE X0 hC hE [Hq c0,Hi wS h0,Hi F6_ h1]
def Q2:Code:=(Tryz.f55.body).getD .skip
def UI:zN:=spF (α:=z6 × Int × List Int) (ρ:=List Int) 55 (fun x => [zI x.1,(eI .i64) x.2.1,F3_ x.2.2]) (fun r => F4_ r) (fun x => UO x.1 x.2.1 x.2.2) [] (z8V)
abbrev z3f (out:List Int):List (Nat × T):=[(7,.own (eOs 1 false (eI .i64) out))]
abbrev z3e (m_:z6) (w_:List Int) (s_1:Int) (out1:List Int) (k_:Int):List (Nat × T):=[(1,.d (I s_1)),(2,.d (eSl 1 false (eI .i64) w_)),(3,.own (.box (zI m_))),(7,.own (eOs 1 false (eI .i64) out1)),(8,.d (I k_))]
theorem z6F {ctr:Ctr} (hC:zw Tryz.prog ctr) (h1K:ctr.Has VI):UI.Ok Tryz.prog:=by
 refine zx ?_
 rintro ⟨m_,s_,w_⟩ r0 hf0
 try unfold UO at hf0
 refine yO true [(6,none)] Q2 31 Tryz.func55 fun E hE => ?_
 refine yJ X0 hC Q2 [1,1] [] [7] (fun z:List Int => WI z = some r0) (fun z => z3f z) [(1,.d (I s_)),(2,.d (eSl 1 false (eI .i64) w_)),(3,.own (.box (zI m_))),(7,.own (eOs 1 true (eI .i64) []))] [Hh (.cut 2)] ?_ fun J1 hJ1 => ?_
 ·rintro out hf0
  unfold WI at hf0
  obtain rfl:=z8 hf0
  exact yE X0 hC hE []
 ·obtain ⟨t2,ht2,hf0⟩:=zb hf0
  refine yLx X0 hC Q2 [1,1,2,1,0] [J1] (fun s => YJ m_ w_ s.1 s.2.1 s.2.2) (fun x => z3e m_ w_ x.1 x.2.1 x.2.2) (s_,([]:List Int),0) ht2 [(1,.d (I s_)),(2,.d (eSl 1 false (eI .i64) w_)),(3,.own (.box (zI m_))),(7,.own (eOs 1 true (eI .i64) [])),(8,.d (I 0))] inferInstance [] ?_
  rintro ⟨s_1,out1,k_⟩ m2 lr1 hf1 hl1 J2 hJ2
  try unfold YJ at hf1
  rcases zC hf1 with ⟨c0,hf1⟩ | ⟨c0,hf1⟩
  ·obtain ⟨w__e,h0,hf1⟩:=zb hf1
   obtain ⟨r_,h1,hf1⟩:=zb hf1
   obtain ⟨g0,hf1⟩:=gdE hf1
   obtain rfl:=z8 hf1
   exact yB X0 hC hJ2 (r_.To,(out1 ++ ([r_.Out]:List Int)),w64 (k_ + 1)) hl1 [Ha (lnM (eI .i64) w_),Hq c0,Hi (eI .i64) h0,Hc h1K (x:=(m_,s_1,w__e)) h1 (loC zI m_ <| loC (eI .i64) s_1 <| loC (eI .i64) w__e <| loN),Hq (dM (eI .i64) ([r_.Out]:List Int)),Hn (dM (eI .i64) ([r_.Out]:List Int)),Hn (aL (eI .i64) (eI .i64) g0),Hl (aM (eI .i64) out1 ([r_.Out]:List Int))]
  ·obtain rfl:=z8 hf1
   obtain rfl:=hl1
   exact yB X0 hC hJ1 out1 hf0 [Ha (lnM (eI .i64) w_),Hq c0]
def ZW:Code:=(Tryz.f23.body).getD .skip
def Zo:zN:=spF (α:=z6 × List (List Int) × Int) (ρ:=List (List Int)) 23 (fun x => [zI x.1,w8 x.2.1,(eI .i64) x.2.2]) (fun r => (eOs 1 false F4_) r) (fun x => jL x.1 x.2.1 x.2.2) [] (z8V)
abbrev Q9 (out:List (List Int)):List (Nat × T):=[(7,.own (eOs 1 false F4_ out))]
abbrev Q8 (m_:z6) (l_:List (List Int)) (s_:Int) (out1:List (List Int)) (i_:Int):List (Nat × T):=[(1,.d (eSl 1 false F3_ l_)),(2,.d (I s_)),(3,.own (.box (zI m_))),(7,.own (eOs 1 false F4_ out1)),(8,.d (I i_))]
theorem z0g {ctr:Ctr} (hC:zw Tryz.prog ctr) (h1L:ctr.Has UI):Zo.Ok Tryz.prog:=by
 refine zx ?_
 rintro ⟨m_,l_,s_⟩ r0 hf0
 try unfold jL at hf0
 refine yO true [(6,none)] ZW 26 Tryz.func23 fun E hE => ?_
 refine yJ X0 hC ZW [1,1] [] [7] (fun z:List (List Int) => jg z = some r0) (fun z => Q9 z) [(1,.d (eSl 1 false F3_ l_)),(2,.d (I s_)),(3,.own (.box (zI m_))),(7,.own (eOs 1 true F3_ []))] [Hh (.cut 2)] ?_ fun J1 hJ1 => ?_
 ·rintro out hf0
  unfold jg at hf0
  obtain rfl:=z8 hf0
  exact yE X0 hC hE []
 ·obtain ⟨t2,ht2,hf0⟩:=zb hf0
  refine yLx X0 hC ZW [1,1,2,1,0] [J1] (fun s => xv m_ l_ s_ s.1 s.2) (fun x => Q8 m_ l_ s_ x.1 x.2) (([]:List (List Int)),0) ht2 [(1,.d (eSl 1 false F3_ l_)),(2,.d (I s_)),(3,.own (.box (zI m_))),(7,.own (eOs 1 true F4_ [])),(8,.d (I 0))] inferInstance [] ?_
  rintro ⟨out1,i_⟩ m2 lr1 hf1 hl1 J2 hJ2
  try unfold xv at hf1
  let Z0:List HO:=[Ha (lnM F3_ l_)]
  rcases zC hf1 with ⟨c0,hf1⟩ | ⟨c0,hf1⟩
  ·obtain ⟨l__e,h0,hf1⟩:=zb hf1
   obtain ⟨r_,h1,hf1⟩:=zb hf1
   obtain ⟨g0,hf1⟩:=gdE hf1
   obtain rfl:=z8 hf1
   exact yB X0 hC hJ2 ((out1 ++ ([r_]:List (List Int))),w64 (i_ + 1)) hl1 (Z0 ++ [Hq c0,Hi F3_ h0,Hc h1L (x:=(m_,s_,l__e)) h1 (loC zI m_ <| loC (eI .i64) s_ <| loC F3_ l__e <| loN),Hq (oC F4_ r_ []),Hn (aL F4_ F4_ g0),Hl (aM F4_ out1 ([r_]:List (List Int)))])
  ·obtain rfl:=z8 hf1
   obtain rfl:=hl1
   exact yB X0 hC hJ1 out1 hf0 (Z0 ++ [Hq c0])
def km:Code:=(Tryz.f27.body).getD .skip
def Ye:zN:=spF (α:=z6 × List (List Int) × List (List Int)) (ρ:=List Int) 27 (fun x => [zI x.1,w8 x.2.1,w8 x.2.2]) (fun r => F4_ r) (fun x => kz x.1 x.2.1 x.2.2) [] (z8V)
abbrev QX (out:List Int):List (Nat × T):=[(7,.own (eOs 1 false (eI .i64) out))]
abbrev QV (m_:z6) (l_:List (List Int)) (responses:List (List Int)) (s_:Int) (out2:List Int):List (Nat × T):=[(1,.d (eSl 1 false F3_ l_)),(2,.d (eSl 1 false F3_ responses)),(3,.own (.box (zI m_))),(7,.own (eOs 1 false (eI .i64) out2)),(8,.d (I s_))]
abbrev QU (m_:z6) (l_:List (List Int)) (responses:List (List Int)) (out1:List Int) (s_:Int):List (Nat × T):=[(1,.d (eSl 1 false F3_ l_)),(2,.d (eSl 1 false F3_ responses)),(3,.own (.box (zI m_))),(7,.own (eOs 1 false (eI .i64) out1)),(8,.d (I s_))]
theorem z1s {ctr:Ctr} (hC:zw Tryz.prog ctr) (h1M:ctr.Has Zo) (h09:ctr.Has Zp):Ye.Ok Tryz.prog:=by
 refine zx ?_
 rintro ⟨m_,l_,responses⟩ r0 hf0
 try unfold kz at hf0
 refine yO true [(6,none)] km 27 Tryz.func27 fun E hE => ?_
 refine yJ X0 hC km [1,1] [] [7] (fun z:List Int => Yj z = some r0) (fun z => QX z) [(1,.d (eSl 1 false F3_ l_)),(2,.d (eSl 1 false F3_ responses)),(3,.own (.box (zI m_))),(7,.own (eOs 1 true (eI .i64) []))] [Hh (.cut 2)] ?_ fun J1 hJ1 => ?_
 ·rintro out hf0
  unfold Yj at hf0
  obtain rfl:=z8 hf0
  exact yE X0 hC hE []
 ·obtain ⟨t2,ht2,hf0⟩:=zb hf0
  refine yLx X0 hC km [1,1,2,1,0] [J1] (fun s => xN m_ l_ responses s.1 s.2) (fun x => QU m_ l_ responses x.1 x.2) (([]:List Int),0) ht2 [(1,.d (eSl 1 false F3_ l_)),(2,.d (eSl 1 false F3_ responses)),(3,.own (.box (zI m_))),(7,.own (eOs 1 true (eI .i64) [])),(8,.d (I 0))] inferInstance [] ?_
  rintro ⟨out1,s_⟩ m2 lr1 hf1 hl1 J2 hJ2
  try unfold xN at hf1
  let Z0:List HO:=[Ha (lnM wS m_.Rows)]
  rcases zC hf1 with ⟨c0,hf1⟩ | ⟨c0,hf1⟩
  ·refine yJ X0 hC km [1,1,2,1,0,0,1] [J1,J2] [1,2,3,7,8] (fun z:List Int => uE s_ z = some lr1) (fun z => QV m_ l_ responses s_ z) [(1,.d (eSl 1 false F3_ l_)),(2,.d (eSl 1 false F3_ responses)),(3,.own (.box (zI m_))),(7,.own (eOs 1 false (eI .i64) out1)),(8,.d (I s_))] (Z0 ++ [Hq c0,Hh (.cut 0)]) ?_ fun J3 hJ3 => ?_
   ·rintro out2 hf1
    unfold uE at hf1
    obtain rfl:=z8 hf1
    exact yB X0 hC hJ2 (out2,w64 (s_ + 1)) hl1 []
   ·obtain ⟨r_,h0,hf1⟩:=zb hf1
    obtain ⟨r_1,h1,hf1⟩:=zb hf1
    let Z1:List HO:=[Hc h1M (x:=(m_,l_,s_)) h0 (loC zI m_ <| loC w8 l_ <| loC (eI .i64) s_ <| loN),Hg (z1T h09),Hm (shM F4_ F3_ r_),Hs (z1U h09 (x:=(r_,responses)) h1 (loC w8 r_ <| loC w8 responses <| loN))]
    rcases zC hf1 with ⟨c1,hf1⟩ | ⟨c1,hf1⟩
    ·obtain ⟨g0,hf1⟩:=gdE hf1
     exact yB X0 hC hJ3 (out1 ++ ([s_]:List Int)) hf1 (Z1 ++ [Hq c1,Hq (dM (eI .i64) ([s_]:List Int)),Hn (dM (eI .i64) ([s_]:List Int)),Hn (aL (eI .i64) (eI .i64) g0),Hl (aM (eI .i64) out1 ([s_]:List Int))])
    ·exact yB X0 hC hJ3 out1 hf1 (Z1 ++ [Hq c1])
  ·obtain rfl:=z8 hf1
   obtain rfl:=hl1
   exact yB X0 hC hJ1 out1 hf0 (Z0 ++ [Hq c0])
def ud:Code:=(Tryz.f6.body).getD .skip
def Zt:zN:=spF (α:=z6 × wy) (ρ:=Bool) 6 (fun x => [zI x.1,zd6 x.2]) (fun r => eB r) (fun x => ZP x.1 x.2) [] (VA)
abbrev Qk (m_:z6) (y_:wy) (state:Int) (f_:Int):List (Nat × T):=[(2,.own (.box (zI m_))),(3,.own (.box (zd6 y_))),(5,.d (I f_)),(10,.d (I state))]
abbrev Ql (m_:z6) (y_:wy) (r_3:Int) (state:Int):List (Nat × T):=[(2,.own (.box (zI m_))),(3,.own (.box (zd6 y_))),(5,.d (I r_3)),(10,.d (I state))]
abbrev Qm (m_:z6) (y_:wy) (r_3:Int) (state:Int):List (Nat × T):=[(2,.own (.box (zI m_))),(3,.own (.box (zd6 y_))),(5,.d (I r_3)),(10,.d (I state))]
abbrev Qn (m_:z6) (y_:wy) (r_3:Int):List (Nat × T):=[(2,.own (.box (zI m_))),(3,.own (.box (zd6 y_))),(5,.d (I r_3))]
theorem z0k {ctr:Ctr} (hC:zw Tryz.prog ctr) (h1N:ctr.Has V1) (h0H:ctr.Has UJ) (h1O:ctr.Has XI) (h0i:ctr.Has Zv) (h0w:ctr.Has kI) (h0k:ctr.Has WE) (h1P:ctr.Has WY) (h0n:ctr.Has Zu) (h0x:ctr.Has qe) (h0c:ctr.Has jb) (h0y:ctr.Has V2) (h1Q:ctr.Has VG) (h1R:ctr.Has Ye) (h04:ctr.Has Xh):Zt.Ok Tryz.prog:=by
 refine zx ?_
 rintro ⟨m_,y_⟩ r0 hf0
 try unfold ZP at hf0
 refine yO true [(4,none)] ud 200 Tryz.func6 fun E hE => ?_
 obtain ⟨r_,h0,hf0⟩:=zb hf0
 let Z0:List HO:=[Hc h1N (x:=m_) h0 (loC zI m_ <| loN)]
 rcases zC hf0 with ⟨c0,hf0⟩ | ⟨c0,hf0⟩
 ·obtain rfl:=z8 hf0
  exact yE X0 hC hE (Z0 ++ (rpN 5 (Hq c0) (rpN 6 qT [])))
 ·obtain ⟨r_1,h1,hf0⟩:=zb hf0
  let Z1:List HO:=(Z0 ++ [Hq c0,Hq c0,Hq c0,Hc h0H (x:=y_.L) h1 (loC w8 y_.L <| loN),Hq c0,Hq c0])
  rcases zC hf0 with ⟨c1,hf0⟩ | ⟨c1,hf0⟩
  ·obtain rfl:=z8 hf0
   exact yE X0 hC hE (Z1 ++ (rpN 5 (Hq c1) [qT]))
  ·obtain ⟨r_2,h2,hf0⟩:=zb hf0
   let Z2:List HO:=(Z1 ++ [Hq c1,Hq c1,Hq c1,Hc h0H (x:=y_.Responses) h2 (loC w8 y_.Responses <| loN),Hq c1,Hq c1])
   rcases zC hf0 with ⟨c2,hf0⟩ | ⟨c2,hf0⟩
   ·obtain rfl:=z8 hf0
    exact yE X0 hC hE (Z2 ++ [Hq c2])
   ·obtain ⟨r_3,h3,hf0⟩:=zb hf0
    obtain ⟨r_4,h4,hf0⟩:=zb hf0
    obtain ⟨r_5,h5,hf0⟩:=zb hf0
    refine yJ X0 hC ud [1,1,1,1,1] [] [2,3,5] (fun z:Unit => wM m_ y_ r_3 = some r0) (fun z => Qn m_ y_ r_3) [(2,.own (.box (zI m_))),(3,.own (.box (zd6 y_))),(5,.d (I r_3)),(6,.d (eSl 1 true F2_ r_4.1)),(7,.d (I r_4.2)),(8,.d (eSl 1 true F2_ r_5.1)),(9,.d (I r_5.2))] (Z2 ++ [Hq c2,Hc h1O (x:=m_) h3 (loC zI m_ <| loN),Hc h0i (x:=m_) h4 (loC zI m_ <| loN),Hc h0w (x:=m_) h5 (loC zI m_ <| loN),Hh (.cut 0)]) ?_ fun J1 hJ1 => ?_
    ·rintro ⟨⟩ hf0
     unfold wM at hf0
     refine yJ X0 hC ud [1,1,1,1,1,1,1] [] [2,3,5,10] (fun z:Int => yk m_ y_ r_3 z = some r0) (fun z => Qm m_ y_ r_3 z) [(2,.own (.box (zI m_))),(3,.own (.box (zd6 y_))),(5,.d (I r_3)),(10,.d (I r_3))] [Hh (.cut 1)] ?_ fun J2 hJ2 => ?_
     ·rintro state hf0
      unfold yk at hf0
      obtain ⟨r_6,h6,hf0⟩:=zb hf0
      refine yJ X0 hC ud [1,1,1,1,1,1,1,1,1] [] [2,3,5,10] (fun z:Unit => xY m_ y_ r_3 state = some r0) (fun z => Ql m_ y_ r_3 state) [(2,.own (.box (zI m_))),(3,.own (.box (zd6 y_))),(5,.d (I r_3)),(7,.d (I r_6.2)),(10,.d (I state)),(11,.d (eSl 1 true F2_ r_6.1))] [Hc h0k (x:=(m_,y_.S)) h6 (loC zI m_ <| loC (eI .i64) y_.S <| loN),Hh (.cut 0)] ?_ fun J3 hJ3 => ?_
      ·rintro ⟨⟩ hf0
       unfold xY at hf0
       refine yJ X0 hC ud [1,1,1,1,1,1,1,1,1,1] [] [2,3,5,10] (fun z:Int => yH m_ y_ state z = some r0) (fun z => Qk m_ y_ state z) [(2,.own (.box (zI m_))),(3,.own (.box (zd6 y_))),(5,.d (I r_3)),(10,.d (I state))] [Hh (.cut 0)] ?_ fun J4 hJ4 => ?_
       ·rintro f_ hf0
        unfold yH at hf0
        obtain ⟨r_7,h7,hf0⟩:=zb hf0
        obtain ⟨r_8,h8,hf0⟩:=zb hf0
        obtain ⟨r_9,h9,hf0⟩:=zb hf0
        let Z3:List HO:=[Hc h0n (x:=(m_,y_.L)) h7 (loC zI m_ <| loC w8 y_.L <| loN),Hc h0x (x:=(m_,y_.L,y_.S)) h8 (loC zI m_ <| loC w8 y_.L <| loC (eI .i64) y_.S <| loN),Hc h0c (x:=(m_,y_.L,y_.Responses)) h9 (loC zI m_ <| loC w8 y_.L <| loC w8 y_.Responses <| loN)]
        rcases zC hf0 with ⟨c3,hf0⟩ | ⟨c3,hf0⟩
        ·rcases zC hf0 with ⟨c4,hf0⟩ | ⟨c4,hf0⟩
         ·let Z4:List HO:=(Z3 ++ (Hq c3 :: (rpN 4 (Hq c4) [])))
          rcases zC hf0 with ⟨c5,hf0⟩ | ⟨c5,hf0⟩
          ·let Z5:List HO:=(Z4 ++ (rpN 4 (Hq c5) []))
           rcases zC hf0 with ⟨c6,hf0⟩ | ⟨c6,hf0⟩
           ·rcases zC hf0 with ⟨c7,hf0⟩ | ⟨c7,hf0⟩
            ·let Z6:List HO:=(Z5 ++ [Hq c6,Hq c6,Hq c6,Hq c7,Hq c7,Ha (lnM F2_ r_8.1),Hq c7,Hq c7,Ha (lnM (eI .i64) r_9.1),Hq c7,Hq c7,Hq c7])
             rcases zC hf0 with ⟨c8,hf0⟩ | ⟨c8,hf0⟩
             ·obtain ⟨r_10,h10,hf0⟩:=zb hf0
              obtain rfl:=z8 hf0
              exact yE X0 hC hE (Z6 ++ [Hq c8,Hc h0y (x:=()) h10 (loN),Hq c8])
             ·obtain rfl:=z8 hf0
              exact yE X0 hC hE (Z6 ++ [Hq c8,Hq c8])
            ·obtain rfl:=z8 hf0
             exact yE X0 hC hE (Z5 ++ (Hq c6 :: Hq c6 :: Hq c6 :: (rpN 7 (Hq c7) [qF,qF])))
           ·obtain rfl:=z8 hf0
            exact yE X0 hC hE (Z5 ++ (Hq c6 :: Hq c6 :: Hq c6 :: (rpN 9 qF [])))
          ·obtain rfl:=z8 hf0
           exact yE X0 hC hE (Z4 ++ (rpN 4 (Hq c5) (rpN 12 qF [])))
         ·obtain rfl:=z8 hf0
          exact yE X0 hC hE (Z3 ++ (Hq c3 :: (rpN 4 (Hq c4) (rpN 16 qF []))))
        ·rcases zC hf0 with ⟨c9,hf0⟩ | ⟨c9,hf0⟩
         ·obtain rfl:=z8 hf0
          exact yE X0 hC hE (Z3 ++ (Hq c3 :: (rpN 4 (Hq c9) (rpN 10 qT []))))
         ·let Z7:List HO:=(Z3 ++ (Hq c3 :: (rpN 4 (Hq c9) [])))
          rcases zC hf0 with ⟨c10,hf0⟩ | ⟨c10,hf0⟩
          ·obtain rfl:=z8 hf0
           exact yE X0 hC hE (Z7 ++ (rpN 9 (Hq c10) [qT]))
          ·obtain ⟨r_11,h11,hf0⟩:=zb hf0
           let Z8:List HO:=(Z7 ++ (rpN 7 (Hq c10) [Hc h1Q (x:=(y_.L,y_.Responses)) h11 (loC w8 y_.L <| loC w8 y_.Responses <| loN),Hq c10,Hq c10]))
           rcases zC hf0 with ⟨c11,hf0⟩ | ⟨c11,hf0⟩
           ·obtain rfl:=z8 hf0
            exact yE X0 hC hE (Z8 ++ [Hq c11])
           ·rcases zC hf0 with ⟨c12,hf0⟩ | ⟨c12,hf0⟩
            ·rcases zC hf0 with ⟨c13,hf0⟩ | ⟨c13,hf0⟩
             ·let Z9:List HO:=(Z8 ++ [Hq c11,Hq c12,Hq c13,Hq c13,Ha (lnM (eI .i64) r_9.1),Hq c13,Hq c13])
              rcases zC hf0 with ⟨c14,hf0⟩ | ⟨c14,hf0⟩
              ·obtain ⟨r_12,h12,hf0⟩:=zb hf0
               obtain rfl:=z8 hf0
               exact yE X0 hC hE (Z9 ++ [Hq c14,Hc h0y (x:=()) h12 (loN),Hq c14])
              ·obtain rfl:=z8 hf0
               exact yE X0 hC hE (Z9 ++ [Hq c14,Hq c14])
             ·obtain rfl:=z8 hf0
              exact yE X0 hC hE (Z8 ++ (Hq c11 :: Hq c12 :: (rpN 4 (Hq c13) [qF,qF])))
            ·obtain ⟨r_13,h13,hf0⟩:=zb hf0
             obtain ⟨r_14,h14,hf0⟩:=zb hf0
             let Z10:List HO:=(Z8 ++ [Hq c11,Hq c12,Hc h1R (x:=(m_,y_.L,y_.Responses)) h13 (loC zI m_ <| loC w8 y_.L <| loC w8 y_.Responses <| loN),Hm (shM (eI .i64) (eI .i64) r_13),Hn (YX (f:=.fn 26 []) (xs:=[F2_ r_9.1,F3_ r_13]) (ls:=[]) (r:=B r_14) (ys:=[]) [F2_ r_9.1,F3_ r_13] (show z09 [F2_ r_9.1,F3_ r_13] [F2_ r_9.1,F3_ r_13] from inferInstance))])
             rcases zC hf0 with ⟨c15,hf0⟩ | ⟨c15,hf0⟩
             ·obtain ⟨r_15,h15,hf0⟩:=zb hf0
              obtain rfl:=z8 hf0
              exact yE ((j8 (P:=Tryz.prog) yN [] (lentCall (yU hC h04 (x:=(r_9.1,r_13)) h14)) 196).or X0) hC hE (Z10 ++ [Hq c15,Hc h0y (x:=()) h15 (loN),Hq c15])
             ·obtain rfl:=z8 hf0
              exact yE ((j8 (P:=Tryz.prog) yN [] (lentCall (yU hC h04 (x:=(r_9.1,r_13)) h14)) 196).or X0) hC hE (Z10 ++ [Hq c15,Hq c15])
       ·rcases zC hf0 with ⟨c16,hf0⟩ | ⟨c16,hf0⟩
        ·obtain ⟨r_16,h16,hf0⟩:=zb hf0
         exact yB X0 hC hJ4 r_16 hf0 [Hq c16,Hc h1P (x:=(y_.L,m_.Inputs)) h16 (loC w8 y_.L <| loC (eI .i64) m_.Inputs <| loN)]
        ·exact yB X0 hC hJ4 r_3 hf0 [Hq c16]
      ·rcases zC hf0 with ⟨c17,hf0⟩ | ⟨c17,hf0⟩
       ·obtain rfl:=z8 hf0
        exact yE X0 hC hE (rpN 5 (Hq c17) [qT])
       ·rcases zC hf0 with ⟨c18,hf0⟩ | ⟨c18,hf0⟩
        ·let Z11:List HO:=[Hq c17,Hq c17,Hq c17,Hq c18,Hq c18,Ha (lnM F2_ r_6.1),Hq c18,Hq c17,Hq c18,Hq c17]
         rcases zC hf0 with ⟨c19,hf0⟩ | ⟨c19,hf0⟩
         ·obtain rfl:=z8 hf0
          exact yE X0 hC hE (Z11 ++ [Hq c19])
         ·exact yB X0 hC hJ3 () hf0 (Z11 ++ [Hq c19])
        ·exact yB X0 hC hJ3 () hf0 [Hq c17,Hq c17,Hq c17,Hq c18,Hq c18,Hq c18,Hq c17,Hq c18,Hq c17,qF]
     ·rcases zC hf0 with ⟨c20,hf0⟩ | ⟨c20,hf0⟩
      ·let Z12:List HO:=(rpN 4 (Hq c20) [])
       rcases zC hf0 with ⟨c21,hf0⟩ | ⟨c21,hf0⟩
       ·exact yB X0 hC hJ2 1 hf0 (Z12 ++ (rpN 6 (Hq c21) [Hq c20,Hq c21,Hq c20,qT]))
       ·let Z13:List HO:=(Z12 ++ (rpN 5 (Hq c21) [Ha (lnM wS m_.Rows),Hq c21,Hq c20,Hq c21,Hq c20]))
        rcases zC hf0 with ⟨c22,hf0⟩ | ⟨c22,hf0⟩
        ·exact yB X0 hC hJ2 1 hf0 (Z13 ++ [Hq c22])
        ·exact yB X0 hC hJ2 r_3 hf0 (Z13 ++ [Hq c22])
      ·exact yB X0 hC hJ2 r_3 hf0 (rpN 6 (Hq c20) [qF])
    ·rcases zC hf0 with ⟨c23,hf0⟩ | ⟨c23,hf0⟩
     ·let Z14:List HO:=(rpN 4 (Hq c23) [])
      rcases zC hf0 with ⟨c24,hf0⟩ | ⟨c24,hf0⟩
      ·obtain rfl:=z8 hf0
       exact yE X0 hC hE (Z14 ++ (Hq c24 :: Hq c24 :: Hq c24 :: Hq c23 :: Hq c24 :: Hq c23 :: (rpN 6 qT [Hq c23,qT,Hq c23,qT])))
      ·let Z15:List HO:=(Z14 ++ [Hq c24,Hq c24,Hq c24,Hq c23,Hq c24,Hq c23])
       rcases zC hf0 with ⟨c25,hf0⟩ | ⟨c25,hf0⟩
       ·obtain rfl:=z8 hf0
        exact yE X0 hC hE (Z15 ++ (rpN 6 (Hq c25) [Hq c23,Hq c25,Hq c23,qT]))
       ·let Z16:List HO:=(Z15 ++ [Hq c25,Hq c25,Ha (lnM F2_ r_4.1),Hq c25,Hq c25,Ha (lnM F2_ r_5.1),Hq c25,Hq c25,Hq c23,Hq c25,Hq c23])
        rcases zC hf0 with ⟨c26,hf0⟩ | ⟨c26,hf0⟩
        ·obtain rfl:=z8 hf0
         exact yE X0 hC hE (Z16 ++ [Hq c26])
        ·exact yB X0 hC hJ1 () hf0 (Z16 ++ [Hq c26])
     ·exact yB X0 hC hJ1 () hf0 (rpN 8 (Hq c23) [qF])
theorem zV {l:List zN} {s:zN} (h:((l.map zN.k).contains s.k) = false):∀ t ∈ l,t.k ≠ s.k:=by
 intro t ht e
 have:(l.map zN.k).contains s.k = true:=by
  rw [List.contains_iff_mem,← e]
  exact List.mem_map_of_mem ht
 rw [h] at this
 cases this
theorem zk {l:List zN} {c:Ctr} (H:∀ t ∈ l,c.Has t) (i:Nat) {s:zN} (h:l[i]? = some s):c.Has s:=H _ (List.mem_of_getElem? h)
def L0:List zN:=V1 :: []
def L1:List zN:=Yx :: L0
def L2:List zN:=UJ :: L1
def L3:List zN:=V0 :: L2
def L4:List zN:=X4 :: L3
def L5:List zN:=Yf :: L4
def L6:List zN:=X3 :: L5
def L7:List zN:=Zr :: L6
def L8:List zN:=WZ :: L7
def L9:List zN:=XK :: L8
def L10:List zN:=Zq :: L9
def L11:List zN:=XJ :: L10
def L12:List zN:=X2 :: L11
def L13:List zN:=XI :: L12
def L14:List zN:=qB :: L13
def L15:List zN:=X5 :: L14
def L16:List zN:=kZ :: L15
def L17:List zN:=xm :: L16
def L18:List zN:=yI :: L17
def L19:List zN:=xM :: L18
def L20:List zN:=Zs :: L19
def L21:List zN:=Yh :: L20
def L22:List zN:=vJ :: L21
def L23:List zN:=jB :: L22
def L24:List zN:=kw :: L23
def L25:List zN:=ku :: L24
def L26:List zN:=uh :: L25
def L27:List zN:=wT :: L26
def L28:List zN:=jC :: L27
def L29:List zN:=kr :: L28
def L30:List zN:=Yd :: L29
def L31:List zN:=XG :: L30
def L32:List zN:=ja :: L31
def L33:List zN:=xU :: L32
def L34:List zN:=Zn :: L33
def L35:List zN:=jA :: L34
def L36:List zN:=kq :: L35
def L37:List zN:=vn :: L36
def L38:List zN:=vo :: L37
def L39:List zN:=XQ :: L38
def L40:List zN:=uz :: L39
def L41:List zN:=XE :: L40
def L42:List zN:=XF :: L41
def L43:List zN:=wC :: L42
def L44:List zN:=yC :: L43
def L45:List zN:=kY :: L44
def L46:List zN:=wU :: L45
def L47:List zN:=vT :: L46
def L48:List zN:=YZ :: L47
def L49:List zN:=vj :: L48
def L50:List zN:=wq :: L49
def L51:List zN:=Yu :: L50
def L52:List zN:=Yw :: L51
def L53:List zN:=uB :: L52
def L54:List zN:=X7 :: L53
def L55:List zN:=jd :: L54
def L56:List zN:=ui :: L55
def L57:List zN:=VL :: L56
def L58:List zN:=qA :: L57
def L59:List zN:=Yc :: L58
def L60:List zN:=wr :: L59
def L61:List zN:=Yv :: L60
def L62:List zN:=XD :: L61
def L63:List zN:=Zm :: L62
def L64:List zN:=XO :: L63
def L65:List zN:=Zv :: L64
def L66:List zN:=Yg :: L65
def L67:List zN:=XL :: L66
def L68:List zN:=XM :: L67
def L69:List zN:=we :: L68
def L70:List zN:=jE :: L69
def L71:List zN:=xA :: L70
def L72:List zN:=vp :: L71
def L73:List zN:=Za :: L72
def L74:List zN:=uC :: L73
def L75:List zN:=j9 :: L74
def L76:List zN:=wV :: L75
def L77:List zN:=vK :: L76
def L78:List zN:=XP :: L77
def L79:List zN:=kI :: L78
def L80:List zN:=Yy :: L79
def L81:List zN:=WE :: L80
def L82:List zN:=VH :: L81
def L83:List zN:=X1 :: L82
def L84:List zN:=WX :: L83
def L85:List zN:=kH :: L84
def L86:List zN:=WY :: L85
def L87:List zN:=WV :: L86
def L88:List zN:=WW :: L87
def L89:List zN:=jD :: L88
def L90:List zN:=Zu :: L89
def L91:List zN:=qe :: L90
def L92:List zN:=ur :: L91
def L93:List zN:=jb :: L92
def L94:List zN:=X6 :: L93
def L95:List zN:=VK :: L94
def L96:List zN:=Zp :: L95
def L97:List zN:=VJ :: L96
def L98:List zN:=Xh :: L97
def L99:List zN:=V2 :: L98
def zlW:List zN:=VG :: L99
def zlV:List zN:=VI :: zlW
def zlU:List zN:=UI :: zlV
def zlT:List zN:=Zo :: zlU
def zlS:List zN:=Ye :: zlT
def zmP:List zN:=Zt :: zlS
theorem zkU:zn Tryz.prog L0:=⟨fun _ hC H => z4v hC,zV (by kernel_rfl),trivial⟩
theorem zkT:zn Tryz.prog L1:=⟨fun _ hC H => z4q hC,zV (by kernel_rfl),zkU⟩
theorem zkS:zn Tryz.prog L2:=⟨fun _ hC H => z6G hC (zk H 0 rfl),zV (by kernel_rfl),zkT⟩
theorem zkR:zn Tryz.prog L3:=⟨fun _ hC H => z4u hC,zV (by kernel_rfl),zkS⟩
theorem zkQ:zn Tryz.prog L4:=⟨fun _ hC H => z2a hC,zV (by kernel_rfl),zkR⟩
theorem zkP:zn Tryz.prog L5:=⟨fun _ hC H => z1t hC (zk H 0 rfl),zV (by kernel_rfl),zkQ⟩
theorem zkO:zn Tryz.prog L6:=⟨fun _ hC H => z29 hC,zV (by kernel_rfl),zkP⟩
theorem zkN:zn Tryz.prog L7:=⟨fun _ hC H => z0i hC (zk H 0 rfl),zV (by kernel_rfl),zkO⟩
theorem zkM:zn Tryz.prog L8:=⟨fun _ hC H => z4t hC,zV (by kernel_rfl),zkN⟩
theorem zkL:zn Tryz.prog L9:=⟨fun _ hC H => z3r hC (zk H 0 rfl),zV (by kernel_rfl),zkM⟩
theorem zjm:zn Tryz.prog L10:=⟨fun _ hC H => z0h hC,zV (by kernel_rfl),zkL⟩
theorem zjl:zn Tryz.prog L11:=⟨fun _ hC H => z3q hC (zk H 1 rfl) (zk H 0 rfl),zV (by kernel_rfl),zjm⟩
theorem zjk:zn Tryz.prog L12:=⟨fun _ hC H => z28 hC (zk H 0 rfl),zV (by kernel_rfl),zjl⟩
theorem zjj:zn Tryz.prog L13:=⟨fun _ hC H => z3p hC (zk H 9 rfl) (zk H 7 rfl) (zk H 5 rfl) (zk H 0 rfl),zV (by kernel_rfl),zjk⟩
theorem zji:zn Tryz.prog L14:=⟨fun _ hC H => z2b hC,zV (by kernel_rfl),zjj⟩
theorem zjh:zn Tryz.prog L15:=⟨fun _ hC H => z2c hC (zk H 0 rfl),zV (by kernel_rfl),zji⟩
theorem zjg:zn Tryz.prog L16:=⟨fun _ hC H => Kj hC (zk H 0 rfl),zV (by kernel_rfl),zjh⟩
theorem zjf:zn Tryz.prog L17:=⟨fun _ hC H => kx hC (zk H 0 rfl),zV (by kernel_rfl),zjg⟩
theorem zje:zn Tryz.prog L18:=⟨fun _ hC H => jz hC (zk H 0 rfl),zV (by kernel_rfl),zjf⟩
theorem zjd:zn Tryz.prog L19:=⟨fun _ hC H => z1w hC (zk H 0 rfl),zV (by kernel_rfl),zje⟩
theorem zjc:zn Tryz.prog L20:=⟨fun _ hC H => z0j hC,zV (by kernel_rfl),zjd⟩
theorem zjb:zn Tryz.prog L21:=⟨fun _ hC H => z1v hC,zV (by kernel_rfl),zjc⟩
theorem zja:zn Tryz.prog L22:=⟨fun _ hC H => WR hC,zV (by kernel_rfl),zjb⟩
theorem zj9:zn Tryz.prog L23:=⟨fun _ hC H => QF hC (zk H 1 rfl) (zk H 8 rfl) (zk H 0 rfl),zV (by kernel_rfl),zja⟩
theorem zj8:zn Tryz.prog L24:=⟨fun _ hC H => Jl hC (zk H 4 rfl) (zk H 0 rfl),zV (by kernel_rfl),zj9⟩
theorem zj7:zn Tryz.prog L25:=⟨fun _ hC H => Jk hC (zk H 0 rfl),zV (by kernel_rfl),zj8⟩
theorem zj6:zn Tryz.prog L26:=⟨fun _ hC H => Vi hC,zV (by kernel_rfl),zj7⟩
theorem zj5:zn Tryz.prog L27:=⟨fun _ hC H => Xy hC (zk H 0 rfl),zV (by kernel_rfl),zj6⟩
theorem zj4:zn Tryz.prog L28:=⟨fun _ hC H => QG hC (zk H 8 rfl) (zk H 0 rfl),zV (by kernel_rfl),zj5⟩
theorem zj3:zn Tryz.prog L29:=⟨fun _ hC H => Jj hC (zk H 0 rfl),zV (by kernel_rfl),zj4⟩
theorem zj2:zn Tryz.prog L30:=⟨fun _ hC H => z1r hC,zV (by kernel_rfl),zj3⟩
theorem zj1:zn Tryz.prog L31:=⟨fun _ hC H => z3o hC,zV (by kernel_rfl),zj2⟩
theorem zj0:zn Tryz.prog L32:=⟨fun _ hC H => z0e hC (zk H 0 rfl),zV (by kernel_rfl),zj1⟩
theorem ziZ:zn Tryz.prog L33:=⟨fun _ hC H => Uh hC,zV (by kernel_rfl),zj0⟩
theorem ziY:zn Tryz.prog L34:=⟨fun _ hC H => z0f hC (zk H 14 rfl) (zk H 3 rfl) (zk H 1 rfl) (zk H 0 rfl),zV (by kernel_rfl),ziZ⟩
theorem ziX:zn Tryz.prog L35:=⟨fun _ hC H => QE hC,zV (by kernel_rfl),ziY⟩
theorem ziW:zn Tryz.prog L36:=⟨fun _ hC H => Ji hC (zk H 1 rfl) (zk H 0 rfl),zV (by kernel_rfl),ziX⟩
theorem ziV:zn Tryz.prog L37:=⟨fun _ hC H => Kh hC (zk H 17 rfl) (zk H 16 rfl) (zk H 11 rfl) (zk H 7 rfl) (zk H 0 rfl),zV (by kernel_rfl),ziW⟩
theorem ziU:zn Tryz.prog L38:=⟨fun _ hC H => z3w hC,zV (by kernel_rfl),ziV⟩
theorem ziT:zn Tryz.prog L39:=⟨fun _ hC H => z3z hC,zV (by kernel_rfl),ziU⟩
theorem ziS:zn Tryz.prog L40:=⟨fun _ hC H => z1p hC,zV (by kernel_rfl),ziT⟩
theorem ziR:zn Tryz.prog L41:=⟨fun _ hC H => z3m hC (zk H 21 rfl) (zk H 0 rfl),zV (by kernel_rfl),ziS⟩
theorem ziQ:zn Tryz.prog L42:=⟨fun _ hC H => z3n hC,zV (by kernel_rfl),ziR⟩
theorem ziP:zn Tryz.prog L43:=⟨fun _ hC H => VB hC,zV (by kernel_rfl),ziQ⟩
theorem ziO:zn Tryz.prog L44:=⟨fun _ hC H => UF hC,zV (by kernel_rfl),ziP⟩
theorem ziN:zn Tryz.prog L45:=⟨fun _ hC H => Ke hC (zk H 2 rfl) (zk H 1 rfl) (zk H 0 rfl),zV (by kernel_rfl),ziO⟩
theorem ziM:zn Tryz.prog L46:=⟨fun _ hC H => Ui hC,zV (by kernel_rfl),ziN⟩
theorem ziL:zn Tryz.prog L47:=⟨fun _ hC H => z0d hC (zk H 5 rfl) (zk H 1 rfl) (zk H 0 rfl) (zk H 2 rfl),zV (by kernel_rfl),ziM⟩
theorem ziK:zn Tryz.prog L48:=⟨fun _ hC H => z23 hC,zV (by kernel_rfl),ziL⟩
theorem ziJ:zn Tryz.prog L49:=⟨fun _ hC H => Wo hC (zk H 0 rfl),zV (by kernel_rfl),ziK⟩
theorem ziI:zn Tryz.prog L50:=⟨fun _ hC H => YV hC (zk H 0 rfl),zV (by kernel_rfl),ziJ⟩
theorem ziH:zn Tryz.prog L51:=⟨fun _ hC H => z4l hC (zk H 0 rfl),zV (by kernel_rfl),ziI⟩
theorem ziG:zn Tryz.prog L52:=⟨fun _ hC H => z4n hC (zk H 0 rfl),zV (by kernel_rfl),ziH⟩
theorem ziF:zn Tryz.prog L53:=⟨fun _ hC H => VC hC,zV (by kernel_rfl),ziG⟩
theorem ziE:zn Tryz.prog L54:=⟨fun _ hC H => z2f hC,zV (by kernel_rfl),ziF⟩
theorem ziD:zn Tryz.prog L55:=⟨fun _ hC H => z0m hC (zk H 0 rfl),zV (by kernel_rfl),ziE⟩
theorem ziC:zn Tryz.prog L56:=⟨fun _ hC H => Vj hC (zk H 0 rfl),zV (by kernel_rfl),ziD⟩
theorem ziB:zn Tryz.prog L57:=⟨fun _ hC H => z5y hC,zV (by kernel_rfl),ziC⟩
theorem ziA:zn Tryz.prog L58:=⟨fun _ hC H => z21 hC (zk H 2 rfl) (zk H 1 rfl) (zk H 0 rfl),zV (by kernel_rfl),ziB⟩
theorem ziz:zn Tryz.prog L59:=⟨fun _ hC H => z1o hC (zk H 0 rfl),zV (by kernel_rfl),ziA⟩
theorem ziy:zn Tryz.prog L60:=⟨fun _ hC H => YW hC (zk H 0 rfl),zV (by kernel_rfl),ziz⟩
theorem zix:zn Tryz.prog L61:=⟨fun _ hC H => z4m hC,zV (by kernel_rfl),ziy⟩
theorem ziw:zn Tryz.prog L62:=⟨fun _ hC H => z3l hC (zk H 8 rfl) (zk H 3 rfl) (zk H 1 rfl) (zk H 0 rfl) (zk H 15 rfl) (zk H 17 rfl),zV (by kernel_rfl),zix⟩
theorem ziv:zn Tryz.prog L63:=⟨fun _ hC H => z5p hC (zk H 10 rfl) (zk H 0 rfl),zV (by kernel_rfl),ziw⟩
theorem ziu:zn Tryz.prog L64:=⟨fun _ hC H => z3u hC (zk H 25 rfl) (zk H 24 rfl) (zk H 16 rfl) (zk H 0 rfl),zV (by kernel_rfl),ziv⟩
theorem zit:zn Tryz.prog L65:=⟨fun _ hC H => z5x hC (zk H 27 rfl) (zk H 0 rfl),zV (by kernel_rfl),ziu⟩
theorem zis:zn Tryz.prog L66:=⟨fun _ hC H => z1u hC (zk H 46 rfl),zV (by kernel_rfl),zit⟩
theorem zir:zn Tryz.prog L67:=⟨fun _ hC H => z3s hC (zk H 52 rfl),zV (by kernel_rfl),zis⟩
theorem ziq:zn Tryz.prog L68:=⟨fun _ hC H => z3t hC (zk H 1 rfl) (zk H 16 rfl) (zk H 0 rfl),zV (by kernel_rfl),zir⟩
theorem zio:zn Tryz.prog L69:=⟨fun _ hC H => Kl hC (zk H 0 rfl),zV (by kernel_rfl),ziq⟩
theorem zin:zn Tryz.prog L70:=⟨fun _ hC H => QH hC (zk H 36 rfl),zV (by kernel_rfl),zio⟩
theorem zim:zn Tryz.prog L71:=⟨fun _ hC H => kX hC (zk H 0 rfl),zV (by kernel_rfl),zin⟩
theorem zil:zn Tryz.prog L72:=⟨fun _ hC H => Kn hC (zk H 0 rfl),zV (by kernel_rfl),zim⟩
theorem zik:zn Tryz.prog L73:=⟨fun _ hC H => Km hC (zk H 34 rfl) (zk H 3 rfl) (zk H 0 rfl),zV (by kernel_rfl),zil⟩
theorem zij:zn Tryz.prog L74:=⟨fun _ hC H => VD hC,zV (by kernel_rfl),zik⟩
theorem zii:zn Tryz.prog L75:=⟨fun _ hC H => UG hC (zk H 0 rfl),zV (by kernel_rfl),zij⟩
theorem zih:zn Tryz.prog L76:=⟨fun _ hC H => Xz hC,zV (by kernel_rfl),zii⟩
theorem zig:zn Tryz.prog L77:=⟨fun _ hC H => WS hC (zk H 0 rfl),zV (by kernel_rfl),zih⟩
theorem zif:zn Tryz.prog L78:=⟨fun _ hC H => z3x hC (zk H 0 rfl),zV (by kernel_rfl),zig⟩
theorem zie:zn Tryz.prog L79:=⟨fun _ hC H => z2e hC (zk H 13 rfl) (zk H 5 rfl) (zk H 3 rfl) (zk H 0 rfl),zV (by kernel_rfl),zif⟩
theorem zid:zn Tryz.prog L80:=⟨fun _ hC H => z4x hC,zV (by kernel_rfl),zie⟩
theorem zic:zn Tryz.prog L81:=⟨fun _ hC H => z6H hC (zk H 43 rfl) (zk H 42 rfl) (zk H 0 rfl) (zk H 33 rfl) (zk H 17 rfl),zV (by kernel_rfl),zid⟩
theorem zib:zn Tryz.prog L82:=⟨fun _ hC H => z5r hC,zV (by kernel_rfl),zic⟩
theorem zia:zn Tryz.prog L83:=⟨fun _ hC H => z26 hC,zV (by kernel_rfl),zib⟩
theorem zi9:zn Tryz.prog L84:=⟨fun _ hC H => z4r hC (zk H 1 rfl) (zk H 0 rfl),zV (by kernel_rfl),zia⟩
theorem zi8:zn Tryz.prog L85:=⟨fun _ hC H => z27 hC,zV (by kernel_rfl),zi9⟩
theorem zi7:zn Tryz.prog L86:=⟨fun _ hC H => z4s hC (zk H 1 rfl) (zk H 0 rfl) (zk H 84 rfl),zV (by kernel_rfl),zi8⟩
theorem zi6:zn Tryz.prog L87:=⟨fun _ hC H => z4o hC (zk H 28 rfl),zV (by kernel_rfl),zi7⟩
theorem zi5:zn Tryz.prog L88:=⟨fun _ hC H => z4p hC (zk H 35 rfl) (zk H 0 rfl) (zk H 26 rfl),zV (by kernel_rfl),zi6⟩
theorem zi4:zn Tryz.prog L89:=⟨fun _ hC H => z3v hC (zk H 51 rfl) (zk H 0 rfl),zV (by kernel_rfl),zi5⟩
theorem zi3:zn Tryz.prog L90:=⟨fun _ hC H => z3y hC (zk H 0 rfl) (zk H 20 rfl) (zk H 51 rfl) (zk H 17 rfl),zV (by kernel_rfl),zi4⟩
theorem zi2:zn Tryz.prog L91:=⟨fun _ hC H => Ko hC (zk H 1 rfl) (zk H 21 rfl),zV (by kernel_rfl),zi3⟩
theorem zi1:zn Tryz.prog L92:=⟨fun _ hC H => Jm hC,zV (by kernel_rfl),zi2⟩
theorem zi0:zn Tryz.prog L93:=⟨fun _ hC H => z0l hC (zk H 3 rfl) (zk H 0 rfl) (zk H 23 rfl) (zk H 20 rfl) (zk H 48 rfl),zV (by kernel_rfl),zi1⟩
theorem zhZ:zn Tryz.prog L94:=⟨fun _ hC H => z2d hC,zV (by kernel_rfl),zi0⟩
theorem zhY:zn Tryz.prog L95:=⟨fun _ hC H => z5v hC,zV (by kernel_rfl),zhZ⟩
theorem zhX:zn Tryz.prog L96:=⟨fun _ hC H => z5s hC (zk H 10 rfl),zV (by kernel_rfl),zhY⟩
theorem zhW:zn Tryz.prog L97:=⟨fun _ hC H => z5u hC (zk H 0 rfl),zV (by kernel_rfl),zhX⟩
theorem zhV:zn Tryz.prog L98:=⟨fun _ hC H => z5w hC (zk H 1 rfl),zV (by kernel_rfl),zhW⟩
theorem zhU:zn Tryz.prog L99:=⟨fun _ hC H => z4w hC (zk H 4 rfl) (zk H 3 rfl) (zk H 33 rfl) (zk H 17 rfl) (zk H 19 rfl) (zk H 1 rfl) (zk H 8 rfl) (zk H 7 rfl) (zk H 5 rfl) (zk H 0 rfl),zV (by kernel_rfl),zhV⟩
theorem zfw:zn Tryz.prog zlW:=⟨fun _ hC H => z5q hC,zV (by kernel_rfl),zhU⟩
theorem zfv:zn Tryz.prog zlV:=⟨fun _ hC H => z5t hC,zV (by kernel_rfl),zfw⟩
theorem zfu:zn Tryz.prog zlU:=⟨fun _ hC H => z6F hC (zk H 0 rfl),zV (by kernel_rfl),zfv⟩
theorem zft:zn Tryz.prog zlT:=⟨fun _ hC H => z0g hC (zk H 0 rfl),zV (by kernel_rfl),zfu⟩
theorem zfs:zn Tryz.prog zlS:=⟨fun _ hC H => z1s hC (zk H 0 rfl) (zk H 7 rfl),zV (by kernel_rfl),zft⟩
theorem zfr:zn Tryz.prog zmP:=⟨fun _ hC H => z0k hC (zk H 104 rfl) (zk H 102 rfl) (zk H 91 rfl) (zk H 39 rfl) (zk H 25 rfl) (zk H 23 rfl) (zk H 18 rfl) (zk H 14 rfl) (zk H 13 rfl) (zk H 11 rfl) (zk H 5 rfl) (zk H 4 rfl) (zk H 0 rfl) (zk H 6 rfl),zV (by kernel_rfl),zfs⟩
theorem yl {x:Int} (h1:-9223372036854775808 ≤ x) (h2:x ≤ 9223372036854775807):w64 x = x:=by
 simp only [w64,IntKind.wrap,IntKind.bits,IntKind.signed]
 simp
 omega
section
variable {α β σ τ ρ:Type}
def Ret (x:Option α) (Q:α → Prop):Prop:=∃ a,x = some a ∧ Q a
theorem Ret.mono {x:Option α} {Q R:α → Prop} (h:Ret x Q) (q:∀ a,Q a → R a):Ret x R:=by
 obtain ⟨a,e,h⟩:=h
 exact ⟨a,e,q a h⟩
theorem Ret.eq {x:Option α} {a:α} (h:Ret x fun b => b = a):x = some a:=by
 obtain ⟨b,e,rfl⟩:=h
 exact e
theorem zg {a:α} {Q:α → Prop}:Ret (some a) Q ↔ Q a:=⟨fun ⟨b,e,q⟩ => by cases e; exact q,fun q => ⟨a,rfl,q⟩⟩
theorem zA {x:Option α} {f:α → Option β} {Q:β → Prop}:Ret (Option.bind x f) Q ↔ Ret x fun a => Ret (f a) Q:=by
 cases x with
 | none => exact ⟨fun ⟨b,e,_⟩ => (by cases e),fun ⟨b,e,_⟩ => (by cases e)⟩
 | some a => exact ⟨fun h => ⟨a,rfl,h⟩,fun ⟨b,e,h⟩ => by cases e; exact h⟩
theorem WF {p:Prop} [Decidable p] {x:Option α} {Q:α → Prop}:Ret (gd p x) Q ↔ p ∧ Ret x Q:=by
 unfold gd
 by_cases h:p
 ·rw [if_pos h]; exact ⟨fun q => ⟨h,q⟩,fun q => q.2⟩
 ·rw [if_neg h]; exact ⟨fun ⟨b,e,_⟩ => by (cases e),fun q => (h q.1).elim⟩
theorem zS {c:Bool} {x y:Option α} {Q:α → Prop}:Ret (bif c then x else y) Q ↔ (c = true → Ret x Q) ∧ (c = false → Ret y Q):=by
 cases c <;> simp
theorem z9E {l:List α} {i:Int} {Q:α → Prop}:Ret (idx l i) Q ↔ 0 ≤ i ∧ ∃ x,l[i.toNat]? = some x ∧ Q x:=by
 cases i with
 | ofNat n =>
  show (∃ a,l[n]? = some a ∧ Q a) ↔ _
  simp
 | negSucc n => exact ⟨fun ⟨b,e,_⟩ => by (cases e),fun ⟨h,_⟩ => by omega⟩
theorem zT (l:List α) (i:Nat):idx l (i:Int) = l[i]?:=rfl
theorem gdT {p:Prop} [Decidable p] {x:Option α} (h:p):gd p x = x:=by unfold gd; rw [if_pos h]
theorem bdT {x:Option α} {u:α} {f:α → Option ρ} (h:x = some u):Option.bind x f = f u:=by rw [h]; rfl
theorem Vo (step:σ → Option (LR σ τ)) (n:Nat) (s:σ):Jx step (n + 1) s = (match step s with | none => none | some (.next s') => Jx step n s' | some (.done t) => some t):=rfl
def LRP (N:σ → Prop) (D:τ → Prop):LR σ τ → Prop
 | .next s => N s
 | .done t => D t
theorem yP {step:σ → Option (LR σ τ)} (I:σ → Prop) (m:σ → Nat) {R:τ → Prop} {s:σ} (hs:I s) (hm:m s < 18446744073709551616)
  (h:∀ s,I s → Ret (step s) (LRP (fun s' => I s' ∧ m s' < m s) R)):Ret (loop step s) R:=by
 have gen:∀ (n:Nat) (s:σ),I s → m s < n → Ret (Jx step n s) R:=by
  intro n
  induction n with
  | zero => intro s _ h; omega
  | succ n ih =>
   intro s hs hm
   obtain ⟨a,e,q⟩:=h s hs
   rw [Vo,e]
   cases a with
   | next s' => exact ih s' q.1 (by have:=q.2; omega)
   | done t => exact ⟨t,rfl,q⟩
 exact gen fuel s hs hm
theorem kS {step:σ → Option (LR σ τ)} (st:Nat → σ) (n:Nat) {t:τ} (hn:n < 9223372036854775808) (h:∀ i,i < n → step (st i) = some (.next (st (i + 1)))) (hd:step (st n) = some (.done t)):loop step (st 0) = some t:=by
 have gen:∀ (k:Nat) (i:Nat),i ≤ n → n - i < k → Jx step k (st i) = some t:=by
  intro k
  induction k with
  | zero => intro i _ h; omega
  | succ k ih =>
   intro i hi hk
   rw [Vo]
   rcases Nat.lt_or_ge i n with q | q
   ·rw [h i q]
    exact ih (i + 1) q (by omega)
   ·have:i = n:=by omega
    subst this
    rw [hd]
 exact gen fuel 0 (Nat.zero_le _) (by show n - 0 < 18446744073709551616; omega)
def y9 (f:Nat → α → Option ρ):List α → Nat → Option ρ
 | [],_ => none
 | x :: l,i => match f i x with | some r => some r | none => y9 f l (i + 1)
theorem jT {f:Nat → α → Option ρ}:∀ {l:List α} {k:Nat},(∀ i x,l[i]? = some x → f (k + i) x = none) → y9 f l k = none
 | [],_,_ => rfl
 | x :: l,k,h => by
  have h0:=h 0 x rfl
  simp only [Nat.add_zero] at h0
  simp only [y9,h0]
  exact jT fun i y hy => by have:=h (i + 1) y (by simpa using hy); rwa [show k + 1 + i = k + (i + 1) by omega]
theorem xp {f:Nat → α → Option ρ} {r:ρ}:∀ {l:List α} {k:Nat},y9 f l k = some r → ∃ i x,l[i]? = some x ∧ f (k + i) x = some r
 | [],_,h => by cases h
 | x :: l,k,h => by
  simp only [y9] at h
  cases hf:f k x with
  | some r' => rw [hf] at h; exact ⟨0,x,rfl,by rw [Nat.add_zero,hf]; exact h⟩
  | none =>
   rw [hf] at h
   obtain ⟨i,y,h1,h2⟩:=xp h
   exact ⟨i + 1,y,by simpa using h1,by rw [← h2]; congr 1; omega⟩
theorem xe {f:Nat → α → Option ρ} {l:List α} {k:Nat} (h:y9 f l k = none):∀ i x,l[i]? = some x → f (k + i) x = none:=by
 induction l generalizing k with
 | nil => intro i x h; simp at h
 | cons y l ih =>
  intro i x hx
  simp only [y9] at h
  cases hf:f k y with
  | some r' => rw [hf] at h; cases h
  | none =>
   rw [hf] at h
   cases i with
   | zero => simp at hx; subst hx; simpa using hf
   | succ i => have:=ih h i x (by simpa using hx); rwa [show k + (i + 1) = k + 1 + i by omega]
def oS:Option ρ → Unit ⊕ ρ
 | some r => .inr r
 | none => .inl ()
def nS (i:Nat):Option ρ → LR Int (Unit ⊕ ρ)
 | some r => .done (.inr r)
 | none => .next (w64 ((i:Int) + 1))
theorem yq (l:List α) (hl:l.length < 4611686018427387904) {step:Int → Option (LR Int (Unit ⊕ ρ))} (f:Nat → α → Option ρ)
  (h:∀ (i:Nat) (x:α),l[i]? = some x → step (i:Int) = some (nS i (f i x))) (h2:step (l.length:Int) = some (.done (.inl ()))) :
  loop step 0 = some (oS (y9 f l 0)):=by
 have gen:∀ (n:Nat) (k:Nat),k ≤ l.length → l.length - k < n → Jx step n (k:Int) = some (oS (y9 f (l.drop k) k)):=by
  intro n
  induction n with
  | zero => intro k _ h; omega
  | succ n ih =>
   intro k hk hn
   rw [Vo]
   rcases Nat.lt_or_ge k l.length with hlt | hge
   ·have hx:l[k]? = some l[k]:=List.getElem?_eq_getElem hlt
    rw [h k _ hx,List.drop_eq_getElem_cons hlt]
    simp only [y9]
    cases hf:f k l[k] with
    | some r => rfl
    | none =>
     simp only [nS]
     rw [yl (by omega) (by omega)]
     exact ih (k + 1) hlt (by omega)
   ·have:k = l.length:=by omega
    subst this
    rw [h2,List.drop_length]
    rfl
 exact gen fuel 0 (Nat.zero_le _) (by show l.length - 0 < 18446744073709551616; omega)
end
def z1W (m:z6) (x:zh):Bool:=(x.To == -1 && x.Out == -1) || (decide (0 ≤ x.To) && decide (x.To < (m.Rows.length:Int)) && decide (0 ≤ x.Out) && decide (x.Out < m.Outputs))
def z3C (m:z6) (r:List zh):Bool:=decide ((r.length:Int) = m.Inputs) && r.all (z1W m)
def chk (m:z6):Int :=
 if m.Inputs > 16 ∨ m.Outputs > 16 ∨ (m.Rows.length:Int) > 64 then 3 else if m.Inputs < 1 ∨ m.Outputs < 1 ∨ m.Rows.length = 0 then 1 else if m.Rows.all (z3C m) = true then 0 else 1
theorem zeZ (m:z6) (x:zh):ZO m x = some (z1W m x):=by
 unfold ZO u7
 simp only [Option.bind_some,Bool.and_true]
 rcases Bool.eq_false_or_eq_true (x.To == (-1) && x.Out == (-1)) with h | h
 ·simp [z1W,h]
 ·rw [h]
  simp only [z1W,h,Bool.false_or,cond_false]
  by_cases h1:(0:Int) ≤ x.To
  ·by_cases h2:x.To < (m.Rows.length:Int)
   ·by_cases h3:(0:Int) ≤ x.Out
    ·simp [Bool.cond_eq_ite,h1,h2,h3]
    ·simp [Bool.cond_eq_ite,h1,h2,h3]
   ·simp [Bool.cond_eq_ite,h1,h2]
  ·simp [h1]
theorem z7g (m:z6) (r:List zh) (hl:r.length < 4611686018427387904):zY r m = some (!r.all (z1W m)):=by
 have hloop:loop (fun s => zP r m s) 0 = some (oS (y9 (fun i x => if z1W m x = true then none else some (i:Int)) r 0)):=by
  refine yq r hl _ ?_ ?_
  ·intro i x hx
   have hi:=(List.getElem?_eq_some_iff.1 hx).1
   unfold zP
   have hd:decide ((i:Int) < ((r.length:Nat):Int)) = true:=by simpa using hi
   rw [hd,cond_true,zT,bdT hx]
   unfold kR
   simp only [zeZ,Option.bind_some]
   cases z1W m x <;> rfl
  ·unfold zP
   simp
 unfold zY yu
 rw [hloop]
 simp only [Option.bind_some]
 cases hf:y9 (fun i x => if z1W m x = true then none else some (i:Int)) r 0 with
 | some q =>
  obtain ⟨i,x,h1,h2⟩:=xp hf
  have hx:z1W m x ≠ true:=by
   intro h; rw [if_pos h] at h2; cases h2
  rw [if_neg hx] at h2
  simp only [Option.some.injEq] at h2
  have:r.all (z1W m) = false:=by
   rw [List.all_eq_false]
   exact ⟨x,List.mem_of_getElem? h1,hx⟩
  rw [this]
  have:(q:Int) ≥ 0:=by rw [← h2]; omega
  show some (decide (q ≥ 0)) = _
  simp [this]
 | none =>
  have:r.all (z1W m) = true:=by
   rw [List.all_eq_true]
   intro x hx
   obtain ⟨i,hi⟩:=List.getElem?_of_mem hx
   have:=xe hf i x hi
   by_cases h:z1W m x = true
   ·exact h
   ·rw [if_neg h] at this; cases this
  rw [this]
  rfl
theorem z8N {m:z6} (h0:(m.Rows.length:Int) ≤ 64) (h1:m.Inputs ≤ 16):loop (fun s => vg m s) 0 = some (oS (y9 (fun _ r => if z3C m r = true then none else some (1:Int)) m.Rows 0)):=by
 refine yq m.Rows (by omega) _ ?_ ?_
 ·intro i r hr
  have hi:=(List.getElem?_eq_some_iff.1 hr).1
  unfold vg
  have hd:decide ((i:Int) < ((m.Rows.length:Nat):Int)) = true:=by simpa using hi
  rw [hd,cond_true,zT,bdT hr]
  by_cases hlen:(r.length:Int) = m.Inputs
  ·have hne:(((r.length:Nat):Int) != m.Inputs) = false:=by simpa using hlen
   rw [hne,cond_false,bdT (z7g m r (by omega))]
   have:z3C m r = r.all (z1W m):=by simp [z3C,hlen]
   rw [this]
   cases r.all (z1W m) <;> rfl
  ·have hne:(((r.length:Nat):Int) != m.Inputs) = true:=by simpa using hlen
   rw [hne,cond_true]
   have:z3C m r = false:=by simp [z3C,hlen]
   rw [this]; rfl
 ·unfold vg
  simp
theorem z3T (m:z6):y9 (fun _ r => if z3C m r = true then none else some (1:Int)) m.Rows 0 = if m.Rows.all (z3C m) = true then none else some 1:=by
 by_cases h:m.Rows.all (z3C m) = true
 ·rw [if_pos h]
  refine jT fun i r hr => ?_
  rw [if_pos (List.all_eq_true.1 h r (List.mem_of_getElem? hr))]
 ·rw [if_neg h]
  cases hf:y9 (fun _ r => if z3C m r = true then none else some (1:Int)) m.Rows 0 with
  | some q =>
   obtain ⟨i,x,h1,h2⟩:=xp hf
   split at h2
   ·cases h2
   ·exact h2.symm ▸ rfl
  | none =>
   exfalso
   apply h
   rw [List.all_eq_true]
   intro x hx
   obtain ⟨i,hi⟩:=List.getElem?_of_mem hx
   have:=xe hf i x hi
   by_cases h:z3C m x = true
   ·exact h
   ·rw [if_neg h] at this; cases this
theorem VV (m:z6):xS m = some (chk m):=by
 unfold xS chk
 by_cases h1:m.Inputs > 16
 ·simp [h1]
 by_cases h2:m.Outputs > 16
 ·simp [Bool.cond_eq_ite,h1,h2]
 by_cases h3:(m.Rows.length:Int) > 64
 ·simp [Bool.cond_eq_ite,h1,h2,h3]
 rw [if_neg (by simp [Bool.cond_eq_ite,h1,h2,h3])]
 by_cases h4:m.Inputs < 1
 ·simp [Bool.cond_eq_ite,h1,h2,h3,h4]
 by_cases h5:m.Outputs < 1
 ·simp [Bool.cond_eq_ite,h1,h2,h3,h4,h5]
 by_cases h6:m.Rows.length = 0
 ·simp [Bool.cond_eq_ite,h1,h2,h4,h5,h6]
 rw [if_neg (by simp [h4,h5,h6])]
 have h6':decide (((m.Rows.length:Nat):Int) < 1) = false:=by simp; omega
 have e1:decide (m.Inputs > 16) = false:=by simpa using h1
 have e2:decide (m.Outputs > 16) = false:=by simpa using h2
 have e3:decide (((m.Rows.length:Nat):Int) > 64) = false:=by simpa using h3
 have e4:decide (m.Inputs < 1) = false:=by simpa using h4
 have e5:decide (m.Outputs < 1) = false:=by simpa using h5
 simp only [e1,e2,e3,e4,e5,h6',cond_false]
 rw [bdT (z8N (by omega) (by omega)),z3T]
 by_cases h:m.Rows.all (z3C m) = true
 ·rw [if_pos h,if_pos h]; rfl
 ·rw [if_neg h,if_neg h]; rfl
theorem z9J {m:z6} {s:Nat} {r:List zh} (hr:m.Rows[s]? = some r) (hlen:(r.length:Int) = m.Inputs) (h1:m.Inputs ≤ 16):loop (fun q => uk m (s:Int) q) 0 = some (if r.all (z1W m) = true then .inl () else .inr 1):=by
 have hl:loop (fun q => uk m (s:Int) q) 0 = some (oS (y9 (fun _ x => if z1W m x = true then none else some (1:Int)) r 0)):=by
  refine yq r (by omega) _ ?_ ?_
  ·intro i x hx
   have hi:=(List.getElem?_eq_some_iff.1 hx).1
   unfold uk
   have hd:decide ((i:Int) < m.Inputs) = true:=by rw [← hlen]; simpa using hi
   rw [hd,cond_true,zT,bdT hr,zT,bdT hx]
   unfold kB kC z1W
   by_cases a1:x.To = -1
   ·by_cases a2:x.Out = -1
    ·simp [nS,Bool.cond_eq_ite,a1,a2]
    ·simp [nS,Bool.cond_eq_ite,a1,a2]
   ·by_cases a2:x.To < 0
    ·have:¬ 0 ≤ x.To:=by omega
     simp [nS,Bool.cond_eq_ite,a1,a2,this]
    ·by_cases a3:(m.Rows.length:Int) ≤ x.To
     ·have:¬ x.To < (m.Rows.length:Int):=by omega
      simp [nS,Bool.cond_eq_ite,a1,a2,a3,this]
     ·by_cases a4:x.Out < 0
      ·have:¬ 0 ≤ x.Out:=by omega
       simp [nS,Bool.cond_eq_ite,a1,a2,a3,a4,this]
      ·by_cases a5:m.Outputs ≤ x.Out
       ·have:¬ x.Out < m.Outputs:=by omega
        simp [nS,Bool.cond_eq_ite,a1,a2,a3,a4,a5,this]
       ·have b1:0 ≤ x.To:=by omega
        have b2:x.To < (m.Rows.length:Int):=by omega
        have b3:0 ≤ x.Out:=by omega
        have b4:x.Out < m.Outputs:=by omega
        simp [nS,Bool.cond_eq_ite,a1,a2,a3,a4,a5,b1,b2,b3,b4]
  ·unfold uk
   simp [hlen]
 rw [hl]
 by_cases h:r.all (z1W m) = true
 ·rw [if_pos h]
  rw [jT fun i x hx => by rw [if_pos (List.all_eq_true.1 h x (List.mem_of_getElem? hx))]]
  rfl
 ·rw [if_neg h]
  cases hf:y9 (fun _ x => if z1W m x = true then none else some (1:Int)) r 0 with
  | some q =>
   obtain ⟨i,x,h1,h2⟩:=xp hf
   split at h2
   ·cases h2
   ·simp only [Option.some.injEq] at h2; rw [← h2]; rfl
  | none =>
   exfalso
   apply h
   rw [List.all_eq_true]
   intro x hx
   obtain ⟨i,hi⟩:=List.getElem?_of_mem hx
   have:=xe hf i x hi
   by_cases h:z1W m x = true
   ·exact h
   ·rw [if_neg h] at this; cases this
theorem z5V (m:z6):XY m = some (chk m):=by
 unfold XY chk
 by_cases h1:m.Inputs > 16
 ·simp [h1]
 by_cases h2:m.Outputs > 16
 ·simp [Bool.cond_eq_ite,h1,h2]
 by_cases h3:(m.Rows.length:Int) > 64
 ·simp [Bool.cond_eq_ite,h1,h2,h3]
 rw [if_neg (by simp [Bool.cond_eq_ite,h1,h2,h3])]
 by_cases h4:m.Inputs < 1
 ·simp [Bool.cond_eq_ite,h1,h2,h3,h4]
 by_cases h5:m.Outputs < 1
 ·simp [Bool.cond_eq_ite,h1,h2,h3,h4,h5]
 by_cases h6:m.Rows.length = 0
 ·simp [Bool.cond_eq_ite,h1,h2,h4,h5,h6]
 rw [if_neg (by simp [h4,h5,h6])]
 have e1:decide (m.Inputs > 16) = false:=by simpa using h1
 have e2:decide (m.Outputs > 16) = false:=by simpa using h2
 have e3:decide (((m.Rows.length:Nat):Int) > 64) = false:=by simpa using h3
 have e4:decide (m.Inputs < 1) = false:=by simpa using h4
 have e5:decide (m.Outputs < 1) = false:=by simpa using h5
 have e6:(((m.Rows.length:Nat):Int) == 0) = false:=by simp; intro h; rw [h] at h6; exact h6 rfl
 simp only [e1,e2,e3,e4,e5,e6,cond_false]
 have hl:loop (fun s => j4 m s) 0 = some (oS (y9 (fun _ r => if z3C m r = true then none else some (1:Int)) m.Rows 0)):=by
  refine yq m.Rows (by omega) _ ?_ ?_
  ·intro i r hr
   have hi:=(List.getElem?_eq_some_iff.1 hr).1
   unfold j4
   have hd:decide ((i:Int) < ((m.Rows.length:Nat):Int)) = true:=by simpa using hi
   rw [hd,cond_true,zT,bdT hr]
   by_cases hlen:(r.length:Int) = m.Inputs
   ·have hne:(((r.length:Nat):Int) != m.Inputs) = false:=by simpa using hlen
    rw [hne,cond_false,bdT (z9J hr hlen (by omega))]
    have:z3C m r = r.all (z1W m):=by simp [z3C,hlen]
    rw [this]
    cases r.all (z1W m) <;> rfl
   ·have hne:(((r.length:Nat):Int) != m.Inputs) = true:=by simpa using hlen
    rw [hne,cond_true]
    have:z3C m r = false:=by simp [z3C,hlen]
    rw [this]; rfl
  ·unfold j4
   simp
 rw [bdT hl,z3T]
 by_cases h:m.Rows.all (z3C m) = true
 ·rw [if_pos h,if_pos h]; rfl
 ·rw [if_neg h,if_neg h]; rfl
structure VM (m:z6):Prop where
 in1:1 ≤ m.Inputs
 in16:m.Inputs ≤ 16
 out1:1 ≤ m.Outputs
 out16:m.Outputs ≤ 16
 len1:1 ≤ m.Rows.length
 len64:m.Rows.length ≤ 64
 row:∀ r ∈ m.Rows,(r.length:Int) = m.Inputs
 edge:∀ r ∈ m.Rows,∀ x ∈ r,(x.To = -1 ∧ x.Out = -1) ∨ (0 ≤ x.To ∧ x.To < (m.Rows.length:Int) ∧ 0 ≤ x.Out ∧ x.Out < m.Outputs)
theorem zjC {m:z6} (h:chk m = 0):VM m:=by
 unfold chk at h
 split at h
 ·cases h
 split at h
 ·cases h
 split at h
 ·rename_i h1 h2 h3
  rw [List.all_eq_true] at h3
  refine ⟨by omega,by omega,by omega,by omega,by omega,by omega,fun r hr => ?_,fun r hr x hx => ?_⟩
  ·have:=h3 r hr
   simp only [z3C,Bool.and_eq_true,decide_eq_true_eq] at this
   exact this.1
  ·have:=h3 r hr
   simp only [z3C,Bool.and_eq_true,decide_eq_true_eq,List.all_eq_true] at this
   have:=this.2 x hx
   simp only [z1W,Bool.or_eq_true,Bool.and_eq_true,beq_iff_eq,decide_eq_true_eq] at this
   rcases this with ⟨a,b⟩ | ⟨⟨⟨a,b⟩,c⟩,d⟩
   ·exact .inl ⟨a,b⟩
   ·exact .inr ⟨a,b,c,d⟩
 ·cases h
theorem z1j {m:z6} (h:VM m):chk m = 0:=by
 unfold chk
 have:=h.in1; have:=h.in16; have:=h.out1; have:=h.out16; have:=h.len1; have:=h.len64
 rw [if_neg (by omega),if_neg (by omega),if_pos]
 rw [List.all_eq_true]
 intro r hr
 simp only [z3C,Bool.and_eq_true,decide_eq_true_eq,List.all_eq_true]
 refine ⟨h.row r hr,fun x hx => ?_⟩
 simp only [z1W,Bool.or_eq_true,Bool.and_eq_true,beq_iff_eq,decide_eq_true_eq]
 rcases h.edge r hr x hx with ⟨a,b⟩ | ⟨a,b,c,d⟩
 ·exact .inl ⟨a,b⟩
 ·exact .inr ⟨⟨⟨a,b⟩,c⟩,d⟩
def kk (m:z6):Nat:=m.Inputs.toNat
def E (m:z6) (s i:Nat):zh:=((m.Rows[s]?.getD [])[i]?).getD ⟨-1,-1⟩
section
variable {m:z6} (h:VM m)
include h
theorem VM.kk_eq:((kk m:Nat):Int) = m.Inputs:=by have:=h.in1; unfold kk; omega
theorem VM.kk_le:kk m ≤ 16:=by have:=h.in16; unfold kk; omega
theorem VM.rowAt {s:Nat} (hs:s < m.Rows.length):∃ r,m.Rows[s]? = some r ∧ r.length = kk m ∧ ∀ i,i < kk m → r[i]? = some (E m s i):=by
 have hr:=List.getElem?_eq_getElem hs
 have hl:=h.row _ (List.getElem_mem hs)
 have hl':m.Rows[s].length = kk m:=by unfold kk; omega
 refine ⟨_,hr,hl',fun i hi => ?_⟩
 have hi':i < m.Rows[s].length:=by omega
 unfold E
 rw [hr]
 simp only [Option.getD_some]
 rw [List.getElem?_eq_getElem hi']
 rfl
theorem VM.edgeAt {s i:Nat} (hs:s < m.Rows.length) (hi:i < kk m):((E m s i).To = -1 ∧ (E m s i).Out = -1) ∨ (0 ≤ (E m s i).To ∧ (E m s i).To < (m.Rows.length:Int) ∧ 0 ≤ (E m s i).Out ∧ (E m s i).Out < m.Outputs):=by
 obtain ⟨r,h1,_,h2⟩:=h.rowAt hs
 exact h.edge r (List.mem_of_getElem? h1) _ (List.mem_of_getElem? (h2 i hi))
theorem VM.ret_edge {s i:Nat} (hs:s < m.Rows.length) (hi:i < kk m) {β:Type} {f:zh → Option β} {Q:β → Prop} (q:Ret (f (E m s i)) Q) :
  Ret (Option.bind (idx m.Rows (s:Int)) fun r => Option.bind (idx r (i:Int)) f) Q:=by
 obtain ⟨r,h1,_,h2⟩:=h.rowAt hs
 rw [zT,h1,Option.bind_some,zT,h2 i hi,Option.bind_some]
 exact q
theorem VM.edge_eq {s i:Nat} (hs:s < m.Rows.length) (hi:i < kk m) {β:Type} {f:zh → Option β} :
  (Option.bind (idx m.Rows (s:Int)) fun r => Option.bind (idx r (i:Int)) f) = f (E m s i):=by
 obtain ⟨r,h1,_,h2⟩:=h.rowAt hs
 rw [zT,h1,Option.bind_some,zT,h2 i hi,Option.bind_some]
end
section
variable {K V:Type} [BEq K] [LawfulBEq K]
theorem z1R (l:List (K × V)) (x y:K) (v:V):z1c (z8B l x v) y = if (x == y) = true then some v else z1c l y:=by
 induction l with
 | nil => simp only [z8B,z1c]
 | cons p l ih =>
  simp only [z8B]
  by_cases h:p.1 = x
  ·rw [if_pos (by simpa using h)]
   simp only [z1c]
   by_cases q:x = y
   ·rw [if_pos (by simpa using q),if_pos (by simpa using q)]
   ·rw [if_neg (by simpa using q),if_neg (by simpa using q),if_neg (by rw [h]; simpa using q)]
  ·rw [if_neg (by simpa using h)]
   simp only [z1c,ih]
   by_cases q:p.1 = y
   ·have q':¬ x = y:=by rintro rfl; exact h q
    have e1:(p.1 == y) = true:=by simpa using q
    have e2:(x == y) = false:=by simpa using q'
    simp [e1,e2]
   ·have e1:(p.1 == y) = false:=by simpa using q
    simp [e1]
end
section
variable {S:Type}
def z1F (k:Nat) (bad:S → Nat → Bool) (nx:S → Nat → Option S):S → List Nat → Prop
 | _,[] => False
 | p,[i] => i < k ∧ bad p i = true
 | p,i :: w => i < k ∧ bad p i = false ∧ ∃ q,nx p i = some q ∧ z1F k bad nx q w
variable {k:Nat} {bad:S → Nat → Bool} {nx:S → Nat → Option S} {p0:S}
def zd4:List Nat → List Nat → Prop
 | [],_ => True
 | i :: u,j :: v => i < j ∨ i = j ∧ zd4 u v
 | _ :: _,[] => False
theorem z91:∀ {w:List Nat} {p:S},z1F k bad nx p w → ∀ x ∈ w,x < k
 | [],_,h => h.elim
 | [i],_,h => by simpa using h.1
 | i :: j :: w,_,⟨hi,_,q,_,h⟩ => by
  intro x hx
  rcases List.mem_cons.1 hx with rfl | hx
  ·exact hi
  ·exact z91 h x hx
def Mk (k:Nat) (bad:S → Nat → Bool) (nx:S → Nat → Option S):Nat → S → Prop
 | 0,_ => False
 | n + 1,p => Mk k bad nx n p ∨ ∃ i,i < k ∧ (bad p i = true ∨ ∃ q,nx p i = some q ∧ Mk k bad nx n q)
theorem Mk.mono {n m:Nat} {p:S} (h:Mk k bad nx n p) (hm:n ≤ m):Mk k bad nx m p:=by
 induction hm with
 | refl => exact h
 | step _ ih => exact .inl ih
theorem Mk.tell:∀ {n:Nat} {p:S},Mk k bad nx n p → ∃ w,z1F k bad nx p w ∧ w.length ≤ n
 | 0,_,h => h.elim
 | n + 1,p,.inl h => by
  obtain ⟨w,h1,h2⟩:=Mk.tell h
  exact ⟨w,h1,by omega⟩
 | n + 1,p,.inr ⟨i,hi,h⟩ => by
  by_cases hb:bad p i = true
  ·exact ⟨[i],⟨hi,hb⟩,by simp⟩
  ·rcases h with h | ⟨q,hq,h⟩
   ·exact (hb h).elim
   ·obtain ⟨w,h1,h2⟩:=Mk.tell h
    refine ⟨i :: w,?_,by simp; omega⟩
    cases w with
    | nil => exact h1.elim
    | cons j w => exact ⟨hi,by simpa using hb,q,hq,h1⟩
theorem UH:∀ {w:List Nat} {p:S},z1F k bad nx p w → Mk k bad nx w.length p
 | [],_,h => h.elim
 | [i],p,h => .inr ⟨i,h.1,.inl h.2⟩
 | i :: j :: w,p,⟨hi,hb,q,hn,h⟩ => .inr ⟨i,hi,.inr ⟨q,hn,UH h⟩⟩
end
theorem Ju:∀ (n:Nat) (l:List Nat),l.Nodup → (∀ x ∈ l,x < n) → l.length ≤ n
 | 0,l,_,h => by
  cases l with
  | nil => simp
  | cons x l => have:=h x (by simp); omega
 | n + 1,l,hd,h => by
  by_cases hm:n ∈ l
  ·have h1:=List.length_erase_of_mem hm
   have h2:=Ju n (l.erase n) (hd.erase n) fun x hx => by
    have h3:=(hd.mem_erase_iff).1 hx
    have:=h x h3.2
    have:=h3.1
    omega
   have:0 < l.length:=List.length_pos_of_mem hm
   omega
  ·have:=Ju n l hd fun x hx => by
    have:=h x hx
    have:x ≠ n:=fun e => hm (e ▸ hx)
    omega
   omega
def YD (a b:z6) (p:Nat × Nat) (i:Nat):Bool:=(E a p.1 i).Out != (E b p.2 i).Out
def nxP (a b:z6) (p:Nat × Nat) (i:Nat):Option (Nat × Nat):=if 0 ≤ (E a p.1 i).To ∧ 0 ≤ (E b p.2 i).To then some ((E a p.1 i).To.toNat,(E b p.2 i).To.toNat) else none
theorem z2Z {α:Type} {p q:α → Bool}:∀ {l:List α},(∀ x ∈ l,p x = true → q x = true) → (∃ x ∈ l,q x = true ∧ p x = false) → l.countP p < l.countP q
 | [],_,⟨x,hx,_⟩ => by cases hx
 | y :: l,h,⟨x,hx,h1,h2⟩ => by
  have hm:l.countP p ≤ l.countP q:=List.countP_mono_left fun z hz => h z (List.mem_cons_of_mem _ hz)
  simp only [List.countP_cons]
  rcases List.mem_cons.1 hx with rfl | hx
  ·simp only [h1,h2,if_true,Bool.false_eq_true,if_false]
   omega
  ·have:=z2Z (fun z hz => h z (List.mem_cons_of_mem _ hz)) ⟨x,hx,h1,h2⟩
   cases hp:p y with
   | true => simp only [h y (by simp) hp,if_true]; omega
   | false =>
    simp only [Bool.false_eq_true,if_false]
    split <;> omega
open Classical in
def zdi (N:Nat) (R:Nat → Nat → Prop):Nat:=(List.range N).countP fun s => decide (∀ t,t < s → ¬ R s t)
theorem zm7 {N:Nat} (hN:0 < N) (R:Nat → Nat → Nat → Prop) (symm:∀ k s t,s < N → t < N → R k s t → R k t s) (trans:∀ k s t u,s < N → t < N → u < N → R k s t → R k t u → R k s u)
  (refl:∀ k s,s < N → R k s s) (mono:∀ k s t,s < N → t < N → R (k + 1) s t → R k s t) (stat:∀ k,(∀ s t,s < N → t < N → R k s t → R (k + 1) s t) → ∀ s t,s < N → t < N → R (k + 1) s t → R (k + 2) s t) :
  ∀ s t,s < N → t < N → R (N - 1) s t → ∀ j,R j s t:=by
 classical
 have step:∀ k,(¬ ∀ s t,s < N → t < N → R k s t → R (k + 1) s t) → zdi N (R k) < zdi N (R (k + 1)):=by
  intro k hk
  simp only [Classical.not_forall] at hk
  obtain ⟨s,t,hs,ht,h1,h2⟩:=hk
  unfold zdi
  refine z2Z (fun x hx => ?_) ?_
  ·have hx:=List.mem_range.1 hx
   simp only [decide_eq_true_eq]
   exact fun h t ht q => h t ht (mono k x t hx (by omega) q)
  ·
   have hmin:∃ z,z < N ∧ R k z s ∧ ∀ y,y < z → ¬ R k y s:=by
    have key:∀ n,∀ z,z ≤ n → z < N → R k z s → ∃ z,z < N ∧ R k z s ∧ ∀ y,y < z → ¬ R k y s:=by
     intro n
     induction n with
     | zero => intro z hz hzN hr; exact ⟨z,hzN,hr,fun y hy => by omega⟩
     | succ n ih =>
      intro z hz hzN hr
      by_cases q:∃ y,y < z ∧ R k y s
      ·obtain ⟨y,y1,y2⟩:=q
       exact ih y (by omega) (by omega) y2
      ·exact ⟨z,hzN,hr,fun y hy g => q ⟨y,hy,g⟩⟩
    exact key s s (Nat.le_refl _) hs (refl k s hs)
   obtain ⟨z,hz,hzs,hzm⟩:=hmin
   have hzt:R k z t:=trans k z s t hz hs ht hzs h1
   obtain ⟨u,hu,hzu,hne⟩:∃ u,u < N ∧ R k z u ∧ ¬ R (k + 1) z u:=by
    by_cases q:R (k + 1) z s
    ·by_cases g:R (k + 1) z t
     ·exact (h2 (trans (k + 1) s z t hs hz ht (symm _ _ _ hz hs q) g)).elim
     ·exact ⟨t,ht,hzt,g⟩
    ·exact ⟨s,hs,hzs,q⟩
   have hmin:∃ y,y < N ∧ R (k + 1) y u ∧ ∀ x,x < y → ¬ R (k + 1) x u:=by
    have key:∀ n,∀ z,z ≤ n → z < N → R (k + 1) z u → ∃ z,z < N ∧ R (k + 1) z u ∧ ∀ y,y < z → ¬ R (k + 1) y u:=by
     intro n
     induction n with
     | zero => intro z hz hzN hr; exact ⟨z,hzN,hr,fun y hy => by omega⟩
     | succ n ih =>
      intro z hz hzN hr
      by_cases q:∃ y,y < z ∧ R (k + 1) y u
      ·obtain ⟨y,y1,y2⟩:=q
       exact ih y (by omega) (by omega) y2
      ·exact ⟨z,hzN,hr,fun y hy g => q ⟨y,hy,g⟩⟩
    exact key u u (Nat.le_refl _) hu (refl _ u hu)
   obtain ⟨y,hy,hyu,hym⟩:=hmin
   have hyk:R k y u:=mono k y u hy hu hyu
   have hyz:R k y z:=trans k y u z hy hu hz hyk (symm _ _ _ hz hu hzu)
   have hzy:z < y:=by
    rcases Nat.lt_trichotomy z y with g | g | g
    ·exact g
    ·subst g; exact (hne hyu).elim
    ·exact (hzm y g (trans k y z s hy hz hs hyz hzs)).elim
   refine ⟨y,List.mem_range.2 hy,?_,?_⟩
   ·simp only [decide_eq_true_eq]
    intro x hx q
    exact hym x hx (trans (k + 1) x y u (by omega) hy hu (symm _ _ _ hy (by omega) q) hyu)
   ·simp only [decide_eq_false_iff_not]
    intro q
    exact q z hzy hyz
 have le:∀ k,zdi N (R k) ≤ N:=by
  intro k
  unfold zdi
  refine Nat.le_trans (List.countP_le_length) ?_
  simp
 have one:∀ k,1 ≤ zdi N (R k):=by
  intro k
  unfold zdi
  refine List.countP_pos_iff.2 ⟨0,List.mem_range.2 hN,?_⟩
  simp
 have rest:∃ k,k < N ∧ ∀ s t,s < N → t < N → R k s t → R (k + 1) s t:=by
  refine Classical.byContradiction fun hno => ?_
  have:∀ k,k ≤ N → k + 1 ≤ zdi N (R k):=by
   intro k
   induction k with
   | zero => intro _; exact one 0
   | succ k ih =>
    intro hk
    have:=step k fun h => hno ⟨k,by omega,h⟩
    have:=ih (by omega)
    omega
  have:=this N (Nat.le_refl _)
  have:=le N
  omega
 obtain ⟨k,hk,hst⟩:=rest
 have up:∀ d,∀ s t,s < N → t < N → R (k + d) s t → R (k + d + 1) s t:=by
  intro d
  induction d with
  | zero => exact hst
  | succ d ih => exact stat (k + d) ih
 have down:∀ d j s t,s < N → t < N → R (j + d) s t → R j s t:=by
  intro d
  induction d with
  | zero => intro j s t _ _ h; exact h
  | succ d ih => intro j s t hs ht h; exact ih j s t hs ht (mono _ s t hs ht h)
 intro s t hs ht h j
 have hk':R k s t:=down (N - 1 - k) k s t hs ht (by rw [show k + (N - 1 - k) = N - 1 by omega]; exact h)
 have far:∀ d,R (k + d) s t:=by
  intro d
  induction d with
  | zero => exact hk'
  | succ d ih => exact up d s t hs ht ih
 exact down k j s t hs ht (by rw [Nat.add_comm]; exact far j)
section
variable {S S':Type} {k:Nat} {bad:S → Nat → Bool} {nx:S → Nat → Option S} {bad':S' → Nat → Bool} {nx':S' → Nat → Option S'} (φ:S → S') (I:S → Prop)
 (hI:∀ p i q,I p → i < k → nx p i = some q → I q) (hb:∀ p i,I p → i < k → bad' (φ p) i = bad p i) (hn:∀ p i,I p → i < k → nx' (φ p) i = (nx p i).map φ)
include hI hb hn
end
structure WM (m:z6):Prop where
 in1:1 ≤ m.Inputs
 in16:m.Inputs ≤ 16
 len1:1 ≤ m.Rows.length
 len:m.Rows.length ≤ 128
 row:∀ r ∈ m.Rows,(r.length:Int) = m.Inputs
 edge:∀ r ∈ m.Rows,∀ x ∈ r,(x.To = -1 ∧ x.Out = -1) ∨ (0 ≤ x.To ∧ x.To < (m.Rows.length:Int) ∧ 0 ≤ x.Out)
theorem VM.wm {m:z6} (h:VM m):WM m:=⟨h.in1,h.in16,h.len1,by have:=h.len64; omega,h.row,fun r hr x hx => by
 rcases h.edge r hr x hx with g | ⟨g1,g2,g3,_⟩
 ·exact .inl g
 ·exact .inr ⟨g1,g2,g3⟩⟩
section
variable {m:z6} (h:WM m)
include h
theorem WM.kk_eq:((kk m:Nat):Int) = m.Inputs:=by have:=h.in1; unfold kk; omega
theorem WM.kk_le:kk m ≤ 16:=by have:=h.in16; unfold kk; omega
theorem WM.rowAt {s:Nat} (hs:s < m.Rows.length):∃ r,m.Rows[s]? = some r ∧ r.length = kk m ∧ ∀ i,i < kk m → r[i]? = some (E m s i):=by
 have hr:=List.getElem?_eq_getElem hs
 have hl:=h.row _ (List.getElem_mem hs)
 have hl':m.Rows[s].length = kk m:=by unfold kk; omega
 refine ⟨_,hr,hl',fun i hi => ?_⟩
 have hi':i < m.Rows[s].length:=by omega
 unfold E
 rw [hr]
 simp only [Option.getD_some]
 rw [List.getElem?_eq_getElem hi']
 rfl
theorem WM.edgeAt {s i:Nat} (hs:s < m.Rows.length) (hi:i < kk m):((E m s i).To = -1 ∧ (E m s i).Out = -1) ∨ (0 ≤ (E m s i).To ∧ (E m s i).To < (m.Rows.length:Int) ∧ 0 ≤ (E m s i).Out):=by
 obtain ⟨r,h1,_,h2⟩:=h.rowAt hs
 exact h.edge r (List.mem_of_getElem? h1) _ (List.mem_of_getElem? (h2 i hi))
theorem WM.edge_eq {s i:Nat} (hs:s < m.Rows.length) (hi:i < kk m) {β:Type} {f:zh → Option β} :
  (Option.bind (idx m.Rows (s:Int)) fun r => Option.bind (idx r (i:Int)) f) = f (E m s i):=by
 obtain ⟨r,h1,_,h2⟩:=h.rowAt hs
 rw [zT,h1,Option.bind_some,zT,h2 i hi,Option.bind_some]
theorem WM.nx_in {p:Nat × Nat} {i:Nat} {q:Nat × Nat} (h1:p.1 < m.Rows.length) (h2:p.2 < m.Rows.length) (hi:i < kk m) (hq:nxP m m p i = some q):q.1 < m.Rows.length ∧ q.2 < m.Rows.length:=by
 unfold nxP at hq
 split at hq
 ·rename_i hc
  cases hq
  have a:=h.edgeAt h1 hi
  have b:=h.edgeAt h2 hi
  simp only
  omega
 ·cases hq
end
def mkb (k:Nat) (bad:Nat × Nat → Nat → Bool) (nx:Nat × Nat → Nat → Option (Nat × Nat)):Nat → Nat × Nat → Bool
 | 0,_ => false
 | n + 1,p => mkb k bad nx n p || (List.range k).any fun i => bad p i || (match nx p i with | some q => mkb k bad nx n q | none => false)
theorem z4S (k:Nat) (bad:Nat × Nat → Nat → Bool) (nx:Nat × Nat → Nat → Option (Nat × Nat)):∀ (n:Nat) (p:Nat × Nat),mkb k bad nx n p = true ↔ Mk k bad nx n p
 | 0,p => by simp [mkb,Mk]
 | n + 1,p => by
  simp only [mkb,Mk,Bool.or_eq_true,List.any_eq_true,List.mem_range,z4S k bad nx n p]
  constructor
  ·rintro (h | ⟨i,hi,h | h⟩)
   ·exact .inl h
   ·exact .inr ⟨i,hi,.inl h⟩
   ·cases hq:nx p i with
    | none => rw [hq] at h; cases h
    | some q => rw [hq] at h; exact .inr ⟨i,hi,.inr ⟨q,hq,(z4S k bad nx n q).1 h⟩⟩
  ·rintro (h | ⟨i,hi,h | ⟨q,hq,h⟩⟩)
   ·exact .inl h
   ·exact .inr ⟨i,hi,.inl h⟩
   ·exact .inr ⟨i,hi,.inr (by rw [hq]; exact (z4S k bad nx n q).2 h)⟩
def tab (N:Nat) (f:Nat → Nat → Bool):List (List Bool):=(List.range N).map fun s => (List.range N).map fun t => f s t
theorem z95 {N s t:Nat} (f:Nat → Nat → Bool) (hs:s < N) (ht:t < N) {β:Type} {g:Bool → Option β}:(Option.bind (idx (tab N f) (s:Int)) fun r => Option.bind (idx r (t:Int)) g) = g (f s t):=by
 have e1:(tab N f)[s]? = some ((List.range N).map fun t => f s t):=by simp [tab,hs]
 have e2:((List.range N).map fun t => f s t)[t]? = some (f s t):=by simp [ht]
 rw [zT,e1,Option.bind_some,zT,e2,Option.bind_some]
theorem z9n {α:Type} (N t:Nat) (g:Nat → α) (v:α):((List.range N).map g).set t v = (List.range N).map fun x => if x = t then v else g x:=by
 refine List.ext_getElem (by simp) fun n h1 h2 => ?_
 simp only [List.getElem_set,List.getElem_map,List.getElem_range]
 by_cases e:t = n
 ·rw [if_pos e,if_pos e.symm]
 ·rw [if_neg e,if_neg (Ne.symm e)]
def z6K (m:z6) (f:Nat → Nat → Bool) (p:Nat × Nat) (i:Nat):Bool:=YD m m p i || (match nxP m m p i with | some q => f q.1 q.2 | none => false)
theorem zcY {m:z6} (h:WM m) (f:Nat → Nat → Bool) {s t:Nat} (hs:s < m.Rows.length) (ht:t < m.Rows.length) :
  XX m (tab m.Rows.length f) (s:Int) (t:Int) = some (if (List.range (kk m)).any (z6K m f (s,t)) = true then 1 else 0):=by
 have hk:=h.kk_eq
 have k16:=h.kk_le
 have hl:loop (fun q => qY m (tab m.Rows.length f) (s:Int) (t:Int) q) 0 = some (oS (y9 (fun _ i => if z6K m f (s,t) i = true then some (1:Int) else none) (List.range (kk m)) 0)):=by
  refine yq (List.range (kk m)) (by simp; omega) _ ?_ ?_
  ·intro i x hx
   have hi:i < kk m:=by have:=(List.getElem?_eq_some_iff.1 hx).1; simpa using this
   have:x = i:=by rw [List.getElem?_range hi] at hx; exact (Option.some.inj hx).symm
   subst this
   unfold qY qZ
   have hd:decide ((x:Int) < m.Inputs) = true:=by rw [← hk]; simpa using hi
   rw [hd,cond_true,h.edge_eq hs hi,h.edge_eq ht hi]
   have e1:=h.edgeAt hs hi
   have e2:=h.edgeAt ht hi
   by_cases hbad:(E m s x).Out = (E m t x).Out
   ·have n1:((E m s x).Out != (E m t x).Out) = false:=by simpa using hbad
    rw [n1,cond_false]
    by_cases t1:(E m s x).To ≥ 0
    ·by_cases t2:(E m t x).To ≥ 0
     ·have hnx:nxP m m (s,t) x = some ((E m s x).To.toNat,(E m t x).To.toNat):=by unfold nxP; rw [if_pos ⟨t1,t2⟩]
      have hin:=h.nx_in hs ht hi hnx
      have c1:(E m s x).To = (((E m s x).To.toNat:Nat):Int):=by omega
      have c2:(E m t x).To = (((E m t x).To.toNat:Nat):Int):=by omega
      have ht1:z6K m f (s,t) x = f (E m s x).To.toNat (E m t x).To.toNat:=by
       unfold z6K YD
       rw [hnx]
       simp only [n1,Bool.false_or]
      rw [decide_eq_true t1,decide_eq_true t2]
      simp only [cond_true]
      have:=z95 f hin.1 hin.2 (g:=fun v => bif v then some (LR.done (Sum.inr (1:Int)):LR Int (Unit ⊕ Int)) else some (LR.next (w64 ((x:Int) + 1))))
      rw [← c1,← c2] at this
      rw [this,ht1]
      cases f (E m s x).To.toNat (E m t x).To.toNat <;> rfl
     ·have ht1:z6K m f (s,t) x = false:=by
       unfold z6K YD nxP
       rw [if_neg (by simp only; omega)]
       simp only [n1,Bool.false_or]
      rw [decide_eq_true t1,decide_eq_false t2,ht1]
      rfl
    ·have ht1:z6K m f (s,t) x = false:=by
      unfold z6K YD nxP
      rw [if_neg (by simp only; omega)]
      simp only [n1,Bool.false_or]
     rw [decide_eq_false t1,ht1]
     rfl
   ·have n1:((E m s x).Out != (E m t x).Out) = true:=by simpa using hbad
    have ht1:z6K m f (s,t) x = true:=by
     unfold z6K YD
     simp only [n1,Bool.true_or]
    rw [n1,ht1]
    rfl
  ·unfold qY
   rw [List.length_range,hk]
   simp
 unfold XX
 rw [bdT hl]
 cases hf:y9 (fun (_:Nat) i => if z6K m f (s,t) i = true then some (1:Int) else none) (List.range (kk m)) 0 with
 | some q =>
  obtain ⟨i,x,h1,h2⟩:=xp hf
  split at h2
  ·rename_i hx
   cases h2
   have:(List.range (kk m)).any (z6K m f (s,t)) = true:=List.any_eq_true.2 ⟨x,List.mem_of_getElem? h1,hx⟩
   rw [if_pos this]
   rfl
  ·cases h2
 | none =>
  have:¬ (List.range (kk m)).any (z6K m f (s,t)) = true:=by
   rw [List.any_eq_true]
   rintro ⟨x,hx,hx2⟩
   obtain ⟨i,hi⟩:=List.getElem?_of_mem hx
   have:=xe hf i x hi
   rw [if_pos hx2] at this
   cases this
  rw [if_neg this]
  rfl
theorem z9I (N:Nat):List.replicate ((N:Nat):Int).toNat false = (List.range N).map fun _ => false:=by
 refine List.ext_getElem (by simp) fun n h1 h2 => ?_
 simp
def Wq (m:z6) (f:Nat → Nat → Bool) (s t:Nat):Bool:=f s t || (List.range (kk m)).any (z6K m f (s,t))
theorem zbY {m:z6} (h:WM m) (f:Nat → Nat → Bool):loop (fun q => vz m (tab m.Rows.length f) q.1 q.2) (([]:List (List Bool)),0) = some (tab m.Rows.length (Wq m f)):=by
 have l128:=h.len
 have row:∀ (s:Nat),s < m.Rows.length → loop (fun q => vw m (tab m.Rows.length f) (s:Int) q.1 q.2) (((List.range s).map fun s => (List.range m.Rows.length).map fun t => Wq m f s t) ++ [(List.range m.Rows.length).map fun _ => false],0) = some ((List.range (s + 1)).map fun s => (List.range m.Rows.length).map fun t => Wq m f s t):=by
  intro s hs
  have hst:=kS (step:=fun q => vw m (tab m.Rows.length f) (s:Int) q.1 q.2) (fun t:Nat => (((List.range s).map fun s => (List.range m.Rows.length).map fun t => Wq m f s t) ++ [(List.range m.Rows.length).map fun t' => if t' < t then Wq m f s t' else false],(t:Int))) m.Rows.length (t:=(List.range (s + 1)).map fun s => (List.range m.Rows.length).map fun t => Wq m f s t) (by omega) ?_ ?_
  ·simpa using hst
  ·intro t ht
   unfold vw
   have hd:decide ((t:Int) < ((m.Rows.length:Nat):Int)) = true:=by simpa using ht
   have hw:w64 ((t:Int) + 1) = ((t + 1:Nat):Int):=by rw [yl (by omega) (by omega)]; rfl
   simp only [hd,cond_true]
   have e1:(((List.range s).map fun s => (List.range m.Rows.length).map fun t => Wq m f s t) ++ [(List.range m.Rows.length).map fun t' => if t' < t then Wq m f s t' else false])[s]? = some ((List.range m.Rows.length).map fun t' => if t' < t then Wq m f s t' else false):=by
    rw [List.getElem?_append_right (by simp)]
    simp
   have e2:∀ x,((List.range m.Rows.length).map fun t' => if t' < t then Wq m f s t' else false)[t]? = some x ↔ x = false:=by
    intro x
    simp [ht,eq_comm]
   have e2':=(e2 false).2 rfl
   have fin:∀ v:Bool,v = Wq m f s t → (((List.range s).map fun s => (List.range m.Rows.length).map fun t => Wq m f s t) ++ [(List.range m.Rows.length).map fun t' => if t' < t then Wq m f s t' else false]).set s (((List.range m.Rows.length).map fun t' => if t' < t then Wq m f s t' else false).set t v) = ((List.range s).map fun s => (List.range m.Rows.length).map fun t => Wq m f s t) ++ [(List.range m.Rows.length).map fun t' => if t' < t + 1 then Wq m f s t' else false]:=by
    intro v hv
    rw [List.set_append,if_neg (by simp),z9n]
    simp only [List.length_map,List.length_range,Nat.sub_self,List.set_cons_zero]
    congr 3
    funext x
    by_cases e:x = t
    ·subst e; rw [if_pos rfl,if_pos (by omega)]; exact hv
    ·rw [if_neg e]
     by_cases g:x < t
     ·rw [if_pos g,if_pos (by omega)]
     ·rw [if_neg g,if_neg (by omega)]
   rw [zT,bdT e1,z95 f hs ht]
   cases hf:f s t with
   | true =>
    simp only [cond_true]
    rw [zT,bdT e2',hw,Int.toNat_natCast,Int.toNat_natCast,fin true (by simp [Wq,hf])]
   | false =>
    simp only [cond_false]
    rw [bdT (zcY h f hs ht),zT,bdT e2',hw,Int.toNat_natCast,Int.toNat_natCast,fin _ ?_]
    unfold Wq
    rw [hf,Bool.false_or]
    cases (List.range (kk m)).any (z6K m f (s,t)) <;> rfl
  ·unfold vw
   simp only [Int.lt_irrefl,decide_false,cond_false]
   congr 3
   rw [List.range_succ,List.map_append]
   congr 1
   simp only [List.map_cons,List.map_nil]
   congr 1
   refine List.map_congr_left fun x hx => ?_
   rw [if_pos (List.mem_range.1 hx)]
 have:=kS (step:=fun q => vz m (tab m.Rows.length f) q.1 q.2) (fun s:Nat => ((List.range s).map fun s => (List.range m.Rows.length).map fun t => Wq m f s t,(s:Int))) m.Rows.length (t:=tab m.Rows.length (Wq m f)) (by omega) ?_ ?_
 ·exact this
 ·intro s hs
  unfold vz ZC
  have hd:decide ((s:Int) < ((m.Rows.length:Nat):Int)) = true:=by simpa using hs
  have hw:w64 ((s:Int) + 1) = ((s + 1:Nat):Int):=by rw [yl (by omega) (by omega)]; rfl
  simp only [hd,cond_true]
  rw [gdT (by omega),gdT (by simp; omega),z9I,bdT (row s hs),hw]
 ·unfold vz
  simp only [Int.lt_irrefl,decide_false,cond_false]
  rfl
def mrk (m:z6) (n s t:Nat):Bool:=mkb (kk m) (YD m m) (nxP m m) n (s,t)
theorem zc8 (m:z6) (n:Nat):Wq m (mrk m n) = mrk m (n + 1):=by
 funext s t
 unfold Wq mrk
 simp only [mkb]
 congr 1
theorem za3 {m:z6} (h:WM m) (n:Nat) (hn:n ≤ 1000000):YI m (n:Int) = some (tab m.Rows.length (mrk m n)):=by
 have l128:=h.len
 have l9:loop (fun q => vu m q.1 q.2) (([]:List (List Bool)),0) = some (tab m.Rows.length (mrk m 0)):=by
  have:=kS (step:=fun q => vu m q.1 q.2) (fun s:Nat => ((List.range s).map fun _ => (List.range m.Rows.length).map fun _ => false,(s:Int))) m.Rows.length (t:=tab m.Rows.length (mrk m 0)) (by omega) ?_ ?_
  ·exact this
  ·intro s hs
   unfold vu
   have hd:decide ((s:Int) < ((m.Rows.length:Nat):Int)) = true:=by simpa using hs
   have hw:w64 ((s:Int) + 1) = ((s + 1:Nat):Int):=by rw [yl (by omega) (by omega)]; rfl
   simp only [hd,cond_true]
   rw [gdT (by omega),gdT (by simp; omega),z9I,hw,List.range_succ,List.map_append]
   rfl
  ·unfold vu
   simp only [Int.lt_irrefl,decide_false,cond_false]
   rfl
 have l3:=kS (step:=fun q => vA m (n:Int) q.1 q.2) (fun r:Nat => (tab m.Rows.length (mrk m r),(r:Int))) n (t:=tab m.Rows.length (mrk m n)) (by omega) ?_ ?_
 ·unfold YI ZH ZG
  rw [bdT l9]
  have l3':loop (fun q => vA m (n:Int) q.1 q.2) (tab m.Rows.length (mrk m 0),0) = some (tab m.Rows.length (mrk m n)):=l3
  rw [bdT l3']
 ·intro r hr
  unfold vA ZD ZF
  have hd:decide ((r:Int) < (n:Int)) = true:=by simpa using hr
  have hw:w64 ((r:Int) + 1) = ((r + 1:Nat):Int):=by rw [yl (by omega) (by omega)]; rfl
  simp only [hd,cond_true]
  rw [bdT (zbY h (mrk m r)),zc8,hw]
 ·unfold vA
  simp only [Int.lt_irrefl,decide_false,cond_false]
theorem z1Q {m:z6} (h:WM m) {s t:Nat} (hs:s < m.Rows.length) (ht:t < m.Rows.length) {j:Nat} (hj:Mk (kk m) (YD m m) (nxP m m) j (s,t)):Mk (kk m) (YD m m) (nxP m m) (m.Rows.length - 1) (s,t):=by
 refine Classical.byContradiction fun hno => ?_
 have same:∀ {p:Nat × Nat} {i:Nat},p.1 < m.Rows.length → p.2 < m.Rows.length → i < kk m → YD m m p i = false → ((E m p.1 i).To ≥ 0 ↔ (E m p.2 i).To ≥ 0):=by
  intro p i h1 h2 hi hb
  have e:(E m p.1 i).Out = (E m p.2 i).Out:=by simpa [YD] using hb
  have a:=h.edgeAt h1 hi
  have b:=h.edgeAt h2 hi
  omega
 have symm:∀ k s t,Mk (kk m) (YD m m) (nxP m m) k (s,t) → Mk (kk m) (YD m m) (nxP m m) k (t,s):=by
  intro k
  induction k with
  | zero => intro s t h; exact h
  | succ k ih =>
   rintro s t (h | ⟨i,hi,h | ⟨q,hq,h⟩⟩)
   ·exact .inl (ih _ _ h)
   ·exact .inr ⟨i,hi,.inl (by
     unfold YD at h ⊢
     simp only [bne_iff_ne,ne_eq] at h ⊢
     exact fun e => h e.symm)⟩
   ·refine .inr ⟨i,hi,.inr ⟨(q.2,q.1),?_,ih _ _ h⟩⟩
    unfold nxP at hq ⊢
    split at hq
    ·rename_i hc
     cases hq
     rw [if_pos ⟨hc.2,hc.1⟩]
    ·cases hq
 have trans:∀ k s t u,s < m.Rows.length → t < m.Rows.length → u < m.Rows.length → Mk (kk m) (YD m m) (nxP m m) k (s,u) → Mk (kk m) (YD m m) (nxP m m) k (s,t) ∨ Mk (kk m) (YD m m) (nxP m m) k (t,u):=by
  intro k
  induction k with
  | zero => intro s t u _ _ _ h; exact h.elim
  | succ k ih =>
   rintro s t u hs ht hu (g | ⟨i,hi,g | ⟨q,hq,g⟩⟩)
   ·rcases ih s t u hs ht hu g with g | g
    ·exact .inl (.inl g)
    ·exact .inr (.inl g)
   ·cases b1:YD m m (s,t) i with
    | true => exact .inl (.inr ⟨i,hi,.inl b1⟩)
    | false =>
     refine .inr (.inr ⟨i,hi,.inl ?_⟩)
     unfold YD at b1 g ⊢
     simp only [bne_iff_ne,ne_eq,bne_eq_false_iff_eq] at b1 g ⊢
     rw [← b1]
     exact g
   ·cases b1:YD m m (s,t) i with
    | true => exact .inl (.inr ⟨i,hi,.inl b1⟩)
    | false =>
     cases b2:YD m m (t,u) i with
     | true => exact .inr (.inr ⟨i,hi,.inl b2⟩)
     | false =>
      have c1:=same (p:=(s,t)) hs ht hi b1
      have c2:=same (p:=(t,u)) ht hu hi b2
      simp only at c1 c2
      unfold nxP at hq
      split at hq
      ·rename_i hc
       cases hq
       simp only at hc g
       have e1:=h.edgeAt hs hi
       have e2:=h.edgeAt ht hi
       have e3:=h.edgeAt hu hi
       rcases ih (E m s i).To.toNat (E m t i).To.toNat (E m u i).To.toNat (by omega) (by omega) (by omega) g with g | g
       ·exact .inl (.inr ⟨i,hi,.inr ⟨_,by unfold nxP; rw [if_pos ⟨hc.1,by simp only; omega⟩],g⟩⟩)
       ·exact .inr (.inr ⟨i,hi,.inr ⟨_,by unfold nxP; rw [if_pos ⟨by simp only; omega,hc.2⟩],g⟩⟩)
      ·cases hq
 have refl:∀ k s,¬ Mk (kk m) (YD m m) (nxP m m) k (s,s):=by
  intro k
  induction k with
  | zero => intro s h; exact h
  | succ k ih =>
   rintro s (g | ⟨i,hi,g | ⟨q,hq,g⟩⟩)
   ·exact ih s g
   ·simp [YD] at g
   ·unfold nxP at hq
    split at hq
    ·cases hq; exact ih _ g
    ·cases hq
 exact zm7 (N:=m.Rows.length) h.len1 (fun k s t => ¬ Mk (kk m) (YD m m) (nxP m m) k (s,t)) (fun k s t _ _ g q => g (symm k t s q)) (fun k s t u hs ht hu g1 g2 q => by
   rcases trans k s t u hs ht hu q with g | g
   ·exact g1 g
   ·exact g2 g) (fun k s _ => refl k s) (fun k s t _ _ g q => g (.inl q)) (fun k hk s t hs ht g q => by
   rcases q with q | ⟨i,hi,q | ⟨r,hr,q⟩⟩
   ·exact g q
   ·exact g (.inr ⟨i,hi,.inl q⟩)
   ·have hin:=h.nx_in (p:=(s,t)) hs ht hi hr
    have:Mk (kk m) (YD m m) (nxP m m) k r:=Classical.byContradiction fun c => hk r.1 r.2 hin.1 hin.2 c q
    exact g (.inr ⟨i,hi,.inr ⟨r,hr,this⟩⟩)) s t hs ht hno j hj
def nxE (m:z6) (s:Int) (i:Nat):zh:=if s < 0 then ⟨-1,-1⟩ else E m s.toNat i
def rsp (m:z6):Int → List Nat → List Int
 | _,[] => []
 | s,i :: w => (nxE m s i).Out :: rsp m (nxE m s i).To w
def aft (m:z6):Int → List Nat → Int
 | s,[] => s
 | s,i :: w => aft m (nxE m s i).To w
theorem Ku (m:z6):∀ (w:List Nat) (s:Int) (i:Nat),rsp m s (w ++ [i]) = rsp m s w ++ [(nxE m (aft m s w) i).Out] ∧ aft m s (w ++ [i]) = (nxE m (aft m s w) i).To
 | [],s,i => ⟨rfl,rfl⟩
 | j :: w,s,i => by
  have:=Ku m w (nxE m s j).To i
  simp only [List.cons_append,rsp,aft,this.1,this.2,and_self]
theorem z6U (m:z6):∀ (w:List Nat) (s:Int),(rsp m s w).length = w.length
 | [],_ => rfl
 | i :: w,s => by simp [rsp,z6U m w]
def z7n (m:z6) (s:Int):Prop:=-1 ≤ s ∧ s < (m.Rows.length:Int)
theorem zjX {m:z6} (h:VM m) {s:Int} (hs:z7n m s) {i:Nat} (hi:i < kk m):z7n m (nxE m s i).To:=by
 unfold nxE
 have:=h.len1
 by_cases h0:s < 0
 ·rw [if_pos h0]
  unfold z7n
  simp only
  omega
 ·rw [if_neg h0]
  have hl:s.toNat < m.Rows.length:=by have:=hs.2; omega
  have:=h.edgeAt hl hi
  unfold z7n
  omega
theorem zeI {m:z6} (h:VM m) {s:Int} (hs:z7n m s) {i:Nat} (hi:i < kk m):Vl m s (i:Int) = some (nxE m s i) ∧ z7n m (nxE m s i).To:=by
 unfold Vl nxE
 have:=h.len1
 by_cases h0:s < 0
 ·rw [decide_eq_true h0,cond_true,if_pos h0]
  exact ⟨rfl,by unfold z7n; simp only; omega⟩
 ·rw [decide_eq_false h0,cond_false,if_neg h0]
  have hl:s.toNat < m.Rows.length:=by have:=hs.2; omega
  have he:=h.edge_eq hl hi (f:=fun e => some e)
  have hc:((s.toNat:Nat):Int) = s:=by omega
  rw [hc] at he
  refine ⟨he,?_⟩
  have:=h.edgeAt hl hi
  unfold z7n
  omega
theorem zgF {m:z6} (h:VM m) {s:Int} (hs:z7n m s) (w:List Nat) (hw:∀ i ∈ w,i < kk m) (hl:w.length ≤ 100000):UO m s (w.map Int.ofNat) = some (rsp m s w):=by
 have hloop:loop (fun q => YJ m (w.map Int.ofNat) q.1 q.2.1 q.2.2) (s,([]:List Int),0) = some (rsp m s w):=by
  refine Ret.eq (yP (fun q => ∃ k:Nat,q.2.2 = (k:Int) ∧ k ≤ w.length ∧ z7n m q.1 ∧ q.2.1.length = k ∧ q.2.1 ++ rsp m q.1 (w.drop k) = rsp m s w) (fun q => 200000 - q.2.2.toNat) ⟨0,rfl,Nat.zero_le _,hs,rfl,rfl⟩ (by simp) ?_)
  rintro ⟨s',out,k'⟩ ⟨k,hk,hkl,hst,hol,ho⟩
  simp only at hk hst hol ho
  subst hk
  unfold YJ
  rw [zS]
  refine ⟨fun hlt => ?_,fun hge => ?_⟩
  ·have hlt:k < w.length:=by simpa using hlt
   have hx:(w.map Int.ofNat)[k]? = some ((w[k]:Nat):Int):=by simp [hlt]
   have hi:=hw _ (List.getElem_mem hlt)
   have hn:=zeI h hst hi
   have hw1:w64 ((k:Int) + 1) = ((k + 1:Nat):Int):=by rw [yl (by omega) (by omega)]; rfl
   rw [zT,bdT hx,bdT hn.1,gdT (by simp; omega),zg,hw1]
   refine ⟨⟨k + 1,rfl,hlt,hn.2,by simp [hol],?_⟩,by simp only; omega⟩
   rw [← ho,List.drop_eq_getElem_cons hlt]
   simp [rsp]
  ·have:k = w.length:=by simp at hge; omega
   subst this
   rw [zg]
   rw [List.drop_length] at ho
   show out = rsp m s w
   simpa [rsp] using ho
 unfold UO WI
 rw [bdT hloop]
section
variable {N:Nat} {f:Nat → Nat → Bool}
structure zhS (N:Nat) (f:Nat → Nat → Bool) (out:List Int) (n:Int) (s:Nat):Prop where
 len:out.length = s
 sN:s ≤ N
 n0:0 ≤ n
 nS:n ≤ (s:Int)
 lt:∀ (i:Nat) (x:Int),out[i]? = some x → 0 ≤ x ∧ x < n
 cls:∀ (i j:Nat),i < s → j < s → (out[i]? = out[j]? ↔ f i j = false)
theorem zc7 (hN:N ≤ 1000) (hr:∀ s,s < N → f s s = false) (hs:∀ s t,s < N → t < N → f s t = false → f t s = false) (ht:∀ s t u,s < N → t < N → u < N → f s t = false → f t u = false → f s u = false) :
  Ret (jN (tab N f)) fun out => out.length = N ∧ ∀ i j,i < N → j < N → (out[i]? = out[j]? ↔ f i j = false):=by
 have hl:(tab N f).length = N:=by simp [tab]
 unfold jN
 rw [zA]
 refine Ret.mono (Q:=fun out => out.length = N ∧ ∀ i j,i < N → j < N → (out[i]? = out[j]? ↔ f i j = false)) ?_ fun out h => zg.2 h
 refine yP (fun q => zhS N f q.1 q.2.1 q.2.2.toNat ∧ 0 ≤ q.2.2) (fun q => N - q.2.2.toNat) ⟨⟨rfl,Nat.zero_le _,Int.le_refl 0,Int.le_refl 0,fun i x h => by simp at h,fun i j h => by simp at h⟩,Int.le_refl 0⟩ (by show N - 0 < _; omega) ?_
 rintro ⟨out,n,s⟩ ⟨hI,h0⟩
 obtain ⟨s,rfl⟩:=Int.eq_ofNat_of_zero_le h0
 simp only [Int.toNat_natCast] at hI ⊢
 unfold jh
 rw [zS]
 refine ⟨fun hc => ?_,fun hc => ?_⟩
 ·rw [hl] at hc
  have hsN:s < N:=by simpa using hc
  rw [zA]
  have inner:Ret (loop (fun s_1 => vY (tab N f) out (s:Int) s_1.1 s_1.2) (-1,0)) fun b => (b = -1 ∧ ∀ t,t < s → f s t = true) ∨ ∃ t,t < s ∧ f s t = false ∧ out[t]? = some b:=by
   refine yP (fun q => 0 ≤ q.2 ∧ q.2 ≤ (s:Int) ∧ ((q.1 = -1 ∧ ∀ t:Nat,(t:Int) < q.2 → f s t = true) ∨ ∃ t,t < s ∧ f s t = false ∧ out[t]? = some q.1)) (fun q => s - q.2.toNat) ⟨by omega,by omega,.inl ⟨rfl,fun t ht => by simp at ht; omega⟩⟩ (by show s - 0 < _; omega) ?_
   rintro ⟨b,t⟩ ⟨g0,g1,g2⟩
   simp only at g0 g1 g2 ⊢
   obtain ⟨t,rfl⟩:=Int.eq_ofNat_of_zero_le g0
   unfold vY vZ
   rw [zS]
   refine ⟨fun hc => ?_,fun hc => ?_⟩
   ·have hts:t < s:=by simpa using hc
    have hw:w64 ((t:Int) + 1) = ((t + 1:Nat):Int):=by rw [yl (by omega) (by omega)]; rfl
    rw [z95 f hsN (by omega),hw,zS]
    refine ⟨fun hf => ?_,fun hf => ?_⟩
    ·rw [zA,z9E]
     have:∃ x,out[t]? = some x:=⟨out[t]'(by rw [hI.len]; exact hts),List.getElem?_eq_getElem _⟩
     obtain ⟨x,hx⟩:=this
     refine ⟨by omega,x,by rw [Int.toNat_natCast]; exact hx,zg.2 ⟨⟨by omega,by omega,.inr ⟨t,hts,by simpa using hf,hx⟩⟩,by simp only [Int.toNat_natCast]; omega⟩⟩
    ·refine zg.2 ⟨⟨by omega,by omega,?_⟩,by simp only [Int.toNat_natCast]; omega⟩
     rcases g2 with ⟨e,g2⟩ | g2
     ·refine .inl ⟨e,fun u hu => ?_⟩
      rcases Nat.lt_or_ge u t with q | q
      ·exact g2 u (by omega)
      ·have:u = t:=by omega
       subst this; simpa using hf
     ·exact .inr g2
   ·have hts:¬ t < s:=by simpa using hc
    refine zg.2 ?_
    rcases g2 with ⟨e,g2⟩ | g2
    ·exact .inl ⟨e,fun u hu => g2 u (by omega)⟩
    ·exact .inr g2
  refine inner.mono fun b hb => ?_
  have hw:w64 ((s:Int) + 1) = ((s + 1:Nat):Int):=by rw [yl (by omega) (by omega)]; rfl
  have hlen:=hI.len
  have hnS:=hI.nS
  have hn0:=hI.n0
  have fin:∀ (n' c:Int),0 ≤ n' → n' ≤ ((s + 1:Nat):Int) → n ≤ n' → 0 ≤ c → c < n' → (∀ t,t < s → (out[t]? = some c ↔ f s t = false)) →
    Ret (wK out (s:Int) n' c) (LRP (fun s' => (zhS N f s'.1 s'.2.1 s'.2.2.toNat ∧ 0 ≤ s'.2.2) ∧ N - s'.2.2.toNat < N - s) fun out => out.length = N ∧ ∀ i j,i < N → j < N → (out[i]? = out[j]? ↔ f i j = false)):=by
   intro n' c a1 a2 a3 a4 a5 a6
   unfold wK jj
   rw [WF,hw]
   refine ⟨by simp [hlen]; omega,zg.2 ⟨⟨⟨by simp [hlen],by simp only [Int.toNat_natCast]; omega,a1,by simp only [Int.toNat_natCast]; exact a2,?_,?_⟩,Int.natCast_nonneg _⟩,by simp only [Int.toNat_natCast]; omega⟩⟩
   ·intro i x hx
    rcases Nat.lt_or_ge i s with q | q
    ·rw [List.getElem?_append_left (by omega)] at hx
     have:=hI.lt i x hx
     exact ⟨this.1,by have:=this.2; simp only; omega⟩
    ·rw [List.getElem?_append_right (by omega)] at hx
     cases hh:i - out.length with
     | zero => rw [hh] at hx; simp at hx; subst hx; exact ⟨a4,a5⟩
     | succ k => rw [hh] at hx; simp at hx
   ·intro i j hi hj
    simp only [Int.toNat_natCast] at hi hj
    have at_:∀ i,i < s → (out ++ [c])[i]? = out[i]?:=fun i h => List.getElem?_append_left (by omega)
    have at_s:(out ++ [c])[s]? = some c:=by rw [← hlen,List.getElem?_append_right (Nat.le_refl _)]; simp
    rcases Nat.lt_or_ge i s with q | q <;> rcases Nat.lt_or_ge j s with q' | q'
    ·show (out ++ [c])[i]? = (out ++ [c])[j]? ↔ _
     rw [at_ i q,at_ j q']; exact hI.cls i j q q'
    ·have:j = s:=by omega
     subst this
     show (out ++ [c])[i]? = (out ++ [c])[j]? ↔ _
     rw [at_ i q,at_s,a6 i q]
     exact ⟨fun h => hs _ _ (by omega) (by omega) h,fun h => hs _ _ (by omega) (by omega) h⟩
    ·have:i = s:=by omega
     subst this
     show (out ++ [c])[i]? = (out ++ [c])[j]? ↔ _
     rw [at_ j q',at_s,eq_comm,a6 j q']
    ·have e1:i = s:=by omega
     have e2:j = s:=by omega
     subst e1; subst e2
     exact ⟨fun _ => hr _ hsN,fun _ => rfl⟩
  unfold ji
  rw [zS]
  rcases hb with ⟨rfl,hb⟩ | ⟨t,ht1,ht2,ht3⟩
  ·refine ⟨fun _ => ?_,fun h => by simp at h⟩
   rw [yl (by omega) (by omega)]
   refine fin (n + 1) n (by omega) (by omega) (by omega) hn0 (by omega) fun t hts => ?_
   rw [hb t hts]
   refine ⟨fun h => ?_,fun h => by cases h⟩
   have:=hI.lt t n h
   omega
  ·have hb0:=hI.lt t b ht3
   refine ⟨fun h => by simp at h; omega,fun _ => fin n b hn0 (by omega) (by omega) hb0.1 hb0.2 fun u hu => ?_⟩
   rw [← ht3,hI.cls u t hu ht1]
   exact ⟨fun h => ht _ _ _ (by omega) (by omega) (by omega) ht2 (hs _ _ (by omega) (by omega) h),fun h => ht _ _ _ (by omega) (by omega) (by omega) (hs _ _ (by omega) (by omega) h) ht2⟩
 ·rw [hl] at hc
  have hsN:¬ s < N:=by simpa using hc
  have:s = N:=by have:=hI.sN; omega
  subst this
  exact zg.2 ⟨hI.len,hI.cls⟩
end
def SEq (m:z6) (s t:Nat):Prop:=∀ w:List Nat,(∀ i ∈ w,i < kk m) → rsp m (s:Int) w = rsp m (t:Int) w
theorem W1 (m:z6) (s i:Nat):nxE m (s:Int) i = E m s i:=by
 unfold nxE
 rw [if_neg (by omega),Int.toNat_natCast]
section
variable {m:z6} (h:WM m)
include h
theorem z74:∀ (n:Nat) (p:Nat × Nat),p.1 < m.Rows.length → p.2 < m.Rows.length → Mk (kk m) (YD m m) (nxP m m) n p → ∃ w:List Nat,(∀ i ∈ w,i < kk m) ∧ rsp m (p.1:Int) w ≠ rsp m (p.2:Int) w
 | 0,p,_,_,q => q.elim
 | n + 1,p,h1,h2,q => by
  rcases q with q | ⟨i,hi,q | ⟨r,hr,q⟩⟩
  ·exact z74 n p h1 h2 q
  ·refine ⟨[i],by simpa using hi,fun e => ?_⟩
   simp only [rsp,W1,List.cons.injEq,and_true] at e
   simp [YD,e] at q
  ·have hin:=h.nx_in h1 h2 hi hr
   obtain ⟨w,hw,hne⟩:=z74 n r hin.1 hin.2 q
   refine ⟨i :: w,fun j hj => by rcases List.mem_cons.1 hj with rfl | hj; exact hi; exact hw j hj,fun e => hne ?_⟩
   simp only [rsp,W1,List.cons.injEq] at e
   unfold nxP at hr
   split at hr
   ·rename_i hc
    cases hr
    have e1:(((E m p.1 i).To.toNat:Nat):Int) = (E m p.1 i).To:=by omega
    have e2:(((E m p.2 i).To.toNat:Nat):Int) = (E m p.2 i).To:=by omega
    simp only [e1,e2]
    exact e.2
   ·cases hr
theorem z8Z:∀ (w:List Nat) (p:Nat × Nat),p.1 < m.Rows.length → p.2 < m.Rows.length → (∀ i ∈ w,i < kk m) → rsp m (p.1:Int) w ≠ rsp m (p.2:Int) w → Mk (kk m) (YD m m) (nxP m m) w.length p
 | [],p,_,_,_,q => (q rfl).elim
 | i :: w,p,h1,h2,hw,q => by
  have hi:=hw i (by simp)
  refine .inr ⟨i,hi,?_⟩
  by_cases hb:YD m m p i = true
  ·exact .inl hb
  ·have he:(E m p.1 i).Out = (E m p.2 i).Out:=by simpa [YD] using hb
   simp only [rsp,W1,he,ne_eq,List.cons.injEq,true_and] at q
   have a:=h.edgeAt h1 hi
   have b:=h.edgeAt h2 hi
   by_cases hc:0 ≤ (E m p.1 i).To ∧ 0 ≤ (E m p.2 i).To
   ·have hr:nxP m m p i = some ((E m p.1 i).To.toNat,(E m p.2 i).To.toNat):=by unfold nxP; rw [if_pos hc]
    have hin:=h.nx_in h1 h2 hi hr
    have e1:(((E m p.1 i).To.toNat:Nat):Int) = (E m p.1 i).To:=by omega
    have e2:(((E m p.2 i).To.toNat:Nat):Int) = (E m p.2 i).To:=by omega
    exact .inr ⟨_,hr,z8Z w _ hin.1 hin.2 (fun j hj => hw j (by simp [hj])) (by simpa only [e1,e2] using q)⟩
   ·exfalso
    refine q ?_
    have e1:(E m p.1 i).To = -1:=by omega
    have e2:(E m p.2 i).To = -1:=by omega
    rw [e1,e2]
theorem Jv {s t:Nat} (hs:s < m.Rows.length) (ht:t < m.Rows.length):mrk m m.Rows.length s t = false ↔ SEq m s t:=by
 have e:mrk m m.Rows.length s t = true ↔ ¬ SEq m s t:=by
  unfold mrk
  rw [z4S]
  constructor
  ·intro q g
   obtain ⟨w,hw,hne⟩:=z74 h _ (s,t) hs ht q
   exact hne (g w hw)
  ·intro q
   obtain ⟨w,hw⟩:=Classical.not_forall.1 q
   obtain ⟨hw,hne⟩:=Classical.not_imp.1 hw
   have:=z1Q h hs ht (z8Z h w (s,t) hs ht hw hne)
   exact this.mono (by omega)
 constructor
 ·intro q
  exact Classical.byContradiction fun g => by rw [e.2 g] at q; cases q
 ·intro q
  cases hm:mrk m m.Rows.length s t with
  | false => rfl
  | true => exact (e.1 hm q).elim
theorem z7j:Ret (ZI m) fun l => l.length = m.Rows.length ∧ ∀ s t,s < m.Rows.length → t < m.Rows.length → (l[s]? = l[t]? ↔ SEq m s t):=by
 have hl:=h.len
 unfold ZI WH
 rw [zA,bdT (za3 h m.Rows.length (by omega)),zA]
 refine Ret.mono (zc7 (by omega) (fun s hs => (Jv h hs hs).2 fun w _ => rfl) (fun s t hs ht q => (Jv h ht hs).2 fun w hw => ((Jv h hs ht).1 q w hw).symm) (fun s t u hs ht hu q r => (Jv h hs hu).2 fun w hw => ((Jv h hs ht).1 q w hw).trans ((Jv h ht hu).1 r w hw))) ?_
 rintro l ⟨h1,h2⟩
 exact zg.2 (zg.2 ⟨h1,fun s t hs ht => (h2 s t hs ht).trans (Jv h hs ht)⟩)
end
def zkY (k:Nat):List Nat → Nat
 | [] => 0
 | d :: r => d + k * zkY k r
def GG (k:Nat):Nat → Nat
 | 0 => 0
 | n + 1 => GG k n + k ^ n
def rk (k:Nat) (w:List Nat):Nat:=GG k w.length + zkY k w.reverse
def Wd (k:Nat) (w:List Nat):Prop:=∀ i ∈ w,i < k
section
variable {m:z6}
theorem z8p (h:VM m):∀ (w:List Nat) (s:Int),z7n m s → Wd (kk m) w → z7n m (aft m s w)
 | [],s,hs,_ => hs
 | i :: w,s,hs,hw => z8p h w _ (zjX h hs (hw i (by simp))) fun j hj => hw j (by simp [hj])
end
theorem z5m (m:z6):∀ (u w:List Nat) (s:Int),aft m s (u ++ w) = aft m (aft m s u) w
 | [],_,_ => rfl
 | i :: u,w,s => by simp only [List.cons_append,aft,z5m m u w]
theorem zaY (m:z6):∀ (w:List Nat) (s:Int),s < 0 → aft m s w < 0
 | [],s,h => h
 | i :: w,s,h => by
  simp only [aft,nxE,if_pos h]
  exact zaY m w (-1) (by omega)
section
variable {m:z6} (h:VM m)
include h
theorem z2w:∀ (n:Nat) (u:List Nat),u.length ≤ n → Wd (kk m) u → 0 ≤ aft m 0 u → ∃ w,Wd (kk m) w ∧ w.length < m.Rows.length ∧ w.length ≤ u.length ∧ aft m 0 w = aft m 0 u
 | n,u,hn,hu,h0 => by
  have l1:=h.len1
  rcases Nat.lt_or_ge u.length m.Rows.length with q | q
  ·exact ⟨u,hu,q,Nat.le_refl _,rfl⟩
  ·cases n with
   | zero => omega
   | succ n =>
    have hin0:z7n m 0:=⟨by omega,by omega⟩
    have hpre:∀ i,0 ≤ aft m 0 (u.take i) ∧ aft m 0 (u.take i) < (m.Rows.length:Int):=by
     intro i
     have e:=z5m m (u.take i) (u.drop i) 0
     rw [List.take_append_drop] at e
     have h1:=z8p h (u.take i) 0 hin0 fun j hj => hu j (List.mem_of_mem_take hj)
     refine ⟨?_,h1.2⟩
     rcases Int.lt_or_le (aft m 0 (u.take i)) 0 with g | g
     ·have:=zaY m (u.drop i) _ g
      omega
     ·exact g
    have hex:∃ i j,i < j ∧ j ≤ m.Rows.length ∧ aft m 0 (u.take i) = aft m 0 (u.take j):=by
     refine Classical.byContradiction fun hno => ?_
     have hnd:((List.range (m.Rows.length + 1)).map fun i => (aft m 0 (u.take i)).toNat).Nodup:=by
      unfold List.Nodup
      rw [List.pairwise_map]
      refine List.Pairwise.imp_of_mem ?_ (List.pairwise_lt_range (n:=m.Rows.length + 1))
      intro a b ha hb hab e
      have h1:=(hpre a).1
      have h2:=(hpre b).1
      exact hno ⟨a,b,hab,by have:=List.mem_range.1 hb; omega,by omega⟩
     have:=Ju m.Rows.length _ hnd fun x hx => by
      obtain ⟨i,_,rfl⟩:=List.mem_map.1 hx
      have:=hpre i
      omega
     simp at this
     omega
    obtain ⟨i,j,hij,hj,e⟩:=hex
    have e1:aft m 0 (u.take i ++ u.drop j) = aft m 0 u:=by
     rw [z5m,e,← z5m,List.take_append_drop]
    have hlen:(u.take i ++ u.drop j).length ≤ n:=by simp; omega
    obtain ⟨w,w1,w2,w3,w4⟩:=z2w n (u.take i ++ u.drop j) hlen (fun x hx => by
     rcases List.mem_append.1 hx with q | q
     ·exact hu x (List.mem_of_mem_take q)
     ·exact hu x (List.mem_of_mem_drop q)) (by rw [e1]; exact h0)
    exact ⟨w,w1,w2,by simp at w3; omega,w4.trans e1⟩
end
structure Acc (m:z6) (t:Nat) (v:List Nat):Prop where
 wd:Wd (kk m) v
 len:v.length < m.Rows.length
 aft:aft m 0 v = (t:Int)
 least:∀ u,Wd (kk m) u → Go.Own.aft m 0 u = (t:Int) → rk (kk m) v ≤ rk (kk m) u
def zhP (m:z6) (L:List Nat):Prop:=L.Pairwise fun s t => ∀ v w,Acc m s v → Acc m t w → rk (kk m) v < rk (kk m) w
structure zkW (m:z6) (F:List Nat):Prop where
 sorted:zhP m F
 acc:∀ t ∈ F,t < m.Rows.length ∧ ∃ v,Acc m t v
 dist:F.Pairwise fun s t => ¬ SEq m s t
 all:∀ t v,t < m.Rows.length → Acc m t v → ∃ s ∈ F,SEq m s t ∧ ∃ w,Acc m s w ∧ rk (kk m) w ≤ rk (kk m) v
def Rch (m:z6) (t:Nat):Prop:=∃ u,Wd (kk m) u ∧ aft m 0 u = (t:Int)
theorem z18 {out:List Bool} {j t:Nat} (hj:j < out.length):(out.set j true)[t]? = some true ↔ t = j ∨ out[t]? = some true:=by
 by_cases e:t = j
 ·subst e; simp [hj]
 ·rw [List.getElem?_set_ne (Ne.symm e)]
  exact ⟨.inr,fun q => q.resolve_left e⟩
section
variable {m:z6} (h:VM m)
include h
omit h in theorem rch_step {s i:Nat} (hs:Rch m s) (hi:i < kk m) (h0:0 ≤ (E m s i).To):Rch m (E m s i).To.toNat:=by
 obtain ⟨u,hu,e⟩:=hs
 refine ⟨u ++ [i],fun j hj => ?_,?_⟩
 ·rcases List.mem_append.1 hj with q | q
  ·exact hu j q
  ·have:j = i:=by simpa using q
   omega
 ·have:=(Ku m u 0 i).2
  rw [e,W1] at this
  rw [this]
  omega
theorem z6Y:Ret (ZJ m 0) fun is => is.length = m.Rows.length ∧ ∀ t,t < m.Rows.length → (is[t]? = some true ↔ Rch m t):=by
 have l64:=h.len64
 have l1:=h.len1
 have hk2:=h.kk_le
 have hke:=h.kk_eq
 have w1:∀ n:Nat,n < 1000 → w64 ((n:Int) + 1) = ((n + 1:Nat):Int):=fun n hn => by rw [yl (by omega) (by omega)]; rfl
 unfold ZJ kN
 rw [WF]
 refine ⟨by omega,?_⟩
 have e0:idx (List.replicate ((m.Rows.length:Nat):Int).toNat false) 0 = some false:=by
  show (List.replicate ((m.Rows.length:Nat):Int).toNat false)[0]? = some false
  rw [List.getElem?_replicate,if_pos (by rw [Int.toNat_natCast]; omega)]
 rw [bdT e0,zA]
 let S:List Bool → Prop:=fun out => out.length = m.Rows.length ∧ ∀ t:Nat,out[t]? = some true → Rch m t
 refine Ret.mono (Q:=fun is => is.length = m.Rows.length ∧ ∀ t,t < m.Rows.length → (is[t]? = some true ↔ Rch m t)) ?_ fun o ho => zg.2 ho
 refine yP (fun q => ∃ r:Nat,q.2 = (r:Int) ∧ r ≤ m.Rows.length ∧ S q.1 ∧ ∀ (u:List Nat) (t:Nat),Wd (kk m) u → u.length ≤ r → aft m 0 u = ((t:Nat):Int) → q.1[t]? = some true) (fun q => 1000 - q.2.toNat) ⟨0,rfl,Nat.zero_le _,⟨by simp,fun t ht => ?_⟩,fun u t hu hl e => ?_⟩ (by simp) ?_
 ·rw [show (0:Int).toNat = 0 from rfl,z18 (by rw [List.length_replicate,Int.toNat_natCast]; omega)] at ht
  rcases ht with rfl | ht
  ·exact ⟨[],fun i hi => by simp at hi,rfl⟩
  ·rw [List.getElem?_replicate] at ht
   split at ht <;> simp at ht
 ·have:u = []:=List.eq_nil_of_length_eq_zero (by omega)
  subst this
  have:t = 0:=by simp [aft] at e; omega
  subst this
  rw [show (0:Int).toNat = 0 from rfl,z18 (by rw [List.length_replicate,Int.toNat_natCast]; omega)]
  exact .inl rfl
 rintro ⟨out1,q⟩ ⟨r,e1,r1,r2,r3⟩
 simp only at e1 r2 r3
 subst e1
 unfold kK kM
 rw [zS]
 refine ⟨fun hc => ?_,fun hc => ?_⟩
 ·have hr:r < m.Rows.length:=by simpa using hc
  rw [zA]
  let C:List Bool → Nat → Nat → Prop:=fun out s i => S out ∧ (∀ t:Nat,out1[t]? = some true → out[t]? = some true) ∧ ∀ s' i':Nat,(s' < s ∨ s' = s ∧ i' < i) → i' < kk m → s' < m.Rows.length → out1[s']? = some true → 0 ≤ (E m s' i').To → out[(E m s' i').To.toNat]? = some true
  have round:Ret (loop (fun s => qG m s.1 s.2) (out1,0)) fun out => C out m.Rows.length 0:=by
   refine yP (fun q => ∃ s:Nat,q.2 = (s:Int) ∧ s ≤ m.Rows.length ∧ C q.1 s 0) (fun q => 1000 - q.2.toNat) ⟨0,rfl,Nat.zero_le _,r2,fun t ht => ht,fun s' i' hh => by omega⟩ (by simp) ?_
   rintro ⟨out3,q⟩ ⟨s,e1,s1,s2⟩
   simp only at e1 s2
   subst e1
   unfold qG kL
   rw [zS]
   refine ⟨fun hc => ?_,fun hc => ?_⟩
   ·have hs:s < m.Rows.length:=by simpa using hc
    rw [zA]
    have row:Ret (loop (fun q => qE m (s:Int) q.1 q.2) (out3,0)) fun out => C out s (kk m):=by
     refine yP (fun q => ∃ i:Nat,q.2 = (i:Int) ∧ i ≤ kk m ∧ C q.1 s i) (fun q => 1000 - q.2.toNat) ⟨0,rfl,Nat.zero_le _,s2⟩ (by simp) ?_
     rintro ⟨out5,q⟩ ⟨i,e1,i1,c1,c2,c3⟩
     simp only at e1 c1 c2 c3
     subst e1
     unfold qE vM
     rw [zS]
     refine ⟨fun hc => ?_,fun hc => ?_⟩
     ·have hi:i < kk m:=by rw [← hke] at hc; simpa using hc
      have he:=h.edgeAt hs hi
      have hl:s < out5.length:=by rw [c1.1]; exact hs
      rw [h.edge_eq hs hi,zT,bdT (List.getElem?_eq_getElem hl),zS,w1 i (by omega)]
      have fin:∀ out:List Bool,C out s (i + 1) → Ret (some (LR.next (out,((i + 1:Nat):Int)):LR (List Bool × Int) (List Bool))) (LRP (fun s' => (∃ i:Nat,s'.2 = (i:Int) ∧ i ≤ kk m ∧ C s'.1 s i) ∧ 1000 - s'.2.toNat < 1000 - (i:Int).toNat) fun out => C out s (kk m)):=by
       intro out hC
       exact zg.2 ⟨⟨i + 1,rfl,hi,hC⟩,by simp only [Int.toNat_natCast]; omega⟩
      have keep:(out1[s]? = some true → 0 ≤ (E m s i).To → out5[(E m s i).To.toNat]? = some true) → C out5 s (i + 1):=by
       intro hh
       refine ⟨c1,c2,fun s' i' g1 g2 g3 g4 g5 => ?_⟩
       by_cases e:s' = s ∧ i' = i
       ·obtain ⟨rfl,rfl⟩:=e
        exact hh g4 g5
       ·exact c3 s' i' (by omega) g2 g3 g4 g5
      refine ⟨fun hb => ?_,fun hb => ?_⟩
      ·have hb':out5[s]? = some true:=by rw [List.getElem?_eq_getElem hl,hb]
       rw [zS]
       refine ⟨fun hc => ?_,fun hc => ?_⟩
       ·have h0:0 ≤ (E m s i).To:=by simpa using hc
        have ht:(E m s i).To.toNat < out5.length:=by rw [c1.1]; omega
        obtain ⟨n,hn⟩:=Int.eq_ofNat_of_zero_le h0
        obtain ⟨y,hx⟩:∃ y,idx out5 (E m s i).To = some y:=by
         rw [hn] at ht ⊢
         exact ⟨_,List.getElem?_eq_getElem ht⟩
        rw [bdT hx]
        refine fin _ ⟨⟨by simpa using c1.1,fun t hh => ?_⟩,fun t hh => (z18 ht).2 (.inr (c2 t hh)),fun s' i' g1 g2 g3 g4 g5 => (z18 ht).2 ?_⟩
        ·rcases (z18 ht).1 hh with rfl | hh
         ·exact rch_step (c1.2 s hb') hi h0
         ·exact c1.2 t hh
        ·by_cases e:s' = s ∧ i' = i
         ·obtain ⟨rfl,rfl⟩:=e
          exact .inl rfl
         ·exact .inr (c3 s' i' (by omega) g2 g3 g4 g5)
       ·have h0:¬ 0 ≤ (E m s i).To:=by simpa using hc
        exact fin _ (keep fun _ g => (h0 g).elim)
      ·have hb':out5[s]? = some false:=by rw [List.getElem?_eq_getElem hl,hb]
       refine fin _ (keep fun g _ => ?_)
       have:=c2 s g
       rw [hb'] at this
       cases this
     ·have:i = kk m:=by
       have:¬ i < kk m:=by rw [← hke] at hc; simpa using hc
       omega
      subst this
      exact zg.2 ⟨c1,c2,c3⟩
    refine row.mono ?_
    rintro out ⟨c1,c2,c3⟩
    rw [w1 s (by omega)]
    exact zg.2 ⟨⟨s + 1,rfl,hs,c1,c2,fun s' i' g1 g2 g3 => c3 s' i' (by omega) g2 g3⟩,by simp only [Int.toNat_natCast]; omega⟩
   ·have:s = m.Rows.length:=by
     have:¬ s < m.Rows.length:=by simpa using hc
     omega
    subst this
    exact zg.2 s2
  refine round.mono ?_
  rintro out ⟨c1,c2,c3⟩
  rw [w1 r (by omega)]
  refine zg.2 ⟨⟨r + 1,rfl,hr,c1,fun u t hu hl e => ?_⟩,by simp only [Int.toNat_natCast]; omega⟩
  rcases Nat.lt_or_ge r u.length with q | q
  ·obtain ⟨u',i,rfl⟩:∃ u' i,u = u' ++ [i]:=by
    rcases List.eq_nil_or_concat u with e | ⟨u',i,e⟩
    ·subst e; simp at q
    ·exact ⟨u',i,by simpa using e⟩
   have hu':Wd (kk m) u':=fun j hj => hu j (by simp [hj])
   have hi:=hu i (by simp)
   rw [(Ku m u' 0 i).2] at e
   have h1:=z8p h u' 0 ⟨by omega,by omega⟩ hu'
   have h0:0 ≤ aft m 0 u':=by
    rcases Int.lt_or_le (aft m 0 u') 0 with g | g
    ·unfold nxE at e
     rw [if_pos g] at e
     simp only at e
     omega
    ·exact g
   obtain ⟨s,hs⟩:=Int.eq_ofNat_of_zero_le h0
   have hsN:s < m.Rows.length:=by have:=h1.2; omega
   rw [hs,W1] at e
   have:=c3 s i (.inl hsN) hi hsN (r3 u' s hu' (by simp at hl; omega) hs) (by omega)
   rw [e] at this
   simpa using this
  ·exact c2 t (r3 u t hu (by omega) e)
 ·have:r = m.Rows.length:=by
   have:¬ r < m.Rows.length:=by simpa using hc
   omega
  subst this
  refine zg.2 ⟨r2.1,fun t ht => ⟨r2.2 t,?_⟩⟩
  rintro ⟨u,hu,e⟩
  obtain ⟨w,x1,x2,x3,x4⟩:=z2w h u.length u (Nat.le_refl _) hu (by omega)
  exact r3 w t x1 (by omega) (x4.trans e)
end
structure zmO (m:z6) (F:List Nat) (p:z6):Prop where
 inp:p.Inputs = m.Inputs
 out:p.Outputs = m.Outputs
 len:p.Rows.length = F.length
 row:∀ k:Nat,k < F.length → ∃ row,p.Rows[k]? = some row ∧ row.length = kk m ∧ ∀ i:Nat,i < kk m → ∃ e,row[i]? = some e ∧ e.Out = (E m F[k]! i).Out ∧
  ((0 ≤ (E m F[k]! i).To ∧ ∃ n:Nat,e.To = (n:Int) ∧ n < F.length ∧ SEq m F[n]! (E m F[k]! i).To.toNat) ∨ ((E m F[k]! i).To = -1 ∧ e.To = -1))
def jo:List Int → List Int → Int
 | [],[] => 0
 | [],_ :: _ => -1
 | _ :: _,[] => 1
 | x :: a,y :: b => if x < y then -1 else if y < x then 1 else jo a b
def Xm (a b:List Int):Int:=if a.length < b.length then -1 else if b.length < a.length then 1 else jo a b
theorem za7:∀ {a b:List Int},jo a b = 0 → a = b
 | [],[],_ => rfl
 | [],_ :: _,h => by simp [jo] at h
 | _ :: _,[],h => by simp [jo] at h
 | x :: a,y :: b,h => by
  simp only [jo] at h
  split at h
  ·simp at h
  ·split at h
   ·simp at h
   ·rw [show x = y by omega,za7 h]
theorem z6a:∀ a:List Int,jo a a = 0
 | [] => rfl
 | x :: a => by simp [jo,z6a a]
theorem z83:∀ a b:List Int,jo b a = - jo a b
 | [],[] => rfl
 | [],_ :: _ => rfl
 | _ :: _,[] => rfl
 | x :: a,y :: b => by
  simp only [jo]
  split
  ·rw [if_neg (by omega)]
  ·split
   ·rfl
   ·exact z83 a b
theorem z43:∀ {a b c:List Int},jo a b < 0 → jo b c < 0 → jo a c < 0
 | [],[],_,h,_ => by simp [jo] at h
 | [],_ :: _,[],_,h => by simp [jo] at h
 | [],_ :: _,_ :: _,_,_ => by simp [jo]
 | _ :: _,[],_,h,_ => by simp [jo] at h
 | _ :: _,_ :: _,[],_,h => by simp [jo] at h
 | x :: a,y :: b,z :: c,h1,h2 => by
  simp only [jo] at h1 h2 ⊢
  by_cases e1:x < y
  ·by_cases e2:y < z
   ·rw [if_pos (by omega)]; omega
   ·rw [if_neg e2] at h2
    by_cases e3:z < y
    ·rw [if_pos e3] at h2; omega
    ·rw [if_pos (by omega)]; omega
  ·rw [if_neg e1] at h1
   by_cases e3:y < x
   ·rw [if_pos e3] at h1; omega
   ·rw [if_neg e3] at h1
    have:x = y:=by omega
    subst this
    by_cases e2:x < z
    ·rw [if_pos e2]; omega
    ·rw [if_neg e2] at h2 ⊢
     by_cases e4:z < x
     ·rw [if_pos e4] at h2; omega
     ·rw [if_neg e4] at h2 ⊢
      exact z43 h1 h2
theorem z58 {a b:List Int} (h:Xm a b = 0):a = b:=by
 unfold Xm at h
 split at h
 ·simp at h
 ·split at h
  ·simp at h
  ·exact za7 h
theorem KD (a:List Int):Xm a a = 0:=by simp [Xm,z6a]
theorem z8k {a b:List Int}:Xm a b = 0 ↔ a = b:=⟨z58,fun h => h ▸ KD a⟩
theorem z8j (a b:List Int):Xm b a = - Xm a b:=by
 unfold Xm
 by_cases h1:a.length < b.length
 ·rw [if_pos h1,if_neg (by omega),if_pos h1]; rfl
 ·by_cases h2:b.length < a.length
  ·rw [if_pos h2,if_neg h1,if_pos h2]
  ·rw [if_neg h1,if_neg h2,if_neg h2,if_neg h1,z83]
theorem Vu {a b c:List Int} (h1:Xm a b < 0) (h2:Xm b c < 0):Xm a c < 0:=by
 unfold Xm at *
 by_cases e1:a.length < b.length
 ·by_cases e2:b.length < c.length
  ·rw [if_pos (by omega)]; omega
  ·rw [if_neg e2] at h2
   by_cases e3:c.length < b.length
   ·rw [if_pos e3] at h2; omega
   ·rw [if_pos (by omega)]; omega
 ·rw [if_neg e1] at h1
  by_cases e3:b.length < a.length
  ·rw [if_pos e3] at h1; omega
  ·rw [if_neg e3] at h1
   have e:a.length = b.length:=by omega
   rw [e]
   by_cases e2:b.length < c.length
   ·rw [if_pos e2]; omega
   ·rw [if_neg e2] at h2 ⊢
    by_cases e4:c.length < b.length
    ·rw [if_pos e4] at h2; omega
    ·rw [if_neg e4] at h2 ⊢
     exact z43 h1 h2
theorem z57 (a:List Int):¬ Xm a a < 0:=by rw [KD]; omega
theorem zaz {a b:List Int} (h:Xm a b < 0):¬ Xm b a < 0:=by rw [z8j a b]; omega
theorem z7i {a b:List Int}:¬ Xm a b < 0 ↔ Xm b a < 0 ∨ a = b:=by
 rw [← z8k,z8j a b]; omega
def SW (l:List (List Int)):Prop:=l.Pairwise fun a b => Xm a b < 0
theorem SW.nil:SW []:=List.Pairwise.nil
theorem SW.tail {x:List Int} {l:List (List Int)} (h:SW (x :: l)):SW l:=(List.pairwise_cons.1 h).2
theorem SW.head {x:List Int} {l:List (List Int)} (h:SW (x :: l)):∀ y ∈ l,Xm x y < 0:=(List.pairwise_cons.1 h).1
theorem SW.unique:∀ {l m:List (List Int)},SW l → SW m → (∀ x,x ∈ l ↔ x ∈ m) → l = m
 | [],[],_,_,_ => rfl
 | [],y :: m,_,_,h => by have:=(h y).2 (by simp); simp at this
 | x :: l,[],_,_,h => by have:=(h x).1 (by simp); simp at this
 | x :: l,y :: m,h1,h2,h => by
  have hxy:x = y:=by
   rcases List.mem_cons.1 ((h x).1 (by simp)) with e | e
   ·exact e
   ·rcases List.mem_cons.1 ((h y).2 (by simp)) with e' | e'
    ·exact e'.symm
    ·exact absurd (h2.head x e) (zaz (h1.head y e'))
  subst hxy
  rw [SW.unique h1.tail h2.tail fun z => ?_]
  constructor
  ·intro hz
   rcases List.mem_cons.1 ((h z).1 (by simp [hz])) with e | e
   ·subst e; exact absurd (h1.head _ hz) (z57 _)
   ·exact e
  ·intro hz
   rcases List.mem_cons.1 ((h z).2 (by simp [hz])) with e | e
   ·subst e; exact absurd (h2.head _ hz) (z57 _)
   ·exact e
def z6C (w:List Int):List (List Int) → List (List Int)
 | [] => [w]
 | x :: l => if Xm x w < 0 then x :: z6C w l else if Xm x w = 0 then x :: l else w :: x :: l
theorem z4T {w x:List Int}:∀ {l:List (List Int)},x ∈ z6C w l ↔ x = w ∨ x ∈ l
 | [] => by simp [z6C]
 | y :: l => by
  simp only [z6C]
  split
  ·simp only [List.mem_cons,z4T]
   constructor
   ·rintro (h | h | h) <;> simp [h]
   ·rintro (h | h | h) <;> simp [h]
  ·split
   ·rename_i h1 h2
    have:=z58 h2
    subst this
    simp
   ·simp
theorem SW.put {w:List Int}:∀ {l:List (List Int)},SW l → SW (z6C w l)
 | [],_ => by simp [z6C,SW]
 | y :: l,h => by
  simp only [z6C]
  split
  ·rename_i h1
   refine List.pairwise_cons.2 ⟨fun z hz => ?_,SW.put h.tail⟩
   rcases z4T.1 hz with rfl | hz
   ·exact h1
   ·exact h.head z hz
  ·split
   ·exact h
   ·rename_i h1 h2
    have hw:Xm w y < 0:=by
     rcases z7i.1 h1 with q | q
     ·exact q
     ·exact absurd (z8k.2 q) h2
    refine List.pairwise_cons.2 ⟨fun z hz => ?_,h⟩
    rcases List.mem_cons.1 hz with rfl | hz
    ·exact hw
    ·exact Vu hw (h.head z hz)
theorem z7U (w:List Int):∀ l,(z6C w l).length ≤ l.length + 1
 | [] => by simp [z6C]
 | y :: l => by
  simp only [z6C]
  split
  ·have:=z7U w l; simp; omega
  ·split <;> simp
def srt (l:List (List Int)):List (List Int):=l.foldl (fun m w => z6C w m) []
theorem z6O:∀ (l m:List (List Int)),SW m → SW (l.foldl (fun m w => z6C w m) m) ∧ ∀ x,x ∈ l.foldl (fun m w => z6C w m) m ↔ x ∈ m ∨ x ∈ l
 | [],m,h => ⟨h,by simp⟩
 | w :: l,m,h => by
  obtain ⟨h1,h2⟩:=z6O l (z6C w m) h.put
  refine ⟨h1,fun x => ?_⟩
  rw [List.foldl_cons,h2,z4T]
  simp only [List.mem_cons]
  constructor
  ·rintro ((h | h) | h) <;> simp [h]
  ·rintro (h | h | h) <;> simp [h]
theorem zd9 (l:List (List Int)):SW (srt l):=(z6O l [] .nil).1
theorem z2K {l:List (List Int)} {x:List Int}:x ∈ srt l ↔ x ∈ l:=by rw [srt,(z6O l [] .nil).2]; simp
theorem z9e {l m:List (List Int)} (h:SW m) (hm:∀ x,x ∈ m ↔ x ∈ l):m = srt l:=h.unique (zd9 l) fun x => by rw [hm,z2K]
theorem z5E {l:List (List Int)} (h:SW l):srt l = l:=(z9e h fun _ => .rfl).symm
theorem z9f {l m:List (List Int)} (h:∀ x,x ∈ l ↔ x ∈ m):srt l = srt m:=z9e (zd9 l) fun x => by rw [z2K,h]
theorem z9d (l:List (List Int)):(srt l).length ≤ l.length:=by
 have:∀ (l m:List (List Int)),(l.foldl (fun m w => z6C w m) m).length ≤ m.length + l.length:=by
  intro l
  induction l with
  | nil => intro m; simp
  | cons w l ih => intro m; have:=ih (z6C w m); have:=z7U w m; simp only [List.foldl_cons,List.length_cons]; omega
 have q:=this l []
 simp only [List.length_nil,Nat.zero_add] at q
 exact q
end Go.Own
end
