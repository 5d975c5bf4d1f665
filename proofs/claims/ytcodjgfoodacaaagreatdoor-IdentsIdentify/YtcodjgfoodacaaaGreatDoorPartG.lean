/- Walks, further. -/
import Derived.Test.YtcodjgfoodacaaaGreatDoorPartF
import Derived.Test.YtcodjgfoodacaaaGreatDoorPartC
import Derived.Test.YtcodjgfoodacaaaGreatDoorPartE
noncomputable section
set_option linter.unusedVariables false
set_option linter.unusedSimpArgs false
namespace Go.Own
open Go.Proofs
set_option maxRecDepth 100000
set_option maxHeartbeats 8000000
def Ks:Code:=(Tryz.f55.body).getD .skip
def K4:zK:=spF (α:=z6×Int×List Int) (ρ:=List Int) 55 (fun x=>[zD x.1,(eI .i64) x.2.1,F6_ x.2.2]) (fun r=>F5_ r) (fun x=>Kd x.1 x.2.1 x.2.2) [] (zad)
abbrev z64 (out:List Int):List (Nat×T):=[(7,.own (eOs 1 false (eI .i64) out))]
abbrev z63 (m_:z6)(w_:List Int)(a6:Int)(ah:List Int)(k_:Int):List (Nat×T):=[(1,.d (I a6)),(2,.d (eSl 1 false (eI .i64) w_)),(3,.own (.box (zD m_))),(7,.own (eOs 1 false (eI .i64) ah)),(8,.d (I k_))]
variable {ctr:Ctr}
theorem z9E (hC:zx Tryz.prog ctr)(h0e:ctr.Has Yv):K4.Ok Tryz.prog:=by
 refine zw ?_
 rintro⟨m_,s_,w_⟩ r0 aa
 try unfold Kd at aa
 refine yO true [(6,none)] Ks 31 Tryz.func55 fun E hE=>?_
 refine yJ X0 hC Ks [1,1] [] [7] (fun z:List Int=>US z=some r0) (fun z=>z64 z) [(1,.d (I s_)),(2,.d (eSl 1 false (eI .i64) w_)),(3,.own (.box (zD m_))),(7,.own (eOs 1 true (eI .i64) []))] [Hh (.cut 2)] ?_ fun J1 aq=>?_
 ·rintro out aa
  unfold US at aa
  obtain rfl:=za aa
  exact yE X0 hC hE []
 ·obtain⟨t2,ht2,aa⟩:=zb aa
  refine yLx X0 hC Ks [1,1,2,1,0] [J1] (fun s=>W5 m_ w_ s.1 s.2.1 s.2.2) (fun x=>z63 m_ w_ x.1 x.2.1 x.2.2) (s_,([]:List Int),0) ht2 [(1,.d (I s_)),(2,.d (eSl 1 false (eI .i64) w_)),(3,.own (.box (zD m_))),(7,.own (eOs 1 true (eI .i64) [])),(8,.d (I 0))] inferInstance [] ?_
  rintro⟨a6,ah,k_⟩ m2 au ae hl1 J2 ax
  try unfold W5 at ae
  rcases zH ae with⟨c0,ae⟩|⟨c0,ae⟩
  ·obtain⟨fm,h0,ae⟩:=zb ae
   obtain⟨r_,h1,ae⟩:=zb ae
   obtain⟨g0,ae⟩:=gdE ae
   obtain rfl:=za ae
   exact yB X0 hC ax (r_.To,(ah++([r_.Out]:List Int)),w64 (k_+1)) hl1 [Ha (lnM (eI .i64) w_),Hq c0,Hi (eI .i64) h0,Hc h0e (x:=(m_,a6,fm)) h1 (loC zD m_ <| loC (eI .i64) a6 <| loC (eI .i64) fm <| loN),Hq (dM (eI .i64) ([r_.Out]:List Int)),Hn (dM (eI .i64) ([r_.Out]:List Int)),Hn (aL (eI .i64) (eI .i64) g0),Hl (aM (eI .i64) ah ([r_.Out]:List Int))]
  ·obtain rfl:=za ae
   obtain rfl:=hl1
   exact yB X0 hC aq ah aa [Ha (lnM (eI .i64) w_),Hq c0]
def X6:Code:=(Tryz.f23.body).getD .skip
def vI:zK:=spF (α:=z6×List (List Int)×Int) (ρ:=List (List Int)) 23 (fun x=>[zD x.1,yx x.2.1,(eI .i64) x.2.2]) (fun r=>(eOs 1 false F5_) r) (fun x=>wn x.1 x.2.1 x.2.2) [] (zad)
abbrev Kz (out:List (List Int)):List (Nat×T):=[(7,.own (eOs 1 false F5_ out))]
abbrev Ky (m_:z6)(l_:List (List Int))(s_:Int)(ah:List (List Int))(i_:Int):List (Nat×T):=[(1,.d (eSl 1 false F6_ l_)),(2,.d (I s_)),(3,.own (.box (zD m_))),(7,.own (eOs 1 false F5_ ah)),(8,.d (I i_))]
theorem z2D (hC:zx Tryz.prog ctr)(h1G:ctr.Has K4):vI.Ok Tryz.prog:=by
 refine zw ?_
 rintro⟨m_,l_,s_⟩ r0 aa
 try unfold wn at aa
 refine yO true [(6,none)] X6 26 Tryz.func23 fun E hE=>?_
 refine yJ X0 hC X6 [1,1] [] [7] (fun z:List (List Int)=>jC z=some r0) (fun z=>Kz z) [(1,.d (eSl 1 false F6_ l_)),(2,.d (I s_)),(3,.own (.box (zD m_))),(7,.own (eOs 1 true F6_ []))] [Hh (.cut 2)] ?_ fun J1 aq=>?_
 ·rintro out aa
  unfold jC at aa
  obtain rfl:=za aa
  exact yE X0 hC hE []
 ·obtain⟨t2,ht2,aa⟩:=zb aa
  refine yLx X0 hC X6 [1,1,2,1,0] [J1] (fun s=>yZ m_ l_ s_ s.1 s.2) (fun x=>Ky m_ l_ s_ x.1 x.2) (([]:List (List Int)),0) ht2 [(1,.d (eSl 1 false F6_ l_)),(2,.d (I s_)),(3,.own (.box (zD m_))),(7,.own (eOs 1 true F5_ [])),(8,.d (I 0))] inferInstance [] ?_
  rintro⟨ah,i_⟩ m2 au ae hl1 J2 ax
  try unfold yZ at ae
  let Z0:List HO:=[Ha (lnM F6_ l_)]
  rcases zH ae with⟨c0,ae⟩|⟨c0,ae⟩
  ·obtain⟨bk,h0,ae⟩:=zb ae
   obtain⟨r_,h1,ae⟩:=zb ae
   obtain⟨g0,ae⟩:=gdE ae
   obtain rfl:=za ae
   exact yB X0 hC ax ((ah++([r_]:List (List Int))),w64 (i_+1)) hl1 (Z0++[Hq c0,Hi F6_ h0,Hc h1G (x:=(m_,s_,bk)) h1 (loC zD m_ <| loC (eI .i64) s_ <| loC F6_ bk <| loN),Hq (oC F5_ r_ []),Hn (aL F5_ F5_ g0),Hl (aM F5_ ah ([r_]:List (List Int)))])
  ·obtain rfl:=za ae
   obtain rfl:=hl1
   exact yB X0 hC aq ah aa (Z0++[Hq c0])
def Jj:Code:=(Tryz.f39.body).getD .skip
def kU:zK:=spF (α:=List (List Int)×List (List Int)) (ρ:=Bool) 39 (fun x=>[yx x.1,yx x.2]) (fun r=>eB r) (fun x=>Yg x.1 x.2) [] (Qm)
abbrev z4c:List (Nat×T):=[]
abbrev z4b (a_:List (List Int))(b_:List (List Int))(i_:Int):List (Nat×T):=[(0,.d (eSl 1 false F6_ a_)),(1,.d (eSl 1 false F6_ b_)),(5,.d (I i_))]
theorem z8j (hC:zx Tryz.prog ctr)(h0m:ctr.Has ZM):kU.Ok Tryz.prog:=by
 refine zw ?_
 rintro⟨a_,b_⟩ r0 aa
 try unfold Yg at aa
 refine yO true [(4,none)] Jj 27 Tryz.func39 fun E hE=>?_
 let Z0:List HO:=[Ha (lnM F6_ a_),Ha (lnM F6_ b_)]
 rcases zH aa with⟨c0,aa⟩|⟨c0,aa⟩
 ·obtain rfl:=za aa
  exact yE X0 hC hE (Z0++[Hq c0])
 ·refine yJ X0 hC Jj [1,1] [] [] (fun z:Unit=>WT=some r0) (fun z=>z4c) [(0,.d (eSl 1 false F6_ a_)),(1,.d (eSl 1 false F6_ b_))] (Z0++[Hq c0,Hh (.cut 0)]) ?_ fun J1 aq=>?_
  ·rintro⟨⟩ aa
   unfold WT at aa
   obtain rfl:=za aa
   exact yE X0 hC hE []
  ·obtain⟨t2,ht2,aa⟩:=zb aa
   refine yL X0 hC Jj [1,1,2,1,0] [J1] (fun s=>kX a_ b_ s) (fun x=>z4b a_ b_ x) 0 ht2  [] ?_
   rintro i_ m2 au ae hl1 J2 ax
   try unfold kX at ae
   let Z1:List HO:=[Ha (lnM F6_ a_)]
   rcases zH ae with⟨c1,ae⟩|⟨c1,ae⟩
   ·obtain⟨gv,h0,ae⟩:=zb ae
    obtain⟨gw,h1,ae⟩:=zb ae
    obtain⟨r_,h2,ae⟩:=zb ae
    let Z2:List HO:=(Z1++[Hq c1,Hi F6_ h0,Hi F6_ h1,Hc h0m (x:=(gv,gw)) h2 (loC F6_ gv <| loC F6_ gw <| loN)])
    rcases zH ae with⟨c2,ae⟩|⟨c2,ae⟩
    ·obtain rfl:=za ae
     obtain rfl:=hl1
     obtain rfl:=za aa
     exact yE X0 hC hE (Z2++[Hq c2])
    ·obtain rfl:=za ae
     exact yB X0 hC ax (w64 (i_+1)) hl1 (Z2++[Hq c2])
   ·obtain rfl:=za ae
    obtain rfl:=hl1
    exact yB X0 hC aq () aa (Z1++[Hq c1])
def z81:Code:=(Tryz.f11.body).getD .skip
def WQ:zK:=spF (α:=List (List Int)×List (List Int)) (ρ:=Bool) 11 (fun x=>[kS x.1,yx x.2]) (fun r=>eB r) (fun x=>uH x.1 x.2) [] (Qm)
theorem z8n (hC:zx Tryz.prog ctr)(h04:ctr.Has kU):WQ.Ok Tryz.prog:=by
 refine zw ?_
 rintro⟨a_,b_⟩ r0 aa
 try unfold uH at aa
 refine yO true [(4,none)] z81 15 Tryz.func11 fun E hE=>?_
 obtain⟨r_,h0,aa⟩:=zb aa
 let Z0:List HO:=[Hc h04 (x:=(a_,b_)) h0 (loC kS a_ <| loC yx b_ <| loN)]
 rcases zH aa with⟨c0,aa⟩|⟨c0,aa⟩
 ·obtain rfl:=za aa
  exact yE X0 hC hE (Z0++[Hq c0,Hq c0,Ha (lnM F2_ a_),Hq c0,Hq c0,Ha (lnM F2_ a_),Hq c0,Hq c0])
 ·obtain rfl:=za aa
  exact yE X0 hC hE (Z0++(rpN 6 (Hq c0) []))
def ZJ:Code:=(Tryz.f24.body).getD .skip
def Q5:zK:=spF (α:=z6×List (List Int)) (ρ:=Bool) 24 (fun x=>[zD x.1,yx x.2]) (fun r=>eB r) (fun x=>VF x.1 x.2) [] (Qm)
abbrev z3b:List (Nat×T):=[]
abbrev z3a (m_:z6)(l_:List (List Int))(a_:Int):List (Nat×T):=[(1,.d (eSl 1 false F6_ l_)),(2,.own (.box (zD m_))),(5,.d (I a_))]
abbrev z37 (m_:z6)(l_:List (List Int))(a_:Int)(b_:Int):List (Nat×T):=[(1,.d (eSl 1 false F6_ l_)),(2,.own (.box (zD m_))),(5,.d (I a_)),(6,.d (I b_))]
abbrev z38 (m_:z6)(l_:List (List Int))(a_:Int):List (Nat×T):=[(1,.d (eSl 1 false F6_ l_)),(2,.own (.box (zD m_))),(5,.d (I a_))]
theorem z7i (hC:zx Tryz.prog ctr)(h0c:ctr.Has vI)(h04:ctr.Has kU):Q5.Ok Tryz.prog:=by
 refine zw ?_
 rintro⟨m_,l_⟩ r0 aa
 try unfold VF at aa
 refine yO true [(4,none)] ZJ 28 Tryz.func24 fun E hE=>?_
 refine yJ X0 hC ZJ [1] [] [] (fun z:Unit=>Qc=some r0) (fun z=>z3b) [(1,.d (eSl 1 false F6_ l_)),(2,.own (.box (zD m_)))] [Hh (.cut 1)] ?_ fun J1 aq=>?_
 ·rintro⟨⟩ aa
  unfold Qc at aa
  obtain rfl:=za aa
  exact yE X0 hC hE []
 ·obtain⟨t2,ht2,aa⟩:=zb aa
  refine yL X0 hC ZJ [1,2,1,0] [J1] (fun s=>XL m_ l_ s) (fun x=>z38 m_ l_ x) 0 ht2  [] ?_
  rintro a_ m2 au ae hl1 J2 ax
  try unfold XL at ae
  let Z0:List HO:=[Ha (lnM yI m_.Rows)]
  rcases zH ae with⟨c0,ae⟩|⟨c0,ae⟩
  ·refine yJ X0 hC ZJ [1,2,1,0,0,1] [J1,J2] [1,2,5] (fun z:Unit=>XM a_=some au) (fun z=>z3a m_ l_ a_) [(1,.d (eSl 1 false F6_ l_)),(2,.own (.box (zD m_))),(5,.d (I a_))] (Z0++[Hq c0,Hh (.cut 0)]) ?_ fun J3 ba=>?_
   ·rintro⟨⟩ ae
    unfold XM at ae
    obtain rfl:=za ae
    exact yB X0 hC ax (w64 (a_+1)) hl1 []
   ·obtain⟨t4,ht4,ae⟩:=zb ae
    refine yL X0 hC ZJ [1,2,1,0,0,1,2,0,1,0] [J1,J2,J3] (fun s=>Zz m_ l_ a_ s) (fun x=>z37 m_ l_ a_ x) 0 ht4  [] ?_
    rintro b_ m4 cq aj hl2 J4 bv
    try unfold Zz at aj
    rcases zH aj with⟨c1,aj⟩|⟨c1,aj⟩
    ·obtain⟨r_,h0,aj⟩:=zb aj
     obtain⟨ai,h1,aj⟩:=zb aj
     obtain⟨al,h2,aj⟩:=zb aj
     let Z1:List HO:=[Hq c1,Hc h0c (x:=(m_,l_,a_)) h0 (loC zD m_ <| loC yx l_ <| loC (eI .i64) a_ <| loN),Hc h0c (x:=(m_,l_,b_)) h1 (loC zD m_ <| loC yx l_ <| loC (eI .i64) b_ <| loN),Hg (z1K h04),Hm (shM F5_ F6_ r_),Hm (shM F5_ F6_ ai),Hs (z1L h04 (x:=(r_,ai)) h2 (loC yx r_ <| loC yx ai <| loN))]
     rcases zH aj with⟨c2,aj⟩|⟨c2,aj⟩
     ·obtain rfl:=za aj
      obtain rfl:=hl2
      obtain rfl:=za ae
      obtain rfl:=hl1
      obtain rfl:=za aa
      exact yE X0 hC hE (Z1++[Hq c2])
     ·obtain rfl:=za aj
      exact yB X0 hC bv (w64 (b_+1)) hl2 (Z1++[Hq c2])
    ·obtain rfl:=za aj
     obtain rfl:=hl2
     exact yB X0 hC ba () ae [Hq c1]
  ·obtain rfl:=za ae
   obtain rfl:=hl1
   exact yB X0 hC aq () aa (Z0++[Hq c0])
def z0c:Code:=(Tryz.f57.body).getD .skip
def ud:zK:=spF (α:=List Int×List Int) (ρ:=Bool) 57 (fun x=>[F6_ x.1,F6_ x.2]) (fun r=>eB r) (fun x=>Zj x.1 x.2) [] (Qm)
theorem z0y (hC:zx Tryz.prog ctr):ud.Ok Tryz.prog:=by
 refine zw ?_
 rintro⟨a_,b_⟩ r0 aa
 try unfold Zj at aa
 refine yO true [(4,none)] z0c 10 Tryz.func57 fun E hE=>?_
 obtain rfl:=za aa
 exact yE X0 hC hE [Ha (lnM (eI .i64) a_),Ha (lnM (eI .i64) b_)]
def yw:Code:=(Tryz.f56.body).getD .skip
def w6:zK:=spF (α:=List (List Int)×List (List Int)×Unit) (ρ:=Bool) 56 (fun x=>[yx x.1,yx x.2.1,(zai 57) x.2.2]) (fun r=>eB r) (fun x=>zY x.1 x.2.1 x.2.2) [] (by
 rintro⟨a0,a1,a2⟩ ⟨b0,b1,b2⟩ h
 have e0:=Zw.inj (f:=yx) _ _ (List.cons.inj h).1
 replace h:=(List.cons.inj h).2
 have e1:=Zw.inj (f:=yx) _ _ (List.cons.inj h).1
 replace h:=(List.cons.inj h).2
 have e2:=Zw.inj (f:=(zai 57)) _ _ (List.cons.inj h).1
 subst e0 e1 e2
 rfl)
abbrev qr:List (Nat×T):=[]
abbrev qq (s1:List (List Int))(s2:List (List Int))(ar:Int):List (Nat×T):=[(1,.d (eSl 1 false F6_ s2)),(2,.d (.fn 57 [])),(15,.d (eSl 1 false F6_ s1)),(16,.d (I ((s1.length:Nat):Int))),(17,.d (I ar))]
theorem w9 (hC:zx Tryz.prog ctr)(h0o:ctr.Has ud):w6.Ok Tryz.prog:=by
 refine zw ?_
 rintro⟨s1,s2,eq⟩ r0 aa
 try unfold zY at aa
 refine yO true [(6,none)] yw 32 Tryz.func56 fun E hE=>?_
 let Z0:List HO:=[Ha (lnM F6_ s1),Ha (lnM F6_ s2)]
 rcases zH aa with⟨c0,aa⟩|⟨c0,aa⟩
 ·obtain rfl:=za aa
  exact yE X0 hC hE (Z0++[Hq c0])
 ·refine yJ X0 hC yw [1,1] [] [] (fun z:Unit=>yu=some r0) (fun z=>qr) [(0,.d (eSl 1 false F6_ s1)),(1,.d (eSl 1 false F6_ s2)),(2,.d (.fn 57 []))] (Z0++[Hq c0,Hh (.cut 0)]) ?_ fun J1 aq=>?_
  ·rintro⟨⟩ aa
   unfold yu at aa
   obtain rfl:=za aa
   exact yE X0 hC hE []
  ·obtain⟨t2,ht2,aa⟩:=zb aa
   refine yL X0 hC yw [1,1,2,1,0] [J1] (fun s=>zJ s1 s2 s) (fun x=>qq s1 s2 x) 0 ht2  [Ha (lnM F6_ s1)] ?_
   rintro ar m2 au ae hl1 J2 ax
   try unfold zJ at ae
   rcases zH ae with⟨c1,ae⟩|⟨c1,ae⟩
   ·obtain⟨gb,h0,ae⟩:=zb ae
    obtain⟨dt,h1,ae⟩:=zb ae
    obtain⟨r_,h2,ae⟩:=zb ae
    let Z1:List HO:=[Hq c1,Hi F6_ h0,Hi F6_ h1,Hc h0o (x:=(gb,dt)) h2 (loC F6_ gb <| loC F6_ dt <| loN)]
    rcases zH ae with⟨c2,ae⟩|⟨c2,ae⟩
    ·obtain rfl:=za ae
     obtain rfl:=hl1
     obtain rfl:=za aa
     exact yE X0 hC hE (Z1++[Hq c2])
    ·obtain rfl:=za ae
     exact yB X0 hC ax (w64 (ar+1)) hl1 (Z1++[Hq c2])
   ·obtain rfl:=za ae
    obtain rfl:=hl1
    exact yB X0 hC aq () aa [Hq c1]
def UA:Code:=(Tryz.f58.body).getD .skip
def yS:zK:=spR (α:=List Int) (ρ:=List Int) 58 (fun x=>[F5_ x]) (fun r=>F3_ r) (fun x=>xI x) [true] (WL)
theorem Uv:∀x r,(fun x=>xI x) x=some r->(QA.add yS).run 58 ((QA.add yS).norm 58 ((fun x=>[F5_ x]) x))=some ((fun r=>F3_ r) r):=fun x r h=>zkB h rfl
theorem Uy:(QA.add yS).lend 58=none/\(QA.add yS).gives 58=[true]:=zdo
theorem UX (hC:zx Tryz.prog ctr):yS.Ok Tryz.prog:=by
 refine z8A ?_
 rintro s_ r0 aa
 try unfold xI at aa
 refine yO true [(2,none)] UA 9 Tryz.func58 fun E hE=>?_
 obtain rfl:=za aa
 exact yE ((xCl zt 8).or X0) hC hE [Ha (lnM (eI .i64) s_),Ha (lnM (eI .i64) s_),Hn (Int.natCast_nonneg _:(0:Int)<=((s_.length:Nat):Int)),Hn (Int.natCast_nonneg _:(0:Int)<=((s_.length:Nat):Int)),Hn (clB (eI .i64) s_),Ha (clE 1 (eI .i64) s_)]
def jL:Code:=(Tryz.f25.body).getD .skip
def qY:zK:=spF (α:=z6×List (List Int)×List (List Int)) (ρ:=List Int×Int) 25 (fun x=>[zD x.1,yx x.2.1,yx x.2.2]) (fun r=>.opq (kT [some (F3_ r.1),some ((eI .i64) r.2)])) (fun x=>xo x.1 x.2.1 x.2.2) [] (zad)
abbrev KJ (out:List Int):List (Nat×T):=[(9,.own (eOs 1 false (eI .i64) out))]
abbrev KI (m_:z6)(l_:List (List Int))(aw:List (List Int))(bg:Int)(ay:List Int):List (Nat×T):=[(1,.d (eSl 1 false F6_ l_)),(2,.d (eSl 1 false F6_ aw)),(3,.own (.box (zD m_))),(9,.own (eOs 1 false (eI .i64) ay)),(23,.d (I ((m_.Rows.length:Nat):Int))),(24,.d (I bg))]
abbrev KH (m_:z6)(l_:List (List Int))(aw:List (List Int))(ah:List Int)(bg:Int):List (Nat×T):=[(1,.d (eSl 1 false F6_ l_)),(2,.d (eSl 1 false F6_ aw)),(3,.own (.box (zD m_))),(9,.own (eOs 1 false (eI .i64) ah)),(23,.d (I ((m_.Rows.length:Nat):Int))),(24,.d (I bg))]
theorem z2G (hC:zx Tryz.prog ctr)(h0j:ctr.Has jW)(h0o:ctr.Has ud)(h08:ctr.Has xT)(h09:ctr.Has v6):qY.Ok Tryz.prog:=by
 refine zw ?_
 rintro⟨m_,l_,aw⟩ r0 aa
 try unfold xo at aa
 refine z1R (tt:=yb) (rs:=[(true,6,none),(false,7,none)]) (n:=⟨40,[]⟩) (body:=jL) zt Tryz.func25 rfl (by kernel_rfl) rfl rfl (by show(3:Nat)<=40;decide) fun E hE=>?_
 obtain⟨r_,h0,aa⟩:=zb aa
 let Z0:List HO:=[Hc h0j (x:=(m_,l_)) h0 (loC zD m_ <| loC yx l_ <| loN)]
 rcases zH aa with⟨c0,aa⟩|⟨c0,aa⟩
 ·obtain rfl:=za aa
  let ZE:List HO:=(Z0++[Hq c0])
  exact WJ X0 zt hC Zp hE 4000 (hs:=hoH ZE) (x:=(.opq (kT [some (eOs 1 true (eI .i64) []),some (I r_)]))) (hoB ZE) (by kernel_rfl) (show LeV (.opq (kT [some (eOs 1 true (eI .i64) []),some (I r_)])) (.opq (kT [some (eOs 1 true (eI .i64) ([]:List Int)),some (I r_)])) from inferInstance)
 ·obtain⟨ai,h1,aa⟩:=zb aa
  let Z1:List HO:=(Z0++[Hq c0,Hc (Ctr.add_has QA w6) (x:=(l_,aw,())) h1 (loC yx l_ <| loC yx aw <| loC (zai 57) () <| loN)])
  rcases zH aa with⟨c1,aa⟩|⟨c1,aa⟩
  ·obtain rfl:=za aa
   let ZE:List HO:=(Z1++[Hq c1])
   exact WJ ((z2z zt (w9 hC h0o) 19).or X0) zt hC Zp hE 4000 (hs:=hoH ZE) (x:=(.opq (kT [some (eOs 1 true (eI .i64) []),some (I 16)]))) (hoB ZE) (by kernel_rfl) (show LeV (.opq (kT [some (eOs 1 true (eI .i64) []),some (I 16)])) (.opq (kT [some (eOs 1 true (eI .i64) ([]:List Int)),some (I 16)])) from inferInstance)
  ·refine yJ ((z2z zt (w9 hC h0o) 19).or X0) hC jL [1,1,1,1] [] [9] (fun z:List Int=>jJ z=some r0) (fun z=>KJ z) [(1,.d (eSl 1 false F6_ l_)),(2,.d (eSl 1 false F6_ aw)),(3,.own (.box (zD m_))),(9,.own (eOs 1 true (eI .i64) []))] (Z1++[Hq c1,Hh (.cut 1)]) ?_ fun J1 aq=>?_
   ·rintro out aa
    unfold jJ at aa
    obtain⟨al,h2,aa⟩:=zb aa
    obtain rfl:=za aa
    let ZE:List HO:=[Hh (.g [true]),Hn Uy,Hx (.a (F3_ al)) (Uv out _ h2)]
    exact WJ ((z2z zt (UX hC) 39).or X0) zt hC Zp hE 4000 (hs:=hoH ZE) (x:=(.opq (kT [some (eOs 1 true (eI .i64) al),some (I 0)]))) (hoB ZE) (by kernel_rfl) (LeV.refl _)
   ·obtain⟨t2,ht2,aa⟩:=zb aa
    refine yLx X0 hC jL [1,1,1,1,2,1,0] [J1] (fun s=>xa m_ l_ aw s.1 s.2) (fun x=>KH m_ l_ aw x.1 x.2) (([]:List Int),0) ht2 [(1,.d (eSl 1 false F6_ l_)),(2,.d (eSl 1 false F6_ aw)),(3,.own (.box (zD m_))),(9,.own (eOs 1 true (eI .i64) [])),(23,.d (I ((m_.Rows.length:Nat):Int))),(24,.d (I 0))] inferInstance [Ha (lnM yI m_.Rows)] ?_
    rintro⟨ah,bg⟩ m2 au ae hl1 J2 ax
    try unfold xa at ae
    rcases zH ae with⟨c2,ae⟩|⟨c2,ae⟩
    ·refine yJ X0 hC jL [1,1,1,1,2,1,0,0,1,1] [J1,J2] [1,2,3,9,23,24] (fun z:List Int=>vS bg z=some au) (fun z=>KI m_ l_ aw bg z) [(1,.d (eSl 1 false F6_ l_)),(2,.d (eSl 1 false F6_ aw)),(3,.own (.box (zD m_))),(9,.own (eOs 1 false (eI .i64) ah)),(23,.d (I ((m_.Rows.length:Nat):Int))),(24,.d (I bg))] [Hq c2,Hh (.cut 0)] ?_ fun J3 ba=>?_
     ·rintro ay ae
      unfold vS at ae
      obtain rfl:=za ae
      exact yB X0 hC ax (ay,w64 (bg+1)) hl1 []
     ·obtain⟨am,h3,ae⟩:=zb ae
      obtain⟨bm,h4,ae⟩:=zb ae
      let Z2:List HO:=[Hc h08 (x:=(m_,l_,bg)) h3 (loC zD m_ <| loC yx l_ <| loC (eI .i64) bg <| loN),Hg (z1K h09),Hm (shM F3_ F2_ am),Hs (z1L h09 (x:=(am,aw)) h4 (loC kS am <| loC yx aw <| loN))]
      rcases zH ae with⟨c3,ae⟩|⟨c3,ae⟩
      ·obtain⟨g0,ae⟩:=gdE ae
       exact yB X0 hC ba (ah++([bg]:List Int)) ae (Z2++[Hq c3,Hq (dM (eI .i64) ([bg]:List Int)),Hn (dM (eI .i64) ([bg]:List Int)),Hn (aL (eI .i64) (eI .i64) g0),Hl (aM (eI .i64) ah ([bg]:List Int))])
      ·exact yB X0 hC ba ah ae (Z2++[Hq c3])
    ·obtain rfl:=za ae
     obtain rfl:=hl1
     exact yB X0 hC aq ah aa [Hq c2]
def Zm:Code:=(Tryz.f27.body).getD .skip
def Xs:zK:=spF (α:=z6×List (List Int)×List (List Int)) (ρ:=List Int) 27 (fun x=>[zD x.1,yx x.2.1,yx x.2.2]) (fun r=>F5_ r) (fun x=>qK x.1 x.2.1 x.2.2) [] (zad)
abbrev z0i (out:List Int):List (Nat×T):=[(7,.own (eOs 1 false (eI .i64) out))]
abbrev z0h (m_:z6)(l_:List (List Int))(aw:List (List Int))(s_:Int)(ay:List Int):List (Nat×T):=[(1,.d (eSl 1 false F6_ l_)),(2,.d (eSl 1 false F6_ aw)),(3,.own (.box (zD m_))),(7,.own (eOs 1 false (eI .i64) ay)),(8,.d (I s_))]
abbrev z0g (m_:z6)(l_:List (List Int))(aw:List (List Int))(ah:List Int)(s_:Int):List (Nat×T):=[(1,.d (eSl 1 false F6_ l_)),(2,.d (eSl 1 false F6_ aw)),(3,.own (.box (zD m_))),(7,.own (eOs 1 false (eI .i64) ah)),(8,.d (I s_))]
theorem z3V (hC:zx Tryz.prog ctr)(h0c:ctr.Has vI)(h04:ctr.Has kU):Xs.Ok Tryz.prog:=by
 refine zw ?_
 rintro⟨m_,l_,aw⟩ r0 aa
 try unfold qK at aa
 refine yO true [(6,none)] Zm 27 Tryz.func27 fun E hE=>?_
 refine yJ X0 hC Zm [1,1] [] [7] (fun z:List Int=>Xw z=some r0) (fun z=>z0i z) [(1,.d (eSl 1 false F6_ l_)),(2,.d (eSl 1 false F6_ aw)),(3,.own (.box (zD m_))),(7,.own (eOs 1 true (eI .i64) []))] [Hh (.cut 2)] ?_ fun J1 aq=>?_
 ·rintro out aa
  unfold Xw at aa
  obtain rfl:=za aa
  exact yE X0 hC hE []
 ·obtain⟨t2,ht2,aa⟩:=zb aa
  refine yLx X0 hC Zm [1,1,2,1,0] [J1] (fun s=>xy m_ l_ aw s.1 s.2) (fun x=>z0g m_ l_ aw x.1 x.2) (([]:List Int),0) ht2 [(1,.d (eSl 1 false F6_ l_)),(2,.d (eSl 1 false F6_ aw)),(3,.own (.box (zD m_))),(7,.own (eOs 1 true (eI .i64) [])),(8,.d (I 0))] inferInstance [] ?_
  rintro⟨ah,s_⟩ m2 au ae hl1 J2 ax
  try unfold xy at ae
  let Z0:List HO:=[Ha (lnM yI m_.Rows)]
  rcases zH ae with⟨c0,ae⟩|⟨c0,ae⟩
  ·refine yJ X0 hC Zm [1,1,2,1,0,0,1] [J1,J2] [1,2,3,7,8] (fun z:List Int=>ut s_ z=some au) (fun z=>z0h m_ l_ aw s_ z) [(1,.d (eSl 1 false F6_ l_)),(2,.d (eSl 1 false F6_ aw)),(3,.own (.box (zD m_))),(7,.own (eOs 1 false (eI .i64) ah)),(8,.d (I s_))] (Z0++[Hq c0,Hh (.cut 0)]) ?_ fun J3 ba=>?_
   ·rintro ay ae
    unfold ut at ae
    obtain rfl:=za ae
    exact yB X0 hC ax (ay,w64 (s_+1)) hl1 []
   ·obtain⟨r_,h0,ae⟩:=zb ae
    obtain⟨ai,h1,ae⟩:=zb ae
    let Z1:List HO:=[Hc h0c (x:=(m_,l_,s_)) h0 (loC zD m_ <| loC yx l_ <| loC (eI .i64) s_ <| loN),Hg (z1K h04),Hm (shM F5_ F6_ r_),Hs (z1L h04 (x:=(r_,aw)) h1 (loC yx r_ <| loC yx aw <| loN))]
    rcases zH ae with⟨c1,ae⟩|⟨c1,ae⟩
    ·obtain⟨g0,ae⟩:=gdE ae
     exact yB X0 hC ba (ah++([s_]:List Int)) ae (Z1++[Hq c1,Hq (dM (eI .i64) ([s_]:List Int)),Hn (dM (eI .i64) ([s_]:List Int)),Hn (aL (eI .i64) (eI .i64) g0),Hl (aM (eI .i64) ah ([s_]:List Int))])
    ·exact yB X0 hC ba ah ae (Z1++[Hq c1])
  ·obtain rfl:=za ae
   obtain rfl:=hl1
   exact yB X0 hC aq ah aa (Z0++[Hq c0])
def z83:Code:=(Tryz.f26.body).getD .skip
def WR:zK:=spF (α:=List Int×List Int) (ρ:=Bool) 26 (fun x=>[F2_ x.1,F6_ x.2]) (fun r=>eB r) (fun x=>Yi x.1 x.2) [] (Qm)
theorem z8p (hC:zx Tryz.prog ctr)(h04:ctr.Has kU):WR.Ok Tryz.prog:=by
 refine zw ?_
 rintro⟨a_,b_⟩ r0 aa
 try unfold Yi at aa
 refine yO true [(4,none)] z83 17 Tryz.func26 fun E hE=>?_
 obtain⟨r_,h0,aa⟩:=zb aa
 let Z0:List HO:=[Hg (z1K h04),Hm (shM F2_ F2_ ([a_])),Hm (shM F6_ F6_ ([b_])),Hs (z1L h04 (x:=([a_],[b_])) h0 (loC kS ([a_]:List (List Int)) <| loC zj0 ([b_]:List (List Int)) <| loN))]
 rcases zH aa with⟨c0,aa⟩|⟨c0,aa⟩
 ·obtain rfl:=za aa
  exact yE X0 hC hE (Z0++[Hq c0,Hq c0,Ha (lnM (eI .i64) a_),Hq c0,Hq c0,Ha (lnM (eI .i64) a_),Hq c0,Hq c0])
 ·obtain rfl:=za aa
  exact yE X0 hC hE (Z0++(rpN 6 (Hq c0) []))
def z47:Code:=(Tryz.f43.body).getD .skip
def Wv:zK:=spF (α:=Unit) (ρ:=z6) 43 (fun x=>[]) (fun r=>z9v r) (fun x=>J0) [] (fun _ _ _=>rfl)
theorem z4M (hC:zx Tryz.prog ctr):Wv.Ok Tryz.prog:=by
 refine zw ?_
 rintro⟨⟩ r0 aa
 try unfold J0 at aa
 refine yO false [(0,some 30)] z47 12 Tryz.func43 fun E hE=>?_
 obtain rfl:=za aa
 exact yE X0 hC hE [Hm (shM (eOs 2 true F8_) zpN ([[(z8.mk 1 0),(z8.mk 0 0)],[(z8.mk 2 0),(z8.mk 1 1)],[(z8.mk 0 1),(z8.mk 2 0)]]))]
def z82:Code:=(Tryz.f44.body).getD .skip
def QO:zK:=spF (α:=List (List Int)) (ρ:=List (List Int)) 44 (fun x=>[yx x]) (fun r=>yx r) (fun x=>Xy x) [] (WL)
theorem z8o (hC:zx Tryz.prog ctr):QO.Ok Tryz.prog:=by
 refine zw ?_
 rintro l_ r0 aa
 try unfold Xy at aa
 refine yO true [(2,none)] z82 4 Tryz.func44 fun E hE=>?_
 obtain rfl:=za aa
 exact yE X0 hC hE []
def z5P:Code:=(Tryz.f38.body).getD .skip
def VA:zK:=spF (α:=Int×Int) (ρ:=Bool) 38 (fun x=>[(eI .i64) x.1,(eI .i64) x.2]) (fun r=>eB r) (fun x=>Km x.1 x.2) [] (Qm)
theorem z6s (hC:zx Tryz.prog ctr):VA.Ok Tryz.prog:=by
 refine zw ?_
 rintro⟨a_,b_⟩ r0 aa
 try unfold Km at aa
 refine yO true [(4,none)] z5P 5 Tryz.func38 fun E hE=>?_
 obtain rfl:=za aa
 exact yE X0 hC hE []
def z2X:Code:=(Tryz.f131.body).getD .skip
def ug:zK:=spF (α:=Int×z6) (ρ:=Bool) 131 (fun x=>[(eI .i64) x.1,z2x x.2]) (fun r=>eB r) (fun x=>Q2 x.1 x.2) [] (Qm)
theorem z3S (hC:zx Tryz.prog ctr):ug.Ok Tryz.prog:=by
 refine zw ?_
 rintro⟨s_,x1⟩ r0 aa
 try unfold Q2 at aa
 refine yO true [(3,none)] z2X 13 Tryz.func131 fun E hE=>?_
 rcases zH aa with⟨c0,aa⟩|⟨c0,aa⟩
 ·obtain rfl:=za aa
  exact yE X0 hC hE (rpN 6 (Hq c0) [])
 ·obtain rfl:=za aa
  exact yE X0 hC hE (rpN 4 (Hq c0) [Ha (lnM yI x1.Rows),Hq c0,Hq c0])
def xZ:Code:=(Tryz.f149.body).getD .skip
def uh:zK:=spF (α:=List Int×z6) (ρ:=Int) 149 (fun x=>[F6_ x.1,(z07 131 z2x) x.2]) (fun r=>(eI .i64) r) (fun x=>wN x.1 x.2) [] (by
 rintro⟨a0,a1⟩ ⟨b0,b1⟩ h
 have e0:=Zw.inj (f:=F6_) _ _ (List.cons.inj h).1
 replace h:=(List.cons.inj h).2
 have e1:=Zw.inj (f:=(z07 131 z2x)) _ _ (List.cons.inj h).1
 subst e0 e1
 rfl)
abbrev Yo:List (Nat×T):=[]
abbrev Yn (s_:List Int)(f_:z6)(x8:Int):List (Nat×T):=[(0,.d (eSl 1 false (eI .i64) s_)),(1,.d (.fn 131 [.sptr (.agg [I f_.Inputs,I f_.Outputs,eSl 1 false yI f_.Rows])])),(7,.d (I ((s_.length:Nat):Int))),(8,.d (I x8))]
theorem XZ (hC:zx Tryz.prog ctr)(h0d:ctr.Has ug):uh.Ok Tryz.prog:=by
 refine zw ?_
 rintro⟨s_,f_⟩ r0 aa
 try unfold wN at aa
 refine yO true [(4,none)] xZ 19 Tryz.func149 fun E hE=>?_
 refine yJ X0 hC xZ [1] [] [] (fun z:Unit=>xV=some r0) (fun z=>Yo) [(0,.d (eSl 1 false (eI .i64) s_)),(1,.d (.fn 131 [.sptr (.agg [I f_.Inputs,I f_.Outputs,eSl 1 false yI f_.Rows])]))] [Hh (.cut 1)] ?_ fun J1 aq=>?_
 ·rintro⟨⟩ aa
  unfold xV at aa
  obtain rfl:=za aa
  exact yE X0 hC hE []
 ·obtain⟨t2,ht2,aa⟩:=zb aa
  refine yL X0 hC xZ [1,2,1,0] [J1] (fun s=>xU s_ f_ s) (fun x=>Yn s_ f_ x) 0 ht2  [Ha (lnM (eI .i64) s_)] ?_
  rintro x8 m2 au ae hl1 J2 ax
  try unfold xU at ae
  rcases zH ae with⟨c0,ae⟩|⟨c0,ae⟩
  ·obtain⟨ct,h0,ae⟩:=zb ae
   obtain⟨r_,h1,ae⟩:=zb ae
   let Z0:List HO:=[Hq c0,Hi (eI .i64) h0,Hc h0d (x:=(ct,f_)) h1 (loC (eI .i64) ct <| loC z2x f_ <| loN)]
   rcases zH ae with⟨c1,ae⟩|⟨c1,ae⟩
   ·obtain rfl:=za ae
    obtain rfl:=hl1
    obtain rfl:=za aa
    exact yE X0 hC hE (Z0++[Hq c1])
   ·obtain rfl:=za ae
    exact yB X0 hC ax (w64 (x8+1)) hl1 (Z0++[Hq c1])
  ·obtain rfl:=za ae
   obtain rfl:=hl1
   exact yB X0 hC aq () aa [Hq c0]
def Ym:Code:=(Tryz.f130.body).getD .skip
def vu:zK:=spF (α:=List Int×z6) (ρ:=Bool) 130 (fun x=>[F6_ x.1,(z07 131 z2x) x.2]) (fun r=>eB r) (fun x=>xW x.1 x.2) [] (by
 rintro⟨a0,a1⟩ ⟨b0,b1⟩ h
 have e0:=Zw.inj (f:=F6_) _ _ (List.cons.inj h).1
 replace h:=(List.cons.inj h).2
 have e1:=Zw.inj (f:=(z07 131 z2x)) _ _ (List.cons.inj h).1
 subst e0 e1
 rfl)
theorem vF (hC:zx Tryz.prog ctr)(h0d:ctr.Has ug):vu.Ok Tryz.prog:=by
 refine zw ?_
 rintro⟨s_,f_⟩ r0 aa
 try unfold xW at aa
 refine yO true [(4,none)] Ym 9 Tryz.func130 fun E hE=>?_
 obtain⟨r_,h0,aa⟩:=zb aa
 obtain rfl:=za aa
 exact yE ((z2z zt (XZ hC h0d) 7).or X0) hC hE [Hc (Ctr.add_has QA uh) (x:=(s_,f_)) h0 (loC F6_ s_ <| loC (z07 131 z2x) f_ <| loN)]
def z5G:Code:=(Tryz.f102.body).getD .skip
def Vn:zK:=spF (α:=z6×List Int) (ρ:=Int) 102 (fun x=>[zD x.1,F6_ x.2]) (fun r=>(eI .i64) r) (fun x=>K0 x.1 x.2) [] (Qm)
theorem z6c (hC:zx Tryz.prog ctr)(h02:ctr.Has xw)(h0d:ctr.Has ug):Vn.Ok Tryz.prog:=by
 refine zw ?_
 rintro⟨m_,l_⟩ r0 aa
 try unfold K0 at aa
 refine yO true [(4,none)] z5G 14 Tryz.func102 fun E hE=>?_
 obtain⟨r_,h0,aa⟩:=zb aa
 let Z0:List HO:=[Hc h02 (x:=m_) h0 (loC zD m_ <| loN)]
 rcases zH aa with⟨c0,aa⟩|⟨c0,aa⟩
 ·obtain rfl:=za aa
  exact yE X0 hC hE (Z0++[Hq c0])
 ·obtain⟨ai,h1,aa⟩:=zb aa
  let Z1:List HO:=(Z0++[Hq c0,Hc (Ctr.add_has QA vu) (x:=(l_,m_)) h1 (loC F6_ l_ <| loC (z07 131 z2x) m_ <| loN)])
  rcases zH aa with⟨c1,aa⟩|⟨c1,aa⟩
  ·obtain rfl:=za aa
   exact yE ((z2z zt (vF hC h0d) 13).or X0) hC hE (Z1++[Hq c1])
  ·obtain rfl:=za aa
   exact yE ((z2z zt (vF hC h0d) 13).or X0) hC hE (Z1++[Hq c1])
def z5H:Code:=(Tryz.f132.body).getD .skip
def Vo:zK:=spF (α:=z6) (ρ:=z6) 132 (fun x=>[zD x]) (fun r=>(z07 150 z2x) r) (fun x=>K1 x) [] (WL)
theorem z6d (hC:zx Tryz.prog ctr):Vo.Ok Tryz.prog:=by
 refine zw ?_
 rintro m_ r0 aa
 try unfold K1 at aa
 refine yO true [(2,none)] z5H 4 Tryz.func132 fun E hE=>?_
 obtain rfl:=za aa
 exact yE X0 hC hE []
def Zl:Code:=(Tryz.f150.body).getD .skip
variable {σ:Type}
abbrev z0f (x0:z6)(YY:σ->z79)(x8:Int)(ga:σ):List (Nat×T):=[(0,.own (.opq (YY ga).q)),(1,.d (.sptr (zD x0))),(7,.d (I ((x0.Rows.length:Nat):Int))),(8,.d (I x8))]
abbrev z0d (x0:z6)(YY:σ->z79)(x8:Int)(cx:σ)(t_:Int):List (Nat×T):=[(0,.own (.opq (YY cx).q)),(1,.d (.sptr (zD x0))),(3,.d (I x8)),(4,.d (I t_)),(7,.d (I ((x0.Rows.length:Nat):Int))),(8,.d (I x8))]
abbrev z0e (x0:z6)(YY:σ->z79)(ce:σ)(x8:Int):List (Nat×T):=[(0,.own (.opq (YY ce).q)),(1,.d (.sptr (zD x0))),(7,.d (I ((x0.Rows.length:Nat):Int))),(8,.d (I x8))]
theorem z3T (hC:zx Tryz.prog ctr)(x0:z6):zar Tryz.prog (.fn 150 [.sptr (.agg [I x0.Inputs,I x0.Outputs,eSl 1 false yI x0.Rows])]) (fun(x:Int×Int) (_:Bool) (_:Value)=>[(eI .i64) x.1,(eI .i64) x.2]) (@XE x0):=by
 refine z7Q (tt:=yb) (nt:=26) (body:=Zl) zt Tryz.func150 rfl (by kernel_rfl) rfl rfl (by show(2:Nat)<=26;decide) ?_
 intro σ yv YY yy hy sg r0 aa E hE
 unfold XE at aa
 obtain⟨t1,ht1,aa⟩:=zb aa
 refine yL X0 hC Zl [1,0] [] (fun s=>Xn x0 yy s.1 s.2) (fun x=>z0e x0 YY x.1 x.2) (sg,0) ht1  [Ha (lnM yI x0.Rows)] ?_
 rintro⟨ce,x8⟩ m1 au ae hl1 J1 aq
 try unfold Xn at ae
 rcases zH ae with⟨c0,ae⟩|⟨c0,ae⟩
 ·refine yJ X0 hC Zl [1,0,0,1,1] [J1] [0,1,7,8] (fun z:σ=>Xo x8 z=some au) (fun z=>z0f x0 YY x8 z) [(0,.own (.opq (YY ce).q)),(1,.d (.sptr (zD x0))),(7,.d (I ((x0.Rows.length:Nat):Int))),(8,.d (I x8))] [Hq c0,Hh (.cut 0)] ?_ fun J2 ax=>?_
  ·rintro ga ae
   unfold Xo at ae
   obtain rfl:=za ae
   exact yB X0 hC aq (ga,w64 (x8+1)) hl1 []
  ·obtain⟨t3,ht3,ae⟩:=zb ae
   refine yL X0 hC Zl [1,0,0,1,1,2,0,1,1,0] [J1,J2] (fun s=>Xm x0 yy x8 s.1 s.2) (fun x=>z0d x0 YY x8 x.1 x.2) (ce,w64 (x8+1)) ht3  [] ?_
   rintro⟨cx,t_⟩ m3 cq aj hl2 J3 ba
   try unfold Xm at aj
   let Z0:List HO:=[Ha (lnM yI x0.Rows)]
   rcases zH aj with⟨c1,aj⟩|⟨c1,aj⟩
   ·obtain⟨yr,h0,aj⟩:=zb aj
    let Z1:List HO:=(Z0++[Hq c1,Hn (z7t (yv:=yv) (Y:=YY) (enc:=(fun(x:Int×Int) (_:Bool) (_:Value)=>[(eI .i64) x.1,(eI .i64) x.2])) (s:=cx) (x:=(x8,t_)) (s':=yr.1) (b:=yr.2) (v:=.nilFunc) [(eI .i64) x8,(eI .i64) t_] (show Jv [(eI .i64) x8,(eI .i64) t_] [(eI .i64) x8,(eI .i64) t_] from inferInstance))])
    rcases zH aj with⟨c2,aj⟩|⟨c2,aj⟩
    ·obtain rfl:=za aj
     obtain rfl:=hl2
     obtain rfl:=za ae
     obtain rfl:=hl1
     obtain rfl:=za aa
     exact yF ((z1m (P:=Tryz.prog) yb hy 23 (s:=cx) (x:=(x8,t_)) (s':=yr.1) (b:=yr.2) .nilFunc h0).or X0) hC .ret [(0,.own (.opq (YY yr.1).q))] (Z1++[Hq c2]) fun st0 h0=>hE _ st0 (.inr rfl) h0
    ·obtain rfl:=za aj
     exact yB ((z1m (P:=Tryz.prog) yb hy 23 (s:=cx) (x:=(x8,t_)) (s':=yr.1) (b:=yr.2) .nilFunc h0).or X0) hC ba (yr.1,w64 (t_+1)) hl2 (Z1++[Hq c2])
   ·obtain rfl:=za aj
    obtain rfl:=hl2
    exact yB X0 hC ax cx ae (Z0++[Hq c1])
 ·obtain rfl:=za ae
  obtain rfl:=hl1
  obtain rfl:=za aa
  exact yF X0 hC .normal [(0,.own (.opq (YY ce).q))] [Hq c0] fun st0 h0=>hE _ st0 (.inl rfl) h0
def yR:zK:=spR (α:=List Int×Int) (ρ:=List Int) 168 (fun x:List Int×Int=>[F2_ x.1,(eI .i64) x.2]) (fun r:List Int=>F5_ r) (fun x:List Int×Int=>wO x.1 x.2) [] (Qm)
theorem Uu:∀x r,(fun x:List Int×Int=>wO x.1 x.2) x=some r->(QA.add yR).run 168 ((QA.add yR).norm 168 ((fun x:List Int×Int=>[F2_ x.1,(eI .i64) x.2]) x))=some ((fun r:List Int=>F5_ r) r):=fun x r h=>zkB (F:=fun x:List Int×Int=>wO x.1 x.2) (x:=x) h rfl
theorem Ux:(QA.add yR).lend 168=none/\(QA.add yR).gives 168=[]:=zdo
theorem UW (hC:zx Tryz.prog ctr):yR.Ok Tryz.prog:=by
 refine z8A ?_
 rintro⟨l,n⟩ r0 aa
 cases l with
 | cons a l=>cases aa
 | nil=>
  have h1:0<n/\n<=1000000:=by
   have h2:(decide (0<n)&&decide (n<=1000000))=true:=by
    cases h:(decide (0<n)&&decide (n<=1000000)) with
    | true=>rfl
    | false=>have h3:(bif (true&&(decide (0<n)&&decide (n<=1000000))) then some [] else none)=some r0:=aa;rw [h]at h3;cases h3
   simpa using h2
  have h3:(bif (true&&(decide (0<n)&&decide (n<=1000000))) then some ([]:List Int) else none)=some r0:=aa
  rw [decide_eq_true h1.1,decide_eq_true h1.2]at h3
  cases h3
  exact zdp n h1.1 h1.2
def xz:Code:=(Tryz.f151.body).getD .skip
def wr:zK:=spF (α:=List (List Int)) (ρ:=List Int) 151 (fun x=>[yx x]) (fun r=>F5_ r) (fun x=>jY x) [] (WL)
abbrev Ue (ig:List Int):List (Nat×T):=[(6,.own (eOs 1 false (eI .i64) ig))]
abbrev Ud (slices:List (List Int))(da:List Int)(kc:Int):List (Nat×T):=[(6,.own (eOs 1 false (eI .i64) da)),(25,.d (eSl 1 false F6_ slices)),(26,.d (I ((slices.length:Nat):Int))),(27,.d (I kc))]
abbrev Uf (slices:List (List Int))(size:Int):List (Nat×T):=[(0,.d (eSl 1 false F6_ slices)),(3,.d (I size))]
abbrev Uc (slices:List (List Int))(gr:Int)(ew:Int):List (Nat×T):=[(0,.d (eSl 1 false F6_ slices)),(3,.d (I gr)),(9,.d (eSl 1 false F6_ slices)),(10,.d (I ((slices.length:Nat):Int))),(11,.d (I ew))]
theorem QH (hC:zx Tryz.prog ctr):wr.Ok Tryz.prog:=by
 refine zw ?_
 rintro slices r0 aa
 try unfold jY at aa
 refine yO true [(2,none)] xz 36 Tryz.func151 fun E hE=>?_
 refine yJ X0 hC xz [1,1] [] [0,3] (fun z:Int=>uo slices z=some r0) (fun z=>Uf slices z) [(0,.d (eSl 1 false F6_ slices)),(3,.d (I 0))] [Hh (.cut 2)] ?_ fun J1 aq=>?_
 ·rintro size aa
  unfold uo at aa
  obtain⟨r_,h0,aa⟩:=zb aa
  refine yJ ((z2z zt (UW hC) 24).or X0) hC xz [1,1,1,1] [] [6] (fun z:List Int=>um z=some r0) (fun z=>Ue z) [(0,.d (eSl 1 false F6_ slices)),(6,.own (eOs 1 false (eI .i64) r_))] [Hh (.g []),Hn Ux,Hx (.a (F5_ r_)) (Uu ([],size) _ h0),Hh (.cut 0)] ?_ fun J2 ax=>?_
  ·rintro ig aa
   unfold um at aa
   obtain rfl:=za aa
   exact yE X0 hC hE []
  ·obtain⟨t3,ht3,aa⟩:=zb aa
   refine yL X0 hC xz [1,1,1,1,2,1,0] [J2] (fun s=>ul slices s.1 s.2) (fun x=>Ud slices x.1 x.2) (r_,0) ht3  [Ha (lnM F6_ slices)] ?_
   rintro⟨da,kc⟩ m3 au ae hl1 J3 ba
   try unfold ul at ae
   rcases zH ae with⟨c0,ae⟩|⟨c0,ae⟩
   ·obtain⟨gh,h1,ae⟩:=zb ae
    obtain⟨g0,ae⟩:=gdE ae
    obtain rfl:=za ae
    exact yB X0 hC ba ((da++gh),w64 (kc+1)) hl1 [Hq c0,Hi F6_ h1,Hn (dM (eI .i64) gh),Hn (aL (eI .i64) (eI .i64) g0),Hl (aM (eI .i64) da gh)]
   ·obtain rfl:=za ae
    obtain rfl:=hl1
    exact yB X0 hC ax da aa [Hq c0]
 ·obtain⟨t4,ht4,aa⟩:=zb aa
  refine yL X0 hC xz [1,1,2,1,0] [J1] (fun s=>uk slices s.1 s.2) (fun x=>Uc slices x.1 x.2) (0,0) ht4  [Ha (lnM F6_ slices)] ?_
  rintro⟨gr,ew⟩ m4 au ae hl1 J4 bv
  try unfold uk at ae
  rcases zH ae with⟨c1,ae⟩|⟨c1,ae⟩
  ·obtain⟨gp,h2,ae⟩:=zb ae
   let Z0:List HO:=[Hq c1,Hi F6_ h2,Ha (lnM (eI .i64) gp)]
   rcases zH ae with⟨c2,ae⟩|⟨c2,ae⟩
   ·cases ae
   ·obtain rfl:=za ae
    exact yB X0 hC bv (w64 (gr+((gp.length:Nat):Int)),w64 (ew+1)) hl1 (Z0++[Hq c2])
  ·obtain rfl:=za ae
   obtain rfl:=hl1
   exact yB X0 hC aq gr aa [Hq c1]
def JB:Code:=(Tryz.f58.body).getD .skip
def xh:zK:=spF (α:=List Int) (ρ:=List Int) 58 (fun x=>[F6_ x]) (fun r=>F2_ r) (fun x=>va x) [] (WL)
theorem JV (hC:zx Tryz.prog ctr):xh.Ok Tryz.prog:=by
 refine zw ?_
 rintro s_ r0 aa
 try unfold va at aa
 refine yO true [(2,none)] JB 9 Tryz.func58 fun E hE=>?_
 obtain⟨g0,aa⟩:=gdE aa
 obtain rfl:=za aa
 exact yE X0 hC hE [Ha (lnM (eI .i64) s_),Ha (lnM (eI .i64) s_),Hn (slB g0),Hn (slC g0),Hn (zjY (eI .i64) g0),Ha (zp5 1 (eI .i64) s_ 0 ((s_.length:Nat):Int).toNat)]
def xL:Code:=(Tryz.f133.body).getD .skip
abbrev Jq (n_:Int)(f_:ArN 64 (ArN 64 (List Int)))(out:List Int):List (Nat×T):=[(0,.own (.box (xE 64 (xE 64 (eNl 1 (eI .i64))) f_))),(4,.d (I n_)),(11,.own (eOs 1 false (eI .i64) out))]
abbrev Jp (m_:z6)(t_:Int)(n_:Int)(f_:ArN 64 (ArN 64 (List Int)))(ap:List z8)(de:Int):List (Nat×T):=[(0,.own (.box (xE 64 (xE 64 (eNl 1 (eI .i64))) f_))),(3,.d (I t_)),(4,.d (I n_)),(6,.own (.box (zD m_))),(11,.own (eOs 1 true (eI .i64) [])),(19,.d (eSl 2 false F8_ ap)),(20,.d (I ((ap.length:Nat):Int))),(21,.d (I de))]
abbrev Jo (m_:z6)(t_:Int)(n_:Int)(f_:ArN 64 (ArN 64 (List Int)))(ap:List z8)(de:Int):List (Nat×T):=[(0,.own (.box (xE 64 (xE 64 (eNl 1 (eI .i64))) f_))),(3,.d (I t_)),(4,.d (I n_)),(6,.own (.box (zD m_))),(11,.own (eOs 1 true (eI .i64) [])),(19,.d (eSl 2 false F8_ ap)),(20,.d (I ((ap.length:Nat):Int))),(21,.d (I de))]
theorem Ve (hC:zx Tryz.prog ctr)(h0k:ctr.Has wr)(h03:ctr.Has xh)(d8:Value):∀(m_:z6) (s_:Int) (t_:Int) (n_:Int) (f_:ArN 64 (ArN 64 (List Int))) (r0:List Int×ArN 64 (ArN 64 (List Int))),Xp m_ s_ t_ n_ f_=some r0->uQ Tryz.prog (.fn 133 []) [.atom d8,.agg [I m_.Inputs,I m_.Outputs,eSl 1 false yI m_.Rows],I s_,I t_,I n_] ([d8].zip [.box (xE 64 (xE 64 (eNl 1 (eI .i64))) f_)]) (eNl 1 (eI .i64) r0.1) [.box (xE 64 (xE 64 (eNl 1 (eI .i64))) r0.2)]:=by
 intro m_ s_ t_ n_ f_ r0 aa
 refine zdc (tt:=yb) (nt:=85) (body:=xL) [0] zt Tryz.func133 rfl (by kernel_rfl) rfl rfl (by show(5:Nat)<=85;decide) (by decide) rfl rfl rfl rfl (fun E hG hE=>?_) rfl
 unfold Xp at aa
 refine yA ((xRe Tryz.prog 10 (.atom (.slice none 0 0)) (eNl 1 (eI .i64) ([]:List Int)) (zgy 1)).or ((QG zt (.inl 76) [66]).or X0)) hC xL [1] [] [(0,.own (.box (xE 64 (xE 64 (eNl 1 (eI .i64))) f_))),(2,.d (I s_)),(3,.d (I t_)),(4,.d (I n_)),(6,.own (.box (zD m_)))] [Hn (rfl:T.d (.atom (.slice none 0 0))=T.d (.atom (.slice none 0 0)))] ?_
 refine zbn (c':=(sub [1,0] xL)) (by kernel_rfl) hG ?_
 refine yJ ((QG zt (.inl 76) [66]).or X0) hC xL [1,0,1,1] [] [0,4,11] (fun z:List Int=>Zr n_ f_ z=some r0) (fun z=>Jq n_ f_ z) [(0,.own (.box (xE 64 (xE 64 (eNl 1 (eI .i64))) f_))),(2,.d (I s_)),(3,.d (I t_)),(4,.d (I n_)),(6,.own (.box (zD m_))),(11,.own (eOs 1 true (eI .i64) []))] [Hh (.cut 2)] ?_ fun J1 aq=>?_
 ·rintro out aa
  unfold Zr at aa
  rcases zH aa with⟨c0,aa⟩|⟨c0,aa⟩
  ·obtain rfl:=za aa
   exact yF ((xRe Tryz.prog 10 (.atom (.slice none 0 0)) (eNl 1 (eI .i64) ([]:List Int)) (zgy 1)).or ((QG zt (.inl 76) [66]).or X0)) hC .ret [(0,.own (.box (xE 64 (xE 64 (eNl 1 (eI .i64))) f_))),(10,.d (eNl 1 (eI .i64) ([]:List Int)))] [Ha (lnM (eI .i64) out),Hq c0,Hn (rfl:T.d (.atom (.slice none 0 0))=T.d (.atom (.slice none 0 0)))] fun st0 h0=>hE _ st0 (.inr rfl) (z0F h0 ⟨⟨rfl,rfl⟩,trivial⟩) (zpt h0 rfl rfl)
  ·obtain⟨r_,h0,aa⟩:=zb aa
   obtain⟨g0,aa⟩:=gdE aa
   obtain rfl:=za aa
   exact yF ((xRe Tryz.prog 10 (eSl 1 true (eI .i64) r_) (eNl 1 (eI .i64) r_) (fun S v q=>(LeA.slNl 1 true (eI .i64) g0).repV q)).or ((QG zt (.inl 76) [66]).or X0)) hC .ret [(0,.own (.box (xE 64 (xE 64 (eNl 1 (eI .i64))) f_))),(10,.d (eNl 1 (eI .i64) r_))] [Ha (lnM (eI .i64) out),Hq c0,Hg (z1K h03),Hm (shM (eI .i64) (eI .i64) out),Hs (z1L h03 (x:=out) h0 (loC F6_ out <| loN)),Hm (shM (eI .i64) (eI .i64) out),Hn (rfl:T.d (eSl 1 true (eI .i64) r_)=T.d (eSl 1 true (eI .i64) r_))] fun st0 h0=>hE _ st0 (.inr rfl) (z0F h0 ⟨⟨rfl,rfl⟩,trivial⟩) (zpt h0 rfl rfl)
 ·obtain⟨ap,h1,aa⟩:=zb aa
  obtain⟨t2,ht2,aa⟩:=zb aa
  refine yL ((QG zt (.inl 76) [66]).or X0) hC xL [1,0,1,1,2,1,0] [J1] (fun s=>Zq m_ t_ n_ f_ ap s) (fun x=>Jo m_ t_ n_ f_ ap x) 0 ht2  [Hi yI h1,Ha (lnM F8_ ap)] ?_
  rintro de m2 au ae hl1 J2 ax
  try unfold Zq at ae
  rcases zH ae with⟨c1,ae⟩|⟨c1,ae⟩
  ·refine yJ ((QG zt (.inl 76) [66]).or X0) hC xL [1,0,1,1,2,1,0,0,1,1] [J1,J2] [0,3,4,6,11,19,20,21] (fun z:Unit=>wJ de=some au) (fun z=>Jp m_ t_ n_ f_ ap de) [(0,.own (.box (xE 64 (xE 64 (eNl 1 (eI .i64))) f_))),(3,.d (I t_)),(4,.d (I n_)),(6,.own (.box (zD m_))),(11,.own (eOs 1 true (eI .i64) [])),(19,.d (eSl 2 false F8_ ap)),(20,.d (I ((ap.length:Nat):Int))),(21,.d (I de))] [Hq c1,Hh (.cut 0)] ?_ fun J3 ba=>?_
   ·rintro⟨⟩ ae
    unfold wJ at ae
    obtain rfl:=za ae
    exact yB ((QG zt (.inl 76) [66]).or X0) hC ax (w64 (de+1)) hl1 []
   ·obtain⟨ak,h2,ae⟩:=zb ae
    obtain⟨io,h3,ae⟩:=zb ae
    obtain⟨bj,h4,ae⟩:=zb ae
    let Z0:List HO:=[Hi F8_ h2,Hi yI h3,Hi F8_ h4]
    rcases zH ae with⟨c2,ae⟩|⟨c2,ae⟩
    ·obtain rfl:=za ae
     obtain rfl:=hl1
     exact yBx ((QG zt (.inl 76) [66]).or X0) hC aq ([de]:List Int) aa [(0,.own (.box (xE 64 (xE 64 (eNl 1 (eI .i64))) f_))),(4,.d (I n_)),(11,.own (eOs 1 true (eI .i64) ([de])))] inferInstance (Z0++[Hq c2])
    ·rcases zH ae with⟨c3,ae⟩|⟨c3,ae⟩
     ·let Z1:List HO:=(Z0++(Hq c2::(rpN 4 (Hq c3) [])))
      rcases zH ae with⟨c4,ae⟩|⟨c4,ae⟩
      ·obtain⟨cell,h5,ae⟩:=zb ae
       obtain⟨a7,h6,ae⟩:=zb ae
       let Z2:List HO:=(Z1++(rpN 7 (Hq c4) (Hn (⟨Ju (by kernel_rfl) f_ (i0 h5),(iL (xE 64 (eNl 1 (eI .i64))) h5).2⟩:Xh yb 154 ((f_.l).map (xE 64 (eNl 1 (eI .i64)))) ak.To=true/\ak.To.toNat<((f_.l).map (xE 64 (eNl 1 (eI .i64)))).length)::Hq c4::Hh (.f)::Hs (iM (xE 64 (eNl 1 (eI .i64))) h5)::Hn (⟨Ju (by kernel_rfl) cell (i0 h6),(iL (eNl 1 (eI .i64)) h6).2⟩:Xh yb 125 ((cell.l).map (eNl 1 (eI .i64))) bj.To=true/\bj.To.toNat<((cell.l).map (eNl 1 (eI .i64))).length)::Hq c4::Hh (.f)::Hs (iM (xE 64 (eNl 1 (eI .i64))) h5)::Hh (.f)::Hs (iM (eNl 1 (eI .i64)) h6)::Hn (rfl:T.d (eNl 1 (eI .i64) a7)=T.d (eNl 1 (eI .i64) a7))::Hq c4::Ha (lnM (eI .i64) a7)::(rpN 4 (Hq c4) []))))
       rcases zH ae with⟨c5,ae⟩|⟨c5,ae⟩
       ·obtain⟨dw,h7,ae⟩:=zb ae
        obtain⟨eg,h8,ae⟩:=zb ae
        obtain⟨ai,h9,ae⟩:=zb ae
        obtain rfl:=za ae
        obtain rfl:=hl1
        exact yB ((xLs zt 75 (eNl 1 (eI .i64) eg) (eSl 1 false (eI .i64) eg) inferInstance).or ((xBl zt 66).or ((xLs zt 59 (eNl 1 (eI .i64) a7) (eSl 1 false (eI .i64) a7) inferInstance).or ((QG zt (.inl 76) [66]).or X0)))) hC aq ai aa (Z2++[Hq c5,Hn (⟨Ju (by kernel_rfl) f_ (i0 h7),(iL (xE 64 (eNl 1 (eI .i64))) h7).2⟩:Xh yb 154 ((f_.l).map (xE 64 (eNl 1 (eI .i64)))) ak.To=true/\ak.To.toNat<((f_.l).map (xE 64 (eNl 1 (eI .i64)))).length),Hh (.op 9),Hh (.f),Hs (iM (xE 64 (eNl 1 (eI .i64))) h7),Hn (⟨Ju (by kernel_rfl) dw (i0 h8),(iL (eNl 1 (eI .i64)) h8).2⟩:Xh yb 125 ((dw.l).map (eNl 1 (eI .i64))) bj.To=true/\bj.To.toNat<((dw.l).map (eNl 1 (eI .i64))).length),Hh (.op 0),Hh (.f),Hs (iM (xE 64 (eNl 1 (eI .i64))) h7),Hh (.f),Hs (iM (eNl 1 (eI .i64)) h8),Hn (rfl:T.d (eNl 1 (eI .i64) eg)=T.d (eNl 1 (eI .i64) eg)),Hm (shM (eI .i64) (eI .i64) ([de])),Hg (z1K h0k),Hm (shM F6_ F6_ ([[de],eg])),Hs (z1L h0k (x:=[[de],eg]) h9 (loC zj0 ([[de],eg]:List (List Int)) <| loN)),Hm (shM F6_ F6_ ([[de],eg]))])
       ·exact yB ((xLs zt 59 (eNl 1 (eI .i64) a7) (eSl 1 false (eI .i64) a7) inferInstance).or ((QG zt (.inl 76) [66]).or X0)) hC ba () ae (Z2++[Hq c5])
      ·exact yB ((QG zt (.inl 76) [66]).or X0) hC ba () ae (Z1++(rpN 14 (Hq c4) [qF]))
     ·exact yB ((QG zt (.inl 76) [66]).or X0) hC ba () ae (Z0++(Hq c2::(rpN 4 (Hq c3) (rpN 15 qF []))))
  ·obtain rfl:=za ae
   obtain rfl:=hl1
   exact yBx ((QG zt (.inl 76) [66]).or X0) hC aq ([]:List Int) aa [(0,.own (.box (xE 64 (xE 64 (eNl 1 (eI .i64))) f_))),(4,.d (I n_)),(11,.own (eOs 1 true (eI .i64) []))] inferInstance [Hq c1]
def z0P:Code:=(Tryz.f134.body).getD .skip
theorem z1o (hC:zx Tryz.prog ctr)(d8:Value):∀(s_:Int) (t_:Int) (w_:List Int) (f_:ArN 64 (ArN 64 (List Int))) (r0:ArN 64 (ArN 64 (List Int))),Wo s_ t_ w_ f_=some r0->uQ Tryz.prog (.fn 134 []) [.atom d8,I s_,I t_,eNl 1 (eI .i64) w_] ([d8].zip [.box (xE 64 (xE 64 (eNl 1 (eI .i64))) f_)]) (.tup []) [.box (xE 64 (xE 64 (eNl 1 (eI .i64))) r0)]:=by
 intro s_ t_ w_ f_ r0 aa
 refine zb4 (tt:=yb) (nt:=22) (body:=z0P) [0] zt Tryz.func134 rfl (by kernel_rfl) rfl rfl (by show(4:Nat)<=22;decide) (by decide) rfl rfl (fun E hE=>?_) rfl
 unfold Wo at aa
 refine ziH 0 (v:=d8) ⟨_,rfl⟩ (by kernel_rfl) fun b0 hb0=>?_
 subst hb0
 obtain⟨cell,h0,aa⟩:=zb aa
 obtain⟨a7,h1,aa⟩:=zb aa
 obtain⟨arr,h2,aa⟩:=zb aa
 replace h2:=za h2
 obtain⟨arr1,h3,aa⟩:=zb aa
 replace h3:=za h3
 obtain⟨dw,h4,aa⟩:=zb aa
 obtain⟨eg,h5,aa⟩:=zb aa
 obtain⟨arr2,h6,aa⟩:=zb aa
 replace h6:=za h6
 obtain⟨kq,h7,aa⟩:=zb aa
 replace h7:=za h7
 obtain rfl:=za aa
 exact yF ((xIr zt 21 0 t_.toNat b0).or ((xRi zt 20 64 64 b0).or ((xNr Tryz.prog 19 b0).or ((xMv Tryz.prog 11 0 (z5e b0) rfl).or X0)))) hC .normal [(0,.own (.box (xE 64 (xE 64 (eNl 1 (eI .i64))) kq)))] [Hn (rfl:some (z5e b0)=some (z5e b0)),Hn (⟨Ju (by kernel_rfl) f_ (i0 h0),(iL (xE 64 (eNl 1 (eI .i64))) h0).2⟩:Xh yb 154 ((f_.l).map (xE 64 (eNl 1 (eI .i64)))) s_=true/\s_.toNat<((f_.l).map (xE 64 (eNl 1 (eI .i64)))).length),Hh (.op 10),Hh (.f),Hs (iM (xE 64 (eNl 1 (eI .i64))) h0),Hn (⟨Ju (by kernel_rfl) cell (i0 h1),(iL (eNl 1 (eI .i64)) h1).2⟩:Xh yb 125 ((cell.l).map (eNl 1 (eI .i64))) t_=true/\t_.toNat<((cell.l).map (eNl 1 (eI .i64))).length),Hh (.op 0),Hh (.f),Hs (iM (xE 64 (eNl 1 (eI .i64))) h0),Hh (.f),Hs (iM (eNl 1 (eI .i64)) h1),Hh (.f),Hs (iM (xE 64 (eNl 1 (eI .i64))) h0),Hh (.f),Hs (iM (eNl 1 (eI .i64)) h1),Hx (.l ((arr.l).map (eNl 1 (eI .i64)))) ((ArN.setL (eNl 1 (eI .i64)) cell t_ w_).trans (congrArg (fun q=>(ArN.l q).map (eNl 1 (eI .i64))) h2)),Hx (.l ((arr1.l).map (xE 64 (eNl 1 (eI .i64))))) ((ArN.setL (xE 64 (eNl 1 (eI .i64))) f_ s_ arr).trans (congrArg (fun q=>(ArN.l q).map (xE 64 (eNl 1 (eI .i64)))) h3)),Hn (rfl:T.d (.atom (z5e b0))=T.d (.atom (z5e b0))),Hn (⟨rfl,i0 h4,zgQ (x:=arr1) h4⟩:T.d (.atom (z5e b0))=T.d (.atom (z5e b0))/\0<=t_/\t_.toNat<64),Hn (⟨⟨congrArg (fun k=>T.d (.atom (.pointer (some ⟨b0,k,none⟩)))) (ziJ (f:=(xE 64 (eNl 1 (eI .i64)))) arr1 h4).symm,(iL (xE 64 (eNl 1 (eI .i64))) h4).2⟩,rfl⟩:(T.d (.atom (.pointer (some ⟨b0,t_.toNat*64,none⟩)))=T.d (.atom (.pointer (some ⟨b0,A.sizes (((arr1.l).map (xE 64 (eNl 1 (eI .i64)))).take t_.toNat),none⟩)))/\t_.toNat<((arr1.l).map (xE 64 (eNl 1 (eI .i64)))).length)/\some (z5e b0)=some (z5e b0)),Hh (.op 2),Hh (.f),Hs (iM (xE 64 (eNl 1 (eI .i64))) h4),Hn (⟨Ju (by kernel_rfl) dw (i0 h5),(iL (eNl 1 (eI .i64)) h5).2⟩:Xh yb 125 ((dw.l).map (eNl 1 (eI .i64))) s_=true/\s_.toNat<((dw.l).map (eNl 1 (eI .i64))).length),Hh (.op 0),Hh (.f),Hs (iM (xE 64 (eNl 1 (eI .i64))) h4),Hh (.f),Hs (iM (eNl 1 (eI .i64)) h5),Hh (.f),Hs (iM (xE 64 (eNl 1 (eI .i64))) h4),Hh (.f),Hs (iM (eNl 1 (eI .i64)) h5),Hx (.l ((arr2.l).map (eNl 1 (eI .i64)))) ((ArN.setL (eNl 1 (eI .i64)) dw s_ w_).trans (congrArg (fun q=>(ArN.l q).map (eNl 1 (eI .i64))) h6)),Hx (.l ((kq.l).map (xE 64 (eNl 1 (eI .i64))))) ((ArN.setL (xE 64 (eNl 1 (eI .i64))) arr1 t_ arr2).trans (congrArg (fun q=>(ArN.l q).map (xE 64 (eNl 1 (eI .i64)))) h7))] fun st0 h0=>hE _ st0 (.inl rfl) (z0F h0 ⟨⟨rfl,rfl⟩,trivial⟩)
def y9:Code:=(Tryz.f104.body).getD .skip
def Y6:zK:=spF (α:=z6) (ρ:=ArN 64 (ArN 64 (List Int))) 104 (fun x=>[zD x]) (fun r=>(eBx (xE 64 (xE 64 (eNl 1 (eI .i64))))) r) (fun x=>Wn x) [] (WL)
abbrev JH (f_:ArN 64 (ArN 64 (List Int))):List (Nat×T):=[(3,.own (.box (.box (xE 64 (xE 64 (eNl 1 (eI .i64))) f_))))]
abbrev JG (m_:z6)(n_:Int)(kz:ArN 64 (ArN 64 (List Int))):List (Nat×T):=[(1,.own (.box (zD m_))),(3,.own (.box (.box (xE 64 (xE 64 (eNl 1 (eI .i64))) kz)))),(4,.own (.box (I n_)))]
abbrev JD (m_:z6)(n_:Int)(now:List zO)(ji:ArN 64 (ArN 64 (List Int)))(ke:Int):List (Nat×T):=[(1,.own (.box (zD m_))),(3,.own (.box (.box (xE 64 (xE 64 (eNl 1 (eI .i64))) ji)))),(4,.own (.box (I n_))),(48,.d (eSl 4 false (zR (eI .i64) (eI .i64) (eNl 1 (eI .i64)) eB) now)),(49,.d (I ((now.length:Nat):Int))),(50,.d (I ke))]
abbrev JF (m_:z6)(n_:Int)(k0:ArN 64 (ArN 64 (List Int)))(now:List zO):List (Nat×T):=[(1,.own (.box (zD m_))),(3,.own (.box (.box (xE 64 (xE 64 (eNl 1 (eI .i64))) k0)))),(4,.own (.box (I n_))),(5,.own (.box (eOs 4 false (zR (eI .i64) (eI .i64) (eNl 1 (eI .i64)) eB) now)))]
abbrev vt (m_:z6)(n_:Int)(ai:z6)(d7:ArN 64 (ArN 64 (List Int)))(dj:List zO):List (Nat×T):=[(1,.own (.box (zD m_))),(3,.own (.box (.box (xE 64 (xE 64 (eNl 1 (eI .i64))) d7)))),(4,.own (.box (I n_))),(5,.own (.box (eOs 4 false (zR (eI .i64) (eI .i64) (eNl 1 (eI .i64)) eB) dj))),(22,.d (.fn 150 [.sptr (.agg [I ai.Inputs,I ai.Outputs,eSl 1 false yI ai.Rows])]))]
abbrev JE (m_:z6)(iw:ArN 64 (ArN 64 (List Int)))(n_:Int):List (Nat×T):=[(1,.own (.box (zD m_))),(3,.own (.box (.box (xE 64 (xE 64 (eNl 1 (eI .i64))) iw)))),(4,.own (.box (I n_)))]
theorem z1n (hC:zx Tryz.prog ctr)(h1H:ctr.Has Vo)(h0k:ctr.Has wr)(h03:ctr.Has xh):Y6.Ok Tryz.prog:=by
 refine zw ?_
 rintro m_ r0 aa
 try unfold Wn at aa
 refine z1R (tt:=yb) (rs:=[(true,2,none)]) (n:=⟨65,[]⟩) (body:=y9) zt Tryz.func104 rfl (by kernel_rfl) rfl rfl (by show(1:Nat)<=65;decide) fun E hE=>?_
 refine yJ X0 hC y9 [1,1] [] [3] (fun z:ArN 64 (ArN 64 (List Int))=>Y5 z=some r0) (fun z=>JH z) [(1,.own (.box (zD m_))),(3,.own (.box (.box (xE 64 (xE 64 (eNl 1 (eI .i64))) (ArN.rep 64 (ArN.rep 64 ([]:List Int)))))))] [Hh (.cut 2)] ?_ fun J1 aq=>?_
 ·rintro f_ aa
  unfold Y5 at aa
  obtain rfl:=za aa
  let ZE:List HO:=[]
  exact WJ X0 zt hC Zp hE 4000 (hs:=hoH ZE) (x:=(.box (xE 64 (xE 64 (eNl 1 (eI .i64))) f_))) (hoB ZE) (by kernel_rfl) (LeV.refl _)
 ·obtain⟨t2,ht2,aa⟩:=zb aa
  refine yL X0 hC y9 [1,1,2,1,0] [J1] (fun s=>Y2 m_ s.1 s.2) (fun x=>JE m_ x.1 x.2) ((ArN.rep 64 (ArN.rep 64 ([]:List Int))),1) ht2  [] ?_
  rintro⟨iw,n_⟩ m2 au ae hl1 J2 ax
  try unfold Y2 at ae
  let Z0:List HO:=[Ha (lnM yI m_.Rows)]
  rcases zH ae with⟨c0,ae⟩|⟨c0,ae⟩
  ·refine yJ X0 hC y9 [1,1,2,1,0,0,1] [J1,J2] [1,3,4] (fun z:ArN 64 (ArN 64 (List Int))=>Y4 n_ z=some au) (fun z=>JG m_ n_ z) [(1,.own (.box (zD m_))),(3,.own (.box (.box (xE 64 (xE 64 (eNl 1 (eI .i64))) iw)))),(4,.own (.box (I n_)))] (Z0++[Hq c0,Hh (.cut 0)]) ?_ fun J3 ba=>?_
   ·rintro kz ae
    unfold Y4 at ae
    obtain rfl:=za ae
    exact yB X0 hC ax (kz,w64 (n_+1)) hl1 []
   ·refine yJ X0 hC y9 [1,1,2,1,0,0,1,2,0,1] [J1,J2,J3] [1,3,4,5] (fun z:ArN 64 (ArN 64 (List Int))×List zO=>Y3 n_ z.1 z.2=some au) (fun z=>JF m_ n_ z.1 z.2) [(1,.own (.box (zD m_))),(3,.own (.box (.box (xE 64 (xE 64 (eNl 1 (eI .i64))) iw)))),(4,.own (.box (I n_))),(5,.own (.box (eOs 4 true (zR (eI .i64) (eI .i64) F6_ eB) [])))] [Hh (.cut 1)] ?_ fun J4 bv=>?_
    ·rintro⟨k0,now⟩ ae
     unfold Y3 at ae
     obtain⟨t5,ht5,ae⟩:=zb ae
     refine yL X0 hC y9 [1,1,2,1,0,0,1,2,0,1,1,1,0] [J1,J2,J3] (fun s=>Y1 now s.1 s.2) (fun x=>JD m_ n_ now x.1 x.2) (k0,0) ht5  [Hh (.v 0 [5]),Hm (shM (zR (eI .i64) (eI .i64) (eNl 1 (eI .i64)) eB) (zR (eI .i64) (eI .i64) (eNl 1 (eI .i64)) eB) now),Hh (.v 1 [5]),Ha (lnM (zR (eI .i64) (eI .i64) (eNl 1 (eI .i64)) eB) now)] ?_
     rintro⟨ji,ke⟩ m5 cq aj hl2 J5 cj
     try unfold Y1 at aj
     rcases zH aj with⟨c1,aj⟩|⟨c1,aj⟩
     ·obtain⟨cm,h0,aj⟩:=zb aj
      obtain⟨r_,h1,aj⟩:=zb aj
      obtain rfl:=za aj
      exact yB ((zc1 (P:=Tryz.prog) yb 3 0 (fa:=.fn 134 []) (z:=.box (xE 64 (xE 64 (eNl 1 (eI .i64))) ji)) (z':=.box (xE 64 (xE 64 (eNl 1 (eI .i64))) r_)) (r:=.tup []) (xl:=[]) (xr:=[(eI .i64) cm.S,(eI .i64) cm.T,(eNl 1 (eI .i64)) cm.Word]) rfl rfl (fun v=>z1o hC v _ _ _ _ _ h1) 61).or X0) hC cj (r_,w64 (ke+1)) hl2 [Hq c1,Hi (zR (eI .i64) (eI .i64) (eNl 1 (eI .i64)) eB) h0,Hn (⟨rfl,leP (show Jv [] [] from inferInstance),leP (show Jv [(eI .i64) cm.S,(eI .i64) cm.T,(eNl 1 (eI .i64)) cm.Word] [(eI .i64) cm.S,(eI .i64) cm.T,(eNl 1 (eI .i64)) cm.Word] from inferInstance),rfl,rfl⟩:([.fn 134 []]:List A)=[.fn 134 []]/\LeP [] []/\LeP [(eI .i64) cm.S,(eI .i64) cm.T,(eNl 1 (eI .i64)) cm.Word] [(eI .i64) cm.S,(eI .i64) cm.T,(eNl 1 (eI .i64)) cm.Word]/\T.als 3 [.deref] 0 0=T.als 3 [.deref] 0 0/\T.own (.box (.box (xE 64 (xE 64 (eNl 1 (eI .i64))) ji)))=T.own (.box (.box (xE 64 (xE 64 (eNl 1 (eI .i64))) ji))))]
     ·obtain rfl:=za aj
      obtain rfl:=hl2
      exact yB X0 hC ba ji ae [Hq c1]
    ·obtain⟨ai,h2,ae⟩:=zb ae
     obtain⟨t6,jl,ae⟩:=zb ae
     refine yAt X0 hC (sub [1,1,2,1,0,0,1,2,0,1,2,1,0] y9) (frs [1,1,2,1,0,0,1,2,0,1,2,1,0] [J1,J2,J3,J4] y9 []) [(1,.own (.box (zD m_))),(3,.own (.box (.box (xE 64 (xE 64 (eNl 1 (eI .i64))) iw)))),(4,.own (.box (I n_))),(5,.own (.box (eOs 4 true (zR (eI .i64) (eI .i64) (eNl 1 (eI .i64)) eB) []))),(22,.d (.fn 150 [.sptr (.agg [I ai.Inputs,I ai.Outputs,eSl 1 false yI ai.Rows])]))] [Hc h1H (x:=m_) h2 (loC zD m_ <| loN)] fun st0 h0=>?_
     refine z0U (g:=.tmp 22) (ps:=[23,24]) (assign:=(sub [1,1,2,1,0,0,1,2,0,1,2,1,0,0] y9)) (body:=(sub [1,1,2,1,0,0,1,2,0,1,2,1,0,1] y9)) (K:=150) (caps:=[.sptr (.agg [I ai.Inputs,I ai.Outputs,eSl 1 false yI ai.Rows])]) (by kernel_rfl) [1,3,4,5,22] (fun s=>vt m_ n_ ai s.1 s.2) (fun z=>nomatch z) (fun z=>nomatch z) ((fun(x:Int×Int) (_:Bool) (_:Value)=>[(eI .i64) x.1,(eI .i64) x.2])) (F:=@XE ai) (fun s x=>uU m_ n_ s.1 s.2 x.1 x.2) (iw,([]:List zO)) t6 _ h0 inferInstance (by kernel_rfl) (by decide) (fun _=>rfl) (by rintro⟨⟩) (by kernel_rfl) (fun _ _ _=>rfl) (z3T hC ai) jl ?_ ?_
     ·rintro m7 ⟨d7,dj⟩ ⟨fg,bg⟩ vr cq aj
      replace aj:uU m_ n_ d7 dj fg bg=some cq:=aj
      unfold uU at aj
      refine yF X0 hC .normal [(1,.own (.box (zD m_))),(3,.own (.box (.box (xE 64 (xE 64 (eNl 1 (eI .i64))) d7)))),(4,.own (.box (I n_))),(5,.own (.box (eOs 4 false (zR (eI .i64) (eI .i64) (eNl 1 (eI .i64)) eB) dj))),(6,.d (I fg)),(7,.d (I bg)),(22,.d (.fn 150 [.sptr (.agg [I ai.Inputs,I ai.Outputs,eSl 1 false yI ai.Rows])]))] [] fun st0 h0=>⟨rfl,z87 h0 ?_⟩
      obtain⟨cell,h3,aj⟩:=zb aj
      obtain⟨a7,h4,aj⟩:=zb aj
      let Z1:List HO:=[Hn (⟨Ju (by kernel_rfl) d7 (i0 h3),(iL (xE 64 (eNl 1 (eI .i64))) h3).2⟩:Xh yb 154 ((d7.l).map (xE 64 (eNl 1 (eI .i64)))) fg=true/\fg.toNat<((d7.l).map (xE 64 (eNl 1 (eI .i64)))).length),Hh (.op 5),Hh (.f),Hs (iM (xE 64 (eNl 1 (eI .i64))) h3),Hn (⟨Ju (by kernel_rfl) cell (i0 h4),(iL (eNl 1 (eI .i64)) h4).2⟩:Xh yb 125 ((cell.l).map (eNl 1 (eI .i64))) bg=true/\bg.toNat<((cell.l).map (eNl 1 (eI .i64))).length),Hh (.op 0),Hh (.f),Hs (iM (xE 64 (eNl 1 (eI .i64))) h3),Hh (.f),Hs (iM (eNl 1 (eI .i64)) h4),Hn (⟨rfl,rfl⟩:T.d (eNl 1 (eI .i64) a7)=T.d (eNl 1 (eI .i64) a7)/\T.d (.atom (.slice none 0 0))=T.d (.atom (.slice none 0 0)))]
      rcases zH aj with⟨c2,aj⟩|⟨c2,aj⟩
      ·obtain rfl:=za aj
       exact yF ((zje zt 32 40 1 (a7.map (eI .i64)) true (!a7.isEmpty) (by kernel_rfl) (nlB true (eI .i64) a7)).or X0) hC .normal (vt m_ n_ ai d7 dj) (Z1++[Hq c2]) fun st0 h0=>⟨rfl,_,h0,LeL.refl _⟩
      ·obtain⟨al,h5,aj⟩:=zb aj
       let Z2:List HO:=(Z1++[Hq c2,Hn (⟨rfl,leP (show Jv [] [] from inferInstance),leP (show Jv [zD m_,(eI .i64) fg,(eI .i64) bg,(eI .i64) n_] [zD m_,(eI .i64) fg,(eI .i64) bg,(eI .i64) n_] from inferInstance),rfl,rfl⟩:([.fn 133 []]:List A)=[.fn 133 []]/\LeP [] []/\LeP [zD m_,(eI .i64) fg,(eI .i64) bg,(eI .i64) n_] [zD m_,(eI .i64) fg,(eI .i64) bg,(eI .i64) n_]/\T.als 3 [.deref] 0 0=T.als 3 [.deref] 0 0/\T.own (.box (.box (xE 64 (xE 64 (eNl 1 (eI .i64))) d7)))=T.own (.box (.box (xE 64 (xE 64 (eNl 1 (eI .i64))) d7)))),Hn (⟨rfl,rfl⟩:T.d (eNl 1 (eI .i64) al.1)=T.d (eNl 1 (eI .i64) al.1)/\T.d (.atom (.slice none 0 0))=T.d (.atom (.slice none 0 0)))])
       rcases zH aj with⟨c3,aj⟩|⟨c3,aj⟩
       ·obtain⟨g0,aj⟩:=gdE aj
        obtain rfl:=za aj
        exact yF ((zje zt 40 40 1 (al.1.map (eI .i64)) true (!al.1.isEmpty) (by kernel_rfl) (nlB true (eI .i64) al.1)).or ((zc1 (P:=Tryz.prog) yb 3 0 (fa:=.fn 133 []) (z:=.box (xE 64 (xE 64 (eNl 1 (eI .i64))) d7)) (z':=.box (xE 64 (xE 64 (eNl 1 (eI .i64))) al.2)) (r:=eNl 1 (eI .i64) al.1) (xl:=[]) (xr:=[zD m_,(eI .i64) fg,(eI .i64) bg,(eI .i64) n_]) rfl rfl (fun v=>Ve hC h0k h03 v _ _ _ _ _ _ h5) 38).or ((zje zt 32 40 1 (a7.map (eI .i64)) true (!a7.isEmpty) (by kernel_rfl) (nlB true (eI .i64) a7)).or X0))) hC .normal (vt m_ n_ ai al.2 (dj++([(zO.mk fg bg al.1 false)]:List zO))) (Z2++[Hq c3,Hq (dM (zR (eI .i64) (eI .i64) (eNl 1 (eI .i64)) eB) ([(zO.mk fg bg al.1 false)]:List zO)),Hn (dM (zR (eI .i64) (eI .i64) (eNl 1 (eI .i64)) eB) ([(zO.mk fg bg al.1 false)]:List zO)),Hn (aL (zR (eI .i64) (eI .i64) (eNl 1 (eI .i64)) eB) (zR (eI .i64) (eI .i64) (eNl 1 (eI .i64)) eB) g0),Hl (aM (zR (eI .i64) (eI .i64) (eNl 1 (eI .i64)) eB) dj ([(zO.mk fg bg al.1 false)]:List zO))]) fun st0 h0=>⟨rfl,_,h0,LeL.refl _⟩
       ·obtain rfl:=za aj
        exact yF ((zje zt 40 40 1 (al.1.map (eI .i64)) true (!al.1.isEmpty) (by kernel_rfl) (nlB true (eI .i64) al.1)).or ((zc1 (P:=Tryz.prog) yb 3 0 (fa:=.fn 133 []) (z:=.box (xE 64 (xE 64 (eNl 1 (eI .i64))) d7)) (z':=.box (xE 64 (xE 64 (eNl 1 (eI .i64))) al.2)) (r:=eNl 1 (eI .i64) al.1) (xl:=[]) (xr:=[zD m_,(eI .i64) fg,(eI .i64) bg,(eI .i64) n_]) rfl rfl (fun v=>Ve hC h0k h03 v _ _ _ _ _ _ h5) 38).or ((zje zt 32 40 1 (a7.map (eI .i64)) true (!a7.isEmpty) (by kernel_rfl) (nlB true (eI .i64) a7)).or X0))) hC .normal (vt m_ n_ ai al.2 dj) (Z2++[Hq c3]) fun st0 h0=>⟨rfl,_,h0,LeL.refl _⟩
     ·rcases t6 with⟨d7,dj⟩|z
      ·dsimp only at ae
       exact Wf (by kernel_rfl) (bv _ [(1,.own (.box (zD m_))),(3,.own (.box (.box (xE 64 (xE 64 (eNl 1 (eI .i64))) d7)))),(4,.own (.box (I n_))),(5,.own (.box (eOs 4 false (zR (eI .i64) (eI .i64) (eNl 1 (eI .i64)) eB) dj)))] (d7,dj) ae (show Own.canon [1,3,4,5] _=ofL _ by kernel_rfl) inferInstance)
      ·cases z
  ·obtain rfl:=za ae
   obtain rfl:=hl1
   exact yB X0 hC aq iw aa (Z0++[Hq c0])
def Jh:Code:=(Tryz.f103.body).getD .skip
def wL:zK:=spF (α:=List Int) (ρ:=List Int) 103 (fun x=>[F6_ x]) (fun r=>F5_ r) (fun x=>ue x) [] (WL)
theorem Jx (hC:zx Tryz.prog ctr):wL.Ok Tryz.prog:=by
 refine zw ?_
 rintro s_ r0 aa
 try unfold ue at aa
 refine yO true [(2,none)] Jh 8 Tryz.func103 fun E hE=>?_
 refine zdR rfl 0 (sz:=1) (t:=false) (es:=s_.map (eI .i64)) (by kernel_rfl) fun bf hv0 hn=>?_
 rcases hn with⟨hn0,he0⟩|hn0
 ·obtain⟨_,aa⟩:=gdE aa
  rw [show s_=[] from List.map_eq_nil_iff.1 he0]at aa
  obtain rfl:=za aa
  exact yEx ((zmU zt 4 40 (by kernel_rfl) hn0).or ((xMv Tryz.prog 3 0 bf hv0).or X0)) hC hE [Hn (rfl:some bf=some bf),Hn (⟨rfl,rfl⟩:T.d (.atom bf)=T.d (.atom bf)/\T.d (.atom (.slice none 0 0))=T.d (.atom (.slice none 0 0))),qT] (eOs 1 true (eI .i64) []) (show LeV (eOs 1 true (eI .i64) []) (eOs 1 false (eI .i64) ([]:List Int)) from inferInstance)
 ·obtain⟨g0,aa⟩:=gdE aa
  obtain rfl:=za aa
  exact yE ((zmU zt 4 40 (by kernel_rfl) hn0).or ((xMv Tryz.prog 3 0 bf hv0).or X0)) hC hE [Hn (rfl:some bf=some bf),Hn (⟨rfl,rfl⟩:T.d (.atom bf)=T.d (.atom bf)/\T.d (.atom (.slice none 0 0))=T.d (.atom (.slice none 0 0))),qF,Hn (dM (eI .i64) s_),Hn (aL (eI .i64) (eI .i64) g0),Hl (aM0 (eI .i64) s_)]
def z1S:Code:=(Tryz.f72.body).getD .skip
def vH:zK:=spF (α:=z6×Int×Int) (ρ:=List Int×Bool×Int) 72 (fun x=>[zD x.1,(eI .i64) x.2.1,(eI .i64) x.2.2]) (fun r=>.tup [F2_ r.1,eB r.2.1,(eI .i64) r.2.2]) (fun x=>Yq x.1 x.2.1 x.2.2) [] (zad)
theorem z2A (hC:zx Tryz.prog ctr)(h0I:ctr.Has Vn)(h1I:ctr.Has Y6)(h0x:ctr.Has wL)(h03:ctr.Has xh):vH.Ok Tryz.prog:=by
 refine zw ?_
 rintro⟨m_,s_,t_⟩ r0 aa
 try unfold Yq at aa
 refine yO false [(6,none),(7,none),(8,none)] z1S 33 Tryz.func72 fun E hE=>?_
 obtain⟨r_,h0,aa⟩:=zb aa
 let Z0:List HO:=[Hg (z1K h0I),Hm (shM (eI .i64) (eI .i64) ([s_,t_])),Hs (z1L h0I (x:=(m_,[s_,t_])) h0 (loC zD m_ <| loC F2_ ([s_,t_]:List Int) <| loN))]
 rcases zH aa with⟨c0,aa⟩|⟨c0,aa⟩
 ·obtain rfl:=za aa
  exact yEx X0 hC hE (Z0++[Hq c0,Hm (shM (eI .i64) (eI .i64) [])]) (.tup [eSl 1 true (eI .i64) [],B false,I r_]) (show LeV (.tup [eSl 1 true (eI .i64) [],B false,I r_]) (.tup [eSl 1 true (eI .i64) ([]:List Int),B false,I r_]) from inferInstance)
 ·obtain⟨ai,h1,aa⟩:=zb aa
  obtain⟨cell,h2,aa⟩:=zb aa
  obtain⟨a7,h3,aa⟩:=zb aa
  obtain⟨al,h4,aa⟩:=zb aa
  obtain⟨am,h5,aa⟩:=zb aa
  obtain rfl:=za aa
  exact yE ((xLs zt 26 (eNl 1 (eI .i64) a7) (eSl 1 false (eI .i64) a7) inferInstance).or X0) hC hE (Z0++[Hq c0,Hc h1I (x:=m_) h1 (loC zD m_ <| loN),Hn (⟨Ju (by kernel_rfl) ai (i0 h2),(iL (xE 64 (eNl 1 (eI .i64))) h2).2⟩:Xh yb 154 ((ai.l).map (xE 64 (eNl 1 (eI .i64)))) s_=true/\s_.toNat<((ai.l).map (xE 64 (eNl 1 (eI .i64)))).length),Hh (.op 4),Hh (.f),Hs (iM (xE 64 (eNl 1 (eI .i64))) h2),Hn (⟨Ju (by kernel_rfl) cell (i0 h3),(iL (eNl 1 (eI .i64)) h3).2⟩:Xh yb 125 ((cell.l).map (eNl 1 (eI .i64))) t_=true/\t_.toNat<((cell.l).map (eNl 1 (eI .i64))).length),Hh (.op 0),Hh (.f),Hs (iM (xE 64 (eNl 1 (eI .i64))) h2),Hh (.f),Hs (iM (eNl 1 (eI .i64)) h3),Hn (rfl:T.d (eNl 1 (eI .i64) a7)=T.d (eNl 1 (eI .i64) a7)),Hc h0x (x:=a7) h4 (loC F6_ a7 <| loN),Hg (z1K h03),Hm (shM (eI .i64) (eI .i64) al),Hs (z1L h03 (x:=al) h5 (loC F6_ al <| loN)),Hm (shM (eI .i64) (eI .i64) al),Ha (lnM (eI .i64) am)])
def QC:Code:=(Tryz.f117.body).getD .skip
def ui:zK:=spF (α:=List (List Int)) (ρ:=List (List Int)) 117 (fun x=>[yx x]) (fun r=>zbU r) (fun x=>jZ x) [] (WL)
theorem QI (hC:zx Tryz.prog ctr):ui.Ok Tryz.prog:=by
 refine zw ?_
 rintro s_ r0 aa
 try unfold jZ at aa
 refine yO true [(2,none)] QC 8 Tryz.func117 fun E hE=>?_
 refine zdR rfl 0 (sz:=1) (t:=false) (es:=s_.map F6_) (by kernel_rfl) fun bf hv0 hn=>?_
 rcases hn with⟨hn0,he0⟩|hn0
 ·obtain⟨_,aa⟩:=gdE aa
  rw [show s_=[] from List.map_eq_nil_iff.1 he0]at aa
  obtain rfl:=za aa
  exact yEx ((zmU zt 4 32 (by kernel_rfl) hn0).or ((xMv Tryz.prog 3 0 bf hv0).or X0)) hC hE [Hn (rfl:some bf=some bf),Hn (⟨rfl,rfl⟩:T.d (.atom bf)=T.d (.atom bf)/\T.d (.atom (.slice none 0 0))=T.d (.atom (.slice none 0 0))),qT] (eOs 1 true F6_ []) (show LeV (eOs 1 true F6_ []) (eOs 1 false F6_ ([]:List (List Int))) from inferInstance)
 ·obtain⟨g0,aa⟩:=gdE aa
  obtain rfl:=za aa
  exact yE ((zmU zt 4 32 (by kernel_rfl) hn0).or ((xMv Tryz.prog 3 0 bf hv0).or X0)) hC hE [Hn (rfl:some bf=some bf),Hn (⟨rfl,rfl⟩:T.d (.atom bf)=T.d (.atom bf)/\T.d (.atom (.slice none 0 0))=T.d (.atom (.slice none 0 0))),qF,Hn (dM F6_ s_),Hn (aL F6_ F6_ g0),Hl (aM0 F6_ s_)]
def z2W:Code:=(Tryz.f121.body).getD .skip
def Xq:zK:=spF (α:=List Int×List Int) (ρ:=Bool) 121 (fun x=>[F6_ x.1,F6_ x.2]) (fun r=>eB r) (fun x=>XC x.1 x.2) [] (Qm)
theorem z3R (hC:zx Tryz.prog ctr)(h0h:ctr.Has qt):Xq.Ok Tryz.prog:=by
 refine zw ?_
 rintro⟨a_,b_⟩ r0 aa
 try unfold XC at aa
 refine yO true [(4,none)] z2W 9 Tryz.func121 fun E hE=>?_
 obtain⟨r_,h0,aa⟩:=zb aa
 obtain rfl:=za aa
 exact yE X0 hC hE [Hc h0h (x:=(a_,b_)) h0 (loC F6_ a_ <| loC F6_ b_ <| loN)]
def zU:Code:=(Tryz.f120.body).getD .skip
def wb:zK:=spF (α:=List (List Int)×Unit) (ρ:=List (List Int)) 120 (fun x=>[zbU x.1,(zai 121) x.2]) (fun r=>zbU r) (fun x=>v8 x.1 x.2) [true,false] (by
 rintro⟨a0,a1⟩ ⟨b0,b1⟩ h
 have e0:=Zw.inj (f:=zbU) _ _ (List.cons.inj h).1
 replace h:=(List.cons.inj h).2
 have e1:=Zw.inj (f:=(zai 121)) _ _ (List.cons.inj h).1
 subst e0 e1
 rfl)
abbrev Xf (s_:List (List Int)):List (Nat×T):=[(0,.own (eOs 1 false F6_ s_))]
abbrev Xe (s_:List (List Int))(k_:Int):List (Nat×T):=[(0,.own (eOs 1 false F6_ s_)),(1,.d (.fn 121 [])),(5,.d (I k_))]
abbrev Xd (a6:List (List Int))(a9:Int):List (Nat×T):=[(0,.own (eOs 1 false F6_ a6)),(5,.d (I a9))]
abbrev Xc (bf:Value)(k_:Int)(k2:Int)(k9:List (List Int))(la:Int):List (Nat×T):=[(0,.own (eOs 1 false F6_ k9)),(1,.d (.fn 121 [])),(5,.d (I la)),(6,.d (.atom (Qi 1 bf k_))),(7,.d (I k2))]
abbrev Xa (bf:Value)(k_:Int)(bh:List (List Int))(fc:Int)(k2:Int):List (Nat×T):=[(0,.own (eOs 1 false F6_ bh)),(1,.d (.fn 121 [])),(5,.d (I fc)),(6,.d (.atom (Qi 1 bf k_))),(7,.d (I k2))]
abbrev Xb (s_:List (List Int))(k_:Int):List (Nat×T):=[(0,.own (eOs 1 false F6_ s_)),(1,.d (.fn 121 [])),(5,.d (I k_))]
def zn:XH Tryz.prog:=((zpV zt 64).or X0)
theorem Wm (hC:zx Tryz.prog ctr)(h0J:ctr.Has Xq):wb.Ok Tryz.prog:=by
 refine zw ?_
 rintro⟨s_,eq⟩ r0 aa
 try unfold v8 at aa
 refine yO true [(4,none)] zU 66 Tryz.func120 fun E hE=>?_
 refine zdS (y:=eOs 1 false F6_ s_) rfl 0 (by kernel_rfl) (by kernel_rfl) fun bf hv0=>?_
 let Z0:List HO:=[Ha (lnM F6_ s_)]
 rcases zH aa with⟨c0,aa⟩|⟨c0,aa⟩
 ·obtain rfl:=za aa
  exact yE zn hC hE (Z0++[Hq c0])
 ·refine yJ zn hC zU [1,1] [] [0] (fun z:Unit=>wk s_=some r0) (fun z=>Xf s_) [(0,.own (eOs 1 false F6_ s_)),(1,.d (.fn 121 []))] (Z0++[Hq c0,Hh (.cut 0)]) ?_ fun J1 aq=>?_
  ·rintro⟨⟩ aa
   unfold wk at aa
   obtain rfl:=za aa
   exact yE zn hC hE []
  ·obtain⟨t2,ht2,aa⟩:=zb aa
   refine yL zn hC zU [1,1,2,1,0] [J1] (fun s=>wg s_ s) (fun x=>Xb s_ x) 1 ht2  [] ?_
   rintro k_ m2 au ae hl1 J2 ax
   try unfold wg at ae
   let Z1:List HO:=[Ha (lnM F6_ s_)]
   rcases zH ae with⟨c1,ae⟩|⟨c1,ae⟩
   ·refine yJ zn hC zU [1,1,2,1,0,0,1] [J1,J2] [0,1,5] (fun z:Unit=>wj k_=some au) (fun z=>Xe s_ k_) [(0,.own (eOs 1 false F6_ s_)),(1,.d (.fn 121 [])),(5,.d (I k_))] (Z1++[Hq c1,Hh (.cut 0)]) ?_ fun J3 ba=>?_
    ·rintro⟨⟩ ae
     unfold wj at ae
     obtain rfl:=za ae
     exact yB zn hC ax (w64 (k_+1)) hl1 []
    ·obtain⟨ct,h0,ae⟩:=zb ae
     obtain⟨j5,h1,ae⟩:=zb ae
     obtain⟨r_,h2,ae⟩:=zb ae
     let Z2:List HO:=[Hn (iL F6_ h0),Hs (iM F6_ h0),Hn (iL F6_ h1),Hs (iM F6_ h1),Hc h0J (x:=(ct,j5)) h2 (loC F6_ ct <| loC F6_ j5 <| loN)]
     rcases zH ae with⟨c2,ae⟩|⟨c2,ae⟩
     ·obtain⟨g0,ae⟩:=gdE ae
      refine yJ ((xAs Tryz.prog 6 (Qi 1 bf k_)).or ((xVw zt 31 0 bf).or zn)) hC zU [1,1,2,1,0,0,1,2,0,1,0,1] [J1,J2,J3] [0,5] (fun z:List (List Int)×Int=>wh z.1 z.2=some au) (fun z=>Xd z.1 z.2) [(0,.own (eOs 1 false F6_ s_)),(1,.d (.fn 121 [])),(5,.d (I k_)),(6,.d (.atom (Qi 1 bf k_)))] (Z2++[Hq c2,Hn (⟨.inl rfl,rfl⟩:(T.als 0 [] 0 0=T.als 0 [] 0 0\/T.als 0 [] 0 0=T.d (.atom bf))/\some bf=some bf),Hn (⟨g0.1,cuB F6_ g0⟩:(0:Int)<=k_/\k_.toNat<=(s_.map F6_).length),Hn (rfl:T.d (.atom (Qi 1 bf k_))=T.d (.atom (Qi 1 bf k_))),Hh (.cut 1)]) ?_ fun J4 bv=>?_
      ·rintro⟨a6,a9⟩ ae
       unfold wh at ae
       obtain⟨g1,ae⟩:=gdE ae
       obtain⟨g2,ae⟩:=gdE ae
       obtain⟨g3,ae⟩:=gdE ae
       obtain rfl:=za ae
       obtain rfl:=hl1
       obtain rfl:=za aa
       exact yE ((xVc zt 61 1 0 bf a9).or ((xVw zt 61 0 bf).or zn)) hC hE [Hn (⟨.inl rfl,rfl⟩:(T.als 0 [] 0 0=T.als 0 [] 0 0\/T.als 0 [] 0 0=T.d (.atom bf))/\some bf=some bf),Hn (⟨g1.1,cuB F6_ g1⟩:(0:Int)<=a9/\a9.toNat<=(a6.map F6_).length),Hn (⟨rfl,rfl⟩:T.d (.atom (Qi 1 bf a9))=T.d (.atom (Qi 1 bf a9))/\some bf=some bf),Hn (⟨g2.1,cuB F6_ g2,dM F6_ a6⟩:(0:Int)<=a9/\a9.toNat<=(a6.map F6_).length/\A.areD (a6.map F6_)=true),Hx (.l ((a6.take a9.toNat++List.replicate (a6.length - a9.toNat) []).map F6_)) (vcM F6_ a6 a9.toNat ([]:List Int)),Hn g3.1,Hn (cuB F6_ g3),Hl (cuM F6_ (a6.take a9.toNat++List.replicate (a6.length - a9.toNat) []) a9)]
      ·obtain⟨t5,ht5,ae⟩:=zb ae
       refine yL zn hC zU [1,1,2,1,0,0,1,2,0,1,0,1,2,1,0] [J1,J2,J3,J4] (fun s=>we k_ s.1 s.2.1 s.2.2) (fun x=>Xa bf k_ x.1 x.2.1 x.2.2) (s_,k_,1) ht5  [] ?_
       rintro⟨bh,fc,k2⟩ m5 cq aj hl2 J5 cj
       try unfold we at aj
       let Z3:List HO:=[Hn (⟨rfl,rfl⟩:T.d (.atom (Qi 1 bf k_))=T.d (.atom (Qi 1 bf k_))/\some bf=some bf),Hx (.a (.atom (.int .i64 ((bh.length - k_.toNat:Nat):Int)))) (vlM F6_ bh k_.toNat)]
       rcases zH aj with⟨c3,aj⟩|⟨c3,aj⟩
       ·refine yJ ((xVl zt 34 32 1 0 bf k_ (by kernel_rfl)).or zn) hC zU [1,1,2,1,0,0,1,2,0,1,0,1,2,1,0,0,1] [J1,J2,J3,J4,J5] [0,1,5,6,7] (fun z:List (List Int)×Int=>yY k2 z.1 z.2=some cq) (fun z=>Xc bf k_ k2 z.1 z.2) [(0,.own (eOs 1 false F6_ bh)),(1,.d (.fn 121 [])),(5,.d (I fc)),(6,.d (.atom (Qi 1 bf k_))),(7,.d (I k2))] (Z3++[Hq c3,Hh (.cut 0)]) ?_ fun J6 db=>?_
        ·rintro⟨k9,la⟩ aj
         unfold yY at aj
         obtain rfl:=za aj
         exact yB zn hC cj (k9,la,w64 (k2+1)) hl2 []
        ·obtain⟨g4,aj⟩:=gdE aj
         obtain⟨jy,h3,aj⟩:=zb aj
         obtain⟨g5,aj⟩:=gdE aj
         obtain⟨jz,h4,aj⟩:=zb aj
         obtain⟨ai,h5,aj⟩:=zb aj
         let Z4:List HO:=[Hn (⟨rfl,rfl⟩:T.d (.atom (Qi 1 bf k_))=T.d (.atom (Qi 1 bf k_))/\some bf=some bf),Hn (⟨g4.1,g4.2,(iL F6_ h3).2⟩:(0:Int)<=k_/\(0:Int)<=k2/\(k_+k2).toNat<(bh.map F6_).length),Hs (iM F6_ h3),Hn (⟨rfl,rfl⟩:T.d (.atom (Qi 1 bf k_))=T.d (.atom (Qi 1 bf k_))/\some bf=some bf),Hn (⟨g5.1,g5.2,(iL F6_ h4).2⟩:(0:Int)<=k_/\(0:Int)<=w64 (k2 - 1)/\(k_+(w64 (k2 - 1))).toNat<(bh.map F6_).length),Hs (iM F6_ h4),Hc h0J (x:=(jy,jz)) h5 (loC F6_ jy <| loC F6_ jz <| loN)]
         rcases zH aj with⟨c4,aj⟩|⟨c4,aj⟩
         ·obtain⟨g6,aj⟩:=gdE aj
          obtain⟨j4,h6,aj⟩:=zb aj
          obtain⟨md,h7,aj⟩:=zb aj
          exact yB ((xVi zt 54 1 0 bf k_).or ((xVi zt 46 1 0 bf k_).or ((xVi zt 41 1 0 bf k_).or zn))) hC db ((bh.set fc.toNat j4),w64 (fc+1)) aj (Z4++[Hq c4,Hn (⟨rfl,rfl⟩:T.d (.atom (Qi 1 bf k_))=T.d (.atom (Qi 1 bf k_))/\some bf=some bf),Hn (⟨g6.1,g6.2,(iL F6_ h6).2⟩:(0:Int)<=k_/\(0:Int)<=k2/\(k_+k2).toNat<(bh.map F6_).length),Hs (iM F6_ h6),Hn (iL F6_ h7),Hs (iM F6_ h7),Hs (iM F6_ h7),Hl (sM F6_ bh fc j4)])
         ·exact yB ((xVi zt 46 1 0 bf k_).or ((xVi zt 41 1 0 bf k_).or zn)) hC db (bh,fc) aj (Z4++[Hq c4])
       ·obtain rfl:=za aj
        obtain rfl:=hl2
        exact yB ((xVl zt 34 32 1 0 bf k_ (by kernel_rfl)).or zn) hC bv (bh,fc) ae (Z3++[Hq c3])
     ·exact yB zn hC ba () ae (Z2++[Hq c2])
   ·obtain rfl:=za ae
    obtain rfl:=hl1
    exact yB zn hC aq () aa (Z1++[Hq c1])
def UC:Code:=(Tryz.f48.body).getD .skip
def yT:zK:=spR (α:=List (List Int)) (ρ:=List (List Int)) 48 (fun x=>[zbU x]) (fun r=>(eOs 1 true F6_) r) (fun x=>wR x) [true] (WL)
theorem Uw:∀x r,(fun x=>wR x) x=some r->(QA.add yT).run 48 ((QA.add yT).norm 48 ((fun x=>[zbU x]) x))=some ((fun r=>(eOs 1 true F6_) r) r):=fun x r h=>zkB h rfl
theorem Uz:(QA.add yT).lend 48=none/\(QA.add yT).gives 48=[true]:=zdo
theorem vW (hC:zx Tryz.prog ctr):yT.Ok Tryz.prog:=by
 refine z8A ?_
 rintro s_ r0 aa
 try unfold wR at aa
 refine yO true [(2,none)] UC 9 Tryz.func48 fun E hE=>?_
 obtain rfl:=za aa
 exact yE ((xCl zt 8).or X0) hC hE [Ha (lnM F6_ s_),Ha (lnM F6_ s_),Hn (Int.natCast_nonneg _:(0:Int)<=((s_.length:Nat):Int)),Hn (Int.natCast_nonneg _:(0:Int)<=((s_.length:Nat):Int)),Hn (clB F6_ s_),Ha (clE 1 F6_ s_)]
def vn:Code:=(Tryz.f90.body).getD .skip
def Vm:zK:=spF (α:=List (List Int)) (ρ:=List (List Int)×Int) 90 (fun x=>[yx x]) (fun r=>.tup [kS r.1,(eI .i64) r.2]) (fun x=>JZ x) [] (WL)
abbrev z1Y (out:List (List Int×Bool)):List (Nat×T):=[(4,.own (eOs 1 true (eFl 1 (eI .i64)) out))]
abbrev z1X (dm:Value)(al:List (List Int))(ay:List (List Int×Bool))(bg:Int):List (Nat×T):=[(4,.own (eOs 1 true (eFl 1 (eI .i64)) ay)),(22,.d (.atom (Qi 1 dm (0:Int)))),(23,.d (I ((al.length - (0:Int).toNat:Nat):Int))),(24,.d (I bg))]
theorem z6b (hC:zx Tryz.prog ctr)(h1J:ctr.Has ui)(h0h:ctr.Has qt)(h1K:ctr.Has wb)(h0n:ctr.Has XG)(h0x:ctr.Has wL)(h03:ctr.Has xh):Vm.Ok Tryz.prog:=by
 refine zw ?_
 rintro l_ r0 aa
 try unfold JZ at aa
 refine yO false [(2,none),(3,none)] vn 37 Tryz.func90 fun E hE=>?_
 obtain⟨r_,h0,aa⟩:=zb aa
 refine yA X0 hC vn [1,1] [] [(4,.own (eOs 1 false F6_ r_))] [Hc h1J (x:=l_) h0 (loC yx l_ <| loN),Hh (.cut 0)] ?_
 obtain⟨sorted,h1,aa⟩:=zb aa
 refine zdQ (by kernel_rfl) (x:=(sub [1,1,0] vn)) (y:=(sub [1,1,1] vn)) 4 (fun st1=>Own.canon [4] st1=ofL [(4,.own (eOs 1 false F6_ sorted))]) (fun dm=>yF ((vV (P:=Tryz.prog) yb [4] (zcj zjU (f:=F6_) (t:=false) (v:=dm) (fun _=>rfl) (fun _=>rfl) (fun x y c h=>zX hC h0h (x:=(x,y)) h) h1) 10).or X0) hC .normal [(4,.own (eOs 1 false F6_ sorted))] [Hn (jS (f:=.fn 118 []) (xs:=[.atom dm,.fn 119 []]) (ls:=[(dm,eOs 1 false F6_ r_)]) (r:=.tup []) (ys:=[eOs 1 false F6_ sorted]) [.atom dm,.fn 119 []] (show Jv [.atom dm,.fn 119 []] [.atom dm,.fn 119 []] from inferInstance))] fun st0 h0=>⟨rfl,h0⟩) fun st1 h1=>z87 h1 ?_
 obtain⟨ai,h2,aa⟩:=zb aa
 obtain⟨al,h3,aa⟩:=zb aa
 let Z0:List HO:=[Hc h1K (x:=(sorted,())) h2 (loC zbU sorted <| loC (zai 121) () <| loN),Hh (.g [true]),Hn Uz,Hx (.a ((eOs 1 true F6_) al)) (Uw ai _ h3),Ha (lnM F6_ al)]
 rcases zH aa with⟨c0,aa⟩|⟨c0,aa⟩
 ·obtain rfl:=za aa
  exact yEx ((z2z zt (vW hC) 13).or X0) hC hE (Z0++(rpN 4 (Hq c0) [qT,Hm (shM F6_ F6_ [])])) (.tup [eSl 1 true F2_ [],I 3]) (show LeV (.tup [eSl 1 true F2_ [],I 3]) (.tup [eSl 1 true F2_ ([]:List (List Int)),I 3]) from inferInstance)
 ·obtain⟨am,h4,aa⟩:=zb aa
  let Z1:List HO:=(Z0++[Hq c0,Hq c0,Hg (z1K h0n),Hm (shM F6_ F6_ al),Hs (z1L h0n (x:=al) h4 (loC zj0 al <| loN)),Hq c0,Hq c0])
  rcases zH aa with⟨c1,aa⟩|⟨c1,aa⟩
  ·obtain rfl:=za aa
   exact yEx ((z2z zt (vW hC) 13).or X0) hC hE (Z1++[Hq c1,Hm (shM F6_ F6_ [])]) (.tup [eSl 1 true F2_ [],I 3]) (show LeV (.tup [eSl 1 true F2_ [],I 3]) (.tup [eSl 1 true F2_ ([]:List (List Int)),I 3]) from inferInstance)
  ·refine yA ((z2z zt (vW hC) 13).or X0) hC vn [1,1,1,1,1] [] [(4,.own (eOs 1 true F6_ al))] (Z1++[Hq c1,Hh (.cut 0)]) ?_
   refine zdS (y:=eOs 1 true F6_ al) (by kernel_rfl) 4 (by kernel_rfl) (by kernel_rfl) fun dm hv4=>?_
   refine yJ X0 hC vn [1,1,1,1,1] [] [4] (fun z:List (List Int×Bool)=>Vj z=some r0) (fun z=>z1Y z) [(4,.own (eOs 1 true F6_ al))] [Hh (.cut 0)] ?_ fun J1 aq=>?_
   ·rintro out aa
    unfold Vj at aa
    obtain⟨hfl0,aa⟩:=gdE aa
    obtain rfl:=za aa
    exact yEx X0 hC hE [Hm (shM (eFl 1 (eI .i64)) (eFl 1 (eI .i64)) out)] (.tup [eSl 1 true (eFl 1 (eI .i64)) out,I 0]) (haveI:=flA (s:=1) (t:=1) (b:=true) (f:=(eI .i64)) hfl0;show LeV (.tup [eSl 1 true (eFl 1 (eI .i64)) out,I 0]) (.tup [eSl 1 true F2_ (out.map (·.1)),I 0]) from inferInstance)
   ·obtain⟨t2,ht2,aa⟩:=zb aa
    refine yLx ((xVl zt 23 32 1 4 dm (0:Int) (by kernel_rfl)).or ((xMw Tryz.prog 22 4 1 dm).or X0)) hC vn [1,1,1,1,1,2,1,0] [J1] (fun s=>Vi al s.1 s.2) (fun x=>z1X dm al x.1 x.2) ((al.map fun q=>(q,false)),0) ht2 [(4,.own (eOs 1 true F6_ al)),(22,.d (.atom (Qi 1 dm (0:Int)))),(23,.d (I ((al.length - (0:Int).toNat:Nat):Int))),(24,.d (I 0))] inferInstance [Hn (rfl:some dm=some dm),Hn (⟨rfl,rfl⟩:T.d (.atom (Qi 1 dm (0:Int)))=T.d (.atom (Qi 1 dm (0:Int)))/\some dm=some dm),Hx (.a (.atom (.int .i64 ((al.length - (0:Int).toNat:Nat):Int)))) (vlM F6_ al (0:Int).toNat)] ?_
    rintro⟨ay,bg⟩ m2 au ae hl1 J2 ax
    try unfold Vi at ae
    rcases zH ae with⟨c2,ae⟩|⟨c2,ae⟩
    ·obtain⟨g0,ae⟩:=gdE ae
     obtain⟨bz,h5,ae⟩:=zb ae
     obtain⟨bm,h6,ae⟩:=zb ae
     obtain⟨ck,h7,ae⟩:=zb ae
     obtain⟨gj,h8,ae⟩:=zb ae
     obtain rfl:=za ae
     exact yB ((xVi zt 27 1 4 dm (0:Int)).or X0) hC ax ((ay.set bg.toNat (ck,true)),w64 (bg+1)) hl1 [Hq c2,Hn (⟨rfl,rfl⟩:T.d (.atom (Qi 1 dm (0:Int)))=T.d (.atom (Qi 1 dm (0:Int)))/\some dm=some dm),Hn (⟨g0.1,g0.2,(iL (eFl 1 (eI .i64)) h5).2⟩:(0:Int)<=0/\(0:Int)<=bg/\(0+bg).toNat<(ay.map (eFl 1 (eI .i64))).length),Hs (iM (eFl 1 (eI .i64)) h5),Hc h0x (x:=bz.1) h6 (loC (eSl 1 bz.2 (eI .i64)) bz.1 <| loN),Hg (z1K h03),Hm (shM (eI .i64) (eI .i64) bm),Hs (z1L h03 (x:=bm) h7 (loC F6_ bm <| loN)),Hm (shM (eI .i64) (eI .i64) bm),Hn (iL (eFl 1 (eI .i64)) h8),Hs (iM (eFl 1 (eI .i64)) h8),Hs (iM (eFl 1 (eI .i64)) h8),Hl (sM (eFl 1 (eI .i64)) ay bg (ck,true))]
    ·obtain rfl:=za ae
     obtain rfl:=hl1
     exact yB X0 hC aq ay aa [Hq c2]
def z7Z:Code:=(Tryz.f73.body).getD .skip
def Yr:zK:=spF (α:=List (List Int)×Int) (ρ:=List (List Int)×Int) 73 (fun x=>[yx x.1,(eI .i64) x.2]) (fun r=>.tup [kS r.1,(eI .i64) r.2]) (fun x=>KN x.1 x.2) [] (Qm)
theorem z8h (hC:zx Tryz.prog ctr)(h0w:ctr.Has XI)(h1L:ctr.Has Vm):Yr.Ok Tryz.prog:=by
 refine zw ?_
 rintro⟨l_,inputs⟩ r0 aa
 try unfold KN at aa
 refine yO false [(4,none),(5,none)] z7Z 17 Tryz.func73 fun E hE=>?_
 obtain⟨r_,h0,aa⟩:=zb aa
 let Z0:List HO:=[Hc h0w (x:=(l_,inputs)) h0 (loC yx l_ <| loC (eI .i64) inputs <| loN)]
 rcases zH aa with⟨c0,aa⟩|⟨c0,aa⟩
 ·obtain rfl:=za aa
  exact yEx X0 hC hE (Z0++[Hq c0,Hm (shM F6_ F6_ [])]) (.tup [eSl 1 true F2_ [],I r_]) (show LeV (.tup [eSl 1 true F2_ [],I r_]) (.tup [eSl 1 true F2_ ([]:List (List Int)),I r_]) from inferInstance)
 ·obtain⟨ai,h1,aa⟩:=zb aa
  obtain rfl:=za aa
  exact yE X0 hC hE (Z0++[Hq c0,Hc h1L (x:=l_) h1 (loC yx l_ <| loN)])
def uO:Code:=(Tryz.f37.body).getD .skip
def Vy:zK:=spF (α:=z6×Unit) (ρ:=List (List Int)×Int) 37 (fun x=>[zD x.1,(zai 38) x.2]) (fun r=>.tup [kS r.1,(eI .i64) r.2]) (fun x=>Kj x.1 x.2) [] (by
 rintro⟨a0,a1⟩ ⟨b0,b1⟩ h
 have e0:=Zw.inj (f:=zD) _ _ (List.cons.inj h).1
 replace h:=(List.cons.inj h).2
 have e1:=Zw.inj (f:=(zai 38)) _ _ (List.cons.inj h).1
 subst e0 e1
 rfl)
abbrev z2s (m_:z6)(x5:Int)(out:List (List Int)):List (Nat×T):=[(2,.own (.box (zD m_))),(4,.own (.box (eOs 1 true F6_ []))),(5,.own (.box (I x5))),(6,.own (.box (eOs 1 false F2_ out)))]
abbrev vU (m_:z6)(ai:Int)(bt:Int)(ah:List (List Int)):List (Nat×T):=[(2,.own (.box (zD m_))),(3,.own (.box (.fn 38 []))),(4,.own (.box (eOs 1 true F6_ []))),(5,.own (.box (I bt))),(6,.own (.box (eOs 1 false F2_ ah))),(15,.d (.fn 80 [.sptr (I ai)]))]
theorem z6n (hC:zx Tryz.prog ctr)(h07:ctr.Has wZ)(h1M:ctr.Has VA)(h0l:ctr.Has vH)(h0a:ctr.Has Yr):Vy.Ok Tryz.prog:=by
 refine zw ?_
 rintro⟨m_,is⟩ r0 aa
 try unfold Kj at aa
 refine yO false [(4,some 32),(5,some 33)] uO 44 Tryz.func37 fun E hE=>?_
 refine yJ X0 hC uO [1,1] [] [2,4,5,6] (fun z:Int×List (List Int)=>VQ m_ z.1 z.2=some r0) (fun z=>z2s m_ z.1 z.2) [(2,.own (.box (zD m_))),(3,.own (.box (.fn 38 []))),(4,.own (.box (eOs 1 true F6_ []))),(5,.own (.box (I 0))),(6,.own (.box (eOs 1 true F6_ [])))] [Hh (.cut 2)] ?_ fun J1 aq=>?_
 ·rintro⟨x5,out⟩ aa
  unfold VQ at aa
  obtain⟨r_,h0,aa⟩:=zb aa
  obtain rfl:=za aa
  exact yE X0 hC hE [Hg (z1K h0a),Hm (shM F2_ F2_ out),Hs (z1L h0a (x:=(out,m_.Inputs)) h0 (loC (eSl 1 false F2_) out <| loC (eI .i64) m_.Inputs <| loN)),Hm (shM F2_ F2_ out)]
 ·obtain⟨ai,h1,aa⟩:=zb aa
  obtain⟨t2,ht2,aa⟩:=zb aa
  refine yAt X0 hC (sub [1,1,2,1,0] uO) (frs [1,1,2,1,0] [J1] uO []) [(2,.own (.box (zD m_))),(3,.own (.box (.fn 38 []))),(4,.own (.box (eOs 1 true F6_ []))),(5,.own (.box (I 0))),(6,.own (.box (eOs 1 true F2_ []))),(15,.d (.fn 80 [.sptr (I ai)]))] [Ha (lnM yI m_.Rows),Hc h07 (x:=((m_.Rows.length:Nat):Int)) h1 (loC (eI .i64) ((m_.Rows.length:Nat):Int) <| loN)] fun st0 h0=>?_
  refine z0U (g:=.tmp 15) (ps:=[16,17]) (assign:=(sub [1,1,2,1,0,0] uO)) (body:=(sub [1,1,2,1,0,1] uO)) (K:=80) (caps:=[.sptr (I ai)]) (by kernel_rfl) [2,3,4,5,6,15] (fun s=>vU m_ ai s.1 s.2) (fun s=>vU m_ ai s.1 s.2) (fun s=>Code.ret) ((fun(x:Int×Int) (_:Bool) (_:Value)=>[(eI .i64) x.1,(eI .i64) x.2])) (F:=@yG ai) (fun s x=>YZ m_ s.1 s.2 x.1 x.2) (0,([]:List (List Int))) t2 _ h0 inferInstance (by kernel_rfl) (by decide) (fun _=>rfl) (fun _=>rfl) (by kernel_rfl) (fun _ _ _=>rfl) (ZL hC ai) ht2 ?_ ?_
  ·rintro lu ⟨bt,ah⟩ ⟨bq,ar⟩ vr au ae
   replace ae:YZ m_ bt ah bq ar=some au:=ae
   unfold YZ at ae
   refine yF X0 hC .normal [(2,.own (.box (zD m_))),(3,.own (.box (.fn 38 []))),(4,.own (.box (eOs 1 true F6_ []))),(5,.own (.box (I bt))),(6,.own (.box (eOs 1 false F2_ ah))),(7,.d (I bq)),(8,.d (I ar)),(15,.d (.fn 80 [.sptr (I ai)]))] [] fun st0 h0=>⟨rfl,z87 h0 ?_⟩
   obtain⟨al,h2,ae⟩:=zb ae
   let Z0:List HO:=[Hc h1M (x:=(bq,ar)) h2 (loC (eI .i64) bq <| loC (eI .i64) ar <| loN)]
   rcases zH ae with⟨c0,ae⟩|⟨c0,ae⟩
   ·obtain rfl:=za ae
    exact yF X0 hC .normal (vU m_ ai bt ah) (Z0++[Hq c0]) fun st0 h0=>⟨rfl,_,h0,LeL.refl _⟩
   ·obtain⟨am,h3,ae⟩:=zb ae
    let Z1:List HO:=(Z0++[Hq c0,Hc h0l (x:=(m_,bq,ar)) h3 (loC zD m_ <| loC (eI .i64) bq <| loC (eI .i64) ar <| loN)])
    rcases zH ae with⟨c1,ae⟩|⟨c1,ae⟩
    ·obtain rfl:=za ae
     exact yF X0 hC .ret (vU m_ ai am.2.2 ah) (Z1++[Hq c1]) fun st0 h0=>⟨rfl,_,h0,LeL.refl _⟩
    ·obtain⟨g0,ae⟩:=gdE ae
     obtain rfl:=za ae
     exact yF X0 hC .normal (vU m_ ai bt (ah++([am.1]:List (List Int)))) (Z1++[Hq c1,Hq (dM F2_ ([am.1]:List (List Int))),Hn (dM F2_ ([am.1]:List (List Int))),Hn (aL F2_ F2_ g0),Hl (aM F2_ ah ([am.1]:List (List Int)))]) fun st0 h0=>⟨rfl,_,h0,LeL.refl _⟩
  ·rcases t2 with⟨bt,ah⟩|z
   ·dsimp only at aa
    exact Wf (by kernel_rfl) (aq _ [(2,.own (.box (zD m_))),(4,.own (.box (eOs 1 true F6_ []))),(5,.own (.box (I bt))),(6,.own (.box (eOs 1 false F2_ ah)))] (bt,ah) aa (show Own.canon [2,4,5,6] _=ofL _ by kernel_rfl) inferInstance)
   ·obtain⟨bt,ah⟩:=z
    dsimp only at aa
    show AWP _ _ (Code.ret) _ _
    obtain rfl:=za aa
    exact yEx X0 hC hE [Hm (shM F6_ F6_ [])] (.tup [eSl 1 true F2_ [],I bt]) (show LeV (.tup [eSl 1 true F2_ [],I bt]) (.tup [eSl 1 true F2_ ([]:List (List Int)),I bt]) from inferInstance)
def z86:Code:=(Tryz.f10.body).getD .skip
def WS:zK:=spF (α:=z6) (ρ:=List (List Int)×Int) 10 (fun x=>[zD x]) (fun r=>.tup [kS r.1,(eI .i64) r.2]) (fun x=>KV x) [] (WL)
theorem z8t (hC:zx Tryz.prog ctr)(h0i:ctr.Has wY)(h1N:ctr.Has Vy):WS.Ok Tryz.prog:=by
 refine zw ?_
 rintro m_ r0 aa
 try unfold KV at aa
 refine yO false [(2,none),(3,none)] z86 14 Tryz.func10 fun E hE=>?_
 obtain⟨r_,h0,aa⟩:=zb aa
 let Z0:List HO:=[Hc h0i (x:=m_) h0 (loC zD m_ <| loN)]
 rcases zH aa with⟨c0,aa⟩|⟨c0,aa⟩
 ·obtain rfl:=za aa
  exact yEx X0 hC hE (Z0++[Hq c0,Hm (shM F6_ F6_ [])]) (.tup [eSl 1 true F2_ [],I r_]) (show LeV (.tup [eSl 1 true F2_ [],I r_]) (.tup [eSl 1 true F2_ ([]:List (List Int)),I r_]) from inferInstance)
 ·obtain⟨ai,h1,aa⟩:=zb aa
  obtain rfl:=za aa
  exact yE X0 hC hE (Z0++[Hq c0,Hc h1N (x:=(m_,())) h1 (loC zD m_ <| loC (zai 38) () <| loN)])
def z6z:Code:=(Tryz.f41.body).getD .skip
def XJ:zK:=spF (α:=Int×Int×Int) (ρ:=Bool) 41 (fun x=>[(eI .i64) x.1,(eI .i64) x.2.1,(eSp (eI .i64)) x.2.2]) (fun r=>eB r) (fun x=>z0L x.1 x.2.1 x.2.2) [] (zad)
theorem z7p (hC:zx Tryz.prog ctr):XJ.Ok Tryz.prog:=by
 refine zw ?_
 rintro⟨a_,b_,x2⟩ r0 aa
 try unfold z0L at aa
 refine yO true [(5,none)] z6z 14 Tryz.func41 fun E hE=>?_
 rcases zH aa with⟨c0,aa⟩|⟨c0,aa⟩
 ·obtain rfl:=za aa
  exact yE X0 hC hE (rpN 4 (Hq c0) [])
 ·obtain rfl:=za aa
  exact yE X0 hC hE (rpN 4 (Hq c0) [])
def w5:Code:=(Tryz.f37.body).getD .skip
def Vx:zK:=spF (α:=z6×Int) (ρ:=List (List Int)×Int) 37 (fun x=>[zD x.1,(z07 41 (eSp (eI .i64))) x.2]) (fun r=>.tup [kS r.1,(eI .i64) r.2]) (fun x=>WA x.1 x.2) [] (by
 rintro⟨a0,a1⟩ ⟨b0,b1⟩ h
 have e0:=Zw.inj (f:=zD) _ _ (List.cons.inj h).1
 replace h:=(List.cons.inj h).2
 have e1:=Zw.inj (f:=(z07 41 (eSp (eI .i64)))) _ _ (List.cons.inj h).1
 subst e0 e1
 rfl)
abbrev JN (m_:z6)(x5:Int)(out:List (List Int)):List (Nat×T):=[(2,.own (.box (zD m_))),(4,.own (.box (eOs 1 true F6_ []))),(5,.own (.box (I x5))),(6,.own (.box (eOs 1 false F2_ out)))]
abbrev xS (m_:z6)(is:Int)(ai:Int)(bt:Int)(ah:List (List Int)):List (Nat×T):=[(2,.own (.box (zD m_))),(3,.own (.box (.fn 41 [.sptr (I is)]))),(4,.own (.box (eOs 1 true F6_ []))),(5,.own (.box (I bt))),(6,.own (.box (eOs 1 false F2_ ah))),(15,.d (.fn 80 [.sptr (I ai)]))]
theorem z1u (hC:zx Tryz.prog ctr)(h07:ctr.Has wZ)(h0y:ctr.Has XJ)(h0l:ctr.Has vH)(h0a:ctr.Has Yr):Vx.Ok Tryz.prog:=by
 refine zw ?_
 rintro⟨m_,is⟩ r0 aa
 try unfold WA at aa
 refine yO false [(4,some 32),(5,some 33)] w5 44 Tryz.func37 fun E hE=>?_
 refine yJ X0 hC w5 [1,1] [] [2,4,5,6] (fun z:Int×List (List Int)=>Ya m_ z.1 z.2=some r0) (fun z=>JN m_ z.1 z.2) [(2,.own (.box (zD m_))),(3,.own (.box (.fn 41 [.sptr (I is)]))),(4,.own (.box (eOs 1 true F6_ []))),(5,.own (.box (I 0))),(6,.own (.box (eOs 1 true F6_ [])))] [Hh (.cut 2)] ?_ fun J1 aq=>?_
 ·rintro⟨x5,out⟩ aa
  unfold Ya at aa
  obtain⟨r_,h0,aa⟩:=zb aa
  obtain rfl:=za aa
  exact yE X0 hC hE [Hg (z1K h0a),Hm (shM F2_ F2_ out),Hs (z1L h0a (x:=(out,m_.Inputs)) h0 (loC (eSl 1 false F2_) out <| loC (eI .i64) m_.Inputs <| loN)),Hm (shM F2_ F2_ out)]
 ·obtain⟨ai,h1,aa⟩:=zb aa
  obtain⟨t2,ht2,aa⟩:=zb aa
  refine yAt X0 hC (sub [1,1,2,1,0] w5) (frs [1,1,2,1,0] [J1] w5 []) [(2,.own (.box (zD m_))),(3,.own (.box (.fn 41 [.sptr (I is)]))),(4,.own (.box (eOs 1 true F6_ []))),(5,.own (.box (I 0))),(6,.own (.box (eOs 1 true F2_ []))),(15,.d (.fn 80 [.sptr (I ai)]))] [Ha (lnM yI m_.Rows),Hc h07 (x:=((m_.Rows.length:Nat):Int)) h1 (loC (eI .i64) ((m_.Rows.length:Nat):Int) <| loN)] fun st0 h0=>?_
  refine z0U (g:=.tmp 15) (ps:=[16,17]) (assign:=(sub [1,1,2,1,0,0] w5)) (body:=(sub [1,1,2,1,0,1] w5)) (K:=80) (caps:=[.sptr (I ai)]) (by kernel_rfl) [2,3,4,5,6,15] (fun s=>xS m_ is ai s.1 s.2) (fun s=>xS m_ is ai s.1 s.2) (fun s=>Code.ret) ((fun(x:Int×Int) (_:Bool) (_:Value)=>[(eI .i64) x.1,(eI .i64) x.2])) (F:=@yG ai) (fun s x=>qd m_ is s.1 s.2 x.1 x.2) (0,([]:List (List Int))) t2 _ h0 inferInstance (by kernel_rfl) (by decide) (fun _=>rfl) (fun _=>rfl) (by kernel_rfl) (fun _ _ _=>rfl) (ZL hC ai) ht2 ?_ ?_
  ·rintro lu ⟨bt,ah⟩ ⟨bq,ar⟩ vr au ae
   replace ae:qd m_ is bt ah bq ar=some au:=ae
   unfold qd at ae
   refine yF X0 hC .normal [(2,.own (.box (zD m_))),(3,.own (.box (.fn 41 [.sptr (I is)]))),(4,.own (.box (eOs 1 true F6_ []))),(5,.own (.box (I bt))),(6,.own (.box (eOs 1 false F2_ ah))),(7,.d (I bq)),(8,.d (I ar)),(15,.d (.fn 80 [.sptr (I ai)]))] [] fun st0 h0=>⟨rfl,z87 h0 ?_⟩
   obtain⟨al,h2,ae⟩:=zb ae
   let Z0:List HO:=[Hc h0y (x:=(bq,ar,is)) h2 (loC (eI .i64) bq <| loC (eI .i64) ar <| loC (eSp (eI .i64)) is <| loN)]
   rcases zH ae with⟨c0,ae⟩|⟨c0,ae⟩
   ·obtain rfl:=za ae
    exact yF X0 hC .normal (xS m_ is ai bt ah) (Z0++[Hq c0]) fun st0 h0=>⟨rfl,_,h0,LeL.refl _⟩
   ·obtain⟨am,h3,ae⟩:=zb ae
    let Z1:List HO:=(Z0++[Hq c0,Hc h0l (x:=(m_,bq,ar)) h3 (loC zD m_ <| loC (eI .i64) bq <| loC (eI .i64) ar <| loN)])
    rcases zH ae with⟨c1,ae⟩|⟨c1,ae⟩
    ·obtain rfl:=za ae
     exact yF X0 hC .ret (xS m_ is ai am.2.2 ah) (Z1++[Hq c1]) fun st0 h0=>⟨rfl,_,h0,LeL.refl _⟩
    ·obtain⟨g0,ae⟩:=gdE ae
     obtain rfl:=za ae
     exact yF X0 hC .normal (xS m_ is ai bt (ah++([am.1]:List (List Int)))) (Z1++[Hq c1,Hq (dM F2_ ([am.1]:List (List Int))),Hn (dM F2_ ([am.1]:List (List Int))),Hn (aL F2_ F2_ g0),Hl (aM F2_ ah ([am.1]:List (List Int)))]) fun st0 h0=>⟨rfl,_,h0,LeL.refl _⟩
  ·rcases t2 with⟨bt,ah⟩|z
   ·dsimp only at aa
    exact Wf (by kernel_rfl) (aq _ [(2,.own (.box (zD m_))),(4,.own (.box (eOs 1 true F6_ []))),(5,.own (.box (I bt))),(6,.own (.box (eOs 1 false F2_ ah)))] (bt,ah) aa (show Own.canon [2,4,5,6] _=ofL _ by kernel_rfl) inferInstance)
   ·obtain⟨bt,ah⟩:=z
    dsimp only at aa
    show AWP _ _ (Code.ret) _ _
    obtain rfl:=za aa
    exact yEx X0 hC hE [Hm (shM F6_ F6_ [])] (.tup [eSl 1 true F2_ [],I bt]) (show LeV (.tup [eSl 1 true F2_ [],I bt]) (.tup [eSl 1 true F2_ ([]:List (List Int)),I bt]) from inferInstance)
def z9r:Code:=(Tryz.f13.body).getD .skip
def K5:zK:=spF (α:=z6×Int) (ρ:=List (List Int)×Int) 13 (fun x=>[zD x.1,(eI .i64) x.2]) (fun r=>.tup [kS r.1,(eI .i64) r.2]) (fun x=>Kl x.1 x.2) [] (Qm)
theorem z9F (hC:zx Tryz.prog ctr)(h0i:ctr.Has wY)(h07:ctr.Has wZ)(h0y:ctr.Has XJ)(h0l:ctr.Has vH)(h0a:ctr.Has Yr):K5.Ok Tryz.prog:=by
 refine zw ?_
 rintro⟨m_,s_⟩ r0 aa
 try unfold Kl at aa
 refine yO false [(4,none),(5,none)] z9r 26 Tryz.func13 fun E hE=>?_
 obtain⟨r_,h0,aa⟩:=zb aa
 let Z0:List HO:=[Hc h0i (x:=m_) h0 (loC zD m_ <| loN)]
 rcases zH aa with⟨c0,aa⟩|⟨c0,aa⟩
 ·obtain rfl:=za aa
  exact yEx X0 hC hE (Z0++[Hq c0,Hm (shM F6_ F6_ [])]) (.tup [eSl 1 true F2_ [],I r_]) (show LeV (.tup [eSl 1 true F2_ [],I r_]) (.tup [eSl 1 true F2_ ([]:List (List Int)),I r_]) from inferInstance)
 ·rcases zH aa with⟨c1,aa⟩|⟨c1,aa⟩
  ·obtain rfl:=za aa
   exact yEx X0 hC hE (Z0++(Hq c0::(rpN 6 (Hq c1) [qT,Hm (shM F6_ F6_ [])]))) (.tup [eSl 1 true F2_ [],I 1]) (show LeV (.tup [eSl 1 true F2_ [],I 1]) (.tup [eSl 1 true F2_ ([]:List (List Int)),I 1]) from inferInstance)
  ·let Z1:List HO:=(Z0++(Hq c0::(rpN 4 (Hq c1) [Ha (lnM yI m_.Rows),Hq c1,Hq c1])))
   rcases zH aa with⟨c2,aa⟩|⟨c2,aa⟩
   ·obtain rfl:=za aa
    exact yEx X0 hC hE (Z1++[Hq c2,Hm (shM F6_ F6_ [])]) (.tup [eSl 1 true F2_ [],I 1]) (show LeV (.tup [eSl 1 true F2_ [],I 1]) (.tup [eSl 1 true F2_ ([]:List (List Int)),I 1]) from inferInstance)
   ·obtain⟨ai,h1,aa⟩:=zb aa
    obtain rfl:=za aa
    exact yE ((z2z zt (z1u hC h07 h0y h0l h0a) 23).or X0) hC hE (Z1++[Hq c2,Hc (Ctr.add_has QA Vx) (x:=(m_,s_)) h1 (loC zD m_ <| loC (z07 41 (eSp (eI .i64))) s_ <| loN)])
def yk:Code:=(Tryz.f45.body).getD .skip
def Y9:zK:=spF (α:=z6×List (List Int)) (ρ:=List Int) 45 (fun x=>[zD x.1,yx x.2]) (fun r=>(eSl 1 false (eI .u64)) r) (fun x=>WB x.1 x.2) [] (Qm)
abbrev JT (out:List Int):List (Nat×T):=[(4,.own (.box (eOs 1 false (eI .u64) out)))]
abbrev Xi (m_:z6)(w_:List (List Int))(r_:Int)(ah:List Int):List (Nat×T):=[(2,.own (.box (zD m_))),(3,.own (.box (eSl 1 false F6_ w_))),(4,.own (.box (eOs 1 false (eI .u64) ah))),(12,.d (.fn 80 [.sptr (I r_)]))]
abbrev JS (m_:z6)(w_:List (List Int))(r_:Int)(ah:List Int)(ii:Int):List (Nat×T):=[(2,.own (.box (zD m_))),(3,.own (.box (eSl 1 false F6_ w_))),(4,.own (.box (eOs 1 false (eI .u64) ah))),(7,.d (.atom (.int .u64 ii))),(12,.d (.fn 80 [.sptr (I r_)]))]
abbrev JR (m_:z6)(w_:List (List Int))(r_:Int)(ah:List Int)(cw:Int)(cg:Int)(ar:Int)(jj:Int):List (Nat×T):=[(2,.own (.box (zD m_))),(3,.own (.box (eSl 1 false F6_ w_))),(4,.own (.box (eOs 1 false (eI .u64) ah))),(5,.d (I cw)),(6,.d (I cg)),(7,.d (.atom (.int .u64 jj))),(12,.d (.fn 80 [.sptr (I r_)])),(16,.d (I ((w_.length:Nat):Int))),(17,.d (I ar))]
abbrev JQ (m_:z6)(w_:List (List Int))(r_:Int)(ah:List Int)(cw:Int)(cg:Int)(fx:Int)(ar:Int):List (Nat×T):=[(2,.own (.box (zD m_))),(3,.own (.box (eSl 1 false F6_ w_))),(4,.own (.box (eOs 1 false (eI .u64) ah))),(5,.d (I cw)),(6,.d (I cg)),(7,.d (.atom (.int .u64 fx))),(12,.d (.fn 80 [.sptr (I r_)])),(16,.d (I ((w_.length:Nat):Int))),(17,.d (I ar))]
theorem z1w (hC:zx Tryz.prog ctr)(h07:ctr.Has wZ)(h08:ctr.Has xT)(h09:ctr.Has v6):Y9.Ok Tryz.prog:=by
 refine zw ?_
 rintro⟨m_,w_⟩ r0 aa
 try unfold WB at aa
 refine yO false [(4,some 76)] yk 48 Tryz.func45 fun E hE=>?_
 refine yJ X0 hC yk [1] [] [4] (fun z:List Int=>Yd z=some r0) (fun z=>JT z) [(2,.own (.box (zD m_))),(3,.own (.box (eSl 1 false F6_ w_))),(4,.own (.box (eOs 1 true (eI .u64) [])))] [Hh (.cut 1)] ?_ fun J1 aq=>?_
 ·rintro out aa
  unfold Yd at aa
  obtain rfl:=za aa
  exact yE X0 hC hE [Hh (.v 0 [4]),Hm (shM (eI .u64) (eI .u64) out),Hh (.v 1 [4])]
 ·obtain⟨r_,h0,aa⟩:=zb aa
  obtain⟨t2,ht2,aa⟩:=zb aa
  refine yAt X0 hC (sub [1,2,1,0] yk) (frs [1,2,1,0] [J1] yk []) [(2,.own (.box (zD m_))),(3,.own (.box (eSl 1 false F6_ w_))),(4,.own (.box (eOs 1 true (eI .u64) []))),(12,.d (.fn 80 [.sptr (I r_)]))] [Ha (lnM yI m_.Rows),Hc h07 (x:=((m_.Rows.length:Nat):Int)) h0 (loC (eI .i64) ((m_.Rows.length:Nat):Int) <| loN)] fun st0 h0=>?_
  refine z0U (g:=.tmp 12) (ps:=[13,14]) (assign:=(sub [1,2,1,0,0] yk)) (body:=(sub [1,2,1,0,1] yk)) (K:=80) (caps:=[.sptr (I r_)]) (by kernel_rfl) [2,3,4,12] (fun s=>Xi m_ w_ r_ s) (fun z=>nomatch z) (fun z=>nomatch z) ((fun(x:Int×Int) (_:Bool) (_:Value)=>[(eI .i64) x.1,(eI .i64) x.2])) (F:=@yG r_) (fun s x=>qh m_ w_ s x.1 x.2) ([]:List Int) t2 _ h0 inferInstance (by kernel_rfl) (by decide) (fun _=>rfl) (by rintro⟨⟩) (by kernel_rfl) (fun _ _ _=>rfl) (ZL hC r_) ht2 ?_ ?_
  ·rintro lu ah ⟨cw,cg⟩ vr au ae
   replace ae:qh m_ w_ ah cw cg=some au:=ae
   unfold qh at ae
   refine yF X0 hC .normal [(2,.own (.box (zD m_))),(3,.own (.box (eSl 1 false F6_ w_))),(4,.own (.box (eOs 1 false (eI .u64) ah))),(5,.d (I cw)),(6,.d (I cg)),(12,.d (.fn 80 [.sptr (I r_)]))] [] fun st0 h0=>⟨rfl,z87 h0 ?_⟩
   refine yJ X0 hC yk [1,2,1,0,1,0,1] [J1] [2,3,4,7,12] (fun z:Int=>Yc ah z=some au) (fun z=>JS m_ w_ r_ ah z) [(2,.own (.box (zD m_))),(3,.own (.box (eSl 1 false F6_ w_))),(4,.own (.box (eOs 1 false (eI .u64) ah))),(5,.d (I cw)),(6,.d (I cg)),(7,.d (.atom (.int .u64 0))),(12,.d (.fn 80 [.sptr (I r_)]))] [Hh (.cut 1)] ?_ fun J3 ba=>?_
   ·rintro ii ae
    unfold Yc at ae
    obtain⟨g0,ae⟩:=gdE ae
    obtain rfl:=za ae
    exact yF X0 hC .normal (Xi m_ w_ r_ (ah++([ii]:List Int))) [Hq (dM (eI .u64) ([ii]:List Int)),Hn (dM (eI .u64) ([ii]:List Int)),Hn (aL (eI .u64) (eI .u64) g0),Hl (aM (eI .u64) ah ([ii]:List Int))] fun st0 h0=>⟨rfl,_,h0,LeL.refl _⟩
   ·obtain⟨t4,ht4,ae⟩:=zb ae
    refine yL X0 hC yk [1,2,1,0,1,0,1,2,1,0] [J1,J3] (fun s=>Yb m_ w_ cw cg s.1 s.2) (fun x=>JQ m_ w_ r_ ah cw cg x.1 x.2) (0,0) ht4  [Ha (lnM F6_ w_)] ?_
    rintro⟨fx,ar⟩ m4 cq aj hl2 J4 bv
    try unfold Yb at aj
    rcases zH aj with⟨c0,aj⟩|⟨c0,aj⟩
    ·refine yJ X0 hC yk [1,2,1,0,1,0,1,2,1,0,0,1,1] [J1,J3,J4] [2,3,4,5,6,7,12,16,17] (fun z:Int=>qg ar z=some cq) (fun z=>JR m_ w_ r_ ah cw cg ar z) [(2,.own (.box (zD m_))),(3,.own (.box (eSl 1 false F6_ w_))),(4,.own (.box (eOs 1 false (eI .u64) ah))),(5,.d (I cw)),(6,.d (I cg)),(7,.d (.atom (.int .u64 fx))),(12,.d (.fn 80 [.sptr (I r_)])),(16,.d (I ((w_.length:Nat):Int))),(17,.d (I ar))] [Hq c0,Hh (.cut 0)] ?_ fun J5 cj=>?_
     ·rintro jj aj
      unfold qg at aj
      obtain rfl:=za aj
      exact yB X0 hC bv (jj,w64 (ar+1)) hl2 []
     ·obtain⟨g1,aj⟩:=gdE aj
      obtain⟨ai,h1,aj⟩:=zb aj
      obtain⟨g2,aj⟩:=gdE aj
      obtain⟨al,h2,aj⟩:=zb aj
      obtain⟨am,h3,aj⟩:=zb aj
      let Z0:List HO:=[Hn (slA g1),Hn (slB g1),Hn (zjW F6_ g1),Ha (slM 1 false F6_ w_ ar.toNat (w64 (ar+1)).toNat),Hc h08 (x:=(m_,((w_.drop ar.toNat).take ((w64 (ar+1)).toNat - ar.toNat)),cw)) h1 (loC zD m_ <| loC yx ((w_.drop ar.toNat).take ((w64 (ar+1)).toNat - ar.toNat)) <| loC (eI .i64) cw <| loN),Hn (slA g2),Hn (slB g2),Hn (zjW F6_ g2),Ha (slM 1 false F6_ w_ ar.toNat (w64 (ar+1)).toNat),Hc h08 (x:=(m_,((w_.drop ar.toNat).take ((w64 (ar+1)).toNat - ar.toNat)),cg)) h2 (loC zD m_ <| loC yx ((w_.drop ar.toNat).take ((w64 (ar+1)).toNat - ar.toNat)) <| loC (eI .i64) cg <| loN),Hg (z1K h09),Hm (shM F3_ F2_ ai),Hm (shM F3_ F2_ al),Hs (z1L h09 (x:=(ai,al)) h3 (loC kS ai <| loC kS al <| loN))]
      rcases zH aj with⟨c1,aj⟩|⟨c1,aj⟩
      ·obtain⟨g3,aj⟩:=gdE aj
       exact yB ((zas Tryz.prog).or ((zn5 Tryz.prog).or X0)) hC cj (orK .u64 fx (z7y .u64 1 ar)) aj (Z0++[Hq c1,Hn g3])
      ·exact yB X0 hC cj fx aj (Z0++[Hq c1])
    ·obtain rfl:=za aj
     obtain rfl:=hl2
     exact yB X0 hC ba fx ae [Hq c0]
  ·rcases t2 with ah|z
   ·dsimp only at aa
    exact Wf (by kernel_rfl) (aq _ [(4,.own (.box (eOs 1 false (eI .u64) ah)))] ah aa (show Own.canon [4] _=ofL _ by kernel_rfl) inferInstance)
   ·cases z
def yf:Code:=(Tryz.f76.body).getD .skip
def uj:zK:=spF (α:=Int) (ρ:=Int) 76 (fun x=>[(eI .u64) x]) (fun r=>(eI .i64) r) (fun x=>kI x) [] (WL)
abbrev Ug (lq:Int):List (Nat×T):=[(0,.d (.atom (.int .u64 lq)))]
abbrev Uh (jq:Int):List (Nat×T):=[(0,.d (.atom (.int .u64 jq)))]
abbrev Ui (jr:Int):List (Nat×T):=[(0,.d (.atom (.int .u64 jr)))]
abbrev Uj (js:Int):List (Nat×T):=[(0,.d (.atom (.int .u64 js)))]
abbrev Uk (jt:Int):List (Nat×T):=[(0,.d (.atom (.int .u64 jt)))]
abbrev Ul (ju:Int):List (Nat×T):=[(0,.d (.atom (.int .u64 ju)))]
theorem QJ (hC:zx Tryz.prog ctr):uj.Ok Tryz.prog:=by
 refine zw ?_
 rintro x_ r0 aa
 try unfold kI at aa
 refine yO true [(2,none)] yf 35 Tryz.func76 fun E hE=>?_
 refine yJ X0 hC yf [1] [] [0] (fun z:Int=>uC z=some r0) (fun z=>Ul z) [(0,.d (.atom (.int .u64 x_)))] [Hh (.cut 1)] ?_ fun J1 aq=>?_
 ·rintro ju aa
  unfold uC at aa
  refine yJ X0 hC yf [1,1] [] [0] (fun z:Int=>uB z=some r0) (fun z=>Uk z) [(0,.d (.atom (.int .u64 ju)))] [Hh (.cut 0)] ?_ fun J2 ax=>?_
  ·rintro jt aa
   unfold uB at aa
   refine yJ X0 hC yf [1,1,1] [] [0] (fun z:Int=>uA z=some r0) (fun z=>Uj z) [(0,.d (.atom (.int .u64 jt)))] [Hh (.cut 0)] ?_ fun J3 ba=>?_
   ·rintro js aa
    unfold uA at aa
    refine yJ X0 hC yf [1,1,1,1] [] [0] (fun z:Int=>uz z=some r0) (fun z=>Ui z) [(0,.d (.atom (.int .u64 js)))] [Hh (.cut 0)] ?_ fun J4 bv=>?_
    ·rintro jr aa
     unfold uz at aa
     refine yJ X0 hC yf [1,1,1,1,1] [] [0] (fun z:Int=>uw z=some r0) (fun z=>Uh z) [(0,.d (.atom (.int .u64 jr)))] [Hh (.cut 0)] ?_ fun J5 cj=>?_
     ·rintro jq aa
      unfold uw at aa
      refine yJ X0 hC yf [1,1,1,1,1,1] [] [0] (fun z:Int=>uv z=some r0) (fun z=>Ug z) [(0,.d (.atom (.int .u64 jq)))] [Hh (.cut 0)] ?_ fun J6 db=>?_
      ·rintro lq aa
       unfold uv at aa
       obtain rfl:=za aa
       exact yE ((zas Tryz.prog).or X0) hC hE []
      ·exact yB ((zgV Tryz.prog).or X0) hC db (IntKind.u64.wrap (jq+(Int.fdiv jq (2 ^ 32)))) aa []
     ·exact yB ((zgV Tryz.prog).or X0) hC cj (IntKind.u64.wrap (jr+(Int.fdiv jr (2 ^ 16)))) aa []
    ·exact yB ((zgV Tryz.prog).or X0) hC bv (IntKind.u64.wrap (js+(Int.fdiv js (2 ^ 8)))) aa []
   ·exact yB ((zas Tryz.prog).or ((zgV Tryz.prog).or X0)) hC ba (z8f .u64 (IntKind.u64.wrap ((Int.fdiv jt (2 ^ 4))+jt)) 1085102592571150095) aa []
  ·exact yB ((zas Tryz.prog).or ((zas Tryz.prog).or ((zgV Tryz.prog).or X0))) hC ax (IntKind.u64.wrap ((z8f .u64 (Int.fdiv ju (2 ^ 2)) 3689348814741910323)+(z8f .u64 ju 3689348814741910323))) aa []
 ·exact yB ((zas Tryz.prog).or ((zas Tryz.prog).or ((zgV Tryz.prog).or X0))) hC aq (IntKind.u64.wrap ((z8f .u64 (Int.fdiv x_ (2 ^ 1)) 6148914691236517205)+(z8f .u64 x_ 6148914691236517205))) aa []
def JC:Code:=(Tryz.f46.body).getD .skip
def qV:zK:=spF (α:=Int) (ρ:=Int) 46 (fun x=>[(eI .u64) x]) (fun r=>(eI .i64) r) (fun x=>qa x) [] (WL)
theorem JW (hC:zx Tryz.prog ctr)(h1O:ctr.Has uj):qV.Ok Tryz.prog:=by
 refine zw ?_
 rintro x_ r0 aa
 try unfold qa at aa
 refine yO true [(2,none)] JC 8 Tryz.func46 fun E hE=>?_
 obtain⟨r_,h0,aa⟩:=zb aa
 obtain rfl:=za aa
 exact yE X0 hC hE [qF,Hc h1O (x:=x_) h0 (loC (eI .u64) x_ <| loN)]
def V2:Code:=(Tryz.f109.body).getD .skip
def wM:zK:=spF (α:=Int) (ρ:=Int) 109 (fun x=>[(eI .u64) x]) (fun r=>(eI .i64) r) (fun x=>u7 x) [] (WL)
theorem Vg (hC:zx Tryz.prog ctr):wM.Ok Tryz.prog:=by
 refine zw ?_
 rintro x_ r0 aa
 try unfold u7 at aa
 refine yO true [(2,none)] V2 14 Tryz.func109 fun E hE=>?_
 rcases zH aa with⟨c0,aa⟩|⟨c0,aa⟩
 ·obtain rfl:=za aa
  exact yE X0 hC hE [Hq c0]
 ·obtain⟨cell,h0,aa⟩:=zb aa
  obtain rfl:=za aa
  exact yE ((zgV Tryz.prog).or ((zas Tryz.prog).or X0)) hC hE [Hq c0,Hs (iM (eI .u8) h0),Hn (Ju (by kernel_rfl) ziq (i0 h0):Xh yb 162 ((ziq.l).map (eI .u8)) (Int.fdiv (IntKind.u64.wrap ((z8f .u64 x_ (IntKind.u64.wrap (0 - x_)))*285870213051353865)) (2 ^ 58))=true)]
def UD:Code:=(Tryz.f77.body).getD .skip
def vz:zK:=spF (α:=Int) (ρ:=Int) 77 (fun x=>[(eI .u64) x]) (fun r=>(eI .i64) r) (fun x=>q9 x) [] (WL)
theorem UZ (hC:zx Tryz.prog ctr)(h1P:ctr.Has wM):vz.Ok Tryz.prog:=by
 refine zw ?_
 rintro x_ r0 aa
 try unfold q9 at aa
 refine yO true [(2,none)] UD 8 Tryz.func77 fun E hE=>?_
 obtain⟨r_,h0,aa⟩:=zb aa
 obtain rfl:=za aa
 exact yE X0 hC hE [qF,Hc h1P (x:=x_) h0 (loC (eI .u64) x_ <| loN)]
def z5O:Code:=(Tryz.f47.body).getD .skip
def Vz:zK:=spF (α:=Int×Int) (ρ:=Bool) 47 (fun x=>[(eI .u64) x.1,(eI .u64) x.2]) (fun r=>eB r) (fun x=>Kk x.1 x.2) [] (Qm)
theorem z6q (hC:zx Tryz.prog ctr)(h1Q:ctr.Has vz):Vz.Ok Tryz.prog:=by
 refine zw ?_
 rintro⟨a_,b_⟩ r0 aa
 try unfold Kk at aa
 refine yO true [(4,none)] z5O 13 Tryz.func47 fun E hE=>?_
 obtain⟨r_,h0,aa⟩:=zb aa
 obtain⟨g0,aa⟩:=gdE aa
 obtain rfl:=za aa
 exact yE ((zas Tryz.prog).or ((zn4 Tryz.prog).or ((zas Tryz.prog).or X0))) hC hE [Hc h1Q (x:=zjd .u64 a_ b_) h0 (loC (eI .u64) (zjd .u64 a_ b_) <| loN),Hn g0]
def VZ:Code:=(Tryz.f48.body).getD .skip
def yC:zK:=spR (α:=List (List Int)) (ρ:=List (List Int)) 48 (fun x=>[(eOs 1 false F2_) x]) (fun r=>(eOs 1 true F2_) r) (fun x=>wt x) [true] (WL)
theorem VS:∀x r,(fun x=>wt x) x=some r->(QA.add yC).run 48 ((QA.add yC).norm 48 ((fun x=>[(eOs 1 false F2_) x]) x))=some ((fun r=>(eOs 1 true F2_) r) r):=fun x r h=>zkB h rfl
theorem VU:(QA.add yC).lend 48=none/\(QA.add yC).gives 48=[true]:=zdo
theorem Ur (hC:zx Tryz.prog ctr):yC.Ok Tryz.prog:=by
 refine z8A ?_
 rintro s_ r0 aa
 try unfold wt at aa
 refine yO true [(2,none)] VZ 9 Tryz.func48 fun E hE=>?_
 obtain rfl:=za aa
 exact yE ((xCl zt 8).or X0) hC hE [Ha (lnM F2_ s_),Ha (lnM F2_ s_),Hn (Int.natCast_nonneg _:(0:Int)<=((s_.length:Nat):Int)),Hn (Int.natCast_nonneg _:(0:Int)<=((s_.length:Nat):Int)),Hn (clB F2_ s_),Ha (clE 1 F2_ s_)]
def yd:Code:=(Tryz.f17.body).getD .skip
def Ww:zK:=spF (α:=z6) (ρ:=List (List Int)×Int) 17 (fun x=>[zD x]) (fun r=>.tup [kS r.1,(eI .i64) r.2]) (fun x=>Ja x) [] (WL)
abbrev z1k (out:List (List Int)):List (Nat×T):=[(13,.own (eOs 1 false F2_ out))]
abbrev z1j (r_:List (List Int)×Int)(dy:Int)(gc:Int)(ay:List (List Int)):List (Nat×T):=[(7,.d (.atom (.int .u64 dy))),(13,.own (eOs 1 false F2_ ay)),(76,.d (eSl 1 true F2_ r_.1)),(77,.d (I ((r_.1.length:Nat):Int))),(78,.d (I gc))]
abbrev z1f (r_:List (List Int)×Int)(dy:Int)(ah:List (List Int))(gc:Int):List (Nat×T):=[(7,.d (.atom (.int .u64 dy))),(13,.own (eOs 1 false F2_ ah)),(76,.d (eSl 1 true F2_ r_.1)),(77,.d (I ((r_.1.length:Nat):Int))),(78,.d (I gc))]
abbrev z1l (r_:List (List Int)×Int)(dy:Int):List (Nat×T):=[(4,.d (eSl 1 true F2_ r_.1)),(7,.d (.atom (.int .u64 dy)))]
abbrev z1i (r_:List (List Int)×Int)(ai:List Int)(bl:Int)(jk:Int):List (Nat×T):=[(4,.d (eSl 1 true F2_ r_.1)),(6,.d (eSl 1 false (eI .u64) ai)),(7,.d (.atom (.int .u64 jk))),(36,.d (.atom (.int .u64 (z7y .u64 1 ((r_.1.length:Nat):Int))))),(37,.d (.atom (.int .u64 bl)))]
abbrev z1g (r_:List (List Int)×Int)(ai:List Int)(bl:Int)(am:Int)(bm:Int)(ix:Bool):List (Nat×T):=[(4,.d (eSl 1 true F2_ r_.1)),(6,.d (eSl 1 false (eI .u64) ai)),(8,.d (.atom (.int .u64 bl))),(36,.d (.atom (.int .u64 (z7y .u64 1 ((r_.1.length:Nat):Int))))),(37,.d (.atom (.int .u64 bl))),(48,.d (I am)),(49,.d (I bm)),(50,.d (B (am==bm))),(51,.d (B (am==bm))),(61,.d (B ix))]
abbrev z1d (r_:List (List Int)×Int)(ai:List Int)(bi:Int)(bl:Int)(am:Int)(bm:Int)(ix:Bool)(kg:Int):List (Nat×T):=[(4,.d (eSl 1 true F2_ r_.1)),(6,.d (eSl 1 false (eI .u64) ai)),(7,.d (.atom (.int .u64 bi))),(8,.d (.atom (.int .u64 bl))),(36,.d (.atom (.int .u64 (z7y .u64 1 ((r_.1.length:Nat):Int))))),(37,.d (.atom (.int .u64 bl))),(48,.d (I am)),(49,.d (I bm)),(50,.d (B (am==bm))),(51,.d (B (am==bm))),(61,.d (B ix)),(63,.d (eSl 1 false (eI .u64) ai)),(64,.d (I ((ai.length:Nat):Int))),(65,.d (I kg))]
abbrev z1h (r_:List (List Int)×Int)(ai:List Int)(bi:Int)(bl:Int)(am:Int)(bm:Int)(ix:Bool):List (Nat×T):=[(4,.d (eSl 1 true F2_ r_.1)),(6,.d (eSl 1 false (eI .u64) ai)),(7,.d (.atom (.int .u64 bi))),(8,.d (.atom (.int .u64 bl))),(36,.d (.atom (.int .u64 (z7y .u64 1 ((r_.1.length:Nat):Int))))),(37,.d (.atom (.int .u64 bl))),(48,.d (I am)),(49,.d (I bm)),(50,.d (B (am==bm))),(51,.d (B (am==bm))),(61,.d (B ix))]
abbrev z1e (r_:List (List Int)×Int)(ai:List Int)(bi:Int)(bl:Int):List (Nat×T):=[(4,.d (eSl 1 true F2_ r_.1)),(6,.d (eSl 1 false (eI .u64) ai)),(7,.d (.atom (.int .u64 bi))),(36,.d (.atom (.int .u64 (z7y .u64 1 ((r_.1.length:Nat):Int))))),(37,.d (.atom (.int .u64 bl)))]
theorem z4N (hC:zx Tryz.prog ctr)(h0z:ctr.Has WS)(h1R:ctr.Has Y9)(h0K:ctr.Has qV)(h1S:ctr.Has Vz):Ww.Ok Tryz.prog:=by
 refine zw ?_
 rintro m_ r0 aa
 try unfold Ja at aa
 refine yO false [(2,none),(3,none)] yd 95 Tryz.func17 fun E hE=>?_
 refine yA X0 hC yd [1] [] [(1,.own (.box (zD m_)))] [] ?_
 refine zbn (c':=(sub [1,0] yd)) (by kernel_rfl) (zhP _) ?_
 obtain⟨r_,h0,aa⟩:=zb aa
 let Z0:List HO:=[Hc h0z (x:=m_) h0 (loC zD m_ <| loN)]
 rcases zH aa with⟨c0,aa⟩|⟨c0,aa⟩
 ·obtain rfl:=za aa
  exact yEx X0 hC hE (Z0++[Hq c0,Hm (shM F6_ F6_ [])]) (.tup [eSl 1 true F2_ [],I r_.2]) (show LeV (.tup [eSl 1 true F2_ [],I r_.2]) (.tup [eSl 1 true F2_ ([]:List (List Int)),I r_.2]) from inferInstance)
 ·let Z1:List HO:=(Z0++[Hq c0,Ha (lnM F2_ r_.1)])
  rcases zH aa with⟨c1,aa⟩|⟨c1,aa⟩
  ·obtain rfl:=za aa
   exact yEx X0 hC hE (Z1++[Hq c1,Hm (shM F6_ F6_ [])]) (.tup [eSl 1 true F2_ [],I 3]) (show LeV (.tup [eSl 1 true F2_ [],I 3]) (.tup [eSl 1 true F2_ ([]:List (List Int)),I 3]) from inferInstance)
  ·obtain⟨ai,h1,aa⟩:=zb aa
   obtain⟨g0,aa⟩:=gdE aa
   refine yJ ((zn5 Tryz.prog).or X0) hC yd [1,0,1,1,1,1,1,1] [] [4,7] (fun z:Int=>WH r_ z=some r0) (fun z=>z1l r_ z) [(4,.d (eSl 1 true F2_ r_.1)),(6,.d (eSl 1 false (eI .u64) ai)),(7,.d (.atom (.int .u64 (IntKind.u64.wrap ((z7y .u64 1 ((r_.1.length:Nat):Int)) - 1)))))] (Z1++[Hq c1,Hc h1R (x:=(m_,r_.1)) h1 (loC zD m_ <| loC kS r_.1 <| loN),Ha (lnM F2_ r_.1),Hn g0,Hh (.cut 1)]) ?_ fun J1 aq=>?_
   ·rintro dy aa
    unfold WH at aa
    refine yJ X0 hC yd [1,0,1,1,1,1,1,1,1,1] [] [13] (fun z:List (List Int)=>WG z=some r0) (fun z=>z1k z) [(4,.d (eSl 1 true F2_ r_.1)),(7,.d (.atom (.int .u64 dy))),(13,.own (eOs 1 true F6_ []))] [Hh (.cut 1)] ?_ fun J2 ax=>?_
    ·rintro out aa
     unfold WG at aa
     obtain⟨al,h2,aa⟩:=zb aa
     obtain rfl:=za aa
     exact yE ((z2z zt (Ur hC) 94).or X0) hC hE [Hh (.g [true]),Hn VU,Hx (.a ((eOs 1 true F2_) al)) (VS out _ h2),Hm (shM F2_ F2_ al)]
    ·obtain⟨t3,ht3,aa⟩:=zb aa
     refine yLx X0 hC yd [1,0,1,1,1,1,1,1,1,1,2,1,0] [J2] (fun s=>WE r_ dy s.1 s.2) (fun x=>z1f r_ dy x.1 x.2) (([]:List (List Int)),0) ht3 [(7,.d (.atom (.int .u64 dy))),(13,.own (eOs 1 true F2_ [])),(76,.d (eSl 1 true F2_ r_.1)),(77,.d (I ((r_.1.length:Nat):Int))),(78,.d (I 0))] inferInstance [Ha (lnM F2_ r_.1)] ?_
     rintro⟨ah,gc⟩ m3 au ae hl1 J3 ba
     try unfold WE at ae
     rcases zH ae with⟨c2,ae⟩|⟨c2,ae⟩
     ·refine yJ X0 hC yd [1,0,1,1,1,1,1,1,1,1,2,1,0,0,1,1] [J2,J3] [7,13,76,77,78] (fun z:List (List Int)=>ZZ gc z=some au) (fun z=>z1j r_ dy gc z) [(7,.d (.atom (.int .u64 dy))),(13,.own (eOs 1 false F2_ ah)),(76,.d (eSl 1 true F2_ r_.1)),(77,.d (I ((r_.1.length:Nat):Int))),(78,.d (I gc))] [Hq c2,Hh (.cut 0)] ?_ fun J4 bv=>?_
      ·rintro ay ae
       unfold ZZ at ae
       obtain rfl:=za ae
       exact yB X0 hC ba (ay,w64 (gc+1)) hl1 []
      ·obtain⟨u_,h3,ae⟩:=zb ae
       obtain⟨g1,ae⟩:=gdE ae
       let Z2:List HO:=[Hi F2_ h3,Hn g1]
       rcases zH ae with⟨c3,ae⟩|⟨c3,ae⟩
       ·obtain⟨g2,ae⟩:=gdE ae
        exact yB ((zas Tryz.prog).or ((zn4 Tryz.prog).or X0)) hC bv (ah++([u_]:List (List Int))) ae (Z2++[Hq c3,Hq (dM F2_ ([u_]:List (List Int))),Hn (dM F2_ ([u_]:List (List Int))),Hn (aL F2_ F2_ g2),Hl (aM F2_ ah ([u_]:List (List Int)))])
       ·exact yB ((zas Tryz.prog).or ((zn4 Tryz.prog).or X0)) hC bv ah ae (Z2++[Hq c3])
     ·obtain rfl:=za ae
      obtain rfl:=hl1
      exact yB X0 hC ax ah aa [Hq c2]
   ·obtain⟨g3,aa⟩:=gdE aa
    obtain⟨t5,ht5,aa⟩:=zb aa
    refine yL ((zn5 Tryz.prog).or X0) hC yd [1,0,1,1,1,1,1,1,2,1,0] [J1] (fun s=>WD r_ ai s.1 s.2) (fun x=>z1e r_ ai x.1 x.2) (IntKind.u64.wrap ((z7y .u64 1 ((r_.1.length:Nat):Int)) - 1),0) ht5  [Ha (lnM F2_ r_.1),Hn g3] ?_
    rintro⟨bi,bl⟩ m5 au ae hl1 J5 cj
    try unfold WD at ae
    rcases zH ae with⟨c4,ae⟩|⟨c4,ae⟩
    ·refine yJ X0 hC yd [1,0,1,1,1,1,1,1,2,1,0,0,1,1] [J1,J5] [4,6,7,36,37] (fun z:Int=>wD bl z=some au) (fun z=>z1i r_ ai bl z) [(4,.d (eSl 1 true F2_ r_.1)),(6,.d (eSl 1 false (eI .u64) ai)),(7,.d (.atom (.int .u64 bi))),(36,.d (.atom (.int .u64 (z7y .u64 1 ((r_.1.length:Nat):Int))))),(37,.d (.atom (.int .u64 bl)))] [Hq c4,Hh (.cut 0)] ?_ fun J6 db=>?_
     ·rintro jk ae
      unfold wD at ae
      obtain rfl:=za ae
      exact yB X0 hC cj (jk,IntKind.u64.wrap (bl+1)) hl1 []
     ·obtain⟨am,h4,ae⟩:=zb ae
      obtain⟨bm,h5,ae⟩:=zb ae
      refine yJ X0 hC yd [1,0,1,1,1,1,1,1,2,1,0,0,1,1,2,0,1,1] [J1,J5,J6] [4,6,7,8,36,37,48,49,50,51,61] (fun z:Bool=>ZY ai bi bl z=some au) (fun z=>z1h r_ ai bi bl am bm z) [(4,.d (eSl 1 true F2_ r_.1)),(6,.d (eSl 1 false (eI .u64) ai)),(7,.d (.atom (.int .u64 bi))),(8,.d (.atom (.int .u64 bl))),(9,.d (I am)),(10,.d (I bm)),(36,.d (.atom (.int .u64 (z7y .u64 1 ((r_.1.length:Nat):Int))))),(37,.d (.atom (.int .u64 bl)))] [Hc h0K (x:=bl) h4 (loC (eI .u64) bl <| loN),Hc h0K (x:=bi) h5 (loC (eI .u64) bi <| loN),Hh (.cut 0)] ?_ fun J7 hJ7=>?_
      ·rintro ix ae
       unfold ZY at ae
       refine yJ X0 hC yd [1,0,1,1,1,1,1,1,2,1,0,0,1,1,2,0,1,1,1] [J1,J5,J6] [4,6,8,36,37,48,49,50,51,61] (fun z:Unit=>WF bl=some au) (fun z=>z1g r_ ai bl am bm ix) [(4,.d (eSl 1 true F2_ r_.1)),(6,.d (eSl 1 false (eI .u64) ai)),(7,.d (.atom (.int .u64 bi))),(8,.d (.atom (.int .u64 bl))),(36,.d (.atom (.int .u64 (z7y .u64 1 ((r_.1.length:Nat):Int))))),(37,.d (.atom (.int .u64 bl))),(48,.d (I am)),(49,.d (I bm)),(50,.d (B (am==bm))),(51,.d (B (am==bm))),(61,.d (B ix))] [Hh (.cut 0)] ?_ fun J8 km=>?_
       ·rintro⟨⟩ ae
        unfold WF at ae
        exact yB X0 hC db bl ae []
       ·obtain⟨t9,ht9,ae⟩:=zb ae
        refine yL X0 hC yd [1,0,1,1,1,1,1,1,2,1,0,0,1,1,2,0,1,1,1,2,1,0] [J1,J5,J6,J8] (fun s=>WC ai bi bl s) (fun x=>z1d r_ ai bi bl am bm ix x) 0 ht9  [Ha (lnM (eI .u64) ai)] ?_
        rintro kg m9 cq aj hl2 J9 lb
        try unfold WC at aj
        rcases zH aj with⟨c5,aj⟩|⟨c5,aj⟩
        ·obtain⟨dx,h6,aj⟩:=zb aj
         rcases zH aj with⟨c6,aj⟩|⟨c6,aj⟩
         ·obtain rfl:=za aj
          obtain rfl:=hl2
          exact yB ((zas Tryz.prog).or X0) hC db bi ae [Hq c5,Hi (eI .u64) h6,Hq c6]
         ·obtain rfl:=za aj
          exact yB ((zas Tryz.prog).or X0) hC lb (w64 (kg+1)) hl2 [Hq c5,Hi (eI .u64) h6,Hq c6]
        ·obtain rfl:=za aj
         obtain rfl:=hl2
         exact yB X0 hC km () ae [Hq c5]
      ·rcases zH ae with⟨c7,ae⟩|⟨c7,ae⟩
       ·exact yB X0 hC db bi ae (rpN 6 (Hq c7) [qT])
       ·let Z3:List HO:=(rpN 4 (Hq c7) [])
        rcases zH ae with⟨c8,ae⟩|⟨c8,ae⟩
        ·let Z4:List HO:=(Z3++(rpN 4 (Hq c8) []))
         rcases zH ae with⟨c9,ae⟩|⟨c9,ae⟩
         ·exact yB X0 hC db bi ae (Z4++(rpN 4 (Hq c9) [Hq c8,Hq c9,Hq c7,Hq c8,Hq c7,qT]))
         ·obtain⟨ck,h7,ae⟩:=zb ae
          let Z5:List HO:=(Z4++[Hq c9,Hq c9,Hq c9,Hc h1S (x:=(bl,bi)) h7 (loC (eI .u64) bl <| loC (eI .u64) bi <| loN),Hq c9,Hq c8,Hq c9,Hq c7,Hq c8,Hq c7])
          rcases zH ae with⟨c10,ae⟩|⟨c10,ae⟩
          ·exact yB X0 hC db bi ae (Z5++[Hq c10])
          ·exact yB X0 hC hJ7 (!ck) ae (Z5++[Hq c10])
        ·exact yB X0 hC hJ7 false ae (Z3++(rpN 5 (Hq c8) [Hq c7,Hq c8,Hq c7,qF]))
    ·obtain rfl:=za ae
     obtain rfl:=hl1
     exact yB X0 hC aq bi aa [Hq c4]
def z0r:Code:=(Tryz.f16.body).getD .skip
def Qa:zK:=spF (α:=Unit) (ρ:=Bool) 16 (fun x=>[]) (fun r=>eB r) (fun x=>QZ) [] (fun _ _ _=>rfl)
theorem z7n (hC:zx Tryz.prog ctr)(h1T:ctr.Has Wv)(h05:ctr.Has QO)(h0z:ctr.Has WS)(h0A:ctr.Has K5)(h1U:ctr.Has Ww)(h00:ctr.Has WQ)(h0p:ctr.Has Yx)(h0q:ctr.Has uW)(h06:ctr.Has qY)(h01:ctr.Has WR):Qa.Ok Tryz.prog:=by
 refine zw ?_
 rintro⟨⟩ r0 aa
 try unfold QZ at aa
 refine yO true [(0,none)] z0r 212 Tryz.func16 fun E hE=>?_
 obtain⟨r_,h0,aa⟩:=zb aa
 obtain⟨ai,h1,aa⟩:=zb aa
 obtain⟨al,h2,aa⟩:=zb aa
 obtain⟨am,h3,aa⟩:=zb aa
 obtain⟨bm,h4,aa⟩:=zb aa
 obtain⟨ck,h5,aa⟩:=zb aa
 obtain⟨du,h6,aa⟩:=zb aa
 let Z0:List HO:=[Hc h1T (x:=()) h0 (loN),Hg (z1K h05),Hm (shM F3_ F2_ ([[0],[1]])),Hs (z1L h05 (x:=[[0],[1]]) h1 (loC kS ([[0],[1]]:List (List Int)) <| loN)),Hm (shM F3_ F2_ ([[0],[1]])),Hc h0z (x:=r_) h2 (loC z9v r_ <| loN),Hc h0A (x:=(r_,0)) h3 (loC z9v r_ <| loC (eI .i64) 0 <| loN),Hc h0A (x:=(r_,1)) h4 (loC z9v r_ <| loC (eI .i64) 1 <| loN),Hc h0A (x:=(r_,2)) h5 (loC z9v r_ <| loC (eI .i64) 2 <| loN),Hc h1U (x:=r_) h6 (loC z9v r_ <| loN)]
 rcases zH aa with⟨c0,aa⟩|⟨c0,aa⟩
 ·obtain rfl:=za aa
  exact yE X0 hC hE (Z0++(Hq c0::Hq c0::Hq c0::(rpN 36 qT [])))
 ·rcases zH aa with⟨c1,aa⟩|⟨c1,aa⟩
  ·obtain rfl:=za aa
   exact yE X0 hC hE (Z0++(Hq c0::Hq c0::Hq c0::Hq c1::Hq c1::Hq c1::(rpN 33 qT [])))
  ·let Z1:List HO:=(Z0++[Hq c0,Hq c0,Hq c0,Hq c1,Hq c1,Hq c1])
   rcases zH aa with⟨c2,aa⟩|⟨c2,aa⟩
   ·obtain rfl:=za aa
    exact yE X0 hC hE (Z1++(Hq c2::Hq c2::Hq c2::(rpN 30 qT [])))
   ·rcases zH aa with⟨c3,aa⟩|⟨c3,aa⟩
    ·obtain rfl:=za aa
     exact yE X0 hC hE (Z1++(Hq c2::Hq c2::Hq c2::Hq c3::Hq c3::Hq c3::(rpN 27 qT [])))
    ·let Z2:List HO:=(Z1++[Hq c2,Hq c2,Hq c2,Hq c3,Hq c3,Hq c3])
     rcases zH aa with⟨c4,aa⟩|⟨c4,aa⟩
     ·obtain rfl:=za aa
      exact yE X0 hC hE (Z2++(rpN 5 (Hq c4) (rpN 22 qT [])))
     ·obtain⟨kl,h7,aa⟩:=zb aa
      let Z3:List HO:=(Z2++[Hq c4,Hq c4,Hq c4,Hn (jS (f:=.fn 11 []) (xs:=[kS al.1,yx ai]) (ls:=[]) (r:=B kl) (ys:=[]) [kS al.1,yx ai] (show Jv [kS al.1,yx ai] [kS al.1,yx ai] from inferInstance)),Hq c4,Hq c4])
      rcases zH aa with⟨c5,aa⟩|⟨c5,aa⟩
      ·obtain rfl:=za aa
       exact yE ((vV (P:=Tryz.prog) yb [] (lentCall (zX hC h00 (x:=(al.1,ai)) h7)) 73).or X0) hC hE (Z3++(rpN 5 (Hq c5) (rpN 17 qT [])))
      ·obtain⟨bo,h8,aa⟩:=zb aa
       let Z4:List HO:=(Z3++[Hq c5,Hq c5,Hq c5,Hn (jS (f:=.fn 11 []) (xs:=[kS am.1,yx ai]) (ls:=[]) (r:=B bo) (ys:=[]) [kS am.1,yx ai] (show Jv [kS am.1,yx ai] [kS am.1,yx ai] from inferInstance)),Hq c5,Hq c5])
       rcases zH aa with⟨c6,aa⟩|⟨c6,aa⟩
       ·obtain rfl:=za aa
        exact yE ((vV (P:=Tryz.prog) yb [] (lentCall (zX hC h00 (x:=(am.1,ai)) h8)) 79).or ((vV (P:=Tryz.prog) yb [] (lentCall (zX hC h00 (x:=(al.1,ai)) h7)) 73).or X0)) hC hE (Z4++(rpN 5 (Hq c6) (rpN 12 qT [])))
       ·obtain⟨fj,h9,aa⟩:=zb aa
        let Z5:List HO:=(Z4++[Hq c6,Hq c6,Hq c6,Hn (jS (f:=.fn 11 []) (xs:=[kS bm.1,yx ai]) (ls:=[]) (r:=B fj) (ys:=[]) [kS bm.1,yx ai] (show Jv [kS bm.1,yx ai] [kS bm.1,yx ai] from inferInstance)),Hq c6,Hq c6])
        rcases zH aa with⟨c7,aa⟩|⟨c7,aa⟩
        ·obtain rfl:=za aa
         exact yE ((vV (P:=Tryz.prog) yb [] (lentCall (zX hC h00 (x:=(bm.1,ai)) h9)) 85).or ((vV (P:=Tryz.prog) yb [] (lentCall (zX hC h00 (x:=(am.1,ai)) h8)) 79).or ((vV (P:=Tryz.prog) yb [] (lentCall (zX hC h00 (x:=(al.1,ai)) h7)) 73).or X0))) hC hE (Z5++(rpN 6 (Hq c7) (rpN 6 qT [])))
        ·obtain⟨g0,aa⟩:=gdE aa
         obtain⟨iy,h10,aa⟩:=zb aa
         let Z6:List HO:=(Z5++[Hq c7,Hq c7,Hq c7,Hn (slB g0),Hn (zby F6_ g0),Ha (slM 1 false F6_ ai 0 (1:Int).toNat),Hq c7,Hn (jS (f:=.fn 11 []) (xs:=[kS ck.1,yx ((ai.drop 0).take ((1:Int).toNat - 0))]) (ls:=[]) (r:=B iy) (ys:=[]) [kS ck.1,yx ((ai.drop 0).take ((1:Int).toNat - 0))] (show Jv [kS ck.1,yx ((ai.drop 0).take ((1:Int).toNat - 0))] [kS ck.1,yx ((ai.drop 0).take ((1:Int).toNat - 0))] from inferInstance)),Hq c7,Hq c7])
         rcases zH aa with⟨c8,aa⟩|⟨c8,aa⟩
         ·obtain rfl:=za aa
          exact yE ((vV (P:=Tryz.prog) yb [] (lentCall (zX hC h00 (x:=(ck.1,((ai.drop 0).take ((1:Int).toNat - 0)))) h10)) 92).or ((vV (P:=Tryz.prog) yb [] (lentCall (zX hC h00 (x:=(bm.1,ai)) h9)) 85).or ((vV (P:=Tryz.prog) yb [] (lentCall (zX hC h00 (x:=(am.1,ai)) h8)) 79).or ((vV (P:=Tryz.prog) yb [] (lentCall (zX hC h00 (x:=(al.1,ai)) h7)) 73).or X0)))) hC hE (Z6++(rpN 5 (Hq c8) [qT]))
         ·obtain⟨eu,h11,aa⟩:=zb aa
          let Z7:List HO:=(Z6++[Hq c8,Hq c8,Hq c8,Hn (jS (f:=.fn 11 []) (xs:=[kS du.1,yx ai]) (ls:=[]) (r:=B eu) (ys:=[]) [kS du.1,yx ai] (show Jv [kS du.1,yx ai] [kS du.1,yx ai] from inferInstance)),Hq c8,Hq c8])
          rcases zH aa with⟨c9,aa⟩|⟨c9,aa⟩
          ·obtain rfl:=za aa
           exact yE ((vV (P:=Tryz.prog) yb [] (lentCall (zX hC h00 (x:=(du.1,ai)) h11)) 98).or ((vV (P:=Tryz.prog) yb [] (lentCall (zX hC h00 (x:=(ck.1,((ai.drop 0).take ((1:Int).toNat - 0)))) h10)) 92).or ((vV (P:=Tryz.prog) yb [] (lentCall (zX hC h00 (x:=(bm.1,ai)) h9)) 85).or ((vV (P:=Tryz.prog) yb [] (lentCall (zX hC h00 (x:=(am.1,ai)) h8)) 79).or ((vV (P:=Tryz.prog) yb [] (lentCall (zX hC h00 (x:=(al.1,ai)) h7)) 73).or X0))))) hC hE (Z7++[Hq c9])
          ·obtain⟨g1,aa⟩:=gdE aa
           obtain⟨br,h12,aa⟩:=zb aa
           obtain⟨fh,h13,aa⟩:=zb aa
           obtain⟨ij,h14,aa⟩:=zb aa
           obtain⟨cb,h15,aa⟩:=zb aa
           obtain⟨iz,h16,aa⟩:=zb aa
           obtain⟨cp,h17,aa⟩:=zb aa
           obtain⟨g2,aa⟩:=gdE aa
           obtain⟨i3,h18,aa⟩:=zb aa
           obtain⟨cu,h19,aa⟩:=zb aa
           obtain⟨g3,aa⟩:=gdE aa
           obtain⟨i4,h20,aa⟩:=zb aa
           obtain⟨dz,h21,aa⟩:=zb aa
           obtain⟨g4,aa⟩:=gdE aa
           obtain⟨ft,h22,aa⟩:=zb aa
           refine yA ((vV (P:=Tryz.prog) yb [] (zf0 (l:=[F3_ ft.1,(eI .i64) ft.2]) (m:=[F2_ ft.1,(eI .i64) ft.2]) (lentCall (zX hC h06 (x:=(r_,((ai.drop 0).take ((1:Int).toNat - 0)),([]:List (List Int)))) h22)) (.cons (z00.live (f:=F3_) (g:=F2_) ft.1) (z00.sh (f:=F3_) (g:=F2_) ft.1) (.cons (z00.live (f:=(eI .i64)) (g:=(eI .i64)) ft.2) (z00.sh (f:=(eI .i64)) (g:=(eI .i64)) ft.2) (.nil)))) 156).or ((vV (P:=Tryz.prog) yb [] (zf0 (l:=[F3_ dz.1,(eI .i64) dz.2]) (m:=[F2_ dz.1,(eI .i64) dz.2]) (lentCall (zX hC h06 (x:=(r_,((ai.drop 0).take ((1:Int).toNat - 0)),i4)) h21)) (.cons (z00.live (f:=F3_) (g:=F2_) dz.1) (z00.sh (f:=F3_) (g:=F2_) dz.1) (.cons (z00.live (f:=(eI .i64)) (g:=(eI .i64)) dz.2) (z00.sh (f:=(eI .i64)) (g:=(eI .i64)) dz.2) (.nil)))) 149).or ((vV (P:=Tryz.prog) yb [] (zf0 (l:=[F3_ cu.1,(eI .i64) cu.2]) (m:=[F2_ cu.1,(eI .i64) cu.2]) (lentCall (zX hC h06 (x:=(r_,((ai.drop 0).take ((1:Int).toNat - 0)),i3)) h19)) (.cons (z00.live (f:=F3_) (g:=F2_) cu.1) (z00.sh (f:=F3_) (g:=F2_) cu.1) (.cons (z00.live (f:=(eI .i64)) (g:=(eI .i64)) cu.2) (z00.sh (f:=(eI .i64)) (g:=(eI .i64)) cu.2) (.nil)))) 139).or ((vV (P:=Tryz.prog) yb [] (zf0 (l:=[F3_ cp.1,(eI .i64) cp.2]) (m:=[F2_ cp.1,(eI .i64) cp.2]) (lentCall (zX hC h06 (x:=(r_,ai,iz)) h17)) (.cons (z00.live (f:=F3_) (g:=F2_) cp.1) (z00.sh (f:=F3_) (g:=F2_) cp.1) (.cons (z00.live (f:=(eI .i64)) (g:=(eI .i64)) cp.2) (z00.sh (f:=(eI .i64)) (g:=(eI .i64)) cp.2) (.nil)))) 129).or ((Zx Tryz.prog 121 [none,some (I cb.2)]).or ((Zx Tryz.prog 120 [some (eOs 1 true F3_ cb.1),some (I cb.2)]).or ((vV (P:=Tryz.prog) yb [] (lentCall (zX hC h00 (x:=(du.1,ai)) h11)) 98).or ((vV (P:=Tryz.prog) yb [] (lentCall (zX hC h00 (x:=(ck.1,((ai.drop 0).take ((1:Int).toNat - 0)))) h10)) 92).or ((vV (P:=Tryz.prog) yb [] (lentCall (zX hC h00 (x:=(bm.1,ai)) h9)) 85).or ((vV (P:=Tryz.prog) yb [] (lentCall (zX hC h00 (x:=(am.1,ai)) h8)) 79).or ((vV (P:=Tryz.prog) yb [] (lentCall (zX hC h00 (x:=(al.1,ai)) h7)) 73).or X0))))))))))) hC z0r [1,1,1,1,1,1,1,1,1,1,1,1,1,1,1,1] [] [(2,.d (eSl 1 false F6_ ai)),(4,.d (I br.2)),(6,.d (I ij.2)),(8,.d (I cb.2)),(10,.d (I cp.2)),(12,.d (I cu.2)),(13,.d (B br.1)),(14,.d (B ij.1)),(15,.own (eOs 1 true F3_ cb.1)),(16,.d (eSl 1 true (eI .i64) cp.1)),(17,.d (eSl 1 true (eI .i64) cu.1)),(18,.d (eSl 1 true (eI .i64) dz.1)),(19,.d (I dz.2)),(21,.d (I ft.2))] (Z7++[Hq c9,Hn (slB g1),Hn (zby F6_ g1),Ha (slM 1 false F6_ ai 0 (1:Int).toNat),Hc h0p (x:=(r_,((ai.drop 0).take ((1:Int).toNat - 0)))) h12 (loC z9v r_ <| loC yx ((ai.drop 0).take ((1:Int).toNat - 0)) <| loN),Hg (z1K h05),Hm (shM F3_ F2_ ([[0,0]])),Hs (z1L h05 (x:=[[0,0]]) h13 (loC kS ([[0,0]]:List (List Int)) <| loN)),Hm (shM F3_ F2_ ([[0,0]])),Hc h0p (x:=(r_,fh)) h14 (loC z9v r_ <| loC yx fh <| loN),Hc h0q (x:=(r_,ai,1)) h15 (loC z9v r_ <| loC yx ai <| loC (eI .i64) 1 <| loN),Hn (⟨rfl,rfl⟩:T.own (.opq (kT [some (eOs 1 true F3_ cb.1),some (I cb.2)]))=T.own (.opq (kT [some (eOs 1 true F3_ cb.1),some (I cb.2)]))/\1=1),Hn (⟨rfl,rfl⟩:T.own (.opq (kT [none,some (I cb.2)]))=T.own (.opq (kT [none,some (I cb.2)]))/\1=1),Hg (z1K h05),Hm (shM F3_ F2_ ([[0],[0]])),Hs (z1L h05 (x:=[[0],[0]]) h16 (loC kS ([[0],[0]]:List (List Int)) <| loN)),Hm (shM F3_ F2_ ([[0],[0]])),Hn (jS (f:=.fn 25 []) (xs:=[zD r_,yx ai,yx iz]) (ls:=[]) (r:=.tup [F2_ cp.1,(eI .i64) cp.2]) (ys:=[]) [z9v r_,yx ai,yx iz] (show Jv [z9v r_,yx ai,yx iz] [zD r_,yx ai,yx iz] from inferInstance)),Hn (slB g2),Hn (zby F6_ g2),Ha (slM 1 false F6_ ai 0 (1:Int).toNat),Hg (z1K h05),Hm (shM F3_ F2_ ([[0]])),Hs (z1L h05 (x:=[[0]]) h18 (loC kS ([[0]]:List (List Int)) <| loN)),Hm (shM F3_ F2_ ([[0]])),Hn (jS (f:=.fn 25 []) (xs:=[zD r_,yx ((ai.drop 0).take ((1:Int).toNat - 0)),yx i3]) (ls:=[]) (r:=.tup [F2_ cu.1,(eI .i64) cu.2]) (ys:=[]) [z9v r_,yx ((ai.drop 0).take ((1:Int).toNat - 0)),yx i3] (show Jv [z9v r_,yx ((ai.drop 0).take ((1:Int).toNat - 0)),yx i3] [zD r_,yx ((ai.drop 0).take ((1:Int).toNat - 0)),yx i3] from inferInstance)),Hn (slB g3),Hn (zby F6_ g3),Ha (slM 1 false F6_ ai 0 (1:Int).toNat),Hg (z1K h05),Hm (shM F3_ F2_ ([[7]])),Hs (z1L h05 (x:=[[7]]) h20 (loC kS ([[7]]:List (List Int)) <| loN)),Hm (shM F3_ F2_ ([[7]])),Hn (jS (f:=.fn 25 []) (xs:=[zD r_,yx ((ai.drop 0).take ((1:Int).toNat - 0)),yx i4]) (ls:=[]) (r:=.tup [F2_ dz.1,(eI .i64) dz.2]) (ys:=[]) [z9v r_,yx ((ai.drop 0).take ((1:Int).toNat - 0)),yx i4] (show Jv [z9v r_,yx ((ai.drop 0).take ((1:Int).toNat - 0)),yx i4] [zD r_,yx ((ai.drop 0).take ((1:Int).toNat - 0)),yx i4] from inferInstance)),Hn (slB g4),Hn (zby F6_ g4),Ha (slM 1 false F6_ ai 0 (1:Int).toNat),Hn (jS (f:=.fn 25 []) (xs:=[zD r_,yx ((ai.drop 0).take ((1:Int).toNat - 0)),yx ([]:List (List Int))]) (ls:=[]) (r:=.tup [F2_ ft.1,(eI .i64) ft.2]) (ys:=[]) [z9v r_,yx ((ai.drop 0).take ((1:Int).toNat - 0)),zj0 ([]:List (List Int))] (show Jv [z9v r_,yx ((ai.drop 0).take ((1:Int).toNat - 0)),zj0 ([]:List (List Int))] [zD r_,yx ((ai.drop 0).take ((1:Int).toNat - 0)),yx ([]:List (List Int))] from inferInstance)),Hh (.cut 0)]) ?_
           rcases zH aa with⟨c10,aa⟩|⟨c10,aa⟩
           ·rcases zH aa with⟨c11,aa⟩|⟨c11,aa⟩
            ·let Z8:List HO:=[Hq c10,Hq c10,Hq c10,Hq c11,Hq c11,Hq c11]
             rcases zH aa with⟨c12,aa⟩|⟨c12,aa⟩
             ·rcases zH aa with⟨c13,aa⟩|⟨c13,aa⟩
              ·let Z9:List HO:=(Z8++[Hq c12,Hq c12,Hq c12,Hq c13,Hq c13,Hq c13])
               rcases zH aa with⟨c14,aa⟩|⟨c14,aa⟩
               ·rcases zH aa with⟨c15,aa⟩|⟨c15,aa⟩
                ·let Z10:List HO:=(Z9++[Hq c14,Hq c14,Hq c14,Hq c15,Hq c15,Hq c15])
                 rcases zH aa with⟨c16,aa⟩|⟨c16,aa⟩
                 ·rcases zH aa with⟨c17,aa⟩|⟨c17,aa⟩
                  ·obtain⟨lk,h23,aa⟩:=zb aa
                   let Z11:List HO:=(Z10++[Hq c16,Hq c16,Hq c17,Hq c17,Hq c17,Hm (shM F3_ F2_ cb.1),Hn (jS (f:=.fn 11 []) (xs:=[kS cb.1,yx ai]) (ls:=[]) (r:=B lk) (ys:=[]) [kS cb.1,yx ai] (show Jv [kS cb.1,yx ai] [kS cb.1,yx ai] from inferInstance)),Hq c17])
                   rcases zH aa with⟨c18,aa⟩|⟨c18,aa⟩
                   ·obtain⟨ll,h24,aa⟩:=zb aa
                    let Z12:List HO:=(Z11++[Hq c18,Hq c18,Hq c18,Hm (shM (eI .i64) (eI .i64) ([0])),Hn (jS (f:=.fn 26 []) (xs:=[F2_ cp.1,F6_ ([0]:List Int)]) (ls:=[]) (r:=B ll) (ys:=[]) [F2_ cp.1,F2_ ([0]:List Int)] (show Jv [F2_ cp.1,F2_ ([0]:List Int)] [F2_ cp.1,F6_ ([0]:List Int)] from inferInstance)),Hq c18])
                    rcases zH aa with⟨c19,aa⟩|⟨c19,aa⟩
                    ·obtain⟨lm,h25,aa⟩:=zb aa
                     let Z13:List HO:=(Z12++[Hq c19,Hq c19,Hq c19,Hm (shM (eI .i64) (eI .i64) ([0,1])),Hn (jS (f:=.fn 26 []) (xs:=[F2_ cu.1,F6_ ([0,1]:List Int)]) (ls:=[]) (r:=B lm) (ys:=[]) [F2_ cu.1,F2_ ([0,1]:List Int)] (show Jv [F2_ cu.1,F2_ ([0,1]:List Int)] [F2_ cu.1,F6_ ([0,1]:List Int)] from inferInstance)),Hq c19])
                     rcases zH aa with⟨c20,aa⟩|⟨c20,aa⟩
                     ·let Z14:List HO:=(Z13++[Hq c20,Hq c20,Ha (lnM (eI .i64) dz.1),Hq c20,Hq c20])
                      rcases zH aa with⟨c21,aa⟩|⟨c21,aa⟩
                      ·obtain rfl:=za aa
                       exact yE ((vV (P:=Tryz.prog) yb [] (lentCall (zX hC h01 (x:=(cu.1,([0,1]:List Int))) h25)) 201).or ((vV (P:=Tryz.prog) yb [] (lentCall (zX hC h01 (x:=(cp.1,([0]:List Int))) h24)) 196).or ((vV (P:=Tryz.prog) yb [] (lentCall (zX hC h00 (x:=(cb.1,ai)) h23)) 191).or X0))) hC hE (Z14++[Hq c21,Hq c21,Hq c21])
                      ·obtain rfl:=za aa
                       exact yE ((vV (P:=Tryz.prog) yb [] (lentCall (zX hC h01 (x:=(cu.1,([0,1]:List Int))) h25)) 201).or ((vV (P:=Tryz.prog) yb [] (lentCall (zX hC h01 (x:=(cp.1,([0]:List Int))) h24)) 196).or ((vV (P:=Tryz.prog) yb [] (lentCall (zX hC h00 (x:=(cb.1,ai)) h23)) 191).or X0))) hC hE (Z14++[Hq c21,Hq c21,Hq c21])
                     ·obtain rfl:=za aa
                      exact yE ((vV (P:=Tryz.prog) yb [] (lentCall (zX hC h01 (x:=(cu.1,([0,1]:List Int))) h25)) 201).or ((vV (P:=Tryz.prog) yb [] (lentCall (zX hC h01 (x:=(cp.1,([0]:List Int))) h24)) 196).or ((vV (P:=Tryz.prog) yb [] (lentCall (zX hC h00 (x:=(cb.1,ai)) h23)) 191).or X0))) hC hE (Z13++(rpN 4 (Hq c20) [qF,qF,qF]))
                    ·obtain rfl:=za aa
                     exact yE ((vV (P:=Tryz.prog) yb [] (lentCall (zX hC h01 (x:=(cp.1,([0]:List Int))) h24)) 196).or ((vV (P:=Tryz.prog) yb [] (lentCall (zX hC h00 (x:=(cb.1,ai)) h23)) 191).or X0)) hC hE (Z12++(rpN 4 (Hq c19) (rpN 7 qF [])))
                   ·obtain rfl:=za aa
                    exact yE ((vV (P:=Tryz.prog) yb [] (lentCall (zX hC h00 (x:=(cb.1,ai)) h23)) 191).or X0) hC hE (Z11++(rpN 4 (Hq c18) (rpN 11 qF [])))
                  ·obtain rfl:=za aa
                   exact yE X0 hC hE (Z10++(Hq c16::Hq c16::(rpN 4 (Hq c17) (rpN 15 qF []))))
                 ·obtain rfl:=za aa
                  exact yE X0 hC hE (Z10++(Hq c16::Hq c16::(rpN 19 qF [])))
                ·obtain rfl:=za aa
                 exact yE X0 hC hE (Z9++(Hq c14::Hq c14::Hq c14::Hq c15::Hq c15::Hq c15::(rpN 21 qF [])))
               ·obtain rfl:=za aa
                exact yE X0 hC hE (Z9++(Hq c14::Hq c14::Hq c14::(rpN 24 qF [])))
              ·obtain rfl:=za aa
               exact yE X0 hC hE (Z8++(Hq c12::Hq c12::Hq c12::Hq c13::Hq c13::Hq c13::(rpN 27 qF [])))
             ·obtain rfl:=za aa
              exact yE X0 hC hE (Z8++(Hq c12::Hq c12::Hq c12::(rpN 30 qF [])))
            ·obtain rfl:=za aa
             exact yE X0 hC hE (Hq c10::Hq c10::Hq c10::Hq c11::Hq c11::Hq c11::(rpN 33 qF []))
           ·obtain rfl:=za aa
            exact yE X0 hC hE (Hq c10::Hq c10::Hq c10::(rpN 36 qF []))
def X9:Code:=(Tryz.f5.body).getD .skip
def uV:zK:=spF (α:=vT×yU×zj2 Int) (ρ:=Bool) 5 (fun x=>[(ZH KK) x.1,z9y x.2.1,(zbP (eI .u8)) x.2.2]) (fun r=>eB r) (fun x=>uf x.1 x.2.1 x.2.2) [] (zad)
abbrev UI (r_:z6)(al:List (List Int))(eu:List (List Int)):List (Nat×T):=[(7,.own (.box (zD r_))),(8,.d (eSl 1 false F6_ al)),(10,.own (eOs 1 true F3_ eu))]
theorem Jz (hC:zx Tryz.prog ctr)(h1V:ctr.Has QQ)(h1W:ctr.Has QP)(h0L:ctr.Has Vv)(h0q:ctr.Has uW)(h0p:ctr.Has Yx)(h0c:ctr.Has vI)(h00:ctr.Has WQ)(h1X:ctr.Has Q5)(h06:ctr.Has qY)(h0B:ctr.Has Xs)(h01:ctr.Has WR)(h1Y:ctr.Has Qa):uV.Ok Tryz.prog:=by
 refine zw ?_
 rintro⟨x_,y_,z_⟩ r0 aa
 try unfold uf at aa
 refine yO true [(6,none)] X9 136 Tryz.func5 fun E hE=>?_
 obtain⟨r_,h0,aa⟩:=zb aa
 obtain⟨ai,h1,aa⟩:=zb aa
 obtain⟨al,h2,aa⟩:=zb aa
 obtain⟨g0,aa⟩:=gdE aa
 obtain⟨am,h3,aa⟩:=zb aa
 obtain⟨bm,h4,aa⟩:=zb aa
 let Z0:List HO:=[Hc h1V (x:=(vT.mk x_.C)) h0 (loC (ZH KK) (vT.mk x_.C) <| loN),Hc h1W (x:=y_) h1 (loC z9y y_ <| loN),Hg (z1K h0L),Hm (shM F6_ F6_ ai),Hs (z1L h0L (x:=(ai,r_.Inputs)) h2 (loC yx ai <| loC (eI .i64) r_.Inputs <| loN)),Hm (shM F6_ F6_ ai),Hn (⟨rfl,by decide⟩:true=true/\0<3),Ha (lnM yI r_.Rows),Hn g0,Hg (z1K h0q),Hm (shM F6_ F6_ al),Hs (z1L h0q (x:=(r_,al,Int.tmod (w64 (z_.e0)) ((r_.Rows.length:Nat):Int))) h3 (loC zD r_ <| loC yx al <| loC (eI .i64) (Int.tmod (w64 (z_.e0)) ((r_.Rows.length:Nat):Int)) <| loN)),Hm (shM F6_ F6_ al),Hn (⟨rfl,rfl⟩:T.own (.opq (kT [some (eOs 1 true F3_ am.1),some (I am.2)]))=T.own (.opq (kT [some (eOs 1 true F3_ am.1),some (I am.2)]))/\1=1),Hn (⟨rfl,rfl⟩:T.own (.opq (kT [none,some (I am.2)]))=T.own (.opq (kT [none,some (I am.2)]))/\1=1),Hc h0p (x:=(r_,al)) h4 (loC zD r_ <| loC yx al <| loN)]
 rcases zH aa with⟨c0,aa⟩|⟨c0,aa⟩
 ·obtain rfl:=za aa
  exact yE ((Zx Tryz.prog 37 [none,some (I am.2)]).or ((Zx Tryz.prog 36 [some (eOs 1 true F3_ am.1),some (I am.2)]).or X0)) hC hE (Z0++(Hq c0::Hq c0::Hq c0::(rpN 15 qT [])))
 ·rcases zH aa with⟨c1,aa⟩|⟨c1,aa⟩
  ·obtain rfl:=za aa
   exact yE ((Zx Tryz.prog 37 [none,some (I am.2)]).or ((Zx Tryz.prog 36 [some (eOs 1 true F3_ am.1),some (I am.2)]).or X0)) hC hE (Z0++(Hq c0::Hq c0::Hq c0::(rpN 8 (Hq c1) (rpN 7 qT []))))
  ·obtain⟨ck,h5,aa⟩:=zb aa
   obtain⟨du,h6,aa⟩:=zb aa
   let Z1:List HO:=(Z0++(Hq c0::Hq c0::Hq c0::(rpN 5 (Hq c1) [Hc h0c (x:=(r_,al,Int.tmod (w64 (z_.e0)) ((r_.Rows.length:Nat):Int))) h5 (loC zD r_ <| loC yx al <| loC (eI .i64) (Int.tmod (w64 (z_.e0)) ((r_.Rows.length:Nat):Int)) <| loN),Hq c1,Hm (shM F3_ F2_ am.1),Hm (shM F5_ F6_ ck),Hn (z9L (f:=.fn 11 []) (xs:=[kS am.1,yx ck]) (r:=eB du) [kS am.1,yx ck] (show Jv [kS am.1,yx ck] [kS am.1,yx ck] from inferInstance)),Hq c1,Hq c1])))
   rcases zH aa with⟨c2,aa⟩|⟨c2,aa⟩
   ·obtain rfl:=za aa
    exact yE ((ze8 (P:=Tryz.prog) yb (lentCall (zX hC h00 (x:=(am.1,ck)) h6)) (r:=eB du) (z9B (f:=eB) du).t 56).or ((Zx Tryz.prog 37 [none,some (I am.2)]).or ((Zx Tryz.prog 36 [some (eOs 1 true F3_ am.1),some (I am.2)]).or X0))) hC hE (Z1++(rpN 6 (Hq c2) [qT]))
   ·obtain⟨kl,h7,aa⟩:=zb aa
    let Z2:List HO:=(Z1++(rpN 4 (Hq c2) [Hc h1X (x:=(r_,al)) h7 (loC zD r_ <| loC yx al <| loN),Hq c2,Hq c2]))
    rcases zH aa with⟨c3,aa⟩|⟨c3,aa⟩
    ·obtain rfl:=za aa
     exact yE ((ze8 (P:=Tryz.prog) yb (lentCall (zX hC h00 (x:=(am.1,ck)) h6)) (r:=eB du) (z9B (f:=eB) du).t 56).or ((Zx Tryz.prog 37 [none,some (I am.2)]).or ((Zx Tryz.prog 36 [some (eOs 1 true F3_ am.1),some (I am.2)]).or X0))) hC hE (Z2++[Hq c3])
    ·obtain⟨bo,h8,aa⟩:=zb aa
     let Z3:List HO:=(Z2++[Hq c3,Hm (shM F3_ F2_ am.1),Hn (z9L (f:=.fn 25 []) (xs:=[zD r_,yx al,yx am.1]) (r:=.opq (kT [some (F3_ bo.1),some ((eI .i64) bo.2)])) [zD r_,yx al,kS am.1] (show Jv [zD r_,yx al,kS am.1] [zD r_,yx al,yx am.1] from inferInstance)),Hn (⟨rfl,rfl⟩:T.own (.opq (kT [some (eOs 1 true (eI .i64) bo.1),some (I bo.2)]))=T.own (.opq (kT [some (eOs 1 true (eI .i64) bo.1),some (I bo.2)]))/\1=1),Hn (⟨rfl,rfl⟩:T.own (.opq (kT [none,some (I bo.2)]))=T.own (.opq (kT [none,some (I bo.2)]))/\1=1)])
     rcases zH aa with⟨c4,aa⟩|⟨c4,aa⟩
     ·obtain rfl:=za aa
      exact yE ((Zx Tryz.prog 72 [none,some (I bo.2)]).or ((Zx Tryz.prog 71 [some (eOs 1 true (eI .i64) bo.1),some (I bo.2)]).or ((ze8 (P:=Tryz.prog) yb (lentCall (zX hC h06 (x:=(r_,al,am.1)) h8)) (r:=.opq (kT [some (F3_ bo.1),some ((eI .i64) bo.2)])) (zc3 (ls:=[F3_ bo.1,(eI .i64) bo.2]) (.cons (wkN (f:=F3_) bo.1) (.cons (wkN (f:=(eI .i64)) bo.2) (.nil)))) 70).or ((ze8 (P:=Tryz.prog) yb (lentCall (zX hC h00 (x:=(am.1,ck)) h6)) (r:=eB du) (z9B (f:=eB) du).t 56).or ((Zx Tryz.prog 37 [none,some (I am.2)]).or ((Zx Tryz.prog 36 [some (eOs 1 true F3_ am.1),some (I am.2)]).or X0)))))) hC hE (Z3++(rpN 8 (Hq c4) [qT]))
     ·obtain⟨fj,h9,aa⟩:=zb aa
      obtain⟨iy,h10,aa⟩:=zb aa
      let Z4:List HO:=(Z3++(rpN 5 (Hq c4) [Hm (shM F3_ F2_ am.1),Hn (z9L (f:=.fn 27 []) (xs:=[zD r_,yx al,yx am.1]) (r:=F5_ fj) [zD r_,yx al,kS am.1] (show Jv [zD r_,yx al,kS am.1] [zD r_,yx al,yx am.1] from inferInstance)),Hq c4,Hm (shM (eI .i64) (eI .i64) bo.1),Hm (shM (eI .i64) (eI .i64) fj),Hn (jS (f:=.fn 26 []) (xs:=[F2_ bo.1,F6_ fj]) (ls:=[]) (r:=B iy) (ys:=[]) [F2_ bo.1,F6_ fj] (show Jv [F2_ bo.1,F6_ fj] [F2_ bo.1,F6_ fj] from inferInstance)),Hq c4,Hq c4]))
      rcases zH aa with⟨c5,aa⟩|⟨c5,aa⟩
      ·obtain rfl:=za aa
       exact yE ((vV (P:=Tryz.prog) yb [] (lentCall (zX hC h01 (x:=(bo.1,fj)) h10)) 81).or ((ze8 (P:=Tryz.prog) yb (lentCall (zX hC h0B (x:=(r_,al,am.1)) h9)) (r:=F5_ fj) (z9B (f:=F5_) fj).t 80).or ((Zx Tryz.prog 72 [none,some (I bo.2)]).or ((Zx Tryz.prog 71 [some (eOs 1 true (eI .i64) bo.1),some (I bo.2)]).or ((ze8 (P:=Tryz.prog) yb (lentCall (zX hC h06 (x:=(r_,al,am.1)) h8)) (r:=.opq (kT [some (F3_ bo.1),some ((eI .i64) bo.2)])) (zc3 (ls:=[F3_ bo.1,(eI .i64) bo.2]) (.cons (wkN (f:=F3_) bo.1) (.cons (wkN (f:=(eI .i64)) bo.2) (.nil)))) 70).or ((ze8 (P:=Tryz.prog) yb (lentCall (zX hC h00 (x:=(am.1,ck)) h6)) (r:=eB du) (z9B (f:=eB) du).t 56).or ((Zx Tryz.prog 37 [none,some (I am.2)]).or ((Zx Tryz.prog 36 [some (eOs 1 true F3_ am.1),some (I am.2)]).or X0)))))))) hC hE (Z4++[Hq c5])
      ·refine yJ ((vV (P:=Tryz.prog) yb [] (lentCall (zX hC h01 (x:=(bo.1,fj)) h10)) 81).or ((ze8 (P:=Tryz.prog) yb (lentCall (zX hC h0B (x:=(r_,al,am.1)) h9)) (r:=F5_ fj) (z9B (f:=F5_) fj).t 80).or ((Zx Tryz.prog 72 [none,some (I bo.2)]).or ((Zx Tryz.prog 71 [some (eOs 1 true (eI .i64) bo.1),some (I bo.2)]).or ((ze8 (P:=Tryz.prog) yb (lentCall (zX hC h06 (x:=(r_,al,am.1)) h8)) (r:=.opq (kT [some (F3_ bo.1),some ((eI .i64) bo.2)])) (zc3 (ls:=[F3_ bo.1,(eI .i64) bo.2]) (.cons (wkN (f:=F3_) bo.1) (.cons (wkN (f:=(eI .i64)) bo.2) (.nil)))) 70).or ((ze8 (P:=Tryz.prog) yb (lentCall (zX hC h00 (x:=(am.1,ck)) h6)) (r:=eB du) (z9B (f:=eB) du).t 56).or ((Zx Tryz.prog 37 [none,some (I am.2)]).or ((Zx Tryz.prog 36 [some (eOs 1 true F3_ am.1),some (I am.2)]).or X0)))))))) hC X9 [1,1,1,1,1,1,1,1,1] [] [7,8,10] (fun z:List (List Int)=>yj r_ al z=some r0) (fun z=>UI r_ al z) [(5,.own (.box ((zbP (eI .u8)) z_))),(7,.own (.box (zD r_))),(8,.d (eSl 1 false F6_ al)),(10,.own (eOs 1 true F3_ am.1))] (Z4++[Hq c5,Hh (.cut 0)]) ?_ fun J1 aq=>?_
       ·rintro eu aa
        unfold yj at aa
        obtain⟨br,h11,aa⟩:=zb aa
        let Z5:List HO:=[Hg (z1K h06),Hm (shM F3_ F2_ eu),Hs (z1L h06 (x:=(r_,al,eu)) h11 (loC zD r_ <| loC yx al <| loC kS eu <| loN)),Hm (shM F3_ F2_ eu),Hn (⟨rfl,rfl⟩:T.own (.opq (kT [some (eOs 1 true (eI .i64) br.1),some (I br.2)]))=T.own (.opq (kT [some (eOs 1 true (eI .i64) br.1),some (I br.2)]))/\1=1),Hn (⟨rfl,rfl⟩:T.own (.opq (kT [none,some (I br.2)]))=T.own (.opq (kT [none,some (I br.2)]))/\1=1)]
        rcases zH aa with⟨c6,aa⟩|⟨c6,aa⟩
        ·obtain⟨fh,h12,aa⟩:=zb aa
         obtain⟨ij,h13,aa⟩:=zb aa
         let Z6:List HO:=(Z5++(rpN 5 (Hq c6) [Hc h0B (x:=(r_,al,eu)) h12 (loC zD r_ <| loC yx al <| loC kS eu <| loN),Hq c6,Hm (shM (eI .i64) (eI .i64) br.1),Hm (shM (eI .i64) (eI .i64) fh),Hn (jS (f:=.fn 26 []) (xs:=[F2_ br.1,F6_ fh]) (ls:=[]) (r:=B ij) (ys:=[]) [F2_ br.1,F6_ fh] (show Jv [F2_ br.1,F6_ fh] [F2_ br.1,F6_ fh] from inferInstance)),Hq c6]))
         rcases zH aa with⟨c7,aa⟩|⟨c7,aa⟩
         ·obtain⟨cb,h14,aa⟩:=zb aa
          obtain rfl:=za aa
          exact yE ((vV (P:=Tryz.prog) yb [] (lentCall (zX hC h01 (x:=(br.1,fh)) h13)) 131).or ((Zx Tryz.prog 122 [none,some (I br.2)]).or ((Zx Tryz.prog 121 [some (eOs 1 true (eI .i64) br.1),some (I br.2)]).or X0))) hC hE (Z6++[Hq c7,Hc h1Y (x:=()) h14 (loN),Hq c7])
         ·obtain rfl:=za aa
          exact yE ((vV (P:=Tryz.prog) yb [] (lentCall (zX hC h01 (x:=(br.1,fh)) h13)) 131).or ((Zx Tryz.prog 122 [none,some (I br.2)]).or ((Zx Tryz.prog 121 [some (eOs 1 true (eI .i64) br.1),some (I br.2)]).or X0))) hC hE (Z6++[Hq c7,Hq c7])
        ·obtain rfl:=za aa
         exact yE ((Zx Tryz.prog 122 [none,some (I br.2)]).or ((Zx Tryz.prog 121 [some (eOs 1 true (eI .i64) br.1),some (I br.2)]).or X0)) hC hE (Z5++(rpN 7 (Hq c6) [qF,qF]))
       ·let Z7:List HO:=[Ha (lnM F3_ am.1)]
        rcases zH aa with⟨c8,aa⟩|⟨c8,aa⟩
        ·obtain⟨g1,aa⟩:=gdE aa
         obtain⟨u_,h15,aa⟩:=zb aa
         let Z8:List HO:=(Z7++[Hq c8,Hn (⟨rfl,by decide⟩:true=true/\1<3),Ha (lnM F3_ am.1),Hn g1,Hn (iL F3_ h15),Hs (iM F3_ h15),Hs (iM F3_ h15),Ha (lnM (eI .i64) u_)])
         rcases zH aa with⟨c9,aa⟩|⟨c9,aa⟩
         ·obtain⟨il,h16,aa⟩:=zb aa
          obtain⟨gq,h17,aa⟩:=zb aa
          obtain⟨g2,aa⟩:=gdE aa
          obtain⟨kh,h18,aa⟩:=zb aa
          obtain⟨me,h19,aa⟩:=zb aa
          exact yB X0 hC aq (am.1.set (Int.tmod (w64 (z_.e1)) ((am.1.length:Nat):Int)).toNat (il.set (Int.tmod (w64 (z_.e2)) ((gq.length:Nat):Int)).toNat (w64 (kh+1)))) aa (Z8++[Hq c9,Hn (iL F3_ h16),Hs (iM F3_ h16),Hn (⟨rfl,by decide⟩:true=true/\2<3),Hn (iL F3_ h17),Hs (iM F3_ h17),Hs (iM F3_ h17),Ha (lnM (eI .i64) gq),Hn g2,Hs (iM F3_ h16),Hn (iL (eI .i64) h18),Hs (iM F3_ h16),Hs (iM (eI .i64) h18),Hs (iM F3_ h16),Hn (iL (eI .i64) h19),Hs (iM F3_ h16),Hs (iM (eI .i64) h19),Hs (iM F3_ h16),Hs (iM (eI .i64) h19),Hl (sM (eI .i64) il (Int.tmod (w64 (z_.e2)) ((gq.length:Nat):Int)) (w64 (kh+1))),Hl (sM F3_ am.1 (Int.tmod (w64 (z_.e1)) ((am.1.length:Nat):Int)) (il.set (Int.tmod (w64 (z_.e2)) ((gq.length:Nat):Int)).toNat (w64 (kh+1))))])
         ·exact yB X0 hC aq am.1 aa (Z8++[Hq c9])
        ·exact yB X0 hC aq am.1 aa (Z7++[Hq c8])
variable {l:List zK}
theorem zS {s:zK}(h:((l.map zK.k).contains s.k)=false):∀t∈l,t.k≠s.k:=by
 intro t ht e
 have:(l.map zK.k).contains s.k=true:=by
  rw [List.contains_iff_mem,<-e]
  exact List.mem_map_of_mem ht
 rw [h]at this
 cases this
theorem zk {c:Ctr}(H:∀t∈l,c.Has t)(i:Nat){s:zK}(h:l[i]?=some s):c.Has s:=H _ (List.mem_of_getElem? h)
def L0:List zK:=Vw::[]
def L1:List zK:=QR::L0
def L2:List zK:=Q6::L1
def L3:List zK:=Vr::L2
def L4:List zK:=Yu::L3
def L5:List zK:=Vq::L4
def L6:List zK:=ZN::L5
def L7:List zK:=Yv::L6
def L8:List zK:=Q9::L7
def L9:List zK:=QM::L8
def L10:List zK:=Q7::L9
def L11:List zK:=Vs::L10
def L12:List zK:=QN::L11
def L13:List zK:=Q8::L12
def L14:List zK:=Yt::L13
def L15:List zK:=Ws::L14
def L16:List zK:=K3::L15
def L17:List zK:=Wr::L16
def L18:List zK:=QQ::L17
def L19:List zK:=Y8::L18
def L20:List zK:=Qb::L19
def L21:List zK:=ZM::L20
def L22:List zK:=K2::L21
def L23:List zK:=WP::L22
def L24:List zK:=QP::L23
def L25:List zK:=Vv::L24
def L26:List zK:=qu::L25
def L27:List zK:=Wu::L26
def L28:List zK:=Y7::L27
def L29:List zK:=yV::L28
def L30:List zK:=yq::L29
def L31:List zK:=xw::L30
def L32:List zK:=Yw::L31
def L33:List zK:=Xu::L32
def L34:List zK:=vw::L33
def L35:List zK:=jU::L34
def L36:List zK:=Zv::L35
def L37:List zK:=Zu::L36
def L38:List zK:=vX::L37
def L39:List zK:=wK::L38
def L40:List zK:=jV::L39
def L41:List zK:=Zt::L40
def L42:List zK:=Xr::L41
def L43:List zK:=Vp::L42
def L44:List zK:=qX::L43
def L45:List zK:=xG::L44
def L46:List zK:=Ys::L45
def L47:List zK:=jT::L46
def L48:List zK:=Zs::L47
def L49:List zK:=wY::L48
def L50:List zK:=Wp::L49
def L51:List zK:=wX::L50
def L52:List zK:=wa::L51
def L53:List zK:=XF::L52
def L54:List zK:=XI::L53
def L55:List zK:=Wx::L54
def L56:List zK:=qZ::L55
def L57:List zK:=vY::L56
def L58:List zK:=QS::L57
def L59:List zK:=qt::L58
def L60:List zK:=Q3::L59
def L61:List zK:=XG::L60
def L62:List zK:=Q4::L61
def L63:List zK:=jW::L62
def L64:List zK:=Xt::L63
def L65:List zK:=Vt::L64
def L66:List zK:=Vu::L65
def L67:List zK:=xT::L66
def L68:List zK:=uW::L67
def L69:List zK:=wZ::L68
def L70:List zK:=jX::L69
def L71:List zK:=xj::L70
def L72:List zK:=v6::L71
def L73:List zK:=Yx::L72
def L74:List zK:=K4::L73
def L75:List zK:=vI::L74
def L76:List zK:=kU::L75
def L77:List zK:=WQ::L76
def L78:List zK:=Q5::L77
def L79:List zK:=ud::L78
def L80:List zK:=qY::L79
def L81:List zK:=Xs::L80
def L82:List zK:=WR::L81
def L83:List zK:=Wv::L82
def L84:List zK:=QO::L83
def L85:List zK:=VA::L84
def L86:List zK:=ug::L85
def L87:List zK:=Vn::L86
def L88:List zK:=Vo::L87
def L89:List zK:=wr::L88
def L90:List zK:=xh::L89
def L91:List zK:=Y6::L90
def L92:List zK:=wL::L91
def L93:List zK:=vH::L92
def L94:List zK:=ui::L93
def L95:List zK:=Xq::L94
def L96:List zK:=wb::L95
def L97:List zK:=Vm::L96
def L98:List zK:=Yr::L97
def L99:List zK:=Vy::L98
def zpM:List zK:=WS::L99
def zpL:List zK:=XJ::zpM
def zpK:List zK:=K5::zpL
def zpJ:List zK:=Y9::zpK
def zpI:List zK:=uj::zpJ
def zpH:List zK:=qV::zpI
def zpG:List zK:=wM::zpH
def zpF:List zK:=vz::zpG
def zpE:List zK:=Vz::zpF
def zpD:List zK:=Ww::zpE
def zpC:List zK:=Qa::zpD
def zqG:List zK:=uV::zpC
theorem zov:zl Tryz.prog L0:=⟨fun _ hC H=>z6m hC,zS (by kernel_rfl),trivial⟩
theorem zou:zl Tryz.prog L1:=⟨fun _ hC H=>z8s hC (zk H 0 rfl),zS (by kernel_rfl),zov⟩
theorem zot:zl Tryz.prog L2:=⟨fun _ hC H=>z7j hC,zS (by kernel_rfl),zou⟩
theorem zos:zl Tryz.prog L3:=⟨fun _ hC H=>z6h hC (zk H 0 rfl),zS (by kernel_rfl),zot⟩
theorem zor:zl Tryz.prog L4:=⟨fun _ hC H=>z2E hC,zS (by kernel_rfl),zos⟩
theorem zoq:zl Tryz.prog L5:=⟨fun _ hC H=>z6g hC (zk H 1 rfl) (zk H 0 rfl),zS (by kernel_rfl),zor⟩
theorem zop:zl Tryz.prog L6:=⟨fun _ hC H=>z4H hC (zk H 0 rfl),zS (by kernel_rfl),zoq⟩
theorem zoo:zl Tryz.prog L7:=⟨fun _ hC H=>z8m hC,zS (by kernel_rfl),zop⟩
theorem zon:zl Tryz.prog L8:=⟨fun _ hC H=>z7m hC (zk H 0 rfl),zS (by kernel_rfl),zoo⟩
theorem zom:zl Tryz.prog L9:=⟨fun _ hC H=>z8k hC,zS (by kernel_rfl),zon⟩
theorem zmR:zl Tryz.prog L10:=⟨fun _ hC H=>z7k hC (zk H 1 rfl) (zk H 0 rfl),zS (by kernel_rfl),zom⟩
theorem zmQ:zl Tryz.prog L11:=⟨fun _ hC H=>z6i hC (zk H 0 rfl),zS (by kernel_rfl),zmR⟩
theorem zmP:zl Tryz.prog L12:=⟨fun _ hC H=>z8l hC,zS (by kernel_rfl),zmQ⟩
theorem zmO:zl Tryz.prog L13:=⟨fun _ hC H=>z7l hC (zk H 1 rfl) (zk H 0 rfl),zS (by kernel_rfl),zmP⟩
theorem zmN:zl Tryz.prog L14:=⟨fun _ hC H=>z6f hC (zk H 7 rfl) (zk H 0 rfl),zS (by kernel_rfl),zmO⟩
theorem zmM:zl Tryz.prog L15:=⟨fun _ hC H=>z4I hC,zS (by kernel_rfl),zmN⟩
theorem zmL:zl Tryz.prog L16:=⟨fun _ hC H=>z9D hC (zk H 9 rfl) (zk H 1 rfl) (zk H 0 rfl),zS (by kernel_rfl),zmM⟩
theorem zmK:zl Tryz.prog L17:=⟨fun _ hC H=>z4G hC (zk H 2 rfl) (zk H 0 rfl),zS (by kernel_rfl),zmL⟩
theorem zmJ:zl Tryz.prog L18:=⟨fun _ hC H=>z8r hC (zk H 16 rfl) (zk H 0 rfl),zS (by kernel_rfl),zmK⟩
theorem zmI:zl Tryz.prog L19:=⟨fun _ hC H=>z1t hC,zS (by kernel_rfl),zmJ⟩
theorem zmH:zl Tryz.prog L20:=⟨fun _ hC H=>z7o hC (zk H 0 rfl),zS (by kernel_rfl),zmI⟩
theorem zmG:zl Tryz.prog L21:=⟨fun _ hC H=>z4F hC,zS (by kernel_rfl),zmH⟩
theorem zmF:zl Tryz.prog L22:=⟨fun _ hC H=>z9C hC (zk H 0 rfl),zS (by kernel_rfl),zmG⟩
theorem zmE:zl Tryz.prog L23:=⟨fun _ hC H=>z8i hC (zk H 0 rfl),zS (by kernel_rfl),zmF⟩
theorem zmD:zl Tryz.prog L24:=⟨fun _ hC H=>z8q hC (zk H 3 rfl) (zk H 0 rfl),zS (by kernel_rfl),zmE⟩
theorem zmC:zl Tryz.prog L25:=⟨fun _ hC H=>z6l hC (zk H 1 rfl),zS (by kernel_rfl),zmD⟩
theorem zmB:zl Tryz.prog L26:=⟨fun _ hC H=>z4K hC,zS (by kernel_rfl),zmC⟩
theorem zmA:zl Tryz.prog L27:=⟨fun _ hC H=>z4L hC (zk H 0 rfl),zS (by kernel_rfl),zmB⟩
theorem zmz:zl Tryz.prog L28:=⟨fun _ hC H=>z1s hC (zk H 0 rfl),zS (by kernel_rfl),zmA⟩
theorem zmy:zl Tryz.prog L29:=⟨fun _ hC H=>Zy hC (zk H 0 rfl),zS (by kernel_rfl),zmz⟩
theorem zmx:zl Tryz.prog L30:=⟨fun _ hC H=>jR hC (zk H 0 rfl),zS (by kernel_rfl),zmy⟩
theorem zmw:zl Tryz.prog L31:=⟨fun _ hC H=>z3Y hC (zk H 0 rfl),zS (by kernel_rfl),zmx⟩
theorem zmv:zl Tryz.prog L32:=⟨fun _ hC H=>z2F hC,zS (by kernel_rfl),zmw⟩
theorem zmu:zl Tryz.prog L33:=⟨fun _ hC H=>z3X hC,zS (by kernel_rfl),zmv⟩
theorem zmt:zl Tryz.prog L34:=⟨fun _ hC H=>UY hC,zS (by kernel_rfl),zmu⟩
theorem zms:zl Tryz.prog L35:=⟨fun _ hC H=>z02 hC (zk H 1 rfl) (zk H 8 rfl) (zk H 0 rfl),zS (by kernel_rfl),zmt⟩
theorem zmr:zl Tryz.prog L36:=⟨fun _ hC H=>z0x hC (zk H 4 rfl) (zk H 0 rfl),zS (by kernel_rfl),zms⟩
theorem zmq:zl Tryz.prog L37:=⟨fun _ hC H=>z0w hC (zk H 0 rfl),zS (by kernel_rfl),zmr⟩
theorem zmp:zl Tryz.prog L38:=⟨fun _ hC H=>Qn hC,zS (by kernel_rfl),zmq⟩
theorem zmo:zl Tryz.prog L39:=⟨fun _ hC H=>Vf hC (zk H 0 rfl),zS (by kernel_rfl),zmp⟩
theorem zmn:zl Tryz.prog L40:=⟨fun _ hC H=>z03 hC (zk H 8 rfl) (zk H 0 rfl),zS (by kernel_rfl),zmo⟩
theorem zmm:zl Tryz.prog L41:=⟨fun _ hC H=>z0v hC (zk H 0 rfl),zS (by kernel_rfl),zmn⟩
theorem zml:zl Tryz.prog L42:=⟨fun _ hC H=>z3U hC,zS (by kernel_rfl),zmm⟩
theorem zmk:zl Tryz.prog L43:=⟨fun _ hC H=>z6e hC,zS (by kernel_rfl),zml⟩
theorem zmj:zl Tryz.prog L44:=⟨fun _ hC H=>z2B hC (zk H 0 rfl),zS (by kernel_rfl),zmk⟩
theorem zmi:zl Tryz.prog L45:=⟨fun _ hC H=>Jw hC,zS (by kernel_rfl),zmj⟩
theorem zmh:zl Tryz.prog L46:=⟨fun _ hC H=>z2C hC (zk H 14 rfl) (zk H 3 rfl) (zk H 1 rfl) (zk H 0 rfl),zS (by kernel_rfl),zmi⟩
theorem zmg:zl Tryz.prog L47:=⟨fun _ hC H=>z01 hC,zS (by kernel_rfl),zmh⟩
theorem zmf:zl Tryz.prog L48:=⟨fun _ hC H=>z0u hC (zk H 1 rfl) (zk H 0 rfl),zS (by kernel_rfl),zmg⟩
theorem zme:zl Tryz.prog L49:=⟨fun _ hC H=>z1q hC (zk H 17 rfl) (zk H 16 rfl) (zk H 11 rfl) (zk H 7 rfl) (zk H 0 rfl),zS (by kernel_rfl),zmf⟩
theorem zmd:zl Tryz.prog L50:=⟨fun _ hC H=>z4E hC,zS (by kernel_rfl),zme⟩
theorem zmc:zl Tryz.prog L51:=⟨fun _ hC H=>Up hC (zk H 0 rfl),zS (by kernel_rfl),zmd⟩
theorem zmb:zl Tryz.prog L52:=⟨fun _ hC H=>Wl hC (zk H 0 rfl),zS (by kernel_rfl),zmc⟩
theorem zma:zl Tryz.prog L53:=⟨fun _ hC H=>z7d hC (zk H 0 rfl),zS (by kernel_rfl),zmb⟩
theorem zm9:zl Tryz.prog L54:=⟨fun _ hC H=>z7f hC (zk H 0 rfl),zS (by kernel_rfl),zma⟩
theorem zm8:zl Tryz.prog L55:=⟨fun _ hC H=>z4O hC,zS (by kernel_rfl),zm9⟩
theorem zm7:zl Tryz.prog L56:=⟨fun _ hC H=>z2H hC (zk H 0 rfl),zS (by kernel_rfl),zm8⟩
theorem zm6:zl Tryz.prog L57:=⟨fun _ hC H=>Qo hC (zk H 0 rfl),zS (by kernel_rfl),zm7⟩
theorem zm5:zl Tryz.prog L58:=⟨fun _ hC H=>z8u hC,zS (by kernel_rfl),zm6⟩
theorem zm4:zl Tryz.prog L59:=⟨fun _ hC H=>z4D hC (zk H 2 rfl) (zk H 1 rfl) (zk H 0 rfl),zS (by kernel_rfl),zm5⟩
theorem zm3:zl Tryz.prog L60:=⟨fun _ hC H=>z7g hC (zk H 0 rfl),zS (by kernel_rfl),zm4⟩
theorem zm2:zl Tryz.prog L61:=⟨fun _ hC H=>z7e hC,zS (by kernel_rfl),zm3⟩
theorem zm1:zl Tryz.prog L62:=⟨fun _ hC H=>z7h hC (zk H 7 rfl) (zk H 1 rfl) (zk H 0 rfl),zS (by kernel_rfl),zm2⟩
theorem zm0:zl Tryz.prog L63:=⟨fun _ hC H=>z6o hC (zk H 13 rfl) (zk H 0 rfl),zS (by kernel_rfl),zm1⟩
theorem zlZ:zl Tryz.prog L64:=⟨fun _ hC H=>z3W hC (zk H 32 rfl),zS (by kernel_rfl),zm0⟩
theorem zlY:zl Tryz.prog L65:=⟨fun _ hC H=>z6j hC (zk H 38 rfl),zS (by kernel_rfl),zlZ⟩
theorem zlX:zl Tryz.prog L66:=⟨fun _ hC H=>z6k hC (zk H 1 rfl) (zk H 12 rfl) (zk H 0 rfl),zS (by kernel_rfl),zlY⟩
theorem zlW:zl Tryz.prog L67:=⟨fun _ hC H=>z1v hC (zk H 0 rfl),zS (by kernel_rfl),zlX⟩
theorem zlV:zl Tryz.prog L68:=⟨fun _ hC H=>z1y hC (zk H 4 rfl) (zk H 0 rfl),zS (by kernel_rfl),zlW⟩
theorem zlU:zl Tryz.prog L69:=⟨fun _ hC H=>z6p hC,zS (by kernel_rfl),zlV⟩
theorem zlT:zl Tryz.prog L70:=⟨fun _ hC H=>z04 hC (zk H 24 rfl),zS (by kernel_rfl),zlU⟩
theorem zlS:zl Tryz.prog L71:=⟨fun _ hC H=>Y0 hC (zk H 0 rfl),zS (by kernel_rfl),zlT⟩
theorem zlR:zl Tryz.prog L72:=⟨fun _ hC H=>z1x hC (zk H 0 rfl),zS (by kernel_rfl),zlS⟩
theorem zlQ:zl Tryz.prog L73:=⟨fun _ hC H=>z6r hC (zk H 9 rfl) (zk H 5 rfl) (zk H 3 rfl) (zk H 0 rfl),zS (by kernel_rfl),zlR⟩
theorem zlP:zl Tryz.prog L74:=⟨fun _ hC H=>z9E hC (zk H 66 rfl),zS (by kernel_rfl),zlQ⟩
theorem zlO:zl Tryz.prog L75:=⟨fun _ hC H=>z2D hC (zk H 0 rfl),zS (by kernel_rfl),zlP⟩
theorem zlN:zl Tryz.prog L76:=⟨fun _ hC H=>z8j hC (zk H 54 rfl),zS (by kernel_rfl),zlO⟩
theorem zlM:zl Tryz.prog L77:=⟨fun _ hC H=>z8n hC (zk H 0 rfl),zS (by kernel_rfl),zlN⟩
theorem zlL:zl Tryz.prog L78:=⟨fun _ hC H=>z7i hC (zk H 2 rfl) (zk H 1 rfl),zS (by kernel_rfl),zlM⟩
theorem zlK:zl Tryz.prog L79:=⟨fun _ hC H=>z0y hC,zS (by kernel_rfl),zlL⟩
theorem zlJ:zl Tryz.prog L80:=⟨fun _ hC H=>z2G hC (zk H 16 rfl) (zk H 0 rfl) (zk H 12 rfl) (zk H 7 rfl),zS (by kernel_rfl),zlK⟩
theorem zlI:zl Tryz.prog L81:=⟨fun _ hC H=>z3V hC (zk H 5 rfl) (zk H 4 rfl),zS (by kernel_rfl),zlJ⟩
theorem zlH:zl Tryz.prog L82:=⟨fun _ hC H=>z8p hC (zk H 5 rfl),zS (by kernel_rfl),zlI⟩
theorem zlG:zl Tryz.prog L83:=⟨fun _ hC H=>z4M hC,zS (by kernel_rfl),zlH⟩
theorem zlF:zl Tryz.prog L84:=⟨fun _ hC H=>z8o hC,zS (by kernel_rfl),zlG⟩
theorem zlE:zl Tryz.prog L85:=⟨fun _ hC H=>z6s hC,zS (by kernel_rfl),zlF⟩
theorem zlD:zl Tryz.prog L86:=⟨fun _ hC H=>z3S hC,zS (by kernel_rfl),zlE⟩
theorem zlC:zl Tryz.prog L87:=⟨fun _ hC H=>z6c hC (zk H 55 rfl) (zk H 0 rfl),zS (by kernel_rfl),zlD⟩
theorem zlB:zl Tryz.prog L88:=⟨fun _ hC H=>z6d hC,zS (by kernel_rfl),zlC⟩
theorem zlA:zl Tryz.prog L89:=⟨fun _ hC H=>QH hC,zS (by kernel_rfl),zlB⟩
theorem zlz:zl Tryz.prog L90:=⟨fun _ hC H=>JV hC,zS (by kernel_rfl),zlA⟩
theorem zly:zl Tryz.prog L91:=⟨fun _ hC H=>z1n hC (zk H 2 rfl) (zk H 1 rfl) (zk H 0 rfl),zS (by kernel_rfl),zlz⟩
theorem zlx:zl Tryz.prog L92:=⟨fun _ hC H=>Jx hC,zS (by kernel_rfl),zly⟩
theorem zlw:zl Tryz.prog L93:=⟨fun _ hC H=>z2A hC (zk H 5 rfl) (zk H 1 rfl) (zk H 0 rfl) (zk H 2 rfl),zS (by kernel_rfl),zlx⟩
theorem zlv:zl Tryz.prog L94:=⟨fun _ hC H=>QI hC,zS (by kernel_rfl),zlw⟩
theorem zlu:zl Tryz.prog L95:=⟨fun _ hC H=>z3R hC (zk H 35 rfl),zS (by kernel_rfl),zlv⟩
theorem zlt:zl Tryz.prog L96:=⟨fun _ hC H=>Wm hC (zk H 0 rfl),zS (by kernel_rfl),zlu⟩
theorem zls:zl Tryz.prog L97:=⟨fun _ hC H=>z6b hC (zk H 2 rfl) (zk H 37 rfl) (zk H 0 rfl) (zk H 35 rfl) (zk H 4 rfl) (zk H 6 rfl),zS (by kernel_rfl),zlt⟩
theorem zlr:zl Tryz.prog L98:=⟨fun _ hC H=>z8h hC (zk H 43 rfl) (zk H 0 rfl),zS (by kernel_rfl),zls⟩
theorem zlq:zl Tryz.prog L99:=⟨fun _ hC H=>z6n hC (zk H 29 rfl) (zk H 13 rfl) (zk H 5 rfl) (zk H 0 rfl),zS (by kernel_rfl),zlr⟩
theorem ziZ:zl Tryz.prog zpM:=⟨fun _ hC H=>z8t hC (zk H 50 rfl) (zk H 0 rfl),zS (by kernel_rfl),zlq⟩
theorem ziY:zl Tryz.prog zpL:=⟨fun _ hC H=>z7p hC,zS (by kernel_rfl),ziZ⟩
theorem ziX:zl Tryz.prog zpK:=⟨fun _ hC H=>z9F hC (zk H 52 rfl) (zk H 32 rfl) (zk H 0 rfl) (zk H 8 rfl) (zk H 3 rfl),zS (by kernel_rfl),ziY⟩
theorem ziW:zl Tryz.prog zpJ:=⟨fun _ hC H=>z1w hC (zk H 33 rfl) (zk H 35 rfl) (zk H 30 rfl),zS (by kernel_rfl),ziX⟩
theorem ziV:zl Tryz.prog zpI:=⟨fun _ hC H=>QJ hC,zS (by kernel_rfl),ziW⟩
theorem ziU:zl Tryz.prog zpH:=⟨fun _ hC H=>JW hC (zk H 0 rfl),zS (by kernel_rfl),ziV⟩
theorem ziT:zl Tryz.prog zpG:=⟨fun _ hC H=>Vg hC,zS (by kernel_rfl),ziU⟩
theorem ziS:zl Tryz.prog zpF:=⟨fun _ hC H=>UZ hC (zk H 0 rfl),zS (by kernel_rfl),ziT⟩
theorem ziR:zl Tryz.prog zpE:=⟨fun _ hC H=>z6q hC (zk H 0 rfl),zS (by kernel_rfl),ziS⟩
theorem ziQ:zl Tryz.prog zpD:=⟨fun _ hC H=>z4N hC (zk H 8 rfl) (zk H 5 rfl) (zk H 3 rfl) (zk H 0 rfl),zS (by kernel_rfl),ziR⟩
theorem ziP:zl Tryz.prog zpC:=⟨fun _ hC H=>z7n hC (zk H 26 rfl) (zk H 25 rfl) (zk H 9 rfl) (zk H 7 rfl) (zk H 0 rfl) (zk H 32 rfl) (zk H 36 rfl) (zk H 41 rfl) (zk H 29 rfl) (zk H 27 rfl),zS (by kernel_rfl),ziQ⟩
theorem ziO:zl Tryz.prog zqG:=⟨fun _ hC H=>Jz hC (zk H 92 rfl) (zk H 86 rfl) (zk H 85 rfl) (zk H 42 rfl) (zk H 37 rfl) (zk H 35 rfl) (zk H 33 rfl) (zk H 32 rfl) (zk H 30 rfl) (zk H 29 rfl) (zk H 28 rfl) (zk H 0 rfl),zS (by kernel_rfl),ziP⟩
theorem zT {x:Int}(h1:-9223372036854775808<=x)(h2:x<=9223372036854775807):w64 x=x:=by
 simp only [w64,IntKind.wrap,IntKind.bits,IntKind.signed]
 simp
 omega
section
variable {α β σ τ ρ:Type}
def Ret (x:Option α)(Q:α->Prop):Prop:=∃a,x=some a/\Q a
theorem Ret.mono {x:Option α}{Q R:α->Prop}(h:Ret x Q)(q:∀a,Q a->R a):Ret x R:=by
 obtain⟨a,e,h⟩:=h
 exact⟨a,e,q a h⟩
theorem Ret.eq {x:Option α}{a:α}(h:Ret x fun b=>b=a):x=some a:=by
 obtain⟨b,e,rfl⟩:=h
 exact e
theorem zg {a:α}{Q:α->Prop}:Ret (some a) Q↔Q a:=⟨fun⟨b,e,q⟩=>by cases e;exact q,fun q=>⟨a,rfl,q⟩⟩
theorem zy {x:Option α}{f:α->Option β}{Q:β->Prop}:Ret (Option.bind x f) Q↔Ret x fun a=>Ret (f a) Q:=by
 cases x with
 | none=>exact⟨fun⟨b,e,_⟩=>(by cases e),fun⟨b,e,_⟩=>(by cases e)⟩
 | some a=>exact⟨fun h=>⟨a,rfl,h⟩,fun⟨b,e,h⟩=>by cases e;exact h⟩
theorem UJ {p:Prop}[Decidable p]{x:Option α}{Q:α->Prop}:Ret (gd p x) Q↔p/\Ret x Q:=by
 unfold gd
 by_cases h:p
 ·rw [if_pos h];exact⟨fun q=>⟨h,q⟩,fun q=>q.2⟩
 ·rw [if_neg h];exact⟨fun⟨b,e,_⟩=>by(cases e),fun q=>(h q.1).elim⟩
theorem zF {c:Bool}{x y:Option α}{Q:α->Prop}:Ret (bif c then x else y) Q↔(c=true->Ret x Q)/\(c=false->Ret y Q):=by
 cases c <;> simp
theorem z9W {l:List α}{i:Int}{Q:α->Prop}:Ret (idx l i) Q↔0<=i/\∃x,l[i.toNat]?=some x/\Q x:=by
 cases i with
 | ofNat n=>
  show(∃a,l[n]?=some a/\Q a)↔_
  simp
 | negSucc n=>exact⟨fun⟨b,e,_⟩=>by(cases e),fun⟨h,_⟩=>by omega⟩
theorem y5 (l:List α)(i:Nat):idx l (i:Int)=l[i]?:=rfl
theorem gdT {p:Prop}[Decidable p]{x:Option α}(h:p):gd p x=x:=by unfold gd;rw [if_pos h]
theorem bdT {x:Option α}{u:α}{f:α->Option ρ}(h:x=some u):Option.bind x f=f u:=by rw [h];rfl
theorem Qs (step:σ->Option (LR σ τ))(n:Nat)(s:σ):z0J step (n+1) s=(match step s with|none=>none|some (.next s')=>z0J step n s'|some (.done t)=>some t):=rfl
def LRP (N:σ->Prop)(D:τ->Prop):LR σ τ->Prop
 | .next s=>N s
 | .done t=>D t
theorem zW {step:σ->Option (LR σ τ)}(I:σ->Prop)(m:σ->Nat){R:τ->Prop}{s:σ}(hs:I s)(hm:m s<18446744073709551616)
  (h:∀s,I s->Ret (step s) (LRP (fun s'=>I s'/\m s' < m s) R)):Ret (loop step s) R:=by
 have gen:∀(n:Nat) (s:σ),I s->m s<n->Ret (z0J step n s) R:=by
  intro n
  induction n with
  | zero=>intro s _ h;omega
  | succ n ih=>
   intro s hs hm
   obtain⟨a,e,q⟩:=h s hs
   rw [Qs,e]
   cases a with
   | next s'=>exact ih s' q.1 (by have:=q.2;omega)
   | done t=>exact⟨t,rfl,q⟩
 exact gen fuel s hs hm
theorem XR {step:σ->Option (LR σ τ)}(st:Nat->σ)(n:Nat){t:τ}(hn:n<9223372036854775808)(h:∀i,i<n->step (st i)=some (.next (st (i+1))))(hd:step (st n)=some (.done t)):loop step (st 0)=some t:=by
 have gen:∀(k:Nat) (i:Nat),i<=n->n - i<k->z0J step k (st i)=some t:=by
  intro k
  induction k with
  | zero=>intro i _ h;omega
  | succ k ih=>
   intro i hi hk
   rw [Qs]
   rcases Nat.lt_or_ge i n with q|q
   ·rw [h i q]
    exact ih (i+1) q (by omega)
   ·have:i=n:=by omega
    subst this
    rw [hd]
 exact gen fuel 0 (Nat.zero_le _) (by show n - 0<18446744073709551616;omega)
def xc (f:Nat->α->Option ρ):List α->Nat->Option ρ
 | [],_=>none
 | x::l,i=>match f i x with|some r=>some r|none=>xc f l (i+1)
theorem XA {f:Nat->α->Option ρ}:∀{l:List α} {k:Nat},(∀i x,l[i]?=some x->f (k+i) x=none)->xc f l k=none
 | [],_,_=>rfl
 | x::l,k,h=>by
  have h0:=h 0 x rfl
  simp only [Nat.add_zero]at h0
  simp only [xc,h0]
  exact XA fun i y hy=>by have:=h (i+1) y (by simpa using hy);rwa [show k+1+i=k+(i+1) by omega]
theorem qj {f:Nat->α->Option ρ}{r:ρ}:∀{l:List α} {k:Nat},xc f l k=some r->∃i x,l[i]?=some x/\f (k+i) x=some r
 | [],_,h=>by cases h
 | x::l,k,h=>by
  simp only [xc]at h
  cases hf:f k x with
  | some r'=>rw [hf]at h;exact⟨0,x,rfl,by rw [Nat.add_zero,hf];exact h⟩
  | none=>
   rw [hf]at h
   obtain⟨i,y,h1,h2⟩:=qj h
   exact⟨i+1,y,by simpa using h1,by rw [<-h2];congr 1;omega⟩
theorem qm {f:Nat->α->Option ρ}{l:List α}{k:Nat}(h:xc f l k=none):∀i x,l[i]?=some x->f (k+i) x=none:=by
 induction l generalizing k with
 | nil=>intro i x h;simp at h
 | cons y l ih=>
  intro i x hx
  simp only [xc]at h
  cases hf:f k y with
  | some r'=>rw [hf]at h;cases h
  | none=>
   rw [hf]at h
   cases i with
   | zero=>simp at hx;subst hx;simpa using hf
   | succ i=>have:=ih h i x (by simpa using hx);rwa [show k+(i+1)=k+1+i by omega]
def oS:Option ρ->Unit⊕ρ
 | some r=>.inr r
 | none=>.inl ()
def nS (i:Nat):Option ρ->LR Int (Unit⊕ρ)
 | some r=>.done (.inr r)
 | none=>.next (w64 ((i:Int)+1))
theorem uE (l:List α)(hl:l.length<4611686018427387904){step:Int->Option (LR Int (Unit⊕ρ))}(f:Nat->α->Option ρ)
  (h:∀(i:Nat) (x:α),l[i]?=some x->step (i:Int)=some (nS i (f i x))) (h2:step (l.length:Int)=some (.done (.inl ()))) :
  loop step 0=some (oS (xc f l 0)):=by
 have gen:∀(n:Nat) (k:Nat),k<=l.length->l.length - k<n->z0J step n (k:Int)=some (oS (xc f (l.drop k) k)):=by
  intro n
  induction n with
  | zero=>intro k _ h;omega
  | succ n ih=>
   intro k hk hn
   rw [Qs]
   rcases Nat.lt_or_ge k l.length with hlt|hge
   ·have hx:l[k]?=some l[k]:=List.getElem?_eq_getElem hlt
    rw [h k _ hx,List.drop_eq_getElem_cons hlt]
    simp only [xc]
    cases hf:f k l[k] with
    | some r=>rfl
    | none=>
     simp only [nS]
     rw [zT (by omega) (by omega)]
     exact ih (k+1) hlt (by omega)
   ·have:k=l.length:=by omega
    subst this
    rw [h2,List.drop_length]
    rfl
 exact gen fuel 0 (Nat.zero_le _) (by show l.length - 0<18446744073709551616;omega)
end
def zae (m:z6)(x:z8):Bool:=(x.To == -1&&x.Out == -1) ||(decide (0<=x.To)&&decide (x.To<(m.Rows.length:Int))&&decide (0<=x.Out)&&decide (x.Out<m.Outputs))
def zbB (m:z6)(r:List z8):Bool:=decide ((r.length:Int)=m.Inputs)&&r.all (zae m)
def chk (m:z6):Int :=
 if m.Inputs > 16\/m.Outputs > 16\/(m.Rows.length:Int) > 64 then 3 else if m.Inputs<1\/m.Outputs<1\/m.Rows.length=0 then 1 else if m.Rows.all (zbB m)=true then 0 else 1
theorem zik (m:z6)(x:z8):YT m x=some (zae m x):=by
 unfold YT vQ
 simp only [Option.bind_some,Bool.and_true]
 rcases Bool.eq_false_or_eq_true (x.To==(-1)&&x.Out==(-1)) with h|h
 ·simp [zae,h]
 ·rw [h]
  simp only [zae,h,Bool.false_or,cond_false]
  by_cases h1:(0:Int)<=x.To
  ·by_cases h2:x.To<(m.Rows.length:Int)
   ·by_cases h3:(0:Int)<=x.Out
    ·simp [Bool.cond_eq_ite,h1,h2,h3]
    ·simp [Bool.cond_eq_ite,h1,h2,h3]
   ·simp [Bool.cond_eq_ite,h1,h2]
  ·simp [h1]
theorem zal (m:z6)(r:List z8)(hl:r.length<4611686018427387904):zZ r m=some (!r.all (zae m)):=by
 have hloop:loop (fun s=>zP r m s) 0=some (oS (xc (fun i x=>if zae m x=true then none else some (i:Int)) r 0)):=by
  refine uE r hl _ ?_ ?_
  ·intro i x hx
   have hi:=(List.getElem?_eq_some_iff.1 hx).1
   unfold zP
   have hd:decide ((i:Int)<((r.length:Nat):Int))=true:=by simpa using hi
   rw [hd,cond_true,y5,bdT hx]
   unfold ZX
   simp only [zik,Option.bind_some]
   cases zae m x <;> rfl
  ·unfold zP
   simp
 unfold zZ yl
 rw [hloop]
 simp only [Option.bind_some]
 cases hf:xc (fun i x=>if zae m x=true then none else some (i:Int)) r 0 with
 | some q=>
  obtain⟨i,x,h1,h2⟩:=qj hf
  have hx:zae m x≠true:=by
   intro h;rw [if_pos h]at h2;cases h2
  rw [if_neg hx]at h2
  simp only [Option.some.injEq]at h2
  have:r.all (zae m)=false:=by
   rw [List.all_eq_false]
   exact⟨x,List.mem_of_getElem? h1,hx⟩
  rw [this]
  have:(q:Int)>=0:=by rw [<-h2];omega
  show some (decide (q>=0))=_
  simp [this]
 | none=>
  have:r.all (zae m)=true:=by
   rw [List.all_eq_true]
   intro x hx
   obtain⟨i,hi⟩:=List.getElem?_of_mem hx
   have:=qm hf i x hi
   by_cases h:zae m x=true
   ·exact h
   ·rw [if_neg h]at this;cases this
  rw [this]
  rfl
variable {m:z6}
theorem zbT (h0:(m.Rows.length:Int)<=64)(h1:m.Inputs<=16):loop (fun s=>wW m s) 0=some (oS (xc (fun _ r=>if zbB m r=true then none else some (1:Int)) m.Rows 0)):=by
 refine uE m.Rows (by omega) _ ?_ ?_
 ·intro i r hr
  have hi:=(List.getElem?_eq_some_iff.1 hr).1
  unfold wW
  have hd:decide ((i:Int)<((m.Rows.length:Nat):Int))=true:=by simpa using hi
  rw [hd,cond_true,y5,bdT hr]
  by_cases hlen:(r.length:Int)=m.Inputs
  ·have hne:(((r.length:Nat):Int) != m.Inputs)=false:=by simpa using hlen
   rw [hne,cond_false,bdT (zal m r (by omega))]
   have:zbB m r=r.all (zae m):=by simp [zbB,hlen]
   rw [this]
   cases r.all (zae m) <;> rfl
  ·have hne:(((r.length:Nat):Int) != m.Inputs)=true:=by simpa using hlen
   rw [hne,cond_true]
   have:zbB m r=false:=by simp [zbB,hlen]
   rw [this];rfl
 ·unfold wW
  simp
theorem zbA (m:z6):xc (fun _ r=>if zbB m r=true then none else some (1:Int)) m.Rows 0=if m.Rows.all (zbB m)=true then none else some 1:=by
 by_cases h:m.Rows.all (zbB m)=true
 ·rw [if_pos h]
  refine XA fun i r hr=>?_
  rw [if_pos (List.all_eq_true.1 h r (List.mem_of_getElem? hr))]
 ·rw [if_neg h]
  cases hf:xc (fun _ r=>if zbB m r=true then none else some (1:Int)) m.Rows 0 with
  | some q=>
   obtain⟨i,x,h1,h2⟩:=qj hf
   split at h2
   ·cases h2
   ·exact h2.symm ▸ rfl
  | none=>
   exfalso
   apply h
   rw [List.all_eq_true]
   intro x hx
   obtain⟨i,hi⟩:=List.getElem?_of_mem hx
   have:=qm hf i x hi
   by_cases h:zbB m x=true
   ·exact h
   ·rw [if_neg h]at this;cases this
theorem z1Q (m:z6):xD m=some (chk m):=by
 unfold xD chk
 by_cases h1:m.Inputs > 16
 ·simp [h1]
 by_cases h2:m.Outputs > 16
 ·simp [Bool.cond_eq_ite,h1,h2]
 by_cases h3:(m.Rows.length:Int) > 64
 ·simp [Bool.cond_eq_ite,h1,h2,h3]
 rw [if_neg (by simp [Bool.cond_eq_ite,h1,h2,h3])]
 by_cases h4:m.Inputs<1
 ·simp [Bool.cond_eq_ite,h1,h2,h3,h4]
 by_cases h5:m.Outputs<1
 ·simp [Bool.cond_eq_ite,h1,h2,h3,h4,h5]
 by_cases h6:m.Rows.length=0
 ·simp [Bool.cond_eq_ite,h1,h2,h4,h5,h6]
 rw [if_neg (by simp [h4,h5,h6])]
 have h6':decide (((m.Rows.length:Nat):Int)<1)=false:=by simp;omega
 have e1:decide (m.Inputs > 16)=false:=by simpa using h1
 have e2:decide (m.Outputs > 16)=false:=by simpa using h2
 have e3:decide (((m.Rows.length:Nat):Int) > 64)=false:=by simpa using h3
 have e4:decide (m.Inputs<1)=false:=by simpa using h4
 have e5:decide (m.Outputs<1)=false:=by simpa using h5
 simp only [e1,e2,e3,e4,e5,h6',cond_false]
 rw [bdT (zbT (by omega) (by omega)),zbA]
 by_cases h:m.Rows.all (zbB m)=true
 ·rw [if_pos h,if_pos h];rfl
 ·rw [if_neg h,if_neg h];rfl
structure VM (m:z6):Prop where
 in1:1<=m.Inputs
 in16:m.Inputs<=16
 out1:1<=m.Outputs
 out16:m.Outputs<=16
 len1:1<=m.Rows.length
 len64:m.Rows.length<=64
 row:∀r∈m.Rows,(r.length:Int)=m.Inputs
 edge:∀r∈m.Rows,∀x∈r,(x.To=-1/\x.Out=-1)\/(0<=x.To/\x.To<(m.Rows.length:Int)/\0<=x.Out/\x.Out<m.Outputs)
theorem z9q (h:VM m):chk m=0:=by
 unfold chk
 have:=h.in1;have:=h.in16;have:=h.out1;have:=h.out16;have:=h.len1;have:=h.len64
 rw [if_neg (by omega),if_neg (by omega),if_pos]
 rw [List.all_eq_true]
 intro r hr
 simp only [zbB,Bool.and_eq_true,decide_eq_true_eq,List.all_eq_true]
 refine⟨h.row r hr,fun x hx=>?_⟩
 simp only [zae,Bool.or_eq_true,Bool.and_eq_true,beq_iff_eq,decide_eq_true_eq]
 rcases h.edge r hr x hx with⟨a,b⟩|⟨a,b,c,d⟩
 ·exact .inl ⟨a,b⟩
 ·exact .inr ⟨⟨⟨a,b⟩,c⟩,d⟩
def kk (m:z6):Nat:=m.Inputs.toNat
def E (m:z6)(s i:Nat):z8:=((m.Rows[s]?.getD [])[i]?).getD ⟨-1,-1⟩
variable {s i:Nat}{β:Type}
section
variable {m:z6}(h:VM m)
include h
theorem VM.kk_eq:((kk m:Nat):Int)=m.Inputs:=by have:=h.in1;unfold kk;omega
theorem VM.kk_pos:1<=kk m:=by have:=h.in1;unfold kk;omega
theorem VM.kk_le:kk m<=16:=by have:=h.in16;unfold kk;omega
theorem VM.rowAt {s:Nat}(hs:s<m.Rows.length):∃r,m.Rows[s]?=some r/\r.length=kk m/\∀i,i<kk m->r[i]?=some (E m s i):=by
 have hr:=List.getElem?_eq_getElem hs
 have hl:=h.row _ (List.getElem_mem hs)
 have hl':m.Rows[s].length=kk m:=by unfold kk;omega
 refine⟨_,hr,hl',fun i hi=>?_⟩
 have hi':i<m.Rows[s].length:=by omega
 unfold E
 rw [hr]
 simp only [Option.getD_some]
 rw [List.getElem?_eq_getElem hi']
 rfl
theorem VM.edgeAt (hs:s<m.Rows.length)(hi:i<kk m):((E m s i).To=-1/\(E m s i).Out=-1)\/(0<=(E m s i).To/\(E m s i).To<(m.Rows.length:Int)/\0<=(E m s i).Out/\(E m s i).Out<m.Outputs):=by
 obtain⟨r,h1,_,h2⟩:=h.rowAt hs
 exact h.edge r (List.mem_of_getElem? h1) _ (List.mem_of_getElem? (h2 i hi))
theorem VM.edge_eq (hs:s<m.Rows.length)(hi:i<kk m)  {f:z8->Option β} :
  (Option.bind (idx m.Rows (s:Int)) fun r=>Option.bind (idx r (i:Int)) f)=f (E m s i):=by
 obtain⟨r,h1,_,h2⟩:=h.rowAt hs
 rw [y5,h1,Option.bind_some,y5,h2 i hi,Option.bind_some]
end
section
variable {K V:Type}[BEq K][LawfulBEq K]
theorem z4x (l:List (K×V))(x y:K)(v:V):z3F (zbG l x v) y=if(x==y)=true then some v else z3F l y:=by
 induction l with
 | nil=>simp only [zbG,z3F]
 | cons p l ih=>
  simp only [zbG]
  by_cases h:p.1=x
  ·rw [if_pos (by simpa using h)]
   simp only [z3F]
   by_cases q:x=y
   ·rw [if_pos (by simpa using q),if_pos (by simpa using q)]
   ·rw [if_neg (by simpa using q),if_neg (by simpa using q),if_neg (by rw [h];simpa using q)]
  ·rw [if_neg (by simpa using h)]
   simp only [z3F,ih]
   by_cases q:p.1=y
   ·have q':¬x=y:=by rintro rfl;exact h q
    have e1:(p.1==y)=true:=by simpa using q
    have e2:(x==y)=false:=by simpa using q'
    simp [e1,e2]
   ·have e1:(p.1==y)=false:=by simpa using q
    simp [e1]
end
section
variable {S:Type}
variable {k:Nat}{bad:S->Nat->Bool}{nx:S->Nat->Option S}{p0:S}
def Mk (k:Nat)(bad:S->Nat->Bool)(nx:S->Nat->Option S):Nat->S->Prop
 | 0,_=>False
 | n+1,p=>Mk k bad nx n p\/∃i,i<k/\(bad p i=true\/∃q,nx p i=some q/\Mk k bad nx n q)
theorem Mk.mono {n m:Nat}{p:S}(h:Mk k bad nx n p)(hm:n<=m):Mk k bad nx m p:=by
 induction hm with
 | refl=>exact h
 | step _ ih=>exact .inl ih
end
theorem VL:∀(n:Nat) (l:List Nat),l.Nodup->(∀x∈l,x<n)->l.length<=n
 | 0,l,_,h=>by
  cases l with
  | nil=>simp
  | cons x l=>have:=h x (by simp);omega
 | n+1,l,hd,h=>by
  by_cases hm:n∈l
  ·have h1:=List.length_erase_of_mem hm
   have h2:=VL n (l.erase n) (hd.erase n) fun x hx=>by
    have h3:=(hd.mem_erase_iff).1 hx
    have:=h x h3.2
    have:=h3.1
    omega
   have:0<l.length:=List.length_pos_of_mem hm
   omega
  ·have:=VL n l hd fun x hx=>by
    have:=h x hx
    have:x≠n:=fun e=>hm (e ▸ hx)
    omega
   omega
def z1V (a b:z6)(p:Nat×Nat)(i:Nat):Bool:=(E a p.1 i).Out !=(E b p.2 i).Out
def nxP (a b:z6)(p:Nat×Nat)(i:Nat):Option (Nat×Nat):=if 0<=(E a p.1 i).To/\0<=(E b p.2 i).To then some ((E a p.1 i).To.toNat,(E b p.2 i).To.toNat) else none
theorem za2 {a k:Int}(h0:0<=a)(hk:1<=k)(hk2:k<=1000000):1<=w64 (1+w64 (Int.tmod a k))/\w64 (1+w64 (Int.tmod a k))<=k:=by
 have h1:=Int.tmod_nonneg k h0
 have h2:=Int.tmod_lt_of_pos a (show 0<k by omega)
 rw [zT (x:=Int.tmod a k) (by omega) (by omega),zT (by omega) (by omega)]
 omega
variable {α:Type}
theorem z5B {p q:α->Bool}:∀{l:List α},(∀x∈l,p x=true->q x=true)->(∃x∈l,q x=true/\p x=false)->l.countP p<l.countP q
 | [],_,⟨x,hx,_⟩=>by cases hx
 | y::l,h,⟨x,hx,h1,h2⟩=>by
  have hm:l.countP p<=l.countP q:=List.countP_mono_left fun z hz=>h z (List.mem_cons_of_mem _ hz)
  simp only [List.countP_cons]
  rcases List.mem_cons.1 hx with rfl|hx
  ·simp only [h1,h2,if_true,Bool.false_eq_true,if_false]
   omega
  ·have:=z5B (fun z hz=>h z (List.mem_cons_of_mem _ hz)) ⟨x,hx,h1,h2⟩
   cases hp:p y with
   | true=>simp only [h y (by simp) hp,if_true];omega
   | false=>
    simp only [Bool.false_eq_true,if_false]
    split <;> omega
open Classical in
def zgx (N:Nat)(R:Nat->Nat->Prop):Nat:=(List.range N).countP fun s=>decide (∀t,t<s->¬R s t)
theorem zpY {N:Nat}(hN:0<N)(R:Nat->Nat->Nat->Prop)(symm:∀k s t,s<N->t<N->R k s t->R k t s)(trans:∀k s t u,s<N->t<N->u<N->R k s t->R k t u->R k s u)
  (refl:∀k s,s<N->R k s s) (mono:∀k s t,s<N->t<N->R (k+1) s t->R k s t) (stat:∀k,(∀s t,s<N->t<N->R k s t->R (k+1) s t)->∀s t,s<N->t<N->R (k+1) s t->R (k+2) s t) :
  ∀s t,s<N->t<N->R (N - 1) s t->∀j,R j s t:=by
 classical
 have step:∀k,(¬∀s t,s<N->t<N->R k s t->R (k+1) s t)->zgx N (R k)<zgx N (R (k+1)):=by
  intro k hk
  simp only [Classical.not_forall]at hk
  obtain⟨s,t,hs,ht,h1,h2⟩:=hk
  unfold zgx
  refine z5B (fun x hx=>?_) ?_
  ·have hx:=List.mem_range.1 hx
   simp only [decide_eq_true_eq]
   exact fun h t ht q=>h t ht (mono k x t hx (by omega) q)
  ·
   have hmin:∃z,z<N/\R k z s/\∀y,y<z->¬R k y s:=by
    have key:∀n,∀z,z<=n->z<N->R k z s->∃z,z<N/\R k z s/\∀y,y<z->¬R k y s:=by
     intro n
     induction n with
     | zero=>intro z hz hzN hr;exact⟨z,hzN,hr,fun y hy=>by omega⟩
     | succ n ih=>
      intro z hz hzN hr
      by_cases q:∃y,y<z/\R k y s
      ·obtain⟨y,y1,y2⟩:=q
       exact ih y (by omega) (by omega) y2
      ·exact⟨z,hzN,hr,fun y hy g=>q ⟨y,hy,g⟩⟩
    exact key s s (Nat.le_refl _) hs (refl k s hs)
   obtain⟨z,hz,hzs,hzm⟩:=hmin
   have hzt:R k z t:=trans k z s t hz hs ht hzs h1
   obtain⟨u,hu,hzu,hne⟩:∃u,u<N/\R k z u/\¬R (k+1) z u:=by
    by_cases q:R (k+1) z s
    ·by_cases g:R (k+1) z t
     ·exact(h2 (trans (k+1) s z t hs hz ht (symm _ _ _ hz hs q) g)).elim
     ·exact⟨t,ht,hzt,g⟩
    ·exact⟨s,hs,hzs,q⟩
   have hmin:∃y,y<N/\R (k+1) y u/\∀x,x<y->¬R (k+1) x u:=by
    have key:∀n,∀z,z<=n->z<N->R (k+1) z u->∃z,z<N/\R (k+1) z u/\∀y,y<z->¬R (k+1) y u:=by
     intro n
     induction n with
     | zero=>intro z hz hzN hr;exact⟨z,hzN,hr,fun y hy=>by omega⟩
     | succ n ih=>
      intro z hz hzN hr
      by_cases q:∃y,y<z/\R (k+1) y u
      ·obtain⟨y,y1,y2⟩:=q
       exact ih y (by omega) (by omega) y2
      ·exact⟨z,hzN,hr,fun y hy g=>q ⟨y,hy,g⟩⟩
    exact key u u (Nat.le_refl _) hu (refl _ u hu)
   obtain⟨y,hy,hyu,hym⟩:=hmin
   have hyk:R k y u:=mono k y u hy hu hyu
   have hyz:R k y z:=trans k y u z hy hu hz hyk (symm _ _ _ hz hu hzu)
   have hzy:z<y:=by
    rcases Nat.lt_trichotomy z y with g|g|g
    ·exact g
    ·subst g;exact(hne hyu).elim
    ·exact(hzm y g (trans k y z s hy hz hs hyz hzs)).elim
   refine⟨y,List.mem_range.2 hy,?_,?_⟩
   ·simp only [decide_eq_true_eq]
    intro x hx q
    exact hym x hx (trans (k+1) x y u (by omega) hy hu (symm _ _ _ hy (by omega) q) hyu)
   ·simp only [decide_eq_false_iff_not]
    intro q
    exact q z hzy hyz
 have le:∀k,zgx N (R k)<=N:=by
  intro k
  unfold zgx
  refine Nat.le_trans (List.countP_le_length) ?_
  simp
 have one:∀k,1<=zgx N (R k):=by
  intro k
  unfold zgx
  refine List.countP_pos_iff.2 ⟨0,List.mem_range.2 hN,?_⟩
  simp
 have rest:∃k,k<N/\∀s t,s<N->t<N->R k s t->R (k+1) s t:=by
  refine Classical.byContradiction fun hno=>?_
  have:∀k,k<=N->k+1<=zgx N (R k):=by
   intro k
   induction k with
   | zero=>intro _;exact one 0
   | succ k ih=>
    intro hk
    have:=step k fun h=>hno ⟨k,by omega,h⟩
    have:=ih (by omega)
    omega
  have:=this N (Nat.le_refl _)
  have:=le N
  omega
 obtain⟨k,hk,hst⟩:=rest
 have up:∀d,∀s t,s<N->t<N->R (k+d) s t->R (k+d+1) s t:=by
  intro d
  induction d with
  | zero=>exact hst
  | succ d ih=>exact stat (k+d) ih
 have down:∀d j s t,s<N->t<N->R (j+d) s t->R j s t:=by
  intro d
  induction d with
  | zero=>intro j s t _ _ h;exact h
  | succ d ih=>intro j s t hs ht h;exact ih j s t hs ht (mono _ s t hs ht h)
 intro s t hs ht h j
 have hk':R k s t:=down (N - 1 - k) k s t hs ht (by rw [show k+(N - 1 - k)=N - 1 by omega];exact h)
 have far:∀d,R (k+d) s t:=by
  intro d
  induction d with
  | zero=>exact hk'
  | succ d ih=>exact up d s t hs ht ih
 exact down k j s t hs ht (by rw [Nat.add_comm];exact far j)
section
variable {S S':Type}{k:Nat}{bad:S->Nat->Bool}{nx:S->Nat->Option S}{bad':S'->Nat->Bool}{nx':S'->Nat->Option S'}(φ:S->S')(I:S->Prop)
 (hI:∀p i q,I p->i<k->nx p i=some q->I q) (hb:∀p i,I p->i<k->bad' (φ p) i=bad p i) (hn:∀p i,I p->i<k->nx' (φ p) i=(nx p i).map φ)
include hI hb hn
end
structure WM (m:z6):Prop where
 in1:1<=m.Inputs
 in16:m.Inputs<=16
 len1:1<=m.Rows.length
 len:m.Rows.length<=128
 row:∀r∈m.Rows,(r.length:Int)=m.Inputs
 edge:∀r∈m.Rows,∀x∈r,(x.To=-1/\x.Out=-1)\/(0<=x.To/\x.To<(m.Rows.length:Int)/\0<=x.Out)
theorem VM.wm (h:VM m):WM m:=⟨h.in1,h.in16,h.len1,by have:=h.len64;omega,h.row,fun r hr x hx=>by
 rcases h.edge r hr x hx with g|⟨g1,g2,g3,_⟩
 ·exact .inl g
 ·exact .inr ⟨g1,g2,g3⟩⟩
section
variable {m:z6}(h:WM m)
include h
theorem WM.kk_eq:((kk m:Nat):Int)=m.Inputs:=by have:=h.in1;unfold kk;omega
theorem WM.kk_le:kk m<=16:=by have:=h.in16;unfold kk;omega
theorem WM.rowAt {s:Nat}(hs:s<m.Rows.length):∃r,m.Rows[s]?=some r/\r.length=kk m/\∀i,i<kk m->r[i]?=some (E m s i):=by
 have hr:=List.getElem?_eq_getElem hs
 have hl:=h.row _ (List.getElem_mem hs)
 have hl':m.Rows[s].length=kk m:=by unfold kk;omega
 refine⟨_,hr,hl',fun i hi=>?_⟩
 have hi':i<m.Rows[s].length:=by omega
 unfold E
 rw [hr]
 simp only [Option.getD_some]
 rw [List.getElem?_eq_getElem hi']
 rfl
theorem WM.edgeAt (hs:s<m.Rows.length)(hi:i<kk m):((E m s i).To=-1/\(E m s i).Out=-1)\/(0<=(E m s i).To/\(E m s i).To<(m.Rows.length:Int)/\0<=(E m s i).Out):=by
 obtain⟨r,h1,_,h2⟩:=h.rowAt hs
 exact h.edge r (List.mem_of_getElem? h1) _ (List.mem_of_getElem? (h2 i hi))
theorem WM.edge_eq (hs:s<m.Rows.length)(hi:i<kk m)  {f:z8->Option β} :
  (Option.bind (idx m.Rows (s:Int)) fun r=>Option.bind (idx r (i:Int)) f)=f (E m s i):=by
 obtain⟨r,h1,_,h2⟩:=h.rowAt hs
 rw [y5,h1,Option.bind_some,y5,h2 i hi,Option.bind_some]
theorem WM.nx_in {p:Nat×Nat}{i:Nat}{q:Nat×Nat}(h1:p.1<m.Rows.length)(h2:p.2<m.Rows.length)(hi:i<kk m)(hq:nxP m m p i=some q):q.1<m.Rows.length/\q.2<m.Rows.length:=by
 unfold nxP at hq
 split at hq
 ·rename_i hc
  cases hq
  have a:=h.edgeAt h1 hi
  have b:=h.edgeAt h2 hi
  simp only
  omega
 ·cases hq
end
def mkb (k:Nat)(bad:Nat×Nat->Nat->Bool)(nx:Nat×Nat->Nat->Option (Nat×Nat)):Nat->Nat×Nat->Bool
 | 0,_=>false
 | n+1,p=>mkb k bad nx n p ||(List.range k).any fun i=>bad p i ||(match nx p i with|some q=>mkb k bad nx n q|none=>false)
theorem z7M (k:Nat)(bad:Nat×Nat->Nat->Bool)(nx:Nat×Nat->Nat->Option (Nat×Nat)):∀(n:Nat) (p:Nat×Nat),mkb k bad nx n p=true↔Mk k bad nx n p
 | 0,p=>by simp [mkb,Mk]
 | n+1,p=>by
  simp only [mkb,Mk,Bool.or_eq_true,List.any_eq_true,List.mem_range,z7M k bad nx n p]
  constructor
  ·rintro(h|⟨i,hi,h|h⟩)
   ·exact .inl h
   ·exact .inr ⟨i,hi,.inl h⟩
   ·cases hq:nx p i with
    | none=>rw [hq]at h;cases h
    | some q=>rw [hq]at h;exact .inr ⟨i,hi,.inr ⟨q,hq,(z7M k bad nx n q).1 h⟩⟩
  ·rintro(h|⟨i,hi,h|⟨q,hq,h⟩⟩)
   ·exact .inl h
   ·exact .inr ⟨i,hi,.inl h⟩
   ·exact .inr ⟨i,hi,.inr (by rw [hq];exact(z7M k bad nx n q).2 h)⟩
def tab (N:Nat)(f:Nat->Nat->Bool):List (List Bool):=(List.range N).map fun s=>(List.range N).map fun t=>f s t
theorem zc9 {N s t:Nat}(f:Nat->Nat->Bool)(hs:s<N)(ht:t<N)  {g:Bool->Option β}:(Option.bind (idx (tab N f) (s:Int)) fun r=>Option.bind (idx r (t:Int)) g)=g (f s t):=by
 have e1:(tab N f)[s]?=some ((List.range N).map fun t=>f s t):=by simp [tab,hs]
 have e2:((List.range N).map fun t=>f s t)[t]?=some (f s t):=by simp [ht]
 rw [y5,e1,Option.bind_some,y5,e2,Option.bind_some]
theorem zcm (N t:Nat)(g:Nat->α)(v:α):((List.range N).map g).set t v=(List.range N).map fun x=>if x=t then v else g x:=by
 refine List.ext_getElem (by simp) fun n h1 h2=>?_
 simp only [List.getElem_set,List.getElem_map,List.getElem_range]
 by_cases e:t=n
 ·rw [if_pos e,if_pos e.symm]
 ·rw [if_neg e,if_neg (Ne.symm e)]
def z9J (m:z6)(f:Nat->Nat->Bool)(p:Nat×Nat)(i:Nat):Bool:=z1V m m p i ||(match nxP m m p i with|some q=>f q.1 q.2|none=>false)
theorem zge (h:WM m)(f:Nat->Nat->Bool){s t:Nat}(hs:s<m.Rows.length)(ht:t<m.Rows.length) :
  VG m (tab m.Rows.length f) (s:Int) (t:Int)=some (if(List.range (kk m)).any (z9J m f (s,t))=true then 1 else 0):=by
 have hk:=h.kk_eq
 have k16:=h.kk_le
 have hl:loop (fun q=>qL m (tab m.Rows.length f) (s:Int) (t:Int) q) 0=some (oS (xc (fun _ i=>if z9J m f (s,t) i=true then some (1:Int) else none) (List.range (kk m)) 0)):=by
  refine uE (List.range (kk m)) (by simp;omega) _ ?_ ?_
  ·intro i x hx
   have hi:i<kk m:=by have:=(List.getElem?_eq_some_iff.1 hx).1;simpa using this
   have:x=i:=by rw [List.getElem?_range hi]at hx;exact(Option.some.inj hx).symm
   subst this
   unfold qL qM
   have hd:decide ((x:Int)<m.Inputs)=true:=by rw [<-hk];simpa using hi
   rw [hd,cond_true,h.edge_eq hs hi,h.edge_eq ht hi]
   have e1:=h.edgeAt hs hi
   have e2:=h.edgeAt ht hi
   by_cases hbad:(E m s x).Out=(E m t x).Out
   ·have n1:((E m s x).Out !=(E m t x).Out)=false:=by simpa using hbad
    rw [n1,cond_false]
    by_cases t1:(E m s x).To>=0
    ·by_cases t2:(E m t x).To>=0
     ·have hnx:nxP m m (s,t) x=some ((E m s x).To.toNat,(E m t x).To.toNat):=by unfold nxP;rw [if_pos ⟨t1,t2⟩]
      have hin:=h.nx_in hs ht hi hnx
      have c1:(E m s x).To=(((E m s x).To.toNat:Nat):Int):=by omega
      have c2:(E m t x).To=(((E m t x).To.toNat:Nat):Int):=by omega
      have ht1:z9J m f (s,t) x=f (E m s x).To.toNat (E m t x).To.toNat:=by
       unfold z9J z1V
       rw [hnx]
       simp only [n1,Bool.false_or]
      rw [decide_eq_true t1,decide_eq_true t2]
      simp only [cond_true]
      have:=zc9 f hin.1 hin.2 (g:=fun v=>bif v then some (LR.done (Sum.inr (1:Int)):LR Int (Unit⊕Int)) else some (LR.next (w64 ((x:Int)+1))))
      rw [<-c1,<-c2]at this
      rw [this,ht1]
      cases f (E m s x).To.toNat (E m t x).To.toNat <;> rfl
     ·have ht1:z9J m f (s,t) x=false:=by
       unfold z9J z1V nxP
       rw [if_neg (by simp only;omega)]
       simp only [n1,Bool.false_or]
      rw [decide_eq_true t1,decide_eq_false t2,ht1]
      rfl
    ·have ht1:z9J m f (s,t) x=false:=by
      unfold z9J z1V nxP
      rw [if_neg (by simp only;omega)]
      simp only [n1,Bool.false_or]
     rw [decide_eq_false t1,ht1]
     rfl
   ·have n1:((E m s x).Out !=(E m t x).Out)=true:=by simpa using hbad
    have ht1:z9J m f (s,t) x=true:=by
     unfold z9J z1V
     simp only [n1,Bool.true_or]
    rw [n1,ht1]
    rfl
  ·unfold qL
   rw [List.length_range,hk]
   simp
 unfold VG
 rw [bdT hl]
 cases hf:xc (fun(_:Nat) i=>if z9J m f (s,t) i=true then some (1:Int) else none) (List.range (kk m)) 0 with
 | some q=>
  obtain⟨i,x,h1,h2⟩:=qj hf
  split at h2
  ·rename_i hx
   cases h2
   have:(List.range (kk m)).any (z9J m f (s,t))=true:=List.any_eq_true.2 ⟨x,List.mem_of_getElem? h1,hx⟩
   rw [if_pos this]
   rfl
  ·cases h2
 | none=>
  have:¬(List.range (kk m)).any (z9J m f (s,t))=true:=by
   rw [List.any_eq_true]
   rintro⟨x,hx,hx2⟩
   obtain⟨i,hi⟩:=List.getElem?_of_mem hx
   have:=qm hf i x hi
   rw [if_pos hx2]at this
   cases this
  rw [if_neg this]
  rfl
theorem zcH (N:Nat):List.replicate ((N:Nat):Int).toNat false=(List.range N).map fun _=>false:=by
 refine List.ext_getElem (by simp) fun n h1 h2=>?_
 simp
def Ut (m:z6)(f:Nat->Nat->Bool)(s t:Nat):Bool:=f s t ||(List.range (kk m)).any (z9J m f (s,t))
theorem zfa (h:WM m)(f:Nat->Nat->Bool):loop (fun q=>vg m (tab m.Rows.length f) q.1 q.2) (([]:List (List Bool)),0)=some (tab m.Rows.length (Ut m f)):=by
 have l128:=h.len
 have row:∀(s:Nat),s<m.Rows.length->loop (fun q=>ve m (tab m.Rows.length f) (s:Int) q.1 q.2) (((List.range s).map fun s=>(List.range m.Rows.length).map fun t=>Ut m f s t)++[(List.range m.Rows.length).map fun _=>false],0)=some ((List.range (s+1)).map fun s=>(List.range m.Rows.length).map fun t=>Ut m f s t):=by
  intro s hs
  have hst:=XR (step:=fun q=>ve m (tab m.Rows.length f) (s:Int) q.1 q.2) (fun t:Nat=>(((List.range s).map fun s=>(List.range m.Rows.length).map fun t=>Ut m f s t)++[(List.range m.Rows.length).map fun t'=>if t' < t then Ut m f s t' else false],(t:Int))) m.Rows.length (t:=(List.range (s+1)).map fun s=>(List.range m.Rows.length).map fun t=>Ut m f s t) (by omega) ?_ ?_
  ·simpa using hst
  ·intro t ht
   unfold ve
   have hd:decide ((t:Int)<((m.Rows.length:Nat):Int))=true:=by simpa using ht
   have hw:w64 ((t:Int)+1)=((t+1:Nat):Int):=by rw [zT (by omega) (by omega)];rfl
   simp only [hd,cond_true]
   have e1:(((List.range s).map fun s=>(List.range m.Rows.length).map fun t=>Ut m f s t)++[(List.range m.Rows.length).map fun t'=>if t' < t then Ut m f s t' else false])[s]?=some ((List.range m.Rows.length).map fun t'=>if t' < t then Ut m f s t' else false):=by
    rw [List.getElem?_append_right (by simp)]
    simp
   have e2:∀x,((List.range m.Rows.length).map fun t'=>if t' < t then Ut m f s t' else false)[t]?=some x↔x=false:=by
    intro x
    simp [ht,eq_comm]
   have e2':=(e2 false).2 rfl
   have fin:∀v:Bool,v=Ut m f s t->(((List.range s).map fun s=>(List.range m.Rows.length).map fun t=>Ut m f s t)++[(List.range m.Rows.length).map fun t'=>if t' < t then Ut m f s t' else false]).set s (((List.range m.Rows.length).map fun t'=>if t' < t then Ut m f s t' else false).set t v)=((List.range s).map fun s=>(List.range m.Rows.length).map fun t=>Ut m f s t)++[(List.range m.Rows.length).map fun t'=>if t' < t+1 then Ut m f s t' else false]:=by
    intro v hv
    rw [List.set_append,if_neg (by simp),zcm]
    simp only [List.length_map,List.length_range,Nat.sub_self,List.set_cons_zero]
    congr 3
    funext x
    by_cases e:x=t
    ·subst e;rw [if_pos rfl,if_pos (by omega)];exact hv
    ·rw [if_neg e]
     by_cases g:x<t
     ·rw [if_pos g,if_pos (by omega)]
     ·rw [if_neg g,if_neg (by omega)]
   rw [y5,bdT e1,zc9 f hs ht]
   cases hf:f s t with
   | true=>
    simp only [cond_true]
    rw [y5,bdT e2',hw,Int.toNat_natCast,Int.toNat_natCast,fin true (by simp [Ut,hf])]
   | false=>
    simp only [cond_false]
    rw [bdT (zge h f hs ht),y5,bdT e2',hw,Int.toNat_natCast,Int.toNat_natCast,fin _ ?_]
    unfold Ut
    rw [hf,Bool.false_or]
    cases (List.range (kk m)).any (z9J m f (s,t)) <;> rfl
  ·unfold ve
   simp only [Int.lt_irrefl,decide_false,cond_false]
   congr 3
   rw [List.range_succ,List.map_append]
   congr 1
   simp only [List.map_cons,List.map_nil]
   congr 1
   refine List.map_congr_left fun x hx=>?_
   rw [if_pos (List.mem_range.1 hx)]
 have:=XR (step:=fun q=>vg m (tab m.Rows.length f) q.1 q.2) (fun s:Nat=>((List.range s).map fun s=>(List.range m.Rows.length).map fun t=>Ut m f s t,(s:Int))) m.Rows.length (t:=tab m.Rows.length (Ut m f)) (by omega) ?_ ?_
 ·exact this
 ·intro s hs
  unfold vg YE
  have hd:decide ((s:Int)<((m.Rows.length:Nat):Int))=true:=by simpa using hs
  have hw:w64 ((s:Int)+1)=((s+1:Nat):Int):=by rw [zT (by omega) (by omega)];rfl
  simp only [hd,cond_true]
  rw [gdT (by omega),gdT (by simp;omega),zcH,bdT (row s hs),hw]
 ·unfold vg
  simp only [Int.lt_irrefl,decide_false,cond_false]
  rfl
def mrk (m:z6)(n s t:Nat):Bool:=mkb (kk m) (z1V m m) (nxP m m) n (s,t)
theorem zfj (m:z6)(n:Nat):Ut m (mrk m n)=mrk m (n+1):=by
 funext s t
 unfold Ut mrk
 simp only [mkb]
 congr 1
theorem zd7 (h:WM m)(n:Nat)(hn:n<=1000000):W3 m (n:Int)=some (tab m.Rows.length (mrk m n)):=by
 have l128:=h.len
 have l9:loop (fun q=>vd m q.1 q.2) (([]:List (List Bool)),0)=some (tab m.Rows.length (mrk m 0)):=by
  have:=XR (step:=fun q=>vd m q.1 q.2) (fun s:Nat=>((List.range s).map fun _=>(List.range m.Rows.length).map fun _=>false,(s:Int))) m.Rows.length (t:=tab m.Rows.length (mrk m 0)) (by omega) ?_ ?_
  ·exact this
  ·intro s hs
   unfold vd
   have hd:decide ((s:Int)<((m.Rows.length:Nat):Int))=true:=by simpa using hs
   have hw:w64 ((s:Int)+1)=((s+1:Nat):Int):=by rw [zT (by omega) (by omega)];rfl
   simp only [hd,cond_true]
   rw [gdT (by omega),gdT (by simp;omega),zcH,hw,List.range_succ,List.map_append]
   rfl
  ·unfold vd
   simp only [Int.lt_irrefl,decide_false,cond_false]
   rfl
 have l3:=XR (step:=fun q=>vh m (n:Int) q.1 q.2) (fun r:Nat=>(tab m.Rows.length (mrk m r),(r:Int))) n (t:=tab m.Rows.length (mrk m n)) (by omega) ?_ ?_
 ·unfold W3 YI YH
  rw [bdT l9]
  have l3':loop (fun q=>vh m (n:Int) q.1 q.2) (tab m.Rows.length (mrk m 0),0)=some (tab m.Rows.length (mrk m n)):=l3
  rw [bdT l3']
 ·intro r hr
  unfold vh YF YG
  have hd:decide ((r:Int)<(n:Int))=true:=by simpa using hr
  have hw:w64 ((r:Int)+1)=((r+1:Nat):Int):=by rw [zT (by omega) (by omega)];rfl
  simp only [hd,cond_true]
  rw [bdT (zfa h (mrk m r)),zfj,hw]
 ·unfold vh
  simp only [Int.lt_irrefl,decide_false,cond_false]
theorem zfl (h:WM m){s t:Nat}(hs:s<m.Rows.length)(ht:t<m.Rows.length){j:Nat}(hj:Mk (kk m) (z1V m m) (nxP m m) j (s,t)):Mk (kk m) (z1V m m) (nxP m m) (m.Rows.length - 1) (s,t):=by
 refine Classical.byContradiction fun hno=>?_
 have same:∀{p:Nat×Nat} {i:Nat},p.1<m.Rows.length->p.2<m.Rows.length->i<kk m->z1V m m p i=false->((E m p.1 i).To>=0↔(E m p.2 i).To>=0):=by
  intro p i h1 h2 hi hb
  have e:(E m p.1 i).Out=(E m p.2 i).Out:=by simpa [z1V] using hb
  have a:=h.edgeAt h1 hi
  have b:=h.edgeAt h2 hi
  omega
 have symm:∀k s t,Mk (kk m) (z1V m m) (nxP m m) k (s,t)->Mk (kk m) (z1V m m) (nxP m m) k (t,s):=by
  intro k
  induction k with
  | zero=>intro s t h;exact h
  | succ k ih=>
   rintro s t (h|⟨i,hi,h|⟨q,hq,h⟩⟩)
   ·exact .inl (ih _ _ h)
   ·exact .inr ⟨i,hi,.inl (by
     unfold z1V at h ⊢
     simp only [bne_iff_ne,ne_eq]at h ⊢
     exact fun e=>h e.symm)⟩
   ·refine .inr ⟨i,hi,.inr ⟨(q.2,q.1),?_,ih _ _ h⟩⟩
    unfold nxP at hq ⊢
    split at hq
    ·rename_i hc
     cases hq
     rw [if_pos ⟨hc.2,hc.1⟩]
    ·cases hq
 have trans:∀k s t u,s<m.Rows.length->t<m.Rows.length->u<m.Rows.length->Mk (kk m) (z1V m m) (nxP m m) k (s,u)->Mk (kk m) (z1V m m) (nxP m m) k (s,t)\/Mk (kk m) (z1V m m) (nxP m m) k (t,u):=by
  intro k
  induction k with
  | zero=>intro s t u _ _ _ h;exact h.elim
  | succ k ih=>
   rintro s t u hs ht hu (g|⟨i,hi,g|⟨q,hq,g⟩⟩)
   ·rcases ih s t u hs ht hu g with g|g
    ·exact .inl (.inl g)
    ·exact .inr (.inl g)
   ·cases b1:z1V m m (s,t) i with
    | true=>exact .inl (.inr ⟨i,hi,.inl b1⟩)
    | false=>
     refine .inr (.inr ⟨i,hi,.inl ?_⟩)
     unfold z1V at b1 g ⊢
     simp only [bne_iff_ne,ne_eq,bne_eq_false_iff_eq]at b1 g ⊢
     rw [<-b1]
     exact g
   ·cases b1:z1V m m (s,t) i with
    | true=>exact .inl (.inr ⟨i,hi,.inl b1⟩)
    | false=>
     cases b2:z1V m m (t,u) i with
     | true=>exact .inr (.inr ⟨i,hi,.inl b2⟩)
     | false=>
      have c1:=same (p:=(s,t)) hs ht hi b1
      have c2:=same (p:=(t,u)) ht hu hi b2
      simp only at c1 c2
      unfold nxP at hq
      split at hq
      ·rename_i hc
       cases hq
       simp only at hc g
       have e1:=h.edgeAt hs hi
       have e2:=h.edgeAt ht hi
       have e3:=h.edgeAt hu hi
       rcases ih (E m s i).To.toNat (E m t i).To.toNat (E m u i).To.toNat (by omega) (by omega) (by omega) g with g|g
       ·exact .inl (.inr ⟨i,hi,.inr ⟨_,by unfold nxP;rw [if_pos ⟨hc.1,by simp only;omega⟩],g⟩⟩)
       ·exact .inr (.inr ⟨i,hi,.inr ⟨_,by unfold nxP;rw [if_pos ⟨by simp only;omega,hc.2⟩],g⟩⟩)
      ·cases hq
 have refl:∀k s,¬Mk (kk m) (z1V m m) (nxP m m) k (s,s):=by
  intro k
  induction k with
  | zero=>intro s h;exact h
  | succ k ih=>
   rintro s (g|⟨i,hi,g|⟨q,hq,g⟩⟩)
   ·exact ih s g
   ·simp [z1V]at g
   ·unfold nxP at hq
    split at hq
    ·cases hq;exact ih _ g
    ·cases hq
 exact zpY (N:=m.Rows.length) h.len1 (fun k s t=>¬Mk (kk m) (z1V m m) (nxP m m) k (s,t)) (fun k s t _ _ g q=>g (symm k t s q)) (fun k s t u hs ht hu g1 g2 q=>by
   rcases trans k s t u hs ht hu q with g|g
   ·exact g1 g
   ·exact g2 g) (fun k s _=>refl k s) (fun k s t _ _ g q=>g (.inl q)) (fun k hk s t hs ht g q=>by
   rcases q with q|⟨i,hi,q|⟨r,hr,q⟩⟩
   ·exact g q
   ·exact g (.inr ⟨i,hi,.inl q⟩)
   ·have hin:=h.nx_in (p:=(s,t)) hs ht hi hr
    have:Mk (kk m) (z1V m m) (nxP m m) k r:=Classical.byContradiction fun c=>hk r.1 r.2 hin.1 hin.2 c q
    exact g (.inr ⟨i,hi,.inr ⟨r,hr,this⟩⟩)) s t hs ht hno j hj
def nxE (m:z6)(s:Int)(i:Nat):z8:=if s<0 then⟨-1,-1⟩ else E m s.toNat i
def rsp (m:z6):Int->List Nat->List Int
 | _,[]=>[]
 | s,i::w=>(nxE m s i).Out::rsp m (nxE m s i).To w
def aft (m:z6):Int->List Nat->Int
 | s,[]=>s
 | s,i::w=>aft m (nxE m s i).To w
theorem z1E (m:z6):∀(w:List Nat) (s:Int) (i:Nat),rsp m s (w++[i])=rsp m s w++[(nxE m (aft m s w) i).Out]/\aft m s (w++[i])=(nxE m (aft m s w) i).To
 | [],s,i=>⟨rfl,rfl⟩
 | j::w,s,i=>by
  have:=z1E m w (nxE m s j).To i
  simp only [List.cons_append,rsp,aft,this.1,this.2,and_self]
theorem z7C (m:z6):∀(w:List Nat) (s:Int),(rsp m s w).length=w.length
 | [],_=>rfl
 | i::w,s=>by simp [rsp,z7C m w]
def z8g (m:z6)(s:Int):Prop:=-1<=s/\s<(m.Rows.length:Int)
theorem znv (h:VM m){s:Int}(hs:z8g m s){i:Nat}(hi:i<kk m):z8g m (nxE m s i).To:=by
 unfold nxE
 have:=h.len1
 by_cases h0:s<0
 ·rw [if_pos h0]
  unfold z8g
  simp only
  omega
 ·rw [if_neg h0]
  have hl:s.toNat<m.Rows.length:=by have:=hs.2;omega
  have:=h.edgeAt hl hi
  unfold z8g
  omega
theorem zd3 (h:VM m){s:Int}(hs:z8g m s){i:Nat}(hi:i<kk m):Vb m s (i:Int)=some (nxE m s i)/\z8g m (nxE m s i).To:=by
 unfold Vb nxE
 have:=h.len1
 by_cases h0:s<0
 ·rw [decide_eq_true h0,cond_true,if_pos h0]
  exact⟨rfl,by unfold z8g;simp only;omega⟩
 ·rw [decide_eq_false h0,cond_false,if_neg h0]
  have hl:s.toNat<m.Rows.length:=by have:=hs.2;omega
  have he:=h.edge_eq hl hi (f:=fun e=>some e)
  have hc:((s.toNat:Nat):Int)=s:=by omega
  rw [hc]at he
  refine⟨he,?_⟩
  have:=h.edgeAt hl hi
  unfold z8g
  omega
theorem zka (h:VM m){s:Int}(hs:z8g m s)(w:List Nat)(hw:∀i∈w,i<kk m)(hl:w.length<=100000):Kd m s (w.map Int.ofNat)=some (rsp m s w):=by
 have hloop:loop (fun q=>W5 m (w.map Int.ofNat) q.1 q.2.1 q.2.2) (s,([]:List Int),0)=some (rsp m s w):=by
  refine Ret.eq (zW (fun q=>∃k:Nat,q.2.2=(k:Int)/\k<=w.length/\z8g m q.1/\q.2.1.length=k/\q.2.1++rsp m q.1 (w.drop k)=rsp m s w) (fun q=>200000 - q.2.2.toNat) ⟨0,rfl,Nat.zero_le _,hs,rfl,rfl⟩ (by simp) ?_)
  rintro⟨s',out,k'⟩ ⟨k,hk,hkl,hst,hol,ho⟩
  simp only at hk hst hol ho
  subst hk
  unfold W5
  rw [zF]
  refine⟨fun hlt=>?_,fun hge=>?_⟩
  ·have hlt:k<w.length:=by simpa using hlt
   have hx:(w.map Int.ofNat)[k]?=some ((w[k]:Nat):Int):=by simp [hlt]
   have hi:=hw _ (List.getElem_mem hlt)
   have hn:=zd3 h hst hi
   have hw1:w64 ((k:Int)+1)=((k+1:Nat):Int):=by rw [zT (by omega) (by omega)];rfl
   rw [y5,bdT hx,bdT hn.1,gdT (by simp;omega),zg,hw1]
   refine⟨⟨k+1,rfl,hlt,hn.2,by simp [hol],?_⟩,by simp only;omega⟩
   rw [<-ho,List.drop_eq_getElem_cons hlt]
   simp [rsp]
  ·have:k=w.length:=by simp at hge;omega
   subst this
   rw [zg]
   rw [List.drop_length]at ho
   show out=rsp m s w
   simpa [rsp] using ho
 unfold Kd US
 rw [bdT hloop]
section
variable {N:Nat}{f:Nat->Nat->Bool}
structure zlo (N:Nat)(f:Nat->Nat->Bool)(out:List Int)(n:Int)(s:Nat):Prop where
 len:out.length=s
 sN:s<=N
 n0:0<=n
 nS:n<=(s:Int)
 lt:∀(i:Nat) (x:Int),out[i]?=some x->0<=x/\x<n
 cls:∀(i j:Nat),i<s->j<s->(out[i]?=out[j]?↔f i j=false)
theorem zfi (hN:N<=1000)(hr:∀s,s<N->f s s=false)(hs:∀s t,s<N->t<N->f s t=false->f t s=false)(ht:∀s t u,s<N->t<N->u<N->f s t=false->f t u=false->f s u=false) :
  Ret (kH (tab N f)) fun out=>out.length=N/\∀i j,i<N->j<N->(out[i]?=out[j]?↔f i j=false):=by
 have hl:(tab N f).length=N:=by simp [tab]
 unfold kH
 rw [zy]
 refine Ret.mono (Q:=fun out=>out.length=N/\∀i j,i<N->j<N->(out[i]?=out[j]?↔f i j=false)) ?_ fun out h=>zg.2 h
 refine zW (fun q=>zlo N f q.1 q.2.1 q.2.2.toNat/\0<=q.2.2) (fun q=>N - q.2.2.toNat) ⟨⟨rfl,Nat.zero_le _,Int.le_refl 0,Int.le_refl 0,fun i x h=>by simp at h,fun i j h=>by simp at h⟩,Int.le_refl 0⟩ (by show N - 0<_;omega) ?_
 rintro⟨out,n,s⟩ ⟨hI,h0⟩
 obtain⟨s,rfl⟩:=Int.eq_ofNat_of_zero_le h0
 simp only [Int.toNat_natCast]at hI ⊢
 unfold jD
 rw [zF]
 refine⟨fun hc=>?_,fun hc=>?_⟩
 ·rw [hl]at hc
  have hsN:s<N:=by simpa using hc
  rw [zy]
  have inner:Ret (loop (fun s_1=>vN (tab N f) out (s:Int) s_1.1 s_1.2) (-1,0)) fun b=>(b=-1/\∀t,t<s->f s t=true)\/∃t,t<s/\f s t=false/\out[t]?=some b:=by
   refine zW (fun q=>0<=q.2/\q.2<=(s:Int)/\((q.1=-1/\∀t:Nat,(t:Int)<q.2->f s t=true)\/∃t,t<s/\f s t=false/\out[t]?=some q.1)) (fun q=>s - q.2.toNat) ⟨by omega,by omega,.inl ⟨rfl,fun t ht=>by simp at ht;omega⟩⟩ (by show s - 0<_;omega) ?_
   rintro⟨b,t⟩ ⟨g0,g1,g2⟩
   simp only at g0 g1 g2 ⊢
   obtain⟨t,rfl⟩:=Int.eq_ofNat_of_zero_le g0
   unfold vN vO
   rw [zF]
   refine⟨fun hc=>?_,fun hc=>?_⟩
   ·have hts:t<s:=by simpa using hc
    have hw:w64 ((t:Int)+1)=((t+1:Nat):Int):=by rw [zT (by omega) (by omega)];rfl
    rw [zc9 f hsN (by omega),hw,zF]
    refine⟨fun hf=>?_,fun hf=>?_⟩
    ·rw [zy,z9W]
     have:∃x,out[t]?=some x:=⟨out[t]'(by rw [hI.len];exact hts),List.getElem?_eq_getElem _⟩
     obtain⟨x,hx⟩:=this
     refine⟨by omega,x,by rw [Int.toNat_natCast];exact hx,zg.2 ⟨⟨by omega,by omega,.inr ⟨t,hts,by simpa using hf,hx⟩⟩,by simp only [Int.toNat_natCast];omega⟩⟩
    ·refine zg.2 ⟨⟨by omega,by omega,?_⟩,by simp only [Int.toNat_natCast];omega⟩
     rcases g2 with⟨e,g2⟩|g2
     ·refine .inl ⟨e,fun u hu=>?_⟩
      rcases Nat.lt_or_ge u t with q|q
      ·exact g2 u (by omega)
      ·have:u=t:=by omega
       subst this;simpa using hf
     ·exact .inr g2
   ·have hts:¬t<s:=by simpa using hc
    refine zg.2 ?_
    rcases g2 with⟨e,g2⟩|g2
    ·exact .inl ⟨e,fun u hu=>g2 u (by omega)⟩
    ·exact .inr g2
  refine inner.mono fun b hb=>?_
  have hw:w64 ((s:Int)+1)=((s+1:Nat):Int):=by rw [zT (by omega) (by omega)];rfl
  have hlen:=hI.len
  have hnS:=hI.nS
  have hn0:=hI.n0
  have fin:∀(n' c:Int),0<=n'->n'<=((s+1:Nat):Int)->n<=n'->0<=c->c<n'->(∀t,t<s->(out[t]?=some c↔f s t=false)) ->
    Ret (wx out (s:Int) n' c) (LRP (fun s'=>(zlo N f s'.1 s'.2.1 s'.2.2.toNat/\0<=s'.2.2)/\N - s'.2.2.toNat<N - s) fun out=>out.length=N/\∀i j,i<N->j<N->(out[i]?=out[j]?↔f i j=false)):=by
   intro n' c a1 a2 a3 a4 a5 a6
   unfold wx jF
   rw [UJ,hw]
   refine⟨by simp [hlen];omega,zg.2 ⟨⟨⟨by simp [hlen],by simp only [Int.toNat_natCast];omega,a1,by simp only [Int.toNat_natCast];exact a2,?_,?_⟩,Int.natCast_nonneg _⟩,by simp only [Int.toNat_natCast];omega⟩⟩
   ·intro i x hx
    rcases Nat.lt_or_ge i s with q|q
    ·rw [List.getElem?_append_left (by omega)]at hx
     have:=hI.lt i x hx
     exact⟨this.1,by have:=this.2;simp only;omega⟩
    ·rw [List.getElem?_append_right (by omega)]at hx
     cases hh:i - out.length with
     | zero=>rw [hh]at hx;simp at hx;subst hx;exact⟨a4,a5⟩
     | succ k=>rw [hh]at hx;simp at hx
   ·intro i j hi hj
    simp only [Int.toNat_natCast]at hi hj
    have at_:∀i,i<s->(out++[c])[i]?=out[i]?:=fun i h=>List.getElem?_append_left (by omega)
    have at_s:(out++[c])[s]?=some c:=by rw [<-hlen,List.getElem?_append_right (Nat.le_refl _)];simp
    rcases Nat.lt_or_ge i s with q|q <;> rcases Nat.lt_or_ge j s with q'|q'
    ·show(out++[c])[i]?=(out++[c])[j]?↔_
     rw [at_ i q,at_ j q'];exact hI.cls i j q q'
    ·have:j=s:=by omega
     subst this
     show(out++[c])[i]?=(out++[c])[j]?↔_
     rw [at_ i q,at_s,a6 i q]
     exact⟨fun h=>hs _ _ (by omega) (by omega) h,fun h=>hs _ _ (by omega) (by omega) h⟩
    ·have:i=s:=by omega
     subst this
     show(out++[c])[i]?=(out++[c])[j]?↔_
     rw [at_ j q',at_s,eq_comm,a6 j q']
    ·have e1:i=s:=by omega
     have e2:j=s:=by omega
     subst e1;subst e2
     exact⟨fun _=>hr _ hsN,fun _=>rfl⟩
  unfold jE
  rw [zF]
  rcases hb with⟨rfl,hb⟩|⟨t,ht1,ht2,ht3⟩
  ·refine⟨fun _=>?_,fun h=>by simp at h⟩
   rw [zT (by omega) (by omega)]
   refine fin (n+1) n (by omega) (by omega) (by omega) hn0 (by omega) fun t hts=>?_
   rw [hb t hts]
   refine⟨fun h=>?_,fun h=>by cases h⟩
   have:=hI.lt t n h
   omega
  ·have hb0:=hI.lt t b ht3
   refine⟨fun h=>by simp at h;omega,fun _=>fin n b hn0 (by omega) (by omega) hb0.1 hb0.2 fun u hu=>?_⟩
   rw [<-ht3,hI.cls u t hu ht1]
   exact⟨fun h=>ht _ _ _ (by omega) (by omega) (by omega) ht2 (hs _ _ (by omega) (by omega) h),fun h=>ht _ _ _ (by omega) (by omega) (by omega) (hs _ _ (by omega) (by omega) h) ht2⟩
 ·rw [hl]at hc
  have hsN:¬s<N:=by simpa using hc
  have:s=N:=by have:=hI.sN;omega
  subst this
  exact zg.2 ⟨hI.len,hI.cls⟩
end
end Go.Own
end
