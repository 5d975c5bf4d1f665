/- Walks, further. -/
import Derived.Test.YtcodjgfoodacaaaGreatDoorPartF
import Derived.Test.YtcodjgfoodacaaaGreatDoorPartC
import Derived.Test.YtcodjgfoodacaaaGreatDoorPartE
noncomputable section
set_option linter.unusedVariables false
set_option linter.unusedSimpArgs false
namespace Go.Own
open Go.Proofs
set_option maxRecDepth 100000
set_option maxHeartbeats 8000000
def zV:Code:=(Tryz.f120.body).getD .skip
def wt:zP:=spF (α:=List (List Int)×Unit) (ρ:=List (List Int)) 120 (fun x=>[ziE x.1,(z9I 121) x.2]) (fun r=>ziE r) (fun x=>yS x.1 x.2) [true,false] (by
 rintro⟨a0,a1⟩ ⟨b0,b1⟩ h;have e0:=Yc.inj (f:=ziE) _ _ (List.cons.inj h).1;replace h:=(List.cons.inj h).2;have e1:=Yc.inj (f:=(z9I 121)) _ _ (List.cons.inj h).1;subst e0 e1;rfl)
abbrev Xa (s_:List (List Int)):List (Nat×T):=[(0,.own (eOs 1 false F6_ s_))]
abbrev X9 (s_:List (List Int))(k_:Int):List (Nat×T):=[(0,.own (eOs 1 false F6_ s_)),(1,.d (.fn 121 [])),(5,.d (I k_))]
abbrev X8 (a7:List (List Int))(ba:Int):List (Nat×T):=[(0,.own (eOs 1 false F6_ a7)),(5,.d (I ba))]
abbrev X7 (bf:Value)(k_:Int)(k2:Int)(kr:List (List Int))(ku:Int):List (Nat×T):=[(0,.own (eOs 1 false F6_ kr)),(1,.d (.fn 121 [])),(5,.d (I ku)),(6,.d (.atom (UT 1 bf k_))),(7,.d (I k2))]
abbrev X5 (bf:Value)(k_:Int)(bi:List (List Int))(ew:Int)(k2:Int):List (Nat×T):=[(0,.own (eOs 1 false F6_ bi)),(1,.d (.fn 121 [])),(5,.d (I ew)),(6,.d (.atom (UT 1 bf k_))),(7,.d (I k2))]
abbrev X6 (s_:List (List Int))(k_:Int):List (Nat×T):=[(0,.own (eOs 1 false F6_ s_)),(1,.d (.fn 121 [])),(5,.d (I k_))]
def zm:XH Tryz.prog:=((zpr zt 64).or X0)
variable {ctr:Ctr}
theorem W3 (hC:zx Tryz.prog ctr)(h0G:ctr.Has Xi):wt.Ok Tryz.prog:=by
 refine zy ?_;rintro⟨s_,eq⟩ r0 aa;try unfold yS at aa;refine yO true [(4,none)] zV 66 Tryz.func120 fun E hE=>?_;refine zdt (y:=eOs 1 false F6_ s_) rfl 0 (by kernel_rfl) (by kernel_rfl) fun bf hv0=>?_
 let Z0:List HO:=[Ha (lnM F6_ s_)];rcases zG aa with⟨c0,aa⟩|⟨c0,aa⟩
 ·obtain rfl:=za aa
  exact yE zm hC hE (Z0++[Hq c0])
 ·refine yJ zm hC zV [1,1] [] [0] (fun z:Unit=>ww s_=some r0) (fun z=>Xa s_) [(0,.own (eOs 1 false F6_ s_)),(1,.d (.fn 121 []))] (Z0++[Hq c0,Hh (.cut 0)]) ?_ fun J1 ar=>?_
  ·rintro⟨⟩ aa
   unfold ww at aa;obtain rfl:=za aa;exact yE zm hC hE []
  ·obtain⟨t2,ht2,aa⟩:=zc aa
   refine yL zm hC zV [1,1,2,1,0] [J1] (fun s=>yn s_ s) (fun x=>X6 s_ x) 1 ht2  [] ?_;rintro k_ m2 av ae hl1 J2 ax;try unfold yn at ae
   let Z1:List HO:=[Ha (lnM F6_ s_)];rcases zG ae with⟨c1,ae⟩|⟨c1,ae⟩
   ·refine yJ zm hC zV [1,1,2,1,0,0,1] [J1,J2] [0,1,5] (fun z:Unit=>xp k_=some av) (fun z=>X9 s_ k_) [(0,.own (eOs 1 false F6_ s_)),(1,.d (.fn 121 [])),(5,.d (I k_))] (Z1++[Hq c1,Hh (.cut 0)]) ?_ fun J3 bh=>?_
    ·rintro⟨⟩ ae
     unfold xp at ae;obtain rfl:=za ae;exact yB zm hC ax (w64 (k_+1)) hl1 []
    ·obtain⟨da,h0,ae⟩:=zc ae
     obtain⟨js,h1,ae⟩:=zc ae;obtain⟨r_,h2,ae⟩:=zc ae
     let Z2:List HO:=[Hn (iL F6_ h0),Hs (iM F6_ h0),Hn (iL F6_ h1),Hs (iM F6_ h1),Hc h0G (x:=(da,js)) h2 (loC F6_ da <| loC F6_ js <| loN)];rcases zG ae with⟨c2,ae⟩|⟨c2,ae⟩
     ·obtain⟨g0,ae⟩:=gdE ae
      refine yJ ((xAs Tryz.prog 6 (UT 1 bf k_)).or ((xVw zt 31 0 bf).or zm)) hC zV [1,1,2,1,0,0,1,2,0,1,0,1] [J1,J2,J3] [0,5] (fun z:List (List Int)×Int=>yb z.1 z.2=some av) (fun z=>X8 z.1 z.2) [(0,.own (eOs 1 false F6_ s_)),(1,.d (.fn 121 [])),(5,.d (I k_)),(6,.d (.atom (UT 1 bf k_)))] (Z2++[Hq c2,Hn (⟨.inl rfl,rfl⟩:(T.als 0 [] 0 0=T.als 0 [] 0 0\/T.als 0 [] 0 0=T.d (.atom bf))/\some bf=some bf),Hn (⟨g0.1,cuB F6_ g0⟩:(0:Int)<=k_/\k_.toNat<=(s_.map F6_).length),Hn (rfl:T.d (.atom (UT 1 bf k_))=T.d (.atom (UT 1 bf k_))),Hh (.cut 1)]) ?_ fun J4 ck=>?_
      ·rintro⟨a7,ba⟩ ae
       unfold yb at ae;obtain⟨g1,ae⟩:=gdE ae;obtain⟨g2,ae⟩:=gdE ae;obtain⟨g3,ae⟩:=gdE ae;obtain rfl:=za ae;obtain rfl:=hl1;obtain rfl:=za aa;exact yE ((xVc zt 61 1 0 bf ba).or ((xVw zt 61 0 bf).or zm)) hC hE [Hn (⟨.inl rfl,rfl⟩:(T.als 0 [] 0 0=T.als 0 [] 0 0\/T.als 0 [] 0 0=T.d (.atom bf))/\some bf=some bf),Hn (⟨g1.1,cuB F6_ g1⟩:(0:Int)<=ba/\ba.toNat<=(a7.map F6_).length),Hn (⟨rfl,rfl⟩:T.d (.atom (UT 1 bf ba))=T.d (.atom (UT 1 bf ba))/\some bf=some bf),Hn (⟨g2.1,cuB F6_ g2,dM F6_ a7⟩:(0:Int)<=ba/\ba.toNat<=(a7.map F6_).length/\A.areD (a7.map F6_)=true),Hx (.l ((a7.take ba.toNat++List.replicate (a7.length - ba.toNat) []).map F6_)) (vcM F6_ a7 ba.toNat ([]:List Int)),Hn g3.1,Hn (cuB F6_ g3),Hl (cuM F6_ (a7.take ba.toNat++List.replicate (a7.length - ba.toNat) []) ba)]
      ·obtain⟨t5,ht5,ae⟩:=zc ae
       refine yL zm hC zV [1,1,2,1,0,0,1,2,0,1,0,1,2,1,0] [J1,J2,J3,J4] (fun s=>y9 k_ s.1 s.2.1 s.2.2) (fun x=>X5 bf k_ x.1 x.2.1 x.2.2) (s_,k_,1) ht5  [] ?_;rintro⟨bi,ew,k2⟩ m5 cw aj hl2 J5 dh;try unfold y9 at aj
       let Z3:List HO:=[Hn (⟨rfl,rfl⟩:T.d (.atom (UT 1 bf k_))=T.d (.atom (UT 1 bf k_))/\some bf=some bf),Hx (.a (.atom (.int .i64 ((bi.length - k_.toNat:Nat):Int)))) (vlM F6_ bi k_.toNat)];rcases zG aj with⟨c3,aj⟩|⟨c3,aj⟩
       ·refine yJ ((xVl zt 34 32 1 0 bf k_ (by kernel_rfl)).or zm) hC zV [1,1,2,1,0,0,1,2,0,1,0,1,2,1,0,0,1] [J1,J2,J3,J4,J5] [0,1,5,6,7] (fun z:List (List Int)×Int=>ya k2 z.1 z.2=some cw) (fun z=>X7 bf k_ k2 z.1 z.2) [(0,.own (eOs 1 false F6_ bi)),(1,.d (.fn 121 [])),(5,.d (I ew)),(6,.d (.atom (UT 1 bf k_))),(7,.d (I k2))] (Z3++[Hq c3,Hh (.cut 0)]) ?_ fun J6 cx=>?_
        ·rintro⟨kr,ku⟩ aj
         unfold ya at aj;obtain rfl:=za aj;exact yB zm hC dh (kr,ku,w64 (k2+1)) hl2 []
        ·obtain⟨g4,aj⟩:=gdE aj
         obtain⟨jp,h3,aj⟩:=zc aj;obtain⟨g5,aj⟩:=gdE aj;obtain⟨jq,h4,aj⟩:=zc aj;obtain⟨ah,h5,aj⟩:=zc aj
         let Z4:List HO:=[Hn (⟨rfl,rfl⟩:T.d (.atom (UT 1 bf k_))=T.d (.atom (UT 1 bf k_))/\some bf=some bf),Hn (⟨g4.1,g4.2,(iL F6_ h3).2⟩:(0:Int)<=k_/\(0:Int)<=k2/\(k_+k2).toNat<(bi.map F6_).length),Hs (iM F6_ h3),Hn (⟨rfl,rfl⟩:T.d (.atom (UT 1 bf k_))=T.d (.atom (UT 1 bf k_))/\some bf=some bf),Hn (⟨g5.1,g5.2,(iL F6_ h4).2⟩:(0:Int)<=k_/\(0:Int)<=w64 (k2 - 1)/\(k_+(w64 (k2 - 1))).toNat<(bi.map F6_).length),Hs (iM F6_ h4),Hc h0G (x:=(jp,jq)) h5 (loC F6_ jp <| loC F6_ jq <| loN)];rcases zG aj with⟨c4,aj⟩|⟨c4,aj⟩
         ·obtain⟨g6,aj⟩:=gdE aj
          obtain⟨jr,h6,aj⟩:=zc aj;obtain⟨ma,h7,aj⟩:=zc aj;exact yB ((xVi zt 54 1 0 bf k_).or ((xVi zt 46 1 0 bf k_).or ((xVi zt 41 1 0 bf k_).or zm))) hC cx ((bi.set ew.toNat jr),w64 (ew+1)) aj (Z4++[Hq c4,Hn (⟨rfl,rfl⟩:T.d (.atom (UT 1 bf k_))=T.d (.atom (UT 1 bf k_))/\some bf=some bf),Hn (⟨g6.1,g6.2,(iL F6_ h6).2⟩:(0:Int)<=k_/\(0:Int)<=k2/\(k_+k2).toNat<(bi.map F6_).length),Hs (iM F6_ h6),Hn (iL F6_ h7),Hs (iM F6_ h7),Hs (iM F6_ h7),Hl (sM F6_ bi ew jr)])
         ·exact yB ((xVi zt 46 1 0 bf k_).or ((xVi zt 41 1 0 bf k_).or zm)) hC cx (bi,ew) aj (Z4++[Hq c4])
       ·obtain rfl:=za aj
        obtain rfl:=hl2;exact yB ((xVl zt 34 32 1 0 bf k_ (by kernel_rfl)).or zm) hC ck (bi,ew) ae (Z3++[Hq c3])
     ·exact yB zm hC bh () ae (Z2++[Hq c2])
   ·obtain rfl:=za ae
    obtain rfl:=hl1;exact yB zm hC ar () aa (Z1++[Hq c1])
def Ue:Code:=(Tryz.f48.body).getD .skip
def xj:zP:=spR (α:=List (List Int)) (ρ:=List (List Int)) 48 (fun x=>[ziE x]) (fun r=>(eOs 1 true F6_) r) (fun x=>xT x) [true] (Vr)
theorem VZ:∀x r,(fun x=>xT x) x=some r->(Qi.add xj).run 48 ((Qi.add xj).norm 48 ((fun x=>[ziE x]) x))=some ((fun r=>(eOs 1 true F6_) r) r):=fun x r h=>zkj h rfl
theorem Ub:(Qi.add xj).lend 48=none/\(Qi.add xj).gives 48=[true]:=zcX
theorem ud (hC:zx Tryz.prog ctr):xj.Ok Tryz.prog:=by
 refine z7Y ?_;rintro s_ r0 aa;try unfold xT at aa;refine yO true [(2,none)] Ue 9 Tryz.func48 fun E hE=>?_;obtain rfl:=za aa;exact yE ((xCl zt 8).or X0) hC hE [Ha (lnM F6_ s_),Ha (lnM F6_ s_),Hn (Int.natCast_nonneg _:(0:Int)<=((s_.length:Nat):Int)),Hn (Int.natCast_nonneg _:(0:Int)<=((s_.length:Nat):Int)),Hn (clB F6_ s_),Ha (clE 1 F6_ s_)]
def UU:Code:=(Tryz.f111.body).getD .skip
def Xw:zP:=spF (α:=List (List Int)) (ρ:=Int) 111 (fun x=>[w8 x]) (fun r=>(eI .i64) r) (fun x=>Xf x) [] (Vr)
abbrev z2q (n_:Int):List (Nat×T):=[(2,.d (I n_))]
abbrev z2p (l_:List (List Int))(cp:Int)(x7:Int):List (Nat×T):=[(2,.d (I cp)),(5,.d (eSl 1 false F6_ l_)),(6,.d (I ((l_.length:Nat):Int))),(7,.d (I x7))]
theorem z6p (hC:zx Tryz.prog ctr):Xw.Ok Tryz.prog:=by
 refine zy ?_;rintro l_ r0 aa;try unfold Xf at aa;refine yO true [(2,none)] UU 17 Tryz.func111 fun E hE=>?_;refine yJ X0 hC UU [1] [] [2] (fun z:Int=>UG z=some r0) (fun z=>z2q z) [(0,.d (eSl 1 false F6_ l_)),(2,.d (I 0))] [Hh (.cut 1)] ?_ fun J1 ar=>?_
 ·rintro n_ aa
  unfold UG at aa;obtain rfl:=za aa;exact yE X0 hC hE []
 ·obtain⟨t2,ht2,aa⟩:=zc aa
  refine yL X0 hC UU [1,2,1,0] [J1] (fun s=>qP l_ s.1 s.2) (fun x=>z2p l_ x.1 x.2) (0,0) ht2  [Ha (lnM F6_ l_)] ?_;rintro⟨cp,x7⟩ m2 av ae hl1 J2 ax;try unfold qP at ae;rcases zG ae with⟨c0,ae⟩|⟨c0,ae⟩
  ·obtain⟨bw,h0,ae⟩:=zc ae
   obtain rfl:=za ae;exact yB X0 hC ax (w64 (cp+((bw.length:Nat):Int)),w64 (x7+1)) hl1 [Hq c0,Hi F6_ h0,Ha (lnM (eI .i64) bw)]
  ·obtain rfl:=za ae
   obtain rfl:=hl1;exact yB X0 hC ar cp aa [Hq c0]
def vA:Code:=(Tryz.f90.body).getD .skip
def Yk:zP:=spF (α:=List (List Int)) (ρ:=List (List Int)×Int) 90 (fun x=>[w8 x]) (fun r=>.tup [F9_ r.1,(eI .i64) r.2]) (fun x=>wr x) [] (Vr)
abbrev z1n (out:List (List Int×Bool)):List (Nat×T):=[(4,.own (eOs 1 true (eFl 1 (eI .i64)) out))]
abbrev z1m (dt:Value)(al:List (List Int))(ap:List (List Int×Bool))(bg:Int):List (Nat×T):=[(4,.own (eOs 1 true (eFl 1 (eI .i64)) ap)),(22,.d (.atom (UT 1 dt (0:Int)))),(23,.d (I ((al.length - (0:Int).toNat:Nat):Int))),(24,.d (I bg))]
theorem z5n (hC:zx Tryz.prog ctr)(h1u:ctr.Has uB)(h0f:ctr.Has qG)(h1v:ctr.Has wt)(h0l:ctr.Has Xw)(h0s:ctr.Has wV)(h01:ctr.Has yH):Yk.Ok Tryz.prog:=by
 refine zy ?_;rintro l_ r0 aa;try unfold wr at aa;refine yO false [(2,none),(3,none)] vA 37 Tryz.func90 fun E hE=>?_;obtain⟨r_,h0,aa⟩:=zc aa;refine yA X0 hC vA [1,1] [] [(4,.own (eOs 1 false F6_ r_))] [Hc h1u (x:=l_) h0 (loC w8 l_ <| loN),Hh (.cut 0)] ?_;obtain⟨sorted,h1,aa⟩:=zc aa;refine zdr (by kernel_rfl) (x:=(sub [1,1,0] vA)) (y:=(sub [1,1,1] vA)) 4 (fun st1=>Own.canon [4] st1=ofL [(4,.own (eOs 1 false F6_ sorted))]) (fun dt=>yF ((vN (P:=Tryz.prog) yu [4] (zbT zjA (f:=F6_) (t:=false) (v:=dt) (fun _=>rfl) (fun _=>rfl) (fun x y c h=>yh hC h0f (x:=(x,y)) h) h1) 10).or X0) hC .normal [(4,.own (eOs 1 false F6_ sorted))] [Hn (k8 (f:=.fn 118 []) (xs:=[.atom dt,.fn 119 []]) (ls:=[(dt,eOs 1 false F6_ r_)]) (r:=.tup []) (ys:=[eOs 1 false F6_ sorted]) [.atom dt,.fn 119 []] (show Ku [.atom dt,.fn 119 []] [.atom dt,.fn 119 []] from inferInstance))] fun st0 h0=>⟨rfl,h0⟩) fun st1 h1=>z7r h1 ?_
 obtain⟨ah,h2,aa⟩:=zc aa;obtain⟨al,h3,aa⟩:=zc aa
 let Z0:List HO:=[Hc h1v (x:=(sorted,())) h2 (loC ziE sorted <| loC (z9I 121) () <| loN),Hh (.g [true]),Hn Ub,Hx (.a ((eOs 1 true F6_) al)) (VZ ah _ h3),Ha (lnM F6_ al)];rcases zG aa with⟨c0,aa⟩|⟨c0,aa⟩
 ·obtain rfl:=za aa
  exact yEx ((z1R zt (ud hC) 13).or X0) hC hE (Z0++(rpN 4 (Hq c0) [qT,Hm (shM F6_ F6_ [])])) (.tup [eSl 1 true F2_ [],I 3]) (show LeV (.tup [eSl 1 true F2_ [],I 3]) (.tup [eSl 1 true F2_ ([]:List (List Int)),I 3]) from inferInstance)
 ·obtain⟨az,h4,aa⟩:=zc aa
  let Z1:List HO:=(Z0++[Hq c0,Hq c0,Hg (z3H h0l),Hm (shM F6_ F6_ al),Hs (z3I h0l (x:=al) h4 (loC ziF al <| loN)),Hq c0,Hq c0]);rcases zG aa with⟨c1,aa⟩|⟨c1,aa⟩
  ·obtain rfl:=za aa
   exact yEx ((z1R zt (ud hC) 13).or X0) hC hE (Z1++[Hq c1,Hm (shM F6_ F6_ [])]) (.tup [eSl 1 true F2_ [],I 3]) (show LeV (.tup [eSl 1 true F2_ [],I 3]) (.tup [eSl 1 true F2_ ([]:List (List Int)),I 3]) from inferInstance)
  ·refine yA ((z1R zt (ud hC) 13).or X0) hC vA [1,1,1,1,1] [] [(4,.own (eOs 1 true F6_ al))] (Z1++[Hq c1,Hh (.cut 0)]) ?_
   refine zdt (y:=eOs 1 true F6_ al) (by kernel_rfl) 4 (by kernel_rfl) (by kernel_rfl) fun dt hv4=>?_
   refine yJ X0 hC vA [1,1,1,1,1] [] [4] (fun z:List (List Int×Bool)=>Yj z=some r0) (fun z=>z1n z) [(4,.own (eOs 1 true F6_ al))] [Hh (.cut 0)] ?_ fun J1 ar=>?_
   ·rintro out aa
    unfold Yj at aa;obtain⟨hfl0,aa⟩:=gdE aa;obtain rfl:=za aa;exact yEx X0 hC hE [Hm (shM (eFl 1 (eI .i64)) (eFl 1 (eI .i64)) out)] (.tup [eSl 1 true (eFl 1 (eI .i64)) out,I 0]) (haveI:=flA (s:=1) (t:=1) (b:=true) (f:=(eI .i64)) hfl0;show LeV (.tup [eSl 1 true (eFl 1 (eI .i64)) out,I 0]) (.tup [eSl 1 true F2_ (out.map (·.1)),I 0]) from inferInstance)
   ·obtain⟨t2,ht2,aa⟩:=zc aa
    refine yLx ((xVl zt 23 32 1 4 dt (0:Int) (by kernel_rfl)).or ((xMw Tryz.prog 22 4 1 dt).or X0)) hC vA [1,1,1,1,1,2,1,0] [J1] (fun s=>wq al s.1 s.2) (fun x=>z1m dt al x.1 x.2) ((al.map fun q=>(q,false)),0) ht2 [(4,.own (eOs 1 true F6_ al)),(22,.d (.atom (UT 1 dt (0:Int)))),(23,.d (I ((al.length - (0:Int).toNat:Nat):Int))),(24,.d (I 0))] inferInstance [Hn (rfl:some dt=some dt),Hn (⟨rfl,rfl⟩:T.d (.atom (UT 1 dt (0:Int)))=T.d (.atom (UT 1 dt (0:Int)))/\some dt=some dt),Hx (.a (.atom (.int .i64 ((al.length - (0:Int).toNat:Nat):Int)))) (vlM F6_ al (0:Int).toNat)] ?_
    rintro⟨ap,bg⟩ m2 av ae hl1 J2 ax;try unfold wq at ae;rcases zG ae with⟨c2,ae⟩|⟨c2,ae⟩
    ·obtain⟨g0,ae⟩:=gdE ae
     obtain⟨ca,h5,ae⟩:=zc ae;obtain⟨bp,h6,ae⟩:=zc ae;obtain⟨dy,h7,ae⟩:=zc ae;obtain⟨gf,h8,ae⟩:=zc ae;obtain rfl:=za ae;exact yB ((xVi zt 27 1 4 dt (0:Int)).or X0) hC ax ((ap.set bg.toNat (dy,true)),w64 (bg+1)) hl1 [Hq c2,Hn (⟨rfl,rfl⟩:T.d (.atom (UT 1 dt (0:Int)))=T.d (.atom (UT 1 dt (0:Int)))/\some dt=some dt),Hn (⟨g0.1,g0.2,(iL (eFl 1 (eI .i64)) h5).2⟩:(0:Int)<=0/\(0:Int)<=bg/\(0+bg).toNat<(ap.map (eFl 1 (eI .i64))).length),Hs (iM (eFl 1 (eI .i64)) h5),Hc h0s (x:=ca.1) h6 (loC (eSl 1 ca.2 (eI .i64)) ca.1 <| loN),Hg (z3H h01),Hm (shM (eI .i64) (eI .i64) bp),Hs (z3I h01 (x:=bp) h7 (loC F6_ bp <| loN)),Hm (shM (eI .i64) (eI .i64) bp),Hn (iL (eFl 1 (eI .i64)) h8),Hs (iM (eFl 1 (eI .i64)) h8),Hs (iM (eFl 1 (eI .i64)) h8),Hl (sM (eFl 1 (eI .i64)) ap bg (dy,true))]
    ·obtain rfl:=za ae
     obtain rfl:=hl1;exact yB X0 hC ar ap aa [Hq c2]
def z7k:Code:=(Tryz.f73.body).getD .skip
def Yl:zP:=spF (α:=List (List Int)×Int) (ρ:=List (List Int)×Int) 73 (fun x=>[w8 x.1,(eI .i64) x.2]) (fun r=>.tup [F9_ r.1,(eI .i64) r.2]) (fun x=>WQ x.1 x.2) [] (Qh)
theorem z7F (hC:zx Tryz.prog ctr)(h0v:ctr.Has Xx)(h0m:ctr.Has Yk):Yl.Ok Tryz.prog:=by
 refine zy ?_;rintro⟨l_,inputs⟩ r0 aa;try unfold WQ at aa;refine yO false [(4,none),(5,none)] z7k 17 Tryz.func73 fun E hE=>?_;obtain⟨r_,h0,aa⟩:=zc aa
 let Z0:List HO:=[Hc h0v (x:=(l_,inputs)) h0 (loC w8 l_ <| loC (eI .i64) inputs <| loN)];rcases zG aa with⟨c0,aa⟩|⟨c0,aa⟩
 ·obtain rfl:=za aa
  exact yEx X0 hC hE (Z0++[Hq c0,Hm (shM F6_ F6_ [])]) (.tup [eSl 1 true F2_ [],I r_]) (show LeV (.tup [eSl 1 true F2_ [],I r_]) (.tup [eSl 1 true F2_ ([]:List (List Int)),I r_]) from inferInstance)
 ·obtain⟨ah,h1,aa⟩:=zc aa
  obtain rfl:=za aa;exact yE X0 hC hE (Z0++[Hq c0,Hc h0m (x:=l_) h1 (loC w8 l_ <| loN)])
def uU:Code:=(Tryz.f37.body).getD .skip
def Vc:zP:=spF (α:=z6×Unit) (ρ:=List (List Int)×Int) 37 (fun x=>[zL x.1,(z9I 38) x.2]) (fun r=>.tup [F9_ r.1,(eI .i64) r.2]) (fun x=>XT x.1 x.2) [] (by
 rintro⟨a0,a1⟩ ⟨b0,b1⟩ h;have e0:=Yc.inj (f:=zL) _ _ (List.cons.inj h).1;replace h:=(List.cons.inj h).2;have e1:=Yc.inj (f:=(z9I 38)) _ _ (List.cons.inj h).1;subst e0 e1;rfl)
abbrev z1J (m_:z6)(x5:Int)(out:List (List Int)):List (Nat×T):=[(2,.own (.box (zL m_))),(4,.own (.box (eOs 1 true F6_ []))),(5,.own (.box (I x5))),(6,.own (.box (eOs 1 false F2_ out)))]
abbrev uc (m_:z6)(ah:Int)(bu:Int)(ai:List (List Int)):List (Nat×T):=[(2,.own (.box (zL m_))),(3,.own (.box (.fn 38 []))),(4,.own (.box (eOs 1 true F6_ []))),(5,.own (.box (I bu))),(6,.own (.box (eOs 1 false F2_ ai))),(15,.d (.fn 80 [.sptr (I ah)]))]
theorem z5y (hC:zx Tryz.prog ctr)(h05:ctr.Has vh)(h1w:ctr.Has Ve)(h0g:ctr.Has vS)(h07:ctr.Has Yl):Vc.Ok Tryz.prog:=by
 refine zy ?_;rintro⟨m_,is⟩ r0 aa;try unfold XT at aa;refine yO false [(4,some 32),(5,some 33)] uU 44 Tryz.func37 fun E hE=>?_;refine yJ X0 hC uU [1,1] [] [2,4,5,6] (fun z:Int×List (List Int)=>YT m_ z.1 z.2=some r0) (fun z=>z1J m_ z.1 z.2) [(2,.own (.box (zL m_))),(3,.own (.box (.fn 38 []))),(4,.own (.box (eOs 1 true F6_ []))),(5,.own (.box (I 0))),(6,.own (.box (eOs 1 true F6_ [])))] [Hh (.cut 2)] ?_ fun J1 ar=>?_
 ·rintro⟨x5,out⟩ aa
  unfold YT at aa;obtain⟨r_,h0,aa⟩:=zc aa;obtain rfl:=za aa;exact yE X0 hC hE [Hg (z3H h07),Hm (shM F2_ F2_ out),Hs (z3I h07 (x:=(out,m_.Inputs)) h0 (loC (eSl 1 false F2_) out <| loC (eI .i64) m_.Inputs <| loN)),Hm (shM F2_ F2_ out)]
 ·obtain⟨ah,h1,aa⟩:=zc aa
  obtain⟨t2,ht2,aa⟩:=zc aa;refine yAt X0 hC (sub [1,1,2,1,0] uU) (frs [1,1,2,1,0] [J1] uU []) [(2,.own (.box (zL m_))),(3,.own (.box (.fn 38 []))),(4,.own (.box (eOs 1 true F6_ []))),(5,.own (.box (I 0))),(6,.own (.box (eOs 1 true F2_ []))),(15,.d (.fn 80 [.sptr (I ah)]))] [Ha (lnM yW m_.Rows),Hc h05 (x:=((m_.Rows.length:Nat):Int)) h1 (loC (eI .i64) ((m_.Rows.length:Nat):Int) <| loN)] fun st0 h0=>?_;refine z0m (g:=.tmp 15) (ps:=[16,17]) (assign:=(sub [1,1,2,1,0,0] uU)) (body:=(sub [1,1,2,1,0,1] uU)) (K:=80) (caps:=[.sptr (I ah)]) (by kernel_rfl) [2,3,4,5,6,15] (fun s=>uc m_ ah s.1 s.2) (fun s=>uc m_ ah s.1 s.2) (fun s=>Code.ret) ((fun(x:Int×Int) (_:Bool) (_:Value)=>[(eI .i64) x.1,(eI .i64) x.2])) (F:=@yU ah) (fun s x=>uP m_ s.1 s.2 x.1 x.2) (0,([]:List (List Int))) t2 _ h0 inferInstance (by kernel_rfl) (by decide) (fun _=>rfl) (fun _=>rfl) (by kernel_rfl) (fun _ _ _=>rfl) (ZI hC ah) ht2 ?_ ?_
  ·rintro lm ⟨bu,ai⟩ ⟨bt,aq⟩ vr av ae
   replace ae:uP m_ bu ai bt aq=some av:=ae;unfold uP at ae;refine yF X0 hC .normal [(2,.own (.box (zL m_))),(3,.own (.box (.fn 38 []))),(4,.own (.box (eOs 1 true F6_ []))),(5,.own (.box (I bu))),(6,.own (.box (eOs 1 false F2_ ai))),(7,.d (I bt)),(8,.d (I aq)),(15,.d (.fn 80 [.sptr (I ah)]))] [] fun st0 h0=>⟨rfl,z7r h0 ?_⟩;obtain⟨al,h2,ae⟩:=zc ae
   let Z0:List HO:=[Hc h1w (x:=(bt,aq)) h2 (loC (eI .i64) bt <| loC (eI .i64) aq <| loN)];rcases zG ae with⟨c0,ae⟩|⟨c0,ae⟩
   ·obtain rfl:=za ae
    exact yF X0 hC .normal (uc m_ ah bu ai) (Z0++[Hq c0]) fun st0 h0=>⟨rfl,_,h0,LeL.refl _⟩
   ·obtain⟨az,h3,ae⟩:=zc ae
    let Z1:List HO:=(Z0++[Hq c0,Hc h0g (x:=(m_,bt,aq)) h3 (loC zL m_ <| loC (eI .i64) bt <| loC (eI .i64) aq <| loN)]);rcases zG ae with⟨c1,ae⟩|⟨c1,ae⟩
    ·obtain rfl:=za ae
     exact yF X0 hC .ret (uc m_ ah az.2.2 ai) (Z1++[Hq c1]) fun st0 h0=>⟨rfl,_,h0,LeL.refl _⟩
    ·obtain⟨g0,ae⟩:=gdE ae
     obtain rfl:=za ae;exact yF X0 hC .normal (uc m_ ah bu (ai++([az.1]:List (List Int)))) (Z1++[Hq c1,Hq (dM F2_ ([az.1]:List (List Int))),Hn (dM F2_ ([az.1]:List (List Int))),Hn (aL F2_ F2_ g0),Hl (aM F2_ ai ([az.1]:List (List Int)))]) fun st0 h0=>⟨rfl,_,h0,LeL.refl _⟩
  ·rcases t2 with⟨bu,ai⟩|z
   ·dsimp only at aa
    exact XY (by kernel_rfl) (ar _ [(2,.own (.box (zL m_))),(4,.own (.box (eOs 1 true F6_ []))),(5,.own (.box (I bu))),(6,.own (.box (eOs 1 false F2_ ai)))] (bu,ai) aa (show Own.canon [2,4,5,6] _=ofL _ by kernel_rfl) inferInstance)
   ·obtain⟨bu,ai⟩:=z
    dsimp only at aa
    show AWP _ _ (Code.ret) _ _
    obtain rfl:=za aa;exact yEx X0 hC hE [Hm (shM F6_ F6_ [])] (.tup [eSl 1 true F2_ [],I bu]) (show LeV (.tup [eSl 1 true F2_ [],I bu]) (.tup [eSl 1 true F2_ ([]:List (List Int)),I bu]) from inferInstance)
def z7q:Code:=(Tryz.f10.body).getD .skip
def Yu:zP:=spF (α:=z6) (ρ:=List (List Int)×Int) 10 (fun x=>[zL x]) (fun r=>.tup [F9_ r.1,(eI .i64) r.2]) (fun x=>Xr x) [] (Vr)
theorem z7P (hC:zx Tryz.prog ctr)(h0h:ctr.Has vg)(h1x:ctr.Has Vc):Yu.Ok Tryz.prog:=by
 refine zy ?_;rintro m_ r0 aa;try unfold Xr at aa;refine yO false [(2,none),(3,none)] z7q 14 Tryz.func10 fun E hE=>?_;obtain⟨r_,h0,aa⟩:=zc aa
 let Z0:List HO:=[Hc h0h (x:=m_) h0 (loC zL m_ <| loN)];rcases zG aa with⟨c0,aa⟩|⟨c0,aa⟩
 ·obtain rfl:=za aa
  exact yEx X0 hC hE (Z0++[Hq c0,Hm (shM F6_ F6_ [])]) (.tup [eSl 1 true F2_ [],I r_]) (show LeV (.tup [eSl 1 true F2_ [],I r_]) (.tup [eSl 1 true F2_ ([]:List (List Int)),I r_]) from inferInstance)
 ·obtain⟨ah,h1,aa⟩:=zc aa
  obtain rfl:=za aa;exact yE X0 hC hE (Z0++[Hq c0,Hc h1x (x:=(m_,())) h1 (loC zL m_ <| loC (z9I 38) () <| loN)])
def ua:Code:=(Tryz.f66.body).getD .skip
def Jy:zP:=spF (α:=Int×Int×Int) (ρ:=List (List Int)×Int) 66 (fun x=>[(eI .i64) x.1,(eI .i64) x.2.1,(eI .i64) x.2.2]) (fun r=>.tup [F9_ r.1,(eI .i64) r.2]) (fun x=>UZ x.1 x.2.1 x.2.2) [] (zaG)
abbrev z59 (inputs:Int)(aw:Int)(to:Int)(k_:Int)(ai:List (List Int))(ij:List (List Int))(cp:Int)(l5:Int)(l6:Bool)(jw:Bool):List (Nat×T):=[(0,.d (I inputs)),(1,.d (I aw)),(2,.d (I to)),(8,.own (eOs 1 false F6_ ai)),(9,.own (eOs 1 false F6_ ij)),(10,.d (I cp)),(11,.d (I k_)),(45,.d (I l5)),(46,.d (B l6)),(49,.d (I k_)),(50,.d (I to)),(51,.d (B (decide (k_<to)))),(52,.d (B (decide (k_<to)))),(58,.d (B jw))]
abbrev z56 (inputs:Int)(aw:Int)(to:Int)(k_:Int)(ap:List (List Int))(bm:Int)(ct:Bool)(next:List (List Int)):List (Nat×T):=[(0,.d (I inputs)),(1,.d (I aw)),(2,.d (I to)),(8,.own (eOs 1 false F6_ ap)),(10,.d (I bm)),(11,.d (I k_)),(12,.own (eOs 1 false F6_ next)),(45,.d (I bm)),(46,.d (B (decide (bm > 65536)))),(49,.d (I k_)),(50,.d (I to)),(51,.d (B (decide (k_<to)))),(52,.d (B (decide (k_<to)))),(58,.d (B ct))]
abbrev z54 (inputs:Int)(aw:Int)(to:Int)(ay:List (List Int))(k_:Int)(ap:List (List Int))(bm:Int)(ct:Bool)(fx:Int)(fe:List (List Int)):List (Nat×T):=[(0,.d (I inputs)),(1,.d (I aw)),(2,.d (I to)),(8,.own (eOs 1 false F6_ ap)),(9,.own (eOs 1 false F6_ ay)),(10,.d (I bm)),(11,.d (I k_)),(12,.own (eOs 1 false F6_ fe)),(45,.d (I bm)),(46,.d (B (decide (bm > 65536)))),(49,.d (I k_)),(50,.d (I to)),(51,.d (B (decide (k_<to)))),(52,.d (B (decide (k_<to)))),(58,.d (B ct)),(67,.als 9 [] 0 0),(68,.d (I ((ay.length:Nat):Int))),(69,.d (I fx))]
abbrev z4Z (inputs:Int)(aw:Int)(to:Int)(ay:List (List Int))(k_:Int)(ap:List (List Int))(bm:Int)(ct:Bool)(fx:Int)(dn:List Int)(bz:List (List Int))(fy:Int):List (Nat×T):=[(0,.d (I inputs)),(1,.d (I aw)),(2,.d (I to)),(8,.own (eOs 1 false F6_ ap)),(9,.own (eOs 1 false F6_ ay)),(10,.d (I bm)),(11,.d (I k_)),(12,.own (eOs 1 false F6_ bz)),(14,.d (eSl 1 false (eI .i64) dn)),(45,.d (I bm)),(46,.d (B (decide (bm > 65536)))),(49,.d (I k_)),(50,.d (I to)),(51,.d (B (decide (k_<to)))),(52,.d (B (decide (k_<to)))),(58,.d (B ct)),(67,.als 9 [] 0 0),(68,.d (I ((ay.length:Nat):Int))),(69,.d (I fx)),(73,.d (I inputs)),(74,.d (I fy))]
abbrev z51 (inputs:Int)(aw:Int)(to:Int)(ay:List (List Int))(k_:Int)(ap:List (List Int))(bm:Int)(ct:Bool)(cm:List (List Int))(fx:Int):List (Nat×T):=[(0,.d (I inputs)),(1,.d (I aw)),(2,.d (I to)),(8,.own (eOs 1 false F6_ ap)),(9,.own (eOs 1 false F6_ ay)),(10,.d (I bm)),(11,.d (I k_)),(12,.own (eOs 1 false F6_ cm)),(45,.d (I bm)),(46,.d (B (decide (bm > 65536)))),(49,.d (I k_)),(50,.d (I to)),(51,.d (B (decide (k_<to)))),(52,.d (B (decide (k_<to)))),(58,.d (B ct)),(67,.als 9 [] 0 0),(68,.d (I ((ay.length:Nat):Int))),(69,.d (I fx))]
abbrev z57 (inputs:Int)(aw:Int)(to:Int)(ay:List (List Int))(k_:Int)(ap:List (List Int))(bm:Int)(ct:Bool):List (Nat×T):=[(0,.d (I inputs)),(1,.d (I aw)),(2,.d (I to)),(8,.own (eOs 1 false F6_ ap)),(9,.own (eOs 1 false F6_ ay)),(10,.d (I bm)),(11,.d (I k_)),(45,.d (I bm)),(46,.d (B (decide (bm > 65536)))),(49,.d (I k_)),(50,.d (I to)),(51,.d (B (decide (k_<to)))),(52,.d (B (decide (k_<to)))),(58,.d (B ct))]
abbrev z58 (inputs:Int)(aw:Int)(to:Int)(ay:List (List Int))(k_:Int)(ap:List (List Int))(bm:Int):List (Nat×T):=[(0,.d (I inputs)),(1,.d (I aw)),(2,.d (I to)),(8,.own (eOs 1 false F6_ ap)),(9,.own (eOs 1 false F6_ ay)),(10,.d (I bm)),(11,.d (I k_))]
abbrev z52 (inputs:Int)(aw:Int)(to:Int)(out:List (List Int))(ay:List (List Int))(n_:Int)(k_:Int):List (Nat×T):=[(0,.d (I inputs)),(1,.d (I aw)),(2,.d (I to)),(8,.own (eOs 1 false F6_ out)),(9,.own (eOs 1 false F6_ ay)),(10,.d (I n_)),(11,.d (I k_))]
def zW:XH Tryz.prog:=((QT zt (.inl 83) [82]).or X0)
theorem z90 (hC:zx Tryz.prog ctr)(h0m:ctr.Has Yk)(h01:ctr.Has yH):Jy.Ok Tryz.prog:=by
 refine zy ?_;rintro⟨inputs,aw,to⟩ r0 aa;try unfold UZ at aa;refine yO false [(6,none),(7,none)] ua 88 Tryz.func66 fun E hE=>?_;rcases zG aa with⟨c0,aa⟩|⟨c0,aa⟩
 ·obtain rfl:=za aa
  exact yEx zW hC hE [Hq c0,Hm (shM F6_ F6_ [])] (.tup [eSl 1 true F2_ [],I 3]) (show LeV (.tup [eSl 1 true F2_ [],I 3]) (.tup [eSl 1 true F2_ ([]:List (List Int)),I 3]) from inferInstance)
 ·rcases zG aa with⟨c1,aa⟩|⟨c1,aa⟩
  ·obtain rfl:=za aa
   exact yEx zW hC hE [Hq c0,Hq c1,Hq c1,Hq c1,qT,Hm (shM F6_ F6_ [])] (.tup [eSl 1 true F2_ [],I 1]) (show LeV (.tup [eSl 1 true F2_ [],I 1]) (.tup [eSl 1 true F2_ ([]:List (List Int)),I 1]) from inferInstance)
  ·let Z0:List HO:=[Hq c0,Hq c1,Hq c1,Hq c1]
   rcases zG aa with⟨c2,aa⟩|⟨c2,aa⟩
   ·obtain rfl:=za aa
    exact yEx zW hC hE (Z0++[Hq c2,Hm (shM F6_ F6_ [])]) (.tup [eSl 1 true F2_ [],I 1]) (show LeV (.tup [eSl 1 true F2_ [],I 1]) (.tup [eSl 1 true F2_ ([]:List (List Int)),I 1]) from inferInstance)
   ·rcases zG aa with⟨c3,aa⟩|⟨c3,aa⟩
    ·obtain rfl:=za aa
     exact yEx zW hC hE (Z0++[Hq c2,Hq c3,Hm (shM F6_ F6_ [])]) (.tup [eSl 1 true F2_ [],I 3]) (show LeV (.tup [eSl 1 true F2_ [],I 3]) (.tup [eSl 1 true F2_ ([]:List (List Int)),I 3]) from inferInstance)
    ·obtain⟨t1,ht1,aa⟩:=zc aa
     refine yLx zW hC ua [1,1,1,1,1,1,1,1,0] [] (fun s=>uX inputs aw to s.1 s.2.1 s.2.2.1 s.2.2.2) (fun x=>z52 inputs aw to x.1 x.2.1 x.2.2.1 x.2.2.2) (([]:List (List Int)),([[]]:List (List Int)),0,0) ht1 [(0,.d (I inputs)),(1,.d (I aw)),(2,.d (I to)),(8,.own (eOs 1 true F6_ [])),(9,.own (eOs 1 true F2_ ([[]]))),(10,.d (I 0)),(11,.d (I 0))] inferInstance (Z0++[Hq c2,Hq c3,Hh (.v 5 [9]),Hm (shM F3_ F2_ ([[]]:List (List Int)))]) ?_;rintro⟨out,ay,n_,k_⟩ m1 av ae hl1 J1 ar;try unfold uX at ae;refine yJ zW hC ua [1,1,1,1,1,1,1,1,0,0] [J1] [0,1,2,8,9,10,11,45,46,49,50,51,52,58] (fun z:List (List Int)×List (List Int)×Int×Int×Bool×Bool=>Un k_ z.1 z.2.1 z.2.2.1 z.2.2.2.1 z.2.2.2.2.1 z.2.2.2.2.2=some av) (fun z=>z59 inputs aw to k_ z.1 z.2.1 z.2.2.1 z.2.2.2.1 z.2.2.2.2.1 z.2.2.2.2.2) [(0,.d (I inputs)),(1,.d (I aw)),(2,.d (I to)),(8,.own (eOs 1 false F6_ out)),(9,.own (eOs 1 false F6_ ay)),(10,.d (I n_)),(11,.d (I k_))] [Hh (.cut 0)] ?_ fun J2 ax=>?_
     ·rintro⟨ai,ij,cp,l5,l6,jw⟩ ae
      unfold Un at ae;obtain rfl:=za ae;exact yB zW hC ar (ai,ij,cp,w64 (k_+1)) hl1 []
     ·refine yJ zW hC ua [1,1,1,1,1,1,1,1,0,0,2,0] [J1,J2] [0,1,2,8,9,10,11] (fun z:List (List Int)×Int=>Y8 inputs to ay k_ z.1 z.2=some av) (fun z=>z58 inputs aw to ay k_ z.1 z.2) [(0,.d (I inputs)),(1,.d (I aw)),(2,.d (I to)),(8,.own (eOs 1 false F6_ out)),(9,.own (eOs 1 false F6_ ay)),(10,.d (I n_)),(11,.d (I k_))] [Hh (.cut 0)] ?_ fun J3 bh=>?_
      ·rintro⟨ap,bm⟩ ae
       unfold Y8 at ae;refine yJ zW hC ua [1,1,1,1,1,1,1,1,0,0,2,0,1] [J1,J2] [0,1,2,8,9,10,11,45,46,49,50,51,52,58] (fun z:Bool=>Y7 inputs to ay k_ ap bm z=some av) (fun z=>z57 inputs aw to ay k_ ap bm z) [(0,.d (I inputs)),(1,.d (I aw)),(2,.d (I to)),(8,.own (eOs 1 false F6_ ap)),(9,.own (eOs 1 false F6_ ay)),(10,.d (I bm)),(11,.d (I k_))] [Hh (.cut 0)] ?_ fun J4 ck=>?_
       ·rintro ct ae
        unfold Y7 at ae;rcases zG ae with⟨c4,ae⟩|⟨c4,ae⟩
        ·obtain⟨r_,h0,ae⟩:=zc ae
         obtain rfl:=za ae;obtain rfl:=hl1;obtain rfl:=za aa;exact yE zW hC hE [Hq c4,Hg (z3H h0m),Hm (shM F6_ F6_ ap),Hs (z3I h0m (x:=ap) h0 (loC w8 ap <| loN)),Hm (shM F6_ F6_ ap)]
        ·refine yJ zW hC ua [1,1,1,1,1,1,1,1,0,0,2,0,1,1,1,1] [J1,J2] [0,1,2,8,10,11,12,45,46,49,50,51,52,58] (fun z:List (List Int)=>Um k_ ap bm ct z=some av) (fun z=>z56 inputs aw to k_ ap bm ct z) [(0,.d (I inputs)),(1,.d (I aw)),(2,.d (I to)),(8,.own (eOs 1 false F6_ ap)),(9,.own (eOs 1 false F6_ ay)),(10,.d (I bm)),(11,.d (I k_)),(12,.own (eOs 1 true F6_ [])),(45,.d (I bm)),(46,.d (B (decide (bm > 65536)))),(49,.d (I k_)),(50,.d (I to)),(51,.d (B (decide (k_<to)))),(52,.d (B (decide (k_<to)))),(58,.d (B ct))] [Hq c4,Hh (.cut 1)] ?_ fun J5 dh=>?_
         ·rintro next ae
          unfold Um at ae;exact yB zW hC ax (ap,next,bm,bm,decide (bm > 65536),ct) ae []
         ·obtain⟨t6,ik,ae⟩:=zc ae
          refine yLx zW hC ua [1,1,1,1,1,1,1,1,0,0,2,0,1,1,1,1,2,1,0] [J1,J2,J5] (fun s=>vR inputs ay s.1 s.2) (fun x=>z51 inputs aw to ay k_ ap bm ct x.1 x.2) (([]:List (List Int)),0) ik [(0,.d (I inputs)),(1,.d (I aw)),(2,.d (I to)),(8,.own (eOs 1 false F6_ ap)),(9,.own (eOs 1 false F6_ ay)),(10,.d (I bm)),(11,.d (I k_)),(12,.own (eOs 1 true F6_ [])),(45,.d (I bm)),(46,.d (B (decide (bm > 65536)))),(49,.d (I k_)),(50,.d (I to)),(51,.d (B (decide (k_<to)))),(52,.d (B (decide (k_<to)))),(58,.d (B ct)),(67,.als 9 [] 0 0),(68,.d (I ((ay.length:Nat):Int))),(69,.d (I 0))] inferInstance [Ha (lnM F6_ ay)] ?_;rintro⟨cm,fx⟩ m6 cw aj hl2 J6 cx;try unfold vR at aj;rcases zG aj with⟨c5,aj⟩|⟨c5,aj⟩
          ·refine yJ zW hC ua [1,1,1,1,1,1,1,1,0,0,2,0,1,1,1,1,2,1,0,0,1,1] [J1,J2,J5,J6] [0,1,2,8,9,10,11,12,45,46,49,50,51,52,58,67,68,69] (fun z:List (List Int)=>Ul fx z=some cw) (fun z=>z54 inputs aw to ay k_ ap bm ct fx z) [(0,.d (I inputs)),(1,.d (I aw)),(2,.d (I to)),(8,.own (eOs 1 false F6_ ap)),(9,.own (eOs 1 false F6_ ay)),(10,.d (I bm)),(11,.d (I k_)),(12,.own (eOs 1 false F6_ cm)),(45,.d (I bm)),(46,.d (B (decide (bm > 65536)))),(49,.d (I k_)),(50,.d (I to)),(51,.d (B (decide (k_<to)))),(52,.d (B (decide (k_<to)))),(58,.d (B ct)),(67,.als 9 [] 0 0),(68,.d (I ((ay.length:Nat):Int))),(69,.d (I fx))] [Hq c5,Hh (.cut 0)] ?_ fun J7 hJ7=>?_
           ·rintro fe aj
            unfold Ul at aj;obtain rfl:=za aj;exact yB zW hC cx (fe,w64 (fx+1)) hl2 []
           ·obtain⟨dn,h1,aj⟩:=zc aj
            obtain⟨t8,ht8,aj⟩:=zc aj;refine yL zW hC ua [1,1,1,1,1,1,1,1,0,0,2,0,1,1,1,1,2,1,0,0,1,1,2,0,1,1,0] [J1,J2,J5,J6,J7] (fun s=>vQ inputs dn s.1 s.2) (fun x=>z4Z inputs aw to ay k_ ap bm ct fx dn x.1 x.2) (cm,0) ht8  [Hn (iL F6_ h1),Hs (iM F6_ h1)] ?_;rintro⟨bz,fy⟩ m8 l8 bj hl3 J8 jo;try unfold vQ at bj;rcases zG bj with⟨c6,bj⟩|⟨c6,bj⟩
            ·obtain⟨ah,h2,bj⟩:=zc bj
             obtain⟨g0,bj⟩:=gdE bj;obtain⟨g1,bj⟩:=gdE bj;obtain rfl:=za bj;exact yB zW hC jo ((bz++([(ah++([fy]:List Int))]:List (List Int))),w64 (fy+1)) hl3 [Hq c6,Hc h01 (x:=dn) h2 (loC F6_ dn <| loN),Hq (dM (eI .i64) ([fy]:List Int)),Hn (dM (eI .i64) ([fy]:List Int)),Hn (aN (eI .i64) (eI .i64) g0 (by simp)),Hl (aM (eI .i64) ah ([fy]:List Int)),Hm (shM (eI .i64) (eI .i64) (ah++([fy]:List Int))),Hq (dM F6_ ([(ah++([fy]:List Int))]:List (List Int))),Hn (dM F6_ ([(ah++([fy]:List Int))]:List (List Int))),Hn (aL F6_ F6_ g1),Hl (aM F6_ bz ([(ah++([fy]:List Int))]:List (List Int)))]
            ·obtain rfl:=za bj
             obtain rfl:=hl3;exact yB zW hC hJ7 bz aj [Hq c6]
          ·obtain rfl:=za aj
           obtain rfl:=hl2;exact yB zW hC dh cm ae [Hq c5]
       ·let Z1:List HO:=[Ha (lnM F6_ ap)]
        rcases zG ae with⟨c7,ae⟩|⟨c7,ae⟩
        ·obtain rfl:=za ae
         obtain rfl:=hl1;obtain rfl:=za aa;exact yEx zW hC hE (Z1++(Hq c7::Hq c7::Hq c7::(rpN 7 qT [Hm (shM F6_ F6_ [])]))) (.tup [eSl 1 true F2_ [],I 3]) (show LeV (.tup [eSl 1 true F2_ [],I 3]) (.tup [eSl 1 true F2_ ([]:List (List Int)),I 3]) from inferInstance)
        ·rcases zG ae with⟨c8,ae⟩|⟨c8,ae⟩
         ·obtain rfl:=za ae
          obtain rfl:=hl1;obtain rfl:=za aa;exact yEx zW hC hE (Z1++(Hq c7::Hq c7::Hq c7::(rpN 6 (Hq c8) [qT,Hm (shM F6_ F6_ [])]))) (.tup [eSl 1 true F2_ [],I 3]) (show LeV (.tup [eSl 1 true F2_ [],I 3]) (.tup [eSl 1 true F2_ ([]:List (List Int)),I 3]) from inferInstance)
         ·let Z2:List HO:=(Z1++(Hq c7::Hq c7::Hq c7::(rpN 4 (Hq c8) [])))
          rcases zG ae with⟨c9,ae⟩|⟨c9,ae⟩
          ·let Z3:List HO:=(Z2++[Hq c9,Hq c9,Ha (lnM F6_ ay),Hq c9,Hq c9,Hq c9,Hq c8,Hq c9,Hq c8])
           rcases zG ae with⟨c10,ae⟩|⟨c10,ae⟩
           ·obtain rfl:=za ae
            obtain rfl:=hl1;obtain rfl:=za aa;exact yEx zW hC hE (Z3++[Hq c10,Hm (shM F6_ F6_ [])]) (.tup [eSl 1 true F2_ [],I 3]) (show LeV (.tup [eSl 1 true F2_ [],I 3]) (.tup [eSl 1 true F2_ ([]:List (List Int)),I 3]) from inferInstance)
           ·exact yB zW hC ck (decide ((w64 (((ay.length:Nat):Int)*inputs)) > 4096)) ae (Z3++[Hq c10])
          ·exact yB zW hC ck false ae (Z2++(rpN 5 (Hq c9) [Hq c8,Hq c9,Hq c8,qF]))
      ·rcases zG ae with⟨c11,ae⟩|⟨c11,ae⟩
       ·obtain⟨g2,ae⟩:=gdE ae
        exact yB zW hC bh ((out++ay),w64 (n_+(w64 (k_*((ay.length:Nat):Int))))) ae [Hq c11,Hq (dM F6_ ay),Hn (dM F6_ ay),Hn (aL F6_ F6_ g2),Hl (aM F6_ out ay),Ha (lnM F6_ ay)]
       ·exact yB zW hC bh (out,n_) ae [Hq c11]
def z5I:Code:=(Tryz.f33.body).getD .skip
def UJ:zP:=spF (α:=Int×Int) (ρ:=List (List Int)×Int) 33 (fun x=>[(eI .i64) x.1,(eI .i64) x.2]) (fun r=>.tup [F9_ r.1,(eI .i64) r.2]) (fun x=>V0 x.1 x.2) [] (Qh)
theorem z6s (hC:zx Tryz.prog ctr)(h1y:ctr.Has Jy):UJ.Ok Tryz.prog:=by
 refine zy ?_;rintro⟨inputs,k_⟩ r0 aa;try unfold V0 at aa;refine yO false [(4,none),(5,none)] z5I 12 Tryz.func33 fun E hE=>?_;obtain⟨r_,h0,aa⟩:=zc aa;obtain rfl:=za aa;exact yE X0 hC hE [Hc h1y (x:=(inputs,k_,k_)) h0 (loC (eI .i64) inputs <| loC (eI .i64) k_ <| loC (eI .i64) k_ <| loN)]
def UW:Code:=(Tryz.f110.body).getD .skip
def UI:zP:=spF (α:=List (List Int)) (ρ:=Bool) 110 (fun x=>[w8 x]) (fun r=>eB r) (fun x=>WZ x) [] (Vr)
abbrev z2u:List (Nat×T):=[]
abbrev z2t (l_:List (List Int))(i_:Int):List (Nat×T):=[(0,.d (eSl 1 false F6_ l_)),(3,.d (I i_))]
theorem z6r (hC:zx Tryz.prog ctr)(h0f:ctr.Has qG):UI.Ok Tryz.prog:=by
 refine zy ?_;rintro l_ r0 aa;try unfold WZ at aa;refine yO true [(2,none)] UW 21 Tryz.func110 fun E hE=>?_;refine yJ X0 hC UW [1] [] [] (fun z:Unit=>Xu=some r0) (fun z=>z2u) [(0,.d (eSl 1 false F6_ l_))] [Hh (.cut 1)] ?_ fun J1 ar=>?_
 ·rintro⟨⟩ aa
  unfold Xu at aa;obtain rfl:=za aa;exact yE X0 hC hE []
 ·obtain⟨t2,ht2,aa⟩:=zc aa
  refine yL X0 hC UW [1,2,1,0] [J1] (fun s=>qS l_ s) (fun x=>z2t l_ x) 1 ht2  [] ?_;rintro i_ m2 av ae hl1 J2 ax;try unfold qS at ae
  let Z0:List HO:=[Ha (lnM F6_ l_)];rcases zG ae with⟨c0,ae⟩|⟨c0,ae⟩
  ·obtain⟨bw,h0,ae⟩:=zc ae
   obtain⟨jt,h1,ae⟩:=zc ae;obtain⟨r_,h2,ae⟩:=zc ae
   let Z1:List HO:=(Z0++[Hq c0,Hi F6_ h0,Hi F6_ h1,Hc h0f (x:=(bw,jt)) h2 (loC F6_ bw <| loC F6_ jt <| loN)]);rcases zG ae with⟨c1,ae⟩|⟨c1,ae⟩
   ·obtain rfl:=za ae
    obtain rfl:=hl1;obtain rfl:=za aa;exact yE X0 hC hE (Z1++[Hq c1])
   ·obtain rfl:=za ae
    exact yB X0 hC ax (w64 (i_+1)) hl1 (Z1++[Hq c1])
  ·obtain rfl:=za ae
   obtain rfl:=hl1;exact yB X0 hC ar () aa (Z0++[Hq c0])
def z5J:Code:=(Tryz.f78.body).getD .skip
def UK:zP:=spF (α:=List (List Int)×Int) (ρ:=Int) 78 (fun x=>[w8 x.1,(eI .i64) x.2]) (fun r=>(eI .i64) r) (fun x=>V1 x.1 x.2) [] (Qh)
theorem z6t (hC:zx Tryz.prog ctr)(h0v:ctr.Has Xx)(h1z:ctr.Has UI)(h0l:ctr.Has Xw):UK.Ok Tryz.prog:=by
 refine zy ?_;rintro⟨l_,inputs⟩ r0 aa;try unfold V1 at aa;refine yO true [(4,none)] z5J 18 Tryz.func78 fun E hE=>?_;obtain⟨r_,h0,aa⟩:=zc aa
 let Z0:List HO:=[Hc h0v (x:=(l_,inputs)) h0 (loC w8 l_ <| loC (eI .i64) inputs <| loN)];rcases zG aa with⟨c0,aa⟩|⟨c0,aa⟩
 ·obtain rfl:=za aa
  exact yE X0 hC hE (Z0++[Hq c0])
 ·obtain⟨ah,h1,aa⟩:=zc aa
  let Z1:List HO:=(Z0++[Hq c0,Hc h1z (x:=l_) h1 (loC w8 l_ <| loN)]);rcases zG aa with⟨c1,aa⟩|⟨c1,aa⟩
  ·obtain rfl:=za aa
   exact yE X0 hC hE (Z1++[Hq c1])
  ·obtain⟨al,h2,aa⟩:=zc aa
   let Z2:List HO:=(Z1++[Hq c1,Hc h0l (x:=l_) h2 (loC w8 l_ <| loN)]);rcases zG aa with⟨c2,aa⟩|⟨c2,aa⟩
   ·obtain rfl:=za aa
    exact yE X0 hC hE (Z2++[Hq c2])
   ·obtain rfl:=za aa
    exact yE X0 hC hE (Z2++[Hq c2])
def z4T:Code:=(Tryz.f49.body).getD .skip
def kD:zP:=spF (α:=z6×List (List Int)) (ρ:=Int) 49 (fun x=>[zL x.1,w8 x.2]) (fun r=>(eI .i64) r) (fun x=>kS x.1 x.2) [] (Qh)
theorem z5z (hC:zx Tryz.prog ctr)(h0h:ctr.Has vg)(h1A:ctr.Has UK):kD.Ok Tryz.prog:=by
 refine zy ?_;rintro⟨m_,l_⟩ r0 aa;try unfold kS at aa;refine yO true [(4,none)] z4T 15 Tryz.func49 fun E hE=>?_;obtain⟨r_,h0,aa⟩:=zc aa
 let Z0:List HO:=[Hc h0h (x:=m_) h0 (loC zL m_ <| loN)];rcases zG aa with⟨c0,aa⟩|⟨c0,aa⟩
 ·obtain rfl:=za aa
  exact yE X0 hC hE (Z0++[Hq c0])
 ·obtain⟨ah,h1,aa⟩:=zc aa
  obtain rfl:=za aa;exact yE X0 hC hE (Z0++[Hq c0,Hc h1A (x:=(l_,m_.Inputs)) h1 (loC w8 l_ <| loC (eI .i64) m_.Inputs <| loN)])
def z2m:Code:=(Tryz.f112.body).getD .skip
def Xk:zP:=spF (α:=z6×Int) (ρ:=Int) 112 (fun x=>[zL x.1,(eI .i64) x.2]) (fun r=>(eI .i64) r) (fun x=>ZC x.1 x.2) [] (Qh)
theorem z38 (hC:zx Tryz.prog ctr)(h02:ctr.Has xI):Xk.Ok Tryz.prog:=by
 refine zy ?_;rintro⟨m_,s_⟩ r0 aa;try unfold ZC at aa;refine yO true [(4,none)] z2m 20 Tryz.func112 fun E hE=>?_;obtain⟨r_,h0,aa⟩:=zc aa
 let Z0:List HO:=[Hc h02 (x:=m_) h0 (loC zL m_ <| loN)];rcases zG aa with⟨c0,aa⟩|⟨c0,aa⟩
 ·obtain rfl:=za aa
  exact yE X0 hC hE (Z0++[Hq c0])
 ·rcases zG aa with⟨c1,aa⟩|⟨c1,aa⟩
  ·obtain rfl:=za aa
   exact yE X0 hC hE (Z0++(Hq c0::(rpN 6 (Hq c1) [qT])))
  ·let Z1:List HO:=(Z0++(Hq c0::(rpN 4 (Hq c1) [Ha (lnM yW m_.Rows),Hq c1,Hq c1])))
   rcases zG aa with⟨c2,aa⟩|⟨c2,aa⟩
   ·obtain rfl:=za aa
    exact yE X0 hC hE (Z1++[Hq c2])
   ·obtain rfl:=za aa
    exact yE X0 hC hE (Z1++[Hq c2])
def X2:Code:=(Tryz.f114.body).getD .skip
def V8:zP:=spF (α:=z6×Int×List Int) (ρ:=List Int×Int) 114 (fun x=>[zL x.1,(eI .i64) x.2.1,F6_ x.2.2]) (fun r=>.opq (Yi [some (F3_ r.1),some ((eI .i64) r.2)])) (fun x=>XR x.1 x.2.1 x.2.2) [] (zaG)
abbrev z1I (a7:Int)(out:List Int):List (Nat×T):=[(1,.d (I a7)),(8,.own (eOs 1 true (eI .i64) out))]
abbrev z1H (m_:z6)(w_:List Int)(ai:List Int)(aq:Int)(em:Int)(im:Int):List (Nat×T):=[(3,.own (.box (zL m_))),(8,.own (eOs 1 true (eI .i64) ai)),(9,.d (I aq)),(11,.own (.box (.agg [I em,I im]))),(15,.d (eSl 1 false (eI .i64) w_)),(16,.d (I ((w_.length:Nat):Int))),(17,.d (I aq))]
abbrev z1G (m_:z6)(w_:List Int)(bi:Int)(ai:List Int)(aq:Int):List (Nat×T):=[(1,.d (I bi)),(3,.own (.box (zL m_))),(8,.own (eOs 1 true (eI .i64) ai)),(15,.d (eSl 1 false (eI .i64) w_)),(16,.d (I ((w_.length:Nat):Int))),(17,.d (I aq))]
theorem z5v (hC:zx Tryz.prog ctr)(h0d:ctr.Has qH):V8.Ok Tryz.prog:=by
 refine zy ?_;rintro⟨m_,s_,w_⟩ r0 aa;try unfold XR at aa;refine z1g (tt:=yu) (rs:=[(true,6,none),(false,7,none)]) (n:=⟨43,[]⟩) (body:=X2) zt Tryz.func114 rfl (by kernel_rfl) rfl rfl (by show(3:Nat)<=43;decide) fun E hE=>?_
 obtain⟨g0,aa⟩:=gdE aa;refine yJ X0 hC X2 [1,1] [] [1,8] (fun z:Int×List Int=>YP z.1 z.2=some r0) (fun z=>z1I z.1 z.2) [(1,.d (I s_)),(2,.d (eSl 1 false (eI .i64) w_)),(3,.own (.box (zL m_))),(8,.own (eOs 1 true (eI .i64) (List.replicate ((w_.length:Nat):Int).toNat (0:Int))))] [Ha (lnM (eI .i64) w_),Hn (rL g0),Ha (rM 1 (eI .i64) ((w_.length:Nat):Int) (0:Int)),Hh (.cut 0)] ?_ fun J1 ar=>?_
 ·rintro⟨a7,out⟩ aa
  unfold YP at aa;obtain rfl:=za aa
  let ZE:List HO:=[];exact Wp X0 zt hC Zr hE 4000 (hs:=hoH ZE) (x:=(.opq (Yi [some (eOs 1 true (eI .i64) out),some (I a7)]))) (hoB ZE) (by kernel_rfl) (LeV.refl _)
 ·obtain⟨t2,ht2,aa⟩:=zc aa
  refine yL X0 hC X2 [1,1,2,1,0] [J1] (fun s=>YO m_ w_ s.1 s.2.1 s.2.2) (fun x=>z1G m_ w_ x.1 x.2.1 x.2.2) (s_,(List.replicate ((w_.length:Nat):Int).toNat (0:Int)),0) ht2  [Ha (lnM (eI .i64) w_)] ?_;rintro⟨bi,ai,aq⟩ m2 av ae hl1 J2 ax;try unfold YO at ae;rcases zG ae with⟨c0,ae⟩|⟨c0,ae⟩
  ·obtain⟨fj,h0,ae⟩:=zc ae
   obtain⟨r_,h1,ae⟩:=zc ae;refine yJ X0 hC X2 [1,1,2,1,0,0,1,1,0,0,1,1] [J1,J2] [3,8,9,11,15,16,17] (fun z:Int×Int=>kR ai aq z.1 z.2=some av) (fun z=>z1H m_ w_ ai aq z.1 z.2) [(1,.d (I bi)),(3,.own (.box (zL m_))),(8,.own (eOs 1 true (eI .i64) ai)),(9,.d (I aq)),(10,.d (I fj)),(11,.own (.box (F8_ r_))),(15,.d (eSl 1 false (eI .i64) w_)),(16,.d (I ((w_.length:Nat):Int))),(17,.d (I aq))] [Hq c0,Hi (eI .i64) h0,Hc h0d (x:=()) h1 (loN),Hh (.cut 0)] ?_ fun J3 bh=>?_
   ·rintro⟨em,im⟩ ae
    unfold kR at ae;obtain⟨ca,h2,ae⟩:=zc ae;obtain rfl:=za ae;exact yB X0 hC ax (em,(ai.set aq.toNat im),w64 (aq+1)) hl1 [Hn (iL (eI .i64) h2),Hs (iM (eI .i64) h2),Hs (iM (eI .i64) h2),Hl (sM (eI .i64) ai aq im)]
   ·rcases zG ae with⟨c1,ae⟩|⟨c1,ae⟩
    ·obtain⟨am,h3,ae⟩:=zc ae
     obtain⟨ak,h4,ae⟩:=zc ae;exact yB X0 hC bh (ak.To,ak.Out) ae [Hq c1,Hi yW h3,Hi F8_ h4]
    ·exact yB X0 hC bh (r_.To,r_.Out) ae [Hq c1]
  ·obtain rfl:=za ae
   obtain rfl:=hl1;exact yB X0 hC ar (bi,ai) aa [Hq c0]
def z4R:Code:=(Tryz.f79.body).getD .skip
def V9:zP:=spF (α:=z6×Int×List Int) (ρ:=List Int×Int) 79 (fun x=>[zL x.1,(eI .i64) x.2.1,F6_ x.2.2]) (fun r=>.opq (Yi [some (F3_ r.1),some ((eI .i64) r.2)])) (fun x=>XS x.1 x.2.1 x.2.2) [] (zaG)
theorem z5w (hC:zx Tryz.prog ctr)(h1B:ctr.Has Xk)(h0t:ctr.Has Xv)(h1C:ctr.Has V8):V9.Ok Tryz.prog:=by
 refine zy ?_;rintro⟨m_,s_,w_⟩ r0 aa;try unfold XS at aa;refine z1g (tt:=yu) (rs:=[(true,6,none),(false,7,none)]) (n:=⟨33,[]⟩) (body:=z4R) zt Tryz.func79 rfl (by kernel_rfl) rfl rfl (by show(3:Nat)<=33;decide) fun E hE=>?_
 obtain⟨r_,h0,aa⟩:=zc aa
 let Z0:List HO:=[Hc h1B (x:=(m_,s_)) h0 (loC zL m_ <| loC (eI .i64) s_ <| loN)];rcases zG aa with⟨c0,aa⟩|⟨c0,aa⟩
 ·obtain rfl:=za aa
  let ZE:List HO:=(Z0++[Hq c0]);exact Wp X0 zt hC Zr hE 4000 (hs:=hoH ZE) (x:=(.opq (Yi [some (eOs 1 true (eI .i64) []),some (I r_)]))) (hoB ZE) (by kernel_rfl) (show LeV (.opq (Yi [some (eOs 1 true (eI .i64) []),some (I r_)])) (.opq (Yi [some (eOs 1 true (eI .i64) ([]:List Int)),some (I r_)])) from inferInstance)
 ·obtain⟨ah,h1,aa⟩:=zc aa
  let Z1:List HO:=(Z0++[Hq c0,Hc h0t (x:=(w_,m_.Inputs)) h1 (loC F6_ w_ <| loC (eI .i64) m_.Inputs <| loN)]);rcases zG aa with⟨c1,aa⟩|⟨c1,aa⟩
  ·obtain rfl:=za aa
   let ZE:List HO:=(Z1++[Hq c1]);exact Wp X0 zt hC Zr hE 4000 (hs:=hoH ZE) (x:=(.opq (Yi [some (eOs 1 true (eI .i64) []),some (I ah)]))) (hoB ZE) (by kernel_rfl) (show LeV (.opq (Yi [some (eOs 1 true (eI .i64) []),some (I ah)])) (.opq (Yi [some (eOs 1 true (eI .i64) ([]:List Int)),some (I ah)])) from inferInstance)
  ·obtain⟨al,h2,aa⟩:=zc aa
   obtain rfl:=za aa
   let ZE:List HO:=(Z1++[Hq c1,Hc h1C (x:=(m_,s_,w_)) h2 (loC zL m_ <| loC (eI .i64) s_ <| loC F6_ w_ <| loN),Hn (⟨rfl,rfl⟩:T.own (.opq (Yi [some (eOs 1 true (eI .i64) al.1),some (I al.2)]))=T.own (.opq (Yi [some (eOs 1 true (eI .i64) al.1),some (I al.2)]))/\1=1),Hn (⟨rfl,rfl⟩:T.own (.opq (Yi [none,some (I al.2)]))=T.own (.opq (Yi [none,some (I al.2)]))/\1=1)]);exact Wp ((XK Tryz.prog 31 [none,some (I al.2)]).or ((XK Tryz.prog 30 [some (eOs 1 true (eI .i64) al.1),some (I al.2)]).or X0)) zt hC Zr hE 4000 (hs:=hoH ZE) (x:=(.opq (Yi [some (eOs 1 true (eI .i64) al.1),some (I 0)]))) (hoB ZE) (by kernel_rfl) (LeV.refl _)
def Vx:Code:=(Tryz.f48.body).getD .skip
def yQ:zP:=spR (α:=List (List Int)) (ρ:=List (List Int)) 48 (fun x=>[(eOs 1 false F3_) x]) (fun r=>zmH r) (fun x=>xJ x) [true] (Vr)
theorem Vs:∀x r,(fun x=>xJ x) x=some r->(Qi.add yQ).run 48 ((Qi.add yQ).norm 48 ((fun x=>[(eOs 1 false F3_) x]) x))=some ((fun r=>zmH r) r):=fun x r h=>zkj h rfl
theorem Vu:(Qi.add yQ).lend 48=none/\(Qi.add yQ).gives 48=[true]:=zcX
theorem VR (hC:zx Tryz.prog ctr):yQ.Ok Tryz.prog:=by
 refine z7Y ?_;rintro s_ r0 aa;try unfold xJ at aa;refine yO true [(2,none)] Vx 9 Tryz.func48 fun E hE=>?_;obtain rfl:=za aa;exact yE ((xCl zt 8).or X0) hC hE [Ha (lnM F3_ s_),Ha (lnM F3_ s_),Hn (Int.natCast_nonneg _:(0:Int)<=((s_.length:Nat):Int)),Hn (Int.natCast_nonneg _:(0:Int)<=((s_.length:Nat):Int)),Hn (clB F3_ s_),Ha (clE 1 F3_ s_)]
def Y6:Code:=(Tryz.f50.body).getD .skip
def wc:zP:=spF (α:=z6×List (List Int)×Int) (ρ:=List (List Int)) 50 (fun x=>[zL x.1,w8 x.2.1,(eI .i64) x.2.2]) (fun r=>zmH r) (fun x=>xG x.1 x.2.1 x.2.2) [] (zaG)
abbrev Jm (out:List (List Int)):List (Nat×T):=[(7,.own (eOs 1 false F3_ out))]
abbrev Jl (m_:z6)(l_:List (List Int))(s_:Int)(ai:List (List Int))(cj:Int):List (Nat×T):=[(2,.d (I s_)),(3,.own (.box (zL m_))),(7,.own (eOs 1 false F3_ ai)),(12,.d (eSl 1 false F6_ l_)),(13,.d (I ((l_.length:Nat):Int))),(14,.d (I cj))]
theorem z0W (hC:zx Tryz.prog ctr)(h1D:ctr.Has V9):wc.Ok Tryz.prog:=by
 refine zy ?_;rintro⟨m_,l_,s_⟩ r0 aa;try unfold xG at aa;refine yO true [(6,none)] Y6 32 Tryz.func50 fun E hE=>?_;refine yJ X0 hC Y6 [1,1] [] [7] (fun z:List (List Int)=>qo z=some r0) (fun z=>Jm z) [(1,.d (eSl 1 false F6_ l_)),(2,.d (I s_)),(3,.own (.box (zL m_))),(7,.own (eOs 1 true F6_ []))] [Hh (.cut 2)] ?_ fun J1 ar=>?_
 ·rintro out aa
  unfold qo at aa;obtain⟨r_,h0,aa⟩:=zc aa;obtain rfl:=za aa;exact yE ((z1R zt (VR hC) 31).or X0) hC hE [Hh (.g [true]),Hn Vu,Hx (.a (zmH r_)) (Vs out _ h0)]
 ·obtain⟨t2,ht2,aa⟩:=zc aa
  refine yLx X0 hC Y6 [1,1,2,1,0] [J1] (fun s=>yT m_ l_ s_ s.1 s.2) (fun x=>Jl m_ l_ s_ x.1 x.2) (([]:List (List Int)),0) ht2 [(2,.d (I s_)),(3,.own (.box (zL m_))),(7,.own (eOs 1 true F3_ [])),(12,.d (eSl 1 false F6_ l_)),(13,.d (I ((l_.length:Nat):Int))),(14,.d (I 0))] inferInstance [Ha (lnM F6_ l_)] ?_;rintro⟨ai,cj⟩ m2 av ae hl1 J2 ax;try unfold yT at ae;rcases zG ae with⟨c0,ae⟩|⟨c0,ae⟩
  ·obtain⟨bw,h1,ae⟩:=zc ae
   obtain⟨ah,h2,ae⟩:=zc ae;obtain⟨g0,ae⟩:=gdE ae;obtain rfl:=za ae;exact yB ((XK Tryz.prog 24 [none,some (I ah.2)]).or ((XK Tryz.prog 23 [some (eOs 1 true (eI .i64) ah.1),some (I ah.2)]).or X0)) hC ax ((ai++([ah.1]:List (List Int))),w64 (cj+1)) hl1 [Hq c0,Hi F6_ h1,Hc h1D (x:=(m_,s_,bw)) h2 (loC zL m_ <| loC (eI .i64) s_ <| loC F6_ bw <| loN),Hn (⟨rfl,rfl⟩:T.own (.opq (Yi [some (eOs 1 true (eI .i64) ah.1),some (I ah.2)]))=T.own (.opq (Yi [some (eOs 1 true (eI .i64) ah.1),some (I ah.2)]))/\1=1),Hn (⟨rfl,rfl⟩:T.own (.opq (Yi [none,some (I ah.2)]))=T.own (.opq (Yi [none,some (I ah.2)]))/\1=1),Hq (oC F3_ ah.1 []),Hn (aL F3_ F3_ g0),Hl (aM F3_ ai ([ah.1]:List (List Int)))]
  ·obtain rfl:=za ae
   obtain rfl:=hl1;exact yB X0 hC ar ai aa [Hq c0]
def JX:Code:=(Tryz.f81.body).getD .skip
def kE:zP:=spF (α:=List Int×List Int) (ρ:=Bool) 81 (fun x=>[F6_ x.1,F6_ x.2]) (fun r=>eB r) (fun x=>jQ x.1 x.2) [] (Qh)
theorem Kz (hC:zx Tryz.prog ctr)(h0a:ctr.Has xP):kE.Ok Tryz.prog:=by
 refine zy ?_;rintro⟨x_,y_⟩ r0 aa;try unfold jQ at aa;refine yO true [(4,none)] JX 8 Tryz.func81 fun E hE=>?_;obtain⟨r_,h0,aa⟩:=zc aa;obtain rfl:=za aa;exact yE X0 hC hE [Hc h0a (x:=(x_,y_)) h0 (loC F6_ x_ <| loC F6_ y_ <| loN)]
def xD:Code:=(Tryz.f56.body).getD .skip
def xy:zP:=spF (α:=List (List Int)×List (List Int)×Unit) (ρ:=Bool) 56 (fun x=>[w8 x.1,w8 x.2.1,(z9I 81) x.2.2]) (fun r=>eB r) (fun x=>yK x.1 x.2.1 x.2.2) [] (by
 rintro⟨a0,a1,a2⟩ ⟨b0,b1,b2⟩ h;have e0:=Yc.inj (f:=w8) _ _ (List.cons.inj h).1;replace h:=(List.cons.inj h).2;have e1:=Yc.inj (f:=w8) _ _ (List.cons.inj h).1;replace h:=(List.cons.inj h).2;have e2:=Yc.inj (f:=(z9I 81)) _ _ (List.cons.inj h).1;subst e0 e1 e2;rfl)
abbrev kW:List (Nat×T):=[]
abbrev kV (s1:List (List Int))(s2:List (List Int))(aq:Int):List (Nat×T):=[(1,.d (eSl 1 false F6_ s2)),(2,.d (.fn 81 [])),(15,.d (eSl 1 false F6_ s1)),(16,.d (I ((s1.length:Nat):Int))),(17,.d (I aq))]
theorem ZW (hC:zx Tryz.prog ctr)(h1E:ctr.Has kE):xy.Ok Tryz.prog:=by
 refine zy ?_;rintro⟨s1,s2,eq⟩ r0 aa;try unfold yK at aa;refine yO true [(6,none)] xD 32 Tryz.func56 fun E hE=>?_
 let Z0:List HO:=[Ha (lnM F6_ s1),Ha (lnM F6_ s2)];rcases zG aa with⟨c0,aa⟩|⟨c0,aa⟩
 ·obtain rfl:=za aa
  exact yE X0 hC hE (Z0++[Hq c0])
 ·refine yJ X0 hC xD [1,1] [] [] (fun z:Unit=>xz=some r0) (fun z=>kW) [(0,.d (eSl 1 false F6_ s1)),(1,.d (eSl 1 false F6_ s2)),(2,.d (.fn 81 []))] (Z0++[Hq c0,Hh (.cut 0)]) ?_ fun J1 ar=>?_
  ·rintro⟨⟩ aa
   unfold xz at aa;obtain rfl:=za aa;exact yE X0 hC hE []
  ·obtain⟨t2,ht2,aa⟩:=zc aa
   refine yL X0 hC xD [1,1,2,1,0] [J1] (fun s=>zT s1 s2 s) (fun x=>kV s1 s2 x) 0 ht2  [Ha (lnM F6_ s1)] ?_;rintro aq m2 av ae hl1 J2 ax;try unfold zT at ae;rcases zG ae with⟨c1,ae⟩|⟨c1,ae⟩
   ·obtain⟨fw,h0,ae⟩:=zc ae
    obtain⟨dx,h1,ae⟩:=zc ae;obtain⟨r_,h2,ae⟩:=zc ae
    let Z1:List HO:=[Hq c1,Hi F6_ h0,Hi F6_ h1,Hc h1E (x:=(fw,dx)) h2 (loC F6_ fw <| loC F6_ dx <| loN)];rcases zG ae with⟨c2,ae⟩|⟨c2,ae⟩
    ·obtain rfl:=za ae
     obtain rfl:=hl1;obtain rfl:=za aa;exact yE X0 hC hE (Z1++[Hq c2])
    ·obtain rfl:=za ae
     exact yB X0 hC ax (w64 (aq+1)) hl1 (Z1++[Hq c2])
   ·obtain rfl:=za ae
    obtain rfl:=hl1;exact yB X0 hC ar () aa [Hq c1]
def z0k:Code:=(Tryz.f52.body).getD .skip
def vj:zP:=spF (α:=List (List Int)×List (List Int)) (ρ:=Bool) 52 (fun x=>[w8 x.1,w8 x.2]) (fun r=>eB r) (fun x=>wN x.1 x.2) [] (Qh)
theorem z0Y (hC:zx Tryz.prog ctr)(h1F:ctr.Has xy):vj.Ok Tryz.prog:=by
 refine zy ?_;rintro⟨a_,b_⟩ r0 aa;try unfold wN at aa;refine yO true [(4,none)] z0k 8 Tryz.func52 fun E hE=>?_;obtain⟨r_,h0,aa⟩:=zc aa;obtain rfl:=za aa;exact yE X0 hC hE [Hc h1F (x:=(a_,b_,())) h0 (loC w8 a_ <| loC w8 b_ <| loC (z9I 81) () <| loN)]
def wy:Code:=(Tryz.f18.body).getD .skip
def Yt:zP:=spF (α:=z6×List (List Int)) (ρ:=Bool×Int) 18 (fun x=>[zL x.1,w8 x.2]) (fun r=>.tup [eB r.1,(eI .i64) r.2]) (fun x=>uZ x.1 x.2) [] (Qh)
abbrev z1L:List (Nat×T):=[(4,.own (.box (B false))),(5,.own (.box (I 0)))]
abbrev jU (all:List (List (List Int)))(ah:Int):List (Nat×T):=[(4,.own (.box (B false))),(5,.own (.box (I 0))),(7,.own (.box (eOs 1 false F9_ all))),(34,.d (.fn 80 [.sptr (I ah)]))]
abbrev z1M (m_:z6)(all:List (List (List Int))):List (Nat×T):=[(2,.own (.box (zL m_))),(4,.own (.box (B false))),(5,.own (.box (I 0))),(7,.own (.box (eOs 1 false F9_ all)))]
abbrev z1K (m_:z6)(l_:List (List Int))(gz:List (List (List Int)))(jb:Int):List (Nat×T):=[(1,.d (eSl 1 false F6_ l_)),(2,.own (.box (zL m_))),(4,.own (.box (B false))),(5,.own (.box (I 0))),(7,.own (.box (eOs 1 false F9_ gz))),(19,.d (I ((m_.Rows.length:Nat):Int))),(20,.d (I jb))]
def yV:XH Tryz.prog:=((QT zt (.inl 28) [27]).or X0)
theorem z5C (hC:zx Tryz.prog ctr)(h0i:ctr.Has kD)(h06:ctr.Has wc)(h05:ctr.Has vh)(h08:ctr.Has vj):Yt.Ok Tryz.prog:=by
 refine zy ?_;rintro⟨m_,l_⟩ r0 aa;try unfold uZ at aa;refine yO false [(4,some 4),(5,some 33)] wy 46 Tryz.func18 fun E hE=>?_;obtain⟨r_,h0,aa⟩:=zc aa
 let Z0:List HO:=[Hc h0i (x:=(m_,l_)) h0 (loC zL m_ <| loC w8 l_ <| loN)];rcases zG aa with⟨c0,aa⟩|⟨c0,aa⟩
 ·obtain rfl:=za aa
  exact yE yV hC hE (Z0++[Hq c0])
 ·refine yJ yV hC wy [1,1,1] [] [2,4,5,7] (fun z:List (List (List Int))=>YV m_ z=some r0) (fun z=>z1M m_ z) [(1,.d (eSl 1 false F6_ l_)),(2,.own (.box (zL m_))),(4,.own (.box (B false))),(5,.own (.box (I 0))),(7,.own (.box (eOs 1 true w8 [])))] (Z0++[Hq c0,Hh (.cut 1)]) ?_ fun J1 ar=>?_
  ·rintro all aa
   unfold YV at aa;refine yJ yV hC wy [1,1,1,1] [] [4,5] (fun z:Unit=>YU=some r0) (fun z=>z1L) [(2,.own (.box (zL m_))),(4,.own (.box (B false))),(5,.own (.box (I 0))),(7,.own (.box (eOs 1 false F9_ all)))] [Hh (.cut 0)] ?_ fun J2 ax=>?_
   ·rintro⟨⟩ aa
    unfold YU at aa;obtain rfl:=za aa;exact yE yV hC hE []
   ·obtain⟨ah,h1,aa⟩:=zc aa
    obtain⟨t3,ht3,aa⟩:=zc aa;refine yAt yV hC (sub [1,1,1,1,2,1,0] wy) (frs [1,1,1,1,2,1,0] [J2] wy []) [(4,.own (.box (B false))),(5,.own (.box (I 0))),(7,.own (.box (eOs 1 false F9_ all))),(34,.d (.fn 80 [.sptr (I ah)]))] [Ha (lnM yW m_.Rows),Hc h05 (x:=((m_.Rows.length:Nat):Int)) h1 (loC (eI .i64) ((m_.Rows.length:Nat):Int) <| loN)] fun st0 h0=>?_;refine z0m (g:=.tmp 34) (ps:=[35,36]) (assign:=(sub [1,1,1,1,2,1,0,0] wy)) (body:=(sub [1,1,1,1,2,1,0,1] wy)) (K:=80) (caps:=[.sptr (I ah)]) (by kernel_rfl) [4,5,7,34] (fun s=>jU all ah) (fun s=>jU all ah) (fun s=>Code.ret) ((fun(x:Int×Int) (_:Bool) (_:Value)=>[(eI .i64) x.1,(eI .i64) x.2])) (F:=@yU ah) (fun s x=>uR all x.1 x.2) () t3 _ h0 inferInstance (by kernel_rfl) (by decide) (fun _=>rfl) (fun _=>rfl) (by kernel_rfl) (fun _ _ _=>rfl) (ZI hC ah) ht3 ?_ ?_
    ·rintro mv ⟨⟩ ⟨lk,ic⟩ vr av ae
     replace ae:uR all lk ic=some av:=ae;unfold uR at ae;refine yF yV hC .normal [(4,.own (.box (B false))),(5,.own (.box (I 0))),(7,.own (.box (eOs 1 false F9_ all))),(9,.d (I lk)),(10,.d (I ic)),(34,.d (.fn 80 [.sptr (I ah)]))] [] fun st0 h0=>⟨rfl,z7r h0 ?_⟩;obtain⟨ju,h2,ae⟩:=zc ae;obtain⟨ja,h3,ae⟩:=zc ae;obtain⟨al,h4,ae⟩:=zc ae
     let Z1:List HO:=[Hn (iL F9_ h2),Hs (iM F9_ h2),Hn (iL F9_ h3),Hs (iM F9_ h3),Hc h08 (x:=(ju,ja)) h4 (loC F9_ ju <| loC F9_ ja <| loN)];rcases zG ae with⟨c1,ae⟩|⟨c1,ae⟩
     ·obtain rfl:=za ae
      exact yF yV hC .ret (jU all ah) (Z1++[Hq c1]) fun st0 h0=>⟨rfl,_,h0,LeL.refl _⟩
     ·obtain rfl:=za ae
      exact yF yV hC .normal (jU all ah) (Z1++[Hq c1]) fun st0 h0=>⟨rfl,_,h0,LeL.refl _⟩
    ·rcases t3 with⟨⟩|z
     ·dsimp only at aa
      exact XY (by kernel_rfl) (ax _ [(4,.own (.box (B false))),(5,.own (.box (I 0)))] () aa (show Own.canon [4,5] _=ofL _ by kernel_rfl) inferInstance)
     ·obtain⟨⟩:=z
      dsimp only at aa
      show AWP _ _ (Code.ret) _ _
      obtain rfl:=za aa;exact yE yV hC hE []
  ·obtain⟨t4,ht4,aa⟩:=zc aa
   refine yLx yV hC wy [1,1,1,2,1,0] [J1] (fun s=>wx m_ l_ s.1 s.2) (fun x=>z1K m_ l_ x.1 x.2) (([]:List (List (List Int))),0) ht4 [(1,.d (eSl 1 false F6_ l_)),(2,.own (.box (zL m_))),(4,.own (.box (B false))),(5,.own (.box (I 0))),(7,.own (.box (eOs 1 true F9_ []))),(19,.d (I ((m_.Rows.length:Nat):Int))),(20,.d (I 0))] inferInstance [Ha (lnM yW m_.Rows)] ?_;rintro⟨gz,jb⟩ m4 av ae hl1 J4 ck;try unfold wx at ae;rcases zG ae with⟨c2,ae⟩|⟨c2,ae⟩
   ·obtain⟨az,h5,ae⟩:=zc ae
    obtain⟨g0,ae⟩:=gdE ae;obtain rfl:=za ae;exact yB yV hC ck ((gz++([az]:List (List (List Int)))),w64 (jb+1)) hl1 [Hq c2,Hc h06 (x:=(m_,l_,jb)) h5 (loC zL m_ <| loC w8 l_ <| loC (eI .i64) jb <| loN),Hm (shM F3_ F2_ az),Hq (dM F9_ ([az]:List (List (List Int)))),Hn (dM F9_ ([az]:List (List (List Int)))),Hn (aL F9_ F9_ g0),Hl (aM F9_ gz ([az]:List (List (List Int))))]
   ·obtain rfl:=za ae
    obtain rfl:=hl1;exact yB yV hC ar gz aa [Hq c2]
def z0l:Code:=(Tryz.f22.body).getD .skip
def qe:zP:=spF (α:=z6×List (List Int)×Int) (ρ:=List (List Int)×Int) 22 (fun x=>[zL x.1,w8 x.2.1,(eI .i64) x.2.2]) (fun r=>.opq (Yi [some (zmH r.1),some ((eI .i64) r.2)])) (fun x=>vL x.1 x.2.1 x.2.2) [] (zaG)
theorem z0Z (hC:zx Tryz.prog ctr)(h0i:ctr.Has kD)(h06:ctr.Has wc):qe.Ok Tryz.prog:=by
 refine zy ?_;rintro⟨m_,l_,s_⟩ r0 aa;try unfold vL at aa;refine z1g (tt:=yu) (rs:=[(true,6,none),(false,7,none)]) (n:=⟨28,[]⟩) (body:=z0l) zt Tryz.func22 rfl (by kernel_rfl) rfl rfl (by show(3:Nat)<=28;decide) fun E hE=>?_
 obtain⟨r_,h0,aa⟩:=zc aa
 let Z0:List HO:=[Hc h0i (x:=(m_,l_)) h0 (loC zL m_ <| loC w8 l_ <| loN)];rcases zG aa with⟨c0,aa⟩|⟨c0,aa⟩
 ·obtain rfl:=za aa
  let ZE:List HO:=(Z0++[Hq c0]);exact Wp X0 zt hC Zr hE 4000 (hs:=hoH ZE) (x:=(.opq (Yi [some (eOs 1 true F3_ []),some (I r_)]))) (hoB ZE) (by kernel_rfl) (show LeV (.opq (Yi [some (eOs 1 true F3_ []),some (I r_)])) (.opq (Yi [some (eOs 1 true F3_ ([]:List (List Int))),some (I r_)])) from inferInstance)
 ·rcases zG aa with⟨c1,aa⟩|⟨c1,aa⟩
  ·obtain rfl:=za aa
   let ZE:List HO:=(Z0++(Hq c0::(rpN 6 (Hq c1) [qT])));exact Wp X0 zt hC Zr hE 4000 (hs:=hoH ZE) (x:=(.opq (Yi [some (eOs 1 true F3_ []),some (I 1)]))) (hoB ZE) (by kernel_rfl) (show LeV (.opq (Yi [some (eOs 1 true F3_ []),some (I 1)])) (.opq (Yi [some (eOs 1 true F3_ ([]:List (List Int))),some (I 1)])) from inferInstance)
  ·let Z1:List HO:=(Z0++(Hq c0::(rpN 4 (Hq c1) [Ha (lnM yW m_.Rows),Hq c1,Hq c1])))
   rcases zG aa with⟨c2,aa⟩|⟨c2,aa⟩
   ·obtain rfl:=za aa
    let ZE:List HO:=(Z1++[Hq c2]);exact Wp X0 zt hC Zr hE 4000 (hs:=hoH ZE) (x:=(.opq (Yi [some (eOs 1 true F3_ []),some (I 1)]))) (hoB ZE) (by kernel_rfl) (show LeV (.opq (Yi [some (eOs 1 true F3_ []),some (I 1)])) (.opq (Yi [some (eOs 1 true F3_ ([]:List (List Int))),some (I 1)])) from inferInstance)
   ·obtain⟨ah,h1,aa⟩:=zc aa
    obtain rfl:=za aa
    let ZE:List HO:=(Z1++[Hq c2,Hc h06 (x:=(m_,l_,s_)) h1 (loC zL m_ <| loC w8 l_ <| loC (eI .i64) s_ <| loN)]);exact Wp X0 zt hC Zr hE 4000 (hs:=hoH ZE) (x:=(.opq (Yi [some (eOs 1 true F3_ ah),some (I 0)]))) (hoB ZE) (by kernel_rfl) (LeV.refl _)
def KI:Code:=(Tryz.f57.body).getD .skip
def ur:zP:=spF (α:=List Int×List Int) (ρ:=Bool) 57 (fun x=>[F6_ x.1,F6_ x.2]) (fun r=>eB r) (fun x=>Zn x.1 x.2) [] (Qh)
theorem z01 (hC:zx Tryz.prog ctr):ur.Ok Tryz.prog:=by
 refine zy ?_;rintro⟨a_,b_⟩ r0 aa;try unfold Zn at aa;refine yO true [(4,none)] KI 10 Tryz.func57 fun E hE=>?_;obtain rfl:=za aa;exact yE X0 hC hE [Ha (lnM (eI .i64) a_),Ha (lnM (eI .i64) b_)]
def yP:Code:=(Tryz.f56.body).getD .skip
def wk:zP:=spF (α:=List (List Int)×List (List Int)×Unit) (ρ:=Bool) 56 (fun x=>[w8 x.1,w8 x.2.1,(z9I 57) x.2.2]) (fun r=>eB r) (fun x=>y5 x.1 x.2.1 x.2.2) [] (by
 rintro⟨a0,a1,a2⟩ ⟨b0,b1,b2⟩ h;have e0:=Yc.inj (f:=w8) _ _ (List.cons.inj h).1;replace h:=(List.cons.inj h).2;have e1:=Yc.inj (f:=w8) _ _ (List.cons.inj h).1;replace h:=(List.cons.inj h).2;have e2:=Yc.inj (f:=(z9I 57)) _ _ (List.cons.inj h).1;subst e0 e1 e2;rfl)
abbrev qB:List (Nat×T):=[]
abbrev qA (s1:List (List Int))(s2:List (List Int))(aq:Int):List (Nat×T):=[(1,.d (eSl 1 false F6_ s2)),(2,.d (.fn 57 [])),(15,.d (eSl 1 false F6_ s1)),(16,.d (I ((s1.length:Nat):Int))),(17,.d (I aq))]
theorem wp (hC:zx Tryz.prog ctr)(h0n:ctr.Has ur):wk.Ok Tryz.prog:=by
 refine zy ?_;rintro⟨s1,s2,eq⟩ r0 aa;try unfold y5 at aa;refine yO true [(6,none)] yP 32 Tryz.func56 fun E hE=>?_
 let Z0:List HO:=[Ha (lnM F6_ s1),Ha (lnM F6_ s2)];rcases zG aa with⟨c0,aa⟩|⟨c0,aa⟩
 ·obtain rfl:=za aa
  exact yE X0 hC hE (Z0++[Hq c0])
 ·refine yJ X0 hC yP [1,1] [] [] (fun z:Unit=>yN=some r0) (fun z=>qB) [(0,.d (eSl 1 false F6_ s1)),(1,.d (eSl 1 false F6_ s2)),(2,.d (.fn 57 []))] (Z0++[Hq c0,Hh (.cut 0)]) ?_ fun J1 ar=>?_
  ·rintro⟨⟩ aa
   unfold yN at aa;obtain rfl:=za aa;exact yE X0 hC hE []
  ·obtain⟨t2,ht2,aa⟩:=zc aa
   refine yL X0 hC yP [1,1,2,1,0] [J1] (fun s=>zJ s1 s2 s) (fun x=>qA s1 s2 x) 0 ht2  [Ha (lnM F6_ s1)] ?_;rintro aq m2 av ae hl1 J2 ax;try unfold zJ at ae;rcases zG ae with⟨c1,ae⟩|⟨c1,ae⟩
   ·obtain⟨fw,h0,ae⟩:=zc ae
    obtain⟨dx,h1,ae⟩:=zc ae;obtain⟨r_,h2,ae⟩:=zc ae
    let Z1:List HO:=[Hq c1,Hi F6_ h0,Hi F6_ h1,Hc h0n (x:=(fw,dx)) h2 (loC F6_ fw <| loC F6_ dx <| loN)];rcases zG ae with⟨c2,ae⟩|⟨c2,ae⟩
    ·obtain rfl:=za ae
     obtain rfl:=hl1;obtain rfl:=za aa;exact yE X0 hC hE (Z1++[Hq c2])
    ·obtain rfl:=za ae
     exact yB X0 hC ax (w64 (aq+1)) hl1 (Z1++[Hq c2])
   ·obtain rfl:=za ae
    obtain rfl:=hl1;exact yB X0 hC ar () aa [Hq c1]
def Uc:Code:=(Tryz.f58.body).getD .skip
def xh:zP:=spR (α:=List Int) (ρ:=List Int) 58 (fun x=>[F5_ x]) (fun r=>F3_ r) (fun x=>xS x) [true] (Vr)
theorem VY:∀x r,(fun x=>xS x) x=some r->(Qi.add xh).run 58 ((Qi.add xh).norm 58 ((fun x=>[F5_ x]) x))=some ((fun r=>F3_ r) r):=fun x r h=>zkj h rfl
theorem Ua:(Qi.add xh).lend 58=none/\(Qi.add xh).gives 58=[true]:=zcX
theorem UD (hC:zx Tryz.prog ctr):xh.Ok Tryz.prog:=by
 refine z7Y ?_;rintro s_ r0 aa;try unfold xS at aa;refine yO true [(2,none)] Uc 9 Tryz.func58 fun E hE=>?_;obtain rfl:=za aa;exact yE ((xCl zt 8).or X0) hC hE [Ha (lnM (eI .i64) s_),Ha (lnM (eI .i64) s_),Hn (Int.natCast_nonneg _:(0:Int)<=((s_.length:Nat):Int)),Hn (Int.natCast_nonneg _:(0:Int)<=((s_.length:Nat):Int)),Hn (clB (eI .i64) s_),Ha (clE 1 (eI .i64) s_)]
def jT:Code:=(Tryz.f25.body).getD .skip
def jF:zP:=spF (α:=z6×List (List Int)×List (List Int)) (ρ:=List Int×Int) 25 (fun x=>[zL x.1,w8 x.2.1,w8 x.2.2]) (fun r=>.opq (Yi [some (F3_ r.1),some ((eI .i64) r.2)])) (fun x=>xV x.1 x.2.1 x.2.2) [] (zaG)
abbrev Kf (out:List Int):List (Nat×T):=[(9,.own (eOs 1 false (eI .i64) out))]
abbrev Ke (m_:z6)(l_:List (List Int))(bl:List (List Int))(bg:Int)(ap:List Int):List (Nat×T):=[(1,.d (eSl 1 false F6_ l_)),(2,.d (eSl 1 false F6_ bl)),(3,.own (.box (zL m_))),(9,.own (eOs 1 false (eI .i64) ap)),(23,.d (I ((m_.Rows.length:Nat):Int))),(24,.d (I bg))]
abbrev Kd (m_:z6)(l_:List (List Int))(bl:List (List Int))(ai:List Int)(bg:Int):List (Nat×T):=[(1,.d (eSl 1 false F6_ l_)),(2,.d (eSl 1 false F6_ bl)),(3,.own (.box (zL m_))),(9,.own (eOs 1 false (eI .i64) ai)),(23,.d (I ((m_.Rows.length:Nat):Int))),(24,.d (I bg))]
theorem z1Z (hC:zx Tryz.prog ctr)(h0i:ctr.Has kD)(h0n:ctr.Has ur)(h06:ctr.Has wc)(h08:ctr.Has vj):jF.Ok Tryz.prog:=by
 refine zy ?_;rintro⟨m_,l_,bl⟩ r0 aa;try unfold xV at aa;refine z1g (tt:=yu) (rs:=[(true,6,none),(false,7,none)]) (n:=⟨40,[]⟩) (body:=jT) zt Tryz.func25 rfl (by kernel_rfl) rfl rfl (by show(3:Nat)<=40;decide) fun E hE=>?_
 obtain⟨r_,h0,aa⟩:=zc aa
 let Z0:List HO:=[Hc h0i (x:=(m_,l_)) h0 (loC zL m_ <| loC w8 l_ <| loN)];rcases zG aa with⟨c0,aa⟩|⟨c0,aa⟩
 ·obtain rfl:=za aa
  let ZE:List HO:=(Z0++[Hq c0]);exact Wp X0 zt hC Zr hE 4000 (hs:=hoH ZE) (x:=(.opq (Yi [some (eOs 1 true (eI .i64) []),some (I r_)]))) (hoB ZE) (by kernel_rfl) (show LeV (.opq (Yi [some (eOs 1 true (eI .i64) []),some (I r_)])) (.opq (Yi [some (eOs 1 true (eI .i64) ([]:List Int)),some (I r_)])) from inferInstance)
 ·obtain⟨ah,h1,aa⟩:=zc aa
  let Z1:List HO:=(Z0++[Hq c0,Hc (Ctr.add_has Qi wk) (x:=(l_,bl,())) h1 (loC w8 l_ <| loC w8 bl <| loC (z9I 57) () <| loN)]);rcases zG aa with⟨c1,aa⟩|⟨c1,aa⟩
  ·obtain rfl:=za aa
   let ZE:List HO:=(Z1++[Hq c1]);exact Wp ((z1R zt (wp hC h0n) 19).or X0) zt hC Zr hE 4000 (hs:=hoH ZE) (x:=(.opq (Yi [some (eOs 1 true (eI .i64) []),some (I 16)]))) (hoB ZE) (by kernel_rfl) (show LeV (.opq (Yi [some (eOs 1 true (eI .i64) []),some (I 16)])) (.opq (Yi [some (eOs 1 true (eI .i64) ([]:List Int)),some (I 16)])) from inferInstance)
  ·refine yJ ((z1R zt (wp hC h0n) 19).or X0) hC jT [1,1,1,1] [] [9] (fun z:List Int=>jR z=some r0) (fun z=>Kf z) [(1,.d (eSl 1 false F6_ l_)),(2,.d (eSl 1 false F6_ bl)),(3,.own (.box (zL m_))),(9,.own (eOs 1 true (eI .i64) []))] (Z1++[Hq c1,Hh (.cut 1)]) ?_ fun J1 ar=>?_
   ·rintro out aa
    unfold jR at aa;obtain⟨al,h2,aa⟩:=zc aa;obtain rfl:=za aa
    let ZE:List HO:=[Hh (.g [true]),Hn Ua,Hx (.a (F3_ al)) (VY out _ h2)];exact Wp ((z1R zt (UD hC) 39).or X0) zt hC Zr hE 4000 (hs:=hoH ZE) (x:=(.opq (Yi [some (eOs 1 true (eI .i64) al),some (I 0)]))) (hoB ZE) (by kernel_rfl) (LeV.refl _)
   ·obtain⟨t2,ht2,aa⟩:=zc aa
    refine yLx X0 hC jT [1,1,1,1,2,1,0] [J1] (fun s=>xu m_ l_ bl s.1 s.2) (fun x=>Kd m_ l_ bl x.1 x.2) (([]:List Int),0) ht2 [(1,.d (eSl 1 false F6_ l_)),(2,.d (eSl 1 false F6_ bl)),(3,.own (.box (zL m_))),(9,.own (eOs 1 true (eI .i64) [])),(23,.d (I ((m_.Rows.length:Nat):Int))),(24,.d (I 0))] inferInstance [Ha (lnM yW m_.Rows)] ?_;rintro⟨ai,bg⟩ m2 av ae hl1 J2 ax;try unfold xu at ae;rcases zG ae with⟨c2,ae⟩|⟨c2,ae⟩
    ·refine yJ X0 hC jT [1,1,1,1,2,1,0,0,1,1] [J1,J2] [1,2,3,9,23,24] (fun z:List Int=>u9 bg z=some av) (fun z=>Ke m_ l_ bl bg z) [(1,.d (eSl 1 false F6_ l_)),(2,.d (eSl 1 false F6_ bl)),(3,.own (.box (zL m_))),(9,.own (eOs 1 false (eI .i64) ai)),(23,.d (I ((m_.Rows.length:Nat):Int))),(24,.d (I bg))] [Hq c2,Hh (.cut 0)] ?_ fun J3 bh=>?_
     ·rintro ap ae
      unfold u9 at ae;obtain rfl:=za ae;exact yB X0 hC ax (ap,w64 (bg+1)) hl1 []
     ·obtain⟨az,h3,ae⟩:=zc ae
      obtain⟨bp,h4,ae⟩:=zc ae
      let Z2:List HO:=[Hc h06 (x:=(m_,l_,bg)) h3 (loC zL m_ <| loC w8 l_ <| loC (eI .i64) bg <| loN),Hg (z3H h08),Hm (shM F3_ F2_ az),Hs (z3I h08 (x:=(az,bl)) h4 (loC F9_ az <| loC w8 bl <| loN))];rcases zG ae with⟨c3,ae⟩|⟨c3,ae⟩
      ·obtain⟨g0,ae⟩:=gdE ae
       exact yB X0 hC bh (ai++([bg]:List Int)) ae (Z2++[Hq c3,Hq (dM (eI .i64) ([bg]:List Int)),Hn (dM (eI .i64) ([bg]:List Int)),Hn (aL (eI .i64) (eI .i64) g0),Hl (aM (eI .i64) ai ([bg]:List Int))])
      ·exact yB X0 hC bh ai ae (Z2++[Hq c3])
    ·obtain rfl:=za ae
     obtain rfl:=hl1;exact yB X0 hC ar ai aa [Hq c2]
def JW:Code:=(Tryz.f55.body).getD .skip
def JA:zP:=spF (α:=z6×Int×List Int) (ρ:=List Int) 55 (fun x=>[zL x.1,(eI .i64) x.2.1,F6_ x.2.2]) (fun r=>F5_ r) (fun x=>JH x.1 x.2.1 x.2.2) [] (zaG)
abbrev z5h (out:List Int):List (Nat×T):=[(7,.own (eOs 1 false (eI .i64) out))]
abbrev z5g (m_:z6)(w_:List Int)(a7:Int)(ai:List Int)(k_:Int):List (Nat×T):=[(1,.d (I a7)),(2,.d (eSl 1 false (eI .i64) w_)),(3,.own (.box (zL m_))),(7,.own (eOs 1 false (eI .i64) ai)),(8,.d (I k_))]
theorem z92 (hC:zx Tryz.prog ctr)(h0c:ctr.Has Yq):JA.Ok Tryz.prog:=by
 refine zy ?_;rintro⟨m_,s_,w_⟩ r0 aa;try unfold JH at aa;refine yO true [(6,none)] JW 31 Tryz.func55 fun E hE=>?_;refine yJ X0 hC JW [1,1] [] [7] (fun z:List Int=>Uv z=some r0) (fun z=>z5h z) [(1,.d (I s_)),(2,.d (eSl 1 false (eI .i64) w_)),(3,.own (.box (zL m_))),(7,.own (eOs 1 true (eI .i64) []))] [Hh (.cut 2)] ?_ fun J1 ar=>?_
 ·rintro out aa
  unfold Uv at aa;obtain rfl:=za aa;exact yE X0 hC hE []
 ·obtain⟨t2,ht2,aa⟩:=zc aa
  refine yLx X0 hC JW [1,1,2,1,0] [J1] (fun s=>XQ m_ w_ s.1 s.2.1 s.2.2) (fun x=>z5g m_ w_ x.1 x.2.1 x.2.2) (s_,([]:List Int),0) ht2 [(1,.d (I s_)),(2,.d (eSl 1 false (eI .i64) w_)),(3,.own (.box (zL m_))),(7,.own (eOs 1 true (eI .i64) [])),(8,.d (I 0))] inferInstance [] ?_;rintro⟨a7,ai,k_⟩ m2 av ae hl1 J2 ax;try unfold XQ at ae;rcases zG ae with⟨c0,ae⟩|⟨c0,ae⟩
  ·obtain⟨fj,h0,ae⟩:=zc ae
   obtain⟨r_,h1,ae⟩:=zc ae;obtain⟨g0,ae⟩:=gdE ae;obtain rfl:=za ae;exact yB X0 hC ax (r_.To,(ai++([r_.Out]:List Int)),w64 (k_+1)) hl1 [Ha (lnM (eI .i64) w_),Hq c0,Hi (eI .i64) h0,Hc h0c (x:=(m_,a7,fj)) h1 (loC zL m_ <| loC (eI .i64) a7 <| loC (eI .i64) fj <| loN),Hq (dM (eI .i64) ([r_.Out]:List Int)),Hn (dM (eI .i64) ([r_.Out]:List Int)),Hn (aL (eI .i64) (eI .i64) g0),Hl (aM (eI .i64) ai ([r_.Out]:List Int))]
  ·obtain rfl:=za ae
   obtain rfl:=hl1;exact yB X0 hC ar ai aa [Ha (lnM (eI .i64) w_),Hq c0]
def X1:Code:=(Tryz.f23.body).getD .skip
def Yn:zP:=spF (α:=z6×List (List Int)×Int) (ρ:=List (List Int)) 23 (fun x=>[zL x.1,w8 x.2.1,(eI .i64) x.2.2]) (fun r=>(eOs 1 false F5_) r) (fun x=>kL x.1 x.2.1 x.2.2) [] (zaG)
abbrev K3 (out:List (List Int)):List (Nat×T):=[(7,.own (eOs 1 false F5_ out))]
abbrev K2 (m_:z6)(l_:List (List Int))(s_:Int)(ai:List (List Int))(i_:Int):List (Nat×T):=[(1,.d (eSl 1 false F6_ l_)),(2,.d (I s_)),(3,.own (.box (zL m_))),(7,.own (eOs 1 false F5_ ai)),(8,.d (I i_))]
theorem z1V (hC:zx Tryz.prog ctr)(h1G:ctr.Has JA):Yn.Ok Tryz.prog:=by
 refine zy ?_;rintro⟨m_,l_,s_⟩ r0 aa;try unfold kL at aa;refine yO true [(6,none)] X1 26 Tryz.func23 fun E hE=>?_;refine yJ X0 hC X1 [1,1] [] [7] (fun z:List (List Int)=>jJ z=some r0) (fun z=>K3 z) [(1,.d (eSl 1 false F6_ l_)),(2,.d (I s_)),(3,.own (.box (zL m_))),(7,.own (eOs 1 true F6_ []))] [Hh (.cut 2)] ?_ fun J1 ar=>?_
 ·rintro out aa
  unfold jJ at aa;obtain rfl:=za aa;exact yE X0 hC hE []
 ·obtain⟨t2,ht2,aa⟩:=zc aa
  refine yLx X0 hC X1 [1,1,2,1,0] [J1] (fun s=>xq m_ l_ s_ s.1 s.2) (fun x=>K2 m_ l_ s_ x.1 x.2) (([]:List (List Int)),0) ht2 [(1,.d (eSl 1 false F6_ l_)),(2,.d (I s_)),(3,.own (.box (zL m_))),(7,.own (eOs 1 true F5_ [])),(8,.d (I 0))] inferInstance [] ?_;rintro⟨ai,i_⟩ m2 av ae hl1 J2 ax;try unfold xq at ae
  let Z0:List HO:=[Ha (lnM F6_ l_)];rcases zG ae with⟨c0,ae⟩|⟨c0,ae⟩
  ·obtain⟨bw,h0,ae⟩:=zc ae
   obtain⟨r_,h1,ae⟩:=zc ae;obtain⟨g0,ae⟩:=gdE ae;obtain rfl:=za ae;exact yB X0 hC ax ((ai++([r_]:List (List Int))),w64 (i_+1)) hl1 (Z0++[Hq c0,Hi F6_ h0,Hc h1G (x:=(m_,s_,bw)) h1 (loC zL m_ <| loC (eI .i64) s_ <| loC F6_ bw <| loN),Hq (oC F5_ r_ []),Hn (aL F5_ F5_ g0),Hl (aM F5_ ai ([r_]:List (List Int)))])
  ·obtain rfl:=za ae
   obtain rfl:=hl1;exact yB X0 hC ar ai aa (Z0++[Hq c0])
def Wo:Code:=(Tryz.f65.body).getD .skip
def W5:zP:=spF (α:=List Int×List Int) (ρ:=Int) 65 (fun x=>[F6_ x.1,F6_ x.2]) (fun r=>(eI .i64) r) (fun x=>Yw x.1 x.2) [] (Qh)
abbrev z0r:List (Nat×T):=[]
abbrev z0q (a_:List Int)(b_:List Int)(i_:Int):List (Nat×T):=[(0,.d (eSl 1 false (eI .i64) a_)),(1,.d (eSl 1 false (eI .i64) b_)),(5,.d (I i_))]
theorem z3Q (hC:zx Tryz.prog ctr):W5.Ok Tryz.prog:=by
 refine zy ?_;rintro⟨a_,b_⟩ r0 aa;try unfold Yw at aa;refine yO true [(4,none)] Wo 40 Tryz.func65 fun E hE=>?_
 let Z0:List HO:=[Ha (lnM (eI .i64) a_),Ha (lnM (eI .i64) b_)];rcases zG aa with⟨c0,aa⟩|⟨c0,aa⟩
 ·let Z1:List HO:=(Z0++[Hq c0,Ha (lnM (eI .i64) a_),Ha (lnM (eI .i64) b_)])
  rcases zG aa with⟨c1,aa⟩|⟨c1,aa⟩
  ·obtain rfl:=za aa
   exact yE X0 hC hE (Z1++[Hq c1])
  ·obtain rfl:=za aa
   exact yE X0 hC hE (Z1++[Hq c1])
 ·refine yJ X0 hC Wo [1,1] [] [] (fun z:Unit=>We=some r0) (fun z=>z0r) [(0,.d (eSl 1 false (eI .i64) a_)),(1,.d (eSl 1 false (eI .i64) b_))] (Z0++[Hq c0,Hh (.cut 0)]) ?_ fun J1 ar=>?_
  ·rintro⟨⟩ aa
   unfold We at aa;obtain rfl:=za aa;exact yE X0 hC hE []
  ·obtain⟨t2,ht2,aa⟩:=zc aa
   refine yL X0 hC Wo [1,1,2,1,0] [J1] (fun s=>qJ a_ b_ s) (fun x=>z0q a_ b_ x) 0 ht2  [] ?_;rintro i_ m2 av ae hl1 J2 ax;try unfold qJ at ae;rcases zG ae with⟨c2,ae⟩|⟨c2,ae⟩
   ·obtain⟨gp,h0,ae⟩:=zc ae
    obtain⟨gq,h1,ae⟩:=zc ae
    let Z2:List HO:=[Ha (lnM (eI .i64) a_),Hq c2,Hi (eI .i64) h0,Hi (eI .i64) h1];rcases zG ae with⟨c3,ae⟩|⟨c3,ae⟩
    ·obtain rfl:=za ae
     obtain rfl:=hl1;obtain rfl:=za aa;exact yE X0 hC hE (Z2++[Hq c3])
    ·obtain⟨i5,h2,ae⟩:=zc ae
     obtain⟨i6,h3,ae⟩:=zc ae
     let Z3:List HO:=(Z2++[Hq c3,Hi (eI .i64) h2,Hi (eI .i64) h3]);rcases zG ae with⟨c4,ae⟩|⟨c4,ae⟩
     ·obtain rfl:=za ae
      obtain rfl:=hl1;obtain rfl:=za aa;exact yE X0 hC hE (Z3++[Hq c4])
     ·obtain rfl:=za ae
      exact yB X0 hC ax (w64 (i_+1)) hl1 (Z3++[Hq c4])
   ·obtain rfl:=za ae
    obtain rfl:=hl1;exact yB X0 hC ar () aa [Ha (lnM (eI .i64) a_),Hq c2]
def QH:Code:=(Tryz.f39.body).getD .skip
def Ww:zP:=spF (α:=List (List Int)×List (List Int)) (ρ:=Bool) 39 (fun x=>[w8 x.1,w8 x.2]) (fun r=>eB r) (fun x=>WR x.1 x.2) [] (Qh)
abbrev z3l:List (Nat×T):=[]
abbrev z3k (a_:List (List Int))(b_:List (List Int))(i_:Int):List (Nat×T):=[(0,.d (eSl 1 false F6_ a_)),(1,.d (eSl 1 false F6_ b_)),(5,.d (I i_))]
theorem z7G (hC:zx Tryz.prog ctr)(h1H:ctr.Has W5):Ww.Ok Tryz.prog:=by
 refine zy ?_;rintro⟨a_,b_⟩ r0 aa;try unfold WR at aa;refine yO true [(4,none)] QH 27 Tryz.func39 fun E hE=>?_
 let Z0:List HO:=[Ha (lnM F6_ a_),Ha (lnM F6_ b_)];rcases zG aa with⟨c0,aa⟩|⟨c0,aa⟩
 ·obtain rfl:=za aa
  exact yE X0 hC hE (Z0++[Hq c0])
 ·refine yJ X0 hC QH [1,1] [] [] (fun z:Unit=>WA=some r0) (fun z=>z3l) [(0,.d (eSl 1 false F6_ a_)),(1,.d (eSl 1 false F6_ b_))] (Z0++[Hq c0,Hh (.cut 0)]) ?_ fun J1 ar=>?_
  ·rintro⟨⟩ aa
   unfold WA at aa;obtain rfl:=za aa;exact yE X0 hC hE []
  ·obtain⟨t2,ht2,aa⟩:=zc aa
   refine yL X0 hC QH [1,1,2,1,0] [J1] (fun s=>Za a_ b_ s) (fun x=>z3k a_ b_ x) 0 ht2  [] ?_;rintro i_ m2 av ae hl1 J2 ax;try unfold Za at ae
   let Z1:List HO:=[Ha (lnM F6_ a_)];rcases zG ae with⟨c1,ae⟩|⟨c1,ae⟩
   ·obtain⟨gp,h0,ae⟩:=zc ae
    obtain⟨gq,h1,ae⟩:=zc ae;obtain⟨r_,h2,ae⟩:=zc ae
    let Z2:List HO:=(Z1++[Hq c1,Hi F6_ h0,Hi F6_ h1,Hc h1H (x:=(gp,gq)) h2 (loC F6_ gp <| loC F6_ gq <| loN)]);rcases zG ae with⟨c2,ae⟩|⟨c2,ae⟩
    ·obtain rfl:=za ae
     obtain rfl:=hl1;obtain rfl:=za aa;exact yE X0 hC hE (Z2++[Hq c2])
    ·obtain rfl:=za ae
     exact yB X0 hC ax (w64 (i_+1)) hl1 (Z2++[Hq c2])
   ·obtain rfl:=za ae
    obtain rfl:=hl1;exact yB X0 hC ar () aa (Z1++[Hq c1])
def z7m:Code:=(Tryz.f11.body).getD .skip
def Wy:zP:=spF (α:=List (List Int)×List (List Int)) (ρ:=Bool) 11 (fun x=>[F9_ x.1,w8 x.2]) (fun r=>eB r) (fun x=>uO x.1 x.2) [] (Qh)
theorem z7K (hC:zx Tryz.prog ctr)(h0o:ctr.Has Ww):Wy.Ok Tryz.prog:=by
 refine zy ?_;rintro⟨a_,b_⟩ r0 aa;try unfold uO at aa;refine yO true [(4,none)] z7m 15 Tryz.func11 fun E hE=>?_;obtain⟨r_,h0,aa⟩:=zc aa
 let Z0:List HO:=[Hc h0o (x:=(a_,b_)) h0 (loC F9_ a_ <| loC w8 b_ <| loN)];rcases zG aa with⟨c0,aa⟩|⟨c0,aa⟩
 ·obtain rfl:=za aa
  exact yE X0 hC hE (Z0++[Hq c0,Hq c0,Ha (lnM F2_ a_),Hq c0,Hq c0,Ha (lnM F2_ a_),Hq c0,Hq c0])
 ·obtain rfl:=za aa
  exact yE X0 hC hE (Z0++(rpN 6 (Hq c0) []))
def z7o:Code:=(Tryz.f26.body).getD .skip
def Wz:zP:=spF (α:=List Int×List Int) (ρ:=Bool) 26 (fun x=>[F2_ x.1,F6_ x.2]) (fun r=>eB r) (fun x=>Xp x.1 x.2) [] (Qh)
theorem z7M (hC:zx Tryz.prog ctr)(h0o:ctr.Has Ww):Wz.Ok Tryz.prog:=by
 refine zy ?_;rintro⟨a_,b_⟩ r0 aa;try unfold Xp at aa;refine yO true [(4,none)] z7o 17 Tryz.func26 fun E hE=>?_;obtain⟨r_,h0,aa⟩:=zc aa
 let Z0:List HO:=[Hg (z3H h0o),Hm (shM F2_ F2_ ([a_])),Hm (shM F6_ F6_ ([b_])),Hs (z3I h0o (x:=([a_],[b_])) h0 (loC F9_ ([a_]:List (List Int)) <| loC ziF ([b_]:List (List Int)) <| loN))];rcases zG aa with⟨c0,aa⟩|⟨c0,aa⟩
 ·obtain rfl:=za aa
  exact yE X0 hC hE (Z0++[Hq c0,Hq c0,Ha (lnM (eI .i64) a_),Hq c0,Hq c0,Ha (lnM (eI .i64) a_),Hq c0,Hq c0])
 ·obtain rfl:=za aa
  exact yE X0 hC hE (Z0++(rpN 6 (Hq c0) []))
def z3i:Code:=(Tryz.f43.body).getD .skip
def Wa:zP:=spF (α:=Unit) (ρ:=z6) 43 (fun x=>[]) (fun r=>z8W r) (fun x=>Qy) [] (fun _ _ _=>rfl)
theorem z3X (hC:zx Tryz.prog ctr):Wa.Ok Tryz.prog:=by
 refine zy ?_;rintro⟨⟩ r0 aa;try unfold Qy at aa;refine yO false [(0,some 30)] z3i 12 Tryz.func43 fun E hE=>?_;obtain rfl:=za aa;exact yE X0 hC hE [Hm (shM (eOs 2 true F8_) zpj ([[(z8.mk 1 0),(z8.mk 0 0)],[(z8.mk 2 0),(z8.mk 1 1)],[(z8.mk 0 1),(z8.mk 2 0)]]))]
def z7n:Code:=(Tryz.f44.body).getD .skip
def Qp:zP:=spF (α:=List (List Int)) (ρ:=List (List Int)) 44 (fun x=>[w8 x]) (fun r=>w8 r) (fun x=>Xo x) [] (Vr)
theorem z7L (hC:zx Tryz.prog ctr):Qp.Ok Tryz.prog:=by
 refine zy ?_;rintro l_ r0 aa;try unfold Xo at aa;refine yO true [(2,none)] z7n 4 Tryz.func44 fun E hE=>?_;obtain rfl:=za aa;exact yE X0 hC hE []
def z5L:Code:=(Tryz.f41.body).getD .skip
def Xy:zP:=spF (α:=Int×Int×Int) (ρ:=Bool) 41 (fun x=>[(eI .i64) x.1,(eI .i64) x.2.1,(eSp (eI .i64)) x.2.2]) (fun r=>eB r) (fun x=>z0e x.1 x.2.1 x.2.2) [] (zaG)
theorem z6z (hC:zx Tryz.prog ctr):Xy.Ok Tryz.prog:=by
 refine zy ?_;rintro⟨a_,b_,x2⟩ r0 aa;try unfold z0e at aa;refine yO true [(5,none)] z5L 14 Tryz.func41 fun E hE=>?_;rcases zG aa with⟨c0,aa⟩|⟨c0,aa⟩
 ·obtain rfl:=za aa
  exact yE X0 hC hE (rpN 4 (Hq c0) [])
 ·obtain rfl:=za aa
  exact yE X0 hC hE (rpN 4 (Hq c0) [])
def wj:Code:=(Tryz.f37.body).getD .skip
def Vb:zP:=spF (α:=z6×Int) (ρ:=List (List Int)×Int) 37 (fun x=>[zL x.1,(KD 41 (eSp (eI .i64))) x.2]) (fun r=>.tup [F9_ r.1,(eI .i64) r.2]) (fun x=>Wg x.1 x.2) [] (by
 rintro⟨a0,a1⟩ ⟨b0,b1⟩ h;have e0:=Yc.inj (f:=zL) _ _ (List.cons.inj h).1;replace h:=(List.cons.inj h).2;have e1:=Yc.inj (f:=(KD 41 (eSp (eI .i64)))) _ _ (List.cons.inj h).1;subst e0 e1;rfl)
abbrev Jk (m_:z6)(x5:Int)(out:List (List Int)):List (Nat×T):=[(2,.own (.box (zL m_))),(4,.own (.box (eOs 1 true F6_ []))),(5,.own (.box (I x5))),(6,.own (.box (eOs 1 false F2_ out)))]
abbrev wb (m_:z6)(is:Int)(ah:Int)(bu:Int)(ai:List (List Int)):List (Nat×T):=[(2,.own (.box (zL m_))),(3,.own (.box (.fn 41 [.sptr (I is)]))),(4,.own (.box (eOs 1 true F6_ []))),(5,.own (.box (I bu))),(6,.own (.box (eOs 1 false F2_ ai))),(15,.d (.fn 80 [.sptr (I ah)]))]
theorem z0V (hC:zx Tryz.prog ctr)(h05:ctr.Has vh)(h0w:ctr.Has Xy)(h0g:ctr.Has vS)(h07:ctr.Has Yl):Vb.Ok Tryz.prog:=by
 refine zy ?_;rintro⟨m_,is⟩ r0 aa;try unfold Wg at aa;refine yO false [(4,some 32),(5,some 33)] wj 44 Tryz.func37 fun E hE=>?_;refine yJ X0 hC wj [1,1] [] [2,4,5,6] (fun z:Int×List (List Int)=>Y0 m_ z.1 z.2=some r0) (fun z=>Jk m_ z.1 z.2) [(2,.own (.box (zL m_))),(3,.own (.box (.fn 41 [.sptr (I is)]))),(4,.own (.box (eOs 1 true F6_ []))),(5,.own (.box (I 0))),(6,.own (.box (eOs 1 true F6_ [])))] [Hh (.cut 2)] ?_ fun J1 ar=>?_
 ·rintro⟨x5,out⟩ aa
  unfold Y0 at aa;obtain⟨r_,h0,aa⟩:=zc aa;obtain rfl:=za aa;exact yE X0 hC hE [Hg (z3H h07),Hm (shM F2_ F2_ out),Hs (z3I h07 (x:=(out,m_.Inputs)) h0 (loC (eSl 1 false F2_) out <| loC (eI .i64) m_.Inputs <| loN)),Hm (shM F2_ F2_ out)]
 ·obtain⟨ah,h1,aa⟩:=zc aa
  obtain⟨t2,ht2,aa⟩:=zc aa;refine yAt X0 hC (sub [1,1,2,1,0] wj) (frs [1,1,2,1,0] [J1] wj []) [(2,.own (.box (zL m_))),(3,.own (.box (.fn 41 [.sptr (I is)]))),(4,.own (.box (eOs 1 true F6_ []))),(5,.own (.box (I 0))),(6,.own (.box (eOs 1 true F2_ []))),(15,.d (.fn 80 [.sptr (I ah)]))] [Ha (lnM yW m_.Rows),Hc h05 (x:=((m_.Rows.length:Nat):Int)) h1 (loC (eI .i64) ((m_.Rows.length:Nat):Int) <| loN)] fun st0 h0=>?_;refine z0m (g:=.tmp 15) (ps:=[16,17]) (assign:=(sub [1,1,2,1,0,0] wj)) (body:=(sub [1,1,2,1,0,1] wj)) (K:=80) (caps:=[.sptr (I ah)]) (by kernel_rfl) [2,3,4,5,6,15] (fun s=>wb m_ is ah s.1 s.2) (fun s=>wb m_ is ah s.1 s.2) (fun s=>Code.ret) ((fun(x:Int×Int) (_:Bool) (_:Value)=>[(eI .i64) x.1,(eI .i64) x.2])) (F:=@yU ah) (fun s x=>qn m_ is s.1 s.2 x.1 x.2) (0,([]:List (List Int))) t2 _ h0 inferInstance (by kernel_rfl) (by decide) (fun _=>rfl) (fun _=>rfl) (by kernel_rfl) (fun _ _ _=>rfl) (ZI hC ah) ht2 ?_ ?_
  ·rintro lm ⟨bu,ai⟩ ⟨bt,aq⟩ vr av ae
   replace ae:qn m_ is bu ai bt aq=some av:=ae;unfold qn at ae;refine yF X0 hC .normal [(2,.own (.box (zL m_))),(3,.own (.box (.fn 41 [.sptr (I is)]))),(4,.own (.box (eOs 1 true F6_ []))),(5,.own (.box (I bu))),(6,.own (.box (eOs 1 false F2_ ai))),(7,.d (I bt)),(8,.d (I aq)),(15,.d (.fn 80 [.sptr (I ah)]))] [] fun st0 h0=>⟨rfl,z7r h0 ?_⟩;obtain⟨al,h2,ae⟩:=zc ae
   let Z0:List HO:=[Hc h0w (x:=(bt,aq,is)) h2 (loC (eI .i64) bt <| loC (eI .i64) aq <| loC (eSp (eI .i64)) is <| loN)];rcases zG ae with⟨c0,ae⟩|⟨c0,ae⟩
   ·obtain rfl:=za ae
    exact yF X0 hC .normal (wb m_ is ah bu ai) (Z0++[Hq c0]) fun st0 h0=>⟨rfl,_,h0,LeL.refl _⟩
   ·obtain⟨az,h3,ae⟩:=zc ae
    let Z1:List HO:=(Z0++[Hq c0,Hc h0g (x:=(m_,bt,aq)) h3 (loC zL m_ <| loC (eI .i64) bt <| loC (eI .i64) aq <| loN)]);rcases zG ae with⟨c1,ae⟩|⟨c1,ae⟩
    ·obtain rfl:=za ae
     exact yF X0 hC .ret (wb m_ is ah az.2.2 ai) (Z1++[Hq c1]) fun st0 h0=>⟨rfl,_,h0,LeL.refl _⟩
    ·obtain⟨g0,ae⟩:=gdE ae
     obtain rfl:=za ae;exact yF X0 hC .normal (wb m_ is ah bu (ai++([az.1]:List (List Int)))) (Z1++[Hq c1,Hq (dM F2_ ([az.1]:List (List Int))),Hn (dM F2_ ([az.1]:List (List Int))),Hn (aL F2_ F2_ g0),Hl (aM F2_ ai ([az.1]:List (List Int)))]) fun st0 h0=>⟨rfl,_,h0,LeL.refl _⟩
  ·rcases t2 with⟨bu,ai⟩|z
   ·dsimp only at aa
    exact XY (by kernel_rfl) (ar _ [(2,.own (.box (zL m_))),(4,.own (.box (eOs 1 true F6_ []))),(5,.own (.box (I bu))),(6,.own (.box (eOs 1 false F2_ ai)))] (bu,ai) aa (show Own.canon [2,4,5,6] _=ofL _ by kernel_rfl) inferInstance)
   ·obtain⟨bu,ai⟩:=z
    dsimp only at aa
    show AWP _ _ (Code.ret) _ _
    obtain rfl:=za aa;exact yEx X0 hC hE [Hm (shM F6_ F6_ [])] (.tup [eSl 1 true F2_ [],I bu]) (show LeV (.tup [eSl 1 true F2_ [],I bu]) (.tup [eSl 1 true F2_ ([]:List (List Int)),I bu]) from inferInstance)
def z8S:Code:=(Tryz.f13.body).getD .skip
def JB:zP:=spF (α:=z6×Int) (ρ:=List (List Int)×Int) 13 (fun x=>[zL x.1,(eI .i64) x.2]) (fun r=>.tup [F9_ r.1,(eI .i64) r.2]) (fun x=>JP x.1 x.2) [] (Qh)
theorem z93 (hC:zx Tryz.prog ctr)(h0h:ctr.Has vg)(h05:ctr.Has vh)(h0w:ctr.Has Xy)(h0g:ctr.Has vS)(h07:ctr.Has Yl):JB.Ok Tryz.prog:=by
 refine zy ?_;rintro⟨m_,s_⟩ r0 aa;try unfold JP at aa;refine yO false [(4,none),(5,none)] z8S 26 Tryz.func13 fun E hE=>?_;obtain⟨r_,h0,aa⟩:=zc aa
 let Z0:List HO:=[Hc h0h (x:=m_) h0 (loC zL m_ <| loN)];rcases zG aa with⟨c0,aa⟩|⟨c0,aa⟩
 ·obtain rfl:=za aa
  exact yEx X0 hC hE (Z0++[Hq c0,Hm (shM F6_ F6_ [])]) (.tup [eSl 1 true F2_ [],I r_]) (show LeV (.tup [eSl 1 true F2_ [],I r_]) (.tup [eSl 1 true F2_ ([]:List (List Int)),I r_]) from inferInstance)
 ·rcases zG aa with⟨c1,aa⟩|⟨c1,aa⟩
  ·obtain rfl:=za aa
   exact yEx X0 hC hE (Z0++(Hq c0::(rpN 6 (Hq c1) [qT,Hm (shM F6_ F6_ [])]))) (.tup [eSl 1 true F2_ [],I 1]) (show LeV (.tup [eSl 1 true F2_ [],I 1]) (.tup [eSl 1 true F2_ ([]:List (List Int)),I 1]) from inferInstance)
  ·let Z1:List HO:=(Z0++(Hq c0::(rpN 4 (Hq c1) [Ha (lnM yW m_.Rows),Hq c1,Hq c1])))
   rcases zG aa with⟨c2,aa⟩|⟨c2,aa⟩
   ·obtain rfl:=za aa
    exact yEx X0 hC hE (Z1++[Hq c2,Hm (shM F6_ F6_ [])]) (.tup [eSl 1 true F2_ [],I 1]) (show LeV (.tup [eSl 1 true F2_ [],I 1]) (.tup [eSl 1 true F2_ ([]:List (List Int)),I 1]) from inferInstance)
   ·obtain⟨ah,h1,aa⟩:=zc aa
    obtain rfl:=za aa;exact yE ((z1R zt (z0V hC h05 h0w h0g h07) 23).or X0) hC hE (Z1++[Hq c2,Hc (Ctr.add_has Qi Vb) (x:=(m_,s_)) h1 (loC zL m_ <| loC (KD 41 (eSp (eI .i64))) s_ <| loN)])
def yw:Code:=(Tryz.f45.body).getD .skip
def ZZ:zP:=spF (α:=z6×List (List Int)) (ρ:=List Int) 45 (fun x=>[zL x.1,w8 x.2]) (fun r=>(eSl 1 false (eI .u64)) r) (fun x=>Wh x.1 x.2) [] (Qh)
abbrev Jq (out:List Int):List (Nat×T):=[(4,.own (.box (eOs 1 false (eI .u64) out)))]
abbrev Xe (m_:z6)(w_:List (List Int))(r_:Int)(ai:List Int):List (Nat×T):=[(2,.own (.box (zL m_))),(3,.own (.box (eSl 1 false F6_ w_))),(4,.own (.box (eOs 1 false (eI .u64) ai))),(12,.d (.fn 80 [.sptr (I r_)]))]
abbrev Jp (m_:z6)(w_:List (List Int))(r_:Int)(ai:List Int)(ia:Int):List (Nat×T):=[(2,.own (.box (zL m_))),(3,.own (.box (eSl 1 false F6_ w_))),(4,.own (.box (eOs 1 false (eI .u64) ai))),(7,.d (.atom (.int .u64 ia))),(12,.d (.fn 80 [.sptr (I r_)]))]
abbrev Jo (m_:z6)(w_:List (List Int))(r_:Int)(ai:List Int)(dc:Int)(cj:Int)(aq:Int)(jd:Int):List (Nat×T):=[(2,.own (.box (zL m_))),(3,.own (.box (eSl 1 false F6_ w_))),(4,.own (.box (eOs 1 false (eI .u64) ai))),(5,.d (I dc)),(6,.d (I cj)),(7,.d (.atom (.int .u64 jd))),(12,.d (.fn 80 [.sptr (I r_)])),(16,.d (I ((w_.length:Nat):Int))),(17,.d (I aq))]
abbrev Jn (m_:z6)(w_:List (List Int))(r_:Int)(ai:List Int)(dc:Int)(cj:Int)(fm:Int)(aq:Int):List (Nat×T):=[(2,.own (.box (zL m_))),(3,.own (.box (eSl 1 false F6_ w_))),(4,.own (.box (eOs 1 false (eI .u64) ai))),(5,.d (I dc)),(6,.d (I cj)),(7,.d (.atom (.int .u64 fm))),(12,.d (.fn 80 [.sptr (I r_)])),(16,.d (I ((w_.length:Nat):Int))),(17,.d (I aq))]
theorem z0X (hC:zx Tryz.prog ctr)(h05:ctr.Has vh)(h06:ctr.Has wc)(h08:ctr.Has vj):ZZ.Ok Tryz.prog:=by
 refine zy ?_;rintro⟨m_,w_⟩ r0 aa;try unfold Wh at aa;refine yO false [(4,some 76)] yw 48 Tryz.func45 fun E hE=>?_;refine yJ X0 hC yw [1] [] [4] (fun z:List Int=>Y3 z=some r0) (fun z=>Jq z) [(2,.own (.box (zL m_))),(3,.own (.box (eSl 1 false F6_ w_))),(4,.own (.box (eOs 1 true (eI .u64) [])))] [Hh (.cut 1)] ?_ fun J1 ar=>?_
 ·rintro out aa
  unfold Y3 at aa;obtain rfl:=za aa;exact yE X0 hC hE [Hh (.v 0 [4]),Hm (shM (eI .u64) (eI .u64) out),Hh (.v 1 [4])]
 ·obtain⟨r_,h0,aa⟩:=zc aa
  obtain⟨t2,ht2,aa⟩:=zc aa;refine yAt X0 hC (sub [1,2,1,0] yw) (frs [1,2,1,0] [J1] yw []) [(2,.own (.box (zL m_))),(3,.own (.box (eSl 1 false F6_ w_))),(4,.own (.box (eOs 1 true (eI .u64) []))),(12,.d (.fn 80 [.sptr (I r_)]))] [Ha (lnM yW m_.Rows),Hc h05 (x:=((m_.Rows.length:Nat):Int)) h0 (loC (eI .i64) ((m_.Rows.length:Nat):Int) <| loN)] fun st0 h0=>?_;refine z0m (g:=.tmp 12) (ps:=[13,14]) (assign:=(sub [1,2,1,0,0] yw)) (body:=(sub [1,2,1,0,1] yw)) (K:=80) (caps:=[.sptr (I r_)]) (by kernel_rfl) [2,3,4,12] (fun s=>Xe m_ w_ r_ s) (fun z=>nomatch z) (fun z=>nomatch z) ((fun(x:Int×Int) (_:Bool) (_:Value)=>[(eI .i64) x.1,(eI .i64) x.2])) (F:=@yU r_) (fun s x=>qq m_ w_ s x.1 x.2) ([]:List Int) t2 _ h0 inferInstance (by kernel_rfl) (by decide) (fun _=>rfl) (by rintro⟨⟩) (by kernel_rfl) (fun _ _ _=>rfl) (ZI hC r_) ht2 ?_ ?_
  ·rintro lm ai ⟨dc,cj⟩ vr av ae
   replace ae:qq m_ w_ ai dc cj=some av:=ae;unfold qq at ae;refine yF X0 hC .normal [(2,.own (.box (zL m_))),(3,.own (.box (eSl 1 false F6_ w_))),(4,.own (.box (eOs 1 false (eI .u64) ai))),(5,.d (I dc)),(6,.d (I cj)),(12,.d (.fn 80 [.sptr (I r_)]))] [] fun st0 h0=>⟨rfl,z7r h0 ?_⟩;refine yJ X0 hC yw [1,2,1,0,1,0,1] [J1] [2,3,4,7,12] (fun z:Int=>Y2 ai z=some av) (fun z=>Jp m_ w_ r_ ai z) [(2,.own (.box (zL m_))),(3,.own (.box (eSl 1 false F6_ w_))),(4,.own (.box (eOs 1 false (eI .u64) ai))),(5,.d (I dc)),(6,.d (I cj)),(7,.d (.atom (.int .u64 0))),(12,.d (.fn 80 [.sptr (I r_)]))] [Hh (.cut 1)] ?_ fun J3 bh=>?_
   ·rintro ia ae
    unfold Y2 at ae;obtain⟨g0,ae⟩:=gdE ae;obtain rfl:=za ae;exact yF X0 hC .normal (Xe m_ w_ r_ (ai++([ia]:List Int))) [Hq (dM (eI .u64) ([ia]:List Int)),Hn (dM (eI .u64) ([ia]:List Int)),Hn (aL (eI .u64) (eI .u64) g0),Hl (aM (eI .u64) ai ([ia]:List Int))] fun st0 h0=>⟨rfl,_,h0,LeL.refl _⟩
   ·obtain⟨t4,ht4,ae⟩:=zc ae
    refine yL X0 hC yw [1,2,1,0,1,0,1,2,1,0] [J1,J3] (fun s=>Y1 m_ w_ dc cj s.1 s.2) (fun x=>Jn m_ w_ r_ ai dc cj x.1 x.2) (0,0) ht4  [Ha (lnM F6_ w_)] ?_;rintro⟨fm,aq⟩ m4 cw aj hl2 J4 ck;try unfold Y1 at aj;rcases zG aj with⟨c0,aj⟩|⟨c0,aj⟩
    ·refine yJ X0 hC yw [1,2,1,0,1,0,1,2,1,0,0,1,1] [J1,J3,J4] [2,3,4,5,6,7,12,16,17] (fun z:Int=>qp aq z=some cw) (fun z=>Jo m_ w_ r_ ai dc cj aq z) [(2,.own (.box (zL m_))),(3,.own (.box (eSl 1 false F6_ w_))),(4,.own (.box (eOs 1 false (eI .u64) ai))),(5,.d (I dc)),(6,.d (I cj)),(7,.d (.atom (.int .u64 fm))),(12,.d (.fn 80 [.sptr (I r_)])),(16,.d (I ((w_.length:Nat):Int))),(17,.d (I aq))] [Hq c0,Hh (.cut 0)] ?_ fun J5 dh=>?_
     ·rintro jd aj
      unfold qp at aj;obtain rfl:=za aj;exact yB X0 hC ck (jd,w64 (aq+1)) hl2 []
     ·obtain⟨g1,aj⟩:=gdE aj
      obtain⟨ah,h1,aj⟩:=zc aj;obtain⟨g2,aj⟩:=gdE aj;obtain⟨al,h2,aj⟩:=zc aj;obtain⟨az,h3,aj⟩:=zc aj
      let Z0:List HO:=[Hn (slA g1),Hn (slB g1),Hn (zjC F6_ g1),Ha (slM 1 false F6_ w_ aq.toNat (w64 (aq+1)).toNat),Hc h06 (x:=(m_,((w_.drop aq.toNat).take ((w64 (aq+1)).toNat - aq.toNat)),dc)) h1 (loC zL m_ <| loC w8 ((w_.drop aq.toNat).take ((w64 (aq+1)).toNat - aq.toNat)) <| loC (eI .i64) dc <| loN),Hn (slA g2),Hn (slB g2),Hn (zjC F6_ g2),Ha (slM 1 false F6_ w_ aq.toNat (w64 (aq+1)).toNat),Hc h06 (x:=(m_,((w_.drop aq.toNat).take ((w64 (aq+1)).toNat - aq.toNat)),cj)) h2 (loC zL m_ <| loC w8 ((w_.drop aq.toNat).take ((w64 (aq+1)).toNat - aq.toNat)) <| loC (eI .i64) cj <| loN),Hg (z3H h08),Hm (shM F3_ F2_ ah),Hm (shM F3_ F2_ al),Hs (z3I h08 (x:=(ah,al)) h3 (loC F9_ ah <| loC F9_ al <| loN))];rcases zG aj with⟨c1,aj⟩|⟨c1,aj⟩
      ·obtain⟨g3,aj⟩:=gdE aj
       exact yB ((z9R Tryz.prog).or ((zmR Tryz.prog).or X0)) hC dh (orK .u64 fm (z6H .u64 1 aq)) aj (Z0++[Hq c1,Hn g3])
      ·exact yB X0 hC dh fm aj (Z0++[Hq c1])
    ·obtain rfl:=za aj
     obtain rfl:=hl2;exact yB X0 hC bh fm ae [Hq c0]
  ·rcases t2 with ai|z
   ·dsimp only at aa
    exact XY (by kernel_rfl) (ar _ [(4,.own (.box (eOs 1 false (eI .u64) ai)))] ai aa (show Own.canon [4] _=ofL _ by kernel_rfl) inferInstance)
   ·cases z
def ym:Code:=(Tryz.f76.body).getD .skip
def uC:zP:=spF (α:=Int) (ρ:=Int) 76 (fun x=>[(eI .u64) x]) (fun r=>(eI .i64) r) (fun x=>kQ x) [] (Vr)
abbrev VG (ll:Int):List (Nat×T):=[(0,.d (.atom (.int .u64 ll)))]
abbrev VH (ji:Int):List (Nat×T):=[(0,.d (.atom (.int .u64 ji)))]
abbrev VI (jj:Int):List (Nat×T):=[(0,.d (.atom (.int .u64 jj)))]
abbrev VJ (jk:Int):List (Nat×T):=[(0,.d (.atom (.int .u64 jk)))]
abbrev VK (jl:Int):List (Nat×T):=[(0,.d (.atom (.int .u64 jl)))]
abbrev VL (jn:Int):List (Nat×T):=[(0,.d (.atom (.int .u64 jn)))]
theorem Ql (hC:zx Tryz.prog ctr):uC.Ok Tryz.prog:=by
 refine zy ?_;rintro x_ r0 aa;try unfold kQ at aa;refine yO true [(2,none)] ym 35 Tryz.func76 fun E hE=>?_;refine yJ X0 hC ym [1] [] [0] (fun z:Int=>uM z=some r0) (fun z=>VL z) [(0,.d (.atom (.int .u64 x_)))] [Hh (.cut 1)] ?_ fun J1 ar=>?_
 ·rintro jn aa
  unfold uM at aa;refine yJ X0 hC ym [1,1] [] [0] (fun z:Int=>uL z=some r0) (fun z=>VK z) [(0,.d (.atom (.int .u64 jn)))] [Hh (.cut 0)] ?_ fun J2 ax=>?_
  ·rintro jl aa
   unfold uL at aa;refine yJ X0 hC ym [1,1,1] [] [0] (fun z:Int=>uK z=some r0) (fun z=>VJ z) [(0,.d (.atom (.int .u64 jl)))] [Hh (.cut 0)] ?_ fun J3 bh=>?_
   ·rintro jk aa
    unfold uK at aa;refine yJ X0 hC ym [1,1,1,1] [] [0] (fun z:Int=>uJ z=some r0) (fun z=>VI z) [(0,.d (.atom (.int .u64 jk)))] [Hh (.cut 0)] ?_ fun J4 ck=>?_
    ·rintro jj aa
     unfold uJ at aa;refine yJ X0 hC ym [1,1,1,1,1] [] [0] (fun z:Int=>uH z=some r0) (fun z=>VH z) [(0,.d (.atom (.int .u64 jj)))] [Hh (.cut 0)] ?_ fun J5 dh=>?_
     ·rintro ji aa
      unfold uH at aa;refine yJ X0 hC ym [1,1,1,1,1,1] [] [0] (fun z:Int=>uG z=some r0) (fun z=>VG z) [(0,.d (.atom (.int .u64 ji)))] [Hh (.cut 0)] ?_ fun J6 cx=>?_
      ·rintro ll aa
       unfold uG at aa;obtain rfl:=za aa;exact yE ((z9R Tryz.prog).or X0) hC hE []
      ·exact yB ((zgD Tryz.prog).or X0) hC cx (IntKind.u64.wrap (ji+(Int.fdiv ji (2 ^ 32)))) aa []
     ·exact yB ((zgD Tryz.prog).or X0) hC dh (IntKind.u64.wrap (jj+(Int.fdiv jj (2 ^ 16)))) aa []
    ·exact yB ((zgD Tryz.prog).or X0) hC ck (IntKind.u64.wrap (jk+(Int.fdiv jk (2 ^ 8)))) aa []
   ·exact yB ((z9R Tryz.prog).or ((zgD Tryz.prog).or X0)) hC bh (z7A .u64 (IntKind.u64.wrap ((Int.fdiv jl (2 ^ 4))+jl)) 1085102592571150095) aa []
  ·exact yB ((z9R Tryz.prog).or ((z9R Tryz.prog).or ((zgD Tryz.prog).or X0))) hC ax (IntKind.u64.wrap ((z7A .u64 (Int.fdiv jn (2 ^ 2)) 3689348814741910323)+(z7A .u64 jn 3689348814741910323))) aa []
 ·exact yB ((z9R Tryz.prog).or ((z9R Tryz.prog).or ((zgD Tryz.prog).or X0))) hC ar (IntKind.u64.wrap ((z7A .u64 (Int.fdiv x_ (2 ^ 1)) 6148914691236517205)+(z7A .u64 x_ 6148914691236517205))) aa []
def J0:Code:=(Tryz.f46.body).getD .skip
def jB:zP:=spF (α:=Int) (ρ:=Int) 46 (fun x=>[(eI .u64) x]) (fun r=>(eI .i64) r) (fun x=>qj x) [] (Vr)
theorem Ju (hC:zx Tryz.prog ctr)(h1I:ctr.Has uC):jB.Ok Tryz.prog:=by
 refine zy ?_;rintro x_ r0 aa;try unfold qj at aa;refine yO true [(2,none)] J0 8 Tryz.func46 fun E hE=>?_;obtain⟨r_,h0,aa⟩:=zc aa;obtain rfl:=za aa;exact yE X0 hC hE [qF,Hc h1I (x:=x_) h0 (loC (eI .u64) x_ <| loN)]
def WJ:Code:=(Tryz.f109.body).getD .skip
def wW:zP:=spF (α:=Int) (ρ:=Int) 109 (fun x=>[(eI .u64) x]) (fun r=>(eI .i64) r) (fun x=>uj x) [] (Vr)
theorem WX (hC:zx Tryz.prog ctr):wW.Ok Tryz.prog:=by
 refine zy ?_;rintro x_ r0 aa;try unfold uj at aa;refine yO true [(2,none)] WJ 14 Tryz.func109 fun E hE=>?_;rcases zG aa with⟨c0,aa⟩|⟨c0,aa⟩
 ·obtain rfl:=za aa
  exact yE X0 hC hE [Hq c0]
 ·obtain⟨cell,h0,aa⟩:=zc aa
  obtain rfl:=za aa;exact yE ((zgD Tryz.prog).or ((z9R Tryz.prog).or X0)) hC hE [Hq c0,Hs (iM (eI .u8) h0),Hn (QS (by kernel_rfl) zia (i0 h0):Xc yu 162 ((zia.l).map (eI .u8)) (Int.fdiv (IntKind.u64.wrap ((z7A .u64 x_ (IntKind.u64.wrap (0 - x_)))*285870213051353865)) (2 ^ 58))=true)]
def Uf:Code:=(Tryz.f77.body).getD .skip
def vI:zP:=spF (α:=Int) (ρ:=Int) 77 (fun x=>[(eI .u64) x]) (fun r=>(eI .i64) r) (fun x=>qh x) [] (Vr)
theorem UF (hC:zx Tryz.prog ctr)(h1J:ctr.Has wW):vI.Ok Tryz.prog:=by
 refine zy ?_;rintro x_ r0 aa;try unfold qh at aa;refine yO true [(2,none)] Uf 8 Tryz.func77 fun E hE=>?_;obtain⟨r_,h0,aa⟩:=zc aa;obtain rfl:=za aa;exact yE X0 hC hE [qF,Hc h1J (x:=x_) h0 (loC (eI .u64) x_ <| loN)]
def z4V:Code:=(Tryz.f47.body).getD .skip
def Vd:zP:=spF (α:=Int×Int) (ρ:=Bool) 47 (fun x=>[(eI .u64) x.1,(eI .u64) x.2]) (fun r=>eB r) (fun x=>JO x.1 x.2) [] (Qh)
theorem z5B (hC:zx Tryz.prog ctr)(h1K:ctr.Has vI):Vd.Ok Tryz.prog:=by
 refine zy ?_;rintro⟨a_,b_⟩ r0 aa;try unfold JO at aa;refine yO true [(4,none)] z4V 13 Tryz.func47 fun E hE=>?_;obtain⟨r_,h0,aa⟩:=zc aa;obtain⟨g0,aa⟩:=gdE aa;obtain rfl:=za aa;exact yE ((z9R Tryz.prog).or ((zmQ Tryz.prog).or ((z9R Tryz.prog).or X0))) hC hE [Hc h1K (x:=ziS .u64 a_ b_) h0 (loC (eI .u64) (ziS .u64 a_ b_) <| loN),Hn g0]
def Vy:Code:=(Tryz.f48.body).getD .skip
def yR:zP:=spR (α:=List (List Int)) (ρ:=List (List Int)) 48 (fun x=>[(eOs 1 false F2_) x]) (fun r=>(eOs 1 true F2_) r) (fun x=>wG x) [true] (Vr)
theorem Vt:∀x r,(fun x=>wG x) x=some r->(Qi.add yR).run 48 ((Qi.add yR).norm 48 ((fun x=>[(eOs 1 false F2_) x]) x))=some ((fun r=>(eOs 1 true F2_) r) r):=fun x r h=>zkj h rfl
theorem Vv:(Qi.add yR).lend 48=none/\(Qi.add yR).gives 48=[true]:=zcX
theorem VS (hC:zx Tryz.prog ctr):yR.Ok Tryz.prog:=by
 refine z7Y ?_;rintro s_ r0 aa;try unfold wG at aa;refine yO true [(2,none)] Vy 9 Tryz.func48 fun E hE=>?_;obtain rfl:=za aa;exact yE ((xCl zt 8).or X0) hC hE [Ha (lnM F2_ s_),Ha (lnM F2_ s_),Hn (Int.natCast_nonneg _:(0:Int)<=((s_.length:Nat):Int)),Hn (Int.natCast_nonneg _:(0:Int)<=((s_.length:Nat):Int)),Hn (clB F2_ s_),Ha (clE 1 F2_ s_)]
def yk:Code:=(Tryz.f17.body).getD .skip
def Wb:zP:=spF (α:=z6) (ρ:=List (List Int)×Int) 17 (fun x=>[zL x]) (fun r=>.tup [F9_ r.1,(eI .i64) r.2]) (fun x=>Qz x) [] (Vr)
abbrev z0M (out:List (List Int)):List (Nat×T):=[(13,.own (eOs 1 false F2_ out))]
abbrev z0L (r_:List (List Int)×Int)(d7:Int)(fz:Int)(ap:List (List Int)):List (Nat×T):=[(7,.d (.atom (.int .u64 d7))),(13,.own (eOs 1 false F2_ ap)),(76,.d (eSl 1 true F2_ r_.1)),(77,.d (I ((r_.1.length:Nat):Int))),(78,.d (I fz))]
abbrev z0H (r_:List (List Int)×Int)(d7:Int)(ai:List (List Int))(fz:Int):List (Nat×T):=[(7,.d (.atom (.int .u64 d7))),(13,.own (eOs 1 false F2_ ai)),(76,.d (eSl 1 true F2_ r_.1)),(77,.d (I ((r_.1.length:Nat):Int))),(78,.d (I fz))]
abbrev z0N (r_:List (List Int)×Int)(d7:Int):List (Nat×T):=[(4,.d (eSl 1 true F2_ r_.1)),(7,.d (.atom (.int .u64 d7)))]
abbrev z0K (r_:List (List Int)×Int)(ah:List Int)(bo:Int)(je:Int):List (Nat×T):=[(4,.d (eSl 1 true F2_ r_.1)),(6,.d (eSl 1 false (eI .u64) ah)),(7,.d (.atom (.int .u64 je))),(36,.d (.atom (.int .u64 (z6H .u64 1 ((r_.1.length:Nat):Int))))),(37,.d (.atom (.int .u64 bo)))]
abbrev z0I (r_:List (List Int)×Int)(ah:List Int)(bo:Int)(az:Int)(bp:Int)(iq:Bool):List (Nat×T):=[(4,.d (eSl 1 true F2_ r_.1)),(6,.d (eSl 1 false (eI .u64) ah)),(8,.d (.atom (.int .u64 bo))),(36,.d (.atom (.int .u64 (z6H .u64 1 ((r_.1.length:Nat):Int))))),(37,.d (.atom (.int .u64 bo))),(48,.d (I az)),(49,.d (I bp)),(50,.d (B (az==bp))),(51,.d (B (az==bp))),(61,.d (B iq))]
abbrev z0F (r_:List (List Int)×Int)(ah:List Int)(bk:Int)(bo:Int)(az:Int)(bp:Int)(iq:Bool)(j7:Int):List (Nat×T):=[(4,.d (eSl 1 true F2_ r_.1)),(6,.d (eSl 1 false (eI .u64) ah)),(7,.d (.atom (.int .u64 bk))),(8,.d (.atom (.int .u64 bo))),(36,.d (.atom (.int .u64 (z6H .u64 1 ((r_.1.length:Nat):Int))))),(37,.d (.atom (.int .u64 bo))),(48,.d (I az)),(49,.d (I bp)),(50,.d (B (az==bp))),(51,.d (B (az==bp))),(61,.d (B iq)),(63,.d (eSl 1 false (eI .u64) ah)),(64,.d (I ((ah.length:Nat):Int))),(65,.d (I j7))]
abbrev z0J (r_:List (List Int)×Int)(ah:List Int)(bk:Int)(bo:Int)(az:Int)(bp:Int)(iq:Bool):List (Nat×T):=[(4,.d (eSl 1 true F2_ r_.1)),(6,.d (eSl 1 false (eI .u64) ah)),(7,.d (.atom (.int .u64 bk))),(8,.d (.atom (.int .u64 bo))),(36,.d (.atom (.int .u64 (z6H .u64 1 ((r_.1.length:Nat):Int))))),(37,.d (.atom (.int .u64 bo))),(48,.d (I az)),(49,.d (I bp)),(50,.d (B (az==bp))),(51,.d (B (az==bp))),(61,.d (B iq))]
abbrev z0G (r_:List (List Int)×Int)(ah:List Int)(bk:Int)(bo:Int):List (Nat×T):=[(4,.d (eSl 1 true F2_ r_.1)),(6,.d (eSl 1 false (eI .u64) ah)),(7,.d (.atom (.int .u64 bk))),(36,.d (.atom (.int .u64 (z6H .u64 1 ((r_.1.length:Nat):Int))))),(37,.d (.atom (.int .u64 bo)))]
theorem z3Y (hC:zx Tryz.prog ctr)(h0j:ctr.Has Yu)(h1L:ctr.Has ZZ)(h0H:ctr.Has jB)(h1M:ctr.Has Vd):Wb.Ok Tryz.prog:=by
 refine zy ?_;rintro m_ r0 aa;try unfold Qz at aa;refine yO false [(2,none),(3,none)] yk 95 Tryz.func17 fun E hE=>?_;refine yA X0 hC yk [1] [] [(1,.own (.box (zL m_)))] [] ?_;refine zaU (c':=(sub [1,0] yk)) (by kernel_rfl) (zhx _) ?_
 obtain⟨r_,h0,aa⟩:=zc aa
 let Z0:List HO:=[Hc h0j (x:=m_) h0 (loC zL m_ <| loN)];rcases zG aa with⟨c0,aa⟩|⟨c0,aa⟩
 ·obtain rfl:=za aa
  exact yEx X0 hC hE (Z0++[Hq c0,Hm (shM F6_ F6_ [])]) (.tup [eSl 1 true F2_ [],I r_.2]) (show LeV (.tup [eSl 1 true F2_ [],I r_.2]) (.tup [eSl 1 true F2_ ([]:List (List Int)),I r_.2]) from inferInstance)
 ·let Z1:List HO:=(Z0++[Hq c0,Ha (lnM F2_ r_.1)])
  rcases zG aa with⟨c1,aa⟩|⟨c1,aa⟩
  ·obtain rfl:=za aa
   exact yEx X0 hC hE (Z1++[Hq c1,Hm (shM F6_ F6_ [])]) (.tup [eSl 1 true F2_ [],I 3]) (show LeV (.tup [eSl 1 true F2_ [],I 3]) (.tup [eSl 1 true F2_ ([]:List (List Int)),I 3]) from inferInstance)
  ·obtain⟨ah,h1,aa⟩:=zc aa
   obtain⟨g0,aa⟩:=gdE aa;refine yJ ((zmR Tryz.prog).or X0) hC yk [1,0,1,1,1,1,1,1] [] [4,7] (fun z:Int=>Wn r_ z=some r0) (fun z=>z0N r_ z) [(4,.d (eSl 1 true F2_ r_.1)),(6,.d (eSl 1 false (eI .u64) ah)),(7,.d (.atom (.int .u64 (IntKind.u64.wrap ((z6H .u64 1 ((r_.1.length:Nat):Int)) - 1)))))] (Z1++[Hq c1,Hc h1L (x:=(m_,r_.1)) h1 (loC zL m_ <| loC F9_ r_.1 <| loN),Ha (lnM F2_ r_.1),Hn g0,Hh (.cut 1)]) ?_ fun J1 ar=>?_
   ·rintro d7 aa
    unfold Wn at aa;refine yJ X0 hC yk [1,0,1,1,1,1,1,1,1,1] [] [13] (fun z:List (List Int)=>Wm z=some r0) (fun z=>z0M z) [(4,.d (eSl 1 true F2_ r_.1)),(7,.d (.atom (.int .u64 d7))),(13,.own (eOs 1 true F6_ []))] [Hh (.cut 1)] ?_ fun J2 ax=>?_
    ·rintro out aa
     unfold Wm at aa;obtain⟨al,h2,aa⟩:=zc aa;obtain rfl:=za aa;exact yE ((z1R zt (VS hC) 94).or X0) hC hE [Hh (.g [true]),Hn Vv,Hx (.a ((eOs 1 true F2_) al)) (Vt out _ h2),Hm (shM F2_ F2_ al)]
    ·obtain⟨t3,ht3,aa⟩:=zc aa
     refine yLx X0 hC yk [1,0,1,1,1,1,1,1,1,1,2,1,0] [J2] (fun s=>Wk r_ d7 s.1 s.2) (fun x=>z0H r_ d7 x.1 x.2) (([]:List (List Int)),0) ht3 [(7,.d (.atom (.int .u64 d7))),(13,.own (eOs 1 true F2_ [])),(76,.d (eSl 1 true F2_ r_.1)),(77,.d (I ((r_.1.length:Nat):Int))),(78,.d (I 0))] inferInstance [Ha (lnM F2_ r_.1)] ?_;rintro⟨ai,fz⟩ m3 av ae hl1 J3 bh;try unfold Wk at ae;rcases zG ae with⟨c2,ae⟩|⟨c2,ae⟩
     ·refine yJ X0 hC yk [1,0,1,1,1,1,1,1,1,1,2,1,0,0,1,1] [J2,J3] [7,13,76,77,78] (fun z:List (List Int)=>ZV fz z=some av) (fun z=>z0L r_ d7 fz z) [(7,.d (.atom (.int .u64 d7))),(13,.own (eOs 1 false F2_ ai)),(76,.d (eSl 1 true F2_ r_.1)),(77,.d (I ((r_.1.length:Nat):Int))),(78,.d (I fz))] [Hq c2,Hh (.cut 0)] ?_ fun J4 ck=>?_
      ·rintro ap ae
       unfold ZV at ae;obtain rfl:=za ae;exact yB X0 hC bh (ap,w64 (fz+1)) hl1 []
      ·obtain⟨u_,h3,ae⟩:=zc ae
       obtain⟨g1,ae⟩:=gdE ae
       let Z2:List HO:=[Hi F2_ h3,Hn g1];rcases zG ae with⟨c3,ae⟩|⟨c3,ae⟩
       ·obtain⟨g2,ae⟩:=gdE ae
        exact yB ((z9R Tryz.prog).or ((zmQ Tryz.prog).or X0)) hC ck (ai++([u_]:List (List Int))) ae (Z2++[Hq c3,Hq (dM F2_ ([u_]:List (List Int))),Hn (dM F2_ ([u_]:List (List Int))),Hn (aL F2_ F2_ g2),Hl (aM F2_ ai ([u_]:List (List Int)))])
       ·exact yB ((z9R Tryz.prog).or ((zmQ Tryz.prog).or X0)) hC ck ai ae (Z2++[Hq c3])
     ·obtain rfl:=za ae
      obtain rfl:=hl1;exact yB X0 hC ax ai aa [Hq c2]
   ·obtain⟨g3,aa⟩:=gdE aa
    obtain⟨t5,ht5,aa⟩:=zc aa;refine yL ((zmR Tryz.prog).or X0) hC yk [1,0,1,1,1,1,1,1,2,1,0] [J1] (fun s=>Wj r_ ah s.1 s.2) (fun x=>z0G r_ ah x.1 x.2) (IntKind.u64.wrap ((z6H .u64 1 ((r_.1.length:Nat):Int)) - 1),0) ht5  [Ha (lnM F2_ r_.1),Hn g3] ?_;rintro⟨bk,bo⟩ m5 av ae hl1 J5 dh;try unfold Wj at ae;rcases zG ae with⟨c4,ae⟩|⟨c4,ae⟩
    ·refine yJ X0 hC yk [1,0,1,1,1,1,1,1,2,1,0,0,1,1] [J1,J5] [4,6,7,36,37] (fun z:Int=>wO bo z=some av) (fun z=>z0K r_ ah bo z) [(4,.d (eSl 1 true F2_ r_.1)),(6,.d (eSl 1 false (eI .u64) ah)),(7,.d (.atom (.int .u64 bk))),(36,.d (.atom (.int .u64 (z6H .u64 1 ((r_.1.length:Nat):Int))))),(37,.d (.atom (.int .u64 bo)))] [Hq c4,Hh (.cut 0)] ?_ fun J6 cx=>?_
     ·rintro je ae
      unfold wO at ae;obtain rfl:=za ae;exact yB X0 hC dh (je,IntKind.u64.wrap (bo+1)) hl1 []
     ·obtain⟨az,h4,ae⟩:=zc ae
      obtain⟨bp,h5,ae⟩:=zc ae;refine yJ X0 hC yk [1,0,1,1,1,1,1,1,2,1,0,0,1,1,2,0,1,1] [J1,J5,J6] [4,6,7,8,36,37,48,49,50,51,61] (fun z:Bool=>ZU ah bk bo z=some av) (fun z=>z0J r_ ah bk bo az bp z) [(4,.d (eSl 1 true F2_ r_.1)),(6,.d (eSl 1 false (eI .u64) ah)),(7,.d (.atom (.int .u64 bk))),(8,.d (.atom (.int .u64 bo))),(9,.d (I az)),(10,.d (I bp)),(36,.d (.atom (.int .u64 (z6H .u64 1 ((r_.1.length:Nat):Int))))),(37,.d (.atom (.int .u64 bo)))] [Hc h0H (x:=bo) h4 (loC (eI .u64) bo <| loN),Hc h0H (x:=bk) h5 (loC (eI .u64) bk <| loN),Hh (.cut 0)] ?_ fun J7 hJ7=>?_
      ·rintro iq ae
       unfold ZU at ae;refine yJ X0 hC yk [1,0,1,1,1,1,1,1,2,1,0,0,1,1,2,0,1,1,1] [J1,J5,J6] [4,6,8,36,37,48,49,50,51,61] (fun z:Unit=>Wl bo=some av) (fun z=>z0I r_ ah bo az bp iq) [(4,.d (eSl 1 true F2_ r_.1)),(6,.d (eSl 1 false (eI .u64) ah)),(7,.d (.atom (.int .u64 bk))),(8,.d (.atom (.int .u64 bo))),(36,.d (.atom (.int .u64 (z6H .u64 1 ((r_.1.length:Nat):Int))))),(37,.d (.atom (.int .u64 bo))),(48,.d (I az)),(49,.d (I bp)),(50,.d (B (az==bp))),(51,.d (B (az==bp))),(61,.d (B iq))] [Hh (.cut 0)] ?_ fun J8 jo=>?_
       ·rintro⟨⟩ ae
        unfold Wl at ae;exact yB X0 hC cx bo ae []
       ·obtain⟨t9,ht9,ae⟩:=zc ae
        refine yL X0 hC yk [1,0,1,1,1,1,1,1,2,1,0,0,1,1,2,0,1,1,1,2,1,0] [J1,J5,J6,J8] (fun s=>Wi ah bk bo s) (fun x=>z0F r_ ah bk bo az bp iq x) 0 ht9  [Ha (lnM (eI .u64) ah)] ?_;rintro j7 m9 cw aj hl2 J9 kw;try unfold Wi at aj;rcases zG aj with⟨c5,aj⟩|⟨c5,aj⟩
        ·obtain⟨d6,h6,aj⟩:=zc aj
         rcases zG aj with⟨c6,aj⟩|⟨c6,aj⟩
         ·obtain rfl:=za aj
          obtain rfl:=hl2;exact yB ((z9R Tryz.prog).or X0) hC cx bk ae [Hq c5,Hi (eI .u64) h6,Hq c6]
         ·obtain rfl:=za aj
          exact yB ((z9R Tryz.prog).or X0) hC kw (w64 (j7+1)) hl2 [Hq c5,Hi (eI .u64) h6,Hq c6]
        ·obtain rfl:=za aj
         obtain rfl:=hl2;exact yB X0 hC jo () ae [Hq c5]
      ·rcases zG ae with⟨c7,ae⟩|⟨c7,ae⟩
       ·exact yB X0 hC cx bk ae (rpN 6 (Hq c7) [qT])
       ·let Z3:List HO:=(rpN 4 (Hq c7) [])
        rcases zG ae with⟨c8,ae⟩|⟨c8,ae⟩
        ·let Z4:List HO:=(Z3++(rpN 4 (Hq c8) []))
         rcases zG ae with⟨c9,ae⟩|⟨c9,ae⟩
         ·exact yB X0 hC cx bk ae (Z4++(rpN 4 (Hq c9) [Hq c8,Hq c9,Hq c7,Hq c8,Hq c7,qT]))
         ·obtain⟨dy,h7,ae⟩:=zc ae
          let Z5:List HO:=(Z4++[Hq c9,Hq c9,Hq c9,Hc h1M (x:=(bo,bk)) h7 (loC (eI .u64) bo <| loC (eI .u64) bk <| loN),Hq c9,Hq c8,Hq c9,Hq c7,Hq c8,Hq c7]);rcases zG ae with⟨c10,ae⟩|⟨c10,ae⟩
          ·exact yB X0 hC cx bk ae (Z5++[Hq c10])
          ·exact yB X0 hC hJ7 (!dy) ae (Z5++[Hq c10])
        ·exact yB X0 hC hJ7 false ae (Z3++(rpN 5 (Hq c8) [Hq c7,Hq c8,Hq c7,qF]))
    ·obtain rfl:=za ae
     obtain rfl:=hl1;exact yB X0 hC ar bk aa [Hq c4]
def KV:Code:=(Tryz.f16.body).getD .skip
def UP:zP:=spF (α:=Unit) (ρ:=Bool) 16 (fun x=>[]) (fun r=>eB r) (fun x=>Qx) [] (fun _ _ _=>rfl)
theorem z6y (hC:zx Tryz.prog ctr)(h1N:ctr.Has Wa)(h03:ctr.Has Qp)(h0j:ctr.Has Yu)(h0x:ctr.Has JB)(h1O:ctr.Has Wb)(h00:ctr.Has Wy)(h0k:ctr.Has Yt)(h0y:ctr.Has qe)(h09:ctr.Has jF)(h04:ctr.Has Wz):UP.Ok Tryz.prog:=by
 refine zy ?_;rintro⟨⟩ r0 aa;try unfold Qx at aa;refine yO true [(0,none)] KV 212 Tryz.func16 fun E hE=>?_;obtain⟨r_,h0,aa⟩:=zc aa;obtain⟨ah,h1,aa⟩:=zc aa;obtain⟨al,h2,aa⟩:=zc aa;obtain⟨az,h3,aa⟩:=zc aa;obtain⟨bp,h4,aa⟩:=zc aa;obtain⟨dy,h5,aa⟩:=zc aa;obtain⟨br,h6,aa⟩:=zc aa
 let Z0:List HO:=[Hc h1N (x:=()) h0 (loN),Hg (z3H h03),Hm (shM F3_ F2_ ([[0],[1]])),Hs (z3I h03 (x:=[[0],[1]]) h1 (loC F9_ ([[0],[1]]:List (List Int)) <| loN)),Hm (shM F3_ F2_ ([[0],[1]])),Hc h0j (x:=r_) h2 (loC z8W r_ <| loN),Hc h0x (x:=(r_,0)) h3 (loC z8W r_ <| loC (eI .i64) 0 <| loN),Hc h0x (x:=(r_,1)) h4 (loC z8W r_ <| loC (eI .i64) 1 <| loN),Hc h0x (x:=(r_,2)) h5 (loC z8W r_ <| loC (eI .i64) 2 <| loN),Hc h1O (x:=r_) h6 (loC z8W r_ <| loN)];rcases zG aa with⟨c0,aa⟩|⟨c0,aa⟩
 ·obtain rfl:=za aa
  exact yE X0 hC hE (Z0++(Hq c0::Hq c0::Hq c0::(rpN 36 qT [])))
 ·rcases zG aa with⟨c1,aa⟩|⟨c1,aa⟩
  ·obtain rfl:=za aa
   exact yE X0 hC hE (Z0++(Hq c0::Hq c0::Hq c0::Hq c1::Hq c1::Hq c1::(rpN 33 qT [])))
  ·let Z1:List HO:=(Z0++[Hq c0,Hq c0,Hq c0,Hq c1,Hq c1,Hq c1])
   rcases zG aa with⟨c2,aa⟩|⟨c2,aa⟩
   ·obtain rfl:=za aa
    exact yE X0 hC hE (Z1++(Hq c2::Hq c2::Hq c2::(rpN 30 qT [])))
   ·rcases zG aa with⟨c3,aa⟩|⟨c3,aa⟩
    ·obtain rfl:=za aa
     exact yE X0 hC hE (Z1++(Hq c2::Hq c2::Hq c2::Hq c3::Hq c3::Hq c3::(rpN 27 qT [])))
    ·let Z2:List HO:=(Z1++[Hq c2,Hq c2,Hq c2,Hq c3,Hq c3,Hq c3])
     rcases zG aa with⟨c4,aa⟩|⟨c4,aa⟩
     ·obtain rfl:=za aa
      exact yE X0 hC hE (Z2++(rpN 5 (Hq c4) (rpN 22 qT [])))
     ·obtain⟨cg,h7,aa⟩:=zc aa
      let Z3:List HO:=(Z2++[Hq c4,Hq c4,Hq c4,Hn (k8 (f:=.fn 11 []) (xs:=[F9_ al.1,w8 ah]) (ls:=[]) (r:=B cg) (ys:=[]) [F9_ al.1,w8 ah] (show Ku [F9_ al.1,w8 ah] [F9_ al.1,w8 ah] from inferInstance)),Hq c4,Hq c4]);rcases zG aa with⟨c5,aa⟩|⟨c5,aa⟩
      ·obtain rfl:=za aa
       exact yE ((vN (P:=Tryz.prog) yu [] (lentCall (yh hC h00 (x:=(al.1,ah)) h7)) 73).or X0) hC hE (Z3++(rpN 5 (Hq c5) (rpN 17 qT [])))
      ·obtain⟨gl,h8,aa⟩:=zc aa
       let Z4:List HO:=(Z3++[Hq c5,Hq c5,Hq c5,Hn (k8 (f:=.fn 11 []) (xs:=[F9_ az.1,w8 ah]) (ls:=[]) (r:=B gl) (ys:=[]) [F9_ az.1,w8 ah] (show Ku [F9_ az.1,w8 ah] [F9_ az.1,w8 ah] from inferInstance)),Hq c5,Hq c5]);rcases zG aa with⟨c6,aa⟩|⟨c6,aa⟩
       ·obtain rfl:=za aa
        exact yE ((vN (P:=Tryz.prog) yu [] (lentCall (yh hC h00 (x:=(az.1,ah)) h8)) 79).or ((vN (P:=Tryz.prog) yu [] (lentCall (yh hC h00 (x:=(al.1,ah)) h7)) 73).or X0)) hC hE (Z4++(rpN 5 (Hq c6) (rpN 12 qT [])))
       ·obtain⟨j8,h9,aa⟩:=zc aa
        let Z5:List HO:=(Z4++[Hq c6,Hq c6,Hq c6,Hn (k8 (f:=.fn 11 []) (xs:=[F9_ bp.1,w8 ah]) (ls:=[]) (r:=B j8) (ys:=[]) [F9_ bp.1,w8 ah] (show Ku [F9_ bp.1,w8 ah] [F9_ bp.1,w8 ah] from inferInstance)),Hq c6,Hq c6]);rcases zG aa with⟨c7,aa⟩|⟨c7,aa⟩
        ·obtain rfl:=za aa
         exact yE ((vN (P:=Tryz.prog) yu [] (lentCall (yh hC h00 (x:=(bp.1,ah)) h9)) 85).or ((vN (P:=Tryz.prog) yu [] (lentCall (yh hC h00 (x:=(az.1,ah)) h8)) 79).or ((vN (P:=Tryz.prog) yu [] (lentCall (yh hC h00 (x:=(al.1,ah)) h7)) 73).or X0))) hC hE (Z5++(rpN 6 (Hq c7) (rpN 6 qT [])))
        ·obtain⟨g0,aa⟩:=gdE aa
         obtain⟨ir,h10,aa⟩:=zc aa
         let Z6:List HO:=(Z5++[Hq c7,Hq c7,Hq c7,Hn (slB g0),Hn (zb8 F6_ g0),Ha (slM 1 false F6_ ah 0 (1:Int).toNat),Hq c7,Hn (k8 (f:=.fn 11 []) (xs:=[F9_ dy.1,w8 ((ah.drop 0).take ((1:Int).toNat - 0))]) (ls:=[]) (r:=B ir) (ys:=[]) [F9_ dy.1,w8 ((ah.drop 0).take ((1:Int).toNat - 0))] (show Ku [F9_ dy.1,w8 ((ah.drop 0).take ((1:Int).toNat - 0))] [F9_ dy.1,w8 ((ah.drop 0).take ((1:Int).toNat - 0))] from inferInstance)),Hq c7,Hq c7]);rcases zG aa with⟨c8,aa⟩|⟨c8,aa⟩
         ·obtain rfl:=za aa
          exact yE ((vN (P:=Tryz.prog) yu [] (lentCall (yh hC h00 (x:=(dy.1,((ah.drop 0).take ((1:Int).toNat - 0)))) h10)) 92).or ((vN (P:=Tryz.prog) yu [] (lentCall (yh hC h00 (x:=(bp.1,ah)) h9)) 85).or ((vN (P:=Tryz.prog) yu [] (lentCall (yh hC h00 (x:=(az.1,ah)) h8)) 79).or ((vN (P:=Tryz.prog) yu [] (lentCall (yh hC h00 (x:=(al.1,ah)) h7)) 73).or X0)))) hC hE (Z6++(rpN 5 (Hq c8) [qT]))
         ·obtain⟨k9,h11,aa⟩:=zc aa
          let Z7:List HO:=(Z6++[Hq c8,Hq c8,Hq c8,Hn (k8 (f:=.fn 11 []) (xs:=[F9_ br.1,w8 ah]) (ls:=[]) (r:=B k9) (ys:=[]) [F9_ br.1,w8 ah] (show Ku [F9_ br.1,w8 ah] [F9_ br.1,w8 ah] from inferInstance)),Hq c8,Hq c8]);rcases zG aa with⟨c9,aa⟩|⟨c9,aa⟩
          ·obtain rfl:=za aa
           exact yE ((vN (P:=Tryz.prog) yu [] (lentCall (yh hC h00 (x:=(br.1,ah)) h11)) 98).or ((vN (P:=Tryz.prog) yu [] (lentCall (yh hC h00 (x:=(dy.1,((ah.drop 0).take ((1:Int).toNat - 0)))) h10)) 92).or ((vN (P:=Tryz.prog) yu [] (lentCall (yh hC h00 (x:=(bp.1,ah)) h9)) 85).or ((vN (P:=Tryz.prog) yu [] (lentCall (yh hC h00 (x:=(az.1,ah)) h8)) 79).or ((vN (P:=Tryz.prog) yu [] (lentCall (yh hC h00 (x:=(al.1,ah)) h7)) 73).or X0))))) hC hE (Z7++[Hq c9])
          ·obtain⟨g1,aa⟩:=gdE aa
           obtain⟨j9,h12,aa⟩:=zc aa;obtain⟨ki,h13,aa⟩:=zc aa;obtain⟨ka,h14,aa⟩:=zc aa;obtain⟨co,h15,aa⟩:=zc aa;obtain⟨iu,h16,aa⟩:=zc aa;obtain⟨cu,h17,aa⟩:=zc aa;obtain⟨g2,aa⟩:=gdE aa;obtain⟨iv,h18,aa⟩:=zc aa;obtain⟨db,h19,aa⟩:=zc aa;obtain⟨g3,aa⟩:=gdE aa;obtain⟨iw,h20,aa⟩:=zc aa;obtain⟨d8,h21,aa⟩:=zc aa;obtain⟨g4,aa⟩:=gdE aa;obtain⟨fl,h22,aa⟩:=zc aa;refine yA ((vN (P:=Tryz.prog) yu [] (zeD (l:=[F3_ fl.1,(eI .i64) fl.2]) (m:=[F2_ fl.1,(eI .i64) fl.2]) (lentCall (yh hC h09 (x:=(r_,((ah.drop 0).take ((1:Int).toNat - 0)),([]:List (List Int)))) h22)) (.cons (Kv.live (f:=F3_) (g:=F2_) fl.1) (Kv.sh (f:=F3_) (g:=F2_) fl.1) (.cons (Kv.live (f:=(eI .i64)) (g:=(eI .i64)) fl.2) (Kv.sh (f:=(eI .i64)) (g:=(eI .i64)) fl.2) (.nil)))) 156).or ((vN (P:=Tryz.prog) yu [] (zeD (l:=[F3_ d8.1,(eI .i64) d8.2]) (m:=[F2_ d8.1,(eI .i64) d8.2]) (lentCall (yh hC h09 (x:=(r_,((ah.drop 0).take ((1:Int).toNat - 0)),iw)) h21)) (.cons (Kv.live (f:=F3_) (g:=F2_) d8.1) (Kv.sh (f:=F3_) (g:=F2_) d8.1) (.cons (Kv.live (f:=(eI .i64)) (g:=(eI .i64)) d8.2) (Kv.sh (f:=(eI .i64)) (g:=(eI .i64)) d8.2) (.nil)))) 149).or ((vN (P:=Tryz.prog) yu [] (zeD (l:=[F3_ db.1,(eI .i64) db.2]) (m:=[F2_ db.1,(eI .i64) db.2]) (lentCall (yh hC h09 (x:=(r_,((ah.drop 0).take ((1:Int).toNat - 0)),iv)) h19)) (.cons (Kv.live (f:=F3_) (g:=F2_) db.1) (Kv.sh (f:=F3_) (g:=F2_) db.1) (.cons (Kv.live (f:=(eI .i64)) (g:=(eI .i64)) db.2) (Kv.sh (f:=(eI .i64)) (g:=(eI .i64)) db.2) (.nil)))) 139).or ((vN (P:=Tryz.prog) yu [] (zeD (l:=[F3_ cu.1,(eI .i64) cu.2]) (m:=[F2_ cu.1,(eI .i64) cu.2]) (lentCall (yh hC h09 (x:=(r_,ah,iu)) h17)) (.cons (Kv.live (f:=F3_) (g:=F2_) cu.1) (Kv.sh (f:=F3_) (g:=F2_) cu.1) (.cons (Kv.live (f:=(eI .i64)) (g:=(eI .i64)) cu.2) (Kv.sh (f:=(eI .i64)) (g:=(eI .i64)) cu.2) (.nil)))) 129).or ((XK Tryz.prog 121 [none,some (I co.2)]).or ((XK Tryz.prog 120 [some (eOs 1 true F3_ co.1),some (I co.2)]).or ((vN (P:=Tryz.prog) yu [] (lentCall (yh hC h00 (x:=(br.1,ah)) h11)) 98).or ((vN (P:=Tryz.prog) yu [] (lentCall (yh hC h00 (x:=(dy.1,((ah.drop 0).take ((1:Int).toNat - 0)))) h10)) 92).or ((vN (P:=Tryz.prog) yu [] (lentCall (yh hC h00 (x:=(bp.1,ah)) h9)) 85).or ((vN (P:=Tryz.prog) yu [] (lentCall (yh hC h00 (x:=(az.1,ah)) h8)) 79).or ((vN (P:=Tryz.prog) yu [] (lentCall (yh hC h00 (x:=(al.1,ah)) h7)) 73).or X0))))))))))) hC KV [1,1,1,1,1,1,1,1,1,1,1,1,1,1,1,1] [] [(2,.d (eSl 1 false F6_ ah)),(4,.d (I j9.2)),(6,.d (I ka.2)),(8,.d (I co.2)),(10,.d (I cu.2)),(12,.d (I db.2)),(13,.d (B j9.1)),(14,.d (B ka.1)),(15,.own (eOs 1 true F3_ co.1)),(16,.d (eSl 1 true (eI .i64) cu.1)),(17,.d (eSl 1 true (eI .i64) db.1)),(18,.d (eSl 1 true (eI .i64) d8.1)),(19,.d (I d8.2)),(21,.d (I fl.2))] (Z7++[Hq c9,Hn (slB g1),Hn (zb8 F6_ g1),Ha (slM 1 false F6_ ah 0 (1:Int).toNat),Hc h0k (x:=(r_,((ah.drop 0).take ((1:Int).toNat - 0)))) h12 (loC z8W r_ <| loC w8 ((ah.drop 0).take ((1:Int).toNat - 0)) <| loN),Hg (z3H h03),Hm (shM F3_ F2_ ([[0,0]])),Hs (z3I h03 (x:=[[0,0]]) h13 (loC F9_ ([[0,0]]:List (List Int)) <| loN)),Hm (shM F3_ F2_ ([[0,0]])),Hc h0k (x:=(r_,ki)) h14 (loC z8W r_ <| loC w8 ki <| loN),Hc h0y (x:=(r_,ah,1)) h15 (loC z8W r_ <| loC w8 ah <| loC (eI .i64) 1 <| loN),Hn (⟨rfl,rfl⟩:T.own (.opq (Yi [some (eOs 1 true F3_ co.1),some (I co.2)]))=T.own (.opq (Yi [some (eOs 1 true F3_ co.1),some (I co.2)]))/\1=1),Hn (⟨rfl,rfl⟩:T.own (.opq (Yi [none,some (I co.2)]))=T.own (.opq (Yi [none,some (I co.2)]))/\1=1),Hg (z3H h03),Hm (shM F3_ F2_ ([[0],[0]])),Hs (z3I h03 (x:=[[0],[0]]) h16 (loC F9_ ([[0],[0]]:List (List Int)) <| loN)),Hm (shM F3_ F2_ ([[0],[0]])),Hn (k8 (f:=.fn 25 []) (xs:=[zL r_,w8 ah,w8 iu]) (ls:=[]) (r:=.tup [F2_ cu.1,(eI .i64) cu.2]) (ys:=[]) [z8W r_,w8 ah,w8 iu] (show Ku [z8W r_,w8 ah,w8 iu] [zL r_,w8 ah,w8 iu] from inferInstance)),Hn (slB g2),Hn (zb8 F6_ g2),Ha (slM 1 false F6_ ah 0 (1:Int).toNat),Hg (z3H h03),Hm (shM F3_ F2_ ([[0]])),Hs (z3I h03 (x:=[[0]]) h18 (loC F9_ ([[0]]:List (List Int)) <| loN)),Hm (shM F3_ F2_ ([[0]])),Hn (k8 (f:=.fn 25 []) (xs:=[zL r_,w8 ((ah.drop 0).take ((1:Int).toNat - 0)),w8 iv]) (ls:=[]) (r:=.tup [F2_ db.1,(eI .i64) db.2]) (ys:=[]) [z8W r_,w8 ((ah.drop 0).take ((1:Int).toNat - 0)),w8 iv] (show Ku [z8W r_,w8 ((ah.drop 0).take ((1:Int).toNat - 0)),w8 iv] [zL r_,w8 ((ah.drop 0).take ((1:Int).toNat - 0)),w8 iv] from inferInstance)),Hn (slB g3),Hn (zb8 F6_ g3),Ha (slM 1 false F6_ ah 0 (1:Int).toNat),Hg (z3H h03),Hm (shM F3_ F2_ ([[7]])),Hs (z3I h03 (x:=[[7]]) h20 (loC F9_ ([[7]]:List (List Int)) <| loN)),Hm (shM F3_ F2_ ([[7]])),Hn (k8 (f:=.fn 25 []) (xs:=[zL r_,w8 ((ah.drop 0).take ((1:Int).toNat - 0)),w8 iw]) (ls:=[]) (r:=.tup [F2_ d8.1,(eI .i64) d8.2]) (ys:=[]) [z8W r_,w8 ((ah.drop 0).take ((1:Int).toNat - 0)),w8 iw] (show Ku [z8W r_,w8 ((ah.drop 0).take ((1:Int).toNat - 0)),w8 iw] [zL r_,w8 ((ah.drop 0).take ((1:Int).toNat - 0)),w8 iw] from inferInstance)),Hn (slB g4),Hn (zb8 F6_ g4),Ha (slM 1 false F6_ ah 0 (1:Int).toNat),Hn (k8 (f:=.fn 25 []) (xs:=[zL r_,w8 ((ah.drop 0).take ((1:Int).toNat - 0)),w8 ([]:List (List Int))]) (ls:=[]) (r:=.tup [F2_ fl.1,(eI .i64) fl.2]) (ys:=[]) [z8W r_,w8 ((ah.drop 0).take ((1:Int).toNat - 0)),ziF ([]:List (List Int))] (show Ku [z8W r_,w8 ((ah.drop 0).take ((1:Int).toNat - 0)),ziF ([]:List (List Int))] [zL r_,w8 ((ah.drop 0).take ((1:Int).toNat - 0)),w8 ([]:List (List Int))] from inferInstance)),Hh (.cut 0)]) ?_;rcases zG aa with⟨c10,aa⟩|⟨c10,aa⟩
           ·rcases zG aa with⟨c11,aa⟩|⟨c11,aa⟩
            ·let Z8:List HO:=[Hq c10,Hq c10,Hq c10,Hq c11,Hq c11,Hq c11]
             rcases zG aa with⟨c12,aa⟩|⟨c12,aa⟩
             ·rcases zG aa with⟨c13,aa⟩|⟨c13,aa⟩
              ·let Z9:List HO:=(Z8++[Hq c12,Hq c12,Hq c12,Hq c13,Hq c13,Hq c13])
               rcases zG aa with⟨c14,aa⟩|⟨c14,aa⟩
               ·rcases zG aa with⟨c15,aa⟩|⟨c15,aa⟩
                ·let Z10:List HO:=(Z9++[Hq c14,Hq c14,Hq c14,Hq c15,Hq c15,Hq c15])
                 rcases zG aa with⟨c16,aa⟩|⟨c16,aa⟩
                 ·rcases zG aa with⟨c17,aa⟩|⟨c17,aa⟩
                  ·obtain⟨la,h23,aa⟩:=zc aa
                   let Z11:List HO:=(Z10++[Hq c16,Hq c16,Hq c17,Hq c17,Hq c17,Hm (shM F3_ F2_ co.1),Hn (k8 (f:=.fn 11 []) (xs:=[F9_ co.1,w8 ah]) (ls:=[]) (r:=B la) (ys:=[]) [F9_ co.1,w8 ah] (show Ku [F9_ co.1,w8 ah] [F9_ co.1,w8 ah] from inferInstance)),Hq c17]);rcases zG aa with⟨c18,aa⟩|⟨c18,aa⟩
                   ·obtain⟨lb,h24,aa⟩:=zc aa
                    let Z12:List HO:=(Z11++[Hq c18,Hq c18,Hq c18,Hm (shM (eI .i64) (eI .i64) ([0])),Hn (k8 (f:=.fn 26 []) (xs:=[F2_ cu.1,F6_ ([0]:List Int)]) (ls:=[]) (r:=B lb) (ys:=[]) [F2_ cu.1,F2_ ([0]:List Int)] (show Ku [F2_ cu.1,F2_ ([0]:List Int)] [F2_ cu.1,F6_ ([0]:List Int)] from inferInstance)),Hq c18]);rcases zG aa with⟨c19,aa⟩|⟨c19,aa⟩
                    ·obtain⟨lc,h25,aa⟩:=zc aa
                     let Z13:List HO:=(Z12++[Hq c19,Hq c19,Hq c19,Hm (shM (eI .i64) (eI .i64) ([0,1])),Hn (k8 (f:=.fn 26 []) (xs:=[F2_ db.1,F6_ ([0,1]:List Int)]) (ls:=[]) (r:=B lc) (ys:=[]) [F2_ db.1,F2_ ([0,1]:List Int)] (show Ku [F2_ db.1,F2_ ([0,1]:List Int)] [F2_ db.1,F6_ ([0,1]:List Int)] from inferInstance)),Hq c19]);rcases zG aa with⟨c20,aa⟩|⟨c20,aa⟩
                     ·let Z14:List HO:=(Z13++[Hq c20,Hq c20,Ha (lnM (eI .i64) d8.1),Hq c20,Hq c20])
                      rcases zG aa with⟨c21,aa⟩|⟨c21,aa⟩
                      ·obtain rfl:=za aa
                       exact yE ((vN (P:=Tryz.prog) yu [] (lentCall (yh hC h04 (x:=(db.1,([0,1]:List Int))) h25)) 201).or ((vN (P:=Tryz.prog) yu [] (lentCall (yh hC h04 (x:=(cu.1,([0]:List Int))) h24)) 196).or ((vN (P:=Tryz.prog) yu [] (lentCall (yh hC h00 (x:=(co.1,ah)) h23)) 191).or X0))) hC hE (Z14++[Hq c21,Hq c21,Hq c21])
                      ·obtain rfl:=za aa
                       exact yE ((vN (P:=Tryz.prog) yu [] (lentCall (yh hC h04 (x:=(db.1,([0,1]:List Int))) h25)) 201).or ((vN (P:=Tryz.prog) yu [] (lentCall (yh hC h04 (x:=(cu.1,([0]:List Int))) h24)) 196).or ((vN (P:=Tryz.prog) yu [] (lentCall (yh hC h00 (x:=(co.1,ah)) h23)) 191).or X0))) hC hE (Z14++[Hq c21,Hq c21,Hq c21])
                     ·obtain rfl:=za aa
                      exact yE ((vN (P:=Tryz.prog) yu [] (lentCall (yh hC h04 (x:=(db.1,([0,1]:List Int))) h25)) 201).or ((vN (P:=Tryz.prog) yu [] (lentCall (yh hC h04 (x:=(cu.1,([0]:List Int))) h24)) 196).or ((vN (P:=Tryz.prog) yu [] (lentCall (yh hC h00 (x:=(co.1,ah)) h23)) 191).or X0))) hC hE (Z13++(rpN 4 (Hq c20) [qF,qF,qF]))
                    ·obtain rfl:=za aa
                     exact yE ((vN (P:=Tryz.prog) yu [] (lentCall (yh hC h04 (x:=(cu.1,([0]:List Int))) h24)) 196).or ((vN (P:=Tryz.prog) yu [] (lentCall (yh hC h00 (x:=(co.1,ah)) h23)) 191).or X0)) hC hE (Z12++(rpN 4 (Hq c19) (rpN 7 qF [])))
                   ·obtain rfl:=za aa
                    exact yE ((vN (P:=Tryz.prog) yu [] (lentCall (yh hC h00 (x:=(co.1,ah)) h23)) 191).or X0) hC hE (Z11++(rpN 4 (Hq c18) (rpN 11 qF [])))
                  ·obtain rfl:=za aa
                   exact yE X0 hC hE (Z10++(Hq c16::Hq c16::(rpN 4 (Hq c17) (rpN 15 qF []))))
                 ·obtain rfl:=za aa
                  exact yE X0 hC hE (Z10++(Hq c16::Hq c16::(rpN 19 qF [])))
                ·obtain rfl:=za aa
                 exact yE X0 hC hE (Z9++(Hq c14::Hq c14::Hq c14::Hq c15::Hq c15::Hq c15::(rpN 21 qF [])))
               ·obtain rfl:=za aa
                exact yE X0 hC hE (Z9++(Hq c14::Hq c14::Hq c14::(rpN 24 qF [])))
              ·obtain rfl:=za aa
               exact yE X0 hC hE (Z8++(Hq c12::Hq c12::Hq c12::Hq c13::Hq c13::Hq c13::(rpN 27 qF [])))
             ·obtain rfl:=za aa
              exact yE X0 hC hE (Z8++(Hq c12::Hq c12::Hq c12::(rpN 30 qF [])))
            ·obtain rfl:=za aa
             exact yE X0 hC hE (Hq c10::Hq c10::Hq c10::Hq c11::Hq c11::Hq c11::(rpN 33 qF []))
           ·obtain rfl:=za aa
            exact yE X0 hC hE (Hq c10::Hq c10::Hq c10::(rpN 36 qF []))
def X4:Code:=(Tryz.f8.body).getD .skip
def Ys:zP:=spF (α:=ub) (ρ:=Bool) 8 (fun x=>[(ZF Kg) x]) (fun r=>eB r) (fun x=>YR x) [] (Vr)
abbrev Kc:List (Nat×T):=[]
abbrev Kb (r_:z6)(ah:List (List Int)×Int)(s_:Int):List (Nat×T):=[(3,.own (.box (zL r_))),(4,.d (eSl 1 true F2_ ah.1)),(10,.d (I s_))]
theorem z1Y (hC:zx Tryz.prog ctr)(h1P:ctr.Has Qq)(h0j:ctr.Has Yu)(h1Q:ctr.Has UJ)(h0k:ctr.Has Yt)(h0y:ctr.Has qe)(h09:ctr.Has jF)(h1R:ctr.Has Yn)(h00:ctr.Has Wy)(h04:ctr.Has Wz)(h1S:ctr.Has UP):Ys.Ok Tryz.prog:=by
 refine zy ?_;rintro x_ r0 aa;try unfold YR at aa;refine yO true [(2,none)] X4 108 Tryz.func8 fun E hE=>?_;obtain⟨r_,h0,aa⟩:=zc aa;obtain⟨ah,h1,aa⟩:=zc aa;obtain⟨al,h2,aa⟩:=zc aa
 let Z0:List HO:=[Hc h1P (x:=(ub.mk x_.C)) h0 (loC (ZF Kg) (ub.mk x_.C) <| loN),Hc h0j (x:=r_) h1 (loC zL r_ <| loN),Ha (lnM yW r_.Rows),Hc h1Q (x:=(r_.Inputs,w64 (((r_.Rows.length:Nat):Int) - 1))) h2 (loC (eI .i64) r_.Inputs <| loC (eI .i64) (w64 (((r_.Rows.length:Nat):Int) - 1)) <| loN)];rcases zG aa with⟨c0,aa⟩|⟨c0,aa⟩
 ·obtain rfl:=za aa
  exact yE X0 hC hE (Z0++[Hq c0,Hq c0,Hq c0,qT])
 ·rcases zG aa with⟨c1,aa⟩|⟨c1,aa⟩
  ·obtain rfl:=za aa
   exact yE X0 hC hE (Z0++[Hq c0,Hq c0,Hq c0,Hq c1])
  ·obtain⟨az,h3,aa⟩:=zc aa
   obtain⟨bp,h4,aa⟩:=zc aa
   let Z1:List HO:=(Z0++[Hq c0,Hq c0,Hq c0,Hq c1,Hc h0k (x:=(r_,ah.1)) h3 (loC zL r_ <| loC F9_ ah.1 <| loN),Hc h0k (x:=(r_,al.1)) h4 (loC zL r_ <| loC F9_ al.1 <| loN)]);rcases zG aa with⟨c2,aa⟩|⟨c2,aa⟩
   ·obtain rfl:=za aa
    exact yE X0 hC hE (Z1++(Hq c2::Hq c2::Hq c2::(rpN 7 qT [])))
   ·rcases zG aa with⟨c3,aa⟩|⟨c3,aa⟩
    ·obtain rfl:=za aa
     exact yE X0 hC hE (Z1++(Hq c2::Hq c2::Hq c2::Hq c3::Hq c3::Hq c3::(rpN 4 qT [])))
    ·let Z2:List HO:=(Z1++[Hq c2,Hq c2,Hq c2,Hq c3,Hq c3,Hq c3])
     rcases zG aa with⟨c4,aa⟩|⟨c4,aa⟩
     ·obtain rfl:=za aa
      exact yE X0 hC hE (Z2++[Hq c4,Hq c4,Hq c4,qT])
     ·rcases zG aa with⟨c5,aa⟩|⟨c5,aa⟩
      ·obtain rfl:=za aa
       exact yE X0 hC hE (Z2++[Hq c4,Hq c4,Hq c4,Hq c5])
      ·refine yJ X0 hC X4 [1,1,1,1,1,1,1,1] [] [] (fun z:Unit=>jP=some r0) (fun z=>Kc) [(3,.own (.box (zL r_))),(4,.d (eSl 1 true F2_ ah.1))] (Z2++[Hq c4,Hq c4,Hq c4,Hq c5,Hh (.cut 0)]) ?_ fun J1 ar=>?_
       ·rintro⟨⟩ aa
        unfold jP at aa;obtain⟨dy,h5,aa⟩:=zc aa;obtain rfl:=za aa;exact yE X0 hC hE [Hc h1S (x:=()) h5 (loN)]
       ·obtain⟨t2,ht2,aa⟩:=zc aa
        refine yL X0 hC X4 [1,1,1,1,1,1,1,1,2,1,0] [J1] (fun s=>xU r_ ah s) (fun x=>Kb r_ ah x) 0 ht2  [] ?_;rintro s_ m2 av ae hl1 J2 ax;try unfold xU at ae
        let Z3:List HO:=[Ha (lnM yW r_.Rows)];rcases zG ae with⟨c6,ae⟩|⟨c6,ae⟩
        ·obtain⟨br,h6,ae⟩:=zc ae
         obtain⟨cg,h7,ae⟩:=zc ae
         let Z4:List HO:=(Z3++[Hq c6,Hc h0y (x:=(r_,ah.1,s_)) h6 (loC zL r_ <| loC F9_ ah.1 <| loC (eI .i64) s_ <| loN),Hn (⟨rfl,rfl⟩:T.own (.opq (Yi [some (eOs 1 true F3_ br.1),some (I br.2)]))=T.own (.opq (Yi [some (eOs 1 true F3_ br.1),some (I br.2)]))/\1=1),Hn (⟨rfl,rfl⟩:T.own (.opq (Yi [none,some (I br.2)]))=T.own (.opq (Yi [none,some (I br.2)]))/\1=1),Hg (z3H h09),Hm (shM F3_ F2_ br.1),Hs (z3I h09 (x:=(r_,ah.1,br.1)) h7 (loC zL r_ <| loC F9_ ah.1 <| loC F9_ br.1 <| loN)),Hm (shM F3_ F2_ br.1),Hn (⟨rfl,rfl⟩:T.own (.opq (Yi [some (eOs 1 true (eI .i64) cg.1),some (I cg.2)]))=T.own (.opq (Yi [some (eOs 1 true (eI .i64) cg.1),some (I cg.2)]))/\1=1),Hn (⟨rfl,rfl⟩:T.own (.opq (Yi [none,some (I cg.2)]))=T.own (.opq (Yi [none,some (I cg.2)]))/\1=1)]);rcases zG ae with⟨c7,ae⟩|⟨c7,ae⟩
         ·obtain rfl:=za ae
          obtain rfl:=hl1;obtain rfl:=za aa;exact yE ((XK Tryz.prog 84 [none,some (I cg.2)]).or ((XK Tryz.prog 83 [some (eOs 1 true (eI .i64) cg.1),some (I cg.2)]).or ((XK Tryz.prog 77 [none,some (I br.2)]).or ((XK Tryz.prog 76 [some (eOs 1 true F3_ br.1),some (I br.2)]).or X0)))) hC hE (Z4++(Hq c7::Hq c7::Hq c7::(rpN 15 qT [])))
         ·rcases zG ae with⟨c8,ae⟩|⟨c8,ae⟩
          ·obtain rfl:=za ae
           obtain rfl:=hl1;obtain rfl:=za aa;exact yE ((XK Tryz.prog 84 [none,some (I cg.2)]).or ((XK Tryz.prog 83 [some (eOs 1 true (eI .i64) cg.1),some (I cg.2)]).or ((XK Tryz.prog 77 [none,some (I br.2)]).or ((XK Tryz.prog 76 [some (eOs 1 true F3_ br.1),some (I br.2)]).or X0)))) hC hE (Z4++(Hq c7::Hq c7::Hq c7::(rpN 8 (Hq c8) (rpN 7 qT []))))
          ·obtain⟨gl,h8,ae⟩:=zc ae
           obtain⟨j8,h9,ae⟩:=zc ae
           let Z5:List HO:=(Z4++(Hq c7::Hq c7::Hq c7::(rpN 5 (Hq c8) [Hc h1R (x:=(r_,ah.1,s_)) h8 (loC zL r_ <| loC F9_ ah.1 <| loC (eI .i64) s_ <| loN),Hq c8,Hm (shM F5_ F6_ gl),Hn (k8 (f:=.fn 11 []) (xs:=[F9_ br.1,w8 gl]) (ls:=[]) (r:=B j8) (ys:=[]) [F9_ br.1,w8 gl] (show Ku [F9_ br.1,w8 gl] [F9_ br.1,w8 gl] from inferInstance)),Hq c8,Hq c8])));rcases zG ae with⟨c9,ae⟩|⟨c9,ae⟩
           ·obtain rfl:=za ae
            obtain rfl:=hl1;obtain rfl:=za aa;exact yE ((vN (P:=Tryz.prog) yu [] (lentCall (yh hC h00 (x:=(br.1,gl)) h9)) 97).or ((XK Tryz.prog 84 [none,some (I cg.2)]).or ((XK Tryz.prog 83 [some (eOs 1 true (eI .i64) cg.1),some (I cg.2)]).or ((XK Tryz.prog 77 [none,some (I br.2)]).or ((XK Tryz.prog 76 [some (eOs 1 true F3_ br.1),some (I br.2)]).or X0))))) hC hE (Z5++(rpN 6 (Hq c9) [qT]))
           ·obtain⟨ir,h10,ae⟩:=zc ae
            let Z6:List HO:=(Z5++(rpN 4 (Hq c9) [Hm (shM (eI .i64) (eI .i64) cg.1),Hm (shM (eI .i64) (eI .i64) ([s_])),Hn (k8 (f:=.fn 26 []) (xs:=[F2_ cg.1,F6_ ([s_]:List Int)]) (ls:=[]) (r:=B ir) (ys:=[]) [F2_ cg.1,F2_ ([s_]:List Int)] (show Ku [F2_ cg.1,F2_ ([s_]:List Int)] [F2_ cg.1,F6_ ([s_]:List Int)] from inferInstance)),Hq c9,Hq c9]));rcases zG ae with⟨c10,ae⟩|⟨c10,ae⟩
            ·obtain rfl:=za ae
             obtain rfl:=hl1;obtain rfl:=za aa;exact yE ((vN (P:=Tryz.prog) yu [] (lentCall (yh hC h04 (x:=(cg.1,([s_]:List Int))) h10)) 104).or ((vN (P:=Tryz.prog) yu [] (lentCall (yh hC h00 (x:=(br.1,gl)) h9)) 97).or ((XK Tryz.prog 84 [none,some (I cg.2)]).or ((XK Tryz.prog 83 [some (eOs 1 true (eI .i64) cg.1),some (I cg.2)]).or ((XK Tryz.prog 77 [none,some (I br.2)]).or ((XK Tryz.prog 76 [some (eOs 1 true F3_ br.1),some (I br.2)]).or X0)))))) hC hE (Z6++[Hq c10])
            ·obtain rfl:=za ae
             exact yB ((vN (P:=Tryz.prog) yu [] (lentCall (yh hC h04 (x:=(cg.1,([s_]:List Int))) h10)) 104).or ((vN (P:=Tryz.prog) yu [] (lentCall (yh hC h00 (x:=(br.1,gl)) h9)) 97).or ((XK Tryz.prog 84 [none,some (I cg.2)]).or ((XK Tryz.prog 83 [some (eOs 1 true (eI .i64) cg.1),some (I cg.2)]).or ((XK Tryz.prog 77 [none,some (I br.2)]).or ((XK Tryz.prog 76 [some (eOs 1 true F3_ br.1),some (I br.2)]).or X0)))))) hC ax (w64 (s_+1)) hl1 (Z6++[Hq c10])
        ·obtain rfl:=za ae
         obtain rfl:=hl1;exact yB X0 hC ar () aa (Z3++[Hq c6])
variable {l:List zP}
theorem zY {s:zP}(h:((l.map zP.k).contains s.k)=false):∀t∈l,t.k≠s.k:=by
 intro t ht e;have:(l.map zP.k).contains s.k=true:=by
  rw [List.contains_iff_mem,<-e];exact List.mem_map_of_mem ht
 rw [h]at this;cases this
theorem zk {c:Ctr}(H:∀t∈l,c.Has t)(i:Nat){s:zP}(h:l[i]?=some s):c.Has s:=H _ (List.mem_of_getElem? h)
def L0:List zP:=Va::[]
def L1:List zP:=Qr::L0
def L2:List zP:=UL::L1
def L3:List zP:=V6::L2
def L4:List zP:=Yp::L3
def L5:List zP:=V5::L4
def L6:List zP:=ZJ::L5
def L7:List zP:=Yq::L6
def L8:List zP:=UO::L7
def L9:List zP:=Qn::L8
def L10:List zP:=UM::L9
def L11:List zP:=V7::L10
def L12:List zP:=Qo::L11
def L13:List zP:=UN::L12
def L14:List zP:=Yo::L13
def L15:List zP:=W7::L14
def L16:List zP:=Jz::L15
def L17:List zP:=W6::L16
def L18:List zP:=Qq::L17
def L19:List zP:=qH::L18
def L20:List zP:=W9::L19
def L21:List zP:=ZY::L20
def L22:List zP:=xk::L21
def L23:List zP:=yM::L22
def L24:List zP:=xI::L23
def L25:List zP:=Yr::L24
def L26:List zP:=Xl::L25
def L27:List zP:=vH::L26
def L28:List zP:=kB::L27
def L29:List zP:=Zv::L28
def L30:List zP:=Zu::L29
def L31:List zP:=uf::L30
def L32:List zP:=wU::L31
def L33:List zP:=kC::L32
def L34:List zP:=Zt::L33
def L35:List zP:=Xj::L34
def L36:List zP:=V4::L35
def L37:List zP:=jE::L36
def L38:List zP:=xP::L37
def L39:List zP:=Ym::L38
def L40:List zP:=kA::L39
def L41:List zP:=Zs::L40
def L42:List zP:=vg::L41
def L43:List zP:=vh::L42
def L44:List zP:=Ve::L43
def L45:List zP:=uz::L44
def L46:List zP:=V2::L45
def L47:List zP:=V3::L46
def L48:List zP:=wB::L47
def L49:List zP:=yH::L48
def L50:List zP:=ZX::L49
def L51:List zP:=wV::L50
def L52:List zP:=vS::L51
def L53:List zP:=W4::L52
def L54:List zP:=ve::L53
def L55:List zP:=ws::L54
def L56:List zP:=Xv::L55
def L57:List zP:=Xx::L56
def L58:List zP:=uB::L57
def L59:List zP:=Wc::L58
def L60:List zP:=jG::L59
def L61:List zP:=ug::L60
def L62:List zP:=Qs::L61
def L63:List zP:=qG::L62
def L64:List zP:=Xi::L63
def L65:List zP:=wt::L64
def L66:List zP:=Xw::L65
def L67:List zP:=Yk::L66
def L68:List zP:=Yl::L67
def L69:List zP:=Vc::L68
def L70:List zP:=Yu::L69
def L71:List zP:=Jy::L70
def L72:List zP:=UJ::L71
def L73:List zP:=UI::L72
def L74:List zP:=UK::L73
def L75:List zP:=kD::L74
def L76:List zP:=Xk::L75
def L77:List zP:=V8::L76
def L78:List zP:=V9::L77
def L79:List zP:=wc::L78
def L80:List zP:=kE::L79
def L81:List zP:=xy::L80
def L82:List zP:=vj::L81
def L83:List zP:=Yt::L82
def L84:List zP:=qe::L83
def L85:List zP:=ur::L84
def L86:List zP:=jF::L85
def L87:List zP:=JA::L86
def L88:List zP:=Yn::L87
def L89:List zP:=W5::L88
def L90:List zP:=Ww::L89
def L91:List zP:=Wy::L90
def L92:List zP:=Wz::L91
def L93:List zP:=Wa::L92
def L94:List zP:=Qp::L93
def L95:List zP:=Xy::L94
def L96:List zP:=JB::L95
def L97:List zP:=ZZ::L96
def L98:List zP:=uC::L97
def L99:List zP:=jB::L98
def zpi:List zP:=wW::L99
def zph:List zP:=vI::zpi
def zpg:List zP:=Vd::zph
def zpf:List zP:=Wb::zpg
def zpe:List zP:=UP::zpf
def zq9:List zP:=Ys::zpe
theorem zob:zo Tryz.prog L0:=⟨fun _ hC H=>z5x hC,zY (by kernel_rfl),trivial⟩
theorem zoa:zo Tryz.prog L1:=⟨fun _ hC H=>z7O hC (zk H 0 rfl),zY (by kernel_rfl),zob⟩
theorem zo9:zo Tryz.prog L2:=⟨fun _ hC H=>z6u hC,zY (by kernel_rfl),zoa⟩
theorem zo8:zo Tryz.prog L3:=⟨fun _ hC H=>z5t hC (zk H 0 rfl),zY (by kernel_rfl),zo9⟩
theorem zo7:zo Tryz.prog L4:=⟨fun _ hC H=>z1W hC,zY (by kernel_rfl),zo8⟩
theorem zo6:zo Tryz.prog L5:=⟨fun _ hC H=>z5s hC (zk H 1 rfl) (zk H 0 rfl),zY (by kernel_rfl),zo7⟩
theorem zo5:zo Tryz.prog L6:=⟨fun _ hC H=>z3S hC (zk H 0 rfl),zY (by kernel_rfl),zo6⟩
theorem zo4:zo Tryz.prog L7:=⟨fun _ hC H=>z7J hC,zY (by kernel_rfl),zo5⟩
theorem zo3:zo Tryz.prog L8:=⟨fun _ hC H=>z6x hC (zk H 0 rfl),zY (by kernel_rfl),zo4⟩
theorem zo2:zo Tryz.prog L9:=⟨fun _ hC H=>z7H hC,zY (by kernel_rfl),zo3⟩
theorem zmE:zo Tryz.prog L10:=⟨fun _ hC H=>z6v hC (zk H 1 rfl) (zk H 0 rfl),zY (by kernel_rfl),zo2⟩
theorem zmD:zo Tryz.prog L11:=⟨fun _ hC H=>z5u hC (zk H 0 rfl),zY (by kernel_rfl),zmE⟩
theorem zmC:zo Tryz.prog L12:=⟨fun _ hC H=>z7I hC,zY (by kernel_rfl),zmD⟩
theorem zmB:zo Tryz.prog L13:=⟨fun _ hC H=>z6w hC (zk H 1 rfl) (zk H 0 rfl),zY (by kernel_rfl),zmC⟩
theorem zmA:zo Tryz.prog L14:=⟨fun _ hC H=>z5r hC (zk H 7 rfl) (zk H 0 rfl),zY (by kernel_rfl),zmB⟩
theorem zmz:zo Tryz.prog L15:=⟨fun _ hC H=>z3T hC,zY (by kernel_rfl),zmA⟩
theorem zmy:zo Tryz.prog L16:=⟨fun _ hC H=>z91 hC (zk H 9 rfl) (zk H 1 rfl) (zk H 0 rfl),zY (by kernel_rfl),zmz⟩
theorem zmx:zo Tryz.prog L17:=⟨fun _ hC H=>z3R hC (zk H 2 rfl) (zk H 0 rfl),zY (by kernel_rfl),zmy⟩
theorem zmw:zo Tryz.prog L18:=⟨fun _ hC H=>z7N hC (zk H 16 rfl) (zk H 0 rfl),zY (by kernel_rfl),zmx⟩
theorem zmv:zo Tryz.prog L19:=⟨fun _ hC H=>z3V hC,zY (by kernel_rfl),zmw⟩
theorem zmu:zo Tryz.prog L20:=⟨fun _ hC H=>z3W hC (zk H 0 rfl),zY (by kernel_rfl),zmv⟩
theorem zmt:zo Tryz.prog L21:=⟨fun _ hC H=>z0U hC (zk H 0 rfl),zY (by kernel_rfl),zmu⟩
theorem zms:zo Tryz.prog L22:=⟨fun _ hC H=>Zx hC (zk H 0 rfl),zY (by kernel_rfl),zmt⟩
theorem zmr:zo Tryz.prog L23:=⟨fun _ hC H=>k7 hC (zk H 0 rfl),zY (by kernel_rfl),zms⟩
theorem zmq:zo Tryz.prog L24:=⟨fun _ hC H=>z3b hC (zk H 0 rfl),zY (by kernel_rfl),zmr⟩
theorem zmp:zo Tryz.prog L25:=⟨fun _ hC H=>z1X hC,zY (by kernel_rfl),zmq⟩
theorem zmo:zo Tryz.prog L26:=⟨fun _ hC H=>z3a hC,zY (by kernel_rfl),zmp⟩
theorem zmn:zo Tryz.prog L27:=⟨fun _ hC H=>UE hC,zY (by kernel_rfl),zmo⟩
theorem zmm:zo Tryz.prog L28:=⟨fun _ hC H=>Kx hC (zk H 1 rfl) (zk H 8 rfl) (zk H 0 rfl),zY (by kernel_rfl),zmn⟩
theorem zml:zo Tryz.prog L29:=⟨fun _ hC H=>z00 hC (zk H 4 rfl) (zk H 0 rfl),zY (by kernel_rfl),zmm⟩
theorem zmk:zo Tryz.prog L30:=⟨fun _ hC H=>KZ hC (zk H 0 rfl),zY (by kernel_rfl),zml⟩
theorem zmj:zo Tryz.prog L31:=⟨fun _ hC H=>UX hC,zY (by kernel_rfl),zmk⟩
theorem zmi:zo Tryz.prog L32:=⟨fun _ hC H=>WW hC (zk H 0 rfl),zY (by kernel_rfl),zmj⟩
theorem zmh:zo Tryz.prog L33:=⟨fun _ hC H=>Ky hC (zk H 8 rfl) (zk H 0 rfl),zY (by kernel_rfl),zmi⟩
theorem zmg:zo Tryz.prog L34:=⟨fun _ hC H=>KY hC (zk H 0 rfl),zY (by kernel_rfl),zmh⟩
theorem zmf:zo Tryz.prog L35:=⟨fun _ hC H=>z37 hC,zY (by kernel_rfl),zmg⟩
theorem zme:zo Tryz.prog L36:=⟨fun _ hC H=>z5q hC,zY (by kernel_rfl),zmf⟩
theorem zmd:zo Tryz.prog L37:=⟨fun _ hC H=>z1T hC (zk H 0 rfl),zY (by kernel_rfl),zme⟩
theorem zmc:zo Tryz.prog L38:=⟨fun _ hC H=>QU hC,zY (by kernel_rfl),zmd⟩
theorem zmb:zo Tryz.prog L39:=⟨fun _ hC H=>z1U hC (zk H 14 rfl) (zk H 3 rfl) (zk H 1 rfl) (zk H 0 rfl),zY (by kernel_rfl),zmc⟩
theorem zma:zo Tryz.prog L40:=⟨fun _ hC H=>Kw hC,zY (by kernel_rfl),zmb⟩
theorem zm9:zo Tryz.prog L41:=⟨fun _ hC H=>KX hC (zk H 1 rfl) (zk H 0 rfl),zY (by kernel_rfl),zma⟩
theorem zm8:zo Tryz.prog L42:=⟨fun _ hC H=>z0S hC (zk H 17 rfl) (zk H 16 rfl) (zk H 11 rfl) (zk H 7 rfl) (zk H 0 rfl),zY (by kernel_rfl),zm9⟩
theorem zm7:zo Tryz.prog L43:=⟨fun _ hC H=>z5A hC,zY (by kernel_rfl),zm8⟩
theorem zm6:zo Tryz.prog L44:=⟨fun _ hC H=>z5D hC,zY (by kernel_rfl),zm7⟩
theorem zm5:zo Tryz.prog L45:=⟨fun _ hC H=>z35 hC,zY (by kernel_rfl),zm6⟩
theorem zm4:zo Tryz.prog L46:=⟨fun _ hC H=>z5o hC (zk H 21 rfl) (zk H 0 rfl),zY (by kernel_rfl),zm5⟩
theorem zm3:zo Tryz.prog L47:=⟨fun _ hC H=>z5p hC,zY (by kernel_rfl),zm4⟩
theorem zm2:zo Tryz.prog L48:=⟨fun _ hC H=>Qj hC,zY (by kernel_rfl),zm3⟩
theorem zm1:zo Tryz.prog L49:=⟨fun _ hC H=>Jt hC,zY (by kernel_rfl),zm2⟩
theorem zm0:zo Tryz.prog L50:=⟨fun _ hC H=>z0P hC (zk H 2 rfl) (zk H 1 rfl) (zk H 0 rfl),zY (by kernel_rfl),zm1⟩
theorem zlZ:zo Tryz.prog L51:=⟨fun _ hC H=>QV hC,zY (by kernel_rfl),zm0⟩
theorem zlY:zo Tryz.prog L52:=⟨fun _ hC H=>z1S hC (zk H 5 rfl) (zk H 1 rfl) (zk H 0 rfl) (zk H 2 rfl),zY (by kernel_rfl),zlZ⟩
theorem zlX:zo Tryz.prog L53:=⟨fun _ hC H=>z3P hC,zY (by kernel_rfl),zlY⟩
theorem zlW:zo Tryz.prog L54:=⟨fun _ hC H=>VQ hC (zk H 0 rfl),zY (by kernel_rfl),zlX⟩
theorem zlV:zo Tryz.prog L55:=⟨fun _ hC H=>W2 hC (zk H 0 rfl),zY (by kernel_rfl),zlW⟩
theorem zlU:zo Tryz.prog L56:=⟨fun _ hC H=>z6o hC (zk H 0 rfl),zY (by kernel_rfl),zlV⟩
theorem zlT:zo Tryz.prog L57:=⟨fun _ hC H=>z6q hC (zk H 0 rfl),zY (by kernel_rfl),zlU⟩
theorem zlS:zo Tryz.prog L58:=⟨fun _ hC H=>Qk hC,zY (by kernel_rfl),zlT⟩
theorem zlR:zo Tryz.prog L59:=⟨fun _ hC H=>z3Z hC,zY (by kernel_rfl),zlS⟩
theorem zlQ:zo Tryz.prog L60:=⟨fun _ hC H=>z20 hC (zk H 0 rfl),zY (by kernel_rfl),zlR⟩
theorem zlP:zo Tryz.prog L61:=⟨fun _ hC H=>UY hC (zk H 0 rfl),zY (by kernel_rfl),zlQ⟩
theorem zlO:zo Tryz.prog L62:=⟨fun _ hC H=>z7Q hC,zY (by kernel_rfl),zlP⟩
theorem zlN:zo Tryz.prog L63:=⟨fun _ hC H=>z3O hC (zk H 2 rfl) (zk H 1 rfl) (zk H 0 rfl),zY (by kernel_rfl),zlO⟩
theorem zlM:zo Tryz.prog L64:=⟨fun _ hC H=>z34 hC (zk H 0 rfl),zY (by kernel_rfl),zlN⟩
theorem zlL:zo Tryz.prog L65:=⟨fun _ hC H=>W3 hC (zk H 0 rfl),zY (by kernel_rfl),zlM⟩
theorem zlK:zo Tryz.prog L66:=⟨fun _ hC H=>z6p hC,zY (by kernel_rfl),zlL⟩
theorem zlJ:zo Tryz.prog L67:=⟨fun _ hC H=>z5n hC (zk H 8 rfl) (zk H 3 rfl) (zk H 1 rfl) (zk H 0 rfl) (zk H 15 rfl) (zk H 17 rfl),zY (by kernel_rfl),zlK⟩
theorem zlI:zo Tryz.prog L68:=⟨fun _ hC H=>z7F hC (zk H 10 rfl) (zk H 0 rfl),zY (by kernel_rfl),zlJ⟩
theorem zlH:zo Tryz.prog L69:=⟨fun _ hC H=>z5y hC (zk H 25 rfl) (zk H 24 rfl) (zk H 16 rfl) (zk H 0 rfl),zY (by kernel_rfl),zlI⟩
theorem zlG:zo Tryz.prog L70:=⟨fun _ hC H=>z7P hC (zk H 27 rfl) (zk H 0 rfl),zY (by kernel_rfl),zlH⟩
theorem zlF:zo Tryz.prog L71:=⟨fun _ hC H=>z90 hC (zk H 3 rfl) (zk H 21 rfl),zY (by kernel_rfl),zlG⟩
theorem zlE:zo Tryz.prog L72:=⟨fun _ hC H=>z6s hC (zk H 0 rfl),zY (by kernel_rfl),zlF⟩
theorem zlD:zo Tryz.prog L73:=⟨fun _ hC H=>z6r hC (zk H 9 rfl),zY (by kernel_rfl),zlE⟩
theorem zlC:zo Tryz.prog L74:=⟨fun _ hC H=>z6t hC (zk H 16 rfl) (zk H 0 rfl) (zk H 7 rfl),zY (by kernel_rfl),zlD⟩
theorem zlB:zo Tryz.prog L75:=⟨fun _ hC H=>z5z hC (zk H 32 rfl) (zk H 0 rfl),zY (by kernel_rfl),zlC⟩
theorem zlA:zo Tryz.prog L76:=⟨fun _ hC H=>z38 hC (zk H 51 rfl),zY (by kernel_rfl),zlB⟩
theorem zlz:zo Tryz.prog L77:=⟨fun _ hC H=>z5v hC (zk H 57 rfl),zY (by kernel_rfl),zlA⟩
theorem zly:zo Tryz.prog L78:=⟨fun _ hC H=>z5w hC (zk H 1 rfl) (zk H 21 rfl) (zk H 0 rfl),zY (by kernel_rfl),zlz⟩
theorem zlx:zo Tryz.prog L79:=⟨fun _ hC H=>z0W hC (zk H 0 rfl),zY (by kernel_rfl),zly⟩
theorem zlw:zo Tryz.prog L80:=⟨fun _ hC H=>Kz hC (zk H 41 rfl),zY (by kernel_rfl),zlx⟩
theorem zlv:zo Tryz.prog L81:=⟨fun _ hC H=>ZW hC (zk H 0 rfl),zY (by kernel_rfl),zlw⟩
theorem zlu:zo Tryz.prog L82:=⟨fun _ hC H=>z0Y hC (zk H 0 rfl),zY (by kernel_rfl),zlv⟩
theorem zlt:zo Tryz.prog L83:=⟨fun _ hC H=>z5C hC (zk H 7 rfl) (zk H 3 rfl) (zk H 39 rfl) (zk H 0 rfl),zY (by kernel_rfl),zlu⟩
theorem zls:zo Tryz.prog L84:=⟨fun _ hC H=>z0Z hC (zk H 8 rfl) (zk H 4 rfl),zY (by kernel_rfl),zlt⟩
theorem zlr:zo Tryz.prog L85:=⟨fun _ hC H=>z01 hC,zY (by kernel_rfl),zls⟩
theorem zlq:zo Tryz.prog L86:=⟨fun _ hC H=>z1Z hC (zk H 10 rfl) (zk H 0 rfl) (zk H 6 rfl) (zk H 3 rfl),zY (by kernel_rfl),zlr⟩
theorem zlp:zo Tryz.prog L87:=⟨fun _ hC H=>z92 hC (zk H 79 rfl),zY (by kernel_rfl),zlq⟩
theorem zlo:zo Tryz.prog L88:=⟨fun _ hC H=>z1V hC (zk H 0 rfl),zY (by kernel_rfl),zlp⟩
theorem zln:zo Tryz.prog L89:=⟨fun _ hC H=>z3Q hC,zY (by kernel_rfl),zlo⟩
theorem zlm:zo Tryz.prog L90:=⟨fun _ hC H=>z7G hC (zk H 0 rfl),zY (by kernel_rfl),zln⟩
theorem zll:zo Tryz.prog L91:=⟨fun _ hC H=>z7K hC (zk H 0 rfl),zY (by kernel_rfl),zlm⟩
theorem zlk:zo Tryz.prog L92:=⟨fun _ hC H=>z7M hC (zk H 1 rfl),zY (by kernel_rfl),zll⟩
theorem zlj:zo Tryz.prog L93:=⟨fun _ hC H=>z3X hC,zY (by kernel_rfl),zlk⟩
theorem zli:zo Tryz.prog L94:=⟨fun _ hC H=>z7L hC,zY (by kernel_rfl),zlj⟩
theorem zlh:zo Tryz.prog L95:=⟨fun _ hC H=>z6z hC,zY (by kernel_rfl),zli⟩
theorem zlg:zo Tryz.prog L96:=⟨fun _ hC H=>z93 hC (zk H 53 rfl) (zk H 52 rfl) (zk H 0 rfl) (zk H 43 rfl) (zk H 27 rfl),zY (by kernel_rfl),zlh⟩
theorem zlf:zo Tryz.prog L97:=⟨fun _ hC H=>z0X hC (zk H 53 rfl) (zk H 17 rfl) (zk H 14 rfl),zY (by kernel_rfl),zlg⟩
theorem zle:zo Tryz.prog L98:=⟨fun _ hC H=>Ql hC,zY (by kernel_rfl),zlf⟩
theorem zld:zo Tryz.prog L99:=⟨fun _ hC H=>Ju hC (zk H 0 rfl),zY (by kernel_rfl),zle⟩
theorem ziD:zo Tryz.prog zpi:=⟨fun _ hC H=>WX hC,zY (by kernel_rfl),zld⟩
theorem ziC:zo Tryz.prog zph:=⟨fun _ hC H=>UF hC (zk H 0 rfl),zY (by kernel_rfl),ziD⟩
theorem ziB:zo Tryz.prog zpg:=⟨fun _ hC H=>z5B hC (zk H 0 rfl),zY (by kernel_rfl),ziC⟩
theorem ziA:zo Tryz.prog zpf:=⟨fun _ hC H=>z3Y hC (zk H 32 rfl) (zk H 5 rfl) (zk H 3 rfl) (zk H 0 rfl),zY (by kernel_rfl),ziB⟩
theorem ziz:zo Tryz.prog zpe:=⟨fun _ hC H=>z6y hC (zk H 10 rfl) (zk H 9 rfl) (zk H 33 rfl) (zk H 7 rfl) (zk H 0 rfl) (zk H 12 rfl) (zk H 20 rfl) (zk H 19 rfl) (zk H 17 rfl) (zk H 11 rfl),zY (by kernel_rfl),ziA⟩
theorem ziy:zo Tryz.prog zq9:=⟨fun _ hC H=>z1Y hC (zk H 86 rfl) (zk H 34 rfl) (zk H 32 rfl) (zk H 21 rfl) (zk H 20 rfl) (zk H 18 rfl) (zk H 16 rfl) (zk H 13 rfl) (zk H 12 rfl) (zk H 0 rfl),zY (by kernel_rfl),ziz⟩
theorem zS {x:Int}(h1:-9223372036854775808<=x)(h2:x<=9223372036854775807):w64 x=x:=by
 simp only [w64,IntKind.wrap,IntKind.bits,IntKind.signed];simp;omega
section
variable {α β σ τ ρ:Type}
def Ret (x:Option α)(Q:α->Prop):Prop:=∃a,x=some a/\Q a
theorem Ret.mono {x:Option α}{Q R:α->Prop}(h:Ret x Q)(q:∀a,Q a->R a):Ret x R:=by
 obtain⟨a,e,h⟩:=h;exact⟨a,e,q a h⟩
theorem Ret.eq {x:Option α}{a:α}(h:Ret x fun b=>b=a):x=some a:=by
 obtain⟨b,e,rfl⟩:=h;exact e
theorem Ret.of_eq {x:Option α}{a:α}{Q:α->Prop}(h:x=some a)(q:Q a):Ret x Q:=⟨a,h,q⟩
theorem zg {a:α}{Q:α->Prop}:Ret (some a) Q↔Q a:=⟨fun⟨b,e,q⟩=>by cases e;exact q,fun q=>⟨a,rfl,q⟩⟩
theorem zw {x:Option α}{f:α->Option β}{Q:β->Prop}:Ret (Option.bind x f) Q↔Ret x fun a=>Ret (f a) Q:=by
 cases x with
 | none=>exact⟨fun⟨b,e,_⟩=>(by cases e),fun⟨b,e,_⟩=>(by cases e)⟩
 | some a=>exact⟨fun h=>⟨a,rfl,h⟩,fun⟨b,e,h⟩=>by cases e;exact h⟩
theorem Ws {p:Prop}[Decidable p]{x:Option α}{Q:α->Prop}:Ret (gd p x) Q↔p/\Ret x Q:=by
 unfold gd;by_cases h:p
 ·rw [if_pos h];exact⟨fun q=>⟨h,q⟩,fun q=>q.2⟩
 ·rw [if_neg h];exact⟨fun⟨b,e,_⟩=>by(cases e),fun q=>(h q.1).elim⟩
theorem zB {c:Bool}{x y:Option α}{Q:α->Prop}:Ret (bif c then x else y) Q↔(c=true->Ret x Q)/\(c=false->Ret y Q):=by
 cases c <;> simp
theorem z9l {l:List α}{i:Int}{Q:α->Prop}:Ret (idx l i) Q↔0<=i/\∃x,l[i.toNat]?=some x/\Q x:=by
 cases i with
 | ofNat n=>
  show(∃a,l[n]?=some a/\Q a)↔_
  simp
 | negSucc n=>exact⟨fun⟨b,e,_⟩=>by(cases e),fun⟨h,_⟩=>by omega⟩
theorem zH (l:List α)(i:Nat):idx l (i:Int)=l[i]?:=rfl
theorem gdT {p:Prop}[Decidable p]{x:Option α}(h:p):gd p x=x:=by unfold gd;rw [if_pos h]
theorem bdT {x:Option α}{u:α}{f:α->Option ρ}(h:x=some u):Option.bind x f=f u:=by rw [h];rfl
theorem WU (step:σ->Option (LR σ τ))(n:Nat)(s:σ):KC step (n+1) s=(match step s with|none=>none|some (.next s')=>KC step n s'|some (.done t)=>some t):=rfl
def LRP (N:σ->Prop)(D:τ->Prop):LR σ τ->Prop
 | .next s=>N s
 | .done t=>D t
theorem y4 {step:σ->Option (LR σ τ)}(I:σ->Prop)(m:σ->Nat){R:τ->Prop}{s:σ}(hs:I s)(hm:m s<18446744073709551616)
  (h:∀s,I s->Ret (step s) (LRP (fun s'=>I s'/\m s' < m s) R)):Ret (loop step s) R:=by
 have gen:∀(n:Nat) (s:σ),I s->m s<n->Ret (KC step n s) R:=by
  intro n
  induction n with
  | zero=>intro s _ h;omega
  | succ n ih=>
   intro s hs hm;obtain⟨a,e,q⟩:=h s hs;rw [WU,e];cases a with
   | next s'=>exact ih s' q.1 (by have:=q.2;omega)
   | done t=>exact⟨t,rfl,q⟩
 exact gen fuel s hs hm
theorem Zg {step:σ->Option (LR σ τ)}(st:Nat->σ)(n:Nat){t:τ}(hn:n<9223372036854775808)(h:∀i,i<n->step (st i)=some (.next (st (i+1))))(hd:step (st n)=some (.done t)):loop step (st 0)=some t:=by
 have gen:∀(k:Nat) (i:Nat),i<=n->n - i<k->KC step k (st i)=some t:=by
  intro k
  induction k with
  | zero=>intro i _ h;omega
  | succ k ih=>
   intro i hi hk;rw [WU];rcases Nat.lt_or_ge i n with q|q
   ·rw [h i q]
    exact ih (i+1) q (by omega)
   ·have:i=n:=by omega
    subst this;rw [hd]
 exact gen fuel 0 (Nat.zero_le _) (by show n - 0<18446744073709551616;omega)
def xv (f:Nat->α->Option ρ):List α->Nat->Option ρ
 | [],_=>none
 | x::l,i=>match f i x with|some r=>some r|none=>xv f l (i+1)
theorem Y4 {f:Nat->α->Option ρ}:∀{l:List α} {k:Nat},(∀i x,l[i]?=some x->f (k+i) x=none)->xv f l k=none
 | [],_,_=>rfl
 | x::l,k,h=>by
  have h0:=h 0 x rfl;simp only [Nat.add_zero]at h0;simp only [xv,h0];exact Y4 fun i y hy=>by have:=h (i+1) y (by simpa using hy);rwa [show k+1+i=k+(i+1) by omega]
theorem qr {f:Nat->α->Option ρ}{r:ρ}:∀{l:List α} {k:Nat},xv f l k=some r->∃i x,l[i]?=some x/\f (k+i) x=some r
 | [],_,h=>by cases h
 | x::l,k,h=>by
  simp only [xv]at h;cases hf:f k x with
  | some r'=>rw [hf]at h;exact⟨0,x,rfl,by rw [Nat.add_zero,hf];exact h⟩
  | none=>
   rw [hf]at h;obtain⟨i,y,h1,h2⟩:=qr h;exact⟨i+1,y,by simpa using h1,by rw [<-h2];congr 1;omega⟩
theorem qt {f:Nat->α->Option ρ}{l:List α}{k:Nat}(h:xv f l k=none):∀i x,l[i]?=some x->f (k+i) x=none:=by
 induction l generalizing k with
 | nil=>intro i x h;simp at h
 | cons y l ih=>
  intro i x hx;simp only [xv]at h;cases hf:f k y with
  | some r'=>rw [hf]at h;cases h
  | none=>
   rw [hf]at h;cases i with
   | zero=>simp at hx;subst hx;simpa using hf
   | succ i=>have:=ih h i x (by simpa using hx);rwa [show k+(i+1)=k+1+i by omega]
def oS:Option ρ->Unit⊕ρ
 | some r=>.inr r
 | none=>.inl ()
def nS (i:Nat):Option ρ->LR Int (Unit⊕ρ)
 | some r=>.done (.inr r)
 | none=>.next (w64 ((i:Int)+1))
theorem vz (l:List α)(hl:l.length<4611686018427387904){step:Int->Option (LR Int (Unit⊕ρ))}(f:Nat->α->Option ρ)
  (h:∀(i:Nat) (x:α),l[i]?=some x->step (i:Int)=some (nS i (f i x))) (h2:step (l.length:Int)=some (.done (.inl ()))) :
  loop step 0=some (oS (xv f l 0)):=by
 have gen:∀(n:Nat) (k:Nat),k<=l.length->l.length - k<n->KC step n (k:Int)=some (oS (xv f (l.drop k) k)):=by
  intro n
  induction n with
  | zero=>intro k _ h;omega
  | succ n ih=>
   intro k hk hn;rw [WU];rcases Nat.lt_or_ge k l.length with hlt|hge
   ·have hx:l[k]?=some l[k]:=List.getElem?_eq_getElem hlt
    rw [h k _ hx,List.drop_eq_getElem_cons hlt];simp only [xv];cases hf:f k l[k] with
    | some r=>rfl
    | none=>
     simp only [nS];rw [zS (by omega) (by omega)]
     exact ih (k+1) hlt (by omega)
   ·have:k=l.length:=by omega
    subst this;rw [h2,List.drop_length];rfl
 exact gen fuel 0 (Nat.zero_le _) (by show l.length - 0<18446744073709551616;omega)
end
def z9E (m:z6)(x:z8):Bool:=(x.To == -1&&x.Out == -1) ||(decide (0<=x.To)&&decide (x.To<(m.Rows.length:Int))&&decide (0<=x.Out)&&decide (x.Out<m.Outputs))
def zbb (m:z6)(r:List z8):Bool:=decide ((r.length:Int)=m.Inputs)&&r.all (z9E m)
def chk (m:z6):Int :=
 if m.Inputs > 16\/m.Outputs > 16\/(m.Rows.length:Int) > 64 then 3 else if m.Inputs<1\/m.Outputs<1\/m.Rows.length=0 then 1 else if m.Rows.all (zbb m)=true then 0 else 1
theorem zi4 (m:z6)(x:z8):YQ m x=some (z9E m x):=by
 unfold YQ u6;simp only [Option.bind_some,Bool.and_true];rcases Bool.eq_false_or_eq_true (x.To==(-1)&&x.Out==(-1)) with h|h
 ·simp [z9E,h]
 ·rw [h]
  simp only [z9E,h,Bool.false_or,cond_false];by_cases h1:(0:Int)<=x.To
  ·by_cases h2:x.To<(m.Rows.length:Int)
   ·by_cases h3:(0:Int)<=x.Out
    ·simp [Bool.cond_eq_ite,h1,h2,h3]
    ·simp [Bool.cond_eq_ite,h1,h2,h3]
   ·simp [Bool.cond_eq_ite,h1,h2]
  ·simp [h1]
theorem z9K (m:z6)(r:List z8)(hl:r.length<4611686018427387904):y6 r m=some (!r.all (z9E m)):=by
 have hloop:loop (fun s=>zR r m s) 0=some (oS (xv (fun i x=>if z9E m x=true then none else some (i:Int)) r 0)):=by
  refine vz r hl _ ?_ ?_
  ·intro i x hx
   have hi:=(List.getElem?_eq_some_iff.1 hx).1;unfold zR;have hd:decide ((i:Int)<((r.length:Nat):Int))=true:=by simpa using hi
   rw [hd,cond_true,zH,bdT hx];unfold ZT;simp only [zi4,Option.bind_some];cases z9E m x <;> rfl
  ·unfold zR
   simp
 unfold y6 yz;rw [hloop];simp only [Option.bind_some];cases hf:xv (fun i x=>if z9E m x=true then none else some (i:Int)) r 0 with
 | some q=>
  obtain⟨i,x,h1,h2⟩:=qr hf;have hx:z9E m x≠true:=by
   intro h;rw [if_pos h]at h2;cases h2
  rw [if_neg hx]at h2;simp only [Option.some.injEq]at h2;have:r.all (z9E m)=false:=by
   rw [List.all_eq_false];exact⟨x,List.mem_of_getElem? h1,hx⟩
  rw [this];have:(q:Int)>=0:=by rw [<-h2];omega
  show some (decide (q>=0))=_
  simp [this]
 | none=>
  have:r.all (z9E m)=true:=by
   rw [List.all_eq_true];intro x hx;obtain⟨i,hi⟩:=List.getElem?_of_mem hx;have:=qt hf i x hi;by_cases h:z9E m x=true
   ·exact h
   ·rw [if_neg h]at this;cases this
  rw [this];rfl
variable {m:z6}
theorem zbq (h0:(m.Rows.length:Int)<=64)(h1:m.Inputs<=16):loop (fun s=>vb m s) 0=some (oS (xv (fun _ r=>if zbb m r=true then none else some (1:Int)) m.Rows 0)):=by
 refine vz m.Rows (by omega) _ ?_ ?_
 ·intro i r hr
  have hi:=(List.getElem?_eq_some_iff.1 hr).1;unfold vb;have hd:decide ((i:Int)<((m.Rows.length:Nat):Int))=true:=by simpa using hi
  rw [hd,cond_true,zH,bdT hr];by_cases hlen:(r.length:Int)=m.Inputs
  ·have hne:(((r.length:Nat):Int) != m.Inputs)=false:=by simpa using hlen
   rw [hne,cond_false,bdT (z9K m r (by omega))]
   have:zbb m r=r.all (z9E m):=by simp [zbb,hlen]
   rw [this];cases r.all (z9E m) <;> rfl
  ·have hne:(((r.length:Nat):Int) != m.Inputs)=true:=by simpa using hlen
   rw [hne,cond_true];have:zbb m r=false:=by simp [zbb,hlen]
   rw [this];rfl
 ·unfold vb
  simp
theorem zba (m:z6):xv (fun _ r=>if zbb m r=true then none else some (1:Int)) m.Rows 0=if m.Rows.all (zbb m)=true then none else some 1:=by
 by_cases h:m.Rows.all (zbb m)=true
 ·rw [if_pos h]
  refine Y4 fun i r hr=>?_;rw [if_pos (List.all_eq_true.1 h r (List.mem_of_getElem? hr))]
 ·rw [if_neg h]
  cases hf:xv (fun _ r=>if zbb m r=true then none else some (1:Int)) m.Rows 0 with
  | some q=>
   obtain⟨i,x,h1,h2⟩:=qr hf;split at h2
   ·cases h2
   ·exact h2.symm ▸ rfl
  | none=>
   exfalso;apply h
   rw [List.all_eq_true];intro x hx;obtain⟨i,hi⟩:=List.getElem?_of_mem hx;have:=qt hf i x hi;by_cases h:zbb m x=true
   ·exact h
   ·rw [if_neg h]at this;cases this
theorem Kq (m:z6):xN m=some (chk m):=by
 unfold xN chk;by_cases h1:m.Inputs > 16
 ·simp [h1]
 by_cases h2:m.Outputs > 16
 ·simp [Bool.cond_eq_ite,h1,h2]
 by_cases h3:(m.Rows.length:Int) > 64
 ·simp [Bool.cond_eq_ite,h1,h2,h3]
 rw [if_neg (by simp [Bool.cond_eq_ite,h1,h2,h3])]
 by_cases h4:m.Inputs<1
 ·simp [Bool.cond_eq_ite,h1,h2,h3,h4]
 by_cases h5:m.Outputs<1
 ·simp [Bool.cond_eq_ite,h1,h2,h3,h4,h5]
 by_cases h6:m.Rows.length=0
 ·simp [Bool.cond_eq_ite,h1,h2,h4,h5,h6]
 rw [if_neg (by simp [h4,h5,h6])]
 have h6':decide (((m.Rows.length:Nat):Int)<1)=false:=by simp;omega
 have e1:decide (m.Inputs > 16)=false:=by simpa using h1
 have e2:decide (m.Outputs > 16)=false:=by simpa using h2
 have e3:decide (((m.Rows.length:Nat):Int) > 64)=false:=by simpa using h3
 have e4:decide (m.Inputs<1)=false:=by simpa using h4
 have e5:decide (m.Outputs<1)=false:=by simpa using h5
 simp only [e1,e2,e3,e4,e5,h6',cond_false];rw [bdT (zbq (by omega) (by omega)),zba]
 by_cases h:m.Rows.all (zbb m)=true
 ·rw [if_pos h,if_pos h];rfl
 ·rw [if_neg h,if_neg h];rfl
structure VM (m:z6):Prop where
 in1:1<=m.Inputs
 in16:m.Inputs<=16
 out1:1<=m.Outputs
 out16:m.Outputs<=16
 len1:1<=m.Rows.length
 len64:m.Rows.length<=64
 row:∀r∈m.Rows,(r.length:Int)=m.Inputs
 edge:∀r∈m.Rows,∀x∈r,(x.To=-1/\x.Out=-1)\/(0<=x.To/\x.To<(m.Rows.length:Int)/\0<=x.Out/\x.Out<m.Outputs)
theorem z6e (h:VM m):chk m=0:=by
 unfold chk;have:=h.in1;have:=h.in16;have:=h.out1;have:=h.out16;have:=h.len1;have:=h.len64;rw [if_neg (by omega),if_neg (by omega),if_pos]
 rw [List.all_eq_true];intro r hr;simp only [zbb,Bool.and_eq_true,decide_eq_true_eq,List.all_eq_true];refine⟨h.row r hr,fun x hx=>?_⟩;simp only [z9E,Bool.or_eq_true,Bool.and_eq_true,beq_iff_eq,decide_eq_true_eq];rcases h.edge r hr x hx with⟨a,b⟩|⟨a,b,c,d⟩
 ·exact .inl ⟨a,b⟩
 ·exact .inr ⟨⟨⟨a,b⟩,c⟩,d⟩
def kk (m:z6):Nat:=m.Inputs.toNat
def E (m:z6)(s i:Nat):z8:=((m.Rows[s]?.getD [])[i]?).getD ⟨-1,-1⟩
variable {s i:Nat}{β:Type}
section
variable {m:z6}(h:VM m)
include h
theorem VM.kk_eq:((kk m:Nat):Int)=m.Inputs:=by have:=h.in1;unfold kk;omega
theorem VM.kk_pos:1<=kk m:=by have:=h.in1;unfold kk;omega
theorem VM.kk_le:kk m<=16:=by have:=h.in16;unfold kk;omega
theorem VM.rowAt {s:Nat}(hs:s<m.Rows.length):∃r,m.Rows[s]?=some r/\r.length=kk m/\∀i,i<kk m->r[i]?=some (E m s i):=by
 have hr:=List.getElem?_eq_getElem hs;have hl:=h.row _ (List.getElem_mem hs);have hl':m.Rows[s].length=kk m:=by unfold kk;omega
 refine⟨_,hr,hl',fun i hi=>?_⟩;have hi':i<m.Rows[s].length:=by omega
 unfold E;rw [hr];simp only [Option.getD_some];rw [List.getElem?_eq_getElem hi'];rfl
theorem VM.edgeAt (hs:s<m.Rows.length)(hi:i<kk m):((E m s i).To=-1/\(E m s i).Out=-1)\/(0<=(E m s i).To/\(E m s i).To<(m.Rows.length:Int)/\0<=(E m s i).Out/\(E m s i).Out<m.Outputs):=by
 obtain⟨r,h1,_,h2⟩:=h.rowAt hs;exact h.edge r (List.mem_of_getElem? h1) _ (List.mem_of_getElem? (h2 i hi))
theorem VM.edge_eq (hs:s<m.Rows.length)(hi:i<kk m)  {f:z8->Option β} :
  (Option.bind (idx m.Rows (s:Int)) fun r=>Option.bind (idx r (i:Int)) f)=f (E m s i):=by
 obtain⟨r,h1,_,h2⟩:=h.rowAt hs;rw [zH,h1,Option.bind_some,zH,h2 i hi,Option.bind_some]
end
section
variable {K V:Type}[BEq K][LawfulBEq K]
theorem z3F (l:List (K×V))(x y:K)(v:V):z2U (zbe l x v) y=if(x==y)=true then some v else z2U l y:=by
 induction l with
 | nil=>simp only [zbe,z2U]
 | cons p l ih=>
  simp only [zbe];by_cases h:p.1=x
  ·rw [if_pos (by simpa using h)]
   simp only [z2U];by_cases q:x=y
   ·rw [if_pos (by simpa using q),if_pos (by simpa using q)]
   ·rw [if_neg (by simpa using q),if_neg (by simpa using q),if_neg (by rw [h];simpa using q)]
  ·rw [if_neg (by simpa using h)]
   simp only [z2U,ih];by_cases q:p.1=y
   ·have q':¬x=y:=by rintro rfl;exact h q
    have e1:(p.1==y)=true:=by simpa using q
    have e2:(x==y)=false:=by simpa using q'
    simp [e1,e2]
   ·have e1:(p.1==y)=false:=by simpa using q
    simp [e1]
end
section
variable {S:Type}
def z2o (k:Nat)(bad:S->Nat->Bool)(nx:S->Nat->Option S):S->List Nat->Prop
 | _,[]=>False
 | p,[i]=>i<k/\bad p i=true
 | p,i::w=>i<k/\bad p i=false/\∃q,nx p i=some q/\z2o k bad nx q w
variable {k:Nat}{bad:S->Nat->Bool}{nx:S->Nat->Option S}{p0:S}
def zfZ:List Nat->List Nat->Prop
 | [],_=>True
 | i::u,j::v=>i<j\/i=j/\zfZ u v
 | _::_,[]=>False
theorem z97:∀{w:List Nat} {p:S},z2o k bad nx p w->∀x∈w,x<k
 | [],_,h=>h.elim
 | [i],_,h=>by simpa using h.1
 | i::j::w,_,⟨hi,_,q,_,h⟩=>by
  intro x hx;rcases List.mem_cons.1 hx with rfl|hx
  ·exact hi
  ·exact z97 h x hx
def Mk (k:Nat)(bad:S->Nat->Bool)(nx:S->Nat->Option S):Nat->S->Prop
 | 0,_=>False
 | n+1,p=>Mk k bad nx n p\/∃i,i<k/\(bad p i=true\/∃q,nx p i=some q/\Mk k bad nx n q)
theorem Mk.mono {n m:Nat}{p:S}(h:Mk k bad nx n p)(hm:n<=m):Mk k bad nx m p:=by
 induction hm with
 | refl=>exact h
 | step _ ih=>exact .inl ih
theorem Mk.tell:∀{n:Nat} {p:S},Mk k bad nx n p->∃w,z2o k bad nx p w/\w.length<=n
 | 0,_,h=>h.elim
 | n+1,p,.inl h=>by
  obtain⟨w,h1,h2⟩:=Mk.tell h;exact⟨w,h1,by omega⟩
 | n+1,p,.inr ⟨i,hi,h⟩=>by
  by_cases hb:bad p i=true
  ·exact⟨[i],⟨hi,hb⟩,by simp⟩
  ·rcases h with h|⟨q,hq,h⟩
   ·exact(hb h).elim
   ·obtain⟨w,h1,h2⟩:=Mk.tell h
    refine⟨i::w,?_,by simp;omega⟩
    cases w with
    | nil=>exact h1.elim
    | cons j w=>exact⟨hi,by simpa using hb,q,hq,h1⟩
theorem Jx:∀{w:List Nat} {p:S},z2o k bad nx p w->Mk k bad nx w.length p
 | [],_,h=>h.elim
 | [i],p,h=>.inr ⟨i,h.1,.inl h.2⟩
 | i::j::w,p,⟨hi,hb,q,hn,h⟩=>.inr ⟨i,hi,.inr ⟨q,hn,Jx h⟩⟩
end
theorem Vo:∀(n:Nat) (l:List Nat),l.Nodup->(∀x∈l,x<n)->l.length<=n
 | 0,l,_,h=>by
  cases l with
  | nil=>simp
  | cons x l=>have:=h x (by simp);omega
 | n+1,l,hd,h=>by
  by_cases hm:n∈l
  ·have h1:=List.length_erase_of_mem hm
   have h2:=Vo n (l.erase n) (hd.erase n) fun x hx=>by
    have h3:=(hd.mem_erase_iff).1 hx;have:=h x h3.2;have:=h3.1;omega
   have:0<l.length:=List.length_pos_of_mem hm;omega
  ·have:=Vo n l hd fun x hx=>by
    have:=h x hx;have:x≠n:=fun e=>hm (e ▸ hx);omega
   omega
def Xd (a b:z6)(p:Nat×Nat)(i:Nat):Bool:=(E a p.1 i).Out !=(E b p.2 i).Out
def nxP (a b:z6)(p:Nat×Nat)(i:Nat):Option (Nat×Nat):=if 0<=(E a p.1 i).To/\0<=(E b p.2 i).To then some ((E a p.1 i).To.toNat,(E b p.2 i).To.toNat) else none
theorem z9u {a k:Int}(h0:0<=a)(hk:1<=k)(hk2:k<=1000000):1<=w64 (1+w64 (Int.tmod a k))/\w64 (1+w64 (Int.tmod a k))<=k:=by
 have h1:=Int.tmod_nonneg k h0;have h2:=Int.tmod_lt_of_pos a (show 0<k by omega)
 rw [zS (x:=Int.tmod a k) (by omega) (by omega),zS (by omega) (by omega)]
 omega
variable {α:Type}
theorem z4J {p q:α->Bool}:∀{l:List α},(∀x∈l,p x=true->q x=true)->(∃x∈l,q x=true/\p x=false)->l.countP p<l.countP q
 | [],_,⟨x,hx,_⟩=>by cases hx
 | y::l,h,⟨x,hx,h1,h2⟩=>by
  have hm:l.countP p<=l.countP q:=List.countP_mono_left fun z hz=>h z (List.mem_cons_of_mem _ hz);simp only [List.countP_cons];rcases List.mem_cons.1 hx with rfl|hx
  ·simp only [h1,h2,if_true,Bool.false_eq_true,if_false]
   omega
  ·have:=z4J (fun z hz=>h z (List.mem_cons_of_mem _ hz)) ⟨x,hx,h1,h2⟩
   cases hp:p y with
   | true=>simp only [h y (by simp) hp,if_true];omega
   | false=>
    simp only [Bool.false_eq_true,if_false];split <;> omega
open Classical in
def zgc (N:Nat)(R:Nat->Nat->Prop):Nat:=(List.range N).countP fun s=>decide (∀t,t<s->¬R s t)
theorem zpu {N:Nat}(hN:0<N)(R:Nat->Nat->Nat->Prop)(symm:∀k s t,s<N->t<N->R k s t->R k t s)(trans:∀k s t u,s<N->t<N->u<N->R k s t->R k t u->R k s u)
  (refl:∀k s,s<N->R k s s) (mono:∀k s t,s<N->t<N->R (k+1) s t->R k s t) (stat:∀k,(∀s t,s<N->t<N->R k s t->R (k+1) s t)->∀s t,s<N->t<N->R (k+1) s t->R (k+2) s t) :
  ∀s t,s<N->t<N->R (N - 1) s t->∀j,R j s t:=by
 classical
 have step:∀k,(¬∀s t,s<N->t<N->R k s t->R (k+1) s t)->zgc N (R k)<zgc N (R (k+1)):=by
  intro k hk;simp only [Classical.not_forall]at hk;obtain⟨s,t,hs,ht,h1,h2⟩:=hk;unfold zgc;refine z4J (fun x hx=>?_) ?_
  ·have hx:=List.mem_range.1 hx
   simp only [decide_eq_true_eq];exact fun h t ht q=>h t ht (mono k x t hx (by omega) q)
  ·
   have hmin:∃z,z<N/\R k z s/\∀y,y<z->¬R k y s:=by
    have key:∀n,∀z,z<=n->z<N->R k z s->∃z,z<N/\R k z s/\∀y,y<z->¬R k y s:=by
     intro n
     induction n with
     | zero=>intro z hz hzN hr;exact⟨z,hzN,hr,fun y hy=>by omega⟩
     | succ n ih=>
      intro z hz hzN hr;by_cases q:∃y,y<z/\R k y s
      ·obtain⟨y,y1,y2⟩:=q
       exact ih y (by omega) (by omega) y2
      ·exact⟨z,hzN,hr,fun y hy g=>q ⟨y,hy,g⟩⟩
    exact key s s (Nat.le_refl _) hs (refl k s hs)
   obtain⟨z,hz,hzs,hzm⟩:=hmin;have hzt:R k z t:=trans k z s t hz hs ht hzs h1;obtain⟨u,hu,hzu,hne⟩:∃u,u<N/\R k z u/\¬R (k+1) z u:=by
    by_cases q:R (k+1) z s
    ·by_cases g:R (k+1) z t
     ·exact(h2 (trans (k+1) s z t hs hz ht (symm _ _ _ hz hs q) g)).elim
     ·exact⟨t,ht,hzt,g⟩
    ·exact⟨s,hs,hzs,q⟩
   have hmin:∃y,y<N/\R (k+1) y u/\∀x,x<y->¬R (k+1) x u:=by
    have key:∀n,∀z,z<=n->z<N->R (k+1) z u->∃z,z<N/\R (k+1) z u/\∀y,y<z->¬R (k+1) y u:=by
     intro n
     induction n with
     | zero=>intro z hz hzN hr;exact⟨z,hzN,hr,fun y hy=>by omega⟩
     | succ n ih=>
      intro z hz hzN hr;by_cases q:∃y,y<z/\R (k+1) y u
      ·obtain⟨y,y1,y2⟩:=q
       exact ih y (by omega) (by omega) y2
      ·exact⟨z,hzN,hr,fun y hy g=>q ⟨y,hy,g⟩⟩
    exact key u u (Nat.le_refl _) hu (refl _ u hu)
   obtain⟨y,hy,hyu,hym⟩:=hmin;have hyk:R k y u:=mono k y u hy hu hyu;have hyz:R k y z:=trans k y u z hy hu hz hyk (symm _ _ _ hz hu hzu);have hzy:z<y:=by
    rcases Nat.lt_trichotomy z y with g|g|g
    ·exact g
    ·subst g;exact(hne hyu).elim
    ·exact(hzm y g (trans k y z s hy hz hs hyz hzs)).elim
   refine⟨y,List.mem_range.2 hy,?_,?_⟩
   ·simp only [decide_eq_true_eq]
    intro x hx q;exact hym x hx (trans (k+1) x y u (by omega) hy hu (symm _ _ _ hy (by omega) q) hyu)
   ·simp only [decide_eq_false_iff_not]
    intro q;exact q z hzy hyz
 have le:∀k,zgc N (R k)<=N:=by
  intro k;unfold zgc;refine Nat.le_trans (List.countP_le_length) ?_;simp
 have one:∀k,1<=zgc N (R k):=by
  intro k;unfold zgc;refine List.countP_pos_iff.2 ⟨0,List.mem_range.2 hN,?_⟩;simp
 have rest:∃k,k<N/\∀s t,s<N->t<N->R k s t->R (k+1) s t:=by
  refine Classical.byContradiction fun hno=>?_;have:∀k,k<=N->k+1<=zgc N (R k):=by
   intro k
   induction k with
   | zero=>intro _;exact one 0
   | succ k ih=>
    intro hk;have:=step k fun h=>hno ⟨k,by omega,h⟩
    have:=ih (by omega)
    omega
  have:=this N (Nat.le_refl _);have:=le N;omega
 obtain⟨k,hk,hst⟩:=rest;have up:∀d,∀s t,s<N->t<N->R (k+d) s t->R (k+d+1) s t:=by
  intro d
  induction d with
  | zero=>exact hst
  | succ d ih=>exact stat (k+d) ih
 have down:∀d j s t,s<N->t<N->R (j+d) s t->R j s t:=by
  intro d
  induction d with
  | zero=>intro j s t _ _ h;exact h
  | succ d ih=>intro j s t hs ht h;exact ih j s t hs ht (mono _ s t hs ht h)
 intro s t hs ht h j;have hk':R k s t:=down (N - 1 - k) k s t hs ht (by rw [show k+(N - 1 - k)=N - 1 by omega];exact h)
 have far:∀d,R (k+d) s t:=by
  intro d
  induction d with
  | zero=>exact hk'
  | succ d ih=>exact up d s t hs ht ih
 exact down k j s t hs ht (by rw [Nat.add_comm];exact far j)
section
variable {S S':Type}{k:Nat}{bad:S->Nat->Bool}{nx:S->Nat->Option S}{bad':S'->Nat->Bool}{nx':S'->Nat->Option S'}(φ:S->S')(I:S->Prop)
 (hI:∀p i q,I p->i<k->nx p i=some q->I q) (hb:∀p i,I p->i<k->bad' (φ p) i=bad p i) (hn:∀p i,I p->i<k->nx' (φ p) i=(nx p i).map φ)
include hI hb hn
end
structure WM (m:z6):Prop where
 in1:1<=m.Inputs
 in16:m.Inputs<=16
 len1:1<=m.Rows.length
 len:m.Rows.length<=128
 row:∀r∈m.Rows,(r.length:Int)=m.Inputs
 edge:∀r∈m.Rows,∀x∈r,(x.To=-1/\x.Out=-1)\/(0<=x.To/\x.To<(m.Rows.length:Int)/\0<=x.Out)
theorem VM.wm (h:VM m):WM m:=⟨h.in1,h.in16,h.len1,by have:=h.len64;omega,h.row,fun r hr x hx=>by
 rcases h.edge r hr x hx with g|⟨g1,g2,g3,_⟩
 ·exact .inl g
 ·exact .inr ⟨g1,g2,g3⟩⟩
section
variable {m:z6}(h:WM m)
include h
theorem WM.kk_eq:((kk m:Nat):Int)=m.Inputs:=by have:=h.in1;unfold kk;omega
theorem WM.kk_le:kk m<=16:=by have:=h.in16;unfold kk;omega
theorem WM.rowAt {s:Nat}(hs:s<m.Rows.length):∃r,m.Rows[s]?=some r/\r.length=kk m/\∀i,i<kk m->r[i]?=some (E m s i):=by
 have hr:=List.getElem?_eq_getElem hs;have hl:=h.row _ (List.getElem_mem hs);have hl':m.Rows[s].length=kk m:=by unfold kk;omega
 refine⟨_,hr,hl',fun i hi=>?_⟩;have hi':i<m.Rows[s].length:=by omega
 unfold E;rw [hr];simp only [Option.getD_some];rw [List.getElem?_eq_getElem hi'];rfl
theorem WM.edgeAt (hs:s<m.Rows.length)(hi:i<kk m):((E m s i).To=-1/\(E m s i).Out=-1)\/(0<=(E m s i).To/\(E m s i).To<(m.Rows.length:Int)/\0<=(E m s i).Out):=by
 obtain⟨r,h1,_,h2⟩:=h.rowAt hs;exact h.edge r (List.mem_of_getElem? h1) _ (List.mem_of_getElem? (h2 i hi))
theorem WM.edge_eq (hs:s<m.Rows.length)(hi:i<kk m)  {f:z8->Option β} :
  (Option.bind (idx m.Rows (s:Int)) fun r=>Option.bind (idx r (i:Int)) f)=f (E m s i):=by
 obtain⟨r,h1,_,h2⟩:=h.rowAt hs;rw [zH,h1,Option.bind_some,zH,h2 i hi,Option.bind_some]
theorem WM.nx_in {p:Nat×Nat}{i:Nat}{q:Nat×Nat}(h1:p.1<m.Rows.length)(h2:p.2<m.Rows.length)(hi:i<kk m)(hq:nxP m m p i=some q):q.1<m.Rows.length/\q.2<m.Rows.length:=by
 unfold nxP at hq;split at hq
 ·rename_i hc
  cases hq;have a:=h.edgeAt h1 hi;have b:=h.edgeAt h2 hi;simp only;omega
 ·cases hq
end
def mkb (k:Nat)(bad:Nat×Nat->Nat->Bool)(nx:Nat×Nat->Nat->Option (Nat×Nat)):Nat->Nat×Nat->Bool
 | 0,_=>false
 | n+1,p=>mkb k bad nx n p ||(List.range k).any fun i=>bad p i ||(match nx p i with|some q=>mkb k bad nx n q|none=>false)
theorem z71 (k:Nat)(bad:Nat×Nat->Nat->Bool)(nx:Nat×Nat->Nat->Option (Nat×Nat)):∀(n:Nat) (p:Nat×Nat),mkb k bad nx n p=true↔Mk k bad nx n p
 | 0,p=>by simp [mkb,Mk]
 | n+1,p=>by
  simp only [mkb,Mk,Bool.or_eq_true,List.any_eq_true,List.mem_range,z71 k bad nx n p];constructor
  ·rintro(h|⟨i,hi,h|h⟩)
   ·exact .inl h
   ·exact .inr ⟨i,hi,.inl h⟩
   ·cases hq:nx p i with
    | none=>rw [hq]at h;cases h
    | some q=>rw [hq]at h;exact .inr ⟨i,hi,.inr ⟨q,hq,(z71 k bad nx n q).1 h⟩⟩
  ·rintro(h|⟨i,hi,h|⟨q,hq,h⟩⟩)
   ·exact .inl h
   ·exact .inr ⟨i,hi,.inl h⟩
   ·exact .inr ⟨i,hi,.inr (by rw [hq];exact(z71 k bad nx n q).2 h)⟩
def tab (N:Nat)(f:Nat->Nat->Bool):List (List Bool):=(List.range N).map fun s=>(List.range N).map fun t=>f s t
theorem zbG {N s t:Nat}(f:Nat->Nat->Bool)(hs:s<N)(ht:t<N)  {g:Bool->Option β}:(Option.bind (idx (tab N f) (s:Int)) fun r=>Option.bind (idx r (t:Int)) g)=g (f s t):=by
 have e1:(tab N f)[s]?=some ((List.range N).map fun t=>f s t):=by simp [tab,hs]
 have e2:((List.range N).map fun t=>f s t)[t]?=some (f s t):=by simp [ht]
 rw [zH,e1,Option.bind_some,zH,e2,Option.bind_some]
theorem zbX (N t:Nat)(g:Nat->α)(v:α):((List.range N).map g).set t v=(List.range N).map fun x=>if x=t then v else g x:=by
 refine List.ext_getElem (by simp) fun n h1 h2=>?_
 simp only [List.getElem_set,List.getElem_map,List.getElem_range];by_cases e:t=n
 ·rw [if_pos e,if_pos e.symm]
 ·rw [if_neg e,if_neg (Ne.symm e)]
def z98 (m:z6)(f:Nat->Nat->Bool)(p:Nat×Nat)(i:Nat):Bool:=Xd m m p i ||(match nxP m m p i with|some q=>f q.1 q.2|none=>false)
theorem zfT (h:WM m)(f:Nat->Nat->Bool){s t:Nat}(hs:s<m.Rows.length)(ht:t<m.Rows.length) :
  Vj m (tab m.Rows.length f) (s:Int) (t:Int)=some (if(List.range (kk m)).any (z98 m f (s,t))=true then 1 else 0):=by
 have hk:=h.kk_eq;have k16:=h.kk_le;have hl:loop (fun q=>qU m (tab m.Rows.length f) (s:Int) (t:Int) q) 0=some (oS (xv (fun _ i=>if z98 m f (s,t) i=true then some (1:Int) else none) (List.range (kk m)) 0)):=by
  refine vz (List.range (kk m)) (by simp;omega) _ ?_ ?_
  ·intro i x hx
   have hi:i<kk m:=by have:=(List.getElem?_eq_some_iff.1 hx).1;simpa using this
   have:x=i:=by rw [List.getElem?_range hi]at hx;exact(Option.some.inj hx).symm
   subst this;unfold qU qV;have hd:decide ((x:Int)<m.Inputs)=true:=by rw [<-hk];simpa using hi
   rw [hd,cond_true,h.edge_eq hs hi,h.edge_eq ht hi];have e1:=h.edgeAt hs hi;have e2:=h.edgeAt ht hi;by_cases hbad:(E m s x).Out=(E m t x).Out
   ·have n1:((E m s x).Out !=(E m t x).Out)=false:=by simpa using hbad
    rw [n1,cond_false];by_cases t1:(E m s x).To>=0
    ·by_cases t2:(E m t x).To>=0
     ·have hnx:nxP m m (s,t) x=some ((E m s x).To.toNat,(E m t x).To.toNat):=by unfold nxP;rw [if_pos ⟨t1,t2⟩]
      have hin:=h.nx_in hs ht hi hnx;have c1:(E m s x).To=(((E m s x).To.toNat:Nat):Int):=by omega
      have c2:(E m t x).To=(((E m t x).To.toNat:Nat):Int):=by omega
      have ht1:z98 m f (s,t) x=f (E m s x).To.toNat (E m t x).To.toNat:=by
       unfold z98 Xd;rw [hnx];simp only [n1,Bool.false_or]
      rw [decide_eq_true t1,decide_eq_true t2];simp only [cond_true];have:=zbG f hin.1 hin.2 (g:=fun v=>bif v then some (LR.done (Sum.inr (1:Int)):LR Int (Unit⊕Int)) else some (LR.next (w64 ((x:Int)+1))))
      rw [<-c1,<-c2]at this;rw [this,ht1];cases f (E m s x).To.toNat (E m t x).To.toNat <;> rfl
     ·have ht1:z98 m f (s,t) x=false:=by
       unfold z98 Xd nxP;rw [if_neg (by simp only;omega)]
       simp only [n1,Bool.false_or]
      rw [decide_eq_true t1,decide_eq_false t2,ht1];rfl
    ·have ht1:z98 m f (s,t) x=false:=by
      unfold z98 Xd nxP;rw [if_neg (by simp only;omega)]
      simp only [n1,Bool.false_or]
     rw [decide_eq_false t1,ht1];rfl
   ·have n1:((E m s x).Out !=(E m t x).Out)=true:=by simpa using hbad
    have ht1:z98 m f (s,t) x=true:=by
     unfold z98 Xd;simp only [n1,Bool.true_or]
    rw [n1,ht1];rfl
  ·unfold qU
   rw [List.length_range,hk];simp
 unfold Vj;rw [bdT hl];cases hf:xv (fun(_:Nat) i=>if z98 m f (s,t) i=true then some (1:Int) else none) (List.range (kk m)) 0 with
 | some q=>
  obtain⟨i,x,h1,h2⟩:=qr hf;split at h2
  ·rename_i hx
   cases h2;have:(List.range (kk m)).any (z98 m f (s,t))=true:=List.any_eq_true.2 ⟨x,List.mem_of_getElem? h1,hx⟩;rw [if_pos this];rfl
  ·cases h2
 | none=>
  have:¬(List.range (kk m)).any (z98 m f (s,t))=true:=by
   rw [List.any_eq_true];rintro⟨x,hx,hx2⟩;obtain⟨i,hi⟩:=List.getElem?_of_mem hx;have:=qt hf i x hi;rw [if_pos hx2]at this;cases this
  rw [if_neg this];rfl
theorem zci (N:Nat):List.replicate ((N:Nat):Int).toNat false=(List.range N).map fun _=>false:=by
 refine List.ext_getElem (by simp) fun n h1 h2=>?_
 simp
def VV (m:z6)(f:Nat->Nat->Bool)(s t:Nat):Bool:=f s t ||(List.range (kk m)).any (z98 m f (s,t))
theorem zeM (h:WM m)(f:Nat->Nat->Bool):loop (fun q=>vt m (tab m.Rows.length f) q.1 q.2) (([]:List (List Bool)),0)=some (tab m.Rows.length (VV m f)):=by
 have l128:=h.len;have row:∀(s:Nat),s<m.Rows.length->loop (fun q=>vq m (tab m.Rows.length f) (s:Int) q.1 q.2) (((List.range s).map fun s=>(List.range m.Rows.length).map fun t=>VV m f s t)++[(List.range m.Rows.length).map fun _=>false],0)=some ((List.range (s+1)).map fun s=>(List.range m.Rows.length).map fun t=>VV m f s t):=by
  intro s hs;have hst:=Zg (step:=fun q=>vq m (tab m.Rows.length f) (s:Int) q.1 q.2) (fun t:Nat=>(((List.range s).map fun s=>(List.range m.Rows.length).map fun t=>VV m f s t)++[(List.range m.Rows.length).map fun t'=>if t' < t then VV m f s t' else false],(t:Int))) m.Rows.length (t:=(List.range (s+1)).map fun s=>(List.range m.Rows.length).map fun t=>VV m f s t) (by omega) ?_ ?_
  ·simpa using hst
  ·intro t ht
   unfold vq;have hd:decide ((t:Int)<((m.Rows.length:Nat):Int))=true:=by simpa using ht
   have hw:w64 ((t:Int)+1)=((t+1:Nat):Int):=by rw [zS (by omega) (by omega)];rfl
   simp only [hd,cond_true];have e1:(((List.range s).map fun s=>(List.range m.Rows.length).map fun t=>VV m f s t)++[(List.range m.Rows.length).map fun t'=>if t' < t then VV m f s t' else false])[s]?=some ((List.range m.Rows.length).map fun t'=>if t' < t then VV m f s t' else false):=by
    rw [List.getElem?_append_right (by simp)]
    simp
   have e2:∀x,((List.range m.Rows.length).map fun t'=>if t' < t then VV m f s t' else false)[t]?=some x↔x=false:=by
    intro x;simp [ht,eq_comm]
   have e2':=(e2 false).2 rfl;have fin:∀v:Bool,v=VV m f s t->(((List.range s).map fun s=>(List.range m.Rows.length).map fun t=>VV m f s t)++[(List.range m.Rows.length).map fun t'=>if t' < t then VV m f s t' else false]).set s (((List.range m.Rows.length).map fun t'=>if t' < t then VV m f s t' else false).set t v)=((List.range s).map fun s=>(List.range m.Rows.length).map fun t=>VV m f s t)++[(List.range m.Rows.length).map fun t'=>if t' < t+1 then VV m f s t' else false]:=by
    intro v hv;rw [List.set_append,if_neg (by simp),zbX]
    simp only [List.length_map,List.length_range,Nat.sub_self,List.set_cons_zero]
    congr 3
    funext x
    by_cases e:x=t
    ·subst e;rw [if_pos rfl,if_pos (by omega)];exact hv
    ·rw [if_neg e]
     by_cases g:x<t
     ·rw [if_pos g,if_pos (by omega)]
     ·rw [if_neg g,if_neg (by omega)]
   rw [zH,bdT e1,zbG f hs ht];cases hf:f s t with
   | true=>
    simp only [cond_true];rw [zH,bdT e2',hw,Int.toNat_natCast,Int.toNat_natCast,fin true (by simp [VV,hf])]
   | false=>
    simp only [cond_false];rw [bdT (zfT h f hs ht),zH,bdT e2',hw,Int.toNat_natCast,Int.toNat_natCast,fin _ ?_];unfold VV;rw [hf,Bool.false_or];cases (List.range (kk m)).any (z98 m f (s,t)) <;> rfl
  ·unfold vq
   simp only [Int.lt_irrefl,decide_false,cond_false]
   congr 3
   rw [List.range_succ,List.map_append]
   congr 1
   simp only [List.map_cons,List.map_nil]
   congr 1
   refine List.map_congr_left fun x hx=>?_;rw [if_pos (List.mem_range.1 hx)]
 have:=Zg (step:=fun q=>vt m (tab m.Rows.length f) q.1 q.2) (fun s:Nat=>((List.range s).map fun s=>(List.range m.Rows.length).map fun t=>VV m f s t,(s:Int))) m.Rows.length (t:=tab m.Rows.length (VV m f)) (by omega) ?_ ?_
 ·exact this
 ·intro s hs
  unfold vt YC;have hd:decide ((s:Int)<((m.Rows.length:Nat):Int))=true:=by simpa using hs
  have hw:w64 ((s:Int)+1)=((s+1:Nat):Int):=by rw [zS (by omega) (by omega)];rfl
  simp only [hd,cond_true];rw [gdT (by omega),gdT (by simp;omega),zci,bdT (row s hs),hw]
 ·unfold vt
  simp only [Int.lt_irrefl,decide_false,cond_false];rfl
def mrk (m:z6)(n s t:Nat):Bool:=mkb (kk m) (Xd m m) (nxP m m) n (s,t)
theorem zeW (m:z6)(n:Nat):VV m (mrk m n)=mrk m (n+1):=by
 funext s t
 unfold VV mrk;simp only [mkb]
 congr 1
theorem zcH (h:WM m)(n:Nat)(hn:n<=1000000):XO m (n:Int)=some (tab m.Rows.length (mrk m n)):=by
 have l128:=h.len;have l9:loop (fun q=>vp m q.1 q.2) (([]:List (List Bool)),0)=some (tab m.Rows.length (mrk m 0)):=by
  have:=Zg (step:=fun q=>vp m q.1 q.2) (fun s:Nat=>((List.range s).map fun _=>(List.range m.Rows.length).map fun _=>false,(s:Int))) m.Rows.length (t:=tab m.Rows.length (mrk m 0)) (by omega) ?_ ?_
  ·exact this
  ·intro s hs
   unfold vp;have hd:decide ((s:Int)<((m.Rows.length:Nat):Int))=true:=by simpa using hs
   have hw:w64 ((s:Int)+1)=((s+1:Nat):Int):=by rw [zS (by omega) (by omega)];rfl
   simp only [hd,cond_true];rw [gdT (by omega),gdT (by simp;omega),zci,hw,List.range_succ,List.map_append]
   rfl
  ·unfold vp
   simp only [Int.lt_irrefl,decide_false,cond_false];rfl
 have l3:=Zg (step:=fun q=>vu m (n:Int) q.1 q.2) (fun r:Nat=>(tab m.Rows.length (mrk m r),(r:Int))) n (t:=tab m.Rows.length (mrk m n)) (by omega) ?_ ?_
 ·unfold XO YG YF
  rw [bdT l9];have l3':loop (fun q=>vu m (n:Int) q.1 q.2) (tab m.Rows.length (mrk m 0),0)=some (tab m.Rows.length (mrk m n)):=l3;rw [bdT l3']
 ·intro r hr
  unfold vu YD YE;have hd:decide ((r:Int)<(n:Int))=true:=by simpa using hr
  have hw:w64 ((r:Int)+1)=((r+1:Nat):Int):=by rw [zS (by omega) (by omega)];rfl
  simp only [hd,cond_true];rw [bdT (zeM h (mrk m r)),zeW,hw]
 ·unfold vu
  simp only [Int.lt_irrefl,decide_false,cond_false]
theorem z3E (h:WM m){s t:Nat}(hs:s<m.Rows.length)(ht:t<m.Rows.length){j:Nat}(hj:Mk (kk m) (Xd m m) (nxP m m) j (s,t)):Mk (kk m) (Xd m m) (nxP m m) (m.Rows.length - 1) (s,t):=by
 refine Classical.byContradiction fun hno=>?_;have same:∀{p:Nat×Nat} {i:Nat},p.1<m.Rows.length->p.2<m.Rows.length->i<kk m->Xd m m p i=false->((E m p.1 i).To>=0↔(E m p.2 i).To>=0):=by
  intro p i h1 h2 hi hb;have e:(E m p.1 i).Out=(E m p.2 i).Out:=by simpa [Xd] using hb
  have a:=h.edgeAt h1 hi;have b:=h.edgeAt h2 hi;omega
 have symm:∀k s t,Mk (kk m) (Xd m m) (nxP m m) k (s,t)->Mk (kk m) (Xd m m) (nxP m m) k (t,s):=by
  intro k
  induction k with
  | zero=>intro s t h;exact h
  | succ k ih=>
   rintro s t (h|⟨i,hi,h|⟨q,hq,h⟩⟩)
   ·exact .inl (ih _ _ h)
   ·exact .inr ⟨i,hi,.inl (by
     unfold Xd at h ⊢;simp only [bne_iff_ne,ne_eq]at h ⊢;exact fun e=>h e.symm)⟩
   ·refine .inr ⟨i,hi,.inr ⟨(q.2,q.1),?_,ih _ _ h⟩⟩
    unfold nxP at hq ⊢;split at hq
    ·rename_i hc
     cases hq;rw [if_pos ⟨hc.2,hc.1⟩]
    ·cases hq
 have trans:∀k s t u,s<m.Rows.length->t<m.Rows.length->u<m.Rows.length->Mk (kk m) (Xd m m) (nxP m m) k (s,u)->Mk (kk m) (Xd m m) (nxP m m) k (s,t)\/Mk (kk m) (Xd m m) (nxP m m) k (t,u):=by
  intro k
  induction k with
  | zero=>intro s t u _ _ _ h;exact h.elim
  | succ k ih=>
   rintro s t u hs ht hu (g|⟨i,hi,g|⟨q,hq,g⟩⟩)
   ·rcases ih s t u hs ht hu g with g|g
    ·exact .inl (.inl g)
    ·exact .inr (.inl g)
   ·cases b1:Xd m m (s,t) i with
    | true=>exact .inl (.inr ⟨i,hi,.inl b1⟩)
    | false=>
     refine .inr (.inr ⟨i,hi,.inl ?_⟩);unfold Xd at b1 g ⊢;simp only [bne_iff_ne,ne_eq,bne_eq_false_iff_eq]at b1 g ⊢;rw [<-b1];exact g
   ·cases b1:Xd m m (s,t) i with
    | true=>exact .inl (.inr ⟨i,hi,.inl b1⟩)
    | false=>
     cases b2:Xd m m (t,u) i with
     | true=>exact .inr (.inr ⟨i,hi,.inl b2⟩)
     | false=>
      have c1:=same (p:=(s,t)) hs ht hi b1;have c2:=same (p:=(t,u)) ht hu hi b2;simp only at c1 c2;unfold nxP at hq;split at hq
      ·rename_i hc
       cases hq;simp only at hc g;have e1:=h.edgeAt hs hi;have e2:=h.edgeAt ht hi;have e3:=h.edgeAt hu hi;rcases ih (E m s i).To.toNat (E m t i).To.toNat (E m u i).To.toNat (by omega) (by omega) (by omega) g with g|g
       ·exact .inl (.inr ⟨i,hi,.inr ⟨_,by unfold nxP;rw [if_pos ⟨hc.1,by simp only;omega⟩],g⟩⟩)
       ·exact .inr (.inr ⟨i,hi,.inr ⟨_,by unfold nxP;rw [if_pos ⟨by simp only;omega,hc.2⟩],g⟩⟩)
      ·cases hq
 have refl:∀k s,¬Mk (kk m) (Xd m m) (nxP m m) k (s,s):=by
  intro k
  induction k with
  | zero=>intro s h;exact h
  | succ k ih=>
   rintro s (g|⟨i,hi,g|⟨q,hq,g⟩⟩)
   ·exact ih s g
   ·simp [Xd]at g
   ·unfold nxP at hq
    split at hq
    ·cases hq;exact ih _ g
    ·cases hq
 exact zpu (N:=m.Rows.length) h.len1 (fun k s t=>¬Mk (kk m) (Xd m m) (nxP m m) k (s,t)) (fun k s t _ _ g q=>g (symm k t s q)) (fun k s t u hs ht hu g1 g2 q=>by
   rcases trans k s t u hs ht hu q with g|g
   ·exact g1 g
   ·exact g2 g) (fun k s _=>refl k s) (fun k s t _ _ g q=>g (.inl q)) (fun k hk s t hs ht g q=>by
   rcases q with q|⟨i,hi,q|⟨r,hr,q⟩⟩
   ·exact g q
   ·exact g (.inr ⟨i,hi,.inl q⟩)
   ·have hin:=h.nx_in (p:=(s,t)) hs ht hi hr
    have:Mk (kk m) (Xd m m) (nxP m m) k r:=Classical.byContradiction fun c=>hk r.1 r.2 hin.1 hin.2 c q;exact g (.inr ⟨i,hi,.inr ⟨r,hr,this⟩⟩)) s t hs ht hno j hj
def nxE (m:z6)(s:Int)(i:Nat):z8:=if s<0 then⟨-1,-1⟩ else E m s.toNat i
def rsp (m:z6):Int->List Nat->List Int
 | _,[]=>[]
 | s,i::w=>(nxE m s i).Out::rsp m (nxE m s i).To w
def aft (m:z6):Int->List Nat->Int
 | s,[]=>s
 | s,i::w=>aft m (nxE m s i).To w
theorem z16 (m:z6):∀(w:List Nat) (s:Int) (i:Nat),rsp m s (w++[i])=rsp m s w++[(nxE m (aft m s w) i).Out]/\aft m s (w++[i])=(nxE m (aft m s w) i).To
 | [],s,i=>⟨rfl,rfl⟩
 | j::w,s,i=>by
  have:=z16 m w (nxE m s j).To i;simp only [List.cons_append,rsp,aft,this.1,this.2,and_self]
theorem z6O (m:z6):∀(w:List Nat) (s:Int),(rsp m s w).length=w.length
 | [],_=>rfl
 | i::w,s=>by simp [rsp,z6O m w]
def z7C (m:z6)(s:Int):Prop:=-1<=s/\s<(m.Rows.length:Int)
theorem zng (h:VM m){s:Int}(hs:z7C m s){i:Nat}(hi:i<kk m):z7C m (nxE m s i).To:=by
 unfold nxE;have:=h.len1;by_cases h0:s<0
 ·rw [if_pos h0]
  unfold z7C;simp only;omega
 ·rw [if_neg h0]
  have hl:s.toNat<m.Rows.length:=by have:=hs.2;omega
  have:=h.edgeAt hl hi;unfold z7C;omega
theorem zcD (h:VM m){s:Int}(hs:z7C m s){i:Nat}(hi:i<kk m):WT m s (i:Int)=some (nxE m s i)/\z7C m (nxE m s i).To:=by
 unfold WT nxE;have:=h.len1;by_cases h0:s<0
 ·rw [decide_eq_true h0,cond_true,if_pos h0]
  exact⟨rfl,by unfold z7C;simp only;omega⟩
 ·rw [decide_eq_false h0,cond_false,if_neg h0]
  have hl:s.toNat<m.Rows.length:=by have:=hs.2;omega
  have he:=h.edge_eq hl hi (f:=fun e=>some e);have hc:((s.toNat:Nat):Int)=s:=by omega
  rw [hc]at he;refine⟨he,?_⟩;have:=h.edgeAt hl hi;unfold z7C;omega
theorem zjQ (h:VM m){s:Int}(hs:z7C m s)(w:List Nat)(hw:∀i∈w,i<kk m)(hl:w.length<=100000):JH m s (w.map Int.ofNat)=some (rsp m s w):=by
 have hloop:loop (fun q=>XQ m (w.map Int.ofNat) q.1 q.2.1 q.2.2) (s,([]:List Int),0)=some (rsp m s w):=by
  refine Ret.eq (y4 (fun q=>∃k:Nat,q.2.2=(k:Int)/\k<=w.length/\z7C m q.1/\q.2.1.length=k/\q.2.1++rsp m q.1 (w.drop k)=rsp m s w) (fun q=>200000 - q.2.2.toNat) ⟨0,rfl,Nat.zero_le _,hs,rfl,rfl⟩ (by simp) ?_)
  rintro⟨s',out,k'⟩ ⟨k,hk,hkl,hst,hol,ho⟩;simp only at hk hst hol ho;subst hk;unfold XQ;rw [zB];refine⟨fun hlt=>?_,fun hge=>?_⟩
  ·have hlt:k<w.length:=by simpa using hlt
   have hx:(w.map Int.ofNat)[k]?=some ((w[k]:Nat):Int):=by simp [hlt]
   have hi:=hw _ (List.getElem_mem hlt);have hn:=zcD h hst hi;have hw1:w64 ((k:Int)+1)=((k+1:Nat):Int):=by rw [zS (by omega) (by omega)];rfl
   rw [zH,bdT hx,bdT hn.1,gdT (by simp;omega),zg,hw1]
   refine⟨⟨k+1,rfl,hlt,hn.2,by simp [hol],?_⟩,by simp only;omega⟩
   rw [<-ho,List.drop_eq_getElem_cons hlt];simp [rsp]
  ·have:k=w.length:=by simp at hge;omega
   subst this;rw [zg];rw [List.drop_length]at ho
   show out=rsp m s w
   simpa [rsp] using ho
 unfold JH Uv;rw [bdT hloop]
section
variable {N:Nat}{f:Nat->Nat->Bool}
structure zlb (N:Nat)(f:Nat->Nat->Bool)(out:List Int)(n:Int)(s:Nat):Prop where
 len:out.length=s
 sN:s<=N
 n0:0<=n
 nS:n<=(s:Int)
 lt:∀(i:Nat) (x:Int),out[i]?=some x->0<=x/\x<n
 cls:∀(i j:Nat),i<s->j<s->(out[i]?=out[j]?↔f i j=false)
theorem zeV (hN:N<=1000)(hr:∀s,s<N->f s s=false)(hs:∀s t,s<N->t<N->f s t=false->f t s=false)(ht:∀s t u,s<N->t<N->u<N->f s t=false->f t u=false->f s u=false) :
  Ret (kP (tab N f)) fun out=>out.length=N/\∀i j,i<N->j<N->(out[i]?=out[j]?↔f i j=false):=by
 have hl:(tab N f).length=N:=by simp [tab]
 unfold kP;rw [zw];refine Ret.mono (Q:=fun out=>out.length=N/\∀i j,i<N->j<N->(out[i]?=out[j]?↔f i j=false)) ?_ fun out h=>zg.2 h;refine y4 (fun q=>zlb N f q.1 q.2.1 q.2.2.toNat/\0<=q.2.2) (fun q=>N - q.2.2.toNat) ⟨⟨rfl,Nat.zero_le _,Int.le_refl 0,Int.le_refl 0,fun i x h=>by simp at h,fun i j h=>by simp at h⟩,Int.le_refl 0⟩ (by show N - 0<_;omega) ?_
 rintro⟨out,n,s⟩ ⟨hI,h0⟩;obtain⟨s,rfl⟩:=Int.eq_ofNat_of_zero_le h0;simp only [Int.toNat_natCast]at hI ⊢;unfold jK;rw [zB];refine⟨fun hc=>?_,fun hc=>?_⟩
 ·rw [hl]at hc
  have hsN:s<N:=by simpa using hc
  rw [zw];have inner:Ret (loop (fun s_1=>vX (tab N f) out (s:Int) s_1.1 s_1.2) (-1,0)) fun b=>(b=-1/\∀t,t<s->f s t=true)\/∃t,t<s/\f s t=false/\out[t]?=some b:=by
   refine y4 (fun q=>0<=q.2/\q.2<=(s:Int)/\((q.1=-1/\∀t:Nat,(t:Int)<q.2->f s t=true)\/∃t,t<s/\f s t=false/\out[t]?=some q.1)) (fun q=>s - q.2.toNat) ⟨by omega,by omega,.inl ⟨rfl,fun t ht=>by simp at ht;omega⟩⟩ (by show s - 0<_;omega) ?_
   rintro⟨b,t⟩ ⟨g0,g1,g2⟩;simp only at g0 g1 g2 ⊢;obtain⟨t,rfl⟩:=Int.eq_ofNat_of_zero_le g0;unfold vX vY;rw [zB];refine⟨fun hc=>?_,fun hc=>?_⟩
   ·have hts:t<s:=by simpa using hc
    have hw:w64 ((t:Int)+1)=((t+1:Nat):Int):=by rw [zS (by omega) (by omega)];rfl
    rw [zbG f hsN (by omega),hw,zB]
    refine⟨fun hf=>?_,fun hf=>?_⟩
    ·rw [zw,z9l]
     have:∃x,out[t]?=some x:=⟨out[t]'(by rw [hI.len];exact hts),List.getElem?_eq_getElem _⟩
     obtain⟨x,hx⟩:=this;refine⟨by omega,x,by rw [Int.toNat_natCast];exact hx,zg.2 ⟨⟨by omega,by omega,.inr ⟨t,hts,by simpa using hf,hx⟩⟩,by simp only [Int.toNat_natCast];omega⟩⟩
    ·refine zg.2 ⟨⟨by omega,by omega,?_⟩,by simp only [Int.toNat_natCast];omega⟩
     rcases g2 with⟨e,g2⟩|g2
     ·refine .inl ⟨e,fun u hu=>?_⟩
      rcases Nat.lt_or_ge u t with q|q
      ·exact g2 u (by omega)
      ·have:u=t:=by omega
       subst this;simpa using hf
     ·exact .inr g2
   ·have hts:¬t<s:=by simpa using hc
    refine zg.2 ?_;rcases g2 with⟨e,g2⟩|g2
    ·exact .inl ⟨e,fun u hu=>g2 u (by omega)⟩
    ·exact .inr g2
  refine inner.mono fun b hb=>?_;have hw:w64 ((s:Int)+1)=((s+1:Nat):Int):=by rw [zS (by omega) (by omega)];rfl
  have hlen:=hI.len;have hnS:=hI.nS;have hn0:=hI.n0;have fin:∀(n' c:Int),0<=n'->n'<=((s+1:Nat):Int)->n<=n'->0<=c->c<n'->(∀t,t<s->(out[t]?=some c↔f s t=false)) ->
    Ret (wK out (s:Int) n' c) (LRP (fun s'=>(zlb N f s'.1 s'.2.1 s'.2.2.toNat/\0<=s'.2.2)/\N - s'.2.2.toNat<N - s) fun out=>out.length=N/\∀i j,i<N->j<N->(out[i]?=out[j]?↔f i j=false)):=by
   intro n' c a1 a2 a3 a4 a5 a6;unfold wK jM;rw [Ws,hw];refine⟨by simp [hlen];omega,zg.2 ⟨⟨⟨by simp [hlen],by simp only [Int.toNat_natCast];omega,a1,by simp only [Int.toNat_natCast];exact a2,?_,?_⟩,Int.natCast_nonneg _⟩,by simp only [Int.toNat_natCast];omega⟩⟩
   ·intro i x hx
    rcases Nat.lt_or_ge i s with q|q
    ·rw [List.getElem?_append_left (by omega)]at hx
     have:=hI.lt i x hx;exact⟨this.1,by have:=this.2;simp only;omega⟩
    ·rw [List.getElem?_append_right (by omega)]at hx
     cases hh:i - out.length with
     | zero=>rw [hh]at hx;simp at hx;subst hx;exact⟨a4,a5⟩
     | succ k=>rw [hh]at hx;simp at hx
   ·intro i j hi hj
    simp only [Int.toNat_natCast]at hi hj;have at_:∀i,i<s->(out++[c])[i]?=out[i]?:=fun i h=>List.getElem?_append_left (by omega)
    have at_s:(out++[c])[s]?=some c:=by rw [<-hlen,List.getElem?_append_right (Nat.le_refl _)];simp
    rcases Nat.lt_or_ge i s with q|q <;> rcases Nat.lt_or_ge j s with q'|q'
    ·show(out++[c])[i]?=(out++[c])[j]?↔_
     rw [at_ i q,at_ j q'];exact hI.cls i j q q'
    ·have:j=s:=by omega
     subst this
     show(out++[c])[i]?=(out++[c])[j]?↔_
     rw [at_ i q,at_s,a6 i q];exact⟨fun h=>hs _ _ (by omega) (by omega) h,fun h=>hs _ _ (by omega) (by omega) h⟩
    ·have:i=s:=by omega
     subst this
     show(out++[c])[i]?=(out++[c])[j]?↔_
     rw [at_ j q',at_s,eq_comm,a6 j q']
    ·have e1:i=s:=by omega
     have e2:j=s:=by omega
     subst e1;subst e2;exact⟨fun _=>hr _ hsN,fun _=>rfl⟩
  unfold jL;rw [zB];rcases hb with⟨rfl,hb⟩|⟨t,ht1,ht2,ht3⟩
  ·refine⟨fun _=>?_,fun h=>by simp at h⟩
   rw [zS (by omega) (by omega)]
   refine fin (n+1) n (by omega) (by omega) (by omega) hn0 (by omega) fun t hts=>?_
   rw [hb t hts];refine⟨fun h=>?_,fun h=>by cases h⟩
   have:=hI.lt t n h;omega
  ·have hb0:=hI.lt t b ht3
   refine⟨fun h=>by simp at h;omega,fun _=>fin n b hn0 (by omega) (by omega) hb0.1 hb0.2 fun u hu=>?_⟩
   rw [<-ht3,hI.cls u t hu ht1];exact⟨fun h=>ht _ _ _ (by omega) (by omega) (by omega) ht2 (hs _ _ (by omega) (by omega) h),fun h=>ht _ _ _ (by omega) (by omega) (by omega) (hs _ _ (by omega) (by omega) h) ht2⟩
 ·rw [hl]at hc
  have hsN:¬s<N:=by simpa using hc
  have:s=N:=by have:=hI.sN;omega
  subst this;exact zg.2 ⟨hI.len,hI.cls⟩
end
def SEq (m:z6)(s t:Nat):Prop:=∀w:List Nat,(∀i∈w,i<kk m)->rsp m (s:Int) w=rsp m (t:Int) w
theorem z9j (m:z6):∀(w:List Nat) (s:Int),s<0->rsp m s w=w.map fun _=>-1
 | [],_,_=>rfl
 | i::w,s,h=>by
  simp only [rsp,nxE,if_pos h,List.map_cons];rw [z9j m w (-1) (by omega)]
theorem jC (m:z6)(s i:Nat):nxE m (s:Int) i=E m s i:=by
 unfold nxE;rw [if_neg (by omega),Int.toNat_natCast]
section
variable {m:z6}(h:WM m)
include h
theorem z9x:∀(n:Nat) (p:Nat×Nat),p.1<m.Rows.length->p.2<m.Rows.length->Mk (kk m) (Xd m m) (nxP m m) n p->∃w:List Nat,(∀i∈w,i<kk m)/\rsp m (p.1:Int) w≠rsp m (p.2:Int) w
 | 0,p,_,_,q=>q.elim
 | n+1,p,h1,h2,q=>by
  rcases q with q|⟨i,hi,q|⟨r,hr,q⟩⟩
  ·exact z9x n p h1 h2 q
  ·refine⟨[i],by simpa using hi,fun e=>?_⟩
   simp only [rsp,jC,List.cons.injEq,and_true]at e;simp [Xd,e]at q
  ·have hin:=h.nx_in h1 h2 hi hr
   obtain⟨w,hw,hne⟩:=z9x n r hin.1 hin.2 q;refine⟨i::w,fun j hj=>by rcases List.mem_cons.1 hj with rfl|hj;exact hi;exact hw j hj,fun e=>hne ?_⟩
   simp only [rsp,jC,List.cons.injEq]at e;unfold nxP at hr;split at hr
   ·rename_i hc
    cases hr;have e1:(((E m p.1 i).To.toNat:Nat):Int)=(E m p.1 i).To:=by omega
    have e2:(((E m p.2 i).To.toNat:Nat):Int)=(E m p.2 i).To:=by omega
    simp only [e1,e2];exact e.2
   ·cases hr
theorem zbA:∀(w:List Nat) (p:Nat×Nat),p.1<m.Rows.length->p.2<m.Rows.length->(∀i∈w,i<kk m)->rsp m (p.1:Int) w≠rsp m (p.2:Int) w->Mk (kk m) (Xd m m) (nxP m m) w.length p
 | [],p,_,_,_,q=>(q rfl).elim
 | i::w,p,h1,h2,hw,q=>by
  have hi:=hw i (by simp)
  refine .inr ⟨i,hi,?_⟩;by_cases hb:Xd m m p i=true
  ·exact .inl hb
  ·have he:(E m p.1 i).Out=(E m p.2 i).Out:=by simpa [Xd] using hb
   simp only [rsp,jC,he,ne_eq,List.cons.injEq,true_and]at q;have a:=h.edgeAt h1 hi;have b:=h.edgeAt h2 hi;by_cases hc:0<=(E m p.1 i).To/\0<=(E m p.2 i).To
   ·have hr:nxP m m p i=some ((E m p.1 i).To.toNat,(E m p.2 i).To.toNat):=by unfold nxP;rw [if_pos hc]
    have hin:=h.nx_in h1 h2 hi hr;have e1:(((E m p.1 i).To.toNat:Nat):Int)=(E m p.1 i).To:=by omega
    have e2:(((E m p.2 i).To.toNat:Nat):Int)=(E m p.2 i).To:=by omega
    exact .inr ⟨_,hr,zbA w _ hin.1 hin.2 (fun j hj=>hw j (by simp [hj])) (by simpa only [e1,e2] using q)⟩
   ·exfalso
    refine q ?_;have e1:(E m p.1 i).To=-1:=by omega
    have e2:(E m p.2 i).To=-1:=by omega
    rw [e1,e2]
theorem z0a {s t:Nat}(hs:s<m.Rows.length)(ht:t<m.Rows.length):mrk m m.Rows.length s t=false↔SEq m s t:=by
 have e:mrk m m.Rows.length s t=true↔¬SEq m s t:=by
  unfold mrk;rw [z71];constructor
  ·intro q g
   obtain⟨w,hw,hne⟩:=z9x h _ (s,t) hs ht q;exact hne (g w hw)
  ·intro q
   obtain⟨w,hw⟩:=Classical.not_forall.1 q;obtain⟨hw,hne⟩:=Classical.not_imp.1 hw;have:=z3E h hs ht (zbA h w (s,t) hs ht hw hne);exact this.mono (by omega)
 constructor
 ·intro q
  exact Classical.byContradiction fun g=>by rw [e.2 g]at q;cases q
 ·intro q
  cases hm:mrk m m.Rows.length s t with
  | false=>rfl
  | true=>exact(e.1 hm q).elim
theorem z4K:Ret (Zb m) fun l=>l.length=m.Rows.length/\∀s t,s<m.Rows.length->t<m.Rows.length->(l[s]?=l[t]?↔SEq m s t):=by
 have hl:=h.len;unfold Zb Uu;rw [zw,bdT (zcH h m.Rows.length (by omega)),zw]
 refine Ret.mono (zeV (by omega) (fun s hs=>(z0a h hs hs).2 fun w _=>rfl) (fun s t hs ht q=>(z0a h ht hs).2 fun w hw=>((z0a h hs ht).1 q w hw).symm) (fun s t u hs ht hu q r=>(z0a h hs hu).2 fun w hw=>((z0a h hs ht).1 q w hw).trans ((z0a h ht hu).1 r w hw))) ?_
 rintro l ⟨h1,h2⟩;exact zg.2 (zg.2 ⟨h1,fun s t hs ht=>(h2 s t hs ht).trans (z0a h hs ht)⟩)
end
end Go.Own
end
