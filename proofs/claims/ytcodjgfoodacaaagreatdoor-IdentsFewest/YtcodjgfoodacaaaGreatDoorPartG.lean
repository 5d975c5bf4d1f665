/- Walks, further. -/
import Derived.Test.YtcodjgfoodacaaaGreatDoorPartF
import Derived.Test.YtcodjgfoodacaaaGreatDoorPartC
import Derived.Test.YtcodjgfoodacaaaGreatDoorPartE
noncomputable section
set_option linter.unusedVariables false
set_option linter.unusedSimpArgs false
namespace Go.Own
open Go.Proofs.Tryz
open Go.Proofs
set_option maxRecDepth 100000
set_option maxHeartbeats 8000000
def zX:Code:=(f120.body).getD .skip
def wC:zI:=spF (α:=List (List Int)×Unit) (ρ:=List (List Int)) 120 (λx=>[zdu x.1,(zbH 121) x.2]) (λr=>zdu r) (λx=>yS x.1 x.2) [true,false] (by rintro⟨a0,a1⟩ ⟨b0,b1⟩ h;have e0:=YD.inj (f:=zdu) _ _ (List.cons.inj h).1;replace h:=(List.cons.inj h).2;have e1:=YD.inj (f:=(zbH 121)) _ _ (List.cons.inj h).1;subst e0 e1;rfl)
abbrev Xz (s_:List (List Int)):List (Nat×T):=[(0,.own (eOs 1 false F6_ s_))]
abbrev Xy (s_:List (List Int))(k_:Int):List (Nat×T):=[(0,.own (eOs 1 false F6_ s_)),(1,.d (.fn 121 [])),(5,.d (I k_))]
abbrev Xx (a6:List (List Int))(a9:Int):List (Nat×T):=[(0,.own (eOs 1 false F6_ a6)),(5,.d (I a9))]
abbrev Xw (bf:Value)(k_:Int)(k2:Int)(kr:List (List Int))(ku:Int):List (Nat×T):=[(0,.own (eOs 1 false F6_ kr)),(1,.d (.fn 121 [])),(5,.d (I ku)),(6,.d (.atom (QR 1 bf k_))),(7,.d (I k2))]
abbrev Xu (bf:Value)(k_:Int)(bi:List (List Int))(fe:Int)(k2:Int):List (Nat×T):=[(0,.own (eOs 1 false F6_ bi)),(1,.d (.fn 121 [])),(5,.d (I fe)),(6,.d (.atom (QR 1 bf k_))),(7,.d (I k2))]
abbrev Xv (s_:List (List Int))(k_:Int):List (Nat×T):=[(0,.own (eOs 1 false F6_ s_)),(1,.d (.fn 121 [])),(5,.d (I k_))]
def zn:XH prog:=((zs9 zq 64).or X0)
variable {ctr:Ctr}
theorem WL (hC:zy prog ctr)(h0J:ctr.Has XI):wC.Ok prog:=by
 refine zx ?_;rintro⟨s_,eq⟩ r0 aa;try unfold yS at aa;refine yO true [(4,none)] zX 66 func120 λE hE=>?_;refine zfA (y:=eOs 1 false F6_ s_) rfl 0 (by kernel_rfl) (by kernel_rfl) λbf hv0=>?_
 let Z0:List HO:=[Ha (lnM F6_ s_)];rcases zB aa with⟨c0,aa⟩|⟨c0,aa⟩
 ·obtain rfl:=za aa;exact yE zn hC hE (Z0++[Hq c0])
 ·refine yJ zn hC zX [1,1] [] [0] (λz:Unit=>wG s_=some r0) (λz=>Xz s_) [(0,.own (eOs 1 false F6_ s_)),(1,.d (.fn 121 []))] (Z0++[Hq c0,Hh (.cut 0)]) ?_ λJ1 ap=>?_
  ·rintro⟨⟩ aa;unfold wG at aa;obtain rfl:=za aa;exact yE zn hC hE []
  ·obtain⟨t2,ht2,aa⟩:=zb aa;refine yL zn hC zX [1,1,2,1,0] [J1] (λs=>yl s_ s) (λx=>Xv s_ x) 1 ht2  [] ?_;rintro k_ m2 ar ae hl1 J2 av;try unfold yl at ae
   let Z1:List HO:=[Ha (lnM F6_ s_)];rcases zB ae with⟨c1,ae⟩|⟨c1,ae⟩
   ·refine yJ zn hC zX [1,1,2,1,0,0,1] [J1,J2] [0,1,5] (λz:Unit=>xu k_=some ar) (λz=>Xy s_ k_) [(0,.own (eOs 1 false F6_ s_)),(1,.d (.fn 121 [])),(5,.d (I k_))] (Z1++[Hq c1,Hh (.cut 0)]) ?_ λJ3 ba=>?_
    ·rintro⟨⟩ ae;unfold xu at ae;obtain rfl:=za ae;exact yB zn hC av (w64 (k_+1)) hl1 []
    ·obtain⟨da,h0,ae⟩:=zb ae;obtain⟨jq,h1,ae⟩:=zb ae;obtain⟨r_,h2,ae⟩:=zb ae;let Z2:List HO:=[Hn (iL F6_ h0),Hs (iM F6_ h0),Hn (iL F6_ h1),Hs (iM F6_ h1),Hc h0J (x:=(da,jq)) h2 (loC F6_ da <| loC F6_ jq <| loN)];rcases zB ae with⟨c2,ae⟩|⟨c2,ae⟩
     ·obtain⟨g0,ae⟩:=gdE ae;refine yJ ((xAs prog 6 (QR 1 bf k_)).or ((xVw zq 31 0 bf).or zn)) hC zX [1,1,2,1,0,0,1,2,0,1,0,1] [J1,J2,J3] [0,5] (λz:List (List Int)×Int=>ya z.1 z.2=some ar) (λz=>Xx z.1 z.2) [(0,.own (eOs 1 false F6_ s_)),(1,.d (.fn 121 [])),(5,.d (I k_)),(6,.d (.atom (QR 1 bf k_)))] (Z2++[Hq c2,Hn (⟨.inl rfl,rfl⟩:(T.als 0 [] 0 0=T.als 0 [] 0 0\/T.als 0 [] 0 0=T.d (.atom bf))/\some bf=some bf),Hn (⟨g0.1,cuB F6_ g0⟩:(0:Int)<=k_/\k_.toNat<=(s_.map F6_).length),Hn (rfl:T.d (.atom (QR 1 bf k_))=T.d (.atom (QR 1 bf k_))),Hh (.cut 1)]) ?_ λJ4 bw=>?_
      ·rintro⟨a6,a9⟩ ae;unfold ya at ae;obtain⟨g1,ae⟩:=gdE ae;obtain⟨g2,ae⟩:=gdE ae;obtain⟨g3,ae⟩:=gdE ae;obtain rfl:=za ae;obtain rfl:=hl1;obtain rfl:=za aa;exact yE ((xVc zq 61 1 0 bf a9).or ((xVw zq 61 0 bf).or zn)) hC hE [Hn (⟨.inl rfl,rfl⟩:(T.als 0 [] 0 0=T.als 0 [] 0 0\/T.als 0 [] 0 0=T.d (.atom bf))/\some bf=some bf),Hn (⟨g1.1,cuB F6_ g1⟩:(0:Int)<=a9/\a9.toNat<=(a6.map F6_).length),Hn (⟨rfl,rfl⟩:T.d (.atom (QR 1 bf a9))=T.d (.atom (QR 1 bf a9))/\some bf=some bf),Hn (⟨g2.1,cuB F6_ g2,dM F6_ a6⟩:(0:Int)<=a9/\a9.toNat<=(a6.map F6_).length/\A.areD (a6.map F6_)=true),Hx (.l ((a6.take a9.toNat++List.replicate (a6.length - a9.toNat) []).map F6_)) (vcM F6_ a6 a9.toNat ([]:List Int)),Hn g3.1,Hn (cuB F6_ g3),Hl (cuM F6_ (a6.take a9.toNat++List.replicate (a6.length - a9.toNat) []) a9)]
      ·obtain⟨t5,ht5,ae⟩:=zb ae;refine yL zn hC zX [1,1,2,1,0,0,1,2,0,1,0,1,2,1,0] [J1,J2,J3,J4] (λs=>y8 k_ s.1 s.2.1 s.2.2) (λx=>Xu bf k_ x.1 x.2.1 x.2.2) (s_,k_,1) ht5  [] ?_;rintro⟨bi,fe,k2⟩ m5 ck aj hl2 J5 bz;try unfold y8 at aj
       let Z3:List HO:=[Hn (⟨rfl,rfl⟩:T.d (.atom (QR 1 bf k_))=T.d (.atom (QR 1 bf k_))/\some bf=some bf),Hx (.a (.atom (.int .i64 ((bi.length - k_.toNat:Nat):Int)))) (vlM F6_ bi k_.toNat)];rcases zB aj with⟨c3,aj⟩|⟨c3,aj⟩
       ·refine yJ ((xVl zq 34 32 1 0 bf k_ (by kernel_rfl)).or zn) hC zX [1,1,2,1,0,0,1,2,0,1,0,1,2,1,0,0,1] [J1,J2,J3,J4,J5] [0,1,5,6,7] (λz:List (List Int)×Int=>y9 k2 z.1 z.2=some ck) (λz=>Xw bf k_ k2 z.1 z.2) [(0,.own (eOs 1 false F6_ bi)),(1,.d (.fn 121 [])),(5,.d (I fe)),(6,.d (.atom (QR 1 bf k_))),(7,.d (I k2))] (Z3++[Hq c3,Hh (.cut 0)]) ?_ λJ6 cw=>?_
        ·rintro⟨kr,ku⟩ aj;unfold y9 at aj;obtain rfl:=za aj;exact yB zn hC bz (kr,ku,w64 (k2+1)) hl2 []
        ·obtain⟨g4,aj⟩:=gdE aj;obtain⟨jn,h3,aj⟩:=zb aj;obtain⟨g5,aj⟩:=gdE aj;obtain⟨jo,h4,aj⟩:=zb aj;obtain⟨ah,h5,aj⟩:=zb aj;let Z4:List HO:=[Hn (⟨rfl,rfl⟩:T.d (.atom (QR 1 bf k_))=T.d (.atom (QR 1 bf k_))/\some bf=some bf),Hn (⟨g4.1,g4.2,(iL F6_ h3).2⟩:(0:Int)<=k_/\(0:Int)<=k2/\(k_+k2).toNat<(bi.map F6_).length),Hs (iM F6_ h3),Hn (⟨rfl,rfl⟩:T.d (.atom (QR 1 bf k_))=T.d (.atom (QR 1 bf k_))/\some bf=some bf),Hn (⟨g5.1,g5.2,(iL F6_ h4).2⟩:(0:Int)<=k_/\(0:Int)<=w64 (k2 - 1)/\(k_+(w64 (k2 - 1))).toNat<(bi.map F6_).length),Hs (iM F6_ h4),Hc h0J (x:=(jn,jo)) h5 (loC F6_ jn <| loC F6_ jo <| loN)];rcases zB aj with⟨c4,aj⟩|⟨c4,aj⟩
         ·obtain⟨g6,aj⟩:=gdE aj;obtain⟨jp,h6,aj⟩:=zb aj;obtain⟨ma,h7,aj⟩:=zb aj;exact yB ((xVi zq 54 1 0 bf k_).or ((xVi zq 46 1 0 bf k_).or ((xVi zq 41 1 0 bf k_).or zn))) hC cw ((bi.set fe.toNat jp),w64 (fe+1)) aj (Z4++[Hq c4,Hn (⟨rfl,rfl⟩:T.d (.atom (QR 1 bf k_))=T.d (.atom (QR 1 bf k_))/\some bf=some bf),Hn (⟨g6.1,g6.2,(iL F6_ h6).2⟩:(0:Int)<=k_/\(0:Int)<=k2/\(k_+k2).toNat<(bi.map F6_).length),Hs (iM F6_ h6),Hn (iL F6_ h7),Hs (iM F6_ h7),Hs (iM F6_ h7),Hl (sM F6_ bi fe jp)])
         ·exact yB ((xVi zq 46 1 0 bf k_).or ((xVi zq 41 1 0 bf k_).or zn)) hC cw (bi,fe) aj (Z4++[Hq c4])
       ·obtain rfl:=za aj;obtain rfl:=hl2;exact yB ((xVl zq 34 32 1 0 bf k_ (by kernel_rfl)).or zn) hC bw (bi,fe) ae (Z3++[Hq c3])
     ·exact yB zn hC ba () ae (Z2++[Hq c2])
   ·obtain rfl:=za ae;obtain rfl:=hl1;exact yB zn hC ap () aa (Z1++[Hq c1])
def Q4:Code:=(Tryz.f48.body).getD .skip
def xk:zI:=spR (α:=List (List Int)) (ρ:=List (List Int)) 48 (λx=>[zdu x]) (λr=>(eOs 1 true F6_) r) (λx=>xX x) [true] (WJ)
theorem UY:∀x r,(λx=>xX x) x=some r->(Jn.add xk).run 48 ((Jn.add xk).norm 48 ((λx=>[zdu x]) x))=some ((λr=>(eOs 1 true F6_) r) r):=λx r h=>zmE h rfl
theorem Q1:(Jn.add xk).lend 48=none/\(Jn.add xk).gives 48=[true]:=zf6
theorem uv (hC:zy prog ctr):xk.Ok prog:=by refine z9S ?_;rintro s_ r0 aa;try unfold xX at aa;refine yO true [(2,none)] Q4 9 func48 λE hE=>?_;obtain rfl:=za aa;exact yE ((xCl zq 8).or X0) hC hE [Ha (lnM F6_ s_),Ha (lnM F6_ s_),Hn (pY _:(0:Int)<=((s_.length:Nat):Int)),Hn (pY _:(0:Int)<=((s_.length:Nat):Int)),Hn (clB F6_ s_),Ha (clE 1 F6_ s_)]
def QS:Code:=(f111.body).getD .skip
def W0:zI:=spF (α:=List (List Int)) (ρ:=Int) 111 (λx=>[xy x]) (λr=>nF r) (λx=>XE x) [] (WJ)
abbrev z3S (n_:Int):List (Nat×T):=[(2,.d (I n_))]
abbrev z3R (l_:List (List Int))(cj:Int)(x7:Int):List (Nat×T):=[(2,.d (I cj)),(5,.d (eSl 1 false F6_ l_)),(6,.d (I ((l_.length:Nat):Int))),(7,.d (I x7))]
theorem z8m (hC:zy prog ctr):W0.Ok prog:=by
 refine zx ?_;rintro l_ r0 aa;try unfold XE at aa;refine yO true [(2,none)] QS 17 func111 λE hE=>?_;refine yJ X0 hC QS [1] [] [2] (λz:Int=>Qx z=some r0) (λz=>z3S z) [(0,.d (eSl 1 false F6_ l_)),(2,.d (I 0))] [Hh (.cut 1)] ?_ λJ1 ap=>?_
 ·rintro n_ aa;unfold Qx at aa;obtain rfl:=za aa;exact yE X0 hC hE []
 ·obtain⟨t2,ht2,aa⟩:=zb aa;refine yL X0 hC QS [1,2,1,0] [J1] (λs=>jD l_ s.1 s.2) (λx=>z3R l_ x.1 x.2) (0,0) ht2  [Ha (lnM F6_ l_)] ?_;rintro⟨cj,x7⟩ m2 ar ae hl1 J2 av;try unfold jD at ae;rcases zB ae with⟨c0,ae⟩|⟨c0,ae⟩
  ·obtain⟨bg,h0,ae⟩:=zb ae;obtain rfl:=za ae;exact yB X0 hC av (w64 (cj+((bg.length:Nat):Int)),w64 (x7+1)) hl1 [Hq c0,Hi F6_ h0,Ha (lnM nF bg)]
  ·obtain rfl:=za ae;obtain rfl:=hl1;exact yB X0 hC ap cj aa [Hq c0]
def vM:Code:=(f90.body).getD .skip
def VD:zI:=spF (α:=List (List Int)) (ρ:=List (List Int)×Int) 90 (λx=>[xy x]) (λr=>.tup [F9_ r.1,nF r.2]) (λx=>Wl x) [] (WJ)
abbrev z2K (out:List (List Int×Bool)):List (Nat×T):=[(4,.own (eOs 1 true (eFl 1 nF) out))]
abbrev z2J (dv:Value)(al:List (List Int))(az:List (List Int×Bool))(bh:Int):List (Nat×T):=[(4,.own (eOs 1 true (eFl 1 nF) az)),(22,.d (.atom (QR 1 dv (0:Int)))),(23,.d (I ((al.length - (0:Int).toNat:Nat):Int))),(24,.d (I bh))]
theorem z7g (hC:zy prog ctr)(h1G:ctr.Has uR)(h0g:ctr.Has qQ)(h1H:ctr.Has wC)(h0k:ctr.Has W0)(h0s:ctr.Has vb)(h02:ctr.Has xz):VD.Ok prog:=by
 refine zx ?_;rintro l_ r0 aa;try unfold Wl at aa;refine yO false [(2,none),(3,none)] vM 37 func90 λE hE=>?_;obtain⟨r_,h0,aa⟩:=zb aa;refine yA X0 hC vM [1,1] [] [(4,.own (eOs 1 false F6_ r_))] [Hc h1G (x:=l_) h0 (loC xy l_ <| loN),Hh (.cut 0)] ?_;obtain⟨sorted,h1,aa⟩:=zb aa;refine zfy (by kernel_rfl) (x:=(sub [1,1,0] vM)) (y:=(sub [1,1,1] vM)) 4 (λst1=>Own.canon [4] st1=ofL [(4,.own (eOs 1 false F6_ sorted))]) (λdv=>yF ((uu (P:=prog) yp [4] (zdU zlW (f:=F6_) (t:=false) (v:=dv) (λ_=>rfl) (λ_=>rfl) (λx y c h=>yi hC h0g (x:=(x,y)) h) h1) 10).or X0) hC .normal [(4,.own (eOs 1 false F6_ sorted))] [Hn (ZN (f:=.fn 118 []) (xs:=[.atom dv,.fn 119 []]) (ls:=[(dv,eOs 1 false F6_ r_)]) (r:=.tup []) (ys:=[eOs 1 false F6_ sorted]) [.atom dv,.fn 119 []] (show z0Y [.atom dv,.fn 119 []] [.atom dv,.fn 119 []] from inferInstance))] λst0 h0=>⟨rfl,h0⟩) λst1 h1=>z9l h1 ?_
 obtain⟨ah,h2,aa⟩:=zb aa;obtain⟨al,h3,aa⟩:=zb aa;let Z0:List HO:=[Hc h1H (x:=(sorted,())) h2 (loC zdu sorted <| loC (zbH 121) () <| loN),Hh (.g [true]),Hn Q1,Hx (.a ((eOs 1 true F6_) al)) (UY ah _ h3),Ha (lnM F6_ al)];rcases zB aa with⟨c0,aa⟩|⟨c0,aa⟩
 ·obtain rfl:=za aa;exact yEx ((z3n zq (uv hC) 13).or X0) hC hE (Z0++(rpN 4 (Hq c0) [qT,Hm (shM F6_ F6_ [])])) (.tup [eSl 1 true F2_ [],I 3]) (show LeV (.tup [eSl 1 true F2_ [],I 3]) (.tup [eSl 1 true F2_ ([]:List (List Int)),I 3]) from inferInstance)
 ·obtain⟨ax,h4,aa⟩:=zb aa;let Z1:List HO:=(Z0++[Hq c0,Hq c0,Hg (z26 h0k),Hm (shM F6_ F6_ al),Hs (z27 h0k (x:=al) h4 (loC ziH al <| loN)),Hq c0,Hq c0]);rcases zB aa with⟨c1,aa⟩|⟨c1,aa⟩
  ·obtain rfl:=za aa;exact yEx ((z3n zq (uv hC) 13).or X0) hC hE (Z1++[Hq c1,Hm (shM F6_ F6_ [])]) (.tup [eSl 1 true F2_ [],I 3]) (show LeV (.tup [eSl 1 true F2_ [],I 3]) (.tup [eSl 1 true F2_ ([]:List (List Int)),I 3]) from inferInstance)
  ·refine yA ((z3n zq (uv hC) 13).or X0) hC vM [1,1,1,1,1] [] [(4,.own (eOs 1 true F6_ al))] (Z1++[Hq c1,Hh (.cut 0)]) ?_;refine zfA (y:=eOs 1 true F6_ al) (by kernel_rfl) 4 (by kernel_rfl) (by kernel_rfl) λdv hv4=>?_;refine yJ X0 hC vM [1,1,1,1,1] [] [4] (λz:List (List Int×Bool)=>YJ z=some r0) (λz=>z2K z) [(4,.own (eOs 1 true F6_ al))] [Hh (.cut 0)] ?_ λJ1 ap=>?_
   ·rintro out aa;unfold YJ at aa;obtain⟨hfl0,aa⟩:=gdE aa;obtain rfl:=za aa;exact yEx X0 hC hE [Hm (shM (eFl 1 nF) (eFl 1 nF) out)] (.tup [eSl 1 true (eFl 1 nF) out,I 0]) (haveI:=flA (s:=1) (t:=1) (b:=true) (f:=nF) hfl0;show LeV (.tup [eSl 1 true (eFl 1 nF) out,I 0]) (.tup [eSl 1 true F2_ (out.map (·.1)),I 0]) from inferInstance)
   ·obtain⟨t2,ht2,aa⟩:=zb aa;refine yLx ((xVl zq 23 32 1 4 dv (0:Int) (by kernel_rfl)).or ((xMw prog 22 4 1 dv).or X0)) hC vM [1,1,1,1,1,2,1,0] [J1] (λs=>wz al s.1 s.2) (λx=>z2J dv al x.1 x.2) ((al.map λq=>(q,false)),0) ht2 [(4,.own (eOs 1 true F6_ al)),(22,.d (.atom (QR 1 dv (0:Int)))),(23,.d (I ((al.length - (0:Int).toNat:Nat):Int))),(24,.d (I 0))] inferInstance [Hn (rfl:some dv=some dv),Hn (⟨rfl,rfl⟩:T.d (.atom (QR 1 dv (0:Int)))=T.d (.atom (QR 1 dv (0:Int)))/\some dv=some dv),Hx (.a (.atom (.int .i64 ((al.length - (0:Int).toNat:Nat):Int)))) (vlM F6_ al (0:Int).toNat)] ?_;rintro⟨az,bh⟩ m2 ar ae hl1 J2 av;try unfold wz at ae;rcases zB ae with⟨c2,ae⟩|⟨c2,ae⟩
    ·obtain⟨g0,ae⟩:=gdE ae;obtain⟨bq,h5,ae⟩:=zb ae;obtain⟨bm,h6,ae⟩:=zb ae;obtain⟨ct,h7,ae⟩:=zb ae;obtain⟨dy,h8,ae⟩:=zb ae;obtain rfl:=za ae;exact yB ((xVi zq 27 1 4 dv (0:Int)).or X0) hC av ((az.set bh.toNat (ct,true)),w64 (bh+1)) hl1 [Hq c2,Hn (⟨rfl,rfl⟩:T.d (.atom (QR 1 dv (0:Int)))=T.d (.atom (QR 1 dv (0:Int)))/\some dv=some dv),Hn (⟨g0.1,g0.2,(iL (eFl 1 nF) h5).2⟩:(0:Int)<=0/\(0:Int)<=bh/\(0+bh).toNat<(az.map (eFl 1 nF)).length),Hs (iM (eFl 1 nF) h5),Hc h0s (x:=bq.1) h6 (loC (eSl 1 bq.2 nF) bq.1 <| loN),Hg (z26 h02),Hm (shM nF nF bm),Hs (z27 h02 (x:=bm) h7 (loC F6_ bm <| loN)),Hm (shM nF nF bm),Hn (iL (eFl 1 nF) h8),Hs (iM (eFl 1 nF) h8),Hs (iM (eFl 1 nF) h8),Hl (sM (eFl 1 nF) az bh (ct,true))]
    ·obtain rfl:=za ae;obtain rfl:=hl1;exact yB X0 hC ap az aa [Hq c2]
def z9c:Code:=(f73.body).getD .skip
def YK:zI:=spF (α:=List (List Int)×Int) (ρ:=List (List Int)×Int) 73 (λx=>[xy x.1,nF x.2]) (λr=>.tup [F9_ r.1,nF r.2]) (λx=>Vu x.1 x.2) [] (Vk)
theorem z9u (hC:zy prog ctr)(h0v:ctr.Has W1)(h1I:ctr.Has VD):YK.Ok prog:=by
 refine zx ?_;rintro⟨l_,inputs⟩ r0 aa;try unfold Vu at aa;refine yO false [(4,none),(5,none)] z9c 17 func73 λE hE=>?_;obtain⟨r_,h0,aa⟩:=zb aa
 let Z0:List HO:=[Hc h0v (x:=(l_,inputs)) h0 (loC xy l_ <| loC nF inputs <| loN)];rcases zB aa with⟨c0,aa⟩|⟨c0,aa⟩
 ·obtain rfl:=za aa;exact yEx X0 hC hE (Z0++[Hq c0,Hm (shM F6_ F6_ [])]) (.tup [eSl 1 true F2_ [],I r_]) (show LeV (.tup [eSl 1 true F2_ [],I r_]) (.tup [eSl 1 true F2_ ([]:List (List Int)),I r_]) from inferInstance)
 ·obtain⟨ah,h1,aa⟩:=zb aa;obtain rfl:=za aa;exact yE X0 hC hE (Z0++[Hq c0,Hc h1I (x:=l_) h1 (loC xy l_ <| loN)])
def qq:Code:=(f37.body).getD .skip
def VS:zI:=spF (α:=z6×Unit) (ρ:=List (List Int)×Int) 37 (λx=>[zD x.1,(zbH 38) x.2]) (λr=>.tup [F9_ r.1,nF r.2]) (λx=>Wz x.1 x.2) [] (by rintro⟨a0,a1⟩ ⟨b0,b1⟩ h;have e0:=YD.inj (f:=zD) _ _ (List.cons.inj h).1;replace h:=(List.cons.inj h).2;have e1:=YD.inj (f:=(zbH 38)) _ _ (List.cons.inj h).1;subst e0 e1;rfl)
abbrev z3f (m_:z6)(x5:Int)(out:List (List Int)):List (Nat×T):=[(2,.own (.box (zD m_))),(4,.own (.box (eOs 1 true F6_ []))),(5,.own (.box (I x5))),(6,.own (.box (eOs 1 false F2_ out)))]
abbrev ut (m_:z6)(ah:Int)(br:Int)(ai:List (List Int)):List (Nat×T):=[(2,.own (.box (zD m_))),(3,.own (.box (.fn 38 []))),(4,.own (.box (eOs 1 true F6_ []))),(5,.own (.box (I br))),(6,.own (.box (eOs 1 false F2_ ai))),(15,.d (.fn 80 [.sptr (I ah)]))]
theorem z7u (hC:zy prog ctr)(h04:ctr.Has vB)(h1J:ctr.Has VU)(h0h:ctr.Has ub)(h07:ctr.Has YK):VS.Ok prog:=by
 refine zx ?_;rintro⟨m_,is⟩ r0 aa;try unfold Wz at aa;refine yO false [(4,some 32),(5,some 33)] qq 44 func37 λE hE=>?_;refine yJ X0 hC qq [1,1] [] [2,4,5,6] (λz:Int×List (List Int)=>Xj m_ z.1 z.2=some r0) (λz=>z3f m_ z.1 z.2) [(2,.own (.box (zD m_))),(3,.own (.box (.fn 38 []))),(4,.own (.box (eOs 1 true F6_ []))),(5,.own (.box (I 0))),(6,.own (.box (eOs 1 true F6_ [])))] [Hh (.cut 2)] ?_ λJ1 ap=>?_
 ·rintro⟨x5,out⟩ aa;unfold Xj at aa;obtain⟨r_,h0,aa⟩:=zb aa;obtain rfl:=za aa;exact yE X0 hC hE [Hg (z26 h07),Hm (shM F2_ F2_ out),Hs (z27 h07 (x:=(out,m_.Inputs)) h0 (loC (eSl 1 false F2_) out <| loC nF m_.Inputs <| loN)),Hm (shM F2_ F2_ out)]
 ·obtain⟨ah,h1,aa⟩:=zb aa;obtain⟨t2,ht2,aa⟩:=zb aa;refine yAt X0 hC (sub [1,1,2,1,0] qq) (frs [1,1,2,1,0] [J1] qq []) [(2,.own (.box (zD m_))),(3,.own (.box (.fn 38 []))),(4,.own (.box (eOs 1 true F6_ []))),(5,.own (.box (I 0))),(6,.own (.box (eOs 1 true F2_ []))),(15,.d (.fn 80 [.sptr (I ah)]))] [Ha (lnM yX m_.Rows),Hc h04 (x:=((m_.Rows.length:Nat):Int)) h1 (loC nF ((m_.Rows.length:Nat):Int) <| loN)] λst0 h0=>?_;refine z1w (g:=.tmp 15) (ps:=[16,17]) (assign:=(sub [1,1,2,1,0,0] qq)) (body:=(sub [1,1,2,1,0,1] qq)) (K:=80) (caps:=[.sptr (I ah)]) (by kernel_rfl) [2,3,4,5,6,15] (λs=>ut m_ ah s.1 s.2) (λs=>ut m_ ah s.1 s.2) (λs=>Code.ret) ((λ(x:Int×Int) (_:Bool) (_:Value)=>[nF x.1,nF x.2])) (F:=@yV ah) (λs x=>qh m_ s.1 s.2 x.1 x.2) (0,([]:List (List Int))) t2 _ h0 inferInstance (by kernel_rfl) (by decide) (λ_=>rfl) (λ_=>rfl) (by kernel_rfl) (λ_ _ _=>rfl) (Y6 hC ah) ht2 ?_ ?_
  ·rintro lp ⟨br,ai⟩ ⟨bp,aq⟩ vr ar ae;replace ae:qh m_ br ai bp aq=some ar:=ae;unfold qh at ae;refine yF X0 hC .normal [(2,.own (.box (zD m_))),(3,.own (.box (.fn 38 []))),(4,.own (.box (eOs 1 true F6_ []))),(5,.own (.box (I br))),(6,.own (.box (eOs 1 false F2_ ai))),(7,.d (I bp)),(8,.d (I aq)),(15,.d (.fn 80 [.sptr (I ah)]))] [] λst0 h0=>⟨rfl,z9l h0 ?_⟩;obtain⟨al,h2,ae⟩:=zb ae;let Z0:List HO:=[Hc h1J (x:=(bp,aq)) h2 (loC nF bp <| loC nF aq <| loN)];rcases zB ae with⟨c0,ae⟩|⟨c0,ae⟩
   ·obtain rfl:=za ae;exact yF X0 hC .normal (ut m_ ah br ai) (Z0++[Hq c0]) λst0 h0=>⟨rfl,_,h0,LeL.refl _⟩
   ·obtain⟨ax,h3,ae⟩:=zb ae;let Z1:List HO:=(Z0++[Hq c0,Hc h0h (x:=(m_,bp,aq)) h3 (loC zD m_ <| loC nF bp <| loC nF aq <| loN)]);rcases zB ae with⟨c1,ae⟩|⟨c1,ae⟩
    ·obtain rfl:=za ae;exact yF X0 hC .ret (ut m_ ah ax.2.2 ai) (Z1++[Hq c1]) λst0 h0=>⟨rfl,_,h0,LeL.refl _⟩
    ·obtain⟨g0,ae⟩:=gdE ae;obtain rfl:=za ae;exact yF X0 hC .normal (ut m_ ah br (ai++([ax.1]:List (List Int)))) (Z1++[Hq c1,Hq (dM F2_ ([ax.1]:List (List Int))),Hn (dM F2_ ([ax.1]:List (List Int))),Hn (aL F2_ F2_ g0),Hl (aM F2_ ai ([ax.1]:List (List Int)))]) λst0 h0=>⟨rfl,_,h0,LeL.refl _⟩
  ·rcases t2 with⟨br,ai⟩|z
   ·dsimp only at aa;exact WF (by kernel_rfl) (ap _ [(2,.own (.box (zD m_))),(4,.own (.box (eOs 1 true F6_ []))),(5,.own (.box (I br))),(6,.own (.box (eOs 1 false F2_ ai)))] (br,ai) aa (show Own.canon [2,4,5,6] _=ofL _ by kernel_rfl) inferInstance)
   ·obtain⟨br,ai⟩:=z;dsimp only at aa;show AWP _ _ (Code.ret) _ _;obtain rfl:=za aa;exact yEx X0 hC hE [Hm (shM F6_ F6_ [])] (.tup [eSl 1 true F2_ [],I br]) (show LeV (.tup [eSl 1 true F2_ [],I br]) (.tup [eSl 1 true F2_ ([]:List (List Int)),I br]) from inferInstance)
def z9k:Code:=(Tryz.f10.body).getD .skip
def Vb:zI:=spF (α:=z6) (ρ:=List (List Int)×Int) 10 (λx=>[zD x]) (λr=>.tup [F9_ r.1,nF r.2]) (λx=>XU x) [] (WJ)
theorem z9I (hC:zy prog ctr)(h0i:ctr.Has vA)(h1K:ctr.Has VS):Vb.Ok prog:=by
 refine zx ?_;rintro m_ r0 aa;try unfold XU at aa;refine yO false [(2,none),(3,none)] z9k 14 func10 λE hE=>?_;obtain⟨r_,h0,aa⟩:=zb aa
 let Z0:List HO:=[Hc h0i (x:=m_) h0 (loC zD m_ <| loN)];rcases zB aa with⟨c0,aa⟩|⟨c0,aa⟩
 ·obtain rfl:=za aa;exact yEx X0 hC hE (Z0++[Hq c0,Hm (shM F6_ F6_ [])]) (.tup [eSl 1 true F2_ [],I r_]) (show LeV (.tup [eSl 1 true F2_ [],I r_]) (.tup [eSl 1 true F2_ ([]:List (List Int)),I r_]) from inferInstance)
 ·obtain⟨ah,h1,aa⟩:=zb aa;obtain rfl:=za aa;exact yE X0 hC hE (Z0++[Hq c0,Hc h1K (x:=(m_,())) h1 (loC zD m_ <| loC (zbH 38) () <| loN)])
def z3P:Code:=(f112.body).getD .skip
def XL:zI:=spF (α:=z6×Int) (ρ:=Int) 112 (λx=>[zD x.1,nF x.2]) (λr=>nF r) (λx=>Y0 x.1 x.2) [] (Vk)
theorem z4S (hC:zy prog ctr)(h01:ctr.Has xM):XL.Ok prog:=by
 refine zx ?_;rintro⟨m_,s_⟩ r0 aa;try unfold Y0 at aa;refine yO true [(4,none)] z3P 20 func112 λE hE=>?_;obtain⟨r_,h0,aa⟩:=zb aa
 let Z0:List HO:=[Hc h01 (x:=m_) h0 (loC zD m_ <| loN)];rcases zB aa with⟨c0,aa⟩|⟨c0,aa⟩
 ·obtain rfl:=za aa;exact yE X0 hC hE (Z0++[Hq c0])
 ·rcases zB aa with⟨c1,aa⟩|⟨c1,aa⟩
  ·obtain rfl:=za aa;exact yE X0 hC hE (Z0++(Hq c0::(rpN 6 (Hq c1) [qT])))
  ·let Z1:List HO:=(Z0++(Hq c0::(rpN 4 (Hq c1) [Ha (lnM yX m_.Rows),Hq c1,Hq c1])));rcases zB aa with⟨c2,aa⟩|⟨c2,aa⟩
   ·obtain rfl:=za aa;exact yE X0 hC hE (Z1++[Hq c2])
   ·obtain rfl:=za aa;exact yE X0 hC hE (Z1++[Hq c2])
def Xs:Code:=(f114.body).getD .skip
def VO:zI:=spF (α:=z6×Int×List Int) (ρ:=List Int×Int) 114 (λx=>[zD x.1,nF x.2.1,F6_ x.2.2]) (λr=>.opq (WN [some (F3_ r.1),some (nF r.2)])) (λx=>Ww x.1 x.2.1 x.2.2) [] (zcH)
abbrev z3e (a6:Int)(out:List Int):List (Nat×T):=[(1,.d (I a6)),(8,.own (eOs 1 true nF out))]
abbrev z3d (m_:z6)(w_:List Int)(ai:List Int)(aq:Int)(ew:Int)(io:Int):List (Nat×T):=[(3,.own (.box (zD m_))),(8,.own (eOs 1 true nF ai)),(9,.d (I aq)),(11,.own (.box (.agg [I ew,I io]))),(15,.d (eSl 1 false nF w_)),(16,.d (I ((w_.length:Nat):Int))),(17,.d (I aq))]
abbrev z3c (m_:z6)(w_:List Int)(bi:Int)(ai:List Int)(aq:Int):List (Nat×T):=[(1,.d (I bi)),(3,.own (.box (zD m_))),(8,.own (eOs 1 true nF ai)),(15,.d (eSl 1 false nF w_)),(16,.d (I ((w_.length:Nat):Int))),(17,.d (I aq))]
theorem z7r (hC:zy prog ctr)(h0e:ctr.Has qS):VO.Ok prog:=by
 refine zx ?_;rintro⟨m_,s_,w_⟩ r0 aa;try unfold Ww at aa;refine z2D (tt:=yp) (rs:=[(true,6,none),(false,7,none)]) (n:=⟨43,[]⟩) (body:=Xs) zq func114 rfl (by kernel_rfl) rfl rfl (by show(3:Nat)<=43;decide) λE hE=>?_
 obtain⟨g0,aa⟩:=gdE aa;refine yJ X0 hC Xs [1,1] [] [1,8] (λz:Int×List Int=>Xg z.1 z.2=some r0) (λz=>z3e z.1 z.2) [(1,.d (I s_)),(2,.d (eSl 1 false nF w_)),(3,.own (.box (zD m_))),(8,.own (eOs 1 true nF (List.replicate ((w_.length:Nat):Int).toNat (0:Int))))] [Ha (lnM nF w_),Hn (rL g0),Ha (rM 1 nF ((w_.length:Nat):Int) (0:Int)),Hh (.cut 0)] ?_ λJ1 ap=>?_
 ·rintro⟨a6,out⟩ aa;unfold Xg at aa;obtain rfl:=za aa;let ZE:List HO:=[];exact V5 X0 zq hC ZM hE 4000 (hs:=hoH ZE) (x:=(.opq (WN [some (eOs 1 true nF out),some (I a6)]))) (hoB ZE) (by kernel_rfl) (LeV.refl _)
 ·obtain⟨t2,ht2,aa⟩:=zb aa;refine yL X0 hC Xs [1,1,2,1,0] [J1] (λs=>Xf m_ w_ s.1 s.2.1 s.2.2) (λx=>z3c m_ w_ x.1 x.2.1 x.2.2) (s_,(List.replicate ((w_.length:Nat):Int).toNat (0:Int)),0) ht2  [Ha (lnM nF w_)] ?_;rintro⟨bi,ai,aq⟩ m2 ar ae hl1 J2 av;try unfold Xf at ae;rcases zB ae with⟨c0,ae⟩|⟨c0,ae⟩
  ·obtain⟨d8,h0,ae⟩:=zb ae;obtain⟨r_,h1,ae⟩:=zb ae;refine yJ X0 hC Xs [1,1,2,1,0,0,1,1,0,0,1,1] [J1,J2] [3,8,9,11,15,16,17] (λz:Int×Int=>Zi ai aq z.1 z.2=some ar) (λz=>z3d m_ w_ ai aq z.1 z.2) [(1,.d (I bi)),(3,.own (.box (zD m_))),(8,.own (eOs 1 true nF ai)),(9,.d (I aq)),(10,.d (I d8)),(11,.own (.box (F8_ r_))),(15,.d (eSl 1 false nF w_)),(16,.d (I ((w_.length:Nat):Int))),(17,.d (I aq))] [Hq c0,Hi nF h0,Hc h0e (x:=()) h1 (loN),Hh (.cut 0)] ?_ λJ3 ba=>?_
   ·rintro⟨ew,io⟩ ae;unfold Zi at ae;obtain⟨bq,h2,ae⟩:=zb ae;obtain rfl:=za ae;exact yB X0 hC av (ew,(ai.set aq.toNat io),w64 (aq+1)) hl1 [Hn (iL nF h2),Hs (iM nF h2),Hs (iM nF h2),Hl (sM nF ai aq io)]
   ·rcases zB ae with⟨c1,ae⟩|⟨c1,ae⟩
    ·obtain⟨am,h3,ae⟩:=zb ae;obtain⟨ak,h4,ae⟩:=zb ae;exact yB X0 hC ba (ak.To,ak.Out) ae [Hq c1,Hi yX h3,Hi F8_ h4]
    ·exact yB X0 hC ba (r_.To,r_.Out) ae [Hq c1]
  ·obtain rfl:=za ae;obtain rfl:=hl1;exact yB X0 hC ap (bi,ai) aa [Hq c0]
def z6N:Code:=(f79.body).getD .skip
def VP:zI:=spF (α:=z6×Int×List Int) (ρ:=List Int×Int) 79 (λx=>[zD x.1,nF x.2.1,F6_ x.2.2]) (λr=>.opq (WN [some (F3_ r.1),some (nF r.2)])) (λx=>Wy x.1 x.2.1 x.2.2) [] (zcH)
theorem z7s (hC:zy prog ctr)(h1L:ctr.Has XL)(h0t:ctr.Has XZ)(h1M:ctr.Has VO):VP.Ok prog:=by
 refine zx ?_;rintro⟨m_,s_,w_⟩ r0 aa;try unfold Wy at aa;refine z2D (tt:=yp) (rs:=[(true,6,none),(false,7,none)]) (n:=⟨33,[]⟩) (body:=z6N) zq func79 rfl (by kernel_rfl) rfl rfl (by show(3:Nat)<=33;decide) λE hE=>?_
 obtain⟨r_,h0,aa⟩:=zb aa;let Z0:List HO:=[Hc h1L (x:=(m_,s_)) h0 (loC zD m_ <| loC nF s_ <| loN)];rcases zB aa with⟨c0,aa⟩|⟨c0,aa⟩
 ·obtain rfl:=za aa;let ZE:List HO:=(Z0++[Hq c0]);exact V5 X0 zq hC ZM hE 4000 (hs:=hoH ZE) (x:=(.opq (WN [some (eOs 1 true nF []),some (I r_)]))) (hoB ZE) (by kernel_rfl) (show LeV (.opq (WN [some (eOs 1 true nF []),some (I r_)])) (.opq (WN [some (eOs 1 true nF ([]:List Int)),some (I r_)])) from inferInstance)
 ·obtain⟨ah,h1,aa⟩:=zb aa;let Z1:List HO:=(Z0++[Hq c0,Hc h0t (x:=(w_,m_.Inputs)) h1 (loC F6_ w_ <| loC nF m_.Inputs <| loN)]);rcases zB aa with⟨c1,aa⟩|⟨c1,aa⟩
  ·obtain rfl:=za aa;let ZE:List HO:=(Z1++[Hq c1]);exact V5 X0 zq hC ZM hE 4000 (hs:=hoH ZE) (x:=(.opq (WN [some (eOs 1 true nF []),some (I ah)]))) (hoB ZE) (by kernel_rfl) (show LeV (.opq (WN [some (eOs 1 true nF []),some (I ah)])) (.opq (WN [some (eOs 1 true nF ([]:List Int)),some (I ah)])) from inferInstance)
  ·obtain⟨al,h2,aa⟩:=zb aa;obtain rfl:=za aa;let ZE:List HO:=(Z1++[Hq c1,Hc h1M (x:=(m_,s_,w_)) h2 (loC zD m_ <| loC nF s_ <| loC F6_ w_ <| loN),Hn (⟨rfl,rfl⟩:T.own (.opq (WN [some (eOs 1 true nF al.1),some (I al.2)]))=T.own (.opq (WN [some (eOs 1 true nF al.1),some (I al.2)]))/\1=1),Hn (⟨rfl,rfl⟩:T.own (.opq (WN [none,some (I al.2)]))=T.own (.opq (WN [none,some (I al.2)]))/\1=1)]);exact V5 ((zd2 prog 31 [none,some (I al.2)]).or ((zd2 prog 30 [some (eOs 1 true nF al.1),some (I al.2)]).or X0)) zq hC ZM hE 4000 (hs:=hoH ZE) (x:=(.opq (WN [some (eOs 1 true nF al.1),some (I 0)]))) (hoB ZE) (by kernel_rfl) (LeV.refl _)
def Uy:Code:=(Tryz.f48.body).getD .skip
def yQ:zI:=spR (α:=List (List Int)) (ρ:=List (List Int)) 48 (λx=>[(eOs 1 false F3_) x]) (λr=>zp2 r) (λx=>xN x) [true] (WJ)
theorem Ur:∀x r,(λx=>xN x) x=some r->(Jn.add yQ).run 48 ((Jn.add yQ).norm 48 ((λx=>[(eOs 1 false F3_) x]) x))=some ((λr=>zp2 r) r):=λx r h=>zmE h rfl
theorem Ut:(Jn.add yQ).lend 48=none/\(Jn.add yQ).gives 48=[true]:=zf6
theorem US (hC:zy prog ctr):yQ.Ok prog:=by refine z9S ?_;rintro s_ r0 aa;try unfold xN at aa;refine yO true [(2,none)] Uy 9 func48 λE hE=>?_;obtain rfl:=za aa;exact yE ((xCl zq 8).or X0) hC hE [Ha (lnM F3_ s_),Ha (lnM F3_ s_),Hn (pY _:(0:Int)<=((s_.length:Nat):Int)),Hn (pY _:(0:Int)<=((s_.length:Nat):Int)),Hn (clB F3_ s_),Ha (clE 1 F3_ s_)]
def Yv:Code:=(Tryz.f50.body).getD .skip
def wn:zI:=spF (α:=z6×List (List Int)×Int) (ρ:=List (List Int)) 50 (λx=>[zD x.1,xy x.2.1,nF x.2.2]) (λr=>zp2 r) (λx=>xJ x.1 x.2.1 x.2.2) [] (zcH)
abbrev Kv (out:List (List Int)):List (Nat×T):=[(7,.own (eOs 1 false F3_ out))]
abbrev Ku (m_:z6)(l_:List (List Int))(s_:Int)(ai:List (List Int))(cg:Int):List (Nat×T):=[(2,.d (I s_)),(3,.own (.box (zD m_))),(7,.own (eOs 1 false F3_ ai)),(12,.d (eSl 1 false F6_ l_)),(13,.d (I ((l_.length:Nat):Int))),(14,.d (I cg))]
theorem z2h (hC:zy prog ctr)(h1N:ctr.Has VP):wn.Ok prog:=by
 refine zx ?_;rintro⟨m_,l_,s_⟩ r0 aa;try unfold xJ at aa;refine yO true [(6,none)] Yv 32 func50 λE hE=>?_;refine yJ X0 hC Yv [1,1] [] [7] (λz:List (List Int)=>qH z=some r0) (λz=>Kv z) [(1,.d (eSl 1 false F6_ l_)),(2,.d (I s_)),(3,.own (.box (zD m_))),(7,.own (eOs 1 true F6_ []))] [Hh (.cut 2)] ?_ λJ1 ap=>?_
 ·rintro out aa;unfold qH at aa;obtain⟨r_,h0,aa⟩:=zb aa;obtain rfl:=za aa;exact yE ((z3n zq (US hC) 31).or X0) hC hE [Hh (.g [true]),Hn Ut,Hx (.a (zp2 r_)) (Ur out _ h0)]
 ·obtain⟨t2,ht2,aa⟩:=zb aa;refine yLx X0 hC Yv [1,1,2,1,0] [J1] (λs=>yT m_ l_ s_ s.1 s.2) (λx=>Ku m_ l_ s_ x.1 x.2) (([]:List (List Int)),0) ht2 [(2,.d (I s_)),(3,.own (.box (zD m_))),(7,.own (eOs 1 true F3_ [])),(12,.d (eSl 1 false F6_ l_)),(13,.d (I ((l_.length:Nat):Int))),(14,.d (I 0))] inferInstance [Ha (lnM F6_ l_)] ?_;rintro⟨ai,cg⟩ m2 ar ae hl1 J2 av;try unfold yT at ae;rcases zB ae with⟨c0,ae⟩|⟨c0,ae⟩
  ·obtain⟨bg,h1,ae⟩:=zb ae;obtain⟨ah,h2,ae⟩:=zb ae;obtain⟨g0,ae⟩:=gdE ae;obtain rfl:=za ae;exact yB ((zd2 prog 24 [none,some (I ah.2)]).or ((zd2 prog 23 [some (eOs 1 true nF ah.1),some (I ah.2)]).or X0)) hC av ((ai++([ah.1]:List (List Int))),w64 (cg+1)) hl1 [Hq c0,Hi F6_ h1,Hc h1N (x:=(m_,s_,bg)) h2 (loC zD m_ <| loC nF s_ <| loC F6_ bg <| loN),Hn (⟨rfl,rfl⟩:T.own (.opq (WN [some (eOs 1 true nF ah.1),some (I ah.2)]))=T.own (.opq (WN [some (eOs 1 true nF ah.1),some (I ah.2)]))/\1=1),Hn (⟨rfl,rfl⟩:T.own (.opq (WN [none,some (I ah.2)]))=T.own (.opq (WN [none,some (I ah.2)]))/\1=1),Hq (oC F3_ ah.1 []),Hn (aL F3_ F3_ g0),Hl (aM F3_ ai ([ah.1]:List (List Int)))]
  ·obtain rfl:=za ae;obtain rfl:=hl1;exact yB X0 hC ap ai aa [Hq c0]
def z03:Code:=(f81.body).getD .skip
def kU:zI:=spF (α:=List Int×List Int) (ρ:=Bool) 81 (λx=>[F6_ x.1,F6_ x.2]) (λr=>eB r) (λx=>kE x.1 x.2) [] (Vk)
theorem z0F (hC:zy prog ctr)(h0a:ctr.Has xU):kU.Ok prog:=by refine zx ?_;rintro⟨x_,y_⟩ r0 aa;try unfold kE at aa;refine yO true [(4,none)] z03 8 func81 λE hE=>?_;obtain⟨r_,h0,aa⟩:=zb aa;obtain rfl:=za aa;exact yE X0 hC hE [Hc h0a (x:=(x_,y_)) h0 (loC F6_ x_ <| loC F6_ y_ <| loN)]
def xG:Code:=(f56.body).getD .skip
def xA:zI:=spF (α:=List (List Int)×List (List Int)×Unit) (ρ:=Bool) 56 (λx=>[xy x.1,xy x.2.1,(zbH 81) x.2.2]) (λr=>eB r) (λx=>yI x.1 x.2.1 x.2.2) [] (by rintro⟨a0,a1,a2⟩ ⟨b0,b1,b2⟩ h;have e0:=YD.inj (f:=xy) _ _ (List.cons.inj h).1;replace h:=(List.cons.inj h).2;have e1:=YD.inj (f:=xy) _ _ (List.cons.inj h).1;replace h:=(List.cons.inj h).2;have e2:=YD.inj (f:=(zbH 81)) _ _ (List.cons.inj h).1;subst e0 e1 e2;rfl)
abbrev Zp:List (Nat×T):=[]
abbrev Zo (s1:List (List Int))(s2:List (List Int))(aq:Int):List (Nat×T):=[(1,.d (eSl 1 false F6_ s2)),(2,.d (.fn 81 [])),(15,.d (eSl 1 false F6_ s1)),(16,.d (I ((s1.length:Nat):Int))),(17,.d (I aq))]
theorem Yn (hC:zy prog ctr)(h1O:ctr.Has kU):xA.Ok prog:=by
 refine zx ?_;rintro⟨s1,s2,eq⟩ r0 aa;try unfold yI at aa;refine yO true [(6,none)] xG 32 func56 λE hE=>?_
 let Z0:List HO:=[Ha (lnM F6_ s1),Ha (lnM F6_ s2)];rcases zB aa with⟨c0,aa⟩|⟨c0,aa⟩
 ·obtain rfl:=za aa;exact yE X0 hC hE (Z0++[Hq c0])
 ·refine yJ X0 hC xG [1,1] [] [] (λz:Unit=>xC=some r0) (λz=>Zp) [(0,.d (eSl 1 false F6_ s1)),(1,.d (eSl 1 false F6_ s2)),(2,.d (.fn 81 []))] (Z0++[Hq c0,Hh (.cut 0)]) ?_ λJ1 ap=>?_
  ·rintro⟨⟩ aa;unfold xC at aa;obtain rfl:=za aa;exact yE X0 hC hE []
  ·obtain⟨t2,ht2,aa⟩:=zb aa;refine yL X0 hC xG [1,1,2,1,0] [J1] (λs=>zV s1 s2 s) (λx=>Zo s1 s2 x) 0 ht2  [Ha (lnM F6_ s1)] ?_;rintro aq m2 ar ae hl1 J2 av;try unfold zV at ae;rcases zB ae with⟨c1,ae⟩|⟨c1,ae⟩
   ·obtain⟨ga,h0,ae⟩:=zb ae;obtain⟨d0,h1,ae⟩:=zb ae;obtain⟨r_,h2,ae⟩:=zb ae;let Z1:List HO:=[Hq c1,Hi F6_ h0,Hi F6_ h1,Hc h1O (x:=(ga,d0)) h2 (loC F6_ ga <| loC F6_ d0 <| loN)];rcases zB ae with⟨c2,ae⟩|⟨c2,ae⟩
    ·obtain rfl:=za ae;obtain rfl:=hl1;obtain rfl:=za aa;exact yE X0 hC hE (Z1++[Hq c2])
    ·obtain rfl:=za ae;exact yB X0 hC av (w64 (aq+1)) hl1 (Z1++[Hq c2])
   ·obtain rfl:=za ae;obtain rfl:=hl1;exact yB X0 hC ap () aa [Hq c1]
def z1u:Code:=(f52.body).getD .skip
def vC:zI:=spF (α:=List (List Int)×List (List Int)) (ρ:=Bool) 52 (λx=>[xy x.1,xy x.2]) (λr=>eB r) (λx=>wV x.1 x.2) [] (Vk)
theorem z2j (hC:zy prog ctr)(h1P:ctr.Has xA):vC.Ok prog:=by refine zx ?_;rintro⟨a_,b_⟩ r0 aa;try unfold wV at aa;refine yO true [(4,none)] z1u 8 func52 λE hE=>?_;obtain⟨r_,h0,aa⟩:=zb aa;obtain rfl:=za aa;exact yE X0 hC hE [Hc h1P (x:=(a_,b_,())) h0 (loC xy a_ <| loC xy b_ <| loC (zbH 81) () <| loN)]
def yu:Code:=(f45.body).getD .skip
def Yq:zI:=spF (α:=z6×List (List Int)) (ρ:=List Int) 45 (λx=>[zD x.1,xy x.2]) (λr=>(eSl 1 false (eI .u64)) r) (λx=>jB x.1 x.2) [] (Vk)
abbrev Kz (out:List Int):List (Nat×T):=[(4,.own (.box (eOs 1 false (eI .u64) out)))]
abbrev XD (m_:z6)(w_:List (List Int))(r_:Int)(ai:List Int):List (Nat×T):=[(2,.own (.box (zD m_))),(3,.own (.box (eSl 1 false F6_ w_))),(4,.own (.box (eOs 1 false (eI .u64) ai))),(12,.d (.fn 80 [.sptr (I r_)]))]
abbrev Ky (m_:z6)(w_:List (List Int))(r_:Int)(ai:List Int)(ic:Int):List (Nat×T):=[(2,.own (.box (zD m_))),(3,.own (.box (eSl 1 false F6_ w_))),(4,.own (.box (eOs 1 false (eI .u64) ai))),(7,.d (.atom (.int .u64 ic))),(12,.d (.fn 80 [.sptr (I r_)]))]
abbrev Kx (m_:z6)(w_:List (List Int))(r_:Int)(ai:List Int)(dc:Int)(cg:Int)(aq:Int)(i9:Int):List (Nat×T):=[(2,.own (.box (zD m_))),(3,.own (.box (eSl 1 false F6_ w_))),(4,.own (.box (eOs 1 false (eI .u64) ai))),(5,.d (I dc)),(6,.d (I cg)),(7,.d (.atom (.int .u64 i9))),(12,.d (.fn 80 [.sptr (I r_)])),(16,.d (I ((w_.length:Nat):Int))),(17,.d (I aq))]
abbrev Kw (m_:z6)(w_:List (List Int))(r_:Int)(ai:List Int)(dc:Int)(cg:Int)(fw:Int)(aq:Int):List (Nat×T):=[(2,.own (.box (zD m_))),(3,.own (.box (eSl 1 false F6_ w_))),(4,.own (.box (eOs 1 false (eI .u64) ai))),(5,.d (I dc)),(6,.d (I cg)),(7,.d (.atom (.int .u64 fw))),(12,.d (.fn 80 [.sptr (I r_)])),(16,.d (I ((w_.length:Nat):Int))),(17,.d (I aq))]
theorem z2i (hC:zy prog ctr)(h04:ctr.Has vB)(h06:ctr.Has wn)(h08:ctr.Has vC):Yq.Ok prog:=by
 refine zx ?_;rintro⟨m_,w_⟩ r0 aa;try unfold jB at aa;refine yO false [(4,some 76)] yu 48 func45 λE hE=>?_;refine yJ X0 hC yu [1] [] [4] (λz:List Int=>Yt z=some r0) (λz=>Kz z) [(2,.own (.box (zD m_))),(3,.own (.box (eSl 1 false F6_ w_))),(4,.own (.box (eOs 1 true (eI .u64) [])))] [Hh (.cut 1)] ?_ λJ1 ap=>?_
 ·rintro out aa;unfold Yt at aa;obtain rfl:=za aa;exact yE X0 hC hE [Hh (.v 0 [4]),Hm (shM (eI .u64) (eI .u64) out),Hh (.v 1 [4])]
 ·obtain⟨r_,h0,aa⟩:=zb aa;obtain⟨t2,ht2,aa⟩:=zb aa;refine yAt X0 hC (sub [1,2,1,0] yu) (frs [1,2,1,0] [J1] yu []) [(2,.own (.box (zD m_))),(3,.own (.box (eSl 1 false F6_ w_))),(4,.own (.box (eOs 1 true (eI .u64) []))),(12,.d (.fn 80 [.sptr (I r_)]))] [Ha (lnM yX m_.Rows),Hc h04 (x:=((m_.Rows.length:Nat):Int)) h0 (loC nF ((m_.Rows.length:Nat):Int) <| loN)] λst0 h0=>?_;refine z1w (g:=.tmp 12) (ps:=[13,14]) (assign:=(sub [1,2,1,0,0] yu)) (body:=(sub [1,2,1,0,1] yu)) (K:=80) (caps:=[.sptr (I r_)]) (by kernel_rfl) [2,3,4,12] (λs=>XD m_ w_ r_ s) (λz=>nomatch z) (λz=>nomatch z) ((λ(x:Int×Int) (_:Bool) (_:Value)=>[nF x.1,nF x.2])) (F:=@yV r_) (λs x=>vL m_ w_ s x.1 x.2) ([]:List Int) t2 _ h0 inferInstance (by kernel_rfl) (by decide) (λ_=>rfl) (by rintro⟨⟩) (by kernel_rfl) (λ_ _ _=>rfl) (Y6 hC r_) ht2 ?_ ?_
  ·rintro lp ai ⟨dc,cg⟩ vr ar ae;replace ae:vL m_ w_ ai dc cg=some ar:=ae;unfold vL at ae;refine yF X0 hC .normal [(2,.own (.box (zD m_))),(3,.own (.box (eSl 1 false F6_ w_))),(4,.own (.box (eOs 1 false (eI .u64) ai))),(5,.d (I dc)),(6,.d (I cg)),(12,.d (.fn 80 [.sptr (I r_)]))] [] λst0 h0=>⟨rfl,z9l h0 ?_⟩;refine yJ X0 hC yu [1,2,1,0,1,0,1] [J1] [2,3,4,7,12] (λz:Int=>qI ai z=some ar) (λz=>Ky m_ w_ r_ ai z) [(2,.own (.box (zD m_))),(3,.own (.box (eSl 1 false F6_ w_))),(4,.own (.box (eOs 1 false (eI .u64) ai))),(5,.d (I dc)),(6,.d (I cg)),(7,.d (.atom (.int .u64 0))),(12,.d (.fn 80 [.sptr (I r_)]))] [Hh (.cut 1)] ?_ λJ3 ba=>?_
   ·rintro ic ae;unfold qI at ae;obtain⟨g0,ae⟩:=gdE ae;obtain rfl:=za ae;exact yF X0 hC .normal (XD m_ w_ r_ (ai++([ic]:List Int))) [Hq (dM (eI .u64) ([ic]:List Int)),Hn (dM (eI .u64) ([ic]:List Int)),Hn (aL (eI .u64) (eI .u64) g0),Hl (aM (eI .u64) ai ([ic]:List Int))] λst0 h0=>⟨rfl,_,h0,LeL.refl _⟩
   ·obtain⟨t4,ht4,ae⟩:=zb ae;refine yL X0 hC yu [1,2,1,0,1,0,1,2,1,0] [J1,J3] (λs=>yU m_ w_ dc cg s.1 s.2) (λx=>Kw m_ w_ r_ ai dc cg x.1 x.2) (0,0) ht4  [Ha (lnM F6_ w_)] ?_;rintro⟨fw,aq⟩ m4 ck aj hl2 J4 bw;try unfold yU at aj;rcases zB aj with⟨c0,aj⟩|⟨c0,aj⟩
    ·refine yJ X0 hC yu [1,2,1,0,1,0,1,2,1,0,0,1,1] [J1,J3,J4] [2,3,4,5,6,7,12,16,17] (λz:Int=>vK aq z=some ck) (λz=>Kx m_ w_ r_ ai dc cg aq z) [(2,.own (.box (zD m_))),(3,.own (.box (eSl 1 false F6_ w_))),(4,.own (.box (eOs 1 false (eI .u64) ai))),(5,.d (I dc)),(6,.d (I cg)),(7,.d (.atom (.int .u64 fw))),(12,.d (.fn 80 [.sptr (I r_)])),(16,.d (I ((w_.length:Nat):Int))),(17,.d (I aq))] [Hq c0,Hh (.cut 0)] ?_ λJ5 bz=>?_
     ·rintro i9 aj;unfold vK at aj;obtain rfl:=za aj;exact yB X0 hC bw (i9,w64 (aq+1)) hl2 []
     ·obtain⟨g1,aj⟩:=gdE aj;obtain⟨ah,h1,aj⟩:=zb aj;obtain⟨g2,aj⟩:=gdE aj;obtain⟨al,h2,aj⟩:=zb aj;obtain⟨ax,h3,aj⟩:=zb aj;let Z0:List HO:=[Hn (slA g1),Hn (slB g1),Hn (zgE F6_ g1),Ha (slM 1 false F6_ w_ aq.toNat (w64 (aq+1)).toNat),Hc h06 (x:=(m_,((w_.drop aq.toNat).take ((w64 (aq+1)).toNat - aq.toNat)),dc)) h1 (loC zD m_ <| loC xy ((w_.drop aq.toNat).take ((w64 (aq+1)).toNat - aq.toNat)) <| loC nF dc <| loN),Hn (slA g2),Hn (slB g2),Hn (zgE F6_ g2),Ha (slM 1 false F6_ w_ aq.toNat (w64 (aq+1)).toNat),Hc h06 (x:=(m_,((w_.drop aq.toNat).take ((w64 (aq+1)).toNat - aq.toNat)),cg)) h2 (loC zD m_ <| loC xy ((w_.drop aq.toNat).take ((w64 (aq+1)).toNat - aq.toNat)) <| loC nF cg <| loN),Hg (z26 h08),Hm (shM F3_ F2_ ah),Hm (shM F3_ F2_ al),Hs (z27 h08 (x:=(ah,al)) h3 (loC F9_ ah <| loC F9_ al <| loN))];rcases zB aj with⟨c1,aj⟩|⟨c1,aj⟩
      ·obtain⟨g3,aj⟩:=gdE aj;exact yB ((zbS prog).or ((zlf prog).or X0)) hC bz (orK .u64 fw (z3w .u64 1 aq)) aj (Z0++[Hq c1,Hn g3])
      ·exact yB X0 hC bz fw aj (Z0++[Hq c1])
    ·obtain rfl:=za aj;obtain rfl:=hl2;exact yB X0 hC ba fw ae [Hq c0]
  ·rcases t2 with ai|z
   ·dsimp only at aa;exact WF (by kernel_rfl) (ap _ [(4,.own (.box (eOs 1 false (eI .u64) ai)))] ai aa (show Own.canon [4] _=ofL _ by kernel_rfl) inferInstance)
   ·cases z
def yk:Code:=(f76.body).getD .skip
def uS:zI:=spF (α:=Int) (ρ:=Int) 76 (λx=>[(eI .u64) x]) (λr=>nF r) (λx=>Zh x) [] (WJ)
abbrev UI (ll:Int):List (Nat×T):=[(0,.d (.atom (.int .u64 ll)))]
abbrev UJ (jh:Int):List (Nat×T):=[(0,.d (.atom (.int .u64 jh)))]
abbrev UK (ji:Int):List (Nat×T):=[(0,.d (.atom (.int .u64 ji)))]
abbrev UL (jj:Int):List (Nat×T):=[(0,.d (.atom (.int .u64 jj)))]
abbrev UM (jk:Int):List (Nat×T):=[(0,.d (.atom (.int .u64 jk)))]
abbrev UN (jl:Int):List (Nat×T):=[(0,.d (.atom (.int .u64 jl)))]
theorem Jw (hC:zy prog ctr):uS.Ok prog:=by
 refine zx ?_;rintro x_ r0 aa;try unfold Zh at aa;refine yO true [(2,none)] yk 35 func76 λE hE=>?_;refine yJ X0 hC yk [1] [] [0] (λz:Int=>qd z=some r0) (λz=>UN z) [(0,.d (.atom (.int .u64 x_)))] [Hh (.cut 1)] ?_ λJ1 ap=>?_
 ·rintro jl aa;unfold qd at aa;refine yJ X0 hC yk [1,1] [] [0] (λz:Int=>qb z=some r0) (λz=>UM z) [(0,.d (.atom (.int .u64 jl)))] [Hh (.cut 0)] ?_ λJ2 av=>?_
  ·rintro jk aa;unfold qb at aa;refine yJ X0 hC yk [1,1,1] [] [0] (λz:Int=>qa z=some r0) (λz=>UL z) [(0,.d (.atom (.int .u64 jk)))] [Hh (.cut 0)] ?_ λJ3 ba=>?_
   ·rintro jj aa;unfold qa at aa;refine yJ X0 hC yk [1,1,1,1] [] [0] (λz:Int=>q9 z=some r0) (λz=>UK z) [(0,.d (.atom (.int .u64 jj)))] [Hh (.cut 0)] ?_ λJ4 bw=>?_
    ·rintro ji aa;unfold q9 at aa;refine yJ X0 hC yk [1,1,1,1,1] [] [0] (λz:Int=>uZ z=some r0) (λz=>UJ z) [(0,.d (.atom (.int .u64 ji)))] [Hh (.cut 0)] ?_ λJ5 bz=>?_
     ·rintro jh aa;unfold uZ at aa;refine yJ X0 hC yk [1,1,1,1,1,1] [] [0] (λz:Int=>uY z=some r0) (λz=>UI z) [(0,.d (.atom (.int .u64 jh)))] [Hh (.cut 0)] ?_ λJ6 cw=>?_
      ·rintro ll aa;unfold uY at aa;obtain rfl:=za aa;exact yE ((zbS prog).or X0) hC hE []
      ·exact yB ((ziM prog).or X0) hC cw (IntKind.u64.wrap (jh+(Int.fdiv jh (2 ^ 32)))) aa []
     ·exact yB ((ziM prog).or X0) hC bz (IntKind.u64.wrap (ji+(Int.fdiv ji (2 ^ 16)))) aa []
    ·exact yB ((ziM prog).or X0) hC bw (IntKind.u64.wrap (jj+(Int.fdiv jj (2 ^ 8)))) aa []
   ·exact yB ((zbS prog).or ((ziM prog).or X0)) hC ba (z56 .u64 (IntKind.u64.wrap ((Int.fdiv jk (2 ^ 4))+jk)) 1085102592571150095) aa []
  ·exact yB ((zbS prog).or ((zbS prog).or ((ziM prog).or X0))) hC av (IntKind.u64.wrap ((z56 .u64 (Int.fdiv jl (2 ^ 2)) 3689348814741910323)+(z56 .u64 jl 3689348814741910323))) aa []
 ·exact yB ((zbS prog).or ((zbS prog).or ((ziM prog).or X0))) hC ap (IntKind.u64.wrap ((z56 .u64 (Int.fdiv x_ (2 ^ 1)) 6148914691236517205)+(z56 .u64 x_ 6148914691236517205))) aa []
def Ki:Code:=(Tryz.f46.body).getD .skip
def jS:zI:=spF (α:=Int) (ρ:=Int) 46 (λx=>[(eI .u64) x]) (λr=>nF r) (λx=>wp x) [] (WJ)
theorem KB (hC:zy prog ctr)(h1Q:ctr.Has uS):jS.Ok prog:=by refine zx ?_;rintro x_ r0 aa;try unfold wp at aa;refine yO true [(2,none)] Ki 8 func46 λE hE=>?_;obtain⟨r_,h0,aa⟩:=zb aa;obtain rfl:=za aa;exact yE X0 hC hE [qF,Hc h1Q (x:=x_) h0 (loC (eI .u64) x_ <| loN)]
def Vo:Code:=(f109.body).getD .skip
def vd:zI:=spF (α:=Int) (ρ:=Int) 109 (λx=>[(eI .u64) x]) (λr=>nF r) (λx=>xE x) [] (WJ)
theorem Vz (hC:zy prog ctr):vd.Ok prog:=by
 refine zx ?_;rintro x_ r0 aa;try unfold xE at aa;refine yO true [(2,none)] Vo 14 func109 λE hE=>?_;rcases zB aa with⟨c0,aa⟩|⟨c0,aa⟩
 ·obtain rfl:=za aa;exact yE X0 hC hE [Hq c0]
 ·obtain⟨cell,h0,aa⟩:=zb aa;obtain rfl:=za aa;exact yE ((ziM prog).or ((zbS prog).or X0)) hC hE [Hq c0,Hs (iM (eI .u8) h0),Hn (Kc (by kernel_rfl) zkj (i0 h0):XC yp 162 ((zkj.l).map (eI .u8)) (Int.fdiv (IntKind.u64.wrap ((z56 .u64 x_ (IntKind.u64.wrap (0 - x_)))*285870213051353865)) (2 ^ 58))=true)]
def Q5:Code:=(f77.body).getD .skip
def vV:zI:=spF (α:=Int) (ρ:=Int) 77 (λx=>[(eI .u64) x]) (λr=>nF r) (λx=>vj x) [] (WJ)
theorem Qw (hC:zy prog ctr)(h1R:ctr.Has vd):vV.Ok prog:=by refine zx ?_;rintro x_ r0 aa;try unfold vj at aa;refine yO true [(2,none)] Q5 8 func77 λE hE=>?_;obtain⟨r_,h0,aa⟩:=zb aa;obtain rfl:=za aa;exact yE X0 hC hE [qF,Hc h1R (x:=x_) h0 (loC (eI .u64) x_ <| loN)]
def z6R:Code:=(Tryz.f47.body).getD .skip
def VT:zI:=spF (α:=Int×Int) (ρ:=Bool) 47 (λx=>[(eI .u64) x.1,(eI .u64) x.2]) (λr=>eB r) (λx=>WA x.1 x.2) [] (Vk)
theorem z7x (hC:zy prog ctr)(h1S:ctr.Has vV):VT.Ok prog:=by refine zx ?_;rintro⟨a_,b_⟩ r0 aa;try unfold WA at aa;refine yO true [(4,none)] z6R 13 func47 λE hE=>?_;obtain⟨r_,h0,aa⟩:=zb aa;obtain⟨g0,aa⟩:=gdE aa;obtain rfl:=za aa;exact yE ((zbS prog).or ((zle prog).or ((zbS prog).or X0))) hC hE [Hc h1S (x:=ziL .u64 a_ b_) h0 (loC (eI .u64) (ziL .u64 a_ b_) <| loN),Hn g0]
def Uz:Code:=(Tryz.f48.body).getD .skip
def yR:zI:=spR (α:=List (List Int)) (ρ:=List (List Int)) 48 (λx=>[(eOs 1 false F2_) x]) (λr=>(eOs 1 true F2_) r) (λx=>xO x) [true] (WJ)
theorem Us:∀x r,(λx=>xO x) x=some r->(Jn.add yR).run 48 ((Jn.add yR).norm 48 ((λx=>[(eOs 1 false F2_) x]) x))=some ((λr=>(eOs 1 true F2_) r) r):=λx r h=>zmE h rfl
theorem Uu:(Jn.add yR).lend 48=none/\(Jn.add yR).gives 48=[true]:=zf6
theorem UT (hC:zy prog ctr):yR.Ok prog:=by refine z9S ?_;rintro s_ r0 aa;try unfold xO at aa;refine yO true [(2,none)] Uz 9 func48 λE hE=>?_;obtain rfl:=za aa;exact yE ((xCl zq 8).or X0) hC hE [Ha (lnM F2_ s_),Ha (lnM F2_ s_),Hn (pY _:(0:Int)<=((s_.length:Nat):Int)),Hn (pY _:(0:Int)<=((s_.length:Nat):Int)),Hn (clB F2_ s_),Ha (clE 1 F2_ s_)]
def yg:Code:=(f17.body).getD .skip
def Y8:zI:=spF (α:=z6) (ρ:=List (List Int)×Int) 17 (λx=>[zD x]) (λr=>.tup [F9_ r.1,nF r.2]) (λx=>uq x) [] (WJ)
abbrev z20 (out:List (List Int)):List (Nat×T):=[(13,.own (eOs 1 false F2_ out))]
abbrev z1Z (r_:List (List Int)×Int)(dh:Int)(gb:Int)(az:List (List Int)):List (Nat×T):=[(7,.d (.atom (.int .u64 dh))),(13,.own (eOs 1 false F2_ az)),(76,.d (eSl 1 true F2_ r_.1)),(77,.d (I ((r_.1.length:Nat):Int))),(78,.d (I gb))]
abbrev z1V (r_:List (List Int)×Int)(dh:Int)(ai:List (List Int))(gb:Int):List (Nat×T):=[(7,.d (.atom (.int .u64 dh))),(13,.own (eOs 1 false F2_ ai)),(76,.d (eSl 1 true F2_ r_.1)),(77,.d (I ((r_.1.length:Nat):Int))),(78,.d (I gb))]
abbrev z21 (r_:List (List Int)×Int)(dh:Int):List (Nat×T):=[(4,.d (eSl 1 true F2_ r_.1)),(7,.d (.atom (.int .u64 dh)))]
abbrev z1Y (r_:List (List Int)×Int)(ah:List Int)(bl:Int)(fj:Int):List (Nat×T):=[(4,.d (eSl 1 true F2_ r_.1)),(6,.d (eSl 1 false (eI .u64) ah)),(7,.d (.atom (.int .u64 fj))),(36,.d (.atom (.int .u64 (z3w .u64 1 ((r_.1.length:Nat):Int))))),(37,.d (.atom (.int .u64 bl)))]
abbrev z1W (r_:List (List Int)×Int)(ah:List Int)(bl:Int)(ax:Int)(bm:Int)(ir:Bool):List (Nat×T):=[(4,.d (eSl 1 true F2_ r_.1)),(6,.d (eSl 1 false (eI .u64) ah)),(8,.d (.atom (.int .u64 bl))),(36,.d (.atom (.int .u64 (z3w .u64 1 ((r_.1.length:Nat):Int))))),(37,.d (.atom (.int .u64 bl))),(48,.d (I ax)),(49,.d (I bm)),(50,.d (B (ax==bm))),(51,.d (B (ax==bm))),(61,.d (B ir))]
abbrev z1T (r_:List (List Int)×Int)(ah:List Int)(au:Int)(bl:Int)(ax:Int)(bm:Int)(ir:Bool)(j6:Int):List (Nat×T):=[(4,.d (eSl 1 true F2_ r_.1)),(6,.d (eSl 1 false (eI .u64) ah)),(7,.d (.atom (.int .u64 au))),(8,.d (.atom (.int .u64 bl))),(36,.d (.atom (.int .u64 (z3w .u64 1 ((r_.1.length:Nat):Int))))),(37,.d (.atom (.int .u64 bl))),(48,.d (I ax)),(49,.d (I bm)),(50,.d (B (ax==bm))),(51,.d (B (ax==bm))),(61,.d (B ir)),(63,.d (eSl 1 false (eI .u64) ah)),(64,.d (I ((ah.length:Nat):Int))),(65,.d (I j6))]
abbrev z1X (r_:List (List Int)×Int)(ah:List Int)(au:Int)(bl:Int)(ax:Int)(bm:Int)(ir:Bool):List (Nat×T):=[(4,.d (eSl 1 true F2_ r_.1)),(6,.d (eSl 1 false (eI .u64) ah)),(7,.d (.atom (.int .u64 au))),(8,.d (.atom (.int .u64 bl))),(36,.d (.atom (.int .u64 (z3w .u64 1 ((r_.1.length:Nat):Int))))),(37,.d (.atom (.int .u64 bl))),(48,.d (I ax)),(49,.d (I bm)),(50,.d (B (ax==bm))),(51,.d (B (ax==bm))),(61,.d (B ir))]
abbrev z1U (r_:List (List Int)×Int)(ah:List Int)(au:Int)(bl:Int):List (Nat×T):=[(4,.d (eSl 1 true F2_ r_.1)),(6,.d (eSl 1 false (eI .u64) ah)),(7,.d (.atom (.int .u64 au))),(36,.d (.atom (.int .u64 (z3w .u64 1 ((r_.1.length:Nat):Int))))),(37,.d (.atom (.int .u64 bl)))]
theorem z5P (hC:zy prog ctr)(h0w:ctr.Has Vb)(h1T:ctr.Has Yq)(h0K:ctr.Has jS)(h1U:ctr.Has VT):Y8.Ok prog:=by
 refine zx ?_;rintro m_ r0 aa;try unfold uq at aa;refine yO false [(2,none),(3,none)] yg 95 func17 λE hE=>?_;refine yA X0 hC yg [1] [] [(1,.own (.box (zD m_)))] [] ?_;refine zcW (c':=(sub [1,0] yg)) (by kernel_rfl) (zjH _) ?_
 obtain⟨r_,h0,aa⟩:=zb aa;let Z0:List HO:=[Hc h0w (x:=m_) h0 (loC zD m_ <| loN)];rcases zB aa with⟨c0,aa⟩|⟨c0,aa⟩
 ·obtain rfl:=za aa;exact yEx X0 hC hE (Z0++[Hq c0,Hm (shM F6_ F6_ [])]) (.tup [eSl 1 true F2_ [],I r_.2]) (show LeV (.tup [eSl 1 true F2_ [],I r_.2]) (.tup [eSl 1 true F2_ ([]:List (List Int)),I r_.2]) from inferInstance)
 ·let Z1:List HO:=(Z0++[Hq c0,Ha (lnM F2_ r_.1)]);rcases zB aa with⟨c1,aa⟩|⟨c1,aa⟩
  ·obtain rfl:=za aa;exact yEx X0 hC hE (Z1++[Hq c1,Hm (shM F6_ F6_ [])]) (.tup [eSl 1 true F2_ [],I 3]) (show LeV (.tup [eSl 1 true F2_ [],I 3]) (.tup [eSl 1 true F2_ ([]:List (List Int)),I 3]) from inferInstance)
  ·obtain⟨ah,h1,aa⟩:=zb aa;obtain⟨g0,aa⟩:=gdE aa;refine yJ ((zlf prog).or X0) hC yg [1,0,1,1,1,1,1,1] [] [4,7] (λz:Int=>Ym r_ z=some r0) (λz=>z21 r_ z) [(4,.d (eSl 1 true F2_ r_.1)),(6,.d (eSl 1 false (eI .u64) ah)),(7,.d (.atom (.int .u64 (IntKind.u64.wrap ((z3w .u64 1 ((r_.1.length:Nat):Int)) - 1)))))] (Z1++[Hq c1,Hc h1T (x:=(m_,r_.1)) h1 (loC zD m_ <| loC F9_ r_.1 <| loN),Ha (lnM F2_ r_.1),Hn g0,Hh (.cut 1)]) ?_ λJ1 ap=>?_
   ·rintro dh aa;unfold Ym at aa;refine yJ X0 hC yg [1,0,1,1,1,1,1,1,1,1] [] [13] (λz:List (List Int)=>Yl z=some r0) (λz=>z20 z) [(4,.d (eSl 1 true F2_ r_.1)),(7,.d (.atom (.int .u64 dh))),(13,.own (eOs 1 true F6_ []))] [Hh (.cut 1)] ?_ λJ2 av=>?_
    ·rintro out aa;unfold Yl at aa;obtain⟨al,h2,aa⟩:=zb aa;obtain rfl:=za aa;exact yE ((z3n zq (UT hC) 94).or X0) hC hE [Hh (.g [true]),Hn Uu,Hx (.a ((eOs 1 true F2_) al)) (Us out _ h2),Hm (shM F2_ F2_ al)]
    ·obtain⟨t3,ht3,aa⟩:=zb aa;refine yLx X0 hC yg [1,0,1,1,1,1,1,1,1,1,2,1,0] [J2] (λs=>wa r_ dh s.1 s.2) (λx=>z1V r_ dh x.1 x.2) (([]:List (List Int)),0) ht3 [(7,.d (.atom (.int .u64 dh))),(13,.own (eOs 1 true F2_ [])),(76,.d (eSl 1 true F2_ r_.1)),(77,.d (I ((r_.1.length:Nat):Int))),(78,.d (I 0))] inferInstance [Ha (lnM F2_ r_.1)] ?_;rintro⟨ai,gb⟩ m3 ar ae hl1 J3 ba;try unfold wa at ae;rcases zB ae with⟨c2,ae⟩|⟨c2,ae⟩
     ·refine yJ X0 hC yg [1,0,1,1,1,1,1,1,1,1,2,1,0,0,1,1] [J2,J3] [7,13,76,77,78] (λz:List (List Int)=>jC gb z=some ar) (λz=>z1Z r_ dh gb z) [(7,.d (.atom (.int .u64 dh))),(13,.own (eOs 1 false F2_ ai)),(76,.d (eSl 1 true F2_ r_.1)),(77,.d (I ((r_.1.length:Nat):Int))),(78,.d (I gb))] [Hq c2,Hh (.cut 0)] ?_ λJ4 bw=>?_
      ·rintro az ae;unfold jC at ae;obtain rfl:=za ae;exact yB X0 hC ba (az,w64 (gb+1)) hl1 []
      ·obtain⟨u_,h3,ae⟩:=zb ae;obtain⟨g1,ae⟩:=gdE ae;let Z2:List HO:=[Hi F2_ h3,Hn g1];rcases zB ae with⟨c3,ae⟩|⟨c3,ae⟩
       ·obtain⟨g2,ae⟩:=gdE ae;exact yB ((zbS prog).or ((zle prog).or X0)) hC bw (ai++([u_]:List (List Int))) ae (Z2++[Hq c3,Hq (dM F2_ ([u_]:List (List Int))),Hn (dM F2_ ([u_]:List (List Int))),Hn (aL F2_ F2_ g2),Hl (aM F2_ ai ([u_]:List (List Int)))])
       ·exact yB ((zbS prog).or ((zle prog).or X0)) hC bw ai ae (Z2++[Hq c3])
     ·obtain rfl:=za ae;obtain rfl:=hl1;exact yB X0 hC av ai aa [Hq c2]
   ·obtain⟨g3,aa⟩:=gdE aa;obtain⟨t5,ht5,aa⟩:=zb aa;refine yL ((zlf prog).or X0) hC yg [1,0,1,1,1,1,1,1,2,1,0] [J1] (λs=>xK r_ ah s.1 s.2) (λx=>z1U r_ ah x.1 x.2) (IntKind.u64.wrap ((z3w .u64 1 ((r_.1.length:Nat):Int)) - 1),0) ht5  [Ha (lnM F2_ r_.1),Hn g3] ?_;rintro⟨au,bl⟩ m5 ar ae hl1 J5 bz;try unfold xK at ae;rcases zB ae with⟨c4,ae⟩|⟨c4,ae⟩
    ·refine yJ X0 hC yg [1,0,1,1,1,1,1,1,2,1,0,0,1,1] [J1,J5] [4,6,7,36,37] (λz:Int=>yx bl z=some ar) (λz=>z1Y r_ ah bl z) [(4,.d (eSl 1 true F2_ r_.1)),(6,.d (eSl 1 false (eI .u64) ah)),(7,.d (.atom (.int .u64 au))),(36,.d (.atom (.int .u64 (z3w .u64 1 ((r_.1.length:Nat):Int))))),(37,.d (.atom (.int .u64 bl)))] [Hq c4,Hh (.cut 0)] ?_ λJ6 cw=>?_
     ·rintro fj ae;unfold yx at ae;obtain rfl:=za ae;exact yB X0 hC bz (fj,IntKind.u64.wrap (bl+1)) hl1 []
     ·obtain⟨ax,h4,ae⟩:=zb ae;obtain⟨bm,h5,ae⟩:=zb ae;refine yJ X0 hC yg [1,0,1,1,1,1,1,1,2,1,0,0,1,1,2,0,1,1] [J1,J5,J6] [4,6,7,8,36,37,48,49,50,51,61] (λz:Bool=>wW ah au bl z=some ar) (λz=>z1X r_ ah au bl ax bm z) [(4,.d (eSl 1 true F2_ r_.1)),(6,.d (eSl 1 false (eI .u64) ah)),(7,.d (.atom (.int .u64 au))),(8,.d (.atom (.int .u64 bl))),(9,.d (I ax)),(10,.d (I bm)),(36,.d (.atom (.int .u64 (z3w .u64 1 ((r_.1.length:Nat):Int))))),(37,.d (.atom (.int .u64 bl)))] [Hc h0K (x:=bl) h4 (loC (eI .u64) bl <| loN),Hc h0K (x:=au) h5 (loC (eI .u64) au <| loN),Hh (.cut 0)] ?_ λJ7 hJ7=>?_
      ·rintro ir ae;unfold wW at ae;refine yJ X0 hC yg [1,0,1,1,1,1,1,1,2,1,0,0,1,1,2,0,1,1,1] [J1,J5,J6] [4,6,8,36,37,48,49,50,51,61] (λz:Unit=>Yk bl=some ar) (λz=>z1W r_ ah bl ax bm ir) [(4,.d (eSl 1 true F2_ r_.1)),(6,.d (eSl 1 false (eI .u64) ah)),(7,.d (.atom (.int .u64 au))),(8,.d (.atom (.int .u64 bl))),(36,.d (.atom (.int .u64 (z3w .u64 1 ((r_.1.length:Nat):Int))))),(37,.d (.atom (.int .u64 bl))),(48,.d (I ax)),(49,.d (I bm)),(50,.d (B (ax==bm))),(51,.d (B (ax==bm))),(61,.d (B ir))] [Hh (.cut 0)] ?_ λJ8 kb=>?_
       ·rintro⟨⟩ ae;unfold Yk at ae;exact yB X0 hC cw bl ae []
       ·obtain⟨t9,ht9,ae⟩:=zb ae;refine yL X0 hC yg [1,0,1,1,1,1,1,1,2,1,0,0,1,1,2,0,1,1,1,2,1,0] [J1,J5,J6,J8] (λs=>u6 ah au bl s) (λx=>z1T r_ ah au bl ax bm ir x) 0 ht9  [Ha (lnM (eI .u64) ah)] ?_;rintro j6 m9 ck aj hl2 J9 kw;try unfold u6 at aj;rcases zB aj with⟨c5,aj⟩|⟨c5,aj⟩
        ·obtain⟨cm,h6,aj⟩:=zb aj;rcases zB aj with⟨c6,aj⟩|⟨c6,aj⟩
         ·obtain rfl:=za aj;obtain rfl:=hl2;exact yB ((zbS prog).or X0) hC cw au ae [Hq c5,Hi (eI .u64) h6,Hq c6]
         ·obtain rfl:=za aj;exact yB ((zbS prog).or X0) hC kw (w64 (j6+1)) hl2 [Hq c5,Hi (eI .u64) h6,Hq c6]
        ·obtain rfl:=za aj;obtain rfl:=hl2;exact yB X0 hC kb () ae [Hq c5]
      ·rcases zB ae with⟨c7,ae⟩|⟨c7,ae⟩
       ·exact yB X0 hC cw au ae (rpN 6 (Hq c7) [qT])
       ·let Z3:List HO:=(rpN 4 (Hq c7) []);rcases zB ae with⟨c8,ae⟩|⟨c8,ae⟩
        ·let Z4:List HO:=(Z3++(rpN 4 (Hq c8) []));rcases zB ae with⟨c9,ae⟩|⟨c9,ae⟩
         ·exact yB X0 hC cw au ae (Z4++(rpN 4 (Hq c9) [Hq c8,Hq c9,Hq c7,Hq c8,Hq c7,qT]))
         ·obtain⟨ct,h7,ae⟩:=zb ae;let Z5:List HO:=(Z4++[Hq c9,Hq c9,Hq c9,Hc h1U (x:=(bl,au)) h7 (loC (eI .u64) bl <| loC (eI .u64) au <| loN),Hq c9,Hq c8,Hq c9,Hq c7,Hq c8,Hq c7]);rcases zB ae with⟨c10,ae⟩|⟨c10,ae⟩
          ·exact yB X0 hC cw au ae (Z5++[Hq c10])
          ·exact yB X0 hC hJ7 (!ct) ae (Z5++[Hq c10])
        ·exact yB X0 hC hJ7 false ae (Z3++(rpN 5 (Hq c8) [Hq c7,Hq c8,Hq c7,qF]))
    ·obtain rfl:=za ae;obtain rfl:=hl1;exact yB X0 hC ap au aa [Hq c4]
def z01:Code:=(f55.body).getD .skip
def Qd:zI:=spF (α:=z6×Int×List Int) (ρ:=List Int) 55 (λx=>[zD x.1,nF x.2.1,F6_ x.2.2]) (λr=>F5_ r) (λx=>Uk x.1 x.2.1 x.2.2) [] (zcH)
abbrev z7a (out:List Int):List (Nat×T):=[(7,.own (eOs 1 false nF out))]
abbrev z79 (m_:z6)(w_:List Int)(a6:Int)(ai:List Int)(k_:Int):List (Nat×T):=[(1,.d (I a6)),(2,.d (eSl 1 false nF w_)),(3,.own (.box (zD m_))),(7,.own (eOs 1 false nF ai)),(8,.d (I k_))]
theorem zb4 (hC:zy prog ctr)(h0d:ctr.Has YP):Qd.Ok prog:=by
 refine zx ?_;rintro⟨m_,s_,w_⟩ r0 aa;try unfold Uk at aa;refine yO true [(6,none)] z01 31 func55 λE hE=>?_;refine yJ X0 hC z01 [1,1] [] [7] (λz:List Int=>Qn z=some r0) (λz=>z7a z) [(1,.d (I s_)),(2,.d (eSl 1 false nF w_)),(3,.own (.box (zD m_))),(7,.own (eOs 1 true nF []))] [Hh (.cut 2)] ?_ λJ1 ap=>?_
 ·rintro out aa;unfold Qn at aa;obtain rfl:=za aa;exact yE X0 hC hE []
 ·obtain⟨t2,ht2,aa⟩:=zb aa;refine yLx X0 hC z01 [1,1,2,1,0] [J1] (λs=>Wv m_ w_ s.1 s.2.1 s.2.2) (λx=>z79 m_ w_ x.1 x.2.1 x.2.2) (s_,([]:List Int),0) ht2 [(1,.d (I s_)),(2,.d (eSl 1 false nF w_)),(3,.own (.box (zD m_))),(7,.own (eOs 1 true nF [])),(8,.d (I 0))] inferInstance [] ?_;rintro⟨a6,ai,k_⟩ m2 ar ae hl1 J2 av;try unfold Wv at ae;rcases zB ae with⟨c0,ae⟩|⟨c0,ae⟩
  ·obtain⟨d8,h0,ae⟩:=zb ae;obtain⟨r_,h1,ae⟩:=zb ae;obtain⟨g0,ae⟩:=gdE ae;obtain rfl:=za ae;exact yB X0 hC av (r_.To,(ai++([r_.Out]:List Int)),w64 (k_+1)) hl1 [Ha (lnM nF w_),Hq c0,Hi nF h0,Hc h0d (x:=(m_,a6,d8)) h1 (loC zD m_ <| loC nF a6 <| loC nF d8 <| loN),Hq (dM nF ([r_.Out]:List Int)),Hn (dM nF ([r_.Out]:List Int)),Hn (aL nF nF g0),Hl (aM nF ai ([r_.Out]:List Int))]
  ·obtain rfl:=za ae;obtain rfl:=hl1;exact yB X0 hC ap ai aa [Ha (lnM nF w_),Hq c0]
def V4:Code:=(f152.body).getD .skip
def WT:zI:=spF (α:=List Int×List Int) (ρ:=Int) 152 (λx=>[F6_ x.1,F6_ x.2]) (λr=>nF r) (λx=>Vd x.1 x.2) [] (Vk)
abbrev z1S:List (Nat×T):=[]
abbrev z1R (a_:List Int)(b_:List Int)(i_:Int):List (Nat×T):=[(0,.d (eSl 1 false nF a_)),(1,.d (eSl 1 false nF b_)),(5,.d (I i_))]
theorem z5L (hC:zy prog ctr):WT.Ok prog:=by
 refine zx ?_;rintro⟨a_,b_⟩ r0 aa;try unfold Vd at aa;refine yO true [(4,none)] V4 40 func152 λE hE=>?_
 let Z0:List HO:=[Ha (lnM nF a_),Ha (lnM nF b_)];rcases zB aa with⟨c0,aa⟩|⟨c0,aa⟩
 ·obtain rfl:=za aa;exact yE X0 hC hE (Z0++[Hq c0])
 ·let Z1:List HO:=(Z0++[Hq c0,Ha (lnM nF a_),Ha (lnM nF b_)]);rcases zB aa with⟨c1,aa⟩|⟨c1,aa⟩
  ·obtain rfl:=za aa;exact yE X0 hC hE (Z1++[Hq c1])
  ·refine yJ X0 hC V4 [1,1,1] [] [] (λz:Unit=>Yh=some r0) (λz=>z1S) [(0,.d (eSl 1 false nF a_)),(1,.d (eSl 1 false nF b_))] (Z1++[Hq c1,Hh (.cut 0)]) ?_ λJ1 ap=>?_
   ·rintro⟨⟩ aa;unfold Yh at aa;obtain rfl:=za aa;exact yE X0 hC hE []
   ·obtain⟨t2,ht2,aa⟩:=zb aa;refine yL X0 hC V4 [1,1,1,2,1,0] [J1] (λs=>vZ a_ b_ s) (λx=>z1R a_ b_ x) 0 ht2  [] ?_;rintro i_ m2 ar ae hl1 J2 av;try unfold vZ at ae;rcases zB ae with⟨c2,ae⟩|⟨c2,ae⟩
    ·obtain⟨dl,h0,ae⟩:=zb ae;obtain⟨dm,h1,ae⟩:=zb ae;let Z2:List HO:=[Ha (lnM nF a_),Hq c2,Hi nF h0,Hi nF h1];rcases zB ae with⟨c3,ae⟩|⟨c3,ae⟩
     ·obtain rfl:=za ae;obtain rfl:=hl1;obtain rfl:=za aa;exact yE X0 hC hE (Z2++[Hq c3])
     ·obtain⟨gn,h2,ae⟩:=zb ae;obtain⟨gp,h3,ae⟩:=zb ae;let Z3:List HO:=(Z2++[Hq c3,Hi nF h2,Hi nF h3]);rcases zB ae with⟨c4,ae⟩|⟨c4,ae⟩
      ·obtain rfl:=za ae;obtain rfl:=hl1;obtain rfl:=za aa;exact yE X0 hC hE (Z3++[Hq c4])
      ·obtain rfl:=za ae;exact yB X0 hC av (w64 (i_+1)) hl1 (Z3++[Hq c4])
    ·obtain rfl:=za ae;obtain rfl:=hl1;exact yB X0 hC ap () aa [Ha (lnM nF a_),Hq c2]
def z9f:Code:=(f135.body).getD .skip
def JF:zI:=spF (α:=List Int×List Int) (ρ:=Bool) 135 (λx=>[F6_ x.1,F6_ x.2]) (λr=>eB r) (λx=>Je x.1 x.2) [] (Vk)
theorem z9C (hC:zy prog ctr)(h1V:ctr.Has WT):JF.Ok prog:=by refine zx ?_;rintro⟨a_,b_⟩ r0 aa;try unfold Je at aa;refine yO true [(4,none)] z9f 9 func135 λE hE=>?_;obtain⟨r_,h0,aa⟩:=zb aa;obtain rfl:=za aa;exact yE X0 hC hE [Hc h1V (x:=(a_,b_)) h0 (loC F6_ a_ <| loC F6_ b_ <| loN)]
def z6K:Code:=(f107.body).getD .skip
def VJ:zI:=spF (α:=z6×List Int×Int×Int) (ρ:=Int) 107 (λx=>[zD x.1,F6_ x.2.1,nF x.2.2.1,nF x.2.2.2]) (λr=>nF r) (λx=>Ws x.1 x.2.1 x.2.2.1 x.2.2.2) [] (zrs)
theorem z7n (hC:zy prog ctr)(h0l:ctr.Has Qd)(h0L:ctr.Has JF):VJ.Ok prog:=by
 refine zx ?_;rintro⟨m_,w_,s_,t_⟩ r0 aa;try unfold Ws at aa;refine yO true [(8,none)] z6K 18 func107 λE hE=>?_;obtain⟨r_,h0,aa⟩:=zb aa;obtain⟨ah,h1,aa⟩:=zb aa;obtain⟨al,h2,aa⟩:=zb aa
 let Z0:List HO:=[Hc h0l (x:=(m_,s_,w_)) h0 (loC zD m_ <| loC nF s_ <| loC F6_ w_ <| loN),Hc h0l (x:=(m_,t_,w_)) h1 (loC zD m_ <| loC nF t_ <| loC F6_ w_ <| loN),Hg (z26 h0L),Hm (shM nF nF r_),Hm (shM nF nF ah),Hs (z27 h0L (x:=(r_,ah)) h2 (loC F6_ r_ <| loC F6_ ah <| loN))];rcases zB aa with⟨c0,aa⟩|⟨c0,aa⟩
 ·obtain rfl:=za aa;exact yE X0 hC hE (Z0++[Hq c0])
 ·obtain rfl:=za aa;exact yE X0 hC hE (Z0++[Hq c0])
def K2:Code:=(f106.body).getD .skip
def JC:zI:=spF (α:=List Int×Int) (ρ:=List Int) 106 (λx=>[F6_ x.1,nF x.2]) (λr=>F5_ r) (λx=>z0p x.1 x.2) [] (Vk)
abbrev z5c (out:List Int):List (Nat×T):=[(5,.own (eOs 1 false nF out))]
abbrev z5b (inputs:Int)(ai:List Int)(k_:Int):List (Nat×T):=[(1,.d (I inputs)),(5,.own (eOs 1 false nF ai)),(6,.d (I k_))]
theorem z9y (hC:zy prog ctr):JC.Ok prog:=by
 refine zx ?_;rintro⟨w_,inputs⟩ r0 aa;try unfold z0p at aa;refine yO true [(4,none)] K2 37 func106 λE hE=>?_;obtain⟨g0,aa⟩:=gdE aa;refine yJ X0 hC K2 [1,1] [] [5] (λz:List Int=>JO z=some r0) (λz=>z5c z) [(1,.d (I inputs)),(5,.own (eOs 1 false nF w_))] [Hn (dM nF w_),Hn (aL nF nF g0),Hl (aM0 nF w_),Hh (.cut 0)] ?_ λJ1 ap=>?_
 ·rintro out aa;unfold JO at aa;obtain⟨g1,aa⟩:=gdE aa;obtain rfl:=za aa;exact yE X0 hC hE [Hq (dM nF ([0]:List Int)),Hn (dM nF ([0]:List Int)),Hn (aL nF nF g1),Hl (aM nF out ([0]:List Int))]
 ·obtain⟨t2,ht2,aa⟩:=zb aa;refine yL X0 hC K2 [1,1,2,1,0] [J1] (λs=>JN inputs s.1 s.2) (λx=>z5b inputs x.1 x.2) (w_,w64 (((w_.length:Nat):Int) - 1)) ht2  [Ha (lnM nF w_)] ?_;rintro⟨ai,k_⟩ m2 ar ae hl1 J2 av;try unfold JN at ae;rcases zB ae with⟨c0,ae⟩|⟨c0,ae⟩
  ·obtain⟨bq,h0,ae⟩:=zb ae;let Z0:List HO:=[Hq c0,Hn (iL nF h0),Hs (iM nF h0)];rcases zB ae with⟨c1,ae⟩|⟨c1,ae⟩
   ·obtain⟨dy,h1,ae⟩:=zb ae;obtain⟨jv,h2,ae⟩:=zb ae;obtain rfl:=za ae;obtain rfl:=hl1;obtain rfl:=za aa;exact yE X0 hC hE (Z0++[Hq c1,Hn (iL nF h1),Hs (iM nF h1),Hn (iL nF h2),Hs (iM nF h2),Hs (iM nF h2),Hl (sM nF ai k_ (w64 (dy+1)))])
   ·obtain⟨jw,h3,ae⟩:=zb ae;obtain rfl:=za ae;exact yB X0 hC av ((ai.set k_.toNat 0),w64 (k_ - 1)) hl1 (Z0++[Hq c1,Hn (iL nF h3),Hs (iM nF h3),Hs (iM nF h3),Hl (sM nF ai k_ 0)])
  ·obtain rfl:=za ae;obtain rfl:=hl1;exact yB X0 hC ap ai aa [Hq c0]
def XW:Code:=(f74.body).getD .skip
def XK:zI:=spF (α:=z6×Int×Int) (ρ:=List Int×Bool) 74 (λx=>[zD x.1,nF x.2.1,nF x.2.2]) (λr=>.tup [F6_ r.1,eB r.2]) (λx=>ww x.1 x.2.1 x.2.2) [] (zcH)
abbrev z0S:List (Nat×T):=[]
abbrev z0R (m_:z6)(s_:Int)(t_:Int)(w_:List Int):List (Nat×T):=[(1,.d (I s_)),(2,.d (I t_)),(3,.own (.box (zD m_))),(8,.own (eOs 1 false nF w_))]
theorem z4R (hC:zy prog ctr)(h0M:ctr.Has VJ)(h0N:ctr.Has JC):XK.Ok prog:=by
 refine zx ?_;rintro⟨m_,s_,t_⟩ r0 aa;try unfold ww at aa;refine yO false [(6,none),(7,none)] XW 28 func74 λE hE=>?_;refine yJ X0 hC XW [1] [] [] (λz:Unit=>XO=some r0) (λz=>z0S) [(1,.d (I s_)),(2,.d (I t_)),(3,.own (.box (zD m_)))] [Hh (.cut 1)] ?_ λJ1 ap=>?_
 ·rintro⟨⟩ aa;unfold XO at aa;obtain rfl:=za aa;exact yEx X0 hC hE [Hm (shM nF nF [])] (.tup [eSl 1 true nF [],B false]) (show LeV (.tup [eSl 1 true nF [],B false]) (.tup [eSl 1 false nF ([]:List Int),B false]) from inferInstance)
 ·obtain⟨t2,ht2,aa⟩:=zb aa;refine yLx X0 hC XW [1,2,1,0] [J1] (λs=>Zv m_ s_ t_ s) (λx=>z0R m_ s_ t_ x) ([]:List Int) ht2 [(1,.d (I s_)),(2,.d (I t_)),(3,.own (.box (zD m_))),(8,.own (eOs 1 true nF []))] inferInstance [] ?_;rintro w_ m2 ar ae hl1 J2 av;try unfold Zv at ae
  let Z0:List HO:=[Ha (lnM nF w_),Ha (lnM yX m_.Rows)];rcases zB ae with⟨c0,ae⟩|⟨c0,ae⟩
  ·obtain⟨r_,h0,ae⟩:=zb ae;let Z1:List HO:=(Z0++[Hq c0,Hg (z26 h0M),Hm (shM nF nF w_),Hs (z27 h0M (x:=(m_,w_,s_,t_)) h0 (loC zD m_ <| loC F6_ w_ <| loC nF s_ <| loC nF t_ <| loN))]);rcases zB ae with⟨c1,ae⟩|⟨c1,ae⟩
   ·obtain rfl:=za ae;obtain rfl:=hl1;obtain rfl:=za aa;exact yE X0 hC hE (Z1++[Hq c1,Hm (shM nF nF w_)])
   ·obtain⟨ah,h1,ae⟩:=zb ae;obtain rfl:=za ae;exact yB X0 hC av ah hl1 (Z1++[Hq c1,Hg (z26 h0N),Hm (shM nF nF w_),Hs (z27 h0N (x:=(w_,m_.Inputs)) h1 (loC F6_ w_ <| loC nF m_.Inputs <| loN)),Hm (shM nF nF w_)])
  ·obtain rfl:=za ae;obtain rfl:=hl1;exact yB X0 hC ap () aa (Z0++[Hq c0])
def V3:Code:=(f65.body).getD .skip
def qR:zI:=spF (α:=List Int×List Int) (ρ:=Int) 65 (λx=>[F6_ x.1,F6_ x.2]) (λr=>nF r) (λx=>ug x.1 x.2) [] (Vk)
abbrev z1D:List (Nat×T):=[]
abbrev z1C (a_:List Int)(b_:List Int)(i_:Int):List (Nat×T):=[(0,.d (eSl 1 false nF a_)),(1,.d (eSl 1 false nF b_)),(5,.d (I i_))]
theorem z5G (hC:zy prog ctr):qR.Ok prog:=by
 refine zx ?_;rintro⟨a_,b_⟩ r0 aa;try unfold ug at aa;refine yO true [(4,none)] V3 40 func65 λE hE=>?_
 let Z0:List HO:=[Ha (lnM nF a_),Ha (lnM nF b_)];rcases zB aa with⟨c0,aa⟩|⟨c0,aa⟩
 ·let Z1:List HO:=(Z0++[Hq c0,Ha (lnM nF a_),Ha (lnM nF b_)]);rcases zB aa with⟨c1,aa⟩|⟨c1,aa⟩
  ·obtain rfl:=za aa;exact yE X0 hC hE (Z1++[Hq c1])
  ·obtain rfl:=za aa;exact yE X0 hC hE (Z1++[Hq c1])
 ·refine yJ X0 hC V3 [1,1] [] [] (λz:Unit=>WY=some r0) (λz=>z1D) [(0,.d (eSl 1 false nF a_)),(1,.d (eSl 1 false nF b_))] (Z0++[Hq c0,Hh (.cut 0)]) ?_ λJ1 ap=>?_
  ·rintro⟨⟩ aa;unfold WY at aa;obtain rfl:=za aa;exact yE X0 hC hE []
  ·obtain⟨t2,ht2,aa⟩:=zb aa;refine yL X0 hC V3 [1,1,2,1,0] [J1] (λs=>qV a_ b_ s) (λx=>z1C a_ b_ x) 0 ht2  [] ?_;rintro i_ m2 ar ae hl1 J2 av;try unfold qV at ae;rcases zB ae with⟨c2,ae⟩|⟨c2,ae⟩
   ·obtain⟨dl,h0,ae⟩:=zb ae;obtain⟨dm,h1,ae⟩:=zb ae;let Z2:List HO:=[Ha (lnM nF a_),Hq c2,Hi nF h0,Hi nF h1];rcases zB ae with⟨c3,ae⟩|⟨c3,ae⟩
    ·obtain rfl:=za ae;obtain rfl:=hl1;obtain rfl:=za aa;exact yE X0 hC hE (Z2++[Hq c3])
    ·obtain⟨gn,h2,ae⟩:=zb ae;obtain⟨gp,h3,ae⟩:=zb ae;let Z3:List HO:=(Z2++[Hq c3,Hi nF h2,Hi nF h3]);rcases zB ae with⟨c4,ae⟩|⟨c4,ae⟩
     ·obtain rfl:=za ae;obtain rfl:=hl1;obtain rfl:=za aa;exact yE X0 hC hE (Z3++[Hq c4])
     ·obtain rfl:=za ae;exact yB X0 hC av (w64 (i_+1)) hl1 (Z3++[Hq c4])
   ·obtain rfl:=za ae;obtain rfl:=hl1;exact yB X0 hC ap () aa [Ha (lnM nF a_),Hq c2]
def YC:Code:=(f42.body).getD .skip
def KE:zI:=spF (α:=List (List Int)×List Int) (ρ:=List (List Int)) 42 (λx=>[zdu x.1,F6_ x.2]) (λr=>zdu r) (λx=>KN x.1 x.2) [true,false] (Vk)
abbrev z6X (w_:List Int)(cx:Int)(eb:List (List Int)):List (Nat×T):=[(0,.own (eOs 1 false F6_ eb)),(1,.d (eSl 1 false nF w_)),(5,.d (I cx))]
abbrev z6W (w_:List Int)(cx:Int)(gc:List (List Int))(i_:Int):List (Nat×T):=[(0,.own (eOs 1 false F6_ gc)),(1,.d (eSl 1 false nF w_)),(5,.d (I cx)),(8,.d (I i_))]
abbrev z6Y (l_:List (List Int))(w_:List Int)(cx:Int):List (Nat×T):=[(0,.own (eOs 1 false F6_ l_)),(1,.d (eSl 1 false nF w_)),(5,.d (I cx))]
abbrev z6Z (l_:List (List Int))(w_:List Int)(cx:Int):List (Nat×T):=[(0,.own (eOs 1 false F6_ l_)),(1,.d (eSl 1 false nF w_)),(5,.d (I cx))]
abbrev z6V (l_:List (List Int))(w_:List Int)(fp:Int)(gm:Int):List (Nat×T):=[(0,.own (eOs 1 false F6_ l_)),(1,.d (eSl 1 false nF w_)),(5,.d (I fp)),(6,.d (I gm))]
def w5:XH prog:=((Qs zq (.inr 66) [65]).or ((Qs zq (.inl 44) [43]).or X0))
theorem zb2 (hC:zy prog ctr)(h0c:ctr.Has qR):KE.Ok prog:=by
 refine zx ?_;rintro⟨l_,w_⟩ r0 aa;try unfold KN at aa;refine yO true [(4,none)] YC 68 func42 λE hE=>?_;refine yJ w5 hC YC [1,1,1] [] [0,1,5] (λz:Int=>Qh l_ w_ z=some r0) (λz=>z6Z l_ w_ z) [(0,.own (eOs 1 false F6_ l_)),(1,.d (eSl 1 false nF w_)),(5,.d (I 0)),(6,.d (I ((l_.length:Nat):Int)))] [Ha (lnM F6_ l_),Hh (.cut 0)] ?_ λJ1 ap=>?_
 ·rintro cx aa;unfold Qh at aa;refine yJ w5 hC YC [1,1,1,1] [] [0,1,5] (λz:Unit=>Yx l_ w_ cx=some r0) (λz=>z6Y l_ w_ cx) [(0,.own (eOs 1 false F6_ l_)),(1,.d (eSl 1 false nF w_)),(5,.d (I cx))] [Hh (.cut 0)] ?_ λJ2 av=>?_
  ·rintro⟨⟩ aa;unfold Yx at aa;obtain⟨g0,aa⟩:=gdE aa;refine yJ ((xNb zq 43).or w5) hC YC [1,1,1,1,1,1] [] [0,1,5] (λz:List (List Int)=>Qg w_ cx z=some r0) (λz=>z6X w_ cx z) [(0,.own (eOs 1 false F6_ (l_++([[]]:List (List Int))))),(1,.d (eSl 1 false nF w_)),(5,.d (I cx))] [Hm (shM F5_ F6_ ([[]])),Hn (dM F6_ ([[]]:List (List Int))),Hn (aL F6_ F6_ g0),Hl (aM F6_ l_ ([[]]:List (List Int))),Hh (.cut 0)] ?_ λJ3 ba=>?_
   ·rintro eb aa;unfold Qg at aa;obtain⟨g1,aa⟩:=gdE aa;obtain⟨bg,h0,aa⟩:=zb aa;obtain rfl:=za aa;exact yE w5 hC hE [Hn (dM nF w_),Hn (aL nF nF g1),Hl (aM0 nF w_),Hn (iL F6_ h0),Hm (shM nF nF w_),Hs (iM F6_ h0),Hs (iM F6_ h0),Hl (sM F6_ eb cx w_)]
   ·obtain⟨t4,ht4,aa⟩:=zb aa;refine yL w5 hC YC [1,1,1,1,1,1,2,1,0] [J3] (λs=>Wq cx s.1 s.2) (λx=>z6W w_ cx x.1 x.2) ((l_++([[]]:List (List Int))),w64 ((((l_++([[]]:List (List Int))).length:Nat):Int) - 1)) ht4  [Ha (lnM F6_ (l_++([[]]:List (List Int))))] ?_;rintro⟨gc,i_⟩ m4 ar ae hl1 J4 bw;try unfold Wq at ae;rcases zB ae with⟨c0,ae⟩|⟨c0,ae⟩
    ·obtain⟨co,h1,ae⟩:=zb ae;obtain⟨mb,h2,ae⟩:=zb ae;obtain rfl:=za ae;exact yB w5 hC bw ((gc.set i_.toNat co),w64 (i_ - 1)) hl1 [Hq c0,Hn (iL F6_ h1),Hs (iM F6_ h1),Hn (iL F6_ h2),Hs (iM F6_ h2),Hs (iM F6_ h2),Hl (sM F6_ gc i_ co)]
    ·obtain rfl:=za ae;obtain rfl:=hl1;exact yB w5 hC ba gc aa [Hq c0]
  ·let Z0:List HO:=[Ha (lnM F6_ l_)];rcases zB aa with⟨c1,aa⟩|⟨c1,aa⟩
   ·obtain⟨jr,h3,aa⟩:=zb aa;obtain⟨r_,h4,aa⟩:=zb aa;let Z1:List HO:=(Z0++[Hq c1,Hq c1,Hq c1,Hn (iL F6_ h3),Hq c1,Hs (iM F6_ h3),Hq c1,Hq c1,Hc h0c (x:=(jr,w_)) h4 (loC F6_ jr <| loC F6_ w_ <| loN),Hq c1,Hq c1]);rcases zB aa with⟨c2,aa⟩|⟨c2,aa⟩
    ·obtain rfl:=za aa;exact yE w5 hC hE (Z1++[Hq c2])
    ·exact yB w5 hC av () aa (Z1++[Hq c2])
   ·exact yB w5 hC av () aa (Z0++(rpN 8 (Hq c1) [qF]))
 ·obtain⟨t5,ht5,aa⟩:=zb aa;refine yL w5 hC YC [1,1,1,2,0] [J1] (λs=>Wp l_ w_ s.1 s.2) (λx=>z6V l_ w_ x.1 x.2) (0,((l_.length:Nat):Int)) ht5  [] ?_;rintro⟨fp,gm⟩ m5 ar ae hl1 J5 bz;try unfold Wp at ae;rcases zB ae with⟨c3,ae⟩|⟨c3,ae⟩
  ·obtain⟨g2,ae⟩:=gdE ae;obtain⟨js,h5,ae⟩:=zb ae;obtain⟨ah,h6,ae⟩:=zb ae;let Z2:List HO:=[Hq c3,Hn g2,Hn (iL F6_ h5),Hs (iM F6_ h5),Hc h0c (x:=(js,w_)) h6 (loC F6_ js <| loC F6_ w_ <| loN)];rcases zB ae with⟨c4,ae⟩|⟨c4,ae⟩
   ·obtain rfl:=za ae;exact yB w5 hC bz (w64 ((w64 (Int.tdiv (w64 (fp+gm)) 2))+1),gm) hl1 (Z2++[Hq c4])
   ·obtain rfl:=za ae;exact yB w5 hC bz (fp,w64 (Int.tdiv (w64 (fp+gm)) 2)) hl1 (Z2++[Hq c4])
  ·obtain rfl:=za ae;obtain rfl:=hl1;exact yB w5 hC ap fp aa [Hq c3]
def K0:Code:=(Tryz.f15.body).getD .skip
def JB:zI:=spF (α:=List (List Int)) (ρ:=List (List Int)) 15 (λx=>[xy x]) (λr=>zdu r) (λx=>Jc x) [] (WJ)
abbrev z58 (out:List (List Int)):List (Nat×T):=[(3,.own (eOs 1 false F6_ out))]
abbrev z57 (l_:List (List Int))(ai:List (List Int))(i_:Int):List (Nat×T):=[(0,.d (eSl 1 false F6_ l_)),(3,.own (eOs 1 false F6_ ai)),(4,.d (I i_))]
theorem z9w (hC:zy prog ctr)(h1W:ctr.Has KE):JB.Ok prog:=by
 refine zx ?_;rintro l_ r0 aa;try unfold Jc at aa;refine yO true [(2,none)] K0 18 func15 λE hE=>?_;refine yJ X0 hC K0 [1,1] [] [3] (λz:List (List Int)=>JM z=some r0) (λz=>z58 z) [(0,.d (eSl 1 false F6_ l_)),(3,.own (eOs 1 true F6_ []))] [Hh (.cut 2)] ?_ λJ1 ap=>?_
 ·rintro out aa;unfold JM at aa;obtain rfl:=za aa;exact yE X0 hC hE []
 ·obtain⟨t2,ht2,aa⟩:=zb aa;refine yLx X0 hC K0 [1,1,2,1,0] [J1] (λs=>uh l_ s.1 s.2) (λx=>z57 l_ x.1 x.2) (([]:List (List Int)),0) ht2 [(0,.d (eSl 1 false F6_ l_)),(3,.own (eOs 1 true F6_ [])),(4,.d (I 0))] inferInstance [] ?_;rintro⟨ai,i_⟩ m2 ar ae hl1 J2 av;try unfold uh at ae
  let Z0:List HO:=[Ha (lnM F6_ l_)];rcases zB ae with⟨c0,ae⟩|⟨c0,ae⟩
  ·obtain⟨bg,h0,ae⟩:=zb ae;obtain⟨r_,h1,ae⟩:=zb ae;obtain rfl:=za ae;exact yB X0 hC av (r_,w64 (i_+1)) hl1 (Z0++[Hq c0,Hi F6_ h0,Hc h1W (x:=(ai,bg)) h1 (loC zdu ai <| loC F6_ bg <| loN)])
  ·obtain rfl:=za ae;obtain rfl:=hl1;exact yB X0 hC ap ai aa (Z0++[Hq c0])
def jQ:Code:=(f40.body).getD .skip
def QB:zI:=spF (α:=z6×Int) (ρ:=List (List Int)) 40 (λx=>[zD x.1,nF x.2]) (λr=>zdu r) (λx=>Ua x.1 x.2) [] (Vk)
abbrev z41 (out:List (List Int)):List (Nat×T):=[(5,.own (eOs 1 false F6_ out))]
abbrev z40 (m_:z6)(s_:Int)(a_:Int)(az:List (List Int)):List (Nat×T):=[(1,.d (I s_)),(2,.own (.box (zD m_))),(5,.own (eOs 1 false F6_ az)),(6,.d (I a_))]
abbrev z3Z (m_:z6)(s_:Int)(a_:Int)(b_:Int)(gj:List (List Int)):List (Nat×T):=[(1,.d (I s_)),(2,.own (.box (zD m_))),(5,.own (eOs 1 false F6_ gj)),(6,.d (I a_)),(7,.d (I b_))]
abbrev z3X (m_:z6)(s_:Int)(a_:Int)(bv:List (List Int))(b_:Int):List (Nat×T):=[(1,.d (I s_)),(2,.own (.box (zD m_))),(5,.own (eOs 1 false F6_ bv)),(6,.d (I a_)),(7,.d (I b_))]
abbrev z3Y (m_:z6)(s_:Int)(ai:List (List Int))(a_:Int):List (Nat×T):=[(1,.d (I s_)),(2,.own (.box (zD m_))),(5,.own (eOs 1 false F6_ ai)),(6,.d (I a_))]
theorem z8q (hC:zy prog ctr)(h0x:ctr.Has XK)(h0O:ctr.Has JB):QB.Ok prog:=by
 refine zx ?_;rintro⟨m_,s_⟩ r0 aa;try unfold Ua at aa;refine yO true [(4,none)] jQ 51 func40 λE hE=>?_;refine yJ X0 hC jQ [1,1] [] [5] (λz:List (List Int)=>W6 z=some r0) (λz=>z41 z) [(1,.d (I s_)),(2,.own (.box (zD m_))),(5,.own (eOs 1 true F6_ []))] [Hh (.cut 2)] ?_ λJ1 ap=>?_
 ·rintro out aa;unfold W6 at aa;obtain⟨r_,h0,aa⟩:=zb aa;obtain rfl:=za aa;exact yE X0 hC hE [Hg (z26 h0O),Hm (shM F6_ F6_ out),Hs (z27 h0O (x:=out) h0 (loC xy out <| loN)),Hm (shM F6_ F6_ out)]
 ·obtain⟨t2,ht2,aa⟩:=zb aa;refine yLx X0 hC jQ [1,1,2,1,0] [J1] (λs=>W4 m_ s_ s.1 s.2) (λx=>z3Y m_ s_ x.1 x.2) (([]:List (List Int)),0) ht2 [(1,.d (I s_)),(2,.own (.box (zD m_))),(5,.own (eOs 1 true F6_ [])),(6,.d (I 0))] inferInstance [] ?_;rintro⟨ai,a_⟩ m2 ar ae hl1 J2 av;try unfold W4 at ae
  let Z0:List HO:=[Ha (lnM yX m_.Rows)];rcases zB ae with⟨c0,ae⟩|⟨c0,ae⟩
  ·refine yJ X0 hC jQ [1,1,2,1,0,0,1] [J1,J2] [1,2,5,6] (λz:List (List Int)=>W5 a_ z=some ar) (λz=>z40 m_ s_ a_ z) [(1,.d (I s_)),(2,.own (.box (zD m_))),(5,.own (eOs 1 false F6_ ai)),(6,.d (I a_))] (Z0++[Hq c0,Hh (.cut 0)]) ?_ λJ3 ba=>?_
   ·rintro az ae;unfold W5 at ae;obtain rfl:=za ae;exact yB X0 hC av (az,w64 (a_+1)) hl1 []
   ·obtain⟨t4,ht4,ae⟩:=zb ae;refine yL X0 hC jQ [1,1,2,1,0,0,1,2,0,1,0] [J1,J2,J3] (λs=>ZV m_ s_ a_ s.1 s.2) (λx=>z3X m_ s_ a_ x.1 x.2) (ai,w64 (a_+1)) ht4  [] ?_;rintro⟨bv,b_⟩ m4 ck aj hl2 J4 bw;try unfold ZV at aj
    let Z1:List HO:=[Ha (lnM yX m_.Rows)];rcases zB aj with⟨c1,aj⟩|⟨c1,aj⟩
    ·refine yJ X0 hC jQ [1,1,2,1,0,0,1,2,0,1,0,0,1] [J1,J2,J3,J4] [1,2,5,6,7] (λz:List (List Int)=>wv b_ z=some ck) (λz=>z3Z m_ s_ a_ b_ z) [(1,.d (I s_)),(2,.own (.box (zD m_))),(5,.own (eOs 1 false F6_ bv)),(6,.d (I a_)),(7,.d (I b_))] (Z1++[Hq c1,Hh (.cut 0)]) ?_ λJ5 bz=>?_
     ·rintro gj aj;unfold wv at aj;obtain rfl:=za aj;exact yB X0 hC bw (gj,w64 (b_+1)) hl2 []
     ·rcases zB aj with⟨c2,aj⟩|⟨c2,aj⟩
      ·obtain⟨ah,h1,aj⟩:=zb aj;obtain⟨g0,aj⟩:=gdE aj;exact yB X0 hC bz (bv++([ah.1]:List (List Int))) aj (rpN 4 (Hq c2) (rpN 5 qT [Hc h0x (x:=(m_,a_,b_)) h1 (loC zD m_ <| loC nF a_ <| loC nF b_ <| loN),Hq (dM F6_ ([ah.1]:List (List Int))),Hn (dM F6_ ([ah.1]:List (List Int))),Hn (aL F6_ F6_ g0),Hl (aM F6_ bv ([ah.1]:List (List Int)))]))
      ·let Z2:List HO:=(rpN 4 (Hq c2) []);rcases zB aj with⟨c3,aj⟩|⟨c3,aj⟩
       ·obtain⟨al,h2,aj⟩:=zb aj;obtain⟨g1,aj⟩:=gdE aj;exact yB X0 hC bz (bv++([al.1]:List (List Int))) aj (Z2++(rpN 4 (Hq c3) [qT,Hc h0x (x:=(m_,a_,b_)) h2 (loC zD m_ <| loC nF a_ <| loC nF b_ <| loN),Hq (dM F6_ ([al.1]:List (List Int))),Hn (dM F6_ ([al.1]:List (List Int))),Hn (aL F6_ F6_ g1),Hl (aM F6_ bv ([al.1]:List (List Int)))]))
       ·let Z3:List HO:=(Z2++(rpN 4 (Hq c3) []));rcases zB aj with⟨c4,aj⟩|⟨c4,aj⟩
        ·obtain⟨ax,h3,aj⟩:=zb aj;obtain⟨g2,aj⟩:=gdE aj;exact yB X0 hC bz (bv++([ax.1]:List (List Int))) aj (Z3++[Hq c4,Hc h0x (x:=(m_,a_,b_)) h3 (loC zD m_ <| loC nF a_ <| loC nF b_ <| loN),Hq (dM F6_ ([ax.1]:List (List Int))),Hn (dM F6_ ([ax.1]:List (List Int))),Hn (aL F6_ F6_ g2),Hl (aM F6_ bv ([ax.1]:List (List Int)))])
        ·exact yB X0 hC bz bv aj (Z3++[Hq c4])
    ·obtain rfl:=za aj;obtain rfl:=hl2;exact yB X0 hC ba bv ae (Z1++[Hq c1])
  ·obtain rfl:=za ae;obtain rfl:=hl1;exact yB X0 hC ap ai aa (Z0++[Hq c0])
def zaS:Code:=(Tryz.f12.body).getD .skip
def Qc:zI:=spF (α:=z6) (ρ:=List (List Int)) 12 (λx=>[zD x]) (λr=>zdu r) (λx=>Ud x) [] (WJ)
theorem zb1 (hC:zy prog ctr)(h1X:ctr.Has QB):Qc.Ok prog:=by refine zx ?_;rintro m_ r0 aa;try unfold Ud at aa;refine yO true [(2,none)] zaS 5 func12 λE hE=>?_;obtain⟨r_,h0,aa⟩:=zb aa;obtain rfl:=za aa;exact yE X0 hC hE [Hc h1X (x:=(m_,(-1))) h0 (loC zD m_ <| loC nF (-1) <| loN)]
def z52:Code:=(f43.body).getD .skip
def WV:zI:=spF (α:=Unit) (ρ:=z6) 43 (λx=>[]) (λr=>zaX r) (λx=>JS) [] (λ_ _ _=>rfl)
theorem z5O (hC:zy prog ctr):WV.Ok prog:=by refine zx ?_;rintro⟨⟩ r0 aa;try unfold JS at aa;refine yO false [(0,some 30)] z52 12 func43 λE hE=>?_;obtain rfl:=za aa;exact yE X0 hC hE [Hm (shM (eOs 2 true F8_) zs0 ([[(z8.mk 1 0),(z8.mk 0 0)],[(z8.mk 2 0),(z8.mk 1 1)],[(z8.mk 0 1),(z8.mk 2 0)]]))]
def z9h:Code:=(f44.body).getD .skip
def JG:zI:=spF (α:=List (List Int)) (ρ:=List (List Int)) 44 (λx=>[xy x]) (λr=>xy r) (λx=>XR x) [] (WJ)
theorem z9E (hC:zy prog ctr):JG.Ok prog:=by refine zx ?_;rintro l_ r0 aa;try unfold XR at aa;refine yO true [(2,none)] z9h 4 func44 λE hE=>?_;obtain rfl:=za aa;exact yE X0 hC hE []
def z7G:Code:=(f41.body).getD .skip
def W2:zI:=spF (α:=Int×Int×Int) (ρ:=Bool) 41 (λx=>[nF x.1,nF x.2.1,(eSp nF) x.2.2]) (λr=>eB r) (λx=>z1o x.1 x.2.1 x.2.2) [] (zcH)
theorem z8A (hC:zy prog ctr):W2.Ok prog:=by
 refine zx ?_;rintro⟨a_,b_,x2⟩ r0 aa;try unfold z1o at aa;refine yO true [(5,none)] z7G 14 func41 λE hE=>?_;rcases zB aa with⟨c0,aa⟩|⟨c0,aa⟩
 ·obtain rfl:=za aa;exact yE X0 hC hE (rpN 4 (Hq c0) [])
 ·obtain rfl:=za aa;exact yE X0 hC hE (rpN 4 (Hq c0) [])
def ws:Code:=(f37.body).getD .skip
def VR:zI:=spF (α:=z6×Int) (ρ:=List (List Int)×Int) 37 (λx=>[zD x.1,(z0I 41 (eSp nF)) x.2]) (λr=>.tup [F9_ r.1,nF r.2]) (λx=>V0 x.1 x.2) [] (by rintro⟨a0,a1⟩ ⟨b0,b1⟩ h;have e0:=YD.inj (f:=zD) _ _ (List.cons.inj h).1;replace h:=(List.cons.inj h).2;have e1:=YD.inj (f:=(z0I 41 (eSp nF))) _ _ (List.cons.inj h).1;subst e0 e1;rfl)
abbrev Kt (m_:z6)(x5:Int)(out:List (List Int)):List (Nat×T):=[(2,.own (.box (zD m_))),(4,.own (.box (eOs 1 true F6_ []))),(5,.own (.box (I x5))),(6,.own (.box (eOs 1 false F2_ out)))]
abbrev wl (m_:z6)(is:Int)(ah:Int)(br:Int)(ai:List (List Int)):List (Nat×T):=[(2,.own (.box (zD m_))),(3,.own (.box (.fn 41 [.sptr (I is)]))),(4,.own (.box (eOs 1 true F6_ []))),(5,.own (.box (I br))),(6,.own (.box (eOs 1 false F2_ ai))),(15,.d (.fn 80 [.sptr (I ah)]))]
theorem z2g (hC:zy prog ctr)(h04:ctr.Has vB)(h0y:ctr.Has W2)(h0h:ctr.Has ub)(h07:ctr.Has YK):VR.Ok prog:=by
 refine zx ?_;rintro⟨m_,is⟩ r0 aa;try unfold V0 at aa;refine yO false [(4,some 32),(5,some 33)] ws 44 func37 λE hE=>?_;refine yJ X0 hC ws [1,1] [] [2,4,5,6] (λz:Int×List (List Int)=>Ys m_ z.1 z.2=some r0) (λz=>Kt m_ z.1 z.2) [(2,.own (.box (zD m_))),(3,.own (.box (.fn 41 [.sptr (I is)]))),(4,.own (.box (eOs 1 true F6_ []))),(5,.own (.box (I 0))),(6,.own (.box (eOs 1 true F6_ [])))] [Hh (.cut 2)] ?_ λJ1 ap=>?_
 ·rintro⟨x5,out⟩ aa;unfold Ys at aa;obtain⟨r_,h0,aa⟩:=zb aa;obtain rfl:=za aa;exact yE X0 hC hE [Hg (z26 h07),Hm (shM F2_ F2_ out),Hs (z27 h07 (x:=(out,m_.Inputs)) h0 (loC (eSl 1 false F2_) out <| loC nF m_.Inputs <| loN)),Hm (shM F2_ F2_ out)]
 ·obtain⟨ah,h1,aa⟩:=zb aa;obtain⟨t2,ht2,aa⟩:=zb aa;refine yAt X0 hC (sub [1,1,2,1,0] ws) (frs [1,1,2,1,0] [J1] ws []) [(2,.own (.box (zD m_))),(3,.own (.box (.fn 41 [.sptr (I is)]))),(4,.own (.box (eOs 1 true F6_ []))),(5,.own (.box (I 0))),(6,.own (.box (eOs 1 true F2_ []))),(15,.d (.fn 80 [.sptr (I ah)]))] [Ha (lnM yX m_.Rows),Hc h04 (x:=((m_.Rows.length:Nat):Int)) h1 (loC nF ((m_.Rows.length:Nat):Int) <| loN)] λst0 h0=>?_;refine z1w (g:=.tmp 15) (ps:=[16,17]) (assign:=(sub [1,1,2,1,0,0] ws)) (body:=(sub [1,1,2,1,0,1] ws)) (K:=80) (caps:=[.sptr (I ah)]) (by kernel_rfl) [2,3,4,5,6,15] (λs=>wl m_ is ah s.1 s.2) (λs=>wl m_ is ah s.1 s.2) (λs=>Code.ret) ((λ(x:Int×Int) (_:Bool) (_:Value)=>[nF x.1,nF x.2])) (F:=@yV ah) (λs x=>qG m_ is s.1 s.2 x.1 x.2) (0,([]:List (List Int))) t2 _ h0 inferInstance (by kernel_rfl) (by decide) (λ_=>rfl) (λ_=>rfl) (by kernel_rfl) (λ_ _ _=>rfl) (Y6 hC ah) ht2 ?_ ?_
  ·rintro lp ⟨br,ai⟩ ⟨bp,aq⟩ vr ar ae;replace ae:qG m_ is br ai bp aq=some ar:=ae;unfold qG at ae;refine yF X0 hC .normal [(2,.own (.box (zD m_))),(3,.own (.box (.fn 41 [.sptr (I is)]))),(4,.own (.box (eOs 1 true F6_ []))),(5,.own (.box (I br))),(6,.own (.box (eOs 1 false F2_ ai))),(7,.d (I bp)),(8,.d (I aq)),(15,.d (.fn 80 [.sptr (I ah)]))] [] λst0 h0=>⟨rfl,z9l h0 ?_⟩;obtain⟨al,h2,ae⟩:=zb ae;let Z0:List HO:=[Hc h0y (x:=(bp,aq,is)) h2 (loC nF bp <| loC nF aq <| loC (eSp nF) is <| loN)];rcases zB ae with⟨c0,ae⟩|⟨c0,ae⟩
   ·obtain rfl:=za ae;exact yF X0 hC .normal (wl m_ is ah br ai) (Z0++[Hq c0]) λst0 h0=>⟨rfl,_,h0,LeL.refl _⟩
   ·obtain⟨ax,h3,ae⟩:=zb ae;let Z1:List HO:=(Z0++[Hq c0,Hc h0h (x:=(m_,bp,aq)) h3 (loC zD m_ <| loC nF bp <| loC nF aq <| loN)]);rcases zB ae with⟨c1,ae⟩|⟨c1,ae⟩
    ·obtain rfl:=za ae;exact yF X0 hC .ret (wl m_ is ah ax.2.2 ai) (Z1++[Hq c1]) λst0 h0=>⟨rfl,_,h0,LeL.refl _⟩
    ·obtain⟨g0,ae⟩:=gdE ae;obtain rfl:=za ae;exact yF X0 hC .normal (wl m_ is ah br (ai++([ax.1]:List (List Int)))) (Z1++[Hq c1,Hq (dM F2_ ([ax.1]:List (List Int))),Hn (dM F2_ ([ax.1]:List (List Int))),Hn (aL F2_ F2_ g0),Hl (aM F2_ ai ([ax.1]:List (List Int)))]) λst0 h0=>⟨rfl,_,h0,LeL.refl _⟩
  ·rcases t2 with⟨br,ai⟩|z
   ·dsimp only at aa;exact WF (by kernel_rfl) (ap _ [(2,.own (.box (zD m_))),(4,.own (.box (eOs 1 true F6_ []))),(5,.own (.box (I br))),(6,.own (.box (eOs 1 false F2_ ai)))] (br,ai) aa (show Own.canon [2,4,5,6] _=ofL _ by kernel_rfl) inferInstance)
   ·obtain⟨br,ai⟩:=z;dsimp only at aa;show AWP _ _ (Code.ret) _ _;obtain rfl:=za aa;exact yEx X0 hC hE [Hm (shM F6_ F6_ [])] (.tup [eSl 1 true F2_ [],I br]) (show LeV (.tup [eSl 1 true F2_ [],I br]) (.tup [eSl 1 true F2_ ([]:List (List Int)),I br]) from inferInstance)
def zaT:Code:=(f13.body).getD .skip
def KG:zI:=spF (α:=z6×Int) (ρ:=List (List Int)×Int) 13 (λx=>[zD x.1,nF x.2]) (λr=>.tup [F9_ r.1,nF r.2]) (λx=>KV x.1 x.2) [] (Vk)
theorem zb5 (hC:zy prog ctr)(h0i:ctr.Has vA)(h04:ctr.Has vB)(h0y:ctr.Has W2)(h0h:ctr.Has ub)(h07:ctr.Has YK):KG.Ok prog:=by
 refine zx ?_;rintro⟨m_,s_⟩ r0 aa;try unfold KV at aa;refine yO false [(4,none),(5,none)] zaT 26 func13 λE hE=>?_;obtain⟨r_,h0,aa⟩:=zb aa
 let Z0:List HO:=[Hc h0i (x:=m_) h0 (loC zD m_ <| loN)];rcases zB aa with⟨c0,aa⟩|⟨c0,aa⟩
 ·obtain rfl:=za aa;exact yEx X0 hC hE (Z0++[Hq c0,Hm (shM F6_ F6_ [])]) (.tup [eSl 1 true F2_ [],I r_]) (show LeV (.tup [eSl 1 true F2_ [],I r_]) (.tup [eSl 1 true F2_ ([]:List (List Int)),I r_]) from inferInstance)
 ·rcases zB aa with⟨c1,aa⟩|⟨c1,aa⟩
  ·obtain rfl:=za aa;exact yEx X0 hC hE (Z0++(Hq c0::(rpN 6 (Hq c1) [qT,Hm (shM F6_ F6_ [])]))) (.tup [eSl 1 true F2_ [],I 1]) (show LeV (.tup [eSl 1 true F2_ [],I 1]) (.tup [eSl 1 true F2_ ([]:List (List Int)),I 1]) from inferInstance)
  ·let Z1:List HO:=(Z0++(Hq c0::(rpN 4 (Hq c1) [Ha (lnM yX m_.Rows),Hq c1,Hq c1])));rcases zB aa with⟨c2,aa⟩|⟨c2,aa⟩
   ·obtain rfl:=za aa;exact yEx X0 hC hE (Z1++[Hq c2,Hm (shM F6_ F6_ [])]) (.tup [eSl 1 true F2_ [],I 1]) (show LeV (.tup [eSl 1 true F2_ [],I 1]) (.tup [eSl 1 true F2_ ([]:List (List Int)),I 1]) from inferInstance)
   ·obtain⟨ah,h1,aa⟩:=zb aa;obtain rfl:=za aa;exact yE ((z3n zq (z2g hC h04 h0y h0h h07) 23).or X0) hC hE (Z1++[Hq c2,Hc (Ctr.add_has Jn VR) (x:=(m_,s_)) h1 (loC zD m_ <| loC (z0I 41 (eSp nF)) s_ <| loN)])
def K1:Code:=(f39.body).getD .skip
def Zs:zI:=spF (α:=List (List Int)×List (List Int)) (ρ:=Bool) 39 (λx=>[xy x.1,xy x.2]) (λr=>eB r) (λx=>Yy x.1 x.2) [] (Vk)
abbrev z5a:List (Nat×T):=[]
abbrev z59 (a_:List (List Int))(b_:List (List Int))(i_:Int):List (Nat×T):=[(0,.d (eSl 1 false F6_ a_)),(1,.d (eSl 1 false F6_ b_)),(5,.d (I i_))]
theorem z9x (hC:zy prog ctr)(h0c:ctr.Has qR):Zs.Ok prog:=by
 refine zx ?_;rintro⟨a_,b_⟩ r0 aa;try unfold Yy at aa;refine yO true [(4,none)] K1 27 func39 λE hE=>?_
 let Z0:List HO:=[Ha (lnM F6_ a_),Ha (lnM F6_ b_)];rcases zB aa with⟨c0,aa⟩|⟨c0,aa⟩
 ·obtain rfl:=za aa;exact yE X0 hC hE (Z0++[Hq c0])
 ·refine yJ X0 hC K1 [1,1] [] [] (λz:Unit=>Vc=some r0) (λz=>z5a) [(0,.d (eSl 1 false F6_ a_)),(1,.d (eSl 1 false F6_ b_))] (Z0++[Hq c0,Hh (.cut 0)]) ?_ λJ1 ap=>?_
  ·rintro⟨⟩ aa;unfold Vc at aa;obtain rfl:=za aa;exact yE X0 hC hE []
  ·obtain⟨t2,ht2,aa⟩:=zb aa;refine yL X0 hC K1 [1,1,2,1,0] [J1] (λs=>Zu a_ b_ s) (λx=>z59 a_ b_ x) 0 ht2  [] ?_;rintro i_ m2 ar ae hl1 J2 av;try unfold Zu at ae
   let Z1:List HO:=[Ha (lnM F6_ a_)];rcases zB ae with⟨c1,ae⟩|⟨c1,ae⟩
   ·obtain⟨dl,h0,ae⟩:=zb ae;obtain⟨dm,h1,ae⟩:=zb ae;obtain⟨r_,h2,ae⟩:=zb ae;let Z2:List HO:=(Z1++[Hq c1,Hi F6_ h0,Hi F6_ h1,Hc h0c (x:=(dl,dm)) h2 (loC F6_ dl <| loC F6_ dm <| loN)]);rcases zB ae with⟨c2,ae⟩|⟨c2,ae⟩
    ·obtain rfl:=za ae;obtain rfl:=hl1;obtain rfl:=za aa;exact yE X0 hC hE (Z2++[Hq c2])
    ·obtain rfl:=za ae;exact yB X0 hC av (w64 (i_+1)) hl1 (Z2++[Hq c2])
   ·obtain rfl:=za ae;obtain rfl:=hl1;exact yB X0 hC ap () aa (Z1++[Hq c1])
def z9g:Code:=(Tryz.f11.body).getD .skip
def Va:zI:=spF (α:=List (List Int)×List (List Int)) (ρ:=Bool) 11 (λx=>[F9_ x.1,xy x.2]) (λr=>eB r) (λx=>qg x.1 x.2) [] (Vk)
theorem z9D (hC:zy prog ctr)(h05:ctr.Has Zs):Va.Ok prog:=by
 refine zx ?_;rintro⟨a_,b_⟩ r0 aa;try unfold qg at aa;refine yO true [(4,none)] z9g 15 func11 λE hE=>?_;obtain⟨r_,h0,aa⟩:=zb aa
 let Z0:List HO:=[Hc h05 (x:=(a_,b_)) h0 (loC F9_ a_ <| loC xy b_ <| loN)];rcases zB aa with⟨c0,aa⟩|⟨c0,aa⟩
 ·obtain rfl:=za aa;exact yE X0 hC hE (Z0++[Hq c0,Hq c0,Ha (lnM F2_ a_),Hq c0,Hq c0,Ha (lnM F2_ a_),Hq c0,Hq c0])
 ·obtain rfl:=za aa;exact yE X0 hC hE (Z0++(rpN 6 (Hq c0) []))
def QU:Code:=(f110.body).getD .skip
def Qz:zI:=spF (α:=List (List Int)) (ρ:=Bool) 110 (λx=>[xy x]) (λr=>eB r) (λx=>VB x) [] (WJ)
abbrev z3W:List (Nat×T):=[]
abbrev z3V (l_:List (List Int))(i_:Int):List (Nat×T):=[(0,.d (eSl 1 false F6_ l_)),(3,.d (I i_))]
theorem z8o (hC:zy prog ctr)(h0g:ctr.Has qQ):Qz.Ok prog:=by
 refine zx ?_;rintro l_ r0 aa;try unfold VB at aa;refine yO true [(2,none)] QU 21 func110 λE hE=>?_;refine yJ X0 hC QU [1] [] [] (λz:Unit=>XY=some r0) (λz=>z3W) [(0,.d (eSl 1 false F6_ l_))] [Hh (.cut 1)] ?_ λJ1 ap=>?_
 ·rintro⟨⟩ aa;unfold XY at aa;obtain rfl:=za aa;exact yE X0 hC hE []
 ·obtain⟨t2,ht2,aa⟩:=zb aa;refine yL X0 hC QU [1,2,1,0] [J1] (λs=>jG l_ s) (λx=>z3V l_ x) 1 ht2  [] ?_;rintro i_ m2 ar ae hl1 J2 av;try unfold jG at ae
  let Z0:List HO:=[Ha (lnM F6_ l_)];rcases zB ae with⟨c0,ae⟩|⟨c0,ae⟩
  ·obtain⟨bg,h0,ae⟩:=zb ae;obtain⟨co,h1,ae⟩:=zb ae;obtain⟨r_,h2,ae⟩:=zb ae;let Z1:List HO:=(Z0++[Hq c0,Hi F6_ h0,Hi F6_ h1,Hc h0g (x:=(bg,co)) h2 (loC F6_ bg <| loC F6_ co <| loN)]);rcases zB ae with⟨c1,ae⟩|⟨c1,ae⟩
   ·obtain rfl:=za ae;obtain rfl:=hl1;obtain rfl:=za aa;exact yE X0 hC hE (Z1++[Hq c1])
   ·obtain rfl:=za ae;exact yB X0 hC av (w64 (i_+1)) hl1 (Z1++[Hq c1])
  ·obtain rfl:=za ae;obtain rfl:=hl1;exact yB X0 hC ap () aa (Z0++[Hq c0])
def z7E:Code:=(f78.body).getD .skip
def QA:zI:=spF (α:=List (List Int)×Int) (ρ:=Int) 78 (λx=>[xy x.1,nF x.2]) (λr=>nF r) (λx=>VC x.1 x.2) [] (Vk)
theorem z8p (hC:zy prog ctr)(h0v:ctr.Has W1)(h1Y:ctr.Has Qz)(h0k:ctr.Has W0):QA.Ok prog:=by
 refine zx ?_;rintro⟨l_,inputs⟩ r0 aa;try unfold VC at aa;refine yO true [(4,none)] z7E 18 func78 λE hE=>?_;obtain⟨r_,h0,aa⟩:=zb aa
 let Z0:List HO:=[Hc h0v (x:=(l_,inputs)) h0 (loC xy l_ <| loC nF inputs <| loN)];rcases zB aa with⟨c0,aa⟩|⟨c0,aa⟩
 ·obtain rfl:=za aa;exact yE X0 hC hE (Z0++[Hq c0])
 ·obtain⟨ah,h1,aa⟩:=zb aa;let Z1:List HO:=(Z0++[Hq c0,Hc h1Y (x:=l_) h1 (loC xy l_ <| loN)]);rcases zB aa with⟨c1,aa⟩|⟨c1,aa⟩
  ·obtain rfl:=za aa;exact yE X0 hC hE (Z1++[Hq c1])
  ·obtain⟨al,h2,aa⟩:=zb aa;let Z2:List HO:=(Z1++[Hq c1,Hc h0k (x:=l_) h2 (loC xy l_ <| loN)]);rcases zB aa with⟨c2,aa⟩|⟨c2,aa⟩
   ·obtain rfl:=za aa;exact yE X0 hC hE (Z2++[Hq c2])
   ·obtain rfl:=za aa;exact yE X0 hC hE (Z2++[Hq c2])
def z6P:Code:=(Tryz.f49.body).getD .skip
def kT:zI:=spF (α:=z6×List (List Int)) (ρ:=Int) 49 (λx=>[zD x.1,xy x.2]) (λr=>nF r) (λx=>Zj x.1 x.2) [] (Vk)
theorem z7v (hC:zy prog ctr)(h0i:ctr.Has vA)(h1Z:ctr.Has QA):kT.Ok prog:=by
 refine zx ?_;rintro⟨m_,l_⟩ r0 aa;try unfold Zj at aa;refine yO true [(4,none)] z6P 15 func49 λE hE=>?_;obtain⟨r_,h0,aa⟩:=zb aa
 let Z0:List HO:=[Hc h0i (x:=m_) h0 (loC zD m_ <| loN)];rcases zB aa with⟨c0,aa⟩|⟨c0,aa⟩
 ·obtain rfl:=za aa;exact yE X0 hC hE (Z0++[Hq c0])
 ·obtain⟨ah,h1,aa⟩:=zb aa;obtain rfl:=za aa;exact yE X0 hC hE (Z0++[Hq c0,Hc h1Z (x:=(l_,m_.Inputs)) h1 (loC xy l_ <| loC nF m_.Inputs <| loN)])
def wJ:Code:=(f18.body).getD .skip
def YR:zI:=spF (α:=z6×List (List Int)) (ρ:=Bool×Int) 18 (λx=>[zD x.1,xy x.2]) (λr=>.tup [eB r.1,nF r.2]) (λx=>Zk x.1 x.2) [] (Vk)
abbrev z3h:List (Nat×T):=[(4,.own (.box (B false))),(5,.own (.box (I 0)))]
abbrev kI (all:List (List (List Int)))(ah:Int):List (Nat×T):=[(4,.own (.box (B false))),(5,.own (.box (I 0))),(7,.own (.box (eOs 1 false F9_ all))),(34,.d (.fn 80 [.sptr (I ah)]))]
abbrev z3i (m_:z6)(all:List (List (List Int))):List (Nat×T):=[(2,.own (.box (zD m_))),(4,.own (.box (B false))),(5,.own (.box (I 0))),(7,.own (.box (eOs 1 false F9_ all)))]
abbrev z3g (m_:z6)(l_:List (List Int))(ie:List (List (List Int)))(jb:Int):List (Nat×T):=[(1,.d (eSl 1 false F6_ l_)),(2,.own (.box (zD m_))),(4,.own (.box (B false))),(5,.own (.box (I 0))),(7,.own (.box (eOs 1 false F9_ ie))),(19,.d (I ((m_.Rows.length:Nat):Int))),(20,.d (I jb))]
def yW:XH prog:=((Qs zq (.inl 28) [27]).or X0)
theorem z7y (hC:zy prog ctr)(h0j:ctr.Has kT)(h06:ctr.Has wn)(h04:ctr.Has vB)(h08:ctr.Has vC):YR.Ok prog:=by
 refine zx ?_;rintro⟨m_,l_⟩ r0 aa;try unfold Zk at aa;refine yO false [(4,some 4),(5,some 33)] wJ 46 func18 λE hE=>?_;obtain⟨r_,h0,aa⟩:=zb aa
 let Z0:List HO:=[Hc h0j (x:=(m_,l_)) h0 (loC zD m_ <| loC xy l_ <| loN)];rcases zB aa with⟨c0,aa⟩|⟨c0,aa⟩
 ·obtain rfl:=za aa;exact yE yW hC hE (Z0++[Hq c0])
 ·refine yJ yW hC wJ [1,1,1] [] [2,4,5,7] (λz:List (List (List Int))=>Xl m_ z=some r0) (λz=>z3i m_ z) [(1,.d (eSl 1 false F6_ l_)),(2,.own (.box (zD m_))),(4,.own (.box (B false))),(5,.own (.box (I 0))),(7,.own (.box (eOs 1 true xy [])))] (Z0++[Hq c0,Hh (.cut 1)]) ?_ λJ1 ap=>?_
  ·rintro all aa;unfold Xl at aa;refine yJ yW hC wJ [1,1,1,1] [] [4,5] (λz:Unit=>Xk=some r0) (λz=>z3h) [(2,.own (.box (zD m_))),(4,.own (.box (B false))),(5,.own (.box (I 0))),(7,.own (.box (eOs 1 false F9_ all)))] [Hh (.cut 0)] ?_ λJ2 av=>?_
   ·rintro⟨⟩ aa;unfold Xk at aa;obtain rfl:=za aa;exact yE yW hC hE []
   ·obtain⟨ah,h1,aa⟩:=zb aa;obtain⟨t3,ht3,aa⟩:=zb aa;refine yAt yW hC (sub [1,1,1,1,2,1,0] wJ) (frs [1,1,1,1,2,1,0] [J2] wJ []) [(4,.own (.box (B false))),(5,.own (.box (I 0))),(7,.own (.box (eOs 1 false F9_ all))),(34,.d (.fn 80 [.sptr (I ah)]))] [Ha (lnM yX m_.Rows),Hc h04 (x:=((m_.Rows.length:Nat):Int)) h1 (loC nF ((m_.Rows.length:Nat):Int) <| loN)] λst0 h0=>?_;refine z1w (g:=.tmp 34) (ps:=[35,36]) (assign:=(sub [1,1,1,1,2,1,0,0] wJ)) (body:=(sub [1,1,1,1,2,1,0,1] wJ)) (K:=80) (caps:=[.sptr (I ah)]) (by kernel_rfl) [4,5,7,34] (λs=>kI all ah) (λs=>kI all ah) (λs=>Code.ret) ((λ(x:Int×Int) (_:Bool) (_:Value)=>[nF x.1,nF x.2])) (F:=@yV ah) (λs x=>qm all x.1 x.2) () t3 _ h0 inferInstance (by kernel_rfl) (by decide) (λ_=>rfl) (λ_=>rfl) (by kernel_rfl) (λ_ _ _=>rfl) (Y6 hC ah) ht3 ?_ ?_
    ·rintro my ⟨⟩ ⟨lm,ii⟩ vr ar ae;replace ae:qm all lm ii=some ar:=ae;unfold qm at ae;refine yF yW hC .normal [(4,.own (.box (B false))),(5,.own (.box (I 0))),(7,.own (.box (eOs 1 false F9_ all))),(9,.d (I lm)),(10,.d (I ii)),(34,.d (.fn 80 [.sptr (I ah)]))] [] λst0 h0=>⟨rfl,z9l h0 ?_⟩;obtain⟨jt,h2,ae⟩:=zb ae;obtain⟨ja,h3,ae⟩:=zb ae;obtain⟨al,h4,ae⟩:=zb ae;let Z1:List HO:=[Hn (iL F9_ h2),Hs (iM F9_ h2),Hn (iL F9_ h3),Hs (iM F9_ h3),Hc h08 (x:=(jt,ja)) h4 (loC F9_ jt <| loC F9_ ja <| loN)];rcases zB ae with⟨c1,ae⟩|⟨c1,ae⟩
     ·obtain rfl:=za ae;exact yF yW hC .ret (kI all ah) (Z1++[Hq c1]) λst0 h0=>⟨rfl,_,h0,LeL.refl _⟩
     ·obtain rfl:=za ae;exact yF yW hC .normal (kI all ah) (Z1++[Hq c1]) λst0 h0=>⟨rfl,_,h0,LeL.refl _⟩
    ·rcases t3 with⟨⟩|z
     ·dsimp only at aa;exact WF (by kernel_rfl) (av _ [(4,.own (.box (B false))),(5,.own (.box (I 0)))] () aa (show Own.canon [4,5] _=ofL _ by kernel_rfl) inferInstance)
     ·obtain⟨⟩:=z;dsimp only at aa;show AWP _ _ (Code.ret) _ _;obtain rfl:=za aa;exact yE yW hC hE []
  ·obtain⟨t4,ht4,aa⟩:=zb aa;refine yLx yW hC wJ [1,1,1,2,1,0] [J1] (λs=>wI m_ l_ s.1 s.2) (λx=>z3g m_ l_ x.1 x.2) (([]:List (List (List Int))),0) ht4 [(1,.d (eSl 1 false F6_ l_)),(2,.own (.box (zD m_))),(4,.own (.box (B false))),(5,.own (.box (I 0))),(7,.own (.box (eOs 1 true F9_ []))),(19,.d (I ((m_.Rows.length:Nat):Int))),(20,.d (I 0))] inferInstance [Ha (lnM yX m_.Rows)] ?_;rintro⟨ie,jb⟩ m4 ar ae hl1 J4 bw;try unfold wI at ae;rcases zB ae with⟨c2,ae⟩|⟨c2,ae⟩
   ·obtain⟨ax,h5,ae⟩:=zb ae;obtain⟨g0,ae⟩:=gdE ae;obtain rfl:=za ae;exact yB yW hC bw ((ie++([ax]:List (List (List Int)))),w64 (jb+1)) hl1 [Hq c2,Hc h06 (x:=(m_,l_,jb)) h5 (loC zD m_ <| loC xy l_ <| loC nF jb <| loN),Hm (shM F3_ F2_ ax),Hq (dM F9_ ([ax]:List (List (List Int)))),Hn (dM F9_ ([ax]:List (List (List Int)))),Hn (aL F9_ F9_ g0),Hl (aM F9_ ie ([ax]:List (List (List Int))))]
   ·obtain rfl:=za ae;obtain rfl:=hl1;exact yB yW hC ap ie aa [Hq c2]
def z1v:Code:=(Tryz.f22.body).getD .skip
def Yr:zI:=spF (α:=z6×List (List Int)×Int) (ρ:=List (List Int)×Int) 22 (λx=>[zD x.1,xy x.2.1,nF x.2.2]) (λr=>.opq (WN [some (zp2 r.1),some (nF r.2)])) (λx=>V1 x.1 x.2.1 x.2.2) [] (zcH)
theorem z2k (hC:zy prog ctr)(h0j:ctr.Has kT)(h06:ctr.Has wn):Yr.Ok prog:=by
 refine zx ?_;rintro⟨m_,l_,s_⟩ r0 aa;try unfold V1 at aa;refine z2D (tt:=yp) (rs:=[(true,6,none),(false,7,none)]) (n:=⟨28,[]⟩) (body:=z1v) zq func22 rfl (by kernel_rfl) rfl rfl (by show(3:Nat)<=28;decide) λE hE=>?_
 obtain⟨r_,h0,aa⟩:=zb aa;let Z0:List HO:=[Hc h0j (x:=(m_,l_)) h0 (loC zD m_ <| loC xy l_ <| loN)];rcases zB aa with⟨c0,aa⟩|⟨c0,aa⟩
 ·obtain rfl:=za aa;let ZE:List HO:=(Z0++[Hq c0]);exact V5 X0 zq hC ZM hE 4000 (hs:=hoH ZE) (x:=(.opq (WN [some (eOs 1 true F3_ []),some (I r_)]))) (hoB ZE) (by kernel_rfl) (show LeV (.opq (WN [some (eOs 1 true F3_ []),some (I r_)])) (.opq (WN [some (eOs 1 true F3_ ([]:List (List Int))),some (I r_)])) from inferInstance)
 ·rcases zB aa with⟨c1,aa⟩|⟨c1,aa⟩
  ·obtain rfl:=za aa;let ZE:List HO:=(Z0++(Hq c0::(rpN 6 (Hq c1) [qT])));exact V5 X0 zq hC ZM hE 4000 (hs:=hoH ZE) (x:=(.opq (WN [some (eOs 1 true F3_ []),some (I 1)]))) (hoB ZE) (by kernel_rfl) (show LeV (.opq (WN [some (eOs 1 true F3_ []),some (I 1)])) (.opq (WN [some (eOs 1 true F3_ ([]:List (List Int))),some (I 1)])) from inferInstance)
  ·let Z1:List HO:=(Z0++(Hq c0::(rpN 4 (Hq c1) [Ha (lnM yX m_.Rows),Hq c1,Hq c1])));rcases zB aa with⟨c2,aa⟩|⟨c2,aa⟩
   ·obtain rfl:=za aa;let ZE:List HO:=(Z1++[Hq c2]);exact V5 X0 zq hC ZM hE 4000 (hs:=hoH ZE) (x:=(.opq (WN [some (eOs 1 true F3_ []),some (I 1)]))) (hoB ZE) (by kernel_rfl) (show LeV (.opq (WN [some (eOs 1 true F3_ []),some (I 1)])) (.opq (WN [some (eOs 1 true F3_ ([]:List (List Int))),some (I 1)])) from inferInstance)
   ·obtain⟨ah,h1,aa⟩:=zb aa;obtain rfl:=za aa;let ZE:List HO:=(Z1++[Hq c2,Hc h06 (x:=(m_,l_,s_)) h1 (loC zD m_ <| loC xy l_ <| loC nF s_ <| loN)]);exact V5 X0 zq hC ZM hE 4000 (hs:=hoH ZE) (x:=(.opq (WN [some (eOs 1 true F3_ ah),some (I 0)]))) (hoB ZE) (by kernel_rfl) (LeV.refl _)
def z0N:Code:=(Tryz.f57.body).getD .skip
def uJ:zI:=spF (α:=List Int×List Int) (ρ:=Bool) 57 (λx=>[F6_ x.1,F6_ x.2]) (λr=>eB r) (λx=>XT x.1 x.2) [] (Vk)
theorem z18 (hC:zy prog ctr):uJ.Ok prog:=by refine zx ?_;rintro⟨a_,b_⟩ r0 aa;try unfold XT at aa;refine yO true [(4,none)] z0N 10 func57 λE hE=>?_;obtain rfl:=za aa;exact yE X0 hC hE [Ha (lnM nF a_),Ha (lnM nF b_)]
def yP:Code:=(f56.body).getD .skip
def wt:zI:=spF (α:=List (List Int)×List (List Int)×Unit) (ρ:=Bool) 56 (λx=>[xy x.1,xy x.2.1,(zbH 57) x.2.2]) (λr=>eB r) (λx=>xp x.1 x.2.1 x.2.2) [] (by rintro⟨a0,a1,a2⟩ ⟨b0,b1,b2⟩ h;have e0:=YD.inj (f:=xy) _ _ (List.cons.inj h).1;replace h:=(List.cons.inj h).2;have e1:=YD.inj (f:=xy) _ _ (List.cons.inj h).1;replace h:=(List.cons.inj h).2;have e2:=YD.inj (f:=(zbH 57)) _ _ (List.cons.inj h).1;subst e0 e1 e2;rfl)
abbrev qN:List (Nat×T):=[]
abbrev qM (s1:List (List Int))(s2:List (List Int))(aq:Int):List (Nat×T):=[(1,.d (eSl 1 false F6_ s2)),(2,.d (.fn 57 [])),(15,.d (eSl 1 false F6_ s1)),(16,.d (I ((s1.length:Nat):Int))),(17,.d (I aq))]
theorem wy (hC:zy prog ctr)(h0m:ctr.Has uJ):wt.Ok prog:=by
 refine zx ?_;rintro⟨s1,s2,eq⟩ r0 aa;try unfold xp at aa;refine yO true [(6,none)] yP 32 func56 λE hE=>?_
 let Z0:List HO:=[Ha (lnM F6_ s1),Ha (lnM F6_ s2)];rcases zB aa with⟨c0,aa⟩|⟨c0,aa⟩
 ·obtain rfl:=za aa;exact yE X0 hC hE (Z0++[Hq c0])
 ·refine yJ X0 hC yP [1,1] [] [] (λz:Unit=>yN=some r0) (λz=>qN) [(0,.d (eSl 1 false F6_ s1)),(1,.d (eSl 1 false F6_ s2)),(2,.d (.fn 57 []))] (Z0++[Hq c0,Hh (.cut 0)]) ?_ λJ1 ap=>?_
  ·rintro⟨⟩ aa;unfold yN at aa;obtain rfl:=za aa;exact yE X0 hC hE []
  ·obtain⟨t2,ht2,aa⟩:=zb aa;refine yL X0 hC yP [1,1,2,1,0] [J1] (λs=>yM s1 s2 s) (λx=>qM s1 s2 x) 0 ht2  [Ha (lnM F6_ s1)] ?_;rintro aq m2 ar ae hl1 J2 av;try unfold yM at ae;rcases zB ae with⟨c1,ae⟩|⟨c1,ae⟩
   ·obtain⟨ga,h0,ae⟩:=zb ae;obtain⟨d0,h1,ae⟩:=zb ae;obtain⟨r_,h2,ae⟩:=zb ae;let Z1:List HO:=[Hq c1,Hi F6_ h0,Hi F6_ h1,Hc h0m (x:=(ga,d0)) h2 (loC F6_ ga <| loC F6_ d0 <| loN)];rcases zB ae with⟨c2,ae⟩|⟨c2,ae⟩
    ·obtain rfl:=za ae;obtain rfl:=hl1;obtain rfl:=za aa;exact yE X0 hC hE (Z1++[Hq c2])
    ·obtain rfl:=za ae;exact yB X0 hC av (w64 (aq+1)) hl1 (Z1++[Hq c2])
   ·obtain rfl:=za ae;obtain rfl:=hl1;exact yB X0 hC ap () aa [Hq c1]
def Q2:Code:=(f58.body).getD .skip
def xj:zI:=spR (α:=List Int) (ρ:=List Int) 58 (λx=>[F5_ x]) (λr=>F3_ r) (λx=>vg x) [true] (WJ)
theorem UX:∀x r,(λx=>vg x) x=some r->(Jn.add xj).run 58 ((Jn.add xj).norm 58 ((λx=>[F5_ x]) x))=some ((λr=>F3_ r) r):=λx r h=>zmE h rfl
theorem Q0:(Jn.add xj).lend 58=none/\(Jn.add xj).gives 58=[true]:=zf6
theorem Qu (hC:zy prog ctr):xj.Ok prog:=by refine z9S ?_;rintro s_ r0 aa;try unfold vg at aa;refine yO true [(2,none)] Q2 9 func58 λE hE=>?_;obtain rfl:=za aa;exact yE ((xCl zq 8).or X0) hC hE [Ha (lnM nF s_),Ha (lnM nF s_),Hn (pY _:(0:Int)<=((s_.length:Nat):Int)),Hn (pY _:(0:Int)<=((s_.length:Nat):Int)),Hn (clB nF s_),Ha (clE 1 nF s_)]
def kH:Code:=(Tryz.f25.body).getD .skip
def YS:zI:=spF (α:=z6×List (List Int)×List (List Int)) (ρ:=List Int×Int) 25 (λx=>[zD x.1,xy x.2.1,xy x.2.2]) (λr=>.opq (WN [some (F3_ r.1),some (nF r.2)])) (λx=>qn x.1 x.2.1 x.2.2) [] (zcH)
abbrev z0j (out:List Int):List (Nat×T):=[(9,.own (eOs 1 false nF out))]
abbrev z0i (m_:z6)(l_:List (List Int))(bj:List (List Int))(bh:Int)(az:List Int):List (Nat×T):=[(1,.d (eSl 1 false F6_ l_)),(2,.d (eSl 1 false F6_ bj)),(3,.own (.box (zD m_))),(9,.own (eOs 1 false nF az)),(23,.d (I ((m_.Rows.length:Nat):Int))),(24,.d (I bh))]
abbrev z0h (m_:z6)(l_:List (List Int))(bj:List (List Int))(ai:List Int)(bh:Int):List (Nat×T):=[(1,.d (eSl 1 false F6_ l_)),(2,.d (eSl 1 false F6_ bj)),(3,.own (.box (zD m_))),(9,.own (eOs 1 false nF ai)),(23,.d (I ((m_.Rows.length:Nat):Int))),(24,.d (I bh))]
theorem z3u (hC:zy prog ctr)(h0j:ctr.Has kT)(h0m:ctr.Has uJ)(h06:ctr.Has wn)(h08:ctr.Has vC):YS.Ok prog:=by
 refine zx ?_;rintro⟨m_,l_,bj⟩ r0 aa;try unfold qn at aa;refine z2D (tt:=yp) (rs:=[(true,6,none),(false,7,none)]) (n:=⟨40,[]⟩) (body:=kH) zq func25 rfl (by kernel_rfl) rfl rfl (by show(3:Nat)<=40;decide) λE hE=>?_
 obtain⟨r_,h0,aa⟩:=zb aa;let Z0:List HO:=[Hc h0j (x:=(m_,l_)) h0 (loC zD m_ <| loC xy l_ <| loN)];rcases zB aa with⟨c0,aa⟩|⟨c0,aa⟩
 ·obtain rfl:=za aa;let ZE:List HO:=(Z0++[Hq c0]);exact V5 X0 zq hC ZM hE 4000 (hs:=hoH ZE) (x:=(.opq (WN [some (eOs 1 true nF []),some (I r_)]))) (hoB ZE) (by kernel_rfl) (show LeV (.opq (WN [some (eOs 1 true nF []),some (I r_)])) (.opq (WN [some (eOs 1 true nF ([]:List Int)),some (I r_)])) from inferInstance)
 ·obtain⟨ah,h1,aa⟩:=zb aa;let Z1:List HO:=(Z0++[Hq c0,Hc (Ctr.add_has Jn wt) (x:=(l_,bj,())) h1 (loC xy l_ <| loC xy bj <| loC (zbH 57) () <| loN)]);rcases zB aa with⟨c1,aa⟩|⟨c1,aa⟩
  ·obtain rfl:=za aa;let ZE:List HO:=(Z1++[Hq c1]);exact V5 ((z3n zq (wy hC h0m) 19).or X0) zq hC ZM hE 4000 (hs:=hoH ZE) (x:=(.opq (WN [some (eOs 1 true nF []),some (I 16)]))) (hoB ZE) (by kernel_rfl) (show LeV (.opq (WN [some (eOs 1 true nF []),some (I 16)])) (.opq (WN [some (eOs 1 true nF ([]:List Int)),some (I 16)])) from inferInstance)
  ·refine yJ ((z3n zq (wy hC h0m) 19).or X0) hC kH [1,1,1,1] [] [9] (λz:List Int=>Xn z=some r0) (λz=>z0j z) [(1,.d (eSl 1 false F6_ l_)),(2,.d (eSl 1 false F6_ bj)),(3,.own (.box (zD m_))),(9,.own (eOs 1 true nF []))] (Z1++[Hq c1,Hh (.cut 1)]) ?_ λJ1 ap=>?_
   ·rintro out aa;unfold Xn at aa;obtain⟨al,h2,aa⟩:=zb aa;obtain rfl:=za aa;let ZE:List HO:=[Hh (.g [true]),Hn Q0,Hx (.a (F3_ al)) (UX out _ h2)];exact V5 ((z3n zq (Qu hC) 39).or X0) zq hC ZM hE 4000 (hs:=hoH ZE) (x:=(.opq (WN [some (eOs 1 true nF al),some (I 0)]))) (hoB ZE) (by kernel_rfl) (LeV.refl _)
   ·obtain⟨t2,ht2,aa⟩:=zb aa;refine yLx X0 hC kH [1,1,1,1,2,1,0] [J1] (λs=>Xm m_ l_ bj s.1 s.2) (λx=>z0h m_ l_ bj x.1 x.2) (([]:List Int),0) ht2 [(1,.d (eSl 1 false F6_ l_)),(2,.d (eSl 1 false F6_ bj)),(3,.own (.box (zD m_))),(9,.own (eOs 1 true nF [])),(23,.d (I ((m_.Rows.length:Nat):Int))),(24,.d (I 0))] inferInstance [Ha (lnM yX m_.Rows)] ?_;rintro⟨ai,bh⟩ m2 ar ae hl1 J2 av;try unfold Xm at ae;rcases zB ae with⟨c2,ae⟩|⟨c2,ae⟩
    ·refine yJ X0 hC kH [1,1,1,1,2,1,0,0,1,1] [J1,J2] [1,2,3,9,23,24] (λz:List Int=>kF bh z=some ar) (λz=>z0i m_ l_ bj bh z) [(1,.d (eSl 1 false F6_ l_)),(2,.d (eSl 1 false F6_ bj)),(3,.own (.box (zD m_))),(9,.own (eOs 1 false nF ai)),(23,.d (I ((m_.Rows.length:Nat):Int))),(24,.d (I bh))] [Hq c2,Hh (.cut 0)] ?_ λJ3 ba=>?_
     ·rintro az ae;unfold kF at ae;obtain rfl:=za ae;exact yB X0 hC av (az,w64 (bh+1)) hl1 []
     ·obtain⟨ax,h3,ae⟩:=zb ae;obtain⟨bm,h4,ae⟩:=zb ae;let Z2:List HO:=[Hc h06 (x:=(m_,l_,bh)) h3 (loC zD m_ <| loC xy l_ <| loC nF bh <| loN),Hg (z26 h08),Hm (shM F3_ F2_ ax),Hs (z27 h08 (x:=(ax,bj)) h4 (loC F9_ ax <| loC xy bj <| loN))];rcases zB ae with⟨c3,ae⟩|⟨c3,ae⟩
      ·obtain⟨g0,ae⟩:=gdE ae;exact yB X0 hC ba (ai++([bh]:List Int)) ae (Z2++[Hq c3,Hq (dM nF ([bh]:List Int)),Hn (dM nF ([bh]:List Int)),Hn (aL nF nF g0),Hl (aM nF ai ([bh]:List Int))])
      ·exact yB X0 hC ba ai ae (Z2++[Hq c3])
    ·obtain rfl:=za ae;obtain rfl:=hl1;exact yB X0 hC ap ai aa [Hq c2]
def z9i:Code:=(Tryz.f26.body).getD .skip
def JH:zI:=spF (α:=List Int×List Int) (ρ:=Bool) 26 (λx=>[F2_ x.1,F6_ x.2]) (λr=>eB r) (λx=>z0u x.1 x.2) [] (Vk)
theorem z9F (hC:zy prog ctr)(h05:ctr.Has Zs):JH.Ok prog:=by
 refine zx ?_;rintro⟨a_,b_⟩ r0 aa;try unfold z0u at aa;refine yO true [(4,none)] z9i 17 func26 λE hE=>?_;obtain⟨r_,h0,aa⟩:=zb aa
 let Z0:List HO:=[Hg (z26 h05),Hm (shM F2_ F2_ ([a_])),Hm (shM F6_ F6_ ([b_])),Hs (z27 h05 (x:=([a_],[b_])) h0 (loC F9_ ([a_]:List (List Int)) <| loC ziH ([b_]:List (List Int)) <| loN))];rcases zB aa with⟨c0,aa⟩|⟨c0,aa⟩
 ·obtain rfl:=za aa;exact yE X0 hC hE (Z0++[Hq c0,Hq c0,Ha (lnM nF a_),Hq c0,Hq c0,Ha (lnM nF a_),Hq c0,Hq c0])
 ·obtain rfl:=za aa;exact yE X0 hC hE (Z0++(rpN 6 (Hq c0) []))
def z12:Code:=(f16.body).getD .skip
def QK:zI:=spF (α:=Unit) (ρ:=Bool) 16 (λx=>[]) (λr=>eB r) (λx=>Up) [] (λ_ _ _=>rfl)
theorem z8z (hC:zy prog ctr)(h26:ctr.Has WV)(h03:ctr.Has JG)(h0w:ctr.Has Vb)(h0z:ctr.Has KG)(h0A:ctr.Has Y8)(h00:ctr.Has Va)(h0n:ctr.Has YR)(h27:ctr.Has Yr)(h0o:ctr.Has YS)(h09:ctr.Has JH):QK.Ok prog:=by
 refine zx ?_;rintro⟨⟩ r0 aa;try unfold Up at aa;refine yO true [(0,none)] z12 212 func16 λE hE=>?_;obtain⟨r_,h0,aa⟩:=zb aa;obtain⟨ah,h1,aa⟩:=zb aa;obtain⟨al,h2,aa⟩:=zb aa;obtain⟨ax,h3,aa⟩:=zb aa;obtain⟨bm,h4,aa⟩:=zb aa;obtain⟨ct,h5,aa⟩:=zb aa;obtain⟨ia,h6,aa⟩:=zb aa
 let Z0:List HO:=[Hc h26 (x:=()) h0 (loN),Hg (z26 h03),Hm (shM F3_ F2_ ([[0],[1]])),Hs (z27 h03 (x:=[[0],[1]]) h1 (loC F9_ ([[0],[1]]:List (List Int)) <| loN)),Hm (shM F3_ F2_ ([[0],[1]])),Hc h0w (x:=r_) h2 (loC zaX r_ <| loN),Hc h0z (x:=(r_,0)) h3 (loC zaX r_ <| loC nF 0 <| loN),Hc h0z (x:=(r_,1)) h4 (loC zaX r_ <| loC nF 1 <| loN),Hc h0z (x:=(r_,2)) h5 (loC zaX r_ <| loC nF 2 <| loN),Hc h0A (x:=r_) h6 (loC zaX r_ <| loN)];rcases zB aa with⟨c0,aa⟩|⟨c0,aa⟩
 ·obtain rfl:=za aa;exact yE X0 hC hE (Z0++(Hq c0::Hq c0::Hq c0::(rpN 36 qT [])))
 ·rcases zB aa with⟨c1,aa⟩|⟨c1,aa⟩
  ·obtain rfl:=za aa;exact yE X0 hC hE (Z0++(Hq c0::Hq c0::Hq c0::Hq c1::Hq c1::Hq c1::(rpN 33 qT [])))
  ·let Z1:List HO:=(Z0++[Hq c0,Hq c0,Hq c0,Hq c1,Hq c1,Hq c1]);rcases zB aa with⟨c2,aa⟩|⟨c2,aa⟩
   ·obtain rfl:=za aa;exact yE X0 hC hE (Z1++(Hq c2::Hq c2::Hq c2::(rpN 30 qT [])))
   ·rcases zB aa with⟨c3,aa⟩|⟨c3,aa⟩
    ·obtain rfl:=za aa;exact yE X0 hC hE (Z1++(Hq c2::Hq c2::Hq c2::Hq c3::Hq c3::Hq c3::(rpN 27 qT [])))
    ·let Z2:List HO:=(Z1++[Hq c2,Hq c2,Hq c2,Hq c3,Hq c3,Hq c3]);rcases zB aa with⟨c4,aa⟩|⟨c4,aa⟩
     ·obtain rfl:=za aa;exact yE X0 hC hE (Z2++(rpN 5 (Hq c4) (rpN 22 qT [])))
     ·obtain⟨ka,h7,aa⟩:=zb aa;let Z3:List HO:=(Z2++[Hq c4,Hq c4,Hq c4,Hn (ZN (f:=.fn 11 []) (xs:=[F9_ al.1,xy ah]) (ls:=[]) (r:=B ka) (ys:=[]) [F9_ al.1,xy ah] (show z0Y [F9_ al.1,xy ah] [F9_ al.1,xy ah] from inferInstance)),Hq c4,Hq c4]);rcases zB aa with⟨c5,aa⟩|⟨c5,aa⟩
      ·obtain rfl:=za aa;exact yE ((uu (P:=prog) yp [] (lentCall (yi hC h00 (x:=(al.1,ah)) h7)) 73).or X0) hC hE (Z3++(rpN 5 (Hq c5) (rpN 17 qT [])))
      ·obtain⟨l6,h8,aa⟩:=zb aa;let Z4:List HO:=(Z3++[Hq c5,Hq c5,Hq c5,Hn (ZN (f:=.fn 11 []) (xs:=[F9_ ax.1,xy ah]) (ls:=[]) (r:=B l6) (ys:=[]) [F9_ ax.1,xy ah] (show z0Y [F9_ ax.1,xy ah] [F9_ ax.1,xy ah] from inferInstance)),Hq c5,Hq c5]);rcases zB aa with⟨c6,aa⟩|⟨c6,aa⟩
       ·obtain rfl:=za aa;exact yE ((uu (P:=prog) yp [] (lentCall (yi hC h00 (x:=(ax.1,ah)) h8)) 79).or ((uu (P:=prog) yp [] (lentCall (yi hC h00 (x:=(al.1,ah)) h7)) 73).or X0)) hC hE (Z4++(rpN 5 (Hq c6) (rpN 12 qT [])))
       ·obtain⟨l7,h9,aa⟩:=zb aa;let Z5:List HO:=(Z4++[Hq c6,Hq c6,Hq c6,Hn (ZN (f:=.fn 11 []) (xs:=[F9_ bm.1,xy ah]) (ls:=[]) (r:=B l7) (ys:=[]) [F9_ bm.1,xy ah] (show z0Y [F9_ bm.1,xy ah] [F9_ bm.1,xy ah] from inferInstance)),Hq c6,Hq c6]);rcases zB aa with⟨c7,aa⟩|⟨c7,aa⟩
        ·obtain rfl:=za aa;exact yE ((uu (P:=prog) yp [] (lentCall (yi hC h00 (x:=(bm.1,ah)) h9)) 85).or ((uu (P:=prog) yp [] (lentCall (yi hC h00 (x:=(ax.1,ah)) h8)) 79).or ((uu (P:=prog) yp [] (lentCall (yi hC h00 (x:=(al.1,ah)) h7)) 73).or X0))) hC hE (Z5++(rpN 6 (Hq c7) (rpN 6 qT [])))
        ·obtain⟨g0,aa⟩:=gdE aa;obtain⟨k9,h10,aa⟩:=zb aa;let Z6:List HO:=(Z5++[Hq c7,Hq c7,Hq c7,Hn (slB g0),Hn (zd8 F6_ g0),Ha (slM 1 false F6_ ah 0 (1:Int).toNat),Hq c7,Hn (ZN (f:=.fn 11 []) (xs:=[F9_ ct.1,xy ((ah.drop 0).take ((1:Int).toNat - 0))]) (ls:=[]) (r:=B k9) (ys:=[]) [F9_ ct.1,xy ((ah.drop 0).take ((1:Int).toNat - 0))] (show z0Y [F9_ ct.1,xy ((ah.drop 0).take ((1:Int).toNat - 0))] [F9_ ct.1,xy ((ah.drop 0).take ((1:Int).toNat - 0))] from inferInstance)),Hq c7,Hq c7]);rcases zB aa with⟨c8,aa⟩|⟨c8,aa⟩
         ·obtain rfl:=za aa;exact yE ((uu (P:=prog) yp [] (lentCall (yi hC h00 (x:=(ct.1,((ah.drop 0).take ((1:Int).toNat - 0)))) h10)) 92).or ((uu (P:=prog) yp [] (lentCall (yi hC h00 (x:=(bm.1,ah)) h9)) 85).or ((uu (P:=prog) yp [] (lentCall (yi hC h00 (x:=(ax.1,ah)) h8)) 79).or ((uu (P:=prog) yp [] (lentCall (yi hC h00 (x:=(al.1,ah)) h7)) 73).or X0)))) hC hE (Z6++(rpN 5 (Hq c8) [qT]))
         ·obtain⟨la,h11,aa⟩:=zb aa;let Z7:List HO:=(Z6++[Hq c8,Hq c8,Hq c8,Hn (ZN (f:=.fn 11 []) (xs:=[F9_ ia.1,xy ah]) (ls:=[]) (r:=B la) (ys:=[]) [F9_ ia.1,xy ah] (show z0Y [F9_ ia.1,xy ah] [F9_ ia.1,xy ah] from inferInstance)),Hq c8,Hq c8]);rcases zB aa with⟨c9,aa⟩|⟨c9,aa⟩
          ·obtain rfl:=za aa;exact yE ((uu (P:=prog) yp [] (lentCall (yi hC h00 (x:=(ia.1,ah)) h11)) 98).or ((uu (P:=prog) yp [] (lentCall (yi hC h00 (x:=(ct.1,((ah.drop 0).take ((1:Int).toNat - 0)))) h10)) 92).or ((uu (P:=prog) yp [] (lentCall (yi hC h00 (x:=(bm.1,ah)) h9)) 85).or ((uu (P:=prog) yp [] (lentCall (yi hC h00 (x:=(ax.1,ah)) h8)) 79).or ((uu (P:=prog) yp [] (lentCall (yi hC h00 (x:=(al.1,ah)) h7)) 73).or X0))))) hC hE (Z7++[Hq c9])
          ·obtain⟨g1,aa⟩:=gdE aa;obtain⟨j7,h12,aa⟩:=zb aa;obtain⟨ki,h13,aa⟩:=zb aa;obtain⟨j8,h14,aa⟩:=zb aa;obtain⟨cp,h15,aa⟩:=zb aa;obtain⟨iu,h16,aa⟩:=zb aa;obtain⟨cu,h17,aa⟩:=zb aa;obtain⟨g2,aa⟩:=gdE aa;obtain⟨iv,h18,aa⟩:=zb aa;obtain⟨db,h19,aa⟩:=zb aa;obtain⟨g3,aa⟩:=gdE aa;obtain⟨iw,h20,aa⟩:=zb aa;obtain⟨d9,h21,aa⟩:=zb aa;obtain⟨g4,aa⟩:=gdE aa;obtain⟨fq,h22,aa⟩:=zb aa;refine yA ((uu (P:=prog) yp [] (zgL (l:=[F3_ fq.1,nF fq.2]) (m:=[F2_ fq.1,nF fq.2]) (lentCall (yi hC h0o (x:=(r_,((ah.drop 0).take ((1:Int).toNat - 0)),([]:List (List Int)))) h22)) (.cons (z0A.live (f:=F3_) (g:=F2_) fq.1) (z0A.sh (f:=F3_) (g:=F2_) fq.1) (.cons (z0A.live (f:=nF) (g:=nF) fq.2) (z0A.sh (f:=nF) (g:=nF) fq.2) (.nil)))) 156).or ((uu (P:=prog) yp [] (zgL (l:=[F3_ d9.1,nF d9.2]) (m:=[F2_ d9.1,nF d9.2]) (lentCall (yi hC h0o (x:=(r_,((ah.drop 0).take ((1:Int).toNat - 0)),iw)) h21)) (.cons (z0A.live (f:=F3_) (g:=F2_) d9.1) (z0A.sh (f:=F3_) (g:=F2_) d9.1) (.cons (z0A.live (f:=nF) (g:=nF) d9.2) (z0A.sh (f:=nF) (g:=nF) d9.2) (.nil)))) 149).or ((uu (P:=prog) yp [] (zgL (l:=[F3_ db.1,nF db.2]) (m:=[F2_ db.1,nF db.2]) (lentCall (yi hC h0o (x:=(r_,((ah.drop 0).take ((1:Int).toNat - 0)),iv)) h19)) (.cons (z0A.live (f:=F3_) (g:=F2_) db.1) (z0A.sh (f:=F3_) (g:=F2_) db.1) (.cons (z0A.live (f:=nF) (g:=nF) db.2) (z0A.sh (f:=nF) (g:=nF) db.2) (.nil)))) 139).or ((uu (P:=prog) yp [] (zgL (l:=[F3_ cu.1,nF cu.2]) (m:=[F2_ cu.1,nF cu.2]) (lentCall (yi hC h0o (x:=(r_,ah,iu)) h17)) (.cons (z0A.live (f:=F3_) (g:=F2_) cu.1) (z0A.sh (f:=F3_) (g:=F2_) cu.1) (.cons (z0A.live (f:=nF) (g:=nF) cu.2) (z0A.sh (f:=nF) (g:=nF) cu.2) (.nil)))) 129).or ((zd2 prog 121 [none,some (I cp.2)]).or ((zd2 prog 120 [some (eOs 1 true F3_ cp.1),some (I cp.2)]).or ((uu (P:=prog) yp [] (lentCall (yi hC h00 (x:=(ia.1,ah)) h11)) 98).or ((uu (P:=prog) yp [] (lentCall (yi hC h00 (x:=(ct.1,((ah.drop 0).take ((1:Int).toNat - 0)))) h10)) 92).or ((uu (P:=prog) yp [] (lentCall (yi hC h00 (x:=(bm.1,ah)) h9)) 85).or ((uu (P:=prog) yp [] (lentCall (yi hC h00 (x:=(ax.1,ah)) h8)) 79).or ((uu (P:=prog) yp [] (lentCall (yi hC h00 (x:=(al.1,ah)) h7)) 73).or X0))))))))))) hC z12 [1,1,1,1,1,1,1,1,1,1,1,1,1,1,1,1] [] [(2,.d (eSl 1 false F6_ ah)),(4,.d (I j7.2)),(6,.d (I j8.2)),(8,.d (I cp.2)),(10,.d (I cu.2)),(12,.d (I db.2)),(13,.d (B j7.1)),(14,.d (B j8.1)),(15,.own (eOs 1 true F3_ cp.1)),(16,.d (eSl 1 true nF cu.1)),(17,.d (eSl 1 true nF db.1)),(18,.d (eSl 1 true nF d9.1)),(19,.d (I d9.2)),(21,.d (I fq.2))] (Z7++[Hq c9,Hn (slB g1),Hn (zd8 F6_ g1),Ha (slM 1 false F6_ ah 0 (1:Int).toNat),Hc h0n (x:=(r_,((ah.drop 0).take ((1:Int).toNat - 0)))) h12 (loC zaX r_ <| loC xy ((ah.drop 0).take ((1:Int).toNat - 0)) <| loN),Hg (z26 h03),Hm (shM F3_ F2_ ([[0,0]])),Hs (z27 h03 (x:=[[0,0]]) h13 (loC F9_ ([[0,0]]:List (List Int)) <| loN)),Hm (shM F3_ F2_ ([[0,0]])),Hc h0n (x:=(r_,ki)) h14 (loC zaX r_ <| loC xy ki <| loN),Hc h27 (x:=(r_,ah,1)) h15 (loC zaX r_ <| loC xy ah <| loC nF 1 <| loN),Hn (⟨rfl,rfl⟩:T.own (.opq (WN [some (eOs 1 true F3_ cp.1),some (I cp.2)]))=T.own (.opq (WN [some (eOs 1 true F3_ cp.1),some (I cp.2)]))/\1=1),Hn (⟨rfl,rfl⟩:T.own (.opq (WN [none,some (I cp.2)]))=T.own (.opq (WN [none,some (I cp.2)]))/\1=1),Hg (z26 h03),Hm (shM F3_ F2_ ([[0],[0]])),Hs (z27 h03 (x:=[[0],[0]]) h16 (loC F9_ ([[0],[0]]:List (List Int)) <| loN)),Hm (shM F3_ F2_ ([[0],[0]])),Hn (ZN (f:=.fn 25 []) (xs:=[zD r_,xy ah,xy iu]) (ls:=[]) (r:=.tup [F2_ cu.1,nF cu.2]) (ys:=[]) [zaX r_,xy ah,xy iu] (show z0Y [zaX r_,xy ah,xy iu] [zD r_,xy ah,xy iu] from inferInstance)),Hn (slB g2),Hn (zd8 F6_ g2),Ha (slM 1 false F6_ ah 0 (1:Int).toNat),Hg (z26 h03),Hm (shM F3_ F2_ ([[0]])),Hs (z27 h03 (x:=[[0]]) h18 (loC F9_ ([[0]]:List (List Int)) <| loN)),Hm (shM F3_ F2_ ([[0]])),Hn (ZN (f:=.fn 25 []) (xs:=[zD r_,xy ((ah.drop 0).take ((1:Int).toNat - 0)),xy iv]) (ls:=[]) (r:=.tup [F2_ db.1,nF db.2]) (ys:=[]) [zaX r_,xy ((ah.drop 0).take ((1:Int).toNat - 0)),xy iv] (show z0Y [zaX r_,xy ((ah.drop 0).take ((1:Int).toNat - 0)),xy iv] [zD r_,xy ((ah.drop 0).take ((1:Int).toNat - 0)),xy iv] from inferInstance)),Hn (slB g3),Hn (zd8 F6_ g3),Ha (slM 1 false F6_ ah 0 (1:Int).toNat),Hg (z26 h03),Hm (shM F3_ F2_ ([[7]])),Hs (z27 h03 (x:=[[7]]) h20 (loC F9_ ([[7]]:List (List Int)) <| loN)),Hm (shM F3_ F2_ ([[7]])),Hn (ZN (f:=.fn 25 []) (xs:=[zD r_,xy ((ah.drop 0).take ((1:Int).toNat - 0)),xy iw]) (ls:=[]) (r:=.tup [F2_ d9.1,nF d9.2]) (ys:=[]) [zaX r_,xy ((ah.drop 0).take ((1:Int).toNat - 0)),xy iw] (show z0Y [zaX r_,xy ((ah.drop 0).take ((1:Int).toNat - 0)),xy iw] [zD r_,xy ((ah.drop 0).take ((1:Int).toNat - 0)),xy iw] from inferInstance)),Hn (slB g4),Hn (zd8 F6_ g4),Ha (slM 1 false F6_ ah 0 (1:Int).toNat),Hn (ZN (f:=.fn 25 []) (xs:=[zD r_,xy ((ah.drop 0).take ((1:Int).toNat - 0)),xy ([]:List (List Int))]) (ls:=[]) (r:=.tup [F2_ fq.1,nF fq.2]) (ys:=[]) [zaX r_,xy ((ah.drop 0).take ((1:Int).toNat - 0)),ziH ([]:List (List Int))] (show z0Y [zaX r_,xy ((ah.drop 0).take ((1:Int).toNat - 0)),ziH ([]:List (List Int))] [zD r_,xy ((ah.drop 0).take ((1:Int).toNat - 0)),xy ([]:List (List Int))] from inferInstance)),Hh (.cut 0)]) ?_;rcases zB aa with⟨c10,aa⟩|⟨c10,aa⟩
           ·rcases zB aa with⟨c11,aa⟩|⟨c11,aa⟩
            ·let Z8:List HO:=[Hq c10,Hq c10,Hq c10,Hq c11,Hq c11,Hq c11];rcases zB aa with⟨c12,aa⟩|⟨c12,aa⟩
             ·rcases zB aa with⟨c13,aa⟩|⟨c13,aa⟩
              ·let Z9:List HO:=(Z8++[Hq c12,Hq c12,Hq c12,Hq c13,Hq c13,Hq c13]);rcases zB aa with⟨c14,aa⟩|⟨c14,aa⟩
               ·rcases zB aa with⟨c15,aa⟩|⟨c15,aa⟩
                ·let Z10:List HO:=(Z9++[Hq c14,Hq c14,Hq c14,Hq c15,Hq c15,Hq c15]);rcases zB aa with⟨c16,aa⟩|⟨c16,aa⟩
                 ·rcases zB aa with⟨c17,aa⟩|⟨c17,aa⟩
                  ·obtain⟨lb,h23,aa⟩:=zb aa;let Z11:List HO:=(Z10++[Hq c16,Hq c16,Hq c17,Hq c17,Hq c17,Hm (shM F3_ F2_ cp.1),Hn (ZN (f:=.fn 11 []) (xs:=[F9_ cp.1,xy ah]) (ls:=[]) (r:=B lb) (ys:=[]) [F9_ cp.1,xy ah] (show z0Y [F9_ cp.1,xy ah] [F9_ cp.1,xy ah] from inferInstance)),Hq c17]);rcases zB aa with⟨c18,aa⟩|⟨c18,aa⟩
                   ·obtain⟨lc,h24,aa⟩:=zb aa;let Z12:List HO:=(Z11++[Hq c18,Hq c18,Hq c18,Hm (shM nF nF ([0])),Hn (ZN (f:=.fn 26 []) (xs:=[F2_ cu.1,F6_ ([0]:List Int)]) (ls:=[]) (r:=B lc) (ys:=[]) [F2_ cu.1,F2_ ([0]:List Int)] (show z0Y [F2_ cu.1,F2_ ([0]:List Int)] [F2_ cu.1,F6_ ([0]:List Int)] from inferInstance)),Hq c18]);rcases zB aa with⟨c19,aa⟩|⟨c19,aa⟩
                    ·obtain⟨ld,h25,aa⟩:=zb aa;let Z13:List HO:=(Z12++[Hq c19,Hq c19,Hq c19,Hm (shM nF nF ([0,1])),Hn (ZN (f:=.fn 26 []) (xs:=[F2_ db.1,F6_ ([0,1]:List Int)]) (ls:=[]) (r:=B ld) (ys:=[]) [F2_ db.1,F2_ ([0,1]:List Int)] (show z0Y [F2_ db.1,F2_ ([0,1]:List Int)] [F2_ db.1,F6_ ([0,1]:List Int)] from inferInstance)),Hq c19]);rcases zB aa with⟨c20,aa⟩|⟨c20,aa⟩
                     ·let Z14:List HO:=(Z13++[Hq c20,Hq c20,Ha (lnM nF d9.1),Hq c20,Hq c20]);rcases zB aa with⟨c21,aa⟩|⟨c21,aa⟩
                      ·obtain rfl:=za aa;exact yE ((uu (P:=prog) yp [] (lentCall (yi hC h09 (x:=(db.1,([0,1]:List Int))) h25)) 201).or ((uu (P:=prog) yp [] (lentCall (yi hC h09 (x:=(cu.1,([0]:List Int))) h24)) 196).or ((uu (P:=prog) yp [] (lentCall (yi hC h00 (x:=(cp.1,ah)) h23)) 191).or X0))) hC hE (Z14++[Hq c21,Hq c21,Hq c21])
                      ·obtain rfl:=za aa;exact yE ((uu (P:=prog) yp [] (lentCall (yi hC h09 (x:=(db.1,([0,1]:List Int))) h25)) 201).or ((uu (P:=prog) yp [] (lentCall (yi hC h09 (x:=(cu.1,([0]:List Int))) h24)) 196).or ((uu (P:=prog) yp [] (lentCall (yi hC h00 (x:=(cp.1,ah)) h23)) 191).or X0))) hC hE (Z14++[Hq c21,Hq c21,Hq c21])
                     ·obtain rfl:=za aa;exact yE ((uu (P:=prog) yp [] (lentCall (yi hC h09 (x:=(db.1,([0,1]:List Int))) h25)) 201).or ((uu (P:=prog) yp [] (lentCall (yi hC h09 (x:=(cu.1,([0]:List Int))) h24)) 196).or ((uu (P:=prog) yp [] (lentCall (yi hC h00 (x:=(cp.1,ah)) h23)) 191).or X0))) hC hE (Z13++(rpN 4 (Hq c20) [qF,qF,qF]))
                    ·obtain rfl:=za aa;exact yE ((uu (P:=prog) yp [] (lentCall (yi hC h09 (x:=(cu.1,([0]:List Int))) h24)) 196).or ((uu (P:=prog) yp [] (lentCall (yi hC h00 (x:=(cp.1,ah)) h23)) 191).or X0)) hC hE (Z12++(rpN 4 (Hq c19) (rpN 7 qF [])))
                   ·obtain rfl:=za aa;exact yE ((uu (P:=prog) yp [] (lentCall (yi hC h00 (x:=(cp.1,ah)) h23)) 191).or X0) hC hE (Z11++(rpN 4 (Hq c18) (rpN 11 qF [])))
                  ·obtain rfl:=za aa;exact yE X0 hC hE (Z10++(Hq c16::Hq c16::(rpN 4 (Hq c17) (rpN 15 qF []))))
                 ·obtain rfl:=za aa;exact yE X0 hC hE (Z10++(Hq c16::Hq c16::(rpN 19 qF [])))
                ·obtain rfl:=za aa;exact yE X0 hC hE (Z9++(Hq c14::Hq c14::Hq c14::Hq c15::Hq c15::Hq c15::(rpN 21 qF [])))
               ·obtain rfl:=za aa;exact yE X0 hC hE (Z9++(Hq c14::Hq c14::Hq c14::(rpN 24 qF [])))
              ·obtain rfl:=za aa;exact yE X0 hC hE (Z8++(Hq c12::Hq c12::Hq c12::Hq c13::Hq c13::Hq c13::(rpN 27 qF [])))
             ·obtain rfl:=za aa;exact yE X0 hC hE (Z8++(Hq c12::Hq c12::Hq c12::(rpN 30 qF [])))
            ·obtain rfl:=za aa;exact yE X0 hC hE (Hq c10::Hq c10::Hq c10::Hq c11::Hq c11::Hq c11::(rpN 33 qF []))
           ·obtain rfl:=za aa;exact yE X0 hC hE (Hq c10::Hq c10::Hq c10::(rpN 36 qF []))
def Xr:Code:=(Tryz.f23.body).getD .skip
def YM:zI:=spF (α:=z6×List (List Int)×Int) (ρ:=List (List Int)) 23 (λx=>[zD x.1,xy x.2.1,nF x.2.2]) (λr=>(eOs 1 false F5_) r) (λx=>uW x.1 x.2.1 x.2.2) [] (zcH)
abbrev z09 (out:List (List Int)):List (Nat×T):=[(7,.own (eOs 1 false F5_ out))]
abbrev z08 (m_:z6)(l_:List (List Int))(s_:Int)(ai:List (List Int))(i_:Int):List (Nat×T):=[(1,.d (eSl 1 false F6_ l_)),(2,.d (I s_)),(3,.own (.box (zD m_))),(7,.own (eOs 1 false F5_ ai)),(8,.d (I i_))]
theorem z3r (hC:zy prog ctr)(h0l:ctr.Has Qd):YM.Ok prog:=by
 refine zx ?_;rintro⟨m_,l_,s_⟩ r0 aa;try unfold uW at aa;refine yO true [(6,none)] Xr 26 func23 λE hE=>?_;refine yJ X0 hC Xr [1,1] [] [7] (λz:List (List Int)=>jZ z=some r0) (λz=>z09 z) [(1,.d (eSl 1 false F6_ l_)),(2,.d (I s_)),(3,.own (.box (zD m_))),(7,.own (eOs 1 true F6_ []))] [Hh (.cut 2)] ?_ λJ1 ap=>?_
 ·rintro out aa;unfold jZ at aa;obtain rfl:=za aa;exact yE X0 hC hE []
 ·obtain⟨t2,ht2,aa⟩:=zb aa;refine yLx X0 hC Xr [1,1,2,1,0] [J1] (λs=>xv m_ l_ s_ s.1 s.2) (λx=>z08 m_ l_ s_ x.1 x.2) (([]:List (List Int)),0) ht2 [(1,.d (eSl 1 false F6_ l_)),(2,.d (I s_)),(3,.own (.box (zD m_))),(7,.own (eOs 1 true F5_ [])),(8,.d (I 0))] inferInstance [] ?_;rintro⟨ai,i_⟩ m2 ar ae hl1 J2 av;try unfold xv at ae
  let Z0:List HO:=[Ha (lnM F6_ l_)];rcases zB ae with⟨c0,ae⟩|⟨c0,ae⟩
  ·obtain⟨bg,h0,ae⟩:=zb ae;obtain⟨r_,h1,ae⟩:=zb ae;obtain⟨g0,ae⟩:=gdE ae;obtain rfl:=za ae;exact yB X0 hC av ((ai++([r_]:List (List Int))),w64 (i_+1)) hl1 (Z0++[Hq c0,Hi F6_ h0,Hc h0l (x:=(m_,s_,bg)) h1 (loC zD m_ <| loC nF s_ <| loC F6_ bg <| loN),Hq (oC F5_ r_ []),Hn (aL F5_ F5_ g0),Hl (aM F5_ ai ([r_]:List (List Int)))])
  ·obtain rfl:=za ae;obtain rfl:=hl1;exact yB X0 hC ap ai aa (Z0++[Hq c0])
def Y4:Code:=(Tryz.f24.body).getD .skip
def QC:zI:=spF (α:=z6×List (List Int)) (ρ:=Bool) 24 (λx=>[zD x.1,xy x.2]) (λr=>eB r) (λx=>Ub x.1 x.2) [] (Vk)
abbrev z47:List (Nat×T):=[]
abbrev z44 (m_:z6)(l_:List (List Int))(a_:Int):List (Nat×T):=[(1,.d (eSl 1 false F6_ l_)),(2,.own (.box (zD m_))),(5,.d (I a_))]
abbrev z42 (m_:z6)(l_:List (List Int))(a_:Int)(b_:Int):List (Nat×T):=[(1,.d (eSl 1 false F6_ l_)),(2,.own (.box (zD m_))),(5,.d (I a_)),(6,.d (I b_))]
abbrev z43 (m_:z6)(l_:List (List Int))(a_:Int):List (Nat×T):=[(1,.d (eSl 1 false F6_ l_)),(2,.own (.box (zD m_))),(5,.d (I a_))]
theorem z8r (hC:zy prog ctr)(h0P:ctr.Has YM)(h05:ctr.Has Zs):QC.Ok prog:=by
 refine zx ?_;rintro⟨m_,l_⟩ r0 aa;try unfold Ub at aa;refine yO true [(4,none)] Y4 28 func24 λE hE=>?_;refine yJ X0 hC Y4 [1] [] [] (λz:Unit=>QL=some r0) (λz=>z47) [(1,.d (eSl 1 false F6_ l_)),(2,.own (.box (zD m_)))] [Hh (.cut 1)] ?_ λJ1 ap=>?_
 ·rintro⟨⟩ aa;unfold QL at aa;obtain rfl:=za aa;exact yE X0 hC hE []
 ·obtain⟨t2,ht2,aa⟩:=zb aa;refine yL X0 hC Y4 [1,2,1,0] [J1] (λs=>W7 m_ l_ s) (λx=>z43 m_ l_ x) 0 ht2  [] ?_;rintro a_ m2 ar ae hl1 J2 av;try unfold W7 at ae
  let Z0:List HO:=[Ha (lnM yX m_.Rows)];rcases zB ae with⟨c0,ae⟩|⟨c0,ae⟩
  ·refine yJ X0 hC Y4 [1,2,1,0,0,1] [J1,J2] [1,2,5] (λz:Unit=>W8 a_=some ar) (λz=>z44 m_ l_ a_) [(1,.d (eSl 1 false F6_ l_)),(2,.own (.box (zD m_))),(5,.d (I a_))] (Z0++[Hq c0,Hh (.cut 0)]) ?_ λJ3 ba=>?_
   ·rintro⟨⟩ ae;unfold W8 at ae;obtain rfl:=za ae;exact yB X0 hC av (w64 (a_+1)) hl1 []
   ·obtain⟨t4,ht4,ae⟩:=zb ae;refine yL X0 hC Y4 [1,2,1,0,0,1,2,0,1,0] [J1,J2,J3] (λs=>ZW m_ l_ a_ s) (λx=>z42 m_ l_ a_ x) 0 ht4  [] ?_;rintro b_ m4 ck aj hl2 J4 bw;try unfold ZW at aj;rcases zB aj with⟨c1,aj⟩|⟨c1,aj⟩
    ·obtain⟨r_,h0,aj⟩:=zb aj;obtain⟨ah,h1,aj⟩:=zb aj;obtain⟨al,h2,aj⟩:=zb aj;let Z1:List HO:=[Hq c1,Hc h0P (x:=(m_,l_,a_)) h0 (loC zD m_ <| loC xy l_ <| loC nF a_ <| loN),Hc h0P (x:=(m_,l_,b_)) h1 (loC zD m_ <| loC xy l_ <| loC nF b_ <| loN),Hg (z26 h05),Hm (shM F5_ F6_ r_),Hm (shM F5_ F6_ ah),Hs (z27 h05 (x:=(r_,ah)) h2 (loC xy r_ <| loC xy ah <| loN))];rcases zB aj with⟨c2,aj⟩|⟨c2,aj⟩
     ·obtain rfl:=za aj;obtain rfl:=hl2;obtain rfl:=za ae;obtain rfl:=hl1;obtain rfl:=za aa;exact yE X0 hC hE (Z1++[Hq c2])
     ·obtain rfl:=za aj;exact yB X0 hC bw (w64 (b_+1)) hl2 (Z1++[Hq c2])
    ·obtain rfl:=za aj;obtain rfl:=hl2;exact yB X0 hC ba () ae [Hq c1]
  ·obtain rfl:=za ae;obtain rfl:=hl1;exact yB X0 hC ap () aa (Z0++[Hq c0])
def z9d:Code:=(f88.body).getD .skip
def JA:zI:=spF (α:=List Int) (ρ:=Int) 88 (λx=>[F6_ x]) (λr=>nF r) (λx=>Vv x) [] (WJ)
theorem z9v (hC:zy prog ctr):JA.Ok prog:=by
 refine zx ?_;rintro w_ r0 aa;try unfold Vv at aa;refine yO true [(2,none)] z9d 6 func88 λE hE=>?_;rcases zB aa with⟨c0,aa⟩|⟨c0,aa⟩
 ·obtain rfl:=za aa;exact yE X0 hC hE [Ha (lnM nF w_),Hq c0]
 ·obtain rfl:=za aa;exact yE X0 hC hE [Ha (lnM nF w_),Hq c0]
def V2:Code:=(f89.body).getD .skip
def WP:zI:=spF (α:=List Int×Int) (ρ:=Int) 89 (λx=>[F6_ x.1,nF x.2]) (λr=>nF r) (λx=>YV x.1 x.2) [] (Vk)
abbrev z1B:List (Nat×T):=[]
abbrev z1A (w_:List Int)(inputs:Int)(i_:Int):List (Nat×T):=[(0,.d (eSl 1 false nF w_)),(1,.d (I inputs)),(5,.d (I i_))]
theorem z5F (hC:zy prog ctr):WP.Ok prog:=by
 refine zx ?_;rintro⟨w_,inputs⟩ r0 aa;try unfold YV at aa;refine yO true [(4,none)] V2 25 func89 λE hE=>?_;refine yJ X0 hC V2 [1] [] [] (λz:Unit=>WX=some r0) (λz=>z1B) [(0,.d (eSl 1 false nF w_)),(1,.d (I inputs))] [Hh (.cut 1)] ?_ λJ1 ap=>?_
 ·rintro⟨⟩ aa;unfold WX at aa;obtain rfl:=za aa;exact yE X0 hC hE []
 ·obtain⟨t2,ht2,aa⟩:=zb aa;refine yL X0 hC V2 [1,2,1,0] [J1] (λs=>vW w_ inputs s) (λx=>z1A w_ inputs x) 0 ht2  [] ?_;rintro i_ m2 ar ae hl1 J2 av;try unfold vW at ae;rcases zB ae with⟨c0,ae⟩|⟨c0,ae⟩
  ·obtain⟨d8,h0,ae⟩:=zb ae;let Z0:List HO:=[Ha (lnM nF w_),Hq c0,Hi nF h0];rcases zB ae with⟨c1,ae⟩|⟨c1,ae⟩
   ·obtain rfl:=za ae;obtain rfl:=hl1;obtain rfl:=za aa;exact yE X0 hC hE (Z0++(rpN 7 (Hq c1) [qT]))
   ·obtain⟨ln,h1,ae⟩:=zb ae;let Z1:List HO:=(Z0++(Hq c1::Hq c1::Hq c1::Hi nF h1::(rpN 4 (Hq c1) [])));rcases zB ae with⟨c2,ae⟩|⟨c2,ae⟩
    ·obtain rfl:=za ae;obtain rfl:=hl1;obtain rfl:=za aa;exact yE X0 hC hE (Z1++[Hq c2])
    ·obtain rfl:=za ae;exact yB X0 hC av (w64 (i_+1)) hl1 (Z1++[Hq c2])
  ·obtain rfl:=za ae;obtain rfl:=hl1;exact yB X0 hC ap () aa [Ha (lnM nF w_),Hq c0]
def QX:Code:=(f64.body).getD .skip
def QE:zI:=spF (α:=List (List Int)×Int) (ρ:=Int) 64 (λx=>[xy x.1,nF x.2]) (λr=>nF r) (λx=>Uf x.1 x.2) [] (Vk)
abbrev z4b:List (Nat×T):=[]
abbrev z4a (l_:List (List Int))(inputs:Int)(i_:Int):List (Nat×T):=[(0,.d (eSl 1 false F6_ l_)),(1,.d (I inputs)),(5,.d (I i_))]
theorem z8t (hC:zy prog ctr)(h28:ctr.Has JA)(h29:ctr.Has WP):QE.Ok prog:=by
 refine zx ?_;rintro⟨l_,inputs⟩ r0 aa;try unfold Uf at aa;refine yO true [(4,none)] QX 40 func64 λE hE=>?_;rcases zB aa with⟨c0,aa⟩|⟨c0,aa⟩
 ·obtain rfl:=za aa;exact yE X0 hC hE (rpN 4 (Hq c0) [qT])
 ·let Z0:List HO:=[Hq c0,Hq c0,Ha (lnM F6_ l_),Hq c0,Hq c0];rcases zB aa with⟨c1,aa⟩|⟨c1,aa⟩
  ·obtain rfl:=za aa;exact yE X0 hC hE (Z0++[Hq c1])
  ·rcases zB aa with⟨c2,aa⟩|⟨c2,aa⟩
   ·obtain rfl:=za aa;exact yE X0 hC hE (Z0++[Hq c1,Hq c2])
   ·refine yJ X0 hC QX [1,1,1] [] [] (λz:Unit=>QN=some r0) (λz=>z4b) [(0,.d (eSl 1 false F6_ l_)),(1,.d (I inputs))] (Z0++[Hq c1,Hq c2,Hh (.cut 0)]) ?_ λJ1 ap=>?_
    ·rintro⟨⟩ aa;unfold QN at aa;obtain rfl:=za aa;exact yE X0 hC hE []
    ·obtain⟨t2,ht2,aa⟩:=zb aa;refine yL X0 hC QX [1,1,1,2,1,0] [J1] (λs=>jI l_ inputs s) (λx=>z4a l_ inputs x) 0 ht2  [] ?_;rintro i_ m2 ar ae hl1 J2 av;try unfold jI at ae
     let Z1:List HO:=[Ha (lnM F6_ l_)];rcases zB ae with⟨c3,ae⟩|⟨c3,ae⟩
     ·obtain⟨bg,h0,ae⟩:=zb ae;obtain⟨r_,h1,ae⟩:=zb ae;let Z2:List HO:=(Z1++[Hq c3,Hi F6_ h0,Hc h28 (x:=bg) h1 (loC F6_ bg <| loN)]);rcases zB ae with⟨c4,ae⟩|⟨c4,ae⟩
      ·obtain rfl:=za ae;obtain rfl:=hl1;obtain rfl:=za aa;exact yE X0 hC hE (Z2++[Hq c4])
      ·obtain⟨co,h2,ae⟩:=zb ae;obtain⟨ah,h3,ae⟩:=zb ae;let Z3:List HO:=(Z2++[Hq c4,Hi F6_ h2,Hc h29 (x:=(co,inputs)) h3 (loC F6_ co <| loC nF inputs <| loN)]);rcases zB ae with⟨c5,ae⟩|⟨c5,ae⟩
       ·obtain rfl:=za ae;obtain rfl:=hl1;obtain rfl:=za aa;exact yE X0 hC hE (Z3++[Hq c5])
       ·obtain rfl:=za ae;exact yB X0 hC av (w64 (i_+1)) hl1 (Z3++[Hq c5])
     ·obtain rfl:=za ae;obtain rfl:=hl1;exact yB X0 hC ap () aa (Z1++[Hq c3])
def QV:Code:=(f59.body).getD .skip
def QD:zI:=spF (α:=List (List Int)) (ρ:=Int) 59 (λx=>[xy x]) (λr=>nF r) (λx=>Ue x) [] (WJ)
abbrev z49 (n_:Int):List (Nat×T):=[(3,.d (I n_))]
abbrev z48 (l_:List (List Int))(cj:Int)(i_:Int):List (Nat×T):=[(0,.d (eSl 1 false F6_ l_)),(3,.d (I cj)),(4,.d (I i_))]
theorem z8s (hC:zy prog ctr):QD.Ok prog:=by
 refine zx ?_;rintro l_ r0 aa;try unfold Ue at aa;refine yO true [(2,none)] QV 19 func59 λE hE=>?_;refine yJ X0 hC QV [1,1] [] [3] (λz:Int=>QM z=some r0) (λz=>z49 z) [(0,.d (eSl 1 false F6_ l_)),(3,.d (I 0))] [Hh (.cut 2)] ?_ λJ1 ap=>?_
 ·rintro n_ aa;unfold QM at aa;obtain rfl:=za aa;exact yE X0 hC hE []
 ·obtain⟨t2,ht2,aa⟩:=zb aa;refine yL X0 hC QV [1,1,2,1,0] [J1] (λs=>jH l_ s.1 s.2) (λx=>z48 l_ x.1 x.2) (0,0) ht2  [] ?_;rintro⟨cj,i_⟩ m2 ar ae hl1 J2 av;try unfold jH at ae
  let Z0:List HO:=[Ha (lnM F6_ l_)];rcases zB ae with⟨c0,ae⟩|⟨c0,ae⟩
  ·obtain⟨bg,h0,ae⟩:=zb ae;obtain rfl:=za ae;exact yB X0 hC av (w64 (cj+((bg.length:Nat):Int)),w64 (i_+1)) hl1 (Z0++[Hq c0,Hi F6_ h0,Ha (lnM nF bg)])
  ·obtain rfl:=za ae;obtain rfl:=hl1;exact yB X0 hC ap cj aa (Z0++[Hq c0])
def QY:Code:=(f31.body).getD .skip
def QF:zI:=spF (α:=List (List Int)×Int) (ρ:=Int) 31 (λx=>[xy x.1,nF x.2]) (λr=>nF r) (λx=>Ug x.1 x.2) [] (Vk)
abbrev z4d (l_:List (List Int)):List (Nat×T):=[(0,.d (eSl 1 false F6_ l_))]
abbrev z4c (l_:List (List Int))(i_:Int):List (Nat×T):=[(0,.d (eSl 1 false F6_ l_)),(6,.d (I i_))]
theorem z8u (hC:zy prog ctr)(h2a:ctr.Has QE)(h0c:ctr.Has qR)(h2b:ctr.Has QD):QF.Ok prog:=by
 refine zx ?_;rintro⟨l_,inputs⟩ r0 aa;try unfold Ug at aa;refine yO true [(4,none)] QY 33 func31 λE hE=>?_;obtain⟨r_,h0,aa⟩:=zb aa
 let Z0:List HO:=[Hc h2a (x:=(l_,inputs)) h0 (loC xy l_ <| loC nF inputs <| loN)];rcases zB aa with⟨c0,aa⟩|⟨c0,aa⟩
 ·obtain rfl:=za aa;exact yE X0 hC hE (Z0++[Hq c0])
 ·refine yJ X0 hC QY [1,1] [] [0] (λz:Unit=>W9 l_=some r0) (λz=>z4d l_) [(0,.d (eSl 1 false F6_ l_))] (Z0++[Hq c0,Hh (.cut 0)]) ?_ λJ1 ap=>?_
  ·rintro⟨⟩ aa;unfold W9 at aa;obtain⟨ah,h1,aa⟩:=zb aa;let Z1:List HO:=[Hc h2b (x:=l_) h1 (loC xy l_ <| loN)];rcases zB aa with⟨c1,aa⟩|⟨c1,aa⟩
   ·obtain rfl:=za aa;exact yE X0 hC hE (Z1++[Hq c1])
   ·obtain rfl:=za aa;exact yE X0 hC hE (Z1++[Hq c1])
  ·obtain⟨t2,ht2,aa⟩:=zb aa;refine yL X0 hC QY [1,1,2,1,0] [J1] (λs=>jJ l_ s) (λx=>z4c l_ x) 1 ht2  [] ?_;rintro i_ m2 ar ae hl1 J2 av;try unfold jJ at ae
   let Z2:List HO:=[Ha (lnM F6_ l_)];rcases zB ae with⟨c2,ae⟩|⟨c2,ae⟩
   ·obtain⟨bg,h2,ae⟩:=zb ae;obtain⟨co,h3,ae⟩:=zb ae;obtain⟨al,h4,ae⟩:=zb ae;let Z3:List HO:=(Z2++[Hq c2,Hi F6_ h2,Hi F6_ h3,Hc h0c (x:=(bg,co)) h4 (loC F6_ bg <| loC F6_ co <| loN)]);rcases zB ae with⟨c3,ae⟩|⟨c3,ae⟩
    ·obtain rfl:=za ae;obtain rfl:=hl1;obtain rfl:=za aa;exact yE X0 hC hE (Z3++[Hq c3])
    ·obtain rfl:=za ae;exact yB X0 hC av (w64 (i_+1)) hl1 (Z3++[Hq c3])
   ·obtain rfl:=za ae;obtain rfl:=hl1;exact yB X0 hC ap () aa (Z2++[Hq c2])
def UB:Code:=(f53.body).getD .skip
def VH:zI:=spF (α:=List (List Int)×List (List Int)) (ρ:=Bool) 53 (λx=>[xy x.1,xy x.2]) (λr=>eB r) (λx=>Zb x.1 x.2) [] (Vk)
abbrev z2P:List (Nat×T):=[]
abbrev z2O (a_:List (List Int))(b_:List (List Int))(i_:Int):List (Nat×T):=[(0,.d (eSl 1 false F6_ a_)),(1,.d (eSl 1 false F6_ b_)),(5,.d (I i_))]
theorem z7k (hC:zy prog ctr)(h05:ctr.Has Zs)(h0Q:ctr.Has QF):VH.Ok prog:=by
 refine zx ?_;rintro⟨a_,b_⟩ r0 aa;try unfold Zb at aa;refine yO true [(4,none)] UB 35 func53 λE hE=>?_;refine yJ X0 hC UB [1] [] [] (λz:Unit=>U0=some r0) (λz=>z2P) [(0,.d (eSl 1 false F6_ a_)),(1,.d (eSl 1 false F6_ b_))] [Hh (.cut 1)] ?_ λJ1 ap=>?_
 ·rintro⟨⟩ aa;unfold U0 at aa;obtain rfl:=za aa;exact yE X0 hC hE []
 ·obtain⟨t2,ht2,aa⟩:=zb aa;refine yL X0 hC UB [1,2,1,0] [J1] (λs=>uV a_ b_ s) (λx=>z2O a_ b_ x) 0 ht2  [] ?_;rintro i_ m2 ar ae hl1 J2 av;try unfold uV at ae
  let Z0:List HO:=[Ha (lnM F6_ a_)];rcases zB ae with⟨c0,ae⟩|⟨c0,ae⟩
  ·obtain⟨g0,ae⟩:=gdE ae;obtain⟨g1,ae⟩:=gdE ae;obtain⟨r_,h0,ae⟩:=zb ae;let Z1:List HO:=(Z0++[Hq c0,Hn (slA g0),Hn (slB g0),Hn (zgE F6_ g0),Ha (slM 1 false F6_ a_ i_.toNat (w64 (i_+1)).toNat),Hn (slA g1),Hn (slB g1),Hn (zgE F6_ g1),Ha (slM 1 false F6_ b_ i_.toNat (w64 (i_+1)).toNat),Hc h05 (x:=(((a_.drop i_.toNat).take ((w64 (i_+1)).toNat - i_.toNat)),((b_.drop i_.toNat).take ((w64 (i_+1)).toNat - i_.toNat)))) h0 (loC xy ((a_.drop i_.toNat).take ((w64 (i_+1)).toNat - i_.toNat)) <| loC xy ((b_.drop i_.toNat).take ((w64 (i_+1)).toNat - i_.toNat)) <| loN)]);rcases zB ae with⟨c1,ae⟩|⟨c1,ae⟩
   ·obtain⟨dl,h1,ae⟩:=zb ae;obtain⟨dm,h2,ae⟩:=zb ae;obtain⟨ah,h3,ae⟩:=zb ae;obtain rfl:=za ae;obtain rfl:=hl1;obtain rfl:=za aa;exact yE X0 hC hE (Z1++[Hq c1,Hi F6_ h1,Hi F6_ h2,Hg (z26 h0Q),Hm (shM F6_ F6_ ([dl,dm])),Hs (z27 h0Q (x:=([dl,dm],16)) h3 (loC ziH ([dl,dm]:List (List Int)) <| loC nF 16 <| loN))])
   ·obtain rfl:=za ae;exact yB X0 hC av (w64 (i_+1)) hl1 (Z1++[Hq c1])
  ·obtain rfl:=za ae;obtain rfl:=hl1;exact yB X0 hC ap () aa (Z0++[Hq c0])
def vO:Code:=(f19.body).getD .skip
def VI:zI:=spF (α:=z6) (ρ:=List (List Int)) 19 (λx=>[zD x]) (λr=>xy r) (λx=>Wo x) [] (WJ)
abbrev z2V (dh:List (List Int)):List (Nat×T):=[(4,.d (eSl 1 false F6_ dh))]
abbrev z2U (m_:z6)(r_:List (List Int))(n_:Int)(fj:List (List Int)):List (Nat×T):=[(1,.own (.box (zD m_))),(3,.d (eSl 1 false F6_ r_)),(4,.d (eSl 1 false F6_ fj)),(5,.d (I n_))]
abbrev z2T (m_:z6)(r_:List (List Int))(au:List (List Int))(n_:Int)(cd:List (List Int)):List (Nat×T):=[(1,.own (.box (zD m_))),(3,.d (eSl 1 false F6_ r_)),(4,.d (eSl 1 false F6_ au)),(5,.d (I n_)),(6,.own (eOs 1 false F6_ cd))]
abbrev z2S (m_:z6)(r_:List (List Int))(au:List (List Int))(n_:Int)(i_:Int)(il:List (List Int)):List (Nat×T):=[(1,.own (.box (zD m_))),(3,.d (eSl 1 false F6_ r_)),(4,.d (eSl 1 false F6_ au)),(5,.d (I n_)),(6,.own (eOs 1 false F6_ il)),(7,.d (I i_))]
abbrev z2Q (m_:z6)(r_:List (List Int))(au:List (List Int))(n_:Int)(dr:List (List Int))(i_:Int):List (Nat×T):=[(1,.own (.box (zD m_))),(3,.d (eSl 1 false F6_ r_)),(4,.d (eSl 1 false F6_ au)),(5,.d (I n_)),(6,.own (eOs 1 false F6_ dr)),(7,.d (I i_))]
abbrev z2R (m_:z6)(r_:List (List Int))(au:List (List Int))(n_:Int):List (Nat×T):=[(1,.own (.box (zD m_))),(3,.d (eSl 1 false F6_ r_)),(4,.d (eSl 1 false F6_ au)),(5,.d (I n_))]
def zZ:XH prog:=((Qs zq (.inl 58) [6]).or ((Qs zq (.inl 10) [3]).or X0))
theorem z7l (hC:zy prog ctr)(h0B:ctr.Has Qc)(h0R:ctr.Has QC)(h0S:ctr.Has VH):VI.Ok prog:=by
 refine zx ?_;rintro m_ r0 aa;try unfold Wo at aa;refine yO true [(2,none)] vO 60 func19 λE hE=>?_;obtain⟨r_,h0,aa⟩:=zb aa;refine yJ zZ hC vO [1,1,1] [] [4] (λz:List (List Int)=>Uc z=some r0) (λz=>z2V z) [(1,.own (.box (zD m_))),(3,.d (eSl 1 false F6_ r_)),(4,.d (eSl 1 false F6_ r_))] [Hc h0B (x:=m_) h0 (loC zD m_ <| loN),Hm (shM F6_ F6_ r_),Hh (.cut 0)] ?_ λJ1 ap=>?_
 ·rintro dh aa;unfold Uc at aa;obtain rfl:=za aa;exact yE zZ hC hE []
 ·obtain⟨t2,ht2,aa⟩:=zb aa;refine yL zZ hC vO [1,1,1,2,1,0] [J1] (λs=>wH m_ r_ s.1 s.2) (λx=>z2R m_ r_ x.1 x.2) (r_,0) ht2  [] ?_;rintro⟨au,n_⟩ m2 ar ae hl1 J2 av;try unfold wH at ae;obtain⟨g0,ae⟩:=gdE ae
  let Z0:List HO:=[Ha (lnM F6_ r_),Hn g0];rcases zB ae with⟨c0,ae⟩|⟨c0,ae⟩
  ·refine yJ ((zlf prog).or zZ) hC vO [1,1,1,2,1,0,0,1] [J1,J2] [1,3,4,5] (λz:List (List Int)=>xZ n_ z=some ar) (λz=>z2U m_ r_ n_ z) [(1,.own (.box (zD m_))),(3,.d (eSl 1 false F6_ r_)),(4,.d (eSl 1 false F6_ au)),(5,.d (I n_))] (Z0++[Hq c0,Hh (.cut 0)]) ?_ λJ3 ba=>?_
   ·rintro fj ae;unfold xZ at ae;obtain rfl:=za ae;exact yB zZ hC av (fj,w64 (n_+1)) hl1 []
   ·refine yJ zZ hC vO [1,1,1,2,1,0,0,1,2,0,1] [J1,J2,J3] [1,3,4,5,6] (λz:List (List Int)=>YU m_ au n_ z=some ar) (λz=>z2T m_ r_ au n_ z) [(1,.own (.box (zD m_))),(3,.d (eSl 1 false F6_ r_)),(4,.d (eSl 1 false F6_ au)),(5,.d (I n_)),(6,.own (eOs 1 true F6_ []))] [Hh (.cut 1)] ?_ λJ4 bw=>?_
    ·rintro cd ae;unfold YU at ae;obtain⟨ah,h1,ae⟩:=zb ae;let Z1:List HO:=[Hg (z26 h0R),Hm (shM F6_ F6_ cd),Hs (z27 h0R (x:=(m_,cd)) h1 (loC zD m_ <| loC xy cd <| loN))];rcases zB ae with⟨c1,ae⟩|⟨c1,ae⟩
     ·let Z2:List HO:=(Z1++[Hq c1,Hq c1,Ha (lnM F6_ cd),Hq c1,Hq c1,Ha (lnM F6_ au),Hq c1,Hq c1]);rcases zB ae with⟨c2,ae⟩|⟨c2,ae⟩
      ·exact yB zZ hC ba cd ae (Z2++(rpN 7 (Hq c2) [Hq c1,Hq c2,Hq c1,qT,Hm (shM F6_ F6_ cd)]))
      ·let Z3:List HO:=(Z2++[Hq c2,Hq c2,Ha (lnM F6_ cd),Hq c2,Hq c2,Ha (lnM F6_ au),Hq c2,Hq c2]);rcases zB ae with⟨c3,ae⟩|⟨c3,ae⟩
       ·obtain⟨al,h2,ae⟩:=zb ae;let Z4:List HO:=(Z3++[Hq c3,Hq c3,Hq c3,Hg (z26 h0S),Hm (shM F6_ F6_ cd),Hs (z27 h0S (x:=(cd,au)) h2 (loC xy cd <| loC xy au <| loN)),Hq c2,Hq c3,Hq c1,Hq c2,Hq c1]);rcases zB ae with⟨c4,ae⟩|⟨c4,ae⟩
        ·exact yB zZ hC ba cd ae (Z4++[Hq c4,Hm (shM F6_ F6_ cd)])
        ·exact yB zZ hC ba au ae (Z4++[Hq c4])
       ·exact yB zZ hC ba au ae (Z3++[Hq c3,Hq c3,Hq c3,Hq c2,Hq c3,Hq c1,Hq c2,Hq c1,qF])
     ·exact yB zZ hC ba au ae (Z1++(rpN 8 (Hq c1) [qF]))
    ·obtain⟨t5,ht5,ae⟩:=zb ae;refine yLx zZ hC vO [1,1,1,2,1,0,0,1,2,0,1,2,1,0] [J1,J2,J3,J4] (λs=>xY r_ n_ s.1 s.2) (λx=>z2Q m_ r_ au n_ x.1 x.2) (([]:List (List Int)),0) ht5 [(1,.own (.box (zD m_))),(3,.d (eSl 1 false F6_ r_)),(4,.d (eSl 1 false F6_ au)),(5,.d (I n_)),(6,.own (eOs 1 true F6_ [])),(7,.d (I 0))] inferInstance [] ?_;rintro⟨dr,i_⟩ m5 ck aj hl2 J5 bz;try unfold xY at aj
     let Z5:List HO:=[Ha (lnM F6_ r_)];rcases zB aj with⟨c5,aj⟩|⟨c5,aj⟩
     ·refine yJ zZ hC vO [1,1,1,2,1,0,0,1,2,0,1,2,1,0,0,1] [J1,J2,J3,J4,J5] [1,3,4,5,6,7] (λz:List (List Int)=>Zc i_ z=some ck) (λz=>z2S m_ r_ au n_ i_ z) [(1,.own (.box (zD m_))),(3,.d (eSl 1 false F6_ r_)),(4,.d (eSl 1 false F6_ au)),(5,.d (I n_)),(6,.own (eOs 1 false F6_ dr)),(7,.d (I i_))] (Z5++[Hq c5,Hh (.cut 0)]) ?_ λJ6 cw=>?_
      ·rintro il aj;unfold Zc at aj;obtain rfl:=za aj;exact yB zZ hC bz (il,w64 (i_+1)) hl2 []
      ·obtain⟨g1,aj⟩:=gdE aj;obtain⟨g2,aj⟩:=gdE aj;rcases zB aj with⟨c6,aj⟩|⟨c6,aj⟩
       ·obtain⟨cm,h3,aj⟩:=zb aj;obtain⟨g3,aj⟩:=gdE aj;exact yB ((zle prog).or zZ) hC cw (dr++([cm]:List (List Int))) aj [Hn g1,Hn g2,Hq c6,Hi F6_ h3,Hq (dM F6_ ([cm]:List (List Int))),Hn (dM F6_ ([cm]:List (List Int))),Hn (aL F6_ F6_ g3),Hl (aM F6_ dr ([cm]:List (List Int)))]
       ·exact yB ((zle prog).or zZ) hC cw dr aj [Hn g1,Hn g2,Hq c6]
     ·obtain rfl:=za aj;obtain rfl:=hl2;exact yB zZ hC bw dr ae (Z5++[Hq c5])
  ·obtain rfl:=za ae;obtain rfl:=hl1;exact yB ((zlf prog).or zZ) hC ap au aa (Z0++[Hq c0])
def z02:Code:=(Tryz.f4.body).getD .skip
def kS:zI:=spF (α:=ur) (ρ:=Bool) 4 (λx=>[(Y2 z0k) x]) (λr=>eB r) (λx=>kD x) [] (WJ)
theorem z0E (hC:zy prog ctr)(h2c:ctr.Has JI)(h0A:ctr.Has Y8)(h0B:ctr.Has Qc)(h0T:ctr.Has QK)(h0n:ctr.Has YR)(h2d:ctr.Has VI)(h00:ctr.Has Va):kS.Ok prog:=by
 refine zx ?_;rintro x_ r0 aa;try unfold kD at aa;refine yO true [(2,none)] z02 53 func4 λE hE=>?_;obtain⟨r_,h0,aa⟩:=zb aa;obtain⟨ah,h1,aa⟩:=zb aa;obtain⟨al,h2,aa⟩:=zb aa
 let Z0:List HO:=[Hc h2c (x:=(ur.mk x_.C)) h0 (loC (Y2 z0k) (ur.mk x_.C) <| loN),Hc h0A (x:=r_) h1 (loC zD r_ <| loN),Hc h0B (x:=r_) h2 (loC zD r_ <| loN),Ha (lnM F6_ al)];rcases zB aa with⟨c0,aa⟩|⟨c0,aa⟩
 ·rcases zB aa with⟨c1,aa⟩|⟨c1,aa⟩
  ·let Z1:List HO:=(Z0++[Hq c0,Hq c1,Hq c1,Ha (lnM F2_ ah.1),Hq c1,Hq c1]);rcases zB aa with⟨c2,aa⟩|⟨c2,aa⟩
   ·obtain⟨ax,h3,aa⟩:=zb aa;obtain rfl:=za aa;exact yE X0 hC hE (Z1++[Hq c2,Hc h0T (x:=()) h3 (loN),Hq c2])
   ·obtain rfl:=za aa;exact yE X0 hC hE (Z1++[Hq c2,Hq c2])
  ·obtain rfl:=za aa;exact yE X0 hC hE (Z0++(Hq c0::(rpN 4 (Hq c1) [qF,qF])))
 ·obtain⟨bm,h4,aa⟩:=zb aa;let Z2:List HO:=(Z0++[Hq c0,Hc h0n (x:=(r_,ah.1)) h4 (loC zD r_ <| loC F9_ ah.1 <| loN)]);rcases zB aa with⟨c3,aa⟩|⟨c3,aa⟩
  ·obtain⟨ct,h5,aa⟩:=zb aa;obtain⟨ia,h6,aa⟩:=zb aa;let Z3:List HO:=(Z2++[Hq c3,Hq c3,Hq c3,Hc h2d (x:=r_) h5 (loC zD r_ <| loN),Hq c3,Hn (ZN (f:=.fn 11 []) (xs:=[F9_ ah.1,xy ct]) (ls:=[]) (r:=B ia) (ys:=[]) [F9_ ah.1,xy ct] (show z0Y [F9_ ah.1,xy ct] [F9_ ah.1,xy ct] from inferInstance)),Hq c3]);rcases zB aa with⟨c4,aa⟩|⟨c4,aa⟩
   ·rcases zB aa with⟨c5,aa⟩|⟨c5,aa⟩
    ·let Z4:List HO:=(Z3++[Hq c4,Hq c4,Hq c4,Hq c5,Hq c5]);rcases zB aa with⟨c6,aa⟩|⟨c6,aa⟩
     ·obtain⟨ka,h7,aa⟩:=zb aa;obtain rfl:=za aa;exact yE ((uu (P:=prog) yp [] (lentCall (yi hC h00 (x:=(ah.1,ct)) h6)) 41).or X0) hC hE (Z4++[Hq c6,Hc h0T (x:=()) h7 (loN),Hq c6])
     ·obtain rfl:=za aa;exact yE ((uu (P:=prog) yp [] (lentCall (yi hC h00 (x:=(ah.1,ct)) h6)) 41).or X0) hC hE (Z4++[Hq c6,Hq c6])
    ·obtain rfl:=za aa;exact yE ((uu (P:=prog) yp [] (lentCall (yi hC h00 (x:=(ah.1,ct)) h6)) 41).or X0) hC hE (Z3++[Hq c4,Hq c4,Hq c4,Hq c5,Hq c5,qF,qF])
   ·obtain rfl:=za aa;exact yE ((uu (P:=prog) yp [] (lentCall (yi hC h00 (x:=(ah.1,ct)) h6)) 41).or X0) hC hE (Z3++(Hq c4::Hq c4::Hq c4::(rpN 4 qF [])))
  ·obtain rfl:=za aa;exact yE X0 hC hE (Z2++(rpN 5 (Hq c3) (rpN 7 qF [])))
variable {l:List zI}
theorem zR {s:zI}(h:((l.map zI.k).contains s.k)=false):∀t∈l,t.k≠s.k:=by
 intro t ht e;have:(l.map zI.k).contains s.k=true:=by rw[mN,<-e];exact List.mem_map_of_mem ht
 rw[h]at this;cases this
theorem zl {c:Ctr}(H:∀t∈l,c.Has t)(i:Nat){s:zI}(h:l[i]?=some s):c.Has s:=H _ (pw h)
def L0:List zI:=VQ::[]
def L1:List zI:=JJ::L0
def L2:List zI:=QG::L1
def L3:List zI:=VL::L2
def L4:List zI:=YO::L3
def L5:List zI:=VK::L4
def L6:List zI:=Y7::L5
def L7:List zI:=YP::L6
def L8:List zI:=QJ::L7
def L9:List zI:=JD::L8
def L10:List zI:=QH::L9
def L11:List zI:=VN::L10
def L12:List zI:=JE::L11
def L13:List zI:=QI::L12
def L14:List zI:=YN::L13
def L15:List zI:=WR::L14
def L16:List zI:=KF::L15
def L17:List zI:=WQ::L16
def L18:List zI:=JI::L17
def L19:List zI:=qS::L18
def L20:List zI:=WU::L19
def L21:List zI:=Yp::L20
def L22:List zI:=xm::L21
def L23:List zI:=yK::L22
def L24:List zI:=xM::L23
def L25:List zI:=YQ::L24
def L26:List zI:=XM::L25
def L27:List zI:=vU::L26
def L28:List zI:=kQ::L27
def L29:List zI:=ZR::L28
def L30:List zI:=ZQ::L29
def L31:List zI:=uz::L30
def L32:List zI:=va::L31
def L33:List zI:=kR::L32
def L34:List zI:=ZP::L33
def L35:List zI:=XJ::L34
def L36:List zI:=VG::L35
def L37:List zI:=jV::L36
def L38:List zI:=xU::L37
def L39:List zI:=YL::L38
def L40:List zI:=kP::L39
def L41:List zI:=ZO::L40
def L42:List zI:=vA::L41
def L43:List zI:=vB::L42
def L44:List zI:=VU::L43
def L45:List zI:=uP::L44
def L46:List zI:=VE::L45
def L47:List zI:=VF::L46
def L48:List zI:=wL::L47
def L49:List zI:=xz::L48
def L50:List zI:=Yo::L49
def L51:List zI:=vb::L50
def L52:List zI:=ub::L51
def L53:List zI:=WO::L52
def L54:List zI:=vz::L53
def L55:List zI:=wB::L54
def L56:List zI:=XZ::L55
def L57:List zI:=W1::L56
def L58:List zI:=uR::L57
def L59:List zI:=WW::L58
def L60:List zI:=jW::L59
def L61:List zI:=uA::L60
def L62:List zI:=JK::L61
def L63:List zI:=qQ::L62
def L64:List zI:=XI::L63
def L65:List zI:=wC::L64
def L66:List zI:=W0::L65
def L67:List zI:=VD::L66
def L68:List zI:=YK::L67
def L69:List zI:=VS::L68
def L70:List zI:=Vb::L69
def L71:List zI:=XL::L70
def L72:List zI:=VO::L71
def L73:List zI:=VP::L72
def L74:List zI:=wn::L73
def L75:List zI:=kU::L74
def L76:List zI:=xA::L75
def L77:List zI:=vC::L76
def L78:List zI:=Yq::L77
def L79:List zI:=uS::L78
def L80:List zI:=jS::L79
def L81:List zI:=vd::L80
def L82:List zI:=vV::L81
def L83:List zI:=VT::L82
def L84:List zI:=Y8::L83
def L85:List zI:=Qd::L84
def L86:List zI:=WT::L85
def L87:List zI:=JF::L86
def L88:List zI:=VJ::L87
def L89:List zI:=JC::L88
def L90:List zI:=XK::L89
def L91:List zI:=qR::L90
def L92:List zI:=KE::L91
def L93:List zI:=JB::L92
def L94:List zI:=QB::L93
def L95:List zI:=Qc::L94
def L96:List zI:=WV::L95
def L97:List zI:=JG::L96
def L98:List zI:=W2::L97
def L99:List zI:=KG::L98
def zrZ:List zI:=Zs::L99
def zrY:List zI:=Va::zrZ
def zrX:List zI:=Qz::zrY
def zrW:List zI:=QA::zrX
def zrV:List zI:=kT::zrW
def zrU:List zI:=YR::zrV
def zrT:List zI:=Yr::zrU
def zrS:List zI:=uJ::zrT
def zrR:List zI:=YS::zrS
def zrQ:List zI:=JH::zrR
def zrP:List zI:=QK::zrQ
def zrO:List zI:=YM::zrP
def zrN:List zI:=QC::zrO
def zrM:List zI:=JA::zrN
def zrL:List zI:=WP::zrM
def zrK:List zI:=QE::zrL
def zrJ:List zI:=QD::zrK
def zrI:List zI:=QF::zrJ
def zrH:List zI:=VH::zrI
def zrG:List zI:=VI::zrH
def zsS:List zI:=kS::zrG
theorem zqA:zk prog L0:=⟨λ_ hC H=>z7t hC,zR (by kernel_rfl),trivial⟩
theorem zqz:zk prog L1:=⟨λ_ hC H=>z9H hC (zl H 0 rfl),zR (by kernel_rfl),zqA⟩
theorem zqy:zk prog L2:=⟨λ_ hC H=>z8v hC,zR (by kernel_rfl),zqz⟩
theorem zqx:zk prog L3:=⟨λ_ hC H=>z7p hC (zl H 0 rfl),zR (by kernel_rfl),zqy⟩
theorem zqw:zk prog L4:=⟨λ_ hC H=>z3s hC,zR (by kernel_rfl),zqx⟩
theorem zqv:zk prog L5:=⟨λ_ hC H=>z7o hC (zl H 1 rfl) (zl H 0 rfl),zR (by kernel_rfl),zqw⟩
theorem zqu:zk prog L6:=⟨λ_ hC H=>z5I hC (zl H 0 rfl),zR (by kernel_rfl),zqv⟩
theorem zqt:zk prog L7:=⟨λ_ hC H=>z9B hC,zR (by kernel_rfl),zqu⟩
theorem zqs:zk prog L8:=⟨λ_ hC H=>z8y hC (zl H 0 rfl),zR (by kernel_rfl),zqt⟩
theorem zqr:zk prog L9:=⟨λ_ hC H=>z9z hC,zR (by kernel_rfl),zqs⟩
theorem zp0:zk prog L10:=⟨λ_ hC H=>z8w hC (zl H 1 rfl) (zl H 0 rfl),zR (by kernel_rfl),zqr⟩
theorem zoZ:zk prog L11:=⟨λ_ hC H=>z7q hC (zl H 0 rfl),zR (by kernel_rfl),zp0⟩
theorem zoY:zk prog L12:=⟨λ_ hC H=>z9A hC,zR (by kernel_rfl),zoZ⟩
theorem zoX:zk prog L13:=⟨λ_ hC H=>z8x hC (zl H 1 rfl) (zl H 0 rfl),zR (by kernel_rfl),zoY⟩
theorem zoW:zk prog L14:=⟨λ_ hC H=>z7m hC (zl H 7 rfl) (zl H 0 rfl),zR (by kernel_rfl),zoX⟩
theorem zoV:zk prog L15:=⟨λ_ hC H=>z5J hC,zR (by kernel_rfl),zoW⟩
theorem zoU:zk prog L16:=⟨λ_ hC H=>zb3 hC (zl H 9 rfl) (zl H 1 rfl) (zl H 0 rfl),zR (by kernel_rfl),zoV⟩
theorem zoT:zk prog L17:=⟨λ_ hC H=>z5H hC (zl H 2 rfl) (zl H 0 rfl),zR (by kernel_rfl),zoU⟩
theorem zoS:zk prog L18:=⟨λ_ hC H=>z9G hC (zl H 16 rfl) (zl H 0 rfl),zR (by kernel_rfl),zoT⟩
theorem zoR:zk prog L19:=⟨λ_ hC H=>z5M hC,zR (by kernel_rfl),zoS⟩
theorem zoQ:zk prog L20:=⟨λ_ hC H=>z5N hC (zl H 0 rfl),zR (by kernel_rfl),zoR⟩
theorem zoP:zk prog L21:=⟨λ_ hC H=>z2f hC (zl H 0 rfl),zR (by kernel_rfl),zoQ⟩
theorem zoO:zk prog L22:=⟨λ_ hC H=>ZT hC (zl H 0 rfl),zR (by kernel_rfl),zoP⟩
theorem zoN:zk prog L23:=⟨λ_ hC H=>kO hC (zl H 0 rfl),zR (by kernel_rfl),zoO⟩
theorem zoM:zk prog L24:=⟨λ_ hC H=>z4U hC (zl H 0 rfl),zR (by kernel_rfl),zoN⟩
theorem zoL:zk prog L25:=⟨λ_ hC H=>z3t hC,zR (by kernel_rfl),zoM⟩
theorem zoK:zk prog L26:=⟨λ_ hC H=>z4T hC,zR (by kernel_rfl),zoL⟩
theorem zoJ:zk prog L27:=⟨λ_ hC H=>Qv hC,zR (by kernel_rfl),zoK⟩
theorem zoI:zk prog L28:=⟨λ_ hC H=>z0C hC (zl H 1 rfl) (zl H 8 rfl) (zl H 0 rfl),zR (by kernel_rfl),zoJ⟩
theorem zoH:zk prog L29:=⟨λ_ hC H=>z17 hC (zl H 4 rfl) (zl H 0 rfl),zR (by kernel_rfl),zoI⟩
theorem zoG:zk prog L30:=⟨λ_ hC H=>z16 hC (zl H 0 rfl),zR (by kernel_rfl),zoH⟩
theorem zoF:zk prog L31:=⟨λ_ hC H=>QZ hC,zR (by kernel_rfl),zoG⟩
theorem zoE:zk prog L32:=⟨λ_ hC H=>Vy hC (zl H 0 rfl),zR (by kernel_rfl),zoF⟩
theorem zoD:zk prog L33:=⟨λ_ hC H=>z0D hC (zl H 8 rfl) (zl H 0 rfl),zR (by kernel_rfl),zoE⟩
theorem zoC:zk prog L34:=⟨λ_ hC H=>z15 hC (zl H 0 rfl),zR (by kernel_rfl),zoD⟩
theorem zoB:zk prog L35:=⟨λ_ hC H=>z4Q hC,zR (by kernel_rfl),zoC⟩
theorem zoA:zk prog L36:=⟨λ_ hC H=>z7j hC,zR (by kernel_rfl),zoB⟩
theorem zoz:zk prog L37:=⟨λ_ hC H=>z3p hC (zl H 0 rfl),zR (by kernel_rfl),zoA⟩
theorem zoy:zk prog L38:=⟨λ_ hC H=>Kd hC,zR (by kernel_rfl),zoz⟩
theorem zox:zk prog L39:=⟨λ_ hC H=>z3q hC (zl H 14 rfl) (zl H 3 rfl) (zl H 1 rfl) (zl H 0 rfl),zR (by kernel_rfl),zoy⟩
theorem zow:zk prog L40:=⟨λ_ hC H=>z0B hC,zR (by kernel_rfl),zox⟩
theorem zov:zk prog L41:=⟨λ_ hC H=>z14 hC (zl H 1 rfl) (zl H 0 rfl),zR (by kernel_rfl),zow⟩
theorem zou:zk prog L42:=⟨λ_ hC H=>z2d hC (zl H 17 rfl) (zl H 16 rfl) (zl H 11 rfl) (zl H 7 rfl) (zl H 0 rfl),zR (by kernel_rfl),zov⟩
theorem zot:zk prog L43:=⟨λ_ hC H=>z7w hC,zR (by kernel_rfl),zou⟩
theorem zos:zk prog L44:=⟨λ_ hC H=>z7z hC,zR (by kernel_rfl),zot⟩
theorem zor:zk prog L45:=⟨λ_ hC H=>z4O hC,zR (by kernel_rfl),zos⟩
theorem zoq:zk prog L46:=⟨λ_ hC H=>z7h hC (zl H 21 rfl) (zl H 0 rfl),zR (by kernel_rfl),zor⟩
theorem zop:zk prog L47:=⟨λ_ hC H=>z7i hC,zR (by kernel_rfl),zoq⟩
theorem zoo:zk prog L48:=⟨λ_ hC H=>Ju hC,zR (by kernel_rfl),zop⟩
theorem zon:zk prog L49:=⟨λ_ hC H=>KA hC,zR (by kernel_rfl),zoo⟩
theorem zom:zk prog L50:=⟨λ_ hC H=>z2a hC (zl H 2 rfl) (zl H 1 rfl) (zl H 0 rfl),zR (by kernel_rfl),zon⟩
theorem zol:zk prog L51:=⟨λ_ hC H=>Ke hC,zR (by kernel_rfl),zom⟩
theorem zok:zk prog L52:=⟨λ_ hC H=>z3o hC (zl H 5 rfl) (zl H 1 rfl) (zl H 0 rfl) (zl H 2 rfl),zR (by kernel_rfl),zol⟩
theorem zoj:zk prog L53:=⟨λ_ hC H=>z5E hC,zR (by kernel_rfl),zok⟩
theorem zoi:zk prog L54:=⟨λ_ hC H=>UR hC (zl H 0 rfl),zR (by kernel_rfl),zoj⟩
theorem zoh:zk prog L55:=⟨λ_ hC H=>WK hC (zl H 0 rfl),zR (by kernel_rfl),zoi⟩
theorem zog:zk prog L56:=⟨λ_ hC H=>z8l hC (zl H 0 rfl),zR (by kernel_rfl),zoh⟩
theorem zof:zk prog L57:=⟨λ_ hC H=>z8n hC (zl H 0 rfl),zR (by kernel_rfl),zog⟩
theorem zoe:zk prog L58:=⟨λ_ hC H=>Jv hC,zR (by kernel_rfl),zof⟩
theorem zod:zk prog L59:=⟨λ_ hC H=>z5Q hC,zR (by kernel_rfl),zoe⟩
theorem zoc:zk prog L60:=⟨λ_ hC H=>z3v hC (zl H 0 rfl),zR (by kernel_rfl),zod⟩
theorem zob:zk prog L61:=⟨λ_ hC H=>J0 hC (zl H 0 rfl),zR (by kernel_rfl),zoc⟩
theorem zoa:zk prog L62:=⟨λ_ hC H=>z9J hC,zR (by kernel_rfl),zob⟩
theorem zo9:zk prog L63:=⟨λ_ hC H=>z5D hC (zl H 2 rfl) (zl H 1 rfl) (zl H 0 rfl),zR (by kernel_rfl),zoa⟩
theorem zo8:zk prog L64:=⟨λ_ hC H=>z4N hC (zl H 0 rfl),zR (by kernel_rfl),zo9⟩
theorem zo7:zk prog L65:=⟨λ_ hC H=>WL hC (zl H 0 rfl),zR (by kernel_rfl),zo8⟩
theorem zo6:zk prog L66:=⟨λ_ hC H=>z8m hC,zR (by kernel_rfl),zo7⟩
theorem zo5:zk prog L67:=⟨λ_ hC H=>z7g hC (zl H 8 rfl) (zl H 3 rfl) (zl H 1 rfl) (zl H 0 rfl) (zl H 15 rfl) (zl H 17 rfl),zR (by kernel_rfl),zo6⟩
theorem zo4:zk prog L68:=⟨λ_ hC H=>z9u hC (zl H 10 rfl) (zl H 0 rfl),zR (by kernel_rfl),zo5⟩
theorem zo3:zk prog L69:=⟨λ_ hC H=>z7u hC (zl H 25 rfl) (zl H 24 rfl) (zl H 16 rfl) (zl H 0 rfl),zR (by kernel_rfl),zo4⟩
theorem zo2:zk prog L70:=⟨λ_ hC H=>z9I hC (zl H 27 rfl) (zl H 0 rfl),zR (by kernel_rfl),zo3⟩
theorem zo1:zk prog L71:=⟨λ_ hC H=>z4S hC (zl H 46 rfl),zR (by kernel_rfl),zo2⟩
theorem zo0:zk prog L72:=⟨λ_ hC H=>z7r hC (zl H 52 rfl),zR (by kernel_rfl),zo1⟩
theorem znZ:zk prog L73:=⟨λ_ hC H=>z7s hC (zl H 1 rfl) (zl H 16 rfl) (zl H 0 rfl),zR (by kernel_rfl),zo0⟩
theorem znY:zk prog L74:=⟨λ_ hC H=>z2h hC (zl H 0 rfl),zR (by kernel_rfl),znZ⟩
theorem znX:zk prog L75:=⟨λ_ hC H=>z0F hC (zl H 36 rfl),zR (by kernel_rfl),znY⟩
theorem znW:zk prog L76:=⟨λ_ hC H=>Yn hC (zl H 0 rfl),zR (by kernel_rfl),znX⟩
theorem znV:zk prog L77:=⟨λ_ hC H=>z2j hC (zl H 0 rfl),zR (by kernel_rfl),znW⟩
theorem znU:zk prog L78:=⟨λ_ hC H=>z2i hC (zl H 34 rfl) (zl H 3 rfl) (zl H 0 rfl),zR (by kernel_rfl),znV⟩
theorem znT:zk prog L79:=⟨λ_ hC H=>Jw hC,zR (by kernel_rfl),znU⟩
theorem znS:zk prog L80:=⟨λ_ hC H=>KB hC (zl H 0 rfl),zR (by kernel_rfl),znT⟩
theorem znR:zk prog L81:=⟨λ_ hC H=>Vz hC,zR (by kernel_rfl),znS⟩
theorem znQ:zk prog L82:=⟨λ_ hC H=>Qw hC (zl H 0 rfl),zR (by kernel_rfl),znR⟩
theorem znP:zk prog L83:=⟨λ_ hC H=>z7x hC (zl H 0 rfl),zR (by kernel_rfl),znQ⟩
theorem znO:zk prog L84:=⟨λ_ hC H=>z5P hC (zl H 13 rfl) (zl H 5 rfl) (zl H 3 rfl) (zl H 0 rfl),zR (by kernel_rfl),znP⟩
theorem znN:zk prog L85:=⟨λ_ hC H=>zb4 hC (zl H 77 rfl),zR (by kernel_rfl),znO⟩
theorem znM:zk prog L86:=⟨λ_ hC H=>z5L hC,zR (by kernel_rfl),znN⟩
theorem znL:zk prog L87:=⟨λ_ hC H=>z9C hC (zl H 0 rfl),zR (by kernel_rfl),znM⟩
theorem znK:zk prog L88:=⟨λ_ hC H=>z7n hC (zl H 2 rfl) (zl H 0 rfl),zR (by kernel_rfl),znL⟩
theorem znJ:zk prog L89:=⟨λ_ hC H=>z9y hC,zR (by kernel_rfl),znK⟩
theorem znI:zk prog L90:=⟨λ_ hC H=>z4R hC (zl H 1 rfl) (zl H 0 rfl),zR (by kernel_rfl),znJ⟩
theorem znH:zk prog L91:=⟨λ_ hC H=>z5G hC,zR (by kernel_rfl),znI⟩
theorem znG:zk prog L92:=⟨λ_ hC H=>zb2 hC (zl H 0 rfl),zR (by kernel_rfl),znH⟩
theorem znF:zk prog L93:=⟨λ_ hC H=>z9w hC (zl H 0 rfl),zR (by kernel_rfl),znG⟩
theorem znE:zk prog L94:=⟨λ_ hC H=>z8q hC (zl H 3 rfl) (zl H 0 rfl),zR (by kernel_rfl),znF⟩
theorem znD:zk prog L95:=⟨λ_ hC H=>zb1 hC (zl H 0 rfl),zR (by kernel_rfl),znE⟩
theorem znC:zk prog L96:=⟨λ_ hC H=>z5O hC,zR (by kernel_rfl),znD⟩
theorem znB:zk prog L97:=⟨λ_ hC H=>z9E hC,zR (by kernel_rfl),znC⟩
theorem znA:zk prog L98:=⟨λ_ hC H=>z8A hC,zR (by kernel_rfl),znB⟩
theorem znz:zk prog L99:=⟨λ_ hC H=>zb5 hC (zl H 56 rfl) (zl H 55 rfl) (zl H 0 rfl) (zl H 46 rfl) (zl H 30 rfl),zR (by kernel_rfl),znA⟩
theorem zl2:zk prog zrZ:=⟨λ_ hC H=>z9x hC (zl H 8 rfl),zR (by kernel_rfl),znz⟩
theorem zl1:zk prog zrY:=⟨λ_ hC H=>z9D hC (zl H 0 rfl),zR (by kernel_rfl),zl2⟩
theorem zl0:zk prog zrX:=⟨λ_ hC H=>z8o hC (zl H 38 rfl),zR (by kernel_rfl),zl1⟩
theorem zkZ:zk prog zrW:=⟨λ_ hC H=>z8p hC (zl H 45 rfl) (zl H 0 rfl) (zl H 36 rfl),zR (by kernel_rfl),zl0⟩
theorem zkY:zk prog zrV:=⟨λ_ hC H=>z7v hC (zl H 61 rfl) (zl H 0 rfl),zR (by kernel_rfl),zkZ⟩
theorem zkX:zk prog zrU:=⟨λ_ hC H=>z7y hC (zl H 0 rfl) (zl H 30 rfl) (zl H 61 rfl) (zl H 27 rfl),zR (by kernel_rfl),zkY⟩
theorem zkW:zk prog zrT:=⟨λ_ hC H=>z2k hC (zl H 1 rfl) (zl H 31 rfl),zR (by kernel_rfl),zkX⟩
theorem zkV:zk prog zrS:=⟨λ_ hC H=>z18 hC,zR (by kernel_rfl),zkW⟩
theorem zkU:zk prog zrR:=⟨λ_ hC H=>z3u hC (zl H 3 rfl) (zl H 0 rfl) (zl H 33 rfl) (zl H 30 rfl),zR (by kernel_rfl),zkV⟩
theorem zkT:zk prog zrQ:=⟨λ_ hC H=>z9F hC (zl H 8 rfl),zR (by kernel_rfl),zkU⟩
theorem zkS:zk prog zrP:=⟨λ_ hC H=>z8z hC (zl H 13 rfl) (zl H 12 rfl) (zl H 39 rfl) (zl H 10 rfl) (zl H 25 rfl) (zl H 8 rfl) (zl H 4 rfl) (zl H 3 rfl) (zl H 1 rfl) (zl H 0 rfl),zR (by kernel_rfl),zkT⟩
theorem zkR:zk prog zrO:=⟨λ_ hC H=>z3r hC (zl H 25 rfl),zR (by kernel_rfl),zkS⟩
theorem zkQ:zk prog zrN:=⟨λ_ hC H=>z8r hC (zl H 0 rfl) (zl H 11 rfl),zR (by kernel_rfl),zkR⟩
theorem zkP:zk prog zrM:=⟨λ_ hC H=>z9v hC,zR (by kernel_rfl),zkQ⟩
theorem zkO:zk prog zrL:=⟨λ_ hC H=>z5F hC,zR (by kernel_rfl),zkP⟩
theorem zkN:zk prog zrK:=⟨λ_ hC H=>z8t hC (zl H 1 rfl) (zl H 0 rfl),zR (by kernel_rfl),zkO⟩
theorem zkM:zk prog zrJ:=⟨λ_ hC H=>z8s hC,zR (by kernel_rfl),zkN⟩
theorem zkL:zk prog zrI:=⟨λ_ hC H=>z8u hC (zl H 1 rfl) (zl H 25 rfl) (zl H 0 rfl),zR (by kernel_rfl),zkM⟩
theorem zkK:zk prog zrH:=⟨λ_ hC H=>z7k hC (zl H 17 rfl) (zl H 0 rfl),zR (by kernel_rfl),zkL⟩
theorem zkJ:zk prog zrG:=⟨λ_ hC H=>z7l hC (zl H 23 rfl) (zl H 6 rfl) (zl H 0 rfl),zR (by kernel_rfl),zkK⟩
theorem zkI:zk prog zsS:=⟨λ_ hC H=>z0E hC (zl H 101 rfl) (zl H 35 rfl) (zl H 24 rfl) (zl H 9 rfl) (zl H 14 rfl) (zl H 0 rfl) (zl H 18 rfl),zR (by kernel_rfl),zkJ⟩
theorem zN {x:Int}(h1:-9223372036854775808<=x)(h2:x<=9223372036854775807):w64 x=x:=by simp only[w64,IntKind.wrap,IntKind.bits,IntKind.signed];simp;omega
section
variable {α β σ τ ρ:Type}
def Ret (x:Option α)(Q:α->Prop):Prop:=∃a,x=some a/\Q a
theorem Ret.mono {x:Option α}{Q R:α->Prop}(h:Ret x Q)(q:∀a,Q a->R a):Ret x R:=by obtain⟨a,e,h⟩:=h;exact⟨a,e,q a h⟩
theorem Ret.eq {x:Option α}{a:α}(h:Ret x λb=>b=a):x=some a:=by obtain⟨b,e,rfl⟩:=h;exact e
theorem ze {a:α}{Q:α->Prop}:Ret (some a) Q↔Q a:=⟨λ⟨b,e,q⟩=>by cases e;exact q,λq=>⟨a,rfl,q⟩⟩
theorem zw {x:Option α}{f:α->Option β}{Q:β->Prop}:Ret (Option.bind x f) Q↔Ret x λa=>Ret (f a) Q:=by
 cases x with
 | none=>exact⟨λ⟨b,e,_⟩=>(by cases e),λ⟨b,e,_⟩=>(by cases e)⟩
 | some a=>exact⟨λh=>⟨a,rfl,h⟩,λ⟨b,e,h⟩=>by cases e;exact h⟩
theorem Wn {p:Prop}[Decidable p]{x:Option α}{Q:α->Prop}:Ret (gd p x) Q↔p/\Ret x Q:=by
 unfold gd;by_cases h:p
 ·rw[if_pos h];exact⟨λq=>⟨h,q⟩,λq=>q.2⟩
 ·rw[if_neg h];exact⟨λ⟨b,e,_⟩=>by(cases e),λq=>(h q.1).elim⟩
theorem zz {c:Bool}{x y:Option α}{Q:α->Prop}:Ret (bif c then x else y) Q↔(c=true->Ret x Q)/\(c=false->Ret y Q):=by cases c <;> simp
theorem zbm {l:List α}{i:Int}{Q:α->Prop}:Ret (idx l i) Q↔0<=i/\∃x,l[i.toNat]?=some x/\Q x:=by
 cases i with
 | ofNat n=>show(∃a,l[n]?=some a/\Q a)↔_;simp
 | negSucc n=>exact⟨λ⟨b,e,_⟩=>by(cases e),λ⟨h,_⟩=>by omega⟩
theorem zH (l:List α)(i:Nat):idx l (i:Int)=l[i]?:=rfl
theorem gdT {p:Prop}[Decidable p]{x:Option α}(h:p):gd p x=x:=by unfold gd;rw[if_pos h]
theorem bdT {x:Option α}{u:α}{f:α->Option ρ}(h:x=some u):Option.bind x f=f u:=by rw[h];rfl
theorem Jh (step:σ->Option (LR σ τ))(n:Nat)(s:σ):z1l step (n+1) s=(match step s with|none=>none|some (.next s')=>z1l step n s'|some (.done t)=>some t):=rfl
def LRP (N:σ->Prop)(D:τ->Prop):LR σ τ->Prop
 | .next s=>N s
 | .done t=>D t
theorem zS {step:σ->Option (LR σ τ)}(I:σ->Prop)(m:σ->Nat){R:τ->Prop}{s:σ}(hs:I s)(hm:m s<18446744073709551616)
  (h:∀s,I s->Ret (step s) (LRP (λs'=>I s'/\m s' < m s) R)):Ret (loop step s) R:=by
 have gen:∀(n:Nat) (s:σ),I s->m s<n->Ret (z1l step n s) R:=by
  intro n;induction n with
  | zero=>intro s _ h;omega
  | succ n ih=>
   intro s hs hm;obtain⟨a,e,q⟩:=h s hs;rw[Jh,e];cases a with
   | next s'=>exact ih s' q.1 (by have:=q.2;omega)
   | done t=>exact⟨t,rfl,q⟩
 exact gen fuel s hs hm
theorem uK {step:σ->Option (LR σ τ)}(st:Nat->σ)(n:Nat){t:τ}(hn:n<9223372036854775808)(h:∀i,i<n->step (st i)=some (.next (st (i+1))))(hd:step (st n)=some (.done t)):loop step (st 0)=some t:=by
 have gen:∀(k:Nat) (i:Nat),i<=n->n - i<k->z1l step k (st i)=some t:=by
  intro k;induction k with
  | zero=>intro i _ h;omega
  | succ k ih=>
   intro i hi hk;rw[Jh];rcases pj i n with q|q
   ·rw[h i q];exact ih (i+1) q (by omega)
   ·have:i=n:=by omega
    subst this;rw[hd]
 exact gen fuel 0 (pv _) (by show n - 0<18446744073709551616;omega)
def yj (f:Nat->α->Option ρ):List α->Nat->Option ρ
 | [],_=>none
 | x::l,i=>match f i x with|some r=>some r|none=>yj f l (i+1)
theorem Yu {f:Nat->α->Option ρ}:∀{l:List α} {k:Nat},(∀i x,l[i]?=some x->f (k+i) x=none)->yj f l k=none
 | [],_,_=>rfl
 | x::l,k,h=>by have h0:=h 0 x rfl;simp only[gD]at h0;simp only[yj,h0];exact Yu λi y hy=>by have:=h (i+1) y (by simpa using hy);rwa[show k+1+i=k+(i+1) by omega]
theorem wY {f:Nat->α->Option ρ}{r:ρ}:∀{l:List α} {k:Nat},yj f l k=some r->∃i x,l[i]?=some x/\f (k+i) x=some r
 | [],_,h=>by cases h
 | x::l,k,h=>by
  simp only[yj]at h;cases hf:f k x with
  | some r'=>rw[hf]at h;exact⟨0,x,rfl,by rw[gD,hf];exact h⟩
  | none=>rw[hf]at h;obtain⟨i,y,h1,h2⟩:=wY h;exact⟨i+1,y,by simpa using h1,by rw[<-h2];congr 1;omega⟩
theorem vo {f:Nat->α->Option ρ}{l:List α}{k:Nat}(h:yj f l k=none):∀i x,l[i]?=some x->f (k+i) x=none:=by
 induction l generalizing k with
 | nil=>intro i x h;simp at h
 | cons y l ih=>
  intro i x hx;simp only[yj]at h;cases hf:f k y with
  | some r'=>rw[hf]at h;cases h
  | none=>
   rw[hf]at h;cases i with
   | zero=>simp at hx;subst hx;simpa using hf
   | succ i=>have:=ih h i x (by simpa using hx);rwa[show k+(i+1)=k+1+i by omega]
def oS:Option ρ->Unit⊕ρ
 | some r=>.inr r
 | none=>.inl ()
def nS (i:Nat):Option ρ->LR Int (Unit⊕ρ)
 | some r=>.done (.inr r)
 | none=>.next (w64 ((i:Int)+1))
theorem wk (l:List α)(hl:l.length<4611686018427387904){step:Int->Option (LR Int (Unit⊕ρ))}(f:Nat->α->Option ρ)
  (h:∀(i:Nat) (x:α),l[i]?=some x->step (i:Int)=some (nS i (f i x))) (h2:step (l.length:Int)=some (.done (.inl ()))) :
  loop step 0=some (oS (yj f l 0)):=by
 have gen:∀(n:Nat) (k:Nat),k<=l.length->l.length - k<n->z1l step n (k:Int)=some (oS (yj f (l.drop k) k)):=by
  intro n;induction n with
  | zero=>intro k _ h;omega
  | succ n ih=>
   intro k hk hn;rw[Jh];rcases pj k l.length with hlt|hge
   ·have hx:l[k]?=some l[k]:=p7 hlt;rw[h k _ hx,pF hlt];simp only[yj];cases hf:f k l[k] with
    | some r=>rfl
    | none=>simp only[nS];rw[zN (by omega) (by omega)];exact ih (k+1) hlt (by omega)
   ·have:k=l.length:=by omega
    subst this;rw[h2,List.drop_length];rfl
 exact gen fuel 0 (pv _) (by show l.length - 0<18446744073709551616;omega)
end
def zbD (m:z6)(x:z8):Bool:=(x.To == -1&&x.Out == -1) ||(decide (0<=x.To)&&decide (x.To<(m.Rows.length:Int))&&decide (0<=x.Out)&&decide (x.Out<m.Outputs))
def zdd (m:z6)(r:List z8):Bool:=decide ((r.length:Int)=m.Inputs)&&r.all (zbD m)
def chk (m:z6):Int :=
 if m.Inputs > 16\/m.Outputs > 16\/(m.Rows.length:Int) > 64 then 3 else if m.Inputs<1\/m.Outputs<1\/m.Rows.length=0 then 1 else if m.Rows.all (zdd m)=true then 0 else 1
theorem zke (m:z6)(x:z8):Xh m x=some (zbD m x):=by
 unfold Xh ul;simp only[mR,nq];rcases Bool.eq_false_or_eq_true (x.To==(-1)&&x.Out==(-1)) with h|h
 ·simp[zbD,h]
 ·rw[h];simp only[zbD,h,mP,cond_false];by_cases h1:(0:Int)<=x.To
  ·by_cases h2:x.To<(m.Rows.length:Int)
   ·by_cases h3:(0:Int)<=x.Out
    ·simp[gL,h1,h2,h3]
    ·simp[gL,h1,h2,h3]
   ·simp[gL,h1,h2]
  ·simp[h1]
theorem zbK (m:z6)(r:List z8)(hl:r.length<4611686018427387904):y4 r m=some (!r.all (zbD m)):=by
 have hloop:loop (λs=>zU r m s) 0=some (oS (yj (λi x=>if zbD m x=true then none else some (i:Int)) r 0)):=by
  refine wk r hl _ ?_ ?_
  ·intro i x hx;have hi:=(p8.1 hx).1;unfold zU;have hd:decide ((i:Int)<((r.length:Nat):Int))=true:=by simpa using hi
   rw[hd,cond_true,zH,bdT hx];unfold Yj;simp only[zke,mR];cases zbD m x <;> rfl
  ·unfold zU;simp
 unfold y4 yz;rw[hloop];simp only[mR];cases hf:yj (λi x=>if zbD m x=true then none else some (i:Int)) r 0 with
 | some q=>
  obtain⟨i,x,h1,h2⟩:=wY hf;have hx:zbD m x≠true:=by intro h;rw[if_pos h]at h2;cases h2
  rw[if_neg hx]at h2;simp only[Option.some.injEq]at h2;have:r.all (zbD m)=false:=by rw[List.all_eq_false];exact⟨x,pw h1,hx⟩
  rw[this];have:(q:Int)>=0:=by rw[<-h2];omega
  show some (decide (q>=0))=_;simp[this]
 | none=>
  have:r.all (zbD m)=true:=by
   rw[pD];intro x hx;obtain⟨i,hi⟩:=List.getElem?_of_mem hx;have:=vo hf i x hi;by_cases h:zbD m x=true
   ·exact h
   ·rw[if_neg h]at this;cases this
  rw[this];rfl
theorem zds {m:z6}(h0:(m.Rows.length:Int)<=64)(h1:m.Inputs<=16):loop (λs=>vu m s) 0=some (oS (yj (λ_ r=>if zdd m r=true then none else some (1:Int)) m.Rows 0)):=by
 refine wk m.Rows (by omega) _ ?_ ?_
 ·intro i r hr;have hi:=(p8.1 hr).1;unfold vu;have hd:decide ((i:Int)<((m.Rows.length:Nat):Int))=true:=by simpa using hi
  rw[hd,cond_true,zH,bdT hr];by_cases hlen:(r.length:Int)=m.Inputs
  ·have hne:(((r.length:Nat):Int) != m.Inputs)=false:=by simpa using hlen
   rw[hne,cond_false,bdT (zbK m r (by omega))];have:zdd m r=r.all (zbD m):=by simp[zdd,hlen]
   rw[this];cases r.all (zbD m) <;> rfl
  ·have hne:(((r.length:Nat):Int) != m.Inputs)=true:=by simpa using hlen
   rw[hne,cond_true];have:zdd m r=false:=by simp[zdd,hlen]
   rw[this];rfl
 ·unfold vu;simp
theorem zdc (m:z6):yj (λ_ r=>if zdd m r=true then none else some (1:Int)) m.Rows 0=if m.Rows.all (zdd m)=true then none else some 1:=by
 by_cases h:m.Rows.all (zdd m)=true
 ·rw[if_pos h];refine Yu λi r hr=>?_;rw[if_pos (pD.1 h r (pw hr))]
 ·rw[if_neg h];cases hf:yj (λ_ r=>if zdd m r=true then none else some (1:Int)) m.Rows 0 with
  | some q=>
   obtain⟨i,x,h1,h2⟩:=wY hf;split at h2
   ·cases h2
   ·exact h2.symm ▸ rfl
  | none=>
   exfalso;apply h;rw[pD];intro x hx;obtain⟨i,hi⟩:=List.getElem?_of_mem hx;have:=vo hf i x hi;by_cases h:zdd m x=true
   ·exact h
   ·rw[if_neg h]at this;cases this
theorem z0w (m:z6):xS m=some (chk m):=by
 unfold xS chk;by_cases h1:m.Inputs > 16
 ·simp[h1]
 by_cases h2:m.Outputs > 16
 ·simp[gL,h1,h2]
 by_cases h3:(m.Rows.length:Int) > 64
 ·simp[gL,h1,h2,h3]
 rw[if_neg (by simp[gL,h1,h2,h3])];by_cases h4:m.Inputs<1
 ·simp[gL,h1,h2,h3,h4]
 by_cases h5:m.Outputs<1
 ·simp[gL,h1,h2,h3,h4,h5]
 by_cases h6:m.Rows.length=0
 ·simp[gL,h1,h2,h4,h5,h6]
 rw[if_neg (by simp[h4,h5,h6])];have h6':decide (((m.Rows.length:Nat):Int)<1)=false:=by simp;omega
 have e1:decide (m.Inputs > 16)=false:=by simpa using h1
 have e2:decide (m.Outputs > 16)=false:=by simpa using h2
 have e3:decide (((m.Rows.length:Nat):Int) > 64)=false:=by simpa using h3
 have e4:decide (m.Inputs<1)=false:=by simpa using h4
 have e5:decide (m.Outputs<1)=false:=by simpa using h5
 simp only[e1,e2,e3,e4,e5,h6',cond_false];rw[bdT (zds (by omega) (by omega)),zdc];by_cases h:m.Rows.all (zdd m)=true
 ·rw[if_pos h,if_pos h];rfl
 ·rw[if_neg h,if_neg h];rfl
structure VM (m:z6):Prop where
 in1:1<=m.Inputs
 in16:m.Inputs<=16
 out1:1<=m.Outputs
 out16:m.Outputs<=16
 len1:1<=m.Rows.length
 len64:m.Rows.length<=64
 row:∀r∈m.Rows,(r.length:Int)=m.Inputs
 edge:∀r∈m.Rows,∀x∈r,(x.To=-1/\x.Out=-1)\/(0<=x.To/\x.To<(m.Rows.length:Int)/\0<=x.Out/\x.Out<m.Outputs)
theorem z89 {m:z6}(h:VM m):chk m=0:=by
 unfold chk;have:=h.in1;have:=h.in16;have:=h.out1;have:=h.out16;have:=h.len1;have:=h.len64;rw[if_neg (by omega),if_neg (by omega),if_pos];rw[pD];intro r hr;simp only[zdd,ph,decide_eq_true_eq,pD];refine⟨h.row r hr,λx hx=>?_⟩;simp only[zbD,pV,ph,beq_iff_eq,decide_eq_true_eq];rcases h.edge r hr x hx with⟨a,b⟩|⟨a,b,c,d⟩
 ·exact .inl ⟨a,b⟩
 ·exact .inr ⟨⟨⟨a,b⟩,c⟩,d⟩
def kk (m:z6):Nat:=m.Inputs.toNat
def E (m:z6)(s i:Nat):z8:=((m.Rows[s]?.getD [])[i]?).getD ⟨-1,-1⟩
variable {s i:Nat}
section
variable {m:z6}(h:VM m)
include h
theorem VM.kk_eq:((kk m:Nat):Int)=m.Inputs:=by have:=h.in1;unfold kk;omega
theorem VM.kk_pos:1<=kk m:=by have:=h.in1;unfold kk;omega
theorem VM.kk_le:kk m<=16:=by have:=h.in16;unfold kk;omega
theorem VM.rowAt {s:Nat}(hs:s<m.Rows.length):∃r,m.Rows[s]?=some r/\r.length=kk m/\∀i,i<kk m->r[i]?=some (E m s i):=by
 have hr:=p7 hs;have hl:=h.row _ (pn hs);have hl':m.Rows[s].length=kk m:=by unfold kk;omega
 refine⟨_,hr,hl',λi hi=>?_⟩;have hi':i<m.Rows[s].length:=by omega
 unfold E;rw[hr];simp only[pu];rw[p7 hi'];rfl
theorem VM.edgeAt (hs:s<m.Rows.length)(hi:i<kk m):((E m s i).To=-1/\(E m s i).Out=-1)\/(0<=(E m s i).To/\(E m s i).To<(m.Rows.length:Int)/\0<=(E m s i).Out/\(E m s i).Out<m.Outputs):=by obtain⟨r,h1,_,h2⟩:=h.rowAt hs;exact h.edge r (pw h1) _ (pw (h2 i hi))
theorem VM.edge_eq (hs:s<m.Rows.length)(hi:i<kk m){β:Type}{f:z8->Option β} :
  (Option.bind (idx m.Rows (s:Int)) λr=>Option.bind (idx r (i:Int)) f)=f (E m s i):=by
 obtain⟨r,h1,_,h2⟩:=h.rowAt hs;rw[zH,h1,mR,zH,h2 i hi,mR]
end
section
variable {K V:Type}[BEq K][LawfulBEq K]
theorem z5v (l:List (K×V))(x y:K)(v:V):z4D (zdh l x v) y=if(x==y)=true then some v else z4D l y:=by
 induction l with
 | nil=>simp only[zdh,z4D]
 | cons p l ih=>
  simp only[zdh];by_cases h:p.1=x
  ·rw[if_pos (by simpa using h)];simp only[z4D];by_cases q:x=y
   ·rw[if_pos (by simpa using q),if_pos (by simpa using q)]
   ·rw[if_neg (by simpa using q),if_neg (by simpa using q),if_neg (by rw[h];simpa using q)]
  ·rw[if_neg (by simpa using h)];simp only[z4D,ih];by_cases q:p.1=y
   ·have q':¬x=y:=by rintro rfl;exact h q
    have e1:(p.1==y)=true:=by simpa using q
    have e2:(x==y)=false:=by simpa using q'
    simp[e1,e2]
   ·have e1:(p.1==y)=false:=by simpa using q
    simp[e1]
end
section
variable {S:Type}
def z2I (k:Nat)(bad:S->Nat->Bool)(nx:S->Nat->Option S):S->List Nat->Prop
 | _,[]=>False
 | p,[i]=>i<k/\bad p i=true
 | p,i::w=>i<k/\bad p i=false/\∃q,nx p i=some q/\z2I k bad nx q w
variable {k:Nat}{bad:S->Nat->Bool}{nx:S->Nat->Option S}{p0:S}
def zdt:List Nat->List Nat->Prop
 | [],_=>True
 | i::u,j::v=>i<j\/i=j/\zdt u v
 | _::_,[]=>False
theorem z5U:∀{w:List Nat} {p:S},z2I k bad nx p w->∀x∈w,x<k
 | [],_,h=>h.elim
 | [i],_,h=>by simpa using h.1
 | i::j::w,_,⟨hi,_,q,_,h⟩=>by
  intro x hx;rcases pc.1 hx with rfl|hx
  ·exact hi
  ·exact z5U h x hx
def Mk (k:Nat)(bad:S->Nat->Bool)(nx:S->Nat->Option S):Nat->S->Prop
 | 0,_=>False
 | n+1,p=>Mk k bad nx n p\/∃i,i<k/\(bad p i=true\/∃q,nx p i=some q/\Mk k bad nx n q)
theorem Mk.mono {n m:Nat}{p:S}(h:Mk k bad nx n p)(hm:n<=m):Mk k bad nx m p:=by
 induction hm with
 | refl=>exact h
 | step _ ih=>exact .inl ih
theorem Mk.tell:∀{n:Nat} {p:S},Mk k bad nx n p->∃w,z2I k bad nx p w/\w.length<=n
 | 0,_,h=>h.elim
 | n+1,p,.inl h=>by obtain⟨w,h1,h2⟩:=Mk.tell h;exact⟨w,h1,by omega⟩
 | n+1,p,.inr ⟨i,hi,h⟩=>by
  by_cases hb:bad p i=true
  ·exact⟨[i],⟨hi,hb⟩,by simp⟩
  ·rcases h with h|⟨q,hq,h⟩
   ·exact(hb h).elim
   ·obtain⟨w,h1,h2⟩:=Mk.tell h;refine⟨i::w,?_,by simp;omega⟩;cases w with
    | nil=>exact h1.elim
    | cons j w=>exact⟨hi,by simpa using hb,q,hq,h1⟩
theorem Jy:∀{w:List Nat} {p:S},z2I k bad nx p w->Mk k bad nx w.length p
 | [],_,h=>h.elim
 | [i],p,h=>.inr ⟨i,h.1,.inl h.2⟩
 | i::j::w,p,⟨hi,hb,q,hn,h⟩=>.inr ⟨i,hi,.inr ⟨q,hn,Jy h⟩⟩
end
theorem Un:∀(n:Nat) (l:List Nat),l.Nodup->(∀x∈l,x<n)->l.length<=n
 | 0,l,_,h=>by
  cases l with
  | nil=>simp
  | cons x l=>have:=h x (by simp);omega
 | n+1,l,hd,h=>by
  by_cases hm:n∈l
  ·have h1:=List.length_erase_of_mem hm;have h2:=Un n (l.erase n) (hd.erase n) λx hx=>by have h3:=(hd.mem_erase_iff).1 hx;have:=h x h3.2;have:=h3.1;omega
   have:0<l.length:=List.length_pos_of_mem hm;omega
  ·have:=Un n l hd λx hx=>by have:=h x hx;have:x≠n:=λe=>hm (e ▸ hx);omega
   omega
def XB (a b:z6)(p:Nat×Nat)(i:Nat):Bool:=(E a p.1 i).Out !=(E b p.2 i).Out
def nxP (a b:z6)(p:Nat×Nat)(i:Nat):Option (Nat×Nat):=if 0<=(E a p.1 i).To/\0<=(E b p.2 i).To then some ((E a p.1 i).To.toNat,(E b p.2 i).To.toNat) else none
theorem zbt {a k:Int}(h0:0<=a)(hk:1<=k)(hk2:k<=1000000):1<=w64 (1+w64 (Int.tmod a k))/\w64 (1+w64 (Int.tmod a k))<=k:=by have h1:=nA k h0;have h2:=nD a (show 0<k by omega);rw[zN (x:=Int.tmod a k) (by omega) (by omega),zN (by omega) (by omega)];omega
theorem z6C {α:Type}{p q:α->Bool}:∀{l:List α},(∀x∈l,p x=true->q x=true)->(∃x∈l,q x=true/\p x=false)->l.countP p<l.countP q
 | [],_,⟨x,hx,_⟩=>by cases hx
 | y::l,h,⟨x,hx,h1,h2⟩=>by
  have hm:l.countP p<=l.countP q:=List.countP_mono_left λz hz=>h z (mC _ hz);simp only[nk];rcases pc.1 hx with rfl|hx
  ·simp only[h1,h2,if_true,po,if_false];omega
  ·have:=z6C (λz hz=>h z (mC _ hz)) ⟨x,hx,h1,h2⟩;cases hp:p y with
   | true=>simp only[h y (by simp) hp,if_true];omega
   | false=>simp only[po,if_false];split <;> omega
open Classical in
def zik (N:Nat)(R:Nat->Nat->Prop):Nat:=(List.range N).countP λs=>decide (∀t,t<s->¬R s t)
theorem zsc {N:Nat}(hN:0<N)(R:Nat->Nat->Nat->Prop)(symm:∀k s t,s<N->t<N->R k s t->R k t s)(trans:∀k s t u,s<N->t<N->u<N->R k s t->R k t u->R k s u)
  (refl:∀k s,s<N->R k s s) (mono:∀k s t,s<N->t<N->R (k+1) s t->R k s t) (stat:∀k,(∀s t,s<N->t<N->R k s t->R (k+1) s t)->∀s t,s<N->t<N->R (k+1) s t->R (k+2) s t) :
  ∀s t,s<N->t<N->R (N - 1) s t->∀j,R j s t:=by
 classical
 have step:∀k,(¬∀s t,s<N->t<N->R k s t->R (k+1) s t)->zik N (R k)<zik N (R (k+1)):=by
  intro k hk;simp only[Classical.not_forall]at hk;obtain⟨s,t,hs,ht,h1,h2⟩:=hk;unfold zik;refine z6C (λx hx=>?_) ?_
  ·have hx:=pM.1 hx;simp only[decide_eq_true_eq];exact λh t ht q=>h t ht (mono k x t hx (by omega) q)
  ·
   have hmin:∃z,z<N/\R k z s/\∀y,y<z->¬R k y s:=by
    have key:∀n,∀z,z<=n->z<N->R k z s->∃z,z<N/\R k z s/\∀y,y<z->¬R k y s:=by
     intro n;induction n with
     | zero=>intro z hz hzN hr;exact⟨z,hzN,hr,λy hy=>by omega⟩
     | succ n ih=>
      intro z hz hzN hr;by_cases q:∃y,y<z/\R k y s
      ·obtain⟨y,y1,y2⟩:=q;exact ih y (by omega) (by omega) y2
      ·exact⟨z,hzN,hr,λy hy g=>q ⟨y,hy,g⟩⟩
    exact key s s (pd _) hs (refl k s hs)
   obtain⟨z,hz,hzs,hzm⟩:=hmin;have hzt:R k z t:=trans k z s t hz hs ht hzs h1;obtain⟨u,hu,hzu,hne⟩:∃u,u<N/\R k z u/\¬R (k+1) z u:=by
    by_cases q:R (k+1) z s
    ·by_cases g:R (k+1) z t
     ·exact(h2 (trans (k+1) s z t hs hz ht (symm _ _ _ hz hs q) g)).elim
     ·exact⟨t,ht,hzt,g⟩
    ·exact⟨s,hs,hzs,q⟩
   have hmin:∃y,y<N/\R (k+1) y u/\∀x,x<y->¬R (k+1) x u:=by
    have key:∀n,∀z,z<=n->z<N->R (k+1) z u->∃z,z<N/\R (k+1) z u/\∀y,y<z->¬R (k+1) y u:=by
     intro n;induction n with
     | zero=>intro z hz hzN hr;exact⟨z,hzN,hr,λy hy=>by omega⟩
     | succ n ih=>
      intro z hz hzN hr;by_cases q:∃y,y<z/\R (k+1) y u
      ·obtain⟨y,y1,y2⟩:=q;exact ih y (by omega) (by omega) y2
      ·exact⟨z,hzN,hr,λy hy g=>q ⟨y,hy,g⟩⟩
    exact key u u (pd _) hu (refl _ u hu)
   obtain⟨y,hy,hyu,hym⟩:=hmin;have hyk:R k y u:=mono k y u hy hu hyu;have hyz:R k y z:=trans k y u z hy hu hz hyk (symm _ _ _ hz hu hzu);have hzy:z<y:=by
    rcases hU z y with g|g|g
    ·exact g
    ·subst g;exact(hne hyu).elim
    ·exact(hzm y g (trans k y z s hy hz hs hyz hzs)).elim
   refine⟨y,pM.2 hy,?_,?_⟩
   ·simp only[decide_eq_true_eq];intro x hx q;exact hym x hx (trans (k+1) x y u (by omega) hy hu (symm _ _ _ hy (by omega) q) hyu)
   ·simp only[decide_eq_false_iff_not];intro q;exact q z hzy hyz
 have le:∀k,zik N (R k)<=N:=by intro k;unfold zik;refine pI (List.countP_le_length) ?_;simp
 have one:∀k,1<=zik N (R k):=by intro k;unfold zik;refine List.countP_pos_iff.2 ⟨0,pM.2 hN,?_⟩;simp
 have rest:∃k,k<N/\∀s t,s<N->t<N->R k s t->R (k+1) s t:=by
  refine pA λhno=>?_;have:∀k,k<=N->k+1<=zik N (R k):=by
   intro k;induction k with
   | zero=>intro _;exact one 0
   | succ k ih=>intro hk;have:=step k λh=>hno ⟨k,by omega,h⟩;have:=ih (by omega);omega
  have:=this N (pd _);have:=le N;omega
 obtain⟨k,hk,hst⟩:=rest;have up:∀d,∀s t,s<N->t<N->R (k+d) s t->R (k+d+1) s t:=by
  intro d;induction d with
  | zero=>exact hst
  | succ d ih=>exact stat (k+d) ih
 have down:∀d j s t,s<N->t<N->R (j+d) s t->R j s t:=by
  intro d;induction d with
  | zero=>intro j s t _ _ h;exact h
  | succ d ih=>intro j s t hs ht h;exact ih j s t hs ht (mono _ s t hs ht h)
 intro s t hs ht h j;have hk':R k s t:=down (N - 1 - k) k s t hs ht (by rw[show k+(N - 1 - k)=N - 1 by omega];exact h);have far:∀d,R (k+d) s t:=by
  intro d;induction d with
  | zero=>exact hk'
  | succ d ih=>exact up d s t hs ht ih
 exact down k j s t hs ht (by rw[nC];exact far j)
section
variable {S S':Type}{k:Nat}{bad:S->Nat->Bool}{nx:S->Nat->Option S}{bad':S'->Nat->Bool}{nx':S'->Nat->Option S'}(φ:S->S')(I:S->Prop)
 (hI:∀p i q,I p->i<k->nx p i=some q->I q) (hb:∀p i,I p->i<k->bad' (φ p) i=bad p i) (hn:∀p i,I p->i<k->nx' (φ p) i=(nx p i).map φ)
include hI hb hn
end
end Go.Own
end
