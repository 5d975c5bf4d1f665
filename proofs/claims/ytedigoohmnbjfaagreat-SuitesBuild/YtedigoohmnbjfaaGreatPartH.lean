/- Walks, further. -/
import Derived.Test.YtedigoohmnbjfaaGreatPartG
noncomputable section
set_option linter.unusedVariables false
set_option linter.unusedSimpArgs false
namespace Go.Own
open Go.Proofs.Tryz
open Go.Proofs
set_option maxRecDepth 100000
set_option maxHeartbeats 8000000
def zdr:Code:=(f73.body).getD .skip
def Qg:zN:=spF (α:=Int×Int) (ρ:=List (List Int)×Int) 73 (λx=>[s8 x.1,s8 x.2]) (λr=>.tup [Us r.1,s8 r.2]) (λx=>QD x.1 x.2) [] (W2)
variable {ctr:Ctr}
theorem zdM (hC:zF prog ctr)(h0F:ctr.Has Kh):Qg.Ok prog:=by refine zC ?_;rintro⟨inputs,k_⟩ r0 aa;try unfold QD at aa;refine yO false [(4,none),(5,none)] zdr 11 func73 λE hE=>?_;obtain⟨r_,h0,aa⟩:=zc aa;obtain rfl:=za aa;exact yE X0 hC hE [Hc h0F (x:=(inputs,0,k_)) h0 (loC s8 inputs <| loC s8 0 <| loC s8 k_ <| loN)]
def KX:Code:=(f90.body).getD .skip
def KG:zN:=spF (α:=List (List Int)) (ρ:=Bool) 90 (λx=>[xh x]) (λr=>eB r) (λx=>QP x) [] (Q7)
abbrev z79:List (Nat×T):=[]
abbrev z78 (l_:List (List Int))(i_:Int):List (Nat×T):=[(0,.d (eSl 1 false F7_ l_)),(3,.d (I i_))]
theorem zct (hC:zF prog ctr)(h06:ctr.Has qe):KG.Ok prog:=by
 refine zC ?_;rintro l_ r0 aa;try unfold QP at aa;refine yO true [(2,none)] KX 21 func90 λE hE=>?_;refine yJ X0 hC KX [1] [] [] (λz:Unit=>VP=some r0) (λz=>z79) [(0,.d (eSl 1 false F7_ l_))] [Hh (.cut 1)] ?_ λJ1 aw=>?_
 ·rintro⟨⟩ aa;unfold VP at aa;obtain rfl:=za aa;exact yE X0 hC hE []
 ·obtain⟨t2,ht2,aa⟩:=zc aa;refine yL X0 hC KX [1,2,1,0] [J1] (λs=>Zp l_ s) (λx=>z78 l_ x) 1 ht2  [] ?_;rintro i_ m2 az ae hl1 J2 a6;try unfold Zp at ae
  let Z0:List HO:=[Ha (lnM F7_ l_)];rcases zI ae with⟨c0,ae⟩|⟨c0,ae⟩
  ·obtain⟨cd,h0,ae⟩:=zc ae;obtain⟨gi,h1,ae⟩:=zc ae;obtain⟨r_,h2,ae⟩:=zc ae;let Z1:List HO:=(Z0++[Hq c0,Hi F7_ h0,Hi F7_ h1,Hc h06 (x:=(cd,gi)) h2 (loC F7_ cd <| loC F7_ gi <| loN)]);rcases zI ae with⟨c1,ae⟩|⟨c1,ae⟩
   ·obtain rfl:=za ae;obtain rfl:=hl1;obtain rfl:=za aa;exact yE X0 hC hE (Z1++[Hq c1])
   ·obtain rfl:=za ae;exact yB X0 hC a6 (w64 (i_+1)) hl1 (Z1++[Hq c1])
  ·obtain rfl:=za ae;obtain rfl:=hl1;exact yB X0 hC aw () aa (Z0++[Hq c0])
def zbA:Code:=(f54.body).getD .skip
def VU:zN:=spF (α:=List (List Int)×Int) (ρ:=Int) 54 (λx=>[xh x.1,s8 x.2]) (λr=>s8 r) (λx=>Vd x.1 x.2) [] (W2)
theorem zcw (hC:zF prog ctr)(h0E:ctr.Has VS)(h1T:ctr.Has KG)(h0s:ctr.Has VR):VU.Ok prog:=by
 refine zC ?_;rintro⟨l_,inputs⟩ r0 aa;try unfold Vd at aa;refine yO true [(4,none)] zbA 18 func54 λE hE=>?_;obtain⟨r_,h0,aa⟩:=zc aa
 let Z0:List HO:=[Hc h0E (x:=(l_,inputs)) h0 (loC xh l_ <| loC s8 inputs <| loN)];rcases zI aa with⟨c0,aa⟩|⟨c0,aa⟩
 ·obtain rfl:=za aa;exact yE X0 hC hE (Z0++[Hq c0])
 ·obtain⟨aj,h1,aa⟩:=zc aa;let Z1:List HO:=(Z0++[Hq c0,Hc h1T (x:=l_) h1 (loC xh l_ <| loN)]);rcases zI aa with⟨c1,aa⟩|⟨c1,aa⟩
  ·obtain rfl:=za aa;exact yE X0 hC hE (Z1++[Hq c1])
  ·obtain⟨ak,h2,aa⟩:=zc aa;let Z2:List HO:=(Z1++[Hq c1,Hc h0s (x:=l_) h2 (loC xh l_ <| loN)]);rcases zI aa with⟨c2,aa⟩|⟨c2,aa⟩
   ·obtain rfl:=za aa;exact yE X0 hC hE (Z2++[Hq c2])
   ·obtain rfl:=za aa;exact yE X0 hC hE (Z2++[Hq c2])
def z1p:Code:=(f103.body).getD .skip
def Qe:zN:=spF (α:=Int×List (List (List Int))) (ρ:=Int) 103 (λx=>[s8 x.1,zCi x.2]) (λr=>s8 r) (λx=>QC x.1 x.2) [] (W2)
abbrev z8o:List (Nat×T):=[]
abbrev z8n (inputs:Int)(l_:List (List (List Int)))(eu:Int):List (Nat×T):=[(0,.d (I inputs)),(8,.d (eSl 1 false xh l_)),(9,.d (I ((l_.length:Nat):Int))),(10,.d (I eu))]
theorem zdL (hC:zF prog ctr)(h0t:ctr.Has VU):Qe.Ok prog:=by
 refine zC ?_;rintro⟨inputs,l_⟩ r0 aa;try unfold QC at aa;refine yO true [(4,none)] z1p 21 func103 λE hE=>?_;refine yJ X0 hC z1p [1] [] [] (λz:Unit=>Qc=some r0) (λz=>z8o) [(0,.d (I inputs)),(1,.d (eSl 1 false xh l_))] [Hh (.cut 1)] ?_ λJ1 aw=>?_
 ·rintro⟨⟩ aa;unfold Qc at aa;obtain rfl:=za aa;exact yE X0 hC hE []
 ·obtain⟨t2,ht2,aa⟩:=zc aa;refine yL X0 hC z1p [1,2,1,0] [J1] (λs=>Yt inputs l_ s) (λx=>z8n inputs l_ x) 0 ht2  [Ha (lnM xh l_)] ?_;rintro eu m2 az ae hl1 J2 a6;try unfold Yt at ae;rcases zI ae with⟨c0,ae⟩|⟨c0,ae⟩
  ·obtain⟨cd,h0,ae⟩:=zc ae;obtain⟨r_,h1,ae⟩:=zc ae;let Z0:List HO:=[Hq c0,Hi xh h0,Hc h0t (x:=(cd,inputs)) h1 (loC xh cd <| loC s8 inputs <| loN)];rcases zI ae with⟨c1,ae⟩|⟨c1,ae⟩
   ·obtain rfl:=za ae;obtain rfl:=hl1;obtain rfl:=za aa;exact yE X0 hC hE (Z0++[Hq c1])
   ·obtain rfl:=za ae;exact yB X0 hC a6 (w64 (eu+1)) hl1 (Z0++[Hq c1])
  ·obtain rfl:=za ae;obtain rfl:=hl1;exact yB X0 hC aw () aa [Hq c0]
def z2Q:Code:=(f166.body).getD .skip
def z2m:zN:=spF (α:=List Int) (ρ:=List UInt8) 166 (λx=>[F7_ x]) (λr=>z44 r) (λx=>z2l x) [] (Q7)
abbrev zaw (b_:List Int):List (Nat×T):=[(3,.own (eOs 1 true (eI .u8) b_))]
abbrev zav (w_:List Int)(ji:List Int)(fx:Int):List (Nat×T):=[(3,.own (eOs 1 true (eI .u8) ji)),(9,.d (eSl 1 false s8 w_)),(10,.d (I ((w_.length:Nat):Int))),(11,.d (I fx))]
theorem zfE (hC:zF prog ctr):z2m.Ok prog:=by
 refine zC ?_;rintro w_ r0 aa;try unfold z2l at aa;refine yO true [(2,none)] z2Q 24 func166 λE hE=>?_;obtain⟨g0,aa⟩:=gdE aa;refine yJ X0 hC z2Q [1,1] [] [3] (λz:List Int=>z2k z=some r0) (λz=>zaw z) [(0,.d (eSl 1 false s8 w_)),(3,.own (eOs 1 true (eI .u8) (List.replicate ((w_.length:Nat):Int).toNat (0:Int))))] [Ha (lnM s8 w_),Hn (rL g0),Ha (rM 1 (eI .u8) ((w_.length:Nat):Int) (0:Int)),Hh (.cut 0)] ?_ λJ1 aw=>?_
 ·rintro b_ aa;unfold z2k at aa;obtain rfl:=za aa;exact yE ((zCo prog zrD).or X0) hC hE [Hx (.a (z44 (u8s b_))) (stM b_)]
 ·obtain⟨t2,ht2,aa⟩:=zc aa;refine yL X0 hC z2Q [1,1,2,1,0] [J1] (λs=>kA w_ s.1 s.2) (λx=>zav w_ x.1 x.2) ((List.replicate ((w_.length:Nat):Int).toNat (0:Int)),0) ht2  [Ha (lnM s8 w_)] ?_;rintro⟨ji,fx⟩ m2 az ae hl1 J2 a6;try unfold kA at ae;rcases zI ae with⟨c0,ae⟩|⟨c0,ae⟩
  ·obtain⟨gu,h0,ae⟩:=zc ae;obtain⟨ct,h1,ae⟩:=zc ae;obtain rfl:=za ae;exact yB X0 hC a6 ((ji.set fx.toNat (IntKind.u8.wrap (gu))),w64 (fx+1)) hl1 [Hq c0,Hi s8 h0,Hn (iL (eI .u8) h1),Hs (iM (eI .u8) h1),Hs (iM (eI .u8) h1),Hl (sM (eI .u8) ji fx (IntKind.u8.wrap (gu)))]
  ·obtain rfl:=za ae;obtain rfl:=hl1;exact yB X0 hC aw ji aa [Hq c0]
def jW:Code:=(f147.body).getD .skip
def QS:zN:=spF (α:=List (List Int)×List (List Int)×Int) (ρ:=List (List Int)×Int) 147 (λx=>[xh x.1,xh x.2.1,s8 x.2.2]) (λr=>.tup [Us r.1,s8 r.2]) (λx=>XN x.1 x.2.1 x.2.2) [] (zdJ)
abbrev z5M (out:List (List Int)):List (Nat×T):=[(11,.own (eOs 1 false F7_ out))]
abbrev z5L (a_:List (List Int))(b_:List (List Int))(dt:Int)(fk:List ((List UInt8)×Bool))(dp:Int)(ap:List (List Int)):List (Nat×T):=[(1,.d (eSl 1 false F7_ b_)),(9,.own (.opq (z1G (WT z44 eB fk)))),(10,.d (I dp)),(11,.own (eOs 1 false F7_ ap)),(27,.d (eSl 1 false F7_ a_)),(28,.d (I ((a_.length:Nat):Int))),(29,.d (I dt))]
abbrev z5K (a_:List (List Int))(b_:List (List Int))(dt:Int)(cq:List Int)(ft:Int)(mg:List ((List UInt8)×Bool))(ny:Int)(fq:List (List Int)):List (Nat×T):=[(1,.d (eSl 1 false F7_ b_)),(9,.own (.opq (z1G (WT z44 eB mg)))),(10,.d (I ny)),(11,.own (eOs 1 false F7_ fq)),(13,.d (eSl 1 false s8 cq)),(27,.d (eSl 1 false F7_ a_)),(28,.d (I ((a_.length:Nat):Int))),(29,.d (I dt)),(33,.d (eSl 1 false F7_ b_)),(34,.d (I ((b_.length:Nat):Int))),(35,.d (I ft))]
abbrev z5I (a_:List (List Int))(b_:List (List Int))(dt:Int)(cq:List Int)(dg:List ((List UInt8)×Bool))(cj:Int)(bf:List (List Int))(ft:Int):List (Nat×T):=[(1,.d (eSl 1 false F7_ b_)),(9,.own (.opq (z1G (WT z44 eB dg)))),(10,.d (I cj)),(11,.own (eOs 1 false F7_ bf)),(13,.d (eSl 1 false s8 cq)),(27,.d (eSl 1 false F7_ a_)),(28,.d (I ((a_.length:Nat):Int))),(29,.d (I dt)),(33,.d (eSl 1 false F7_ b_)),(34,.d (I ((b_.length:Nat):Int))),(35,.d (I ft))]
abbrev z5J (a_:List (List Int))(b_:List (List Int))(iz:List ((List UInt8)×Bool))(n_:Int)(ai:List (List Int))(dt:Int):List (Nat×T):=[(1,.d (eSl 1 false F7_ b_)),(9,.own (.opq (z1G (WT z44 eB iz)))),(10,.d (I n_)),(11,.own (eOs 1 false F7_ ai)),(27,.d (eSl 1 false F7_ a_)),(28,.d (I ((a_.length:Nat):Int))),(29,.d (I dt))]
theorem zb0 (hC:zF prog ctr)(h0j:ctr.Has Qe)(h01:ctr.Has yh)(h1U:ctr.Has z2m)(h04:ctr.Has jM):QS.Ok prog:=by
 refine zC ?_;rintro⟨a_,b_,inputs⟩ r0 aa;try unfold XN at aa;refine yO false [(6,none),(7,none)] jW 75 func147 λE hE=>?_;obtain⟨r_,h0,aa⟩:=zc aa
 let Z0:List HO:=[Hg (JO h0j),Hm (shM xh xh ([a_,b_])),Hs (JP h0j (x:=(inputs,[a_,b_])) h0 (loC s8 inputs <| loC (eSl 1 true xh) ([a_,b_]:List (List (List Int))) <| loN))];rcases zI aa with⟨c0,aa⟩|⟨c0,aa⟩
 ·obtain rfl:=za aa;exact yEx X0 hC hE (Z0++[Hq c0,Hm (shM F7_ F7_ [])]) (.tup [eSl 1 true F3_ [],I r_]) (show LeV (.tup [eSl 1 true F3_ [],I r_]) (.tup [eSl 1 true F3_ ([]:List (List Int)),I r_]) from inferInstance)
 ·refine yJ ((ztP prog 26).or X0) hC jW [1,1,1,1,1] [] [11] (λz:List (List Int)=>Y1 z=some r0) (λz=>z5M z) [(0,.d (eSl 1 false F7_ a_)),(1,.d (eSl 1 false F7_ b_)),(9,.own (.opq (z1G (WT z44 eB ([]:List ((List UInt8)×Bool)))))),(10,.d (I 0)),(11,.own (eOs 1 true F7_ []))] (Z0++[Hq c0,Hh (.cut 3)]) ?_ λJ1 aw=>?_
  ·rintro out aa;unfold Y1 at aa;obtain⟨aj,h1,aa⟩:=zc aa;obtain rfl:=za aa;exact yE X0 hC hE [Hg (JO h04),Hm (shM F7_ F7_ out),Hs (JP h04 (x:=out) h1 (loC xh out <| loN)),Hm (shM F7_ F7_ out)]
  ·obtain⟨t2,ht2,aa⟩:=zc aa;refine yLx X0 hC jW [1,1,1,1,1,2,1,0] [J1] (λs=>ZZ a_ b_ s.1 s.2.1 s.2.2.1 s.2.2.2) (λx=>z5J a_ b_ x.1 x.2.1 x.2.2.1 x.2.2.2) (([]:List ((List UInt8)×Bool)),0,([]:List (List Int)),0) ht2 [(1,.d (eSl 1 false F7_ b_)),(9,.own (.opq (z1G (WT z44 eB ([]:List ((List UInt8)×Bool)))))),(10,.d (I 0)),(11,.own (eOs 1 true F7_ [])),(27,.d (eSl 1 false F7_ a_)),(28,.d (I ((a_.length:Nat):Int))),(29,.d (I 0))] inferInstance [Ha (lnM F7_ a_)] ?_;rintro⟨iz,n_,ai,dt⟩ m2 az ae hl1 J2 a6;try unfold ZZ at ae;rcases zI ae with⟨c1,ae⟩|⟨c1,ae⟩
   ·refine yJ X0 hC jW [1,1,1,1,1,2,1,0,0,1,1] [J1,J2] [1,9,10,11,27,28,29] (λz:(List ((List UInt8)×Bool))×Int×List (List Int)=>Y0 dt z.1 z.2.1 z.2.2=some az) (λz=>z5L a_ b_ dt z.1 z.2.1 z.2.2) [(1,.d (eSl 1 false F7_ b_)),(9,.own (.opq (z1G (WT z44 eB iz)))),(10,.d (I n_)),(11,.own (eOs 1 false F7_ ai)),(27,.d (eSl 1 false F7_ a_)),(28,.d (I ((a_.length:Nat):Int))),(29,.d (I dt))] [Hq c1,Hh (.cut 0)] ?_ λJ3 bk=>?_
    ·rintro⟨fk,dp,ap⟩ ae;unfold Y0 at ae;obtain rfl:=za ae;exact yB X0 hC a6 (fk,dp,ap,w64 (dt+1)) hl1 []
    ·obtain⟨cq,h2,ae⟩:=zc ae;obtain⟨t4,ht4,ae⟩:=zc ae;refine yL X0 hC jW [1,1,1,1,1,2,1,0,0,1,1,2,0,1,1,0] [J1,J2,J3] (λs=>jG b_ cq s.1 s.2.1 s.2.2.1 s.2.2.2) (λx=>z5I a_ b_ dt cq x.1 x.2.1 x.2.2.1 x.2.2.2) (iz,n_,ai,0) ht4  [Hi F7_ h2,Ha (lnM F7_ b_)] ?_;rintro⟨dg,cj,bf,ft⟩ m4 dl ah hl2 J4 d0;try unfold jG at ah;rcases zI ah with⟨c2,ah⟩|⟨c2,ah⟩
     ·obtain⟨ct,h3,ah⟩:=zc ah;obtain⟨ak,h4,ah⟩:=zc ah;obtain⟨g0,ah⟩:=gdE ah;let Z1:List HO:=[Hq c2,Hi F7_ h3,Hc h01 (x:=cq) h4 (loC F7_ cq <| loN),Hn (apM s8 g0),Hl (aM s8 ak ct),Ha (lnM s8 (ak++ct))];rcases zI ah with⟨c3,ah⟩|⟨c3,ah⟩
      ·obtain rfl:=za ah;obtain rfl:=hl2;obtain rfl:=za ae;obtain rfl:=hl1;obtain rfl:=za aa;exact yEx ((xAp zx 42).or X0) hC hE (Z1++[Hq c3,Hm (shM F7_ F7_ [])]) (.tup [eSl 1 true F3_ [],I 3]) (show LeV (.tup [eSl 1 true F3_ [],I 3]) (.tup [eSl 1 true F3_ ([]:List (List Int)),I 3]) from inferInstance)
      ·refine yJ ((xAp zx 42).or X0) hC jW [1,1,1,1,1,2,1,0,0,1,1,2,0,1,1,0,0,1,1,0,0,1,1,1] [J1,J2,J3,J4] [1,9,10,11,13,27,28,29,33,34,35] (λz:(List ((List UInt8)×Bool))×Int×List (List Int)=>jH ft z.1 z.2.1 z.2.2=some dl) (λz=>z5K a_ b_ dt cq ft z.1 z.2.1 z.2.2) [(1,.d (eSl 1 false F7_ b_)),(9,.own (.opq (z1G (WT z44 eB dg)))),(10,.d (I cj)),(11,.own (eOs 1 false F7_ bf)),(13,.d (eSl 1 false s8 cq)),(16,.d (eSl 1 false s8 (ak++ct))),(27,.d (eSl 1 false F7_ a_)),(28,.d (I ((a_.length:Nat):Int))),(29,.d (I dt)),(33,.d (eSl 1 false F7_ b_)),(34,.d (I ((b_.length:Nat):Int))),(35,.d (I ft))] (Z1++[Hq c3,Hh (.cut 0)]) ?_ λJ5 dn=>?_
       ·rintro⟨mg,ny,fq⟩ ah;unfold jH at ah;let Z2:List HO:=[Ha (lnM F7_ fq)];rcases zI ah with⟨c4,ah⟩|⟨c4,ah⟩
        ·obtain rfl:=za ah;obtain rfl:=hl2;obtain rfl:=za ae;obtain rfl:=hl1;obtain rfl:=za aa;exact yEx X0 hC hE (Z2++[Hq c4,Hq c4,Hq c4,qT,Hm (shM F7_ F7_ [])]) (.tup [eSl 1 true F3_ [],I 3]) (show LeV (.tup [eSl 1 true F3_ [],I 3]) (.tup [eSl 1 true F3_ ([]:List (List Int)),I 3]) from inferInstance)
        ·rcases zI ah with⟨c5,ah⟩|⟨c5,ah⟩
         ·obtain rfl:=za ah;obtain rfl:=hl2;obtain rfl:=za ae;obtain rfl:=hl1;obtain rfl:=za aa;exact yEx X0 hC hE (Z2++[Hq c4,Hq c4,Hq c4,Hq c5,Hm (shM F7_ F7_ [])]) (.tup [eSl 1 true F3_ [],I 3]) (show LeV (.tup [eSl 1 true F3_ [],I 3]) (.tup [eSl 1 true F3_ ([]:List (List Int)),I 3]) from inferInstance)
         ·obtain rfl:=za ah;exact yB X0 hC d0 (mg,ny,fq,w64 (ft+1)) hl2 (Z2++[Hq c4,Hq c4,Hq c4,Hq c5])
       ·obtain⟨au,h5,ah⟩:=zc ah;obtain⟨val,h6,ah⟩:=zc ah;replace h6:=za h6;let Z3:List HO:=[Hc h1U (x:=(ak++ct)) h5 (loC F7_ (ak++ct) <| loN),Hn (⟨rfl,rfl,zfg (λ_=>rfl) dg⟩:A.opq (z1G (WT z44 eB dg))=A.opq (z1G (WT z44 eB dg))/\zd7 (z44 au)=true/\∀p∈WT z44 eB dg,zd7 p.1=true),Hx (.a (eB val)) ((zBv (f:=z44) (g:=eB) (z0:=false) (z:=.atom (.bool false)) rfl au dg).trans (congrArg eB h6))];rcases zI ah with⟨c6,ah⟩|⟨c6,ah⟩
        ·obtain⟨g1,ah⟩:=gdE ah;exact yB ((zAB zkK 52 (WT z44 eB dg) (WT z44 eB (z9S dg au true))).or ((zjc zkK 50 (WT z44 eB dg)).or X0)) hC dn ((z9S dg au true),w64 (cj+(((ak++ct).length:Nat):Int)),(bf++([(ak++ct)]:List (List Int)))) ah (Z3++[Hq c6,Hn (⟨rfl,rfl,rfl,rfl,zfg (λ_=>rfl) dg⟩:T.own (.opq (z1G (WT z44 eB dg)))=T.own (.opq (z1G (WT z44 eB dg)))/\0=0/\zd7 (z44 au)=true/\(eB true).isD=true/\∀p∈WT z44 eB dg,zd7 p.1=true),Hn (zkj (f:=z44) (g:=eB) au true dg),Hq (dM F7_ ([(ak++ct)]:List (List Int))),Hn (dM F7_ ([(ak++ct)]:List (List Int))),Hn (aL F7_ F7_ g1),Hl (aM F7_ bf ([(ak++ct)]:List (List Int))),Ha (lnM s8 (ak++ct))])
        ·exact yB ((zjc zkK 50 (WT z44 eB dg)).or X0) hC dn (dg,cj,bf) ah (Z3++[Hq c6])
     ·obtain rfl:=za ah;obtain rfl:=hl2;exact yB X0 hC bk (dg,cj,bf) ae [Hq c2]
   ·obtain rfl:=za ae;obtain rfl:=hl1;exact yB X0 hC aw ai aa [Hq c1]
def z5C:Code:=(f116.body).getD .skip
def Wl:zN:=spF (α:=z6×Int) (ρ:=List (List Int)×Int) 116 (λx=>[zO x.1,s8 x.2]) (λr=>.tup [Us r.1,s8 r.2]) (λx=>Yn x.1 x.2) [] (W2)
theorem z6w (hC:zF prog ctr)(h0G:ctr.Has Xn)(h0H:ctr.Has Qg)(h1V:ctr.Has QS):Wl.Ok prog:=by
 refine zC ?_;rintro⟨m_,k_⟩ r0 aa;try unfold Yn at aa;refine yO false [(4,none),(5,none)] z5C 36 func116 λE hE=>?_;obtain⟨r_,h0,aa⟩:=zc aa
 let Z0:List HO:=[Hc h0G (x:=m_) h0 (loC zO m_ <| loN)];rcases zI aa with⟨c0,aa⟩|⟨c0,aa⟩
 ·obtain rfl:=za aa;exact yEx X0 hC hE (Z0++[Hq c0,Hm (shM F7_ F7_ [])]) (.tup [eSl 1 true F3_ [],I r_.2]) (show LeV (.tup [eSl 1 true F3_ [],I r_.2]) (.tup [eSl 1 true F3_ ([]:List (List Int)),I r_.2]) from inferInstance)
 ·rcases zI aa with⟨c1,aa⟩|⟨c1,aa⟩
  ·obtain rfl:=za aa;exact yEx X0 hC hE (Z0++[Hq c0,Hq c1,Hm (shM F7_ F7_ [])]) (.tup [eSl 1 true F3_ [],I 1]) (show LeV (.tup [eSl 1 true F3_ [],I 1]) (.tup [eSl 1 true F3_ ([]:List (List Int)),I 1]) from inferInstance)
  ·obtain⟨aj,h1,aa⟩:=zc aa;let Z1:List HO:=(Z0++[Hq c0,Hq c1,Hc h0H (x:=(m_.Inputs,k_)) h1 (loC s8 m_.Inputs <| loC s8 k_ <| loN)]);rcases zI aa with⟨c2,aa⟩|⟨c2,aa⟩
   ·obtain rfl:=za aa;exact yEx X0 hC hE (Z1++[Hq c2,Hm (shM F7_ F7_ [])]) (.tup [eSl 1 true F3_ [],I aj.2]) (show LeV (.tup [eSl 1 true F3_ [],I aj.2]) (.tup [eSl 1 true F3_ ([]:List (List Int)),I aj.2]) from inferInstance)
   ·obtain⟨ak,h2,aa⟩:=zc aa;obtain rfl:=za aa;exact yE X0 hC hE (Z1++[Hq c2,Hc h1V (x:=(r_.1,aj.1,m_.Inputs)) h2 (loC Us r_.1 <| loC Us aj.1 <| loC s8 m_.Inputs <| loN)])
def z2T:Code:=(f71.body).getD .skip
def Y9:zN:=spF (α:=z6) (ρ:=List (List Int)×Int) 71 (λx=>[zO x]) (λr=>.tup [Us r.1,s8 r.2]) (λx=>vR x) [] (Q7)
theorem z3u (hC:zF prog ctr)(h1W:ctr.Has Wl):Y9.Ok prog:=by refine zC ?_;rintro m_ r0 aa;try unfold vR at aa;refine yO false [(2,none),(3,none)] z2T 8 func71 λE hE=>?_;obtain⟨r_,h0,aa⟩:=zc aa;obtain rfl:=za aa;exact yE X0 hC hE [Hc h1W (x:=(m_,1)) h0 (loC zO m_ <| loC s8 1 <| loN)]
def zaq:Code:=(f148.body).getD .skip
def Y8:zN:=spF (α:=Int) (ρ:=Int) 148 (λx=>[s8 x]) (λr=>(z1k 167 (eSp s8)) r) (λx=>XZ x) [] (Q7)
theorem zbj (hC:zF prog ctr):Y8.Ok prog:=by refine zC ?_;rintro n_ r0 aa;try unfold XZ at aa;refine yO true [(2,none)] zaq 4 func148 λE hE=>?_;obtain rfl:=za aa;exact yE X0 hC hE []
def YZ:Code:=(f167.body).getD .skip
variable {σ:Type}
abbrev z40 (x0:Int)(YY:σ->z8W)(x6:Int)(ju:σ):List (Nat×T):=[(0,.own (.opq (YY ju).q)),(1,.d (.sptr (I x0))),(5,.d (I x0)),(6,.d (I x6))]
abbrev z3Y (x0:Int)(YY:σ->z8W)(x6:Int)(gc:σ)(b_:Int):List (Nat×T):=[(0,.own (.opq (YY gc).q)),(1,.d (.sptr (I x0))),(3,.d (I x6)),(4,.d (I b_)),(5,.d (I x0)),(6,.d (I x6))]
abbrev z3Z (x0:Int)(YY:σ->z8W)(dr:σ)(x6:Int):List (Nat×T):=[(0,.own (.opq (YY dr).q)),(1,.d (.sptr (I x0))),(5,.d (I x0)),(6,.d (I x6))]
theorem z1B (hC:zF prog ctr)(x0:Int):zfx prog (.fn 167 [.sptr (I x0)]) (λ(x:Int×Int) (_:Bool) (_:Value)=>[s8 x.1,s8 x.2]) (@ut x0):=by
 refine z9W (tt:=yw) (nt:=22) (body:=YZ) zx func167 rfl (by kernel_rfl) rfl rfl (by show(2:Nat)<=22;decide) ?_;intro σ yv YY yy hy sg r0 aa E hE;unfold ut at aa;obtain⟨t1,ht1,aa⟩:=zc aa;refine yL X0 hC YZ [1,0] [] (λs=>YT x0 yy s.1 s.2) (λx=>z3Z x0 YY x.1 x.2) (sg,0) ht1  [] ?_;rintro⟨dr,x6⟩ m1 az ae hl1 J1 aw;try unfold YT at ae;rcases zI ae with⟨c0,ae⟩|⟨c0,ae⟩
 ·refine yJ X0 hC YZ [1,0,0,1,1] [J1] [0,1,5,6] (λz:σ=>YU x6 z=some az) (λz=>z40 x0 YY x6 z) [(0,.own (.opq (YY dr).q)),(1,.d (.sptr (I x0))),(5,.d (I x0)),(6,.d (I x6))] [Hq c0,Hh (.cut 0)] ?_ λJ2 a6=>?_
  ·rintro ju ae;unfold YU at ae;obtain rfl:=za ae;exact yB X0 hC aw (ju,w64 (x6+1)) hl1 []
  ·obtain⟨t3,ht3,ae⟩:=zc ae;refine yL X0 hC YZ [1,0,0,1,1,2,0,1,1,0] [J1,J2] (λs=>jT x0 yy x6 s.1 s.2) (λx=>z3Y x0 YY x6 x.1 x.2) (dr,w64 (x6+1)) ht3  [] ?_;rintro⟨gc,b_⟩ m3 dl ah hl2 J3 bk;try unfold jT at ah;rcases zI ah with⟨c1,ah⟩|⟨c1,ah⟩
   ·obtain⟨yr,h0,ah⟩:=zc ah;let Z0:List HO:=[Hq c1,Hn (z9k (yv:=yv) (Y:=YY) (enc:=(λ(x:Int×Int) (_:Bool) (_:Value)=>[s8 x.1,s8 x.2])) (s:=gc) (x:=(x6,b_)) (s':=yr.1) (b:=yr.2) (v:=.nilFunc) [s8 x6,s8 b_] (show z3p [s8 x6,s8 b_] [s8 x6,s8 b_] from inferInstance))];rcases zI ah with⟨c2,ah⟩|⟨c2,ah⟩
    ·obtain rfl:=za ah;obtain rfl:=hl2;obtain rfl:=za ae;obtain rfl:=hl1;obtain rfl:=za aa;exact yF ((z2g (P:=prog) yw hy 19 (s:=gc) (x:=(x6,b_)) (s':=yr.1) (b:=yr.2) .nilFunc h0).or X0) hC .ret [(0,.own (.opq (YY yr.1).q))] (Z0++[Hq c2]) λst0 h0=>hE _ st0 (.inr rfl) h0
    ·obtain rfl:=za ah;exact yB ((z2g (P:=prog) yw hy 19 (s:=gc) (x:=(x6,b_)) (s':=yr.1) (b:=yr.2) .nilFunc h0).or X0) hC bk (yr.1,w64 (b_+1)) hl2 (Z0++[Hq c2])
   ·obtain rfl:=za ah;obtain rfl:=hl2;exact yB X0 hC a6 gc ae [Hq c1]
 ·obtain rfl:=za ae;obtain rfl:=hl1;obtain rfl:=za aa;exact yF X0 hC .normal [(0,.own (.opq (YY dr).q))] [Hq c0] λst0 h0=>hE _ st0 (.inl rfl) h0
def zar:Code:=(f118.body).getD .skip
def Je:zN:=spF (α:=Int×Int) (ρ:=Bool) 118 (λx=>[s8 x.1,s8 x.2]) (λr=>eB r) (λx=>Kv x.1 x.2) [] (W2)
theorem zbk (hC:zF prog ctr):Je.Ok prog:=by refine zC ?_;rintro⟨a_,b_⟩ r0 aa;try unfold Kv at aa;refine yO true [(4,none)] zar 5 func118 λE hE=>?_;obtain rfl:=za aa;exact yE X0 hC hE []
def z6P:Code:=(f187.body).getD .skip
def jN:zN:=spF (α:=Int×z6) (ρ:=Bool) 187 (λx=>[s8 x.1,z6m x.2]) (λr=>eB r) (λx=>X9 x.1 x.2) [] (W2)
theorem z7Z (hC:zF prog ctr):jN.Ok prog:=by
 refine zC ?_;rintro⟨s_,x1⟩ r0 aa;try unfold X9 at aa;refine yO true [(3,none)] z6P 13 func187 λE hE=>?_;rcases zI aa with⟨c0,aa⟩|⟨c0,aa⟩
 ·obtain rfl:=za aa;exact yE X0 hC hE (rpN 6 (Hq c0) [])
 ·obtain rfl:=za aa;exact yE X0 hC hE (rpN 4 (Hq c0) [Ha (lnM yN x1.Rows),Hq c0,Hq c0])
def v6:Code:=(f156.body).getD .skip
def jO:zN:=spF (α:=List Int×z6) (ρ:=Int) 156 (λx=>[F7_ x.1,(z1k 187 z6m) x.2]) (λr=>s8 r) (λx=>xp x.1 x.2) [] (by rintro⟨a0,a1⟩ ⟨b0,b1⟩ h;have e0:=kZ.inj (f:=F7_) _ _ (List.cons.inj h).1;replace h:=(List.cons.inj h).2;have e1:=kZ.inj (f:=(z1k 187 z6m)) _ _ (List.cons.inj h).1;subst e0 e1;rfl)
abbrev W5:List (Nat×T):=[]
abbrev W4 (s_:List Int)(f_:z6)(x8:Int):List (Nat×T):=[(0,.d (eSl 1 false s8 s_)),(1,.d (.fn 187 [.sptr (.agg [I f_.Inputs,I f_.Outputs,eSl 1 false yN f_.Rows])])),(7,.d (I ((s_.length:Nat):Int))),(8,.d (I x8))]
theorem Uu (hC:zF prog ctr)(h0c:ctr.Has jN):jO.Ok prog:=by
 refine zC ?_;rintro⟨s_,f_⟩ r0 aa;try unfold xp at aa;refine yO true [(4,none)] v6 19 func156 λE hE=>?_;refine yJ X0 hC v6 [1] [] [] (λz:Unit=>wY=some r0) (λz=>W5) [(0,.d (eSl 1 false s8 s_)),(1,.d (.fn 187 [.sptr (.agg [I f_.Inputs,I f_.Outputs,eSl 1 false yN f_.Rows])]))] [Hh (.cut 1)] ?_ λJ1 aw=>?_
 ·rintro⟨⟩ aa;unfold wY at aa;obtain rfl:=za aa;exact yE X0 hC hE []
 ·obtain⟨t2,ht2,aa⟩:=zc aa;refine yL X0 hC v6 [1,2,1,0] [J1] (λs=>yk s_ f_ s) (λx=>W4 s_ f_ x) 0 ht2  [Ha (lnM s8 s_)] ?_;rintro x8 m2 az ae hl1 J2 a6;try unfold yk at ae;rcases zI ae with⟨c0,ae⟩|⟨c0,ae⟩
  ·obtain⟨dx,h0,ae⟩:=zc ae;obtain⟨r_,h1,ae⟩:=zc ae;let Z0:List HO:=[Hq c0,Hi s8 h0,Hc h0c (x:=(dx,f_)) h1 (loC s8 dx <| loC z6m f_ <| loN)];rcases zI ae with⟨c1,ae⟩|⟨c1,ae⟩
   ·obtain rfl:=za ae;obtain rfl:=hl1;obtain rfl:=za aa;exact yE X0 hC hE (Z0++[Hq c1])
   ·obtain rfl:=za ae;exact yB X0 hC a6 (w64 (x8+1)) hl1 (Z0++[Hq c1])
  ·obtain rfl:=za ae;obtain rfl:=hl1;exact yB X0 hC aw () aa [Hq c0]
def W3:Code:=(f126.body).getD .skip
def qb:zN:=spF (α:=List Int×z6) (ρ:=Bool) 126 (λx=>[F7_ x.1,(z1k 187 z6m) x.2]) (λr=>eB r) (λx=>xJ x.1 x.2) [] (by rintro⟨a0,a1⟩ ⟨b0,b1⟩ h;have e0:=kZ.inj (f:=F7_) _ _ (List.cons.inj h).1;replace h:=(List.cons.inj h).2;have e1:=kZ.inj (f:=(z1k 187 z6m)) _ _ (List.cons.inj h).1;subst e0 e1;rfl)
theorem qo (hC:zF prog ctr)(h0c:ctr.Has jN):qb.Ok prog:=by refine zC ?_;rintro⟨s_,f_⟩ r0 aa;try unfold xJ at aa;refine yO true [(4,none)] W3 9 func126 λE hE=>?_;obtain⟨r_,h0,aa⟩:=zc aa;obtain rfl:=za aa;exact yE ((zcm zx (Uu hC h0c) 7).or X0) hC hE [Hc (Ctr.add_has z3y jO) (x:=(s_,f_)) h0 (loC F7_ s_ <| loC (z1k 187 z6m) f_ <| loN)]
def zai:Code:=(f168.body).getD .skip
def QT:zN:=spF (α:=z6×List Int) (ρ:=Int) 168 (λx=>[zO x.1,F7_ x.2]) (λr=>s8 r) (λx=>Uv x.1 x.2) [] (W2)
theorem zb4 (hC:zF prog ctr)(h03:ctr.Has xH)(h0c:ctr.Has jN):QT.Ok prog:=by
 refine zC ?_;rintro⟨m_,l_⟩ r0 aa;try unfold Uv at aa;refine yO true [(4,none)] zai 14 func168 λE hE=>?_;obtain⟨r_,h0,aa⟩:=zc aa
 let Z0:List HO:=[Hc h03 (x:=m_) h0 (loC zO m_ <| loN)];rcases zI aa with⟨c0,aa⟩|⟨c0,aa⟩
 ·obtain rfl:=za aa;exact yE X0 hC hE (Z0++[Hq c0])
 ·obtain⟨aj,h1,aa⟩:=zc aa;let Z1:List HO:=(Z0++[Hq c0,Hc (Ctr.add_has z3y qb) (x:=(l_,m_)) h1 (loC F7_ l_ <| loC (z1k 187 z6m) m_ <| loN)]);rcases zI aa with⟨c1,aa⟩|⟨c1,aa⟩
  ·obtain rfl:=za aa;exact yE ((zcm zx (qo hC h0c) 13).or X0) hC hE (Z1++[Hq c1])
  ·obtain rfl:=za aa;exact yE ((zcm zx (qo hC h0c) 13).or X0) hC hE (Z1++[Hq c1])
def zaj:Code:=(f188.body).getD .skip
def QU:zN:=spF (α:=z6) (ρ:=z6) 188 (λx=>[zO x]) (λr=>(z1k 199 z6m) r) (λx=>Kg x) [] (Q7)
theorem zb5 (hC:zF prog ctr):QU.Ok prog:=by refine zC ?_;rintro m_ r0 aa;try unfold Kg at aa;refine yO true [(2,none)] zaj 4 func188 λE hE=>?_;obtain rfl:=za aa;exact yE X0 hC hE []
def YX:Code:=(f199.body).getD .skip
abbrev z3R (x0:z6)(YY:σ->z8W)(x8:Int)(ju:σ):List (Nat×T):=[(0,.own (.opq (YY ju).q)),(1,.d (.sptr (zO x0))),(7,.d (I ((x0.Rows.length:Nat):Int))),(8,.d (I x8))]
abbrev z3P (x0:z6)(YY:σ->z8W)(x8:Int)(gc:σ)(t_:Int):List (Nat×T):=[(0,.own (.opq (YY gc).q)),(1,.d (.sptr (zO x0))),(3,.d (I x8)),(4,.d (I t_)),(7,.d (I ((x0.Rows.length:Nat):Int))),(8,.d (I x8))]
abbrev z3Q (x0:z6)(YY:σ->z8W)(dr:σ)(x8:Int):List (Nat×T):=[(0,.own (.opq (YY dr).q)),(1,.d (.sptr (zO x0))),(7,.d (I ((x0.Rows.length:Nat):Int))),(8,.d (I x8))]
theorem z80 (hC:zF prog ctr)(x0:z6):zfx prog (.fn 199 [.sptr (.agg [I x0.Inputs,I x0.Outputs,eSl 1 false yN x0.Rows])]) (λ(x:Int×Int) (_:Bool) (_:Value)=>[s8 x.1,s8 x.2]) (@qQ x0):=by
 refine z9W (tt:=yw) (nt:=26) (body:=YX) zx func199 rfl (by kernel_rfl) rfl rfl (by show(2:Nat)<=26;decide) ?_;intro σ yv YY yy hy sg r0 aa E hE;unfold qQ at aa;obtain⟨t1,ht1,aa⟩:=zc aa;refine yL X0 hC YX [1,0] [] (λs=>Yz x0 yy s.1 s.2) (λx=>z3Q x0 YY x.1 x.2) (sg,0) ht1  [Ha (lnM yN x0.Rows)] ?_;rintro⟨dr,x8⟩ m1 az ae hl1 J1 aw;try unfold Yz at ae;rcases zI ae with⟨c0,ae⟩|⟨c0,ae⟩
 ·refine yJ X0 hC YX [1,0,0,1,1] [J1] [0,1,7,8] (λz:σ=>YA x8 z=some az) (λz=>z3R x0 YY x8 z) [(0,.own (.opq (YY dr).q)),(1,.d (.sptr (zO x0))),(7,.d (I ((x0.Rows.length:Nat):Int))),(8,.d (I x8))] [Hq c0,Hh (.cut 0)] ?_ λJ2 a6=>?_
  ·rintro ju ae;unfold YA at ae;obtain rfl:=za ae;exact yB X0 hC aw (ju,w64 (x8+1)) hl1 []
  ·obtain⟨t3,ht3,ae⟩:=zc ae;refine yL X0 hC YX [1,0,0,1,1,2,0,1,1,0] [J1,J2] (λs=>jJ x0 yy x8 s.1 s.2) (λx=>z3P x0 YY x8 x.1 x.2) (dr,w64 (x8+1)) ht3  [] ?_;rintro⟨gc,t_⟩ m3 dl ah hl2 J3 bk;try unfold jJ at ah
   let Z0:List HO:=[Ha (lnM yN x0.Rows)];rcases zI ah with⟨c1,ah⟩|⟨c1,ah⟩
   ·obtain⟨yr,h0,ah⟩:=zc ah;let Z1:List HO:=(Z0++[Hq c1,Hn (z9k (yv:=yv) (Y:=YY) (enc:=(λ(x:Int×Int) (_:Bool) (_:Value)=>[s8 x.1,s8 x.2])) (s:=gc) (x:=(x8,t_)) (s':=yr.1) (b:=yr.2) (v:=.nilFunc) [s8 x8,s8 t_] (show z3p [s8 x8,s8 t_] [s8 x8,s8 t_] from inferInstance))]);rcases zI ah with⟨c2,ah⟩|⟨c2,ah⟩
    ·obtain rfl:=za ah;obtain rfl:=hl2;obtain rfl:=za ae;obtain rfl:=hl1;obtain rfl:=za aa;exact yF ((z2g (P:=prog) yw hy 23 (s:=gc) (x:=(x8,t_)) (s':=yr.1) (b:=yr.2) .nilFunc h0).or X0) hC .ret [(0,.own (.opq (YY yr.1).q))] (Z1++[Hq c2]) λst0 h0=>hE _ st0 (.inr rfl) h0
    ·obtain rfl:=za ah;exact yB ((z2g (P:=prog) yw hy 23 (s:=gc) (x:=(x8,t_)) (s':=yr.1) (b:=yr.2) .nilFunc h0).or X0) hC bk (yr.1,w64 (t_+1)) hl2 (Z1++[Hq c2])
   ·obtain rfl:=za ah;obtain rfl:=hl2;exact yB X0 hC a6 gc ae (Z0++[Hq c1])
 ·obtain rfl:=za ae;obtain rfl:=hl1;obtain rfl:=za aa;exact yF X0 hC .normal [(0,.own (.opq (YY dr).q))] [Hq c0] λst0 h0=>hE _ st0 (.inl rfl) h0
def xO:zN:=spR (α:=List Int×Int) (ρ:=List Int) 202 (λx:List Int×Int=>[F3_ x.1,s8 x.2]) (λr:List Int=>F6_ r) (λx:List Int×Int=>wD x.1 x.2) [] (W2)
theorem JU:∀x r,(λx:List Int×Int=>wD x.1 x.2) x=some r->(z3y.add xO).run 202 ((z3y.add xO).norm 202 ((λx:List Int×Int=>[F3_ x.1,s8 x.2]) x))=some ((λr:List Int=>F6_ r) r):=λx r h=>zzL (F:=λx:List Int×Int=>wD x.1 x.2) (x:=x) h rfl
theorem JW:(z3y.add xO).lend 202=none/\(z3y.add xO).gives 202=[]:=zss
theorem KA (hC:zF prog ctr):xO.Ok prog:=by
 refine zjC ?_;rintro⟨l,n⟩ r0 aa;cases l with
 | cons a l=>cases aa
 | nil=>
  have h1:0<n/\n<=1000000:=by
   have h2:(decide (0<n)&&decide (n<=1000000))=true:=by
    cases h:(decide (0<n)&&decide (n<=1000000)) with
    | true=>rfl
    | false=>have h3:(bif (true&&(decide (0<n)&&decide (n<=1000000))) then some [] else none)=some r0:=aa;rw[h]at h3;cases h3
   simpa using h2
  have h3:(bif (true&&(decide (0<n)&&decide (n<=1000000))) then some ([]:List Int) else none)=some r0:=aa;rw[decide_eq_true h1.1,decide_eq_true h1.2]at h3;cases h3;exact zlr n h1.1 h1.2
def wt:Code:=(f200.body).getD .skip
def vG:zN:=spF (α:=List (List Int)) (ρ:=List Int) 200 (λx=>[xh x]) (λr=>F6_ r) (λx=>vt x) [] (Q7)
abbrev JK (lc:List Int):List (Nat×T):=[(6,.own (eOs 1 false s8 lc))]
abbrev JJ (slices:List (List Int))(ge:List Int)(nr:Int):List (Nat×T):=[(6,.own (eOs 1 false s8 ge)),(25,.d (eSl 1 false F7_ slices)),(26,.d (I ((slices.length:Nat):Int))),(27,.d (I nr))]
abbrev JL (slices:List (List Int))(size:Int):List (Nat×T):=[(0,.d (eSl 1 false F7_ slices)),(3,.d (I size))]
abbrev JI (slices:List (List Int))(kj:Int)(fx:Int):List (Nat×T):=[(0,.d (eSl 1 false F7_ slices)),(3,.d (I kj)),(9,.d (eSl 1 false F7_ slices)),(10,.d (I ((slices.length:Nat):Int))),(11,.d (I fx))]
theorem z0K (hC:zF prog ctr):vG.Ok prog:=by
 refine zC ?_;rintro slices r0 aa;try unfold vt at aa;refine yO true [(2,none)] wt 36 func200 λE hE=>?_;refine yJ X0 hC wt [1,1] [] [0,3] (λz:Int=>vK slices z=some r0) (λz=>JL slices z) [(0,.d (eSl 1 false F7_ slices)),(3,.d (I 0))] [Hh (.cut 2)] ?_ λJ1 aw=>?_
 ·rintro size aa;unfold vK at aa;obtain⟨r_,h0,aa⟩:=zc aa;refine yJ ((zcm zx (KA hC) 24).or X0) hC wt [1,1,1,1] [] [6] (λz:List Int=>vJ z=some r0) (λz=>JK z) [(0,.d (eSl 1 false F7_ slices)),(6,.own (eOs 1 false s8 r_))] [Hh (.g []),Hn JW,Hx (.a (F6_ r_)) (JU ([],size) _ h0),Hh (.cut 0)] ?_ λJ2 a6=>?_
  ·rintro lc aa;unfold vJ at aa;obtain rfl:=za aa;exact yE X0 hC hE []
  ·obtain⟨t3,ht3,aa⟩:=zc aa;refine yL X0 hC wt [1,1,1,1,2,1,0] [J2] (λs=>zY slices s.1 s.2) (λx=>JJ slices x.1 x.2) (r_,0) ht3  [Ha (lnM F7_ slices)] ?_;rintro⟨ge,nr⟩ m3 az ae hl1 J3 bk;try unfold zY at ae;rcases zI ae with⟨c0,ae⟩|⟨c0,ae⟩
   ·obtain⟨j7,h1,ae⟩:=zc ae;obtain⟨g0,ae⟩:=gdE ae;obtain rfl:=za ae;exact yB X0 hC bk ((ge++j7),w64 (nr+1)) hl1 [Hq c0,Hi F7_ h1,Hn (dM s8 j7),Hn (aL s8 s8 g0),Hl (aM s8 ge j7)]
   ·obtain rfl:=za ae;obtain rfl:=hl1;exact yB X0 hC a6 ge aa [Hq c0]
 ·obtain⟨t4,ht4,aa⟩:=zc aa;refine yL X0 hC wt [1,1,2,1,0] [J1] (λs=>zX slices s.1 s.2) (λx=>JI slices x.1 x.2) (0,0) ht4  [Ha (lnM F7_ slices)] ?_;rintro⟨kj,fx⟩ m4 az ae hl1 J4 d0;try unfold zX at ae;rcases zI ae with⟨c1,ae⟩|⟨c1,ae⟩
  ·obtain⟨kb,h2,ae⟩:=zc ae;let Z0:List HO:=[Hq c1,Hi F7_ h2,Ha (lnM s8 kb)];rcases zI ae with⟨c2,ae⟩|⟨c2,ae⟩
   ·cases ae
   ·obtain rfl:=za ae;exact yB X0 hC d0 (w64 (kj+((kb.length:Nat):Int)),w64 (fx+1)) hl1 (Z0++[Hq c2])
  ·obtain rfl:=za ae;obtain rfl:=hl1;exact yB X0 hC aw kj aa [Hq c1]
def wK:Code:=(f189.body).getD .skip
abbrev z1A (n_:Int)(f_:ArN 64 (ArN 64 (List Int)))(out:List Int):List (Nat×T):=[(0,.own (.box (wz 64 (wz 64 (eNl 1 s8)) f_))),(4,.d (I n_)),(11,.own (eOs 1 false s8 out))]
abbrev z1z (m_:z6)(t_:Int)(n_:Int)(f_:ArN 64 (ArN 64 (List Int)))(aq:List z8)(gj:Int):List (Nat×T):=[(0,.own (.box (wz 64 (wz 64 (eNl 1 s8)) f_))),(3,.d (I t_)),(4,.d (I n_)),(6,.own (.box (zO m_))),(11,.own (eOs 1 true s8 [])),(19,.d (eSl 2 false F9_ aq)),(20,.d (I ((aq.length:Nat):Int))),(21,.d (I gj))]
abbrev z1y (m_:z6)(t_:Int)(n_:Int)(f_:ArN 64 (ArN 64 (List Int)))(aq:List z8)(gj:Int):List (Nat×T):=[(0,.own (.box (wz 64 (wz 64 (eNl 1 s8)) f_))),(3,.d (I t_)),(4,.d (I n_)),(6,.own (.box (zO m_))),(11,.own (eOs 1 true s8 [])),(19,.d (eSl 2 false F9_ aq)),(20,.d (I ((aq.length:Nat):Int))),(21,.d (I gj))]
theorem QL (hC:zF prog ctr)(h0k:ctr.Has vG)(h01:ctr.Has yh)(cm:Value):∀(m_:z6) (s_:Int) (t_:Int) (n_:Int) (f_:ArN 64 (ArN 64 (List Int))) (r0:List Int×ArN 64 (ArN 64 (List Int))),jK m_ s_ t_ n_ f_=some r0->Yr prog (.fn 189 []) [.atom cm,.agg [I m_.Inputs,I m_.Outputs,eSl 1 false yN m_.Rows],I s_,I t_,I n_] ([cm].zip [.box (wz 64 (wz 64 (eNl 1 s8)) f_)]) (eNl 1 s8 r0.1) [.box (wz 64 (wz 64 (eNl 1 s8)) r0.2)]:=by
 intro m_ s_ t_ n_ f_ r0 aa;refine zl6 (tt:=yw) (nt:=85) (body:=wK) [0] zx func189 rfl (by kernel_rfl) rfl rfl (by show(5:Nat)<=85;decide) (by decide) rfl rfl rfl rfl (λE hG hE=>?_) rfl;unfold jK at aa;refine yA ((xRe prog 10 (.atom (.slice none 0 0)) (eNl 1 s8 ([]:List Int)) (zq1 1)).or ((QJ zx (.inl 76) [66]).or X0)) hC wK [1] [] [(0,.own (.box (wz 64 (wz 64 (eNl 1 s8)) f_))),(2,.d (I s_)),(3,.d (I t_)),(4,.d (I n_)),(6,.own (.box (zO m_)))] [Hn (rfl:T.d (.atom (.slice none 0 0))=T.d (.atom (.slice none 0 0)))] ?_;refine zpy (c':=(sub [1,0] wK)) (by kernel_rfl) hG ?_;refine yJ ((QJ zx (.inl 76) [66]).or X0) hC wK [1,0,1,1] [] [0,4,11] (λz:List Int=>jE n_ f_ z=some r0) (λz=>z1A n_ f_ z) [(0,.own (.box (wz 64 (wz 64 (eNl 1 s8)) f_))),(2,.d (I s_)),(3,.d (I t_)),(4,.d (I n_)),(6,.own (.box (zO m_))),(11,.own (eOs 1 true s8 []))] [Hh (.cut 2)] ?_ λJ1 aw=>?_
 ·rintro out aa;unfold jE at aa;rcases zI aa with⟨c0,aa⟩|⟨c0,aa⟩
  ·obtain rfl:=za aa;exact yF ((xRe prog 10 (.atom (.slice none 0 0)) (eNl 1 s8 ([]:List Int)) (zq1 1)).or ((QJ zx (.inl 76) [66]).or X0)) hC .ret [(0,.own (.box (wz 64 (wz 64 (eNl 1 s8)) f_))),(10,.d (eNl 1 s8 ([]:List Int)))] [Ha (lnM s8 out),Hq c0,Hn (rfl:T.d (.atom (.slice none 0 0))=T.d (.atom (.slice none 0 0)))] λst0 h0=>hE _ st0 (.inr rfl) (Jn h0 ⟨⟨rfl,rfl⟩,trivial⟩) (zBy h0 rfl rfl)
  ·obtain⟨r_,h0,aa⟩:=zc aa;obtain⟨g0,aa⟩:=gdE aa;obtain rfl:=za aa;exact yF ((xRe prog 10 (eSl 1 true s8 r_) (eNl 1 s8 r_) (λS v q=>(LeA.slNl 1 true s8 g0).repV q)).or ((QJ zx (.inl 76) [66]).or X0)) hC .ret [(0,.own (.box (wz 64 (wz 64 (eNl 1 s8)) f_))),(10,.d (eNl 1 s8 r_))] [Ha (lnM s8 out),Hq c0,Hg (JO h01),Hm (shM s8 s8 out),Hs (JP h01 (x:=out) h0 (loC F7_ out <| loN)),Hm (shM s8 s8 out),Hn (rfl:T.d (eSl 1 true s8 r_)=T.d (eSl 1 true s8 r_))] λst0 h0=>hE _ st0 (.inr rfl) (Jn h0 ⟨⟨rfl,rfl⟩,trivial⟩) (zBy h0 rfl rfl)
 ·obtain⟨aq,h1,aa⟩:=zc aa;obtain⟨t2,ht2,aa⟩:=zc aa;refine yL ((QJ zx (.inl 76) [66]).or X0) hC wK [1,0,1,1,2,1,0] [J1] (λs=>vX m_ t_ n_ f_ aq s) (λx=>z1y m_ t_ n_ f_ aq x) 0 ht2  [Hi yN h1,Ha (lnM F9_ aq)] ?_;rintro gj m2 az ae hl1 J2 a6;try unfold vX at ae;rcases zI ae with⟨c1,ae⟩|⟨c1,ae⟩
  ·refine yJ ((QJ zx (.inl 76) [66]).or X0) hC wK [1,0,1,1,2,1,0,0,1,1] [J1,J2] [0,3,4,6,11,19,20,21] (λz:Unit=>wJ gj=some az) (λz=>z1z m_ t_ n_ f_ aq gj) [(0,.own (.box (wz 64 (wz 64 (eNl 1 s8)) f_))),(3,.d (I t_)),(4,.d (I n_)),(6,.own (.box (zO m_))),(11,.own (eOs 1 true s8 [])),(19,.d (eSl 2 false F9_ aq)),(20,.d (I ((aq.length:Nat):Int))),(21,.d (I gj))] [Hq c1,Hh (.cut 0)] ?_ λJ3 bk=>?_
   ·rintro⟨⟩ ae;unfold wJ at ae;obtain rfl:=za ae;exact yB ((QJ zx (.inl 76) [66]).or X0) hC a6 (w64 (gj+1)) hl1 []
   ·obtain⟨al,h2,ae⟩:=zc ae;obtain⟨ll,h3,ae⟩:=zc ae;obtain⟨cr,h4,ae⟩:=zc ae;let Z0:List HO:=[Hi F9_ h2,Hi yN h3,Hi F9_ h4];rcases zI ae with⟨c2,ae⟩|⟨c2,ae⟩
    ·obtain rfl:=za ae;obtain rfl:=hl1;exact yBx ((QJ zx (.inl 76) [66]).or X0) hC aw ([gj]:List Int) aa [(0,.own (.box (wz 64 (wz 64 (eNl 1 s8)) f_))),(4,.d (I n_)),(11,.own (eOs 1 true s8 ([gj])))] inferInstance (Z0++[Hq c2])
    ·rcases zI ae with⟨c3,ae⟩|⟨c3,ae⟩
     ·let Z1:List HO:=(Z0++(Hq c2::(rpN 4 (Hq c3) [])));rcases zI ae with⟨c4,ae⟩|⟨c4,ae⟩
      ·obtain⟨cell,h5,ae⟩:=zc ae;obtain⟨bo,h6,ae⟩:=zc ae;let Z2:List HO:=(Z1++(rpN 7 (Hq c4) (Hn (⟨z2U (by kernel_rfl) f_ (i0 h5),(iL (wz 64 (eNl 1 s8)) h5).2⟩:XI yw 246 ((f_.l).map (wz 64 (eNl 1 s8))) al.To=true/\al.To.toNat<((f_.l).map (wz 64 (eNl 1 s8))).length)::Hq c4::Hh (.f)::Hs (iM (wz 64 (eNl 1 s8)) h5)::Hn (⟨z2U (by kernel_rfl) cell (i0 h6),(iL (eNl 1 s8) h6).2⟩:XI yw 221 ((cell.l).map (eNl 1 s8)) cr.To=true/\cr.To.toNat<((cell.l).map (eNl 1 s8)).length)::Hq c4::Hh (.f)::Hs (iM (wz 64 (eNl 1 s8)) h5)::Hh (.f)::Hs (iM (eNl 1 s8) h6)::Hn (rfl:T.d (eNl 1 s8 bo)=T.d (eNl 1 s8 bo))::Hq c4::Ha (lnM s8 bo)::(rpN 4 (Hq c4) []))));rcases zI ae with⟨c5,ae⟩|⟨c5,ae⟩
       ·obtain⟨im,h7,ae⟩:=zc ae;obtain⟨iv,h8,ae⟩:=zc ae;obtain⟨aj,h9,ae⟩:=zc ae;obtain rfl:=za ae;obtain rfl:=hl1;exact yB ((xLs zx 75 (eNl 1 s8 iv) (eSl 1 false s8 iv) inferInstance).or ((xBl zx 66).or ((xLs zx 59 (eNl 1 s8 bo) (eSl 1 false s8 bo) inferInstance).or ((QJ zx (.inl 76) [66]).or X0)))) hC aw aj aa (Z2++[Hq c5,Hn (⟨z2U (by kernel_rfl) f_ (i0 h7),(iL (wz 64 (eNl 1 s8)) h7).2⟩:XI yw 246 ((f_.l).map (wz 64 (eNl 1 s8))) al.To=true/\al.To.toNat<((f_.l).map (wz 64 (eNl 1 s8))).length),Hh (.op 9),Hh (.f),Hs (iM (wz 64 (eNl 1 s8)) h7),Hn (⟨z2U (by kernel_rfl) im (i0 h8),(iL (eNl 1 s8) h8).2⟩:XI yw 221 ((im.l).map (eNl 1 s8)) cr.To=true/\cr.To.toNat<((im.l).map (eNl 1 s8)).length),Hh (.op 0),Hh (.f),Hs (iM (wz 64 (eNl 1 s8)) h7),Hh (.f),Hs (iM (eNl 1 s8) h8),Hn (rfl:T.d (eNl 1 s8 iv)=T.d (eNl 1 s8 iv)),Hm (shM s8 s8 ([gj])),Hg (JO h0k),Hm (shM F7_ F7_ ([[gj],iv])),Hs (JP h0k (x:=[[gj],iv]) h9 (loC zfy ([[gj],iv]:List (List Int)) <| loN)),Hm (shM F7_ F7_ ([[gj],iv]))])
       ·exact yB ((xLs zx 59 (eNl 1 s8 bo) (eSl 1 false s8 bo) inferInstance).or ((QJ zx (.inl 76) [66]).or X0)) hC bk () ae (Z2++[Hq c5])
      ·exact yB ((QJ zx (.inl 76) [66]).or X0) hC bk () ae (Z1++(rpN 14 (Hq c4) [qF]))
     ·exact yB ((QJ zx (.inl 76) [66]).or X0) hC bk () ae (Z0++(Hq c2::(rpN 4 (Hq c3) (rpN 15 qF []))))
  ·obtain rfl:=za ae;obtain rfl:=hl1;exact yBx ((QJ zx (.inl 76) [66]).or X0) hC aw ([]:List Int) aa [(0,.own (.box (wz 64 (wz 64 (eNl 1 s8)) f_))),(4,.d (I n_)),(11,.own (eOs 1 true s8 []))] inferInstance [Hq c1]
def z4w:Code:=(f190.body).getD .skip
theorem z4Y (hC:zF prog ctr)(cm:Value):∀(s_:Int) (t_:Int) (w_:List Int) (f_:ArN 64 (ArN 64 (List Int))) (r0:ArN 64 (ArN 64 (List Int))),Z9 s_ t_ w_ f_=some r0->Yr prog (.fn 190 []) [.atom cm,I s_,I t_,eNl 1 s8 w_] ([cm].zip [.box (wz 64 (wz 64 (eNl 1 s8)) f_)]) (.tup []) [.box (wz 64 (wz 64 (eNl 1 s8)) r0)]:=by intro s_ t_ w_ f_ r0 aa;refine zdf (tt:=yw) (nt:=22) (body:=z4w) [0] zx func190 rfl (by kernel_rfl) rfl rfl (by show(4:Nat)<=22;decide) (by decide) rfl rfl (λE hE=>?_) rfl;unfold Z9 at aa;refine zsN 0 (v:=cm) ⟨_,rfl⟩ (by kernel_rfl) λb0 hb0=>?_;subst hb0;obtain⟨cell,h0,aa⟩:=zc aa;obtain⟨bo,h1,aa⟩:=zc aa;obtain⟨arr,h2,aa⟩:=zc aa;replace h2:=za h2;obtain⟨arr1,h3,aa⟩:=zc aa;replace h3:=za h3;obtain⟨im,h4,aa⟩:=zc aa;obtain⟨iv,h5,aa⟩:=zc aa;obtain⟨arr2,h6,aa⟩:=zc aa;replace h6:=za h6;obtain⟨n9,h7,aa⟩:=zc aa;replace h7:=za h7;obtain rfl:=za aa;exact yF ((xIr zx 21 0 t_.toNat b0).or ((xRi zx 20 64 64 b0).or ((xNr prog 19 b0).or ((xMv prog 11 0 (z9J b0) rfl).or X0)))) hC .normal [(0,.own (.box (wz 64 (wz 64 (eNl 1 s8)) n9)))] [Hn (rfl:some (z9J b0)=some (z9J b0)),Hn (⟨z2U (by kernel_rfl) f_ (i0 h0),(iL (wz 64 (eNl 1 s8)) h0).2⟩:XI yw 246 ((f_.l).map (wz 64 (eNl 1 s8))) s_=true/\s_.toNat<((f_.l).map (wz 64 (eNl 1 s8))).length),Hh (.op 10),Hh (.f),Hs (iM (wz 64 (eNl 1 s8)) h0),Hn (⟨z2U (by kernel_rfl) cell (i0 h1),(iL (eNl 1 s8) h1).2⟩:XI yw 221 ((cell.l).map (eNl 1 s8)) t_=true/\t_.toNat<((cell.l).map (eNl 1 s8)).length),Hh (.op 0),Hh (.f),Hs (iM (wz 64 (eNl 1 s8)) h0),Hh (.f),Hs (iM (eNl 1 s8) h1),Hh (.f),Hs (iM (wz 64 (eNl 1 s8)) h0),Hh (.f),Hs (iM (eNl 1 s8) h1),Hx (.l ((arr.l).map (eNl 1 s8))) ((ArN.setL (eNl 1 s8) cell t_ w_).trans (congrArg (λq=>(ArN.l q).map (eNl 1 s8)) h2)),Hx (.l ((arr1.l).map (wz 64 (eNl 1 s8)))) ((ArN.setL (wz 64 (eNl 1 s8)) f_ s_ arr).trans (congrArg (λq=>(ArN.l q).map (wz 64 (eNl 1 s8))) h3)),Hn (rfl:T.d (.atom (z9J b0))=T.d (.atom (z9J b0))),Hn (⟨rfl,i0 h4,zqA (x:=arr1) h4⟩:T.d (.atom (z9J b0))=T.d (.atom (z9J b0))/\0<=t_/\t_.toNat<64),Hn (⟨⟨congrArg (λk=>T.d (.atom (.pointer (some ⟨b0,k,none⟩)))) (zsP (f:=(wz 64 (eNl 1 s8))) arr1 h4).symm,(iL (wz 64 (eNl 1 s8)) h4).2⟩,rfl⟩:(T.d (.atom (.pointer (some ⟨b0,t_.toNat*64,none⟩)))=T.d (.atom (.pointer (some ⟨b0,A.sizes (((arr1.l).map (wz 64 (eNl 1 s8))).take t_.toNat),none⟩)))/\t_.toNat<((arr1.l).map (wz 64 (eNl 1 s8))).length)/\some (z9J b0)=some (z9J b0)),Hh (.op 2),Hh (.f),Hs (iM (wz 64 (eNl 1 s8)) h4),Hn (⟨z2U (by kernel_rfl) im (i0 h5),(iL (eNl 1 s8) h5).2⟩:XI yw 221 ((im.l).map (eNl 1 s8)) s_=true/\s_.toNat<((im.l).map (eNl 1 s8)).length),Hh (.op 0),Hh (.f),Hs (iM (wz 64 (eNl 1 s8)) h4),Hh (.f),Hs (iM (eNl 1 s8) h5),Hh (.f),Hs (iM (wz 64 (eNl 1 s8)) h4),Hh (.f),Hs (iM (eNl 1 s8) h5),Hx (.l ((arr2.l).map (eNl 1 s8))) ((ArN.setL (eNl 1 s8) im s_ w_).trans (congrArg (λq=>(ArN.l q).map (eNl 1 s8)) h6)),Hx (.l ((n9.l).map (wz 64 (eNl 1 s8)))) ((ArN.setL (wz 64 (eNl 1 s8)) arr1 t_ arr2).trans (congrArg (λq=>(ArN.l q).map (wz 64 (eNl 1 s8))) h7))] λst0 h0=>hE _ st0 (.inl rfl) (Jn h0 ⟨⟨rfl,rfl⟩,trivial⟩)
def yG:Code:=(f169.body).getD .skip
def XB:zN:=spF (α:=z6) (ρ:=ArN 64 (ArN 64 (List Int))) 169 (λx=>[zO x]) (λr=>(eBx (wz 64 (wz 64 (eNl 1 s8)))) r) (λx=>Z8 x) [] (Q7)
abbrev z28 (f_:ArN 64 (ArN 64 (List Int))):List (Nat×T):=[(3,.own (.box (.box (wz 64 (wz 64 (eNl 1 s8)) f_))))]
abbrev z27 (m_:z6)(n_:Int)(ol:ArN 64 (ArN 64 (List Int))):List (Nat×T):=[(1,.own (.box (zO m_))),(3,.own (.box (.box (wz 64 (wz 64 (eNl 1 s8)) ol)))),(4,.own (.box (I n_)))]
abbrev z21 (m_:z6)(n_:Int)(now:List zW)(mh:ArN 64 (ArN 64 (List Int)))(nu:Int):List (Nat×T):=[(1,.own (.box (zO m_))),(3,.own (.box (.box (wz 64 (wz 64 (eNl 1 s8)) mh)))),(4,.own (.box (I n_))),(48,.d (eSl 4 false (y9 s8 s8 (eNl 1 s8) eB) now)),(49,.d (I ((now.length:Nat):Int))),(50,.d (I nu))]
abbrev z26 (m_:z6)(n_:Int)(om:ArN 64 (ArN 64 (List Int)))(now:List zW):List (Nat×T):=[(1,.own (.box (zO m_))),(3,.own (.box (.box (wz 64 (wz 64 (eNl 1 s8)) om)))),(4,.own (.box (I n_))),(5,.own (.box (eOs 4 false (y9 s8 s8 (eNl 1 s8) eB) now)))]
abbrev q9 (m_:z6)(n_:Int)(aj:z6)(iq:ArN 64 (ArN 64 (List Int)))(gv:List zW):List (Nat×T):=[(1,.own (.box (zO m_))),(3,.own (.box (.box (wz 64 (wz 64 (eNl 1 s8)) iq)))),(4,.own (.box (I n_))),(5,.own (.box (eOs 4 false (y9 s8 s8 (eNl 1 s8) eB) gv))),(22,.d (.fn 199 [.sptr (.agg [I aj.Inputs,I aj.Outputs,eSl 1 false yN aj.Rows])]))]
abbrev z23 (m_:z6)(l8:ArN 64 (ArN 64 (List Int)))(n_:Int):List (Nat×T):=[(1,.own (.box (zO m_))),(3,.own (.box (.box (wz 64 (wz 64 (eNl 1 s8)) l8)))),(4,.own (.box (I n_)))]
theorem z4X (hC:zF prog ctr)(h1X:ctr.Has QU)(h0k:ctr.Has vG)(h01:ctr.Has yh):XB.Ok prog:=by
 refine zC ?_;rintro m_ r0 aa;try unfold Z8 at aa;refine zhW (tt:=yw) (rs:=[(true,2,none)]) (n:=⟨65,[]⟩) (body:=yG) zx func169 rfl (by kernel_rfl) rfl rfl (by show(1:Nat)<=65;decide) λE hE=>?_
 refine yJ X0 hC yG [1,1] [] [3] (λz:ArN 64 (ArN 64 (List Int))=>kO z=some r0) (λz=>z28 z) [(1,.own (.box (zO m_))),(3,.own (.box (.box (wz 64 (wz 64 (eNl 1 s8)) (ArN.rep 64 (ArN.rep 64 ([]:List Int)))))))] [Hh (.cut 2)] ?_ λJ1 aw=>?_
 ·rintro f_ aa;unfold kO at aa;obtain rfl:=za aa;let ZE:List HO:=[];exact zm6 X0 zx hC z1E hE 4000 (hs:=hoH ZE) (x:=(.box (wz 64 (wz 64 (eNl 1 s8)) f_))) (hoB ZE) (by kernel_rfl) (LeV.refl _)
 ·obtain⟨t2,ht2,aa⟩:=zc aa;refine yL X0 hC yG [1,1,2,1,0] [J1] (λs=>kL m_ s.1 s.2) (λx=>z23 m_ x.1 x.2) ((ArN.rep 64 (ArN.rep 64 ([]:List Int))),1) ht2  [] ?_;rintro⟨l8,n_⟩ m2 az ae hl1 J2 a6;try unfold kL at ae
  let Z0:List HO:=[Ha (lnM yN m_.Rows)];rcases zI ae with⟨c0,ae⟩|⟨c0,ae⟩
  ·refine yJ X0 hC yG [1,1,2,1,0,0,1] [J1,J2] [1,3,4] (λz:ArN 64 (ArN 64 (List Int))=>kN n_ z=some az) (λz=>z27 m_ n_ z) [(1,.own (.box (zO m_))),(3,.own (.box (.box (wz 64 (wz 64 (eNl 1 s8)) l8)))),(4,.own (.box (I n_)))] (Z0++[Hq c0,Hh (.cut 0)]) ?_ λJ3 bk=>?_
   ·rintro ol ae;unfold kN at ae;obtain rfl:=za ae;exact yB X0 hC a6 (ol,w64 (n_+1)) hl1 []
   ·refine yJ X0 hC yG [1,1,2,1,0,0,1,2,0,1] [J1,J2,J3] [1,3,4,5] (λz:ArN 64 (ArN 64 (List Int))×List zW=>kM n_ z.1 z.2=some az) (λz=>z26 m_ n_ z.1 z.2) [(1,.own (.box (zO m_))),(3,.own (.box (.box (wz 64 (wz 64 (eNl 1 s8)) l8)))),(4,.own (.box (I n_))),(5,.own (.box (eOs 4 true (y9 s8 s8 F7_ eB) [])))] [Hh (.cut 1)] ?_ λJ4 d0=>?_
    ·rintro⟨om,now⟩ ae;unfold kM at ae;obtain⟨t5,ht5,ae⟩:=zc ae;refine yL X0 hC yG [1,1,2,1,0,0,1,2,0,1,1,1,0] [J1,J2,J3] (λs=>uD now s.1 s.2) (λx=>z21 m_ n_ now x.1 x.2) (om,0) ht5  [Hh (.v 0 [5]),Hm (shM (y9 s8 s8 (eNl 1 s8) eB) (y9 s8 s8 (eNl 1 s8) eB) now),Hh (.v 1 [5]),Ha (lnM (y9 s8 s8 (eNl 1 s8) eB) now)] ?_;rintro⟨mh,nu⟩ m5 dl ah hl2 J5 dn;try unfold uD at ah;rcases zI ah with⟨c1,ah⟩|⟨c1,ah⟩
     ·obtain⟨fw,h0,ah⟩:=zc ah;obtain⟨r_,h1,ah⟩:=zc ah;obtain rfl:=za ah;exact yB ((zjd (P:=prog) yw 3 0 (fa:=.fn 190 []) (z:=.box (wz 64 (wz 64 (eNl 1 s8)) mh)) (z':=.box (wz 64 (wz 64 (eNl 1 s8)) r_)) (r:=.tup []) (xl:=[]) (xr:=[s8 fw.S,s8 fw.T,(eNl 1 s8) fw.Word]) rfl rfl (λv=>z4Y hC v _ _ _ _ _ h1) 61).or X0) hC dn (r_,w64 (nu+1)) hl2 [Hq c1,Hi (y9 s8 s8 (eNl 1 s8) eB) h0,Hn (⟨rfl,leP (show z3p [] [] from inferInstance),leP (show z3p [s8 fw.S,s8 fw.T,(eNl 1 s8) fw.Word] [s8 fw.S,s8 fw.T,(eNl 1 s8) fw.Word] from inferInstance),rfl,rfl⟩:([.fn 190 []]:List A)=[.fn 190 []]/\LeP [] []/\LeP [s8 fw.S,s8 fw.T,(eNl 1 s8) fw.Word] [s8 fw.S,s8 fw.T,(eNl 1 s8) fw.Word]/\T.als 3 [.deref] 0 0=T.als 3 [.deref] 0 0/\T.own (.box (.box (wz 64 (wz 64 (eNl 1 s8)) mh)))=T.own (.box (.box (wz 64 (wz 64 (eNl 1 s8)) mh))))]
     ·obtain rfl:=za ah;obtain rfl:=hl2;exact yB X0 hC bk mh ae [Hq c1]
    ·obtain⟨aj,h2,ae⟩:=zc ae;obtain⟨t6,la,ae⟩:=zc ae;refine yAt X0 hC (sub [1,1,2,1,0,0,1,2,0,1,2,1,0] yG) (frs [1,1,2,1,0,0,1,2,0,1,2,1,0] [J1,J2,J3,J4] yG []) [(1,.own (.box (zO m_))),(3,.own (.box (.box (wz 64 (wz 64 (eNl 1 s8)) l8)))),(4,.own (.box (I n_))),(5,.own (.box (eOs 4 true (y9 s8 s8 (eNl 1 s8) eB) []))),(22,.d (.fn 199 [.sptr (.agg [I aj.Inputs,I aj.Outputs,eSl 1 false yN aj.Rows])]))] [Hc h1X (x:=m_) h2 (loC zO m_ <| loN)] λst0 h0=>?_;refine z6V (g:=.tmp 22) (ps:=[23,24]) (assign:=(sub [1,1,2,1,0,0,1,2,0,1,2,1,0,0] yG)) (body:=(sub [1,1,2,1,0,0,1,2,0,1,2,1,0,1] yG)) (K:=199) (caps:=[.sptr (.agg [I aj.Inputs,I aj.Outputs,eSl 1 false yN aj.Rows])]) (by kernel_rfl) [1,3,4,5,22] (λs=>q9 m_ n_ aj s.1 s.2) (λz=>nomatch z) (λz=>nomatch z) ((λ(x:Int×Int) (_:Bool) (_:Value)=>[s8 x.1,s8 x.2])) (F:=@qQ aj) (λs x=>we m_ n_ s.1 s.2 x.1 x.2) (l8,([]:List zW)) t6 _ h0 inferInstance (by kernel_rfl) (by decide) (λ_=>rfl) (by rintro⟨⟩) (by kernel_rfl) (λ_ _ _=>rfl) (z80 hC aj) la ?_ ?_
     ·rintro py ⟨iq,gv⟩ ⟨jj,eg⟩ vr dl ah;replace ah:we m_ n_ iq gv jj eg=some dl:=ah;unfold we at ah;refine yF X0 hC .normal [(1,.own (.box (zO m_))),(3,.own (.box (.box (wz 64 (wz 64 (eNl 1 s8)) iq)))),(4,.own (.box (I n_))),(5,.own (.box (eOs 4 false (y9 s8 s8 (eNl 1 s8) eB) gv))),(6,.d (I jj)),(7,.d (I eg)),(22,.d (.fn 199 [.sptr (.agg [I aj.Inputs,I aj.Outputs,eSl 1 false yN aj.Rows])]))] [] λst0 h0=>⟨rfl,zdB h0 ?_⟩;obtain⟨cell,h3,ah⟩:=zc ah;obtain⟨bo,h4,ah⟩:=zc ah;let Z1:List HO:=[Hn (⟨z2U (by kernel_rfl) iq (i0 h3),(iL (wz 64 (eNl 1 s8)) h3).2⟩:XI yw 246 ((iq.l).map (wz 64 (eNl 1 s8))) jj=true/\jj.toNat<((iq.l).map (wz 64 (eNl 1 s8))).length),Hh (.op 5),Hh (.f),Hs (iM (wz 64 (eNl 1 s8)) h3),Hn (⟨z2U (by kernel_rfl) cell (i0 h4),(iL (eNl 1 s8) h4).2⟩:XI yw 221 ((cell.l).map (eNl 1 s8)) eg=true/\eg.toNat<((cell.l).map (eNl 1 s8)).length),Hh (.op 0),Hh (.f),Hs (iM (wz 64 (eNl 1 s8)) h3),Hh (.f),Hs (iM (eNl 1 s8) h4),Hn (⟨rfl,rfl⟩:T.d (eNl 1 s8 bo)=T.d (eNl 1 s8 bo)/\T.d (.atom (.slice none 0 0))=T.d (.atom (.slice none 0 0)))];rcases zI ah with⟨c2,ah⟩|⟨c2,ah⟩
      ·obtain rfl:=za ah;exact yF ((ztO zx 32 51 1 (bo.map s8) true (!bo.isEmpty) (by kernel_rfl) (nlB true s8 bo)).or X0) hC .normal (q9 m_ n_ aj iq gv) (Z1++[Hq c2]) λst0 h0=>⟨rfl,_,h0,LeL.refl _⟩
      ·obtain⟨ak,h5,ah⟩:=zc ah;let Z2:List HO:=(Z1++[Hq c2,Hn (⟨rfl,leP (show z3p [] [] from inferInstance),leP (show z3p [zO m_,s8 jj,s8 eg,s8 n_] [zO m_,s8 jj,s8 eg,s8 n_] from inferInstance),rfl,rfl⟩:([.fn 189 []]:List A)=[.fn 189 []]/\LeP [] []/\LeP [zO m_,s8 jj,s8 eg,s8 n_] [zO m_,s8 jj,s8 eg,s8 n_]/\T.als 3 [.deref] 0 0=T.als 3 [.deref] 0 0/\T.own (.box (.box (wz 64 (wz 64 (eNl 1 s8)) iq)))=T.own (.box (.box (wz 64 (wz 64 (eNl 1 s8)) iq)))),Hn (⟨rfl,rfl⟩:T.d (eNl 1 s8 ak.1)=T.d (eNl 1 s8 ak.1)/\T.d (.atom (.slice none 0 0))=T.d (.atom (.slice none 0 0)))]);rcases zI ah with⟨c3,ah⟩|⟨c3,ah⟩
       ·obtain⟨g0,ah⟩:=gdE ah;obtain rfl:=za ah;exact yF ((ztO zx 40 51 1 (ak.1.map s8) true (!ak.1.isEmpty) (by kernel_rfl) (nlB true s8 ak.1)).or ((zjd (P:=prog) yw 3 0 (fa:=.fn 189 []) (z:=.box (wz 64 (wz 64 (eNl 1 s8)) iq)) (z':=.box (wz 64 (wz 64 (eNl 1 s8)) ak.2)) (r:=eNl 1 s8 ak.1) (xl:=[]) (xr:=[zO m_,s8 jj,s8 eg,s8 n_]) rfl rfl (λv=>QL hC h0k h01 v _ _ _ _ _ _ h5) 38).or ((ztO zx 32 51 1 (bo.map s8) true (!bo.isEmpty) (by kernel_rfl) (nlB true s8 bo)).or X0))) hC .normal (q9 m_ n_ aj ak.2 (gv++([(zW.mk jj eg ak.1 false)]:List zW))) (Z2++[Hq c3,Hq (dM (y9 s8 s8 (eNl 1 s8) eB) ([(zW.mk jj eg ak.1 false)]:List zW)),Hn (dM (y9 s8 s8 (eNl 1 s8) eB) ([(zW.mk jj eg ak.1 false)]:List zW)),Hn (aL (y9 s8 s8 (eNl 1 s8) eB) (y9 s8 s8 (eNl 1 s8) eB) g0),Hl (aM (y9 s8 s8 (eNl 1 s8) eB) gv ([(zW.mk jj eg ak.1 false)]:List zW))]) λst0 h0=>⟨rfl,_,h0,LeL.refl _⟩
       ·obtain rfl:=za ah;exact yF ((ztO zx 40 51 1 (ak.1.map s8) true (!ak.1.isEmpty) (by kernel_rfl) (nlB true s8 ak.1)).or ((zjd (P:=prog) yw 3 0 (fa:=.fn 189 []) (z:=.box (wz 64 (wz 64 (eNl 1 s8)) iq)) (z':=.box (wz 64 (wz 64 (eNl 1 s8)) ak.2)) (r:=eNl 1 s8 ak.1) (xl:=[]) (xr:=[zO m_,s8 jj,s8 eg,s8 n_]) rfl rfl (λv=>QL hC h0k h01 v _ _ _ _ _ _ h5) 38).or ((ztO zx 32 51 1 (bo.map s8) true (!bo.isEmpty) (by kernel_rfl) (nlB true s8 bo)).or X0))) hC .normal (q9 m_ n_ aj ak.2 gv) (Z2++[Hq c3]) λst0 h0=>⟨rfl,_,h0,LeL.refl _⟩
     ·rcases t6 with⟨iq,gv⟩|z
      ·dsimp only at ae;exact JF (by kernel_rfl) (d0 _ [(1,.own (.box (zO m_))),(3,.own (.box (.box (wz 64 (wz 64 (eNl 1 s8)) iq)))),(4,.own (.box (I n_))),(5,.own (.box (eOs 4 false (y9 s8 s8 (eNl 1 s8) eB) gv)))] (iq,gv) ae (show Own.canon [1,3,4,5] _=ofL _ by kernel_rfl) inferInstance)
      ·cases z
  ·obtain rfl:=za ae;obtain rfl:=hl1;exact yB X0 hC aw l8 aa (Z0++[Hq c0])
def z5A:Code:=(f149.body).getD .skip
def qz:zN:=spF (α:=z6×Int×Int) (ρ:=List Int×Bool×Int) 149 (λx=>[zO x.1,s8 x.2.1,s8 x.2.2]) (λr=>.tup [F3_ r.1,eB r.2.1,s8 r.2.2]) (λx=>jL x.1 x.2.1 x.2.2) [] (zdJ)
theorem z6r (hC:zF prog ctr)(h19:ctr.Has QT)(h1Y:ctr.Has XB)(h0i:ctr.Has wC)(h01:ctr.Has yh):qz.Ok prog:=by
 refine zC ?_;rintro⟨m_,s_,t_⟩ r0 aa;try unfold jL at aa;refine yO false [(6,none),(7,none),(8,none)] z5A 33 func149 λE hE=>?_;obtain⟨r_,h0,aa⟩:=zc aa
 let Z0:List HO:=[Hg (JO h19),Hm (shM s8 s8 ([s_,t_])),Hs (JP h19 (x:=(m_,[s_,t_])) h0 (loC zO m_ <| loC F3_ ([s_,t_]:List Int) <| loN))];rcases zI aa with⟨c0,aa⟩|⟨c0,aa⟩
 ·obtain rfl:=za aa;exact yEx X0 hC hE (Z0++[Hq c0,Hm (shM s8 s8 [])]) (.tup [eSl 1 true s8 [],B false,I r_]) (show LeV (.tup [eSl 1 true s8 [],B false,I r_]) (.tup [eSl 1 true s8 ([]:List Int),B false,I r_]) from inferInstance)
 ·obtain⟨aj,h1,aa⟩:=zc aa;obtain⟨cell,h2,aa⟩:=zc aa;obtain⟨bo,h3,aa⟩:=zc aa;obtain⟨ak,h4,aa⟩:=zc aa;obtain⟨au,h5,aa⟩:=zc aa;obtain rfl:=za aa;exact yE ((xLs zx 26 (eNl 1 s8 bo) (eSl 1 false s8 bo) inferInstance).or X0) hC hE (Z0++[Hq c0,Hc h1Y (x:=m_) h1 (loC zO m_ <| loN),Hn (⟨z2U (by kernel_rfl) aj (i0 h2),(iL (wz 64 (eNl 1 s8)) h2).2⟩:XI yw 246 ((aj.l).map (wz 64 (eNl 1 s8))) s_=true/\s_.toNat<((aj.l).map (wz 64 (eNl 1 s8))).length),Hh (.op 4),Hh (.f),Hs (iM (wz 64 (eNl 1 s8)) h2),Hn (⟨z2U (by kernel_rfl) cell (i0 h3),(iL (eNl 1 s8) h3).2⟩:XI yw 221 ((cell.l).map (eNl 1 s8)) t_=true/\t_.toNat<((cell.l).map (eNl 1 s8)).length),Hh (.op 0),Hh (.f),Hs (iM (wz 64 (eNl 1 s8)) h2),Hh (.f),Hs (iM (eNl 1 s8) h3),Hn (rfl:T.d (eNl 1 s8 bo)=T.d (eNl 1 s8 bo)),Hc h0i (x:=bo) h4 (loC F7_ bo <| loN),Hg (JO h01),Hm (shM s8 s8 ak),Hs (JP h01 (x:=ak) h5 (loC F7_ ak <| loN)),Hm (shM s8 s8 ak),Ha (lnM s8 au)])
def jZ:Code:=(f117.body).getD .skip
def Jd:zN:=spF (α:=z6×Unit) (ρ:=List (List Int)×Int) 117 (λx=>[zO x.1,(zj8 118) x.2]) (λr=>.tup [Us r.1,s8 r.2]) (λx=>UH x.1 x.2) [] (by rintro⟨a0,a1⟩ ⟨b0,b1⟩ h;have e0:=kZ.inj (f:=zO) _ _ (List.cons.inj h).1;replace h:=(List.cons.inj h).2;have e1:=kZ.inj (f:=(zj8 118)) _ _ (List.cons.inj h).1;subst e0 e1;rfl)
abbrev z6k (m_:z6)(x5:Int)(out:List (List Int)):List (Nat×T):=[(2,.own (.box (zO m_))),(4,.own (.box (eOs 1 true F7_ []))),(5,.own (.box (I x5))),(6,.own (.box (eOs 1 false F3_ out)))]
abbrev qN (m_:z6)(aj:Int)(ep:Int)(ai:List (List Int)):List (Nat×T):=[(2,.own (.box (zO m_))),(3,.own (.box (.fn 118 []))),(4,.own (.box (eOs 1 true F7_ []))),(5,.own (.box (I ep))),(6,.own (.box (eOs 1 false F3_ ai))),(15,.d (.fn 167 [.sptr (I aj)]))]
theorem zbi (hC:zF prog ctr)(h0l:ctr.Has Y8)(h1Z:ctr.Has Je)(h0m:ctr.Has qz)(h05:ctr.Has YB):Jd.Ok prog:=by
 refine zC ?_;rintro⟨m_,is⟩ r0 aa;try unfold UH at aa;refine yO false [(4,some 32),(5,some 33)] jZ 44 func117 λE hE=>?_;refine yJ X0 hC jZ [1,1] [] [2,4,5,6] (λz:Int×List (List Int)=>WP m_ z.1 z.2=some r0) (λz=>z6k m_ z.1 z.2) [(2,.own (.box (zO m_))),(3,.own (.box (.fn 118 []))),(4,.own (.box (eOs 1 true F7_ []))),(5,.own (.box (I 0))),(6,.own (.box (eOs 1 true F7_ [])))] [Hh (.cut 2)] ?_ λJ1 aw=>?_
 ·rintro⟨x5,out⟩ aa;unfold WP at aa;obtain⟨r_,h0,aa⟩:=zc aa;obtain rfl:=za aa;exact yE X0 hC hE [Hg (JO h05),Hm (shM F3_ F3_ out),Hs (JP h05 (x:=(out,m_.Inputs)) h0 (loC (eSl 1 false F3_) out <| loC s8 m_.Inputs <| loN)),Hm (shM F3_ F3_ out)]
 ·obtain⟨aj,h1,aa⟩:=zc aa;obtain⟨t2,ht2,aa⟩:=zc aa;refine yAt X0 hC (sub [1,1,2,1,0] jZ) (frs [1,1,2,1,0] [J1] jZ []) [(2,.own (.box (zO m_))),(3,.own (.box (.fn 118 []))),(4,.own (.box (eOs 1 true F7_ []))),(5,.own (.box (I 0))),(6,.own (.box (eOs 1 true F3_ []))),(15,.d (.fn 167 [.sptr (I aj)]))] [Ha (lnM yN m_.Rows),Hc h0l (x:=((m_.Rows.length:Nat):Int)) h1 (loC s8 ((m_.Rows.length:Nat):Int) <| loN)] λst0 h0=>?_;refine z6V (g:=.tmp 15) (ps:=[16,17]) (assign:=(sub [1,1,2,1,0,0] jZ)) (body:=(sub [1,1,2,1,0,1] jZ)) (K:=167) (caps:=[.sptr (I aj)]) (by kernel_rfl) [2,3,4,5,6,15] (λs=>qN m_ aj s.1 s.2) (λs=>qN m_ aj s.1 s.2) (λs=>Code.ret) ((λ(x:Int×Int) (_:Bool) (_:Value)=>[s8 x.1,s8 x.2])) (F:=@ut aj) (λs x=>jS m_ s.1 s.2 x.1 x.2) (0,([]:List (List Int))) t2 _ h0 inferInstance (by kernel_rfl) (by decide) (λ_=>rfl) (λ_=>rfl) (by kernel_rfl) (λ_ _ _=>rfl) (z1B hC aj) ht2 ?_ ?_
  ·rintro oz ⟨ep,ai⟩ ⟨d8,ay⟩ vr az ae;replace ae:jS m_ ep ai d8 ay=some az:=ae;unfold jS at ae;refine yF X0 hC .normal [(2,.own (.box (zO m_))),(3,.own (.box (.fn 118 []))),(4,.own (.box (eOs 1 true F7_ []))),(5,.own (.box (I ep))),(6,.own (.box (eOs 1 false F3_ ai))),(7,.d (I d8)),(8,.d (I ay)),(15,.d (.fn 167 [.sptr (I aj)]))] [] λst0 h0=>⟨rfl,zdB h0 ?_⟩;obtain⟨ak,h2,ae⟩:=zc ae;let Z0:List HO:=[Hc h1Z (x:=(d8,ay)) h2 (loC s8 d8 <| loC s8 ay <| loN)];rcases zI ae with⟨c0,ae⟩|⟨c0,ae⟩
   ·obtain rfl:=za ae;exact yF X0 hC .normal (qN m_ aj ep ai) (Z0++[Hq c0]) λst0 h0=>⟨rfl,_,h0,LeL.refl _⟩
   ·obtain⟨au,h3,ae⟩:=zc ae;let Z1:List HO:=(Z0++[Hq c0,Hc h0m (x:=(m_,d8,ay)) h3 (loC zO m_ <| loC s8 d8 <| loC s8 ay <| loN)]);rcases zI ae with⟨c1,ae⟩|⟨c1,ae⟩
    ·obtain rfl:=za ae;exact yF X0 hC .ret (qN m_ aj au.2.2 ai) (Z1++[Hq c1]) λst0 h0=>⟨rfl,_,h0,LeL.refl _⟩
    ·obtain⟨g0,ae⟩:=gdE ae;obtain rfl:=za ae;exact yF X0 hC .normal (qN m_ aj ep (ai++([au.1]:List (List Int)))) (Z1++[Hq c1,Hq (dM F3_ ([au.1]:List (List Int))),Hn (dM F3_ ([au.1]:List (List Int))),Hn (aL F3_ F3_ g0),Hl (aM F3_ ai ([au.1]:List (List Int)))]) λst0 h0=>⟨rfl,_,h0,LeL.refl _⟩
  ·rcases t2 with⟨ep,ai⟩|z
   ·dsimp only at aa;exact JF (by kernel_rfl) (aw _ [(2,.own (.box (zO m_))),(4,.own (.box (eOs 1 true F7_ []))),(5,.own (.box (I ep))),(6,.own (.box (eOs 1 false F3_ ai)))] (ep,ai) aa (show Own.canon [2,4,5,6] _=ofL _ by kernel_rfl) inferInstance)
   ·obtain⟨ep,ai⟩:=z;dsimp only at aa;show AWP _ _ (Code.ret) _ _;obtain rfl:=za aa;exact yEx X0 hC hE [Hm (shM F7_ F7_ [])] (.tup [eSl 1 true F3_ [],I ep]) (show LeV (.tup [eSl 1 true F3_ [],I ep]) (.tup [eSl 1 true F3_ ([]:List (List Int)),I ep]) from inferInstance)
def zdz:Code:=(f72.body).getD .skip
def z0W:zN:=spF (α:=z6) (ρ:=List (List Int)×Int) 72 (λx=>[zO x]) (λr=>.tup [Us r.1,s8 r.2]) (λx=>z0t x) [] (Q7)
theorem ze1 (hC:zF prog ctr)(h0h:ctr.Has uG)(h20:ctr.Has Jd):z0W.Ok prog:=by
 refine zC ?_;rintro m_ r0 aa;try unfold z0t at aa;refine yO false [(2,none),(3,none)] zdz 14 func72 λE hE=>?_;obtain⟨r_,h0,aa⟩:=zc aa
 let Z0:List HO:=[Hc h0h (x:=m_) h0 (loC zO m_ <| loN)];rcases zI aa with⟨c0,aa⟩|⟨c0,aa⟩
 ·obtain rfl:=za aa;exact yEx X0 hC hE (Z0++[Hq c0,Hm (shM F7_ F7_ [])]) (.tup [eSl 1 true F3_ [],I r_]) (show LeV (.tup [eSl 1 true F3_ [],I r_]) (.tup [eSl 1 true F3_ ([]:List (List Int)),I r_]) from inferInstance)
 ·obtain⟨aj,h1,aa⟩:=zc aa;obtain rfl:=za aa;exact yE X0 hC hE (Z0++[Hq c0,Hc h20 (x:=(m_,())) h1 (loC zO m_ <| loC (zj8 118) () <| loN)])
def zbz:Code:=(f74.body).getD .skip
def KH:zN:=spF (α:=Int×Int) (ρ:=List (List Int)×Int) 74 (λx=>[s8 x.1,s8 x.2]) (λr=>.tup [Us r.1,s8 r.2]) (λx=>QQ x.1 x.2) [] (W2)
theorem zcv (hC:zF prog ctr)(h0F:ctr.Has Kh):KH.Ok prog:=by refine zC ?_;rintro⟨inputs,k_⟩ r0 aa;try unfold QQ at aa;refine yO false [(4,none),(5,none)] zbz 12 func74 λE hE=>?_;obtain⟨r_,h0,aa⟩:=zc aa;obtain rfl:=za aa;exact yE X0 hC hE [Hc h0F (x:=(inputs,k_,k_)) h0 (loC s8 inputs <| loC s8 k_ <| loC s8 k_ <| loN)]
def zbB:Code:=(f75.body).getD .skip
def KI:zN:=spF (α:=List (List Int)) (ρ:=List (List Int)) 75 (λx=>[xh x]) (λr=>xh r) (λx=>Vf x) [] (Q7)
theorem zcx (hC:zF prog ctr):KI.Ok prog:=by
 refine zC ?_;rintro l_ r0 aa;try unfold Vf at aa;refine yO false [(2,none)] zbB 8 func75 λE hE=>?_
 let Z0:List HO:=[Ha (lnM F7_ l_)];rcases zI aa with⟨c0,aa⟩|⟨c0,aa⟩
 ·obtain rfl:=za aa;exact yEx X0 hC hE (Z0++[Hq c0,Hm (shM F4_ F3_ ([[]]))]) (eSl 1 true F3_ ([[]])) (show LeV (eSl 1 true F3_ ([[]])) (eSl 1 false F7_ ([[]]:List (List Int))) from inferInstance)
 ·obtain rfl:=za aa;exact yE X0 hC hE (Z0++[Hq c0])
def zbF:Code:=(f120.body).getD .skip
def VZ:zN:=spF (α:=Int×Int×Int) (ρ:=Bool) 120 (λx=>[s8 x.1,s8 x.2.1,(eSp s8) x.2.2]) (λr=>eB r) (λx=>Jt x.1 x.2.1 x.2.2) [] (zdJ)
theorem zcH (hC:zF prog ctr):VZ.Ok prog:=by
 refine zC ?_;rintro⟨a_,b_,x2⟩ r0 aa;try unfold Jt at aa;refine yO true [(5,none)] zbF 14 func120 λE hE=>?_;rcases zI aa with⟨c0,aa⟩|⟨c0,aa⟩
 ·obtain rfl:=za aa;exact yE X0 hC hE (rpN 4 (Hq c0) [])
 ·obtain rfl:=za aa;exact yE X0 hC hE (rpN 4 (Hq c0) [])
def v7:Code:=(f117.body).getD .skip
def Jc:zN:=spF (α:=z6×Int) (ρ:=List (List Int)×Int) 117 (λx=>[zO x.1,(z1k 120 (eSp s8)) x.2]) (λr=>.tup [Us r.1,s8 r.2]) (λx=>Zj x.1 x.2) [] (by rintro⟨a0,a1⟩ ⟨b0,b1⟩ h;have e0:=kZ.inj (f:=zO) _ _ (List.cons.inj h).1;replace h:=(List.cons.inj h).2;have e1:=kZ.inj (f:=(z1k 120 (eSp s8))) _ _ (List.cons.inj h).1;subst e0 e1;rfl)
abbrev z2e (m_:z6)(x5:Int)(out:List (List Int)):List (Nat×T):=[(2,.own (.box (zO m_))),(4,.own (.box (eOs 1 true F7_ []))),(5,.own (.box (I x5))),(6,.own (.box (eOs 1 false F3_ out)))]
abbrev wU (m_:z6)(is:Int)(aj:Int)(ep:Int)(ai:List (List Int)):List (Nat×T):=[(2,.own (.box (zO m_))),(3,.own (.box (.fn 120 [.sptr (I is)]))),(4,.own (.box (eOs 1 true F7_ []))),(5,.own (.box (I ep))),(6,.own (.box (eOs 1 false F3_ ai))),(15,.d (.fn 167 [.sptr (I aj)]))]
theorem z56 (hC:zF prog ctr)(h0l:ctr.Has Y8)(h0I:ctr.Has VZ)(h0m:ctr.Has qz)(h05:ctr.Has YB):Jc.Ok prog:=by
 refine zC ?_;rintro⟨m_,is⟩ r0 aa;try unfold Zj at aa;refine yO false [(4,some 32),(5,some 33)] v7 44 func117 λE hE=>?_;refine yJ X0 hC v7 [1,1] [] [2,4,5,6] (λz:Int×List (List Int)=>kS m_ z.1 z.2=some r0) (λz=>z2e m_ z.1 z.2) [(2,.own (.box (zO m_))),(3,.own (.box (.fn 120 [.sptr (I is)]))),(4,.own (.box (eOs 1 true F7_ []))),(5,.own (.box (I 0))),(6,.own (.box (eOs 1 true F7_ [])))] [Hh (.cut 2)] ?_ λJ1 aw=>?_
 ·rintro⟨x5,out⟩ aa;unfold kS at aa;obtain⟨r_,h0,aa⟩:=zc aa;obtain rfl:=za aa;exact yE X0 hC hE [Hg (JO h05),Hm (shM F3_ F3_ out),Hs (JP h05 (x:=(out,m_.Inputs)) h0 (loC (eSl 1 false F3_) out <| loC s8 m_.Inputs <| loN)),Hm (shM F3_ F3_ out)]
 ·obtain⟨aj,h1,aa⟩:=zc aa;obtain⟨t2,ht2,aa⟩:=zc aa;refine yAt X0 hC (sub [1,1,2,1,0] v7) (frs [1,1,2,1,0] [J1] v7 []) [(2,.own (.box (zO m_))),(3,.own (.box (.fn 120 [.sptr (I is)]))),(4,.own (.box (eOs 1 true F7_ []))),(5,.own (.box (I 0))),(6,.own (.box (eOs 1 true F3_ []))),(15,.d (.fn 167 [.sptr (I aj)]))] [Ha (lnM yN m_.Rows),Hc h0l (x:=((m_.Rows.length:Nat):Int)) h1 (loC s8 ((m_.Rows.length:Nat):Int) <| loN)] λst0 h0=>?_;refine z6V (g:=.tmp 15) (ps:=[16,17]) (assign:=(sub [1,1,2,1,0,0] v7)) (body:=(sub [1,1,2,1,0,1] v7)) (K:=167) (caps:=[.sptr (I aj)]) (by kernel_rfl) [2,3,4,5,6,15] (λs=>wU m_ is aj s.1 s.2) (λs=>wU m_ is aj s.1 s.2) (λs=>Code.ret) ((λ(x:Int×Int) (_:Bool) (_:Value)=>[s8 x.1,s8 x.2])) (F:=@ut aj) (λs x=>xC m_ is s.1 s.2 x.1 x.2) (0,([]:List (List Int))) t2 _ h0 inferInstance (by kernel_rfl) (by decide) (λ_=>rfl) (λ_=>rfl) (by kernel_rfl) (λ_ _ _=>rfl) (z1B hC aj) ht2 ?_ ?_
  ·rintro oz ⟨ep,ai⟩ ⟨d8,ay⟩ vr az ae;replace ae:xC m_ is ep ai d8 ay=some az:=ae;unfold xC at ae;refine yF X0 hC .normal [(2,.own (.box (zO m_))),(3,.own (.box (.fn 120 [.sptr (I is)]))),(4,.own (.box (eOs 1 true F7_ []))),(5,.own (.box (I ep))),(6,.own (.box (eOs 1 false F3_ ai))),(7,.d (I d8)),(8,.d (I ay)),(15,.d (.fn 167 [.sptr (I aj)]))] [] λst0 h0=>⟨rfl,zdB h0 ?_⟩;obtain⟨ak,h2,ae⟩:=zc ae;let Z0:List HO:=[Hc h0I (x:=(d8,ay,is)) h2 (loC s8 d8 <| loC s8 ay <| loC (eSp s8) is <| loN)];rcases zI ae with⟨c0,ae⟩|⟨c0,ae⟩
   ·obtain rfl:=za ae;exact yF X0 hC .normal (wU m_ is aj ep ai) (Z0++[Hq c0]) λst0 h0=>⟨rfl,_,h0,LeL.refl _⟩
   ·obtain⟨au,h3,ae⟩:=zc ae;let Z1:List HO:=(Z0++[Hq c0,Hc h0m (x:=(m_,d8,ay)) h3 (loC zO m_ <| loC s8 d8 <| loC s8 ay <| loN)]);rcases zI ae with⟨c1,ae⟩|⟨c1,ae⟩
    ·obtain rfl:=za ae;exact yF X0 hC .ret (wU m_ is aj au.2.2 ai) (Z1++[Hq c1]) λst0 h0=>⟨rfl,_,h0,LeL.refl _⟩
    ·obtain⟨g0,ae⟩:=gdE ae;obtain rfl:=za ae;exact yF X0 hC .normal (wU m_ is aj ep (ai++([au.1]:List (List Int)))) (Z1++[Hq c1,Hq (dM F3_ ([au.1]:List (List Int))),Hn (dM F3_ ([au.1]:List (List Int))),Hn (aL F3_ F3_ g0),Hl (aM F3_ ai ([au.1]:List (List Int)))]) λst0 h0=>⟨rfl,_,h0,LeL.refl _⟩
  ·rcases t2 with⟨ep,ai⟩|z
   ·dsimp only at aa;exact JF (by kernel_rfl) (aw _ [(2,.own (.box (zO m_))),(4,.own (.box (eOs 1 true F7_ []))),(5,.own (.box (I ep))),(6,.own (.box (eOs 1 false F3_ ai)))] (ep,ai) aa (show Own.canon [2,4,5,6] _=ofL _ by kernel_rfl) inferInstance)
   ·obtain⟨ep,ai⟩:=z;dsimp only at aa;show AWP _ _ (Code.ret) _ _;obtain rfl:=za aa;exact yEx X0 hC hE [Hm (shM F7_ F7_ [])] (.tup [eSl 1 true F3_ [],I ep]) (show LeV (.tup [eSl 1 true F3_ [],I ep]) (.tup [eSl 1 true F3_ ([]:List (List Int)),I ep]) from inferInstance)
def zfq:Code:=(f76.body).getD .skip
def z2r:zN:=spF (α:=z6×Int) (ρ:=List (List Int)×Int) 76 (λx=>[zO x.1,s8 x.2]) (λr=>.tup [Us r.1,s8 r.2]) (λx=>z2J x.1 x.2) [] (W2)
theorem zfN (hC:zF prog ctr)(h0h:ctr.Has uG)(h0l:ctr.Has Y8)(h0I:ctr.Has VZ)(h0m:ctr.Has qz)(h05:ctr.Has YB):z2r.Ok prog:=by
 refine zC ?_;rintro⟨m_,s_⟩ r0 aa;try unfold z2J at aa;refine yO false [(4,none),(5,none)] zfq 26 func76 λE hE=>?_;obtain⟨r_,h0,aa⟩:=zc aa
 let Z0:List HO:=[Hc h0h (x:=m_) h0 (loC zO m_ <| loN)];rcases zI aa with⟨c0,aa⟩|⟨c0,aa⟩
 ·obtain rfl:=za aa;exact yEx X0 hC hE (Z0++[Hq c0,Hm (shM F7_ F7_ [])]) (.tup [eSl 1 true F3_ [],I r_]) (show LeV (.tup [eSl 1 true F3_ [],I r_]) (.tup [eSl 1 true F3_ ([]:List (List Int)),I r_]) from inferInstance)
 ·rcases zI aa with⟨c1,aa⟩|⟨c1,aa⟩
  ·obtain rfl:=za aa;exact yEx X0 hC hE (Z0++(Hq c0::(rpN 6 (Hq c1) [qT,Hm (shM F7_ F7_ [])]))) (.tup [eSl 1 true F3_ [],I 1]) (show LeV (.tup [eSl 1 true F3_ [],I 1]) (.tup [eSl 1 true F3_ ([]:List (List Int)),I 1]) from inferInstance)
  ·let Z1:List HO:=(Z0++(Hq c0::(rpN 4 (Hq c1) [Ha (lnM yN m_.Rows),Hq c1,Hq c1])));rcases zI aa with⟨c2,aa⟩|⟨c2,aa⟩
   ·obtain rfl:=za aa;exact yEx X0 hC hE (Z1++[Hq c2,Hm (shM F7_ F7_ [])]) (.tup [eSl 1 true F3_ [],I 1]) (show LeV (.tup [eSl 1 true F3_ [],I 1]) (.tup [eSl 1 true F3_ ([]:List (List Int)),I 1]) from inferInstance)
   ·obtain⟨aj,h1,aa⟩:=zc aa;obtain rfl:=za aa;exact yE ((zcm zx (z56 hC h0l h0I h0m h05) 23).or X0) hC hE (Z1++[Hq c2,Hc (Ctr.add_has z3y Jc) (x:=(m_,s_)) h1 (loC zO m_ <| loC (z1k 120 (eSp s8)) s_ <| loN)])
def jX:Code:=(f36.body).getD .skip
def YC:zN:=spF (α:=z6×Int) (ρ:=Option zl×Int) 36 (λx=>[zO x.1,s8 x.2]) (λr=>.tup [(ePo X1) r.1,s8 r.2]) (λx=>Zq x.1 x.2) [] (W2)
abbrev z3H (m_:z6)(r_:List (List Int)×Int)(aj:List (List Int)×Int)(au:List (List Int)×Int)(ca:List (List Int)×Int)(dj:List (List Int))(jx:List (List (List Int))):List (Nat×T):=[(6,.own (.box (.agg [zO m_,eSl 1 true F3_ r_.1,eSl 1 true F3_ aj.1,eSl 1 false F7_ dj,eOs 1 false xh jx,eSl 1 true F3_ au.1,eSl 1 true F3_ ca.1])))]
abbrev z3G (m_:z6)(r_:List (List Int)×Int)(aj:List (List Int)×Int)(au:List (List Int)×Int)(ca:List (List Int)×Int)(dj:List (List Int))(io:List (List (List Int)))(mi:Int):List (Nat×T):=[(2,.own (.box (zO m_))),(6,.own (.box (.agg [zO m_,eSl 1 true F3_ r_.1,eSl 1 true F3_ aj.1,eSl 1 false F7_ dj,eOs 1 false xh io,eSl 1 true F3_ au.1,eSl 1 true F3_ ca.1]))),(91,.d (I ((m_.Rows.length:Nat):Int))),(92,.d (I mi))]
abbrev z3I (m_:z6)(r_:List (List Int)×Int)(aj:List (List Int)×Int)(ak:List (List Int)×Int)(au:List (List Int)×Int)(ca:List (List Int)×Int):List (Nat×T):=[(2,.own (.box (zO m_))),(6,.own (.box (.agg [zO m_,eSl 1 true F3_ r_.1,eSl 1 true F3_ aj.1,eSl 1 true F3_ ak.1,eOs 1 true xh [],eSl 1 true F3_ au.1,eSl 1 true F3_ ca.1])))]
theorem z7Y (hC:zF prog ctr)(h0G:ctr.Has Xn)(h21:ctr.Has Y9)(h22:ctr.Has z0W)(h0H:ctr.Has Qg)(h23:ctr.Has KH)(h1a:ctr.Has KI)(h25:ctr.Has z2r):YC.Ok prog:=by
 refine zC ?_;rintro⟨m_,bound⟩ r0 aa;try unfold Zq at aa;refine yO false [(4,none),(5,none)] jX 117 func36 λE hE=>?_;refine yA X0 hC jX [1,1] [] [(1,.d (I bound)),(2,.own (.box (zO m_))),(6,.own (.box (.agg [zO m_,eOs 1 true F7_ [],eOs 1 true F7_ [],eOs 1 true F7_ [],eOs 1 true xh [],eOs 1 true F7_ [],eOs 1 true F7_ []])))] [Hh (.cut 2)] ?_;refine zdA (y:=.box (.agg [.agg [I m_.Inputs,I m_.Outputs,eSl 1 false yN m_.Rows],eOs 1 true F7_ [],eOs 1 true F7_ [],eOs 1 true F7_ [],eOs 1 true xh [],eOs 1 true F7_ [],eOs 1 true F7_ []])) (by kernel_rfl) 6 (by kernel_rfl) (by kernel_rfl) λkp hv6=>?_
 obtain⟨r_,h0,aa⟩:=zc aa;obtain⟨aj,h1,aa⟩:=zc aa;obtain⟨ak,h2,aa⟩:=zc aa;obtain⟨au,h3,aa⟩:=zc aa;obtain⟨ca,h4,aa⟩:=zc aa;refine yJ X0 hC jX [1,1,1,1,1,1,1,1] [] [2,6] (λz:Unit=>Yv m_ r_ aj ak au ca=some r0) (λz=>z3I m_ r_ aj ak au ca) [(2,.own (.box (zO m_))),(6,.own (.box (.agg [zO m_,eSl 1 true F3_ r_.1,eSl 1 true F3_ aj.1,eSl 1 true F3_ ak.1,eOs 1 true xh [],eSl 1 true F3_ au.1,eSl 1 true F3_ ca.1]))),(7,.own (.box (.agg [I r_.2,I aj.2,I ak.2,I au.2,I ca.2])))] [Hc h0G (x:=m_) h0 (loC zO m_ <| loN),Hn (⟨rfl,by decide⟩:true=true/\0<5),Hc h21 (x:=m_) h1 (loC zO m_ <| loN),Hn (⟨rfl,by decide⟩:true=true/\1<5),Hc h22 (x:=m_) h2 (loC zO m_ <| loN),Hn (⟨rfl,by decide⟩:true=true/\2<5),Ha (lnM yN m_.Rows),Hc h0H (x:=(m_.Inputs,w64 (bound - ((m_.Rows.length:Nat):Int)))) h3 (loC s8 m_.Inputs <| loC s8 (w64 (bound - ((m_.Rows.length:Nat):Int))) <| loN),Hn (⟨rfl,by decide⟩:true=true/\3<5),Ha (lnM yN m_.Rows),Hc h23 (x:=(m_.Inputs,w64 (bound - ((m_.Rows.length:Nat):Int)))) h4 (loC s8 m_.Inputs <| loC s8 (w64 (bound - ((m_.Rows.length:Nat):Int))) <| loN),Hn (⟨rfl,by decide⟩:true=true/\4<5),Hh (.cut 0)] ?_ λJ1 aw=>?_
 ·rintro⟨⟩ aa;unfold Yv at aa;obtain⟨dj,h5,aa⟩:=zc aa;refine yJ X0 hC jX [1,1,1,1,1,1,1,1,1,1] [] [6] (λz:List (List (List Int))=>Vg m_ r_ aj au ca dj z=some r0) (λz=>z3H m_ r_ aj au ca dj z) [(2,.own (.box (zO m_))),(6,.own (.box (.agg [zO m_,eSl 1 true F3_ r_.1,eSl 1 true F3_ aj.1,eSl 1 false F7_ dj,eOs 1 true xh [],eSl 1 true F3_ au.1,eSl 1 true F3_ ca.1])))] [Hc h1a (x:=ak.1) h5 (loC Us ak.1 <| loN),Hh (.cut 0)] ?_ λJ2 a6=>?_
  ·rintro jx aa;unfold Vg at aa;obtain rfl:=za aa;exact yEx X0 hC hE [Hm (shM xh xh jx)] (.tup [.sptr (.agg [.agg [I m_.Inputs,I m_.Outputs,eSl 1 false yN m_.Rows],eSl 1 true F3_ r_.1,eSl 1 true F3_ aj.1,eSl 1 false F7_ dj,eSl 1 false xh jx,eSl 1 true F3_ au.1,eSl 1 true F3_ ca.1]),I 0]) (show LeV (.tup [.sptr (.agg [.agg [I m_.Inputs,I m_.Outputs,eSl 1 false yN m_.Rows],eSl 1 true F3_ r_.1,eSl 1 true F3_ aj.1,eSl 1 false F7_ dj,eSl 1 false xh jx,eSl 1 true F3_ au.1,eSl 1 true F3_ ca.1]),I 0]) (.tup [.dop (poQ (some (.agg [.agg [I m_.Inputs,I m_.Outputs,eSl 1 false yN m_.Rows],eSl 1 false F7_ r_.1,eSl 1 false F7_ aj.1,eSl 1 false F7_ dj,eSl 1 false xh jx,eSl 1 false F7_ au.1,eSl 1 false F7_ ca.1]))),I 0]) from inferInstance)
  ·obtain⟨t3,ht3,aa⟩:=zc aa;refine yLx X0 hC jX [1,1,1,1,1,1,1,1,1,1,2,1,0] [J2] (λs=>xF m_ s.1 s.2) (λx=>z3G m_ r_ aj au ca dj x.1 x.2) (([]:List (List (List Int))),0) ht3 [(2,.own (.box (zO m_))),(6,.own (.box (.agg [zO m_,eSl 1 true F3_ r_.1,eSl 1 true F3_ aj.1,eSl 1 false F7_ dj,eOs 1 true xh [],eSl 1 true F3_ au.1,eSl 1 true F3_ ca.1]))),(91,.d (I ((m_.Rows.length:Nat):Int))),(92,.d (I 0))] inferInstance [Ha (lnM yN m_.Rows)] ?_;rintro⟨io,mi⟩ m3 az ae hl1 J3 bk;try unfold xF at ae;rcases zI ae with⟨c0,ae⟩|⟨c0,ae⟩
   ·obtain⟨gq,h6,ae⟩:=zc ae;let Z0:List HO:=[Hq c0,Hc h25 (x:=(m_,mi)) h6 (loC zO m_ <| loC s8 mi <| loN)];rcases zI ae with⟨c1,ae⟩|⟨c1,ae⟩
    ·obtain rfl:=za ae;obtain rfl:=hl1;obtain rfl:=za aa;exact yEx X0 hC hE (Z0++[Hq c1]) (.tup [.atom (.pointer none),I gq.2]) (show LeV (.tup [.atom (.pointer none),I gq.2]) (.tup [.dop (poQ none),I gq.2]) from inferInstance)
    ·obtain⟨gf,h7,ae⟩:=zc ae;obtain⟨g0,ae⟩:=gdE ae;obtain rfl:=za ae;exact yB ((xNc prog 113 6 kp).or ((xMv prog 104 6 kp hv6).or X0)) hC bk ((io++([gf]:List (List (List Int)))),w64 (mi+1)) hl1 (Z0++[Hq c1,Hn (rfl:some kp=some kp),Hc h1a (x:=gq.1) h7 (loC Us gq.1 <| loN),Hq (dM xh ([gf]:List (List (List Int)))),Hn (dM xh ([gf]:List (List (List Int)))),Hn (aL xh xh g0),Hl (aM xh io ([gf]:List (List (List Int)))),Hn (⟨rfl,rfl⟩:T.d (.atom kp)=T.d (.atom kp)/\some kp=some kp)])
   ·obtain rfl:=za ae;obtain rfl:=hl1;exact yB X0 hC a6 io aa [Hq c0]
 ·rcases zI aa with⟨c2,aa⟩|⟨c2,aa⟩
  ·obtain rfl:=za aa;exact yEx X0 hC hE [Hh (.u 70),qT,Hq c2] (.tup [.atom (.pointer none),I r_.2]) (show LeV (.tup [.atom (.pointer none),I r_.2]) (.tup [.dop (poQ none),I r_.2]) from inferInstance)
  ·let Z1:List HO:=[Hh (.u 70),qT,Hq c2,qT];rcases zI aa with⟨c3,aa⟩|⟨c3,aa⟩
   ·obtain rfl:=za aa;exact yEx X0 hC hE (Z1++[Hq c3]) (.tup [.atom (.pointer none),I aj.2]) (show LeV (.tup [.atom (.pointer none),I aj.2]) (.tup [.dop (poQ none),I aj.2]) from inferInstance)
   ·rcases zI aa with⟨c4,aa⟩|⟨c4,aa⟩
    ·obtain rfl:=za aa;exact yEx X0 hC hE (Z1++[Hq c3,qT,Hq c4]) (.tup [.atom (.pointer none),I ak.2]) (show LeV (.tup [.atom (.pointer none),I ak.2]) (.tup [.dop (poQ none),I ak.2]) from inferInstance)
    ·rcases zI aa with⟨c5,aa⟩|⟨c5,aa⟩
     ·obtain rfl:=za aa;exact yEx X0 hC hE (Z1++[Hq c3,qT,Hq c4,qT,Hq c5]) (.tup [.atom (.pointer none),I au.2]) (show LeV (.tup [.atom (.pointer none),I au.2]) (.tup [.dop (poQ none),I au.2]) from inferInstance)
     ·let Z2:List HO:=(Z1++[Hq c3,qT,Hq c4,qT,Hq c5,qT]);rcases zI aa with⟨c6,aa⟩|⟨c6,aa⟩
      ·obtain rfl:=za aa;exact yEx X0 hC hE (Z2++[Hq c6]) (.tup [.atom (.pointer none),I ca.2]) (show LeV (.tup [.atom (.pointer none),I ca.2]) (.tup [.dop (poQ none),I ca.2]) from inferInstance)
      ·exact yB X0 hC aw () aa (Z2++[Hq c6,qF])
def wq:Code:=(f219.body).getD .skip
abbrev z3O (b_:zb)(ce:List (zq Int))(bn:Int):List (Nat×T):=[(0,.own (.box (.agg [eOs 16 false F1_ ce,I bn,I b_.most_])))]
abbrev z3N (parts:List (List Int))(b_:zb)(ff:Int)(bp:List (zq Int))(bh:Int)(nv:Int)(lu:Bool):List (Nat×T):=[(0,.own (.box (.agg [eOs 16 false F1_ bp,I bh,I b_.most_]))),(4,.d (.atom (.int .i32 nv))),(5,.d (B lu)),(11,.d (eSl 1 false F7_ parts)),(12,.d (I ((parts.length:Nat):Int))),(13,.d (I ff))]
abbrev z3M (parts:List (List Int))(b_:zb)(ff:Int)(dy:List Int)(fl:Int)(bq:List (zq Int))(bi:Int)(lv:Bool)(next:Int):List (Nat×T):=[(0,.own (.box (.agg [eOs 16 false F1_ bq,I bi,I b_.most_]))),(5,.d (B lv)),(10,.d (.atom (.int .i32 next))),(11,.d (eSl 1 false F7_ parts)),(12,.d (I ((parts.length:Nat):Int))),(13,.d (I ff)),(17,.d (eSl 1 false s8 dy)),(18,.d (I ((dy.length:Nat):Int))),(19,.d (I fl))]
abbrev z3L (parts:List (List Int))(b_:zb)(ff:Int)(dy:List Int)(am:List (zq Int))(em:Int)(fl:Int)(cp:Int)(db:Int):List (Nat×T):=[(0,.own (.box (.agg [eOs 16 false F1_ am,I db,I b_.most_]))),(4,.d (.atom (.int .i32 em))),(9,.d (I cp)),(10,.d (.atom (.int .i32 (IntKind.i32.wrap (((am.length:Nat):Int)))))),(11,.d (eSl 1 false F7_ parts)),(12,.d (I ((parts.length:Nat):Int))),(13,.d (I ff)),(17,.d (eSl 1 false s8 dy)),(18,.d (I ((dy.length:Nat):Int))),(19,.d (I fl))]
abbrev z3J (parts:List (List Int))(b_:zb)(ff:Int)(dy:List Int)(am:List (zq Int))(a7:Int)(em:Int)(ir:Bool)(fl:Int):List (Nat×T):=[(0,.own (.box (.agg [eOs 16 false F1_ am,I a7,I b_.most_]))),(4,.d (.atom (.int .i32 em))),(5,.d (B ir)),(11,.d (eSl 1 false F7_ parts)),(12,.d (I ((parts.length:Nat):Int))),(13,.d (I ff)),(17,.d (eSl 1 false s8 dy)),(18,.d (I ((dy.length:Nat):Int))),(19,.d (I fl))]
abbrev z3K (parts:List (List Int))(b_:zb)(br:List (zq Int))(bj:Int)(at_:Int)(l4:Bool)(ff:Int):List (Nat×T):=[(0,.own (.box (.agg [eOs 16 false F1_ br,I bj,I b_.most_]))),(4,.d (.atom (.int .i32 at_))),(5,.d (B l4)),(11,.d (eSl 1 false F7_ parts)),(12,.d (I ((parts.length:Nat):Int))),(13,.d (I ff))]
theorem wL (hC:zF prog ctr)(cm:Value):∀(parts:List (List Int)) (b_:zb) (r0:zb×Bool),xW parts b_=some r0->zgO prog 219 [.atom cm,eSl 1 false F7_ parts] ([cm].zip [.box (.agg [eOs 16 false F1_ b_.nodes_,I b_.leaves_,I b_.most_])]) r0.2 (.iface 124 (.agg #[])) (.tup []) [.box (.agg [eOs 16 false F1_ r0.1.nodes_,I r0.1.leaves_,I r0.1.most_])]:=by
 intro parts b_ r0 aa;refine zde (tt:=yw) (nt:=105) (body:=wq) [0] zx func219 rfl (by kernel_rfl) rfl rfl (by show(2:Nat)<=105;decide) (by decide) rfl rfl rfl (λE hE hD=>?_);unfold xW at aa;refine yJ X0 hC wq [1,1] [] [0] (λz:List (zq Int)×Int=>Yy b_ z.1 z.2=some r0) (λz=>z3O b_ z.1 z.2) [(0,.own (.box ((yX zyX s8 s8) b_))),(1,.d (eSl 1 false F7_ parts)),(4,.d (.atom (.int .i32 0))),(5,.d (B false))] [Hh (.cut 2)] ?_ λJ1 aw=>?_
 ·rintro⟨ce,bn⟩ aa;unfold Yy at aa;rcases zI aa with⟨c0,aa⟩|⟨c0,aa⟩
  ·refine yA X0 hC wq [1,1,1,1,0] [] [(0,.own (.box (.agg [eOs 16 false F1_ ce,I bn,I b_.most_])))] [Hq c0,Hh (.stp 0)] ?_;obtain rfl:=za aa;exact yP ((zqI prog 104 124 underlying124).or X0) hC 2 [] λst0=>hD rfl st0
  ·obtain rfl:=za aa;exact yF X0 hC .normal [(0,.own (.box (.agg [eOs 16 false F1_ ce,I bn,I b_.most_])))] [Hq c0] λst0 h0=>hE rfl _ st0 (.inl rfl) (Jn h0 ⟨⟨rfl,rfl⟩,trivial⟩)
 ·obtain⟨t2,ht2,aa⟩:=zc aa;refine yL X0 hC wq [1,1,2,1,0] [J1] (λs=>Yw parts s.1 s.2.1 s.2.2.1 s.2.2.2.1 s.2.2.2.2) (λx=>z3K parts b_ x.1 x.2.1 x.2.2.1 x.2.2.2.1 x.2.2.2.2) (b_.nodes_,b_.leaves_,0,false,0) ht2  [Ha (lnM F7_ parts)] ?_;rintro⟨br,bj,at_,l4,ff⟩ m2 az ae hl1 J2 a6;try unfold Yw at ae;rcases zI ae with⟨c1,ae⟩|⟨c1,ae⟩
  ·refine yJ X0 hC wq [1,1,2,1,0,0,1,1] [J1,J2] [0,4,5,11,12,13] (λz:List (zq Int)×Int×Int×Bool=>Yx ff z.1 z.2.1 z.2.2.1 z.2.2.2=some az) (λz=>z3N parts b_ ff z.1 z.2.1 z.2.2.1 z.2.2.2) [(0,.own (.box (.agg [eOs 16 false F1_ br,I bj,I b_.most_]))),(4,.d (.atom (.int .i32 at_))),(5,.d (B l4)),(11,.d (eSl 1 false F7_ parts)),(12,.d (I ((parts.length:Nat):Int))),(13,.d (I ff))] [Hq c1,Hh (.cut 0)] ?_ λJ3 bk=>?_
   ·rintro⟨bp,bh,nv,lu⟩ ae;unfold Yx at ae;obtain rfl:=za ae;exact yB X0 hC a6 (bp,bh,nv,lu,w64 (ff+1)) hl1 []
   ·obtain⟨dy,h0,ae⟩:=zc ae;obtain⟨t4,ht4,ae⟩:=zc ae;refine yL X0 hC wq [1,1,2,1,0,0,1,1,2,0,1,1,0] [J1,J2,J3] (λs=>wX dy s.1 s.2.1 s.2.2.1 s.2.2.2.1 s.2.2.2.2) (λx=>z3J parts b_ ff dy x.1 x.2.1 x.2.2.1 x.2.2.2.1 x.2.2.2.2) (br,bj,at_,l4,0) ht4  [Hi F7_ h0,Ha (lnM s8 dy)] ?_;rintro⟨am,a7,em,ir,fl⟩ m4 dl ah hl2 J4 d0;try unfold wX at ah;rcases zI ah with⟨c2,ah⟩|⟨c2,ah⟩
    ·obtain⟨cp,h1,ah⟩:=zc ah;obtain⟨ld,h2,ah⟩:=zc ah;obtain⟨cell,h3,ah⟩:=zc ah;refine yJ X0 hC wq [1,1,2,1,0,0,1,1,2,0,1,1,0,0,1,1,0,0,1,1] [J1,J2,J3,J4] [0,5,10,11,12,13,17,18,19] (λz:List (zq Int)×Int×Bool×Int=>uv fl z.1 z.2.1 z.2.2.1 z.2.2.2=some dl) (λz=>z3M parts b_ ff dy fl z.1 z.2.1 z.2.2.1 z.2.2.2) [(0,.own (.box (.agg [eOs 16 false F1_ am,I a7,I b_.most_]))),(4,.d (.atom (.int .i32 em))),(5,.d (B ir)),(9,.d (I cp)),(10,.d (.atom (.int .i32 cell))),(11,.d (eSl 1 false F7_ parts)),(12,.d (I ((parts.length:Nat):Int))),(13,.d (I ff)),(17,.d (eSl 1 false s8 dy)),(18,.d (I ((dy.length:Nat):Int))),(19,.d (I fl))] [Hq c2,Hi s8 h1,Hn (iL F1_ h2),Hs (iM F1_ h2),Hn (⟨arJ (by kernel_rfl) (i0 h3),(iL (eI .i32) h3).2⟩:XI yw 162 ((zq.toL ld).map (eI .i32)) cp=true/\cp.toNat<((zq.toL ld).map (eI .i32)).length),Hh (.op 0),Hh (.f),Hx (.a (eOs 16 false F1_ am)) (rfl:some (eOs 16 false F1_ am:A)=some (eOs 16 false F1_ am)),Hs (iM F1_ h2),Hh (.f),Hs (iM (eI .i32) h3),Hh (.cut 0)] ?_ λJ5 dn=>?_
     ·rintro⟨bq,bi,lv,next⟩ ah;unfold uv at ah;obtain rfl:=za ah;exact yB X0 hC d0 (bq,bi,next,lv,w64 (fl+1)) hl2 []
     ·rcases zI ah with⟨c3,ah⟩|⟨c3,ah⟩
      ·refine yJ X0 hC wq [1,1,2,1,0,0,1,1,2,0,1,1,0,0,1,1,0,0,1,1,2,1,0,1] [J1,J2,J3,J4,J5] [0,4,9,10,11,12,13,17,18,19] (λz:Int=>yQ am em fl cp z=some dl) (λz=>z3L parts b_ ff dy am em fl cp z) [(0,.own (.box (.agg [eOs 16 false F1_ am,I a7,I b_.most_]))),(4,.d (.atom (.int .i32 em))),(5,.d (B ir)),(9,.d (I cp)),(10,.d (.atom (.int .i32 (IntKind.i32.wrap (((am.length:Nat):Int)))))),(11,.d (eSl 1 false F7_ parts)),(12,.d (I ((parts.length:Nat):Int))),(13,.d (I ff)),(17,.d (eSl 1 false s8 dy)),(18,.d (I ((dy.length:Nat):Int))),(19,.d (I fl))] [Hq c3,Ha (lnM F1_ am),Hh (.cut 0)] ?_ λJ6 fp=>?_
       ·rintro db ah;unfold yQ at ah;obtain⟨ja,h4,ah⟩:=zc ah;obtain⟨bo,h5,ah⟩:=zc ah;obtain⟨arr,h6,ah⟩:=zc ah;replace h6:=za h6;obtain⟨g0,ah⟩:=gdE ah;exact yB X0 hC dn (((am.set em.toNat arr)++([(zq.mk 0 0 0 0 0 0 0 0 0 0 0 0 0 0 0 0)]:List (zq Int))),db,true,IntKind.i32.wrap (((am.length:Nat):Int))) ah [Hn (iL F1_ h4),Hs (iM F1_ h4),Hn (⟨arJ (by kernel_rfl) (i0 h5),(iL (eI .i32) h5).2⟩:XI yw 162 ((zq.toL ja).map (eI .i32)) cp=true/\cp.toNat<((zq.toL ja).map (eI .i32)).length),Hh (.op 0),Hh (.f),Hx (.a (eOs 16 false F1_ am)) (rfl:some (eOs 16 false F1_ am:A)=some (eOs 16 false F1_ am)),Hs (iM F1_ h4),Hh (.f),Hs (iM (eI .i32) h5),Hh (.f),Hx (.a (eOs 16 false F1_ am)) (rfl:some (eOs 16 false F1_ am:A)=some (eOs 16 false F1_ am)),Hs (iM F1_ h4),Hh (.f),Hs (iM (eI .i32) h5),Hx (.l ((zq.toL arr).map (eI .i32))) ((zq.setL (eI .i32) ja cp (IntKind.i32.wrap (((am.length:Nat):Int)))).trans (congrArg (λq=>(zq.toL q).map (eI .i32)) h6)),Hl (sM F1_ am em arr),Hx (.l [eOs 16 false F1_ (am.set em.toNat arr),I db,I b_.most_]) (rfl:([eOs 16 false F1_ (am.set em.toNat arr),I db,I b_.most_]:List A)=[eOs 16 false F1_ (am.set em.toNat arr),I db,I b_.most_]),Hq (dM F1_ ([(zq.mk 0 0 0 0 0 0 0 0 0 0 0 0 0 0 0 0)]:List (zq Int))),Hn (dM F1_ ([(zq.mk 0 0 0 0 0 0 0 0 0 0 0 0 0 0 0 0)]:List (zq Int))),Hn (aL F1_ F1_ g0),Hl (aM F1_ (am.set em.toNat arr) ([(zq.mk 0 0 0 0 0 0 0 0 0 0 0 0 0 0 0 0)]:List (zq Int)))]
       ·rcases zI ah with⟨c4,ah⟩|⟨c4,ah⟩
        ·rcases zI ah with⟨c5,ah⟩|⟨c5,ah⟩
         ·let Z0:List HO:=(Hq c4::Hq c4::Hq c4::(rpN 5 (Hq c5) [Ha (lnM F1_ am),Hq c5,Hq c4,Hq c5,Hq c4]));rcases zI ah with⟨c6,ah⟩|⟨c6,ah⟩
          ·exact yB X0 hC fp (w64 (a7+1)) ah (Z0++(rpN 9 (Hq c6) [Hq c4,Hq c6,Hq c4,qT]))
          ·obtain⟨dc,h7,ah⟩:=zc ah;let Z1:List HO:=(Z0++(rpN 6 (Hq c6) [Hn (iL F1_ h7),Hq c6,Hs (iM F1_ h7),Hq c6,Hq c6,Hq c4,Hq c6,Hq c4]));rcases zI ah with⟨c7,ah⟩|⟨c7,ah⟩
           ·exact yB X0 hC fp (w64 (a7+1)) ah (Z1++[Hq c7])
           ·exact yB X0 hC fp a7 ah (Z1++[Hq c7])
         ·obtain⟨de,h8,ah⟩:=zc ah;let Z2:List HO:=(Hq c4::Hq c4::Hq c4::(rpN 6 (Hq c5) (Hq c4::Hq c5::Hq c4::(rpN 6 qF [Hn (iL F1_ h8),qF,Hs (iM F1_ h8),qF,qF,Hq c4,qF,Hq c4]))));rcases zI ah with⟨c8,ah⟩|⟨c8,ah⟩
          ·exact yB X0 hC fp (w64 (a7+1)) ah (Z2++[Hq c8])
          ·exact yB X0 hC fp a7 ah (Z2++[Hq c8])
        ·exact yB X0 hC fp a7 ah (rpN 7 (Hq c4) [qF])
      ·exact yB X0 hC dn (am,a7,ir,cell) ah [Hq c3]
    ·obtain rfl:=za ah;obtain rfl:=hl2;exact yB X0 hC bk (am,a7,em,ir) ae [Hq c2]
  ·obtain rfl:=za ae;obtain rfl:=hl1;exact yB X0 hC aw (br,bj) aa [Hq c1]
def xD:Code:=(f218.body).getD .skip
abbrev z0E (x_:zl)(ay:Int)(br:List (zq Int))(bj:Int)(du:Int):List (Nat×T):=[(1,.d (.sptr (X1 x_))),(2,.own (.box (.agg [eOs 16 false F1_ br,I bj,I du]))),(15,.d (eSl 1 false F7_ x_.p_)),(16,.d (I ((x_.p_.length:Nat):Int))),(17,.d (I ay))]
abbrev z0D (x_:zl)(ay:Int)(a8:List Int)(fg:Int)(am:List (zq Int))(a7:Int)(dv:Int):List (Nat×T):=[(1,.d (.sptr (X1 x_))),(2,.own (.box (.agg [eOs 16 false F1_ am,I a7,I dv]))),(7,.d (eSl 1 false s8 a8)),(15,.d (eSl 1 false F7_ x_.p_)),(16,.d (I ((x_.p_.length:Nat):Int))),(17,.d (I ay)),(24,.d (eSl 1 false F7_ x_.short_)),(25,.d (I ((x_.short_.length:Nat):Int))),(26,.d (I fg))]
abbrev z0A (x_:zl)(ay:Int)(a8:List Int)(fg:Int)(ax:List Int)(bq:List (zq Int))(bi:Int)(cu:Int)(ft:Int):List (Nat×T):=[(1,.d (.sptr (X1 x_))),(2,.own (.box (.agg [eOs 16 false F1_ bq,I bi,I cu]))),(7,.d (eSl 1 false s8 a8)),(9,.d (eSl 1 false s8 ax)),(15,.d (eSl 1 false F7_ x_.p_)),(16,.d (I ((x_.p_.length:Nat):Int))),(17,.d (I ay)),(24,.d (eSl 1 false F7_ x_.short_)),(25,.d (I ((x_.short_.length:Nat):Int))),(26,.d (I fg)),(33,.d (eSl 1 false F7_ x_.all_)),(34,.d (I ((x_.all_.length:Nat):Int))),(35,.d (I ft))]
abbrev z0B (x_:zl)(ay:Int)(a8:List Int)(bp:List (zq Int))(bh:Int)(cw:Int)(fg:Int):List (Nat×T):=[(1,.d (.sptr (X1 x_))),(2,.own (.box (.agg [eOs 16 false F1_ bp,I bh,I cw]))),(7,.d (eSl 1 false s8 a8)),(15,.d (eSl 1 false F7_ x_.p_)),(16,.d (I ((x_.p_.length:Nat):Int))),(17,.d (I ay)),(24,.d (eSl 1 false F7_ x_.short_)),(25,.d (I ((x_.short_.length:Nat):Int))),(26,.d (I fg))]
abbrev z0C (x_:zl)(ce:List (zq Int))(bn:Int)(dz:Int)(ay:Int):List (Nat×T):=[(1,.d (.sptr (X1 x_))),(2,.own (.box (.agg [eOs 16 false F1_ ce,I bn,I dz]))),(15,.d (eSl 1 false F7_ x_.p_)),(16,.d (I ((x_.p_.length:Nat):Int))),(17,.d (I ay))]
theorem z3q (hC:zF prog ctr)(cm:Value):∀(x0:z2V) (x_:zl) (b_:zb) (r0:zb×Bool),vF x0 x_ b_=some r0->zgO prog 218 [.agg [],.sptr (.agg [.agg [I x_.m_.Inputs,I x_.m_.Outputs,eSl 1 false yN x_.m_.Rows],eSl 1 false F7_ x_.q_,eSl 1 false F7_ x_.p_,eSl 1 false F7_ x_.all_,eSl 1 false xh x_.each_,eSl 1 false F7_ x_.short_,eSl 1 false F7_ x_.exact_]),.atom cm] ([cm].zip [.box (.agg [eOs 16 false F1_ b_.nodes_,I b_.leaves_,I b_.most_])]) r0.2 (.iface 124 (.agg #[])) (.tup []) [.box (.agg [eOs 16 false F1_ r0.1.nodes_,I r0.1.leaves_,I r0.1.most_])]:=by
 intro x0 x_ b_ r0 aa;refine zde (tt:=yw) (nt:=48) (body:=xD) [2] zx func218 rfl (by kernel_rfl) rfl rfl (by show(3:Nat)<=48;decide) (by decide) rfl rfl rfl (λE hE hD=>?_);unfold vF at aa;obtain⟨t1,ht1,aa⟩:=zc aa;refine yL X0 hC xD [1,1,0] [] (λs=>qu x_ b_ s.1 s.2.1 s.2.2.1 s.2.2.2) (λx=>z0C x_ x.1 x.2.1 x.2.2.1 x.2.2.2) (b_.nodes_,b_.leaves_,b_.most_,0) ht1  [Ha (lnM F7_ x_.p_)] ?_;rintro⟨ce,bn,dz,ay⟩ m1 az ae hl1 J1 aw;try unfold qu at ae;rcases zI ae with⟨c0,ae⟩|⟨c0,ae⟩
 ·refine yJ X0 hC xD [1,1,0,0,1,1] [J1] [1,2,15,16,17] (λz:List (zq Int)×Int×Int=>Y3 ay z.1 z.2.1 z.2.2=some az) (λz=>z0E x_ ay z.1 z.2.1 z.2.2) [(1,.d (.sptr (X1 x_))),(2,.own (.box (.agg [eOs 16 false F1_ ce,I bn,I dz]))),(15,.d (eSl 1 false F7_ x_.p_)),(16,.d (I ((x_.p_.length:Nat):Int))),(17,.d (I ay))] [Hq c0,Hh (.cut 0)] ?_ λJ2 a6=>?_
  ·rintro⟨br,bj,du⟩ ae;unfold Y3 at ae;obtain rfl:=za ae;exact yB X0 hC aw (br,bj,du,w64 (ay+1)) hl1 []
  ·obtain⟨a8,h0,ae⟩:=zc ae;obtain⟨t3,ht3,ae⟩:=zc ae;refine yL X0 hC xD [1,1,0,0,1,1,2,0,1,1,0] [J1,J2] (λs=>qt x_ b_ a8 s.1 s.2.1 s.2.2.1 s.2.2.2) (λx=>z0B x_ ay a8 x.1 x.2.1 x.2.2.1 x.2.2.2) (ce,bn,dz,0) ht3  [Hi F7_ h0,Ha (lnM F7_ x_.short_)] ?_;rintro⟨bp,bh,cw,fg⟩ m3 dl ah hl2 J3 bk;try unfold qt at ah;rcases zI ah with⟨c1,ah⟩|⟨c1,ah⟩
   ·refine yJ X0 hC xD [1,1,0,0,1,1,2,0,1,1,0,0,1,1] [J1,J2,J3] [1,2,7,15,16,17,24,25,26] (λz:List (zq Int)×Int×Int=>Y2 fg z.1 z.2.1 z.2.2=some dl) (λz=>z0D x_ ay a8 fg z.1 z.2.1 z.2.2) [(1,.d (.sptr (X1 x_))),(2,.own (.box (.agg [eOs 16 false F1_ bp,I bh,I cw]))),(7,.d (eSl 1 false s8 a8)),(15,.d (eSl 1 false F7_ x_.p_)),(16,.d (I ((x_.p_.length:Nat):Int))),(17,.d (I ay)),(24,.d (eSl 1 false F7_ x_.short_)),(25,.d (I ((x_.short_.length:Nat):Int))),(26,.d (I fg))] [Hq c1,Hh (.cut 0)] ?_ λJ4 d0=>?_
    ·rintro⟨am,a7,dv⟩ ah;unfold Y2 at ah;obtain rfl:=za ah;exact yB X0 hC bk (am,a7,dv,w64 (fg+1)) hl2 []
    ·obtain⟨ax,h1,ah⟩:=zc ah;obtain⟨t5,ht5,ah⟩:=zc ah;refine yL X0 hC xD [1,1,0,0,1,1,2,0,1,1,0,0,1,1,2,0,1,1,0] [J1,J2,J3,J4] (λs=>qr x_ b_ a8 ax s.1 s.2.1 s.2.2.1 s.2.2.2) (λx=>z0A x_ ay a8 fg ax x.1 x.2.1 x.2.2.1 x.2.2.2) (bp,bh,cw,0) ht5  [Hi F7_ h1,Ha (lnM F7_ x_.all_)] ?_;rintro⟨bq,bi,cu,ft⟩ m5 l9 av hl3 J5 dn;try unfold qr at av;rcases zI av with⟨c2,av⟩|⟨c2,av⟩
     ·obtain⟨eb,h2,av⟩:=zc av;refine yA X0 hC xD [1,1,0,0,1,1,2,0,1,1,0,0,1,1,2,0,1,1,0,0,1,1,0,0,1] [J1,J2,J3,J4,J5] [(1,.d (.sptr (X1 x_))),(2,.own (.box (.agg [eOs 16 false F1_ bq,I bi,I cu]))),(7,.d (eSl 1 false s8 a8)),(9,.d (eSl 1 false s8 ax)),(11,.d (eSl 1 false s8 eb)),(15,.d (eSl 1 false F7_ x_.p_)),(16,.d (I ((x_.p_.length:Nat):Int))),(17,.d (I ay)),(24,.d (eSl 1 false F7_ x_.short_)),(25,.d (I ((x_.short_.length:Nat):Int))),(26,.d (I fg)),(33,.d (eSl 1 false F7_ x_.all_)),(34,.d (I ((x_.all_.length:Nat):Int))),(35,.d (I ft))] [Hq c2,Hi F7_ h2,Hh (.stp 0)] ?_;obtain⟨r_,h3,av⟩:=zc av;rcases zI av with⟨c3,av⟩|⟨c3,av⟩
      ·obtain rfl:=za av;obtain rfl:=hl3;obtain rfl:=za ah;obtain rfl:=hl2;obtain rfl:=za ae;obtain rfl:=hl1;obtain rfl:=za aa;exact yD X0 hC 5 [2] ((wL hC cm _ _ _ h3).2 c3) [.atom cm,zfy ([a8,ax,eb]:List (List Int))] inferInstance [Hm (shM F7_ F7_ ([a8,ax,eb]))] λst0=>hD rfl st0
      ·obtain rfl:=za av;exact yB ((k8 (P:=prog) yw [2] ((wL hC cm _ _ _ h3).1 c3) 44).or X0) hC dn (r_.1.nodes_,r_.1.leaves_,r_.1.most_,w64 (ft+1)) hl3 [Hm (shM F7_ F7_ ([a8,ax,eb])),Hn (Ve (f:=.fn 219 []) (xs:=[.atom cm,xh ([a8,ax,eb]:List (List Int))]) (ls:=[(cm,.box (.agg [eOs 16 false F1_ bq,I bi,I cu]))]) (r:=.tup []) (ys:=[.box (.agg [eOs 16 false F1_ r_.1.nodes_,I r_.1.leaves_,I r_.1.most_])]) [.atom cm,zfy ([a8,ax,eb]:List (List Int))] (show z3p [.atom cm,zfy ([a8,ax,eb]:List (List Int))] [.atom cm,xh ([a8,ax,eb]:List (List Int))] from inferInstance))]
     ·obtain rfl:=za av;obtain rfl:=hl3;exact yB X0 hC d0 (bq,bi,cu) ah [Hq c2]
   ·obtain rfl:=za ah;obtain rfl:=hl2;exact yB X0 hC a6 (bp,bh,cw) ae [Hq c1]
 ·obtain rfl:=za ae;obtain rfl:=hl1;obtain rfl:=za aa;exact yF X0 hC .normal [(2,.own (.box (.agg [eOs 16 false F1_ ce,I bn,I dz])))] [Hq c0] λst0 h0=>hE rfl _ st0 (.inl rfl) (Jn h0 ⟨⟨rfl,rfl⟩,trivial⟩)
def xE:Code:=(f228.body).getD .skip
def xz:zN:=spF (α:=List (List Int)×List Int×Unit) (ρ:=Int×Bool) 228 (λx=>[xh x.1,F7_ x.2.1,(zj8 125) x.2.2]) (λr=>.tup [s8 r.1,eB r.2]) (λx=>yS x.1 x.2.1 x.2.2) [] (by rintro⟨a0,a1,a2⟩ ⟨b0,b1,b2⟩ h;have e0:=kZ.inj (f:=xh) _ _ (List.cons.inj h).1;replace h:=(List.cons.inj h).2;have e1:=kZ.inj (f:=F7_) _ _ (List.cons.inj h).1;replace h:=(List.cons.inj h).2;have e2:=kZ.inj (f:=(zj8 125)) _ _ (List.cons.inj h).1;subst e0 e1 e2;rfl)
abbrev Zl (x_:List (List Int))(target:List Int)(i_:Int):List (Nat×T):=[(0,.d (eSl 1 false F7_ x_)),(1,.d (eSl 1 false s8 target)),(2,.d (.fn 125 [])),(8,.d (I ((x_.length:Nat):Int))),(9,.d (I i_))]
abbrev Zk (x_:List (List Int))(target:List Int)(fc:Int)(j_:Int):List (Nat×T):=[(0,.d (eSl 1 false F7_ x_)),(1,.d (eSl 1 false s8 target)),(2,.d (.fn 125 [])),(8,.d (I ((x_.length:Nat):Int))),(9,.d (I fc)),(10,.d (I j_))]
theorem Ys (hC:zF prog ctr)(h06:ctr.Has qe):xz.Ok prog:=by
 refine zC ?_;rintro⟨x_,target,cmp⟩ r0 aa;try unfold yS at aa;refine yO false [(6,none),(7,none)] xE 49 func228 λE hE=>?_;refine yJ X0 hC xE [1,1,1] [] [0,1,2,8,9] (λz:Int=>yz x_ target z=some r0) (λz=>Zl x_ target z) [(0,.d (eSl 1 false F7_ x_)),(1,.d (eSl 1 false s8 target)),(2,.d (.fn 125 [])),(8,.d (I ((x_.length:Nat):Int))),(9,.d (I 0)),(10,.d (I ((x_.length:Nat):Int)))] [Ha (lnM F7_ x_),Hh (.cut 1)] ?_ λJ1 aw=>?_
 ·rintro i_ aa;unfold yz at aa;rcases zI aa with⟨c0,aa⟩|⟨c0,aa⟩
  ·obtain⟨lb,h0,aa⟩:=zc aa;obtain⟨r_,h1,aa⟩:=zc aa;obtain rfl:=za aa;exact yE X0 hC hE (rpN 4 (Hq c0) [Hi F7_ h0,Hq c0,Hq c0,Hq c0,Hc h06 (x:=(lb,target)) h1 (loC F7_ lb <| loC F7_ target <| loN),Hq c0,Hq c0])
  ·obtain rfl:=za aa;exact yE X0 hC hE (rpN 9 (Hq c0) [])
 ·obtain⟨t2,ht2,aa⟩:=zc aa;refine yL X0 hC xE [1,1,1,2,0] [J1] (λs=>ya x_ target s.1 s.2) (λx=>Zk x_ target x.1 x.2) (0,((x_.length:Nat):Int)) ht2  [] ?_;rintro⟨fc,j_⟩ m2 az ae hl1 J2 a6;try unfold ya at ae;rcases zI ae with⟨c1,ae⟩|⟨c1,ae⟩
  ·obtain⟨ki,h2,ae⟩:=zc ae;obtain⟨aj,h3,ae⟩:=zc ae;let Z0:List HO:=[Hq c1,Hi F7_ h2,Hc h06 (x:=(ki,target)) h3 (loC F7_ ki <| loC F7_ target <| loN)];rcases zI ae with⟨c2,ae⟩|⟨c2,ae⟩
   ·obtain rfl:=za ae;exact yB ((zAC prog).or X0) hC a6 (w64 ((w64 (Int.fdiv (IntKind.u64.wrap (w64 (fc+j_))) (2 ^ 1)))+1),j_) hl1 (Z0++[Hq c2])
   ·obtain rfl:=za ae;exact yB ((zAC prog).or X0) hC a6 (fc,w64 (Int.fdiv (IntKind.u64.wrap (w64 (fc+j_))) (2 ^ 1))) hl1 (Z0++[Hq c2])
  ·obtain rfl:=za ae;obtain rfl:=hl1;exact yB X0 hC aw fc aa [Hq c1]
def zgH:Code:=(f225.body).getD .skip
def z4g:zN:=spF (α:=List (List Int)×List Int) (ρ:=Bool) 225 (λx=>[xh x.1,F7_ x.2]) (λr=>eB r) (λx=>z57 x.1 x.2) [] (W2)
theorem zi9 (hC:zF prog ctr)(h26:ctr.Has xz):z4g.Ok prog:=by refine zC ?_;rintro⟨l_,w_⟩ r0 aa;try unfold z57 at aa;refine yO true [(4,none)] zgH 14 func225 λE hE=>?_;obtain⟨r_,h0,aa⟩:=zc aa;obtain rfl:=za aa;exact yE X0 hC hE [Hc h26 (x:=(l_,w_,())) h0 (loC xh l_ <| loC F7_ w_ <| loC (zj8 125) () <| loN)]
def z8g:Code:=(f224.body).getD .skip
def Xk:zN:=spF (α:=List Int×List (List Int)) (ρ:=Bool) 224 (λx=>[F7_ x.1,zpM x.2]) (λr=>eB r) (λx=>Yu x.1 x.2) [] (W2)
theorem z91 (hC:zF prog ctr)(h27:ctr.Has z4g):Xk.Ok prog:=by refine zC ?_;rintro⟨w_,x1⟩ r0 aa;try unfold Yu at aa;refine yO true [(3,none)] z8g 7 func224 λE hE=>?_;obtain⟨r_,h0,aa⟩:=zc aa;obtain rfl:=za aa;exact yE X0 hC hE [Hc h27 (x:=(x1,w_)) h0 (loC xh x1 <| loC F7_ w_ <| loN)]
def ul:Code:=(f227.body).getD .skip
def uc:zN:=spF (α:=List (List Int)×List (List Int)) (ρ:=Int) 227 (λx=>[xh x.1,(z1k 224 zpM) x.2]) (λr=>s8 r) (λx=>va x.1 x.2) [] (by rintro⟨a0,a1⟩ ⟨b0,b1⟩ h;have e0:=kZ.inj (f:=xh) _ _ (List.cons.inj h).1;replace h:=(List.cons.inj h).2;have e1:=kZ.inj (f:=(z1k 224 zpM)) _ _ (List.cons.inj h).1;subst e0 e1;rfl)
abbrev VK:List (Nat×T):=[]
abbrev VJ (s_:List (List Int))(f_:List (List Int))(x8:Int):List (Nat×T):=[(0,.d (eSl 1 false F7_ s_)),(1,.d (.fn 224 [.sptr (eSl 1 false F7_ f_)])),(7,.d (I ((s_.length:Nat):Int))),(8,.d (I x8))]
theorem QM (hC:zF prog ctr)(h0J:ctr.Has Xk):uc.Ok prog:=by
 refine zC ?_;rintro⟨s_,f_⟩ r0 aa;try unfold va at aa;refine yO true [(4,none)] ul 19 func227 λE hE=>?_;refine yJ X0 hC ul [1] [] [] (λz:Unit=>uf=some r0) (λz=>VK) [(0,.d (eSl 1 false F7_ s_)),(1,.d (.fn 224 [.sptr (eSl 1 false F7_ f_)]))] [Hh (.cut 1)] ?_ λJ1 aw=>?_
 ·rintro⟨⟩ aa;unfold uf at aa;obtain rfl:=za aa;exact yE X0 hC hE []
 ·obtain⟨t2,ht2,aa⟩:=zc aa;refine yL X0 hC ul [1,2,1,0] [J1] (λs=>yH s_ f_ s) (λx=>VJ s_ f_ x) 0 ht2  [Ha (lnM F7_ s_)] ?_;rintro x8 m2 az ae hl1 J2 a6;try unfold yH at ae;rcases zI ae with⟨c0,ae⟩|⟨c0,ae⟩
  ·obtain⟨dx,h0,ae⟩:=zc ae;obtain⟨r_,h1,ae⟩:=zc ae;let Z0:List HO:=[Hq c0,Hi F7_ h0,Hc h0J (x:=(dx,f_)) h1 (loC F7_ dx <| loC zpM f_ <| loN)];rcases zI ae with⟨c1,ae⟩|⟨c1,ae⟩
   ·obtain rfl:=za ae;obtain rfl:=hl1;obtain rfl:=za aa;exact yE X0 hC hE (Z0++[Hq c1])
   ·obtain rfl:=za ae;exact yB X0 hC a6 (w64 (x8+1)) hl1 (Z0++[Hq c1])
  ·obtain rfl:=za ae;obtain rfl:=hl1;exact yB X0 hC aw () aa [Hq c0]
def wc:Code:=(f223.body).getD .skip
def vU:zN:=spF (α:=List (List Int)×List (List Int)) (ρ:=List (List Int)) 223 (λx=>[z4S x.1,(z1k 224 zpM) x.2]) (λr=>z4S r) (λx=>xQ x.1 x.2) [true,false] (by rintro⟨a0,a1⟩ ⟨b0,b1⟩ h;have e0:=kZ.inj (f:=z4S) _ _ (List.cons.inj h).1;replace h:=(List.cons.inj h).2;have e1:=kZ.inj (f:=(z1k 224 zpM)) _ _ (List.cons.inj h).1;subst e0 e1;rfl)
abbrev Va (bg:List (List Int))(i_:Int):List (Nat×T):=[(0,.own (eOs 1 false F7_ bg)),(5,.d (I i_))]
abbrev V9 (jl:List (List Int))(j_:Int)(lp:List (List Int))(oq:Int):List (Nat×T):=[(0,.own (eOs 1 false F7_ lp)),(1,.d (.fn 224 [.sptr (eSl 1 false F7_ jl)])),(5,.d (I oq)),(6,.d (I j_))]
abbrev V8 (jl:List (List Int))(bw:List (List Int))(fc:Int)(j_:Int):List (Nat×T):=[(0,.own (eOs 1 false F7_ bw)),(1,.d (.fn 224 [.sptr (eSl 1 false F7_ jl)])),(5,.d (I fc)),(6,.d (I j_))]
def y4:XH prog:=((zAE zx 41).or X0)
theorem Qb (hC:zF prog ctr)(h1b:ctr.Has uc)(h0J:ctr.Has Xk):vU.Ok prog:=by
 refine zC ?_;rintro⟨s_,jl⟩ r0 aa;try unfold xQ at aa;refine yO true [(4,none)] wc 42 func223 λE hE=>?_;refine zdA (y:=eOs 1 false F7_ s_) rfl 0 (by kernel_rfl) (by kernel_rfl) λbt hv0=>?_
 obtain⟨r_,h0,aa⟩:=zc aa;let Z0:List HO:=[Hg (JO h1b),Hm (shM F7_ F7_ s_),Hs (JP h1b (x:=(s_,jl)) h0 (loC xh s_ <| loC (z1k 224 zpM) jl <| loN))];rcases zI aa with⟨c0,aa⟩|⟨c0,aa⟩
 ·obtain rfl:=za aa;exact yE y4 hC hE (Z0++[Hq c0])
 ·refine yJ y4 hC wc [1,1,1] [] [0,5] (λz:List (List Int)×Int=>xg z.1 z.2=some r0) (λz=>Va z.1 z.2) [(0,.own (eOs 1 false F7_ s_)),(1,.d (.fn 224 [.sptr (eSl 1 false F7_ jl)])),(5,.d (I r_))] (Z0++[Hq c0,Hh (.cut 0)]) ?_ λJ1 aw=>?_
  ·rintro⟨bg,i_⟩ aa;unfold xg at aa;obtain⟨g0,aa⟩:=gdE aa;obtain⟨g1,aa⟩:=gdE aa;obtain⟨g2,aa⟩:=gdE aa;obtain rfl:=za aa;exact yE ((xVc zx 38 1 0 bt i_).or ((xVw zx 38 0 bt).or y4)) hC hE [Hn (⟨.inl rfl,rfl⟩:(T.als 0 [] 0 0=T.als 0 [] 0 0\/T.als 0 [] 0 0=T.d (.atom bt))/\some bt=some bt),Hn (⟨g0.1,cuB F7_ g0⟩:(0:Int)<=i_/\i_.toNat<=(bg.map F7_).length),Hn (⟨rfl,rfl⟩:T.d (.atom (JY 1 bt i_))=T.d (.atom (JY 1 bt i_))/\some bt=some bt),Hn (⟨g1.1,cuB F7_ g1,dM F7_ bg⟩:(0:Int)<=i_/\i_.toNat<=(bg.map F7_).length/\A.areD (bg.map F7_)=true),Hx (.l ((bg.take i_.toNat++List.replicate (bg.length - i_.toNat) []).map F7_)) (vcM F7_ bg i_.toNat ([]:List Int)),Hn g2.1,Hn (cuB F7_ g2),Hl (cuM F7_ (bg.take i_.toNat++List.replicate (bg.length - i_.toNat) []) i_)]
  ·obtain⟨t2,ht2,aa⟩:=zc aa;refine yL y4 hC wc [1,1,1,2,1,0] [J1] (λs=>xe jl s.1 s.2.1 s.2.2) (λx=>V8 jl x.1 x.2.1 x.2.2) (s_,r_,w64 (r_+1)) ht2  [] ?_;rintro⟨bw,fc,j_⟩ m2 az ae hl1 J2 a6;try unfold xe at ae
   let Z1:List HO:=[Ha (lnM F7_ bw)];rcases zI ae with⟨c1,ae⟩|⟨c1,ae⟩
   ·refine yJ y4 hC wc [1,1,1,2,1,0,0,1] [J1,J2] [0,1,5,6] (λz:List (List Int)×Int=>yx j_ z.1 z.2=some az) (λz=>V9 jl j_ z.1 z.2) [(0,.own (eOs 1 false F7_ bw)),(1,.d (.fn 224 [.sptr (eSl 1 false F7_ jl)])),(5,.d (I fc)),(6,.d (I j_))] (Z1++[Hq c1,Hh (.cut 0)]) ?_ λJ3 bk=>?_
    ·rintro⟨lp,oq⟩ ae;unfold yx at ae;obtain rfl:=za ae;exact yB y4 hC a6 (lp,oq,w64 (j_+1)) hl1 []
    ·obtain⟨dx,h1,ae⟩:=zc ae;obtain⟨aj,h2,ae⟩:=zc ae;let Z2:List HO:=[Hn (iL F7_ h1),Hs (iM F7_ h1),Hc h0J (x:=(dx,jl)) h2 (loC F7_ dx <| loC zpM jl <| loN)];rcases zI ae with⟨c2,ae⟩|⟨c2,ae⟩
     ·obtain⟨lz,h3,ae⟩:=zc ae;exact yB y4 hC bk ((bw.set fc.toNat dx),w64 (fc+1)) ae (Z2++[Hq c2,Hn (iL F7_ h3),Hs (iM F7_ h3),Hs (iM F7_ h3),Hl (sM F7_ bw fc dx)])
     ·exact yB y4 hC bk (bw,fc) ae (Z2++[Hq c2])
   ·obtain rfl:=za ae;obtain rfl:=hl1;exact yB y4 hC aw (bw,fc) aa (Z1++[Hq c1])
def zby:Code:=(f221.body).getD .skip
def VT:zN:=spF (α:=List (List Int)×List (List Int)×Int) (ρ:=List (List Int)×Int) 221 (λx=>[xh x.1,xh x.2.1,s8 x.2.2]) (λr=>.tup [Us r.1,s8 r.2]) (λx=>Xz x.1 x.2.1 x.2.2) [] (zdJ)
theorem zcu (hC:zF prog ctr)(h0j:ctr.Has Qe)(h0D:ctr.Has vH)(h28:ctr.Has vU)(h04:ctr.Has jM):VT.Ok prog:=by
 refine zC ?_;rintro⟨a_,b_,inputs⟩ r0 aa;try unfold Xz at aa;refine yO false [(6,none),(7,none)] zby 24 func221 λE hE=>?_;obtain⟨r_,h0,aa⟩:=zc aa
 let Z0:List HO:=[Hg (JO h0j),Hm (shM xh xh ([a_,b_])),Hs (JP h0j (x:=(inputs,[a_,b_])) h0 (loC s8 inputs <| loC (eSl 1 true xh) ([a_,b_]:List (List (List Int))) <| loN))];rcases zI aa with⟨c0,aa⟩|⟨c0,aa⟩
 ·obtain rfl:=za aa;exact yEx X0 hC hE (Z0++[Hq c0,Hm (shM F7_ F7_ [])]) (.tup [eSl 1 true F3_ [],I r_]) (show LeV (.tup [eSl 1 true F3_ [],I r_]) (.tup [eSl 1 true F3_ ([]:List (List Int)),I r_]) from inferInstance)
 ·obtain⟨aj,h1,aa⟩:=zc aa;obtain⟨ak,h2,aa⟩:=zc aa;obtain⟨au,h3,aa⟩:=zc aa;obtain rfl:=za aa;exact yE X0 hC hE (Z0++[Hq c0,Hc h0D (x:=a_) h1 (loC xh a_ <| loN),Hc h28 (x:=(aj,b_)) h2 (loC z4S aj <| loC (z1k 224 zpM) b_ <| loN),Hg (JO h04),Hm (shM F7_ F7_ ak),Hs (JP h04 (x:=ak) h3 (loC xh ak <| loN)),Hm (shM F7_ F7_ ak)])
def z6S:Code:=(f92.body).getD .skip
def Vn:zN:=spF (α:=z6×Int) (ρ:=Int) 92 (λx=>[zO x.1,s8 x.2]) (λr=>s8 r) (λx=>Xf x.1 x.2) [] (W2)
theorem z85 (hC:zF prog ctr)(h03:ctr.Has xH):Vn.Ok prog:=by
 refine zC ?_;rintro⟨m_,s_⟩ r0 aa;try unfold Xf at aa;refine yO true [(4,none)] z6S 20 func92 λE hE=>?_;obtain⟨r_,h0,aa⟩:=zc aa
 let Z0:List HO:=[Hc h03 (x:=m_) h0 (loC zO m_ <| loN)];rcases zI aa with⟨c0,aa⟩|⟨c0,aa⟩
 ·obtain rfl:=za aa;exact yE X0 hC hE (Z0++[Hq c0])
 ·rcases zI aa with⟨c1,aa⟩|⟨c1,aa⟩
  ·obtain rfl:=za aa;exact yE X0 hC hE (Z0++(Hq c0::(rpN 6 (Hq c1) [qT])))
  ·let Z1:List HO:=(Z0++(Hq c0::(rpN 4 (Hq c1) [Ha (lnM yN m_.Rows),Hq c1,Hq c1])));rcases zI aa with⟨c2,aa⟩|⟨c2,aa⟩
   ·obtain rfl:=za aa;exact yE X0 hC hE (Z1++[Hq c2])
   ·obtain rfl:=za aa;exact yE X0 hC hE (Z1++[Hq c2])
def WW:Code:=(f94.body).getD .skip
def Ja:zN:=spF (α:=z6×Int×List Int) (ρ:=List Int×Int) 94 (λx=>[zO x.1,s8 x.2.1,F7_ x.2.2]) (λr=>.opq (zgT [some (F4_ r.1),some (s8 r.2)])) (λx=>UG x.1 x.2.1 x.2.2) [] (zdJ)
abbrev z6j (bg:Int)(out:List Int):List (Nat×T):=[(1,.d (I bg)),(8,.own (eOs 1 true s8 out))]
abbrev z6i (m_:z6)(w_:List Int)(ai:List Int)(ay:Int)(iy:Int)(l5:Int):List (Nat×T):=[(3,.own (.box (zO m_))),(8,.own (eOs 1 true s8 ai)),(9,.d (I ay)),(11,.own (.box (.agg [I iy,I l5]))),(15,.d (eSl 1 false s8 w_)),(16,.d (I ((w_.length:Nat):Int))),(17,.d (I ay))]
abbrev z6h (m_:z6)(w_:List Int)(bw:Int)(ai:List Int)(ay:Int):List (Nat×T):=[(1,.d (I bw)),(3,.own (.box (zO m_))),(8,.own (eOs 1 true s8 ai)),(15,.d (eSl 1 false s8 w_)),(16,.d (I ((w_.length:Nat):Int))),(17,.d (I ay))]
theorem zbg (hC:zF prog ctr)(h0g:ctr.Has Za):Ja.Ok prog:=by
 refine zC ?_;rintro⟨m_,s_,w_⟩ r0 aa;try unfold UG at aa;refine zhW (tt:=yw) (rs:=[(true,6,none),(false,7,none)]) (n:=⟨43,[]⟩) (body:=WW) zx func94 rfl (by kernel_rfl) rfl rfl (by show(3:Nat)<=43;decide) λE hE=>?_
 obtain⟨g0,aa⟩:=gdE aa;refine yJ X0 hC WW [1,1] [] [1,8] (λz:Int×List Int=>WK z.1 z.2=some r0) (λz=>z6j z.1 z.2) [(1,.d (I s_)),(2,.d (eSl 1 false s8 w_)),(3,.own (.box (zO m_))),(8,.own (eOs 1 true s8 (List.replicate ((w_.length:Nat):Int).toNat (0:Int))))] [Ha (lnM s8 w_),Hn (rL g0),Ha (rM 1 s8 ((w_.length:Nat):Int) (0:Int)),Hh (.cut 0)] ?_ λJ1 aw=>?_
 ·rintro⟨bg,out⟩ aa;unfold WK at aa;obtain rfl:=za aa;let ZE:List HO:=[];exact zm6 X0 zx hC z1E hE 4000 (hs:=hoH ZE) (x:=(.opq (zgT [some (eOs 1 true s8 out),some (I bg)]))) (hoB ZE) (by kernel_rfl) (LeV.refl _)
 ·obtain⟨t2,ht2,aa⟩:=zc aa;refine yL X0 hC WW [1,1,2,1,0] [J1] (λs=>WJ m_ w_ s.1 s.2.1 s.2.2) (λx=>z6h m_ w_ x.1 x.2.1 x.2.2) (s_,(List.replicate ((w_.length:Nat):Int).toNat (0:Int)),0) ht2  [Ha (lnM s8 w_)] ?_;rintro⟨bw,ai,ay⟩ m2 az ae hl1 J2 a6;try unfold WJ at ae;rcases zI ae with⟨c0,ae⟩|⟨c0,ae⟩
  ·obtain⟨gu,h0,ae⟩:=zc ae;obtain⟨r_,h1,ae⟩:=zc ae;refine yJ X0 hC WW [1,1,2,1,0,0,1,1,0,0,1,1] [J1,J2] [3,8,9,11,15,16,17] (λz:Int×Int=>uN ai ay z.1 z.2=some az) (λz=>z6i m_ w_ ai ay z.1 z.2) [(1,.d (I bw)),(3,.own (.box (zO m_))),(8,.own (eOs 1 true s8 ai)),(9,.d (I ay)),(10,.d (I gu)),(11,.own (.box (F9_ r_))),(15,.d (eSl 1 false s8 w_)),(16,.d (I ((w_.length:Nat):Int))),(17,.d (I ay))] [Hq c0,Hi s8 h0,Hc h0g (x:=()) h1 (loN),Hh (.cut 0)] ?_ λJ3 bk=>?_
   ·rintro⟨iy,l5⟩ ae;unfold uN at ae;obtain⟨co,h2,ae⟩:=zc ae;obtain rfl:=za ae;exact yB X0 hC a6 (iy,(ai.set ay.toNat l5),w64 (ay+1)) hl1 [Hn (iL s8 h2),Hs (iM s8 h2),Hs (iM s8 h2),Hl (sM s8 ai ay l5)]
   ·rcases zI ae with⟨c1,ae⟩|⟨c1,ae⟩
    ·obtain⟨aq,h3,ae⟩:=zc ae;obtain⟨al,h4,ae⟩:=zc ae;exact yB X0 hC bk (al.To,al.Out) ae [Hq c1,Hi yN h3,Hi F9_ h4]
    ·exact yB X0 hC bk (r_.To,r_.Out) ae [Hq c1]
  ·obtain rfl:=za ae;obtain rfl:=hl1;exact yB X0 hC aw (bw,ai) aa [Hq c0]
def z6U:Code:=(f226.body).getD .skip
def Vp:zN:=spF (α:=z6×Int×List Int) (ρ:=Int×Int) 226 (λx=>[zO x.1,s8 x.2.1,F7_ x.2.2]) (λr=>.tup [s8 r.1,s8 r.2]) (λx=>Zv x.1 x.2.1 x.2.2) [] (zdJ)
theorem z88 (hC:zF prog ctr)(h29:ctr.Has Vn)(h0B:ctr.Has VQ)(h2a:ctr.Has Ja):Vp.Ok prog:=by
 refine zC ?_;rintro⟨m_,s_,w_⟩ r0 aa;try unfold Zv at aa;refine yO false [(6,none),(7,none)] z6U 33 func226 λE hE=>?_;obtain⟨r_,h0,aa⟩:=zc aa
 let Z0:List HO:=[Hc h29 (x:=(m_,s_)) h0 (loC zO m_ <| loC s8 s_ <| loN)];rcases zI aa with⟨c0,aa⟩|⟨c0,aa⟩
 ·obtain rfl:=za aa;exact yE X0 hC hE (Z0++[Hq c0])
 ·obtain⟨aj,h1,aa⟩:=zc aa;let Z1:List HO:=(Z0++[Hq c0,Hc h0B (x:=(w_,m_.Inputs)) h1 (loC F7_ w_ <| loC s8 m_.Inputs <| loN)]);rcases zI aa with⟨c1,aa⟩|⟨c1,aa⟩
  ·obtain rfl:=za aa;exact yE X0 hC hE (Z1++[Hq c1])
  ·obtain⟨ak,h2,aa⟩:=zc aa;obtain rfl:=za aa;exact yE ((ztQ prog 31 [none,some (I ak.2)]).or ((ztQ prog 30 [some (eOs 1 true s8 ak.1),some (I ak.2)]).or X0)) hC hE (Z1++[Hq c1,Hc h2a (x:=(m_,s_,w_)) h2 (loC zO m_ <| loC s8 s_ <| loC F7_ w_ <| loN),Hn (⟨rfl,rfl⟩:T.own (.opq (zgT [some (eOs 1 true s8 ak.1),some (I ak.2)]))=T.own (.opq (zgT [some (eOs 1 true s8 ak.1),some (I ak.2)]))/\1=1),Hn (⟨rfl,rfl⟩:T.own (.opq (zgT [none,some (I ak.2)]))=T.own (.opq (zgT [none,some (I ak.2)]))/\1=1)])
def z3z:Code:=(f222.body).getD .skip
def vY:zN:=spF (α:=zl×List Int×List Int) (ρ:=List (List Int)) 222 (λx=>[zqD x.1,F7_ x.2.1,F7_ x.2.2]) (λr=>xh r) (λx=>xG x.1 x.2.1 x.2.2) [] (zdJ)
theorem z48 (hC:zF prog ctr)(h1d:ctr.Has Vp):vY.Ok prog:=by refine zC ?_;rintro⟨x_,u_,v_⟩ r0 aa;try unfold xG at aa;refine yO true [(6,none)] z3z 37 func222 λE hE=>?_;obtain⟨r_,h0,aa⟩:=zc aa;obtain⟨aj,h1,aa⟩:=zc aa;obtain⟨nz,h2,aa⟩:=zc aa;obtain rfl:=za aa;exact yE X0 hC hE [Hc h1d (x:=(x_.m_,0,u_)) h0 (loC zO x_.m_ <| loC s8 0 <| loC F7_ u_ <| loN),Hc h1d (x:=(x_.m_,r_.1,v_)) h1 (loC zO x_.m_ <| loC s8 r_.1 <| loC F7_ v_ <| loN),Hi xh h2]
def zR:Code:=(f220.body).getD .skip
abbrev z06 (x_:zl)(r_:List (List Int)×Int)(gr:Int)(bp:List (zq Int))(bh:Int)(cw:Int):List (Nat×T):=[(1,.d (.sptr (X1 x_))),(2,.own (.box (.agg [eOs 16 false F1_ bp,I bh,I cw]))),(73,.d (eSl 1 true F3_ r_.1)),(74,.d (I ((r_.1.length:Nat):Int))),(75,.d (I gr))]
abbrev z05 (x_:zl)(r_:List (List Int)×Int)(gr:Int)(u_:List Int)(jn:Int)(bq:List (zq Int))(bi:Int)(cu:Int):List (Nat×T):=[(1,.d (.sptr (X1 x_))),(2,.own (.box (.agg [eOs 16 false F1_ bq,I bi,I cu]))),(15,.d (eSl 1 false s8 u_)),(73,.d (eSl 1 true F3_ r_.1)),(74,.d (I ((r_.1.length:Nat):Int))),(75,.d (I gr)),(82,.d (eSl 1 false F7_ x_.exact_)),(83,.d (I ((x_.exact_.length:Nat):Int))),(84,.d (I jn))]
abbrev z01 (x_:zl)(r_:List (List Int)×Int)(gr:Int)(u_:List Int)(jn:Int)(dh:List Int)(aj:List (List Int))(ig:List (zq Int))(db:Int)(jb:Int)(mz:Int):List (Nat×T):=[(1,.d (.sptr (X1 x_))),(2,.own (.box (.agg [eOs 16 false F1_ ig,I db,I jb]))),(15,.d (eSl 1 false s8 u_)),(17,.d (eSl 1 false s8 dh)),(73,.d (eSl 1 true F3_ r_.1)),(74,.d (I ((r_.1.length:Nat):Int))),(75,.d (I gr)),(82,.d (eSl 1 false F7_ x_.exact_)),(83,.d (I ((x_.exact_.length:Nat):Int))),(84,.d (I jn)),(91,.d (eSl 1 false F7_ aj)),(92,.d (I ((aj.length:Nat):Int))),(93,.d (I mz))]
abbrev z02 (x_:zl)(r_:List (List Int)×Int)(gr:Int)(u_:List Int)(am:List (zq Int))(a7:Int)(dv:Int)(jn:Int):List (Nat×T):=[(1,.d (.sptr (X1 x_))),(2,.own (.box (.agg [eOs 16 false F1_ am,I a7,I dv]))),(15,.d (eSl 1 false s8 u_)),(73,.d (eSl 1 true F3_ r_.1)),(74,.d (I ((r_.1.length:Nat):Int))),(75,.d (I gr)),(82,.d (eSl 1 false F7_ x_.exact_)),(83,.d (I ((x_.exact_.length:Nat):Int))),(84,.d (I jn))]
abbrev z03 (x_:zl)(r_:List (List Int)×Int)(br:List (zq Int))(bj:Int)(du:Int)(gr:Int):List (Nat×T):=[(1,.d (.sptr (X1 x_))),(2,.own (.box (.agg [eOs 16 false F1_ br,I bj,I du]))),(73,.d (eSl 1 true F3_ r_.1)),(74,.d (I ((r_.1.length:Nat):Int))),(75,.d (I gr))]
abbrev z07 (x_:zl)(ce:List (zq Int))(bn:Int)(dz:Int):List (Nat×T):=[(1,.d (.sptr (X1 x_))),(2,.own (.box (.agg [eOs 16 false F1_ ce,I bn,I dz])))]
abbrev z04 (x_:zl)(gt:Int)(kc:List (zq Int))(jy:Int)(kz:Int):List (Nat×T):=[(1,.d (.sptr (X1 x_))),(2,.own (.box (.agg [eOs 16 false F1_ kc,I jy,I kz]))),(23,.d (eSl 1 false F7_ x_.q_)),(24,.d (I ((x_.q_.length:Nat):Int))),(25,.d (I gt))]
abbrev K3 (x_:zl)(gt:Int)(fm:List Int)(jo:Int)(ke:List (zq Int))(jz:Int)(k0:Int):List (Nat×T):=[(1,.d (.sptr (X1 x_))),(2,.own (.box (.agg [eOs 16 false F1_ ke,I jz,I k0]))),(7,.d (eSl 1 false s8 fm)),(23,.d (eSl 1 false F7_ x_.q_)),(24,.d (I ((x_.q_.length:Nat):Int))),(25,.d (I gt)),(32,.d (eSl 1 false F7_ x_.short_)),(33,.d (I ((x_.short_.length:Nat):Int))),(34,.d (I jo))]
abbrev K2 (x_:zl)(gt:Int)(fm:List Int)(jo:Int)(ax:List Int)(gk:List (zq Int))(gg:Int)(ii:Int)(lh:Int):List (Nat×T):=[(1,.d (.sptr (X1 x_))),(2,.own (.box (.agg [eOs 16 false F1_ gk,I gg,I ii]))),(7,.d (eSl 1 false s8 fm)),(9,.d (eSl 1 false s8 ax)),(23,.d (eSl 1 false F7_ x_.q_)),(24,.d (I ((x_.q_.length:Nat):Int))),(25,.d (I gt)),(32,.d (eSl 1 false F7_ x_.short_)),(33,.d (I ((x_.short_.length:Nat):Int))),(34,.d (I jo)),(41,.d (eSl 1 false F7_ x_.all_)),(42,.d (I ((x_.all_.length:Nat):Int))),(43,.d (I lh))]
abbrev KZ (x_:zl)(gt:Int)(fm:List Int)(ij:List (zq Int))(gl:Int)(jd:Int)(jo:Int):List (Nat×T):=[(1,.d (.sptr (X1 x_))),(2,.own (.box (.agg [eOs 16 false F1_ ij,I gl,I jd]))),(7,.d (eSl 1 false s8 fm)),(23,.d (eSl 1 false F7_ x_.q_)),(24,.d (I ((x_.q_.length:Nat):Int))),(25,.d (I gt)),(32,.d (eSl 1 false F7_ x_.short_)),(33,.d (I ((x_.short_.length:Nat):Int))),(34,.d (I jo))]
abbrev z00 (x_:zl)(ik:List (zq Int))(gm:Int)(je:Int)(gt:Int):List (Nat×T):=[(1,.d (.sptr (X1 x_))),(2,.own (.box (.agg [eOs 16 false F1_ ik,I gm,I je]))),(23,.d (eSl 1 false F7_ x_.q_)),(24,.d (I ((x_.q_.length:Nat):Int))),(25,.d (I gt))]
theorem z2h (hC:zF prog ctr)(h0K:ctr.Has VT)(h0d:ctr.Has vY)(cm:Value):∀(x0:z1J) (x_:zl) (b_:zb) (r0:zb×Bool),wW x0 x_ b_=some r0->zgO prog 220 [.agg [],.sptr (.agg [.agg [I x_.m_.Inputs,I x_.m_.Outputs,eSl 1 false yN x_.m_.Rows],eSl 1 false F7_ x_.q_,eSl 1 false F7_ x_.p_,eSl 1 false F7_ x_.all_,eSl 1 false xh x_.each_,eSl 1 false F7_ x_.short_,eSl 1 false F7_ x_.exact_]),.atom cm] ([cm].zip [.box (.agg [eOs 16 false F1_ b_.nodes_,I b_.leaves_,I b_.most_])]) r0.2 (.iface 124 (.agg #[])) (.tup []) [.box (.agg [eOs 16 false F1_ r0.1.nodes_,I r0.1.leaves_,I r0.1.most_])]:=by
 intro x0 x_ b_ r0 aa;refine zde (tt:=yw) (nt:=106) (body:=zR) [2] zx func220 rfl (by kernel_rfl) rfl rfl (by show(3:Nat)<=106;decide) (by decide) rfl rfl rfl (λE hE hD=>?_);unfold wW at aa;refine yJ X0 hC zR [1] [] [1,2] (λz:List (zq Int)×Int×Int=>uY x_ b_ z.1 z.2.1 z.2.2=some r0) (λz=>z07 x_ z.1 z.2.1 z.2.2) [(1,.d (.sptr (X1 x_))),(2,.own (.box ((yX zyX s8 s8) b_)))] [Hh (.cut 1)] ?_ λJ1 aw=>?_
 ·rintro⟨ce,bn,dz⟩ aa;unfold uY at aa;obtain⟨r_,h0,aa⟩:=zc aa;obtain⟨t2,ht2,aa⟩:=zc aa;refine yL X0 hC zR [1,1,1,1,0] [] (λs=>uX x_ b_ r_ s.1 s.2.1 s.2.2.1 s.2.2.2) (λx=>z03 x_ r_ x.1 x.2.1 x.2.2.1 x.2.2.2) (ce,bn,dz,0) ht2  [Hc h0K (x:=(x_.p_,x_.q_,x_.m_.Inputs)) h0 (loC xh x_.p_ <| loC xh x_.q_ <| loC s8 x_.m_.Inputs <| loN),Ha (lnM F3_ r_.1)] ?_;rintro⟨br,bj,du,gr⟩ m2 az ae hl1 J2 a6;try unfold uX at ae;rcases zI ae with⟨c0,ae⟩|⟨c0,ae⟩
  ·refine yJ X0 hC zR [1,1,1,1,0,0,1,1] [J2] [1,2,73,74,75] (λz:List (zq Int)×Int×Int=>ZG gr z.1 z.2.1 z.2.2=some az) (λz=>z06 x_ r_ gr z.1 z.2.1 z.2.2) [(1,.d (.sptr (X1 x_))),(2,.own (.box (.agg [eOs 16 false F1_ br,I bj,I du]))),(73,.d (eSl 1 true F3_ r_.1)),(74,.d (I ((r_.1.length:Nat):Int))),(75,.d (I gr))] [Hq c0,Hh (.cut 0)] ?_ λJ3 bk=>?_
   ·rintro⟨bp,bh,cw⟩ ae;unfold ZG at ae;obtain rfl:=za ae;exact yB X0 hC a6 (bp,bh,cw,w64 (gr+1)) hl1 []
   ·obtain⟨u_,h1,ae⟩:=zc ae;obtain⟨t4,ht4,ae⟩:=zc ae;refine yL ((xLs zx 78 (eSl 1 true s8 u_) (eSl 1 false s8 u_) inferInstance).or X0) hC zR [1,1,1,1,0,0,1,1,2,0,1,1,0] [J2,J3] (λs=>uW x_ b_ u_ s.1 s.2.1 s.2.2.1 s.2.2.2) (λx=>z02 x_ r_ gr u_ x.1 x.2.1 x.2.2.1 x.2.2.2) (br,bj,du,0) ht4  [Hi F3_ h1,Hn (rfl:T.d (eSl 1 true s8 u_)=T.d (eSl 1 true s8 u_)),Ha (lnM F7_ x_.exact_)] ?_;rintro⟨am,a7,dv,jn⟩ m4 dl ah hl2 J4 d0;try unfold uW at ah;rcases zI ah with⟨c1,ah⟩|⟨c1,ah⟩
    ·refine yJ X0 hC zR [1,1,1,1,0,0,1,1,2,0,1,1,0,0,1,1] [J2,J3,J4] [1,2,15,73,74,75,82,83,84] (λz:List (zq Int)×Int×Int=>ZF jn z.1 z.2.1 z.2.2=some dl) (λz=>z05 x_ r_ gr u_ jn z.1 z.2.1 z.2.2) [(1,.d (.sptr (X1 x_))),(2,.own (.box (.agg [eOs 16 false F1_ am,I a7,I dv]))),(15,.d (eSl 1 false s8 u_)),(73,.d (eSl 1 true F3_ r_.1)),(74,.d (I ((r_.1.length:Nat):Int))),(75,.d (I gr)),(82,.d (eSl 1 false F7_ x_.exact_)),(83,.d (I ((x_.exact_.length:Nat):Int))),(84,.d (I jn))] [Hq c1,Hh (.cut 0)] ?_ λJ5 dn=>?_
     ·rintro⟨bq,bi,cu⟩ ah;unfold ZF at ah;obtain rfl:=za ah;exact yB X0 hC d0 (bq,bi,cu,w64 (jn+1)) hl2 []
     ·obtain⟨dh,h2,ah⟩:=zc ah;obtain⟨aj,h3,ah⟩:=zc ah;obtain⟨t6,la,ah⟩:=zc ah;refine yL X0 hC zR [1,1,1,1,0,0,1,1,2,0,1,1,0,0,1,1,2,0,1,1,0] [J2,J3,J4,J5] (λs=>wQ b_ u_ dh aj s.1 s.2.1 s.2.2.1 s.2.2.2) (λx=>z01 x_ r_ gr u_ jn dh aj x.1 x.2.1 x.2.2.1 x.2.2.2) (am,a7,dv,0) la  [Hi F7_ h2,Hc h0d (x:=(x_,u_,dh)) h3 (loC zqD x_ <| loC F7_ u_ <| loC F7_ dh <| loN),Ha (lnM F7_ aj)] ?_;rintro⟨ig,db,jb,mz⟩ m6 l9 av hl3 J6 fp;try unfold wQ at av;rcases zI av with⟨c2,av⟩|⟨c2,av⟩
      ·obtain⟨dw,h4,av⟩:=zc av;refine yA X0 hC zR [1,1,1,1,0,0,1,1,2,0,1,1,0,0,1,1,2,0,1,1,0,0,1,1,0,0,1] [J2,J3,J4,J5,J6] [(1,.d (.sptr (X1 x_))),(2,.own (.box (.agg [eOs 16 false F1_ ig,I db,I jb]))),(15,.d (eSl 1 false s8 u_)),(17,.d (eSl 1 false s8 dh)),(19,.d (eSl 1 false s8 dw)),(73,.d (eSl 1 true F3_ r_.1)),(74,.d (I ((r_.1.length:Nat):Int))),(75,.d (I gr)),(82,.d (eSl 1 false F7_ x_.exact_)),(83,.d (I ((x_.exact_.length:Nat):Int))),(84,.d (I jn)),(91,.d (eSl 1 false F7_ aj)),(92,.d (I ((aj.length:Nat):Int))),(93,.d (I mz))] [Hq c2,Hi F7_ h4,Hh (.stp 0)] ?_;obtain⟨ak,h5,av⟩:=zc av;rcases zI av with⟨c3,av⟩|⟨c3,av⟩
       ·obtain rfl:=za av;obtain rfl:=hl3;obtain rfl:=za ah;obtain rfl:=hl2;obtain rfl:=za ae;obtain rfl:=hl1;obtain rfl:=za aa;exact yD X0 hC 5 [2] ((wL hC cm _ _ _ h5).2 c3) [.atom cm,zfy ([u_,dh,dw]:List (List Int))] inferInstance [Hm (shM F7_ F7_ ([u_,dh,dw]))] λst0=>hD rfl st0
       ·obtain rfl:=za av;exact yB ((k8 (P:=prog) yw [2] ((wL hC cm _ _ _ h5).1 c3) 102).or X0) hC fp (ak.1.nodes_,ak.1.leaves_,ak.1.most_,w64 (mz+1)) hl3 [Hm (shM F7_ F7_ ([u_,dh,dw])),Hn (Ve (f:=.fn 219 []) (xs:=[.atom cm,xh ([u_,dh,dw]:List (List Int))]) (ls:=[(cm,.box (.agg [eOs 16 false F1_ ig,I db,I jb]))]) (r:=.tup []) (ys:=[.box (.agg [eOs 16 false F1_ ak.1.nodes_,I ak.1.leaves_,I ak.1.most_])]) [.atom cm,zfy ([u_,dh,dw]:List (List Int))] (show z3p [.atom cm,zfy ([u_,dh,dw]:List (List Int))] [.atom cm,xh ([u_,dh,dw]:List (List Int))] from inferInstance))]
      ·obtain rfl:=za av;obtain rfl:=hl3;exact yB X0 hC dn (ig,db,jb) ah [Hq c2]
    ·obtain rfl:=za ah;obtain rfl:=hl2;exact yB X0 hC bk (am,a7,dv) ae [Hq c1]
  ·obtain rfl:=za ae;obtain rfl:=hl1;obtain rfl:=za aa;exact yF X0 hC .normal [(2,.own (.box (.agg [eOs 16 false F1_ br,I bj,I du])))] [Hq c0] λst0 h0=>hE rfl _ st0 (.inl rfl) (Jn h0 ⟨⟨rfl,rfl⟩,trivial⟩)
 ·obtain⟨t7,ht7,aa⟩:=zc aa;refine yL X0 hC zR [1,2,1,0] [J1] (λs=>uV x_ b_ s.1 s.2.1 s.2.2.1 s.2.2.2) (λx=>z00 x_ x.1 x.2.1 x.2.2.1 x.2.2.2) (b_.nodes_,b_.leaves_,b_.most_,0) ht7  [Ha (lnM F7_ x_.q_)] ?_;rintro⟨ik,gm,je,gt⟩ m7 az ae hl1 J7 jk;try unfold uV at ae;rcases zI ae with⟨c4,ae⟩|⟨c4,ae⟩
  ·refine yJ X0 hC zR [1,2,1,0,0,1,1] [J1,J7] [1,2,23,24,25] (λz:List (zq Int)×Int×Int=>ZD gt z.1 z.2.1 z.2.2=some az) (λz=>z04 x_ gt z.1 z.2.1 z.2.2) [(1,.d (.sptr (X1 x_))),(2,.own (.box (.agg [eOs 16 false F1_ ik,I gm,I je]))),(23,.d (eSl 1 false F7_ x_.q_)),(24,.d (I ((x_.q_.length:Nat):Int))),(25,.d (I gt))] [Hq c4,Hh (.cut 0)] ?_ λJ8 lw=>?_
   ·rintro⟨kc,jy,kz⟩ ae;unfold ZD at ae;obtain rfl:=za ae;exact yB X0 hC jk (kc,jy,kz,w64 (gt+1)) hl1 []
   ·obtain⟨fm,h6,ae⟩:=zc ae;obtain⟨t9,ht9,ae⟩:=zc ae;refine yL X0 hC zR [1,2,1,0,0,1,1,2,0,1,1,0] [J1,J7,J8] (λs=>uU x_ b_ fm s.1 s.2.1 s.2.2.1 s.2.2.2) (λx=>KZ x_ gt fm x.1 x.2.1 x.2.2.1 x.2.2.2) (ik,gm,je,0) ht9  [Hi F7_ h6,Ha (lnM F7_ x_.short_)] ?_;rintro⟨ij,gl,jd,jo⟩ m9 dl ah hl2 J9 ot;try unfold uU at ah;rcases zI ah with⟨c5,ah⟩|⟨c5,ah⟩
    ·refine yJ X0 hC zR [1,2,1,0,0,1,1,2,0,1,1,0,0,1,1] [J1,J7,J8,J9] [1,2,7,23,24,25,32,33,34] (λz:List (zq Int)×Int×Int=>kD jo z.1 z.2.1 z.2.2=some dl) (λz=>K3 x_ gt fm jo z.1 z.2.1 z.2.2) [(1,.d (.sptr (X1 x_))),(2,.own (.box (.agg [eOs 16 false F1_ ij,I gl,I jd]))),(7,.d (eSl 1 false s8 fm)),(23,.d (eSl 1 false F7_ x_.q_)),(24,.d (I ((x_.q_.length:Nat):Int))),(25,.d (I gt)),(32,.d (eSl 1 false F7_ x_.short_)),(33,.d (I ((x_.short_.length:Nat):Int))),(34,.d (I jo))] [Hq c5,Hh (.cut 0)] ?_ λJ10 hJ10=>?_
     ·rintro⟨ke,jz,k0⟩ ah;unfold kD at ah;obtain rfl:=za ah;exact yB X0 hC ot (ke,jz,k0,w64 (jo+1)) hl2 []
     ·obtain⟨ax,h7,ah⟩:=zc ah;obtain⟨pl,ht11,ah⟩:=zc ah;refine yL X0 hC zR [1,2,1,0,0,1,1,2,0,1,1,0,0,1,1,2,0,1,1,0] [J1,J7,J8,J9,J10] (λs=>u9 x_ b_ fm ax s.1 s.2.1 s.2.2.1 s.2.2.2) (λx=>K2 x_ gt fm jo ax x.1 x.2.1 x.2.2.1 x.2.2.2) (ij,gl,jd,0) ht11  [Hi F7_ h7,Ha (lnM F7_ x_.all_)] ?_;rintro⟨gk,gg,ii,lh⟩ pz l9 av hl3 pm oc;try unfold u9 at av;rcases zI av with⟨c6,av⟩|⟨c6,av⟩
      ·obtain⟨eb,h8,av⟩:=zc av;refine yA X0 hC zR [1,2,1,0,0,1,1,2,0,1,1,0,0,1,1,2,0,1,1,0,0,1,1,0,0,1] [J1,J7,J8,J9,J10,pm] [(1,.d (.sptr (X1 x_))),(2,.own (.box (.agg [eOs 16 false F1_ gk,I gg,I ii]))),(7,.d (eSl 1 false s8 fm)),(9,.d (eSl 1 false s8 ax)),(11,.d (eSl 1 false s8 eb)),(23,.d (eSl 1 false F7_ x_.q_)),(24,.d (I ((x_.q_.length:Nat):Int))),(25,.d (I gt)),(32,.d (eSl 1 false F7_ x_.short_)),(33,.d (I ((x_.short_.length:Nat):Int))),(34,.d (I jo)),(41,.d (eSl 1 false F7_ x_.all_)),(42,.d (I ((x_.all_.length:Nat):Int))),(43,.d (I lh))] [Hq c6,Hi F7_ h8,Hh (.stp 0)] ?_;obtain⟨au,h9,av⟩:=zc av;rcases zI av with⟨c7,av⟩|⟨c7,av⟩
       ·obtain rfl:=za av;obtain rfl:=hl3;obtain rfl:=za ah;obtain rfl:=hl2;obtain rfl:=za ae;obtain rfl:=hl1;obtain rfl:=za aa;exact yD X0 hC 5 [2] ((wL hC cm _ _ _ h9).2 c7) [.atom cm,zfy ([fm,ax,eb]:List (List Int))] inferInstance [Hm (shM F7_ F7_ ([fm,ax,eb]))] λst0=>hD rfl st0
       ·obtain rfl:=za av;exact yB ((k8 (P:=prog) yw [2] ((wL hC cm _ _ _ h9).1 c7) 52).or X0) hC oc (au.1.nodes_,au.1.leaves_,au.1.most_,w64 (lh+1)) hl3 [Hm (shM F7_ F7_ ([fm,ax,eb])),Hn (Ve (f:=.fn 219 []) (xs:=[.atom cm,xh ([fm,ax,eb]:List (List Int))]) (ls:=[(cm,.box (.agg [eOs 16 false F1_ gk,I gg,I ii]))]) (r:=.tup []) (ys:=[.box (.agg [eOs 16 false F1_ au.1.nodes_,I au.1.leaves_,I au.1.most_])]) [.atom cm,zfy ([fm,ax,eb]:List (List Int))] (show z3p [.atom cm,zfy ([fm,ax,eb]:List (List Int))] [.atom cm,xh ([fm,ax,eb]:List (List Int))] from inferInstance))]
      ·obtain rfl:=za av;obtain rfl:=hl3;exact yB X0 hC hJ10 (gk,gg,ii) ah [Hq c6]
    ·obtain rfl:=za ah;obtain rfl:=hl2;exact yB X0 hC lw (ij,gl,jd) ae [Hq c5]
  ·obtain rfl:=za ae;obtain rfl:=hl1;exact yB X0 hC aw (ik,gm,je) aa [Hq c4]
def xa:Code:=(f229.body).getD .skip
abbrev K8 (x_:zl)(ay:Int)(br:List (zq Int))(bj:Int)(du:Int):List (Nat×T):=[(1,.d (.sptr (X1 x_))),(2,.own (.box (.agg [eOs 16 false F1_ br,I bj,I du]))),(15,.d (eSl 1 false F7_ x_.p_)),(16,.d (I ((x_.p_.length:Nat):Int))),(17,.d (I ay))]
abbrev K7 (x_:zl)(ay:Int)(a8:List Int)(fg:Int)(am:List (zq Int))(a7:Int)(dv:Int):List (Nat×T):=[(1,.d (.sptr (X1 x_))),(2,.own (.box (.agg [eOs 16 false F1_ am,I a7,I dv]))),(7,.d (eSl 1 false s8 a8)),(15,.d (eSl 1 false F7_ x_.p_)),(16,.d (I ((x_.p_.length:Nat):Int))),(17,.d (I ay)),(24,.d (eSl 1 false F7_ x_.short_)),(25,.d (I ((x_.short_.length:Nat):Int))),(26,.d (I fg))]
abbrev K4 (x_:zl)(ay:Int)(a8:List Int)(fg:Int)(ax:List Int)(r_:List (List Int))(bq:List (zq Int))(bi:Int)(cu:Int)(ft:Int):List (Nat×T):=[(1,.d (.sptr (X1 x_))),(2,.own (.box (.agg [eOs 16 false F1_ bq,I bi,I cu]))),(7,.d (eSl 1 false s8 a8)),(9,.d (eSl 1 false s8 ax)),(15,.d (eSl 1 false F7_ x_.p_)),(16,.d (I ((x_.p_.length:Nat):Int))),(17,.d (I ay)),(24,.d (eSl 1 false F7_ x_.short_)),(25,.d (I ((x_.short_.length:Nat):Int))),(26,.d (I fg)),(33,.d (eSl 1 false F7_ r_)),(34,.d (I ((r_.length:Nat):Int))),(35,.d (I ft))]
abbrev K5 (x_:zl)(ay:Int)(a8:List Int)(bp:List (zq Int))(bh:Int)(cw:Int)(fg:Int):List (Nat×T):=[(1,.d (.sptr (X1 x_))),(2,.own (.box (.agg [eOs 16 false F1_ bp,I bh,I cw]))),(7,.d (eSl 1 false s8 a8)),(15,.d (eSl 1 false F7_ x_.p_)),(16,.d (I ((x_.p_.length:Nat):Int))),(17,.d (I ay)),(24,.d (eSl 1 false F7_ x_.short_)),(25,.d (I ((x_.short_.length:Nat):Int))),(26,.d (I fg))]
abbrev K6 (x_:zl)(ce:List (zq Int))(bn:Int)(dz:Int)(ay:Int):List (Nat×T):=[(1,.d (.sptr (X1 x_))),(2,.own (.box (.agg [eOs 16 false F1_ ce,I bn,I dz]))),(15,.d (eSl 1 false F7_ x_.p_)),(16,.d (I ((x_.p_.length:Nat):Int))),(17,.d (I ay))]
theorem z1K (hC:zF prog ctr)(h0d:ctr.Has vY)(cm:Value):∀(x0:z0z) (x_:zl) (b_:zb) (r0:zb×Bool),wI x0 x_ b_=some r0->zgO prog 229 [.agg [],.sptr (.agg [.agg [I x_.m_.Inputs,I x_.m_.Outputs,eSl 1 false yN x_.m_.Rows],eSl 1 false F7_ x_.q_,eSl 1 false F7_ x_.p_,eSl 1 false F7_ x_.all_,eSl 1 false xh x_.each_,eSl 1 false F7_ x_.short_,eSl 1 false F7_ x_.exact_]),.atom cm] ([cm].zip [.box (.agg [eOs 16 false F1_ b_.nodes_,I b_.leaves_,I b_.most_])]) r0.2 (.iface 124 (.agg #[])) (.tup []) [.box (.agg [eOs 16 false F1_ r0.1.nodes_,I r0.1.leaves_,I r0.1.most_])]:=by
 intro x0 x_ b_ r0 aa;refine zde (tt:=yw) (nt:=48) (body:=xa) [2] zx func229 rfl (by kernel_rfl) rfl rfl (by show(3:Nat)<=48;decide) (by decide) rfl rfl rfl (λE hE hD=>?_);unfold wI at aa;obtain⟨t1,ht1,aa⟩:=zc aa;refine yL X0 hC xa [1,1,0] [] (λs=>ub x_ b_ s.1 s.2.1 s.2.2.1 s.2.2.2) (λx=>K6 x_ x.1 x.2.1 x.2.2.1 x.2.2.2) (b_.nodes_,b_.leaves_,b_.most_,0) ht1  [Ha (lnM F7_ x_.p_)] ?_;rintro⟨ce,bn,dz,ay⟩ m1 az ae hl1 J1 aw;try unfold ub at ae;rcases zI ae with⟨c0,ae⟩|⟨c0,ae⟩
 ·refine yJ X0 hC xa [1,1,0,0,1,1] [J1] [1,2,15,16,17] (λz:List (zq Int)×Int×Int=>kF ay z.1 z.2.1 z.2.2=some az) (λz=>K8 x_ ay z.1 z.2.1 z.2.2) [(1,.d (.sptr (X1 x_))),(2,.own (.box (.agg [eOs 16 false F1_ ce,I bn,I dz]))),(15,.d (eSl 1 false F7_ x_.p_)),(16,.d (I ((x_.p_.length:Nat):Int))),(17,.d (I ay))] [Hq c0,Hh (.cut 0)] ?_ λJ2 a6=>?_
  ·rintro⟨br,bj,du⟩ ae;unfold kF at ae;obtain rfl:=za ae;exact yB X0 hC aw (br,bj,du,w64 (ay+1)) hl1 []
  ·obtain⟨a8,h0,ae⟩:=zc ae;obtain⟨t3,ht3,ae⟩:=zc ae;refine yL X0 hC xa [1,1,0,0,1,1,2,0,1,1,0] [J1,J2] (λs=>ua x_ b_ a8 s.1 s.2.1 s.2.2.1 s.2.2.2) (λx=>K5 x_ ay a8 x.1 x.2.1 x.2.2.1 x.2.2.2) (ce,bn,dz,0) ht3  [Hi F7_ h0,Ha (lnM F7_ x_.short_)] ?_;rintro⟨bp,bh,cw,fg⟩ m3 dl ah hl2 J3 bk;try unfold ua at ah;rcases zI ah with⟨c1,ah⟩|⟨c1,ah⟩
   ·refine yJ X0 hC xa [1,1,0,0,1,1,2,0,1,1,0,0,1,1] [J1,J2,J3] [1,2,7,15,16,17,24,25,26] (λz:List (zq Int)×Int×Int=>kE fg z.1 z.2.1 z.2.2=some dl) (λz=>K7 x_ ay a8 fg z.1 z.2.1 z.2.2) [(1,.d (.sptr (X1 x_))),(2,.own (.box (.agg [eOs 16 false F1_ bp,I bh,I cw]))),(7,.d (eSl 1 false s8 a8)),(15,.d (eSl 1 false F7_ x_.p_)),(16,.d (I ((x_.p_.length:Nat):Int))),(17,.d (I ay)),(24,.d (eSl 1 false F7_ x_.short_)),(25,.d (I ((x_.short_.length:Nat):Int))),(26,.d (I fg))] [Hq c1,Hh (.cut 0)] ?_ λJ4 d0=>?_
    ·rintro⟨am,a7,dv⟩ ah;unfold kE at ah;obtain rfl:=za ah;exact yB X0 hC bk (am,a7,dv,w64 (fg+1)) hl2 []
    ·obtain⟨ax,h1,ah⟩:=zc ah;obtain⟨r_,h2,ah⟩:=zc ah;obtain⟨t5,ht5,ah⟩:=zc ah;refine yL X0 hC xa [1,1,0,0,1,1,2,0,1,1,0,0,1,1,2,0,1,1,0] [J1,J2,J3,J4] (λs=>wB b_ a8 ax r_ s.1 s.2.1 s.2.2.1 s.2.2.2) (λx=>K4 x_ ay a8 fg ax r_ x.1 x.2.1 x.2.2.1 x.2.2.2) (bp,bh,cw,0) ht5  [Hi F7_ h1,Hc h0d (x:=(x_,a8,ax)) h2 (loC zqD x_ <| loC F7_ a8 <| loC F7_ ax <| loN),Ha (lnM F7_ r_)] ?_;rintro⟨bq,bi,cu,ft⟩ m5 l9 av hl3 J5 dn;try unfold wB at av;rcases zI av with⟨c2,av⟩|⟨c2,av⟩
     ·obtain⟨dw,h3,av⟩:=zc av;refine yA X0 hC xa [1,1,0,0,1,1,2,0,1,1,0,0,1,1,2,0,1,1,0,0,1,1,0,0,1] [J1,J2,J3,J4,J5] [(1,.d (.sptr (X1 x_))),(2,.own (.box (.agg [eOs 16 false F1_ bq,I bi,I cu]))),(7,.d (eSl 1 false s8 a8)),(9,.d (eSl 1 false s8 ax)),(11,.d (eSl 1 false s8 dw)),(15,.d (eSl 1 false F7_ x_.p_)),(16,.d (I ((x_.p_.length:Nat):Int))),(17,.d (I ay)),(24,.d (eSl 1 false F7_ x_.short_)),(25,.d (I ((x_.short_.length:Nat):Int))),(26,.d (I fg)),(33,.d (eSl 1 false F7_ r_)),(34,.d (I ((r_.length:Nat):Int))),(35,.d (I ft))] [Hq c2,Hi F7_ h3,Hh (.stp 0)] ?_;obtain⟨aj,h4,av⟩:=zc av;rcases zI av with⟨c3,av⟩|⟨c3,av⟩
      ·obtain rfl:=za av;obtain rfl:=hl3;obtain rfl:=za ah;obtain rfl:=hl2;obtain rfl:=za ae;obtain rfl:=hl1;obtain rfl:=za aa;exact yD X0 hC 5 [2] ((wL hC cm _ _ _ h4).2 c3) [.atom cm,zfy ([a8,ax,dw]:List (List Int))] inferInstance [Hm (shM F7_ F7_ ([a8,ax,dw]))] λst0=>hD rfl st0
      ·obtain rfl:=za av;exact yB ((k8 (P:=prog) yw [2] ((wL hC cm _ _ _ h4).1 c3) 44).or X0) hC dn (aj.1.nodes_,aj.1.leaves_,aj.1.most_,w64 (ft+1)) hl3 [Hm (shM F7_ F7_ ([a8,ax,dw])),Hn (Ve (f:=.fn 219 []) (xs:=[.atom cm,xh ([a8,ax,dw]:List (List Int))]) (ls:=[(cm,.box (.agg [eOs 16 false F1_ bq,I bi,I cu]))]) (r:=.tup []) (ys:=[.box (.agg [eOs 16 false F1_ aj.1.nodes_,I aj.1.leaves_,I aj.1.most_])]) [.atom cm,zfy ([a8,ax,dw]:List (List Int))] (show z3p [.atom cm,zfy ([a8,ax,dw]:List (List Int))] [.atom cm,xh ([a8,ax,dw]:List (List Int))] from inferInstance))]
     ·obtain rfl:=za av;obtain rfl:=hl3;exact yB X0 hC d0 (bq,bi,cu) ah [Hq c2]
   ·obtain rfl:=za ah;obtain rfl:=hl2;exact yB X0 hC a6 (bp,bh,cw) ae [Hq c1]
 ·obtain rfl:=za ae;obtain rfl:=hl1;obtain rfl:=za aa;exact yF X0 hC .normal [(2,.own (.box (.agg [eOs 16 false F1_ ce,I bn,I dz])))] [Hq c0] λst0 h0=>hE rfl _ st0 (.inl rfl) (Jn h0 ⟨⟨rfl,rfl⟩,trivial⟩)
def Xl:zN:=spF (α:=zl×Nat×Int) (ρ:=Option zb×Bool) 37 (λx:zl×Nat×Int=>[zqD x.1,(eIf 77) x.2.1,s8 x.2.2]) (λr:Option zb×Bool=>.tup [(ePo z09) r.1,eB r.2]) (λx:zl×Nat×Int=>kG x.1 x.2.1 x.2.2) [] (zdJ)
theorem z92 (hC:zF prog ctr)(h0K:ctr.Has VT)(h0d:ctr.Has vY):Xl.Ok prog:=by
 have hE:∀b:zb,(A.agg [eOs 16 false F1_ b.nodes_,eI .i64 b.leaves_,eI .i64 b.most_]).live=true/\(A.agg [eOs 16 false F1_ b.nodes_,eI .i64 b.leaves_,eI .i64 b.most_]).shut=yX zyW s8 s8 b:=λb=>⟨z7V.live (f:=yX zyX s8 s8) b,z7V.sh (f:=yX zyX s8 s8) b⟩;refine zC ?_;rintro⟨x,s,most⟩ r0 aa;obtain⟨r,hr,aa⟩:=zc aa;obtain rfl:=za aa;have key:∀(T kf:Nat),(∀w,(method 392 T (.agg #[]) "gauntlet/suites.fill").run prog w=.ok (kf,.agg #[]) w)->(∀args w,(callFunc kf args).run prog w=.ok (.enter kf args) w) ->
   (∀bv,zgO prog kf [.agg [],zqD x,.atom bv] [(bv,.box (.agg [.osl 16 false [.agg (List.replicate 16 (.atom (.int .i32 0)))],.atom (.int .i64 0),.atom (.int .i64 most)]))] r.2 (.iface 124 (.agg #[])) (.tup []) [.box (.agg [eOs 16 false F1_ r.1.nodes_,eI .i64 r.1.leaves_,eI .i64 r.1.most_])]) ->
   V5 prog 37 [zqD x,.atom (.iface T (.agg #[])),.atom (.int .i64 most)] (.tup [ePo z09 (bif r.2 then none else some r.1),eB (!r.2)]):=by
  intro T kf h1 h2 h3;have q:=zgw h1 h2 rfl (hE r.1).1 (hE r.1).2 h3;refine q.le ?_;cases r.2
  ·exact(show LeV (.tup [.sptr (yX zyW s8 s8 r.1),.atom (.bool true)]) (.tup [.dop (poQ (some (yX zyW s8 s8 r.1))),.atom (.bool true)]) from inferInstance)
  ·exact(show LeV (.tup [.atom (.pointer none),.atom (.bool false)]) (.tup [.dop (poQ none),.atom (.bool false)]) from inferInstance)
 match s,hr with
 | 0,hr=>exact key 77 218 Tryz.meth77 (λ_ _=>by kernel_rfl) λbv=>z3q hC bv ⟨⟩ x _ r hr
 | 1,hr=>exact key 78 220 Tryz.meth78 (λ_ _=>by kernel_rfl) λbv=>z2h hC h0K h0d bv ⟨⟩ x _ r hr
 | 2,hr=>exact key 79 229 Tryz.meth79 (λ_ _=>by kernel_rfl) λbv=>z1K hC h0d bv ⟨⟩ x _ r hr
 | n+3,hr=>cases hr
def JC:Code:=(f112.body).getD .skip
def xy:zN:=spR (α:=List (List Int)) (ρ:=List (List Int)) 112 (λx=>[(eOs 1 false F3_) x]) (λr=>zyV r) (λx=>wn x) [true] (Q7)
theorem Ju:∀x r,(λx=>wn x) x=some r->(z3y.add xy).run 112 ((z3y.add xy).norm 112 ((λx=>[(eOs 1 false F3_) x]) x))=some ((λr=>zyV r) r):=λx r h=>zzL h rfl
theorem Jv:(z3y.add xy).lend 112=none/\(z3y.add xy).gives 112=[true]:=zss
theorem JR (hC:zF prog ctr):xy.Ok prog:=by refine zjC ?_;rintro s_ r0 aa;try unfold wn at aa;refine yO true [(2,none)] JC 9 func112 λE hE=>?_;obtain rfl:=za aa;exact yE ((xCl zx 8).or X0) hC hE [Ha (lnM F3_ s_),Ha (lnM F3_ s_),Hn (nM _:(0:Int)<=((s_.length:Nat):Int)),Hn (nM _:(0:Int)<=((s_.length:Nat):Int)),Hn (clB F3_ s_),Ha (clE 1 F3_ s_)]
def xc:Code:=(f69.body).getD .skip
def XA:zN:=spF (α:=zb) (ρ:=List (List Int)) 69 (λx=>[(eSp z09) x]) (λr=>zyV r) (λx=>vT x) [] (Q7)
abbrev z20 (out:List (List Int)):List (Nat×T):=[(2,.own (eOs 1 false F3_ out))]
abbrev z1Z (b_:zb)(ap:List (List Int))(next:List zi):List (Nat×T):=[(0,.d (.sptr (z09 b_))),(2,.own (eOs 1 false F3_ ap)),(4,.own (eOs 2 false z2f next))]
abbrev z1Y (b_:zb)(ar:List zi)(ay:Int)(fq:List (List Int))(ew:List zi):List (Nat×T):=[(0,.d (.sptr (z09 b_))),(2,.own (eOs 1 false F3_ fq)),(3,.own (eOs 2 false z2f ar)),(4,.own (eOs 2 false z2f ew)),(15,.als 3 [] 0 0),(16,.d (I ((ar.length:Nat):Int))),(17,.d (I ay))]
abbrev z1X (b_:zb)(ar:List zi)(bf:List (List Int))(ay:Int)(bm:zi)(ck:List zi)(oa:Bool):List (Nat×T):=[(0,.d (.sptr (z09 b_))),(2,.own (eOs 1 false F3_ bf)),(3,.own (eOs 2 false z2f ar)),(4,.own (eOs 2 false z2f ck)),(6,.own (.box (z2f bm))),(7,.d (B oa)),(15,.als 3 [] 0 0),(16,.d (I ((ar.length:Nat):Int))),(17,.d (I ay))]
abbrev z1W (b_:zb)(ar:List zi)(bf:List (List Int))(ay:Int)(bm:zi)(ba:zq Int)(dt:Int)(mj:List zi)(ml:Bool):List (Nat×T):=[(0,.d (.sptr (z09 b_))),(2,.own (eOs 1 false F3_ bf)),(3,.own (eOs 2 false z2f ar)),(4,.own (eOs 2 false z2f mj)),(6,.own (.box (z2f bm))),(7,.d (B ml)),(15,.als 3 [] 0 0),(16,.d (I ((ar.length:Nat):Int))),(17,.d (I ay)),(28,.d (F1_ ba)),(29,.d (I dt))]
abbrev z1T (b_:zb)(ar:List zi)(bf:List (List Int))(ay:Int)(bm:zi)(ba:zq Int)(iw:List zi)(kl:Bool)(dt:Int):List (Nat×T):=[(0,.d (.sptr (z09 b_))),(2,.own (eOs 1 false F3_ bf)),(3,.own (eOs 2 false z2f ar)),(4,.own (eOs 2 false z2f iw)),(6,.own (.box (z2f bm))),(7,.d (B kl)),(15,.als 3 [] 0 0),(16,.d (I ((ar.length:Nat):Int))),(17,.d (I ay)),(28,.d (F1_ ba)),(29,.d (I dt))]
abbrev z1U (b_:zb)(ar:List zi)(bf:List (List Int))(cn:List zi)(ay:Int):List (Nat×T):=[(0,.d (.sptr (z09 b_))),(2,.own (eOs 1 false F3_ bf)),(3,.own (eOs 2 false z2f ar)),(4,.own (eOs 2 false z2f cn)),(15,.als 3 [] 0 0),(16,.d (I ((ar.length:Nat):Int))),(17,.d (I ay))]
abbrev z1V (b_:zb)(ai:List (List Int))(ar:List zi):List (Nat×T):=[(0,.d (.sptr (z09 b_))),(2,.own (eOs 1 false F3_ ai)),(3,.own (eOs 2 false z2f ar))]
def zP:XH prog:=((QJ zx (.inl 52) [51]).or ((QJ zx (.inl 43) [42]).or ((QJ zx (.inl 11) [10]).or X0)))
theorem z4W (hC:zF prog ctr)(h01:ctr.Has yh):XA.Ok prog:=by
 refine zC ?_;rintro b_ r0 aa;try unfold vT at aa;refine yO true [(2,none)] xc 58 func69 λE hE=>?_;refine yJ zP hC xc [1,1] [] [2] (λz:List (List Int)=>kK z=some r0) (λz=>z20 z) [(0,.d (.sptr (z09 b_))),(2,.own (eOs 1 true F7_ [])),(3,.own (eOs 2 true (w8 (eI .i32) F3_) ([(zi.mk 0 [])])))] [Hm (shM s8 s8 []),Hh (.cut 0)] ?_ λJ1 aw=>?_
 ·rintro out aa;unfold kK at aa;obtain⟨r_,h0,aa⟩:=zc aa;obtain rfl:=za aa;exact yE ((zcm zx (JR hC) 57).or zP) hC hE [Hh (.g [true]),Hn Jv,Hx (.a (zyV r_)) (Ju out _ h0)]
 ·obtain⟨t2,ht2,aa⟩:=zc aa;refine yLx zP hC xc [1,1,2,0] [J1] (λs=>kH b_ s.1 s.2) (λx=>z1V b_ x.1 x.2) (([]:List (List Int)),([(zi.mk 0 [])]:List zi)) ht2 [(0,.d (.sptr (z09 b_))),(2,.own (eOs 1 true F3_ [])),(3,.own (eOs 2 true (w8 (eI .i32) F3_) ([(zi.mk 0 [])])))] inferInstance [] ?_;rintro⟨ai,ar⟩ m2 az ae hl1 J2 a6;try unfold kH at ae
  let Z0:List HO:=[Ha (lnM z2f ar)];rcases zI ae with⟨c0,ae⟩|⟨c0,ae⟩
  ·refine yJ zP hC xc [1,1,2,0,0,1,0,1] [J1,J2] [0,2,4] (λz:List (List Int)×List zi=>kJ z.1 z.2=some az) (λz=>z1Z b_ z.1 z.2) [(0,.d (.sptr (z09 b_))),(2,.own (eOs 1 false F3_ ai)),(3,.own (eOs 2 false z2f ar)),(4,.own (eOs 2 true z2f []))] (Z0++[Hq c0,Hh (.cut 1)]) ?_ λJ3 bk=>?_
   ·rintro⟨ap,next⟩ ae;unfold kJ at ae;obtain rfl:=za ae;exact yB zP hC a6 (ap,next) hl1 []
   ·obtain⟨t4,ht4,ae⟩:=zc ae;refine yLx zP hC xc [1,1,2,0,0,1,0,1,2,1,0] [J1,J2,J3] (λs=>yZ b_ ar s.1 s.2.1 s.2.2) (λx=>z1U b_ ar x.1 x.2.1 x.2.2) (ai,([]:List zi),0) ht4 [(0,.d (.sptr (z09 b_))),(2,.own (eOs 1 false F3_ ai)),(3,.own (eOs 2 false z2f ar)),(4,.own (eOs 2 true z2f [])),(15,.als 3 [] 0 0),(16,.d (I ((ar.length:Nat):Int))),(17,.d (I 0))] inferInstance [Ha (lnM z2f ar)] ?_;rintro⟨bf,cn,ay⟩ m4 dl ah hl2 J4 d0;try unfold yZ at ah;rcases zI ah with⟨c1,ah⟩|⟨c1,ah⟩
    ·refine yJ zP hC xc [1,1,2,0,0,1,0,1,2,1,0,0,1,1] [J1,J2,J3,J4] [0,2,3,4,15,16,17] (λz:List (List Int)×List zi=>uC ay z.1 z.2=some dl) (λz=>z1Y b_ ar ay z.1 z.2) [(0,.d (.sptr (z09 b_))),(2,.own (eOs 1 false F3_ bf)),(3,.own (eOs 2 false z2f ar)),(4,.own (eOs 2 false z2f cn)),(15,.als 3 [] 0 0),(16,.d (I ((ar.length:Nat):Int))),(17,.d (I ay))] [Hq c1,Hh (.cut 0)] ?_ λJ5 dn=>?_
     ·rintro⟨fq,ew⟩ ah;unfold uC at ah;obtain rfl:=za ah;exact yB zP hC d0 (fq,ew,w64 (ay+1)) hl2 []
     ·obtain⟨bm,h1,ah⟩:=zc ah;refine yJ zP hC xc [1,1,2,0,0,1,0,1,2,1,0,0,1,1,2,0,1,1] [J1,J2,J3,J4,J5] [0,2,3,4,6,7,15,16,17] (λz:List zi×Bool=>kI bf ay bm z.1 z.2=some dl) (λz=>z1X b_ ar bf ay bm z.1 z.2) [(0,.d (.sptr (z09 b_))),(2,.own (eOs 1 false F3_ bf)),(3,.own (eOs 2 false z2f ar)),(4,.own (eOs 2 false z2f cn)),(6,.own (.box (z2f bm))),(7,.d (B true)),(15,.als 3 [] 0 0),(16,.d (I ((ar.length:Nat):Int))),(17,.d (I ay))] [Hn (iL z2f h1),Hs (iM z2f h1),Hh (.cut 1)] ?_ λJ6 fp=>?_
      ·rintro⟨ck,oa⟩ ah;unfold kI at ah;rcases zI ah with⟨c2,ah⟩|⟨c2,ah⟩
       ·obtain⟨aj,h2,ah⟩:=zc ah;obtain⟨g0,ah⟩:=gdE ah;exact yB zP hC dn ((bf++([aj]:List (List Int))),ck) ah [Hq c2,Hc h01 (x:=bm.w_) h2 (loC F7_ bm.w_ <| loN),Hq (dM F3_ ([aj]:List (List Int))),Hn (dM F3_ ([aj]:List (List Int))),Hn (aL F3_ F3_ g0),Hl (aM F3_ bf ([aj]:List (List Int)))]
       ·exact yB zP hC dn (bf,ck) ah [Hq c2]
      ·obtain⟨ba,h3,ah⟩:=zc ah;obtain⟨t7,ht7,ah⟩:=zc ah;refine yL zP hC xc [1,1,2,0,0,1,0,1,2,1,0,0,1,1,2,0,1,1,2,1,0] [J1,J2,J3,J4,J5,J6] (λs=>yY bm ba s.1 s.2.1 s.2.2) (λx=>z1T b_ ar bf ay bm ba x.1 x.2.1 x.2.2) (cn,true,0) ht7  [Hi F1_ h3] ?_;rintro⟨iw,kl,dt⟩ m7 l9 av hl3 J7 jk;try unfold yY at av;rcases zI av with⟨c3,av⟩|⟨c3,av⟩
       ·refine yJ zP hC xc [1,1,2,0,0,1,0,1,2,1,0,0,1,1,2,0,1,1,2,1,0,0,1,1] [J1,J2,J3,J4,J5,J6,J7] [0,2,3,4,6,7,15,16,17,28,29] (λz:List zi×Bool=>uB dt z.1 z.2=some l9) (λz=>z1W b_ ar bf ay bm ba dt z.1 z.2) [(0,.d (.sptr (z09 b_))),(2,.own (eOs 1 false F3_ bf)),(3,.own (eOs 2 false z2f ar)),(4,.own (eOs 2 false z2f iw)),(6,.own (.box (z2f bm))),(7,.d (B kl)),(15,.als 3 [] 0 0),(16,.d (I ((ar.length:Nat):Int))),(17,.d (I ay)),(28,.d (F1_ ba)),(29,.d (I dt))] [Hq c3,Hh (.cut 0)] ?_ λJ8 lw=>?_
        ·rintro⟨mj,ml⟩ av;unfold uB at av;obtain rfl:=za av;exact yB zP hC jk (mj,ml,w64 (dt+1)) hl3 []
        ·obtain⟨cell,h4,av⟩:=zc av;let Z1:List HO:=[Hs (iM (eI .i32) h4),Hn (ixV (k:=.i32) (tt:=yw) (e:=21) (l:=([ba.e0,ba.e1,ba.e2,ba.e3,ba.e4,ba.e5,ba.e6,ba.e7,ba.e8,ba.e9,ba.e10,ba.e11,ba.e12,ba.e13,ba.e14,ba.e15]:List Int)) (λ_=>by kernel_rfl) h4 (m:=16) rfl)];rcases zI av with⟨c4,av⟩|⟨c4,av⟩
         ·obtain⟨ak,h5,av⟩:=zc av;obtain⟨g1,av⟩:=gdE av;obtain⟨g2,av⟩:=gdE av;exact yB ((zAD zx 32).or zP) hC lw ((iw++([(zi.mk cell (ak++([dt]:List Int)))]:List zi)),false) av (Z1++[Hq c4,Hc h01 (x:=bm.w_) h5 (loC F7_ bm.w_ <| loN),Hq (dM s8 ([dt]:List Int)),Hn (dM s8 ([dt]:List Int)),Hn (aN s8 s8 g1 (by simp)),Hl (aM s8 ak ([dt]:List Int)),Hm (shM s8 s8 (ak++([dt]:List Int))),Hq (dM z2f ([(zi.mk cell (ak++([dt]:List Int)))]:List zi)),Hn (dM z2f ([(zi.mk cell (ak++([dt]:List Int)))]:List zi)),Hn (aL z2f z2f g2),Hl (aM z2f iw ([(zi.mk cell (ak++([dt]:List Int)))]:List zi))])
         ·exact yB ((zAD zx 32).or zP) hC lw (iw,kl) av (Z1++[Hq c4])
       ·obtain rfl:=za av;obtain rfl:=hl3;exact yB zP hC fp (iw,kl) ah [Hq c3]
    ·obtain rfl:=za ah;obtain rfl:=hl2;exact yB zP hC bk (bf,cn) ae [Hq c1]
  ·obtain rfl:=za ae;obtain rfl:=hl1;exact yB zP hC aw ai aa (Z0++[Hq c0])
def zag:Code:=(f35.body).getD .skip
def Y4:zN:=spF (α:=Nat×z6×Int×Int) (ρ:=List (List Int)×Int) 35 (λx=>[(eIf 77) x.1,zO x.2.1,s8 x.2.2.1,s8 x.2.2.2]) (λr=>.tup [Us r.1,s8 r.2]) (λx=>vn x.1 x.2.1 x.2.2.1 x.2.2.2) [] (zzG)
theorem zb1 (hC:zF prog ctr)(h0L:ctr.Has Wa)(h0M:ctr.Has YC)(h0N:ctr.Has Xl)(h2b:ctr.Has XA)(h0t:ctr.Has VU):Y4.Ok prog:=by
 refine zC ?_;rintro⟨s_,m_,bound,ee⟩ r0 aa;try unfold vn at aa;refine yO false [(8,none),(9,none)] zag 56 func35 λE hE=>?_;obtain⟨r_,h0,aa⟩:=zc aa
 let Z0:List HO:=[Hc h0L (x:=(m_,bound)) h0 (loC zO m_ <| loC s8 bound <| loN)];rcases zI aa with⟨c0,aa⟩|⟨c0,aa⟩
 ·obtain rfl:=za aa;exact yEx X0 hC hE (Z0++[Hq c0,Hm (shM F7_ F7_ [])]) (.tup [eSl 1 true F3_ [],I r_]) (show LeV (.tup [eSl 1 true F3_ [],I r_]) (.tup [eSl 1 true F3_ ([]:List (List Int)),I r_]) from inferInstance)
 ·rcases zI aa with⟨c1,aa⟩|⟨c1,aa⟩
  ·obtain rfl:=za aa;exact yEx X0 hC hE (Z0++[Hq c0,Hq c1,Hq c1,Hq c1,qT,Hm (shM F7_ F7_ [])]) (.tup [eSl 1 true F3_ [],I 1]) (show LeV (.tup [eSl 1 true F3_ [],I 1]) (.tup [eSl 1 true F3_ ([]:List (List Int)),I 1]) from inferInstance)
  ·let Z1:List HO:=(Z0++[Hq c0,Hq c1,Hq c1,Hq c1]);rcases zI aa with⟨c2,aa⟩|⟨c2,aa⟩
   ·obtain rfl:=za aa;exact yEx X0 hC hE (Z1++[Hq c2,Hm (shM F7_ F7_ [])]) (.tup [eSl 1 true F3_ [],I 1]) (show LeV (.tup [eSl 1 true F3_ [],I 1]) (.tup [eSl 1 true F3_ ([]:List (List Int)),I 1]) from inferInstance)
   ·obtain⟨aj,h1,aa⟩:=zc aa;let Z2:List HO:=(Z1++[Hq c2,Hc h0M (x:=(m_,bound)) h1 (loC zO m_ <| loC s8 bound <| loN),Hn (rfl:T.d (ePo X1 aj.1)=T.d (ePo X1 aj.1))]);rcases zI aa with⟨c3,aa⟩|⟨c3,aa⟩
    ·obtain rfl:=za aa;exact yEx ((xRe prog 11 (ePo X1 aj.1) (ePo X1 aj.1) (λ_ _ q=>q)).or X0) hC hE (Z2++[Hq c3,Hm (shM F7_ F7_ [])]) (.tup [eSl 1 true F3_ [],I 13]) (show LeV (.tup [eSl 1 true F3_ [],I 13]) (.tup [eSl 1 true F3_ ([]:List (List Int)),I 13]) from inferInstance)
    ·obtain⟨there,h2,aa⟩:=zc aa;obtain⟨ak,h3,aa⟩:=zc aa;let Z3:List HO:=(Z2++[Hq c3,Hn (rfl:T.d (ePo X1 aj.1)=T.d (ePo X1 aj.1)),Hc h0N (x:=(there,s_,ee)) h3 (loC zqD there <| loC (eIf 77) s_ <| loC s8 ee <| loN),Hn (rfl:T.d (ePo z09 ak.1)=T.d (ePo z09 ak.1))]);rcases zI aa with⟨c4,aa⟩|⟨c4,aa⟩
     ·obtain rfl:=za aa;exact yEx ((xRe prog 13 (ePo z09 ak.1) (ePo z09 ak.1) (λ_ _ q=>q)).or ((xRe prog 38 (ePo X1 aj.1) (.sptr (.agg [.agg [I there.m_.Inputs,I there.m_.Outputs,eSl 1 false yN there.m_.Rows],eSl 1 false F7_ there.q_,eSl 1 false F7_ there.p_,eSl 1 false F7_ there.all_,eSl 1 false xh there.each_,eSl 1 false F7_ there.short_,eSl 1 false F7_ there.exact_])) (poM (f:=X1) h2)).or ((xRe prog 11 (ePo X1 aj.1) (ePo X1 aj.1) (λ_ _ q=>q)).or X0))) hC hE (Z3++[Hq c4,Hm (shM F7_ F7_ [])]) (.tup [eSl 1 true F3_ [],I 13]) (show LeV (.tup [eSl 1 true F3_ [],I 13]) (.tup [eSl 1 true F3_ ([]:List (List Int)),I 13]) from inferInstance)
     ·obtain⟨da,h4,aa⟩:=zc aa;obtain⟨au,h5,aa⟩:=zc aa;obtain⟨ca,h6,aa⟩:=zc aa;let Z4:List HO:=(Z3++[Hq c4,Hn (rfl:T.d (ePo z09 ak.1)=T.d (ePo z09 ak.1)),Hc h2b (x:=da) h5 (loC (eSp z09) da <| loN),Hg (JO h0t),Hm (shM F3_ F3_ au),Hs (JP h0t (x:=(au,m_.Inputs)) h6 (loC Us au <| loC s8 m_.Inputs <| loN))]);rcases zI aa with⟨c5,aa⟩|⟨c5,aa⟩
      ·obtain rfl:=za aa;exact yEx ((xRe prog 46 (ePo z09 ak.1) (.sptr (.agg [eSl 16 false F1_ da.nodes_,I da.leaves_,I da.most_])) (poM (f:=z09) h4)).or ((xRe prog 13 (ePo z09 ak.1) (ePo z09 ak.1) (λ_ _ q=>q)).or ((xRe prog 38 (ePo X1 aj.1) (.sptr (.agg [.agg [I there.m_.Inputs,I there.m_.Outputs,eSl 1 false yN there.m_.Rows],eSl 1 false F7_ there.q_,eSl 1 false F7_ there.p_,eSl 1 false F7_ there.all_,eSl 1 false xh there.each_,eSl 1 false F7_ there.short_,eSl 1 false F7_ there.exact_])) (poM (f:=X1) h2)).or ((xRe prog 11 (ePo X1 aj.1) (ePo X1 aj.1) (λ_ _ q=>q)).or X0)))) hC hE (Z4++[Hq c5,Hm (shM F7_ F7_ [])]) (.tup [eSl 1 true F3_ [],I ca]) (show LeV (.tup [eSl 1 true F3_ [],I ca]) (.tup [eSl 1 true F3_ ([]:List (List Int)),I ca]) from inferInstance)
      ·obtain rfl:=za aa;exact yE ((xRe prog 46 (ePo z09 ak.1) (.sptr (.agg [eSl 16 false F1_ da.nodes_,I da.leaves_,I da.most_])) (poM (f:=z09) h4)).or ((xRe prog 13 (ePo z09 ak.1) (ePo z09 ak.1) (λ_ _ q=>q)).or ((xRe prog 38 (ePo X1 aj.1) (.sptr (.agg [.agg [I there.m_.Inputs,I there.m_.Outputs,eSl 1 false yN there.m_.Rows],eSl 1 false F7_ there.q_,eSl 1 false F7_ there.p_,eSl 1 false F7_ there.all_,eSl 1 false xh there.each_,eSl 1 false F7_ there.short_,eSl 1 false F7_ there.exact_])) (poM (f:=X1) h2)).or ((xRe prog 11 (ePo X1 aj.1) (ePo X1 aj.1) (λ_ _ q=>q)).or X0)))) hC hE (Z4++[Hq c5,Hm (shM F3_ F3_ au)])
def zgI:Code:=(Tryz.f10.body).getD .skip
def z0O:zN:=spF (α:=z6×Int×Int) (ρ:=List (List Int)×Int) 10 (λx=>[zO x.1,s8 x.2.1,s8 x.2.2]) (λr=>.tup [Us r.1,s8 r.2]) (λx=>Qd x.1 x.2.1 x.2.2) [] (zdJ)
theorem zia (hC:zF prog ctr)(h0n:ctr.Has Y4):z0O.Ok prog:=by refine zC ?_;rintro⟨m_,bound,ee⟩ r0 aa;try unfold Qd at aa;refine yO false [(6,none),(7,none)] zgI 16 func10 λE hE=>?_;obtain⟨r_,h0,aa⟩:=zc aa;obtain rfl:=za aa;exact yE ((zqI prog 9 77 underlying77).or X0) hC hE [Hc h0n (x:=(0,m_,bound,ee)) h0 (loC (eIf 77) 0 <| loC zO m_ <| loC s8 bound <| loC s8 ee <| loN)]
def zfn:Code:=(Tryz.f11.body).getD .skip
def Ki:zN:=spF (α:=z6×Int×Int) (ρ:=List (List Int)×Int) 11 (λx=>[zO x.1,s8 x.2.1,s8 x.2.2]) (λr=>.tup [Us r.1,s8 r.2]) (λx=>z0d x.1 x.2.1 x.2.2) [] (zdJ)
theorem zfG (hC:zF prog ctr)(h0n:ctr.Has Y4):Ki.Ok prog:=by refine zC ?_;rintro⟨m_,bound,ee⟩ r0 aa;try unfold z0d at aa;refine yO false [(6,none),(7,none)] zfn 16 func11 λE hE=>?_;obtain⟨r_,h0,aa⟩:=zc aa;obtain rfl:=za aa;exact yE ((zqI prog 9 78 underlying78).or X0) hC hE [Hc h0n (x:=(1,m_,bound,ee)) h0 (loC (eIf 77) 1 <| loC zO m_ <| loC s8 bound <| loC s8 ee <| loN)]
def zdt:Code:=(Tryz.f12.body).getD .skip
def Qh:zN:=spF (α:=z6×Int×Int) (ρ:=List (List Int)×Int) 12 (λx=>[zO x.1,s8 x.2.1,s8 x.2.2]) (λr=>.tup [Us r.1,s8 r.2]) (λx=>QE x.1 x.2.1 x.2.2) [] (zdJ)
theorem zdO (hC:zF prog ctr)(h0n:ctr.Has Y4):Qh.Ok prog:=by refine zC ?_;rintro⟨m_,bound,ee⟩ r0 aa;try unfold QE at aa;refine yO false [(6,none),(7,none)] zdt 16 func12 λE hE=>?_;obtain⟨r_,h0,aa⟩:=zc aa;obtain rfl:=za aa;exact yE ((zqI prog 9 79 underlying79).or X0) hC hE [Hc h0n (x:=(2,m_,bound,ee)) h0 (loC (eIf 77) 2 <| loC zO m_ <| loC s8 bound <| loC s8 ee <| loN)]
def JB:Code:=(f13.body).getD .skip
def W9:zN:=spF (α:=z6×Int) (ρ:=Q9 Int×Int) 13 (λx=>[zO x.1,s8 x.2]) (λr=>.tup [(zsA s8) r.1,s8 r.2]) (λx=>XP x.1 x.2) [] (W2)
abbrev z5O (n_:Q9 Int):List (Nat×T):=[(4,.own (.box ((zsA s8) n_)))]
abbrev z5N (aj:Option zl×Int)(dp:Q9 Int)(i8:Int):List (Nat×T):=[(4,.own (.box ((zsA s8) dp))),(7,.d (ePo X1 aj.1)),(34,.own (eOs 1 true (eIf 77) ([0,1,2]))),(35,.d (I ((([0,1,2]:List Nat).length:Nat):Int))),(36,.d (I i8))]
theorem zb2 (hC:zF prog ctr)(h0L:ctr.Has Wa)(h0M:ctr.Has YC)(h0N:ctr.Has Xl):W9.Ok prog:=by
 refine zC ?_;rintro⟨m_,bound⟩ r0 aa;try unfold XP at aa;refine yO false [(4,some 36),(5,none)] JB 59 func13 λE hE=>?_;obtain⟨r_,h0,aa⟩:=zc aa
 let Z0:List HO:=[Hc h0L (x:=(m_,bound)) h0 (loC zO m_ <| loC s8 bound <| loN)];rcases zI aa with⟨c0,aa⟩|⟨c0,aa⟩
 ·obtain rfl:=za aa;exact yE X0 hC hE (Z0++[Hq c0])
 ·obtain⟨aj,h1,aa⟩:=zc aa;let Z1:List HO:=(Z0++[Hq c0,Hc h0M (x:=(m_,bound)) h1 (loC zO m_ <| loC s8 bound <| loN),Hn (rfl:T.d (ePo X1 aj.1)=T.d (ePo X1 aj.1))]);rcases zI aa with⟨c1,aa⟩|⟨c1,aa⟩
  ·obtain rfl:=za aa;exact yE ((xRe prog 7 (ePo X1 aj.1) (ePo X1 aj.1) (λ_ _ q=>q)).or X0) hC hE (Z1++[Hq c1])
  ·refine yJ ((xRe prog 7 (ePo X1 aj.1) (ePo X1 aj.1) (λ_ _ q=>q)).or X0) hC JB [1,1,1,1] [] [4] (λz:Q9 Int=>W8 z=some r0) (λz=>z5O z) [(4,.own (.box (.agg [I 0,I 0,I 0]))),(7,.d (ePo X1 aj.1))] (Z1++[Hq c1,Hh (.cut 0)]) ?_ λJ1 aw=>?_
   ·rintro n_ aa;unfold W8 at aa;obtain rfl:=za aa;exact yE X0 hC hE []
   ·obtain⟨t2,ht2,aa⟩:=zc aa;refine yL ((zqI prog 33 79 underlying79).or ((zqI prog 31 78 underlying78).or ((zqI prog 29 77 underlying77).or X0))) hC JB [1,1,1,1,2,1,0] [J1] (λs=>jI aj s.1 s.2) (λx=>z5N aj x.1 x.2) ((Q9.mk 0 0 0),0) ht2  [Ha (lnM (eIf 77) ([0,1,2]:List Nat))] ?_;rintro⟨dp,i8⟩ m2 az ae hl1 J2 a6;try unfold jI at ae;rcases zI ae with⟨c2,ae⟩|⟨c2,ae⟩
    ·obtain⟨my,h2,ae⟩:=zc ae;obtain⟨there,h3,ae⟩:=zc ae;obtain⟨ak,h4,ae⟩:=zc ae;let Z2:List HO:=[Hq c2,Hn (iL (eIf 77) h2),Hs (iM (eIf 77) h2),Hn (rfl:T.d (ePo X1 aj.1)=T.d (ePo X1 aj.1)),Hc h0N (x:=(there,my,4096)) h4 (loC zqD there <| loC (eIf 77) my <| loC s8 4096 <| loN),Hn (rfl:T.d (ePo z09 ak.1)=T.d (ePo z09 ak.1))];rcases zI ae with⟨c3,ae⟩|⟨c3,ae⟩
     ·obtain rfl:=za ae;obtain rfl:=hl1;obtain rfl:=za aa;exact yE ((xRe prog 10 (ePo z09 ak.1) (ePo z09 ak.1) (λ_ _ q=>q)).or ((xRe prog 42 (ePo X1 aj.1) (.sptr (.agg [.agg [I there.m_.Inputs,I there.m_.Outputs,eSl 1 false yN there.m_.Rows],eSl 1 false F7_ there.q_,eSl 1 false F7_ there.p_,eSl 1 false F7_ there.all_,eSl 1 false xh there.each_,eSl 1 false F7_ there.short_,eSl 1 false F7_ there.exact_])) (poM (f:=X1) h3)).or X0)) hC hE (Z2++[Hq c3])
     ·obtain⟨da,h5,ae⟩:=zc ae;obtain⟨cell,h6,ae⟩:=zc ae;obtain⟨arr,h7,ae⟩:=zc ae;replace h7:=za h7;obtain rfl:=za ae;exact yB ((xRe prog 51 (ePo z09 ak.1) (.sptr (.agg [eSl 16 false F1_ da.nodes_,I da.leaves_,I da.most_])) (poM (f:=z09) h5)).or ((xRe prog 10 (ePo z09 ak.1) (ePo z09 ak.1) (λ_ _ q=>q)).or ((xRe prog 42 (ePo X1 aj.1) (.sptr (.agg [.agg [I there.m_.Inputs,I there.m_.Outputs,eSl 1 false yN there.m_.Rows],eSl 1 false F7_ there.q_,eSl 1 false F7_ there.p_,eSl 1 false F7_ there.all_,eSl 1 false xh there.each_,eSl 1 false F7_ there.short_,eSl 1 false F7_ there.exact_])) (poM (f:=X1) h3)).or X0))) hC a6 (arr,w64 (i8+1)) hl1 (Z2++[Hq c3,Hn (rfl:T.d (ePo z09 ak.1)=T.d (ePo z09 ak.1)),Hn (⟨arJ (by kernel_rfl) (i0 h6),(iL s8 h6).2⟩:XI yw 36 ((Q9.toL dp).map s8) i8=true/\i8.toNat<((Q9.toL dp).map s8).length),Hh (.op 7),Hh (.f),Hs (iM s8 h6),Hh (.f),Hs (iM s8 h6),Hx (.l ((Q9.toL arr).map s8)) ((Q9.setL s8 dp i8 (mx da.leaves_ 1)).trans (congrArg (λq=>(Q9.toL q).map s8) h7))])
    ·obtain rfl:=za ae;obtain rfl:=hl1;exact yB X0 hC aw dp aa [Hq c2]
def uu:Code:=(Tryz.f48.body).getD .skip
def VX:zN:=spF (α:=Int×Int) (ρ:=List (List Int)) 48 (λx=>[s8 x.1,s8 x.2]) (λr=>(eOs 1 false F6_) r) (λx=>XD x.1 x.2) [] (W2)
abbrev z7o (out:List (List Int)):List (Nat×T):=[(5,.own (eOs 1 false F6_ out))]
abbrev z7n (inputs:Int)(k_:Int)(n_:Int)(ap:List (List Int)):List (Nat×T):=[(0,.d (I inputs)),(1,.d (I k_)),(5,.own (eOs 1 false F6_ ap)),(6,.d (I n_))]
abbrev z7m (inputs:Int)(k_:Int)(n_:Int)(next:List (List Int)):List (Nat×T):=[(0,.d (I inputs)),(1,.d (I k_)),(6,.d (I n_)),(7,.own (eOs 1 false F6_ next))]
abbrev z7l (inputs:Int)(k_:Int)(ai:List (List Int))(n_:Int)(i_:Int)(ew:List (List Int)):List (Nat×T):=[(0,.d (I inputs)),(1,.d (I k_)),(5,.own (eOs 1 false F6_ ai)),(6,.d (I n_)),(7,.own (eOs 1 false F6_ ew)),(8,.d (I i_))]
abbrev z7i (inputs:Int)(k_:Int)(ai:List (List Int))(n_:Int)(i_:Int)(ck:List (List Int))(s_:Int):List (Nat×T):=[(0,.d (I inputs)),(1,.d (I k_)),(5,.own (eOs 1 false F6_ ai)),(6,.d (I n_)),(7,.own (eOs 1 false F6_ ck)),(8,.d (I i_)),(9,.d (I s_))]
abbrev z7j (inputs:Int)(k_:Int)(ai:List (List Int))(n_:Int)(cn:List (List Int))(i_:Int):List (Nat×T):=[(0,.d (I inputs)),(1,.d (I k_)),(5,.own (eOs 1 false F6_ ai)),(6,.d (I n_)),(7,.own (eOs 1 false F6_ cn)),(8,.d (I i_))]
abbrev z7k (inputs:Int)(k_:Int)(ai:List (List Int))(n_:Int):List (Nat×T):=[(0,.d (I inputs)),(1,.d (I k_)),(5,.own (eOs 1 false F6_ ai)),(6,.d (I n_))]
theorem zcB (hC:zF prog ctr):VX.Ok prog:=by
 refine zC ?_;rintro⟨inputs,k_⟩ r0 aa;try unfold XD at aa;refine yO true [(4,none)] uu 42 func48 λE hE=>?_;refine yJ X0 hC uu [1,1] [] [5] (λz:List (List Int)=>KQ z=some r0) (λz=>z7o z) [(0,.d (I inputs)),(1,.d (I k_)),(5,.own (eOs 1 true F4_ ([[]])))] [Hh (.cut 2)] ?_ λJ1 aw=>?_
 ·rintro out aa;unfold KQ at aa;obtain rfl:=za aa;exact yE X0 hC hE []
 ·obtain⟨t2,ht2,aa⟩:=zc aa;refine yLx X0 hC uu [1,1,2,1,0] [J1] (λs=>uq inputs k_ s.1 s.2) (λx=>z7k inputs k_ x.1 x.2) (([[]]:List (List Int)),0) ht2 [(0,.d (I inputs)),(1,.d (I k_)),(5,.own (eOs 1 true F4_ ([[]]))),(6,.d (I 0))] inferInstance [] ?_;rintro⟨ai,n_⟩ m2 az ae hl1 J2 a6;try unfold uq at ae;rcases zI ae with⟨c0,ae⟩|⟨c0,ae⟩
  ·refine yJ X0 hC uu [1,1,2,1,0,0,1] [J1,J2] [0,1,5,6] (λz:List (List Int)=>Uh n_ z=some az) (λz=>z7n inputs k_ n_ z) [(0,.d (I inputs)),(1,.d (I k_)),(5,.own (eOs 1 false F6_ ai)),(6,.d (I n_))] [Hq c0,Hh (.cut 0)] ?_ λJ3 bk=>?_
   ·rintro ap ae;unfold Uh at ae;obtain rfl:=za ae;exact yB X0 hC a6 (ap,w64 (n_+1)) hl1 []
   ·refine yJ X0 hC uu [1,1,2,1,0,0,1,2,0,1] [J1,J2,J3] [0,1,6,7] (λz:List (List Int)=>Ug n_ z=some az) (λz=>z7m inputs k_ n_ z) [(0,.d (I inputs)),(1,.d (I k_)),(5,.own (eOs 1 false F6_ ai)),(6,.d (I n_)),(7,.own (eOs 1 true F7_ []))] [Hh (.cut 1)] ?_ λJ4 d0=>?_
    ·rintro next ae
     unfold Ug at ae;exact yB X0 hC bk next ae []
    ·obtain⟨t5,ht5,ae⟩:=zc ae;refine yLx X0 hC uu [1,1,2,1,0,0,1,2,0,1,2,1,0] [J1,J2,J3,J4] (λs=>vg inputs ai s.1 s.2) (λx=>z7j inputs k_ ai n_ x.1 x.2) (([]:List (List Int)),0) ht5 [(0,.d (I inputs)),(1,.d (I k_)),(5,.own (eOs 1 false F6_ ai)),(6,.d (I n_)),(7,.own (eOs 1 true F6_ [])),(8,.d (I 0))] inferInstance [] ?_;rintro⟨cn,i_⟩ m5 dl ah hl2 J5 dn;try unfold vg at ah
     let Z0:List HO:=[Ha (lnM F6_ ai)];rcases zI ah with⟨c1,ah⟩|⟨c1,ah⟩
     ·refine yJ X0 hC uu [1,1,2,1,0,0,1,2,0,1,2,1,0,0,1] [J1,J2,J3,J4,J5] [0,1,5,6,7,8] (λz:List (List Int)=>Uf i_ z=some dl) (λz=>z7l inputs k_ ai n_ i_ z) [(0,.d (I inputs)),(1,.d (I k_)),(5,.own (eOs 1 false F6_ ai)),(6,.d (I n_)),(7,.own (eOs 1 false F6_ cn)),(8,.d (I i_))] (Z0++[Hq c1,Hh (.cut 0)]) ?_ λJ6 fp=>?_
      ·rintro ew ah;unfold Uf at ah;obtain rfl:=za ah;exact yB X0 hC dn (ew,w64 (i_+1)) hl2 []
      ·obtain⟨t7,ht7,ah⟩:=zc ah;refine yL X0 hC uu [1,1,2,1,0,0,1,2,0,1,2,1,0,0,1,2,0,1,0] [J1,J2,J3,J4,J5,J6] (λs=>ve inputs ai i_ s.1 s.2) (λx=>z7i inputs k_ ai n_ i_ x.1 x.2) (cn,0) ht7  [] ?_;rintro⟨ck,s_⟩ m7 l9 av hl3 J7 jk;try unfold ve at av;rcases zI av with⟨c2,av⟩|⟨c2,av⟩
       ·obtain⟨co,h0,av⟩:=zc av;obtain⟨g0,av⟩:=gdE av;obtain⟨g1,av⟩:=gdE av;obtain⟨g2,av⟩:=gdE av;obtain rfl:=za av;exact yB X0 hC jk ((ck++([(co++([s_]:List Int))]:List (List Int))),w64 (s_+1)) hl3 [Hq c2,Hn (iL F6_ h0),Hs (iM F6_ h0),Hs (iM F6_ h0),Hq (dM s8 co),Hs (iM F6_ h0),Hn (dM s8 co),Hn (aL s8 s8 g0),Hl (aM0 s8 co),Hq (dM s8 ([s_]:List Int)),Hn (dM s8 ([s_]:List Int)),Hn (aL s8 s8 g1),Hl (aM s8 co ([s_]:List Int)),Hq (oC F6_ (co++([s_]:List Int)) []),Hn (aL F6_ F6_ g2),Hl (aM F6_ ck ([(co++([s_]:List Int))]:List (List Int)))]
       ·obtain rfl:=za av;obtain rfl:=hl3;exact yB X0 hC fp ck ah [Hq c2]
     ·obtain rfl:=za ah;obtain rfl:=hl2;exact yB X0 hC d0 cn ae (Z0++[Hq c1])
  ·obtain rfl:=za ae;obtain rfl:=hl1;exact yB X0 hC aw ai aa [Hq c0]
def z1r:Code:=(f39.body).getD .skip
def YE:zN:=spF (α:=Int×Int) (ρ:=List (List Int)) 39 (λx=>[s8 x.1,s8 x.2]) (λr=>z4S r) (λx=>Zr x.1 x.2) [] (W2)
abbrev z8q (out:List (List Int)):List (Nat×T):=[(5,.own (eOs 1 false F7_ out))]
abbrev z8p (inputs:Int)(k_:Int)(ai:List (List Int))(n_:Int):List (Nat×T):=[(0,.d (I inputs)),(1,.d (I k_)),(5,.own (eOs 1 false F7_ ai)),(6,.d (I n_))]
def UM:XH prog:=((QJ zx (.inl 16) [15]).or X0)
theorem zdQ (hC:zF prog ctr)(h0O:ctr.Has VX):YE.Ok prog:=by
 refine zC ?_;rintro⟨inputs,k_⟩ r0 aa;try unfold Zr at aa;refine yO true [(4,none)] z1r 18 func39 λE hE=>?_;refine yJ UM hC z1r [1,1] [] [5] (λz:List (List Int)=>z13 z=some r0) (λz=>z8q z) [(0,.d (I inputs)),(1,.d (I k_)),(5,.own (eOs 1 true F7_ []))] [Hh (.cut 2)] ?_ λJ1 aw=>?_
 ·rintro out aa;unfold z13 at aa;obtain rfl:=za aa;exact yE UM hC hE []
 ·obtain⟨t2,ht2,aa⟩:=zc aa;refine yLx UM hC z1r [1,1,2,1,0] [J1] (λs=>qE inputs k_ s.1 s.2) (λx=>z8p inputs k_ x.1 x.2) (([]:List (List Int)),0) ht2 [(0,.d (I inputs)),(1,.d (I k_)),(5,.own (eOs 1 true F7_ [])),(6,.d (I 0))] inferInstance [] ?_;rintro⟨ai,n_⟩ m2 az ae hl1 J2 a6;try unfold qE at ae;rcases zI ae with⟨c0,ae⟩|⟨c0,ae⟩
  ·obtain⟨r_,h0,ae⟩:=zc ae;obtain⟨g0,ae⟩:=gdE ae;obtain rfl:=za ae;exact yB UM hC a6 ((ai++r_),w64 (n_+1)) hl1 [Hq c0,Hc h0O (x:=(inputs,n_)) h0 (loC s8 inputs <| loC s8 n_ <| loN),Hm (shM F6_ F7_ r_),Hn (dM F7_ r_),Hn (aL F7_ F7_ g0),Hl (aM F7_ ai r_)]
  ·obtain rfl:=za ae;obtain rfl:=hl1;exact yB UM hC aw ai aa [Hq c0]
def Q3:Code:=(f60.body).getD .skip
def qg:zN:=spF (α:=List Int×List Int) (ρ:=Int) 60 (λx=>[F7_ x.1,F7_ x.2]) (λr=>s8 r) (λx=>ui x.1 x.2) [] (W2)
abbrev z4B:List (Nat×T):=[]
abbrev z4A (a_:List Int)(b_:List Int)(i_:Int):List (Nat×T):=[(0,.d (eSl 1 false s8 a_)),(1,.d (eSl 1 false s8 b_)),(5,.d (I i_))]
theorem z93 (hC:zF prog ctr):qg.Ok prog:=by
 refine zC ?_;rintro⟨a_,b_⟩ r0 aa;try unfold ui at aa;refine yO true [(4,none)] Q3 40 func60 λE hE=>?_
 let Z0:List HO:=[Ha (lnM s8 a_),Ha (lnM s8 b_)];rcases zI aa with⟨c0,aa⟩|⟨c0,aa⟩
 ·let Z1:List HO:=(Z0++[Hq c0,Ha (lnM s8 a_),Ha (lnM s8 b_)]);rcases zI aa with⟨c1,aa⟩|⟨c1,aa⟩
  ·obtain rfl:=za aa;exact yE X0 hC hE (Z1++[Hq c1])
  ·obtain rfl:=za aa;exact yE X0 hC hE (Z1++[Hq c1])
 ·refine yJ X0 hC Q3 [1,1] [] [] (λz:Unit=>Q2=some r0) (λz=>z4B) [(0,.d (eSl 1 false s8 a_)),(1,.d (eSl 1 false s8 b_))] (Z0++[Hq c0,Hh (.cut 0)]) ?_ λJ1 aw=>?_
  ·rintro⟨⟩ aa;unfold Q2 at aa;obtain rfl:=za aa;exact yE X0 hC hE []
  ·obtain⟨t2,ht2,aa⟩:=zc aa;refine yL X0 hC Q3 [1,1,2,1,0] [J1] (λs=>Zd a_ b_ s) (λx=>z4A a_ b_ x) 0 ht2  [] ?_;rintro i_ m2 az ae hl1 J2 a6;try unfold Zd at ae;rcases zI ae with⟨c2,ae⟩|⟨c2,ae⟩
   ·obtain⟨cq,h0,ae⟩:=zc ae;obtain⟨ct,h1,ae⟩:=zc ae;let Z2:List HO:=[Ha (lnM s8 a_),Hq c2,Hi s8 h0,Hi s8 h1];rcases zI ae with⟨c3,ae⟩|⟨c3,ae⟩
    ·obtain rfl:=za ae;obtain rfl:=hl1;obtain rfl:=za aa;exact yE X0 hC hE (Z2++[Hq c3])
    ·obtain⟨gh,h2,ae⟩:=zc ae;obtain⟨kh,h3,ae⟩:=zc ae;let Z3:List HO:=(Z2++[Hq c3,Hi s8 h2,Hi s8 h3]);rcases zI ae with⟨c4,ae⟩|⟨c4,ae⟩
     ·obtain rfl:=za ae;obtain rfl:=hl1;obtain rfl:=za aa;exact yE X0 hC hE (Z3++[Hq c4])
     ·obtain rfl:=za ae;exact yB X0 hC a6 (w64 (i_+1)) hl1 (Z3++[Hq c4])
   ·obtain rfl:=za ae;obtain rfl:=hl1;exact yB X0 hC aw () aa [Ha (lnM s8 a_),Hq c2]
def W0:Code:=(f63.body).getD .skip
def Kk:zN:=spF (α:=List (List Int)×List Int) (ρ:=List (List Int)) 63 (λx=>[z4S x.1,F7_ x.2]) (λr=>z4S r) (λx=>z0g x.1 x.2) [true,false] (W2)
abbrev zaH (w_:List Int)(gb:Int)(ez:List (List Int)):List (Nat×T):=[(0,.own (eOs 1 false F7_ ez)),(1,.d (eSl 1 false s8 w_)),(5,.d (I gb))]
abbrev zaG (w_:List Int)(gb:Int)(j4:List (List Int))(i_:Int):List (Nat×T):=[(0,.own (eOs 1 false F7_ j4)),(1,.d (eSl 1 false s8 w_)),(5,.d (I gb)),(8,.d (I i_))]
abbrev zaI (l_:List (List Int))(w_:List Int)(gb:Int):List (Nat×T):=[(0,.own (eOs 1 false F7_ l_)),(1,.d (eSl 1 false s8 w_)),(5,.d (I gb))]
abbrev zaJ (l_:List (List Int))(w_:List Int)(gb:Int):List (Nat×T):=[(0,.own (eOs 1 false F7_ l_)),(1,.d (eSl 1 false s8 w_)),(5,.d (I gb))]
abbrev zaF (l_:List (List Int))(w_:List Int)(js:Int)(kg:Int):List (Nat×T):=[(0,.own (eOs 1 false F7_ l_)),(1,.d (eSl 1 false s8 w_)),(5,.d (I js)),(6,.d (I kg))]
def wH:XH prog:=((QJ zx (.inr 66) [65]).or ((QJ zx (.inl 44) [43]).or X0))
theorem zfJ (hC:zF prog ctr)(h07:ctr.Has qg):Kk.Ok prog:=by
 refine zC ?_;rintro⟨l_,w_⟩ r0 aa;try unfold z0g at aa;refine yO true [(4,none)] W0 68 func63 λE hE=>?_;refine yJ wH hC W0 [1,1,1] [] [0,1,5] (λz:Int=>Km l_ w_ z=some r0) (λz=>zaJ l_ w_ z) [(0,.own (eOs 1 false F7_ l_)),(1,.d (eSl 1 false s8 w_)),(5,.d (I 0)),(6,.d (I ((l_.length:Nat):Int)))] [Ha (lnM F7_ l_),Hh (.cut 0)] ?_ λJ1 aw=>?_
 ·rintro gb aa;unfold Km at aa;refine yJ wH hC W0 [1,1,1,1] [] [0,1,5] (λz:Unit=>XS l_ w_ gb=some r0) (λz=>zaI l_ w_ gb) [(0,.own (eOs 1 false F7_ l_)),(1,.d (eSl 1 false s8 w_)),(5,.d (I gb))] [Hh (.cut 0)] ?_ λJ2 a6=>?_
  ·rintro⟨⟩ aa;unfold XS at aa;obtain⟨g0,aa⟩:=gdE aa;refine yJ ((xNb zx 43).or wH) hC W0 [1,1,1,1,1,1] [] [0,1,5] (λz:List (List Int)=>Kl w_ gb z=some r0) (λz=>zaH w_ gb z) [(0,.own (eOs 1 false F7_ (l_++([[]]:List (List Int))))),(1,.d (eSl 1 false s8 w_)),(5,.d (I gb))] [Hm (shM F6_ F7_ ([[]])),Hn (dM F7_ ([[]]:List (List Int))),Hn (aL F7_ F7_ g0),Hl (aM F7_ l_ ([[]]:List (List Int))),Hh (.cut 0)] ?_ λJ3 bk=>?_
   ·rintro ez aa;unfold Kl at aa;obtain⟨g1,aa⟩:=gdE aa;obtain⟨cd,h0,aa⟩:=zc aa;obtain rfl:=za aa;exact yE wH hC hE [Hn (dM s8 w_),Hn (aL s8 s8 g1),Hl (aM0 s8 w_),Hn (iL F7_ h0),Hm (shM s8 s8 w_),Hs (iM F7_ h0),Hs (iM F7_ h0),Hl (sM F7_ ez gb w_)]
   ·obtain⟨t4,ht4,aa⟩:=zc aa;refine yL wH hC W0 [1,1,1,1,1,1,2,1,0] [J3] (λs=>Uz gb s.1 s.2) (λx=>zaG w_ gb x.1 x.2) ((l_++([[]]:List (List Int))),w64 ((((l_++([[]]:List (List Int))).length:Nat):Int) - 1)) ht4  [Ha (lnM F7_ (l_++([[]]:List (List Int))))] ?_;rintro⟨j4,i_⟩ m4 az ae hl1 J4 d0;try unfold Uz at ae;rcases zI ae with⟨c0,ae⟩|⟨c0,ae⟩
    ·obtain⟨gi,h1,ae⟩:=zc ae;obtain⟨l6,h2,ae⟩:=zc ae;obtain rfl:=za ae;exact yB wH hC d0 ((j4.set i_.toNat gi),w64 (i_ - 1)) hl1 [Hq c0,Hn (iL F7_ h1),Hs (iM F7_ h1),Hn (iL F7_ h2),Hs (iM F7_ h2),Hs (iM F7_ h2),Hl (sM F7_ j4 i_ gi)]
    ·obtain rfl:=za ae;obtain rfl:=hl1;exact yB wH hC bk j4 aa [Hq c0]
  ·let Z0:List HO:=[Ha (lnM F7_ l_)];rcases zI aa with⟨c1,aa⟩|⟨c1,aa⟩
   ·obtain⟨nd,h3,aa⟩:=zc aa;obtain⟨r_,h4,aa⟩:=zc aa;let Z1:List HO:=(Z0++[Hq c1,Hq c1,Hq c1,Hn (iL F7_ h3),Hq c1,Hs (iM F7_ h3),Hq c1,Hq c1,Hc h07 (x:=(nd,w_)) h4 (loC F7_ nd <| loC F7_ w_ <| loN),Hq c1,Hq c1]);rcases zI aa with⟨c2,aa⟩|⟨c2,aa⟩
    ·obtain rfl:=za aa;exact yE wH hC hE (Z1++[Hq c2])
    ·exact yB wH hC a6 () aa (Z1++[Hq c2])
   ·exact yB wH hC a6 () aa (Z0++(rpN 8 (Hq c1) [qF]))
 ·obtain⟨t5,ht5,aa⟩:=zc aa;refine yL wH hC W0 [1,1,1,2,0] [J1] (λs=>Uy l_ w_ s.1 s.2) (λx=>zaF l_ w_ x.1 x.2) (0,((l_.length:Nat):Int)) ht5  [] ?_;rintro⟨js,kg⟩ m5 az ae hl1 J5 dn;try unfold Uy at ae;rcases zI ae with⟨c3,ae⟩|⟨c3,ae⟩
  ·obtain⟨g2,ae⟩:=gdE ae;obtain⟨ng,h5,ae⟩:=zc ae;obtain⟨aj,h6,ae⟩:=zc ae;let Z2:List HO:=[Hq c3,Hn g2,Hn (iL F7_ h5),Hs (iM F7_ h5),Hc h07 (x:=(ng,w_)) h6 (loC F7_ ng <| loC F7_ w_ <| loN)];rcases zI ae with⟨c4,ae⟩|⟨c4,ae⟩
   ·obtain rfl:=za ae;exact yB wH hC dn (w64 ((w64 (Int.tdiv (w64 (js+kg)) 2))+1),kg) hl1 (Z2++[Hq c4])
   ·obtain rfl:=za ae;exact yB wH hC dn (js,w64 (Int.tdiv (w64 (js+kg)) 2)) hl1 (Z2++[Hq c4])
  ·obtain rfl:=za ae;obtain rfl:=hl1;exact yB wH hC aw js aa [Hq c3]
def z1s:Code:=(f31.body).getD .skip
def Wf:zN:=spF (α:=List (List Int)) (ρ:=List (List Int)) 31 (λx=>[xh x]) (λr=>z4S r) (λx=>Vw x) [] (Q7)
abbrev z8s (out:List (List Int)):List (Nat×T):=[(3,.own (eOs 1 false F7_ out))]
abbrev z8r (l_:List (List Int))(ai:List (List Int))(i_:Int):List (Nat×T):=[(0,.d (eSl 1 false F7_ l_)),(3,.own (eOs 1 false F7_ ai)),(4,.d (I i_))]
theorem zdR (hC:zF prog ctr)(h0u:ctr.Has Kk):Wf.Ok prog:=by
 refine zC ?_;rintro l_ r0 aa;try unfold Vw at aa;refine yO true [(2,none)] z1s 18 func31 λE hE=>?_;refine yJ X0 hC z1s [1,1] [] [3] (λz:List (List Int)=>z14 z=some r0) (λz=>z8s z) [(0,.d (eSl 1 false F7_ l_)),(3,.own (eOs 1 true F7_ []))] [Hh (.cut 2)] ?_ λJ1 aw=>?_
 ·rintro out aa;unfold z14 at aa;obtain rfl:=za aa;exact yE X0 hC hE []
 ·obtain⟨t2,ht2,aa⟩:=zc aa;refine yLx X0 hC z1s [1,1,2,1,0] [J1] (λs=>qG l_ s.1 s.2) (λx=>z8r l_ x.1 x.2) (([]:List (List Int)),0) ht2 [(0,.d (eSl 1 false F7_ l_)),(3,.own (eOs 1 true F7_ [])),(4,.d (I 0))] inferInstance [] ?_;rintro⟨ai,i_⟩ m2 az ae hl1 J2 a6;try unfold qG at ae
  let Z0:List HO:=[Ha (lnM F7_ l_)];rcases zI ae with⟨c0,ae⟩|⟨c0,ae⟩
  ·obtain⟨cd,h0,ae⟩:=zc ae;obtain⟨r_,h1,ae⟩:=zc ae;obtain rfl:=za ae;exact yB X0 hC a6 (r_,w64 (i_+1)) hl1 (Z0++[Hq c0,Hi F7_ h0,Hc h0u (x:=(ai,cd)) h1 (loC z4S ai <| loC F7_ cd <| loN)])
  ·obtain rfl:=za ae;obtain rfl:=hl1;exact yB X0 hC aw ai aa (Z0++[Hq c0])
def zak:Code:=(f45.body).getD .skip
def We:zN:=spF (α:=z6) (ρ:=List (List Int)) 45 (λx=>[zO x]) (λr=>z4S r) (λx=>Yg x) [] (Q7)
theorem zb7 (hC:zF prog ctr)(h0w:ctr.Has Wi)(h0a:ctr.Has Wf):We.Ok prog:=by refine zC ?_;rintro m_ r0 aa;try unfold Yg at aa;refine yO true [(2,none)] zak 12 func45 λE hE=>?_;obtain⟨r_,h0,aa⟩:=zc aa;obtain⟨aj,h1,aa⟩:=zc aa;obtain rfl:=za aa;exact yE X0 hC hE [Hc h0w (x:=m_) h0 (loC zO m_ <| loN),Hc h0a (x:=r_.1) h1 (loC zfy r_.1 <| loN)]
def Yp:Code:=(f40.body).getD .skip
def uF:zN:=spF (α:=List (List Int)×List (List Int)) (ρ:=List (List Int)) 40 (λx=>[xh x.1,xh x.2]) (λr=>z4S r) (λx=>wp x.1 x.2) [] (W2)
abbrev z60 (out:List (List Int)):List (Nat×T):=[(5,.own (eOs 1 false F7_ out))]
abbrev z5Z (a_:List (List Int))(b_:List (List Int))(i_:Int)(ap:List (List Int)):List (Nat×T):=[(0,.d (eSl 1 false F7_ a_)),(1,.d (eSl 1 false F7_ b_)),(5,.own (eOs 1 false F7_ ap)),(6,.d (I i_))]
abbrev z5X (a_:List (List Int))(b_:List (List Int))(i_:Int)(bf:List (List Int))(k_:Int):List (Nat×T):=[(0,.d (eSl 1 false F7_ a_)),(1,.d (eSl 1 false F7_ b_)),(5,.own (eOs 1 false F7_ bf)),(6,.d (I i_)),(7,.d (I k_))]
abbrev z5Y (a_:List (List Int))(b_:List (List Int))(ai:List (List Int))(i_:Int):List (Nat×T):=[(0,.d (eSl 1 false F7_ a_)),(1,.d (eSl 1 false F7_ b_)),(5,.own (eOs 1 false F7_ ai)),(6,.d (I i_))]
theorem zba (hC:zF prog ctr)(h0u:ctr.Has Kk):uF.Ok prog:=by
 refine zC ?_;rintro⟨a_,b_⟩ r0 aa;try unfold wp at aa;refine yO true [(4,none)] Yp 34 func40 λE hE=>?_;refine yJ X0 hC Yp [1,1] [] [5] (λz:List (List Int)=>Jh z=some r0) (λz=>z60 z) [(0,.d (eSl 1 false F7_ a_)),(1,.d (eSl 1 false F7_ b_)),(5,.own (eOs 1 true F7_ []))] [Hh (.cut 2)] ?_ λJ1 aw=>?_
 ·rintro out aa;unfold Jh at aa;obtain rfl:=za aa;exact yE X0 hC hE []
 ·obtain⟨t2,ht2,aa⟩:=zc aa;refine yLx X0 hC Yp [1,1,2,1,0] [J1] (λs=>vC a_ b_ s.1 s.2) (λx=>z5Y a_ b_ x.1 x.2) (([]:List (List Int)),0) ht2 [(0,.d (eSl 1 false F7_ a_)),(1,.d (eSl 1 false F7_ b_)),(5,.own (eOs 1 true F7_ [])),(6,.d (I 0))] inferInstance [] ?_;rintro⟨ai,i_⟩ m2 az ae hl1 J2 a6;try unfold vC at ae
  let Z0:List HO:=[Ha (lnM F7_ a_)];rcases zI ae with⟨c0,ae⟩|⟨c0,ae⟩
  ·refine yJ X0 hC Yp [1,1,2,1,0,0,1] [J1,J2] [0,1,5,6] (λz:List (List Int)=>Wp i_ z=some az) (λz=>z5Z a_ b_ i_ z) [(0,.d (eSl 1 false F7_ a_)),(1,.d (eSl 1 false F7_ b_)),(5,.own (eOs 1 false F7_ ai)),(6,.d (I i_))] (Z0++[Hq c0,Hh (.cut 0)]) ?_ λJ3 bk=>?_
   ·rintro ap ae;unfold Wp at ae;obtain rfl:=za ae;exact yB X0 hC a6 (ap,w64 (i_+1)) hl1 []
   ·obtain⟨t4,ht4,ae⟩:=zc ae;refine yL X0 hC Yp [1,1,2,1,0,0,1,2,0,1,0] [J1,J2,J3] (λs=>vB a_ b_ i_ s.1 s.2) (λx=>z5X a_ b_ i_ x.1 x.2) (ai,0) ht4  [] ?_;rintro⟨bf,k_⟩ m4 dl ah hl2 J4 d0;try unfold vB at ah
    let Z1:List HO:=[Ha (lnM F7_ b_)];rcases zI ah with⟨c1,ah⟩|⟨c1,ah⟩
    ·obtain⟨cq,h0,ah⟩:=zc ah;obtain⟨g0,ah⟩:=gdE ah;obtain⟨ct,h1,ah⟩:=zc ah;obtain⟨g1,ah⟩:=gdE ah;obtain⟨r_,h2,ah⟩:=zc ah;obtain rfl:=za ah;exact yB X0 hC d0 (r_,w64 (k_+1)) hl2 (Z1++[Hq c1,Hi F7_ h0,Hn (dM s8 cq),Hn (aL s8 s8 g0),Hl (aM0 s8 cq),Hi F7_ h1,Hn (dM s8 ct),Hn (aL s8 s8 g1),Hl (aM s8 cq ct),Hg (JO h0u),Hm (shM s8 s8 (cq++ct)),Hs (JP h0u (x:=(bf,(cq++ct))) h2 (loC z4S bf <| loC F7_ (cq++ct) <| loN))])
    ·obtain rfl:=za ah;obtain rfl:=hl2;exact yB X0 hC bk bf ae (Z1++[Hq c1])
  ·obtain rfl:=za ae;obtain rfl:=hl1;exact yB X0 hC aw ai aa (Z0++[Hq c0])
def z6R:Code:=(f78.body).getD .skip
def Vl:zN:=spF (α:=z6×Int) (ρ:=List (List Int)) 78 (λx=>[zO x.1,s8 x.2]) (λr=>z4S r) (λx=>Ue x.1 x.2) [] (W2)
theorem z83 (hC:zF prog ctr)(h0P:ctr.Has We)(h0b:ctr.Has YE)(h02:ctr.Has uF):Vl.Ok prog:=by refine zC ?_;rintro⟨m_,k_⟩ r0 aa;try unfold Ue at aa;refine yO true [(4,none)] z6R 12 func78 λE hE=>?_;obtain⟨r_,h0,aa⟩:=zc aa;obtain⟨aj,h1,aa⟩:=zc aa;obtain⟨ak,h2,aa⟩:=zc aa;obtain rfl:=za aa;exact yE X0 hC hE [Hc h0P (x:=m_) h0 (loC zO m_ <| loN),Hc h0b (x:=(m_.Inputs,k_)) h1 (loC s8 m_.Inputs <| loC s8 k_ <| loN),Hg (JO h02),Hm (shM F7_ F7_ r_),Hm (shM F7_ F7_ aj),Hs (JP h02 (x:=(r_,aj)) h2 (loC xh r_ <| loC xh aj <| loN)),Hm (shM F7_ F7_ r_),Hm (shM F7_ F7_ aj)]
def z3A:Code:=(f41.body).getD .skip
def vZ:zN:=spF (α:=z6) (ρ:=List (List Int)) 41 (λx=>[zO x]) (λr=>z4S r) (λx=>wo x) [] (Q7)
theorem z49 (hC:zF prog ctr)(h2c:ctr.Has Vl):vZ.Ok prog:=by refine zC ?_;rintro m_ r0 aa;try unfold wo at aa;refine yO true [(2,none)] z3A 5 func41 λE hE=>?_;obtain⟨r_,h0,aa⟩:=zc aa;obtain rfl:=za aa;exact yE X0 hC hE [Hc h2c (x:=(m_,1)) h0 (loC zO m_ <| loC s8 1 <| loN)]
def z2S:Code:=(f61.body).getD .skip
def z2q:zN:=spF (α:=z6×Int×List Int) (ρ:=List Int) 61 (λx=>[zO x.1,s8 x.2.1,F7_ x.2.2]) (λr=>F6_ r) (λx=>z0j x.1 x.2.1 x.2.2) [] (zdJ)
abbrev zaT (out:List Int):List (Nat×T):=[(7,.own (eOs 1 false s8 out))]
abbrev zaS (m_:z6)(w_:List Int)(bg:Int)(ai:List Int)(k_:Int):List (Nat×T):=[(1,.d (I bg)),(2,.d (eSl 1 false s8 w_)),(3,.own (.box (zO m_))),(7,.own (eOs 1 false s8 ai)),(8,.d (I k_))]
theorem zfM (hC:zF prog ctr)(h0f:ctr.Has Wj):z2q.Ok prog:=by
 refine zC ?_;rintro⟨m_,s_,w_⟩ r0 aa;try unfold z0j at aa;refine yO true [(6,none)] z2S 31 func61 λE hE=>?_;refine yJ X0 hC z2S [1,1] [] [7] (λz:List Int=>Kt z=some r0) (λz=>zaT z) [(1,.d (I s_)),(2,.d (eSl 1 false s8 w_)),(3,.own (.box (zO m_))),(7,.own (eOs 1 true s8 []))] [Hh (.cut 2)] ?_ λJ1 aw=>?_
 ·rintro out aa;unfold Kt at aa;obtain rfl:=za aa;exact yE X0 hC hE []
 ·obtain⟨t2,ht2,aa⟩:=zc aa;refine yLx X0 hC z2S [1,1,2,1,0] [J1] (λs=>UE m_ w_ s.1 s.2.1 s.2.2) (λx=>zaS m_ w_ x.1 x.2.1 x.2.2) (s_,([]:List Int),0) ht2 [(1,.d (I s_)),(2,.d (eSl 1 false s8 w_)),(3,.own (.box (zO m_))),(7,.own (eOs 1 true s8 [])),(8,.d (I 0))] inferInstance [] ?_;rintro⟨bg,ai,k_⟩ m2 az ae hl1 J2 a6;try unfold UE at ae;rcases zI ae with⟨c0,ae⟩|⟨c0,ae⟩
  ·obtain⟨gu,h0,ae⟩:=zc ae;obtain⟨r_,h1,ae⟩:=zc ae;obtain⟨g0,ae⟩:=gdE ae;obtain rfl:=za ae;exact yB X0 hC a6 (r_.To,(ai++([r_.Out]:List Int)),w64 (k_+1)) hl1 [Ha (lnM s8 w_),Hq c0,Hi s8 h0,Hc h0f (x:=(m_,bg,gu)) h1 (loC zO m_ <| loC s8 bg <| loC s8 gu <| loN),Hq (dM s8 ([r_.Out]:List Int)),Hn (dM s8 ([r_.Out]:List Int)),Hn (aL s8 s8 g0),Hl (aM s8 ai ([r_.Out]:List Int))]
  ·obtain rfl:=za ae;obtain rfl:=hl1;exact yB X0 hC aw ai aa [Ha (lnM s8 w_),Hq c0]
def Q4:Code:=(f191.body).getD .skip
def UY:zN:=spF (α:=List Int×List Int) (ρ:=Int) 191 (λx=>[F7_ x.1,F7_ x.2]) (λr=>s8 r) (λx=>Qk x.1 x.2) [] (W2)
abbrev z4Q:List (Nat×T):=[]
abbrev z4P (a_:List Int)(b_:List Int)(i_:Int):List (Nat×T):=[(0,.d (eSl 1 false s8 a_)),(1,.d (eSl 1 false s8 b_)),(5,.d (I i_))]
theorem z98 (hC:zF prog ctr):UY.Ok prog:=by
 refine zC ?_;rintro⟨a_,b_⟩ r0 aa;try unfold Qk at aa;refine yO true [(4,none)] Q4 40 func191 λE hE=>?_
 let Z0:List HO:=[Ha (lnM s8 a_),Ha (lnM s8 b_)];rcases zI aa with⟨c0,aa⟩|⟨c0,aa⟩
 ·obtain rfl:=za aa;exact yE X0 hC hE (Z0++[Hq c0])
 ·let Z1:List HO:=(Z0++[Hq c0,Ha (lnM s8 a_),Ha (lnM s8 b_)]);rcases zI aa with⟨c1,aa⟩|⟨c1,aa⟩
  ·obtain rfl:=za aa;exact yE X0 hC hE (Z1++[Hq c1])
  ·refine yJ X0 hC Q4 [1,1,1] [] [] (λz:Unit=>Xv=some r0) (λz=>z4Q) [(0,.d (eSl 1 false s8 a_)),(1,.d (eSl 1 false s8 b_))] (Z1++[Hq c1,Hh (.cut 0)]) ?_ λJ1 aw=>?_
   ·rintro⟨⟩ aa;unfold Xv at aa;obtain rfl:=za aa;exact yE X0 hC hE []
   ·obtain⟨t2,ht2,aa⟩:=zc aa;refine yL X0 hC Q4 [1,1,1,2,1,0] [J1] (λs=>qm a_ b_ s) (λx=>z4P a_ b_ x) 0 ht2  [] ?_;rintro i_ m2 az ae hl1 J2 a6;try unfold qm at ae;rcases zI ae with⟨c2,ae⟩|⟨c2,ae⟩
    ·obtain⟨cq,h0,ae⟩:=zc ae;obtain⟨ct,h1,ae⟩:=zc ae;let Z2:List HO:=[Ha (lnM s8 a_),Hq c2,Hi s8 h0,Hi s8 h1];rcases zI ae with⟨c3,ae⟩|⟨c3,ae⟩
     ·obtain rfl:=za ae;obtain rfl:=hl1;obtain rfl:=za aa;exact yE X0 hC hE (Z2++[Hq c3])
     ·obtain⟨gh,h2,ae⟩:=zc ae;obtain⟨kh,h3,ae⟩:=zc ae;let Z3:List HO:=(Z2++[Hq c3,Hi s8 h2,Hi s8 h3]);rcases zI ae with⟨c4,ae⟩|⟨c4,ae⟩
      ·obtain rfl:=za ae;obtain rfl:=hl1;obtain rfl:=za aa;exact yE X0 hC hE (Z3++[Hq c4])
      ·obtain rfl:=za ae;exact yB X0 hC a6 (w64 (i_+1)) hl1 (Z3++[Hq c4])
    ·obtain rfl:=za ae;obtain rfl:=hl1;exact yB X0 hC aw () aa [Ha (lnM s8 a_),Hq c2]
def zdw:Code:=(f170.body).getD .skip
def z0T:zN:=spF (α:=List Int×List Int) (ρ:=Bool) 170 (λx=>[F7_ x.1,F7_ x.2]) (λr=>eB r) (λx=>z0k x.1 x.2) [] (W2)
theorem zdX (hC:zF prog ctr)(h2d:ctr.Has UY):z0T.Ok prog:=by refine zC ?_;rintro⟨a_,b_⟩ r0 aa;try unfold z0k at aa;refine yO true [(4,none)] zdw 9 func170 λE hE=>?_;obtain⟨r_,h0,aa⟩:=zc aa;obtain rfl:=za aa;exact yE X0 hC hE [Hc h2d (x:=(a_,b_)) h0 (loC F7_ a_ <| loC F7_ b_ <| loN)]
def zam:Code:=(f151.body).getD .skip
def QY:zN:=spF (α:=z6×List Int×Int×Int) (ρ:=Int) 151 (λx=>[zO x.1,F7_ x.2.1,s8 x.2.2.1,s8 x.2.2.2]) (λr=>s8 r) (λx=>UC x.1 x.2.1 x.2.2.1 x.2.2.2) [] (zzG)
theorem zbc (hC:zF prog ctr)(h1e:ctr.Has z2q)(h1f:ctr.Has z0T):QY.Ok prog:=by
 refine zC ?_;rintro⟨m_,w_,s_,t_⟩ r0 aa;try unfold UC at aa;refine yO true [(8,none)] zam 18 func151 λE hE=>?_;obtain⟨r_,h0,aa⟩:=zc aa;obtain⟨aj,h1,aa⟩:=zc aa;obtain⟨ak,h2,aa⟩:=zc aa
 let Z0:List HO:=[Hc h1e (x:=(m_,s_,w_)) h0 (loC zO m_ <| loC s8 s_ <| loC F7_ w_ <| loN),Hc h1e (x:=(m_,t_,w_)) h1 (loC zO m_ <| loC s8 t_ <| loC F7_ w_ <| loN),Hg (JO h1f),Hm (shM s8 s8 r_),Hm (shM s8 s8 aj),Hs (JP h1f (x:=(r_,aj)) h2 (loC F7_ r_ <| loC F7_ aj <| loN))];rcases zI aa with⟨c0,aa⟩|⟨c0,aa⟩
 ·obtain rfl:=za aa;exact yE X0 hC hE (Z0++[Hq c0])
 ·obtain rfl:=za aa;exact yE X0 hC hE (Z0++[Hq c0])
def z1u:Code:=(f150.body).getD .skip
def z0Q:zN:=spF (α:=List Int×Int) (ρ:=List Int) 150 (λx=>[F7_ x.1,s8 x.2]) (λr=>F6_ r) (λx=>z3d x.1 x.2) [] (W2)
abbrev z8w (out:List Int):List (Nat×T):=[(5,.own (eOs 1 false s8 out))]
abbrev z8v (inputs:Int)(ai:List Int)(k_:Int):List (Nat×T):=[(1,.d (I inputs)),(5,.own (eOs 1 false s8 ai)),(6,.d (I k_))]
theorem zdT (hC:zF prog ctr):z0Q.Ok prog:=by
 refine zC ?_;rintro⟨w_,inputs⟩ r0 aa;try unfold z3d at aa;refine yO true [(4,none)] z1u 37 func150 λE hE=>?_;obtain⟨g0,aa⟩:=gdE aa;refine yJ X0 hC z1u [1,1] [] [5] (λz:List Int=>z17 z=some r0) (λz=>z8w z) [(1,.d (I inputs)),(5,.own (eOs 1 false s8 w_))] [Hn (dM s8 w_),Hn (aL s8 s8 g0),Hl (aM0 s8 w_),Hh (.cut 0)] ?_ λJ1 aw=>?_
 ·rintro out aa;unfold z17 at aa;obtain⟨g1,aa⟩:=gdE aa;obtain rfl:=za aa;exact yE X0 hC hE [Hq (dM s8 ([0]:List Int)),Hn (dM s8 ([0]:List Int)),Hn (aL s8 s8 g1),Hl (aM s8 out ([0]:List Int))]
 ·obtain⟨t2,ht2,aa⟩:=zc aa;refine yL X0 hC z1u [1,1,2,1,0] [J1] (λs=>z15 inputs s.1 s.2) (λx=>z8v inputs x.1 x.2) (w_,w64 (((w_.length:Nat):Int) - 1)) ht2  [Ha (lnM s8 w_)] ?_;rintro⟨ai,k_⟩ m2 az ae hl1 J2 a6;try unfold z15 at ae;rcases zI ae with⟨c0,ae⟩|⟨c0,ae⟩
  ·obtain⟨co,h0,ae⟩:=zc ae;let Z0:List HO:=[Hq c0,Hn (iL s8 h0),Hs (iM s8 h0)];rcases zI ae with⟨c1,ae⟩|⟨c1,ae⟩
   ·obtain⟨ic,h1,ae⟩:=zc ae;obtain⟨nj,h2,ae⟩:=zc ae;obtain rfl:=za ae;obtain rfl:=hl1;obtain rfl:=za aa;exact yE X0 hC hE (Z0++[Hq c1,Hn (iL s8 h1),Hs (iM s8 h1),Hn (iL s8 h2),Hs (iM s8 h2),Hs (iM s8 h2),Hl (sM s8 ai k_ (w64 (ic+1)))])
   ·obtain⟨nk,h3,ae⟩:=zc ae;obtain rfl:=za ae;exact yB X0 hC a6 ((ai.set k_.toNat 0),w64 (k_ - 1)) hl1 (Z0++[Hq c1,Hn (iL s8 h3),Hs (iM s8 h3),Hs (iM s8 h3),Hl (sM s8 ai k_ 0)])
  ·obtain rfl:=za ae;obtain rfl:=hl1;exact yB X0 hC aw ai aa [Hq c0]
def VF:Code:=(f121.body).getD .skip
def Vm:zN:=spF (α:=z6×Int×Int) (ρ:=List Int×Bool) 121 (λx=>[zO x.1,s8 x.2.1,s8 x.2.2]) (λr=>.tup [F7_ r.1,eB r.2]) (λx=>vh x.1 x.2.1 x.2.2) [] (zdJ)
abbrev z3V:List (Nat×T):=[]
abbrev z3U (m_:z6)(s_:Int)(t_:Int)(w_:List Int):List (Nat×T):=[(1,.d (I s_)),(2,.d (I t_)),(3,.own (.box (zO m_))),(8,.own (eOs 1 false s8 w_))]
theorem z84 (hC:zF prog ctr)(h1g:ctr.Has QY)(h1h:ctr.Has z0Q):Vm.Ok prog:=by
 refine zC ?_;rintro⟨m_,s_,t_⟩ r0 aa;try unfold vh at aa;refine yO false [(6,none),(7,none)] VF 28 func121 λE hE=>?_;refine yJ X0 hC VF [1] [] [] (λz:Unit=>Vy=some r0) (λz=>z3V) [(1,.d (I s_)),(2,.d (I t_)),(3,.own (.box (zO m_)))] [Hh (.cut 1)] ?_ λJ1 aw=>?_
 ·rintro⟨⟩ aa;unfold Vy at aa;obtain rfl:=za aa;exact yEx X0 hC hE [Hm (shM s8 s8 [])] (.tup [eSl 1 true s8 [],B false]) (show LeV (.tup [eSl 1 true s8 [],B false]) (.tup [eSl 1 false s8 ([]:List Int),B false]) from inferInstance)
 ·obtain⟨t2,ht2,aa⟩:=zc aa;refine yLx X0 hC VF [1,2,1,0] [J1] (λs=>YI m_ s_ t_ s) (λx=>z3U m_ s_ t_ x) ([]:List Int) ht2 [(1,.d (I s_)),(2,.d (I t_)),(3,.own (.box (zO m_))),(8,.own (eOs 1 true s8 []))] inferInstance [] ?_;rintro w_ m2 az ae hl1 J2 a6;try unfold YI at ae
  let Z0:List HO:=[Ha (lnM s8 w_),Ha (lnM yN m_.Rows)];rcases zI ae with⟨c0,ae⟩|⟨c0,ae⟩
  ·obtain⟨r_,h0,ae⟩:=zc ae;let Z1:List HO:=(Z0++[Hq c0,Hg (JO h1g),Hm (shM s8 s8 w_),Hs (JP h1g (x:=(m_,w_,s_,t_)) h0 (loC zO m_ <| loC F7_ w_ <| loC s8 s_ <| loC s8 t_ <| loN))]);rcases zI ae with⟨c1,ae⟩|⟨c1,ae⟩
   ·obtain rfl:=za ae;obtain rfl:=hl1;obtain rfl:=za aa;exact yE X0 hC hE (Z1++[Hq c1,Hm (shM s8 s8 w_)])
   ·obtain⟨aj,h1,ae⟩:=zc ae;obtain rfl:=za ae;exact yB X0 hC a6 aj hl1 (Z1++[Hq c1,Hg (JO h1h),Hm (shM s8 s8 w_),Hs (JP h1h (x:=(w_,m_.Inputs)) h1 (loC F7_ w_ <| loC s8 m_.Inputs <| loN)),Hm (shM s8 s8 w_)])
  ·obtain rfl:=za ae;obtain rfl:=hl1;exact yB X0 hC aw () aa (Z0++[Hq c0])
def ZB:Code:=(f80.body).getD .skip
def VV:zN:=spF (α:=z6×Int) (ρ:=List (List Int)) 80 (λx=>[zO x.1,s8 x.2]) (λr=>z4S r) (λx=>Vu x.1 x.2) [] (W2)
abbrev z7e (out:List (List Int)):List (Nat×T):=[(5,.own (eOs 1 false F7_ out))]
abbrev z7d (m_:z6)(s_:Int)(a_:Int)(ap:List (List Int)):List (Nat×T):=[(1,.d (I s_)),(2,.own (.box (zO m_))),(5,.own (eOs 1 false F7_ ap)),(6,.d (I a_))]
abbrev z7c (m_:z6)(s_:Int)(a_:Int)(b_:Int)(fq:List (List Int)):List (Nat×T):=[(1,.d (I s_)),(2,.own (.box (zO m_))),(5,.own (eOs 1 false F7_ fq)),(6,.d (I a_)),(7,.d (I b_))]
abbrev z7a (m_:z6)(s_:Int)(a_:Int)(bf:List (List Int))(b_:Int):List (Nat×T):=[(1,.d (I s_)),(2,.own (.box (zO m_))),(5,.own (eOs 1 false F7_ bf)),(6,.d (I a_)),(7,.d (I b_))]
abbrev z7b (m_:z6)(s_:Int)(ai:List (List Int))(a_:Int):List (Nat×T):=[(1,.d (I s_)),(2,.own (.box (zO m_))),(5,.own (eOs 1 false F7_ ai)),(6,.d (I a_))]
theorem zcy (hC:zF prog ctr)(h0Q:ctr.Has Vm)(h0a:ctr.Has Wf):VV.Ok prog:=by
 refine zC ?_;rintro⟨m_,s_⟩ r0 aa;try unfold Vu at aa;refine yO true [(4,none)] ZB 51 func80 λE hE=>?_;refine yJ X0 hC ZB [1,1] [] [5] (λz:List (List Int)=>Ud z=some r0) (λz=>z7e z) [(1,.d (I s_)),(2,.own (.box (zO m_))),(5,.own (eOs 1 true F7_ []))] [Hh (.cut 2)] ?_ λJ1 aw=>?_
 ·rintro out aa;unfold Ud at aa;obtain⟨r_,h0,aa⟩:=zc aa;obtain rfl:=za aa;exact yE X0 hC hE [Hg (JO h0a),Hm (shM F7_ F7_ out),Hs (JP h0a (x:=out) h0 (loC xh out <| loN)),Hm (shM F7_ F7_ out)]
 ·obtain⟨t2,ht2,aa⟩:=zc aa;refine yLx X0 hC ZB [1,1,2,1,0] [J1] (λs=>Ub m_ s_ s.1 s.2) (λx=>z7b m_ s_ x.1 x.2) (([]:List (List Int)),0) ht2 [(1,.d (I s_)),(2,.own (.box (zO m_))),(5,.own (eOs 1 true F7_ [])),(6,.d (I 0))] inferInstance [] ?_;rintro⟨ai,a_⟩ m2 az ae hl1 J2 a6;try unfold Ub at ae
  let Z0:List HO:=[Ha (lnM yN m_.Rows)];rcases zI ae with⟨c0,ae⟩|⟨c0,ae⟩
  ·refine yJ X0 hC ZB [1,1,2,1,0,0,1] [J1,J2] [1,2,5,6] (λz:List (List Int)=>Uc a_ z=some az) (λz=>z7d m_ s_ a_ z) [(1,.d (I s_)),(2,.own (.box (zO m_))),(5,.own (eOs 1 false F7_ ai)),(6,.d (I a_))] (Z0++[Hq c0,Hh (.cut 0)]) ?_ λJ3 bk=>?_
   ·rintro ap ae;unfold Uc at ae;obtain rfl:=za ae;exact yB X0 hC a6 (ap,w64 (a_+1)) hl1 []
   ·obtain⟨t4,ht4,ae⟩:=zc ae;refine yL X0 hC ZB [1,1,2,1,0,0,1,2,0,1,0] [J1,J2,J3] (λs=>Xa m_ s_ a_ s.1 s.2) (λx=>z7a m_ s_ a_ x.1 x.2) (ai,w64 (a_+1)) ht4  [] ?_;rintro⟨bf,b_⟩ m4 dl ah hl2 J4 d0;try unfold Xa at ah
    let Z1:List HO:=[Ha (lnM yN m_.Rows)];rcases zI ah with⟨c1,ah⟩|⟨c1,ah⟩
    ·refine yJ X0 hC ZB [1,1,2,1,0,0,1,2,0,1,0,0,1] [J1,J2,J3,J4] [1,2,5,6,7] (λz:List (List Int)=>vd b_ z=some dl) (λz=>z7c m_ s_ a_ b_ z) [(1,.d (I s_)),(2,.own (.box (zO m_))),(5,.own (eOs 1 false F7_ bf)),(6,.d (I a_)),(7,.d (I b_))] (Z1++[Hq c1,Hh (.cut 0)]) ?_ λJ5 dn=>?_
     ·rintro fq ah;unfold vd at ah;obtain rfl:=za ah;exact yB X0 hC d0 (fq,w64 (b_+1)) hl2 []
     ·rcases zI ah with⟨c2,ah⟩|⟨c2,ah⟩
      ·obtain⟨aj,h1,ah⟩:=zc ah;obtain⟨g0,ah⟩:=gdE ah;exact yB X0 hC dn (bf++([aj.1]:List (List Int))) ah (rpN 4 (Hq c2) (rpN 5 qT [Hc h0Q (x:=(m_,a_,b_)) h1 (loC zO m_ <| loC s8 a_ <| loC s8 b_ <| loN),Hq (dM F7_ ([aj.1]:List (List Int))),Hn (dM F7_ ([aj.1]:List (List Int))),Hn (aL F7_ F7_ g0),Hl (aM F7_ bf ([aj.1]:List (List Int)))]))
      ·let Z2:List HO:=(rpN 4 (Hq c2) []);rcases zI ah with⟨c3,ah⟩|⟨c3,ah⟩
       ·obtain⟨ak,h2,ah⟩:=zc ah;obtain⟨g1,ah⟩:=gdE ah;exact yB X0 hC dn (bf++([ak.1]:List (List Int))) ah (Z2++(rpN 4 (Hq c3) [qT,Hc h0Q (x:=(m_,a_,b_)) h2 (loC zO m_ <| loC s8 a_ <| loC s8 b_ <| loN),Hq (dM F7_ ([ak.1]:List (List Int))),Hn (dM F7_ ([ak.1]:List (List Int))),Hn (aL F7_ F7_ g1),Hl (aM F7_ bf ([ak.1]:List (List Int)))]))
       ·let Z3:List HO:=(Z2++(rpN 4 (Hq c3) []));rcases zI ah with⟨c4,ah⟩|⟨c4,ah⟩
        ·obtain⟨au,h3,ah⟩:=zc ah;obtain⟨g2,ah⟩:=gdE ah;exact yB X0 hC dn (bf++([au.1]:List (List Int))) ah (Z3++[Hq c4,Hc h0Q (x:=(m_,a_,b_)) h3 (loC zO m_ <| loC s8 a_ <| loC s8 b_ <| loN),Hq (dM F7_ ([au.1]:List (List Int))),Hn (dM F7_ ([au.1]:List (List Int))),Hn (aL F7_ F7_ g2),Hl (aM F7_ bf ([au.1]:List (List Int)))])
        ·exact yB X0 hC dn bf ah (Z3++[Hq c4])
    ·obtain rfl:=za ah;obtain rfl:=hl2;exact yB X0 hC bk bf ae (Z1++[Hq c1])
  ·obtain rfl:=za ae;obtain rfl:=hl1;exact yB X0 hC aw ai aa (Z0++[Hq c0])
def zfp:Code:=(f44.body).getD .skip
def Kj:zN:=spF (α:=z6) (ρ:=List (List Int)) 44 (λx=>[zO x]) (λr=>z4S r) (λx=>z0f x) [] (Q7)
theorem zfI (hC:zF prog ctr)(h0R:ctr.Has VV):Kj.Ok prog:=by refine zC ?_;rintro m_ r0 aa;try unfold z0f at aa;refine yO true [(2,none)] zfp 5 func44 λE hE=>?_;obtain⟨r_,h0,aa⟩:=zc aa;obtain rfl:=za aa;exact yE X0 hC hE [Hc h0R (x:=(m_,(-1))) h0 (loC zO m_ <| loC s8 (-1) <| loN)]
def zdu:Code:=(f43.body).getD .skip
def Wc:zN:=spF (α:=List (List Int)) (ρ:=List (List Int)) 43 (λx=>[xh x]) (λr=>xh r) (λx=>Vs x) [] (Q7)
theorem zdP (hC:zF prog ctr):Wc.Ok prog:=by
 refine zC ?_;rintro l_ r0 aa;try unfold Vs at aa;refine yO false [(2,none)] zdu 9 func43 λE hE=>?_
 let Z0:List HO:=[Ha (lnM F7_ l_)];rcases zI aa with⟨c0,aa⟩|⟨c0,aa⟩
 ·obtain rfl:=za aa;exact yEx X0 hC hE (Z0++[Hq c0,Hm (shM F4_ F3_ ([[]]))]) (eSl 1 true F3_ ([[]])) (show LeV (eSl 1 true F3_ ([[]])) (eSl 1 false F7_ ([[]]:List (List Int))) from inferInstance)
 ·obtain rfl:=za aa;exact yE X0 hC hE (Z0++[Hq c0])
def zal:Code:=(f79.body).getD .skip
def QX:zN:=spF (α:=List Int×List Int) (ρ:=Bool) 79 (λx=>[F7_ x.1,F7_ x.2]) (λr=>eB r) (λx=>UA x.1 x.2) [] (W2)
theorem zb8 (hC:zF prog ctr)(h07:ctr.Has qg):QX.Ok prog:=by
 refine zC ?_;rintro⟨a_,b_⟩ r0 aa;try unfold UA at aa;refine yO true [(4,none)] zal 19 func79 λE hE=>?_
 let Z0:List HO:=[Ha (lnM s8 a_),Ha (lnM s8 b_)];rcases zI aa with⟨c0,aa⟩|⟨c0,aa⟩
 ·obtain⟨g0,aa⟩:=gdE aa;obtain⟨r_,h0,aa⟩:=zc aa;obtain rfl:=za aa;exact yE X0 hC hE (Z0++(rpN 4 (Hq c0) [Ha (lnM s8 a_),Hq c0,Hn (slB g0),Hn (znB s8 g0),Ha (slM 1 false s8 b_ 0 ((a_.length:Nat):Int).toNat),Hq c0,Hc h07 (x:=(a_,((b_.drop 0).take (((a_.length:Nat):Int).toNat - 0)))) h0 (loC F7_ a_ <| loC F7_ ((b_.drop 0).take (((a_.length:Nat):Int).toNat - 0)) <| loN),Hq c0,Hq c0]))
 ·obtain rfl:=za aa;exact yE X0 hC hE (Z0++(rpN 8 (Hq c0) []))
end Go.Own
end
