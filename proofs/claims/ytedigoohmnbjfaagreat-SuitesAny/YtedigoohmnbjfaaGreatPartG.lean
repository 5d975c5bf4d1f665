/- Walks, further. -/
import Derived.Test.YtedigoohmnbjfaaGreatPartF
import Derived.Test.YtedigoohmnbjfaaGreatPartC
import Derived.Test.YtedigoohmnbjfaaGreatPartE
noncomputable section
set_option linter.unusedVariables false
set_option linter.defProp false
set_option linter.unusedSimpArgs false
namespace Go.Own
open Go.Proofs.Tryz
def oB {α:Type _}{β:Type _}(a:α)(f:α->Option β):Option.bind (some a) f=f a:=rfl
open Go.Proofs
set_option maxRecDepth 100000
set_option maxHeartbeats 8000000
def zmD:List y8:=qW 48 rE rE (eOs 1 false F7_) Xl::l99
def z4k [H:HS X0 l99]:OkH zmD:=yS2 true func48 λinputs k_ r0 aa E hE=>by
 refine yK 111 [] [5] (zI Jj r0) (λz=>[(5,.own (eOs 1 false F7_ z))]) [0,1,5] [Hh (.cut 2)] ?_ λJ1 ar=>?_
 ·rintro out aa;cases aa;exact yE hE []
 obtain⟨t2,ht2,aa⟩:=zo aa;refine yMx 111210 [J1] [0,1,5,6] (λx=>[(5,.own (eOs 1 false F7_ x.1)),(6,.d (I x.2))]) ht2 [(5,.own (eOs 1 true F5_ ([[]]))),(6,.d (I 0))] [] λ⟨aj,n_⟩ m2 av ae hl1 J2 au=>?_;obtain c0|c0:=zy ae
 ·refine yNs 11121001 [J1,J2] [0,1,5,6] (zI (Wu n_) av) (λz=>[(5,.own (eOs 1 false F7_ z))]) [c0,Hh (.cut 0)] ?_ λJ3 bg=>?_
  ·rintro ax ae;cases ae;exact yB au _ hl1 []
  refine yN 11121001201 [J1,J2,J3] [0,1,6,7] (zI (Wt n_) av) (λz=>[(7,.own (eOs 1 false F7_ z))]) [0,1,5,6,7] [Hh (.cut 1)] ?_ λJ4 db=>?_
  ·rintro next ae
   exact yB bg next ae []
  obtain⟨t5,ht5,ae⟩:=zo c0.2;refine yMx 11121001201210 [J1,J2,J3,J4] [0,1,5,6,7,8] (λx=>[(7,.own (eOs 1 false F7_ x.1)),(8,.d (I x.2))]) ht5 [(7,.own (eOs 1 true F7_ [])),(8,.d (I 0))] [] λ⟨cr,i_⟩ m5 dj ah hl2 J5 dc=>?_;let Z0:List HO:=[Ha (lnM F7_ aj)];obtain c1|c1:=zy ah
  ·refine yNs 1112100120121001 [J1,J2,J3,J4,J5] [0,1,5,6,7,8] (zI (Ws i_) dj) (λz=>[(7,.own (eOs 1 false F7_ z))]) (Z0++[c1,Hh (.cut 0)]) ?_ λJ6 ep=>?_
   ·rintro ff ah;cases ah;exact yB dc _ hl2 []
   refine yMb 11121001201210012010 [J1,J2,J3,J4,J5,J6] [0,1,5,6,7,8,9] (λx=>[(7,.own (eOs 1 false F7_ x.1)),(9,.d (I x.2))]) c1.2  [] λt7 ah ⟨cb,s_⟩ m7 nb aw hl3 J7 gw=>?_;obtain c2|c2:=zy aw
   ·obtain⟨dn,h0,aw⟩:=zo c2.2;obtain⟨g0,aw⟩:=gdE aw;obtain⟨g1,aw⟩:=gdE aw;obtain⟨g2,aw⟩:=gdE aw;cases aw;exact yB gw _ hl3 [c2,Hn (iL F7_ h0),Hs (iM F7_ h0),Hs (iM F7_ h0),Hq (dM rE dn),Hs (iM F7_ h0),Hn (dM rE dn),Hn (aL rE rE g0),Hl (aM0 rE dn),Hq (dM rE [s_]),Hn (dM rE [s_]),Hn (aL rE rE g1),Hl (aM rE dn [s_]),Hq (oC F7_ (dn++[s_]) []),Hn (aL F7_ F7_ g2),Hl (aM F7_ cb [(dn++[s_])])]
   cases c2.2;cases hl3;exact yB ep cb ah [c2]
  cases c1.2;cases hl2;exact yB db cr ae (Z0++[c1])
 cases c0.2;cases hl1;exact yB ar aj aa [c0]
def zmC:List y8:=qW 39 rE rE z40 qM::zmD
def z6X:XH prog:=((Wc zt (.inl 16) [15]).or X0)
def z5A [H:HS z6X zmD]:OkH zmC:=yS2 true func39 λinputs k_ r0 aa E hE=>by
 refine yK 111 [] [5] (zI Kh r0) (λz=>[(5,.own (eOs 1 false F8_ z))]) [0,1,5] [Hh (.cut 2)] ?_ λJ1 ar=>?_
 ·rintro out aa;cases aa;exact yE hE []
 obtain⟨t2,ht2,aa⟩:=zo aa;refine yMx 111210 [J1] [0,1,5,6] (λx=>[(5,.own (eOs 1 false F8_ x.1)),(6,.d (I x.2))]) ht2 [(5,.own (eOs 1 true F8_ [])),(6,.d (I 0))] [] λ⟨aj,n_⟩ m2 av ae hl1 J2 au=>?_;obtain c0|c0:=zy ae
 ·obtain⟨r_,h0,ae⟩:=zo c0.2;obtain⟨g0,ae⟩:=gdE ae;cases ae;exact yB au _ hl1 [c0,zC2 0 h0,Hm (shM F7_ F8_ r_),Hn (dM F8_ r_),Hn (aL F8_ F8_ g0),Hl (aM F8_ aj r_)]
 cases c0.2;cases hl1;exact yB ar aj aa [c0]
def zmB:List y8:=qW 60 F8_ F8_ rE wz::zmC
def z1g [H:HS X0 zmC]:OkH zmB:=yS2 true func60 λa_ b_ r0 aa E hE=>by
 let Z0:List HO:=[Ha (lnM rE a_),Ha (lnM rE b_)];obtain c0|c0:=zy aa
 ·let Z1:List HO:=(Z0++[c0,Ha (lnM rE a_),Ha (lnM rE b_)]);obtain c1|c1:=zy c0.2
  ·cases c1.2;exact yE hE (Z1++[c1])
  cases c1.2;exact yE hE (Z1++[c1])
 refine yK 111 [] [] (λz:Unit=>U0=some r0) (λz=>[]) [0,1] (Z0++[c0,Hh (.cut 0)]) ?_ λJ1 ar=>?_
 ·rintro⟨⟩ aa;cases aa;exact yE hE []
 refine yMb 111210 [J1] [0,1,5] (λx=>[(5,.d (I x))]) c0.2  [] λt2 aa i_ m2 av ae hl1 J2 au=>?_;obtain c2|c2:=zy ae
 ·obtain⟨dv,h0,dx,h1,ae⟩:=yg c2.2;let Z2:List HO:=[Ha (lnM rE a_),c2,Hi rE h0,Hi rE h1];obtain c3|c3:=zy ae
  ·cases c3.2;cases hl1;cases aa;exact yE hE (Z2++[c3])
  obtain⟨i6,h2,l6,h3,ae⟩:=yg c3.2;let Z3:List HO:=(Z2++[c3,Hi rE h2,Hi rE h3]);obtain c4|c4:=zy ae
  ·cases c4.2;cases hl1;cases aa;exact yE hE (Z3++[c4])
  cases c4.2;exact yB au _ hl1 (Z3++[c4])
 cases c2.2;cases hl1;exact yB ar () aa [Ha (lnM rE a_),c2]
def zmA:List y8:=qW 63 z40 F8_ z40 Q2 [true,false]::zmB
def z2z:XH prog:=((Wc zt (.inr 66) [65]).or ((Wc zt (.inl 44) [43]).or X0))
def z7a [H:HS z2z zmB]:OkH zmA:=yS2 true func63 λl_ w_ r0 aa E hE=>by
 refine yN 1111 [] [0,1,5] (zI (Q1 l_ w_) r0) (λz=>[(5,.d (I z))]) [0,1,5,6] [Ha (lnM F8_ l_),Hh (.cut 0)] ?_ λJ1 ar=>?_
 ·rintro ir aa;refine yNs 11111 [] [0,1,5] (λz:Unit=>Yj l_ w_ ir=some r0) (λz=>[]) [Hh (.cut 0)] ?_ λJ2 au=>?_
  ·rintro⟨⟩ aa;obtain⟨g0,aa⟩:=gdE aa;refine yNs (H:=zx ((xNb zt 43).or z2z)) 1111111 [] [0,1,5] (zI (Q0 w_ ir) r0) (λz=>[(0,.own (eOs 1 false F8_ z))]) [Hm (shM F7_ F8_ ([[]])),Hn (dM F8_ ([[]]:List (List Int))),Hn (aL F8_ F8_ g0),Hl (aM F8_ l_ ([[]]:List (List Int))),Hh (.cut 0)] ?_ λJ3 bg=>?_
   ·rintro dr aa;obtain⟨g1,aa⟩:=gdE aa;obtain⟨bi,h0,aa⟩:=zo aa;cases aa;exact yE hE [Hn (dM rE w_),Hn (aL rE rE g1),Hl (aM0 rE w_),Hn (iL F8_ h0),Hm (shM rE rE w_),Hs (iM F8_ h0),Hs (iM F8_ h0),Hl (sM F8_ dr ir w_)]
   refine yMb 1111111210 [J3] [0,1,5,8] (λx=>[(0,.own (eOs 1 false F8_ x.1)),(8,.d (I x.2))]) aa  [Ha (lnM F8_ (l_++([[]]:List (List Int))))] λt4 aa ⟨j6,i_⟩ m4 av ae hl1 J4 db=>?_;obtain c0|c0:=zy ae
   ·obtain⟨ew,h1,nu,h2,ae⟩:=yg c0.2;cases ae;exact yB db _ hl1 [c0,Hn (iL F8_ h1),Hs (iM F8_ h1),Hn (iL F8_ h2),Hs (iM F8_ h2),Hs (iM F8_ h2),Hl (sM F8_ j6 i_ ew)]
   cases c0.2;cases hl1;exact yB bg j6 aa [c0]
  let Z0:List HO:=[Ha (lnM F8_ l_)];obtain c1|c1:=zy aa
  ·obtain⟨ow,h3,r_,h4,aa⟩:=yg c1.2;let Z1:List HO:=(Z0++[c1,c1,c1,Hn (iL F8_ h3),c1,Hs (iM F8_ h3),c1,c1,zC2 0 h4,c1,c1]);obtain c2|c2:=zy aa
   ·cases c2.2;exact yE hE (Z1++[c2])
   exact yB au () c2.2 (Z1++[c2])
  exact yB au () c1.2 (Z0++(rpN 8 (Hb c1) [qF]))
 refine yMb 111120 [J1] [0,1,5,6] (λx=>[(5,.d (I x.1)),(6,.d (I x.2))]) aa  [] λt5 aa ⟨lb,l5⟩ m5 av ae hl1 J5 dc=>?_;obtain c3|c3:=zy ae
 ·obtain⟨g2,ae⟩:=gdE c3.2;obtain⟨ox,h5,ai,h6,ae⟩:=yg ae;let Z2:List HO:=[c3,Hn g2,Hn (iL F8_ h5),Hs (iM F8_ h5),zC2 0 h6];obtain c4|c4:=zy ae
  ·cases c4.2;exact yB dc _ hl1 (Z2++[c4])
  cases c4.2;exact yB dc _ hl1 (Z2++[c4])
 cases c3.2;cases hl1;exact yB ar lb aa [c3]
def zmz:List y8:=ZY 31 wF z40 YW::zmA
def z5B [H:HS X0 zmA]:OkH zmz:=yS1 true func31 λl_ r0 aa E hE=>by
 refine yK 111 [] [3] (zI Ki r0) (λz=>[(3,.own (eOs 1 false F8_ z))]) [0,3] [Hh (.cut 2)] ?_ λJ1 ar=>?_
 ·rintro out aa;cases aa;exact yE hE []
 obtain⟨t2,ht2,aa⟩:=zo aa;refine yMx 111210 [J1] [0,3,4] (λx=>[(3,.own (eOs 1 false F8_ x.1)),(4,.d (I x.2))]) ht2 [(3,.own (eOs 1 true F8_ [])),(4,.d (I 0))] [] λ⟨aj,i_⟩ m2 av ae hl1 J2 au=>?_;let Z0:List HO:=[Ha (lnM F8_ l_)];obtain c0|c0:=zy ae
 ·obtain⟨bi,h0,r_,h1,ae⟩:=yg c0.2;cases ae;exact yB au _ hl1 (Z0++[c0,Hi F8_ h0,zC2 0 h1])
 cases c0.2;cases hl1;exact yB ar aj aa (Z0++[c0])
def zmy:List y8:=ZY 45 yZ z40 k8::zmz
def z2Q [H:HS X0 zmz]:OkH zmy:=yS1 true func45 λm_ r0 aa E hE=>by obtain⟨r_,h0,ai,h1,aa⟩:=yg aa;cases aa;exact yE hE [zC1 94 h0,Hk [] (z2k (hat 0)) (zf1 0 h1 (loC z5s r_.1 <| loN))]
def zmx:List y8:=qW 40 wF wF z40 xK::zmy
def z2T [H:HS X0 zmy]:OkH zmx:=yS2 true func40 λa_ b_ r0 aa E hE=>by
 refine yK 111 [] [5] (zI Q4 r0) (λz=>[(5,.own (eOs 1 false F8_ z))]) [0,1,5] [Hh (.cut 2)] ?_ λJ1 ar=>?_
 ·rintro out aa;cases aa;exact yE hE []
 obtain⟨t2,ht2,aa⟩:=zo aa;refine yMx 111210 [J1] [0,1,5,6] (λx=>[(5,.own (eOs 1 false F8_ x.1)),(6,.d (I x.2))]) ht2 [(5,.own (eOs 1 true F8_ [])),(6,.d (I 0))] [] λ⟨aj,i_⟩ m2 av ae hl1 J2 au=>?_;let Z0:List HO:=[Ha (lnM F8_ a_)];obtain c0|c0:=zy ae
 ·refine yNs 11121001 [J1,J2] [0,1,5,6] (zI (Xm i_) av) (λz=>[(5,.own (eOs 1 false F8_ z))]) (Z0++[c0,Hh (.cut 0)]) ?_ λJ3 bg=>?_
  ·rintro ax ae;cases ae;exact yB au _ hl1 []
  refine yMb 111210012010 [J1,J2,J3] [0,1,5,6,7] (λx=>[(5,.own (eOs 1 false F8_ x.1)),(7,.d (I x.2))]) c0.2  [] λt4 ae ⟨bo,k_⟩ m4 dj ah hl2 J4 db=>?_;let Z1:List HO:=[Ha (lnM F8_ b_)];obtain c1|c1:=zy ah
  ·obtain⟨dv,h0,ah⟩:=zo c1.2;obtain⟨g0,ah⟩:=gdE ah;obtain⟨dx,h1,ah⟩:=zo ah;obtain⟨g1,ah⟩:=gdE ah;obtain⟨r_,h2,ah⟩:=zo ah;cases ah;exact yB db _ hl2 (Z1++[c1,Hi F8_ h0,Hn (dM rE dv),Hn (aL rE rE g0),Hl (aM0 rE dv),Hi F8_ h1,Hn (dM rE dx),Hn (aL rE rE g1),Hl (aM rE dv dx),zg 2,Hm (shM rE rE (dv++dx)),Hs (zf2 2 h2 (loC z40 bo <| loC F8_ (dv++dx) <| loN))])
  cases c1.2;cases hl2;exact yB bg bo ae (Z1++[c1])
 cases c0.2;cases hl1;exact yB ar aj aa (Z0++[c0])
def zmw:List y8:=qW 78 yZ rE z40 Wp::zmx
def z0H [H:HS X0 zmx]:OkH zmw:=yS2 true func78 λm_ k_ r0 aa E hE=>by obtain⟨r_,h0,ai,h1,ak,h2,aa⟩:=ZS aa;cases aa;exact yE hE [zC1 1 h0,zC2 5 h1,zg 0,Hm (shM F8_ F8_ r_),Hm (shM F8_ F8_ ai),Hs (zf2 0 h2 (loC wF r_ <| loC wF ai <| loN)),Hm (shM F8_ F8_ r_),Hm (shM F8_ F8_ ai)]
def zmv:List y8:=ZY 41 yZ z40 wM::zmw
def Ju [H:HS X0 zmw]:OkH zmv:=yS1 true func41 λm_ r0 aa E hE=>by obtain⟨r_,h0,aa⟩:=zo aa;cases aa;exact yE hE [zC2 0 h0]
def zmu:List y8:=z0O 61 yZ rE F8_ F7_ Xu::zmv
def z7b [H:HS X0 zmv]:OkH zmu:=yS3 true func61 λm_ s_ w_ r0 aa E hE=>by
 refine yK 111 [] [7] (zI Q7 r0) (λz=>[(7,.own (eOs 1 false rE z))]) [1,2,3,7] [Hh (.cut 2)] ?_ λJ1 ar=>?_
 ·rintro out aa;cases aa;exact yE hE []
 obtain⟨t2,ht2,aa⟩:=zo aa;refine yMx 111210 [J1] [1,2,3,7,8] (λx=>[(1,.d (I x.1)),(7,.own (eOs 1 false rE x.2.1)),(8,.d (I x.2.2))]) ht2 [(1,.d (I s_)),(7,.own (eOs 1 true rE [])),(8,.d (I 0))] [] λ⟨bk,aj,k_⟩ m2 av ae hl1 J2 au=>?_;obtain c0|c0:=zy ae
 ·obtain⟨fc,h0,r_,h1,ae⟩:=yg c0.2;obtain⟨g0,ae⟩:=gdE ae;cases ae;exact yB au _ hl1 [Ha (lnM rE w_),c0,Hi rE h0,zC3 102 h1,Hq (dM rE [r_.Out]),Hn (dM rE [r_.Out]),Hn (aL rE rE g0),Hl (aM rE aj [r_.Out])]
 cases c0.2;cases hl1;exact yB ar aj aa [Ha (lnM rE w_),c0]
def zmt:List y8:=qW 191 F8_ F8_ rE VE::zmu
def z1l [H:HS X0 zmu]:OkH zmt:=yS2 true func191 λa_ b_ r0 aa E hE=>by
 let Z0:List HO:=[Ha (lnM rE a_),Ha (lnM rE b_)];obtain c0|c0:=zy aa
 ·cases c0.2;exact yE hE (Z0++[c0])
 let Z1:List HO:=(Z0++[c0,Ha (lnM rE a_),Ha (lnM rE b_)]);obtain c1|c1:=zy c0.2
 ·cases c1.2;exact yE hE (Z1++[c1])
 refine yK 1111 [] [] (λz:Unit=>YB=some r0) (λz=>[]) [0,1] (Z1++[c1,Hh (.cut 0)]) ?_ λJ1 ar=>?_
 ·rintro⟨⟩ aa;cases aa;exact yE hE []
 refine yMb 1111210 [J1] [0,1,5] (λx=>[(5,.d (I x))]) c1.2  [] λt2 aa i_ m2 av ae hl1 J2 au=>?_;obtain c2|c2:=zy ae
 ·obtain⟨dv,h0,dx,h1,ae⟩:=yg c2.2;let Z2:List HO:=[Ha (lnM rE a_),c2,Hi rE h0,Hi rE h1];obtain c3|c3:=zy ae
  ·cases c3.2;cases hl1;cases aa;exact yE hE (Z2++[c3])
  obtain⟨i6,h2,l6,h3,ae⟩:=yg c3.2;let Z3:List HO:=(Z2++[c3,Hi rE h2,Hi rE h3]);obtain c4|c4:=zy ae
  ·cases c4.2;cases hl1;cases aa;exact yE hE (Z3++[c4])
  cases c4.2;exact yB au _ hl1 (Z3++[c4])
 cases c2.2;cases hl1;exact yB ar () aa [Ha (lnM rE a_),c2]
def zms:List y8:=qW 170 F8_ F8_ eB Qw::zmt
def z5G [H:HS X0 zmt]:OkH zms:=yS2 true func170 λa_ b_ r0 aa E hE=>by obtain⟨r_,h0,aa⟩:=zo aa;cases aa;exact yE hE [zC2 0 h0]
def zmr:List y8:=zgJ 151 yZ F8_ rE rE rE W4::zms
def z2V [H:HS X0 zms]:OkH zmr:=yS4 true func151 λm_ w_ s_ t_ r0 aa E hE=>by
 obtain⟨r_,h0,ai,h1,ak,h2,aa⟩:=ZS aa;let Z0:List HO:=[zC3 2 h0,zC3 2 h1,zg 0,Hm (shM rE rE r_),Hm (shM rE rE ai),Hs (zf2 0 h2 (loC F8_ r_ <| loC F8_ ai <| loN))];obtain c0|c0:=zy aa
 ·cases c0.2;exact yE hE (Z0++[c0])
 cases c0.2;exact yE hE (Z0++[c0])
def zmq:List y8:=qW 150 F8_ rE F7_ z00::zmr
def z5D [H:HS X0 zmr]:OkH zmq:=yS2 true func150 λw_ inputs r0 aa E hE=>by
 obtain⟨g0,aa⟩:=gdE aa;refine yK 111 [] [5] (zI Kj r0) (λz=>[(5,.own (eOs 1 false rE z))]) [1,5] [Hn (dM rE w_),Hn (aL rE rE g0),Hl (aM0 rE w_),Hh (.cut 0)] ?_ λJ1 ar=>?_
 ·rintro out aa;obtain⟨g1,aa⟩:=gdE aa;cases aa;exact yE hE [Hq (dM rE ([0]:List Int)),Hn (dM rE ([0]:List Int)),Hn (aL rE rE g1),Hl (aM rE out ([0]:List Int))]
 refine yMb 111210 [J1] [1,5,6] (λx=>[(5,.own (eOs 1 false rE x.1)),(6,.d (I x.2))]) aa  [Ha (lnM rE w_)] λt2 aa ⟨aj,k_⟩ m2 av ae hl1 J2 au=>?_;obtain c0|c0:=zy ae
 ·obtain⟨dn,h0,ae⟩:=zo c0.2;let Z0:List HO:=[c0,Hn (iL rE h0),Hs (iM rE h0)];obtain c1|c1:=zy ae
  ·obtain⟨jr,h1,o7,h2,ae⟩:=yg c1.2;cases ae;cases hl1;cases aa;exact yE hE (Z0++[c1,Hn (iL rE h1),Hs (iM rE h1),Hn (iL rE h2),Hs (iM rE h2),Hs (iM rE h2),Hl (sM rE aj k_ (w64 (jr+1)))])
  obtain⟨o8,h3,ae⟩:=zo c1.2;cases ae;exact yB au _ hl1 (Z0++[c1,Hn (iL rE h3),Hs (iM rE h3),Hs (iM rE h3),Hl (sM rE aj k_ 0)])
 cases c0.2;cases hl1;exact yB ar aj aa [c0]
def zmp:List y8:=z0O 121 yZ rE rE (eT2 F8_ eB) wI::zmq
def z0I [H:HS X0 zmq]:OkH zmp:=yS3 false func121 λm_ s_ t_ r0 aa E hE=>by
 refine yK 11 [] [] (λz:Unit=>WV=some r0) (λz=>[]) [1,2,3] [Hh (.cut 1)] ?_ λJ1 ar=>?_
 ·rintro⟨⟩ aa;cases aa;exact yEl hE [Hm (shM rE rE [])]
 obtain⟨t2,ht2,aa⟩:=zo aa;refine yMx 11210 [J1] [1,2,3,8] (λx=>[(8,.own (eOs 1 false rE x))]) ht2 [(8,.own (eOs 1 true rE []))] [] λw_ m2 av ae hl1 J2 au=>?_;let Z0:List HO:=[Ha (lnM rE w_),Ha (lnM xH m_.Rows)];obtain c0|c0:=zy ae
 ·obtain⟨r_,h0,ae⟩:=zo c0.2;let Z1:List HO:=(Z0++[Hb c0,zg 1,Hm (shM rE rE w_),Hs (zf4 1 h0 (loC yZ m_ <| loC F8_ w_ <| loC rE s_ <| loC rE t_ <| loN))]);obtain c1|c1:=zy ae
  ·cases c1.2;cases hl1;cases aa;exact yE hE (Z1++[Hb c1,Hm (shM rE rE w_)])
  obtain⟨ai,h1,ae⟩:=zo c1.2;cases ae;exact yB au _ hl1 (Z1++[Hb c1,zg 0,Hm (shM rE rE w_),Hs (zf2 0 h1 (loC F8_ w_ <| loC rE m_.Inputs <| loN)),Hm (shM rE rE w_)])
 cases c0.2;cases hl1;exact yB ar () aa (Z0++[Hb c0])
def zmo:List y8:=qW 80 yZ rE z40 Xi::zmp
def z4h [H:HS X0 zmp]:OkH zmo:=yS2 true func80 λm_ s_ r0 aa E hE=>by
 refine yK 111 [] [5] (zI Wo r0) (λz=>[(5,.own (eOs 1 false F8_ z))]) [1,2,5] [Hh (.cut 2)] ?_ λJ1 ar=>?_
 ·rintro out aa;obtain⟨r_,h0,aa⟩:=zo aa;cases aa;exact yE hE [zg 10,Hm (shM F8_ F8_ out),Hs (zf1 10 h0 (loC wF out <| loN)),Hm (shM F8_ F8_ out)]
 obtain⟨t2,ht2,aa⟩:=zo aa;refine yMx 111210 [J1] [1,2,5,6] (λx=>[(5,.own (eOs 1 false F8_ x.1)),(6,.d (I x.2))]) ht2 [(5,.own (eOs 1 true F8_ [])),(6,.d (I 0))] [] λ⟨aj,a_⟩ m2 av ae hl1 J2 au=>?_;let Z0:List HO:=[Ha (lnM xH m_.Rows)];obtain c0|c0:=zy ae
 ·refine yNs 11121001 [J1,J2] [1,2,5,6] (zI (Wn a_) av) (λz=>[(5,.own (eOs 1 false F8_ z))]) (Z0++[c0,Hh (.cut 0)]) ?_ λJ3 bg=>?_
  ·rintro ax ae;cases ae;exact yB au _ hl1 []
  refine yMb 111210012010 [J1,J2,J3] [1,2,5,6,7] (λx=>[(5,.own (eOs 1 false F8_ x.1)),(7,.d (I x.2))]) c0.2  [] λt4 ae ⟨bo,b_⟩ m4 dj ah hl2 J4 db=>?_;let Z1:List HO:=[Ha (lnM xH m_.Rows)];obtain c1|c1:=zy ah
  ·refine yNs 11121001201001 [J1,J2,J3,J4] [1,2,5,6,7] (zI (wH b_) dj) (λz=>[(5,.own (eOs 1 false F8_ z))]) (Z1++[c1,Hh (.cut 0)]) ?_ λJ5 dc=>?_
   ·rintro gx ah;cases ah;exact yB db _ hl2 []
   obtain c2|c2:=zy c1.2
   ·obtain⟨ai,h1,ah⟩:=zo c2.2;obtain⟨g0,ah⟩:=gdE ah;exact yB dc (bo++[ai.1]) ah (rpN 4 (Hb c2) (rpN 5 qT [zC3 0 h1,Hq (dM F8_ [ai.1]),Hn (dM F8_ [ai.1]),Hn (aL F8_ F8_ g0),Hl (aM F8_ bo [ai.1])]))
   let Z2:List HO:=(rpN 4 (Hb c2) []);obtain c3|c3:=zy c2.2
   ·obtain⟨ak,h2,ah⟩:=zo c3.2;obtain⟨g1,ah⟩:=gdE ah;exact yB dc (bo++[ak.1]) ah (Z2++(rpN 4 (Hb c3) [qT,zC3 0 h2,Hq (dM F8_ [ak.1]),Hn (dM F8_ [ak.1]),Hn (aL F8_ F8_ g1),Hl (aM F8_ bo [ak.1])]))
   let Z3:List HO:=(Z2++(rpN 4 (Hb c3) []));obtain c4|c4:=zy c3.2
   ·obtain⟨am,h3,ah⟩:=zo c4.2;obtain⟨g2,ah⟩:=gdE ah;exact yB dc (bo++[am.1]) ah (Z3++[c4,zC3 0 h3,Hq (dM F8_ [am.1]),Hn (dM F8_ [am.1]),Hn (aL F8_ F8_ g2),Hl (aM F8_ bo [am.1])])
   exact yB dc bo c4.2 (Z3++[c4])
  cases c1.2;cases hl2;exact yB bg bo ae (Z1++[c1])
 cases c0.2;cases hl1;exact yB ar aj aa (Z0++[c0])
def zmn:List y8:=ZY 44 yZ z40 UX::zmo
def z79 [H:HS X0 zmo]:OkH zmn:=yS1 true func44 λm_ r0 aa E hE=>by obtain⟨r_,h0,aa⟩:=zo aa;cases aa;exact yE hE [zC2 0 h0]
def zmm:List y8:=ZY 43 wF wF YV::zmn
def z5y [H:HS X0 zmn]:OkH zmm:=yS1 false func43 λl_ r0 aa E hE=>by
 let Z0:List HO:=[Ha (lnM F8_ l_)];obtain c0|c0:=zy aa
 ·cases c0.2;exact yEl hE (Z0++[c0,Hm (shM F5_ F4_ ([[]]))])
 cases c0.2;exact yE hE (Z0++[Hb c0])
def zml:List y8:=qW 79 F8_ F8_ eB W2::zmm
def z2R [H:HS X0 zmm]:OkH zml:=yS2 true func79 λa_ b_ r0 aa E hE=>by
 let Z0:List HO:=[Ha (lnM rE a_),Ha (lnM rE b_)];obtain c0|c0:=zy aa
 ·obtain⟨g0,aa⟩:=gdE c0.2;obtain⟨r_,h0,aa⟩:=zo aa;cases aa;exact yE hE (Z0++(rpN 4 (Hb c0) [Ha (lnM rE a_),c0,Hn (slB g0),Hn (zgK rE g0),Ha (slM 1 false rE b_ 0 ((a_.length:Nat):Int).toNat),c0,zC2 15 h0,c0,c0]))
 cases c0.2;exact yE hE (Z0++(rpN 8 (Hb c0) []))
def zmk:List y8:=ZY 42 wF z40 qt::zml
def z2S [H:HS X0 zml]:OkH zmk:=yS1 true func42 λl_ r0 aa E hE=>by
 refine yK 111 [] [3] (zI Q3 r0) (λz=>[(3,.own (eOs 1 false F8_ z))]) [0,3] [Hh (.cut 2)] ?_ λJ1 ar=>?_
 ·rintro out aa;cases aa;exact yE hE []
 obtain⟨t2,ht2,aa⟩:=zo aa;refine yMx 111210 [J1] [0,3,4] (λx=>[(3,.own (eOs 1 false F8_ x.1)),(4,.d (I x.2))]) ht2 [(3,.own (eOs 1 true F8_ [])),(4,.d (I 0))] [] λ⟨aj,i_⟩ m2 av ae hl1 J2 au=>?_;let Z0:List HO:=[Ha (lnM F8_ l_)];obtain c0|c0:=zy ae
 ·refine yNs 11121001 [J1,J2] [0,3,4] (zI (kU i_) av) (λz=>[(3,.own (eOs 1 false F8_ z))]) (Z0++[c0,Hh (.cut 0)]) ?_ λJ3 bg=>?_
  ·rintro ax ae;cases ae;exact yB au _ hl1 []
  refine yNs 11121001201 [J1,J2,J3] [0,3,4,5] (zI (Xk l_ aj i_) av) (λz=>[(5,.d (B z))]) [Hh (.cut 1)] ?_ λJ4 db=>?_
  ·rintro oi ae;obtain c1|c1:=zy ae
   ·obtain⟨bi,h0,ae⟩:=zo c1.2;obtain⟨g0,ae⟩:=gdE ae;exact yB bg (aj++[bi]) ae [c1,Hi F8_ h0,Hq (dM F8_ [bi]),Hn (dM F8_ [bi]),Hn (aL F8_ F8_ g0),Hl (aM F8_ aj [bi])]
   exact yB bg aj c1.2 [c1]
  refine yMb 11121001201210 [J1,J2,J3,J4] [0,3,4,5,6] (λx=>[(5,.d (B x.1)),(6,.d (I x.2))]) c0.2  [] λt5 ae ⟨lv,k_⟩ m5 dj ah hl2 J5 dc=>?_;let Z1:List HO:=[Ha (lnM F8_ l_)];obtain c2|c2:=zy ah
  ·obtain c3|c3:=zy c2.2
   ·cases c3.2;exact yB dc _ hl2 (Z1++(Hb c2::(rpN 10 (Hb c3) [])))
   obtain⟨ew,h1,nu,h2,r_,h3,ah⟩:=ZS c3.2;cases ah;exact yB dc _ hl2 (Z1++(Hb c2::Hb c3::Hb c3::Hb c3::Hi F8_ h1::(rpN 4 (Hb c3) [Hi F8_ h2,c3,c3,zC2 0 h3,c3])))
  cases c2.2;cases hl2;exact yB db lv ae (Z1++[c2])
 cases c0.2;cases hl1;exact yB ar aj aa (Z0++[c0])
def zmj:List y8:=qW 15 yZ rE z40 z4L::zmk
def z9S [H:HS X0 zmk]:OkH zmj:=yS2 true func15 λm_ bound r0 aa E hE=>by obtain⟨r_,h0,ai,h1,ak,h2,am,h3,az,h4,aa⟩:=zeR aa;obtain⟨bn,h5,cx,h6,aa⟩:=yg aa;cases aa;exact yE hE [Ha (lnM xH m_.Rows),zC2 18 h0,zC1 11 h1,zg 13,Hm (shM F8_ F8_ ai),Hm (shM F8_ F8_ r_),Hs (zf2 13 h2 (loC wF ai <| loC wF r_ <| loN)),Hm (shM F8_ F8_ ai),Hm (shM F8_ F8_ r_),zC1 3 h3,zg 2,Hm (shM F8_ F8_ am),Hs (zf1 2 h4 (loC wF am <| loN)),Hm (shM F8_ F8_ am),zg 13,Hm (shM F8_ F8_ ak),Hs (zf2 13 h5 (loC wF ak <| loC wF az <| loN)),Hm (shM F8_ F8_ ak),zg 0,Hm (shM F8_ F8_ bn),Hs (zf1 0 h6 (loC wF bn <| loN)),Hm (shM F8_ F8_ bn)]
def zmi:List y8:=qW 38 wF wF eB WT::zmj
def z5C [H:HS X0 zmj]:OkH zmi:=yS2 true func38 λa_ b_ r0 aa E hE=>by
 let Z0:List HO:=[Ha (lnM F8_ a_),Ha (lnM F8_ b_)];obtain c0|c0:=zy aa
 ·cases c0.2;exact yE hE (Z0++[c0])
 refine yK 111 [] [] (λz:Unit=>Vw=some r0) (λz=>[]) [0,1] (Z0++[c0,Hh (.cut 0)]) ?_ λJ1 ar=>?_
 ·rintro⟨⟩ aa;cases aa;exact yE hE []
 refine yMb 111210 [J1] [0,1,5] (λx=>[(5,.d (I x))]) c0.2  [] λt2 aa i_ m2 av ae hl1 J2 au=>?_;let Z1:List HO:=[Ha (lnM F8_ a_)];obtain c1|c1:=zy ae
 ·obtain⟨dv,h0,dx,h1,r_,h2,ae⟩:=ZS c1.2;let Z2:List HO:=(Z1++[c1,Hi F8_ h0,Hi F8_ h1,zC2 18 h2]);obtain c2|c2:=zy ae
  ·cases c2.2;cases hl1;cases aa;exact yE hE (Z2++[c2])
  cases c2.2;exact yB au _ hl1 (Z2++[c2])
 cases c1.2;cases hl1;exact yB ar () aa (Z1++[c1])
def zmh:List y8:=qW 14 WF wF eB QF::zmi
def z5H [H:HS X0 zmi]:OkH zmh:=yS2 true func14 λa_ b_ r0 aa E hE=>by
 obtain⟨r_,h0,aa⟩:=zo aa;let Z0:List HO:=[Hk [] (z2k (hat 0)) (zf2 0 h0 (loC WF a_ <| loC wF b_ <| loN))];obtain c0|c0:=zy aa
 ·cases c0.2;exact yE hE (Z0++[c0,c0,Ha (lnM F4_ a_),c0,c0,Ha (lnM F4_ a_),c0,c0])
 cases c0.2;exact yE hE (Z0++(rpN 6 (Hb c0) []))
def zmg:List y8:=zi6 50 zg4 Kr::zmh
def z1o [H:HS X0 zmh]:OkH zmg:=yS0 false func50 λr0 aa E hE=>by cases aa;exact yE hE [Hm (shM (eOs 2 true WD) zoo ([[(zl.mk 1 0),(zl.mk 0 0)],[(zl.mk 2 0),(zl.mk 1 1)],[(zl.mk 0 1),(zl.mk 2 0)]]))]
def zmf:List y8:=zi6 18 eB VJ::zmg
def z4r [H:HS X0 zmg]:OkH zmf:=yS0 true func18 λr0 aa E hE=>by
 let u0:=([[1,0],[1,1],[0,1,0],[0,1,1],[0,0,0,0],[0,0,0,1],[0,0,1,0],[0,0,1,1]]:List (List Int));obtain⟨r_,h0,ai,h1,ak,h2,am,h3,aa⟩:=z7P aa;let Z0:List HO:=[zC0 0 h0,Hk [] (z2k (hat 27)) (zf3 27 h1 (loC zg4 r_ <| loC rE 3 <| loC rE 8 <| loN)),Hk [] (z2k (hat 26)) (zf3 26 h2 (loC zg4 r_ <| loC rE 3 <| loC rE 4096 <| loN)),Hk [] (z2k (hat 25)) (zf3 25 h3 (loC zg4 r_ <| loC rE 3 <| loC rE 4096 <| loN))];obtain c0|c0:=zy aa
 ·cases c0.2;exact yE hE (Z0++(Hb c0::Hb c0::Hb c0::(rpN 21 qT [])))
 obtain c1|c1:=zy c0.2
 ·cases c1.2;exact yE hE (Z0++(Hb c0::Hb c0::Hb c0::Hb c1::Hb c1::Hb c1::(rpN 18 qT [])))
 let Z1:List HO:=(Z0++[c0,c0,c0,c1,c1,c1]);obtain c2|c2:=zy c1.2
 ·cases c2.2;exact yE hE (Z1++(rpN 5 (Hb c2) (rpN 13 qT [])))
 obtain⟨az,h4,aa⟩:=zo c2.2;let Z2:List HO:=(Z1++[c2,c2,c2,Hm (shM F5_ F4_ ([[1,0],[1,1],[0,1,0],[0,1,1],[0,0,0,0],[0,0,0,1],[0,0,1,0],[0,0,1,1]])),Hn (Wj (f:=.fn 14 []) (xs:=[WF ai.1,wF u0]) (ls:=[]) (r:=B az) (ys:=[]) [WF ai.1,WF u0] (show JO [WF ai.1,WF u0] [WF ai.1,wF u0] from inferInstance)),c2,c2]);obtain c3|c3:=zy aa
 ·cases c3.2;exact yE (H:=zx ((Zo (P:=prog) ua [] (lentCall ((zk2 1 h4 :))) 49).or X0)) hE (Z2++(rpN 6 (Hb c3) (rpN 7 qT [])))
 obtain⟨g0,aa⟩:=gdE c3.2;obtain⟨bn,h5,aa⟩:=zo aa;let Z3:List HO:=(Z2++[c3,c3,c3,Hn (slB g0),Hn (zgK F4_ g0),Ha (slM 1 (true&&(7:Int).toNat==(u0.map F4_).length) F4_ u0 0 (7:Int).toNat),c3,Hn (Wj (f:=.fn 14 []) (xs:=[WF ak.1,wF ((u0.drop 0).take ((7:Int).toNat - 0))]) (ls:=[]) (r:=B bn) (ys:=[]) [WF ak.1,(eSl 1 (true&&(7:Int).toNat==(u0.map F4_).length) F4_) ((u0.drop 0).take ((7:Int).toNat - 0))] (show JO [WF ak.1,(eSl 1 (true&&(7:Int).toNat==(u0.map F4_).length) F4_) ((u0.drop 0).take ((7:Int).toNat - 0))] [WF ak.1,wF ((u0.drop 0).take ((7:Int).toNat - 0))] from inferInstance)),c3,c3]);obtain c4|c4:=zy aa
 ·cases c4.2;exact yE (H:=zx ((Zo (P:=prog) ua [] (lentCall ((zk2 1 h5 :))) 56).or ((Zo (P:=prog) ua [] (lentCall ((zk2 1 h4 :))) 49).or X0))) hE (Z3++(rpN 6 (Hb c4) [qT]))
 obtain⟨g1,aa⟩:=gdE c4.2;obtain⟨cx,h6,aa⟩:=zo aa;let Z4:List HO:=(Z3++[c4,c4,c4,Hn (slB g1),Hn (zgK F4_ g1),Ha (slM 1 (true&&(7:Int).toNat==(u0.map F4_).length) F4_ u0 0 (7:Int).toNat),c4,Hn (Wj (f:=.fn 14 []) (xs:=[WF am.1,wF ((u0.drop 0).take ((7:Int).toNat - 0))]) (ls:=[]) (r:=B cx) (ys:=[]) [WF am.1,(eSl 1 (true&&(7:Int).toNat==(u0.map F4_).length) F4_) ((u0.drop 0).take ((7:Int).toNat - 0))] (show JO [WF am.1,(eSl 1 (true&&(7:Int).toNat==(u0.map F4_).length) F4_) ((u0.drop 0).take ((7:Int).toNat - 0))] [WF am.1,wF ((u0.drop 0).take ((7:Int).toNat - 0))] from inferInstance)),c4,c4]);obtain c5|c5:=zy aa
 ·cases c5.2;exact yE (H:=zx ((Zo (P:=prog) ua [] (lentCall ((zk2 1 h6 :))) 63).or ((Zo (P:=prog) ua [] (lentCall ((zk2 1 h5 :))) 56).or ((Zo (P:=prog) ua [] (lentCall ((zk2 1 h4 :))) 49).or X0)))) hE (Z4++[c5])
 obtain⟨gb,h7,iy,h8,gr,h9,im,h10,aa⟩:=z7P c5.2;let Z5:List HO:=(Z4++[c5,Hk [] (z2k (hat 27)) (zf3 27 h7 (loC zg4 r_ <| loC rE 2 <| loC rE 9 <| loN)),Hk [] (z2k (hat 27)) (zf3 27 h8 (loC zg4 r_ <| loC rE 8 <| loC rE 9 <| loN)),Hk [] (z2k (hat 27)) (zf3 27 h9 (loC zg4 r_ <| loC rE 3 <| loC rE 7 <| loN)),Hk [] (z2k (hat 24)) (zf2 24 h10 (loC zg4 r_ <| loC rE 3 <| loN))]);obtain c6|c6:=zy aa
 ·obtain c7|c7:=zy c6.2
  ·let Z6:List HO:=(Z5++[c6,c6,c6,c7,c7,c7]);obtain c8|c8:=zy c7.2
   ·obtain c9|c9:=zy c8.2
    ·cases c9.2;exact yE (H:=zx ((Zo (P:=prog) ua [] (lentCall ((zk2 1 h6 :))) 63).or ((Zo (P:=prog) ua [] (lentCall ((zk2 1 h5 :))) 56).or ((Zo (P:=prog) ua [] (lentCall ((zk2 1 h4 :))) 49).or X0)))) hE (Z6++(Hb c8::Hb c8::Hb c8::(rpN 4 (Hb c9) [])))
    cases c9.2;exact yE (H:=zx ((Zo (P:=prog) ua [] (lentCall ((zk2 1 h6 :))) 63).or ((Zo (P:=prog) ua [] (lentCall ((zk2 1 h5 :))) 56).or ((Zo (P:=prog) ua [] (lentCall ((zk2 1 h4 :))) 49).or X0)))) hE (Z6++(Hb c8::Hb c8::Hb c8::(rpN 4 (Hb c9) [])))
   cases c8.2;exact yE (H:=zx ((Zo (P:=prog) ua [] (lentCall ((zk2 1 h6 :))) 63).or ((Zo (P:=prog) ua [] (lentCall ((zk2 1 h5 :))) 56).or ((Zo (P:=prog) ua [] (lentCall ((zk2 1 h4 :))) 49).or X0)))) hE (Z6++(Hb c8::Hb c8::Hb c8::(rpN 4 qF [])))
  cases c7.2;exact yE (H:=zx ((Zo (P:=prog) ua [] (lentCall ((zk2 1 h6 :))) 63).or ((Zo (P:=prog) ua [] (lentCall ((zk2 1 h5 :))) 56).or ((Zo (P:=prog) ua [] (lentCall ((zk2 1 h4 :))) 49).or X0)))) hE (Z5++(Hb c6::Hb c6::Hb c6::Hb c7::Hb c7::Hb c7::(rpN 7 qF [])))
 cases c6.2;exact yE (H:=zx ((Zo (P:=prog) ua [] (lentCall ((zk2 1 h6 :))) 63).or ((Zo (P:=prog) ua [] (lentCall ((zk2 1 h5 :))) 56).or ((Zo (P:=prog) ua [] (lentCall ((zk2 1 h4 :))) 49).or X0)))) hE (Z5++(Hb c6::Hb c6::Hb c6::(rpN 10 qF [])))
def zme:List y8:=z0O 55 yZ rE F8_ (λr:List Int×Int=>.opq (Qq [some (F5_ r.1),some (rE r.2)])) ki::zmf
def z30 [H:HS X0 zmf]:OkH zme:=by
 refine zO3 λm_ s_ w_ r0 aa=>?_;try unfold ki at aa;refine z5g (tt:=ua) (rs:=[(true,6,none),(false,7,none)]) (n:=⟨f55.ntmps,[]⟩) (body:=zbd f55) zt func55 rfl (by kernel_rfl) rfl rfl (by show(3:Nat)<=33;decide) λE hE=>?_
 obtain⟨r_,h0,aa⟩:=zo aa;let Z0:List HO:=[zC2 35 h0];obtain c0|c0:=zy aa
 ·obtain rfl:=wL c0.2;let ZE:List HO:=(Z0++[c0]);exact z2v X0 zt H.ok z20 hE 4000 (hs:=hoH ZE) (x:=(.opq (Qq [some (eOs 1 true rE []),some (I r_)]))) (hoB ZE) (by kernel_rfl) (show LeV (.opq (Qq [some (eOs 1 true rE []),some (I r_)])) (.opq (Qq [some (eOs 1 true rE ([]:List Int)),some (I r_)])) from inferInstance)
 obtain⟨ai,h1,aa⟩:=zo c0.2;let Z1:List HO:=(Z0++[c0,zC2 79 h1]);obtain c1|c1:=zy aa
 ·obtain rfl:=wL c1.2;let ZE:List HO:=(Z1++[c1]);exact z2v X0 zt H.ok z20 hE 4000 (hs:=hoH ZE) (x:=(.opq (Qq [some (eOs 1 true rE []),some (I ai)]))) (hoB ZE) (by kernel_rfl) (show LeV (.opq (Qq [some (eOs 1 true rE []),some (I ai)])) (.opq (Qq [some (eOs 1 true rE ([]:List Int)),some (I ai)])) from inferInstance)
 obtain⟨ak,h2,aa⟩:=zo c1.2;obtain rfl:=wL aa;let ZE:List HO:=(Z1++[c1,zC3 34 h2,Hn (⟨rfl,rfl⟩:T.own (.opq (Qq [some (eOs 1 true rE ak.1),some (I ak.2)]))=T.own (.opq (Qq [some (eOs 1 true rE ak.1),some (I ak.2)]))/\1=1),Hn (⟨rfl,rfl⟩:T.own (.opq (Qq [none,some (I ak.2)]))=T.own (.opq (Qq [none,some (I ak.2)]))/\1=1)]);exact z2v ((z0A prog 31 [none,some (I ak.2)]).or ((z0A prog 30 [some (eOs 1 true rE ak.1),some (I ak.2)]).or X0)) zt H.ok z20 hE 4000 (hs:=hoH ZE) (x:=(.opq (Qq [some (eOs 1 true rE ak.1),some (I 0)]))) (hoB ZE) (by kernel_rfl) (LeV.refl _)
def zmd:List y8:=z0O 21 yZ yZ wF (eT2 eB rE) vd::zme
def z2M [H:HS X0 zme]:OkH zmd:=yS3 false func21 λm_ other l_ r0 aa E hE=>by
 refine yNs 11 [] [2,3,4] (λz:Unit=>vN m_ other l_=some r0) (λz=>[]) [Hh (.cut 1)] ?_ λJ1 ar=>?_
 ·rintro⟨⟩ aa;obtain c0|c0:=zy aa
  ·cases c0.2;exact yE hE [c0]
  obtain⟨r_,h0,aa⟩:=zo c0.2;let Z0:List HO:=[c0,zC2 63 h0];obtain c1|c1:=zy aa
  ·cases c1.2;exact yE hE (Z0++[c1])
  refine yK 11111 [] [] (λz:Unit=>UP=some r0) (λz=>[]) [2,3,4] (Z0++[c1,Hh (.cut 0)]) ?_ λJ2 au=>?_
  ·rintro⟨⟩ aa;cases aa;exact yE hE []
  refine yMb 11111210 [J2] [3,4,44,45,46] (λx=>[(46,.d (I x))]) c1.2  [Ha (lnM F8_ l_)] λt3 aa nh m3 av ae hl1 J3 bg=>?_;obtain c2|c2:=zy ae
  ·obtain⟨bi,h1,ai,h2,ak,h3,am,h4,ae⟩:=z7P c2.2;let Z1:List HO:=[c2,Hi F8_ h1,zC3 0 h2,Hn (⟨rfl,rfl⟩:T.own (.opq (Qq [some (eOs 1 true rE ai.1),some (I ai.2)]))=T.own (.opq (Qq [some (eOs 1 true rE ai.1),some (I ai.2)]))/\1=1),Hn (⟨rfl,rfl⟩:T.own (.opq (Qq [none,some (I ai.2)]))=T.own (.opq (Qq [none,some (I ai.2)]))/\1=1),zC3 0 h3,Hn (⟨rfl,rfl⟩:T.own (.opq (Qq [some (eOs 1 true rE ak.1),some (I ak.2)]))=T.own (.opq (Qq [some (eOs 1 true rE ak.1),some (I ak.2)]))/\1=1),Hn (⟨rfl,rfl⟩:T.own (.opq (Qq [none,some (I ak.2)]))=T.own (.opq (Qq [none,some (I ak.2)]))/\1=1),zg 94,Hm (shM rE rE ai.1),Hm (shM rE rE ak.1),Hs (zf2 94 h4 (loC F4_ ai.1 <| loC F4_ ak.1 <| loN))];obtain c3|c3:=zy ae
   ·cases c3.2;cases hl1;cases aa;exact yE (H:=zx ((z0A prog 61 [none,some (I ak.2)]).or ((z0A prog 60 [some (eOs 1 true rE ak.1),some (I ak.2)]).or ((z0A prog 55 [none,some (I ai.2)]).or ((z0A prog 54 [some (eOs 1 true rE ai.1),some (I ai.2)]).or X0))))) hE (Z1++[c3])
   cases c3.2;exact yB (H:=zx ((z0A prog 61 [none,some (I ak.2)]).or ((z0A prog 60 [some (eOs 1 true rE ak.1),some (I ak.2)]).or ((z0A prog 55 [none,some (I ai.2)]).or ((z0A prog 54 [some (eOs 1 true rE ai.1),some (I ai.2)]).or X0))))) bg _ hl1 (Z1++[c3])
  cases c2.2;cases hl1;exact yB au () aa [c2]
 refine yMb 11210 [J1] [2,3,4,20,21,22] (λx=>[(22,.d (I x))]) aa  [Ha (lnM yZ [m_,other])] λt4 aa pe m4 av ae hl1 J4 db=>?_;obtain c4|c4:=zy ae
 ·obtain⟨mj,h5,az,h6,ae⟩:=yg c4.2;let Z2:List HO:=[c4,Hn (iL yZ h5),Hs (iM yZ h5),zC1 108 h6];obtain c5|c5:=zy ae
  ·cases c5.2;cases hl1;cases aa;exact yE hE (Z2++[c5])
  cases c5.2;exact yB db _ hl1 (Z2++[c5])
 cases c4.2;cases hl1;exact yB ar () aa [c4]
def zmc:List y8:=ZY 22 yZ rE XB::zmd
def z4q [H:HS X0 zmd]:OkH zmc:=yS1 true func22 λm_ r0 aa E hE=>by
 let Z0:List HO:=[Ha (lnM xH m_.Rows)];obtain c0|c0:=zy aa
 ·cases c0.2;exact yE hE (Z0++[c0])
 refine yK 111 [] [] (λz:Unit=>Jp=some r0) (λz=>[]) [1] (Z0++[c0,Hh (.cut 0)]) ?_ λJ1 ar=>?_
 ·rintro⟨⟩ aa;cases aa;exact yE hE []
 refine yMb 111210 [J1] [1,3] (λx=>[(3,.d (I x))]) c0.2  [] λt2 aa s_ m2 av ae hl1 J2 au=>?_;let Z1:List HO:=[Ha (lnM xH m_.Rows)];obtain c1|c1:=zy ae
 ·obtain⟨ap,h0,ae⟩:=zo c1.2;let Z2:List HO:=(Z1++[c1,Hi xH h0,Ha (lnM WD ap)]);obtain c2|c2:=zy ae
  ·cases c2.2;cases hl1;cases aa;exact yE hE (Z2++[c2])
  cases c2.2;exact yB au _ hl1 (Z2++[c2])
 cases c1.2;cases hl1;exact yB ar () aa (Z1++[c1])
def zkg:List y8:=ZY 23 wF rE Xj::zmc
def z4i [H:HS X0 zmc]:OkH zkg:=yS1 true func23 λl_ r0 aa E hE=>by
 refine yK 111 [] [3] (zI Jh r0) (λz=>[(3,.d (I z))]) [0,3] [Hh (.cut 2)] ?_ λJ1 ar=>?_
 ·rintro n_ aa;cases aa;exact yE hE []
 refine yMb 111210 [J1] [0,3,4] (λx=>[(3,.d (I x.1)),(4,.d (I x.2))]) aa  [] λt2 aa ⟨ca,i_⟩ m2 av ae hl1 J2 au=>?_;let Z0:List HO:=[Ha (lnM F8_ l_)];obtain c0|c0:=zy ae
 ·obtain⟨bi,h0,ae⟩:=zo c0.2;cases ae;exact yB au _ hl1 (Z0++[c0,Hi F8_ h0,Ha (lnM rE bi)])
 cases c0.2;cases hl1;exact yB ar ca aa (Z0++[c0])
def zmb:List y8:=ZY 26 yZ rE ZI::zkg
def z4o [H:HS X0 zkg]:OkH zmb:=yS1 true func26 λm_ r0 aa E hE=>by
 obtain c0|c0:=zy aa
 ·cases c0.2;exact yE hE (rpN 4 (Hb c0) (rpN 6 qT []))
 let Z0:List HO:=(rpN 4 (Hb c0) []);obtain c1|c1:=zy c0.2
 ·cases c1.2;exact yE hE (Z0++(rpN 5 (Hb c1) [qT]))
 let Z1:List HO:=(Z0++[c1,c1,c1,Ha (lnM xH m_.Rows),c1,c1]);obtain c2|c2:=zy c1.2
 ·cases c2.2;exact yE hE (Z1++[c2])
 obtain c3|c3:=zy c2.2
 ·cases c3.2;exact yE hE (Z1++(Hb c2::(rpN 4 (Hb c3) (rpN 6 qT []))))
 let Z2:List HO:=(Z1++(Hb c2::(rpN 4 (Hb c3) [])));obtain c4|c4:=zy c3.2
 ·cases c4.2;exact yE hE (Z2++(rpN 5 (Hb c4) [qT]))
 let Z3:List HO:=(Z2++[c4,c4,c4,Ha (lnM xH m_.Rows),c4,c4]);obtain c5|c5:=zy c4.2
 ·cases c5.2;exact yE hE (Z3++[c5])
 refine yK 1111 [] [] (λz:Unit=>Jn=some r0) (λz=>[]) [1] (Z3++[c5,Hh (.cut 0)]) ?_ λJ1 ar=>?_
 ·rintro⟨⟩ aa;cases aa;exact yE hE []
 refine yMb 1111210 [J1] [1,3] (λx=>[(3,.d (I x))]) c5.2  [] λt2 aa s_ m2 av ae hl1 J2 au=>?_;let Z4:List HO:=[Ha (lnM xH m_.Rows)];obtain c6|c6:=zy ae
 ·refine yNs 111121001 [J1,J2] [1,3] (λz:Unit=>Jm s_=some av) (λz=>[]) (Z4++[c6,Hh (.cut 0)]) ?_ λJ3 bg=>?_
  ·rintro⟨⟩ ae;cases ae;exact yB au _ hl1 []
  obtain⟨ap,h0,ae⟩:=zo c6.2;let Z5:List HO:=[Hi xH h0,Ha (lnM WD ap)];obtain c7|c7:=zy ae
  ·cases c7.2;cases hl1;cases aa;exact yE hE (Z5++[c7])
  refine yMb 11112100120110 [J1,J2,J3] [1,3,4] (λx=>[(4,.d (I x))]) c7.2  (Z5++[c7]) λt4 ae i_ m4 dj ah hl2 J4 db=>?_;obtain c8|c8:=zy ah
  ·refine yNs 1111210012011001 [J1,J2,J3,J4] [1,3,4] (λz:Unit=>Y7 i_=some dj) (λz=>[]) [c8,Hh (.cut 0)] ?_ λJ5 dc=>?_
   ·rintro⟨⟩ ah;cases ah;exact yB db _ hl2 []
   obtain⟨du,h1,al,h2,ah⟩:=yg c8.2;refine yNs 1111210012011001201 [J1,J2,J3,J4,J5] [1,3,4,5] (λz:Unit=>Y6 m_ i_ al=some dj) (λz=>[]) [Hi xH h1,Hi WD h2,Hh (.cut 0)] ?_ λJ6 ep=>?_
   ·rintro⟨⟩ ah;obtain c9|c9:=zy ah
    ·cases c9.2;cases hl2;cases ae;cases hl1;cases aa;exact yE hE (rpN 7 (Hb c9) (rpN 11 qT []))
    let Z6:List HO:=(rpN 5 (Hb c9) [Ha (lnM xH m_.Rows),c9,c9]);obtain c10|c10:=zy c9.2
    ·cases c10.2;cases hl2;cases ae;cases hl1;cases aa;exact yE hE (Z6++(rpN 4 (Hb c10) (rpN 7 qT [])))
    let Z7:List HO:=(Z6++(rpN 4 (Hb c10) []));obtain c11|c11:=zy c10.2
    ·cases c11.2;cases hl2;cases ae;cases hl1;cases aa;exact yE hE (Z7++(rpN 6 (Hb c11) [qT]))
    let Z8:List HO:=(Z7++(rpN 6 (Hb c11) []));obtain c12|c12:=zy c11.2
    ·cases c12.2;cases hl2;cases ae;cases hl1;cases aa;exact yE hE (Z8++[c12])
    exact yB dc () c12.2 (Z8++[c12])
   obtain c13|c13:=zy ah
   ·let Z9:List HO:=(rpN 4 (Hb c13) []);obtain c14|c14:=zy c13.2
    ·exact yB dc () c14.2 (Z9++[c14])
    exact yB ep () c14.2 (Z9++[c14])
   exact yB ep () c13.2 (rpN 4 (Hb c13) [qF])
  cases c8.2;cases hl2;exact yB bg () ae [c8]
 cases c6.2;cases hl1;exact yB ar () aa (Z4++[c6])
def zma:List y8:=ZY 128 yZ rE VD::zmb
def z1j [H:HS X0 zmb]:OkH zma:=yS1 true func128 λm_ r0 aa E hE=>by
 refine yK 111 [] [3] (zI YA r0) (λz=>[(3,.d (I z))]) [1,3] [Hh (.cut 2)] ?_ λJ1 ar=>?_
 ·rintro n_ aa;cases aa;exact yE hE []
 refine yMb 111210 [J1] [1,3,4] (λx=>[(3,.d (I x.1)),(4,.d (I x.2))]) aa  [] λt2 aa ⟨ca,s_⟩ m2 av ae hl1 J2 au=>?_;let Z0:List HO:=[Ha (lnM xH m_.Rows)];obtain c0|c0:=zy ae
 ·refine yNs 11121001 [J1,J2] [1,3,4] (zI (Yz s_) av) (λz=>[(3,.d (I z))]) (Z0++[c0,Hh (.cut 0)]) ?_ λJ3 bg=>?_
  ·rintro cd ae;cases ae;exact yB au _ hl1 []
  refine yMb 111210012010 [J1,J2,J3] [1,3,4,5] (λx=>[(3,.d (I x.1)),(5,.d (I x.2))]) c0.2  [] λt4 ae ⟨lf,i_⟩ m4 dj ah hl2 J4 db=>?_;obtain c1|c1:=zy ah
  ·refine yNs 11121001201001 [J1,J2,J3,J4] [1,3,4,5] (zI (jL i_) dj) (λz=>[(3,.d (I z))]) [c1,Hh (.cut 0)] ?_ λJ5 dc=>?_
   ·rintro qb ah;cases ah;exact yB db _ hl2 []
   obtain⟨ap,h0,al,h1,ah⟩:=yg c1.2;let Z1:List HO:=[Hi xH h0,Hi WD h1];obtain c2|c2:=zy ah
   ·exact yB dc (w64 (lf+1)) c2.2 (Z1++[c2])
   exact yB dc lf c2.2 (Z1++[c2])
  cases c1.2;cases hl2;exact yB bg lf ae [c1]
 cases c0.2;cases hl1;exact yB ar ca aa (Z0++[c0])
def zm9:List y8:=ZY 95 yZ eB Y4::zma
def z0J [H:HS X0 zma]:OkH zm9:=yS1 true func95 λm_ r0 aa E hE=>by obtain⟨r_,h0,aa⟩:=zo aa;cases aa;exact yE hE [zC1 0 h0,Ha (lnM xH m_.Rows)]
def zm8:List y8:=ZY 96 yZ eB Zc::zm9
def KO [H:HS X0 zm9]:OkH zm8:=yS1 true func96 λm_ r0 aa E hE=>by
 obtain⟨r_,h0,aa⟩:=zo aa;refine yK 111 [] [] (λz:Unit=>Zb=some r0) (λz=>[]) [3] [zC2 120 h0,Hh (.cut 0)] ?_ λJ1 ar=>?_
 ·rintro⟨⟩ aa;cases aa;exact yE hE []
 refine yMb 111210 [J1] [3,4] (λx=>[(4,.d (I x))]) aa  [] λt2 aa s_ m2 av ae hl1 J2 au=>?_;obtain c0|c0:=zy ae
 ·obtain⟨dm,h1,ae⟩:=zo c0.2;let Z0:List HO:=[Ha (lnM eB r_),c0,Hn (iL eB h1),Hs (iM eB h1)];obtain c1|c1:=zy ae
  ·cases c1.2;cases hl1;cases aa;exact yE hE (Z0++[c1])
  cases c1.2;exact yB au _ hl1 (Z0++[c1])
 cases c0.2;cases hl1;exact yB ar () aa [Ha (lnM eB r_),c0]
def zm7:List y8:=ZY 57 yZ rE k9::zm8
def z2U [H:HS X0 zm8]:OkH zm7:=yS1 true func57 λm_ r0 aa E hE=>by
 obtain⟨r_,h0,aa⟩:=zo aa;let Z0:List HO:=[zC1 3 h0];obtain c0|c0:=zy aa
 ·cases c0.2;exact yE hE (Z0++[c0])
 obtain⟨ai,h1,aa⟩:=zo c0.2;let Z1:List HO:=(Z0++[c0,zC1 1 h1]);obtain c1|c1:=zy aa
 ·cases c1.2;exact yE hE (Z1++[c1])
 obtain⟨ak,h2,aa⟩:=zo c1.2;let Z2:List HO:=(Z1++[c1,zC1 0 h2]);obtain c2|c2:=zy aa
 ·cases c2.2;exact yE hE (Z2++[c2])
 obtain⟨am,h3,aa⟩:=zo c2.2;refine yK 111111 [] [] (λz:Unit=>Xo=some r0) (λz=>[]) [4] (Z2++[c2,zC1 127 h3,Hh (.cut 0)]) ?_ λJ1 ar=>?_
 ·rintro⟨⟩ aa;cases aa;exact yE hE []
 refine yMb 111111210 [J1] [4,5] (λx=>[(5,.d (I x))]) aa  [] λt2 aa s_ m2 av ae hl1 J2 au=>?_;obtain c3|c3:=zy ae
 ·refine yNs 11111121001 [J1,J2] [4,5] (λz:Unit=>Xn s_=some av) (λz=>[]) [Ha (lnM rE am),c3,Hh (.cut 0)] ?_ λJ3 bg=>?_
  ·rintro⟨⟩ ae;cases ae;exact yB au _ hl1 []
  refine yMb 111111210012010 [J1,J2,J3] [4,5,6] (λx=>[(6,.d (I x))]) c3.2  [] λt4 ae t_ m4 dj ah hl2 J4 db=>?_;obtain c4|c4:=zy ah
  ·obtain⟨dm,h4,ip,h5,ah⟩:=yg c4.2;let Z3:List HO:=[c4,Hn (iL rE h4),Hs (iM rE h4),Hn (iL rE h5),Hs (iM rE h5)];obtain c5|c5:=zy ah
   ·cases c5.2;cases hl2;cases ae;cases hl1;cases aa;exact yE hE (Z3++[c5])
   cases c5.2;exact yB db _ hl2 (Z3++[c5])
  cases c4.2;cases hl2;exact yB bg () ae [c4]
 cases c3.2;cases hl1;exact yB ar () aa [Ha (lnM rE am),c3]
def zm6:List y8:=qW 24 yZ rE rE Vt::zm7
def z4f [H:HS X0 zm7]:OkH zm6:=yS2 true func24 λm_ bound r0 aa E hE=>by
 obtain⟨r_,h0,aa⟩:=zo aa;let Z0:List HO:=[zC1 0 h0];obtain c0|c0:=zy aa
 ·cases c0.2;exact yE hE (Z0++[c0])
 let Z1:List HO:=(Z0++[c0,Ha (lnM xH m_.Rows)]);obtain c1|c1:=zy c0.2
 ·cases c1.2;exact yE hE (Z1++(rpN 7 (Hb c1) [qT]))
 let Z2:List HO:=(Z1++(rpN 4 (Hb c1) [Ha (lnM xH m_.Rows),c1,c1,c1]));obtain c2|c2:=zy c1.2
 ·cases c2.2;exact yE hE (Z2++[c2])
 cases c2.2;exact yE hE (Z2++[c2])
def zm5:List y8:=ZY 99 F8_ rE WR::zm6
def z5z [H:HS X0 zm6]:OkH zm5:=yS1 true func99 λw_ r0 aa E hE=>by
 obtain c0|c0:=zy aa
 ·cases c0.2;exact yE hE [Ha (lnM rE w_),c0]
 cases c0.2;exact yE hE [Ha (lnM rE w_),c0]
def zm4:List y8:=qW 100 F8_ rE rE YI::zm5
def z1f [H:HS X0 zm5]:OkH zm4:=yS2 true func100 λw_ inputs r0 aa E hE=>by
 refine yK 11 [] [] (λz:Unit=>VZ=some r0) (λz=>[]) [0,1] [Hh (.cut 1)] ?_ λJ1 ar=>?_
 ·rintro⟨⟩ aa;cases aa;exact yE hE []
 refine yMb 11210 [J1] [0,1,5] (λx=>[(5,.d (I x))]) aa  [] λt2 aa i_ m2 av ae hl1 J2 au=>?_;obtain c0|c0:=zy ae
 ·obtain⟨fc,h0,ae⟩:=zo c0.2;let Z0:List HO:=[Ha (lnM rE w_),c0,Hi rE h0];obtain c1|c1:=zy ae
  ·cases c1.2;cases hl1;cases aa;exact yE hE (Z0++(rpN 7 (Hb c1) [qT]))
  obtain⟨qw,h1,ae⟩:=zo c1.2;let Z1:List HO:=(Z0++(Hb c1::Hb c1::Hb c1::Hi rE h1::(rpN 4 (Hb c1) [])));obtain c2|c2:=zy ae
  ·cases c2.2;cases hl1;cases aa;exact yE hE (Z1++[c2])
  cases c2.2;exact yB au _ hl1 (Z1++[c2])
 cases c0.2;cases hl1;exact yB ar () aa [Ha (lnM rE w_),c0]
def zm3:List y8:=qW 59 wF rE rE Vy::zm4
def z4j [H:HS X0 zm4]:OkH zm3:=yS2 true func59 λl_ inputs r0 aa E hE=>by
 obtain c0|c0:=zy aa
 ·cases c0.2;exact yE hE (rpN 4 (Hb c0) [qT])
 let Z0:List HO:=[c0,c0,Ha (lnM F8_ l_),c0,c0];obtain c1|c1:=zy c0.2
 ·cases c1.2;exact yE hE (Z0++[c1])
 obtain c2|c2:=zy c1.2
 ·cases c2.2;exact yE hE (Z0++[c1,c2])
 refine yK 1111 [] [] (λz:Unit=>Ji=some r0) (λz=>[]) [0,1] (Z0++[c1,c2,Hh (.cut 0)]) ?_ λJ1 ar=>?_
 ·rintro⟨⟩ aa;cases aa;exact yE hE []
 refine yMb 1111210 [J1] [0,1,5] (λx=>[(5,.d (I x))]) c2.2  [] λt2 aa i_ m2 av ae hl1 J2 au=>?_;let Z1:List HO:=[Ha (lnM F8_ l_)];obtain c3|c3:=zy ae
 ·obtain⟨bi,h0,r_,h1,ae⟩:=yg c3.2;let Z2:List HO:=(Z1++[c3,Hi F8_ h0,zC1 1 h1]);obtain c4|c4:=zy ae
  ·cases c4.2;cases hl1;cases aa;exact yE hE (Z2++[c4])
  obtain⟨ew,h2,ai,h3,ae⟩:=yg c4.2;let Z3:List HO:=(Z2++[c4,Hi F8_ h2,zC2 0 h3]);obtain c5|c5:=zy ae
  ·cases c5.2;cases hl1;cases aa;exact yE hE (Z3++[c5])
  cases c5.2;exact yB au _ hl1 (Z3++[c5])
 cases c3.2;cases hl1;exact yB ar () aa (Z1++[c3])
def zm2:List y8:=qW 27 wF rE rE Vz::zm3
def z4l [H:HS X0 zm3]:OkH zm2:=yS2 true func27 λl_ inputs r0 aa E hE=>by
 obtain⟨r_,h0,aa⟩:=zo aa;let Z0:List HO:=[zC2 0 h0];obtain c0|c0:=zy aa
 ·cases c0.2;exact yE hE (Z0++[c0])
 refine yNs 111 [] [0] (λz:Unit=>Wv l_=some r0) (λz=>[]) (Z0++[c0,Hh (.cut 0)]) ?_ λJ1 ar=>?_
 ·rintro⟨⟩ aa;obtain⟨ai,h1,aa⟩:=zo aa;let Z1:List HO:=[zC1 9 h1];obtain c1|c1:=zy aa
  ·cases c1.2;exact yE hE (Z1++[c1])
  cases c1.2;exact yE hE (Z1++[c1])
 refine yMb 111210 [J1] [0,6] (λx=>[(6,.d (I x))]) c0.2  [] λt2 aa i_ m2 av ae hl1 J2 au=>?_;let Z2:List HO:=[Ha (lnM F8_ l_)];obtain c2|c2:=zy ae
 ·obtain⟨bi,h2,ew,h3,ak,h4,ae⟩:=ZS c2.2;let Z3:List HO:=(Z2++[c2,Hi F8_ h2,Hi F8_ h3,zC2 35 h4]);obtain c3|c3:=zy ae
  ·cases c3.2;cases hl1;cases aa;exact yE hE (Z3++[c3])
  cases c3.2;exact yB au _ hl1 (Z3++[c3])
 cases c2.2;cases hl1;exact yB ar () aa (Z2++[c2])
def zm1:List y8:=z0O 28 yZ yZ wF eB Vu::zm2
def z4g [H:HS X0 zm2]:OkH zm1:=yS3 true func28 λm_ other l_ r0 aa E hE=>by
 refine yK 11 [] [] (λz:Unit=>Jf=some r0) (λz=>[]) [2,3,4] [Hh (.cut 1)] ?_ λJ1 ar=>?_
 ·rintro⟨⟩ aa;cases aa;exact yE hE []
 refine yMb 11210 [J1] [2,3,4,7] (λx=>[(7,.d (I x))]) aa  [] λt2 aa i_ m2 av ae hl1 J2 au=>?_;let Z0:List HO:=[Ha (lnM F8_ l_)];obtain c0|c0:=zy ae
 ·obtain⟨bi,h0,r_,h1,ew,h2,ai,h3,ak,h4,ae⟩:=zeR c0.2;let Z1:List HO:=(Z0++[c0,Hi F8_ h0,zC3 29 h1,Hi F8_ h2,zC3 29 h3,zg 17,Hm (shM F7_ F8_ ([r_])),Hm (shM F7_ F8_ ([ai])),Hs (zf2 17 h4 (loC z5s [r_] <| loC z5s [ai] <| loN))]);obtain c1|c1:=zy ae
  ·cases c1.2;cases hl1;cases aa;exact yE hE (Z1++[c1])
  cases c1.2;exact yB au _ hl1 (Z1++[c1])
 cases c0.2;cases hl1;exact yB ar () aa (Z0++[c0])
def zm0:List y8:=qW 6 yZ zp8 eB XC::zm1
def KQ [H:HS X0 zm1]:OkH zm0:=yS2 true func6 λm_ y_ r0 aa E hE=>by
 refine yNs 11 [] [2,3] (λz:Unit=>vq m_ y_=some r0) (λz=>[]) [Hh (.cut 1)] ?_ λJ1 ar=>?_
 ·rintro⟨⟩ aa;obtain⟨r_,h0,aa⟩:=zo aa;refine yNs 11111 [] [2,3,5,6] (zI (yq m_ y_ r_) r0) (λz=>[(6,.d (I z))]) [zC2 5 h0,Hh (.cut 1)] ?_ λJ2 au=>?_
  ·rintro fz aa;obtain⟨ai,h1,ak,h2,am,h3,az,h4,aa⟩:=z7P aa;refine yN 1111111111 [] [2,3,6,7,8,9,10,11,12] (λz:Unit=>wn m_ y_ fz ai ak am=some r0) (λz=>[]) [2,3,5,6,7,8,9,10,11,12,13,14] [zC3 43 h1,zC3 42 h2,zC3 41 h3,zC2 40 h4,Hh (.cut 0)] ?_ λJ3 bg=>?_
   ·rintro⟨⟩ aa;refine yN 11111111111 [] [2,3,6,8] (λz:Unit=>vp m_ y_ fz ai=some r0) (λz=>[]) [2,3,6,7,8,9,10,11,12] [Hh (.cut 0)] ?_ λJ4 db=>?_
    ·rintro⟨⟩ aa;refine yN 111111111111 [] [2,3] (λz:Unit=>vo m_ y_=some r0) (λz=>[]) [2,3,6,8] [Hh (.cut 0)] ?_ λJ5 dc=>?_
     ·rintro⟨⟩ aa;obtain⟨bn,h5,aa⟩:=zo aa;refine yNs 11111111111111 [] [2,3,5] (zI (wk m_ y_) r0) (λz=>[(5,.d (I z))]) [zC1 10 h5,Hh (.cut 0)] ?_ λJ6 ep=>?_
      ·rintro f_ aa;refine yNs 111111111111111 [] [2,3,5] (zI (xE m_ y_) r0) (λz=>[(5,.d (I z))]) [Hh (.cut 0)] ?_ λJ7 gw=>?_
       ·rintro ky aa;refine yNs 1111111111111111 [] [2,3,5] (zI (wj m_ y_) r0) (λz=>[(5,.d (I z))]) [Hh (.cut 0)] ?_ λJ8 lq=>?_
        ·rintro ni aa;obtain⟨cx,h6,aa⟩:=zo aa;let Z0:List HO:=[zC3 13 h6];obtain c0|c0:=zy aa
         ·let Z1:List HO:=(Z0++(rpN 4 (Hb c0) []));obtain c1|c1:=zy c0.2
          ·obtain⟨gb,h7,aa⟩:=zo c1.2;let Z2:List HO:=(Z1++(rpN 6 (Hb c1) [zC3 0 h7,c0,c1,c0,c0]));obtain c2|c2:=zy aa
           ·obtain⟨iy,h8,aa⟩:=zo c2.2;cases aa;exact yE hE (Z2++[c2,zC0 15 h8,c2])
           cases c2.2;exact yE hE (Z2++[c2,c2])
          let Z3:List HO:=(Z1++(rpN 6 (Hb c1) [c0,c1,c0,c0]));obtain c3|c3:=zy c1.2
          ·obtain⟨gr,h9,aa⟩:=zo c3.2;cases aa;exact yE hE (Z3++[c3,zC0 15 h9,c3])
          cases c3.2;exact yE hE (Z3++[c3,c3])
         cases c0.2;exact yE hE (Z0++(rpN 7 (Hb c0) [qF,qF]))
        obtain c4|c4:=zy aa
        ·obtain⟨im,h10,aa⟩:=zo c4.2;exact yB lq im aa [c4,zC2 1 h10]
        exact yB lq ky c4.2 [c4]
       obtain c5|c5:=zy aa
       ·let Z4:List HO:=(rpN 7 (Hb c5) []);obtain c6|c6:=zy c5.2
        ·exact yB gw 5 c6.2 (Z4++[c6])
        exact yB gw f_ c6.2 (Z4++[c6])
       exact yB gw f_ c5.2 (rpN 7 (Hb c5) [qF])
      obtain c7|c7:=zy aa
      ·obtain⟨j8,h11,aa⟩:=zo c7.2;exact yB ep j8 aa [c7,zC1 10 h11]
      exact yB ep bn c7.2 [c7]
     obtain c8|c8:=zy aa
     ·obtain⟨mv,h12,aa⟩:=zo c8.2;let Z5:List HO:=(rpN 6 (Hb c8) (zC2 19 h12::Hb c8::Ha (lnM F8_ mv)::(rpN 5 (Hb c8) [])));obtain c9|c9:=zy aa
      ·cases c9.2;exact yE hE (Z5++[c9])
      exact yB dc () c9.2 (Z5++[c9])
     exact yB dc () c8.2 (rpN 12 (Hb c8) [qF])
    obtain c10|c10:=zy aa
    ·let Z6:List HO:=(rpN 4 (Hb c10) []);obtain c11|c11:=zy c10.2
     ·cases c11.2;exact yE hE (Z6++(Hb c11::Hb c11::Hb c11::Hb c10::Hb c11::Hb c10::qT::qT::qT::Hb c10::qT::Hb c10::(rpN 9 qT [c10,qT,c10,qT])))
     let Z7:List HO:=(Z6++[c11,c11,c11,c10,c11,c10]);obtain c12|c12:=zy c11.2
     ·cases c12.2;exact yE hE (Z7++(Hb c12::Hb c12::Hb c12::Hb c10::Hb c12::Hb c10::(rpN 9 qT [c10,qT,c10,qT])))
     let Z8:List HO:=(Z7++[c12,c12,c12,c10,c12,c10]);obtain c13|c13:=zy c12.2
     ·cases c13.2;exact yE hE (Z8++(rpN 9 (Hb c13) [c10,c13,c10,qT]))
     let Z9:List HO:=(Z8++[c13,c13,Ha (lnM F4_ ai.1),c13,c13,Ha (lnM F4_ ak.1),c13,c13,c13,Ha (lnM F4_ am.1),c13,c13,c10,c13,c10]);obtain c14|c14:=zy c13.2
     ·cases c14.2;exact yE hE (Z9++[c14])
     exact yB db () c14.2 (Z9++[c14])
    exact yB db () c10.2 (rpN 10 (Hb c10) [qF])
   obtain⟨rr,h13,aa⟩:=zo aa;let Z10:List HO:=[zC2 103 h13];obtain c15|c15:=zy aa
   ·cases c15.2;exact yE hE (Z10++(rpN 5 (Hb c15) [qT]))
   obtain c16|c16:=zy c15.2
   ·let Z11:List HO:=(Z10++(Hb c15::Hb c15::Hb c15::(rpN 4 (Hb c16) [])));obtain c17|c17:=zy c16.2
    ·cases c17.2;exact yE hE (Z11++[c17,c17,c17,c16,c17,c15,c16,c15,qT])
    let Z12:List HO:=(Z11++[c17,c17,c17,c16,c17,c15,c16,c15]);obtain c18|c18:=zy c17.2
    ·cases c18.2;exact yE hE (Z12++[c18])
    exact yB bg () c18.2 (Z12++[c18])
   exact yB bg () c16.2 (Z10++(Hb c15::Hb c15::Hb c15::(rpN 5 (Hb c16) [c15,c16,c15,qF])))
  obtain c19|c19:=zy aa
  ·let Z13:List HO:=(rpN 4 (Hb c19) []);obtain c20|c20:=zy c19.2
   ·exact yB au 1 c20.2 (Z13++[c20,c20,c20,c19,c20,c19,qT])
   let Z14:List HO:=(Z13++[c20,c20,c20,c19,c20,c19]);obtain c21|c21:=zy c20.2
   ·exact yB au 1 c21.2 (Z14++[c21])
   exact yB au r_ c21.2 (Z14++[c21])
  exact yB au r_ c19.2 (rpN 6 (Hb c19) [qF])
 obtain⟨rt,h14,ru,h15,aa⟩:=yg aa;let Z15:List HO:=[zC1 12 h14,zC1 12 h15];obtain c22|c22:=zy aa
 ·cases c22.2;exact yE hE (Z15++(rpN 5 (Hb c22) (rpN 16 qT [])))
 let Z16:List HO:=(Z15++[c22,c22,c22,Ha (lnM F8_ y_.L),c22,c22]);obtain c23|c23:=zy c22.2
 ·cases c23.2;exact yE hE (Z16++(rpN 5 (Hb c23) (rpN 11 qT [])))
 obtain⟨rz,h16,aa⟩:=zo c23.2;let Z17:List HO:=(Z16++[c23,c23,c23,zC1 11 h16,c23,c23]);obtain c24|c24:=zy aa
 ·cases c24.2;exact yE hE (Z17++(rpN 10 (Hb c24) [qT]))
 let Z18:List HO:=(Z17++(rpN 5 (Hb c24) [Ha (lnM xH m_.Rows),c24,c24,c24]));obtain c25|c25:=zy c24.2
 ·let Z19:List HO:=(Z18++(rpN 5 (Hb c25) [Ha (lnM xH m_.Rows),c25,c25,c24,c25,c24]));obtain c26|c26:=zy c25.2
  ·cases c26.2;exact yE hE (Z19++[c26])
  exact yB ar () c26.2 (Z19++[c26])
 exact yB ar () c25.2 (Z18++(rpN 7 (Hb c25) [c24,c25,c24,qF]))
def spc {X:XH prog}{s:y8}{l:List y8}(w:∀[HS X l],OkH (s::l))(r:z0f prog l)(h:((l.map y8.k).contains s.k)=false:=by kernel_rfl):z0f prog (s::l):=⟨λc a b=>@w ⟨c,a,b⟩,zkh h,r⟩
def zi3:z0f prog zm0:=spc KQ <|
 spc z4g <|
 spc z4l <|
 spc z4j <|
 spc z1f <|
 spc z5z <|
 spc z4f <|
 spc z2U <|
 spc KO <|
 spc z0J <|
 spc z1j <|
 spc z4o <|
 spc z4i <|
 spc z4q <|
 spc z2M <|
 spc z30 <|
 spc z4r <|
 spc z1o <|
 spc z5H <|
 spc z5C <|
 spc z9S <|
 spc z2S <|
 spc z2R <|
 spc z5y <|
 spc z79 <|
 spc z4h <|
 spc z0I <|
 spc z5D <|
 spc z2V <|
 spc z5G <|
 spc z1l <|
 spc z7b <|
 spc Ju <|
 spc z0H <|
 spc z2T <|
 spc z2Q <|
 spc z5B <|
 spc z7a <|
 spc z1g <|
 spc z5A <|
 spc z4k <|
 spc z2K <|
 spc z5x <|
 spc z78 <|
 spc z9h <|
 spc z2J <|
 spc JR <|
 spc z1e <|
 spc Jt <|
 spc z0N <|
 spc z2Z <|
 spc z0K <|
 spc z4b <|
 spc YG <|
 spc X4 <|
 spc z1d <|
 spc z9g <|
 spc qH <|
 spc z0D <|
 spc z7c <|
 spc z4s <|
 spc z4e <|
 spc z4c <|
 spc z5I <|
 spc z31 <|
 spc KJ <|
 spc JS <|
 spc Vf <|
 spc z2O <|
 spc z2N <|
 spc z0E <|
 spc z33 <|
 spc z32 <|
 spc QP <|
 spc KR <|
 spc z2I <|
 spc z74 <|
 spc z5u <|
 spc z4d <|
 spc z4a <|
 spc z5v <|
 spc z75 <|
 spc z1p <|
 spc z5w <|
 spc z2H <|
 spc z48 <|
 spc Yr <|
 spc z0C <|
 spc z1b <|
 spc z5J <|
 spc WH <|
 spc KS <|
 spc z1q <|
 spc Vg <|
 spc z49 <|
 spc z44 <|
 spc Yq <|
 spc XO <|
 spc z1c <|
 spc z2G <|
 spc z47 <|
 spc UK <|
 spc Uh <|
 spc z0B <|
 spc z2L <|
 spc JV <|
 spc Jv <|
 spc QM <|
 spc KL <|
 spc Ug <|
 spc KK <|
 spc z2P <|
 spc z0G <|
 spc Jw <|
 spc QO <|
 spc X5 <|
 spc WG <|
 spc Jx <|
 spc Jy <|
 spc QN <|
 spc Wh <|
 spc z0L <|
 spc KP <|
 spc z0M <|
 spc uX <|
 spc qY <|
 spc JX <|
 spc z1n <|
 spc z1m <|
 spc z1i <|
 spc z2Y <|
 spc z4n <|
 spc z5E <|
 spc z4p <|
 spc z5F <|
 spc z1h <|
 spc z2W <|
 spc KN <|
 spc z2X <|
 spc z4m <|
 trivial
def zF {x:Int}(h1:-9223372036854775808<=x)(h2:x<=9223372036854775807):w64 x=x:=by simp only[w64,IntKind.wrap,IntKind.bits,IntKind.signed];simp;omega
variable {k:Nat}
section
variable {α β σ τ ρ:Type}
def Ret (x:Option α)(Q:α->Prop):Prop:=∃a,x=some a/\Q a
def Ret.mono {x:Option α}{Q R:α->Prop}(h:Ret x Q)(q:∀a,Q a->R a):Ret x R:=by obtain⟨a,e,h⟩:=h;exact⟨a,e,q a h⟩
def Ret.eq {x:Option α}{a:α}(h:Ret x λb=>b=a):x=some a:=by obtain⟨b,e,rfl⟩:=h;exact e
def z7 {a:α}{Q:α->Prop}:Ret (some a) Q↔Q a:=⟨λ⟨b,e,q⟩=>by cases e;exact q,λq=>⟨a,rfl,q⟩⟩
def zu {x:Option α}{f:α->Option β}{Q:β->Prop}:Ret (Option.bind x f) Q↔Ret x λa=>Ret (f a) Q:=by
 cases x with
 | none=>exact⟨λ⟨b,e,_⟩=>(by cases e),λ⟨b,e,_⟩=>(by cases e)⟩
 | some a=>exact⟨λh=>⟨a,rfl,h⟩,λ⟨b,e,h⟩=>by cases e;exact h⟩
def z0l {p:Prop}[Decidable p]{x:Option α}{Q:α->Prop}:Ret (gd p x) Q↔p/\Ret x Q:=by
 unfold gd;by_cases h:p
 ·rw[if_pos h];exact⟨λq=>⟨h,q⟩,λq=>q.2⟩
 rw[if_neg h];exact⟨λ⟨b,e,_⟩=>by(cases e),λq=>(h q.1).elim⟩
def zD {c:Bool}{x y:Option α}{Q:α->Prop}:Ret (bif c then x else y) Q↔(c=true->Ret x Q)/\(c=false->Ret y Q):=by cases c <;> simp
def zh5 {l:List α}{i:Int}{Q:α->Prop}:Ret (idx l i) Q↔0<=i/\∃x,l[i.toNat]?=some x/\Q x:=by
 cases i with
 | ofNat n=>show(∃a,l[n]?=some a/\Q a)↔_;simp
 | negSucc n=>exact⟨λ⟨b,e,_⟩=>by(cases e),λ⟨h,_⟩=>by omega⟩
def y6 (l:List α)(i:Nat):idx l (i:Int)=l[i]?:=rfl
def gdT {p:Prop}[Decidable p]{x:Option α}(h:p):gd p x=x:=by unfold gd;rw[if_pos h]
def bdT {x:Option α}{u:α}{f:α->Option ρ}(h:x=some u):Option.bind x f=f u:=by rw[h];rfl
def X1 (step:σ->Option (LR σ τ))(n:Nat)(s:σ):Ko step (n+1) s=(match step s with|none=>none|some (.next s')=>Ko step n s'|some (.done t)=>some t):=rfl
def LRP (N:σ->Prop)(D:τ->Prop):LR σ τ->Prop
 | .next s=>N s
 | .done t=>D t
def zQ {step:σ->Option (LR σ τ)}(I:σ->Prop)(m:σ->Nat){R:τ->Prop}{s:σ}(hs:I s)(hm:m s<18446744073709551616)
  (h:∀s,I s->Ret (step s) (LRP (λs'=>I s'/\m s' < m s) R)):Ret (loop step s) R:=by
 have gen:∀(n:Nat) (s:σ),I s->m s<n->Ret (Ko step n s) R:=by
  intro n;induction n with
  | zero=>intro s _ h;omega
  | succ n ih=>
   intro s hs hm;obtain⟨a,e,q⟩:=h s hs;rw[X1,e];cases a with
   | next s'=>exact ih s' q.1 (by have:=q.2;omega)
   | done t=>exact⟨t,rfl,q⟩
 exact gen V4 s hs hm
def xu {step:σ->Option (LR σ τ)}(st:Nat->σ)(n:Nat){t:τ}(hn:n<9223372036854775808)(h:∀i,i<n->step (st i)=some (.next (st (i+1))))(hd:step (st n)=some (.done t)):loop step (st 0)=some t:=by
 have gen:∀(k:Nat) (i:Nat),i<=n->n - i<k->Ko step k (st i)=some t:=by
  intro k;induction k with
  | zero=>intro i _ h;omega
  | succ k ih=>
   intro i hi hk;rw[X1];rcases pE i n with q|q
   ·rw[h i q];exact ih (i+1) q (by omega)
   have:i=n:=by omega
   subst this;rw[hd]
 exact gen V4 0 (pQ _) (by show n - 0<18446744073709551616;omega)
def zM (f:Nat->α->Option ρ):List α->Nat->Option ρ
 | [],_=>none
 | x::l,i=>match f i x with|some r=>some r|none=>zM f l (i+1)
def ZR {f:Nat->α->Option ρ}:∀{l:List α} {k:Nat},(∀i x,l[i]?=some x->f (k+i) x=none)->zM f l k=none
 | [],_,_=>rfl
 | x::l,k,h=>by have h0:=h 0 x rfl;simp only[mD]at h0;simp only[zM,h0];exact ZR λi y hy=>by have:=h (i+1) y (by simpa using hy);rwa[show k+1+i=k+(i+1) by omega]
def xk {f:Nat->α->Option ρ}{r:ρ}:∀{l:List α} {k:Nat},zM f l k=some r->∃i x,l[i]?=some x/\f (k+i) x=some r
 | [],_,h=>by cases h
 | x::l,k,h=>by
  simp only[zM]at h;cases hf:f k x with
  | some r'=>rw[hf]at h;exact⟨0,x,rfl,by rw[mD,hf];exact h⟩
  | none=>rw[hf]at h;obtain⟨i,y,h1,h2⟩:=xk h;exact⟨i+1,y,by simpa using h1,by rw[<-h2];congr 1;omega⟩
def xe {f:Nat->α->Option ρ}{l:List α}  (h:zM f l k=none):∀i x,l[i]?=some x->f (k+i) x=none:=by
 induction l generalizing k with
 | nil=>intro i x h;simp at h
 | cons y l ih=>
  intro i x hx;simp only[zM]at h;cases hf:f k y with
  | some r'=>rw[hf]at h;cases h
  | none=>
   rw[hf]at h;cases i with
   | zero=>simp at hx;subst hx;simpa using hf
   | succ i=>have:=ih h i x (by simpa using hx);rwa[show k+(i+1)=k+1+i by omega]
def oS:Option ρ->Unit⊕ρ
 | some r=>.inr r
 | none=>.inl ()
def nS (i:Nat):Option ρ->LR Int (Unit⊕ρ)
 | some r=>.done (.inr r)
 | none=>.next (w64 ((i:Int)+1))
def ya (l:List α)(hl:l.length<4611686018427387904){step:Int->Option (LR Int (Unit⊕ρ))}(f:Nat->α->Option ρ)
  (h:∀(i:Nat) (x:α),l[i]?=some x->step (i:Int)=some (nS i (f i x))) (h2:step (l.length:Int)=some (.done (.inl ()))) :
  loop step 0=some (oS (zM f l 0)):=by
 have gen:∀(n:Nat) (k:Nat),k<=l.length->l.length - k<n->Ko step n (k:Int)=some (oS (zM f (l.drop k) k)):=by
  intro n;induction n with
  | zero=>intro k _ h;omega
  | succ n ih=>
   intro k hk hn;rw[X1];rcases pE k l.length with hlt|hge
   ·have hx:l[k]?=some l[k]:=pg hlt;rw[h k _ hx,mA hlt];simp only[zM];cases hf:f k l[k] with
    | some r=>rfl
    | none=>simp only[nS];rw[zF (by omega) (by omega)];exact ih (k+1) hlt (by omega)
   have:k=l.length:=by omega
   subst this;rw[h2,List.drop_length];rfl
 exact gen V4 0 (pQ _) (by show l.length - 0<18446744073709551616;omega)
end
section
variable {S:Type}
def rv (k:Nat):List Nat->Nat
 | []=>0
 | i::u=>rv k u*k+i+1
def zck (k:Nat)(bad:S->Nat->Bool)(nx:S->Nat->Option S)(p0:S):List Nat->S->Prop
 | [],q=>q=p0
 | i::u,q=>∃p,zck k bad nx p0 u p/\i<k/\bad p i=false/\nx p i=some q
def KB (k:Nat)(bad:S->Nat->Bool)(nx:S->Nat->Option S):S->List Nat->Prop
 | _,[]=>False
 | p,[i]=>i<k/\bad p i=true
 | p,i::w=>i<k/\bad p i=false/\∃q,nx p i=some q/\KB k bad nx q w
structure Bfs (k:Nat)(bad:S->Nat->Bool)(nx:S->Nat->Option S)(p0:S)(L:List (S×List Nat))(at_ i:Nat):Prop where
 first:L[0]?=some (p0,[])
 mono:∀(j j':Nat) (a b:S×List Nat),j<j'->L[j]?=some a->L[j']?=some b->rv k a.2<rv k b.2
 path:∀a∈L,zck k bad nx p0 a.2 a.1
 ahead:∀a c,L[at_]?=some c->a∈L->rv k a.2<rv k c.2*k+i+1
 pos:i<=k
 lies:at_<=L.length
 fin:at_=L.length->i=0
 short:∀(j:Nat) (a:S×List Nat),L[j]?=some a->a.2.length<=j
 seen:∀(j x:Nat) (a:S×List Nat),L[j]?=some a->x<k->(j<at_\/j=at_/\x<i)->bad a.1 x=false/\∀q,nx a.1 x=some q->∃b∈L,b.1=q/\rv k b.2<=rv k a.2*k+x+1
variable {k:Nat}{bad:S->Nat->Bool}{nx:S->Nat->Option S}{p0:S}
def Bfs.start:Bfs k bad nx p0 [(p0,[])] 0 0:={
 first:=rfl
 mono:=by intro j j' a b h h1 h2;have:=(pf.1 h2).1;simp at this;omega
 path:=by intro a ha;simp at ha;subst ha;rfl
 ahead:=by intro a c _ ha;simp at ha;subst ha;simp[rv]
 pos:=pQ _
 lies:=by simp
 fin:=by intro;rfl
 short:=by intro j a h;have:=(pf.1 h).1;simp at this;subst this;simp at h;subst h;simp
 seen:=by rintro j x a h _ (q|⟨_,q⟩) <;> omega }
def Bfs.old {L:List (S×List Nat)}{a i:Nat}(h:Bfs k bad nx p0 L a i){c:S×List Nat}(hc:L[a]?=some c)(hi:i<k)(hb:bad c.1 i=false)
  (hn:∀q,nx c.1 i=some q->∃b∈L,b.1=q):Bfs k bad nx p0 L a (i+1):={
 first:=h.first
 mono:=h.mono
 path:=h.path
 ahead:=λx y hy hx=>by have:=h.ahead x y hy hx;omega
 pos:=hi
 lies:=h.lies
 fin:=λe=>by have:=(pf.1 hc).1;omega
 short:=h.short
 seen:=by
  intro j x y hy hx q;by_cases e:j=a/\x=i
  ·obtain⟨rfl,rfl⟩:=e;rw[hc]at hy;cases hy;refine⟨hb,λq hq=>?_⟩;obtain⟨b,h1,h2⟩:=hn q hq;exact⟨b,h1,h2,by have:=h.ahead b c hc h1;omega⟩
  exact h.seen j x y hy hx (by omega) }
def Bfs.new {L:List (S×List Nat)}{a i:Nat}(h:Bfs k bad nx p0 L a i){c:S×List Nat}(hc:L[a]?=some c)(hi:i<k)(hb:bad c.1 i=false){q:S}
  (hn:nx c.1 i=some q):Bfs k bad nx p0 (L++[(q,i::c.2)]) a (i+1):=by
 have hlt:=(pf.1 hc).1;refine⟨?_,?_,?_,?_,hi,by simp;omega,λe=>by simp at e;omega,?_,?_⟩
 ·rw[pA (by omega)];exact h.first
 ·intro j j' x y hj h1 h2;have hl:=(pf.1 h2).1;simp at hl;rw[pA (by omega)]at h1;rcases pE j' L.length with g|g
  ·rw[pA g]at h2;exact h.mono j j' x y hj h1 h2
  have:j'=L.length:=by omega
  subst this;simp at h2;subst h2;exact h.ahead x c hc (pD h1)
 ·intro x hx;rcases ph.1 hx with g|g
  ·exact h.path x g
  simp at g;subst g;exact⟨c.1,h.path c (pD hc),hi,hb,hn⟩
 ·intro x y hy hx;rw[pA hlt]at hy;rcases ph.1 hx with g|g
  ·have:=h.ahead x y hy g;omega
  simp at g;subst g;rw[hc]at hy;cases hy;simp[rv]
 ·intro j y hy;rcases pE j L.length with g|g
  ·rw[pA g]at hy;exact h.short j y hy
  have hl:=(pf.1 hy).1;simp at hl;have:j=L.length:=by omega
  subst this;simp at hy;subst hy;have:=h.short a c hc;simp;omega
 intro j x y hy hx g;rw[pA (by omega)]at hy;by_cases e:j=a/\x=i
 ·obtain⟨rfl,rfl⟩:=e;rw[hc]at hy;cases hy;refine⟨hb,λq' hq=>?_⟩;rw[hn]at hq;cases hq;exact⟨(q,x::c.2),by simp,rfl,pj _⟩
 obtain⟨h1,h2⟩:=h.seen j x y hy hx (by omega);refine⟨h1,λq' hq=>?_⟩;obtain⟨b,g1,g2⟩:=h2 q' hq;exact⟨b,nH _ g1,g2⟩
def Bfs.step {L:List (S×List Nat)}{a:Nat}(h:Bfs k bad nx p0 L a k)(ha:a<L.length):Bfs k bad nx p0 L (a+1) 0:={
 first:=h.first
 mono:=h.mono
 path:=h.path
 ahead:=by intro x c hc hx;have h1:=h.ahead x _ (pg ha) hx;have h2:=h.mono a (a+1) _ _ (by omega) (pg ha) hc;have h3:(rv k L[a].2+1)*k<=rv k c.2*k:=hZ _ h2;rw[nz]at h3;omega
 pos:=pQ _
 lies:=ha
 fin:=λ_=>rfl
 short:=h.short
 seen:=λj x b hb hx g=>h.seen j x b hb hx (by rcases g with g|⟨_,g⟩ <;> omega) }
def Bfs.reach {L:List (S×List Nat)}{a i:Nat}(h:Bfs k bad nx p0 L a i):∀(u:List Nat) (q:S),zck k bad nx p0 u q->(∀c,L[a]?=some c->rv k u<rv k c.2*k+i+1)->∃(j:Nat) (b:S×List Nat),L[j]?=some b/\b.1=q/\rv k b.2<=rv k u
 | [],q,hp,_=>⟨0,_,h.first,hp.symm,pQ _⟩
 | x::u,q,⟨p,hp,hx,hb,hn⟩,hlt=>by
  have hk:rv k u<=rv k u*k:=Nat.le_mul_of_pos_right _ (by omega);obtain⟨j,b,hj,rfl,hr⟩:=h.reach u p hp λc hc=>by have:=hlt c hc;simp only[rv]at this;omega
  have hmul:rv k b.2*k<=rv k u*k:=hZ _ hr;have hjl:=(pf.1 hj).1;have hpos:j<a\/j=a/\x<i:=by
   rcases mG j a with g|g|g
   ·exact .inl g
   ·subst g;refine .inr ⟨rfl,?_⟩;have:=hlt b hj;simp only[rv]at this;omega
   exfalso;have hal:a<L.length:=by omega
   have h1:=hlt _ (pg hal);have h2:=h.mono a j _ _ g (pg hal) hj;have h3:(rv k L[a].2+1)*k<=rv k b.2*k:=hZ _ h2;rw[nz]at h3;have:=h.pos;simp only[rv]at h1;omega
  obtain⟨_,h2⟩:=h.seen j x b hj hx hpos;obtain⟨c,g1,g2,g3⟩:=h2 q hn;obtain⟨j',g4⟩:=mY g1;exact⟨j',c,g4,g2,by simp only[rv];omega⟩
def z9H:List Nat->List Nat->Prop
 | [],_=>True
 | i::u,j::v=>i<j\/i=j/\z9H u v
 | _::_,[]=>False
def z1v:∀{w:List Nat} {p:S},KB k bad nx p w->∀x∈w,x<k
 | [],_,h=>h.elim
 | [i],_,h=>by simpa using h.1
 | i::j::w,_,⟨hi,_,q,_,h⟩=>by
  intro x hx;rcases pl.1 hx with rfl|hx
  ·exact hi
  exact z1v h x hx
def Mk (k:Nat)(bad:S->Nat->Bool)(nx:S->Nat->Option S):Nat->S->Prop
 | 0,_=>False
 | n+1,p=>Mk k bad nx n p\/∃i,i<k/\(bad p i=true\/∃q,nx p i=some q/\Mk k bad nx n q)
def Mk.mono {n m:Nat}{p:S}(h:Mk k bad nx n p)(hm:n<=m):Mk k bad nx m p:=by
 induction hm with
 | refl=>exact h
 | step _ ih=>exact .inl ih
def Mk.tell:∀{n:Nat} {p:S},Mk k bad nx n p->∃w,KB k bad nx p w/\w.length<=n
 | 0,_,h=>h.elim
 | n+1,p,.inl h=>by obtain⟨w,h1,h2⟩:=Mk.tell h;exact⟨w,h1,by omega⟩
 | n+1,p,.inr ⟨i,hi,h⟩=>by
  by_cases hb:bad p i=true
  ·exact⟨[i],⟨hi,hb⟩,by simp⟩
  rcases h with h|⟨q,hq,h⟩
  ·exact(hb h).elim
  obtain⟨w,h1,h2⟩:=Mk.tell h;refine⟨i::w,?_,by simp;omega⟩;cases w with
  | nil=>exact h1.elim
  | cons j w=>exact⟨hi,by simpa using hb,q,hq,h1⟩
def Vk:∀{w:List Nat} {p:S},KB k bad nx p w->Mk k bad nx w.length p
 | [],_,h=>h.elim
 | [i],p,h=>.inr ⟨i,h.1,.inl h.2⟩
 | i::j::w,p,⟨hi,hb,q,hn,h⟩=>.inr ⟨i,hi,.inr ⟨q,hn,Vk h⟩⟩
end
variable {α:Type}
def z2r {p q:α->Bool}:∀{l:List α},(∀x∈l,p x=true->q x=true)->(∃x∈l,q x=true/\p x=false)->l.countP p<l.countP q
 | [],_,⟨x,hx,_⟩=>by cases hx
 | y::l,h,⟨x,hx,h1,h2⟩=>by
  have hm:l.countP p<=l.countP q:=List.countP_mono_left λz hz=>h z (mI _ hz);simp only[rj];rcases pl.1 hx with rfl|hx
  ·simp only[h1,h2,if_true,pZ,if_false];omega
  have:=z2r (λz hz=>h z (mI _ hz)) ⟨x,hx,h1,h2⟩;cases hp:p y with
  | true=>simp only[h y (by simp) hp,if_true];omega
  | false=>simp only[pZ,if_false];split <;> omega
open Classical in
def zfr (N:Nat)(R:Nat->Nat->Prop):Nat:=(List.range N).countP λs=>decide (∀t,t<s->¬R s t)
def zow {N:Nat}(hN:0<N)(R:Nat->Nat->Nat->Prop)(symm:∀k s t,s<N->t<N->R k s t->R k t s)(trans:∀k s t u,s<N->t<N->u<N->R k s t->R k t u->R k s u)
  (refl:∀k s,s<N->R k s s) (mono:∀k s t,s<N->t<N->R (k+1) s t->R k s t) (stat:∀k,(∀s t,s<N->t<N->R k s t->R (k+1) s t)->∀s t,s<N->t<N->R (k+1) s t->R (k+2) s t) :
  ∀s t,s<N->t<N->R (N - 1) s t->∀j,R j s t:=by
 classical
 have step:∀k,(¬∀s t,s<N->t<N->R k s t->R (k+1) s t)->zfr N (R k)<zfr N (R (k+1)):=by
  intro k hk;simp only[Classical.not_forall]at hk;obtain⟨s,t,hs,ht,h1,h2⟩:=hk;unfold zfr;refine z2r (λx hx=>?_) ?_
  ·have hx:=gC.1 hx;simp only[decide_eq_true_eq];exact λh t ht q=>h t ht (mono k x t hx (by omega) q)
  ·
   have hmin:∃z,z<N/\R k z s/\∀y,y<z->¬R k y s:=by
    have key:∀n,∀z,z<=n->z<N->R k z s->∃z,z<N/\R k z s/\∀y,y<z->¬R k y s:=by
     intro n;induction n with
     | zero=>intro z hz hzN hr;exact⟨z,hzN,hr,λy hy=>by omega⟩
     | succ n ih=>
      intro z hz hzN hr;by_cases q:∃y,y<z/\R k y s
      ·obtain⟨y,y1,y2⟩:=q;exact ih y (by omega) (by omega) y2
      exact⟨z,hzN,hr,λy hy g=>q ⟨y,hy,g⟩⟩
    exact key s s (pj _) hs (refl k s hs)
   obtain⟨z,hz,hzs,hzm⟩:=hmin;have hzt:R k z t:=trans k z s t hz hs ht hzs h1;obtain⟨u,hu,hzu,hne⟩:∃u,u<N/\R k z u/\¬R (k+1) z u:=by
    by_cases q:R (k+1) z s
    ·by_cases g:R (k+1) z t
     ·exact(h2 (trans (k+1) s z t hs hz ht (symm _ _ _ hz hs q) g)).elim
     exact⟨t,ht,hzt,g⟩
    exact⟨s,hs,hzs,q⟩
   have hmin:∃y,y<N/\R (k+1) y u/\∀x,x<y->¬R (k+1) x u:=by
    have key:∀n,∀z,z<=n->z<N->R (k+1) z u->∃z,z<N/\R (k+1) z u/\∀y,y<z->¬R (k+1) y u:=by
     intro n;induction n with
     | zero=>intro z hz hzN hr;exact⟨z,hzN,hr,λy hy=>by omega⟩
     | succ n ih=>
      intro z hz hzN hr;by_cases q:∃y,y<z/\R (k+1) y u
      ·obtain⟨y,y1,y2⟩:=q;exact ih y (by omega) (by omega) y2
      exact⟨z,hzN,hr,λy hy g=>q ⟨y,hy,g⟩⟩
    exact key u u (pj _) hu (refl _ u hu)
   obtain⟨y,hy,hyu,hym⟩:=hmin;have hyk:R k y u:=mono k y u hy hu hyu;have hyz:R k y z:=trans k y u z hy hu hz hyk (symm _ _ _ hz hu hzu);have hzy:z<y:=by
    rcases mG z y with g|g|g
    ·exact g
    ·subst g;exact(hne hyu).elim
    exact(hzm y g (trans k y z s hy hz hs hyz hzs)).elim
   refine⟨y,gC.2 hy,?_,?_⟩
   ·simp only[decide_eq_true_eq];intro x hx q;exact hym x hx (trans (k+1) x y u (by omega) hy hu (symm _ _ _ hy (by omega) q) hyu)
   simp only[decide_eq_false_iff_not];intro q;exact q z hzy hyz
 have le:∀k,zfr N (R k)<=N:=by intro k;unfold zfr;refine pm (nY) ?_;simp
 have one:∀k,1<=zfr N (R k):=by intro k;unfold zfr;refine List.countP_pos_iff.2 ⟨0,gC.2 hN,?_⟩;simp
 have rest:∃k,k<N/\∀s t,s<N->t<N->R k s t->R (k+1) s t:=by
  refine gB λhno=>?_;have:∀k,k<=N->k+1<=zfr N (R k):=by
   intro k;induction k with
   | zero=>intro _;exact one 0
   | succ k ih=>intro hk;have:=step k λh=>hno ⟨k,by omega,h⟩;have:=ih (by omega);omega
  have:=this N (pj _);have:=le N;omega
 obtain⟨k,hk,hst⟩:=rest;have up:∀d,∀s t,s<N->t<N->R (k+d) s t->R (k+d+1) s t:=by
  intro d;induction d with
  | zero=>exact hst
  | succ d ih=>exact stat (k+d) ih
 have down:∀d j s t,s<N->t<N->R (j+d) s t->R j s t:=by
  intro d;induction d with
  | zero=>intro j s t _ _ h;exact h
  | succ d ih=>intro j s t hs ht h;exact ih j s t hs ht (mono _ s t hs ht h)
 intro s t hs ht h j;have hk':R k s t:=down (N - 1 - k) k s t hs ht (by rw[show k+(N - 1 - k)=N - 1 by omega];exact h);have far:∀d,R (k+d) s t:=by
  intro d;induction d with
  | zero=>exact hk'
  | succ d ih=>exact up d s t hs ht ih
 exact down k j s t hs ht (by rw[rB];exact far j)
section
variable {S S':Type}{k:Nat}{bad:S->Nat->Bool}{nx:S->Nat->Option S}{bad':S'->Nat->Bool}{nx':S'->Nat->Option S'}(φ:S->S')(I:S->Prop)
 (hI:∀p i q,I p->i<k->nx p i=some q->I q) (hb:∀p i,I p->i<k->bad' (φ p) i=bad p i) (hn:∀p i,I p->i<k->nx' (φ p) i=(nx p i).map φ)
include hI hb hn
end
def z11 (m:z6)(x:zl):Bool:=(x.To == -1&&x.Out == -1) ||(decide (0<=x.To)&&decide (x.To<(m.Rows.length:Int))&&decide (0<=x.Out)&&decide (x.Out<m.Outputs))
def z37 (m:z6)(r:List zl):Bool:=decide ((r.length:Int)=m.Inputs)&&r.all (z11 m)
def chk (m:z6):Int :=
 if m.Inputs > 16\/m.Outputs > 16\/(m.Rows.length:Int) > 64 then 3 else if m.Inputs<1\/m.Outputs<1\/m.Rows.length=0 then 1 else if m.Rows.all (z37 m)=true then 0 else 1
def zhz (m:z6)(x:zl):YP m x=some (z11 m x):=by
 unfold YP uv;simp only[oB,nP];rcases Bool.eq_false_or_eq_true (x.To==(-1)&&x.Out==(-1)) with h|h
 ·simp[z11,h]
 rw[h];simp only[z11,h,mS,cond_false];by_cases h1:(0:Int)<=x.To
 ·by_cases h2:x.To<(m.Rows.length:Int)
  ·by_cases h3:(0:Int)<=x.Out
   ·simp[gf,h1,h2,h3]
   simp[gf,h1,h2,h3]
  simp[gf,h1,h2]
 simp[h1]
def z7M (m:z6)(r:List zl)(hl:r.length<4611686018427387904):yd r m=some (!r.all (z11 m)):=by
 have hloop:loop (λs=>yc r m s) 0=some (oS (zM (λi x=>if z11 m x=true then none else some (i:Int)) r 0)):=by
  refine ya r hl _ ?_ ?_
  ·intro i x hx;have hi:=(pf.1 hx).1;unfold yc;have hd:decide ((i:Int)<((r.length:Nat):Int))=true:=by simpa using hi
   rw[hd,cond_true,y6,bdT hx];unfold YC;simp only[zhz,oB];cases z11 m x <;> rfl
  unfold yc;simp
 unfold yd xw;rw[hloop];simp only[oB];cases hf:zM (λi x=>if z11 m x=true then none else some (i:Int)) r 0 with
 | some q=>
  obtain⟨i,x,h1,h2⟩:=xk hf;have hx:z11 m x≠true:=by intro h;rw[if_pos h]at h2;cases h2
  rw[if_neg hx]at h2;simp only[Option.some.injEq]at h2;have:r.all (z11 m)=false:=by rw[List.all_eq_false];exact⟨x,pD h1,hx⟩
  rw[this];have:(q:Int)>=0:=by rw[<-h2];omega
  show some (decide (q>=0))=_;simp[this]
 | none=>
  have:r.all (z11 m)=true:=by
   rw[pV];intro x hx;obtain⟨i,hi⟩:=mY hx;have:=xe hf i x hi;by_cases h:z11 m x=true
   ·exact h
   rw[if_neg h]at this;cases this
  rw[this];rfl
variable {m:z6}
def z9E (h0:(m.Rows.length:Int)<=64)(h1:m.Inputs<=16):loop (λs=>qQ m s) 0=some (oS (zM (λ_ r=>if z37 m r=true then none else some (1:Int)) m.Rows 0)):=by
 refine ya m.Rows (by omega) _ ?_ ?_
 ·intro i r hr;have hi:=(pf.1 hr).1;unfold qQ;have hd:decide ((i:Int)<((m.Rows.length:Nat):Int))=true:=by simpa using hi
  rw[hd,cond_true,y6,bdT hr];by_cases hlen:(r.length:Int)=m.Inputs
  ·have hne:(((r.length:Nat):Int) != m.Inputs)=false:=by simpa using hlen
   rw[hne,cond_false,bdT (z7M m r (by omega))];have:z37 m r=r.all (z11 m):=by simp[z37,hlen]
   rw[this];cases r.all (z11 m) <;> rfl
  have hne:(((r.length:Nat):Int) != m.Inputs)=true:=by simpa using hlen
  rw[hne,cond_true];have:z37 m r=false:=by simp[z37,hlen]
  rw[this];rfl
 unfold qQ;simp
def z3s (m:z6):zM (λ_ r=>if z37 m r=true then none else some (1:Int)) m.Rows 0=if m.Rows.all (z37 m)=true then none else some 1:=by
 by_cases h:m.Rows.all (z37 m)=true
 ·rw[if_pos h];refine ZR λi r hr=>?_;rw[if_pos (pV.1 h r (pD hr))]
 rw[if_neg h];cases hf:zM (λ_ r=>if z37 m r=true then none else some (1:Int)) m.Rows 0 with
 | some q=>
  obtain⟨i,x,h1,h2⟩:=xk hf;split at h2
  ·cases h2
  exact h2.symm ▸ rfl
 | none=>
  exfalso;apply h;rw[pV];intro x hx;obtain⟨i,hi⟩:=mY hx;have:=xe hf i x hi;by_cases h:z37 m x=true
  ·exact h
  rw[if_neg h]at this;cases this
def Zl (m:z6):yV m=some (chk m):=by
 unfold yV chk;by_cases h1:m.Inputs > 16
 ·simp[h1]
 by_cases h2:m.Outputs > 16
 ·simp[gf,h1,h2]
 by_cases h3:(m.Rows.length:Int) > 64
 ·simp[gf,h1,h2,h3]
 rw[if_neg (by simp[gf,h1,h2,h3])];by_cases h4:m.Inputs<1
 ·simp[gf,h1,h2,h3,h4]
 by_cases h5:m.Outputs<1
 ·simp[gf,h1,h2,h3,h4,h5]
 by_cases h6:m.Rows.length=0
 ·simp[gf,h1,h2,h4,h5,h6]
 rw[if_neg (by simp[h4,h5,h6])];have h6':decide (((m.Rows.length:Nat):Int)<1)=false:=by simp;omega
 have e1:decide (m.Inputs > 16)=false:=by simpa using h1
 have e2:decide (m.Outputs > 16)=false:=by simpa using h2
 have e3:decide (((m.Rows.length:Nat):Int) > 64)=false:=by simpa using h3
 have e4:decide (m.Inputs<1)=false:=by simpa using h4
 have e5:decide (m.Outputs<1)=false:=by simpa using h5
 simp only[e1,e2,e3,e4,e5,h6',cond_false];rw[bdT (z9E (by omega) (by omega)),z3s];by_cases h:m.Rows.all (z37 m)=true
 ·rw[if_pos h,if_pos h];rfl
 rw[if_neg h,if_neg h];rfl
def zaw {s:Nat}{r:List zl}(hr:m.Rows[s]?=some r)(hlen:(r.length:Int)=m.Inputs)(h1:m.Inputs<=16):loop (λq=>jC m (s:Int) q) 0=some (if r.all (z11 m)=true then .inl () else .inr 1):=by
 have hl:loop (λq=>jC m (s:Int) q) 0=some (oS (zM (λ_ x=>if z11 m x=true then none else some (1:Int)) r 0)):=by
  refine ya r (by omega) _ ?_ ?_
  ·intro i x hx;have hi:=(pf.1 hx).1;unfold jC;have hd:decide ((i:Int)<m.Inputs)=true:=by rw[<-hlen];simpa using hi
   rw[hd,cond_true,y6,bdT hr,y6,bdT hx];unfold Y6 Y7 z11;by_cases a1:x.To=-1
   ·by_cases a2:x.Out=-1
    ·simp[nS,gf,a1,a2]
    simp[nS,gf,a1,a2]
   by_cases a2:x.To<0
   ·have:¬0<=x.To:=by omega
    simp[nS,gf,a1,a2,this]
   by_cases a3:(m.Rows.length:Int)<=x.To
   ·have:¬x.To<(m.Rows.length:Int):=by omega
    simp[nS,gf,a1,a2,a3,this]
   by_cases a4:x.Out<0
   ·have:¬0<=x.Out:=by omega
    simp[nS,gf,a1,a2,a3,a4,this]
   by_cases a5:m.Outputs<=x.Out
   ·have:¬x.Out<m.Outputs:=by omega
    simp[nS,gf,a1,a2,a3,a4,a5,this]
   have b1:0<=x.To:=by omega
   have b2:x.To<(m.Rows.length:Int):=by omega
   have b3:0<=x.Out:=by omega
   have b4:x.Out<m.Outputs:=by omega
   simp[nS,gf,a1,a2,a3,a4,a5,b1,b2,b3,b4]
  unfold jC;simp[hlen]
 rw[hl];by_cases h:r.all (z11 m)=true
 ·rw[if_pos h];rw[ZR λi x hx=>by rw[if_pos (pV.1 h x (pD hx))]];rfl
 rw[if_neg h];cases hf:zM (λ_ x=>if z11 m x=true then none else some (1:Int)) r 0 with
 | some q=>
  obtain⟨i,x,h1,h2⟩:=xk hf;split at h2
  ·cases h2
  simp only[Option.some.injEq]at h2;rw[<-h2];rfl
 | none=>
  exfalso;apply h;rw[pV];intro x hx;obtain⟨i,hi⟩:=mY hx;have:=xe hf i x hi;by_cases h:z11 m x=true
  ·exact h
  rw[if_neg h]at this;cases this
def Kg (m:z6):ZI m=some (chk m):=by
 unfold ZI chk;by_cases h1:m.Inputs > 16
 ·simp[h1]
 by_cases h2:m.Outputs > 16
 ·simp[gf,h1,h2]
 by_cases h3:(m.Rows.length:Int) > 64
 ·simp[gf,h1,h2,h3]
 rw[if_neg (by simp[gf,h1,h2,h3])];by_cases h4:m.Inputs<1
 ·simp[gf,h1,h2,h3,h4]
 by_cases h5:m.Outputs<1
 ·simp[gf,h1,h2,h3,h4,h5]
 by_cases h6:m.Rows.length=0
 ·simp[gf,h1,h2,h4,h5,h6]
 rw[if_neg (by simp[h4,h5,h6])];have e1:decide (m.Inputs > 16)=false:=by simpa using h1
 have e2:decide (m.Outputs > 16)=false:=by simpa using h2
 have e3:decide (((m.Rows.length:Nat):Int) > 64)=false:=by simpa using h3
 have e4:decide (m.Inputs<1)=false:=by simpa using h4
 have e5:decide (m.Outputs<1)=false:=by simpa using h5
 have e6:(((m.Rows.length:Nat):Int)==0)=false:=by simp;intro h;rw[h]at h6;exact h6 rfl
 simp only[e1,e2,e3,e4,e5,e6,cond_false];have hl:loop (λs=>Y5 m s) 0=some (oS (zM (λ_ r=>if z37 m r=true then none else some (1:Int)) m.Rows 0)):=by
  refine ya m.Rows (by omega) _ ?_ ?_
  ·intro i r hr;have hi:=(pf.1 hr).1;unfold Y5;have hd:decide ((i:Int)<((m.Rows.length:Nat):Int))=true:=by simpa using hi
   rw[hd,cond_true,y6,bdT hr];by_cases hlen:(r.length:Int)=m.Inputs
   ·have hne:(((r.length:Nat):Int) != m.Inputs)=false:=by simpa using hlen
    rw[hne,cond_false,bdT (zaw hr hlen (by omega))];have:z37 m r=r.all (z11 m):=by simp[z37,hlen]
    rw[this];cases r.all (z11 m) <;> rfl
   have hne:(((r.length:Nat):Int) != m.Inputs)=true:=by simpa using hlen
   rw[hne,cond_true];have:z37 m r=false:=by simp[z37,hlen]
   rw[this];rfl
  unfold Y5;simp
 rw[bdT hl,z3s];by_cases h:m.Rows.all (z37 m)=true
 ·rw[if_pos h,if_pos h];rfl
 rw[if_neg h,if_neg h];rfl
structure VM (m:z6):Prop where
 in1:1<=m.Inputs
 in16:m.Inputs<=16
 out1:1<=m.Outputs
 out16:m.Outputs<=16
 len1:1<=m.Rows.length
 len64:m.Rows.length<=64
 row:∀r∈m.Rows,(r.length:Int)=m.Inputs
 edge:∀r∈m.Rows,∀x∈r,(x.To=-1/\x.Out=-1)\/(0<=x.To/\x.To<(m.Rows.length:Int)/\0<=x.Out/\x.Out<m.Outputs)
def zga (h:chk m=0):VM m:=by
 unfold chk at h;split at h
 ·cases h
 split at h
 ·cases h
 split at h
 ·rename_i h1 h2 h3;rw[pV]at h3;refine⟨by omega,by omega,by omega,by omega,by omega,by omega,λr hr=>?_,λr hr x hx=>?_⟩
  ·have:=h3 r hr;simp only[z37,po,decide_eq_true_eq]at this;exact this.1
  have:=h3 r hr;simp only[z37,po,decide_eq_true_eq,pV]at this;have:=this.2 x hx;simp only[z11,gO,po,beq_iff_eq,decide_eq_true_eq]at this;rcases this with⟨a,b⟩|⟨⟨⟨a,b⟩,c⟩,d⟩
  ·exact .inl ⟨a,b⟩
  exact .inr ⟨a,b,c,d⟩
 cases h
def Qk (h:VM m):chk m=0:=by
 unfold chk;have:=h.in1;have:=h.in16;have:=h.out1;have:=h.out16;have:=h.len1;have:=h.len64;rw[if_neg (by omega),if_neg (by omega),if_pos];rw[pV];intro r hr;simp only[z37,po,decide_eq_true_eq,pV];refine⟨h.row r hr,λx hx=>?_⟩;simp only[z11,gO,po,beq_iff_eq,decide_eq_true_eq];rcases h.edge r hr x hx with⟨a,b⟩|⟨a,b,c,d⟩
 ·exact .inl ⟨a,b⟩
 exact .inr ⟨⟨⟨a,b⟩,c⟩,d⟩
def kk (m:z6):Nat:=m.Inputs.toNat
def E (m:z6)(s i:Nat):zl:=((m.Rows[s]?.getD [])[i]?).getD ⟨-1,-1⟩
variable {s i:Nat}{β:Type}
section
variable {m:z6}(h:VM m)
include h
theorem VM.kk_eq:((kk m:Nat):Int)=m.Inputs:=by have:=h.in1;unfold kk;omega
theorem VM.kk_pos:1<=kk m:=by have:=h.in1;unfold kk;omega
theorem VM.kk_le:kk m<=16:=by have:=h.in16;unfold kk;omega
theorem VM.rowAt {s:Nat}(hs:s<m.Rows.length):∃r,m.Rows[s]?=some r/\r.length=kk m/\∀i,i<kk m->r[i]?=some (E m s i):=by
 have hr:=pg hs;have hl:=h.row _ (pL hs);have hl':m.Rows[s].length=kk m:=by unfold kk;omega
 refine⟨_,hr,hl',λi hi=>?_⟩;have hi':i<m.Rows[s].length:=by omega
 unfold E;rw[hr];simp only[gH];rw[pg hi'];rfl
theorem VM.edgeAt (hs:s<m.Rows.length)(hi:i<kk m):((E m s i).To=-1/\(E m s i).Out=-1)\/(0<=(E m s i).To/\(E m s i).To<(m.Rows.length:Int)/\0<=(E m s i).Out/\(E m s i).Out<m.Outputs):=by obtain⟨r,h1,_,h2⟩:=h.rowAt hs;exact h.edge r (pD h1) _ (pD (h2 i hi))
theorem VM.ret_edge (hs:s<m.Rows.length)(hi:i<kk m)  {f:zl->Option β}{Q:β->Prop}(q:Ret (f (E m s i)) Q) :
  Ret (Option.bind (idx m.Rows (s:Int)) λr=>Option.bind (idx r (i:Int)) f) Q:=by
 obtain⟨r,h1,_,h2⟩:=h.rowAt hs;rw[y6,h1,oB,y6,h2 i hi,oB];exact q
theorem VM.edge_eq (hs:s<m.Rows.length)(hi:i<kk m)  {f:zl->Option β} :
  (Option.bind (idx m.Rows (s:Int)) λr=>Option.bind (idx r (i:Int)) f)=f (E m s i):=by
 obtain⟨r,h1,_,h2⟩:=h.rowAt hs;rw[y6,h1,oB,y6,h2 i hi,oB]
end
section
variable {K V:Type}[BEq K][LawfulBEq K]
def z0Z (l:List (K×V))(x y:K)(v:V):Vc (z26 l x v) y=if(x==y)=true then some v else Vc l y:=by
 induction l with
 | nil=>simp only[z26,Vc]
 | cons p l ih=>
  simp only[z26];by_cases h:p.1=x
  ·rw[if_pos (by simpa using h)];simp only[Vc];by_cases q:x=y
   ·rw[if_pos (by simpa using q),if_pos (by simpa using q)]
   rw[if_neg (by simpa using q),if_neg (by simpa using q),if_neg (by rw[h];simpa using q)]
  rw[if_neg (by simpa using h)];simp only[Vc,ih];by_cases q:p.1=y
  ·have q':¬x=y:=by rintro rfl;exact h q
   have e1:(p.1==y)=true:=by simpa using q
   have e2:(x==y)=false:=by simpa using q'
   simp[e1,e2]
  have e1:(p.1==y)=false:=by simpa using q
  simp[e1]
end
def JE:∀(n:Nat) (l:List Nat),l.Nodup->(∀x∈l,x<n)->l.length<=n
 | 0,l,_,h=>by
  cases l with
  | nil=>simp
  | cons x l=>have:=h x (by simp);omega
 | n+1,l,hd,h=>by
  by_cases hm:n∈l
  ·have h1:=List.length_erase_of_mem hm;have h2:=JE n (l.erase n) (hd.erase n) λx hx=>by have h3:=(hd.mem_erase_iff).1 hx;have:=h x h3.2;have:=h3.1;omega
   have:0<l.length:=List.length_pos_of_mem hm;omega
  have:=JE n l hd λx hx=>by have:=h x hx;have:x≠n:=λe=>hm (e ▸ hx);omega
  omega
def Zn (a b:z6)(p:Nat×Nat)(i:Nat):Bool:=(E a p.1 i).Out !=(E b p.2 i).Out
def nxP (a b:z6)(p:Nat×Nat)(i:Nat):Option (Nat×Nat):=if 0<=(E a p.1 i).To/\0<=(E b p.2 i).To then some ((E a p.1 i).To.toNat,(E b p.2 i).To.toNat) else none
abbrev LL:=List ((Nat×Nat)×List Nat)
def zp7 (a b:z6)(L:LL):Prop:=(L.map (·.1)).Nodup/\∀x∈L,x.1.1<a.Rows.length/\x.1.2<b.Rows.length
def zbj {a b:z6}(hab:a.Inputs=b.Inputs):kk a=kk b:=by unfold kk;rw[hab]
structure WM (m:z6):Prop where
 in1:1<=m.Inputs
 in16:m.Inputs<=16
 len1:1<=m.Rows.length
 len:m.Rows.length<=128
 row:∀r∈m.Rows,(r.length:Int)=m.Inputs
 edge:∀r∈m.Rows,∀x∈r,(x.To=-1/\x.Out=-1)\/(0<=x.To/\x.To<(m.Rows.length:Int)/\0<=x.Out)
def VM.wm (h:VM m):WM m:=⟨h.in1,h.in16,h.len1,by have:=h.len64;omega,h.row,λr hr x hx=>by
 rcases h.edge r hr x hx with g|⟨g1,g2,g3,_⟩
 ·exact .inl g
 exact .inr ⟨g1,g2,g3⟩⟩
section
variable {m:z6}(h:WM m)
include h
theorem WM.kk_eq:((kk m:Nat):Int)=m.Inputs:=by have:=h.in1;unfold kk;omega
theorem WM.kk_le:kk m<=16:=by have:=h.in16;unfold kk;omega
theorem WM.rowAt {s:Nat}(hs:s<m.Rows.length):∃r,m.Rows[s]?=some r/\r.length=kk m/\∀i,i<kk m->r[i]?=some (E m s i):=by
 have hr:=pg hs;have hl:=h.row _ (pL hs);have hl':m.Rows[s].length=kk m:=by unfold kk;omega
 refine⟨_,hr,hl',λi hi=>?_⟩;have hi':i<m.Rows[s].length:=by omega
 unfold E;rw[hr];simp only[gH];rw[pg hi'];rfl
theorem WM.edgeAt (hs:s<m.Rows.length)(hi:i<kk m):((E m s i).To=-1/\(E m s i).Out=-1)\/(0<=(E m s i).To/\(E m s i).To<(m.Rows.length:Int)/\0<=(E m s i).Out):=by obtain⟨r,h1,_,h2⟩:=h.rowAt hs;exact h.edge r (pD h1) _ (pD (h2 i hi))
theorem WM.edge_eq (hs:s<m.Rows.length)(hi:i<kk m)  {f:zl->Option β} :
  (Option.bind (idx m.Rows (s:Int)) λr=>Option.bind (idx r (i:Int)) f)=f (E m s i):=by
 obtain⟨r,h1,_,h2⟩:=h.rowAt hs;rw[y6,h1,oB,y6,h2 i hi,oB]
theorem WM.nx_in {p:Nat×Nat}{i:Nat}{q:Nat×Nat}(h1:p.1<m.Rows.length)(h2:p.2<m.Rows.length)(hi:i<kk m)(hq:nxP m m p i=some q):q.1<m.Rows.length/\q.2<m.Rows.length:=by
 unfold nxP at hq;split at hq
 ·rename_i hc;cases hq;have a:=h.edgeAt h1 hi;have b:=h.edgeAt h2 hi;simp only;omega
 cases hq
end
def mkb (k:Nat)(bad:Nat×Nat->Nat->Bool)(nx:Nat×Nat->Nat->Option (Nat×Nat)):Nat->Nat×Nat->Bool
 | 0,_=>false
 | n+1,p=>mkb k bad nx n p ||(List.range k).any λi=>bad p i ||(match nx p i with|some q=>mkb k bad nx n q|none=>false)
def z4Z (k:Nat)(bad:Nat×Nat->Nat->Bool)(nx:Nat×Nat->Nat->Option (Nat×Nat)):∀(n:Nat) (p:Nat×Nat),mkb k bad nx n p=true↔Mk k bad nx n p
 | 0,p=>by simp[mkb,Mk]
 | n+1,p=>by
  simp only[mkb,Mk,gO,nL,gC,z4Z k bad nx n p];constructor
  ·rintro(h|⟨i,hi,h|h⟩)
   ·exact .inl h
   ·exact .inr ⟨i,hi,.inl h⟩
   cases hq:nx p i with
   | none=>rw[hq]at h;cases h
   | some q=>rw[hq]at h;exact .inr ⟨i,hi,.inr ⟨q,hq,(z4Z k bad nx n q).1 h⟩⟩
  rintro(h|⟨i,hi,h|⟨q,hq,h⟩⟩)
  ·exact .inl h
  ·exact .inr ⟨i,hi,.inl h⟩
  exact .inr ⟨i,hi,.inr (by rw[hq];exact(z4Z k bad nx n q).2 h)⟩
def tab (N:Nat)(f:Nat->Nat->Bool):List (List Bool):=(List.range N).map λs=>(List.range N).map λt=>f s t
def z9W {N s t:Nat}(f:Nat->Nat->Bool)(hs:s<N)(ht:t<N)  {g:Bool->Option β}:(Option.bind (idx (tab N f) (s:Int)) λr=>Option.bind (idx r (t:Int)) g)=g (f s t):=by
 have e1:(tab N f)[s]?=some ((List.range N).map λt=>f s t):=by simp[tab,hs]
 have e2:((List.range N).map λt=>f s t)[t]?=some (f s t):=by simp[ht]
 rw[y6,e1,oB,y6,e2,oB]
def zab (N t:Nat)(g:Nat->α)(v:α):((List.range N).map g).set t v=(List.range N).map λx=>if x=t then v else g x:=by
 refine List.ext_getElem (by simp) λn h1 h2=>?_;simp only[List.getElem_set,List.getElem_map,List.getElem_range];by_cases e:t=n
 ·rw[if_pos e,if_pos e.symm]
 rw[if_neg e,if_neg (mZ e)]
def z7e (m:z6)(f:Nat->Nat->Bool)(p:Nat×Nat)(i:Nat):Bool:=Zn m m p i ||(match nxP m m p i with|some q=>f q.1 q.2|none=>false)
def zeZ (h:WM m)(f:Nat->Nat->Bool){s t:Nat}(hs:s<m.Rows.length)(ht:t<m.Rows.length) :
  VA m (tab m.Rows.length f) (s:Int) (t:Int)=some (if(List.range (kk m)).any (z7e m f (s,t))=true then 1 else 0):=by
 have hk:=h.kk_eq;have k16:=h.kk_le;have hl:loop (λq=>Y3 m (tab m.Rows.length f) (s:Int) (t:Int) q) 0=some (oS (zM (λ_ i=>if z7e m f (s,t) i=true then some (1:Int) else none) (List.range (kk m)) 0)):=by
  refine ya (List.range (kk m)) (by simp;omega) _ ?_ ?_
  ·intro i x hx;have hi:i<kk m:=by have:=(pf.1 hx).1;simpa using this
   have:x=i:=by rw[rq hi]at hx;exact(Option.some.inj hx).symm
   subst this;unfold Y3 jB;have hd:decide ((x:Int)<m.Inputs)=true:=by rw[<-hk];simpa using hi
   rw[hd,cond_true,h.edge_eq hs hi,h.edge_eq ht hi];have e1:=h.edgeAt hs hi;have e2:=h.edgeAt ht hi;by_cases hbad:(E m s x).Out=(E m t x).Out
   ·have n1:((E m s x).Out !=(E m t x).Out)=false:=by simpa using hbad
    rw[n1,cond_false];by_cases t1:(E m s x).To>=0
    ·by_cases t2:(E m t x).To>=0
     ·have hnx:nxP m m (s,t) x=some ((E m s x).To.toNat,(E m t x).To.toNat):=by unfold nxP;rw[if_pos ⟨t1,t2⟩]
      have hin:=h.nx_in hs ht hi hnx;have c1:(E m s x).To=(((E m s x).To.toNat:Nat):Int):=by omega
      have c2:(E m t x).To=(((E m t x).To.toNat:Nat):Int):=by omega
      have ht1:z7e m f (s,t) x=f (E m s x).To.toNat (E m t x).To.toNat:=by unfold z7e Zn;rw[hnx];simp only[n1,mS]
      rw[decide_eq_true t1,decide_eq_true t2];simp only[cond_true];have:=z9W f hin.1 hin.2 (g:=λv=>bif v then some (LR.done (Sum.inr (1:Int)):LR Int (Unit⊕Int)) else some (LR.next (w64 ((x:Int)+1))));rw[<-c1,<-c2]at this;rw[this,ht1];cases f (E m s x).To.toNat (E m t x).To.toNat <;> rfl
     have ht1:z7e m f (s,t) x=false:=by unfold z7e Zn nxP;rw[if_neg (by simp only;omega)];simp only[n1,mS]
     rw[decide_eq_true t1,decide_eq_false t2,ht1];rfl
    have ht1:z7e m f (s,t) x=false:=by unfold z7e Zn nxP;rw[if_neg (by simp only;omega)];simp only[n1,mS]
    rw[decide_eq_false t1,ht1];rfl
   have n1:((E m s x).Out !=(E m t x).Out)=true:=by simpa using hbad
   have ht1:z7e m f (s,t) x=true:=by unfold z7e Zn;simp only[n1,Bool.true_or]
   rw[n1,ht1];rfl
  unfold Y3;rw[List.length_range,hk];simp
 unfold VA;rw[bdT hl];cases hf:zM (λ(_:Nat) i=>if z7e m f (s,t) i=true then some (1:Int) else none) (List.range (kk m)) 0 with
 | some q=>
  obtain⟨i,x,h1,h2⟩:=xk hf;split at h2
  ·rename_i hx;cases h2;have:(List.range (kk m)).any (z7e m f (s,t))=true:=nL.2 ⟨x,pD h1,hx⟩;rw[if_pos this];rfl
  cases h2
 | none=>
  have:¬(List.range (kk m)).any (z7e m f (s,t))=true:=by rw[nL];rintro⟨x,hx,hx2⟩;obtain⟨i,hi⟩:=mY hx;have:=xe hf i x hi;rw[if_pos hx2]at this;cases this
  rw[if_neg this];rfl
def zav (N:Nat):List.replicate ((N:Nat):Int).toNat false=(List.range N).map λ_=>false:=by refine List.ext_getElem (by simp) λn h1 h2=>?_;simp
def XR (m:z6)(f:Nat->Nat->Bool)(s t:Nat):Bool:=f s t ||(List.range (kk m)).any (z7e m f (s,t))
def zdM (h:WM m)(f:Nat->Nat->Bool):loop (λq=>qA m (tab m.Rows.length f) q.1 q.2) (([]:List (List Bool)),0)=some (tab m.Rows.length (XR m f)):=by
 have zkg:=h.len;have row:∀(s:Nat),s<m.Rows.length->loop (λq=>qz m (tab m.Rows.length f) (s:Int) q.1 q.2) (((List.range s).map λs=>(List.range m.Rows.length).map λt=>XR m f s t)++[(List.range m.Rows.length).map λ_=>false],0)=some ((List.range (s+1)).map λs=>(List.range m.Rows.length).map λt=>XR m f s t):=by
  intro s hs;have hst:=xu (step:=λq=>qz m (tab m.Rows.length f) (s:Int) q.1 q.2) (λt:Nat=>(((List.range s).map λs=>(List.range m.Rows.length).map λt=>XR m f s t)++[(List.range m.Rows.length).map λt'=>if t' < t then XR m f s t' else false],(t:Int))) m.Rows.length (t:=(List.range (s+1)).map λs=>(List.range m.Rows.length).map λt=>XR m f s t) (by omega) ?_ ?_
  ·simpa using hst
  ·intro t ht;unfold qz;have hd:decide ((t:Int)<((m.Rows.length:Nat):Int))=true:=by simpa using ht
   have hw:w64 ((t:Int)+1)=((t+1:Nat):Int):=by rw[zF (by omega) (by omega)];rfl
   simp only[hd,cond_true];have e1:(((List.range s).map λs=>(List.range m.Rows.length).map λt=>XR m f s t)++[(List.range m.Rows.length).map λt'=>if t' < t then XR m f s t' else false])[s]?=some ((List.range m.Rows.length).map λt'=>if t' < t then XR m f s t' else false):=by rw[px (by simp)];simp
   have e2:∀x,((List.range m.Rows.length).map λt'=>if t' < t then XR m f s t' else false)[t]?=some x↔x=false:=by intro x;simp[ht,eq_comm]
   have e2':=(e2 false).2 rfl;have fin:∀v:Bool,v=XR m f s t->(((List.range s).map λs=>(List.range m.Rows.length).map λt=>XR m f s t)++[(List.range m.Rows.length).map λt'=>if t' < t then XR m f s t' else false]).set s (((List.range m.Rows.length).map λt'=>if t' < t then XR m f s t' else false).set t v)=((List.range s).map λs=>(List.range m.Rows.length).map λt=>XR m f s t)++[(List.range m.Rows.length).map λt'=>if t' < t+1 then XR m f s t' else false]:=by
    intro v hv;rw[List.set_append,if_neg (by simp),zab];simp only[pT,List.length_range,mX,mU];congr 3;funext x;by_cases e:x=t
    ·subst e;rw[if_pos rfl,if_pos (by omega)];exact hv
    rw[if_neg e];by_cases g:x<t
    ·rw[if_pos g,if_pos (by omega)]
    rw[if_neg g,if_neg (by omega)]
   rw[y6,bdT e1,z9W f hs ht];cases hf:f s t with
   | true=>simp only[cond_true];rw[y6,bdT e2',hw,pi,pi,fin true (by simp[XR,hf])]
   | false=>simp only[cond_false];rw[bdT (zeZ h f hs ht),y6,bdT e2',hw,pi,pi,fin _ ?_];unfold XR;rw[hf,mS];cases (List.range (kk m)).any (z7e m f (s,t)) <;> rfl
  unfold qz;simp only[Int.lt_irrefl,decide_false,cond_false];congr 3;rw[nD,gQ];congr 1;simp only[gt,mR];congr 1;refine gW λx hx=>?_;rw[if_pos (gC.1 hx)]
 have:=xu (step:=λq=>qA m (tab m.Rows.length f) q.1 q.2) (λs:Nat=>((List.range s).map λs=>(List.range m.Rows.length).map λt=>XR m f s t,(s:Int))) m.Rows.length (t:=tab m.Rows.length (XR m f)) (by omega) ?_ ?_
 ·exact this
 ·intro s hs;unfold qA Xp;have hd:decide ((s:Int)<((m.Rows.length:Nat):Int))=true:=by simpa using hs
  have hw:w64 ((s:Int)+1)=((s+1:Nat):Int):=by rw[zF (by omega) (by omega)];rfl
  simp only[hd,cond_true];rw[gdT (by omega),gdT (by simp;omega),zav,bdT (row s hs),hw]
 unfold qA;simp only[Int.lt_irrefl,decide_false,cond_false];rfl
def mrk (m:z6)(n s t:Nat):Bool:=mkb (kk m) (Zn m m) (nxP m m) n (s,t)
def ze3 (m:z6)(n:Nat):XR m (mrk m n)=mrk m (n+1):=by funext s t;unfold XR mrk;simp only[mkb];congr 1
def zb8 (h:WM m)(n:Nat)(hn:n<=1000000):W7 m (n:Int)=some (tab m.Rows.length (mrk m n)):=by
 have zkg:=h.len;have l9:loop (λq=>qu m q.1 q.2) (([]:List (List Bool)),0)=some (tab m.Rows.length (mrk m 0)):=by
  have:=xu (step:=λq=>qu m q.1 q.2) (λs:Nat=>((List.range s).map λ_=>(List.range m.Rows.length).map λ_=>false,(s:Int))) m.Rows.length (t:=tab m.Rows.length (mrk m 0)) (by omega) ?_ ?_
  ·exact this
  ·intro s hs;unfold qu;have hd:decide ((s:Int)<((m.Rows.length:Nat):Int))=true:=by simpa using hs
   have hw:w64 ((s:Int)+1)=((s+1:Nat):Int):=by rw[zF (by omega) (by omega)];rfl
   simp only[hd,cond_true];rw[gdT (by omega),gdT (by simp;omega),zav,hw,nD,gQ];rfl
  unfold qu;simp only[Int.lt_irrefl,decide_false,cond_false];rfl
 have l3:=xu (step:=λq=>qB m (n:Int) q.1 q.2) (λr:Nat=>(tab m.Rows.length (mrk m r),(r:Int))) n (t:=tab m.Rows.length (mrk m n)) (by omega) ?_ ?_
 ·unfold W7 Xt Xs;rw[bdT l9];have l3':loop (λq=>qB m (n:Int) q.1 q.2) (tab m.Rows.length (mrk m 0),0)=some (tab m.Rows.length (mrk m n)):=l3;rw[bdT l3']
 ·intro r hr;unfold qB Xq Xr;have hd:decide ((r:Int)<(n:Int))=true:=by simpa using hr
  have hw:w64 ((r:Int)+1)=((r+1:Nat):Int):=by rw[zF (by omega) (by omega)];rfl
  simp only[hd,cond_true];rw[bdT (zdM h (mrk m r)),ze3,hw]
 unfold qB;simp only[Int.lt_irrefl,decide_false,cond_false]
def Km (h:WM m){s t:Nat}(hs:s<m.Rows.length)(ht:t<m.Rows.length){j:Nat}(hj:Mk (kk m) (Zn m m) (nxP m m) j (s,t)):Mk (kk m) (Zn m m) (nxP m m) (m.Rows.length - 1) (s,t):=by
 refine gB λhno=>?_;have same:∀{p:Nat×Nat} {i:Nat},p.1<m.Rows.length->p.2<m.Rows.length->i<kk m->Zn m m p i=false->((E m p.1 i).To>=0↔(E m p.2 i).To>=0):=by
  intro p i h1 h2 hi hb;have e:(E m p.1 i).Out=(E m p.2 i).Out:=by simpa[Zn] using hb
  have a:=h.edgeAt h1 hi;have b:=h.edgeAt h2 hi;omega
 have symm:∀k s t,Mk (kk m) (Zn m m) (nxP m m) k (s,t)->Mk (kk m) (Zn m m) (nxP m m) k (t,s):=by
  intro k;induction k with
  | zero=>intro s t h;exact h
  | succ k ih=>
   rintro s t (h|⟨i,hi,h|⟨q,hq,h⟩⟩)
   ·exact .inl (ih _ _ h)
   ·exact .inr ⟨i,hi,.inl (by unfold Zn at h ⊢;simp only[bne_iff_ne,ne_eq]at h ⊢;exact λe=>h e.symm)⟩
   refine .inr ⟨i,hi,.inr ⟨(q.2,q.1),?_,ih _ _ h⟩⟩;unfold nxP at hq ⊢;split at hq
   ·rename_i hc;cases hq;rw[if_pos ⟨hc.2,hc.1⟩]
   cases hq
 have trans:∀k s t u,s<m.Rows.length->t<m.Rows.length->u<m.Rows.length->Mk (kk m) (Zn m m) (nxP m m) k (s,u)->Mk (kk m) (Zn m m) (nxP m m) k (s,t)\/Mk (kk m) (Zn m m) (nxP m m) k (t,u):=by
  intro k;induction k with
  | zero=>intro s t u _ _ _ h;exact h.elim
  | succ k ih=>
   rintro s t u hs ht hu (g|⟨i,hi,g|⟨q,hq,g⟩⟩)
   ·rcases ih s t u hs ht hu g with g|g
    ·exact .inl (.inl g)
    exact .inr (.inl g)
   ·cases b1:Zn m m (s,t) i with
    | true=>exact .inl (.inr ⟨i,hi,.inl b1⟩)
    | false=>refine .inr (.inr ⟨i,hi,.inl ?_⟩);unfold Zn at b1 g ⊢;simp only[bne_iff_ne,ne_eq,bne_eq_false_iff_eq]at b1 g ⊢;rw[<-b1];exact g
   cases b1:Zn m m (s,t) i with
   | true=>exact .inl (.inr ⟨i,hi,.inl b1⟩)
   | false=>
    cases b2:Zn m m (t,u) i with
    | true=>exact .inr (.inr ⟨i,hi,.inl b2⟩)
    | false=>
     have c1:=same (p:=(s,t)) hs ht hi b1;have c2:=same (p:=(t,u)) ht hu hi b2;simp only at c1 c2;unfold nxP at hq;split at hq
     ·rename_i hc;cases hq;simp only at hc g;have e1:=h.edgeAt hs hi;have e2:=h.edgeAt ht hi;have e3:=h.edgeAt hu hi;rcases ih (E m s i).To.toNat (E m t i).To.toNat (E m u i).To.toNat (by omega) (by omega) (by omega) g with g|g
      ·exact .inl (.inr ⟨i,hi,.inr ⟨_,by unfold nxP;rw[if_pos ⟨hc.1,by simp only;omega⟩],g⟩⟩)
      exact .inr (.inr ⟨i,hi,.inr ⟨_,by unfold nxP;rw[if_pos ⟨by simp only;omega,hc.2⟩],g⟩⟩)
     cases hq
 have refl:∀k s,¬Mk (kk m) (Zn m m) (nxP m m) k (s,s):=by
  intro k;induction k with
  | zero=>intro s h;exact h
  | succ k ih=>
   rintro s (g|⟨i,hi,g|⟨q,hq,g⟩⟩)
   ·exact ih s g
   ·simp[Zn]at g
   unfold nxP at hq;split at hq
   ·cases hq;exact ih _ g
   cases hq
 exact zow (N:=m.Rows.length) h.len1 (λk s t=>¬Mk (kk m) (Zn m m) (nxP m m) k (s,t)) (λk s t _ _ g q=>g (symm k t s q)) (λk s t u hs ht hu g1 g2 q=>by
   rcases trans k s t u hs ht hu q with g|g
   ·exact g1 g
   ·exact g2 g) (λk s _=>refl k s) (λk s t _ _ g q=>g (.inl q)) (λk hk s t hs ht g q=>by
   rcases q with q|⟨i,hi,q|⟨r,hr,q⟩⟩
   ·exact g q
   ·exact g (.inr ⟨i,hi,.inl q⟩)
   have hin:=h.nx_in (p:=(s,t)) hs ht hi hr;have:Mk (kk m) (Zn m m) (nxP m m) k r:=gB λc=>hk r.1 r.2 hin.1 hin.2 c q;exact g (.inr ⟨i,hi,.inr ⟨r,hr,this⟩⟩)) s t hs ht hno j hj
def zgZ (s t:List Int)(hs:s.length<4611686018427387904)(ht:t.length<4611686018427387904):Qw s t=some (decide (s=t)):=by
 unfold Qw VE;by_cases h1:s.length<t.length
 ·rw[decide_eq_true (show((s.length:Nat):Int)<((t.length:Nat):Int) by omega),cond_true,oB];rw[decide_eq_false (λe=>by rw[e]at h1;omega)];rfl
 by_cases h2:t.length<s.length
 ·rw[decide_eq_false (show ¬((s.length:Nat):Int)<((t.length:Nat):Int) by omega),cond_false,decide_eq_true (show((s.length:Nat):Int) > ((t.length:Nat):Int) by omega),cond_true,oB];rw[decide_eq_false (λe=>by rw[e]at h2;omega)];rfl
 rw[decide_eq_false (show ¬((s.length:Nat):Int)<((t.length:Nat):Int) by omega),cond_false,decide_eq_false (show ¬((s.length:Nat):Int) > ((t.length:Nat):Int) by omega),cond_false];have hlen:s.length=t.length:=by omega
 have hl:loop (λq=>jM s t q) 0=some (oS (zM (λi x=>match t[i]? with|none=>none|some y=>if x<y then some (-1) else if y<x then some (1:Int) else none) s 0)):=by
  refine ya s hs _ ?_ ?_
  ·intro i x hx;have hi:=(pf.1 hx).1;have hit:i<t.length:=by omega
   have ht:=pg hit;unfold jM;have hd:decide ((i:Int)<((s.length:Nat):Int))=true:=by simpa using hi
   rw[hd,cond_true];simp only[y6,hx,ht,oB];generalize t[i]=y;by_cases h1:x<y
   ·simp[gf,h1,nS]
   by_cases h2:y<x
   ·simp[gf,h1,h2,nS]
   simp[gf,h1,h2,nS]
  unfold jM;simp
 rw[hl,oB];cases hf:zM (λi x=>match t[i]? with|none=>none|some y=>if x<y then some (-1) else if y<x then some (1:Int) else none) s 0 with
 | some r=>
  obtain⟨i,x,h3,h4⟩:=xk hf;have hne:s≠t:=by intro e;rw[gl,<-e,h3]at h4;simp at h4
  have hr:r≠0:=by
   rw[gl]at h4;cases ht:t[i]? with
   | none=>rw[ht]at h4;cases h4
   | some y=>
    rw[ht]at h4;simp only at h4;split at h4
    ·cases h4;decide
    split at h4
    ·cases h4;decide
    cases h4
  simp only[oS,oB,decide_eq_false hne];congr 1;simpa using hr
 | none=>
  have he:s=t:=by
   refine gG λn=>?_;rcases pE n s.length with g|g
   ·have hx:=pg g;have ht:=pg (show n<t.length by omega);have:=xe hf n _ hx;rw[gl,ht]at this;simp only at this;rw[hx,ht];split at this
    ·cases this
    split at this
    ·cases this
    rename_i g1 g2;congr 1;omega
   rw[nG.2 g,nG.2 (by omega)]
  simp only[oS,YB,oB,decide_eq_true he];rfl
def nxE (m:z6)(s:Int)(i:Nat):zl:=if s<0 then⟨-1,-1⟩ else E m s.toNat i
def rsp (m:z6):Int->List Nat->List Int
 | _,[]=>[]
 | s,i::w=>(nxE m s i).Out::rsp m (nxE m s i).To w
def aft (m:z6):Int->List Nat->Int
 | s,[]=>s
 | s,i::w=>aft m (nxE m s i).To w
def Vq (m:z6):∀(w:List Nat) (s:Int) (i:Nat),rsp m s (w++[i])=rsp m s w++[(nxE m (aft m s w) i).Out]/\aft m s (w++[i])=(nxE m (aft m s w) i).To
 | [],s,i=>⟨rfl,rfl⟩
 | j::w,s,i=>by have:=Vq m w (nxE m s j).To i;simp only[gD,rsp,aft,this.1,this.2,and_self]
def z4I (m:z6):∀(w:List Nat) (s:Int),(rsp m s w).length=w.length
 | [],_=>rfl
 | i::w,s=>by simp[rsp,z4I m w]
def z3g (m:z6)(s:Int):Prop:=-1<=s/\s<(m.Rows.length:Int)
def zhk (h:VM m){s:Int}(hs:z3g m s){i:Nat}(hi:i<kk m):z3g m (nxE m s i).To:=by
 unfold nxE;have:=h.len1;by_cases h0:s<0
 ·rw[if_pos h0];unfold z3g;simp only;omega
 rw[if_neg h0];have hl:s.toNat<m.Rows.length:=by have:=hs.2;omega
 have:=h.edgeAt hl hi;unfold z3g;omega
def zb1 (h:VM m){s:Int}(hs:z3g m s){i:Nat}(hi:i<kk m):WW m s (i:Int)=some (nxE m s i)/\z3g m (nxE m s i).To:=by
 unfold WW nxE;have:=h.len1;by_cases h0:s<0
 ·rw[decide_eq_true h0,cond_true,if_pos h0];exact⟨rfl,by unfold z3g;simp only;omega⟩
 rw[decide_eq_false h0,cond_false,if_neg h0];have hl:s.toNat<m.Rows.length:=by have:=hs.2;omega
 have he:=h.edge_eq hl hi (f:=λe=>some e);have hc:((s.toNat:Nat):Int)=s:=by omega
 rw[hc]at he;refine⟨he,?_⟩;have:=h.edgeAt hl hi;unfold z3g;omega
def z8g (h:VM m){s:Int}(hs:z3g m s)(w:List Nat)(hw:∀i∈w,i<kk m)(hl:w.length<=100000):Xu m s (w.map Int.ofNat)=some (rsp m s w):=by
 have hloop:loop (λq=>Q6 m (w.map Int.ofNat) q.1 q.2.1 q.2.2) (s,([]:List Int),0)=some (rsp m s w):=by
  refine Ret.eq (zQ (λq=>∃k:Nat,q.2.2=(k:Int)/\k<=w.length/\z3g m q.1/\q.2.1.length=k/\q.2.1++rsp m q.1 (w.drop k)=rsp m s w) (λq=>200000 - q.2.2.toNat) ⟨0,rfl,pQ _,hs,rfl,rfl⟩ (by simp) ?_);rintro⟨s',out,k'⟩ ⟨k,hk,hkl,hst,hol,ho⟩;simp only at hk hst hol ho;subst hk;unfold Q6;rw[zD];refine⟨λhlt=>?_,λhge=>?_⟩
  ·have hlt:k<w.length:=by simpa using hlt
   have hx:(w.map Int.ofNat)[k]?=some ((w[k]:Nat):Int):=by simp[hlt]
   have hi:=hw _ (pL hlt);have hn:=zb1 h hst hi;have hw1:w64 ((k:Int)+1)=((k+1:Nat):Int):=by rw[zF (by omega) (by omega)];rfl
   rw[y6,bdT hx,bdT hn.1,gdT (by simp;omega),z7,hw1];refine⟨⟨k+1,rfl,hlt,hn.2,by simp[hol],?_⟩,by simp only;omega⟩;rw[<-ho,mA hlt];simp[rsp]
  have:k=w.length:=by simp at hge;omega
  subst this;rw[z7];rw[List.drop_length]at ho;show out=rsp m s w;simpa[rsp] using ho
 unfold Xu Q7;rw[bdT hloop]
section
variable {N:Nat}{f:Nat->Nat->Bool}
structure zkU (N:Nat)(f:Nat->Nat->Bool)(out:List Int)(n:Int)(s:Nat):Prop where
 len:out.length=s
 sN:s<=N
 n0:0<=n
 nS:n<=(s:Int)
 lt:∀(i:Nat) (x:Int),out[i]?=some x->0<=x/\x<n
 cls:∀(i j:Nat),i<s->j<s->(out[i]?=out[j]?↔f i j=false)
def ze1 (hN:N<=1000)(hr:∀s,s<N->f s s=false)(hs:∀s t,s<N->t<N->f s t=false->f t s=false)(ht:∀s t u,s<N->t<N->u<N->f s t=false->f t u=false->f s u=false) :
  Ret (Za (tab N f)) λout=>out.length=N/\∀i j,i<N->j<N->(out[i]?=out[j]?↔f i j=false):=by
 have hl:(tab N f).length=N:=by simp[tab]
 unfold Za;rw[zu];refine Ret.mono (Q:=λout=>out.length=N/\∀i j,i<N->j<N->(out[i]?=out[j]?↔f i j=false)) ?_ λout h=>z7.2 h;refine zQ (λq=>zkU N f q.1 q.2.1 q.2.2.toNat/\0<=q.2.2) (λq=>N - q.2.2.toNat) ⟨⟨rfl,pQ _,Int.le_refl 0,Int.le_refl 0,λi x h=>by simp at h,λi j h=>by simp at h⟩,Int.le_refl 0⟩ (by show N - 0<_;omega) ?_;rintro⟨out,n,s⟩ ⟨hI,h0⟩;obtain⟨s,rfl⟩:=n8 h0;simp only[pi]at hI ⊢;unfold W5;rw[zD];refine⟨λhc=>?_,λhc=>?_⟩
 ·rw[hl]at hc;have hsN:s<N:=by simpa using hc
  rw[zu];have inner:Ret (loop (λs_1=>kX (tab N f) out (s:Int) s_1.1 s_1.2) (-1,0)) λb=>(b=-1/\∀t,t<s->f s t=true)\/∃t,t<s/\f s t=false/\out[t]?=some b:=by
   refine zQ (λq=>0<=q.2/\q.2<=(s:Int)/\((q.1=-1/\∀t:Nat,(t:Int)<q.2->f s t=true)\/∃t,t<s/\f s t=false/\out[t]?=some q.1)) (λq=>s - q.2.toNat) ⟨by omega,by omega,.inl ⟨rfl,λt ht=>by simp at ht;omega⟩⟩ (by show s - 0<_;omega) ?_;rintro⟨b,t⟩ ⟨g0,g1,g2⟩;simp only at g0 g1 g2 ⊢;obtain⟨t,rfl⟩:=n8 g0;unfold kX uQ;rw[zD];refine⟨λhc=>?_,λhc=>?_⟩
   ·have hts:t<s:=by simpa using hc
    have hw:w64 ((t:Int)+1)=((t+1:Nat):Int):=by rw[zF (by omega) (by omega)];rfl
    rw[z9W f hsN (by omega),hw,zD];refine⟨λhf=>?_,λhf=>?_⟩
    ·rw[zu,zh5];have:∃x,out[t]?=some x:=⟨out[t]'(by rw[hI.len];exact hts),pg _⟩;obtain⟨x,hx⟩:=this;refine⟨by omega,x,by rw[pi];exact hx,z7.2 ⟨⟨by omega,by omega,.inr ⟨t,hts,by simpa using hf,hx⟩⟩,by simp only[pi];omega⟩⟩
    refine z7.2 ⟨⟨by omega,by omega,?_⟩,by simp only[pi];omega⟩;rcases g2 with⟨e,g2⟩|g2
    ·refine .inl ⟨e,λu hu=>?_⟩;rcases pE u t with q|q
     ·exact g2 u (by omega)
     have:u=t:=by omega
     subst this;simpa using hf
    exact .inr g2
   have hts:¬t<s:=by simpa using hc
   refine z7.2 ?_;rcases g2 with⟨e,g2⟩|g2
   ·exact .inl ⟨e,λu hu=>g2 u (by omega)⟩
   exact .inr g2
  refine inner.mono λb hb=>?_;have hw:w64 ((s:Int)+1)=((s+1:Nat):Int):=by rw[zF (by omega) (by omega)];rfl
  have hlen:=hI.len;have hnS:=hI.nS;have hn0:=hI.n0;have fin:∀(n' c:Int),0<=n'->n'<=((s+1:Nat):Int)->n<=n'->0<=c->c<n'->(∀t,t<s->(out[t]?=some c↔f s t=false)) ->
    Ret (vj out (s:Int) n' c) (LRP (λs'=>(zkU N f s'.1 s'.2.1 s'.2.2.toNat/\0<=s'.2.2)/\N - s'.2.2.toNat<N - s) λout=>out.length=N/\∀i j,i<N->j<N->(out[i]?=out[j]?↔f i j=false)):=by
   intro n' c a1 a2 a3 a4 a5 a6;unfold vj kZ;rw[z0l,hw];refine⟨by simp[hlen];omega,z7.2 ⟨⟨⟨by simp[hlen],by simp only[pi];omega,a1,by simp only[pi];exact a2,?_,?_⟩,mO _⟩,by simp only[pi];omega⟩⟩
   ·intro i x hx;rcases pE i s with q|q
    ·rw[pA (by omega)]at hx;have:=hI.lt i x hx;exact⟨this.1,by have:=this.2;simp only;omega⟩
    rw[px (by omega)]at hx;cases hh:i - out.length with
    | zero=>rw[hh]at hx;simp at hx;subst hx;exact⟨a4,a5⟩
    | succ k=>rw[hh]at hx;simp at hx
   intro i j hi hj;simp only[pi]at hi hj;have at_:∀i,i<s->(out++[c])[i]?=out[i]?:=λi h=>pA (by omega);have at_s:(out++[c])[s]?=some c:=by rw[<-hlen,px (pj _)];simp
   rcases pE i s with q|q <;> rcases pE j s with q'|q'
   ·show(out++[c])[i]?=(out++[c])[j]?↔_;rw[at_ i q,at_ j q'];exact hI.cls i j q q'
   ·have:j=s:=by omega
    subst this;show(out++[c])[i]?=(out++[c])[j]?↔_;rw[at_ i q,at_s,a6 i q];exact⟨λh=>hs _ _ (by omega) (by omega) h,λh=>hs _ _ (by omega) (by omega) h⟩
   ·have:i=s:=by omega
    subst this;show(out++[c])[i]?=(out++[c])[j]?↔_;rw[at_ j q',at_s,eq_comm,a6 j q']
   have e1:i=s:=by omega
   have e2:j=s:=by omega
   subst e1;subst e2;exact⟨λ_=>hr _ hsN,λ_=>rfl⟩
  unfold kY;rw[zD];rcases hb with⟨rfl,hb⟩|⟨t,ht1,ht2,ht3⟩
  ·refine⟨λ_=>?_,λh=>by simp at h⟩;rw[zF (by omega) (by omega)];refine fin (n+1) n (by omega) (by omega) (by omega) hn0 (by omega) λt hts=>?_;rw[hb t hts];refine⟨λh=>?_,λh=>by cases h⟩;have:=hI.lt t n h;omega
  have hb0:=hI.lt t b ht3;refine⟨λh=>by simp at h;omega,λ_=>fin n b hn0 (by omega) (by omega) hb0.1 hb0.2 λu hu=>?_⟩;rw[<-ht3,hI.cls u t hu ht1];exact⟨λh=>ht _ _ _ (by omega) (by omega) (by omega) ht2 (hs _ _ (by omega) (by omega) h),λh=>ht _ _ _ (by omega) (by omega) (by omega) (hs _ _ (by omega) (by omega) h) ht2⟩
 rw[hl]at hc;have hsN:¬s<N:=by simpa using hc
 have:s=N:=by have:=hI.sN;omega
 subst this;exact z7.2 ⟨hI.len,hI.cls⟩
end
def SEq (m:z6)(s t:Nat):Prop:=∀w:List Nat,(∀i∈w,i<kk m)->rsp m (s:Int) w=rsp m (t:Int) w
def Zf (m:z6)(s i:Nat):nxE m (s:Int) i=E m s i:=by unfold nxE;rw[if_neg (by omega),pi]
section
variable {m:z6}(h:WM m)
include h
theorem z7w:∀(n:Nat) (p:Nat×Nat),p.1<m.Rows.length->p.2<m.Rows.length->Mk (kk m) (Zn m m) (nxP m m) n p->∃w:List Nat,(∀i∈w,i<kk m)/\rsp m (p.1:Int) w≠rsp m (p.2:Int) w
 | 0,p,_,_,q=>q.elim
 | n+1,p,h1,h2,q=>by
  rcases q with q|⟨i,hi,q|⟨r,hr,q⟩⟩
  ·exact z7w n p h1 h2 q
  ·refine⟨[i],by simpa using hi,λe=>?_⟩;simp only[rsp,Zf,List.cons.injEq,and_true]at e;simp[Zn,e]at q
  have hin:=h.nx_in h1 h2 hi hr;obtain⟨w,hw,hne⟩:=z7w n r hin.1 hin.2 q;refine⟨i::w,λj hj=>by rcases pl.1 hj with rfl|hj;exact hi;exact hw j hj,λe=>hne ?_⟩;simp only[rsp,Zf,List.cons.injEq]at e;unfold nxP at hr;split at hr
  ·rename_i hc;cases hr;have e1:(((E m p.1 i).To.toNat:Nat):Int)=(E m p.1 i).To:=by omega
   have e2:(((E m p.2 i).To.toNat:Nat):Int)=(E m p.2 i).To:=by omega
   simp only[e1,e2];exact e.2
  cases hr
theorem z9P:∀(w:List Nat) (p:Nat×Nat),p.1<m.Rows.length->p.2<m.Rows.length->(∀i∈w,i<kk m)->rsp m (p.1:Int) w≠rsp m (p.2:Int) w->Mk (kk m) (Zn m m) (nxP m m) w.length p
 | [],p,_,_,_,q=>(q rfl).elim
 | i::w,p,h1,h2,hw,q=>by
  have hi:=hw i (by simp);refine .inr ⟨i,hi,?_⟩;by_cases hb:Zn m m p i=true
  ·exact .inl hb
  have he:(E m p.1 i).Out=(E m p.2 i).Out:=by simpa[Zn] using hb
  simp only[rsp,Zf,he,ne_eq,List.cons.injEq,true_and]at q;have a:=h.edgeAt h1 hi;have b:=h.edgeAt h2 hi;by_cases hc:0<=(E m p.1 i).To/\0<=(E m p.2 i).To
  ·have hr:nxP m m p i=some ((E m p.1 i).To.toNat,(E m p.2 i).To.toNat):=by unfold nxP;rw[if_pos hc]
   have hin:=h.nx_in h1 h2 hi hr;have e1:(((E m p.1 i).To.toNat:Nat):Int)=(E m p.1 i).To:=by omega
   have e2:(((E m p.2 i).To.toNat:Nat):Int)=(E m p.2 i).To:=by omega
   exact .inr ⟨_,hr,z9P w _ hin.1 hin.2 (λj hj=>hw j (by simp[hj])) (by simpa only[e1,e2] using q)⟩
  exfalso;refine q ?_;have e1:(E m p.1 i).To=-1:=by omega
  have e2:(E m p.2 i).To=-1:=by omega
  rw[e1,e2]
theorem JF {s t:Nat}(hs:s<m.Rows.length)(ht:t<m.Rows.length):mrk m m.Rows.length s t=false↔SEq m s t:=by
 have e:mrk m m.Rows.length s t=true↔¬SEq m s t:=by
  unfold mrk;rw[z4Z];constructor
  ·intro q g;obtain⟨w,hw,hne⟩:=z7w h _ (s,t) hs ht q;exact hne (g w hw)
  intro q;obtain⟨w,hw⟩:=Classical.not_forall.1 q;obtain⟨hw,hne⟩:=Classical.not_imp.1 hw;have:=Km h hs ht (z9P h w (s,t) hs ht hw hne);exact this.mono (by omega)
 constructor
 ·intro q;exact gB λg=>by rw[e.2 g]at q;cases q
 intro q;cases hm:mrk m m.Rows.length s t with
 | false=>rfl
 | true=>exact(e.1 hm q).elim
theorem z7O:Ret (YK m) λl=>l.length=m.Rows.length/\∀s t,s<m.Rows.length->t<m.Rows.length->(l[s]?=l[t]?↔SEq m s t):=by have hl:=h.len;unfold YK Q5;rw[zu,bdT (zb8 h m.Rows.length (by omega)),zu];refine Ret.mono (ze1 (by omega) (λs hs=>(JF h hs hs).2 λw _=>rfl) (λs t hs ht q=>(JF h ht hs).2 λw hw=>((JF h hs ht).1 q w hw).symm) (λs t u hs ht hu q r=>(JF h hs hu).2 λw hw=>((JF h hs ht).1 q w hw).trans ((JF h ht hu).1 r w hw))) ?_;rintro l ⟨h1,h2⟩;exact z7.2 (z7.2 ⟨h1,λs t hs ht=>(h2 s t hs ht).trans (JF h hs ht)⟩)
end
def z97 (h:VM m):∀(w:List Nat) (n:Nat) (s:Int),z3g m s->(∀i∈w,i<kk m)->w.length<n->Zd n m s (w.map Int.ofNat)=some (aft m s w)
 | w,0,_,_,_,hn=>by omega
 | [],n+1,s,hs,_,_=>by show Ze (Zd n) m s []=_;rfl
 | i::w,n+1,s,hs,hw,hn=>by
  show Ze (Zd n) m s ((i:Int)::w.map Int.ofNat)=_;have hi:=hw i (by simp);have hx:=zb1 h hs hi;unfold Ze;have hz:(((((i:Int)::w.map Int.ofNat).length:Nat):Int)==0)=false:=by rw[beq_eq_false_iff_ne];simp only[pX];omega
  rw[hz,cond_false];have e0:idx ((i:Int)::w.map Int.ofNat) 0=some (i:Int):=rfl;rw[bdT e0,bdT hx.1,gdT (by simp;omega)];have e1:((i:Int)::w.map Int.ofNat).drop (1:Int).toNat=w.map Int.ofNat:=rfl;rw[e1,bdT (z97 h w n _ hx.2 (λj hj=>hw j (by simp[hj])) (by simp at hn;omega))];rfl
def z9d (h:VM m){s:Int}(hs:z3g m s)(w:List Nat)(hw:∀i∈w,i<kk m):Xv m s (w.map Int.ofNat)=some (aft m s w):=by unfold Xv;exact z97 h w _ s hs hw (by simp)
def z6G (k:Nat):List Nat->Option (List Nat)
 | []=>none
 | d::r=>if d+1<k then some ((d+1)::r) else(z6G k r).map (0 :: ·)
def Uj (k:Nat):List Nat->Nat
 | []=>0
 | d::r=>d+k*Uj k r
def z4v {k:Nat}:∀{r:List Nat},(∀d∈r,d<k)->Uj k r<k ^ r.length
 | [],_=>by simp[Uj]
 | d::r,h=>by have ih:=z4v (k:=k) (r:=r) λx hx=>h x (by simp[hx]);have hd:=h d (by simp);simp only[Uj,pX,rC];have:k*(Uj k r+1)<=k*k ^ r.length:=Nat.mul_le_mul_left k ih;rw[Nat.mul_add,Nat.mul_one]at this;rw[rD (k ^ r.length) k];omega
def z7X:∀{r s:List Nat},r.length=s.length->(∀d∈r,d<k)->(∀d∈s,d<k)->Uj k r=Uj k s->r=s
 | [],[],_,_,_,_=>rfl
 | [],_::_,h,_,_,_=>by simp at h
 | _::_,[],h,_,_,_=>by simp at h
 | d::r,e::s,h,h1,h2,hv=>by
  have hd:=h1 d (by simp);have he:=h2 e (by simp);simp only[Uj]at hv;have a1:(d+k*Uj k r) % k=d:=by rw[Nat.add_mul_mod_self_left,nJ hd]
  have a2:(e+k*Uj k s) % k=e:=by rw[Nat.add_mul_mod_self_left,nJ he]
  have hde:d=e:=by rw[<-a1,<-a2,hv]
  subst hde;have hk:0<k:=by omega
  have:k*Uj k r=k*Uj k s:=by omega
  have:=Nat.eq_of_mul_eq_mul_left hk this;rw[z7X (by simpa using h) (λx hx=>h1 x (by simp[hx])) (λx hx=>h2 x (by simp[hx])) this]
def z6E:∀{r s:List Nat},(∀d∈r,d<k)->z6G k r=some s->s.length=r.length/\(∀d∈s,d<k)/\Uj k s=Uj k r+1
 | [],s,_,h=>by cases h
 | d::r,s,hr,h=>by
  have hd:=hr d (by simp);unfold z6G at h;split at h
  ·rename_i hc;cases h;exact⟨rfl,λx hx=>by rcases pl.1 hx with rfl|hx;exact hc;exact hr x (by simp[hx]),by simp only[Uj];omega⟩
  rename_i hc;obtain⟨s',h1,rfl⟩:=pN.1 h;obtain⟨g1,g2,g3⟩:=z6E (λx hx=>hr x (by simp[hx])) h1;refine⟨by simp[g1],λx hx=>by rcases pl.1 hx with rfl|hx;omega;exact g2 x hx,?_⟩;simp only[Uj,g3,Nat.mul_add,Nat.mul_one];omega
def z6F (hk:0<k):∀{r:List Nat},(∀d∈r,d<k)->z6G k r=none->Uj k r+1=k ^ r.length
 | [],_,_=>by simp[Uj]
 | d::r,hr,h=>by
  have hd:=hr d (by simp);unfold z6G at h;split at h
  ·cases h
  rename_i hc;have h1:z6G k r=none:=by cases e:z6G k r with|none=>rfl|some x=>rw[e]at h;cases h
  have:=z6F hk (λx hx=>hr x (by simp[hx])) h1;simp only[Uj,pX,rC,<-this,gL,nT,rD k];omega
def z6r (k:Nat)(w:List Nat):List Nat:=match z6G k w.reverse with|some r=>r.reverse|none=>List.replicate (w.length+1) 0
variable {w:List Nat}
def z6q (hk:1<=k)(hk2:k<=1000)  (hw:∀i∈w,i<k)(hl:w.length<=100000):YX (w.map Int.ofNat) (k:Int)=some ((z6r k w).map Int.ofNat):=by
 have hloop:Ret (loop (λs=>VB (k:Int) s.1 s.2) (w.map Int.ofNat,w64 ((((w.map Int.ofNat).length:Nat):Int) - 1))) λr=>match r with
   | .inl o=>z6G k w.reverse=none/\o=List.replicate w.length (0:Int)
   | .inr o=>∃r,z6G k w.reverse=some r/\o=r.reverse.map Int.ofNat:=by
  refine zQ (λq=>∃(p:List Nat) (z:Nat),q.1=(p++List.replicate z 0).map Int.ofNat/\q.2=(p.length:Int) - 1/\(∀i∈p,i<k)/\p.length+z=w.length/\z6G k w.reverse=(z6G k p.reverse).map (λr=>List.replicate z 0++r)) (λq=>(q.2+1).toNat) ⟨w,0,by simp,by rw[zF (by simp;omega) (by simp;omega)];simp,hw,by simp,by cases z6G k w.reverse <;> simp⟩ (by simp only;rw[zF (by simp;omega) (by simp;omega)];simp;omega) ?_;rintro⟨out,j⟩ ⟨p,z,h1,h2,h3,h4,h5⟩;simp only at h1 h2;subst h1;subst h2;unfold VB;rw[zD];refine⟨λhc=>?_,λhc=>?_⟩
  ·have hp:1<=p.length:=by simp at hc;omega
   obtain⟨p',d,rfl⟩:∃p' d,p=p' ++ [d]:=by
    rcases nZ p with e|⟨p',d,e⟩
    ·subst e;simp at hp
    exact⟨p',d,by simpa using e⟩
   have hd:=h3 d (by simp);have hj:(((p' ++ [d]).length:Nat):Int) - 1=((p'.length:Nat):Int):=by simp
   have hx:((p' ++ [d]++List.replicate z 0).map Int.ofNat)[p'.length]?=some (d:Int):=by simp
   have hset:∀e:Nat,((p' ++ [d]++List.replicate z 0).map Int.ofNat).set p'.length (e:Int)=(p' ++ e::List.replicate z 0).map Int.ofNat:=by intro e;rw[pF,gQ,List.set_append,if_neg (by simp)];simp
   have hr:(p' ++ [d]).reverse=d::p'.reverse:=by simp
   rw[hr]at h5;have hin:z6G k (d::p'.reverse)=if d+1<k then some ((d+1)::p'.reverse) else(z6G k p'.reverse).map (0 :: ·):=rfl
   have hw1:w64 ((d:Int)+1)=((d+1:Nat):Int):=by rw[zF (by omega) (by omega)];rfl
   rw[hj,y6,bdT hx,hw1,zD];refine⟨λhc=>?_,λhc=>?_⟩
   ·have hdk:d+1<k:=by simp at hc;omega
    rw[bdT hx,bdT hx,hw1,pi,hset];refine z7.2 ?_;rw[hin,if_pos hdk]at h5;exact⟨_,h5,by simp⟩
   have hdk:¬d+1<k:=by simp at hc;omega
   rw[bdT hx,pi,zF (by omega) (by omega)];have h0:=hset 0;simp only[Int.natCast_zero]at h0;refine z7.2 ⟨⟨p',z+1,?_,rfl,λi hi=>h3 i (by simp[hi]),by simp at h4;omega,?_⟩,?_⟩
   ·rw[mL];exact h0
   ·rw[hin,if_neg hdk]at h5;rw[h5];cases z6G k p'.reverse with
    | none=>rfl
    | some r=>simp[List.replicate_succ']
   simp only
   omega
  have hp:p=[]:=mn (by simp at hc;omega);subst hp;refine z7.2 ⟨?_,?_⟩
  ·rw[h5];rfl
  simp at h4;simp[h4]
 unfold YX;rw[gdT (by simp;omega)];obtain⟨r,e,hr⟩:=hloop;rw[bdT e];unfold z6r;cases r with
 | inl o=>obtain⟨g1,rfl⟩:=hr;show YL _=_;unfold YL;rw[gdT (by simp;omega),g1];simp[List.replicate_succ']
 | inr o=>obtain⟨r,g1,rfl⟩:=hr;show some _=_;rw[g1]
def GG (k:Nat):Nat->Nat
 | 0=>0
 | n+1=>GG k n+k ^ n
def z0g {k n m:Nat}(h:n<=m):GG k n<=GG k m:=by
 induction h with
 | refl=>exact pj _
 | step _ ih=>exact pm ih (Nat.le_add_right _ _)
def rk (k:Nat)(w:List Nat):Nat:=GG k w.length+Uj k w.reverse
def Wd (k:Nat)(w:List Nat):Prop:=∀i∈w,i<k
def Wd.rev (h:Wd k w):∀d∈w.reverse,d<k:=λd hd=>h d (by simpa using hd)
def zdO (h:Wd k w):rk k w<GG k (w.length+1):=by have:=z4v h.rev;rw[mM]at this;show GG k w.length+Uj k w.reverse<GG k w.length+k ^ w.length;omega
def z64 {k:Nat}{w u:List Nat}(hw:Wd k w)(h:w.length<u.length):rk k w<rk k u:=by have h1:=zdO hw;have h2:=z0g (k:=k) (show w.length+1<=u.length from h);unfold rk at *;omega
def zas {w u:List Nat}(hw:Wd k w)(hu:Wd k u)(h:rk k w=rk k u):w=u:=by
 have hl:w.length=u.length:=by
  rcases mG w.length u.length with q|q|q
  ·have:=z64 hw q;omega
  ·exact q
  have:=z64 hu q;omega
 have hv:Uj k w.reverse=Uj k u.reverse:=by unfold rk at h;rw[hl]at h;omega
 have:=z7X (by simpa using hl) hw.rev hu.rev hv;simpa using congrArg List.reverse this
def z5K (k:Nat):∀n,Uj k (List.replicate n 0)=0
 | 0=>rfl
 | n+1=>by simp[mL,Uj,z5K k n]
def z8v (hk:1<=k)  (hw:Wd k w):Wd k (z6r k w)/\rk k (z6r k w)=rk k w+1/\(z6r k w).length<=w.length+1:=by
 unfold z6r;cases e:z6G k w.reverse with
 | some r=>obtain⟨h1,h2,h3⟩:=z6E hw.rev e;rw[mM]at h1;refine⟨λi hi=>h2 i (by simpa using hi),?_,by simp[h1]⟩;simp only[rk,mM,List.reverse_reverse,h1,h3];omega
 | none=>have h:=z6F (by omega) hw.rev e;rw[mM]at h;refine⟨λi hi=>by have:=(List.mem_replicate.1 hi).2;omega,?_,by simp⟩;simp only[rk,gY,List.reverse_replicate,z5K,GG,<-h];omega
section
variable {m:z6}
def z2A (m:z6)(from_:Int)(l:List (List Int))(is:List Bool)(r t:Nat):Prop :=
 (is[t]?=some true/\∃v:List Nat,l[t]?=some (v.map Int.ofNat)/\rk (kk m) v<r/\Wd (kk m) v/\v.length<m.Rows.length/\aft m from_ v=(t:Int)/\∀u,Wd (kk m) u->aft m from_ u=(t:Int)->rk (kk m) v<=rk (kk m) u) \/
 (is[t]?=some false/\l[t]?=some []/\∀u,Wd (kk m) u->rk (kk m) u<r->aft m from_ u≠(t:Int))
def z3W (h:VM m):∀(w:List Nat) (s:Int),z3g m s->Wd (kk m) w->z3g m (aft m s w)
 | [],s,hs,_=>hs
 | i::w,s,hs,hw=>z3W h w _ (zhk h hs (hw i (by simp))) λj hj=>hw j (by simp[hj])
def zaO (h:VM m)(hG:GG (kk m) m.Rows.length<=1000000000){from_:Int}(hf:z3g m from_) :
  Ret (VC m from_) λr=>r.1.length=m.Rows.length/\r.2.length=m.Rows.length/\∀t,t<m.Rows.length->z2A m from_ r.1 r.2 (GG (kk m) m.Rows.length) t:=by
 have l64:=h.len64;have l1:=h.len1;have hk:=h.kk_pos;have hk2:=h.kk_le;have hke:=h.kk_eq;unfold VC Ww;rw[z0l,z0l];refine⟨by omega,by omega,?_⟩;rw[zu];refine Ret.mono ?_ λr hr=>z7.2 hr;refine zQ (λq=>∃w:List Nat,q.2.2=w.map Int.ofNat/\Wd (kk m) w/\w.length<=m.Rows.length/\rk (kk m) w<=GG (kk m) m.Rows.length/\q.1.length=m.Rows.length/\q.2.1.length=m.Rows.length/\∀t,t<m.Rows.length->z2A m from_ q.1 q.2.1 (rk (kk m) w) t)
  (λq=>GG (kk m) m.Rows.length - rk (kk m) (q.2.2.map Int.toNat)) ⟨[],rfl,λi hi=>by simp at hi,by simp,by simp[rk,GG,Uj],by simp,by simp,λt ht=>.inr ⟨by simp[ht],by simp[ht],λu _ hu=>by simp[rk,GG,Uj]at hu⟩⟩ (by simp only;omega) ?_
 rintro⟨l,is,wi⟩ ⟨w,h1,hw,hwl,hwr,h2,h3,h4⟩;simp only at h1 h2 h3 h4;subst h1;have hback:∀w:List Nat,(w.map Int.ofNat).map Int.toNat=w:=λw=>by induction w with|nil=>rfl|cons a w ih=>simp only[gt,ih];rfl
 simp only[hback];unfold Jl;rw[zD];refine⟨λhc=>?_,λhc=>?_⟩
 ·have hlt:w.length<m.Rows.length:=by simpa using hc
  have hrk:rk (kk m) w<GG (kk m) m.Rows.length:=Nat.lt_of_lt_of_le (zdO hw) (z0g hlt);obtain⟨n1,n2,n3⟩:=z8v hk hw;have hnx:YX (w.map Int.ofNat) m.Inputs=some ((z6r (kk m) w).map Int.ofNat):=by rw[<-hke];exact z6q hk (by omega) hw (by omega)
  have fin:∀(l2:List (List Int)) (is2:List Bool),l2.length=m.Rows.length->is2.length=m.Rows.length->(∀t,t<m.Rows.length->z2A m from_ l2 is2 (rk (kk m) w+1) t) ->
    Ret (uK m (w.map Int.ofNat) l2 is2) (LRP (λs'=>(∃w:List Nat,s'.2.2=w.map Int.ofNat/\Wd (kk m) w/\w.length<=m.Rows.length/\rk (kk m) w<=GG (kk m) m.Rows.length/\s'.1.length=m.Rows.length/\s'.2.1.length=m.Rows.length/\∀t,t<m.Rows.length->z2A m from_ s'.1 s'.2.1 (rk (kk m) w) t)/\GG (kk m) m.Rows.length - rk (kk m) (s'.2.2.map Int.toNat)<GG (kk m) m.Rows.length - rk (kk m) w)
     λr=>r.1.length=m.Rows.length/\r.2.length=m.Rows.length/\∀t,t<m.Rows.length->z2A m from_ r.1 r.2 (GG (kk m) m.Rows.length) t):=by
   intro l2 is2 a1 a2 a3;unfold uK;rw[bdT hnx];refine z7.2 ⟨⟨_,rfl,n1,by omega,by omega,a1,a2,λt ht=>by rw[n2];exact a3 t ht⟩,?_⟩;rw[hback,n2];omega
  have hin:=z3W h w from_ hf hw;rw[bdT (z9d h hf w hw),zD];have stay:∀t,t<m.Rows.length->(aft m from_ w=(t:Int)->is[t]?=some true)->z2A m from_ l is (rk (kk m) w+1) t:=by
   intro t ht hn;rcases h4 t ht with⟨g1,v,g2,g3,g4⟩|⟨g1,g2,g3⟩
   ·exact .inl ⟨g1,v,g2,by omega,g4⟩
   refine .inr ⟨g1,g2,λu hu hr e=>?_⟩;rcases pE (rk (kk m) u) (rk (kk m) w) with q|q
   ·exact g3 u hu q e
   have:=zas hu hw (by omega);subst this;rw[hn e]at g1;cases g1
  refine⟨λhc=>?_,λhc=>?_⟩
  ·have hs0:0<=aft m from_ w:=by simpa using hc
   obtain⟨s,hs⟩:=n8 hs0;have hsN:s<m.Rows.length:=by have:=hin.2;omega
   rw[hs];rcases h4 s hsN with⟨g1,v,g2,g3⟩|⟨g1,g2,g3⟩
   ·rw[y6,bdT g1];simp only[gF,cond_false];refine fin l is h2 h3 λt ht=>stay t ht λe=>?_;have:t=s:=by omega
    subst this;exact g1
   rw[y6,bdT g1];simp only[ma,cond_true];rw[bdT g1,y6,bdT g2,pi];refine fin _ _ (by simpa using h2) (by simpa using h3) λt ht=>?_;by_cases e:t=s
   ·subst e;refine .inl ⟨by simp[h3,ht],w,by simp[h2,ht],by omega,hw,hlt,hs,λu hu he=>?_⟩;rcases pE (rk (kk m) u) (rk (kk m) w) with q|q
    ·exact(g3 u hu q he).elim
    exact q
   have:=stay t ht λe2=>by omega
   unfold z2A at this ⊢;rw[gy (by omega),gy (by omega)];exact this
  have hs0:¬0<=aft m from_ w:=by simpa using hc
  exact fin l is h2 h3 λt ht=>stay t ht λe=>by omega
 have hlt:¬w.length<m.Rows.length:=by simpa using hc
 have hle:w.length=m.Rows.length:=by omega
 have hrk:rk (kk m) w=GG (kk m) m.Rows.length:=by
  have:GG (kk m) m.Rows.length<=rk (kk m) w:=by rw[<-hle];unfold rk;omega
  omega
 refine z7.2 ⟨h2,h3,λt ht=>?_⟩;rw[<-hrk];exact h4 t ht
end
def wK:List Int->List Int->Int
 | [],[]=>0
 | [],_::_=>-1
 | _::_,[]=>1
 | x::a,y::b=>if x<y then -1 else if y<x then 1 else wK a b
def uT (a b:List Int):Int:=if a.length<b.length then -1 else if b.length<a.length then 1 else wK a b
def zbe:∀{a b:List Int},wK a b=0->a=b
 | [],[],_=>rfl
 | [],_::_,h=>by simp[wK]at h
 | _::_,[],h=>by simp[wK]at h
 | x::a,y::b,h=>by
  simp only[wK]at h;split at h
  ·simp at h
  split at h
  ·simp at h
  rw[show x=y by omega,zbe h]
def z6x:∀a:List Int,wK a a=0
 | []=>rfl
 | x::a=>by simp[wK,z6x a]
def z8D:∀a b:List Int,wK b a=- wK a b
 | [],[]=>rfl
 | [],_::_=>rfl
 | _::_,[]=>rfl
 | x::a,y::b=>by
  simp only[wK];split
  ·rw[if_neg (by omega)]
  split
  ·rfl
  exact z8D a b
def z3G:∀{a b c:List Int},wK a b<0->wK b c<0->wK a c<0
 | [],[],_,h,_=>by simp[wK]at h
 | [],_::_,[],_,h=>by simp[wK]at h
 | [],_::_,_::_,_,_=>by simp[wK]
 | _::_,[],_,h,_=>by simp[wK]at h
 | _::_,_::_,[],_,h=>by simp[wK]at h
 | x::a,y::b,z::c,h1,h2=>by
  simp only[wK]at h1 h2 ⊢;by_cases e1:x<y
  ·by_cases e2:y<z
   ·rw[if_pos (by omega)];omega
   rw[if_neg e2]at h2;by_cases e3:z<y
   ·rw[if_pos e3]at h2;omega
   rw[if_pos (by omega)];omega
  rw[if_neg e1]at h1;by_cases e3:y<x
  ·rw[if_pos e3]at h1;omega
  rw[if_neg e3]at h1;have:x=y:=by omega
  subst this;by_cases e2:x<z
  ·rw[if_pos e2];omega
  rw[if_neg e2]at h2 ⊢;by_cases e4:z<x
  ·rw[if_pos e4]at h2;omega
  rw[if_neg e4]at h2 ⊢;exact z3G h1 h2
variable {a b:List Int}
def Qj (h:uT a b=0):a=b:=by
 unfold uT at h;split at h
 ·simp at h
 split at h
 ·simp at h
 exact zbe h
def Yo (a:List Int):uT a a=0:=by simp[uT,z6x]
def z8Z:uT a b=0↔a=b:=⟨Qj,λh=>h ▸ Yo a⟩
def z8Y (a b:List Int):uT b a=- uT a b:=by
 unfold uT;by_cases h1:a.length<b.length
 ·rw[if_pos h1,if_neg (by omega),if_pos h1];rfl
 by_cases h2:b.length<a.length
 ·rw[if_pos h2,if_neg h1,if_pos h2]
 rw[if_neg h1,if_neg h2,if_neg h2,if_neg h1,z8D]
def u9 {a b c:List Int}(h1:uT a b<0)(h2:uT b c<0):uT a c<0:=by
 unfold uT at *;by_cases e1:a.length<b.length
 ·by_cases e2:b.length<c.length
  ·rw[if_pos (by omega)];omega
  rw[if_neg e2]at h2;by_cases e3:c.length<b.length
  ·rw[if_pos e3]at h2;omega
  rw[if_pos (by omega)];omega
 rw[if_neg e1]at h1;by_cases e3:b.length<a.length
 ·rw[if_pos e3]at h1;omega
 rw[if_neg e3]at h1;have e:a.length=b.length:=by omega
 rw[e];by_cases e2:b.length<c.length
 ·rw[if_pos e2];omega
 rw[if_neg e2]at h2 ⊢;by_cases e4:c.length<b.length
 ·rw[if_pos e4]at h2;omega
 rw[if_neg e4]at h2 ⊢;exact z3G h1 h2
def QI (a:List Int):¬uT a a<0:=by rw[Yo];omega
def zbP (h:uT a b<0):¬uT b a<0:=by rw[z8Y a b];omega
def z5f:¬uT a b<0↔uT b a<0\/a=b:=by rw[<-z8Z,z8Y a b];omega
def SW (l:List (List Int)):Prop:=l.Pairwise λa b=>uT a b<0
def SW.nil:SW []:=List.Pairwise.nil
variable {l:List (List Int)}{x:List Int}
def SW.tail (h:SW (x::l)):SW l:=(mH.1 h).2
def SW.head (h:SW (x::l)):∀y∈l,uT x y<0:=(mH.1 h).1
def SW.unique:∀{l m:List (List Int)},SW l->SW m->(∀x,x∈l↔x∈m)->l=m
 | [],[],_,_,_=>rfl
 | [],y::m,_,_,h=>by have:=(h y).2 (by simp);simp at this
 | x::l,[],_,_,h=>by have:=(h x).1 (by simp);simp at this
 | x::l,y::m,h1,h2,h=>by
  have hxy:x=y:=by
   rcases pl.1 ((h x).1 (by simp)) with e|e
   ·exact e
   rcases pl.1 ((h y).2 (by simp)) with e'|e'
   ·exact e'.symm
   exact absurd (h2.head x e) (zbP (h1.head y e'))
  subst hxy;rw[SW.unique h1.tail h2.tail λz=>?_];constructor
  ·intro hz;rcases pl.1 ((h z).1 (by simp[hz])) with e|e
   ·subst e;exact absurd (h1.head _ hz) (QI _)
   exact e
  intro hz;rcases pl.1 ((h z).2 (by simp[hz])) with e|e
  ·subst e;exact absurd (h2.head _ hz) (QI _)
  exact e
def SW.sub {l m:List (List Int)}(h:SW l)(hs:List.Sublist m l):SW m:=List.Pairwise.sublist hs h
def SW.filter (h:SW l)(p:List Int->Bool):SW (l.filter p):=h.sub List.filter_sublist
def SW.nodup (h:SW l):l.Nodup:=List.Pairwise.imp (λ{a b} q e=>by subst e;exact QI _ q) h
def z3b (w:List Int):List (List Int)->List (List Int)
 | []=>[w]
 | x::l=>if uT x w<0 then x::z3b w l else if uT x w=0 then x::l else w::x::l
def Kn {w x:List Int}:∀{l:List (List Int)},x∈z3b w l↔x=w\/x∈l
 | []=>by simp[z3b]
 | y::l=>by
  simp only[z3b];split
  ·simp only[pl,Kn];constructor
   ·rintro(h|h|h) <;> simp[h]
   rintro(h|h|h) <;> simp[h]
  split
  ·rename_i h1 h2;have:=Qj h2;subst this;simp
  simp
def SW.put {w:List Int}:∀{l:List (List Int)},SW l->SW (z3b w l)
 | [],_=>by simp[z3b,SW]
 | y::l,h=>by
  simp only[z3b];split
  ·rename_i h1;refine mH.2 ⟨λz hz=>?_,SW.put h.tail⟩;rcases Kn.1 hz with rfl|hz
   ·exact h1
   exact h.head z hz
  split
  ·exact h
  rename_i h1 h2;have hw:uT w y<0:=by
   rcases z5f.1 h1 with q|q
   ·exact q
   exact absurd (z8Z.2 q) h2
  refine mH.2 ⟨λz hz=>?_,h⟩;rcases pl.1 hz with rfl|hz
  ·exact hw
  exact u9 hw (h.head z hz)
def z8o (w:List Int):∀l,(z3b w l).length<=l.length+1
 | []=>by simp[z3b]
 | y::l=>by
  simp only[z3b];split
  ·have:=z8o w l;simp;omega
  split <;> simp
def srt (l:List (List Int)):List (List Int):=l.foldl (λm w=>z3b w m) []
def z7j:∀(l m:List (List Int)),SW m->SW (l.foldl (λm w=>z3b w m) m)/\∀x,x∈l.foldl (λm w=>z3b w m) m↔x∈m\/x∈l
 | [],m,h=>⟨h,by simp⟩
 | w::l,m,h=>by
  obtain⟨h1,h2⟩:=z7j l (z3b w m) h.put;refine⟨h1,λx=>?_⟩;rw[nC,h2,Kn];simp only[pl];constructor
  ·rintro((h|h)|h) <;> simp[h]
  rintro(h|h|h) <;> simp[h]
def jX (l:List (List Int)):SW (srt l):=(z7j l [] .nil).1
def y4:x∈srt l↔x∈l:=by rw[srt,(z7j l [] .nil).2];simp
def za5 {l m:List (List Int)}(h:SW m)(hm:∀x,x∈m↔x∈l):m=srt l:=h.unique (jX l) λx=>by rw[hm,y4]
def K3 (h:SW l):srt l=l:=(za5 h λ_=>.rfl).symm
def K4 {l m:List (List Int)}(h:∀x,x∈l↔x∈m):srt l=srt m:=za5 (jX l) λx=>by rw[y4,h]
def z88 (l:List (List Int))(w:List Int):srt (l++[w])=z3b w (srt l):=by simp[srt]
def Wk (l:List (List Int)):(srt l).length<=l.length:=by
 have:∀(l m:List (List Int)),(l.foldl (λm w=>z3b w m) m).length<=m.length+l.length:=by
  intro l;induction l with
  | nil=>intro m;simp
  | cons w l ih=>intro m;have:=ih (z3b w m);have:=z8o w m;simp only[nC,pX];omega
 have q:=this l [];simp only[nB,gl]at q;exact q
def zp {l:List α}{i:Nat}{x:α}(h:l[i]?=some x):idx l (i:Int)=some x:=h
def zbw (b:List Int)(g:Nat->Int->Option Int)(hg:∀i x y,b[i]?=some y->g i x=if x<y then some (-1) else if y<x then some 1 else none) :
  ∀(a:List Int) (k:Nat),k+a.length=b.length->(zM g a k).getD 0=wK a (b.drop k)
 | [],k,h=>by have:b.drop k=[]:=gX (by simp at h;omega);rw[this];rfl
 | x::a,k,h=>by
  simp only[pX]at h;have hk:k<b.length:=by omega
  rw[mA hk];simp only[zM,wK,hg k x b[k] (pg hk)];by_cases h1:x<b[k]
  ·simp[h1]
  by_cases h2:b[k]<x
  ·simp[h1,h2]
  simp only[h1,h2,if_false];exact zbw b g hg a (k+1) (by omega)
def V7 (a b:List Int)(h:a.length=b.length->a.length<4611686018427387904):wz a b=some (uT a b):=by
 unfold wz;by_cases hl:a.length=b.length
 ·have h':=h hl;simp only[hl,bne_self_eq_false,cond_false];rw[bdT (ya a h' (λi x=>match b[i]? with|some y=>if x<y then some (-1:Int) else if y<x then some 1 else none|none=>none) ?_ ?_)]
  ·have q:=zbw b (λi x=>match b[i]? with|some y=>if x<y then some (-1:Int) else if y<x then some 1 else none|none=>none) (λi x y hy=>by simp only[hy]) a 0 (by omega);rw[List.drop_zero]at q;have hc:uT a b=wK a b:=by unfold uT;rw[if_neg (by omega),if_neg (by omega)]
   rw[hc,<-q];cases zM (λi x=>match b[i]? with|some y=>if x<y then some (-1:Int) else if y<x then some 1 else none|none=>none) a 0 <;> rfl
  ·intro i x hx;have hi:i<a.length:=(pf.1 hx).1;have hy:b[i]?=some b[i]:=pg (by omega);unfold Ys;have hc:decide ((i:Int)<(a.length:Int))=true:=by simpa using hi
   simp only[hc,cond_true,zp hx,zp hy,hy,oB];by_cases h1:x<b[i]
   ·simp[h1,nS]
   by_cases h2:b[i]<x
   ·simp[h1,h2,nS]
   simp[h1,h2,nS]
  unfold Ys;simp
 have h1:(((a.length:Nat):Int) !=((b.length:Nat):Int))=true:=by simp;omega
 simp only[h1,cond_true];unfold uT;by_cases h2:a.length<b.length
 ·simp[h2]
 have h3:b.length<a.length:=by omega
 simp[h2,h3]
def cI (x y:Int):Int:=if x<y then -1 else if y<x then 1 else 0
def zbO (x y:Int):qD x y=some (cI x y):=by
 unfold qD YQ cI;simp only[bne_self_eq_false,oB,cond_false];by_cases h1:x<y
 ·simp[h1]
 by_cases h2:y<x
 ·simp[h1,h2]
 simp[h1,h2]
def zgY (a b:List Int)(h:a.length<4611686018427387904):∃c,wW a b=some c/\(a.length=b.length->c=wK a b):=by
 unfold wW;have hloop:=ya a h (step:=λs=>xY a b s) (λi x=>match b[i]? with|some y=>if x<y then some (-1:Int) else if y<x then some 1 else none|none=>some 1) (by
  intro i x hx;have hi:i<a.length:=(pf.1 hx).1;unfold xY;have hc:decide ((i:Int)<(a.length:Int))=true:=by simpa using hi
  simp only[hc,cond_true,zp hx,oB];by_cases hb:i<b.length
  ·have hy:b[i]?=some b[i]:=pg hb;have hd:decide ((i:Int)>=(b.length:Int))=false:=by simp;omega
   simp only[hd,cond_false,zp hy,hy,oB,zbO];unfold cI;by_cases h1:x<b[i]
   ·simp[h1,nS]
   by_cases h2:b[i]<x
   ·simp[h1,h2,nS]
   simp[h1,h2,nS]
  have hy:b[i]?=none:=pH (by omega);have hd:decide ((i:Int)>=(b.length:Int))=true:=by simp;omega
  simp only[hd,cond_true,hy,nS]) (by unfold xY;simp)
 rw[bdT hloop];have q:=λhl=>zbw b (λi x=>match b[i]? with|some y=>if x<y then some (-1:Int) else if y<x then some 1 else none|none=>some 1) (λi x y hy=>by simp only[hy]) a 0 hl;cases hf:zM (λi x=>match b[i]? with|some y=>if x<y then some (-1:Int) else if y<x then some 1 else none|none=>some 1) a 0 with
 | some r=>refine⟨r,rfl,λhl=>?_⟩;have:=q (by omega);rw[hf]at this;simpa using this
 | none=>
  unfold vA;by_cases hl:a.length<b.length
  ·refine⟨-1,by simp[oS,hl],λhl2=>by omega⟩
  refine⟨0,by simp[oS,hl],λhl2=>?_⟩;have:=q (by omega);rw[hf]at this;simpa using this
def zoY (x y:Int):QH [x,y]=some (if x=0 then y else x):=by
 unfold QH;rw[bdT (ya [x,y] (by simp) (step:=λs=>YR [x,y] s) (λi v=>if v≠0 then some v else none) ?_ ?_)]
 ·by_cases h1:x=0
  ·by_cases h2:y=0
   ·simp[zM,h1,h2,oS,VQ]
   simp[zM,h1,h2,oS]
  simp[zM,h1,oS]
 ·intro i v hv;have hi:i<[x,y].length:=(pf.1 hv).1;unfold YR;have hc:decide ((i:Int)<(([x,y]:List Int).length:Int))=true:=by simp only[decide_eq_true_eq];omega
  simp only[hc,cond_true,zp hv,oB];by_cases h:v=0
  ·simp[h,nS]
  have hb:(v != 0)=true:=by simpa using h
  simp[h,hb,nS]
 unfold YR;simp
def Vb (a b:List Int)(h:a.length<4611686018427387904):yI a b=some (uT a b):=by
 unfold yI;obtain⟨c,hc,hl⟩:=zgY a b h;rw[zbO,hc];simp only[oB,zoY];unfold cI uT;by_cases h1:a.length<b.length
 ·simp[h1]
 by_cases h2:b.length<a.length
 ·simp[h1,h2]
 simp[h1,h2,hl (by omega)]
def wE (n:Int)(w:List Int):Int:=if 256<w.length then 3 else if w.any (λc=>decide (c<0) || decide (n<=c)) then 1 else 0
variable {n:Int}
def z4t {w:List Int}:wE n w=0↔w.length<=256/\∀c∈w,0<=c/\c<n:=by
 unfold wE;by_cases h:256<w.length
 ·rw[if_pos h];exact⟨λq=>by simp at q,λq=>by omega⟩
 rw[if_neg h];by_cases h2:w.any (λc=>decide (c<0) || decide (n<=c))=true
 ·rw[if_pos h2];simp only[nL,gO,decide_eq_true_eq]at h2;obtain⟨c,h3,h4⟩:=h2;refine⟨λq=>by simp at q,λq=>?_⟩;have:=q.2 c h3;omega
 rw[if_neg h2];simp only[nL,gO,decide_eq_true_eq,not_exists,not_and,not_or]at h2;refine⟨λ_=>⟨by omega,λc hc=>?_⟩,λ_=>rfl⟩;have:=h2 c hc;omega
variable {ρ:Type}
def zbx (p:Int->Bool)(g:Nat->Int->Option ρ)(hg:∀i x,(g i x).isSome=p x):∀(w:List Int) (k:Nat),(zM g w k).isSome=w.any p
 | [],k=>rfl
 | x::w,k=>by
  simp only[zM,List.any_cons];have:=hg k x;cases hx:g k x with
  | some r=>rw[hx]at this;simp at this;simp[<-this]
  | none=>rw[hx]at this;simp at this;rw[this,mS];exact zbx p g hg w (k+1)
def zg9 (n:Int)(w:List Int):(Option.bind (WR w) λr=>bif r != 0 then some r else YI w n)=some (wE n w):=by
 unfold WR wE;by_cases h:256<w.length
 ·have h':(256:Int)<(w.length:Int):=by omega
  simp[h,h']
 have hd:decide (((w.length:Nat):Int) > 256)=false:=by simp;omega
 simp only[hd,cond_false,oB,bne_self_eq_false,if_neg h];unfold YI;have hl:=ya w (by omega) (step:=λs=>jJ w n s) (λi c=>if c<0\/n<=c then some (1:Int) else none) (by
  intro i c hc;have hi:i<w.length:=(pf.1 hc).1;unfold jJ;have hq:decide ((i:Int)<(w.length:Int))=true:=by simpa using hi
  simp only[hq,cond_true,zp hc,oB];by_cases h1:c<0
  ·simp[h1,nS]
  by_cases h2:n<=c
  ·simp[h1,h2,nS]
  simp[h1,h2,nS]) (by unfold jJ;simp)
 rw[bdT hl];have q:=zbx (λc=>decide (c<0) || decide (n<=c)) (λi c=>if c<0\/n<=c then some (1:Int) else none) (λi c=>by by_cases h:c<0\/n<=c <;> simp[h] <;> simpa using h) w 0;cases hf:zM (λi c=>if c<0\/n<=c then some (1:Int) else none) w 0 with
 | none=>rw[hf]at q;rw[<-q];rfl
 | some r=>
  rw[hf]at q;obtain⟨i,x,h1,h2⟩:=xk hf;rw[<-q];split at h2
  ·cases h2;rfl
  cases h2
def z1r (n:Int)(w:List Int):ud w n=some (if 16<n then 3 else if 256<w.length then 3 else if n<1 then 1 else wE n w):=by
 unfold ud;by_cases h0:16<n
 ·simp[h0]
 by_cases h:256<w.length
 ·have h':(256:Int)<(w.length:Int):=by omega
  simp[h0,h,h']
 by_cases h1:n<1
 ·have h':¬(256:Int)<(w.length:Int):=by omega
  simp[h0,h,h',h1]
 have hd:decide (((w.length:Nat):Int) > 256)=false:=by simp;omega
 have hd0:decide (n > 16)=false:=by simp;omega
 have hd1:decide (n<1)=false:=by simp;omega
 simp only[hd,hd0,hd1,cond_false,if_neg h,if_neg h0,if_neg h1];unfold wT vR wE;have hl:=ya w (by omega) (step:=λs=>xA w n s) (λi c=>if c<0\/n<=c then some (i:Int) else none) (by
  intro i c hc;have hi:i<w.length:=(pf.1 hc).1;unfold xA Vd;have hq:decide ((i:Int)<(w.length:Int))=true:=by simpa using hi
  simp only[hq,cond_true,zp hc,oB];by_cases h1:c<0
  ·simp[h1,nS]
  by_cases h2:n<=c
  ·simp[h1,h2,nS]
  simp[h1,h2,nS]) (by unfold xA;simp)
 rw[bdT hl,if_neg h];have q:=zbx (λc=>decide (c<0) || decide (n<=c)) (λi c=>if c<0\/n<=c then some (i:Int) else none) (λi c=>by by_cases h:c<0\/n<=c <;> simp[h] <;> simpa using h) w 0;cases hf:zM (λi c=>if c<0\/n<=c then some (i:Int) else none) w 0 with
 | none=>rw[hf]at q;rw[<-q];rfl
 | some r=>
  rw[hf]at q;obtain⟨i,x,h1,h2⟩:=xk hf;rw[<-q];split at h2
  ·cases h2;simp[oS]
  cases h2
def eS (e:Int):Option Int:=if e=0 then none else some e
def loE (n:Int)(l:List (List Int)):Int:=if 16<n then 3 else if 4096<l.length then 3 else if n<1 then 1 else(zM (λ_ w=>eS (wE n w)) l 0).getD 0
def z8T:∀{l:List (List Int)} {k:Nat},(zM (λ_ w=>eS (wE n w)) l k).getD 0=0↔∀w∈l,wE n w=0
 | [],_=>by simp[zM]
 | w::l,k=>by
  by_cases h:wE n w=0
  ·have:eS (wE n w)=none:=by simp[eS,h]
   simp only[zM,this];rw[z8T];simp[h]
  have:eS (wE n w)=some (wE n w):=by simp[eS,h]
  simp[zM,this,h]
def Kq:loE n l=0↔(1<=n/\n<=16)/\l.length<=4096/\∀w∈l,w.length<=256/\∀c∈w,0<=c/\c<n:=by
 unfold loE;by_cases h0:16<n
 ·rw[if_pos h0];exact⟨λq=>by simp at q,λq=>by omega⟩
 by_cases h1:4096<l.length
 ·rw[if_neg h0,if_pos h1];exact⟨λq=>by simp at q,λq=>by omega⟩
 by_cases h2:n<1
 ·rw[if_neg h0,if_neg h1,if_pos h2];exact⟨λq=>by simp at q,λq=>by omega⟩
 rw[if_neg h0,if_neg h1,if_neg h2,z8T];constructor
 ·intro q;exact⟨by omega,by omega,λw hw=>z4t.1 (q w hw)⟩
 intro q w hw;exact z4t.2 (q.2.2 w hw)
def zfc (l:List (List Int))(n:Int):Vy l n=some (loE n l):=by
 unfold Vy loE;by_cases h0:16<n
 ·simp[h0]
 by_cases h1:4096<l.length
 ·have h':(4096:Int)<(l.length:Int):=by omega
  simp[h0,h1,h']
 by_cases h2:n<1
 ·have h':¬(4096:Int)<(l.length:Int):=by omega
  simp[h0,h1,h2,h']
 have d0:decide (n > 16)=false:=by simp;omega
 have d1:decide (((l.length:Nat):Int) > 4096)=false:=by simp;omega
 have d2:decide (n<1)=false:=by simp;omega
 simp only[d0,d1,d2,cond_false,if_neg h0,if_neg h1,if_neg h2];rw[bdT (ya l (by omega) (step:=λs=>Y1 l n s) (λ_ w=>eS (wE n w)) ?_ ?_)]
 ·cases zM (λ_ w=>eS (wE n w)) l 0 <;> rfl
 ·intro i w hw;have hi:i<l.length:=(pf.1 hw).1;have hq:decide ((i:Int)<(l.length:Int))=true:=by simpa using hi
  have he:=zg9 n w;unfold Y1;simp only[hq,cond_true,zp hw,oB];unfold WR at he ⊢;by_cases h:256<w.length
  ·have h':(256:Int)<(w.length:Int):=by omega
   have:wE n w=3:=by unfold wE;rw[if_pos h]
   simp[h',this,eS,nS]
  have hd:decide (((w.length:Nat):Int) > 256)=false:=by simp;omega
  simp only[hd,cond_false,oB,bne_self_eq_false]at he ⊢;rw[he];simp only[oB];by_cases hz:wE n w=0
  ·simp[hz,eS,nS]
  have hb:(wE n w != 0)=true:=by simpa using hz
  simp[hz,hb,eS,nS]
 unfold Y1;simp
def z52 (l:List (List Int))(n:Int):X9 l n=some (loE n l):=by
 unfold X9 loE;by_cases h0:16<n
 ·simp[h0]
 by_cases h1:4096<l.length
 ·have h':(4096:Int)<(l.length:Int):=by omega
  simp[h0,h1,h']
 by_cases h2:n<1
 ·have h':¬(4096:Int)<(l.length:Int):=by omega
  simp[h0,h1,h2,h']
 have d0:decide (n > 16)=false:=by simp;omega
 have d1:decide (((l.length:Nat):Int) > 4096)=false:=by simp;omega
 have d2:decide (n<1)=false:=by simp;omega
 simp only[d0,d1,d2,cond_false,if_neg h0,if_neg h1,if_neg h2];rw[bdT (ya l (by omega) (step:=λs=>ZV l n s) (λ_ w=>eS (wE n w)) ?_ ?_)]
 ·cases zM (λ_ w=>eS (wE n w)) l 0 <;> rfl
 ·intro i w hw;have hi:i<l.length:=(pf.1 hw).1;have hq:decide ((i:Int)<(l.length:Int))=true:=by simpa using hi
  have he:ud w n=some (wE n w):=by
   rw[z1r,if_neg h0,if_neg h2];by_cases h:256<w.length
   ·rw[if_pos h];unfold wE;rw[if_pos h]
   rw[if_neg h]
  unfold ZV;simp only[hq,cond_true,zp hw,oB,he];by_cases hz:wE n w=0
  ·simp[hz,eS,nS]
  have hb:(wE n w != 0)=true:=by simpa using hz
  simp[hz,hb,eS,nS]
 unfold ZV;simp
def z8B (l:List (List Int))(hl:l.length<4611686018427387904){step:Int×Int->Option (LR (Int×Int) Int)}
  (h:∀(n:Int) (i:Nat) (x:List Int),l[i]?=some x->step (n,(i:Int))=some (.next (w64 (n+((x.length:Nat):Int)),w64 ((i:Int)+1)))) (h2:∀n,step (n,(l.length:Int))=some (.done n)) :
  loop step (0,0)=some (l.foldl (λn x=>w64 (n+((x.length:Nat):Int))) 0):=by
 have gen:∀(m k:Nat) (n:Int),k<=l.length->l.length - k<m->Ko step m (n,(k:Int))=some ((l.drop k).foldl (λn x=>w64 (n+((x.length:Nat):Int))) n):=by
  intro m;induction m with
  | zero=>intro k n _ h;omega
  | succ m ih=>
   intro k n hk hn;rw[X1];rcases pE k l.length with hlt|hge
   ·have hx:l[k]?=some l[k]:=pg hlt;rw[h n k _ hx,mA hlt];simp only[nC];rw[zF (x:=(k:Int)+1) (by omega) (by omega)];exact ih (k+1) _ hlt (by omega)
   have:k=l.length:=by omega
   subst this;rw[h2,List.drop_length];rfl
 exact gen V4 0 0 (pQ _) (by show l.length - 0<18446744073709551616;omega)
def stW (l:List (List Int)):Int:=l.foldl (λn x=>w64 (n+((x.length:Nat):Int))) 0
def z9a (l:List (List Int))(hl:l.length<4611686018427387904):Xj l=some (stW l):=by
 unfold Xj;rw[bdT (z8B l hl (step:=λs=>Y0 l s.1 s.2) ?_ ?_)]
 ·rfl
 ·intro n i x hx;have hi:i<l.length:=(pf.1 hx).1;have hq:decide ((i:Int)<(l.length:Int))=true:=by simpa using hi
  unfold Y0;simp only[hq,cond_true,zp hx,oB]
 intro n;unfold Y0;simp
def z84 (l:List (List Int))(hl:l.length<4611686018427387904):X7 l=some (stW l):=by
 unfold X7;rw[bdT (z8B l hl (step:=λs=>ZU l s.1 s.2) ?_ ?_)]
 ·rfl
 ·intro n i x hx;have hi:i<l.length:=(pf.1 hx).1;have hq:decide ((i:Int)<(l.length:Int))=true:=by simpa using hi
  unfold ZU;simp only[hq,cond_true,zp hx,oB]
 intro n;unfold ZU;simp
def j5 (l:List (List Int)):Nat:=(l.map List.length).sum
def za3 (h:j5 l<4611686018427387904):stW l=(j5 l:Int):=by
 have gen:∀(l:List (List Int)) (n:Nat),n+j5 l<4611686018427387904->l.foldl (λn x=>w64 (n+((x.length:Nat):Int))) (n:Int)=((n+j5 l:Nat):Int):=by
  intro l;induction l with
  | nil=>intro n _;simp[j5]
  | cons x l ih=>
   intro n hn;have hs:j5 (x::l)=x.length+j5 l:=by simp[j5]
   rw[hs]at hn ⊢;rw[nC,zF (by omega) (by omega),<-Int.natCast_add,ih (n+x.length) (by omega)];congr 1;omega
 have:=gen l 0 (by omega);simpa[stW] using this
def z4x {m:Nat}(h:∀w∈l,w.length<=m):j5 l<=l.length*m:=by
 induction l with
 | nil=>simp[j5]
 | cons x l ih=>
  have hs:j5 (x::l)=x.length+j5 l:=by simp[j5]
  have h1:=h x (by simp);have h2:=ih λw hw=>h w (by simp[hw]);rw[hs,pX,gL];omega
def z82:∀{l:List (List Int)},SW l↔∀i x y,l[i]?=some x->l[i+1]?=some y->uT x y<0
 | []=>by simp[SW]
 | [x]=>⟨λ_ i a b _ h2=>by simp at h2,λ_=>by simp[SW]⟩
 | x::y::l=>by
  constructor
  ·intro h i a b h1 h2;cases i with
   | zero=>simp at h1 h2;subst h1;subst h2;exact h.head y (by simp)
   | succ i=>exact z82.1 h.tail i a b (by simpa using h1) (by simpa using h2)
  intro h;have ht:SW (y::l):=z82.2 λi a b h1 h2=>h (i+1) a b (by simpa using h1) (by simpa using h2);have h0:=h 0 x y rfl rfl;refine mH.2 ⟨λz hz=>?_,ht⟩;rcases pl.1 hz with rfl|hz
  ·exact h0
  exact u9 h0 (ht.head z hz)
def z3D {α ρ:Type}(l:List α)(hl:l.length<4611686018427387904){step:Int->Option (LR Int (Unit⊕ρ))}(f:Nat->α->Option ρ)
  (h:∀(i:Nat) (x:α),1<=i->l[i]?=some x->step (i:Int)=some (nS i (f i x))) (h2:∀k:Nat,l.length<=k->step (k:Int)=some (.done (.inl ()))) :
  loop step 1=some (oS (zM f (l.drop 1) 1)):=by
 have gen:∀(n:Nat) (k:Nat),1<=k->l.length - k<n->Ko step n (k:Int)=some (oS (zM f (l.drop k) k)):=by
  intro n;induction n with
  | zero=>intro k _ h;omega
  | succ n ih=>
   intro k hk hn;rw[X1];rcases pE k l.length with hlt|hge
   ·have hx:l[k]?=some l[k]:=pg hlt;rw[h k _ hk hx,mA hlt];simp only[zM];cases hf:f k l[k] with
    | some r=>rfl
    | none=>simp only[nS];rw[zF (by omega) (by omega)];exact ih (k+1) (by omega) (by omega)
   rw[h2 k hge,gX hge];rfl
 exact gen V4 1 (pj _) (by show l.length - 1<18446744073709551616;omega)
instance (l:List (List Int)):Decidable (SW l):=by unfold SW;infer_instance
def z8S (l:List (List Int))(r:ρ):zM (λi x=>match l[i - 1]? with|some y=>if 0<=uT y x then some r else none|none=>none) (l.drop 1) 1=if SW l then none else some r:=by
 by_cases hs:SW l
 ·rw[if_pos hs];refine ZR λi x hx=>?_;rw[mb]at hx;have hi:1+i<l.length:=(pf.1 hx).1;have hy:l[1+i - 1]?=some l[i]:=by rw[show 1+i - 1=i by omega];exact pg (by omega)
  rw[hy];have:=z82.1 hs i l[i] x (pg (by omega)) (by rw[rB];exact hx);simp only;rw[if_neg (by omega)]
 rw[if_neg hs];cases hf:zM (λi x=>match l[i - 1]? with|some y=>if 0<=uT y x then some r else none|none=>none) (l.drop 1) 1 with
 | some r'=>
  obtain⟨i,x,h1,h2⟩:=xk hf;split at h2
  ·split at h2
   ·exact h2.symm
   cases h2
  cases h2
 | none=>
  exfalso;refine hs (z82.2 λi x y hx hy=>?_);have:=xe hf i y (by rw[mb,rB];exact hy);rw[show 1+i - 1=i by omega,hx]at this;simp only at this;split at this
  ·cases this
  omega
def zf7 (l:List (List Int))(h:l.length<=4096)(hw:∀w∈l,w.length<4611686018427387904):Vi l=some (decide (SW l)):=by
 unfold Vi;rw[bdT (z3D l (by omega) (step:=λs=>ZW l s) (λi x=>match l[i - 1]? with|some y=>if 0<=uT y x then some false else none|none=>none) ?_ ?_),z8S]
 ·by_cases hs:SW l
  ·simp[hs,oS,Wi]
  simp[hs,oS]
 ·intro i x hi hx;have hil:i<l.length:=(pf.1 hx).1;have hy:l[i - 1]?=some l[i - 1]:=pg (by omega);have hq:decide ((i:Int)<(l.length:Int))=true:=by simpa using hil
  unfold ZW;rw[zF (x:=(i:Int) - 1) (by omega) (by omega),show((i:Int) - 1)=((i - 1:Nat):Int) by omega];have hE:=Vb l[i - 1] x (hw _ (pL (by omega)));simp only[hq,cond_true,zp hx,zp hy,oB,hy,hE];by_cases hc:0<=uT l[i - 1] x
  ·simp[hc,nS]
  simp[hc,nS]
 intro k hk;unfold ZW;have:decide ((k:Int)<(l.length:Int))=false:=by simp;omega
 simp only[this,cond_false]
def chE (n:Int)(l:List (List Int)):Int:=if loE n l≠0 then loE n l else if SW l then(if 65536<j5 l then 3 else 0) else 1
def z91:chE n l=0↔loE n l=0/\SW l/\j5 l<=65536:=by
 unfold chE;by_cases h:loE n l=0
 ·rw[if_neg (by simp[h])];by_cases h2:SW l
  ·rw[if_pos h2];by_cases h3:65536<j5 l
   ·rw[if_pos h3];exact⟨λq=>by simp at q,λq=>by omega⟩
   rw[if_neg h3];exact⟨λ_=>⟨h,h2,by omega⟩,λ_=>rfl⟩
  rw[if_neg h2];exact⟨λq=>by simp at q,λq=>absurd q.2.1 h2⟩
 rw[if_pos h];exact⟨λq=>absurd q h,λq=>absurd q.1 h⟩
def z28 (h:loE n l=0):l.length<=4096/\(∀w∈l,w.length<=256)/\j5 l<=1048576:=by obtain⟨_,h1,h2⟩:=Kq.1 h;refine⟨h1,λw hw=>(h2 w hw).1,?_⟩;have:=z4x (m:=256) λw hw=>(h2 w hw).1;omega
def K2 (l:List (List Int))(n:Int):jQ l n=some (chE n l):=by
 unfold jQ chE;rw[z52];simp only[oB];by_cases h:loE n l=0
 ·obtain⟨h1,h2,h3⟩:=z28 h;rw[zf7 l h1 λw hw=>by have:=h2 w hw;omega,z84 l (by omega),za3 (by omega)];simp only[h,bne_self_eq_false,cond_false,oB,ne_eq,not_true,if_false];by_cases hs:SW l
  ·by_cases hq:65536<j5 l
   ·have:(65536:Int)<(j5 l:Int):=by omega
    simp[hs,hq,this]
   have:¬(65536:Int)<(j5 l:Int):=by omega
   simp[hs,hq,this]
  simp[hs]
 have hb:(loE n l != 0)=true:=by simpa using h
 simp[h,hb]
def zaB (l:List (List Int))(n:Int):Vz l n=some (chE n l):=by
 unfold Vz chE;rw[zfc];simp only[oB];by_cases h:loE n l=0
 ·obtain⟨h1,h2,h3⟩:=z28 h;simp only[h,bne_self_eq_false,cond_false,ne_eq,not_true,if_false];rw[bdT (z3D l (by omega) (step:=λs=>Y2 l s) (λi x=>match l[i - 1]? with|some y=>if 0<=uT y x then some (1:Int) else none|none=>none) ?_ ?_),z8S]
  ·by_cases hs:SW l
   ·simp only[hs,if_true,oS];unfold Wv;rw[z9a l (by omega),za3 (by omega)];simp only[oB];by_cases hq:65536<j5 l
    ·have:(65536:Int)<(j5 l:Int):=by omega
     simp[hq,this]
    have:¬(65536:Int)<(j5 l:Int):=by omega
    simp[hq,this]
   simp[hs,oS]
  ·intro i x hi hx;have hil:i<l.length:=(pf.1 hx).1;have hy:l[i - 1]?=some l[i - 1]:=pg (by omega);have hq:decide ((i:Int)<(l.length:Int))=true:=by simpa using hil
   unfold Y2;rw[zF (x:=(i:Int) - 1) (by omega) (by omega),show((i:Int) - 1)=((i - 1:Nat):Int) by omega];have hE:=V7 l[i - 1] x (λ_=>by have:=h2 _ (pL (show i - 1<l.length by omega));omega);simp only[hq,cond_true,zp hx,zp hy,oB,hy,hE];by_cases hc:0<=uT l[i - 1] x
   ·simp[hc,nS]
   simp[hc,nS]
  intro k hk;unfold Y2;have:decide ((k:Int)<(l.length:Int))=false:=by simp;omega
  simp only[this,cond_false]
 have hb:(loE n l != 0)=true:=by simpa using h
 simp[h,hb]
def z0W (x:zz α)(i:Nat)(v:α):(zz.setI x (i:Int) v).toL=x.toL.set i v:=by unfold zz.setI;rw[zz.toL_ofL _ _ (by simp[zz.toL]),pi]
def zge {x y:zz α}(h:x.toL=y.toL):x=y:=by cases x;cases y;simp only[zz.toL,List.cons.injEq,and_true]at h;simp only[zz.mk.injEq];exact h
instance:LawfulBEq (zz (qX Int)):={
 eq_of_beq:=by
  intro a b h;cases a;cases b;simp only[BEq.beq,po,decide_eq_true_eq]at h;simp only[zz.mk.injEq];obtain⟨⟨⟨⟨⟨⟨⟨⟨⟨⟨⟨⟨⟨⟨⟨h0,h1⟩,h2⟩,h3⟩,h4⟩,h5⟩,h6⟩,h7⟩,h8⟩,h9⟩,h10⟩,h11⟩,h12⟩,h13⟩,h14⟩,h15⟩:=h;have e:∀{p q:qX Int},(p.e0=q.e0/\p.e1=q.e1)->p=q:=by rintro⟨a0,a1⟩ ⟨b0,b1⟩ ⟨rfl,rfl⟩;rfl
  exact⟨e h0,e h1,e h2,e h3,e h4,e h5,e h6,e h7,e h8,e h9,e h10,e h11,e h12,e h13,e h14,e h15⟩
 rfl:=by intro a;cases a;simp[BEq.beq] }
instance:LawfulBEq zJ:={
 eq_of_beq:=by intro a b h;have h:(a.block_==b.block_&&a.signature_==b.signature_)=true:=h;rw[po,beq_iff_eq,beq_iff_eq]at h;obtain⟨a0,a1⟩:=a;obtain⟨b0,b1⟩:=b;obtain⟨h0,h1⟩:=h;have h0:a0=b0:=h0;have h1:a1=b1:=h1;rw[h0,h1]
 rfl:=by intro a;show(a.block_==a.block_&&a.signature_==a.signature_)=true;rw[beq_self_eq_true,beq_self_eq_true];rfl }
def sgN (m:z6)(p:List Int)(s j:Nat):qX Int:=if j<kk m then⟨(E m s j).Out,if(E m s j).To=-1 then -1 else(p[(E m s j).To.toNat]?).getD 0⟩ else⟨0,0⟩
def zay (f g:Nat->α){n i:Nat}(v:α)(h:∀j,j<n->g j=if j=i then v else f j):((List.range n).map f).set i v=(List.range n).map g:=by
 apply gG;intro j;by_cases hj:j<n
 ·have e1:((List.range n).map g)[j]?=some (g j):=by simp[hj]
  have e2:((List.range n).map f)[j]?=some (f j):=by simp[hj]
  rw[e1,h j hj];by_cases e:j=i
  ·subst e;rw[gT (by simpa using hj),if_pos rfl]
  rw[gy (λq=>e q.symm),e2,if_neg e]
 rw[pH (by simp;omega),pH (by simp;omega)]
variable {p:List Int}
section
variable {m:z6}(h:VM m)
include h
theorem zdz (hp:p.length=m.Rows.length){s:Nat}(hs:s<m.Rows.length):Ret (k7 m p (s:Int)) λa=>a.toL=(List.range 16).map (sgN m p s):=by
 obtain⟨r,r1,r2,r3⟩:=h.rowAt hs;have hk:=h.kk_le;unfold k7 Xh;rw[bdT (zp r1),zu];refine Ret.mono ?_ λa ha=>z7.2 ha;refine zQ (λst=>∃i:Nat,st.2=(i:Int)/\i<=kk m/\st.1.toL=(List.range 16).map λj=>if j<i then sgN m p s j else⟨0,0⟩) (λst=>20 - st.2.toNat) ⟨0,rfl,by omega,by simp[zz.toL,nD]⟩ (by show 20 - _<_;omega) ?_;rintro⟨a,_⟩ ⟨i,rfl,hi,ha⟩;simp only at ha;show Ret (Xg p r a (i:Int)) _;unfold Xg kO;rw[zD];refine⟨λhc=>?_,λhc=>?_⟩
 ·have hc:(i:Int)<((r.length:Nat):Int):=of_decide_eq_true hc;have hik:i<kk m:=by omega
  have e1:a.toL[i]?=some ⟨0,0⟩:=by rw[ha];simp[show i<16 by omega]
  have w2:w64 ((i:Int)+1)=((i+1:Nat):Int):=by rw[zF (by omega) (by omega)];rfl
  have hed:=h.edgeAt hs hik;have step:∀v:qX Int,sgN m p s i=v->∀b:zz (qX Int),b.toL=((List.range 16).map λj=>if j<i then sgN m p s j else⟨0,0⟩).set i v->b.toL=(List.range 16).map λj=>if j<i+1 then sgN m p s j else⟨0,0⟩:=by
   intro v hv b hb;rw[hb];refine zay _ _ v λj hj=>?_;by_cases e:j=i
   ·subst e;rw[if_pos (by omega),if_pos rfl,hv]
   rw[if_neg e];by_cases e2:j<i
   ·rw[if_pos e2,if_pos (by omega)]
   rw[if_neg e2,if_neg (by omega)]
  rw[bdT (zp (r3 i hik)),bdT (zp e1),oB,zD];refine⟨λht=>?_,λht=>?_⟩
  ·have ht:(E m s i).To≠-1:=by simpa using ht
   obtain⟨t,htn⟩:∃t:Nat,(E m s i).To=t:=⟨(E m s i).To.toNat,by omega⟩;have hpt:p[t]?=some p[t]:=pg (by omega);have e2:(zz.setI a (i:Int) ⟨(E m s i).Out,-1⟩).toL[i]?=some ⟨(E m s i).Out,-1⟩:=by rw[z0W,gT (by rw[ha];simp;omega)]
   rw[htn,bdT (zp hpt),bdT (zp e2),oB,z7,w2];refine⟨⟨i+1,rfl,by omega,step _ ?_ _ (by rw[z0W,z0W,ha,List.set_set])⟩,by simp only[pi];omega⟩;unfold sgN;rw[if_pos hik,if_neg ht,htn,pi,hpt,gH]
  have ht:(E m s i).To=-1:=by simpa using ht
  rw[z7,w2];refine⟨⟨i+1,rfl,by omega,step _ ?_ _ (by rw[z0W,ha])⟩,by simp only[pi];omega⟩;unfold sgN;rw[if_pos hik,if_pos ht]
 have hc:=of_decide_eq_false hc;have:i=kk m:=by omega
 subst this;refine z7.2 ?_;show a.toL=_;rw[ha];refine gW λj hj=>?_;unfold sgN;by_cases e:j<kk m
 ·rw[if_pos e,if_pos e]
 rw[if_neg e,if_neg e]
end
def Rgf (l:List Int):Prop:=∀(s:Nat) (x:Int),l[s]?=some x->∃v:Nat,x=(v:Int)/\∀w:Nat,w<v->∃t,t<s/\l[t]?=some (w:Int)
def z8i {l r:List Int}(hl:Rgf l)(hr:Rgf r)(hlen:l.length=r.length)(h:∀s t:Nat,s<l.length->t<l.length->(l[s]?=l[t]?↔r[s]?=r[t]?)):l=r:=by
 have gen:∀n s,s<n->s<l.length->l[s]?=r[s]?:=by
  intro n;induction n with
  | zero=>intro s q;omega
  | succ n ih=>
   intro s hs hsl;have hx:l[s]?=some l[s]:=pg hsl;have hy:r[s]?=some r[s]:=pg (by omega);by_cases old:∃t,t<s/\l[t]?=l[s]?
   ·obtain⟨t,t1,t2⟩:=old;rw[<-t2,ih t (by omega) (by omega)];exact(h t s (by omega) hsl).1 t2
   obtain⟨v,v1,v2⟩:=hl s _ hx;obtain⟨u,u1,u2⟩:=hr s _ hy;rw[hx,hy,v1,u1];rcases mG v u with q|q|q
   ·exfalso;obtain⟨t,t1,t2⟩:=u2 v q;exact old ⟨t,t1,by rw[ih t (by omega) (by omega),t2,hx,v1]⟩
   ·rw[q]
   exfalso;obtain⟨t,t1,t2⟩:=v2 u q;have:r[t]?=r[s]?:=by rw[<-ih t (by omega) (by omega),t2,hy,u1]
   exact old ⟨t,t1,(h t s (by omega) hsl).2 this⟩
 apply gG;intro s;by_cases hs:s<l.length
 ·exact gen (s+1) s (by omega) hs
 rw[pH (by omega),pH (by omega)]
def z8x {K V:Type}[BEq K](x:K)(v:V):∀l:List (K×V),Vc l x=none->(z26 l x v).length=l.length+1
 | [],_=>rfl
 | p::l,hg=>by
  simp only[Vc]at hg;split at hg
  ·cases hg
  rename_i q;simp only[z26,q];show((p::z26 l x v).length)=_;rw[pX,z8x x v l hg,pX]
section
variable {m:z6}(h:VM m)
include h
def zfe (m:z6)(p:List Int)(s t:Nat):Prop:=p[s]?=p[t]?/\∀j,j<kk m->sgN m p s j=sgN m p t j
theorem z7p (hp:p.length=m.Rows.length):Ret (kR m p) λq=>q.length=m.Rows.length/\Rgf q/\∀s t:Nat,s<m.Rows.length->t<m.Rows.length->(q[s]?=q[t]?↔zfe m p s t):=by
 have hN:=h.len64;have hk:=h.kk_le;have hkey:∀s,s<m.Rows.length->∃key:zJ,key.block_=(p[s]?).getD 0/\key.signature_.toL=(List.range 16).map (sgN m p s)/\k7 m p (s:Int)=some key.signature_:=by intro s hs;obtain⟨a,a1,a2⟩:=zdz h hp hs;exact⟨⟨(p[s]?).getD 0,a⟩,rfl,a2,a1⟩
 have:∃key:Nat->zJ,∀s,s<m.Rows.length->(key s).block_=(p[s]?).getD 0/\(key s).signature_.toL=(List.range 16).map (sgN m p s)/\k7 m p (s:Int)=some (key s).signature_:=by
  classical
  refine⟨λs=>if q:s<m.Rows.length then(hkey s q).choose else⟨0,zz.mk ⟨0,0⟩ ⟨0,0⟩ ⟨0,0⟩ ⟨0,0⟩ ⟨0,0⟩ ⟨0,0⟩ ⟨0,0⟩ ⟨0,0⟩ ⟨0,0⟩ ⟨0,0⟩ ⟨0,0⟩ ⟨0,0⟩ ⟨0,0⟩ ⟨0,0⟩ ⟨0,0⟩ ⟨0,0⟩⟩,λs hs=>?_⟩;simp only[hs,dif_pos];exact(hkey s hs).choose_spec
 obtain⟨key,hkey⟩:=this;have alike:∀s t,s<m.Rows.length->t<m.Rows.length->(key s=key t↔zfe m p s t):=by
  intro s t hs ht;obtain⟨a1,a2,_⟩:=hkey s hs;obtain⟨b1,b2,_⟩:=hkey t ht;have xs:p[s]?=some p[s]:=pg (by omega);have xt:p[t]?=some p[t]:=pg (by omega);rw[xs,gH]at a1;rw[xt,gH]at b1;constructor
  ·intro e;refine⟨by rw[xs,xt,<-a1,<-b1,e],λj hj=>?_⟩;have e2:(List.range 16).map (sgN m p s)=(List.range 16).map (sgN m p t):=by rw[<-a2,<-b2,e]
   have:=congrArg (λl=>l[j]?) e2;simpa[show j<16 by omega] using this
  rintro⟨e1,e2⟩;have e3:(key s).signature_=(key t).signature_:=zge (by
   rw[a2,b2];refine gW λj hj=>?_;by_cases q:j<kk m
   ·exact e2 j q
   unfold sgN;rw[if_neg q,if_neg q])
  have e4:(key s).block_=(key t).block_:=by rw[a1,b1];rw[xs,xt]at e1;exact Option.some.inj e1
  revert e3 e4;generalize key s=u;generalize key t=v;intro e3 e4;obtain⟨u0,u1⟩:=u;obtain⟨v0,v1⟩:=v;simp only at e3 e4;rw[e3,e4]
 unfold kR kQ;rw[gdT (by omega),zu];refine Ret.mono ?_ λq hq=>z7.2 hq;refine zQ (λst=>∃i:Nat,st.2.2=(i:Int)/\i<=m.Rows.length/\st.2.1.length=m.Rows.length/\(∀s,s<i->∃v:Nat,st.2.1[s]?=some (v:Int)/\v<st.1.length/\Vc st.1 (key s)=some (v:Int)/\∀w:Nat,w<v->∃t,t<s/\st.2.1[t]?=some (w:Int))/\(∀w:Nat,w<st.1.length->∃t,t<i/\st.2.1[t]?=some (w:Int)) /\
   (∀k v,Vc st.1 k=some v->∃t,t<i/\key t=k)/\∀s t:Nat,s<i->t<i->st.2.1[s]?=st.2.1[t]?->key s=key t) (λst=>100 - st.2.2.toNat) ⟨0,rfl,by omega,by simp[hp],λs q=>by omega,λw q=>by simp at q,λk v q=>by simp[Vc]at q,λs t q=>by omega⟩ (by show 100 - _<_;omega) ?_
 rintro⟨names,out,_⟩ ⟨i,rfl,hi,ho,h1,h2,h3,h4⟩;simp only at ho h1 h2 h3 h4;show Ret (kP m p names out (i:Int)) _;unfold kP;rw[zD];refine⟨λhc=>?_,λhc=>?_⟩
 ·have hc:(i:Int)<((p.length:Nat):Int):=of_decide_eq_true hc;have hiN:i<m.Rows.length:=by omega
  obtain⟨a1,a2,a3⟩:=hkey i hiN;have xi:p[i]?=some p[i]:=pg (by omega);rw[xi,gH]at a1;have hmk:zJ.mk p[i] (key i).signature_=key i:=by rw[<-a1]
  have w2:w64 ((i:Int)+1)=((i+1:Nat):Int):=by rw[zF (by omega) (by omega)];rfl
  have hoi:out[i]?=some out[i]:=pg (by omega);rw[bdT (zp xi),bdT a3,oB,hmk];cases hg:Vc names (key i) with
  | none=>
   rw[Option.isSome_none,ma,cond_true];unfold vg;have hfresh:∀t,t<i->key t≠key i:=λt ht e=>by obtain⟨v,_,_,v3,_⟩:=h1 t ht;rw[e,hg]at v3;cases v3
   have hlen:=z8x (key i) ((names.length:Nat):Int) names hg;rw[hmk,z0Z,if_pos (by simp),gH,oB,bdT (zp hoi),z7,w2,pi];have keep:∀t:Nat,t<i->(out.set i ((names.length:Nat):Int))[t]?=out[t]?:=λt ht=>gy (by omega);have new:(out.set i ((names.length:Nat):Int))[i]?=some ((names.length:Nat):Int):=gT (by omega);refine⟨⟨i+1,rfl,by omega,by simp[ho],λs hs=>?_,λw hw=>?_,λk v q=>?_,λs t hs ht q=>?_⟩,by simp only[pi];omega⟩
   ·simp only
    by_cases e:s=i
    ·subst e;refine⟨names.length,new,by omega,by rw[z0Z,if_pos (by simp)],λw hw=>?_⟩;obtain⟨t,t1,t2⟩:=h2 w hw;exact⟨t,t1,by rw[keep t t1];exact t2⟩
    obtain⟨v,v1,v2,v3,v4⟩:=h1 s (by omega);refine⟨v,by rw[keep s (by omega)];exact v1,by omega,?_,λw hw=>?_⟩
    ·rw[z0Z,if_neg (by simpa using λq=>hfresh s (by omega) q.symm)];exact v3
    obtain⟨t,t1,t2⟩:=v4 w hw;exact⟨t,t1,by rw[keep t (by omega)];exact t2⟩
   ·simp only at hw ⊢;by_cases e:w<names.length
    ·obtain⟨t,t1,t2⟩:=h2 w e;exact⟨t,by omega,by rw[keep t t1];exact t2⟩
    have:w=names.length:=by omega
    subst this;exact⟨i,by omega,new⟩
   ·simp only at q;rw[z0Z]at q;by_cases e:key i=k
    ·exact⟨i,by omega,e⟩
    rw[if_neg (by simpa using e)]at q;obtain⟨t,t1,t2⟩:=h3 k v q;exact⟨t,by omega,t2⟩
   simp only at q;have low:∀t,t<i->out[t]?≠some ((names.length:Nat):Int):=λt ht g=>by obtain⟨v,v1,v2,_⟩:=h1 t ht;rw[v1]at g;have:=Option.some.inj g;omega
   by_cases es:s=i
   ·by_cases et:t=i
    ·rw[es,et]
    exfalso;rw[es,new,keep t (by omega)]at q;exact low t (by omega) q.symm
   by_cases et:t=i
   ·exfalso;rw[et,new,keep s (by omega)]at q;exact low s (by omega) q
   rw[keep s (by omega),keep t (by omega)]at q;exact h4 s t (by omega) (by omega) q
  | some v=>
   rw[Option.isSome_some,gF,cond_false];unfold vg;obtain⟨t0,t1,t2⟩:=h3 _ _ hg;obtain⟨u,u1,u2,u3,u4⟩:=h1 t0 t1;rw[t2,hg]at u3;have hvu:v=(u:Int):=Option.some.inj u3;rw[hmk,hg,gH,oB,bdT (zp hoi),z7,w2,pi];have keep:∀t:Nat,t<i->(out.set i v)[t]?=out[t]?:=λt ht=>gy (by omega);have new:(out.set i v)[i]?=some v:=gT (by omega);refine⟨⟨i+1,rfl,by omega,by simp[ho],λs hs=>?_,λw hw=>?_,λk v q=>?_,λs t hs ht q=>?_⟩,by simp only[pi];omega⟩
   ·simp only
    by_cases e:s=i
    ·subst e;refine⟨u,by rw[new,hvu],u2,by rw[hg,hvu],λw hw=>?_⟩;obtain⟨t,g1,g2⟩:=u4 w hw;exact⟨t,by omega,by rw[keep t (by omega)];exact g2⟩
    obtain⟨v',v1,v2,v3,v4⟩:=h1 s (by omega);refine⟨v',by rw[keep s (by omega)];exact v1,v2,v3,λw hw=>?_⟩;obtain⟨t,g1,g2⟩:=v4 w hw;exact⟨t,g1,by rw[keep t (by omega)];exact g2⟩
   ·simp only at hw ⊢;obtain⟨t,g1,g2⟩:=h2 w hw;exact⟨t,by omega,by rw[keep t g1];exact g2⟩
   ·obtain⟨t,g1,g2⟩:=h3 k v q;exact⟨t,by omega,g2⟩
   simp only at q;have like:∀t,t<i->out[t]?=some v->key t=key i:=λt ht g=>by rw[<-t2];exact h4 t t0 ht t1 (by rw[g,u1,hvu])
   by_cases es:s=i
   ·by_cases et:t=i
    ·rw[es,et]
    rw[es,new,keep t (by omega)]at q;rw[es];exact(like t (by omega) q.symm).symm
   by_cases et:t=i
   ·rw[et,new,keep s (by omega)]at q;rw[et];exact like s (by omega) q
   rw[keep s (by omega),keep t (by omega)]at q;exact h4 s t (by omega) (by omega) q
 have hc:=of_decide_eq_false hc;have:i=m.Rows.length:=by omega
 subst this;refine z7.2 ⟨ho,λs x hx=>?_,λs t hs ht=>?_⟩
 ·have hs:s<m.Rows.length:=by have:=(pf.1 hx).1;omega
  obtain⟨v,v1,_,_,v4⟩:=h1 s hs;rw[hx]at v1;exact⟨v,Option.some.inj v1,v4⟩
 rw[<-alike s t hs ht];refine⟨h4 s t hs ht,λe=>?_⟩;obtain⟨v,v1,_,v3,_⟩:=h1 s hs;obtain⟨u,u1,_,u3,_⟩:=h1 t ht;rw[e,u3]at v3;rw[v1,u1,<-Option.some.inj v3]
end
def z6P (a b:List Int)(ha:a.length<4611686018427387904):wv a b=some (decide (a=b)):=by
 unfold wv ur;by_cases hl:a.length=b.length
 ·have e:(((a.length:Nat):Int) !=((b.length:Nat):Int))=false:=by simp[hl]
  rw[e,cond_false,ya a ha (step:=λs=>wx a b s) (λi x=>if b[i]?=some x then none else some false) ?_ ?_]
  ·by_cases q:a=b
   ·rw[ZR λi x hx=>by rw[gl,<-q,if_pos hx]];simp[oS,q]
   cases hf:zM (λi x=>if b[i]?=some x then none else some false) a 0 with
   | none=>
    exfalso;refine q (gG λi=>?_);by_cases hi:i<a.length
    ·have hx:a[i]?=some a[i]:=pg hi;have:=xe hf i _ hx;rw[gl]at this;split at this
     ·rename_i g;rw[hx,g]
     cases this
    rw[pH (by omega),pH (by omega)]
   | some r=>
    obtain⟨i,x,_,h2⟩:=xk hf;split at h2
    ·cases h2
    cases h2;simp[oS,q]
  ·intro i x hx;have hi:=(pf.1 hx).1;have hy:b[i]?=some b[i]:=pg (by omega);unfold wx;rw[decide_eq_true (by omega),cond_true,bdT (zp hx),bdT (zp hy),hy];by_cases e2:x=b[i]
   ·rw[e2,bne_self_eq_false,cond_false,if_pos rfl];rfl
   have e3:(x != b[i])=true:=by simpa using e2
   rw[e3,cond_true,if_neg λg=>e2 (Option.some.inj g).symm];rfl
  unfold wx;rw[decide_eq_false (by omega),cond_false]
 have e:(((a.length:Nat):Int) !=((b.length:Nat):Int))=true:=by simpa using λg:(a.length:Int)=b.length=>hl (by omega)
 rw[e,cond_true,decide_eq_false λq=>hl (by rw[q])]
section
variable {m:z6}(h:VM m)
include h
omit h in theorem seq_out {s t:Nat} (q:SEq m s t) {j:Nat} (hj:j<kk m):(E m s j).Out=(E m t j).Out/\∀w:List Nat,(∀i∈w,i<kk m)->rsp m (E m s j).To w=rsp m (E m t j).To w:=by
 have gen:∀w:List Nat,(∀i∈w,i<kk m)->(E m s j).Out=(E m t j).Out/\rsp m (E m s j).To w=rsp m (E m t j).To w:=by intro w hw;have:=q (j::w) (λi hi=>by rcases pl.1 hi with rfl|g;exact hj;exact hw i g);simp only[rsp,Zf,List.cons.injEq]at this;exact this
 exact⟨(gen [] (by simp)).1,λw hw=>(gen w hw).2⟩
theorem zac (hp:p.length=m.Rows.length)(hq:∀s t,s<m.Rows.length->t<m.Rows.length->SEq m s t->p[s]?=p[t]?){s t:Nat}(hs:s<m.Rows.length)(ht:t<m.Rows.length)(q:SEq m s t):zfe m p s t:=by
 refine⟨hq s t hs ht q,λj hj=>?_⟩;obtain⟨o1,o2⟩:=seq_out q hj;have hes:=h.edgeAt hs hj;have het:=h.edgeAt ht hj;unfold sgN;rw[if_pos hj,if_pos hj,o1];rcases hes with⟨a1,a2⟩|⟨a1,a2,a3,a4⟩
 ·rcases het with⟨b1,b2⟩|⟨b1,b2,b3,b4⟩
  ·rw[if_pos a1,if_pos b1]
  omega
 rcases het with⟨b1,b2⟩|⟨b1,b2,b3,b4⟩
 ·omega
 rw[if_neg (by omega),if_neg (by omega)];have e1:(((E m s j).To.toNat:Nat):Int)=(E m s j).To:=by omega
 have e2:(((E m t j).To.toNat:Nat):Int)=(E m t j).To:=by omega
 have:=hq _ _ (by omega) (by omega) (show SEq m (E m s j).To.toNat (E m t j).To.toNat from λw hw=>by rw[e1,e2];exact o2 w hw);rw[this]
theorem zbz (hp:p.length=m.Rows.length)(hr:Rgf p)(hf:∀s t,s<m.Rows.length->t<m.Rows.length->p[s]?=p[t]?->zfe m p s t):∀(w:List Nat) (s t:Nat),s<m.Rows.length->t<m.Rows.length->p[s]?=p[t]?->(∀i∈w,i<kk m)->rsp m (s:Int) w=rsp m (t:Int) w
 | [],_,_,_,_,_,_=>rfl
 | j::w,s,t,hs,ht,e,hw=>by
  have hj:j<kk m:=hw j (by simp);have hw':∀i∈w,i<kk m:=λi hi=>hw i (by simp[hi]);have hal:=(hf s t hs ht e).2 j hj;have hes:=h.edgeAt hs hj;have het:=h.edgeAt ht hj;have pos:∀u:Nat,u<m.Rows.length->0<=(p[u]?).getD 0:=λu hu=>by have hx:p[u]?=some p[u]:=pg (by omega);obtain⟨v,v1,_⟩:=hr u _ hx;rw[hx,gH,v1];omega
  unfold sgN at hal;rw[if_pos hj,if_pos hj]at hal;have a0:=congrArg qX.e0 hal;have a1:=congrArg qX.e1 hal;simp only at a0 a1;simp only[rsp,Zf,a0,List.cons.injEq,true_and];rcases hes with⟨b1,b2⟩|⟨b1,b2,b3,b4⟩
  ·rcases het with⟨c1,c2⟩|⟨c1,c2,c3,c4⟩
   ·rw[b1,c1]
   rw[if_pos b1,if_neg (by omega)]at a1;have:=pos (E m t j).To.toNat (by omega);omega
  rcases het with⟨c1,c2⟩|⟨c1,c2,c3,c4⟩
  ·rw[if_neg (by omega),if_pos c1]at a1;have:=pos (E m s j).To.toNat (by omega);omega
  rw[if_neg (by omega),if_neg (by omega)]at a1;have x1:p[(E m s j).To.toNat]?=some p[(E m s j).To.toNat]:=pg (by omega);have x2:p[(E m t j).To.toNat]?=some p[(E m t j).To.toNat]:=pg (by omega);have:=zbz hp hr hf w (E m s j).To.toNat (E m t j).To.toNat (by omega) (by omega) (by rw[x1,x2]at a1 ⊢;exact congrArg some a1) hw';have e1:(((E m s j).To.toNat:Nat):Int)=(E m s j).To:=by omega
  have e2:(((E m t j).To.toNat:Nat):Int)=(E m t j).To:=by omega
  rw[e1,e2]at this;exact this
def Qr (N:Nat)(p:List Int):Nat:=((List.range N).flatMap λs=>(List.range N).map λt=>(s,t)).countP λx=>decide (p[x.1]?=p[x.2]?)
omit h in
theorem z6t {N s t:Nat}:(s,t)∈((List.range N).flatMap λs=>(List.range N).map λt=>(s,t))↔s<N/\t<N:=by
 simp only[gI,pM,gC,Prod.mk.injEq];constructor
 ·rintro⟨a,ha,b,hb,rfl,rfl⟩;exact⟨ha,hb⟩
 rintro⟨a,b⟩;exact⟨s,a,t,b,rfl,rfl⟩
theorem z9D:Ret (kT m) λr=>r.2.2=0/\r.1.length=m.Rows.length/\Rgf r.1/\∀s t:Nat,s<m.Rows.length->t<m.Rows.length->(r.1[s]?=r.1[t]?↔SEq m s t):=by
 have hN:=h.len64;have hN1:=h.len1;unfold kT Wl;rw[Zl,Qk h,oB,bne_self_eq_false,cond_false,oB];unfold jI;rw[gdT (by omega),zu,zu];have e0:((m.Rows.length:Nat):Int).toNat=m.Rows.length:=by simp
 rw[e0];refine(zQ (R:=λy:LR (List Int×Int) Empty=>∃p n,y=.next (p,n)/\p.length=m.Rows.length/\Rgf p/\∀s t:Nat,s<m.Rows.length->t<m.Rows.length->(p[s]?=p[t]?↔SEq m s t))
  (λst:LR (List Int×Int) Empty×List Int=>(∃x,st.1=.next x)/\st.2.length=m.Rows.length/\Rgf st.2/\∀s t:Nat,s<m.Rows.length->t<m.Rows.length->SEq m s t->st.2[s]?=st.2[t]?) (λst=>Qr m.Rows.length st.2) ⟨⟨_,rfl⟩,by simp,?_,?_⟩ ?_ ?_).mono ?_
 ·intro s x hx;simp only[gJ]at hx;split at hx
  ·cases hx;exact⟨0,rfl,λw q=>by omega⟩
  cases hx
 ·intro s t hs ht _;simp only[gJ];rw[if_pos hs,if_pos ht]
 ·have:Qr m.Rows.length (List.replicate m.Rows.length (0:Int))<=((List.range m.Rows.length).flatMap λs=>(List.range m.Rows.length).map λt=>(s,t)).length:=nY;have e:((List.range m.Rows.length).flatMap λs=>(List.range m.Rows.length).map λt=>(s,t)).length=m.Rows.length*m.Rows.length:=by rw[List.length_flatMap];simp only[pT,List.length_range,List.map_const',List.sum_replicate_nat]
  rw[e]at this;have:=mC hN hN;show Qr m.Rows.length (List.replicate m.Rows.length (0:Int))<18446744073709551616;omega
 ·rintro⟨y,p⟩ ⟨⟨⟨x,n⟩,rfl⟩,hp,hr,hq⟩;simp only at hp hr hq;show Ret (uu m (yOf λs x=>vh s.1 s.2 x) (.next (x,n)) p) _;unfold uu;simp only[yOf,vh,oB,cond_true];rw[zu];refine(z7p h hp).mono ?_;rintro q ⟨q1,q2,q3⟩;rw[z6P p q (by omega),oB,zD];refine⟨λhc=>?_,λhc=>?_⟩
  ·have hc:p=q:=of_decide_eq_true hc;rw[z7];refine⟨p,w64 (n+1),rfl,hp,hr,λs t hs ht=>⟨λe w hw=>?_,hq s t hs ht⟩⟩;exact zbz h hp hr (λs t hs ht e=>(q3 s t hs ht).1 (by rw[<-hc];exact e)) w s t hs ht e hw
  have hc:¬p=q:=of_decide_eq_false hc;rw[z7];refine⟨⟨⟨_,rfl⟩,q1,q2,λs t hs ht e=>(q3 s t hs ht).2 (zac h hp hq hs ht e)⟩,?_⟩;show Qr m.Rows.length q<Qr m.Rows.length p;unfold Qr;refine z2r (λz hz hd=>?_) ?_
  ·obtain⟨s,t⟩:=z;obtain⟨hs,ht⟩:=z6t.1 hz;simp only[decide_eq_true_eq]at hd ⊢;exact((q3 s t hs ht).1 hd).1
  refine gB λg=>hc (z8i hr q2 (by omega) λs t hs ht=>⟨λe=>?_,λe=>((q3 s t (by omega) (by omega)).1 e).1⟩);refine gB λg2=>g ⟨(s,t),z6t.2 ⟨by omega,by omega⟩,by simpa using e,by simpa using g2⟩
 rintro y ⟨p,n,rfl,g1,g2,g3⟩;rw[z7];unfold kS;simp only;rw[z7];exact⟨rfl,g1,g2,g3⟩
end
def z0b (w:List Int):zP w=some w:=by unfold zP;rw[gdT (by omega)];simp
def z90 (w:List Int)(h:w.length<=4294967296):ye w=some w:=by unfold ye;rw[gdT (by simpa using h)]
def z8d (a b:List Int)(h:a.length<4611686018427387904):qZ a b=some (decide (a=b)):=by
 unfold qZ;rw[Vb a b h];simp only[oB];by_cases e:a=b
 ·subst e;simp[Yo]
 have:uT a b≠0:=λq=>e (Qj q);simp[e,this]
def QW (l:List (List Int)):Prop:=l.Pairwise λa b=>¬uT b a<0
def YO {l:List α}{n:Nat}{x:α}:x∈l.take n↔∃i,i<n/\l[i]?=some x:=by
 rw[gM];constructor
 ·rintro⟨i,h⟩;rw[pO]at h;split at h
  ·exact⟨i,by omega,h⟩
  cases h
 rintro⟨i,h1,h2⟩;exact⟨i,by rw[pO,if_pos h1];exact h2⟩
def z9Y (h:SW l)(hx:∀y∈l,uT y x<0):SW (l++[x]):=by unfold SW;rw[nI];exact⟨h,by simp,λa ha b hb=>by simp at hb;subst hb;exact hx a ha⟩
section
variable {s:List (List Int)}(hq:QW s)(hl:s.length<=4294967296)(hw:∀w∈s,w.length<4611686018427387904)
include hq hl hw
omit hl hw in
theorem zdV {i j:Nat}{x y:List Int}(hi:s[i]?=some x)(hj:s[j]?=some y)(h:i<=j):uT x y<0\/x=y:=by
 rcases pE i j with h|h
 ·have:=(mw.1 hq) i j (pf.1 hi).1 (pf.1 hj).1 h;rw[(pf.1 hi).2,(pf.1 hj).2]at this;rcases z5f.1 this with q|q
  ·exact .inl q
  exact .inr q.symm
 have:i=j:=by omega
 subst this;rw[hi]at hj;exact .inr (by simpa using hj)
theorem z6T (h1:1<=k)(hk:k<s.length)(hd:s[k - 1]?=s[k]?)(hs:SW (s.take k)) :
  Ret (Option.bind (loop (λq=>yS (k:Int) q.1 q.2.1 q.2.2) (s,(k:Int),1)) λt=>yi t.1 t.2) λr=>r=.done (.inr (srt s)):=by
 rw[zu];refine Ret.mono (zQ (λq=>∃kk k2:Nat,q.2.1=(kk:Int)/\q.2.2=(k2:Int)/\1<=k2/\k+k2<=s.length/\kk<k+k2/\q.1.length=s.length/\(∀i,kk<=i->q.1[i]?=s[i]?)/\SW (q.1.take kk)/\∀x,x∈q.1.take kk↔x∈s.take (k+k2)) (λq=>s.length - q.2.2.toNat) (R:=λt=>∃kk:Nat,t.2=(kk:Int)/\kk<=s.length/\t.1.length=s.length/\t.1.take kk=srt s) ?_ ?_ ?_) ?_
 ·refine⟨k,1,rfl,rfl,pj _,hk,by omega,rfl,λ_ _=>rfl,hs,λx=>?_⟩;rw[YO,YO];constructor
  ·rintro⟨i,h2,h3⟩;exact⟨i,by omega,h3⟩
  rintro⟨i,h2,h3⟩;rcases pE i k with h|h
  ·exact⟨i,h,h3⟩
  have:i=k:=by omega
  subst this;exact⟨i - 1,by omega,by rw[hd];exact h3⟩
 ·show s.length - _<_;omega
 ·rintro⟨S,a,b⟩ ⟨kk,k2,rfl,rfl,g1,g2,g3,g4,g5,g6,g7⟩;simp only at g4 g5 g6 g7;show Ret (yS (k:Int) S (kk:Int) (k2:Int)) _;unfold yS;rw[zD];refine⟨λhc=>?_,λhc=>?_⟩
  ·have hlt:k2<s.length - k:=by rw[g4]at hc;simpa using hc
   have e1:s[k+k2]?=some s[k+k2]:=pg (by omega);have e2:s[k+k2 - 1]?=some s[k+k2 - 1]:=pg (by omega);have f1:idx S ((k:Int)+(k2:Int))=some s[k+k2]:=by rw[<-Int.natCast_add,y6,g5 _ (by omega),e1]
   have f2:idx S ((k:Int)+w64 ((k2:Int) - 1))=some s[k+k2 - 1]:=by rw[zF (by omega) (by omega),show(k:Int)+((k2:Int) - 1)=((k+k2 - 1:Nat):Int) by omega,y6,g5 _ (by omega),e2]
   rw[gdT (by omega),f1];simp only[oB];rw[gdT (by rw[zF (by omega) (by omega)];omega),f2];simp only[oB];rw[z8d _ _ (hw _ (pL (by omega)))];simp only[oB];have hk2:w64 ((k2:Int)+1)=((k2+1:Nat):Int):=by rw[zF (by omega) (by omega)];omega
   by_cases he:s[k+k2]=s[k+k2 - 1]
   ·simp only[he,decide_true,gF,cond_false];unfold yh;rw[hk2,z7];refine⟨⟨kk,k2+1,rfl,rfl,by omega,by omega,by omega,g4,g5,g6,λx=>?_⟩,by simp only[pi];omega⟩;rw[g7,YO,YO];constructor
    ·rintro⟨i,h2,h3⟩;exact⟨i,by omega,h3⟩
    rintro⟨i,h2,h3⟩;rcases pE i (k+k2) with h|h
    ·exact⟨i,h,h3⟩
    have:i=k+k2:=by omega
    subst this;exact⟨k+k2 - 1,by omega,by rw[e2,<-he,<-e1];exact h3⟩
   simp only[he,decide_false,ma,cond_true];rw[gdT (by omega)];have e3:idx S (kk:Int)=some s[kk]:=by rw[y6,g5 _ (pj _),pg (by omega)]
   rw[e3];simp only[oB];unfold yh;rw[hk2,zF (x:=(kk:Int)+1) (by omega) (by omega),z7];have hset:(S.set ((kk:Int).toNat) s[k+k2]).take (kk+1)=S.take kk++[s[k+k2]]:=by rw[pi,hU,List.take_set_of_le (pj _),gT (by omega)];rfl
   refine⟨⟨kk+1,k2+1,rfl,rfl,by omega,by omega,by omega,by simp[g4],λi hi=>?_,?_,λx=>?_⟩,by simp only[pi];omega⟩
   ·simp only
    rw[gy (by omega),g5 _ (by omega)]
   ·simp only
    rw[hset];refine z9Y g6 λy hy=>?_;obtain⟨i,h2,h3⟩:=YO.1 ((g7 y).1 hy);have hlast:uT s[k+k2 - 1] s[k+k2]<0:=by
     rcases zdV hq e2 e1 (by omega) with q|q
     ·exact q
     exact absurd q.symm he
    rcases zdV hq h3 e2 (by omega) with q|q
    ·exact u9 q hlast
    rw[q];exact hlast
   simp only
   rw[hset,ph,g7,YO,YO];constructor
   ·rintro(⟨i,h2,h3⟩|h)
    ·exact⟨i,by omega,h3⟩
    simp at h;subst h;exact⟨k+k2,by omega,e1⟩
   rintro⟨i,h2,h3⟩;rcases pE i (k+k2) with h|h
   ·exact .inl ⟨i,h,h3⟩
   have:i=k+k2:=by omega
   subst this;rw[e1]at h3;exact .inr (by simpa using h3.symm)
  have hge:s.length - k<=k2:=by rw[g4]at hc;simpa using hc
  have hkk:k+k2=s.length:=by omega
  rw[z7];refine⟨kk,rfl,by omega,g4,za5 g6 λx=>?_⟩;rw[g7,hkk,gN]
 rintro⟨S,a⟩ ⟨kk,rfl,h1,h2,h3⟩;simp only at h2 h3;show Ret (yi S (kk:Int)) _;unfold yi;have hlen:(S.take (kk:Int).toNat++List.replicate (S.length - (kk:Int).toNat) ([]:List Int)).length=S.length:=by simp[pK];omega
 rw[gdT (by omega),gdT (by omega),gdT (by rw[hlen];omega),z7];simp only[pi];rw[List.take_left' (by rw[pK];omega),h3]
theorem z9C:xD s ()=some (srt s):=by
 unfold xD;by_cases h2:s.length<2
 ·have hd:decide (((s.length:Nat):Int)<2)=true:=by simp;omega
  simp only[hd,cond_true];rw[K3];match s,h2 with
  | [],_=>exact SW.nil
  | [x],_=>simp[SW]
 have hd:decide (((s.length:Nat):Int)<2)=false:=by simp;omega
 simp only[hd,cond_false];apply Ret.eq;rw[zu];refine Ret.mono (zQ (λq:Int=>∃j:Nat,q=(j:Int)/\1<=j/\j<=s.length/\SW (s.take j)) (λq=>s.length - q.toNat) (R:=λt:Unit⊕List (List Int)=>match t with|.inl _=>srt s=s|.inr p=>p=srt s) ?_ ?_ ?_) ?_
 ·refine⟨1,rfl,pj _,by omega,?_⟩;match s,h2 with
  | [],h2=>simp at h2
  | x::l,_=>simp[SW]
 ·show s.length - _<_;omega
 ·rintro _ ⟨j,rfl,g1,g2,g3⟩;show Ret (w7 s (j:Int)) _;unfold w7;rw[zD];refine⟨λhc=>?_,λhc=>?_⟩
  ·have hj:j<s.length:=by simpa using hc
   have e1:s[j]?=some s[j]:=pg hj;have e2:s[j - 1]?=some s[j - 1]:=pg (by omega);rw[zF (x:=(j:Int) - 1) (by omega) (by omega),show(j:Int) - 1=((j - 1:Nat):Int) by omega,zp e1,zp e2];simp only[oB];rw[z8d _ _ (hw _ (pL hj))];simp only[oB];by_cases he:s[j]=s[j - 1]
   ·simp only[he,decide_true,cond_true];rw[gdT (by omega)];refine(z6T hq hl hw g1 hj (by rw[e1,e2,he]) g3).mono ?_;rintro _ rfl;rfl
   simp only[he,decide_false,cond_false];unfold w8;rw[zF (by omega) (by omega),z7];refine⟨⟨j+1,rfl,by omega,hj,?_⟩,by simp only[pi];omega⟩;have:s.take (j+1)=s.take j++[s[j]]:=by rw[hU,e1];rfl
   rw[this];refine z9Y g3 λy hy=>?_;obtain⟨i,h3,h4⟩:=YO.1 hy;have hlast:uT s[j - 1] s[j]<0:=by
    rcases zdV hq e2 e1 (by omega) with q|q
    ·exact q
    exact absurd q.symm he
   rcases zdV hq h4 e2 (by omega) with q|q
   ·exact u9 q hlast
   rw[q];exact hlast
  have hj:j=s.length:=by
   have:¬j<s.length:=by simpa using hc
   omega
  rw[z7];show srt s=s;rw[hj,gN]at g3;exact K3 g3
 rintro(u|p) h
 ·show Ret (some s) _;rw[z7];exact h.symm
 show Ret (some p) _;rw[z7];exact h
end
def z5S (l:List (List Int)):SOk uT l :=
 ⟨λx _=>QI x,λx _ y _ z _ h1 h2=>u9 h1 h2,λx _ y _ h1 h2=>by
  rcases z5f.1 h1 with q|q
  ·exact absurd q h2
  exact q⟩
def zdu {l m:List (List Int)}(h:l.Perm m):srt l=srt m:=K4 λx=>h.mem_iff
def z2d {c d:List Int->List Int->Int}:∀{l:List (List Int)},(∀x∈l,∀y∈l,c x y=d x y)->JH c l=JH d l
 | [],_=>rfl
 | x::l,h=>by
  have ih:=z2d (c:=c) (d:=d) (l:=l) λa ha b hb=>h a (by simp[ha]) b (by simp[hb]);show z9L c x (JH c l)=z9L d x (JH d l);rw[ih];have gen:∀m:List (List Int),(∀y∈m,y∈l)->z9L c x m=z9L d x m:=by
   intro m;induction m with
   | nil=>intro _;rfl
   | cons y m ih2=>intro hm;simp only[z9L];rw[h y (by simp[hm y (by simp)]) x (by simp),ih2 λz hz=>hm z (by simp[hz])]
  exact gen _ λy hy=>(ZM d l).mem_iff.1 hy
def soR (l:List (List Int)):List (List Int)×Int:=if 4096<(srt l).length\/65536<j5 (srt l) then([],3) else(srt l,0)
def K7 (hl:l.length<=100000)(hw:∀w∈l,w.length<=4294967296):xJ l=some (soR l):=by
 unfold xJ w9;rw[gdT (by simp;omega)];simp only[oB];have hc:∀x∈l,∀y,yI x y=some (uT x y):=λx hx y=>Vb x y (by have:=hw x hx;omega);have hso:za9 (λx y=>yI x y) l=some (JH uT l):=by
  unfold za9;rw[gdT ⟨by omega,λx hx y hy=>by simp only[hc x hx y];rfl⟩];have hcc:∀x∈l,∀y∈l,(yI x y).getD 0=uT x y:=λx hx y _=>by rw[hc x hx y];rfl
  rw[gdT,z2d (c:=λx y=>(yI x y).getD 0) (d:=uT) hcc];have q:=z5S l;refine⟨λx hx=>by show ¬(yI x x).getD 0<0;rw[hcc x hx x hx];exact q.1 x hx,λx hx y hy z hz h1 h2=>?_,λx hx y hy h1 h2=>?_⟩
  ·simp only[hcc x hx y hy,hcc y hy z hz,hcc x hx z hz]at h1 h2 ⊢;exact q.2.1 x hx y hy z hz h1 h2
  simp only[hcc x hx y hy,hcc y hy x hx]at h1 h2;exact q.2.2 x hx y hy h1 h2
 rw[hso];simp only[oB];have hp:=ZM uT l;have hq:QW (JH uT l):=Qd (z5S l) (λy hy=>hy);rw[z9C hq (by rw[hp.length_eq];omega) (λw h=>by have:=hw w (hp.mem_iff.1 h);omega)];simp only[oB];unfold wy;simp only[oB];rw[zdu hp];have hlen:(srt l).length<=100000:=pm (Wk l) hl;have hws:∀w∈srt l,w.length<=4294967296:=λw h=>hw w (y4.1 h);unfold soR;generalize srt l=r at hlen hws;have hsy:j5 r<=100000*4294967296:=pm (z4x hws) (hZ _ hlen);by_cases h1:4096<r.length
 ·have:(4096:Int)<(r.length:Int):=by omega
  simp[h1,this]
 have d1:decide (((r.length:Nat):Int) > 4096)=false:=by simp;omega
 simp only[d1,cond_false];rw[z84 r (by omega),za3 (by omega)];simp only[oB];by_cases h2:65536<j5 r
 ·have:(65536:Int)<(j5 r:Int):=by omega
  simp[h2,this]
 have d2:decide (((j5 r:Nat):Int) > 65536)=false:=by simp;omega
 simp only[d2,cond_false];rw[if_neg (by omega)];have hloop:=xu (step:=λs=>wO r s.1 s.2) (λi=>((r.take i).map (λq=>(q,true))++(r.drop i).map (λq=>(q,false)),(i:Int))) r.length (t:=r.map λq=>(q,true)) (by omega) (by
  intro i hi;have hA:((r.take i).map (λq=>(q,true))).length=i:=by rw[pT,pK];omega
  have hd:r.drop i=r[i]::r.drop (i+1):=mA hi;have hx:((r.take i).map (λq=>(q,true))++(r.drop i).map (λq=>(q,false)))[i]?=some (r[i],false):=by rw[px (by omega),hA,hd];simp
  show wO r _ (i:Int)=_;unfold wO;have hq:decide ((i:Int)<((r.length - (0:Int).toNat:Nat):Int))=true:=by simpa using hi
  simp only[hq,cond_true];rw[gdT (by omega),Int.zero_add,zp hx];simp only[oB];rw[z90 _ (hws _ (pL hi))];simp only[oB,z0b,pi];rw[zF (by omega) (by omega)];congr 3;rw[r7 _ _ (by omega),hA,hd,hU,pg hi];simp only[mX,gt,mU,gQ,Option.toList_some,mR,pF,gD,pJ]) (by
  show wO r _ (r.length:Int)=_;unfold wO;simp)
 have h0:((r.take 0).map (λq=>(q,true))++(r.drop 0).map (λq=>(q,false)),((0:Nat):Int))=(r.map (λq=>(q,false)),(0:Int)):=by simp
 rw[h0]at hloop;rw[hloop];simp only[oB];unfold X8;rw[gdT (by intro q hq;obtain⟨_,_,rfl⟩:=pM.1 hq;rfl)];simp[gE,Function.comp_def]
def Ku (a:Nat)(w:List Int):List (List Int):=(List.range a).map λs:Nat=>w++[(s:Int)]
def exW (a:Nat):Nat->List (List Int)
 | 0=>[[]]
 | k+1=>(exW a k).flatMap (Ku a)
def zeB (a:Nat)(w:List Int):(Ku a w).length=a:=by simp[Ku]
def z59 (a:Nat)(l:List (List Int)):(l.flatMap (Ku a)).length=l.length*a:=by
 induction l with
 | nil=>simp
 | cons w l ih=>rw[n7,pC,ih,zeB,pX,nz];omega
def XG (a:Nat):∀k,(exW a k).length=a ^ k
 | 0=>rfl
 | k+1=>by rw[exW,z59,XG,rC]
def jP (a:Nat):∀k,∀w∈exW a k,w.length=k
 | 0,w,h=>by simp[exW]at h;subst h;rfl
 | k+1,w,h=>by rw[exW,gI]at h;obtain⟨v,h1,h2⟩:=h;simp only[Ku,pM]at h2;obtain⟨s,_,rfl⟩:=h2;simp[jP a k v h1]
def zky {a:Nat}(ha:a<=16){w:List Int}(hw:w.length<=1000){nx:List (List Int)}(hn:nx.length<=10000000) :
  loop (λs=>uY (a:Int) w s.1 s.2) (nx,0)=some (nx++Ku a w):=by
 have h:=xu (step:=λs=>uY (a:Int) w s.1 s.2) (λi=>(nx++(List.range i).map (λs:Nat=>w++[(s:Int)]),(i:Int))) a (t:=nx++Ku a w) (by omega) (by
  intro i hi;show uY (a:Int) w _ (i:Int)=_;unfold uY;have hq:decide ((i:Int)<(a:Int))=true:=by simpa using hi
  simp only[hq,cond_true,z0b,oB];rw[gdT (by simp;omega),gdT (by simp;omega),zF (by omega) (by omega),nD,gQ,pF];rfl) (by
  show uY (a:Int) w _ (a:Int)=_;unfold uY;simp[Ku])
 have h0:((nx++(List.range 0).map (λs:Nat=>w++[(s:Int)])),((0:Nat):Int))=(nx,(0:Int)):=by simp
 rw[h0]at h;exact h
def zk5 {a:Nat}(ha:a<=16)  (hw:∀w∈l,w.length<=1000)(hl:l.length<=100000) :
  loop (λs=>uZ (a:Int) l s.1 s.2) (([]:List (List Int)),0)=some (l.flatMap (Ku a)):=by
 have h:=xu (step:=λs=>uZ (a:Int) l s.1 s.2) (λi=>((l.take i).flatMap (Ku a),(i:Int))) l.length (t:=l.flatMap (Ku a)) (by omega) (by
  intro i hi;show uZ (a:Int) l _ (i:Int)=_;unfold uZ;have hq:decide ((i:Int)<(l.length:Int))=true:=by simpa using hi
  have hx:l[i]?=some l[i]:=pg hi;have hlen:((l.take i).flatMap (Ku a)).length<=10000000:=by rw[z59,pK];have:min i l.length*a<=100000*16:=mC (by omega) ha;omega
  simp only[hq,cond_true,zp hx,oB];rw[bdT (zky ha (hw _ (pL hi)) hlen)];unfold UL;rw[zF (by omega) (by omega),hU,hx,List.flatMap_append];simp) (by
  show uZ (a:Int) l _ (l.length:Int)=_;unfold uZ;simp)
 simpa using h
def wJ (a f:Nat):Nat->List (List Int)
 | 0=>[]
 | k+1=>if f<=k then wJ a f k++exW a k else wJ a f k
def syW (a f:Nat):Nat->Nat
 | 0=>0
 | k+1=>if f<=k then syW a f k+k*a ^ k else syW a f k
def XQ (a f t k:Nat):Prop:=4096<(wJ a f (k+1)).length\/65536<syW a f (k+1)\/k<t/\4096<a ^ k*a
instance (a f t k:Nat):Decidable (XQ a f t k):=by unfold XQ;infer_instance
def zce {a f t k:Nat}(ha:1<=a/\a<=16)(hf:f<=256)(ht:t<=256)(hk:k<=t)(ho:(wJ a f k).length<=4096)(hs:syW a f k<=65536)(hl:a ^ k<=4096) :
  jW (a:Int) (f:Int) (t:Int) (wJ a f k) (exW a k) (syW a f k:Int) (k:Int)=if XQ a f t k then some (.done ([],3)) else if k=t then Option.bind (xJ (wJ a f (k+1))) (λr=>some (.done (r.1,r.2))) else some (.next (wJ a f (k+1),exW a (k+1),(syW a f (k+1):Int),((k+1:Nat):Int))):=by
 have hmul:k*a ^ k<=256*4096:=mC (by omega) hl;have hma:a ^ k*a<=4096*16:=mC hl ha.2;have e:jW (a:Int) (f:Int) (t:Int) (wJ a f k) (exW a k) (syW a f k:Int) (k:Int)=Yc (a:Int) (t:Int) (exW a k) (k:Int) (wJ a f (k+1)) (syW a f (k+1):Int):=by
  unfold jW;by_cases h:f<=k
  ·have hd:decide ((k:Int)>=(f:Int))=true:=by simpa using h
   simp only[hd,cond_true];have hm:w64 ((k:Int)*((exW a k).length:Int))=((k*a ^ k:Nat):Int):=by rw[XG,<-Int.natCast_mul,zF (by omega) (by omega)]
   rw[gdT (by rw[XG];omega),hm,zF (by omega) (by omega)];simp only[wJ,syW,if_pos h];congr 1
  have hd:decide ((k:Int)>=(f:Int))=false:=by simp;omega
  simp only[hd,cond_false,wJ,syW,if_neg h]
 rw[e];unfold Yc;by_cases h1:4096<(wJ a f (k+1)).length
 ·have:decide (((wJ a f (k+1)).length:Int) > 4096)=true:=by simp only[decide_eq_true_eq];omega
  simp only[this,cond_true];rw[if_pos (show XQ a f t k from .inl h1)]
 have d1:decide (((wJ a f (k+1)).length:Int) > 4096)=false:=by simp;omega
 simp only[d1,cond_false];by_cases h2:65536<syW a f (k+1)
 ·have:decide ((syW a f (k+1):Int) > 65536)=true:=by simp only[decide_eq_true_eq];omega
  simp only[this,cond_true];rw[if_pos (show XQ a f t k from .inr (.inl h2))]
 have d2:decide ((syW a f (k+1):Int) > 65536)=false:=by simp;omega
 simp only[d2,cond_false];have hm:w64 (((exW a k).length:Int)*(a:Int))=((a ^ k*a:Nat):Int):=by rw[XG,<-Int.natCast_mul,zF (by omega) (by omega)]
 rw[hm];have J4:∀(hns:¬(k<t/\4096<a ^ k*a)) (b:Bool),Yb (a:Int) (t:Int) (exW a k) (k:Int) (wJ a f (k+1)) (syW a f (k+1):Int) b=if k=t then Option.bind (xJ (wJ a f (k+1))) (λr=>some (.done (r.1,r.2))) else some (.next (wJ a f (k+1),exW a (k+1),(syW a f (k+1):Int),((k+1:Nat):Int))):=by
  intro hns b;unfold Yb;by_cases hkt:k=t
  ·subst hkt;simp
  have hd:((k:Int)==(t:Int))=false:=by simp;omega
  simp only[hd,cond_false,if_neg hkt];rw[bdT (zk5 ha.2 (λw hw=>by rw[jP a k w hw];omega) (by rw[XG];omega))];unfold UM UN;rw[zF (by omega) (by omega)];rfl
 by_cases hkt:k<t
 ·have hd:decide ((k:Int)<(t:Int))=true:=by simpa using hkt
  simp only[hd,cond_true];by_cases h3:4096<a ^ k*a
  ·have:decide (((a ^ k*a:Nat):Int) > 4096)=true:=by simp only[decide_eq_true_eq];omega
   simp only[this,cond_true];rw[if_pos (show XQ a f t k from .inr (.inr ⟨hkt,h3⟩))]
  have:decide (((a ^ k*a:Nat):Int) > 4096)=false:=by simp only[decide_eq_false_iff_not];omega
  simp only[this,cond_false];rw[J4 (by omega),if_neg (show ¬XQ a f t k by unfold XQ;omega)]
 have hd:decide ((k:Int)<(t:Int))=false:=by simp;omega
 simp only[hd,cond_false];rw[J4 (by omega),if_neg (show ¬XQ a f t k by unfold XQ;omega)]
def z4X {a f t k:Nat}(ha:1<=a)(hs:¬XQ a f t k)(hk:k<t):(wJ a f (k+1)).length<=4096/\syW a f (k+1)<=65536/\a ^ (k+1)<=4096:=by unfold XQ at hs;rw[rC];omega
variable {r:Option (List (List Int)×Int)}
def zcg {a f t:Nat}(ha:1<=a/\a<=16)(hf:f<=256)(ht:t<=256){r:Option (List (List Int)×Int)}
  (hr:(∃j,j<=t/\XQ a f t j)->r=some ([],3)) (hr2:(∀j,j<=t->¬XQ a f t j)->r=Option.bind (xJ (wJ a f (t+1))) λr=>some (r.1,r.2)) :
  ∀(m k:Nat),k<=t->t - k<m->(∀j,j<k->¬XQ a f t j)->(wJ a f k).length<=4096->syW a f k<=65536->a ^ k<=4096->Ko (λs=>jW (a:Int) (f:Int) (t:Int) s.1 s.2.1 s.2.2.1 s.2.2.2) m (wJ a f k,exW a k,(syW a f k:Int),(k:Int))=r
 | 0,k,_,h,_,_,_,_=>by omega
 | m+1,k,hk,hm,hns,h1,h2,h3=>by
  rw[X1];dsimp only
  rw[zce ha hf ht hk h1 h2 h3];by_cases hst:XQ a f t k
  ·rw[if_pos hst,hr ⟨k,hk,hst⟩]
  rw[if_neg hst];by_cases hkt:k=t
  ·subst hkt;rw[if_pos rfl,hr2 λj hj=>by
    rcases pE j k with q|q
    ·exact hns j q
    rw[show j=k by omega];exact hst]
   cases xJ (wJ a f (k+1)) <;> rfl
  rw[if_neg hkt];obtain⟨q1,q2,q3⟩:=z4X ha.1 hst (by omega);exact zcg ha hf ht hr hr2 m (k+1) (by omega) (by omega) (λj hj=>by
   rcases pE j k with q|q
   ·exact hns j q
   rw[show j=k by omega];exact hst) q1 q2 q3
def zkO {a f t:Nat}(ha:1<=a/\a<=16)(hf:f<=256)(ht:t<=256){r:Option (List (List Int)×Int)}
  (hr:(∃j,j<=t/\XQ a f t j)->r=some ([],3)) (hr2:(∀j,j<=t->¬XQ a f t j)->r=Option.bind (xJ (wJ a f (t+1))) λr=>some (r.1,r.2)) :
  WK (a:Int) (f:Int) (t:Int)=r:=by
 unfold WK;have d1:decide ((a:Int) > 16)=false:=by simp;omega
 have d2:decide ((a:Int)<1)=false:=by simp;omega
 have d3:decide ((t:Int)<0)=false:=by simp
 have d4:decide ((t:Int) > 256)=false:=by simp;omega
 simp only[d1,d2,d3,d4,cond_false];have h:=zcg ha hf ht hr hr2 V4 0 (pQ _) (by show t - 0<18446744073709551616;omega) (λj hj=>by omega) (by simp[wJ]) (by simp[syW]) (by simp);have h':loop (λs=>jW (a:Int) (f:Int) (t:Int) s.1 s.2.1 s.2.2.1 s.2.2.2) (([]:List (List Int)),([[]]:List (List Int)),0,0)=r:=h;rw[h'];cases r <;> rfl
def zfR (w:List Int):∀(l:List (List Int)) (k:Nat),zM (λ_ x=>if x=w then some true else none) l k=if w∈l then some true else none
 | [],_=>rfl
 | x::l,k=>by
  by_cases h:x=w
  ·simp[zM,h]
  simp only[zM,if_neg h,zfR w l (k+1),pl];by_cases h2:w∈l
  ·simp[h2]
  have:¬w=x:=λe=>h e.symm;simp[h2,this]
def zhe (l:List (List Int))(w:List Int)(hl:l.length<4611686018427387904)(hw:w.length<4611686018427387904):z1M l w=some (decide (w∈l)):=by
 unfold z1M;rw[bdT (ya l hl (step:=λs=>W3 l w s) (λ_ x=>if x=w then some true else none) ?_ ?_),zfR]
 ·by_cases h:w∈l
  ·simp[h,oS]
  simp[h,oS,z0m]
 ·intro i x hx;have hi:i<l.length:=(pf.1 hx).1;have hq:decide ((i:Int)<(l.length:Int))=true:=by simpa using hi
  unfold W3;simp only[hq,cond_true,zp hx,oB,V7 x w (λe=>by omega)];by_cases h:x=w
  ·subst h;simp[Yo,nS]
  have:(uT x w==0)=false:=by simp;exact λq=>h (Qj q)
  simp[this,h,nS]
 unfold W3;simp
def zit {x:Int}(h1:0<=x)(h2:x<=9223372036854775807):IntKind.u64.wrap x=x:=by simp only[IntKind.wrap,IntKind.bits,IntKind.signed];simp;omega
def zp3 (hs:SW l)(hl:l.length<=1000000)(hw:∀x∈l,x.length<4611686018427387904)(w:List Int):z0V l w=some (decide (w∈l)):=by
 unfold z0V yT;apply Ret.eq;rw[zu,zu];refine Ret.mono (zQ (λq:Int×Int=>∃i j:Nat,q=((i:Int),(j:Int))/\i<=j/\j<=l.length/\(∀m x,m<i->l[m]?=some x->uT x w<0)/\∀m x,j<=m->l[m]?=some x->¬uT x w<0) (λq=>(q.2 - q.1).toNat) (R:=λt=>∃i:Nat,t=(i:Int)/\i<=l.length/\(∀m x,m<i->l[m]?=some x->uT x w<0)/\∀m x,i<=m->l[m]?=some x->¬uT x w<0) ?_ ?_ ?_) ?_
 ·exact⟨0,l.length,rfl,pQ _,pj _,λm x h=>by omega,λm x h hx=>by have:=(pf.1 hx).1;omega⟩
 ·simp only;omega
 ·rintro _ ⟨i,j,rfl,g1,g2,g3,g4⟩;show Ret (yw l w (i:Int) (j:Int)) _;unfold yw;rw[zD];refine⟨λhc=>?_,λhc=>?_⟩
  ·have hij:i<j:=by simpa using hc
   have hh:w64 (Int.fdiv (IntKind.u64.wrap (w64 ((i:Int)+(j:Int)))) (2 ^ 1))=(((i+j) / 2:Nat):Int):=by
    rw[zF (x:=(i:Int)+(j:Int)) (by omega) (by omega),zit (by omega) (by omega)];have:Int.fdiv ((i:Int)+(j:Int)) (2 ^ 1)=(((i+j) / 2:Nat):Int):=by rw[show((i:Int)+(j:Int))=((i+j:Nat):Int) by omega,show((2:Int) ^ 1)=((2:Nat):Int) by rfl];rw[Int.fdiv_eq_ediv_of_nonneg _ (by omega)];rfl
    rw[this,zF (by omega) (by omega)]
   rw[hh];have hm:(i+j) / 2<l.length:=by omega
   have hx:l[(i+j) / 2]?=some l[(i+j) / 2]:=pg hm;rw[zp hx];simp only[oB];rw[Vb _ _ (hw _ (pL hm))];simp only[oB];by_cases hc2:uT l[(i+j) / 2] w<0
   ·simp only[hc2,decide_true,cond_true];rw[zF (by omega) (by omega),z7];refine⟨⟨(i+j) / 2+1,j,by simp,by omega,g2,λm x h hmx=>?_,g4⟩,by simp only;omega⟩;rcases pE m ((i+j) / 2) with q|q
    ·have h1:=(mw.1 hs) m ((i+j) / 2) (pf.1 hmx).1 hm q;rw[(pf.1 hmx).2]at h1;exact u9 h1 hc2
    rw[show m=(i+j) / 2 by omega,hx]at hmx;cases hmx;exact hc2
   simp only[hc2,decide_false,cond_false];rw[z7];refine⟨⟨i,(i+j) / 2,rfl,by omega,by omega,g3,λm x h hmx hlt=>?_⟩,by simp only;omega⟩;rcases pE ((i+j) / 2) m with q|q
   ·have h1:=(mw.1 hs) ((i+j) / 2) m hm (pf.1 hmx).1 q;rw[(pf.1 hmx).2]at h1;exact hc2 (u9 h1 hlt)
   rw[show m=(i+j) / 2 by omega,hx]at hmx;cases hmx;exact hc2 hlt
  have hij:i=j:=by
   have:¬i<j:=by simpa using hc
   omega
  subst hij;rw[z7];exact⟨i,rfl,g2,g3,g4⟩
 rintro _ ⟨i,rfl,h1,h2,h3⟩;unfold yx;rw[zD];refine⟨λhc=>?_,λhc=>?_⟩
 ·have hi:i<l.length:=by simpa using hc
  have hx:l[i]?=some l[i]:=pg hi;rw[zp hx];simp only[oB];rw[Vb _ _ (hw _ (pL hi))];simp only[oB,z7];by_cases he:l[i]=w
  ·rw[he,Yo];have:w∈l:=he ▸ pL hi;simp[this]
  have hne:(uT l[i] w==0)=false:=by simp;exact λq=>he (Qj q)
  rw[hne];have:w∉l:=by
   intro hm;obtain⟨m,hm⟩:=gM.1 hm;rcases pE m i with q|q
   ·exact QI _ (h2 m w q hm)
   rcases pE i m with q2|q2
   ·have h4:=(mw.1 hs) i m hi (pf.1 hm).1 q2;rw[(pf.1 hm).2]at h4;exact h3 i _ (pj _) hx h4
   rw[show m=i by omega,hx]at hm;cases hm;exact he rfl
  simp[this]
 have hi:i=l.length:=by
  have:¬i<l.length:=by simpa using hc
  omega
 rw[z7,z7];have:w∉l:=by intro hm;obtain⟨m,hm⟩:=gM.1 hm;exact QI _ (h2 m w (by rw[hi];exact(pf.1 hm).1) hm)
 simp[this]
end Go.Own
end
