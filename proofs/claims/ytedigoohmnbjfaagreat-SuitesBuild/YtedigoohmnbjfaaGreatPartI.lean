/- Walks, further. -/
import Derived.Test.YtedigoohmnbjfaaGreatPartH
import Derived.Test.YtedigoohmnbjfaaGreatPartC
import Derived.Test.YtedigoohmnbjfaaGreatPartF
noncomputable section
set_option linter.unusedVariables false
set_option linter.unusedSimpArgs false
namespace Go.Own
open Go.Proofs.Tryz
theorem oB {α:Type _}{β:Type _}(a:α)(f:α->Option β):Option.bind (some a) f=f a:=rfl
open Go.Proofs
set_option maxRecDepth 100000
set_option maxHeartbeats 8000000
def jY:Code:=(f42.body).getD .skip
def Y6:zN:=spF (α:=List (List Int)) (ρ:=List (List Int)) 42 (λx=>[xh x]) (λr=>z4S r) (λx=>kC x) [] (Q7)
abbrev z5W (out:List (List Int)):List (Nat×T):=[(3,.own (eOs 1 false F7_ out))]
abbrev z5V (l_:List (List Int))(i_:Int)(ap:List (List Int)):List (Nat×T):=[(0,.d (eSl 1 false F7_ l_)),(3,.own (eOs 1 false F7_ ap)),(4,.d (I i_))]
abbrev z5U (l_:List (List Int))(ai:List (List Int))(i_:Int)(mp:Bool):List (Nat×T):=[(0,.d (eSl 1 false F7_ l_)),(3,.own (eOs 1 false F7_ ai)),(4,.d (I i_)),(5,.d (B mp))]
abbrev z5S (l_:List (List Int))(ai:List (List Int))(i_:Int)(j8:Bool)(k_:Int):List (Nat×T):=[(0,.d (eSl 1 false F7_ l_)),(3,.own (eOs 1 false F7_ ai)),(4,.d (I i_)),(5,.d (B j8)),(6,.d (I k_))]
abbrev z5T (l_:List (List Int))(ai:List (List Int))(i_:Int):List (Nat×T):=[(0,.d (eSl 1 false F7_ l_)),(3,.own (eOs 1 false F7_ ai)),(4,.d (I i_))]
variable {ctr:Ctr}
theorem zb9 (hC:zF prog ctr)(h2e:ctr.Has QX):Y6.Ok prog:=by
 refine zC ?_;rintro l_ r0 aa;try unfold kC at aa;refine yO true [(2,none)] jY 41 func42 λE hE=>?_;refine yJ X0 hC jY [1,1] [] [3] (λz:List (List Int)=>Jg z=some r0) (λz=>z5W z) [(0,.d (eSl 1 false F7_ l_)),(3,.own (eOs 1 true F7_ []))] [Hh (.cut 2)] ?_ λJ1 aw=>?_
 ·rintro out aa;unfold Jg at aa;obtain rfl:=za aa;exact yE X0 hC hE []
 ·obtain⟨t2,ht2,aa⟩:=zc aa;refine yLx X0 hC jY [1,1,2,1,0] [J1] (λs=>vA l_ s.1 s.2) (λx=>z5T l_ x.1 x.2) (([]:List (List Int)),0) ht2 [(0,.d (eSl 1 false F7_ l_)),(3,.own (eOs 1 true F7_ [])),(4,.d (I 0))] inferInstance [] ?_;rintro⟨ai,i_⟩ m2 az ae hl1 J2 a6;try unfold vA at ae
  let Z0:List HO:=[Ha (lnM F7_ l_)];rcases zI ae with⟨c0,ae⟩|⟨c0,ae⟩
  ·refine yJ X0 hC jY [1,1,2,1,0,0,1] [J1,J2] [0,3,4] (λz:List (List Int)=>Yh i_ z=some az) (λz=>z5V l_ i_ z) [(0,.d (eSl 1 false F7_ l_)),(3,.own (eOs 1 false F7_ ai)),(4,.d (I i_))] (Z0++[Hq c0,Hh (.cut 0)]) ?_ λJ3 bk=>?_
   ·rintro ap ae;unfold Yh at ae;obtain rfl:=za ae;exact yB X0 hC a6 (ap,w64 (i_+1)) hl1 []
   ·refine yJ X0 hC jY [1,1,2,1,0,0,1,2,0,1] [J1,J2,J3] [0,3,4,5] (λz:Bool=>Wo l_ ai i_ z=some az) (λz=>z5U l_ ai i_ z) [(0,.d (eSl 1 false F7_ l_)),(3,.own (eOs 1 false F7_ ai)),(4,.d (I i_)),(5,.d (B false))] [Hh (.cut 1)] ?_ λJ4 d0=>?_
    ·rintro mp ae;unfold Wo at ae;rcases zI ae with⟨c1,ae⟩|⟨c1,ae⟩
     ·obtain⟨cd,h0,ae⟩:=zc ae;obtain⟨g0,ae⟩:=gdE ae;exact yB X0 hC bk (ai++([cd]:List (List Int))) ae [Hq c1,Hi F7_ h0,Hq (dM F7_ ([cd]:List (List Int))),Hn (dM F7_ ([cd]:List (List Int))),Hn (aL F7_ F7_ g0),Hl (aM F7_ ai ([cd]:List (List Int)))]
     ·exact yB X0 hC bk ai ae [Hq c1]
    ·obtain⟨t5,ht5,ae⟩:=zc ae;refine yL X0 hC jY [1,1,2,1,0,0,1,2,0,1,2,1,0] [J1,J2,J3,J4] (λs=>vz l_ i_ s.1 s.2) (λx=>z5S l_ ai i_ x.1 x.2) (false,0) ht5  [] ?_;rintro⟨j8,k_⟩ m5 dl ah hl2 J5 dn;try unfold vz at ah
     let Z1:List HO:=[Ha (lnM F7_ l_)];rcases zI ah with⟨c2,ah⟩|⟨c2,ah⟩
     ·rcases zI ah with⟨c3,ah⟩|⟨c3,ah⟩
      ·obtain rfl:=za ah;exact yB X0 hC dn (true,w64 (k_+1)) hl2 (Z1++(Hq c2::(rpN 10 (Hq c3) [])))
      ·obtain⟨gi,h1,ah⟩:=zc ah;obtain⟨l6,h2,ah⟩:=zc ah;obtain⟨r_,h3,ah⟩:=zc ah;obtain rfl:=za ah;exact yB X0 hC dn (r_,w64 (k_+1)) hl2 (Z1++(Hq c2::Hq c3::Hq c3::Hq c3::Hi F7_ h1::(rpN 4 (Hq c3) [Hi F7_ h2,Hq c3,Hq c3,Hc h2e (x:=(gi,l6)) h3 (loC F7_ gi <| loC F7_ l6 <| loN),Hq c3])))
     ·obtain rfl:=za ah;obtain rfl:=hl2;exact yB X0 hC d0 j8 ae (Z1++[Hq c2])
  ·obtain rfl:=za ae;obtain rfl:=hl1;exact yB X0 hC aw ai aa (Z0++[Hq c0])
def zj0:Code:=(Tryz.f15.body).getD .skip
def z6A:zN:=spF (α:=z6×Int) (ρ:=List (List Int)) 15 (λx=>[zO x.1,s8 x.2]) (λr=>z4S r) (λx=>z9C x.1 x.2) [] (W2)
theorem zjj (hC:zF prog ctr)(h0b:ctr.Has YE)(h0o:ctr.Has vZ)(h02:ctr.Has uF)(h0S:ctr.Has Kj)(h08:ctr.Has Wc)(h09:ctr.Has Y6):z6A.Ok prog:=by refine zC ?_;rintro⟨m_,bound⟩ r0 aa;try unfold z9C at aa;refine yO true [(4,none)] zj0 25 func15 λE hE=>?_;obtain⟨r_,h0,aa⟩:=zc aa;obtain⟨aj,h1,aa⟩:=zc aa;obtain⟨ak,h2,aa⟩:=zc aa;obtain⟨au,h3,aa⟩:=zc aa;obtain⟨ca,h4,aa⟩:=zc aa;obtain⟨dj,h5,aa⟩:=zc aa;obtain⟨gq,h6,aa⟩:=zc aa;obtain rfl:=za aa;exact yE X0 hC hE [Ha (lnM yN m_.Rows),Hc h0b (x:=(m_.Inputs,w64 (bound - ((m_.Rows.length:Nat):Int)))) h0 (loC s8 m_.Inputs <| loC s8 (w64 (bound - ((m_.Rows.length:Nat):Int))) <| loN),Hc h0o (x:=m_) h1 (loC zO m_ <| loN),Hg (JO h02),Hm (shM F7_ F7_ aj),Hm (shM F7_ F7_ r_),Hs (JP h02 (x:=(aj,r_)) h2 (loC xh aj <| loC xh r_ <| loN)),Hm (shM F7_ F7_ aj),Hm (shM F7_ F7_ r_),Hc h0S (x:=m_) h3 (loC zO m_ <| loN),Hg (JO h08),Hm (shM F7_ F7_ au),Hs (JP h08 (x:=au) h4 (loC xh au <| loN)),Hm (shM F7_ F7_ au),Hg (JO h02),Hm (shM F7_ F7_ ak),Hs (JP h02 (x:=(ak,ca)) h5 (loC xh ak <| loC xh ca <| loN)),Hm (shM F7_ F7_ ak),Hg (JO h09),Hm (shM F7_ F7_ dj),Hs (JP h09 (x:=dj) h6 (loC xh dj <| loN)),Hm (shM F7_ F7_ dj)]
def z1t:Code:=(f38.body).getD .skip
def z0P:zN:=spF (α:=List (List Int)×List (List Int)) (ρ:=Bool) 38 (λx=>[xh x.1,xh x.2]) (λr=>eB r) (λx=>z0h x.1 x.2) [] (W2)
abbrev z8u:List (Nat×T):=[]
abbrev z8t (a_:List (List Int))(b_:List (List Int))(i_:Int):List (Nat×T):=[(0,.d (eSl 1 false F7_ a_)),(1,.d (eSl 1 false F7_ b_)),(5,.d (I i_))]
theorem zdS (hC:zF prog ctr)(h07:ctr.Has qg):z0P.Ok prog:=by
 refine zC ?_;rintro⟨a_,b_⟩ r0 aa;try unfold z0h at aa;refine yO true [(4,none)] z1t 27 func38 λE hE=>?_
 let Z0:List HO:=[Ha (lnM F7_ a_),Ha (lnM F7_ b_)];rcases zI aa with⟨c0,aa⟩|⟨c0,aa⟩
 ·obtain rfl:=za aa;exact yE X0 hC hE (Z0++[Hq c0])
 ·refine yJ X0 hC z1t [1,1] [] [] (λz:Unit=>Qj=some r0) (λz=>z8u) [(0,.d (eSl 1 false F7_ a_)),(1,.d (eSl 1 false F7_ b_))] (Z0++[Hq c0,Hh (.cut 0)]) ?_ λJ1 aw=>?_
  ·rintro⟨⟩ aa;unfold Qj at aa;obtain rfl:=za aa;exact yE X0 hC hE []
  ·obtain⟨t2,ht2,aa⟩:=zc aa;refine yL X0 hC z1t [1,1,2,1,0] [J1] (λs=>YH a_ b_ s) (λx=>z8t a_ b_ x) 0 ht2  [] ?_;rintro i_ m2 az ae hl1 J2 a6;try unfold YH at ae
   let Z1:List HO:=[Ha (lnM F7_ a_)];rcases zI ae with⟨c1,ae⟩|⟨c1,ae⟩
   ·obtain⟨cq,h0,ae⟩:=zc ae;obtain⟨ct,h1,ae⟩:=zc ae;obtain⟨r_,h2,ae⟩:=zc ae;let Z2:List HO:=(Z1++[Hq c1,Hi F7_ h0,Hi F7_ h1,Hc h07 (x:=(cq,ct)) h2 (loC F7_ cq <| loC F7_ ct <| loN)]);rcases zI ae with⟨c2,ae⟩|⟨c2,ae⟩
    ·obtain rfl:=za ae;obtain rfl:=hl1;obtain rfl:=za aa;exact yE X0 hC hE (Z2++[Hq c2])
    ·obtain rfl:=za ae;exact yB X0 hC a6 (w64 (i_+1)) hl1 (Z2++[Hq c2])
   ·obtain rfl:=za ae;obtain rfl:=hl1;exact yB X0 hC aw () aa (Z1++[Hq c1])
def zdx:Code:=(Tryz.f14.body).getD .skip
def Qi:zN:=spF (α:=List (List Int)×List (List Int)) (ρ:=Bool) 14 (λx=>[Us x.1,xh x.2]) (λr=>eB r) (λx=>Zw x.1 x.2) [] (W2)
theorem zdY (hC:zF prog ctr)(h2f:ctr.Has z0P):Qi.Ok prog:=by
 refine zC ?_;rintro⟨a_,b_⟩ r0 aa;try unfold Zw at aa;refine yO true [(4,none)] zdx 15 func14 λE hE=>?_;obtain⟨r_,h0,aa⟩:=zc aa
 let Z0:List HO:=[Hc h2f (x:=(a_,b_)) h0 (loC Us a_ <| loC xh b_ <| loN)];rcases zI aa with⟨c0,aa⟩|⟨c0,aa⟩
 ·obtain rfl:=za aa;exact yE X0 hC hE (Z0++[Hq c0,Hq c0,Ha (lnM F3_ a_),Hq c0,Hq c0,Ha (lnM F3_ a_),Hq c0,Hq c0])
 ·obtain rfl:=za aa;exact yE X0 hC hE (Z0++(rpN 6 (Hq c0) []))
def z2R:Code:=(f82.body).getD .skip
def z2o:zN:=spF (α:=List (List Int)×List Int) (ρ:=Bool) 82 (λx=>[xh x.1,F7_ x.2]) (λr=>eB r) (λx=>z2z x.1 x.2) [] (W2)
abbrev zaL:List (Nat×T):=[]
abbrev zaK (l_:List (List Int))(w_:List Int)(i_:Int):List (Nat×T):=[(0,.d (eSl 1 false F7_ l_)),(1,.d (eSl 1 false s8 w_)),(5,.d (I i_))]
theorem zfK (hC:zF prog ctr)(h07:ctr.Has qg):z2o.Ok prog:=by
 refine zC ?_;rintro⟨l_,w_⟩ r0 aa;try unfold z2z at aa;refine yO true [(4,none)] z2R 19 func82 λE hE=>?_;refine yJ X0 hC z2R [1] [] [] (λz:Unit=>Kn=some r0) (λz=>zaL) [(0,.d (eSl 1 false F7_ l_)),(1,.d (eSl 1 false s8 w_))] [Hh (.cut 1)] ?_ λJ1 aw=>?_
 ·rintro⟨⟩ aa;unfold Kn at aa;obtain rfl:=za aa;exact yE X0 hC hE []
 ·obtain⟨t2,ht2,aa⟩:=zc aa;refine yL X0 hC z2R [1,2,1,0] [J1] (λs=>XT l_ w_ s) (λx=>zaK l_ w_ x) 0 ht2  [] ?_;rintro i_ m2 az ae hl1 J2 a6;try unfold XT at ae
  let Z0:List HO:=[Ha (lnM F7_ l_)];rcases zI ae with⟨c0,ae⟩|⟨c0,ae⟩
  ·obtain⟨cd,h0,ae⟩:=zc ae;obtain⟨r_,h1,ae⟩:=zc ae;let Z1:List HO:=(Z0++[Hq c0,Hi F7_ h0,Hc h07 (x:=(cd,w_)) h1 (loC F7_ cd <| loC F7_ w_ <| loN)]);rcases zI ae with⟨c1,ae⟩|⟨c1,ae⟩
   ·obtain rfl:=za ae;obtain rfl:=hl1;obtain rfl:=za aa;exact yE X0 hC hE (Z1++[Hq c1])
   ·obtain rfl:=za ae;exact yB X0 hC a6 (w64 (i_+1)) hl1 (Z1++[Hq c1])
  ·obtain rfl:=za ae;obtain rfl:=hl1;exact yB X0 hC aw () aa (Z0++[Hq c0])
def Up:Code:=(Tryz.f46.body).getD .skip
def KJ:zN:=spF (α:=List (List Int)×List (List Int)) (ρ:=List (List Int)) 46 (λx=>[xh x.1,xh x.2]) (λr=>z4S r) (λx=>Vx x.1 x.2) [] (W2)
abbrev z7h (out:List (List Int)):List (Nat×T):=[(5,.own (eOs 1 false F7_ out))]
abbrev z7g (a_:List (List Int))(b_:List (List Int))(i_:Int)(ap:List (List Int)):List (Nat×T):=[(0,.d (eSl 1 false F7_ a_)),(1,.d (eSl 1 false F7_ b_)),(5,.own (eOs 1 false F7_ ap)),(6,.d (I i_))]
abbrev z7f (a_:List (List Int))(b_:List (List Int))(ai:List (List Int))(i_:Int):List (Nat×T):=[(0,.d (eSl 1 false F7_ a_)),(1,.d (eSl 1 false F7_ b_)),(5,.own (eOs 1 false F7_ ai)),(6,.d (I i_))]
theorem zcA (hC:zF prog ctr)(h2g:ctr.Has z2o):KJ.Ok prog:=by
 refine zC ?_;rintro⟨a_,b_⟩ r0 aa;try unfold Vx at aa;refine yO true [(4,none)] Up 28 func46 λE hE=>?_;refine yJ X0 hC Up [1,1] [] [5] (λz:List (List Int)=>KP z=some r0) (λz=>z7h z) [(0,.d (eSl 1 false F7_ a_)),(1,.d (eSl 1 false F7_ b_)),(5,.own (eOs 1 true F7_ []))] [Hh (.cut 2)] ?_ λJ1 aw=>?_
 ·rintro out aa;unfold KP at aa;obtain rfl:=za aa;exact yE X0 hC hE []
 ·obtain⟨t2,ht2,aa⟩:=zc aa;refine yLx X0 hC Up [1,1,2,1,0] [J1] (λs=>uo a_ b_ s.1 s.2) (λx=>z7f a_ b_ x.1 x.2) (([]:List (List Int)),0) ht2 [(0,.d (eSl 1 false F7_ a_)),(1,.d (eSl 1 false F7_ b_)),(5,.own (eOs 1 true F7_ [])),(6,.d (I 0))] inferInstance [] ?_;rintro⟨ai,i_⟩ m2 az ae hl1 J2 a6;try unfold uo at ae
  let Z0:List HO:=[Ha (lnM F7_ a_)];rcases zI ae with⟨c0,ae⟩|⟨c0,ae⟩
  ·refine yJ X0 hC Up [1,1,2,1,0,0,1] [J1,J2] [0,1,5,6] (λz:List (List Int)=>Xb i_ z=some az) (λz=>z7g a_ b_ i_ z) [(0,.d (eSl 1 false F7_ a_)),(1,.d (eSl 1 false F7_ b_)),(5,.own (eOs 1 false F7_ ai)),(6,.d (I i_))] (Z0++[Hq c0,Hh (.cut 0)]) ?_ λJ3 bk=>?_
   ·rintro ap ae;unfold Xb at ae;obtain rfl:=za ae;exact yB X0 hC a6 (ap,w64 (i_+1)) hl1 []
   ·obtain⟨cq,h0,ae⟩:=zc ae;obtain⟨r_,h1,ae⟩:=zc ae;let Z1:List HO:=[Hi F7_ h0,Hc h2g (x:=(b_,cq)) h1 (loC xh b_ <| loC F7_ cq <| loN)];rcases zI ae with⟨c1,ae⟩|⟨c1,ae⟩
    ·obtain⟨gh,h2,ae⟩:=zc ae;obtain⟨g0,ae⟩:=gdE ae;exact yB X0 hC bk (ai++([gh]:List (List Int))) ae (Z1++[Hq c1,Hi F7_ h2,Hq (dM F7_ ([gh]:List (List Int))),Hn (dM F7_ ([gh]:List (List Int))),Hn (aL F7_ F7_ g0),Hl (aM F7_ ai ([gh]:List (List Int)))])
    ·exact yB X0 hC bk ai ae (Z1++[Hq c1])
  ·obtain rfl:=za ae;obtain rfl:=hl1;exact yB X0 hC aw ai aa (Z0++[Hq c0])
def zgK:Code:=(f83.body).getD .skip
def z4i:zN:=spF (α:=z6×Int) (ρ:=List (List Int)) 83 (λx=>[zO x.1,s8 x.2]) (λr=>z4S r) (λx=>z5o x.1 x.2) [] (W2)
theorem zic (hC:zF prog ctr)(h0R:ctr.Has VV):z4i.Ok prog:=by refine zC ?_;rintro⟨m_,s_⟩ r0 aa;try unfold z5o at aa;refine yO true [(4,none)] zgK 8 func83 λE hE=>?_;obtain⟨r_,h0,aa⟩:=zc aa;obtain rfl:=za aa;exact yE X0 hC hE [Hc h0R (x:=(m_,s_)) h0 (loC zO m_ <| loC s8 s_ <| loN)]
def zbC:Code:=(Tryz.f49.body).getD .skip
def VW:zN:=spF (α:=List (List Int)×List (List Int)) (ρ:=List (List Int)) 49 (λx=>[xh x.1,xh x.2]) (λr=>z4S r) (λx=>Vv x.1 x.2) [] (W2)
theorem zcz (hC:zF prog ctr)(h0a:ctr.Has Wf):VW.Ok prog:=by refine zC ?_;rintro⟨a_,b_⟩ r0 aa;try unfold Vv at aa;refine yO true [(4,none)] zbC 11 func49 λE hE=>?_;obtain⟨g0,aa⟩:=gdE aa;obtain⟨g1,aa⟩:=gdE aa;obtain⟨r_,h0,aa⟩:=zc aa;obtain rfl:=za aa;exact yE X0 hC hE [Hn (dM F7_ a_),Hn (aL F7_ F7_ g0),Hl (aM0 F7_ a_),Hn (dM F7_ b_),Hn (aL F7_ F7_ g1),Hl (aM F7_ a_ b_),Hg (JO h0a),Hm (shM F7_ F7_ (a_++b_)),Hs (JP h0a (x:=(a_++b_)) h0 (loC xh (a_++b_) <| loN)),Hm (shM F7_ F7_ (a_++b_))]
def VE:Code:=(Tryz.f47.body).getD .skip
def YD:zN:=spF (α:=z6×List (List Int)) (ρ:=List (List Int)) 47 (λx=>[zO x.1,xh x.2]) (λr=>z4S r) (λx=>qV x.1 x.2) [] (W2)
abbrev z3T (out:List (List Int)):List (Nat×T):=[(5,.own (eOs 1 false F7_ out))]
abbrev z3S (m_:z6)(l_:List (List Int))(ai:List (List Int))(i_:Int):List (Nat×T):=[(1,.d (eSl 1 false F7_ l_)),(2,.own (.box (zO m_))),(5,.own (eOs 1 false F7_ ai)),(6,.d (I i_))]
theorem z82 (hC:zF prog ctr)(h0v:ctr.Has VY)(h2h:ctr.Has z4i)(h08:ctr.Has Wc)(h02:ctr.Has uF)(h0p:ctr.Has VW):YD.Ok prog:=by
 refine zC ?_;rintro⟨m_,l_⟩ r0 aa;try unfold qV at aa;refine yO true [(4,none)] VE 33 func47 λE hE=>?_;refine yJ X0 hC VE [1,1] [] [5] (λz:List (List Int)=>Vt z=some r0) (λz=>z3T z) [(1,.d (eSl 1 false F7_ l_)),(2,.own (.box (zO m_))),(5,.own (eOs 1 true F7_ []))] [Hh (.cut 2)] ?_ λJ1 aw=>?_
 ·rintro out aa;unfold Vt at aa;obtain rfl:=za aa;exact yE X0 hC hE []
 ·obtain⟨t2,ht2,aa⟩:=zc aa;refine yLx X0 hC VE [1,1,2,1,0] [J1] (λs=>xK m_ l_ s.1 s.2) (λx=>z3S m_ l_ x.1 x.2) (([]:List (List Int)),0) ht2 [(1,.d (eSl 1 false F7_ l_)),(2,.own (.box (zO m_))),(5,.own (eOs 1 true F7_ [])),(6,.d (I 0))] inferInstance [] ?_;rintro⟨ai,i_⟩ m2 az ae hl1 J2 a6;try unfold xK at ae
  let Z0:List HO:=[Ha (lnM F7_ l_)];rcases zI ae with⟨c0,ae⟩|⟨c0,ae⟩
  ·obtain⟨cd,h0,ae⟩:=zc ae;obtain⟨r_,h1,ae⟩:=zc ae;obtain⟨aj,h2,ae⟩:=zc ae;obtain⟨ak,h3,ae⟩:=zc ae;obtain⟨g0,ae⟩:=gdE ae;obtain⟨au,h4,ae⟩:=zc ae;obtain⟨ca,h5,ae⟩:=zc ae;obtain rfl:=za ae;exact yB X0 hC a6 (ca,w64 (i_+1)) hl1 (Z0++[Hq c0,Hi F7_ h0,Hc h0v (x:=(m_,0,cd)) h1 (loC zO m_ <| loC s8 0 <| loC F7_ cd <| loN),Hc h2h (x:=(m_,r_)) h2 (loC zO m_ <| loC s8 r_ <| loN),Hg (JO h08),Hm (shM F7_ F7_ aj),Hs (JP h08 (x:=aj) h3 (loC xh aj <| loN)),Hm (shM F7_ F7_ aj),Hn (slA g0),Hn (slB g0),Hn (zz7 F7_ g0),Ha (slM 1 false F7_ l_ i_.toNat (w64 (i_+1)).toNat),Hc h02 (x:=(((l_.drop i_.toNat).take ((w64 (i_+1)).toNat - i_.toNat)),ak)) h4 (loC xh ((l_.drop i_.toNat).take ((w64 (i_+1)).toNat - i_.toNat)) <| loC xh ak <| loN),Hg (JO h0p),Hm (shM F7_ F7_ ai),Hm (shM F7_ F7_ au),Hs (JP h0p (x:=(ai,au)) h5 (loC xh ai <| loC xh au <| loN)),Hm (shM F7_ F7_ ai),Hm (shM F7_ F7_ au)])
  ·obtain rfl:=za ae;obtain rfl:=hl1;exact yB X0 hC aw ai aa (Z0++[Hq c0])
def zgJ:Code:=(f16.body).getD .skip
def z4h:zN:=spF (α:=z6×Int) (ρ:=List (List Int)) 16 (λx=>[zO x.1,s8 x.2]) (λr=>z4S r) (λx=>z5n x.1 x.2) [] (W2)
theorem zib (hC:zF prog ctr)(h0P:ctr.Has We)(h0o:ctr.Has vZ)(h1i:ctr.Has KJ)(h0b:ctr.Has YE)(h02:ctr.Has uF)(h0S:ctr.Has Kj)(h08:ctr.Has Wc)(h0O:ctr.Has VX)(h0q:ctr.Has YD)(h0p:ctr.Has VW)(h09:ctr.Has Y6):z4h.Ok prog:=by refine zC ?_;rintro⟨m_,bound⟩ r0 aa;try unfold z5n at aa;refine yO true [(4,none)] zgJ 43 func16 λE hE=>?_;obtain⟨r_,h0,aa⟩:=zc aa;obtain⟨aj,h1,aa⟩:=zc aa;obtain⟨ak,h2,aa⟩:=zc aa;obtain⟨au,h3,aa⟩:=zc aa;obtain⟨ca,h4,aa⟩:=zc aa;obtain⟨dj,h5,aa⟩:=zc aa;obtain⟨gq,h6,aa⟩:=zc aa;obtain⟨gf,h7,aa⟩:=zc aa;obtain⟨k9,h8,aa⟩:=zc aa;obtain⟨jf,h9,aa⟩:=zc aa;obtain⟨ip,h10,aa⟩:=zc aa;obtain⟨lf,h11,aa⟩:=zc aa;obtain⟨pf,h12,aa⟩:=zc aa;obtain rfl:=za aa;exact yE X0 hC hE [Ha (lnM yN m_.Rows),Hc h0P (x:=m_) h0 (loC zO m_ <| loN),Hc h0o (x:=m_) h1 (loC zO m_ <| loN),Hg (JO h1i),Hm (shM F7_ F7_ aj),Hm (shM F7_ F7_ r_),Hs (JP h1i (x:=(aj,r_)) h2 (loC xh aj <| loC xh r_ <| loN)),Hm (shM F7_ F7_ aj),Hm (shM F7_ F7_ r_),Hc h0b (x:=(m_.Inputs,w64 (bound - ((m_.Rows.length:Nat):Int)))) h3 (loC s8 m_.Inputs <| loC s8 (w64 (bound - ((m_.Rows.length:Nat):Int))) <| loN),Hg (JO h02),Hm (shM F7_ F7_ au),Hs (JP h02 (x:=(r_,au)) h4 (loC xh r_ <| loC xh au <| loN)),Hm (shM F7_ F7_ au),Hc h0S (x:=m_) h5 (loC zO m_ <| loN),Hg (JO h08),Hm (shM F7_ F7_ dj),Hs (JP h08 (x:=dj) h6 (loC xh dj <| loN)),Hm (shM F7_ F7_ dj),Hg (JO h02),Hm (shM F7_ F7_ ca),Hs (JP h02 (x:=(ca,gq)) h7 (loC xh ca <| loC xh gq <| loN)),Hm (shM F7_ F7_ ca),Hc h0O (x:=(m_.Inputs,w64 (bound - ((m_.Rows.length:Nat):Int)))) h8 (loC s8 m_.Inputs <| loC s8 (w64 (bound - ((m_.Rows.length:Nat):Int))) <| loN),Hg (JO h02),Hm (shM F7_ F7_ ak),Hm (shM F6_ F7_ k9),Hs (JP h02 (x:=(ak,k9)) h9 (loC xh ak <| loC xh k9 <| loN)),Hm (shM F7_ F7_ ak),Hm (shM F6_ F7_ k9),Hg (JO h0q),Hm (shM F7_ F7_ jf),Hs (JP h0q (x:=(m_,jf)) h10 (loC zO m_ <| loC xh jf <| loN)),Hm (shM F7_ F7_ jf),Hg (JO h0p),Hm (shM F7_ F7_ gf),Hm (shM F7_ F7_ ip),Hs (JP h0p (x:=(gf,ip)) h11 (loC xh gf <| loC xh ip <| loN)),Hm (shM F7_ F7_ gf),Hm (shM F7_ F7_ ip),Hg (JO h09),Hm (shM F7_ F7_ lf),Hs (JP h09 (x:=lf) h12 (loC xh lf <| loN)),Hm (shM F7_ F7_ lf)]
def zfo:Code:=(f17.body).getD .skip
def z2n:zN:=spF (α:=z6×Int) (ρ:=List (List Int)) 17 (λx=>[zO x.1,s8 x.2]) (λr=>z4S r) (λx=>z2y x.1 x.2) [] (W2)
theorem zfH (hC:zF prog ctr)(h0b:ctr.Has YE)(h0o:ctr.Has vZ)(h02:ctr.Has uF)(h0q:ctr.Has YD)(h09:ctr.Has Y6):z2n.Ok prog:=by refine zC ?_;rintro⟨m_,bound⟩ r0 aa;try unfold z2y at aa;refine yO true [(4,none)] zfo 21 func17 λE hE=>?_;obtain⟨r_,h0,aa⟩:=zc aa;obtain⟨aj,h1,aa⟩:=zc aa;obtain⟨ak,h2,aa⟩:=zc aa;obtain⟨au,h3,aa⟩:=zc aa;obtain⟨ca,h4,aa⟩:=zc aa;obtain rfl:=za aa;exact yE X0 hC hE [Ha (lnM yN m_.Rows),Hc h0b (x:=(m_.Inputs,w64 (bound - ((m_.Rows.length:Nat):Int)))) h0 (loC s8 m_.Inputs <| loC s8 (w64 (bound - ((m_.Rows.length:Nat):Int))) <| loN),Hc h0o (x:=m_) h1 (loC zO m_ <| loN),Hg (JO h02),Hm (shM F7_ F7_ aj),Hm (shM F7_ F7_ r_),Hs (JP h02 (x:=(aj,r_)) h2 (loC xh aj <| loC xh r_ <| loN)),Hm (shM F7_ F7_ aj),Hm (shM F7_ F7_ r_),Hg (JO h0q),Hm (shM F7_ F7_ ak),Hs (JP h0q (x:=(m_,ak)) h3 (loC zO m_ <| loC xh ak <| loN)),Hm (shM F7_ F7_ ak),Hg (JO h09),Hm (shM F7_ F7_ au),Hs (JP h09 (x:=au) h4 (loC xh au <| loN)),Hm (shM F7_ F7_ au)]
def z8k:Code:=(Tryz.f50.body).getD .skip
def Q0:zN:=spF (α:=Unit) (ρ:=z6) 50 (λx=>[]) (λr=>zqE r) (λx=>z1e) [] (λ_ _ _=>rfl)
theorem z9b (hC:zF prog ctr):Q0.Ok prog:=by refine zC ?_;rintro⟨⟩ r0 aa;try unfold z1e at aa;refine yO false [(0,some 30)] z8k 12 func50 λE hE=>?_;obtain rfl:=za aa;exact yE X0 hC hE [Hm (shM (eOs 2 true F9_) zCj ([[(z8.mk 1 0),(z8.mk 0 0)],[(z8.mk 2 0),(z8.mk 1 1)],[(z8.mk 0 1),(z8.mk 2 0)]]))]
def zbE:Code:=(f18.body).getD .skip
def KO:zN:=spF (α:=Unit) (ρ:=Bool) 18 (λx=>[]) (λr=>eB r) (λx=>z1d) [] (λ_ _ _=>rfl)
theorem zcG (hC:zF prog ctr)(h2i:ctr.Has Q0)(h0e:ctr.Has z0O)(h0T:ctr.Has Ki)(h0U:ctr.Has Qh)(h00:ctr.Has Qi)(h0V:ctr.Has W9):KO.Ok prog:=by
 refine zC ?_;rintro⟨⟩ r0 aa;try unfold z1d at aa;refine yO true [(0,none)] zbE 105 func18 λE hE=>?_;obtain⟨r_,h0,aa⟩:=zc aa;obtain⟨aj,h1,aa⟩:=zc aa;obtain⟨ak,h2,aa⟩:=zc aa;obtain⟨au,h3,aa⟩:=zc aa
 let Z0:List HO:=[Hc h2i (x:=()) h0 (loN),Hc h0e (x:=(r_,3,8)) h1 (loC zqE r_ <| loC s8 3 <| loC s8 8 <| loN),Hc h0T (x:=(r_,3,4096)) h2 (loC zqE r_ <| loC s8 3 <| loC s8 4096 <| loN),Hc h0U (x:=(r_,3,4096)) h3 (loC zqE r_ <| loC s8 3 <| loC s8 4096 <| loN)];rcases zI aa with⟨c0,aa⟩|⟨c0,aa⟩
 ·obtain rfl:=za aa;exact yE X0 hC hE (Z0++(Hq c0::Hq c0::Hq c0::(rpN 21 qT [])))
 ·rcases zI aa with⟨c1,aa⟩|⟨c1,aa⟩
  ·obtain rfl:=za aa;exact yE X0 hC hE (Z0++(Hq c0::Hq c0::Hq c0::Hq c1::Hq c1::Hq c1::(rpN 18 qT [])))
  ·let Z1:List HO:=(Z0++[Hq c0,Hq c0,Hq c0,Hq c1,Hq c1,Hq c1]);rcases zI aa with⟨c2,aa⟩|⟨c2,aa⟩
   ·obtain rfl:=za aa;exact yE X0 hC hE (Z1++(rpN 5 (Hq c2) (rpN 13 qT [])))
   ·obtain⟨ca,h4,aa⟩:=zc aa;let Z2:List HO:=(Z1++[Hq c2,Hq c2,Hq c2,Hm (shM F4_ F3_ ([[1,0],[1,1],[0,1,0],[0,1,1],[0,0,0,0],[0,0,0,1],[0,0,1,0],[0,0,1,1]])),Hn (Ve (f:=.fn 14 []) (xs:=[Us aj.1,xh ([[1,0],[1,1],[0,1,0],[0,1,1],[0,0,0,0],[0,0,0,1],[0,0,1,0],[0,0,1,1]]:List (List Int))]) (ls:=[]) (r:=B ca) (ys:=[]) [Us aj.1,Us ([[1,0],[1,1],[0,1,0],[0,1,1],[0,0,0,0],[0,0,0,1],[0,0,1,0],[0,0,1,1]]:List (List Int))] (show z3p [Us aj.1,Us ([[1,0],[1,1],[0,1,0],[0,1,1],[0,0,0,0],[0,0,0,1],[0,0,1,0],[0,0,1,1]]:List (List Int))] [Us aj.1,xh ([[1,0],[1,1],[0,1,0],[0,1,1],[0,0,0,0],[0,0,0,1],[0,0,1,0],[0,0,1,1]]:List (List Int))] from inferInstance)),Hq c2,Hq c2]);rcases zI aa with⟨c3,aa⟩|⟨c3,aa⟩
    ·obtain rfl:=za aa;exact yE ((k8 (P:=prog) yw [] (lentCall (xM hC h00 (x:=(aj.1,([[1,0],[1,1],[0,1,0],[0,1,1],[0,0,0,0],[0,0,0,1],[0,0,1,0],[0,0,1,1]]:List (List Int)))) h4)) 49).or X0) hC hE (Z2++(rpN 6 (Hq c3) (rpN 7 qT [])))
    ·obtain⟨g0,aa⟩:=gdE aa;obtain⟨dj,h5,aa⟩:=zc aa;let Z3:List HO:=(Z2++[Hq c3,Hq c3,Hq c3,Hn (slB g0),Hn (znB F3_ g0),Ha (slM 1 (true&&(7:Int).toNat==(([[1,0],[1,1],[0,1,0],[0,1,1],[0,0,0,0],[0,0,0,1],[0,0,1,0],[0,0,1,1]]:List (List Int)).map F3_).length) F3_ ([[1,0],[1,1],[0,1,0],[0,1,1],[0,0,0,0],[0,0,0,1],[0,0,1,0],[0,0,1,1]]:List (List Int)) 0 (7:Int).toNat),Hq c3,Hn (Ve (f:=.fn 14 []) (xs:=[Us ak.1,xh ((([[1,0],[1,1],[0,1,0],[0,1,1],[0,0,0,0],[0,0,0,1],[0,0,1,0],[0,0,1,1]]:List (List Int)).drop 0).take ((7:Int).toNat - 0))]) (ls:=[]) (r:=B dj) (ys:=[]) [Us ak.1,(eSl 1 (true&&(7:Int).toNat==(([[1,0],[1,1],[0,1,0],[0,1,1],[0,0,0,0],[0,0,0,1],[0,0,1,0],[0,0,1,1]]:List (List Int)).map F3_).length) F3_) ((([[1,0],[1,1],[0,1,0],[0,1,1],[0,0,0,0],[0,0,0,1],[0,0,1,0],[0,0,1,1]]:List (List Int)).drop 0).take ((7:Int).toNat - 0))] (show z3p [Us ak.1,(eSl 1 (true&&(7:Int).toNat==(([[1,0],[1,1],[0,1,0],[0,1,1],[0,0,0,0],[0,0,0,1],[0,0,1,0],[0,0,1,1]]:List (List Int)).map F3_).length) F3_) ((([[1,0],[1,1],[0,1,0],[0,1,1],[0,0,0,0],[0,0,0,1],[0,0,1,0],[0,0,1,1]]:List (List Int)).drop 0).take ((7:Int).toNat - 0))] [Us ak.1,xh ((([[1,0],[1,1],[0,1,0],[0,1,1],[0,0,0,0],[0,0,0,1],[0,0,1,0],[0,0,1,1]]:List (List Int)).drop 0).take ((7:Int).toNat - 0))] from inferInstance)),Hq c3,Hq c3]);rcases zI aa with⟨c4,aa⟩|⟨c4,aa⟩
     ·obtain rfl:=za aa;exact yE ((k8 (P:=prog) yw [] (lentCall (xM hC h00 (x:=(ak.1,((([[1,0],[1,1],[0,1,0],[0,1,1],[0,0,0,0],[0,0,0,1],[0,0,1,0],[0,0,1,1]]:List (List Int)).drop 0).take ((7:Int).toNat - 0)))) h5)) 56).or ((k8 (P:=prog) yw [] (lentCall (xM hC h00 (x:=(aj.1,([[1,0],[1,1],[0,1,0],[0,1,1],[0,0,0,0],[0,0,0,1],[0,0,1,0],[0,0,1,1]]:List (List Int)))) h4)) 49).or X0)) hC hE (Z3++(rpN 6 (Hq c4) [qT]))
     ·obtain⟨g1,aa⟩:=gdE aa;obtain⟨gq,h6,aa⟩:=zc aa;let Z4:List HO:=(Z3++[Hq c4,Hq c4,Hq c4,Hn (slB g1),Hn (znB F3_ g1),Ha (slM 1 (true&&(7:Int).toNat==(([[1,0],[1,1],[0,1,0],[0,1,1],[0,0,0,0],[0,0,0,1],[0,0,1,0],[0,0,1,1]]:List (List Int)).map F3_).length) F3_ ([[1,0],[1,1],[0,1,0],[0,1,1],[0,0,0,0],[0,0,0,1],[0,0,1,0],[0,0,1,1]]:List (List Int)) 0 (7:Int).toNat),Hq c4,Hn (Ve (f:=.fn 14 []) (xs:=[Us au.1,xh ((([[1,0],[1,1],[0,1,0],[0,1,1],[0,0,0,0],[0,0,0,1],[0,0,1,0],[0,0,1,1]]:List (List Int)).drop 0).take ((7:Int).toNat - 0))]) (ls:=[]) (r:=B gq) (ys:=[]) [Us au.1,(eSl 1 (true&&(7:Int).toNat==(([[1,0],[1,1],[0,1,0],[0,1,1],[0,0,0,0],[0,0,0,1],[0,0,1,0],[0,0,1,1]]:List (List Int)).map F3_).length) F3_) ((([[1,0],[1,1],[0,1,0],[0,1,1],[0,0,0,0],[0,0,0,1],[0,0,1,0],[0,0,1,1]]:List (List Int)).drop 0).take ((7:Int).toNat - 0))] (show z3p [Us au.1,(eSl 1 (true&&(7:Int).toNat==(([[1,0],[1,1],[0,1,0],[0,1,1],[0,0,0,0],[0,0,0,1],[0,0,1,0],[0,0,1,1]]:List (List Int)).map F3_).length) F3_) ((([[1,0],[1,1],[0,1,0],[0,1,1],[0,0,0,0],[0,0,0,1],[0,0,1,0],[0,0,1,1]]:List (List Int)).drop 0).take ((7:Int).toNat - 0))] [Us au.1,xh ((([[1,0],[1,1],[0,1,0],[0,1,1],[0,0,0,0],[0,0,0,1],[0,0,1,0],[0,0,1,1]]:List (List Int)).drop 0).take ((7:Int).toNat - 0))] from inferInstance)),Hq c4,Hq c4]);rcases zI aa with⟨c5,aa⟩|⟨c5,aa⟩
      ·obtain rfl:=za aa;exact yE ((k8 (P:=prog) yw [] (lentCall (xM hC h00 (x:=(au.1,((([[1,0],[1,1],[0,1,0],[0,1,1],[0,0,0,0],[0,0,0,1],[0,0,1,0],[0,0,1,1]]:List (List Int)).drop 0).take ((7:Int).toNat - 0)))) h6)) 63).or ((k8 (P:=prog) yw [] (lentCall (xM hC h00 (x:=(ak.1,((([[1,0],[1,1],[0,1,0],[0,1,1],[0,0,0,0],[0,0,0,1],[0,0,1,0],[0,0,1,1]]:List (List Int)).drop 0).take ((7:Int).toNat - 0)))) h5)) 56).or ((k8 (P:=prog) yw [] (lentCall (xM hC h00 (x:=(aj.1,([[1,0],[1,1],[0,1,0],[0,1,1],[0,0,0,0],[0,0,0,1],[0,0,1,0],[0,0,1,1]]:List (List Int)))) h4)) 49).or X0))) hC hE (Z4++[Hq c5])
      ·obtain⟨gf,h7,aa⟩:=zc aa;obtain⟨k9,h8,aa⟩:=zc aa;obtain⟨jf,h9,aa⟩:=zc aa;obtain⟨ip,h10,aa⟩:=zc aa;let Z5:List HO:=(Z4++[Hq c5,Hc h0e (x:=(r_,2,9)) h7 (loC zqE r_ <| loC s8 2 <| loC s8 9 <| loN),Hc h0e (x:=(r_,8,9)) h8 (loC zqE r_ <| loC s8 8 <| loC s8 9 <| loN),Hc h0e (x:=(r_,3,7)) h9 (loC zqE r_ <| loC s8 3 <| loC s8 7 <| loN),Hc h0V (x:=(r_,3)) h10 (loC zqE r_ <| loC s8 3 <| loN)]);rcases zI aa with⟨c6,aa⟩|⟨c6,aa⟩
       ·rcases zI aa with⟨c7,aa⟩|⟨c7,aa⟩
        ·let Z6:List HO:=(Z5++[Hq c6,Hq c6,Hq c6,Hq c7,Hq c7,Hq c7]);rcases zI aa with⟨c8,aa⟩|⟨c8,aa⟩
         ·rcases zI aa with⟨c9,aa⟩|⟨c9,aa⟩
          ·obtain rfl:=za aa;exact yE ((k8 (P:=prog) yw [] (lentCall (xM hC h00 (x:=(au.1,((([[1,0],[1,1],[0,1,0],[0,1,1],[0,0,0,0],[0,0,0,1],[0,0,1,0],[0,0,1,1]]:List (List Int)).drop 0).take ((7:Int).toNat - 0)))) h6)) 63).or ((k8 (P:=prog) yw [] (lentCall (xM hC h00 (x:=(ak.1,((([[1,0],[1,1],[0,1,0],[0,1,1],[0,0,0,0],[0,0,0,1],[0,0,1,0],[0,0,1,1]]:List (List Int)).drop 0).take ((7:Int).toNat - 0)))) h5)) 56).or ((k8 (P:=prog) yw [] (lentCall (xM hC h00 (x:=(aj.1,([[1,0],[1,1],[0,1,0],[0,1,1],[0,0,0,0],[0,0,0,1],[0,0,1,0],[0,0,1,1]]:List (List Int)))) h4)) 49).or X0))) hC hE (Z6++(Hq c8::Hq c8::Hq c8::(rpN 4 (Hq c9) [])))
          ·obtain rfl:=za aa;exact yE ((k8 (P:=prog) yw [] (lentCall (xM hC h00 (x:=(au.1,((([[1,0],[1,1],[0,1,0],[0,1,1],[0,0,0,0],[0,0,0,1],[0,0,1,0],[0,0,1,1]]:List (List Int)).drop 0).take ((7:Int).toNat - 0)))) h6)) 63).or ((k8 (P:=prog) yw [] (lentCall (xM hC h00 (x:=(ak.1,((([[1,0],[1,1],[0,1,0],[0,1,1],[0,0,0,0],[0,0,0,1],[0,0,1,0],[0,0,1,1]]:List (List Int)).drop 0).take ((7:Int).toNat - 0)))) h5)) 56).or ((k8 (P:=prog) yw [] (lentCall (xM hC h00 (x:=(aj.1,([[1,0],[1,1],[0,1,0],[0,1,1],[0,0,0,0],[0,0,0,1],[0,0,1,0],[0,0,1,1]]:List (List Int)))) h4)) 49).or X0))) hC hE (Z6++(Hq c8::Hq c8::Hq c8::(rpN 4 (Hq c9) [])))
         ·obtain rfl:=za aa;exact yE ((k8 (P:=prog) yw [] (lentCall (xM hC h00 (x:=(au.1,((([[1,0],[1,1],[0,1,0],[0,1,1],[0,0,0,0],[0,0,0,1],[0,0,1,0],[0,0,1,1]]:List (List Int)).drop 0).take ((7:Int).toNat - 0)))) h6)) 63).or ((k8 (P:=prog) yw [] (lentCall (xM hC h00 (x:=(ak.1,((([[1,0],[1,1],[0,1,0],[0,1,1],[0,0,0,0],[0,0,0,1],[0,0,1,0],[0,0,1,1]]:List (List Int)).drop 0).take ((7:Int).toNat - 0)))) h5)) 56).or ((k8 (P:=prog) yw [] (lentCall (xM hC h00 (x:=(aj.1,([[1,0],[1,1],[0,1,0],[0,1,1],[0,0,0,0],[0,0,0,1],[0,0,1,0],[0,0,1,1]]:List (List Int)))) h4)) 49).or X0))) hC hE (Z6++(Hq c8::Hq c8::Hq c8::(rpN 4 qF [])))
        ·obtain rfl:=za aa;exact yE ((k8 (P:=prog) yw [] (lentCall (xM hC h00 (x:=(au.1,((([[1,0],[1,1],[0,1,0],[0,1,1],[0,0,0,0],[0,0,0,1],[0,0,1,0],[0,0,1,1]]:List (List Int)).drop 0).take ((7:Int).toNat - 0)))) h6)) 63).or ((k8 (P:=prog) yw [] (lentCall (xM hC h00 (x:=(ak.1,((([[1,0],[1,1],[0,1,0],[0,1,1],[0,0,0,0],[0,0,0,1],[0,0,1,0],[0,0,1,1]]:List (List Int)).drop 0).take ((7:Int).toNat - 0)))) h5)) 56).or ((k8 (P:=prog) yw [] (lentCall (xM hC h00 (x:=(aj.1,([[1,0],[1,1],[0,1,0],[0,1,1],[0,0,0,0],[0,0,0,1],[0,0,1,0],[0,0,1,1]]:List (List Int)))) h4)) 49).or X0))) hC hE (Z5++(Hq c6::Hq c6::Hq c6::Hq c7::Hq c7::Hq c7::(rpN 7 qF [])))
       ·obtain rfl:=za aa;exact yE ((k8 (P:=prog) yw [] (lentCall (xM hC h00 (x:=(au.1,((([[1,0],[1,1],[0,1,0],[0,1,1],[0,0,0,0],[0,0,0,1],[0,0,1,0],[0,0,1,1]]:List (List Int)).drop 0).take ((7:Int).toNat - 0)))) h6)) 63).or ((k8 (P:=prog) yw [] (lentCall (xM hC h00 (x:=(ak.1,((([[1,0],[1,1],[0,1,0],[0,1,1],[0,0,0,0],[0,0,0,1],[0,0,1,0],[0,0,1,1]]:List (List Int)).drop 0).take ((7:Int).toNat - 0)))) h5)) 56).or ((k8 (P:=prog) yw [] (lentCall (xM hC h00 (x:=(aj.1,([[1,0],[1,1],[0,1,0],[0,1,1],[0,0,0,0],[0,0,0,1],[0,0,1,0],[0,0,1,1]]:List (List Int)))) h4)) 49).or X0))) hC hE (Z5++(Hq c6::Hq c6::Hq c6::(rpN 10 qF [])))
def z3F:Code:=(Tryz.f3.body).getD .skip
def X6:zN:=spF (α:=qM×Int) (ρ:=Bool) 3 (λx=>[(Xh z37) x.1,(eI .u8) x.2]) (λr=>eB r) (λx=>YP x.1 x.2) [] (W2)
theorem z4e (hC:zF prog ctr)(h2j:ctr.Has z0U)(h0e:ctr.Has z0O)(h0T:ctr.Has Ki)(h0U:ctr.Has Qh)(h0V:ctr.Has W9)(h2k:ctr.Has z6A)(h00:ctr.Has Qi)(h2l:ctr.Has z4h)(h2m:ctr.Has z2n)(h2n:ctr.Has KO):X6.Ok prog:=by
 refine zC ?_;rintro⟨x_,fe⟩ r0 aa;try unfold YP at aa;refine yO true [(4,none)] z3F 98 func3 λE hE=>?_;obtain⟨r_,h0,aa⟩:=zc aa;obtain⟨g0,aa⟩:=gdE aa;obtain⟨aj,h1,aa⟩:=zc aa;obtain⟨ak,h2,aa⟩:=zc aa;obtain⟨au,h3,aa⟩:=zc aa;obtain⟨ca,h4,aa⟩:=zc aa
 let Z0:List HO:=[Hc h2j (x:=(qM.mk x_.C)) h0 (loC (Xh z37) (qM.mk x_.C) <| loN),Ha (lnM yN r_.Rows),Hn g0,Hc h0e (x:=(r_,w64 (((r_.Rows.length:Nat):Int)+(w64 (Int.tmod fe 3))),4096)) h1 (loC zO r_ <| loC s8 (w64 (((r_.Rows.length:Nat):Int)+(w64 (Int.tmod fe 3)))) <| loC s8 4096 <| loN),Hc h0T (x:=(r_,w64 (((r_.Rows.length:Nat):Int)+(w64 (Int.tmod fe 3))),4096)) h2 (loC zO r_ <| loC s8 (w64 (((r_.Rows.length:Nat):Int)+(w64 (Int.tmod fe 3)))) <| loC s8 4096 <| loN),Hc h0U (x:=(r_,w64 (((r_.Rows.length:Nat):Int)+(w64 (Int.tmod fe 3))),4096)) h3 (loC zO r_ <| loC s8 (w64 (((r_.Rows.length:Nat):Int)+(w64 (Int.tmod fe 3)))) <| loC s8 4096 <| loN),Hc h0V (x:=(r_,w64 (((r_.Rows.length:Nat):Int)+(w64 (Int.tmod fe 3))))) h4 (loC zO r_ <| loC s8 (w64 (((r_.Rows.length:Nat):Int)+(w64 (Int.tmod fe 3)))) <| loN)];rcases zI aa with⟨c0,aa⟩|⟨c0,aa⟩
 ·obtain rfl:=za aa;exact yE X0 hC hE (Z0++(Hq c0::Hq c0::Hq c0::(rpN 28 qT [])))
 ·rcases zI aa with⟨c1,aa⟩|⟨c1,aa⟩
  ·obtain rfl:=za aa;exact yE X0 hC hE (Z0++(Hq c0::Hq c0::Hq c0::Hq c1::Hq c1::Hq c1::(rpN 25 qT [])))
  ·let Z1:List HO:=(Z0++[Hq c0,Hq c0,Hq c0,Hq c1,Hq c1,Hq c1]);rcases zI aa with⟨c2,aa⟩|⟨c2,aa⟩
   ·obtain rfl:=za aa;exact yE X0 hC hE (Z1++(Hq c2::Hq c2::Hq c2::(rpN 22 qT [])))
   ·rcases zI aa with⟨c3,aa⟩|⟨c3,aa⟩
    ·obtain rfl:=za aa;exact yE X0 hC hE (Z1++(Hq c2::Hq c2::Hq c2::(rpN 7 (Hq c3) (rpN 15 qT []))))
    ·obtain⟨dj,h5,aa⟩:=zc aa;obtain⟨gq,h6,aa⟩:=zc aa;let Z2:List HO:=(Z1++(Hq c2::Hq c2::Hq c2::(rpN 4 (Hq c3) [Hc h2k (x:=(r_,w64 (((r_.Rows.length:Nat):Int)+(w64 (Int.tmod fe 3))))) h5 (loC zO r_ <| loC s8 (w64 (((r_.Rows.length:Nat):Int)+(w64 (Int.tmod fe 3)))) <| loN),Hq c3,Hm (shM F7_ F7_ dj),Hn (Ve (f:=.fn 14 []) (xs:=[Us aj.1,xh dj]) (ls:=[]) (r:=B gq) (ys:=[]) [Us aj.1,xh dj] (show z3p [Us aj.1,xh dj] [Us aj.1,xh dj] from inferInstance)),Hq c3,Hq c3])));rcases zI aa with⟨c4,aa⟩|⟨c4,aa⟩
     ·obtain rfl:=za aa;exact yE ((k8 (P:=prog) yw [] (lentCall (xM hC h00 (x:=(aj.1,dj)) h6)) 67).or X0) hC hE (Z2++(rpN 7 (Hq c4) (rpN 8 qT [])))
     ·obtain⟨gf,h7,aa⟩:=zc aa;obtain⟨k9,h8,aa⟩:=zc aa;let Z3:List HO:=(Z2++(rpN 4 (Hq c4) [Hc h2l (x:=(r_,w64 (((r_.Rows.length:Nat):Int)+(w64 (Int.tmod fe 3))))) h7 (loC zO r_ <| loC s8 (w64 (((r_.Rows.length:Nat):Int)+(w64 (Int.tmod fe 3)))) <| loN),Hq c4,Hm (shM F7_ F7_ gf),Hn (Ve (f:=.fn 14 []) (xs:=[Us ak.1,xh gf]) (ls:=[]) (r:=B k9) (ys:=[]) [Us ak.1,xh gf] (show z3p [Us ak.1,xh gf] [Us ak.1,xh gf] from inferInstance)),Hq c4,Hq c4]));rcases zI aa with⟨c5,aa⟩|⟨c5,aa⟩
      ·obtain rfl:=za aa;exact yE ((k8 (P:=prog) yw [] (lentCall (xM hC h00 (x:=(ak.1,gf)) h8)) 75).or ((k8 (P:=prog) yw [] (lentCall (xM hC h00 (x:=(aj.1,dj)) h6)) 67).or X0)) hC hE (Z3++(rpN 7 (Hq c5) [qT]))
      ·obtain⟨jf,h9,aa⟩:=zc aa;obtain⟨ip,h10,aa⟩:=zc aa;let Z4:List HO:=(Z3++(rpN 4 (Hq c5) [Hc h2m (x:=(r_,w64 (((r_.Rows.length:Nat):Int)+(w64 (Int.tmod fe 3))))) h9 (loC zO r_ <| loC s8 (w64 (((r_.Rows.length:Nat):Int)+(w64 (Int.tmod fe 3)))) <| loN),Hq c5,Hm (shM F7_ F7_ jf),Hn (Ve (f:=.fn 14 []) (xs:=[Us au.1,xh jf]) (ls:=[]) (r:=B ip) (ys:=[]) [Us au.1,xh jf] (show z3p [Us au.1,xh jf] [Us au.1,xh jf] from inferInstance)),Hq c5,Hq c5]));rcases zI aa with⟨c6,aa⟩|⟨c6,aa⟩
       ·obtain rfl:=za aa;exact yE ((k8 (P:=prog) yw [] (lentCall (xM hC h00 (x:=(au.1,jf)) h10)) 83).or ((k8 (P:=prog) yw [] (lentCall (xM hC h00 (x:=(ak.1,gf)) h8)) 75).or ((k8 (P:=prog) yw [] (lentCall (xM hC h00 (x:=(aj.1,dj)) h6)) 67).or X0))) hC hE (Z4++[Hq c6])
       ·let Z5:List HO:=(Z4++[Hq c6,Ha (lnM F3_ aj.1),Ha (lnM F3_ ak.1),Ha (lnM F3_ au.1)]);rcases zI aa with⟨c7,aa⟩|⟨c7,aa⟩
        ·obtain⟨lf,h11,aa⟩:=zc aa;obtain rfl:=za aa;exact yE ((k8 (P:=prog) yw [] (lentCall (xM hC h00 (x:=(au.1,jf)) h10)) 83).or ((k8 (P:=prog) yw [] (lentCall (xM hC h00 (x:=(ak.1,gf)) h8)) 75).or ((k8 (P:=prog) yw [] (lentCall (xM hC h00 (x:=(aj.1,dj)) h6)) 67).or X0))) hC hE (Z5++[Hq c7,Hc h2n (x:=()) h11 (loN),Hq c7])
        ·obtain rfl:=za aa;exact yE ((k8 (P:=prog) yw [] (lentCall (xM hC h00 (x:=(au.1,jf)) h10)) 83).or ((k8 (P:=prog) yw [] (lentCall (xM hC h00 (x:=(ak.1,gf)) h8)) 75).or ((k8 (P:=prog) yw [] (lentCall (xM hC h00 (x:=(aj.1,dj)) h6)) 67).or X0))) hC hE (Z5++[Hq c7,Hq c7])
theorem zS {l:List zN}{s:zN}(h:((l.map zN.k).contains s.k)=false):∀t∈l,t.k≠s.k:=by
 intro t ht e;have:(l.map zN.k).contains s.k=true:=by rw[nU,<-e];exact List.mem_map_of_mem ht
 rw[h]at this;cases this
theorem zk {l:List zN}{c:Ctr}(H:∀t∈l,c.Has t)(i:Nat){s:zN}(h:l[i]?=some s):c.Has s:=H _ (pO h)
def L0:List zN:=Jb::[]
def L1:List zN:=z0V::L0
def L2:List zN:=KK::L1
def L3:List zN:=J0::L2
def L4:List zN:=Wh::L3
def L5:List zN:=QZ::L4
def L6:List zN:=Xm::L5
def L7:List zN:=Wj::L6
def L8:List zN:=VY::L7
def L9:List zN:=z0R::L8
def L10:List zN:=KL::L9
def L11:List zN:=Wi::L10
def L12:List zN:=z0S::L11
def L13:List zN:=KN::L12
def L14:List zN:=Wg::L13
def L15:List zN:=UW::L14
def L16:List zN:=z2p::L15
def L17:List zN:=UV::L16
def L18:List zN:=z0U::L17
def L19:List zN:=Za::L18
def L20:List zN:=UZ::L19
def L21:List zN:=XC::L20
def L22:List zN:=xR::L21
def L23:List zN:=xq::L22
def L24:List zN:=xH::L23
def L25:List zN:=Wk::L24
def L26:List zN:=Vo::L25
def L27:List zN:=qd::L26
def L28:List zN:=Y7::L27
def L29:List zN:=X5::L28
def L30:List zN:=X4::L29
def L31:List zN:=qR::L30
def L32:List zN:=ue::L31
def L33:List zN:=qA::L32
def L34:List zN:=X3::L33
def L35:List zN:=Vk::L34
def L36:List zN:=QV::L35
def L37:List zN:=ZJ::L36
def L38:List zN:=ud::L37
def L39:List zN:=Wb::L38
def L40:List zN:=Y5::L39
def L41:List zN:=X2::L40
def L42:List zN:=uG::L41
def L43:List zN:=Wa::L42
def L44:List zN:=Vi::L43
def L45:List zN:=wC::L44
def L46:List zN:=yh::L45
def L47:List zN:=KF::L46
def L48:List zN:=QR::L47
def L49:List zN:=UU::L48
def L50:List zN:=uE::L49
def L51:List zN:=vo::L50
def L52:List zN:=VQ::L51
def L53:List zN:=VS::L52
def L54:List zN:=vH::L53
def L55:List zN:=Q1::L54
def L56:List zN:=ZK::L55
def L57:List zN:=qS::L56
def L58:List zN:=z0X::L57
def L59:List zN:=qe::L58
def L60:List zN:=Vj::L59
def L61:List zN:=vp::L60
def L62:List zN:=VR::L61
def L63:List zN:=jM::L62
def L64:List zN:=YB::L63
def L65:List zN:=Xn::L64
def L66:List zN:=Kh::L65
def L67:List zN:=Qg::L66
def L68:List zN:=KG::L67
def L69:List zN:=VU::L68
def L70:List zN:=Qe::L69
def L71:List zN:=z2m::L70
def L72:List zN:=QS::L71
def L73:List zN:=Wl::L72
def L74:List zN:=Y9::L73
def L75:List zN:=Y8::L74
def L76:List zN:=Je::L75
def L77:List zN:=jN::L76
def L78:List zN:=QT::L77
def L79:List zN:=QU::L78
def L80:List zN:=vG::L79
def L81:List zN:=XB::L80
def L82:List zN:=qz::L81
def L83:List zN:=Jd::L82
def L84:List zN:=z0W::L83
def L85:List zN:=KH::L84
def L86:List zN:=KI::L85
def L87:List zN:=VZ::L86
def L88:List zN:=z2r::L87
def L89:List zN:=YC::L88
def L90:List zN:=xz::L89
def L91:List zN:=z4g::L90
def L92:List zN:=Xk::L91
def L93:List zN:=uc::L92
def L94:List zN:=vU::L93
def L95:List zN:=VT::L94
def L96:List zN:=Vn::L95
def L97:List zN:=Ja::L96
def L98:List zN:=Vp::L97
def L99:List zN:=vY::L98
def zCh:List zN:=Xl::L99
def zCg:List zN:=XA::zCh
def zCf:List zN:=Y4::zCg
def zCe:List zN:=z0O::zCf
def zCd:List zN:=Ki::zCe
def zCc:List zN:=Qh::zCd
def zCb:List zN:=W9::zCc
def zCa:List zN:=VX::zCb
def zC9:List zN:=YE::zCa
def zC8:List zN:=qg::zC9
def zC7:List zN:=Kk::zC8
def zC6:List zN:=Wf::zC7
def zC5:List zN:=We::zC6
def zC4:List zN:=uF::zC5
def zC3:List zN:=Vl::zC4
def zC2:List zN:=vZ::zC3
def zC1:List zN:=z2q::zC2
def zC0:List zN:=UY::zC1
def zBZ:List zN:=z0T::zC0
def zBY:List zN:=QY::zBZ
def zBX:List zN:=z0Q::zBY
def zBW:List zN:=Vm::zBX
def zBV:List zN:=VV::zBW
def zBU:List zN:=Kj::zBV
def zBT:List zN:=Wc::zBU
def zBS:List zN:=QX::zBT
def zBR:List zN:=Y6::zBS
def zBQ:List zN:=z6A::zBR
def zBP:List zN:=z0P::zBQ
def zBO:List zN:=Qi::zBP
def zBN:List zN:=z2o::zBO
def zBM:List zN:=KJ::zBN
def zBL:List zN:=z4i::zBM
def zBK:List zN:=VW::zBL
def zBJ:List zN:=YD::zBK
def zBI:List zN:=z4h::zBJ
def zBH:List zN:=z2n::zBI
def zBG:List zN:=Q0::zBH
def zBF:List zN:=KO::zBG
def zDn:List zN:=X6::zBF
theorem zAw:zp prog L0:=⟨λ_ hC H=>zbh hC,zS (by kernel_rfl),trivial⟩
theorem zAv:zp prog L1:=⟨λ_ hC H=>ze0 hC (zk H 0 rfl),zS (by kernel_rfl),zAw⟩
theorem zAu:zp prog L2:=⟨λ_ hC H=>zcC hC,zS (by kernel_rfl),zAv⟩
theorem zAt:zp prog L3:=⟨λ_ hC H=>zbe hC (zk H 0 rfl),zS (by kernel_rfl),zAu⟩
theorem zAs:zp prog L4:=⟨λ_ hC H=>z6u hC,zS (by kernel_rfl),zAt⟩
theorem zAr:zp prog L5:=⟨λ_ hC H=>zbd hC (zk H 1 rfl) (zk H 0 rfl),zS (by kernel_rfl),zAs⟩
theorem zAq:zp prog L6:=⟨λ_ hC H=>z95 hC (zk H 0 rfl),zS (by kernel_rfl),zAr⟩
theorem zAp:zp prog L7:=⟨λ_ hC H=>zdW hC,zS (by kernel_rfl),zAq⟩
theorem zAo:zp prog L8:=⟨λ_ hC H=>zcF hC (zk H 0 rfl),zS (by kernel_rfl),zAp⟩
theorem zAn:zp prog L9:=⟨λ_ hC H=>zdU hC,zS (by kernel_rfl),zAo⟩
theorem zyD:zp prog L10:=⟨λ_ hC H=>zcD hC (zk H 1 rfl) (zk H 0 rfl),zS (by kernel_rfl),zAn⟩
theorem zyC:zp prog L11:=⟨λ_ hC H=>zbf hC (zk H 0 rfl),zS (by kernel_rfl),zyD⟩
theorem zyB:zp prog L12:=⟨λ_ hC H=>zdV hC,zS (by kernel_rfl),zyC⟩
theorem zyA:zp prog L13:=⟨λ_ hC H=>zcE hC (zk H 1 rfl) (zk H 0 rfl),zS (by kernel_rfl),zyB⟩
theorem zyz:zp prog L14:=⟨λ_ hC H=>zbb hC (zk H 7 rfl) (zk H 0 rfl),zS (by kernel_rfl),zyA⟩
theorem zyy:zp prog L15:=⟨λ_ hC H=>z96 hC,zS (by kernel_rfl),zyz⟩
theorem zyx:zp prog L16:=⟨λ_ hC H=>zfL hC (zk H 9 rfl) (zk H 1 rfl) (zk H 0 rfl),zS (by kernel_rfl),zyy⟩
theorem zyw:zp prog L17:=⟨λ_ hC H=>z94 hC (zk H 2 rfl) (zk H 0 rfl),zS (by kernel_rfl),zyx⟩
theorem zyv:zp prog L18:=⟨λ_ hC H=>zdZ hC (zk H 16 rfl) (zk H 0 rfl),zS (by kernel_rfl),zyw⟩
theorem zyu:zp prog L19:=⟨λ_ hC H=>z99 hC,zS (by kernel_rfl),zyv⟩
theorem zyt:zp prog L20:=⟨λ_ hC H=>z9a hC (zk H 0 rfl),zS (by kernel_rfl),zyu⟩
theorem zys:zp prog L21:=⟨λ_ hC H=>z54 hC (zk H 0 rfl),zS (by kernel_rfl),zyt⟩
theorem zyr:zp prog L22:=⟨λ_ hC H=>X7 hC (zk H 0 rfl),zS (by kernel_rfl),zys⟩
theorem zyq:zp prog L23:=⟨λ_ hC H=>ZY hC (zk H 0 rfl),zS (by kernel_rfl),zyr⟩
theorem zyp:zp prog L24:=⟨λ_ hC H=>z87 hC (zk H 0 rfl),zS (by kernel_rfl),zyq⟩
theorem zyo:zp prog L25:=⟨λ_ hC H=>z6v hC,zS (by kernel_rfl),zyp⟩
theorem zyn:zp prog L26:=⟨λ_ hC H=>z86 hC,zS (by kernel_rfl),zyo⟩
theorem zym:zp prog L27:=⟨λ_ hC H=>KB hC,zS (by kernel_rfl),zyn⟩
theorem zyl:zp prog L28:=⟨λ_ hC H=>z3s hC (zk H 1 rfl) (zk H 8 rfl) (zk H 0 rfl),zS (by kernel_rfl),zym⟩
theorem zyk:zp prog L29:=⟨λ_ hC H=>z4d hC (zk H 4 rfl) (zk H 0 rfl),zS (by kernel_rfl),zyl⟩
theorem zyj:zp prog L30:=⟨λ_ hC H=>z4c hC (zk H 0 rfl),zS (by kernel_rfl),zyk⟩
theorem zyi:zp prog L31:=⟨λ_ hC H=>z0a hC,zS (by kernel_rfl),zyj⟩
theorem zyh:zp prog L32:=⟨λ_ hC H=>QN hC (zk H 0 rfl),zS (by kernel_rfl),zyi⟩
theorem zyg:zp prog L33:=⟨λ_ hC H=>z3t hC (zk H 8 rfl) (zk H 0 rfl),zS (by kernel_rfl),zyh⟩
theorem zyf:zp prog L34:=⟨λ_ hC H=>z4b hC (zk H 0 rfl),zS (by kernel_rfl),zyg⟩
theorem zye:zp prog L35:=⟨λ_ hC H=>z81 hC,zS (by kernel_rfl),zyf⟩
theorem zyd:zp prog L36:=⟨λ_ hC H=>zb6 hC,zS (by kernel_rfl),zye⟩
theorem zyc:zp prog L37:=⟨λ_ hC H=>z6s hC (zk H 0 rfl),zS (by kernel_rfl),zyd⟩
theorem zyb:zp prog L38:=⟨λ_ hC H=>z1L hC,zS (by kernel_rfl),zyc⟩
theorem zya:zp prog L39:=⟨λ_ hC H=>z6t hC (zk H 14 rfl) (zk H 3 rfl) (zk H 1 rfl) (zk H 0 rfl),zS (by kernel_rfl),zyb⟩
theorem zy9:zp prog L40:=⟨λ_ hC H=>z3r hC,zS (by kernel_rfl),zya⟩
theorem zy8:zp prog L41:=⟨λ_ hC H=>z4a hC (zk H 1 rfl) (zk H 0 rfl),zS (by kernel_rfl),zy9⟩
theorem zy7:zp prog L42:=⟨λ_ hC H=>z51 hC (zk H 17 rfl) (zk H 16 rfl) (zk H 11 rfl) (zk H 7 rfl) (zk H 0 rfl),zS (by kernel_rfl),zy8⟩
theorem zy6:zp prog L43:=⟨λ_ hC H=>zb3 hC (zk H 0 rfl),zS (by kernel_rfl),zy7⟩
theorem zy5:zp prog L44:=⟨λ_ hC H=>z7W hC,zS (by kernel_rfl),zy6⟩
theorem zy4:zp prog L45:=⟨λ_ hC H=>z1M hC,zS (by kernel_rfl),zy5⟩
theorem zy3:zp prog L46:=⟨λ_ hC H=>z2i hC,zS (by kernel_rfl),zy4⟩
theorem zy2:zp prog L47:=⟨λ_ hC H=>zcq hC (zk H 2 rfl) (zk H 1 rfl) (zk H 0 rfl),zS (by kernel_rfl),zy3⟩
theorem zy1:zp prog L48:=⟨λ_ hC H=>zaY hC (zk H 23 rfl) (zk H 0 rfl),zS (by kernel_rfl),zy2⟩
theorem zy0:zp prog L49:=⟨λ_ hC H=>z90 hC,zS (by kernel_rfl),zy1⟩
theorem zxZ:zp prog L50:=⟨λ_ hC H=>JQ hC (zk H 0 rfl),zS (by kernel_rfl),zy0⟩
theorem zxY:zp prog L51:=⟨λ_ hC H=>US hC (zk H 0 rfl),zS (by kernel_rfl),zxZ⟩
theorem zxX:zp prog L52:=⟨λ_ hC H=>zcp hC (zk H 0 rfl),zS (by kernel_rfl),zxY⟩
theorem zxW:zp prog L53:=⟨λ_ hC H=>zcs hC (zk H 0 rfl),zS (by kernel_rfl),zxX⟩
theorem zxV:zp prog L54:=⟨λ_ hC H=>z0L hC,zS (by kernel_rfl),zxW⟩
theorem zxU:zp prog L55:=⟨λ_ hC H=>z9d hC,zS (by kernel_rfl),zxV⟩
theorem zxT:zp prog L56:=⟨λ_ hC H=>z6x hC (zk H 0 rfl),zS (by kernel_rfl),zxU⟩
theorem zxS:zp prog L57:=⟨λ_ hC H=>z0b hC (zk H 0 rfl),zS (by kernel_rfl),zxT⟩
theorem zxR:zp prog L58:=⟨λ_ hC H=>ze2 hC,zS (by kernel_rfl),zxS⟩
theorem zxQ:zp prog L59:=⟨λ_ hC H=>z8Z hC (zk H 2 rfl) (zk H 1 rfl) (zk H 0 rfl),zS (by kernel_rfl),zxR⟩
theorem zxP:zp prog L60:=⟨λ_ hC H=>z7X hC (zk H 0 rfl),zS (by kernel_rfl),zxQ⟩
theorem zxO:zp prog L61:=⟨λ_ hC H=>UT hC (zk H 0 rfl),zS (by kernel_rfl),zxP⟩
theorem zxN:zp prog L62:=⟨λ_ hC H=>zcr hC,zS (by kernel_rfl),zxO⟩
theorem zxM:zp prog L63:=⟨λ_ hC H=>zaZ hC (zk H 8 rfl) (zk H 3 rfl) (zk H 1 rfl) (zk H 0 rfl) (zk H 17 rfl) (zk H 16 rfl),zS (by kernel_rfl),zxN⟩
theorem zxL:zp prog L64:=⟨λ_ hC H=>zdN hC (zk H 10 rfl) (zk H 0 rfl),zS (by kernel_rfl),zxM⟩
theorem zxK:zp prog L65:=⟨λ_ hC H=>z9c hC (zk H 31 rfl) (zk H 16 rfl) (zk H 0 rfl),zS (by kernel_rfl),zxL⟩
theorem zxJ:zp prog L66:=⟨λ_ hC H=>zfF hC (zk H 2 rfl) (zk H 19 rfl),zS (by kernel_rfl),zxK⟩
theorem zxI:zp prog L67:=⟨λ_ hC H=>zdM hC (zk H 0 rfl),zS (by kernel_rfl),zxJ⟩
theorem zxH:zp prog L68:=⟨λ_ hC H=>zct hC (zk H 8 rfl),zS (by kernel_rfl),zxI⟩
theorem zxG:zp prog L69:=⟨λ_ hC H=>zcw hC (zk H 15 rfl) (zk H 0 rfl) (zk H 6 rfl),zS (by kernel_rfl),zxH⟩
theorem zxF:zp prog L70:=⟨λ_ hC H=>zdL hC (zk H 0 rfl),zS (by kernel_rfl),zxG⟩
theorem zxE:zp prog L71:=⟨λ_ hC H=>zfE hC,zS (by kernel_rfl),zxF⟩
theorem zxD:zp prog L72:=⟨λ_ hC H=>zb0 hC (zk H 1 rfl) (zk H 25 rfl) (zk H 0 rfl) (zk H 8 rfl),zS (by kernel_rfl),zxE⟩
theorem zxC:zp prog L73:=⟨λ_ hC H=>z6w hC (zk H 7 rfl) (zk H 5 rfl) (zk H 0 rfl),zS (by kernel_rfl),zxD⟩
theorem zxB:zp prog L74:=⟨λ_ hC H=>z3u hC (zk H 0 rfl),zS (by kernel_rfl),zxC⟩
theorem zxA:zp prog L75:=⟨λ_ hC H=>zbj hC,zS (by kernel_rfl),zxB⟩
theorem zxz:zp prog L76:=⟨λ_ hC H=>zbk hC,zS (by kernel_rfl),zxA⟩
theorem zxy:zp prog L77:=⟨λ_ hC H=>z7Z hC,zS (by kernel_rfl),zxz⟩
theorem zxx:zp prog L78:=⟨λ_ hC H=>zb4 hC (zk H 53 rfl) (zk H 0 rfl),zS (by kernel_rfl),zxy⟩
theorem zxw:zp prog L79:=⟨λ_ hC H=>zb5 hC,zS (by kernel_rfl),zxx⟩
theorem zxv:zp prog L80:=⟨λ_ hC H=>z0K hC,zS (by kernel_rfl),zxw⟩
theorem zxu:zp prog L81:=⟨λ_ hC H=>z4X hC (zk H 1 rfl) (zk H 0 rfl) (zk H 34 rfl),zS (by kernel_rfl),zxv⟩
theorem zxt:zp prog L82:=⟨λ_ hC H=>z6r hC (zk H 3 rfl) (zk H 0 rfl) (zk H 36 rfl) (zk H 35 rfl),zS (by kernel_rfl),zxu⟩
theorem zxs:zp prog L83:=⟨λ_ hC H=>zbi hC (zk H 7 rfl) (zk H 6 rfl) (zk H 0 rfl) (zk H 18 rfl),zS (by kernel_rfl),zxt⟩
theorem zxr:zp prog L84:=⟨λ_ hC H=>ze1 hC (zk H 41 rfl) (zk H 0 rfl),zS (by kernel_rfl),zxs⟩
theorem zxq:zp prog L85:=⟨λ_ hC H=>zcv hC (zk H 18 rfl),zS (by kernel_rfl),zxr⟩
theorem zxp:zp prog L86:=⟨λ_ hC H=>zcx hC,zS (by kernel_rfl),zxq⟩
theorem zxo:zp prog L87:=⟨λ_ hC H=>zcH hC,zS (by kernel_rfl),zxp⟩
theorem zxn:zp prog L88:=⟨λ_ hC H=>zfN hC (zk H 45 rfl) (zk H 12 rfl) (zk H 0 rfl) (zk H 5 rfl) (zk H 23 rfl),zS (by kernel_rfl),zxo⟩
theorem zxm:zp prog L89:=⟨λ_ hC H=>z7Y hC (zk H 23 rfl) (zk H 14 rfl) (zk H 4 rfl) (zk H 21 rfl) (zk H 3 rfl) (zk H 2 rfl) (zk H 0 rfl),zS (by kernel_rfl),zxn⟩
theorem zxl:zp prog L90:=⟨λ_ hC H=>Ys hC (zk H 30 rfl),zS (by kernel_rfl),zxm⟩
theorem zxk:zp prog L91:=⟨λ_ hC H=>zi9 hC (zk H 0 rfl),zS (by kernel_rfl),zxl⟩
theorem zxj:zp prog L92:=⟨λ_ hC H=>z91 hC (zk H 0 rfl),zS (by kernel_rfl),zxk⟩
theorem zxi:zp prog L93:=⟨λ_ hC H=>QM hC (zk H 0 rfl),zS (by kernel_rfl),zxj⟩
theorem zxh:zp prog L94:=⟨λ_ hC H=>Qb hC (zk H 0 rfl) (zk H 1 rfl),zS (by kernel_rfl),zxi⟩
theorem zxg:zp prog L95:=⟨λ_ hC H=>zcu hC (zk H 24 rfl) (zk H 40 rfl) (zk H 0 rfl) (zk H 31 rfl),zS (by kernel_rfl),zxh⟩
theorem zxf:zp prog L96:=⟨λ_ hC H=>z85 hC (zk H 71 rfl),zS (by kernel_rfl),zxg⟩
theorem zxe:zp prog L97:=⟨λ_ hC H=>zbg hC (zk H 77 rfl),zS (by kernel_rfl),zxf⟩
theorem zxd:zp prog L98:=⟨λ_ hC H=>z88 hC (zk H 1 rfl) (zk H 45 rfl) (zk H 0 rfl),zS (by kernel_rfl),zxe⟩
theorem zxc:zp prog L99:=⟨λ_ hC H=>z48 hC (zk H 0 rfl),zS (by kernel_rfl),zxd⟩
theorem ztA:zp prog zCh:=⟨λ_ hC H=>z92 hC (zk H 4 rfl) (zk H 0 rfl),zS (by kernel_rfl),zxc⟩
theorem ztz:zp prog zCg:=⟨λ_ hC H=>z4W hC (zk H 54 rfl),zS (by kernel_rfl),ztA⟩
theorem zty:zp prog zCf:=⟨λ_ hC H=>zb1 hC (zk H 58 rfl) (zk H 12 rfl) (zk H 1 rfl) (zk H 0 rfl) (zk H 32 rfl),zS (by kernel_rfl),ztz⟩
theorem ztx:zp prog zCe:=⟨λ_ hC H=>zia hC (zk H 0 rfl),zS (by kernel_rfl),zty⟩
theorem ztw:zp prog zCd:=⟨λ_ hC H=>zfG hC (zk H 1 rfl),zS (by kernel_rfl),ztx⟩
theorem ztv:zp prog zCc:=⟨λ_ hC H=>zdO hC (zk H 2 rfl),zS (by kernel_rfl),ztw⟩
theorem ztu:zp prog zCb:=⟨λ_ hC H=>zb2 hC (zk H 62 rfl) (zk H 16 rfl) (zk H 5 rfl),zS (by kernel_rfl),ztv⟩
theorem ztt:zp prog zCa:=⟨λ_ hC H=>zcB hC,zS (by kernel_rfl),ztu⟩
theorem zts:zp prog zC9:=⟨λ_ hC H=>zdQ hC (zk H 0 rfl),zS (by kernel_rfl),ztt⟩
theorem ztr:zp prog zC8:=⟨λ_ hC H=>z93 hC,zS (by kernel_rfl),zts⟩
theorem ztq:zp prog zC7:=⟨λ_ hC H=>zfJ hC (zk H 0 rfl),zS (by kernel_rfl),ztr⟩
theorem ztp:zp prog zC6:=⟨λ_ hC H=>zdR hC (zk H 0 rfl),zS (by kernel_rfl),ztq⟩
theorem zto:zp prog zC5:=⟨λ_ hC H=>zb7 hC (zk H 100 rfl) (zk H 0 rfl),zS (by kernel_rfl),ztp⟩
theorem ztn:zp prog zC4:=⟨λ_ hC H=>zba hC (zk H 2 rfl),zS (by kernel_rfl),zto⟩
theorem ztm:zp prog zC3:=⟨λ_ hC H=>z83 hC (zk H 1 rfl) (zk H 5 rfl) (zk H 0 rfl),zS (by kernel_rfl),ztn⟩
theorem ztl:zp prog zC2:=⟨λ_ hC H=>z49 hC (zk H 0 rfl),zS (by kernel_rfl),ztm⟩
theorem ztk:zp prog zC1:=⟨λ_ hC H=>zfM hC (zk H 108 rfl),zS (by kernel_rfl),ztl⟩
theorem ztj:zp prog zC0:=⟨λ_ hC H=>z98 hC,zS (by kernel_rfl),ztk⟩
theorem zti:zp prog zBZ:=⟨λ_ hC H=>zdX hC (zk H 0 rfl),zS (by kernel_rfl),ztj⟩
theorem zth:zp prog zBY:=⟨λ_ hC H=>zbc hC (zk H 2 rfl) (zk H 0 rfl),zS (by kernel_rfl),zti⟩
theorem ztg:zp prog zBX:=⟨λ_ hC H=>zdT hC,zS (by kernel_rfl),zth⟩
theorem ztf:zp prog zBW:=⟨λ_ hC H=>z84 hC (zk H 1 rfl) (zk H 0 rfl),zS (by kernel_rfl),ztg⟩
theorem zte:zp prog zBV:=⟨λ_ hC H=>zcy hC (zk H 0 rfl) (zk H 10 rfl),zS (by kernel_rfl),ztf⟩
theorem ztd:zp prog zBU:=⟨λ_ hC H=>zfI hC (zk H 0 rfl),zS (by kernel_rfl),zte⟩
theorem ztc:zp prog zBT:=⟨λ_ hC H=>zdP hC,zS (by kernel_rfl),ztd⟩
theorem ztb:zp prog zBS:=⟨λ_ hC H=>zb8 hC (zk H 15 rfl),zS (by kernel_rfl),ztc⟩
theorem zta:zp prog zBR:=⟨λ_ hC H=>zb9 hC (zk H 0 rfl),zS (by kernel_rfl),ztb⟩
theorem zt9:zp prog zBQ:=⟨λ_ hC H=>zjj hC (zk H 18 rfl) (zk H 11 rfl) (zk H 13 rfl) (zk H 3 rfl) (zk H 2 rfl) (zk H 0 rfl),zS (by kernel_rfl),zta⟩
theorem zt8:zp prog zBP:=⟨λ_ hC H=>zdS hC (zk H 18 rfl),zS (by kernel_rfl),zt9⟩
theorem zt7:zp prog zBO:=⟨λ_ hC H=>zdY hC (zk H 0 rfl),zS (by kernel_rfl),zt8⟩
theorem zt6:zp prog zBN:=⟨λ_ hC H=>zfK hC (zk H 20 rfl),zS (by kernel_rfl),zt7⟩
theorem zt5:zp prog zBM:=⟨λ_ hC H=>zcA hC (zk H 0 rfl),zS (by kernel_rfl),zt6⟩
theorem zt4:zp prog zBL:=⟨λ_ hC H=>zic hC (zk H 9 rfl),zS (by kernel_rfl),zt5⟩
theorem zt3:zp prog zBK:=⟨λ_ hC H=>zcz hC (zk H 21 rfl),zS (by kernel_rfl),zt4⟩
theorem zt2:zp prog zBJ:=⟨λ_ hC H=>z82 hC (zk H 125 rfl) (zk H 1 rfl) (zk H 9 rfl) (zk H 20 rfl) (zk H 0 rfl),zS (by kernel_rfl),zt3⟩
theorem zt1:zp prog zBI:=⟨λ_ hC H=>zib hC (zk H 22 rfl) (zk H 19 rfl) (zk H 3 rfl) (zk H 26 rfl) (zk H 21 rfl) (zk H 11 rfl) (zk H 10 rfl) (zk H 27 rfl) (zk H 0 rfl) (zk H 1 rfl) (zk H 8 rfl),zS (by kernel_rfl),zt2⟩
theorem zt0:zp prog zBH:=⟨λ_ hC H=>zfH hC (zk H 27 rfl) (zk H 20 rfl) (zk H 22 rfl) (zk H 1 rfl) (zk H 9 rfl),zS (by kernel_rfl),zt1⟩
theorem zsZ:zp prog zBG:=⟨λ_ hC H=>z9b hC,zS (by kernel_rfl),zt0⟩
theorem zsY:zp prog zBF:=⟨λ_ hC H=>zcG hC (zk H 0 rfl) (zk H 34 rfl) (zk H 33 rfl) (zk H 32 rfl) (zk H 8 rfl) (zk H 31 rfl),zS (by kernel_rfl),zsZ⟩
theorem zsX:zp prog zDn:=⟨λ_ hC H=>z4e hC (zk H 120 rfl) (zk H 35 rfl) (zk H 34 rfl) (zk H 33 rfl) (zk H 32 rfl) (zk H 11 rfl) (zk H 9 rfl) (zk H 3 rfl) (zk H 2 rfl) (zk H 0 rfl),zS (by kernel_rfl),zsY⟩
theorem zJ {x:Int}(h1:-9223372036854775808<=x)(h2:x<=9223372036854775807):w64 x=x:=by simp only[w64,IntKind.wrap,IntKind.bits,IntKind.signed];simp;omega
variable {k:Nat}
section
variable {α β σ τ ρ:Type}
def Ret (x:Option α)(Q:α->Prop):Prop:=∃a,x=some a/\Q a
theorem Ret.mono {x:Option α}{Q R:α->Prop}(h:Ret x Q)(q:∀a,Q a->R a):Ret x R:=by obtain⟨a,e,h⟩:=h;exact⟨a,e,q a h⟩
theorem Ret.eq {x:Option α}{a:α}(h:Ret x λb=>b=a):x=some a:=by obtain⟨b,e,rfl⟩:=h;exact e
theorem ze {a:α}{Q:α->Prop}:Ret (some a) Q↔Q a:=⟨λ⟨b,e,q⟩=>by cases e;exact q,λq=>⟨a,rfl,q⟩⟩
theorem zt {x:Option α}{f:α->Option β}{Q:β->Prop}:Ret (Option.bind x f) Q↔Ret x λa=>Ret (f a) Q:=by
 cases x with
 | none=>exact⟨λ⟨b,e,_⟩=>(by cases e),λ⟨b,e,_⟩=>(by cases e)⟩
 | some a=>exact⟨λh=>⟨a,rfl,h⟩,λ⟨b,e,h⟩=>by cases e;exact h⟩
theorem Ux {p:Prop}[Decidable p]{x:Option α}{Q:α->Prop}:Ret (gd p x) Q↔p/\Ret x Q:=by
 unfold gd;by_cases h:p
 ·rw[if_pos h];exact⟨λq=>⟨h,q⟩,λq=>q.2⟩
 ·rw[if_neg h];exact⟨λ⟨b,e,_⟩=>by(cases e),λq=>(h q.1).elim⟩
theorem zG {c:Bool}{x y:Option α}{Q:α->Prop}:Ret (bif c then x else y) Q↔(c=true->Ret x Q)/\(c=false->Ret y Q):=by cases c <;> simp
theorem zg7 {l:List α}{i:Int}{Q:α->Prop}:Ret (idx l i) Q↔0<=i/\∃x,l[i.toNat]?=some x/\Q x:=by
 cases i with
 | ofNat n=>show(∃a,l[n]?=some a/\Q a)↔_;simp
 | negSucc n=>exact⟨λ⟨b,e,_⟩=>by(cases e),λ⟨h,_⟩=>by omega⟩
theorem y6 (l:List α)(i:Nat):idx l (i:Int)=l[i]?:=rfl
theorem gdT {p:Prop}[Decidable p]{x:Option α}(h:p):gd p x=x:=by unfold gd;rw[if_pos h]
theorem bdT {x:Option α}{u:α}{f:α->Option ρ}(h:x=some u):Option.bind x f=f u:=by rw[h];rfl
theorem QG (step:σ->Option (LR σ τ))(n:Nat)(s:σ):z3x step (n+1) s=(match step s with|none=>none|some (.next s')=>z3x step n s'|some (.done t)=>some t):=rfl
def LRP (N:σ->Prop)(D:τ->Prop):LR σ τ->Prop
 | .next s=>N s
 | .done t=>D t
theorem zQ {step:σ->Option (LR σ τ)}(I:σ->Prop)(m:σ->Nat){R:τ->Prop}{s:σ}(hs:I s)(hm:m s<18446744073709551616)
  (h:∀s,I s->Ret (step s) (LRP (λs'=>I s'/\m s' < m s) R)):Ret (loop step s) R:=by
 have gen:∀(n:Nat) (s:σ),I s->m s<n->Ret (z3x step n s) R:=by
  intro n;induction n with
  | zero=>intro s _ h;omega
  | succ n ih=>
   intro s hs hm;obtain⟨a,e,q⟩:=h s hs;rw[QG,e];cases a with
   | next s'=>exact ih s' q.1 (by have:=q.2;omega)
   | done t=>exact⟨t,rfl,q⟩
 exact gen z1O s hs hm
theorem ww {step:σ->Option (LR σ τ)}(st:Nat->σ)(n:Nat){t:τ}(hn:n<9223372036854775808)(h:∀i,i<n->step (st i)=some (.next (st (i+1))))(hd:step (st n)=some (.done t)):loop step (st 0)=some t:=by
 have gen:∀(k:Nat) (i:Nat),i<=n->n - i<k->z3x step k (st i)=some t:=by
  intro k;induction k with
  | zero=>intro i _ h;omega
  | succ k ih=>
   intro i hi hk;rw[QG];rcases pH i n with q|q
   ·rw[h i q];exact ih (i+1) q (by omega)
   ·have:i=n:=by omega
    subst this;rw[hd]
 exact gen z1O 0 (pT _) (by show n - 0<18446744073709551616;omega)
def yI (f:Nat->α->Option ρ):List α->Nat->Option ρ
 | [],_=>none
 | x::l,i=>match f i x with|some r=>some r|none=>yI f l (i+1)
theorem z1f {f:Nat->α->Option ρ}:∀{l:List α} {k:Nat},(∀i x,l[i]?=some x->f (k+i) x=none)->yI f l k=none
 | [],_,_=>rfl
 | x::l,k,h=>by have h0:=h 0 x rfl;simp only[mY]at h0;simp only[yI,h0];exact z1f λi y hy=>by have:=h (i+1) y (by simpa using hy);rwa[show k+1+i=k+(i+1) by omega]
theorem kT {f:Nat->α->Option ρ}{r:ρ}:∀{l:List α} {k:Nat},yI f l k=some r->∃i x,l[i]?=some x/\f (k+i) x=some r
 | [],_,h=>by cases h
 | x::l,k,h=>by
  simp only[yI]at h;cases hf:f k x with
  | some r'=>rw[hf]at h;exact⟨0,x,rfl,by rw[mY,hf];exact h⟩
  | none=>rw[hf]at h;obtain⟨i,y,h1,h2⟩:=kT h;exact⟨i+1,y,by simpa using h1,by rw[<-h2];congr 1;omega⟩
theorem kU {f:Nat->α->Option ρ}{l:List α}  (h:yI f l k=none):∀i x,l[i]?=some x->f (k+i) x=none:=by
 induction l generalizing k with
 | nil=>intro i x h;simp at h
 | cons y l ih=>
  intro i x hx;simp only[yI]at h;cases hf:f k y with
  | some r'=>rw[hf]at h;cases h
  | none=>
   rw[hf]at h;cases i with
   | zero=>simp at hx;subst hx;simpa using hf
   | succ i=>have:=ih h i x (by simpa using hx);rwa[show k+(i+1)=k+1+i by omega]
def oS:Option ρ->Unit⊕ρ
 | some r=>.inr r
 | none=>.inl ()
def nS (i:Nat):Option ρ->LR Int (Unit⊕ρ)
 | some r=>.done (.inr r)
 | none=>.next (w64 ((i:Int)+1))
theorem u7 (l:List α)(hl:l.length<4611686018427387904){step:Int->Option (LR Int (Unit⊕ρ))}(f:Nat->α->Option ρ)
  (h:∀(i:Nat) (x:α),l[i]?=some x->step (i:Int)=some (nS i (f i x))) (h2:step (l.length:Int)=some (.done (.inl ()))) :
  loop step 0=some (oS (yI f l 0)):=by
 have gen:∀(n:Nat) (k:Nat),k<=l.length->l.length - k<n->z3x step n (k:Int)=some (oS (yI f (l.drop k) k)):=by
  intro n;induction n with
  | zero=>intro k _ h;omega
  | succ n ih=>
   intro k hk hn;rw[QG];rcases pH k l.length with hlt|hge
   ·have hx:l[k]?=some l[k]:=p7 hlt;rw[h k _ hx,mB hlt];simp only[yI];cases hf:f k l[k] with
    | some r=>rfl
    | none=>simp only[nS];rw[zJ (by omega) (by omega)];exact ih (k+1) hlt (by omega)
   ·have:k=l.length:=by omega
    subst this;rw[h2,List.drop_length];rfl
 exact gen z1O 0 (pT _) (by show l.length - 0<18446744073709551616;omega)
end
section
variable {S:Type}
def rv (k:Nat):List Nat->Nat
 | []=>0
 | i::u=>rv k u*k+i+1
def zmo (k:Nat)(bad:S->Nat->Bool)(nx:S->Nat->Option S)(p0:S):List Nat->S->Prop
 | [],q=>q=p0
 | i::u,q=>∃p,zmo k bad nx p0 u p/\i<k/\bad p i=false/\nx p i=some q
def z5F (k:Nat)(bad:S->Nat->Bool)(nx:S->Nat->Option S):S->List Nat->Prop
 | _,[]=>False
 | p,[i]=>i<k/\bad p i=true
 | p,i::w=>i<k/\bad p i=false/\∃q,nx p i=some q/\z5F k bad nx q w
structure Bfs (k:Nat)(bad:S->Nat->Bool)(nx:S->Nat->Option S)(p0:S)(L:List (S×List Nat))(at_ i:Nat):Prop where
 first:L[0]?=some (p0,[])
 mono:∀(j j':Nat) (a b:S×List Nat),j<j'->L[j]?=some a->L[j']?=some b->rv k a.2<rv k b.2
 path:∀a∈L,zmo k bad nx p0 a.2 a.1
 ahead:∀a c,L[at_]?=some c->a∈L->rv k a.2<rv k c.2*k+i+1
 pos:i<=k
 lies:at_<=L.length
 fin:at_=L.length->i=0
 short:∀(j:Nat) (a:S×List Nat),L[j]?=some a->a.2.length<=j
 seen:∀(j x:Nat) (a:S×List Nat),L[j]?=some a->x<k->(j<at_\/j=at_/\x<i)->bad a.1 x=false/\∀q,nx a.1 x=some q->∃b∈L,b.1=q/\rv k b.2<=rv k a.2*k+x+1
variable {k:Nat}{bad:S->Nat->Bool}{nx:S->Nat->Option S}{p0:S}
theorem Bfs.start:Bfs k bad nx p0 [(p0,[])] 0 0:={
 first:=rfl
 mono:=by intro j j' a b h h1 h2;have:=(p8.1 h2).1;simp at this;omega
 path:=by intro a ha;simp at ha;subst ha;rfl
 ahead:=by intro a c _ ha;simp at ha;subst ha;simp[rv]
 pos:=pT _
 lies:=by simp
 fin:=by intro;rfl
 short:=by intro j a h;have:=(p8.1 h).1;simp at this;subst this;simp at h;subst h;simp
 seen:=by rintro j x a h _ (q|⟨_,q⟩) <;> omega }
theorem Bfs.old {L:List (S×List Nat)}{a i:Nat}(h:Bfs k bad nx p0 L a i){c:S×List Nat}(hc:L[a]?=some c)(hi:i<k)(hb:bad c.1 i=false)
  (hn:∀q,nx c.1 i=some q->∃b∈L,b.1=q):Bfs k bad nx p0 L a (i+1):={
 first:=h.first
 mono:=h.mono
 path:=h.path
 ahead:=λx y hy hx=>by have:=h.ahead x y hy hx;omega
 pos:=hi
 lies:=h.lies
 fin:=λe=>by have:=(p8.1 hc).1;omega
 short:=h.short
 seen:=by
  intro j x y hy hx q;by_cases e:j=a/\x=i
  ·obtain⟨rfl,rfl⟩:=e;rw[hc]at hy;cases hy;refine⟨hb,λq hq=>?_⟩;obtain⟨b,h1,h2⟩:=hn q hq;exact⟨b,h1,h2,by have:=h.ahead b c hc h1;omega⟩
  ·exact h.seen j x y hy hx (by omega) }
theorem Bfs.new {L:List (S×List Nat)}{a i:Nat}(h:Bfs k bad nx p0 L a i){c:S×List Nat}(hc:L[a]?=some c)(hi:i<k)(hb:bad c.1 i=false){q:S}
  (hn:nx c.1 i=some q):Bfs k bad nx p0 (L++[(q,i::c.2)]) a (i+1):=by
 have hlt:=(p8.1 hc).1;refine⟨?_,?_,?_,?_,hi,by simp;omega,λe=>by simp at e;omega,?_,?_⟩
 ·rw[pG (by omega)];exact h.first
 ·intro j j' x y hj h1 h2;have hl:=(p8.1 h2).1;simp at hl;rw[pG (by omega)]at h1;rcases pH j' L.length with g|g
  ·rw[pG g]at h2;exact h.mono j j' x y hj h1 h2
  ·have:j'=L.length:=by omega
   subst this;simp at h2;subst h2;exact h.ahead x c hc (pO h1)
 ·intro x hx;rcases pA.1 hx with g|g
  ·exact h.path x g
  ·simp at g;subst g;exact⟨c.1,h.path c (pO hc),hi,hb,hn⟩
 ·intro x y hy hx;rw[pG hlt]at hy;rcases pA.1 hx with g|g
  ·have:=h.ahead x y hy g;omega
  ·simp at g;subst g;rw[hc]at hy;cases hy;simp[rv]
 ·intro j y hy;rcases pH j L.length with g|g
  ·rw[pG g]at hy;exact h.short j y hy
  ·have hl:=(p8.1 hy).1;simp at hl;have:j=L.length:=by omega
   subst this;simp at hy;subst hy;have:=h.short a c hc;simp;omega
 ·intro j x y hy hx g;rw[pG (by omega)]at hy;by_cases e:j=a/\x=i
  ·obtain⟨rfl,rfl⟩:=e;rw[hc]at hy;cases hy;refine⟨hb,λq' hq=>?_⟩;rw[hn]at hq;cases hq;exact⟨(q,x::c.2),by simp,rfl,pC _⟩
  ·obtain⟨h1,h2⟩:=h.seen j x y hy hx (by omega);refine⟨h1,λq' hq=>?_⟩;obtain⟨b,g1,g2⟩:=h2 q' hq;exact⟨b,ri _ g1,g2⟩
theorem Bfs.step {L:List (S×List Nat)}{a:Nat}(h:Bfs k bad nx p0 L a k)(ha:a<L.length):Bfs k bad nx p0 L (a+1) 0:={
 first:=h.first
 mono:=h.mono
 path:=h.path
 ahead:=by intro x c hc hx;have h1:=h.ahead x _ (p7 ha) hx;have h2:=h.mono a (a+1) _ _ (by omega) (p7 ha) hc;have h3:(rv k L[a].2+1)*k<=rv k c.2*k:=gF _ h2;rw[rq]at h3;omega
 pos:=pT _
 lies:=ha
 fin:=λ_=>rfl
 short:=h.short
 seen:=λj x b hb hx g=>h.seen j x b hb hx (by rcases g with g|⟨_,g⟩ <;> omega) }
theorem Bfs.reach {L:List (S×List Nat)}{a i:Nat}(h:Bfs k bad nx p0 L a i):∀(u:List Nat) (q:S),zmo k bad nx p0 u q->(∀c,L[a]?=some c->rv k u<rv k c.2*k+i+1)->∃(j:Nat) (b:S×List Nat),L[j]?=some b/\b.1=q/\rv k b.2<=rv k u
 | [],q,hp,_=>⟨0,_,h.first,hp.symm,pT _⟩
 | x::u,q,⟨p,hp,hx,hb,hn⟩,hlt=>by
  have hk:rv k u<=rv k u*k:=Nat.le_mul_of_pos_right _ (by omega);obtain⟨j,b,hj,rfl,hr⟩:=h.reach u p hp λc hc=>by have:=hlt c hc;simp only[rv]at this;omega
  have hmul:rv k b.2*k<=rv k u*k:=gF _ hr;have hjl:=(p8.1 hj).1;have hpos:j<a\/j=a/\x<i:=by
   rcases nD j a with g|g|g
   ·exact .inl g
   ·subst g;refine .inr ⟨rfl,?_⟩;have:=hlt b hj;simp only[rv]at this;omega
   ·exfalso;have hal:a<L.length:=by omega
    have h1:=hlt _ (p7 hal);have h2:=h.mono a j _ _ g (p7 hal) hj;have h3:(rv k L[a].2+1)*k<=rv k b.2*k:=gF _ h2;rw[rq]at h3;have:=h.pos;simp only[rv]at h1;omega
  obtain⟨_,h2⟩:=h.seen j x b hj hx hpos;obtain⟨c,g1,g2,g3⟩:=h2 q hn;obtain⟨j',g4⟩:=rj g1;exact⟨j',c,g4,g2,by simp only[rv];omega⟩
def zj2:List Nat->List Nat->Prop
 | [],_=>True
 | i::u,j::v=>i<j\/i=j/\zj2 u v
 | _::_,[]=>False
theorem z9i:∀{w:List Nat} {p:S},z5F k bad nx p w->∀x∈w,x<k
 | [],_,h=>h.elim
 | [i],_,h=>by simpa using h.1
 | i::j::w,_,⟨hi,_,q,_,h⟩=>by
  intro x hx;rcases pD.1 hx with rfl|hx
  ·exact hi
  ·exact z9i h x hx
def Mk (k:Nat)(bad:S->Nat->Bool)(nx:S->Nat->Option S):Nat->S->Prop
 | 0,_=>False
 | n+1,p=>Mk k bad nx n p\/∃i,i<k/\(bad p i=true\/∃q,nx p i=some q/\Mk k bad nx n q)
theorem Mk.mono {n m:Nat}{p:S}(h:Mk k bad nx n p)(hm:n<=m):Mk k bad nx m p:=by
 induction hm with
 | refl=>exact h
 | step _ ih=>exact .inl ih
theorem Mk.tell:∀{n:Nat} {p:S},Mk k bad nx n p->∃w,z5F k bad nx p w/\w.length<=n
 | 0,_,h=>h.elim
 | n+1,p,.inl h=>by obtain⟨w,h1,h2⟩:=Mk.tell h;exact⟨w,h1,by omega⟩
 | n+1,p,.inr ⟨i,hi,h⟩=>by
  by_cases hb:bad p i=true
  ·exact⟨[i],⟨hi,hb⟩,by simp⟩
  ·rcases h with h|⟨q,hq,h⟩
   ·exact(hb h).elim
   ·obtain⟨w,h1,h2⟩:=Mk.tell h;refine⟨i::w,?_,by simp;omega⟩;cases w with
    | nil=>exact h1.elim
    | cons j w=>exact⟨hi,by simpa using hb,q,hq,h1⟩
theorem z0M:∀{w:List Nat} {p:S},z5F k bad nx p w->Mk k bad nx w.length p
 | [],_,h=>h.elim
 | [i],p,h=>.inr ⟨i,h.1,.inl h.2⟩
 | i::j::w,p,⟨hi,hb,q,hn,h⟩=>.inr ⟨i,hi,.inr ⟨q,hn,z0M h⟩⟩
end
variable {α:Type}
theorem za9 {p q:α->Bool}:∀{l:List α},(∀x∈l,p x=true->q x=true)->(∃x∈l,q x=true/\p x=false)->l.countP p<l.countP q
 | [],_,⟨x,hx,_⟩=>by cases hx
 | y::l,h,⟨x,hx,h1,h2⟩=>by
  have hm:l.countP p<=l.countP q:=List.countP_mono_left λz hz=>h z (nF _ hz);simp only[rQ];rcases pD.1 hx with rfl|hx
  ·simp only[h1,h2,if_true,gG,if_false];omega
  ·have:=za9 (λz hz=>h z (nF _ hz)) ⟨x,hx,h1,h2⟩;cases hp:p y with
   | true=>simp only[h y (by simp) hp,if_true];omega
   | false=>simp only[gG,if_false];split <;> omega
open Classical in
def zq0 (N:Nat)(R:Nat->Nat->Prop):Nat:=(List.range N).countP λs=>decide (∀t,t<s->¬R s t)
theorem zCt {N:Nat}(hN:0<N)(R:Nat->Nat->Nat->Prop)(symm:∀k s t,s<N->t<N->R k s t->R k t s)(trans:∀k s t u,s<N->t<N->u<N->R k s t->R k t u->R k s u)
  (refl:∀k s,s<N->R k s s) (mono:∀k s t,s<N->t<N->R (k+1) s t->R k s t) (stat:∀k,(∀s t,s<N->t<N->R k s t->R (k+1) s t)->∀s t,s<N->t<N->R (k+1) s t->R (k+2) s t) :
  ∀s t,s<N->t<N->R (N - 1) s t->∀j,R j s t:=by
 classical
 have step:∀k,(¬∀s t,s<N->t<N->R k s t->R (k+1) s t)->zq0 N (R k)<zq0 N (R (k+1)):=by
  intro k hk;simp only[Classical.not_forall]at hk;obtain⟨s,t,hs,ht,h1,h2⟩:=hk;unfold zq0;refine za9 (λx hx=>?_) ?_
  ·have hx:=gU.1 hx;simp only[decide_eq_true_eq];exact λh t ht q=>h t ht (mono k x t hx (by omega) q)
  ·
   have hmin:∃z,z<N/\R k z s/\∀y,y<z->¬R k y s:=by
    have key:∀n,∀z,z<=n->z<N->R k z s->∃z,z<N/\R k z s/\∀y,y<z->¬R k y s:=by
     intro n;induction n with
     | zero=>intro z hz hzN hr;exact⟨z,hzN,hr,λy hy=>by omega⟩
     | succ n ih=>
      intro z hz hzN hr;by_cases q:∃y,y<z/\R k y s
      ·obtain⟨y,y1,y2⟩:=q;exact ih y (by omega) (by omega) y2
      ·exact⟨z,hzN,hr,λy hy g=>q ⟨y,hy,g⟩⟩
    exact key s s (pC _) hs (refl k s hs)
   obtain⟨z,hz,hzs,hzm⟩:=hmin;have hzt:R k z t:=trans k z s t hz hs ht hzs h1;obtain⟨u,hu,hzu,hne⟩:∃u,u<N/\R k z u/\¬R (k+1) z u:=by
    by_cases q:R (k+1) z s
    ·by_cases g:R (k+1) z t
     ·exact(h2 (trans (k+1) s z t hs hz ht (symm _ _ _ hz hs q) g)).elim
     ·exact⟨t,ht,hzt,g⟩
    ·exact⟨s,hs,hzs,q⟩
   have hmin:∃y,y<N/\R (k+1) y u/\∀x,x<y->¬R (k+1) x u:=by
    have key:∀n,∀z,z<=n->z<N->R (k+1) z u->∃z,z<N/\R (k+1) z u/\∀y,y<z->¬R (k+1) y u:=by
     intro n;induction n with
     | zero=>intro z hz hzN hr;exact⟨z,hzN,hr,λy hy=>by omega⟩
     | succ n ih=>
      intro z hz hzN hr;by_cases q:∃y,y<z/\R (k+1) y u
      ·obtain⟨y,y1,y2⟩:=q;exact ih y (by omega) (by omega) y2
      ·exact⟨z,hzN,hr,λy hy g=>q ⟨y,hy,g⟩⟩
    exact key u u (pC _) hu (refl _ u hu)
   obtain⟨y,hy,hyu,hym⟩:=hmin;have hyk:R k y u:=mono k y u hy hu hyu;have hyz:R k y z:=trans k y u z hy hu hz hyk (symm _ _ _ hz hu hzu);have hzy:z<y:=by
    rcases nD z y with g|g|g
    ·exact g
    ·subst g;exact(hne hyu).elim
    ·exact(hzm y g (trans k y z s hy hz hs hyz hzs)).elim
   refine⟨y,gU.2 hy,?_,?_⟩
   ·simp only[decide_eq_true_eq];intro x hx q;exact hym x hx (trans (k+1) x y u (by omega) hy hu (symm _ _ _ hy (by omega) q) hyu)
   ·simp only[decide_eq_false_iff_not];intro q;exact q z hzy hyz
 have le:∀k,zq0 N (R k)<=N:=by intro k;unfold zq0;refine pE (rK) ?_;simp
 have one:∀k,1<=zq0 N (R k):=by intro k;unfold zq0;refine List.countP_pos_iff.2 ⟨0,gU.2 hN,?_⟩;simp
 have rest:∃k,k<N/\∀s t,s<N->t<N->R k s t->R (k+1) s t:=by
  refine gO λhno=>?_;have:∀k,k<=N->k+1<=zq0 N (R k):=by
   intro k;induction k with
   | zero=>intro _;exact one 0
   | succ k ih=>intro hk;have:=step k λh=>hno ⟨k,by omega,h⟩;have:=ih (by omega);omega
  have:=this N (pC _);have:=le N;omega
 obtain⟨k,hk,hst⟩:=rest;have up:∀d,∀s t,s<N->t<N->R (k+d) s t->R (k+d+1) s t:=by
  intro d;induction d with
  | zero=>exact hst
  | succ d ih=>exact stat (k+d) ih
 have down:∀d j s t,s<N->t<N->R (j+d) s t->R j s t:=by
  intro d;induction d with
  | zero=>intro j s t _ _ h;exact h
  | succ d ih=>intro j s t hs ht h;exact ih j s t hs ht (mono _ s t hs ht h)
 intro s t hs ht h j;have hk':R k s t:=down (N - 1 - k) k s t hs ht (by rw[show k+(N - 1 - k)=N - 1 by omega];exact h);have far:∀d,R (k+d) s t:=by
  intro d;induction d with
  | zero=>exact hk'
  | succ d ih=>exact up d s t hs ht ih
 exact down k j s t hs ht (by rw[s5];exact far j)
section
variable {S S':Type}{k:Nat}{bad:S->Nat->Bool}{nx:S->Nat->Option S}{bad':S'->Nat->Bool}{nx':S'->Nat->Option S'}(φ:S->S')(I:S->Prop)
 (hI:∀p i q,I p->i<k->nx p i=some q->I q) (hb:∀p i,I p->i<k->bad' (φ p) i=bad p i) (hn:∀p i,I p->i<k->nx' (φ p) i=(nx p i).map φ)
include hI hb hn
end
def zgA (m:z6)(x:z8):Bool:=(x.To == -1&&x.Out == -1) ||(decide (0<=x.To)&&decide (x.To<(m.Rows.length:Int))&&decide (0<=x.Out)&&decide (x.Out<m.Outputs))
def zix (m:z6)(r:List z8):Bool:=decide ((r.length:Int)=m.Inputs)&&r.all (zgA m)
def chk (m:z6):Int :=
 if m.Inputs > 16\/m.Outputs > 16\/(m.Rows.length:Int) > 64 then 3 else if m.Inputs<1\/m.Outputs<1\/m.Rows.length=0 then 1 else if m.Rows.all (zix m)=true then 0 else 1
theorem zsv (m:z6)(x:z8):WN m x=some (zgA m x):=by
 unfold WN qK;simp only[oB,rE];rcases Bool.eq_false_or_eq_true (x.To==(-1)&&x.Out==(-1)) with h|h
 ·simp[zgA,h]
 ·rw[h];simp only[zgA,h,nQ,cond_false];by_cases h1:(0:Int)<=x.To
  ·by_cases h2:x.To<(m.Rows.length:Int)
   ·by_cases h3:(0:Int)<=x.Out
    ·simp[mZ,h1,h2,h3]
    ·simp[mZ,h1,h2,h3]
   ·simp[mZ,h1,h2]
  ·simp[h1]
theorem zgF (m:z6)(r:List z8)(hl:r.length<4611686018427387904):yi r m=some (!r.all (zgA m)):=by
 have hloop:loop (λs=>y7 r m s) 0=some (oS (yI (λi x=>if zgA m x=true then none else some (i:Int)) r 0)):=by
  refine u7 r hl _ ?_ ?_
  ·intro i x hx;have hi:=(p8.1 hx).1;unfold y7;have hd:decide ((i:Int)<((r.length:Nat):Int))=true:=by simpa using hi
   rw[hd,cond_true,y6,bdT hx];unfold Xx;simp only[zsv,oB];cases zgA m x <;> rfl
  ·unfold y7;simp
 unfold yi xj;rw[hloop];simp only[oB];cases hf:yI (λi x=>if zgA m x=true then none else some (i:Int)) r 0 with
 | some q=>
  obtain⟨i,x,h1,h2⟩:=kT hf;have hx:zgA m x≠true:=by intro h;rw[if_pos h]at h2;cases h2
  rw[if_neg hx]at h2;simp only[Option.some.injEq]at h2;have:r.all (zgA m)=false:=by rw[List.all_eq_false];exact⟨x,pO h1,hx⟩
  rw[this];have:(q:Int)>=0:=by rw[<-h2];omega
  show some (decide (q>=0))=_;simp[this]
 | none=>
  have:r.all (zgA m)=true:=by
   rw[gJ];intro x hx;obtain⟨i,hi⟩:=rj hx;have:=kU hf i x hi;by_cases h:zgA m x=true
   ·exact h
   ·rw[if_neg h]at this;cases this
  rw[this];rfl
variable {m:z6}
theorem ziY (h0:(m.Rows.length:Int)<=64)(h1:m.Inputs<=16):loop (λs=>uw m s) 0=some (oS (yI (λ_ r=>if zix m r=true then none else some (1:Int)) m.Rows 0)):=by
 refine u7 m.Rows (by omega) _ ?_ ?_
 ·intro i r hr;have hi:=(p8.1 hr).1;unfold uw;have hd:decide ((i:Int)<((m.Rows.length:Nat):Int))=true:=by simpa using hi
  rw[hd,cond_true,y6,bdT hr];by_cases hlen:(r.length:Int)=m.Inputs
  ·have hne:(((r.length:Nat):Int) != m.Inputs)=false:=by simpa using hlen
   rw[hne,cond_false,bdT (zgF m r (by omega))];have:zix m r=r.all (zgA m):=by simp[zix,hlen]
   rw[this];cases r.all (zgA m) <;> rfl
  ·have hne:(((r.length:Nat):Int) != m.Inputs)=true:=by simpa using hlen
   rw[hne,cond_true];have:zix m r=false:=by simp[zix,hlen]
   rw[this];rfl
 ·unfold uw;simp
theorem ziw (m:z6):yI (λ_ r=>if zix m r=true then none else some (1:Int)) m.Rows 0=if m.Rows.all (zix m)=true then none else some 1:=by
 by_cases h:m.Rows.all (zix m)=true
 ·rw[if_pos h];refine z1f λi r hr=>?_;rw[if_pos (gJ.1 h r (pO hr))]
 ·rw[if_neg h];cases hf:yI (λ_ r=>if zix m r=true then none else some (1:Int)) m.Rows 0 with
  | some q=>
   obtain⟨i,x,h1,h2⟩:=kT hf;split at h2
   ·cases h2
   ·exact h2.symm ▸ rfl
  | none=>
   exfalso;apply h;rw[gJ];intro x hx;obtain⟨i,hi⟩:=rj hx;have:=kU hf i x hi;by_cases h:zix m x=true
   ·exact h
   ·rw[if_neg h]at this;cases this
theorem z1l (m:z6):xZ m=some (chk m):=by
 unfold xZ chk;by_cases h1:m.Inputs > 16
 ·simp[h1]
 by_cases h2:m.Outputs > 16
 ·simp[mZ,h1,h2]
 by_cases h3:(m.Rows.length:Int) > 64
 ·simp[mZ,h1,h2,h3]
 rw[if_neg (by simp[mZ,h1,h2,h3])];by_cases h4:m.Inputs<1
 ·simp[mZ,h1,h2,h3,h4]
 by_cases h5:m.Outputs<1
 ·simp[mZ,h1,h2,h3,h4,h5]
 by_cases h6:m.Rows.length=0
 ·simp[mZ,h1,h2,h4,h5,h6]
 rw[if_neg (by simp[h4,h5,h6])];have h6':decide (((m.Rows.length:Nat):Int)<1)=false:=by simp;omega
 have e1:decide (m.Inputs > 16)=false:=by simpa using h1
 have e2:decide (m.Outputs > 16)=false:=by simpa using h2
 have e3:decide (((m.Rows.length:Nat):Int) > 64)=false:=by simpa using h3
 have e4:decide (m.Inputs<1)=false:=by simpa using h4
 have e5:decide (m.Outputs<1)=false:=by simpa using h5
 simp only[e1,e2,e3,e4,e5,h6',cond_false];rw[bdT (ziY (by omega) (by omega)),ziw];by_cases h:m.Rows.all (zix m)=true
 ·rw[if_pos h,if_pos h];rfl
 ·rw[if_neg h,if_neg h];rfl
structure VM (m:z6):Prop where
 in1:1<=m.Inputs
 in16:m.Inputs<=16
 out1:1<=m.Outputs
 out16:m.Outputs<=16
 len1:1<=m.Rows.length
 len64:m.Rows.length<=64
 row:∀r∈m.Rows,(r.length:Int)=m.Inputs
 edge:∀r∈m.Rows,∀x∈r,(x.To=-1/\x.Out=-1)\/(0<=x.To/\x.To<(m.Rows.length:Int)/\0<=x.Out/\x.Out<m.Outputs)
theorem zab (h:VM m):chk m=0:=by
 unfold chk;have:=h.in1;have:=h.in16;have:=h.out1;have:=h.out16;have:=h.len1;have:=h.len64;rw[if_neg (by omega),if_neg (by omega),if_pos];rw[gJ];intro r hr;simp only[zix,pJ,decide_eq_true_eq,gJ];refine⟨h.row r hr,λx hx=>?_⟩;simp only[zgA,mI,pJ,beq_iff_eq,decide_eq_true_eq];rcases h.edge r hr x hx with⟨a,b⟩|⟨a,b,c,d⟩
 ·exact .inl ⟨a,b⟩
 ·exact .inr ⟨⟨⟨a,b⟩,c⟩,d⟩
def kk (m:z6):Nat:=m.Inputs.toNat
def E (m:z6)(s i:Nat):z8:=((m.Rows[s]?.getD [])[i]?).getD ⟨-1,-1⟩
variable {s i:Nat}{β:Type}
section
variable {m:z6}(h:VM m)
include h
theorem VM.kk_eq:((kk m:Nat):Int)=m.Inputs:=by have:=h.in1;unfold kk;omega
theorem VM.kk_pos:1<=kk m:=by have:=h.in1;unfold kk;omega
theorem VM.kk_le:kk m<=16:=by have:=h.in16;unfold kk;omega
theorem VM.rowAt {s:Nat}(hs:s<m.Rows.length):∃r,m.Rows[s]?=some r/\r.length=kk m/\∀i,i<kk m->r[i]?=some (E m s i):=by
 have hr:=p7 hs;have hl:=h.row _ (pI hs);have hl':m.Rows[s].length=kk m:=by unfold kk;omega
 refine⟨_,hr,hl',λi hi=>?_⟩;have hi':i<m.Rows[s].length:=by omega
 unfold E;rw[hr];simp only[gA];rw[p7 hi'];rfl
theorem VM.edgeAt (hs:s<m.Rows.length)(hi:i<kk m):((E m s i).To=-1/\(E m s i).Out=-1)\/(0<=(E m s i).To/\(E m s i).To<(m.Rows.length:Int)/\0<=(E m s i).Out/\(E m s i).Out<m.Outputs):=by obtain⟨r,h1,_,h2⟩:=h.rowAt hs;exact h.edge r (pO h1) _ (pO (h2 i hi))
theorem VM.edge_eq (hs:s<m.Rows.length)(hi:i<kk m)  {f:z8->Option β} :
  (Option.bind (idx m.Rows (s:Int)) λr=>Option.bind (idx r (i:Int)) f)=f (E m s i):=by
 obtain⟨r,h1,_,h2⟩:=h.rowAt hs;rw[y6,h1,oB,y6,h2 i hi,oB]
end
section
variable {K V:Type}[BEq K][LawfulBEq K]
theorem z8Q (l:List (K×V))(x y:K)(v:V):z0J (z9S l x v) y=if(x==y)=true then some v else z0J l y:=by
 induction l with
 | nil=>simp only[z9S,z0J]
 | cons p l ih=>
  simp only[z9S];by_cases h:p.1=x
  ·rw[if_pos (by simpa using h)];simp only[z0J];by_cases q:x=y
   ·rw[if_pos (by simpa using q),if_pos (by simpa using q)]
   ·rw[if_neg (by simpa using q),if_neg (by simpa using q),if_neg (by rw[h];simpa using q)]
  ·rw[if_neg (by simpa using h)];simp only[z0J,ih];by_cases q:p.1=y
   ·have q':¬x=y:=by rintro rfl;exact h q
    have e1:(p.1==y)=true:=by simpa using q
    have e2:(x==y)=false:=by simpa using q'
    simp[e1,e2]
   ·have e1:(p.1==y)=false:=by simpa using q
    simp[e1]
end
theorem Jp:∀(n:Nat) (l:List Nat),l.Nodup->(∀x∈l,x<n)->l.length<=n
 | 0,l,_,h=>by
  cases l with
  | nil=>simp
  | cons x l=>have:=h x (by simp);omega
 | n+1,l,hd,h=>by
  by_cases hm:n∈l
  ·have h1:=List.length_erase_of_mem hm;have h2:=Jp n (l.erase n) (hd.erase n) λx hx=>by have h3:=(hd.mem_erase_iff).1 hx;have:=h x h3.2;have:=h3.1;omega
   have:0<l.length:=List.length_pos_of_mem hm;omega
  ·have:=Jp n l hd λx hx=>by have:=h x hx;have:x≠n:=λe=>hm (e ▸ hx);omega
   omega
def V6 (a b:z6)(p:Nat×Nat)(i:Nat):Bool:=(E a p.1 i).Out !=(E b p.2 i).Out
def nxP (a b:z6)(p:Nat×Nat)(i:Nat):Option (Nat×Nat):=if 0<=(E a p.1 i).To/\0<=(E b p.2 i).To then some ((E a p.1 i).To.toNat,(E b p.2 i).To.toNat) else none
abbrev LL:=List ((Nat×Nat)×List Nat)
def zDm (a b:z6)(L:LL):Prop:=(L.map (·.1)).Nodup/\∀x∈L,x.1.1<a.Rows.length/\x.1.2<b.Rows.length
structure WM (m:z6):Prop where
 in1:1<=m.Inputs
 in16:m.Inputs<=16
 len1:1<=m.Rows.length
 len:m.Rows.length<=128
 row:∀r∈m.Rows,(r.length:Int)=m.Inputs
 edge:∀r∈m.Rows,∀x∈r,(x.To=-1/\x.Out=-1)\/(0<=x.To/\x.To<(m.Rows.length:Int)/\0<=x.Out)
theorem VM.wm (h:VM m):WM m:=⟨h.in1,h.in16,h.len1,by have:=h.len64;omega,h.row,λr hr x hx=>by
 rcases h.edge r hr x hx with g|⟨g1,g2,g3,_⟩
 ·exact .inl g
 ·exact .inr ⟨g1,g2,g3⟩⟩
section
variable {m:z6}(h:WM m)
include h
theorem WM.kk_eq:((kk m:Nat):Int)=m.Inputs:=by have:=h.in1;unfold kk;omega
theorem WM.kk_le:kk m<=16:=by have:=h.in16;unfold kk;omega
theorem WM.rowAt {s:Nat}(hs:s<m.Rows.length):∃r,m.Rows[s]?=some r/\r.length=kk m/\∀i,i<kk m->r[i]?=some (E m s i):=by
 have hr:=p7 hs;have hl:=h.row _ (pI hs);have hl':m.Rows[s].length=kk m:=by unfold kk;omega
 refine⟨_,hr,hl',λi hi=>?_⟩;have hi':i<m.Rows[s].length:=by omega
 unfold E;rw[hr];simp only[gA];rw[p7 hi'];rfl
theorem WM.edgeAt (hs:s<m.Rows.length)(hi:i<kk m):((E m s i).To=-1/\(E m s i).Out=-1)\/(0<=(E m s i).To/\(E m s i).To<(m.Rows.length:Int)/\0<=(E m s i).Out):=by obtain⟨r,h1,_,h2⟩:=h.rowAt hs;exact h.edge r (pO h1) _ (pO (h2 i hi))
theorem WM.edge_eq (hs:s<m.Rows.length)(hi:i<kk m)  {f:z8->Option β} :
  (Option.bind (idx m.Rows (s:Int)) λr=>Option.bind (idx r (i:Int)) f)=f (E m s i):=by
 obtain⟨r,h1,_,h2⟩:=h.rowAt hs;rw[y6,h1,oB,y6,h2 i hi,oB]
theorem WM.nx_in {p:Nat×Nat}{i:Nat}{q:Nat×Nat}(h1:p.1<m.Rows.length)(h2:p.2<m.Rows.length)(hi:i<kk m)(hq:nxP m m p i=some q):q.1<m.Rows.length/\q.2<m.Rows.length:=by
 unfold nxP at hq;split at hq
 ·rename_i hc;cases hq;have a:=h.edgeAt h1 hi;have b:=h.edgeAt h2 hi;simp only;omega
 ·cases hq
end
def mkb (k:Nat)(bad:Nat×Nat->Nat->Bool)(nx:Nat×Nat->Nat->Option (Nat×Nat)):Nat->Nat×Nat->Bool
 | 0,_=>false
 | n+1,p=>mkb k bad nx n p ||(List.range k).any λi=>bad p i ||(match nx p i with|some q=>mkb k bad nx n q|none=>false)
theorem zda (k:Nat)(bad:Nat×Nat->Nat->Bool)(nx:Nat×Nat->Nat->Option (Nat×Nat)):∀(n:Nat) (p:Nat×Nat),mkb k bad nx n p=true↔Mk k bad nx n p
 | 0,p=>by simp[mkb,Mk]
 | n+1,p=>by
  simp only[mkb,Mk,mI,rr,gU,zda k bad nx n p];constructor
  ·rintro(h|⟨i,hi,h|h⟩)
   ·exact .inl h
   ·exact .inr ⟨i,hi,.inl h⟩
   ·cases hq:nx p i with
    | none=>rw[hq]at h;cases h
    | some q=>rw[hq]at h;exact .inr ⟨i,hi,.inr ⟨q,hq,(zda k bad nx n q).1 h⟩⟩
  ·rintro(h|⟨i,hi,h|⟨q,hq,h⟩⟩)
   ·exact .inl h
   ·exact .inr ⟨i,hi,.inl h⟩
   ·exact .inr ⟨i,hi,.inr (by rw[hq];exact(zda k bad nx n q).2 h)⟩
def tab (N:Nat)(f:Nat->Nat->Bool):List (List Bool):=(List.range N).map λs=>(List.range N).map λt=>f s t
theorem zjr {N s t:Nat}(f:Nat->Nat->Bool)(hs:s<N)(ht:t<N)  {g:Bool->Option β}:(Option.bind (idx (tab N f) (s:Int)) λr=>Option.bind (idx r (t:Int)) g)=g (f s t):=by
 have e1:(tab N f)[s]?=some ((List.range N).map λt=>f s t):=by simp[tab,hs]
 have e2:((List.range N).map λt=>f s t)[t]?=some (f s t):=by simp[ht]
 rw[y6,e1,oB,y6,e2,oB]
theorem zjQ (N t:Nat)(g:Nat->α)(v:α):((List.range N).map g).set t v=(List.range N).map λx=>if x=t then v else g x:=by
 refine List.ext_getElem (by simp) λn h1 h2=>?_;simp only[List.getElem_set,List.getElem_map,List.getElem_range];by_cases e:t=n
 ·rw[if_pos e,if_pos e.symm]
 ·rw[if_neg e,if_neg (nX e)]
def zfP (m:z6)(f:Nat->Nat->Bool)(p:Nat×Nat)(i:Nat):Bool:=V6 m m p i ||(match nxP m m p i with|some q=>f q.1 q.2|none=>false)
theorem zpE (h:WM m)(f:Nat->Nat->Bool){s t:Nat}(hs:s<m.Rows.length)(ht:t<m.Rows.length) :
  Ji m (tab m.Rows.length f) (s:Int) (t:Int)=some (if(List.range (kk m)).any (zfP m f (s,t))=true then 1 else 0):=by
 have hk:=h.kk_eq;have k16:=h.kk_le;have hl:loop (λq=>Zs m (tab m.Rows.length f) (s:Int) (t:Int) q) 0=some (oS (yI (λ_ i=>if zfP m f (s,t) i=true then some (1:Int) else none) (List.range (kk m)) 0)):=by
  refine u7 (List.range (kk m)) (by simp;omega) _ ?_ ?_
  ·intro i x hx;have hi:i<kk m:=by have:=(p8.1 hx).1;simpa using this
   have:x=i:=by rw[rV hi]at hx;exact(Option.some.inj hx).symm
   subst this;unfold Zs Zt;have hd:decide ((x:Int)<m.Inputs)=true:=by rw[<-hk];simpa using hi
   rw[hd,cond_true,h.edge_eq hs hi,h.edge_eq ht hi];have e1:=h.edgeAt hs hi;have e2:=h.edgeAt ht hi;by_cases hbad:(E m s x).Out=(E m t x).Out
   ·have n1:((E m s x).Out !=(E m t x).Out)=false:=by simpa using hbad
    rw[n1,cond_false];by_cases t1:(E m s x).To>=0
    ·by_cases t2:(E m t x).To>=0
     ·have hnx:nxP m m (s,t) x=some ((E m s x).To.toNat,(E m t x).To.toNat):=by unfold nxP;rw[if_pos ⟨t1,t2⟩]
      have hin:=h.nx_in hs ht hi hnx;have c1:(E m s x).To=(((E m s x).To.toNat:Nat):Int):=by omega
      have c2:(E m t x).To=(((E m t x).To.toNat:Nat):Int):=by omega
      have ht1:zfP m f (s,t) x=f (E m s x).To.toNat (E m t x).To.toNat:=by unfold zfP V6;rw[hnx];simp only[n1,nQ]
      rw[decide_eq_true t1,decide_eq_true t2];simp only[cond_true];have:=zjr f hin.1 hin.2 (g:=λv=>bif v then some (LR.done (Sum.inr (1:Int)):LR Int (Unit⊕Int)) else some (LR.next (w64 ((x:Int)+1))));rw[<-c1,<-c2]at this;rw[this,ht1];cases f (E m s x).To.toNat (E m t x).To.toNat <;> rfl
     ·have ht1:zfP m f (s,t) x=false:=by unfold zfP V6 nxP;rw[if_neg (by simp only;omega)];simp only[n1,nQ]
      rw[decide_eq_true t1,decide_eq_false t2,ht1];rfl
    ·have ht1:zfP m f (s,t) x=false:=by unfold zfP V6 nxP;rw[if_neg (by simp only;omega)];simp only[n1,nQ]
     rw[decide_eq_false t1,ht1];rfl
   ·have n1:((E m s x).Out !=(E m t x).Out)=true:=by simpa using hbad
    have ht1:zfP m f (s,t) x=true:=by unfold zfP V6;simp only[n1,Bool.true_or]
    rw[n1,ht1];rfl
  ·unfold Zs;rw[List.length_range,hk];simp
 unfold Ji;rw[bdT hl];cases hf:yI (λ(_:Nat) i=>if zfP m f (s,t) i=true then some (1:Int) else none) (List.range (kk m)) 0 with
 | some q=>
  obtain⟨i,x,h1,h2⟩:=kT hf;split at h2
  ·rename_i hx;cases h2;have:(List.range (kk m)).any (zfP m f (s,t))=true:=rr.2 ⟨x,pO h1,hx⟩;rw[if_pos this];rfl
  ·cases h2
 | none=>
  have:¬(List.range (kk m)).any (zfP m f (s,t))=true:=by rw[rr];rintro⟨x,hx,hx2⟩;obtain⟨i,hi⟩:=rj hx;have:=kU hf i x hi;rw[if_pos hx2]at this;cases this
  rw[if_neg this];rfl
theorem zkd (N:Nat):List.replicate ((N:Nat):Int).toNat false=(List.range N).map λ_=>false:=by refine List.ext_getElem (by simp) λn h1 h2=>?_;simp
def JT (m:z6)(f:Nat->Nat->Bool)(s t:Nat):Bool:=f s t ||(List.range (kk m)).any (zfP m f (s,t))
theorem zo2 (h:WM m)(f:Nat->Nat->Bool):loop (λq=>uL m (tab m.Rows.length f) q.1 q.2) (([]:List (List Bool)),0)=some (tab m.Rows.length (JT m f)):=by
 have l128:=h.len;have row:∀(s:Nat),s<m.Rows.length->loop (λq=>uK m (tab m.Rows.length f) (s:Int) q.1 q.2) (((List.range s).map λs=>(List.range m.Rows.length).map λt=>JT m f s t)++[(List.range m.Rows.length).map λ_=>false],0)=some ((List.range (s+1)).map λs=>(List.range m.Rows.length).map λt=>JT m f s t):=by
  intro s hs;have hst:=ww (step:=λq=>uK m (tab m.Rows.length f) (s:Int) q.1 q.2) (λt:Nat=>(((List.range s).map λs=>(List.range m.Rows.length).map λt=>JT m f s t)++[(List.range m.Rows.length).map λt'=>if t' < t then JT m f s t' else false],(t:Int))) m.Rows.length (t:=(List.range (s+1)).map λs=>(List.range m.Rows.length).map λt=>JT m f s t) (by omega) ?_ ?_
  ·simpa using hst
  ·intro t ht;unfold uK;have hd:decide ((t:Int)<((m.Rows.length:Nat):Int))=true:=by simpa using ht
   have hw:w64 ((t:Int)+1)=((t+1:Nat):Int):=by rw[zJ (by omega) (by omega)];rfl
   simp only[hd,cond_true];have e1:(((List.range s).map λs=>(List.range m.Rows.length).map λt=>JT m f s t)++[(List.range m.Rows.length).map λt'=>if t' < t then JT m f s t' else false])[s]?=some ((List.range m.Rows.length).map λt'=>if t' < t then JT m f s t' else false):=by rw[pF (by simp)];simp
   have e2:∀x,((List.range m.Rows.length).map λt'=>if t' < t then JT m f s t' else false)[t]?=some x↔x=false:=by intro x;simp[ht,eq_comm]
   have e2':=(e2 false).2 rfl;have fin:∀v:Bool,v=JT m f s t->(((List.range s).map λs=>(List.range m.Rows.length).map λt=>JT m f s t)++[(List.range m.Rows.length).map λt'=>if t' < t then JT m f s t' else false]).set s (((List.range m.Rows.length).map λt'=>if t' < t then JT m f s t' else false).set t v)=((List.range s).map λs=>(List.range m.Rows.length).map λt=>JT m f s t)++[(List.range m.Rows.length).map λt'=>if t' < t+1 then JT m f s t' else false]:=by
    intro v hv;rw[List.set_append,if_neg (by simp),zjQ];simp only[gD,List.length_range,nW,nT];congr 3;funext x;by_cases e:x=t
    ·subst e;rw[if_pos rfl,if_pos (by omega)];exact hv
    ·rw[if_neg e];by_cases g:x<t
     ·rw[if_pos g,if_pos (by omega)]
     ·rw[if_neg g,if_neg (by omega)]
   rw[y6,bdT e1,zjr f hs ht];cases hf:f s t with
   | true=>simp only[cond_true];rw[y6,bdT e2',hw,pB,pB,fin true (by simp[JT,hf])]
   | false=>simp only[cond_false];rw[bdT (zpE h f hs ht),y6,bdT e2',hw,pB,pB,fin _ ?_];unfold JT;rw[hf,nQ];cases (List.range (kk m)).any (zfP m f (s,t)) <;> rfl
  ·unfold uK;simp only[Int.lt_irrefl,decide_false,cond_false];congr 3;rw[re,mF];congr 1;simp only[gM,nP];congr 1;refine nK λx hx=>?_;rw[if_pos (gU.1 hx)]
 have:=ww (step:=λq=>uL m (tab m.Rows.length f) q.1 q.2) (λs:Nat=>((List.range s).map λs=>(List.range m.Rows.length).map λt=>JT m f s t,(s:Int))) m.Rows.length (t:=tab m.Rows.length (JT m f)) (by omega) ?_ ?_
 ·exact this
 ·intro s hs;unfold uL Ww;have hd:decide ((s:Int)<((m.Rows.length:Nat):Int))=true:=by simpa using hs
  have hw:w64 ((s:Int)+1)=((s+1:Nat):Int):=by rw[zJ (by omega) (by omega)];rfl
  simp only[hd,cond_true];rw[gdT (by omega),gdT (by simp;omega),zkd,bdT (row s hs),hw]
 ·unfold uL;simp only[Int.lt_irrefl,decide_false,cond_false];rfl
def mrk (m:z6)(n s t:Nat):Bool:=mkb (kk m) (V6 m m) (nxP m m) n (s,t)
theorem zop (m:z6)(n:Nat):JT m (mrk m n)=mrk m (n+1):=by funext s t;unfold JT mrk;simp only[mkb];congr 1
theorem zkR (h:WM m)(n:Nat)(hn:n<=1000000):UD m (n:Int)=some (tab m.Rows.length (mrk m n)):=by
 have l128:=h.len;have l9:loop (λq=>uJ m q.1 q.2) (([]:List (List Bool)),0)=some (tab m.Rows.length (mrk m 0)):=by
  have:=ww (step:=λq=>uJ m q.1 q.2) (λs:Nat=>((List.range s).map λ_=>(List.range m.Rows.length).map λ_=>false,(s:Int))) m.Rows.length (t:=tab m.Rows.length (mrk m 0)) (by omega) ?_ ?_
  ·exact this
  ·intro s hs;unfold uJ;have hd:decide ((s:Int)<((m.Rows.length:Nat):Int))=true:=by simpa using hs
   have hw:w64 ((s:Int)+1)=((s+1:Nat):Int):=by rw[zJ (by omega) (by omega)];rfl
   simp only[hd,cond_true];rw[gdT (by omega),gdT (by simp;omega),zkd,hw,re,mF];rfl
  ·unfold uJ;simp only[Int.lt_irrefl,decide_false,cond_false];rfl
 have l3:=ww (step:=λq=>uM m (n:Int) q.1 q.2) (λr:Nat=>(tab m.Rows.length (mrk m r),(r:Int))) n (t:=tab m.Rows.length (mrk m n)) (by omega) ?_ ?_
 ·unfold UD WC WB;rw[bdT l9];have l3':loop (λq=>uM m (n:Int) q.1 q.2) (tab m.Rows.length (mrk m 0),0)=some (tab m.Rows.length (mrk m n)):=l3;rw[bdT l3']
 ·intro r hr;unfold uM Wy Wz;have hd:decide ((r:Int)<(n:Int))=true:=by simpa using hr
  have hw:w64 ((r:Int)+1)=((r+1:Nat):Int):=by rw[zJ (by omega) (by omega)];rfl
  simp only[hd,cond_true];rw[bdT (zo2 h (mrk m r)),zop,hw]
 ·unfold uM;simp only[Int.lt_irrefl,decide_false,cond_false]
theorem z5q (h:WM m){s t:Nat}(hs:s<m.Rows.length)(ht:t<m.Rows.length){j:Nat}(hj:Mk (kk m) (V6 m m) (nxP m m) j (s,t)):Mk (kk m) (V6 m m) (nxP m m) (m.Rows.length - 1) (s,t):=by
 refine gO λhno=>?_;have same:∀{p:Nat×Nat} {i:Nat},p.1<m.Rows.length->p.2<m.Rows.length->i<kk m->V6 m m p i=false->((E m p.1 i).To>=0↔(E m p.2 i).To>=0):=by
  intro p i h1 h2 hi hb;have e:(E m p.1 i).Out=(E m p.2 i).Out:=by simpa[V6] using hb
  have a:=h.edgeAt h1 hi;have b:=h.edgeAt h2 hi;omega
 have symm:∀k s t,Mk (kk m) (V6 m m) (nxP m m) k (s,t)->Mk (kk m) (V6 m m) (nxP m m) k (t,s):=by
  intro k;induction k with
  | zero=>intro s t h;exact h
  | succ k ih=>
   rintro s t (h|⟨i,hi,h|⟨q,hq,h⟩⟩)
   ·exact .inl (ih _ _ h)
   ·exact .inr ⟨i,hi,.inl (by unfold V6 at h ⊢;simp only[bne_iff_ne,ne_eq]at h ⊢;exact λe=>h e.symm)⟩
   ·refine .inr ⟨i,hi,.inr ⟨(q.2,q.1),?_,ih _ _ h⟩⟩;unfold nxP at hq ⊢;split at hq
    ·rename_i hc;cases hq;rw[if_pos ⟨hc.2,hc.1⟩]
    ·cases hq
 have trans:∀k s t u,s<m.Rows.length->t<m.Rows.length->u<m.Rows.length->Mk (kk m) (V6 m m) (nxP m m) k (s,u)->Mk (kk m) (V6 m m) (nxP m m) k (s,t)\/Mk (kk m) (V6 m m) (nxP m m) k (t,u):=by
  intro k;induction k with
  | zero=>intro s t u _ _ _ h;exact h.elim
  | succ k ih=>
   rintro s t u hs ht hu (g|⟨i,hi,g|⟨q,hq,g⟩⟩)
   ·rcases ih s t u hs ht hu g with g|g
    ·exact .inl (.inl g)
    ·exact .inr (.inl g)
   ·cases b1:V6 m m (s,t) i with
    | true=>exact .inl (.inr ⟨i,hi,.inl b1⟩)
    | false=>refine .inr (.inr ⟨i,hi,.inl ?_⟩);unfold V6 at b1 g ⊢;simp only[bne_iff_ne,ne_eq,bne_eq_false_iff_eq]at b1 g ⊢;rw[<-b1];exact g
   ·cases b1:V6 m m (s,t) i with
    | true=>exact .inl (.inr ⟨i,hi,.inl b1⟩)
    | false=>
     cases b2:V6 m m (t,u) i with
     | true=>exact .inr (.inr ⟨i,hi,.inl b2⟩)
     | false=>
      have c1:=same (p:=(s,t)) hs ht hi b1;have c2:=same (p:=(t,u)) ht hu hi b2;simp only at c1 c2;unfold nxP at hq;split at hq
      ·rename_i hc;cases hq;simp only at hc g;have e1:=h.edgeAt hs hi;have e2:=h.edgeAt ht hi;have e3:=h.edgeAt hu hi;rcases ih (E m s i).To.toNat (E m t i).To.toNat (E m u i).To.toNat (by omega) (by omega) (by omega) g with g|g
       ·exact .inl (.inr ⟨i,hi,.inr ⟨_,by unfold nxP;rw[if_pos ⟨hc.1,by simp only;omega⟩],g⟩⟩)
       ·exact .inr (.inr ⟨i,hi,.inr ⟨_,by unfold nxP;rw[if_pos ⟨by simp only;omega,hc.2⟩],g⟩⟩)
      ·cases hq
 have refl:∀k s,¬Mk (kk m) (V6 m m) (nxP m m) k (s,s):=by
  intro k;induction k with
  | zero=>intro s h;exact h
  | succ k ih=>
   rintro s (g|⟨i,hi,g|⟨q,hq,g⟩⟩)
   ·exact ih s g
   ·simp[V6]at g
   ·unfold nxP at hq;split at hq
    ·cases hq;exact ih _ g
    ·cases hq
 exact zCt (N:=m.Rows.length) h.len1 (λk s t=>¬Mk (kk m) (V6 m m) (nxP m m) k (s,t)) (λk s t _ _ g q=>g (symm k t s q)) (λk s t u hs ht hu g1 g2 q=>by
   rcases trans k s t u hs ht hu q with g|g
   ·exact g1 g
   ·exact g2 g) (λk s _=>refl k s) (λk s t _ _ g q=>g (.inl q)) (λk hk s t hs ht g q=>by
   rcases q with q|⟨i,hi,q|⟨r,hr,q⟩⟩
   ·exact g q
   ·exact g (.inr ⟨i,hi,.inl q⟩)
   ·have hin:=h.nx_in (p:=(s,t)) hs ht hi hr;have:Mk (kk m) (V6 m m) (nxP m m) k r:=gO λc=>hk r.1 r.2 hin.1 hin.2 c q;exact g (.inr ⟨i,hi,.inr ⟨r,hr,this⟩⟩)) s t hs ht hno j hj
theorem zgh {a k:Int}(h0:0<=a)(hk:1<=k)(hk2:k<=1000000):1<=w64 (1+w64 (Int.tmod a k))/\w64 (1+w64 (Int.tmod a k))<=k:=by have h1:=rY k h0;have h2:=s6 a (show 0<k by omega);rw[zJ (x:=Int.tmod a k) (by omega) (by omega),zJ (by omega) (by omega)];omega
theorem zrC (s t:List Int)(hs:s.length<4611686018427387904)(ht:t.length<4611686018427387904):z0k s t=some (decide (s=t)):=by
 unfold z0k Qk;by_cases h1:s.length<t.length
 ·rw[decide_eq_true (show((s.length:Nat):Int)<((t.length:Nat):Int) by omega),cond_true,oB];rw[decide_eq_false (λe=>by rw[e]at h1;omega)];rfl
 by_cases h2:t.length<s.length
 ·rw[decide_eq_false (show ¬((s.length:Nat):Int)<((t.length:Nat):Int) by omega),cond_false,decide_eq_true (show((s.length:Nat):Int) > ((t.length:Nat):Int) by omega),cond_true,oB];rw[decide_eq_false (λe=>by rw[e]at h2;omega)];rfl
 rw[decide_eq_false (show ¬((s.length:Nat):Int)<((t.length:Nat):Int) by omega),cond_false,decide_eq_false (show ¬((s.length:Nat):Int) > ((t.length:Nat):Int) by omega),cond_false];have hlen:s.length=t.length:=by omega
 have hl:loop (λq=>qm s t q) 0=some (oS (yI (λi x=>match t[i]? with|none=>none|some y=>if x<y then some (-1) else if y<x then some (1:Int) else none) s 0)):=by
  refine u7 s hs _ ?_ ?_
  ·intro i x hx;have hi:=(p8.1 hx).1;have hit:i<t.length:=by omega
   have ht:=p7 hit;unfold qm;have hd:decide ((i:Int)<((s.length:Nat):Int))=true:=by simpa using hi
   rw[hd,cond_true];simp only[y6,hx,ht,oB];generalize t[i]=y;by_cases h1:x<y
   ·simp[mZ,h1,nS]
   ·by_cases h2:y<x
    ·simp[mZ,h1,h2,nS]
    ·simp[mZ,h1,h2,nS]
  ·unfold qm;simp
 rw[hl,oB];cases hf:yI (λi x=>match t[i]? with|none=>none|some y=>if x<y then some (-1) else if y<x then some (1:Int) else none) s 0 with
 | some r=>
  obtain⟨i,x,h3,h4⟩:=kT hf;have hne:s≠t:=by intro e;rw[gN,<-e,h3]at h4;simp at h4
  have hr:r≠0:=by
   rw[gN]at h4;cases ht:t[i]? with
   | none=>rw[ht]at h4;cases h4
   | some y=>
    rw[ht]at h4;simp only at h4;split at h4
    ·cases h4;decide
    ·split at h4
     ·cases h4;decide
     ·cases h4
  simp only[oS,oB,decide_eq_false hne];congr 1;simpa using hr
 | none=>
  have he:s=t:=by
   refine gX λn=>?_;rcases pH n s.length with g|g
   ·have hx:=p7 g;have ht:=p7 (show n<t.length by omega);have:=kU hf n _ hx;rw[gN,ht]at this;simp only at this;rw[hx,ht];split at this
    ·cases this
    ·split at this
     ·cases this
     ·rename_i g1 g2;congr 1;omega
   ·rw[rh.2 g,rh.2 (by omega)]
  simp only[oS,Xv,oB,decide_eq_true he];rfl
def nxE (m:z6)(s:Int)(i:Nat):z8:=if s<0 then⟨-1,-1⟩ else E m s.toNat i
def rsp (m:z6):Int->List Nat->List Int
 | _,[]=>[]
 | s,i::w=>(nxE m s i).Out::rsp m (nxE m s i).To w
def aft (m:z6):Int->List Nat->Int
 | s,[]=>s
 | s,i::w=>aft m (nxE m s i).To w
theorem z10 (m:z6):∀(w:List Nat) (s:Int) (i:Nat),rsp m s (w++[i])=rsp m s w++[(nxE m (aft m s w) i).Out]/\aft m s (w++[i])=(nxE m (aft m s w) i).To
 | [],s,i=>⟨rfl,rfl⟩
 | j::w,s,i=>by have:=z10 m w (nxE m s j).To i;simp only[gQ,rsp,aft,this.1,this.2,and_self]
theorem zk7 (m:z6):∀(w:List Nat) (s:Int),(rsp m s w).length=w.length
 | [],_=>rfl
 | i::w,s=>by simp[rsp,zk7 m w]
def zbG (m:z6)(s:Int):Prop:=-1<=s/\s<(m.Rows.length:Int)
theorem zrX (h:VM m){s:Int}(hs:zbG m s){i:Nat}(hi:i<kk m):zbG m (nxE m s i).To:=by
 unfold nxE;have:=h.len1;by_cases h0:s<0
 ·rw[if_pos h0];unfold zbG;simp only;omega
 ·rw[if_neg h0];have hl:s.toNat<m.Rows.length:=by have:=hs.2;omega
  have:=h.edgeAt hl hi;unfold zbG;omega
theorem zkJ (h:VM m){s:Int}(hs:zbG m s){i:Nat}(hi:i<kk m):QF m s (i:Int)=some (nxE m s i)/\zbG m (nxE m s i).To:=by
 unfold QF nxE;have:=h.len1;by_cases h0:s<0
 ·rw[decide_eq_true h0,cond_true,if_pos h0];exact⟨rfl,by unfold zbG;simp only;omega⟩
 ·rw[decide_eq_false h0,cond_false,if_neg h0];have hl:s.toNat<m.Rows.length:=by have:=hs.2;omega
  have he:=h.edge_eq hl hi (f:=λe=>some e);have hc:((s.toNat:Nat):Int)=s:=by omega
  rw[hc]at he;refine⟨he,?_⟩;have:=h.edgeAt hl hi;unfold zbG;omega
theorem zpY (h:VM m){s:Int}(hs:zbG m s)(w:List Nat)(hw:∀i∈w,i<kk m)(hl:w.length<=100000):z0j m s (w.map Int.ofNat)=some (rsp m s w):=by
 have hloop:loop (λq=>UE m (w.map Int.ofNat) q.1 q.2.1 q.2.2) (s,([]:List Int),0)=some (rsp m s w):=by
  refine Ret.eq (zQ (λq=>∃k:Nat,q.2.2=(k:Int)/\k<=w.length/\zbG m q.1/\q.2.1.length=k/\q.2.1++rsp m q.1 (w.drop k)=rsp m s w) (λq=>200000 - q.2.2.toNat) ⟨0,rfl,pT _,hs,rfl,rfl⟩ (by simp) ?_);rintro⟨s',out,k'⟩ ⟨k,hk,hkl,hst,hol,ho⟩;simp only at hk hst hol ho;subst hk;unfold UE;rw[zG];refine⟨λhlt=>?_,λhge=>?_⟩
  ·have hlt:k<w.length:=by simpa using hlt
   have hx:(w.map Int.ofNat)[k]?=some ((w[k]:Nat):Int):=by simp[hlt]
   have hi:=hw _ (pI hlt);have hn:=zkJ h hst hi;have hw1:w64 ((k:Int)+1)=((k+1:Nat):Int):=by rw[zJ (by omega) (by omega)];rfl
   rw[y6,bdT hx,bdT hn.1,gdT (by simp;omega),ze,hw1];refine⟨⟨k+1,rfl,hlt,hn.2,by simp[hol],?_⟩,by simp only;omega⟩;rw[<-ho,mB hlt];simp[rsp]
  ·have:k=w.length:=by simp at hge;omega
   subst this;rw[ze];rw[List.drop_length]at ho;show out=rsp m s w;simpa[rsp] using ho
 unfold z0j Kt;rw[bdT hloop]
section
variable {N:Nat}{f:Nat->Nat->Bool}
structure zxa (N:Nat)(f:Nat->Nat->Bool)(out:List Int)(n:Int)(s:Nat):Prop where
 len:out.length=s
 sN:s<=N
 n0:0<=n
 nS:n<=(s:Int)
 lt:∀(i:Nat) (x:Int),out[i]?=some x->0<=x/\x<n
 cls:∀(i j:Nat),i<s->j<s->(out[i]?=out[j]?↔f i j=false)
theorem zoj (hN:N<=1000)(hr:∀s,s<N->f s s=false)(hs:∀s t,s<N->t<N->f s t=false->f t s=false)(ht:∀s t u,s<N->t<N->u<N->f s t=false->f t u=false->f s u=false) :
  Ret (Yl (tab N f)) λout=>out.length=N/\∀i j,i<N->j<N->(out[i]?=out[j]?↔f i j=false):=by
 have hl:(tab N f).length=N:=by simp[tab]
 unfold Yl;rw[zt];refine Ret.mono (Q:=λout=>out.length=N/\∀i j,i<N->j<N->(out[i]?=out[j]?↔f i j=false)) ?_ λout h=>ze.2 h;refine zQ (λq=>zxa N f q.1 q.2.1 q.2.2.toNat/\0<=q.2.2) (λq=>N - q.2.2.toNat) ⟨⟨rfl,pT _,Int.le_refl 0,Int.le_refl 0,λi x h=>by simp at h,λi j h=>by simp at h⟩,Int.le_refl 0⟩ (by show N - 0<_;omega) ?_;rintro⟨out,n,s⟩ ⟨hI,h0⟩;obtain⟨s,rfl⟩:=nO h0;simp only[pB]at hI ⊢;unfold ZN;rw[zG];refine⟨λhc=>?_,λhc=>?_⟩
 ·rw[hl]at hc;have hsN:s<N:=by simpa using hc
  rw[zt];have inner:Ret (loop (λs_1=>qH (tab N f) out (s:Int) s_1.1 s_1.2) (-1,0)) λb=>(b=-1/\∀t,t<s->f s t=true)\/∃t,t<s/\f s t=false/\out[t]?=some b:=by
   refine zQ (λq=>0<=q.2/\q.2<=(s:Int)/\((q.1=-1/\∀t:Nat,(t:Int)<q.2->f s t=true)\/∃t,t<s/\f s t=false/\out[t]?=some q.1)) (λq=>s - q.2.toNat) ⟨by omega,by omega,.inl ⟨rfl,λt ht=>by simp at ht;omega⟩⟩ (by show s - 0<_;omega) ?_;rintro⟨b,t⟩ ⟨g0,g1,g2⟩;simp only at g0 g1 g2 ⊢;obtain⟨t,rfl⟩:=nO g0;unfold qH qI;rw[zG];refine⟨λhc=>?_,λhc=>?_⟩
   ·have hts:t<s:=by simpa using hc
    have hw:w64 ((t:Int)+1)=((t+1:Nat):Int):=by rw[zJ (by omega) (by omega)];rfl
    rw[zjr f hsN (by omega),hw,zG];refine⟨λhf=>?_,λhf=>?_⟩
    ·rw[zt,zg7];have:∃x,out[t]?=some x:=⟨out[t]'(by rw[hI.len];exact hts),p7 _⟩;obtain⟨x,hx⟩:=this;refine⟨by omega,x,by rw[pB];exact hx,ze.2 ⟨⟨by omega,by omega,.inr ⟨t,hts,by simpa using hf,hx⟩⟩,by simp only[pB];omega⟩⟩
    ·refine ze.2 ⟨⟨by omega,by omega,?_⟩,by simp only[pB];omega⟩;rcases g2 with⟨e,g2⟩|g2
     ·refine .inl ⟨e,λu hu=>?_⟩;rcases pH u t with q|q
      ·exact g2 u (by omega)
      ·have:u=t:=by omega
       subst this;simpa using hf
     ·exact .inr g2
   ·have hts:¬t<s:=by simpa using hc
    refine ze.2 ?_;rcases g2 with⟨e,g2⟩|g2
    ·exact .inl ⟨e,λu hu=>g2 u (by omega)⟩
    ·exact .inr g2
  refine inner.mono λb hb=>?_;have hw:w64 ((s:Int)+1)=((s+1:Nat):Int):=by rw[zJ (by omega) (by omega)];rfl
  have hlen:=hI.len;have hnS:=hI.nS;have hn0:=hI.n0;have fin:∀(n' c:Int),0<=n'->n'<=((s+1:Nat):Int)->n<=n'->0<=c->c<n'->(∀t,t<s->(out[t]?=some c↔f s t=false)) ->
    Ret (vO out (s:Int) n' c) (LRP (λs'=>(zxa N f s'.1 s'.2.1 s'.2.2.toNat/\0<=s'.2.2)/\N - s'.2.2.toNat<N - s) λout=>out.length=N/\∀i j,i<N->j<N->(out[i]?=out[j]?↔f i j=false)):=by
   intro n' c a1 a2 a3 a4 a5 a6;unfold vO ZP;rw[Ux,hw];refine⟨by simp[hlen];omega,ze.2 ⟨⟨⟨by simp[hlen],by simp only[pB];omega,a1,by simp only[pB];exact a2,?_,?_⟩,nM _⟩,by simp only[pB];omega⟩⟩
   ·intro i x hx;rcases pH i s with q|q
    ·rw[pG (by omega)]at hx;have:=hI.lt i x hx;exact⟨this.1,by have:=this.2;simp only;omega⟩
    ·rw[pF (by omega)]at hx;cases hh:i - out.length with
     | zero=>rw[hh]at hx;simp at hx;subst hx;exact⟨a4,a5⟩
     | succ k=>rw[hh]at hx;simp at hx
   ·intro i j hi hj;simp only[pB]at hi hj;have at_:∀i,i<s->(out++[c])[i]?=out[i]?:=λi h=>pG (by omega);have at_s:(out++[c])[s]?=some c:=by rw[<-hlen,pF (pC _)];simp
    rcases pH i s with q|q <;> rcases pH j s with q'|q'
    ·show(out++[c])[i]?=(out++[c])[j]?↔_;rw[at_ i q,at_ j q'];exact hI.cls i j q q'
    ·have:j=s:=by omega
     subst this;show(out++[c])[i]?=(out++[c])[j]?↔_;rw[at_ i q,at_s,a6 i q];exact⟨λh=>hs _ _ (by omega) (by omega) h,λh=>hs _ _ (by omega) (by omega) h⟩
    ·have:i=s:=by omega
     subst this;show(out++[c])[i]?=(out++[c])[j]?↔_;rw[at_ j q',at_s,eq_comm,a6 j q']
    ·have e1:i=s:=by omega
     have e2:j=s:=by omega
     subst e1;subst e2;exact⟨λ_=>hr _ hsN,λ_=>rfl⟩
  unfold ZO;rw[zG];rcases hb with⟨rfl,hb⟩|⟨t,ht1,ht2,ht3⟩
  ·refine⟨λ_=>?_,λh=>by simp at h⟩;rw[zJ (by omega) (by omega)];refine fin (n+1) n (by omega) (by omega) (by omega) hn0 (by omega) λt hts=>?_;rw[hb t hts];refine⟨λh=>?_,λh=>by cases h⟩;have:=hI.lt t n h;omega
  ·have hb0:=hI.lt t b ht3;refine⟨λh=>by simp at h;omega,λ_=>fin n b hn0 (by omega) (by omega) hb0.1 hb0.2 λu hu=>?_⟩;rw[<-ht3,hI.cls u t hu ht1];exact⟨λh=>ht _ _ _ (by omega) (by omega) (by omega) ht2 (hs _ _ (by omega) (by omega) h),λh=>ht _ _ _ (by omega) (by omega) (by omega) (hs _ _ (by omega) (by omega) h) ht2⟩
 ·rw[hl]at hc;have hsN:¬s<N:=by simpa using hc
  have:s=N:=by have:=hI.sN;omega
  subst this;exact ze.2 ⟨hI.len,hI.cls⟩
end
def SEq (m:z6)(s t:Nat):Prop:=∀w:List Nat,(∀i∈w,i<kk m)->rsp m (s:Int) w=rsp m (t:Int) w
theorem zg5 (m:z6):∀(w:List Nat) (s:Int),s<0->rsp m s w=w.map λ_=>-1
 | [],_,_=>rfl
 | i::w,s,h=>by simp only[rsp,nxE,if_pos h,gM];rw[zg5 m w (-1) (by omega)]
theorem ZH (m:z6)(s i:Nat):nxE m (s:Int) i=E m s i:=by unfold nxE;rw[if_neg (by omega),pB]
section
variable {m:z6}(h:WM m)
include h
theorem zgk:∀(n:Nat) (p:Nat×Nat),p.1<m.Rows.length->p.2<m.Rows.length->Mk (kk m) (V6 m m) (nxP m m) n p->∃w:List Nat,(∀i∈w,i<kk m)/\rsp m (p.1:Int) w≠rsp m (p.2:Int) w
 | 0,p,_,_,q=>q.elim
 | n+1,p,h1,h2,q=>by
  rcases q with q|⟨i,hi,q|⟨r,hr,q⟩⟩
  ·exact zgk n p h1 h2 q
  ·refine⟨[i],by simpa using hi,λe=>?_⟩;simp only[rsp,ZH,List.cons.injEq,and_true]at e;simp[V6,e]at q
  ·have hin:=h.nx_in h1 h2 hi hr;obtain⟨w,hw,hne⟩:=zgk n r hin.1 hin.2 q;refine⟨i::w,λj hj=>by rcases pD.1 hj with rfl|hj;exact hi;exact hw j hj,λe=>hne ?_⟩;simp only[rsp,ZH,List.cons.injEq]at e;unfold nxP at hr;split at hr
   ·rename_i hc;cases hr;have e1:(((E m p.1 i).To.toNat:Nat):Int)=(E m p.1 i).To:=by omega
    have e2:(((E m p.2 i).To.toNat:Nat):Int)=(E m p.2 i).To:=by omega
    simp only[e1,e2];exact e.2
   ·cases hr
theorem zje:∀(w:List Nat) (p:Nat×Nat),p.1<m.Rows.length->p.2<m.Rows.length->(∀i∈w,i<kk m)->rsp m (p.1:Int) w≠rsp m (p.2:Int) w->Mk (kk m) (V6 m m) (nxP m m) w.length p
 | [],p,_,_,_,q=>(q rfl).elim
 | i::w,p,h1,h2,hw,q=>by
  have hi:=hw i (by simp);refine .inr ⟨i,hi,?_⟩;by_cases hb:V6 m m p i=true
  ·exact .inl hb
  ·have he:(E m p.1 i).Out=(E m p.2 i).Out:=by simpa[V6] using hb
   simp only[rsp,ZH,he,ne_eq,List.cons.injEq,true_and]at q;have a:=h.edgeAt h1 hi;have b:=h.edgeAt h2 hi;by_cases hc:0<=(E m p.1 i).To/\0<=(E m p.2 i).To
   ·have hr:nxP m m p i=some ((E m p.1 i).To.toNat,(E m p.2 i).To.toNat):=by unfold nxP;rw[if_pos hc]
    have hin:=h.nx_in h1 h2 hi hr;have e1:(((E m p.1 i).To.toNat:Nat):Int)=(E m p.1 i).To:=by omega
    have e2:(((E m p.2 i).To.toNat:Nat):Int)=(E m p.2 i).To:=by omega
    exact .inr ⟨_,hr,zje w _ hin.1 hin.2 (λj hj=>hw j (by simp[hj])) (by simpa only[e1,e2] using q)⟩
   ·exfalso;refine q ?_;have e1:(E m p.1 i).To=-1:=by omega
    have e2:(E m p.2 i).To=-1:=by omega
    rw[e1,e2]
theorem z4n {s t:Nat}(hs:s<m.Rows.length)(ht:t<m.Rows.length):mrk m m.Rows.length s t=false↔SEq m s t:=by
 have e:mrk m m.Rows.length s t=true↔¬SEq m s t:=by
  unfold mrk;rw[zda];constructor
  ·intro q g;obtain⟨w,hw,hne⟩:=zgk h _ (s,t) hs ht q;exact hne (g w hw)
  ·intro q;obtain⟨w,hw⟩:=Classical.not_forall.1 q;obtain⟨hw,hne⟩:=Classical.not_imp.1 hw;have:=z5q h hs ht (zje h w (s,t) hs ht hw hne);exact this.mono (by omega)
 constructor
 ·intro q;exact gO λg=>by rw[e.2 g]at q;cases q
 ·intro q;cases hm:mrk m m.Rows.length s t with
  | false=>rfl
  | true=>exact(e.1 hm q).elim
theorem zaa:Ret (YJ m) λl=>l.length=m.Rows.length/\∀s t,s<m.Rows.length->t<m.Rows.length->(l[s]?=l[t]?↔SEq m s t):=by have hl:=h.len;unfold YJ Ks;rw[zt,bdT (zkR h m.Rows.length (by omega)),zt];refine Ret.mono (zoj (by omega) (λs hs=>(z4n h hs hs).2 λw _=>rfl) (λs t hs ht q=>(z4n h ht hs).2 λw hw=>((z4n h hs ht).1 q w hw).symm) (λs t u hs ht hu q r=>(z4n h hs hu).2 λw hw=>((z4n h hs ht).1 q w hw).trans ((z4n h ht hu).1 r w hw))) ?_;rintro l ⟨h1,h2⟩;exact ze.2 (ze.2 ⟨h1,λs t hs ht=>(h2 s t hs ht).trans (z4n h hs ht)⟩)
end
theorem zi1 (h:VM m):∀(w:List Nat) (n:Nat) (s:Int),zbG m s->(∀i∈w,i<kk m)->w.length<n->WH n m s (w.map Int.ofNat)=some (aft m s w)
 | w,0,_,_,_,hn=>by omega
 | [],n+1,s,hs,_,_=>by show YK (WH n) m s []=_;rfl
 | i::w,n+1,s,hs,hw,hn=>by
  show YK (WH n) m s ((i:Int)::w.map Int.ofNat)=_;have hi:=hw i (by simp);have hx:=zkJ h hs hi;unfold YK;have hz:(((((i:Int)::w.map Int.ofNat).length:Nat):Int)==0)=false:=by rw[beq_eq_false_iff_ne];simp only[gI];omega
  rw[hz,cond_false];have e0:idx ((i:Int)::w.map Int.ofNat) 0=some (i:Int):=rfl;rw[bdT e0,bdT hx.1,gdT (by simp;omega)];have e1:((i:Int)::w.map Int.ofNat).drop (1:Int).toNat=w.map Int.ofNat:=rfl;rw[e1,bdT (zi1 h w n _ hx.2 (λj hj=>hw j (by simp[hj])) (by simp at hn;omega))];rfl
theorem zi4 (h:VM m){s:Int}(hs:zbG m s)(w:List Nat)(hw:∀i∈w,i<kk m):Jl m s (w.map Int.ofNat)=some (aft m s w):=by unfold Jl;exact zi1 h w _ s hs hw (by simp)
def zf7 (k:Nat):List Nat->Option (List Nat)
 | []=>none
 | d::r=>if d+1<k then some ((d+1)::r) else(zf7 k r).map (0 :: ·)
def z08 (k:Nat):List Nat->Nat
 | []=>0
 | d::r=>d+k*z08 k r
theorem z9e {k:Nat}:∀{r:List Nat},(∀d∈r,d<k)->z08 k r<k ^ r.length
 | [],_=>by simp[z08]
 | d::r,h=>by have ih:=z9e (k:=k) (r:=r) λx hx=>h x (by simp[hx]);have hd:=h d (by simp);simp only[z08,gI,s7];have:k*(z08 k r+1)<=k*k ^ r.length:=Nat.mul_le_mul_left k ih;rw[Nat.mul_add,Nat.mul_one]at this;rw[rN (k ^ r.length) k];omega
theorem zgS:∀{r s:List Nat},r.length=s.length->(∀d∈r,d<k)->(∀d∈s,d<k)->z08 k r=z08 k s->r=s
 | [],[],_,_,_,_=>rfl
 | [],_::_,h,_,_,_=>by simp at h
 | _::_,[],h,_,_,_=>by simp at h
 | d::r,e::s,h,h1,h2,hv=>by
  have hd:=h1 d (by simp);have he:=h2 e (by simp);simp only[z08]at hv;have a1:(d+k*z08 k r) % k=d:=by rw[Nat.add_mul_mod_self_left,rn hd]
  have a2:(e+k*z08 k s) % k=e:=by rw[Nat.add_mul_mod_self_left,rn he]
  have hde:d=e:=by rw[<-a1,<-a2,hv]
  subst hde;have hk:0<k:=by omega
  have:k*z08 k r=k*z08 k s:=by omega
  have:=Nat.eq_of_mul_eq_mul_left hk this;rw[zgS (by simpa using h) (λx hx=>h1 x (by simp[hx])) (λx hx=>h2 x (by simp[hx])) this]
theorem zf5:∀{r s:List Nat},(∀d∈r,d<k)->zf7 k r=some s->s.length=r.length/\(∀d∈s,d<k)/\z08 k s=z08 k r+1
 | [],s,_,h=>by cases h
 | d::r,s,hr,h=>by
  have hd:=hr d (by simp);unfold zf7 at h;split at h
  ·rename_i hc;cases h;exact⟨rfl,λx hx=>by rcases pD.1 hx with rfl|hx;exact hc;exact hr x (by simp[hx]),by simp only[z08];omega⟩
  ·rename_i hc;obtain⟨s',h1,rfl⟩:=pZ.1 h;obtain⟨g1,g2,g3⟩:=zf5 (λx hx=>hr x (by simp[hx])) h1;refine⟨by simp[g1],λx hx=>by rcases pD.1 hx with rfl|hx;omega;exact g2 x hx,?_⟩;simp only[z08,g3,Nat.mul_add,Nat.mul_one];omega
theorem zf6 (hk:0<k):∀{r:List Nat},(∀d∈r,d<k)->zf7 k r=none->z08 k r+1=k ^ r.length
 | [],_,_=>by simp[z08]
 | d::r,hr,h=>by
  have hd:=hr d (by simp);unfold zf7 at h;split at h
  ·cases h
  ·rename_i hc;have h1:zf7 k r=none:=by cases e:zf7 k r with|none=>rfl|some x=>rw[e]at h;cases h
   have:=zf6 hk (λx hx=>hr x (by simp[hx])) h1;simp only[z08,gI,s7,<-this,mn,rm,rN k];omega
def zeQ (k:Nat)(w:List Nat):List Nat:=match zf7 k w.reverse with|some r=>r.reverse|none=>List.replicate (w.length+1) 0
variable {w:List Nat}
theorem zeP (hk:1<=k)(hk2:k<=1000)  (hw:∀i∈w,i<k)(hl:w.length<=100000):Vz (w.map Int.ofNat) (k:Int)=some ((zeQ k w).map Int.ofNat):=by
 have hloop:Ret (loop (λs=>WD (k:Int) s.1 s.2) (w.map Int.ofNat,w64 ((((w.map Int.ofNat).length:Nat):Int) - 1))) λr=>match r with
   | .inl o=>zf7 k w.reverse=none/\o=List.replicate w.length (0:Int)
   | .inr o=>∃r,zf7 k w.reverse=some r/\o=r.reverse.map Int.ofNat:=by
  refine zQ (λq=>∃(p:List Nat) (z:Nat),q.1=(p++List.replicate z 0).map Int.ofNat/\q.2=(p.length:Int) - 1/\(∀i∈p,i<k)/\p.length+z=w.length/\zf7 k w.reverse=(zf7 k p.reverse).map (λr=>List.replicate z 0++r)) (λq=>(q.2+1).toNat) ⟨w,0,by simp,by rw[zJ (by simp;omega) (by simp;omega)];simp,hw,by simp,by cases zf7 k w.reverse <;> simp⟩ (by simp only;rw[zJ (by simp;omega) (by simp;omega)];simp;omega) ?_;rintro⟨out,j⟩ ⟨p,z,h1,h2,h3,h4,h5⟩;simp only at h1 h2;subst h1;subst h2;unfold WD;rw[zG];refine⟨λhc=>?_,λhc=>?_⟩
  ·have hp:1<=p.length:=by simp at hc;omega
   obtain⟨p',d,rfl⟩:∃p' d,p=p' ++ [d]:=by
    rcases rO p with e|⟨p',d,e⟩
    ·subst e;simp at hp
    ·exact⟨p',d,by simpa using e⟩
   have hd:=h3 d (by simp);have hj:(((p' ++ [d]).length:Nat):Int) - 1=((p'.length:Nat):Int):=by simp
   have hx:((p' ++ [d]++List.replicate z 0).map Int.ofNat)[p'.length]?=some (d:Int):=by simp
   have hset:∀e:Nat,((p' ++ [d]++List.replicate z 0).map Int.ofNat).set p'.length (e:Int)=(p' ++ e::List.replicate z 0).map Int.ofNat:=by intro e;rw[pL,mF,List.set_append,if_neg (by simp)];simp
   have hr:(p' ++ [d]).reverse=d::p'.reverse:=by simp
   rw[hr]at h5;have hin:zf7 k (d::p'.reverse)=if d+1<k then some ((d+1)::p'.reverse) else(zf7 k p'.reverse).map (0 :: ·):=rfl
   have hw1:w64 ((d:Int)+1)=((d+1:Nat):Int):=by rw[zJ (by omega) (by omega)];rfl
   rw[hj,y6,bdT hx,hw1,zG];refine⟨λhc=>?_,λhc=>?_⟩
   ·have hdk:d+1<k:=by simp at hc;omega
    rw[bdT hx,bdT hx,hw1,pB,hset];refine ze.2 ?_;rw[hin,if_pos hdk]at h5;exact⟨_,h5,by simp⟩
   ·have hdk:¬d+1<k:=by simp at hc;omega
    rw[bdT hx,pB,zJ (by omega) (by omega)];have h0:=hset 0;simp only[Int.natCast_zero]at h0;refine ze.2 ⟨⟨p',z+1,?_,rfl,λi hi=>h3 i (by simp[hi]),by simp at h4;omega,?_⟩,?_⟩
    ·rw[nI];exact h0
    ·rw[hin,if_neg hdk]at h5;rw[h5];cases zf7 k p'.reverse with
     | none=>rfl
     | some r=>simp[List.replicate_succ']
    ·simp only
     omega
  ·have hp:p=[]:=mU (by simp at hc;omega);subst hp;refine ze.2 ⟨?_,?_⟩
   ·rw[h5];rfl
   ·simp at h4;simp[h4]
 unfold Vz;rw[gdT (by simp;omega)];obtain⟨r,e,hr⟩:=hloop;rw[bdT e];unfold zeQ;cases r with
 | inl o=>obtain⟨g1,rfl⟩:=hr;show WE _=_;unfold WE;rw[gdT (by simp;omega),g1];simp[List.replicate_succ']
 | inr o=>obtain⟨r,g1,rfl⟩:=hr;show some _=_;rw[g1]
def GG (k:Nat):Nat->Nat
 | 0=>0
 | n+1=>GG k n+k ^ n
theorem z4R {k n m:Nat}(h:n<=m):GG k n<=GG k m:=by
 induction h with
 | refl=>exact pC _
 | step _ ih=>exact pE ih (Nat.le_add_right _ _)
def rk (k:Nat)(w:List Nat):Nat:=GG k w.length+z08 k w.reverse
def Wd (k:Nat)(w:List Nat):Prop:=∀i∈w,i<k
theorem Wd.rev (h:Wd k w):∀d∈w.reverse,d<k:=λd hd=>h d (by simpa using hd)
theorem zo4 (h:Wd k w):rk k w<GG k (w.length+1):=by have:=z9e h.rev;rw[mK]at this;show GG k w.length+z08 k w.reverse<GG k w.length+k ^ w.length;omega
theorem z9z {k:Nat}{w u:List Nat}(hw:Wd k w)(h:w.length<u.length):rk k w<rk k u:=by have h1:=zo4 hw;have h2:=z4R (k:=k) (show w.length+1<=u.length from h);unfold rk at *;omega
theorem zew {w u:List Nat}(hw:Wd k w)(hu:Wd k u)(h:rk k w=rk k u):w=u:=by
 have hl:w.length=u.length:=by
  rcases nD w.length u.length with q|q|q
  ·have:=z9z hw q;omega
  ·exact q
  ·have:=z9z hu q;omega
 have hv:z08 k w.reverse=z08 k u.reverse:=by unfold rk at h;rw[hl]at h;omega
 have:=zgS (by simpa using hl) hw.rev hu.rev hv;simpa using congrArg List.reverse this
theorem ze4 (k:Nat):∀n,z08 k (List.replicate n 0)=0
 | 0=>rfl
 | n+1=>by simp[nI,z08,ze4 k n]
theorem zhq (hk:1<=k)  (hw:Wd k w):Wd k (zeQ k w)/\rk k (zeQ k w)=rk k w+1/\(zeQ k w).length<=w.length+1:=by
 unfold zeQ;cases e:zf7 k w.reverse with
 | some r=>obtain⟨h1,h2,h3⟩:=zf5 hw.rev e;rw[mK]at h1;refine⟨λi hi=>h2 i (by simpa using hi),?_,by simp[h1]⟩;simp only[rk,mK,List.reverse_reverse,h1,h3];omega
 | none=>have h:=zf6 (by omega) hw.rev e;rw[mK]at h;refine⟨λi hi=>by have:=(List.mem_replicate.1 hi).2;omega,?_,by simp⟩;simp only[rk,mN,List.reverse_replicate,ze4,GG,<-h];omega
section
variable {m:z6}
def zaU (m:z6)(from_:Int)(l:List (List Int))(is:List Bool)(r t:Nat):Prop :=
 (is[t]?=some true/\∃v:List Nat,l[t]?=some (v.map Int.ofNat)/\rk (kk m) v<r/\Wd (kk m) v/\v.length<m.Rows.length/\aft m from_ v=(t:Int)/\∀u,Wd (kk m) u->aft m from_ u=(t:Int)->rk (kk m) v<=rk (kk m) u) \/
 (is[t]?=some false/\l[t]?=some []/\∀u,Wd (kk m) u->rk (kk m) u<r->aft m from_ u≠(t:Int))
theorem zci (h:VM m):∀(w:List Nat) (s:Int),zbG m s->Wd (kk m) w->zbG m (aft m s w)
 | [],s,hs,_=>hs
 | i::w,s,hs,hw=>zci h w _ (zrX h hs (hw i (by simp))) λj hj=>hw j (by simp[hj])
theorem zkt (h:VM m)(hG:GG (kk m) m.Rows.length<=1000000000){from_:Int}(hf:zbG m from_) :
  Ret (Jj m from_) λr=>r.1.length=m.Rows.length/\r.2.length=m.Rows.length/\∀t,t<m.Rows.length->zaU m from_ r.1 r.2 (GG (kk m) m.Rows.length) t:=by
 have l64:=h.len64;have l1:=h.len1;have hk:=h.kk_pos;have hk2:=h.kk_le;have hke:=h.kk_eq;unfold Jj Uj;rw[Ux,Ux];refine⟨by omega,by omega,?_⟩;rw[zt];refine Ret.mono ?_ λr hr=>ze.2 hr;refine zQ (λq=>∃w:List Nat,q.2.2=w.map Int.ofNat/\Wd (kk m) w/\w.length<=m.Rows.length/\rk (kk m) w<=GG (kk m) m.Rows.length/\q.1.length=m.Rows.length/\q.2.1.length=m.Rows.length/\∀t,t<m.Rows.length->zaU m from_ q.1 q.2.1 (rk (kk m) w) t)
  (λq=>GG (kk m) m.Rows.length - rk (kk m) (q.2.2.map Int.toNat)) ⟨[],rfl,λi hi=>by simp at hi,by simp,by simp[rk,GG,z08],by simp,by simp,λt ht=>.inr ⟨by simp[ht],by simp[ht],λu _ hu=>by simp[rk,GG,z08]at hu⟩⟩ (by simp only;omega) ?_
 rintro⟨l,is,wi⟩ ⟨w,h1,hw,hwl,hwr,h2,h3,h4⟩;simp only at h1 h2 h3 h4;subst h1;have hback:∀w:List Nat,(w.map Int.ofNat).map Int.toNat=w:=λw=>by induction w with|nil=>rfl|cons a w ih=>simp only[gM,ih];rfl
 simp only[hback];unfold Ui;rw[zG];refine⟨λhc=>?_,λhc=>?_⟩
 ·have hlt:w.length<m.Rows.length:=by simpa using hc
  have hrk:rk (kk m) w<GG (kk m) m.Rows.length:=Nat.lt_of_lt_of_le (zo4 hw) (z4R hlt);obtain⟨n1,n2,n3⟩:=zhq hk hw;have hnx:Vz (w.map Int.ofNat) m.Inputs=some ((zeQ (kk m) w).map Int.ofNat):=by rw[<-hke];exact zeP hk (by omega) hw (by omega)
  have fin:∀(l2:List (List Int)) (is2:List Bool),l2.length=m.Rows.length->is2.length=m.Rows.length->(∀t,t<m.Rows.length->zaU m from_ l2 is2 (rk (kk m) w+1) t) ->
    Ret (qW m (w.map Int.ofNat) l2 is2) (LRP (λs'=>(∃w:List Nat,s'.2.2=w.map Int.ofNat/\Wd (kk m) w/\w.length<=m.Rows.length/\rk (kk m) w<=GG (kk m) m.Rows.length/\s'.1.length=m.Rows.length/\s'.2.1.length=m.Rows.length/\∀t,t<m.Rows.length->zaU m from_ s'.1 s'.2.1 (rk (kk m) w) t)/\GG (kk m) m.Rows.length - rk (kk m) (s'.2.2.map Int.toNat)<GG (kk m) m.Rows.length - rk (kk m) w)
     λr=>r.1.length=m.Rows.length/\r.2.length=m.Rows.length/\∀t,t<m.Rows.length->zaU m from_ r.1 r.2 (GG (kk m) m.Rows.length) t):=by
   intro l2 is2 a1 a2 a3;unfold qW;rw[bdT hnx];refine ze.2 ⟨⟨_,rfl,n1,by omega,by omega,a1,a2,λt ht=>by rw[n2];exact a3 t ht⟩,?_⟩;rw[hback,n2];omega
  have hin:=zci h w from_ hf hw;rw[bdT (zi4 h hf w hw),zG];have stay:∀t,t<m.Rows.length->(aft m from_ w=(t:Int)->is[t]?=some true)->zaU m from_ l is (rk (kk m) w+1) t:=by
   intro t ht hn;rcases h4 t ht with⟨g1,v,g2,g3,g4⟩|⟨g1,g2,g3⟩
   ·exact .inl ⟨g1,v,g2,by omega,g4⟩
   ·refine .inr ⟨g1,g2,λu hu hr e=>?_⟩;rcases pH (rk (kk m) u) (rk (kk m) w) with q|q
    ·exact g3 u hu q e
    ·have:=zew hu hw (by omega);subst this;rw[hn e]at g1;cases g1
  refine⟨λhc=>?_,λhc=>?_⟩
  ·have hs0:0<=aft m from_ w:=by simpa using hc
   obtain⟨s,hs⟩:=nO hs0;have hsN:s<m.Rows.length:=by have:=hin.2;omega
   rw[hs];rcases h4 s hsN with⟨g1,v,g2,g3⟩|⟨g1,g2,g3⟩
   ·rw[y6,bdT g1];simp only[gP,cond_false];refine fin l is h2 h3 λt ht=>stay t ht λe=>?_;have:t=s:=by omega
    subst this;exact g1
   ·rw[y6,bdT g1];simp only[mM,cond_true];rw[bdT g1,y6,bdT g2,pB];refine fin _ _ (by simpa using h2) (by simpa using h3) λt ht=>?_;by_cases e:t=s
    ·subst e;refine .inl ⟨by simp[h3,ht],w,by simp[h2,ht],by omega,hw,hlt,hs,λu hu he=>?_⟩;rcases pH (rk (kk m) u) (rk (kk m) w) with q|q
     ·exact(g3 u hu q he).elim
     ·exact q
    ·have:=stay t ht λe2=>by omega
     unfold zaU at this ⊢;rw[gK (by omega),gK (by omega)];exact this
  ·have hs0:¬0<=aft m from_ w:=by simpa using hc
   exact fin l is h2 h3 λt ht=>stay t ht λe=>by omega
 ·have hlt:¬w.length<m.Rows.length:=by simpa using hc
  have hle:w.length=m.Rows.length:=by omega
  have hrk:rk (kk m) w=GG (kk m) m.Rows.length:=by
   have:GG (kk m) m.Rows.length<=rk (kk m) w:=by rw[<-hle];unfold rk;omega
   omega
  refine ze.2 ⟨h2,h3,λt ht=>?_⟩;rw[<-hrk];exact h4 t ht
end
def ur:List Int->List Int->Int
 | [],[]=>0
 | [],_::_=>-1
 | _::_,[]=>1
 | x::a,y::b=>if x<y then -1 else if y<x then 1 else ur a b
def ZW (a b:List Int):Int:=if a.length<b.length then -1 else if b.length<a.length then 1 else ur a b
theorem zl5:∀{a b:List Int},ur a b=0->a=b
 | [],[],_=>rfl
 | [],_::_,h=>by simp[ur]at h
 | _::_,[],h=>by simp[ur]at h
 | x::a,y::b,h=>by
  simp only[ur]at h;split at h
  ·simp at h
  ·split at h
   ·simp at h
   ·rw[show x=y by omega,zl5 h]
theorem zeY:∀a:List Int,ur a a=0
 | []=>rfl
 | x::a=>by simp[ur,zeY a]
theorem zhx:∀a b:List Int,ur b a=- ur a b
 | [],[]=>rfl
 | [],_::_=>rfl
 | _::_,[]=>rfl
 | x::a,y::b=>by
  simp only[ur];split
  ·rw[if_neg (by omega)]
  ·split
   ·rfl
   ·exact zhx a b
theorem zc4:∀{a b c:List Int},ur a b<0->ur b c<0->ur a c<0
 | [],[],_,h,_=>by simp[ur]at h
 | [],_::_,[],_,h=>by simp[ur]at h
 | [],_::_,_::_,_,_=>by simp[ur]
 | _::_,[],_,h,_=>by simp[ur]at h
 | _::_,_::_,[],_,h=>by simp[ur]at h
 | x::a,y::b,z::c,h1,h2=>by
  simp only[ur]at h1 h2 ⊢;by_cases e1:x<y
  ·by_cases e2:y<z
   ·rw[if_pos (by omega)];omega
   ·rw[if_neg e2]at h2;by_cases e3:z<y
    ·rw[if_pos e3]at h2;omega
    ·rw[if_pos (by omega)];omega
  ·rw[if_neg e1]at h1;by_cases e3:y<x
   ·rw[if_pos e3]at h1;omega
   ·rw[if_neg e3]at h1;have:x=y:=by omega
    subst this;by_cases e2:x<z
    ·rw[if_pos e2];omega
    ·rw[if_neg e2]at h2 ⊢;by_cases e4:z<x
     ·rw[if_pos e4]at h2;omega
     ·rw[if_neg e4]at h2 ⊢;exact zc4 h1 h2
variable {a b:List Int}
theorem z2P (h:ZW a b=0):a=b:=by
 unfold ZW at h;split at h
 ·simp at h
 ·split at h
  ·simp at h
  ·exact zl5 h
theorem UJ (a:List Int):ZW a a=0:=by simp[ZW,zeY]
theorem zhT:ZW a b=0↔a=b:=⟨z2P,λh=>h ▸ UJ a⟩
theorem zhS (a b:List Int):ZW b a=- ZW a b:=by
 unfold ZW;by_cases h1:a.length<b.length
 ·rw[if_pos h1,if_neg (by omega),if_pos h1];rfl
 ·by_cases h2:b.length<a.length
  ·rw[if_pos h2,if_neg h1,if_pos h2]
  ·rw[if_neg h1,if_neg h2,if_neg h2,if_neg h1,zhx]
theorem jV {a b c:List Int}(h1:ZW a b<0)(h2:ZW b c<0):ZW a c<0:=by
 unfold ZW at *;by_cases e1:a.length<b.length
 ·by_cases e2:b.length<c.length
  ·rw[if_pos (by omega)];omega
  ·rw[if_neg e2]at h2;by_cases e3:c.length<b.length
   ·rw[if_pos e3]at h2;omega
   ·rw[if_pos (by omega)];omega
 ·rw[if_neg e1]at h1;by_cases e3:b.length<a.length
  ·rw[if_pos e3]at h1;omega
  ·rw[if_neg e3]at h1;have e:a.length=b.length:=by omega
   rw[e];by_cases e2:b.length<c.length
   ·rw[if_pos e2];omega
   ·rw[if_neg e2]at h2 ⊢;by_cases e4:c.length<b.length
    ·rw[if_pos e4]at h2;omega
    ·rw[if_neg e4]at h2 ⊢;exact zc4 h1 h2
theorem z3m (a:List Int):¬ZW a a<0:=by rw[UJ];omega
theorem zlP (h:ZW a b<0):¬ZW b a<0:=by rw[zhS a b];omega
theorem zdo:¬ZW a b<0↔ZW b a<0\/a=b:=by rw[<-zhT,zhS a b];omega
def SW (l:List (List Int)):Prop:=l.Pairwise λa b=>ZW a b<0
theorem SW.nil:SW []:=List.Pairwise.nil
variable {l:List (List Int)}{x:List Int}
theorem SW.tail (h:SW (x::l)):SW l:=(mW.1 h).2
theorem SW.head (h:SW (x::l)):∀y∈l,ZW x y<0:=(mW.1 h).1
theorem SW.unique:∀{l m:List (List Int)},SW l->SW m->(∀x,x∈l↔x∈m)->l=m
 | [],[],_,_,_=>rfl
 | [],y::m,_,_,h=>by have:=(h y).2 (by simp);simp at this
 | x::l,[],_,_,h=>by have:=(h x).1 (by simp);simp at this
 | x::l,y::m,h1,h2,h=>by
  have hxy:x=y:=by
   rcases pD.1 ((h x).1 (by simp)) with e|e
   ·exact e
   ·rcases pD.1 ((h y).2 (by simp)) with e'|e'
    ·exact e'.symm
    ·exact absurd (h2.head x e) (zlP (h1.head y e'))
  subst hxy;rw[SW.unique h1.tail h2.tail λz=>?_];constructor
  ·intro hz;rcases pD.1 ((h z).1 (by simp[hz])) with e|e
   ·subst e;exact absurd (h1.head _ hz) (z3m _)
   ·exact e
  ·intro hz;rcases pD.1 ((h z).2 (by simp[hz])) with e|e
   ·subst e;exact absurd (h2.head _ hz) (z3m _)
   ·exact e
theorem SW.sub {l m:List (List Int)}(h:SW l)(hs:List.Sublist m l):SW m:=rf hs h
theorem SW.filter (h:SW l)(p:List Int->Bool):SW (l.filter p):=h.sub List.filter_sublist
theorem SW.nodup (h:SW l):l.Nodup:=List.Pairwise.imp (λ{a b} q e=>by subst e;exact z3m _ q) h
def zbs (w:List Int):List (List Int)->List (List Int)
 | []=>[w]
 | x::l=>if ZW x w<0 then x::zbs w l else if ZW x w=0 then x::l else w::x::l
theorem z5r {w x:List Int}:∀{l:List (List Int)},x∈zbs w l↔x=w\/x∈l
 | []=>by simp[zbs]
 | y::l=>by
  simp only[zbs];split
  ·simp only[pD,z5r];constructor
   ·rintro(h|h|h) <;> simp[h]
   ·rintro(h|h|h) <;> simp[h]
  ·split
   ·rename_i h1 h2;have:=z2P h2;subst this;simp
   ·simp
theorem SW.put {w:List Int}:∀{l:List (List Int)},SW l->SW (zbs w l)
 | [],_=>by simp[zbs,SW]
 | y::l,h=>by
  simp only[zbs];split
  ·rename_i h1;refine mW.2 ⟨λz hz=>?_,SW.put h.tail⟩;rcases z5r.1 hz with rfl|hz
   ·exact h1
   ·exact h.head z hz
  ·split
   ·exact h
   ·rename_i h1 h2;have hw:ZW w y<0:=by
     rcases zdo.1 h1 with q|q
     ·exact q
     ·exact absurd (zhT.2 q) h2
    refine mW.2 ⟨λz hz=>?_,h⟩;rcases pD.1 hz with rfl|hz
    ·exact hw
    ·exact jV hw (h.head z hz)
theorem zhj (w:List Int):∀l,(zbs w l).length<=l.length+1
 | []=>by simp[zbs]
 | y::l=>by
  simp only[zbs];split
  ·have:=zhj w l;simp;omega
  ·split <;> simp
def srt (l:List (List Int)):List (List Int):=l.foldl (λm w=>zbs w m) []
theorem zg0:∀(l m:List (List Int)),SW m->SW (l.foldl (λm w=>zbs w m) m)/\∀x,x∈l.foldl (λm w=>zbs w m) m↔x∈m\/x∈l
 | [],m,h=>⟨h,by simp⟩
 | w::l,m,h=>by
  obtain⟨h1,h2⟩:=zg0 l (zbs w m) h.put;refine⟨h1,λx=>?_⟩;rw[rc,h2,z5r];simp only[pD];constructor
  ·rintro((h|h)|h) <;> simp[h]
  ·rintro(h|h|h) <;> simp[h]
theorem X8 (l:List (List Int)):SW (srt l):=(zg0 l [] .nil).1
theorem yb:x∈srt l↔x∈l:=by rw[srt,(zg0 l [] .nil).2];simp
theorem zjB {l m:List (List Int)}(h:SW m)(hm:∀x,x∈m↔x∈l):m=srt l:=h.unique (X8 l) λx=>by rw[hm,yb]
theorem z5b (h:SW l):srt l=l:=(zjB h λ_=>.rfl).symm
theorem z5c {l m:List (List Int)}(h:∀x,x∈l↔x∈m):srt l=srt m:=zjB (X8 l) λx=>by rw[yb,h]
theorem zh4 (l:List (List Int))(w:List Int):srt (l++[w])=zbs w (srt l):=by simp[srt]
theorem KE (l:List (List Int)):(srt l).length<=l.length:=by
 have:∀(l m:List (List Int)),(l.foldl (λm w=>zbs w m) m).length<=m.length+l.length:=by
  intro l;induction l with
  | nil=>intro m;simp
  | cons w l ih=>intro m;have:=ih (zbs w m);have:=zhj w m;simp only[rc,gI];omega
 have q:=this l [];simp only[rW,gN]at q;exact q
theorem zA {l:List α}{i:Nat}{x:α}(h:l[i]?=some x):idx l (i:Int)=some x:=h
theorem zlv (b:List Int)(g:Nat->Int->Option Int)(hg:∀i x y,b[i]?=some y->g i x=if x<y then some (-1) else if y<x then some 1 else none) :
  ∀(a:List Int) (k:Nat),k+a.length=b.length->(yI g a k).getD 0=ur a (b.drop k)
 | [],k,h=>by have:b.drop k=[]:=mL (by simp at h;omega);rw[this];rfl
 | x::a,k,h=>by
  simp only[gI]at h;have hk:k<b.length:=by omega
  rw[mB hk];simp only[yI,ur,hg k x b[k] (p7 hk)];by_cases h1:x<b[k]
  ·simp[h1]
  ·by_cases h2:b[k]<x
   ·simp[h1,h2]
   ·simp only[h1,h2,if_false];exact zlv b g hg a (k+1) (by omega)
theorem z2O (a b:List Int)(h:a.length=b.length->a.length<4611686018427387904):ui a b=some (ZW a b):=by
 unfold ui;by_cases hl:a.length=b.length
 ·have h':=h hl;simp only[hl,bne_self_eq_false,cond_false];rw[bdT (u7 a h' (λi x=>match b[i]? with|some y=>if x<y then some (-1:Int) else if y<x then some 1 else none|none=>none) ?_ ?_)]
  ·have q:=zlv b (λi x=>match b[i]? with|some y=>if x<y then some (-1:Int) else if y<x then some 1 else none|none=>none) (λi x y hy=>by simp only[hy]) a 0 (by omega);rw[List.drop_zero]at q;have hc:ZW a b=ur a b:=by unfold ZW;rw[if_neg (by omega),if_neg (by omega)]
   rw[hc,<-q];cases yI (λi x=>match b[i]? with|some y=>if x<y then some (-1:Int) else if y<x then some 1 else none|none=>none) a 0 <;> rfl
  ·intro i x hx;have hi:i<a.length:=(p8.1 hx).1;have hy:b[i]?=some b[i]:=p7 (by omega);unfold Zd;have hc:decide ((i:Int)<(a.length:Int))=true:=by simpa using hi
   simp only[hc,cond_true,zA hx,zA hy,hy,oB];by_cases h1:x<b[i]
   ·simp[h1,nS]
   ·by_cases h2:b[i]<x
    ·simp[h1,h2,nS]
    ·simp[h1,h2,nS]
  ·unfold Zd;simp
 ·have h1:(((a.length:Nat):Int) !=((b.length:Nat):Int))=true:=by simp;omega
  simp only[h1,cond_true];unfold ZW;by_cases h2:a.length<b.length
  ·simp[h2]
  ·have h3:b.length<a.length:=by omega
   simp[h2,h3]
def cI (x y:Int):Int:=if x<y then -1 else if y<x then 1 else 0
theorem zlO (x y:Int):jU x y=some (cI x y):=by
 unfold jU WU cI;simp only[bne_self_eq_false,oB,cond_false];by_cases h1:x<y
 ·simp[h1]
 ·by_cases h2:y<x
  ·simp[h1,h2]
  ·simp[h1,h2]
theorem zrB (a b:List Int)(h:a.length<4611686018427387904):∃c,wR a b=some c/\(a.length=b.length->c=ur a b):=by
 unfold wR;have hloop:=u7 a h (step:=λs=>xm a b s) (λi x=>match b[i]? with|some y=>if x<y then some (-1:Int) else if y<x then some 1 else none|none=>some 1) (by
  intro i x hx;have hi:i<a.length:=(p8.1 hx).1;unfold xm;have hc:decide ((i:Int)<(a.length:Int))=true:=by simpa using hi
  simp only[hc,cond_true,zA hx,oB];by_cases hb:i<b.length
  ·have hy:b[i]?=some b[i]:=p7 hb;have hd:decide ((i:Int)>=(b.length:Int))=false:=by simp;omega
   simp only[hd,cond_false,zA hy,hy,oB,zlO];unfold cI;by_cases h1:x<b[i]
   ·simp[h1,nS]
   ·by_cases h2:b[i]<x
    ·simp[h1,h2,nS]
    ·simp[h1,h2,nS]
  ·have hy:b[i]?=none:=pQ (by omega);have hd:decide ((i:Int)>=(b.length:Int))=true:=by simp;omega
   simp only[hd,cond_true,hy,nS]) (by unfold xm;simp)
 rw[bdT hloop];have q:=λhl=>zlv b (λi x=>match b[i]? with|some y=>if x<y then some (-1:Int) else if y<x then some 1 else none|none=>some 1) (λi x y hy=>by simp only[hy]) a 0 hl;cases hf:yI (λi x=>match b[i]? with|some y=>if x<y then some (-1:Int) else if y<x then some 1 else none|none=>some 1) a 0 with
 | some r=>refine⟨r,rfl,λhl=>?_⟩;have:=q (by omega);rw[hf]at this;simpa using this
 | none=>
  unfold vb;by_cases hl:a.length<b.length
  ·refine⟨-1,by simp[oS,hl],λhl2=>by omega⟩
  ·refine⟨0,by simp[oS,hl],λhl2=>?_⟩;have:=q (by omega);rw[hf]at this;simpa using this
theorem zCZ (x y:Int):z0w [x,y]=some (if x=0 then y else x):=by
 unfold z0w;rw[bdT (u7 [x,y] (by simp) (step:=λs=>YW [x,y] s) (λi v=>if v≠0 then some v else none) ?_ ?_)]
 ·by_cases h1:x=0
  ·by_cases h2:y=0
   ·simp[yI,h1,h2,oS,Qu]
   ·simp[yI,h1,h2,oS]
  ·simp[yI,h1,oS]
 ·intro i v hv;have hi:i<[x,y].length:=(p8.1 hv).1;unfold YW;have hc:decide ((i:Int)<(([x,y]:List Int).length:Int))=true:=by simp only[decide_eq_true_eq];omega
  simp only[hc,cond_true,zA hv,oB];by_cases h:v=0
  ·simp[h,nS]
  ·have hb:(v != 0)=true:=by simpa using h
   simp[h,hb,nS]
 ·unfold YW;simp
theorem z0I (a b:List Int)(h:a.length<4611686018427387904):xo a b=some (ZW a b):=by
 unfold xo;obtain⟨c,hc,hl⟩:=zrB a b h;rw[zlO,hc];simp only[oB,zCZ];unfold cI ZW;by_cases h1:a.length<b.length
 ·simp[h1]
 ·by_cases h2:b.length<a.length
  ·simp[h1,h2]
  ·simp[h1,h2,hl (by omega)]
def wE (n:Int)(w:List Int):Int:=if 256<w.length then 3 else if w.any (λc=>decide (c<0) || decide (n<=c)) then 1 else 0
variable {n:Int}
theorem zfO {w:List Int}:wE n w=0↔w.length<=256/\∀c∈w,0<=c/\c<n:=by
 unfold wE;by_cases h:256<w.length
 ·rw[if_pos h];exact⟨λq=>by simp at q,λq=>by omega⟩
 ·rw[if_neg h];by_cases h2:w.any (λc=>decide (c<0) || decide (n<=c))=true
  ·rw[if_pos h2];simp only[rr,mI,decide_eq_true_eq]at h2;obtain⟨c,h3,h4⟩:=h2;refine⟨λq=>by simp at q,λq=>?_⟩;have:=q.2 c h3;omega
  ·rw[if_neg h2];simp only[rr,mI,decide_eq_true_eq,not_exists,not_and,not_or]at h2;refine⟨λ_=>⟨by omega,λc hc=>?_⟩,λ_=>rfl⟩;have:=h2 c hc;omega
variable {ρ:Type}
theorem zqq (p:Int->Bool)(g:Nat->Int->Option ρ)(hg:∀i x,(g i x).isSome=p x):∀(w:List Int) (k:Nat),(yI g w k).isSome=w.any p
 | [],k=>rfl
 | x::w,k=>by
  simp only[yI,List.any_cons];have:=hg k x;cases hx:g k x with
  | some r=>rw[hx]at this;simp at this;simp[<-this]
  | none=>rw[hx]at this;simp at this;rw[this,nQ];exact zqq p g hg w (k+1)
theorem ze3 (n:Int)(w:List Int):ZX w n=some (if 16<n then 3 else if 256<w.length then 3 else if n<1 then 1 else wE n w):=by
 unfold ZX;by_cases h0:16<n
 ·simp[h0]
 by_cases h:256<w.length
 ·have h':(256:Int)<(w.length:Int):=by omega
  simp[h0,h,h']
 by_cases h1:n<1
 ·have h':¬(256:Int)<(w.length:Int):=by omega
  simp[h0,h,h',h1]
 ·have hd:decide (((w.length:Nat):Int) > 256)=false:=by simp;omega
  have hd0:decide (n > 16)=false:=by simp;omega
  have hd1:decide (n<1)=false:=by simp;omega
  simp only[hd,hd0,hd1,cond_false,if_neg h,if_neg h0,if_neg h1];unfold wF vI wE;have hl:=u7 w (by omega) (step:=λs=>yR w n s) (λi c=>if c<0\/n<=c then some (i:Int) else none) (by
   intro i c hc;have hi:i<w.length:=(p8.1 hc).1;unfold yR Qa;have hq:decide ((i:Int)<(w.length:Int))=true:=by simpa using hi
   simp only[hq,cond_true,zA hc,oB];by_cases h1:c<0
   ·simp[h1,nS]
   ·by_cases h2:n<=c
    ·simp[h1,h2,nS]
    ·simp[h1,h2,nS]) (by unfold yR;simp)
  rw[bdT hl,if_neg h];have q:=zqq (λc=>decide (c<0) || decide (n<=c)) (λi c=>if c<0\/n<=c then some (i:Int) else none) (λi c=>by by_cases h:c<0\/n<=c <;> simp[h] <;> simpa using h) w 0;cases hf:yI (λi c=>if c<0\/n<=c then some (i:Int) else none) w 0 with
  | none=>rw[hf]at q;rw[<-q];rfl
  | some r=>
   rw[hf]at q;obtain⟨i,x,h1,h2⟩:=kT hf;rw[<-q];split at h2
   ·cases h2;simp[oS]
   ·cases h2
def eS (e:Int):Option Int:=if e=0 then none else some e
def loE (n:Int)(l:List (List Int)):Int:=if 16<n then 3 else if 4096<l.length then 3 else if n<1 then 1 else(yI (λ_ w=>eS (wE n w)) l 0).getD 0
theorem zhM:∀{l:List (List Int)} {k:Nat},(yI (λ_ w=>eS (wE n w)) l k).getD 0=0↔∀w∈l,wE n w=0
 | [],_=>by simp[yI]
 | w::l,k=>by
  by_cases h:wE n w=0
  ·have:eS (wE n w)=none:=by simp[eS,h]
   simp only[yI,this];rw[zhM];simp[h]
  ·have:eS (wE n w)=some (wE n w):=by simp[eS,h]
   simp[yI,this,h]
theorem z5t:loE n l=0↔(1<=n/\n<=16)/\l.length<=4096/\∀w∈l,w.length<=256/\∀c∈w,0<=c/\c<n:=by
 unfold loE;by_cases h0:16<n
 ·rw[if_pos h0];exact⟨λq=>by simp at q,λq=>by omega⟩
 by_cases h1:4096<l.length
 ·rw[if_neg h0,if_pos h1];exact⟨λq=>by simp at q,λq=>by omega⟩
 by_cases h2:n<1
 ·rw[if_neg h0,if_neg h1,if_pos h2];exact⟨λq=>by simp at q,λq=>by omega⟩
 rw[if_neg h0,if_neg h1,if_neg h2,zhM];constructor
 ·intro q;exact⟨by omega,by omega,λw hw=>zfO.1 (q w hw)⟩
 ·intro q w hw;exact zfO.2 (q.2.2 w hw)
theorem zdc (l:List (List Int))(n:Int):Vc l n=some (loE n l):=by
 unfold Vc loE;by_cases h0:16<n
 ·simp[h0]
 by_cases h1:4096<l.length
 ·have h':(4096:Int)<(l.length:Int):=by omega
  simp[h0,h1,h']
 by_cases h2:n<1
 ·have h':¬(4096:Int)<(l.length:Int):=by omega
  simp[h0,h1,h2,h']
 have d0:decide (n > 16)=false:=by simp;omega
 have d1:decide (((l.length:Nat):Int) > 4096)=false:=by simp;omega
 have d2:decide (n<1)=false:=by simp;omega
 simp only[d0,d1,d2,cond_false,if_neg h0,if_neg h1,if_neg h2];rw[bdT (u7 l (by omega) (step:=λs=>Zo l n s) (λ_ w=>eS (wE n w)) ?_ ?_)]
 ·cases yI (λ_ w=>eS (wE n w)) l 0 <;> rfl
 ·intro i w hw;have hi:i<l.length:=(p8.1 hw).1;have hq:decide ((i:Int)<(l.length:Int))=true:=by simpa using hi
  have he:ZX w n=some (wE n w):=by
   rw[ze3,if_neg h0,if_neg h2];by_cases h:256<w.length
   ·rw[if_pos h];unfold wE;rw[if_pos h]
   ·rw[if_neg h]
  unfold Zo;simp only[hq,cond_true,zA hw,oB,he];by_cases hz:wE n w=0
  ·simp[hz,eS,nS]
  ·have hb:(wE n w != 0)=true:=by simpa using hz
   simp[hz,hb,eS,nS]
 ·unfold Zo;simp
theorem zoD (l:List (List Int))(hl:l.length<4611686018427387904){step:Int×Int->Option (LR (Int×Int) Int)}
  (h:∀(n:Int) (i:Nat) (x:List Int),l[i]?=some x->step (n,(i:Int))=some (.next (w64 (n+((x.length:Nat):Int)),w64 ((i:Int)+1)))) (h2:∀n,step (n,(l.length:Int))=some (.done n)) :
  loop step (0,0)=some (l.foldl (λn x=>w64 (n+((x.length:Nat):Int))) 0):=by
 have gen:∀(m k:Nat) (n:Int),k<=l.length->l.length - k<m->z3x step m (n,(k:Int))=some ((l.drop k).foldl (λn x=>w64 (n+((x.length:Nat):Int))) n):=by
  intro m;induction m with
  | zero=>intro k n _ h;omega
  | succ m ih=>
   intro k n hk hn;rw[QG];rcases pH k l.length with hlt|hge
   ·have hx:l[k]?=some l[k]:=p7 hlt;rw[h n k _ hx,mB hlt];simp only[rc];rw[zJ (x:=(k:Int)+1) (by omega) (by omega)];exact ih (k+1) _ hlt (by omega)
   ·have:k=l.length:=by omega
    subst this;rw[h2,List.drop_length];rfl
 exact gen z1O 0 0 (pT _) (by show l.length - 0<18446744073709551616;omega)
def stW (l:List (List Int)):Int:=l.foldl (λn x=>w64 (n+((x.length:Nat):Int))) 0
theorem zh0 (l:List (List Int))(hl:l.length<4611686018427387904):Vb l=some (stW l):=by
 unfold Vb;rw[bdT (zoD l hl (step:=λs=>Zm l s.1 s.2) ?_ ?_)]
 ·rfl
 ·intro n i x hx;have hi:i<l.length:=(p8.1 hx).1;have hq:decide ((i:Int)<(l.length:Int))=true:=by simpa using hi
  unfold Zm;simp only[hq,cond_true,zA hx,oB]
 ·intro n;unfold Zm;simp
def XO (l:List (List Int)):Nat:=(l.map List.length).sum
theorem zpR (h:XO l<4611686018427387904):stW l=(XO l:Int):=by
 have gen:∀(l:List (List Int)) (n:Nat),n+XO l<4611686018427387904->l.foldl (λn x=>w64 (n+((x.length:Nat):Int))) (n:Int)=((n+XO l:Nat):Int):=by
  intro l;induction l with
  | nil=>intro n _;simp[XO]
  | cons x l ih=>
   intro n hn;have hs:XO (x::l)=x.length+XO l:=by simp[XO]
   rw[hs]at hn ⊢;rw[rc,zJ (by omega) (by omega),<-Int.natCast_add,ih (n+x.length) (by omega)];congr 1;omega
 have:=gen l 0 (by omega);simpa[stW] using this
theorem zcK {m:Nat}(h:∀w∈l,w.length<=m):XO l<=l.length*m:=by
 induction l with
 | nil=>simp[XO]
 | cons x l ih=>
  have hs:XO (x::l)=x.length+XO l:=by simp[XO]
  have h1:=h x (by simp);have h2:=ih λw hw=>h w (by simp[hw]);rw[hs,gI,mn];omega
theorem zgY:∀{l:List (List Int)},SW l↔∀i x y,l[i]?=some x->l[i+1]?=some y->ZW x y<0
 | []=>by simp[SW]
 | [x]=>⟨λ_ i a b _ h2=>by simp at h2,λ_=>by simp[SW]⟩
 | x::y::l=>by
  constructor
  ·intro h i a b h1 h2;cases i with
   | zero=>simp at h1 h2;subst h1;subst h2;exact h.head y (by simp)
   | succ i=>exact zgY.1 h.tail i a b (by simpa using h1) (by simpa using h2)
  ·intro h;have ht:SW (y::l):=zgY.2 λi a b h1 h2=>h (i+1) a b (by simpa using h1) (by simpa using h2);have h0:=h 0 x y rfl rfl;refine mW.2 ⟨λz hz=>?_,ht⟩;rcases pD.1 hz with rfl|hz
   ·exact h0
   ·exact jV h0 (ht.head z hz)
theorem ziH {α ρ:Type}(l:List α)(hl:l.length<4611686018427387904){step:Int->Option (LR Int (Unit⊕ρ))}(f:Nat->α->Option ρ)
  (h:∀(i:Nat) (x:α),1<=i->l[i]?=some x->step (i:Int)=some (nS i (f i x))) (h2:∀k:Nat,l.length<=k->step (k:Int)=some (.done (.inl ()))) :
  loop step 1=some (oS (yI f (l.drop 1) 1)):=by
 have gen:∀(n:Nat) (k:Nat),1<=k->l.length - k<n->z3x step n (k:Int)=some (oS (yI f (l.drop k) k)):=by
  intro n;induction n with
  | zero=>intro k _ h;omega
  | succ n ih=>
   intro k hk hn;rw[QG];rcases pH k l.length with hlt|hge
   ·have hx:l[k]?=some l[k]:=p7 hlt;rw[h k _ hk hx,mB hlt];simp only[yI];cases hf:f k l[k] with
    | some r=>rfl
    | none=>simp only[nS];rw[zJ (by omega) (by omega)];exact ih (k+1) (by omega) (by omega)
   ·rw[h2 k hge,mL hge];rfl
 exact gen z1O 1 (pC _) (by show l.length - 1<18446744073709551616;omega)
instance (l:List (List Int)):Decidable (SW l):=by unfold SW;infer_instance
theorem zp8 (l:List (List Int))(r:ρ):yI (λi x=>match l[i - 1]? with|some y=>if 0<=ZW y x then some r else none|none=>none) (l.drop 1) 1=if SW l then none else some r:=by
 by_cases hs:SW l
 ·rw[if_pos hs];refine z1f λi x hx=>?_;rw[mQ]at hx;have hi:1+i<l.length:=(p8.1 hx).1;have hy:l[1+i - 1]?=some l[i]:=by rw[show 1+i - 1=i by omega];exact p7 (by omega)
  rw[hy];have:=zgY.1 hs i l[i] x (p7 (by omega)) (by rw[s5];exact hx);simp only;rw[if_neg (by omega)]
 ·rw[if_neg hs];cases hf:yI (λi x=>match l[i - 1]? with|some y=>if 0<=ZW y x then some r else none|none=>none) (l.drop 1) 1 with
  | some r'=>
   obtain⟨i,x,h1,h2⟩:=kT hf;split at h2
   ·split at h2
    ·exact h2.symm
    ·cases h2
   ·cases h2
  | none=>
   exfalso;refine hs (zgY.2 λi x y hx hy=>?_);have:=kU hf i y (by rw[mQ,s5];exact hy);rw[show 1+i - 1=i by omega,hx]at this;simp only at this;split at this
   ·cases this
   ·omega
theorem zpG (l:List (List Int))(h:l.length<=4096)(hw:∀w∈l,w.length<4611686018427387904):QP l=some (decide (SW l)):=by
 unfold QP;rw[bdT (ziH l (by omega) (step:=λs=>Zp l s) (λi x=>match l[i - 1]? with|some y=>if 0<=ZW y x then some false else none|none=>none) ?_ ?_),zp8]
 ·by_cases hs:SW l
  ·simp[hs,oS,VP]
  ·simp[hs,oS]
 ·intro i x hi hx;have hil:i<l.length:=(p8.1 hx).1;have hy:l[i - 1]?=some l[i - 1]:=p7 (by omega);have hq:decide ((i:Int)<(l.length:Int))=true:=by simpa using hil
  unfold Zp;rw[zJ (x:=(i:Int) - 1) (by omega) (by omega),show((i:Int) - 1)=((i - 1:Nat):Int) by omega];have hE:=z0I l[i - 1] x (hw _ (pI (by omega)));simp only[hq,cond_true,zA hx,zA hy,oB,hy,hE];by_cases hc:0<=ZW l[i - 1] x
  ·simp[hc,nS]
  ·simp[hc,nS]
 ·intro k hk;unfold Zp;have:decide ((k:Int)<(l.length:Int))=false:=by simp;omega
  simp only[this,cond_false]
def chE (n:Int)(l:List (List Int)):Int:=if loE n l≠0 then loE n l else if SW l then(if 65536<XO l then 3 else 0) else 1
theorem zhV:chE n l=0↔loE n l=0/\SW l/\XO l<=65536:=by
 unfold chE;by_cases h:loE n l=0
 ·rw[if_neg (by simp[h])];by_cases h2:SW l
  ·rw[if_pos h2];by_cases h3:65536<XO l
   ·rw[if_pos h3];exact⟨λq=>by simp at q,λq=>by omega⟩
   ·rw[if_neg h3];exact⟨λ_=>⟨h,h2,by omega⟩,λ_=>rfl⟩
  ·rw[if_neg h2];exact⟨λq=>by simp at q,λq=>absurd q.2.1 h2⟩
 ·rw[if_pos h];exact⟨λq=>absurd q h,λq=>absurd q.1 h⟩
theorem zeU (h:loE n l=0):l.length<=4096/\(∀w∈l,w.length<=256)/\XO l<=1048576:=by obtain⟨_,h1,h2⟩:=z5t.1 h;refine⟨h1,λw hw=>(h2 w hw).1,?_⟩;have:=zcK (m:=256) λw hw=>(h2 w hw).1;omega
theorem ze9 (l:List (List Int))(n:Int):Vd l n=some (chE n l):=by
 unfold Vd chE;rw[zdc];simp only[oB];by_cases h:loE n l=0
 ·obtain⟨h1,h2,h3⟩:=zeU h;rw[zpG l h1 λw hw=>by have:=h2 w hw;omega,zh0 l (by omega),zpR (by omega)];simp only[h,bne_self_eq_false,cond_false,oB,ne_eq,not_true,if_false];by_cases hs:SW l
  ·by_cases hq:65536<XO l
   ·have:(65536:Int)<(XO l:Int):=by omega
    simp[hs,hq,this]
   ·have:¬(65536:Int)<(XO l:Int):=by omega
    simp[hs,hq,this]
  ·simp[hs]
 ·have hb:(loE n l != 0)=true:=by simpa using h
  simp[h,hb]
theorem z8M (x:zq α)(i:Nat)(v:α):(zq.setI x (i:Int) v).toL=x.toL.set i v:=by unfold zq.setI;rw[zq.toL_ofL _ _ (by simp[zq.toL]),pB]
theorem zqN {x y:zq α}(h:x.toL=y.toL):x=y:=by cases x;cases y;simp only[zq.toL,List.cons.injEq,and_true]at h;simp only[zq.mk.injEq];exact h
instance:LawfulBEq (zq (vE Int)):={
 eq_of_beq:=by
  intro a b h;cases a;cases b;simp only[BEq.beq,pJ,decide_eq_true_eq]at h;simp only[zq.mk.injEq];obtain⟨⟨⟨⟨⟨⟨⟨⟨⟨⟨⟨⟨⟨⟨⟨h0,h1⟩,h2⟩,h3⟩,h4⟩,h5⟩,h6⟩,h7⟩,h8⟩,h9⟩,h10⟩,h11⟩,h12⟩,h13⟩,h14⟩,h15⟩:=h;have e:∀{p q:vE Int},(p.e0=q.e0/\p.e1=q.e1)->p=q:=by rintro⟨a0,a1⟩ ⟨b0,b1⟩ ⟨rfl,rfl⟩;rfl
  exact⟨e h0,e h1,e h2,e h3,e h4,e h5,e h6,e h7,e h8,e h9,e h10,e h11,e h12,e h13,e h14,e h15⟩
 rfl:=by intro a;cases a;simp[BEq.beq] }
instance:LawfulBEq zM:={
 eq_of_beq:=by intro a b h;have h:(a.block_==b.block_&&a.signature_==b.signature_)=true:=h;rw[pJ,beq_iff_eq,beq_iff_eq]at h;obtain⟨a0,a1⟩:=a;obtain⟨b0,b1⟩:=b;obtain⟨h0,h1⟩:=h;have h0:a0=b0:=h0;have h1:a1=b1:=h1;rw[h0,h1]
 rfl:=by intro a;show(a.block_==a.block_&&a.signature_==a.signature_)=true;rw[beq_self_eq_true,beq_self_eq_true];rfl }
def sgN (m:z6)(p:List Int)(s j:Nat):vE Int:=if j<kk m then⟨(E m s j).Out,if(E m s j).To=-1 then -1 else(p[(E m s j).To.toNat]?).getD 0⟩ else⟨0,0⟩
theorem zkf (f g:Nat->α){n i:Nat}(v:α)(h:∀j,j<n->g j=if j=i then v else f j):((List.range n).map f).set i v=(List.range n).map g:=by
 apply gX;intro j;by_cases hj:j<n
 ·have e1:((List.range n).map g)[j]?=some (g j):=by simp[hj]
  have e2:((List.range n).map f)[j]?=some (f j):=by simp[hj]
  rw[e1,h j hj];by_cases e:j=i
  ·subst e;rw[gW (by simpa using hj),if_pos rfl]
  ·rw[gK (λq=>e q.symm),e2,if_neg e]
 ·rw[pQ (by simp;omega),pQ (by simp;omega)]
variable {p:List Int}
section
variable {m:z6}(h:VM m)
include h
theorem znH (hp:p.length=m.Rows.length){s:Nat}(hs:s<m.Rows.length):Ret (Yd m p (s:Int)) λa=>a.toL=(List.range 16).map (sgN m p s):=by
 obtain⟨r,r1,r2,r3⟩:=h.rowAt hs;have hk:=h.kk_le;unfold Yd Wn;rw[bdT (zA r1),zt];refine Ret.mono ?_ λa ha=>ze.2 ha;refine zQ (λst=>∃i:Nat,st.2=(i:Int)/\i<=kk m/\st.1.toL=(List.range 16).map λj=>if j<i then sgN m p s j else⟨0,0⟩) (λst=>20 - st.2.toNat) ⟨0,rfl,by omega,by simp[zq.toL,re]⟩ (by show 20 - _<_;omega) ?_;rintro⟨a,_⟩ ⟨i,rfl,hi,ha⟩;simp only at ha;show Ret (Yb p r a (i:Int)) _;unfold Yb Yc;rw[zG];refine⟨λhc=>?_,λhc=>?_⟩
 ·have hc:(i:Int)<((r.length:Nat):Int):=of_decide_eq_true hc;have hik:i<kk m:=by omega
  have e1:a.toL[i]?=some ⟨0,0⟩:=by rw[ha];simp[show i<16 by omega]
  have w2:w64 ((i:Int)+1)=((i+1:Nat):Int):=by rw[zJ (by omega) (by omega)];rfl
  have hed:=h.edgeAt hs hik;have step:∀v:vE Int,sgN m p s i=v->∀b:zq (vE Int),b.toL=((List.range 16).map λj=>if j<i then sgN m p s j else⟨0,0⟩).set i v->b.toL=(List.range 16).map λj=>if j<i+1 then sgN m p s j else⟨0,0⟩:=by
   intro v hv b hb;rw[hb];refine zkf _ _ v λj hj=>?_;by_cases e:j=i
   ·subst e;rw[if_pos (by omega),if_pos rfl,hv]
   ·rw[if_neg e];by_cases e2:j<i
    ·rw[if_pos e2,if_pos (by omega)]
    ·rw[if_neg e2,if_neg (by omega)]
  rw[bdT (zA (r3 i hik)),bdT (zA e1),oB,zG];refine⟨λht=>?_,λht=>?_⟩
  ·have ht:(E m s i).To≠-1:=by simpa using ht
   obtain⟨t,htn⟩:∃t:Nat,(E m s i).To=t:=⟨(E m s i).To.toNat,by omega⟩;have hpt:p[t]?=some p[t]:=p7 (by omega);have e2:(zq.setI a (i:Int) ⟨(E m s i).Out,-1⟩).toL[i]?=some ⟨(E m s i).Out,-1⟩:=by rw[z8M,gW (by rw[ha];simp;omega)]
   rw[htn,bdT (zA hpt),bdT (zA e2),oB,ze,w2];refine⟨⟨i+1,rfl,by omega,step _ ?_ _ (by rw[z8M,z8M,ha,List.set_set])⟩,by simp only[pB];omega⟩;unfold sgN;rw[if_pos hik,if_neg ht,htn,pB,hpt,gA]
  ·have ht:(E m s i).To=-1:=by simpa using ht
   rw[ze,w2];refine⟨⟨i+1,rfl,by omega,step _ ?_ _ (by rw[z8M,ha])⟩,by simp only[pB];omega⟩;unfold sgN;rw[if_pos hik,if_pos ht]
 ·have hc:=of_decide_eq_false hc;have:i=kk m:=by omega
  subst this;refine ze.2 ?_;show a.toL=_;rw[ha];refine nK λj hj=>?_;unfold sgN;by_cases e:j<kk m
  ·rw[if_pos e,if_pos e]
  ·rw[if_neg e,if_neg e]
end
def Rgf (l:List Int):Prop:=∀(s:Nat) (x:Int),l[s]?=some x->∃v:Nat,x=(v:Int)/\∀w:Nat,w<v->∃t,t<s/\l[t]?=some (w:Int)
theorem zhe {l r:List Int}(hl:Rgf l)(hr:Rgf r)(hlen:l.length=r.length)(h:∀s t:Nat,s<l.length->t<l.length->(l[s]?=l[t]?↔r[s]?=r[t]?)):l=r:=by
 have gen:∀n s,s<n->s<l.length->l[s]?=r[s]?:=by
  intro n;induction n with
  | zero=>intro s q;omega
  | succ n ih=>
   intro s hs hsl;have hx:l[s]?=some l[s]:=p7 hsl;have hy:r[s]?=some r[s]:=p7 (by omega);by_cases old:∃t,t<s/\l[t]?=l[s]?
   ·obtain⟨t,t1,t2⟩:=old;rw[<-t2,ih t (by omega) (by omega)];exact(h t s (by omega) hsl).1 t2
   ·obtain⟨v,v1,v2⟩:=hl s _ hx;obtain⟨u,u1,u2⟩:=hr s _ hy;rw[hx,hy,v1,u1];rcases nD v u with q|q|q
    ·exfalso;obtain⟨t,t1,t2⟩:=u2 v q;exact old ⟨t,t1,by rw[ih t (by omega) (by omega),t2,hx,v1]⟩
    ·rw[q]
    ·exfalso;obtain⟨t,t1,t2⟩:=v2 u q;have:r[t]?=r[s]?:=by rw[<-ih t (by omega) (by omega),t2,hy,u1]
     exact old ⟨t,t1,(h t s (by omega) hsl).2 this⟩
 apply gX;intro s;by_cases hs:s<l.length
 ·exact gen (s+1) s (by omega) hs
 ·rw[pQ (by omega),pQ (by omega)]
theorem zhs {K V:Type}[BEq K](x:K)(v:V):∀l:List (K×V),z0J l x=none->(z9S l x v).length=l.length+1
 | [],_=>rfl
 | p::l,hg=>by
  simp only[z0J]at hg;split at hg
  ·cases hg
  ·rename_i q;simp only[z9S,q];show((p::z9S l x v).length)=_;rw[gI,zhs x v l hg,gI]
section
variable {m:z6}(h:VM m)
include h
def zpN (m:z6)(p:List Int)(s t:Nat):Prop:=p[s]?=p[t]?/\∀j,j<kk m->sgN m p s j=sgN m p t j
theorem zga (hp:p.length=m.Rows.length):Ret (Ye m p) λq=>q.length=m.Rows.length/\Rgf q/\∀s t:Nat,s<m.Rows.length->t<m.Rows.length->(q[s]?=q[t]?↔zpN m p s t):=by
 have hN:=h.len64;have hk:=h.kk_le;have hkey:∀s,s<m.Rows.length->∃key:zM,key.block_=(p[s]?).getD 0/\key.signature_.toL=(List.range 16).map (sgN m p s)/\Yd m p (s:Int)=some key.signature_:=by intro s hs;obtain⟨a,a1,a2⟩:=znH h hp hs;exact⟨⟨(p[s]?).getD 0,a⟩,rfl,a2,a1⟩
 have:∃key:Nat->zM,∀s,s<m.Rows.length->(key s).block_=(p[s]?).getD 0/\(key s).signature_.toL=(List.range 16).map (sgN m p s)/\Yd m p (s:Int)=some (key s).signature_:=by
  classical
  refine⟨λs=>if q:s<m.Rows.length then(hkey s q).choose else⟨0,zq.mk ⟨0,0⟩ ⟨0,0⟩ ⟨0,0⟩ ⟨0,0⟩ ⟨0,0⟩ ⟨0,0⟩ ⟨0,0⟩ ⟨0,0⟩ ⟨0,0⟩ ⟨0,0⟩ ⟨0,0⟩ ⟨0,0⟩ ⟨0,0⟩ ⟨0,0⟩ ⟨0,0⟩ ⟨0,0⟩⟩,λs hs=>?_⟩;simp only[hs,dif_pos];exact(hkey s hs).choose_spec
 obtain⟨key,hkey⟩:=this;have alike:∀s t,s<m.Rows.length->t<m.Rows.length->(key s=key t↔zpN m p s t):=by
  intro s t hs ht;obtain⟨a1,a2,_⟩:=hkey s hs;obtain⟨b1,b2,_⟩:=hkey t ht;have xs:p[s]?=some p[s]:=p7 (by omega);have xt:p[t]?=some p[t]:=p7 (by omega);rw[xs,gA]at a1;rw[xt,gA]at b1;constructor
  ·intro e;refine⟨by rw[xs,xt,<-a1,<-b1,e],λj hj=>?_⟩;have e2:(List.range 16).map (sgN m p s)=(List.range 16).map (sgN m p t):=by rw[<-a2,<-b2,e]
   have:=congrArg (λl=>l[j]?) e2;simpa[show j<16 by omega] using this
  ·rintro⟨e1,e2⟩;have e3:(key s).signature_=(key t).signature_:=zqN (by
    rw[a2,b2];refine nK λj hj=>?_;by_cases q:j<kk m
    ·exact e2 j q
    ·unfold sgN;rw[if_neg q,if_neg q])
   have e4:(key s).block_=(key t).block_:=by rw[a1,b1];rw[xs,xt]at e1;exact Option.some.inj e1
   revert e3 e4;generalize key s=u;generalize key t=v;intro e3 e4;obtain⟨u0,u1⟩:=u;obtain⟨v0,v1⟩:=v;simp only at e3 e4;rw[e3,e4]
 unfold Ye ZL;rw[gdT (by omega),zt];refine Ret.mono ?_ λq hq=>ze.2 hq;refine zQ (λst=>∃i:Nat,st.2.2=(i:Int)/\i<=m.Rows.length/\st.2.1.length=m.Rows.length/\(∀s,s<i->∃v:Nat,st.2.1[s]?=some (v:Int)/\v<st.1.length/\z0J st.1 (key s)=some (v:Int)/\∀w:Nat,w<v->∃t,t<s/\st.2.1[t]?=some (w:Int))/\(∀w:Nat,w<st.1.length->∃t,t<i/\st.2.1[t]?=some (w:Int)) /\
   (∀k v,z0J st.1 k=some v->∃t,t<i/\key t=k)/\∀s t:Nat,s<i->t<i->st.2.1[s]?=st.2.1[t]?->key s=key t) (λst=>100 - st.2.2.toNat) ⟨0,rfl,by omega,by simp[hp],λs q=>by omega,λw q=>by simp at q,λk v q=>by simp[z0J]at q,λs t q=>by omega⟩ (by show 100 - _<_;omega) ?_
 rintro⟨names,out,_⟩ ⟨i,rfl,hi,ho,h1,h2,h3,h4⟩;simp only at ho h1 h2 h3 h4;show Ret (qD m p names out (i:Int)) _;unfold qD;rw[zG];refine⟨λhc=>?_,λhc=>?_⟩
 ·have hc:(i:Int)<((p.length:Nat):Int):=of_decide_eq_true hc;have hiN:i<m.Rows.length:=by omega
  obtain⟨a1,a2,a3⟩:=hkey i hiN;have xi:p[i]?=some p[i]:=p7 (by omega);rw[xi,gA]at a1;have hmk:zM.mk p[i] (key i).signature_=key i:=by rw[<-a1]
  have w2:w64 ((i:Int)+1)=((i+1:Nat):Int):=by rw[zJ (by omega) (by omega)];rfl
  have hoi:out[i]?=some out[i]:=p7 (by omega);rw[bdT (zA xi),bdT a3,oB,hmk];cases hg:z0J names (key i) with
  | none=>
   rw[Option.isSome_none,mM,cond_true];unfold vM;have hfresh:∀t,t<i->key t≠key i:=λt ht e=>by obtain⟨v,_,_,v3,_⟩:=h1 t ht;rw[e,hg]at v3;cases v3
   have hlen:=zhs (key i) ((names.length:Nat):Int) names hg;rw[hmk,z8Q,if_pos (by simp),gA,oB,bdT (zA hoi),ze,w2,pB];have keep:∀t:Nat,t<i->(out.set i ((names.length:Nat):Int))[t]?=out[t]?:=λt ht=>gK (by omega);have new:(out.set i ((names.length:Nat):Int))[i]?=some ((names.length:Nat):Int):=gW (by omega);refine⟨⟨i+1,rfl,by omega,by simp[ho],λs hs=>?_,λw hw=>?_,λk v q=>?_,λs t hs ht q=>?_⟩,by simp only[pB];omega⟩
   ·simp only
    by_cases e:s=i
    ·subst e;refine⟨names.length,new,by omega,by rw[z8Q,if_pos (by simp)],λw hw=>?_⟩;obtain⟨t,t1,t2⟩:=h2 w hw;exact⟨t,t1,by rw[keep t t1];exact t2⟩
    ·obtain⟨v,v1,v2,v3,v4⟩:=h1 s (by omega);refine⟨v,by rw[keep s (by omega)];exact v1,by omega,?_,λw hw=>?_⟩
     ·rw[z8Q,if_neg (by simpa using λq=>hfresh s (by omega) q.symm)];exact v3
     ·obtain⟨t,t1,t2⟩:=v4 w hw;exact⟨t,t1,by rw[keep t (by omega)];exact t2⟩
   ·simp only at hw ⊢;by_cases e:w<names.length
    ·obtain⟨t,t1,t2⟩:=h2 w e;exact⟨t,by omega,by rw[keep t t1];exact t2⟩
    ·have:w=names.length:=by omega
     subst this;exact⟨i,by omega,new⟩
   ·simp only at q;rw[z8Q]at q;by_cases e:key i=k
    ·exact⟨i,by omega,e⟩
    ·rw[if_neg (by simpa using e)]at q;obtain⟨t,t1,t2⟩:=h3 k v q;exact⟨t,by omega,t2⟩
   ·simp only at q;have low:∀t,t<i->out[t]?≠some ((names.length:Nat):Int):=λt ht g=>by obtain⟨v,v1,v2,_⟩:=h1 t ht;rw[v1]at g;have:=Option.some.inj g;omega
    by_cases es:s=i
    ·by_cases et:t=i
     ·rw[es,et]
     ·exfalso;rw[es,new,keep t (by omega)]at q;exact low t (by omega) q.symm
    ·by_cases et:t=i
     ·exfalso;rw[et,new,keep s (by omega)]at q;exact low s (by omega) q
     ·rw[keep s (by omega),keep t (by omega)]at q;exact h4 s t (by omega) (by omega) q
  | some v=>
   rw[Option.isSome_some,gP,cond_false];unfold vM;obtain⟨t0,t1,t2⟩:=h3 _ _ hg;obtain⟨u,u1,u2,u3,u4⟩:=h1 t0 t1;rw[t2,hg]at u3;have hvu:v=(u:Int):=Option.some.inj u3;rw[hmk,hg,gA,oB,bdT (zA hoi),ze,w2,pB];have keep:∀t:Nat,t<i->(out.set i v)[t]?=out[t]?:=λt ht=>gK (by omega);have new:(out.set i v)[i]?=some v:=gW (by omega);refine⟨⟨i+1,rfl,by omega,by simp[ho],λs hs=>?_,λw hw=>?_,λk v q=>?_,λs t hs ht q=>?_⟩,by simp only[pB];omega⟩
   ·simp only
    by_cases e:s=i
    ·subst e;refine⟨u,by rw[new,hvu],u2,by rw[hg,hvu],λw hw=>?_⟩;obtain⟨t,g1,g2⟩:=u4 w hw;exact⟨t,by omega,by rw[keep t (by omega)];exact g2⟩
    ·obtain⟨v',v1,v2,v3,v4⟩:=h1 s (by omega);refine⟨v',by rw[keep s (by omega)];exact v1,v2,v3,λw hw=>?_⟩;obtain⟨t,g1,g2⟩:=v4 w hw;exact⟨t,g1,by rw[keep t (by omega)];exact g2⟩
   ·simp only at hw ⊢;obtain⟨t,g1,g2⟩:=h2 w hw;exact⟨t,by omega,by rw[keep t g1];exact g2⟩
   ·obtain⟨t,g1,g2⟩:=h3 k v q;exact⟨t,by omega,g2⟩
   ·simp only at q;have like:∀t,t<i->out[t]?=some v->key t=key i:=λt ht g=>by rw[<-t2];exact h4 t t0 ht t1 (by rw[g,u1,hvu])
    by_cases es:s=i
    ·by_cases et:t=i
     ·rw[es,et]
     ·rw[es,new,keep t (by omega)]at q;rw[es];exact(like t (by omega) q.symm).symm
    ·by_cases et:t=i
     ·rw[et,new,keep s (by omega)]at q;rw[et];exact like s (by omega) q
     ·rw[keep s (by omega),keep t (by omega)]at q;exact h4 s t (by omega) (by omega) q
 ·have hc:=of_decide_eq_false hc;have:i=m.Rows.length:=by omega
  subst this;refine ze.2 ⟨ho,λs x hx=>?_,λs t hs ht=>?_⟩
  ·have hs:s<m.Rows.length:=by have:=(p8.1 hx).1;omega
   obtain⟨v,v1,_,_,v4⟩:=h1 s hs;rw[hx]at v1;exact⟨v,Option.some.inj v1,v4⟩
  ·rw[<-alike s t hs ht];refine⟨h4 s t hs ht,λe=>?_⟩;obtain⟨v,v1,_,v3,_⟩:=h1 s hs;obtain⟨u,u1,_,u3,_⟩:=h1 t ht;rw[e,u3]at v3;rw[v1,u1,<-Option.some.inj v3]
end
theorem zlH (a b:List Int)(ha:a.length<4611686018427387904):u6 a b=some (decide (a=b)):=by
 unfold u6 ug;by_cases hl:a.length=b.length
 ·have e:(((a.length:Nat):Int) !=((b.length:Nat):Int))=false:=by simp[hl]
  rw[e,cond_false,u7 a ha (step:=λs=>xI a b s) (λi x=>if b[i]?=some x then none else some false) ?_ ?_]
  ·by_cases q:a=b
   ·rw[z1f λi x hx=>by rw[gN,<-q,if_pos hx]];simp[oS,q]
   ·cases hf:yI (λi x=>if b[i]?=some x then none else some false) a 0 with
    | none=>
     exfalso;refine q (gX λi=>?_);by_cases hi:i<a.length
     ·have hx:a[i]?=some a[i]:=p7 hi;have:=kU hf i _ hx;rw[gN]at this;split at this
      ·rename_i g;rw[hx,g]
      ·cases this
     ·rw[pQ (by omega),pQ (by omega)]
    | some r=>
     obtain⟨i,x,_,h2⟩:=kT hf;split at h2
     ·cases h2
     ·cases h2;simp[oS,q]
  ·intro i x hx;have hi:=(p8.1 hx).1;have hy:b[i]?=some b[i]:=p7 (by omega);unfold xI;rw[decide_eq_true (by omega),cond_true,bdT (zA hx),bdT (zA hy),hy];by_cases e2:x=b[i]
   ·rw[e2,bne_self_eq_false,cond_false,if_pos rfl];rfl
   ·have e3:(x != b[i])=true:=by simpa using e2
    rw[e3,cond_true,if_neg λg=>e2 (Option.some.inj g).symm];rfl
  ·unfold xI;rw[decide_eq_false (by omega),cond_false]
 ·have e:(((a.length:Nat):Int) !=((b.length:Nat):Int))=true:=by simpa using λg:(a.length:Int)=b.length=>hl (by omega)
  rw[e,cond_true,decide_eq_false λq=>hl (by rw[q])]
section
variable {m:z6}(h:VM m)
include h
omit h in theorem seq_out {s t:Nat} (q:SEq m s t) {j:Nat} (hj:j<kk m):(E m s j).Out=(E m t j).Out/\∀w:List Nat,(∀i∈w,i<kk m)->rsp m (E m s j).To w=rsp m (E m t j).To w:=by
 have gen:∀w:List Nat,(∀i∈w,i<kk m)->(E m s j).Out=(E m t j).Out/\rsp m (E m s j).To w=rsp m (E m t j).To w:=by intro w hw;have:=q (j::w) (λi hi=>by rcases pD.1 hi with rfl|g;exact hj;exact hw i g);simp only[rsp,ZH,List.cons.injEq]at this;exact this
 exact⟨(gen [] (by simp)).1,λw hw=>(gen w hw).2⟩
theorem zjR (hp:p.length=m.Rows.length)(hq:∀s t,s<m.Rows.length->t<m.Rows.length->SEq m s t->p[s]?=p[t]?){s t:Nat}(hs:s<m.Rows.length)(ht:t<m.Rows.length)(q:SEq m s t):zpN m p s t:=by
 refine⟨hq s t hs ht q,λj hj=>?_⟩;obtain⟨o1,o2⟩:=seq_out q hj;have hes:=h.edgeAt hs hj;have het:=h.edgeAt ht hj;unfold sgN;rw[if_pos hj,if_pos hj,o1];rcases hes with⟨a1,a2⟩|⟨a1,a2,a3,a4⟩
 ·rcases het with⟨b1,b2⟩|⟨b1,b2,b3,b4⟩
  ·rw[if_pos a1,if_pos b1]
  ·omega
 ·rcases het with⟨b1,b2⟩|⟨b1,b2,b3,b4⟩
  ·omega
  ·rw[if_neg (by omega),if_neg (by omega)];have e1:(((E m s j).To.toNat:Nat):Int)=(E m s j).To:=by omega
   have e2:(((E m t j).To.toNat:Nat):Int)=(E m t j).To:=by omega
   have:=hq _ _ (by omega) (by omega) (show SEq m (E m s j).To.toNat (E m t j).To.toNat from λw hw=>by rw[e1,e2];exact o2 w hw);rw[this]
theorem zlB (hp:p.length=m.Rows.length)(hr:Rgf p)(hf:∀s t,s<m.Rows.length->t<m.Rows.length->p[s]?=p[t]?->zpN m p s t):∀(w:List Nat) (s t:Nat),s<m.Rows.length->t<m.Rows.length->p[s]?=p[t]?->(∀i∈w,i<kk m)->rsp m (s:Int) w=rsp m (t:Int) w
 | [],_,_,_,_,_,_=>rfl
 | j::w,s,t,hs,ht,e,hw=>by
  have hj:j<kk m:=hw j (by simp);have hw':∀i∈w,i<kk m:=λi hi=>hw i (by simp[hi]);have hal:=(hf s t hs ht e).2 j hj;have hes:=h.edgeAt hs hj;have het:=h.edgeAt ht hj;have pos:∀u:Nat,u<m.Rows.length->0<=(p[u]?).getD 0:=λu hu=>by have hx:p[u]?=some p[u]:=p7 (by omega);obtain⟨v,v1,_⟩:=hr u _ hx;rw[hx,gA,v1];omega
  unfold sgN at hal;rw[if_pos hj,if_pos hj]at hal;have a0:=congrArg vE.e0 hal;have a1:=congrArg vE.e1 hal;simp only at a0 a1;simp only[rsp,ZH,a0,List.cons.injEq,true_and];rcases hes with⟨b1,b2⟩|⟨b1,b2,b3,b4⟩
  ·rcases het with⟨c1,c2⟩|⟨c1,c2,c3,c4⟩
   ·rw[b1,c1]
   ·rw[if_pos b1,if_neg (by omega)]at a1;have:=pos (E m t j).To.toNat (by omega);omega
  ·rcases het with⟨c1,c2⟩|⟨c1,c2,c3,c4⟩
   ·rw[if_neg (by omega),if_pos c1]at a1;have:=pos (E m s j).To.toNat (by omega);omega
   ·rw[if_neg (by omega),if_neg (by omega)]at a1;have x1:p[(E m s j).To.toNat]?=some p[(E m s j).To.toNat]:=p7 (by omega);have x2:p[(E m t j).To.toNat]?=some p[(E m t j).To.toNat]:=p7 (by omega);have:=zlB hp hr hf w (E m s j).To.toNat (E m t j).To.toNat (by omega) (by omega) (by rw[x1,x2]at a1 ⊢;exact congrArg some a1) hw';have e1:(((E m s j).To.toNat:Nat):Int)=(E m s j).To:=by omega
    have e2:(((E m t j).To.toNat:Nat):Int)=(E m t j).To:=by omega
    rw[e1,e2]at this;exact this
def z38 (N:Nat)(p:List Int):Nat:=((List.range N).flatMap λs=>(List.range N).map λt=>(s,t)).countP λx=>decide (p[x.1]?=p[x.2]?)
omit h in
theorem zeS {N s t:Nat}:(s,t)∈((List.range N).flatMap λs=>(List.range N).map λt=>(s,t))↔s<N/\t<N:=by
 simp only[gY,pW,gU,Prod.mk.injEq];constructor
 ·rintro⟨a,ha,b,hb,rfl,rfl⟩;exact⟨ha,hb⟩
 ·rintro⟨a,b⟩;exact⟨s,a,t,b,rfl,rfl⟩
theorem ziX:Ret (Yf m) λr=>r.2.2=0/\r.1.length=m.Rows.length/\Rgf r.1/\∀s t:Nat,s<m.Rows.length->t<m.Rows.length->(r.1[s]?=r.1[t]?↔SEq m s t):=by
 have hN:=h.len64;have hN1:=h.len1;unfold Yf U0;rw[z1l,zab h,oB,bne_self_eq_false,cond_false,oB];unfold Zc;rw[gdT (by omega),zt,zt];have e0:((m.Rows.length:Nat):Int).toNat=m.Rows.length:=by simp
 rw[e0];refine(zQ (R:=λy:LR (List Int×Int) Empty=>∃p n,y=.next (p,n)/\p.length=m.Rows.length/\Rgf p/\∀s t:Nat,s<m.Rows.length->t<m.Rows.length->(p[s]?=p[t]?↔SEq m s t))
  (λst:LR (List Int×Int) Empty×List Int=>(∃x,st.1=.next x)/\st.2.length=m.Rows.length/\Rgf st.2/\∀s t:Nat,s<m.Rows.length->t<m.Rows.length->SEq m s t->st.2[s]?=st.2[t]?) (λst=>z38 m.Rows.length st.2) ⟨⟨_,rfl⟩,by simp,?_,?_⟩ ?_ ?_).mono ?_
 ·intro s x hx;simp only[gZ]at hx;split at hx
  ·cases hx;exact⟨0,rfl,λw q=>by omega⟩
  ·cases hx
 ·intro s t hs ht _;simp only[gZ];rw[if_pos hs,if_pos ht]
 ·have:z38 m.Rows.length (List.replicate m.Rows.length (0:Int))<=((List.range m.Rows.length).flatMap λs=>(List.range m.Rows.length).map λt=>(s,t)).length:=rK;have e:((List.range m.Rows.length).flatMap λs=>(List.range m.Rows.length).map λt=>(s,t)).length=m.Rows.length*m.Rows.length:=by rw[List.length_flatMap];simp only[gD,List.length_range,List.map_const',List.sum_replicate_nat]
  rw[e]at this;have:=mP hN hN;show z38 m.Rows.length (List.replicate m.Rows.length (0:Int))<18446744073709551616;omega
 ·rintro⟨y,p⟩ ⟨⟨⟨x,n⟩,rfl⟩,hp,hr,hq⟩;simp only at hp hr hq;show Ret (uI m (yOf λs x=>vN s.1 s.2 x) (.next (x,n)) p) _;unfold uI;simp only[yOf,vN,oB,cond_true];rw[zt];refine(zga h hp).mono ?_;rintro q ⟨q1,q2,q3⟩;rw[zlH p q (by omega),oB,zG];refine⟨λhc=>?_,λhc=>?_⟩
  ·have hc:p=q:=of_decide_eq_true hc;rw[ze];refine⟨p,w64 (n+1),rfl,hp,hr,λs t hs ht=>⟨λe w hw=>?_,hq s t hs ht⟩⟩;exact zlB h hp hr (λs t hs ht e=>(q3 s t hs ht).1 (by rw[<-hc];exact e)) w s t hs ht e hw
  ·have hc:¬p=q:=of_decide_eq_false hc;rw[ze];refine⟨⟨⟨_,rfl⟩,q1,q2,λs t hs ht e=>(q3 s t hs ht).2 (zjR h hp hq hs ht e)⟩,?_⟩;show z38 m.Rows.length q<z38 m.Rows.length p;unfold z38;refine za9 (λz hz hd=>?_) ?_
   ·obtain⟨s,t⟩:=z;obtain⟨hs,ht⟩:=zeS.1 hz;simp only[decide_eq_true_eq]at hd ⊢;exact((q3 s t hs ht).1 hd).1
   ·refine gO λg=>hc (zhe hr q2 (by omega) λs t hs ht=>⟨λe=>?_,λe=>((q3 s t (by omega) (by omega)).1 e).1⟩);refine gO λg2=>g ⟨(s,t),zeS.2 ⟨by omega,by omega⟩,by simpa using e,by simpa using g2⟩
 ·rintro y ⟨p,n,rfl,g1,g2,g3⟩;rw[ze];unfold ZM;simp only;rw[ze];exact⟨rfl,g1,g2,g3⟩
end
theorem z6L (w:List Int):y5 w=some w:=by unfold y5;rw[gdT (by omega)];simp
theorem zhU (w:List Int)(h:w.length<=4294967296):yu w=some w:=by unfold yu;rw[gdT (by simpa using h)]
theorem zh9 (a b:List Int)(h:a.length<4611686018427387904):Zn a b=some (decide (a=b)):=by
 unfold Zn;rw[z0I a b h];simp only[oB];by_cases e:a=b
 ·subst e;simp[UJ]
 ·have:ZW a b≠0:=λq=>e (z2P q);simp[e,this]
def QW (l:List (List Int)):Prop:=l.Pairwise λa b=>¬ZW b a<0
theorem Qn {l:List α}{n:Nat}{x:α}:x∈l.take n↔∃i,i<n/\l[i]?=some x:=by
 rw[gL];constructor
 ·rintro⟨i,h⟩;rw[pV]at h;split at h
  ·exact⟨i,by omega,h⟩
  ·cases h
 ·rintro⟨i,h1,h2⟩;exact⟨i,by rw[pV,if_pos h1];exact h2⟩
theorem zjt (h:SW l)(hx:∀y∈l,ZW y x<0):SW (l++[x]):=by unfold SW;rw[nN];exact⟨h,by simp,λa ha b hb=>by simp at hb;subst hb;exact hx a ha⟩
section
variable {s:List (List Int)}(hq:QW s)(hl:s.length<=4294967296)(hw:∀w∈s,w.length<4611686018427387904)
include hq hl hw
omit hl hw in
theorem zod {i j:Nat}{x y:List Int}(hi:s[i]?=some x)(hj:s[j]?=some y)(h:i<=j):ZW x y<0\/x=y:=by
 rcases pH i j with h|h
 ·have:=(mC.1 hq) i j (p8.1 hi).1 (p8.1 hj).1 h;rw[(p8.1 hi).2,(p8.1 hj).2]at this;rcases zdo.1 this with q|q
  ·exact .inl q
  ·exact .inr q.symm
 ·have:i=j:=by omega
  subst this;rw[hi]at hj;exact .inr (by simpa using hj)
theorem zfl (h1:1<=k)(hk:k<s.length)(hd:s[k - 1]?=s[k]?)(hs:SW (s.take k)) :
  Ret (Option.bind (loop (λq=>yn (k:Int) q.1 q.2.1 q.2.2) (s,(k:Int),1)) λt=>yq t.1 t.2) λr=>r=.done (.inr (srt s)):=by
 rw[zt];refine Ret.mono (zQ (λq=>∃kk k2:Nat,q.2.1=(kk:Int)/\q.2.2=(k2:Int)/\1<=k2/\k+k2<=s.length/\kk<k+k2/\q.1.length=s.length/\(∀i,kk<=i->q.1[i]?=s[i]?)/\SW (q.1.take kk)/\∀x,x∈q.1.take kk↔x∈s.take (k+k2)) (λq=>s.length - q.2.2.toNat) (R:=λt=>∃kk:Nat,t.2=(kk:Int)/\kk<=s.length/\t.1.length=s.length/\t.1.take kk=srt s) ?_ ?_ ?_) ?_
 ·refine⟨k,1,rfl,rfl,pC _,hk,by omega,rfl,λ_ _=>rfl,hs,λx=>?_⟩;rw[Qn,Qn];constructor
  ·rintro⟨i,h2,h3⟩;exact⟨i,by omega,h3⟩
  ·rintro⟨i,h2,h3⟩;rcases pH i k with h|h
   ·exact⟨i,h,h3⟩
   ·have:i=k:=by omega
    subst this;exact⟨i - 1,by omega,by rw[hd];exact h3⟩
 ·show s.length - _<_;omega
 ·rintro⟨S,a,b⟩ ⟨kk,k2,rfl,rfl,g1,g2,g3,g4,g5,g6,g7⟩;simp only at g4 g5 g6 g7;show Ret (yn (k:Int) S (kk:Int) (k2:Int)) _;unfold yn;rw[zG];refine⟨λhc=>?_,λhc=>?_⟩
  ·have hlt:k2<s.length - k:=by rw[g4]at hc;simpa using hc
   have e1:s[k+k2]?=some s[k+k2]:=p7 (by omega);have e2:s[k+k2 - 1]?=some s[k+k2 - 1]:=p7 (by omega);have f1:idx S ((k:Int)+(k2:Int))=some s[k+k2]:=by rw[<-Int.natCast_add,y6,g5 _ (by omega),e1]
   have f2:idx S ((k:Int)+w64 ((k2:Int) - 1))=some s[k+k2 - 1]:=by rw[zJ (by omega) (by omega),show(k:Int)+((k2:Int) - 1)=((k+k2 - 1:Nat):Int) by omega,y6,g5 _ (by omega),e2]
   rw[gdT (by omega),f1];simp only[oB];rw[gdT (by rw[zJ (by omega) (by omega)];omega),f2];simp only[oB];rw[zh9 _ _ (hw _ (pI (by omega)))];simp only[oB];have hk2:w64 ((k2:Int)+1)=((k2+1:Nat):Int):=by rw[zJ (by omega) (by omega)];omega
   by_cases he:s[k+k2]=s[k+k2 - 1]
   ·simp only[he,decide_true,gP,cond_false];unfold yp;rw[hk2,ze];refine⟨⟨kk,k2+1,rfl,rfl,by omega,by omega,by omega,g4,g5,g6,λx=>?_⟩,by simp only[pB];omega⟩;rw[g7,Qn,Qn];constructor
    ·rintro⟨i,h2,h3⟩;exact⟨i,by omega,h3⟩
    ·rintro⟨i,h2,h3⟩;rcases pH i (k+k2) with h|h
     ·exact⟨i,h,h3⟩
     ·have:i=k+k2:=by omega
      subst this;exact⟨k+k2 - 1,by omega,by rw[e2,<-he,<-e1];exact h3⟩
   ·simp only[he,decide_false,mM,cond_true];rw[gdT (by omega)];have e3:idx S (kk:Int)=some s[kk]:=by rw[y6,g5 _ (pC _),p7 (by omega)]
    rw[e3];simp only[oB];unfold yp;rw[hk2,zJ (x:=(kk:Int)+1) (by omega) (by omega),ze];have hset:(S.set ((kk:Int).toNat) s[k+k2]).take (kk+1)=S.take kk++[s[k+k2]]:=by rw[pB,hZ,List.take_set_of_le (pC _),gW (by omega)];rfl
    refine⟨⟨kk+1,k2+1,rfl,rfl,by omega,by omega,by omega,by simp[g4],λi hi=>?_,?_,λx=>?_⟩,by simp only[pB];omega⟩
    ·simp only
     rw[gK (by omega),g5 _ (by omega)]
    ·simp only
     rw[hset];refine zjt g6 λy hy=>?_;obtain⟨i,h2,h3⟩:=Qn.1 ((g7 y).1 hy);have hlast:ZW s[k+k2 - 1] s[k+k2]<0:=by
      rcases zod hq e2 e1 (by omega) with q|q
      ·exact q
      ·exact absurd q.symm he
     rcases zod hq h3 e2 (by omega) with q|q
     ·exact jV q hlast
     ·rw[q];exact hlast
    ·simp only
     rw[hset,pA,g7,Qn,Qn];constructor
     ·rintro(⟨i,h2,h3⟩|h)
      ·exact⟨i,by omega,h3⟩
      ·simp at h;subst h;exact⟨k+k2,by omega,e1⟩
     ·rintro⟨i,h2,h3⟩;rcases pH i (k+k2) with h|h
      ·exact .inl ⟨i,h,h3⟩
      ·have:i=k+k2:=by omega
       subst this;rw[e1]at h3;exact .inr (by simpa using h3.symm)
  ·have hge:s.length - k<=k2:=by rw[g4]at hc;simpa using hc
   have hkk:k+k2=s.length:=by omega
   rw[ze];refine⟨kk,rfl,by omega,g4,zjB g6 λx=>?_⟩;rw[g7,hkk,gV]
 ·rintro⟨S,a⟩ ⟨kk,rfl,h1,h2,h3⟩;simp only at h2 h3;show Ret (yq S (kk:Int)) _;unfold yq;have hlen:(S.take (kk:Int).toNat++List.replicate (S.length - (kk:Int).toNat) ([]:List Int)).length=S.length:=by simp[pU];omega
  rw[gdT (by omega),gdT (by omega),gdT (by rw[hlen];omega),ze];simp only[pB];rw[List.take_left' (by rw[pU];omega),h3]
theorem ziW:xA s ()=some (srt s):=by
 unfold xA;by_cases h2:s.length<2
 ·have hd:decide (((s.length:Nat):Int)<2)=true:=by simp;omega
  simp only[hd,cond_true];rw[z5b];match s,h2 with
  | [],_=>exact SW.nil
  | [x],_=>simp[SW]
 ·have hd:decide (((s.length:Nat):Int)<2)=false:=by simp;omega
  simp only[hd,cond_false];apply Ret.eq;rw[zt];refine Ret.mono (zQ (λq:Int=>∃j:Nat,q=(j:Int)/\1<=j/\j<=s.length/\SW (s.take j)) (λq=>s.length - q.toNat) (R:=λt:Unit⊕List (List Int)=>match t with|.inl _=>srt s=s|.inr p=>p=srt s) ?_ ?_ ?_) ?_
  ·refine⟨1,rfl,pC _,by omega,?_⟩;match s,h2 with
   | [],h2=>simp at h2
   | x::l,_=>simp[SW]
  ·show s.length - _<_;omega
  ·rintro _ ⟨j,rfl,g1,g2,g3⟩;show Ret (yU s (j:Int)) _;unfold yU;rw[zG];refine⟨λhc=>?_,λhc=>?_⟩
   ·have hj:j<s.length:=by simpa using hc
    have e1:s[j]?=some s[j]:=p7 hj;have e2:s[j - 1]?=some s[j - 1]:=p7 (by omega);rw[zJ (x:=(j:Int) - 1) (by omega) (by omega),show(j:Int) - 1=((j - 1:Nat):Int) by omega,zA e1,zA e2];simp only[oB];rw[zh9 _ _ (hw _ (pI hj))];simp only[oB];by_cases he:s[j]=s[j - 1]
    ·simp only[he,decide_true,cond_true];rw[gdT (by omega)];refine(zfl hq hl hw g1 hj (by rw[e1,e2,he]) g3).mono ?_;rintro _ rfl;rfl
    ·simp only[he,decide_false,cond_false];unfold xU;rw[zJ (by omega) (by omega),ze];refine⟨⟨j+1,rfl,by omega,hj,?_⟩,by simp only[pB];omega⟩;have:s.take (j+1)=s.take j++[s[j]]:=by rw[hZ,e1];rfl
     rw[this];refine zjt g3 λy hy=>?_;obtain⟨i,h3,h4⟩:=Qn.1 hy;have hlast:ZW s[j - 1] s[j]<0:=by
      rcases zod hq e2 e1 (by omega) with q|q
      ·exact q
      ·exact absurd q.symm he
     rcases zod hq h4 e2 (by omega) with q|q
     ·exact jV q hlast
     ·rw[q];exact hlast
   ·have hj:j=s.length:=by
     have:¬j<s.length:=by simpa using hc
     omega
    rw[ze];show srt s=s;rw[hj,gV]at g3;exact z5b g3
  ·rintro(u|p) h
   ·show Ret (some s) _;rw[ze];exact h.symm
   ·show Ret (some p) _;rw[ze];exact h
end
theorem zeg (l:List (List Int)):SOk ZW l :=
 ⟨λx _=>z3m x,λx _ y _ z _ h1 h2=>jV h1 h2,λx _ y _ h1 h2=>by
  rcases zdo.1 h1 with q|q
  ·exact absurd q h2
  ·exact q⟩
theorem znw {l m:List (List Int)}(h:l.Perm m):srt l=srt m:=z5c λx=>h.mem_iff
theorem z9X {c d:List Int->List Int->Int}:∀{l:List (List Int)},(∀x∈l,∀y∈l,c x y=d x y)->z4q c l=z4q d l
 | [],_=>rfl
 | x::l,h=>by
  have ih:=z9X (c:=c) (d:=d) (l:=l) λa ha b hb=>h a (by simp[ha]) b (by simp[hb]);show zj7 c x (z4q c l)=zj7 d x (z4q d l);rw[ih];have gen:∀m:List (List Int),(∀y∈m,y∈l)->zj7 c x m=zj7 d x m:=by
   intro m;induction m with
   | nil=>intro _;rfl
   | cons y m ih2=>intro hm;simp only[zj7];rw[h y (by simp[hm y (by simp)]) x (by simp),ih2 λz hz=>hm z (by simp[hz])]
  exact gen _ λy hy=>(VB d l).mem_iff.1 hy
def soR (l:List (List Int)):List (List Int)×Int:=if 4096<(srt l).length\/65536<XO (srt l) then([],3) else(srt l,0)
theorem z5f (hl:l.length<=100000)(hw:∀w∈l,w.length<=4294967296):wj l=some (soR l):=by
 unfold wj wk;rw[gdT (by simp;omega)];simp only[oB];have hc:∀x∈l,∀y,xo x y=some (ZW x y):=λx hx y=>z0I x y (by have:=hw x hx;omega);have hso:zjF (λx y=>xo x y) l=some (z4q ZW l):=by
  unfold zjF;rw[gdT ⟨by omega,λx hx y hy=>by simp only[hc x hx y];rfl⟩];have hcc:∀x∈l,∀y∈l,(xo x y).getD 0=ZW x y:=λx hx y _=>by rw[hc x hx y];rfl
  rw[gdT,z9X (c:=λx y=>(xo x y).getD 0) (d:=ZW) hcc];have q:=zeg l;refine⟨λx hx=>by show ¬(xo x x).getD 0<0;rw[hcc x hx x hx];exact q.1 x hx,λx hx y hy z hz h1 h2=>?_,λx hx y hy h1 h2=>?_⟩
  ·simp only[hcc x hx y hy,hcc y hy z hz,hcc x hx z hz]at h1 h2 ⊢;exact q.2.1 x hx y hy z hz h1 h2
  ·simp only[hcc x hx y hy,hcc y hy x hx]at h1 h2;exact q.2.2 x hx y hy h1 h2
 rw[hso];simp only[oB];have hp:=VB ZW l;have hq:QW (z4q ZW l):=z2I (zeg l) (λy hy=>hy);rw[ziW hq (by rw[hp.length_eq];omega) (λw h=>by have:=hw w (hp.mem_iff.1 h);omega)];simp only[oB];unfold wG;simp only[oB];rw[znw hp];have hlen:(srt l).length<=100000:=pE (KE l) hl;have hws:∀w∈srt l,w.length<=4294967296:=λw h=>hw w (yb.1 h);unfold soR;generalize srt l=r at hlen hws;have hsy:XO r<=100000*4294967296:=pE (zcK hws) (gF _ hlen);by_cases h1:4096<r.length
 ·have:(4096:Int)<(r.length:Int):=by omega
  simp[h1,this]
 ·have d1:decide (((r.length:Nat):Int) > 4096)=false:=by simp;omega
  simp only[d1,cond_false];rw[zh0 r (by omega),zpR (by omega)];simp only[oB];by_cases h2:65536<XO r
  ·have:(65536:Int)<(XO r:Int):=by omega
   simp[h2,this]
  ·have d2:decide (((XO r:Nat):Int) > 65536)=false:=by simp;omega
   simp only[d2,cond_false];rw[if_neg (by omega)];have hloop:=ww (step:=λs=>vj r s.1 s.2) (λi=>((r.take i).map (λq=>(q,true))++(r.drop i).map (λq=>(q,false)),(i:Int))) r.length (t:=r.map λq=>(q,true)) (by omega) (by
    intro i hi;have hA:((r.take i).map (λq:List Int=>(q,true))).length=i:=by rw[gD,pU];omega
    have hd:r.drop i=r[i]::r.drop (i+1):=mB hi;have hx:((r.take i).map (λq=>(q,true))++(r.drop i).map (λq=>(q,false)))[i]?=some (r[i],false):=by rw[pF (by omega),hA,hd];simp
    show vj r _ (i:Int)=_;unfold vj;have hq:decide ((i:Int)<((r.length - (0:Int).toNat:Nat):Int))=true:=by simpa using hi
    simp only[hq,cond_true];rw[gdT (by omega),Int.zero_add,zA hx];simp only[oB];rw[zhU _ (hws _ (pI hi))];simp only[oB,z6L,pB];rw[zJ (by omega) (by omega)];congr 3;rw[rP _ _ (by omega),hA,hd,hZ,p7 hi];simp only[nW,gM,nT,mF,Option.toList_some,nP,pL,gQ,p9]) (by
    show vj r _ (r.length:Int)=_;unfold vj;simp)
   have h0:((r.take 0).map (λq=>(q,true))++(r.drop 0).map (λq=>(q,false)),((0:Nat):Int))=(r.map (λq=>(q,false)),(0:Int)):=by simp
   rw[h0]at hloop;rw[hloop];simp only[oB];unfold W7;rw[gdT (by intro q hq;obtain⟨_,_,rfl⟩:=pW.1 hq;rfl)];simp[mO,Function.comp_def]
def z5v (a:Nat)(w:List Int):List (List Int):=(List.range a).map λs:Nat=>w++[(s:Int)]
def exW (a:Nat):Nat->List (List Int)
 | 0=>[[]]
 | k+1=>(exW a k).flatMap (z5v a)
theorem zpl (a:Nat)(w:List Int):(z5v a w).length=a:=by simp[z5v]
theorem zdi (a:Nat)(l:List (List Int)):(l.flatMap (z5v a)).length=l.length*a:=by
 induction l with
 | nil=>simp
 | cons w l ih=>rw[nY,pN,ih,zpl,gI,rq];omega
theorem Jw (a:Nat):∀k,(exW a k).length=a ^ k
 | 0=>rfl
 | k+1=>by rw[exW,zdi,Jw,s7]
theorem Xy (a:Nat):∀k,∀w∈exW a k,w.length=k
 | 0,w,h=>by simp[exW]at h;subst h;rfl
 | k+1,w,h=>by rw[exW,gY]at h;obtain⟨v,h1,h2⟩:=h;simp only[z5v,pW]at h2;obtain⟨s,_,rfl⟩:=h2;simp[Xy a k v h1]
theorem zw1 {a:Nat}(ha:a<=16){w:List Int}(hw:w.length<=1000){nx:List (List Int)}(hn:nx.length<=10000000) :
  loop (λs=>qp (a:Int) w s.1 s.2) (nx,0)=some (nx++z5v a w):=by
 have h:=ww (step:=λs=>qp (a:Int) w s.1 s.2) (λi=>(nx++(List.range i).map (λs:Nat=>w++[(s:Int)]),(i:Int))) a (t:=nx++z5v a w) (by omega) (by
  intro i hi;show qp (a:Int) w _ (i:Int)=_;unfold qp;have hq:decide ((i:Int)<(a:Int))=true:=by simpa using hi
  simp only[hq,cond_true,z6L,oB];rw[gdT (by simp;omega),gdT (by simp;omega),zJ (by omega) (by omega),re,mF,pL];rfl) (by
  show qp (a:Int) w _ (a:Int)=_;unfold qp;simp[z5v])
 have h0:((nx++(List.range 0).map (λs:Nat=>w++[(s:Int)])),((0:Nat):Int))=(nx,(0:Int)):=by simp
 rw[h0]at h;exact h
theorem zvs {a:Nat}(ha:a<=16)  (hw:∀w∈l,w.length<=1000)(hl:l.length<=100000) :
  loop (λs=>qq (a:Int) l s.1 s.2) (([]:List (List Int)),0)=some (l.flatMap (z5v a)):=by
 have h:=ww (step:=λs=>qq (a:Int) l s.1 s.2) (λi=>((l.take i).flatMap (z5v a),(i:Int))) l.length (t:=l.flatMap (z5v a)) (by omega) (by
  intro i hi;show qq (a:Int) l _ (i:Int)=_;unfold qq;have hq:decide ((i:Int)<(l.length:Int))=true:=by simpa using hi
  have hx:l[i]?=some l[i]:=p7 hi;have hlen:((l.take i).flatMap (z5v a)).length<=10000000:=by rw[zdi,pU];have:min i l.length*a<=100000*16:=mP (by omega) ha;omega
  simp only[hq,cond_true,zA hx,oB];rw[bdT (zw1 ha (hw _ (pI hi)) hlen)];unfold Kd;rw[zJ (by omega) (by omega),hZ,hx,List.flatMap_append];simp) (by
  show qq (a:Int) l _ (l.length:Int)=_;unfold qq;simp)
 simpa using h
def uz (a f:Nat):Nat->List (List Int)
 | 0=>[]
 | k+1=>if f<=k then uz a f k++exW a k else uz a f k
def syW (a f:Nat):Nat->Nat
 | 0=>0
 | k+1=>if f<=k then syW a f k+k*a ^ k else syW a f k
def JS (a f t k:Nat):Prop:=4096<(uz a f (k+1)).length\/65536<syW a f (k+1)\/k<t/\4096<a ^ k*a
instance (a f t k:Nat):Decidable (JS a f t k):=by unfold JS;infer_instance
theorem zmi {a f t k:Nat}(ha:1<=a/\a<=16)(hf:f<=256)(ht:t<=256)(hk:k<=t)(ho:(uz a f k).length<=4096)(hs:syW a f k<=65536)(hl:a ^ k<=4096) :
  kB (a:Int) (f:Int) (t:Int) (uz a f k) (exW a k) (syW a f k:Int) (k:Int)=if JS a f t k then some (.done ([],3)) else if k=t then Option.bind (wj (uz a f (k+1))) (λr=>some (.done (r.1,r.2))) else some (.next (uz a f (k+1),exW a (k+1),(syW a f (k+1):Int),((k+1:Nat):Int))):=by
 have hmul:k*a ^ k<=256*4096:=mP (by omega) hl;have hma:a ^ k*a<=4096*16:=mP hl ha.2;have e:kB (a:Int) (f:Int) (t:Int) (uz a f k) (exW a k) (syW a f k:Int) (k:Int)=XL (a:Int) (t:Int) (exW a k) (k:Int) (uz a f (k+1)) (syW a f (k+1):Int):=by
  unfold kB;by_cases h:f<=k
  ·have hd:decide ((k:Int)>=(f:Int))=true:=by simpa using h
   simp only[hd,cond_true];have hm:w64 ((k:Int)*((exW a k).length:Int))=((k*a ^ k:Nat):Int):=by rw[Jw,<-nE,zJ (by omega) (by omega)]
   rw[gdT (by rw[Jw];omega),hm,zJ (by omega) (by omega)];simp only[uz,syW,if_pos h];congr 1
  ·have hd:decide ((k:Int)>=(f:Int))=false:=by simp;omega
   simp only[hd,cond_false,uz,syW,if_neg h]
 rw[e];unfold XL;by_cases h1:4096<(uz a f (k+1)).length
 ·have:decide (((uz a f (k+1)).length:Int) > 4096)=true:=by simp only[decide_eq_true_eq];omega
  simp only[this,cond_true];rw[if_pos (show JS a f t k from .inl h1)]
 have d1:decide (((uz a f (k+1)).length:Int) > 4096)=false:=by simp;omega
 simp only[d1,cond_false];by_cases h2:65536<syW a f (k+1)
 ·have:decide ((syW a f (k+1):Int) > 65536)=true:=by simp only[decide_eq_true_eq];omega
  simp only[this,cond_true];rw[if_pos (show JS a f t k from .inr (.inl h2))]
 have d2:decide ((syW a f (k+1):Int) > 65536)=false:=by simp;omega
 simp only[d2,cond_false];have hm:w64 (((exW a k).length:Int)*(a:Int))=((a ^ k*a:Nat):Int):=by rw[Jw,<-nE,zJ (by omega) (by omega)]
 rw[hm];have J4:∀(hns:¬(k<t/\4096<a ^ k*a)) (b:Bool),XK (a:Int) (t:Int) (exW a k) (k:Int) (uz a f (k+1)) (syW a f (k+1):Int) b=if k=t then Option.bind (wj (uz a f (k+1))) (λr=>some (.done (r.1,r.2))) else some (.next (uz a f (k+1),exW a (k+1),(syW a f (k+1):Int),((k+1:Nat):Int))):=by
  intro hns b;unfold XK;by_cases hkt:k=t
  ·subst hkt;simp
  ·have hd:((k:Int)==(t:Int))=false:=by simp;omega
   simp only[hd,cond_false,if_neg hkt];rw[bdT (zvs ha.2 (λw hw=>by rw[Xy a k w hw];omega) (by rw[Jw];omega))];unfold Ke Kf;rw[zJ (by omega) (by omega)];rfl
 by_cases hkt:k<t
 ·have hd:decide ((k:Int)<(t:Int))=true:=by simpa using hkt
  simp only[hd,cond_true];by_cases h3:4096<a ^ k*a
  ·have:decide (((a ^ k*a:Nat):Int) > 4096)=true:=by simp only[decide_eq_true_eq];omega
   simp only[this,cond_true];rw[if_pos (show JS a f t k from .inr (.inr ⟨hkt,h3⟩))]
  ·have:decide (((a ^ k*a:Nat):Int) > 4096)=false:=by simp only[decide_eq_false_iff_not];omega
   simp only[this,cond_false];rw[J4 (by omega),if_neg (show ¬JS a f t k by unfold JS;omega)]
 ·have hd:decide ((k:Int)<(t:Int))=false:=by simp;omega
  simp only[hd,cond_false];rw[J4 (by omega),if_neg (show ¬JS a f t k by unfold JS;omega)]
theorem zd8 {a f t k:Nat}(ha:1<=a)(hs:¬JS a f t k)(hk:k<t):(uz a f (k+1)).length<=4096/\syW a f (k+1)<=65536/\a ^ (k+1)<=4096:=by unfold JS at hs;rw[s7];omega
variable {r:Option (List (List Int)×Int)}
theorem zmk {a f t:Nat}(ha:1<=a/\a<=16)(hf:f<=256)(ht:t<=256){r:Option (List (List Int)×Int)}
  (hr:(∃j,j<=t/\JS a f t j)->r=some ([],3)) (hr2:(∀j,j<=t->¬JS a f t j)->r=Option.bind (wj (uz a f (t+1))) λr=>some (r.1,r.2)) :
  ∀(m k:Nat),k<=t->t - k<m->(∀j,j<k->¬JS a f t j)->(uz a f k).length<=4096->syW a f k<=65536->a ^ k<=4096->z3x (λs=>kB (a:Int) (f:Int) (t:Int) s.1 s.2.1 s.2.2.1 s.2.2.2) m (uz a f k,exW a k,(syW a f k:Int),(k:Int))=r
 | 0,k,_,h,_,_,_,_=>by omega
 | m+1,k,hk,hm,hns,h1,h2,h3=>by
  rw[QG];dsimp only
  rw[zmi ha hf ht hk h1 h2 h3];by_cases hst:JS a f t k
  ·rw[if_pos hst,hr ⟨k,hk,hst⟩]
  ·rw[if_neg hst];by_cases hkt:k=t
   ·subst hkt;rw[if_pos rfl,hr2 λj hj=>by
     rcases pH j k with q|q
     ·exact hns j q
     ·rw[show j=k by omega];exact hst]
    cases wj (uz a f (k+1)) <;> rfl
   ·rw[if_neg hkt];obtain⟨q1,q2,q3⟩:=zd8 ha.1 hst (by omega);exact zmk ha hf ht hr hr2 m (k+1) (by omega) (by omega) (λj hj=>by
     rcases pH j k with q|q
     ·exact hns j q
     ·rw[show j=k by omega];exact hst) q1 q2 q3
theorem zwi {a f t:Nat}(ha:1<=a/\a<=16)(hf:f<=256)(ht:t<=256){r:Option (List (List Int)×Int)}
  (hr:(∃j,j<=t/\JS a f t j)->r=some ([],3)) (hr2:(∀j,j<=t->¬JS a f t j)->r=Option.bind (wj (uz a f (t+1))) λr=>some (r.1,r.2)) :
  QO (a:Int) (f:Int) (t:Int)=r:=by
 unfold QO;have d1:decide ((a:Int) > 16)=false:=by simp;omega
 have d2:decide ((a:Int)<1)=false:=by simp;omega
 have d3:decide ((t:Int)<0)=false:=by simp
 have d4:decide ((t:Int) > 256)=false:=by simp;omega
 simp only[d1,d2,d3,d4,cond_false];have h:=zmk ha hf ht hr hr2 z1O 0 (pT _) (by show t - 0<18446744073709551616;omega) (λj hj=>by omega) (by simp[uz]) (by simp[syW]) (by simp);have h':loop (λs=>kB (a:Int) (f:Int) (t:Int) s.1 s.2.1 s.2.2.1 s.2.2.2) (([]:List (List Int)),([[]]:List (List Int)),0,0)=r:=h;rw[h'];cases r <;> rfl
theorem zqp (w:List Int):∀(l:List (List Int)) (k:Nat),yI (λ_ x=>if x=w then some true else none) l k=if w∈l then some true else none
 | [],_=>rfl
 | x::l,k=>by
  by_cases h:x=w
  ·simp[yI,h]
  ·simp only[yI,if_neg h,zqp w l (k+1),pD];by_cases h2:w∈l
   ·simp[h2]
   ·have:¬w=x:=λe=>h e.symm;simp[h2,this]
theorem zrQ (l:List (List Int))(w:List Int)(hl:l.length<4611686018427387904)(hw:w.length<4611686018427387904):z2z l w=some (decide (w∈l)):=by
 unfold z2z;rw[bdT (u7 l hl (step:=λs=>XT l w s) (λ_ x=>if x=w then some true else none) ?_ ?_),zqp]
 ·by_cases h:w∈l
  ·simp[h,oS]
  ·simp[h,oS,Kn]
 ·intro i x hx;have hi:i<l.length:=(p8.1 hx).1;have hq:decide ((i:Int)<(l.length:Int))=true:=by simpa using hi
  unfold XT;simp only[hq,cond_true,zA hx,oB,z2O x w (λe=>by omega)];by_cases h:x=w
  ·subst h;simp[UJ,nS]
  ·have:(ZW x w==0)=false:=by simp;exact λq=>h (z2P q)
   simp[this,h,nS]
 ·unfold XT;simp
theorem ztU {x:Int}(h1:0<=x)(h2:x<=9223372036854775807):IntKind.u64.wrap x=x:=by simp only[IntKind.wrap,IntKind.bits,IntKind.signed];simp;omega
theorem zD2 (hs:SW l)(hl:l.length<=1000000)(hw:∀x∈l,x.length<4611686018427387904)(w:List Int):z57 l w=some (decide (w∈l)):=by
 unfold z57 yS;apply Ret.eq;rw[zt,zt];refine Ret.mono (zQ (λq:Int×Int=>∃i j:Nat,q=((i:Int),(j:Int))/\i<=j/\j<=l.length/\(∀m x,m<i->l[m]?=some x->ZW x w<0)/\∀m x,j<=m->l[m]?=some x->¬ZW x w<0) (λq=>(q.2 - q.1).toNat) (R:=λt=>∃i:Nat,t=(i:Int)/\i<=l.length/\(∀m x,m<i->l[m]?=some x->ZW x w<0)/\∀m x,i<=m->l[m]?=some x->¬ZW x w<0) ?_ ?_ ?_) ?_
 ·exact⟨0,l.length,rfl,pT _,pC _,λm x h=>by omega,λm x h hx=>by have:=(p8.1 hx).1;omega⟩
 ·simp only;omega
 ·rintro _ ⟨i,j,rfl,g1,g2,g3,g4⟩;show Ret (ya l w (i:Int) (j:Int)) _;unfold ya;rw[zG];refine⟨λhc=>?_,λhc=>?_⟩
  ·have hij:i<j:=by simpa using hc
   have hh:w64 (Int.fdiv (IntKind.u64.wrap (w64 ((i:Int)+(j:Int)))) (2 ^ 1))=(((i+j) / 2:Nat):Int):=by
    rw[zJ (x:=(i:Int)+(j:Int)) (by omega) (by omega),ztU (by omega) (by omega)];have:Int.fdiv ((i:Int)+(j:Int)) (2 ^ 1)=(((i+j) / 2:Nat):Int):=by rw[show((i:Int)+(j:Int))=((i+j:Nat):Int) by omega,show((2:Int) ^ 1)=((2:Nat):Int) by rfl];rw[Int.fdiv_eq_ediv_of_nonneg _ (by omega)];rfl
    rw[this,zJ (by omega) (by omega)]
   rw[hh];have hm:(i+j) / 2<l.length:=by omega
   have hx:l[(i+j) / 2]?=some l[(i+j) / 2]:=p7 hm;rw[zA hx];simp only[oB];rw[z0I _ _ (hw _ (pI hm))];simp only[oB];by_cases hc2:ZW l[(i+j) / 2] w<0
   ·simp only[hc2,decide_true,cond_true];rw[zJ (by omega) (by omega),ze];refine⟨⟨(i+j) / 2+1,j,by simp,by omega,g2,λm x h hmx=>?_,g4⟩,by simp only;omega⟩;rcases pH m ((i+j) / 2) with q|q
    ·have h1:=(mC.1 hs) m ((i+j) / 2) (p8.1 hmx).1 hm q;rw[(p8.1 hmx).2]at h1;exact jV h1 hc2
    ·rw[show m=(i+j) / 2 by omega,hx]at hmx;cases hmx;exact hc2
   ·simp only[hc2,decide_false,cond_false];rw[ze];refine⟨⟨i,(i+j) / 2,rfl,by omega,by omega,g3,λm x h hmx hlt=>?_⟩,by simp only;omega⟩;rcases pH ((i+j) / 2) m with q|q
    ·have h1:=(mC.1 hs) ((i+j) / 2) m hm (p8.1 hmx).1 q;rw[(p8.1 hmx).2]at h1;exact hc2 (jV h1 hlt)
    ·rw[show m=(i+j) / 2 by omega,hx]at hmx;cases hmx;exact hc2 hlt
  ·have hij:i=j:=by
    have:¬i<j:=by simpa using hc
    omega
   subst hij;rw[ze];exact⟨i,rfl,g2,g3,g4⟩
 ·rintro _ ⟨i,rfl,h1,h2,h3⟩;unfold yz;rw[zG];refine⟨λhc=>?_,λhc=>?_⟩
  ·have hi:i<l.length:=by simpa using hc
   have hx:l[i]?=some l[i]:=p7 hi;rw[zA hx];simp only[oB];rw[z0I _ _ (hw _ (pI hi))];simp only[oB,ze];by_cases he:l[i]=w
   ·rw[he,UJ];have:w∈l:=he ▸ pI hi;simp[this]
   ·have hne:(ZW l[i] w==0)=false:=by simp;exact λq=>he (z2P q)
    rw[hne];have:w∉l:=by
     intro hm;obtain⟨m,hm⟩:=gL.1 hm;rcases pH m i with q|q
     ·exact z3m _ (h2 m w q hm)
     ·rcases pH i m with q2|q2
      ·have h4:=(mC.1 hs) i m hi (p8.1 hm).1 q2;rw[(p8.1 hm).2]at h4;exact h3 i _ (pC _) hx h4
      ·rw[show m=i by omega,hx]at hm;cases hm;exact he rfl
    simp[this]
  ·have hi:i=l.length:=by
    have:¬i<l.length:=by simpa using hc
    omega
   rw[ze,ze];have:w∉l:=by intro hm;obtain⟨m,hm⟩:=gL.1 hm;exact z3m _ (h2 m w (by rw[hi];exact(p8.1 hm).1) hm)
   simp[this]
end Go.Own
end
