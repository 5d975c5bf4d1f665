/- Walks, further. -/
import Derived.Test.YtkalhfmehmcofaaGreatPartF
import Derived.Test.YtkalhfmehmcofaaGreatPartC
import Derived.Test.YtkalhfmehmcofaaGreatPartE
noncomputable section
set_option linter.unusedVariables false
set_option linter.defProp false
set_option linter.unusedSimpArgs false
namespace Go.Own
open Go.Proofs.Tryz
open Go.Proofs
set_option maxRecDepth 100000
set_option maxHeartbeats 8000000
def l94:=Y6 63 (eSp KI) znj wY::l93
abbrev Qi (out:TA):List (Nat×T):=[(2,.own (eOs 1 false F3_ out))]
abbrev Qh (b_:zb)(ay:TA)(next:List ze):List (Nat×T):=[(0,.d (.sptr (KI b_))),(2,.own (eOs 1 false F3_ ay)),(4,.own (eOs 2 false Qw next))]
abbrev Qg (b_:zb)(av:List ze)(ba:Int)(im:TA)(fm:List ze):List (Nat×T):=[(0,.d (.sptr (KI b_))),(2,.own (eOs 1 false F3_ im)),(3,.own (eOs 2 false Qw av)),(4,.own (eOs 2 false Qw fm)),(15,.als 3 [] 0 0),(16,.d (I (av.length:Int))),(17,.d (I ba))]
abbrev Qe (b_:zb)(av:List ze)(cu:TA)(ba:Int)(bt:ze)(cm:List ze)(pt:Bool):List (Nat×T):=[(0,.d (.sptr (KI b_))),(2,.own (eOs 1 false F3_ cu)),(3,.own (eOs 2 false Qw av)),(4,.own (eOs 2 false Qw cm)),(6,.own (.box (Qw bt))),(7,.d (B pt)),(15,.als 3 [] 0 0),(16,.d (I (av.length:Int))),(17,.d (I ba))]
abbrev Qd (b_:zb)(av:List ze)(cu:TA)(ba:Int)(bt:ze)(bh:zw Int)(dz:Int)(nn:List ze)(nq:Bool):List (Nat×T):=[(0,.d (.sptr (KI b_))),(2,.own (eOs 1 false F3_ cu)),(3,.own (eOs 2 false Qw av)),(4,.own (eOs 2 false Qw nn)),(6,.own (.box (Qw bt))),(7,.d (B nq)),(15,.als 3 [] 0 0),(16,.d (I (av.length:Int))),(17,.d (I ba)),(28,.d (F1_ bh)),(29,.d (I dz))]
abbrev Qa (b_:zb)(av:List ze)(cu:TA)(ba:Int)(bt:ze)(bh:zw Int)(gv:List ze)(lu:Bool)(dz:Int):List (Nat×T):=[(0,.d (.sptr (KI b_))),(2,.own (eOs 1 false F3_ cu)),(3,.own (eOs 2 false Qw av)),(4,.own (eOs 2 false Qw gv)),(6,.own (.box (Qw bt))),(7,.d (B lu)),(15,.als 3 [] 0 0),(16,.d (I (av.length:Int))),(17,.d (I ba)),(28,.d (F1_ bh)),(29,.d (I dz))]
abbrev Qb (b_:zb)(av:List ze)(cu:TA)(cr:List ze)(ba:Int):List (Nat×T):=[(0,.d (.sptr (KI b_))),(2,.own (eOs 1 false F3_ cu)),(3,.own (eOs 2 false Qw av)),(4,.own (eOs 2 false Qw cr)),(15,.als 3 [] 0 0),(16,.d (I (av.length:Int))),(17,.d (I ba))]
abbrev Qc (b_:zb)(aj:TA)(av:List ze):List (Nat×T):=[(0,.d (.sptr (KI b_))),(2,.own (eOs 1 false F3_ aj)),(3,.own (eOs 2 false Qw av))]
def uO:XH prog:=((XM zn (.inl 52) [51]).or ((XM zn (.inl 43) [42]).or ((XM zn (.inl 11) [10]).or X0)))
def KL [H:HS uO l93]:OkH l94:=yS1 true func63 λb_ r0 aa E hE=>by
 refine yJ 111 [] [2] (λz:TA=>ud z=some r0) (λz=>Qi z) [(0,.d (.sptr (KI b_))),(2,.own (eOs 1 true F5_ [])),(3,.own (eOs 2 true (yX (eI .i32) F3_) ([(ze.mk 0 [])])))] [Hm (shM sZ sZ []),Hh (.cut 0)] ?_ λJ1 au=>?_
 ·rintro out aa;unfold ud at aa;obtain⟨r_,h0,aa⟩:=zl aa;obtain rfl:=zZ aa;exact yE (H:=zx ((z4V zn (WC (H:=zd 0)) 57).or uO)) hE [Hh (.g [true]),Hn Ws,Hx (.a (znj r_)) (Wr out _ h0)]
 obtain⟨t2,ht2,aa⟩:=zl aa;refine yLx 11120 [J1] (λs=>ua b_ s.1 s.2) (λx=>Qc b_ x.1 x.2) (([]:TA),([(ze.mk 0 [])]:List ze)) ht2 [(0,.d (.sptr (KI b_))),(2,.own (eOs 1 true F3_ [])),(3,.own (eOs 2 true (yX (eI .i32) F3_) ([(ze.mk 0 [])])))] inferInstance [] λ⟨aj,av⟩ m2 aw ae hl1 J2 ax=>?_;try unfold ua at ae
 let Z0:List HO:=[Ha (lnM Qw av)];obtain c0|c0:=zt ae
 ·refine yJ 111200101 [J1,J2] [0,2,4] (λz:TA×List ze=>uc z.1 z.2=some aw) (λz=>Qh b_ z.1 z.2) [(0,.d (.sptr (KI b_))),(2,.own (eOs 1 false F3_ aj)),(3,.own (eOs 2 false Qw av)),(4,.own (eOs 2 true Qw []))] (Z0++[c0,Hh (.cut 1)]) ?_ λJ3 bk=>?_
  ·rintro⟨ay,next⟩ ae;unfold uc at ae;obtain rfl:=zZ ae;exact yB ax _ hl1 []
  obtain⟨t4,ht4,ae⟩:=zl c0.2;refine yLx 111200101210 [J1,J2,J3] (λs=>yh b_ av s.1 s.2.1 s.2.2) (λx=>Qb b_ av x.1 x.2.1 x.2.2) (aj,([]:List ze),0) ht4 [(0,.d (.sptr (KI b_))),(2,.own (eOs 1 false F3_ aj)),(3,.own (eOs 2 false Qw av)),(4,.own (eOs 2 true Qw [])),(15,.als 3 [] 0 0),(16,.d (I (av.length:Int))),(17,.d (I 0))] inferInstance [Ha (lnM Qw av)] λ⟨cu,cr,ba⟩ m4 dc ah hl2 J4 cx=>?_;try unfold yh at ah;obtain c1|c1:=zt ah
  ·refine yJ 111200101210011 [J1,J2,J3,J4] [0,2,3,4,15,16,17] (λz:TA×List ze=>wK ba z.1 z.2=some dc) (λz=>Qg b_ av ba z.1 z.2) [(0,.d (.sptr (KI b_))),(2,.own (eOs 1 false F3_ cu)),(3,.own (eOs 2 false Qw av)),(4,.own (eOs 2 false Qw cr)),(15,.als 3 [] 0 0),(16,.d (I (av.length:Int))),(17,.d (I ba))] [c1,Hh (.cut 0)] ?_ λJ5 dh=>?_
   ·rintro⟨im,fm⟩ ah;unfold wK at ah;obtain rfl:=zZ ah;exact yB cx _ hl2 []
   obtain⟨bt,h1,ah⟩:=zl c1.2;refine yJ 1112001012100112011 [J1,J2,J3,J4,J5] [0,2,3,4,6,7,15,16,17] (λz:List ze×Bool=>ub cu ba bt z.1 z.2=some dc) (λz=>Qe b_ av cu ba bt z.1 z.2) [(0,.d (.sptr (KI b_))),(2,.own (eOs 1 false F3_ cu)),(3,.own (eOs 2 false Qw av)),(4,.own (eOs 2 false Qw cr)),(6,.own (.box (Qw bt))),(7,.d (B true)),(15,.als 3 [] 0 0),(16,.d (I (av.length:Int))),(17,.d (I ba))] [Hn (iL Qw h1),Hs (iM Qw h1),Hh (.cut 1)] ?_ λJ6 fz=>?_
   ·rintro⟨cm,pt⟩ ah;unfold ub at ah;obtain c2|c2:=zt ah
    ·obtain⟨ai,h2,ah⟩:=zl c2.2;obtain⟨g0,ah⟩:=gdE ah;exact yB dh ((cu++[ai]),cm) ah [c2,zC1 41 h2,Hq (dM F3_ [ai]),Hn (dM F3_ [ai]),Hn (aL F3_ F3_ g0),Hl (aM F3_ cu [ai])]
    exact yB dh (cu,cm) c2.2 [c2]
   obtain⟨bh,h3,t7,ht7,ah⟩:=zV ah;refine yL 1112001012100112011210 [J1,J2,J3,J4,J5,J6] (λs=>yg bt bh s.1 s.2.1 s.2.2) (λx=>Qa b_ av cu ba bt bh x.1 x.2.1 x.2.2) (cr,true,0) ht7  [Hi F1_ h3] λ⟨gv,lu,dz⟩ m7 oa a8 hl3 J7 j5=>?_;try unfold yg at a8;obtain c3|c3:=zt a8
   ·refine yJ 1112001012100112011210011 [J1,J2,J3,J4,J5,J6,J7] [0,2,3,4,6,7,15,16,17,28,29] (λz:List ze×Bool=>wJ dz z.1 z.2=some oa) (λz=>Qd b_ av cu ba bt bh dz z.1 z.2) [(0,.d (.sptr (KI b_))),(2,.own (eOs 1 false F3_ cu)),(3,.own (eOs 2 false Qw av)),(4,.own (eOs 2 false Qw gv)),(6,.own (.box (Qw bt))),(7,.d (B lu)),(15,.als 3 [] 0 0),(16,.d (I (av.length:Int))),(17,.d (I ba)),(28,.d (F1_ bh)),(29,.d (I dz))] [c3,Hh (.cut 0)] ?_ λJ8 mb=>?_
    ·rintro⟨nn,nq⟩ a8;unfold wJ at a8;obtain rfl:=zZ a8;exact yB j5 _ hl3 []
    obtain⟨cell,h4,a8⟩:=zl c3.2;let Z1:List HO:=[Hs (iM (eI .i32) h4),Hn (ixV (k:=.i32) (tt:=uQ) (e:=21) (l:=[bh.e0,bh.e1,bh.e2,bh.e3,bh.e4,bh.e5,bh.e6,bh.e7,bh.e8,bh.e9,bh.e10,bh.e11,bh.e12,bh.e13,bh.e14,bh.e15]) (λ_=>by kernel_rfl) h4 (m:=16) rfl)];obtain c4|c4:=zt a8
    ·obtain⟨am,h5,a8⟩:=zl c4.2;obtain⟨g1,a8⟩:=gdE a8;obtain⟨g2,a8⟩:=gdE a8;exact yB (H:=zx ((zpg zn 32).or uO)) mb ((gv++[(ze.mk cell (am++[dz]))]),false) a8 (Z1++[c4,zC1 41 h5,Hq (dM sZ [dz]),Hn (dM sZ [dz]),Hn (aN sZ sZ g1 ς),Hl (aM sZ am [dz]),Hm (shM sZ sZ (am++[dz])),Hq (dM Qw [(ze.mk cell (am++[dz]))]),Hn (dM Qw [(ze.mk cell (am++[dz]))]),Hn (aL Qw Qw g2),Hl (aM Qw gv [(ze.mk cell (am++[dz]))])])
    exact yB (H:=zx ((zpg zn 32).or uO)) mb (gv,lu) c4.2 (Z1++[c4])
   obtain rfl:=zZ c3.2;obtain rfl:=hl3;exact yB fz (gv,lu) ah [c3]
  obtain rfl:=zZ c1.2;obtain rfl:=hl2;exact yB bk (cu,cr) ae [c1]
 obtain rfl:=zZ c0.2;obtain rfl:=hl1;exact yB au aj aa (Z0++[c0])
def l95:=zjY 40 (eIf 81) zK sZ sZ (eT2 Ju sZ) wB::l94
def z3M [H:HS X0 l94]:OkH l95:=yS4 false func40 λs_ m_ ZO fc r0 aa E hE=>by
 obtain⟨r_,h0,aa⟩:=zl aa;let Z0:List HO:=[zC2 45 h0];obtain c0|c0:=zt aa
 ·cases c0.2;exact yE hE (Z0++[c0,Hm (shM F5_ F5_ [])])
 obtain c1|c1:=zt c0.2
 ·cases c1.2;exact yE hE (Z0++[c0,c1,c1,c1,qT,Hm (shM F5_ F5_ [])])
 let Z1:List HO:=(Z0++[c0,c1,c1,c1]);obtain c2|c2:=zt c1.2
 ·cases c2.2;exact yE hE (Z1++[c2,Hm (shM F5_ F5_ [])])
 obtain⟨ai,h1,aa⟩:=zl c2.2;let Z2:List HO:=(Z1++[c2,zC2 12 h1,Hn (rfl:T.d (ePo z4S ai.1)=T.d (ePo z4S ai.1))]);obtain c3|c3:=zt aa
 ·cases c3.2;exact yE (H:=zx ((xRe prog 11 (ePo z4S ai.1) (ePo z4S ai.1) (λ_ _ q=>q)).or X0)) hE (Z2++[c3,Hm (shM F5_ F5_ [])])
 obtain⟨there,h2,am,h3,aa⟩:=zV c3.2;let Z3:List HO:=(Z2++[c3,Hn (rfl:T.d (ePo z4S ai.1)=T.d (ePo z4S ai.1)),zC3 1 h3,Hn (rfl:T.d (ePo KI am.1)=T.d (ePo KI am.1))]);obtain c4|c4:=zt aa
 ·cases c4.2;exact yE (H:=zx ((xRe prog 13 (ePo KI am.1) (ePo KI am.1) (λ_ _ q=>q)).or ((xRe prog 38 (ePo z4S ai.1) (.sptr (.agg [.agg [I there.m_.j,I there.m_.m,eSl 1 false y6 there.m_.i],eSl 1 false F5_ there.q_,eSl 1 false F5_ there.p_,eSl 1 false F5_ there.all_,eSl 1 false xq there.each_,eSl 1 false F5_ there.L,eSl 1 false F5_ there.U])) (poM (f:=z4S) h2)).or ((xRe prog 11 (ePo z4S ai.1) (ePo z4S ai.1) (λ_ _ q=>q)).or X0)))) hE (Z3++[c4,Hm (shM F5_ F5_ [])])
 obtain⟨ft,h4,az,h5,cp,h6,aa⟩:=ZK c4.2;let Z4:List HO:=(Z3++[c4,Hn (rfl:T.d (ePo KI am.1)=T.d (ePo KI am.1)),zC1 0 h5,zg 53,Hm (shM F3_ F3_ az),Hs (zf2 53 h6 (loC Ju az<|loC sZ m_.j<|loN))]);obtain c5|c5:=zt aa
 ·cases c5.2;exact yE (H:=zx ((xRe prog 46 (ePo KI am.1) (.sptr (.agg [eSl 16 false F1_ ft.z,I ft.x,I ft.y])) (poM (f:=KI) h4)).or ((xRe prog 13 (ePo KI am.1) (ePo KI am.1) (λ_ _ q=>q)).or ((xRe prog 38 (ePo z4S ai.1) (.sptr (.agg [.agg [I there.m_.j,I there.m_.m,eSl 1 false y6 there.m_.i],eSl 1 false F5_ there.q_,eSl 1 false F5_ there.p_,eSl 1 false F5_ there.all_,eSl 1 false xq there.each_,eSl 1 false F5_ there.L,eSl 1 false F5_ there.U])) (poM (f:=z4S) h2)).or ((xRe prog 11 (ePo z4S ai.1) (ePo z4S ai.1) (λ_ _ q=>q)).or X0))))) hE (Z4++[c5,Hm (shM F5_ F5_ [])])
 cases c5.2;exact yE (H:=zx ((xRe prog 46 (ePo KI am.1) (.sptr (.agg [eSl 16 false F1_ ft.z,I ft.x,I ft.y])) (poM (f:=KI) h4)).or ((xRe prog 13 (ePo KI am.1) (ePo KI am.1) (λ_ _ q=>q)).or ((xRe prog 38 (ePo z4S ai.1) (.sptr (.agg [.agg [I there.m_.j,I there.m_.m,eSl 1 false y6 there.m_.i],eSl 1 false F5_ there.q_,eSl 1 false F5_ there.p_,eSl 1 false F5_ there.all_,eSl 1 false xq there.each_,eSl 1 false F5_ there.L,eSl 1 false F5_ there.U])) (poM (f:=z4S) h2)).or ((xRe prog 11 (ePo z4S ai.1) (ePo z4S ai.1) (λ_ _ q=>q)).or X0))))) hE (Z4++[c5,Hm (shM F3_ F3_ az)])
def l96:=z0Q 18 zK sZ sZ (eT2 Ju sZ) z28::l95
def zau [H:HS X0 l95]:OkH l96:=yS3 false func18 λm_ ZO fc r0 aa E hE=>by obtain⟨r_,h0,aa⟩:=zl aa;cases aa;exact yE (H:=zx ((zmP prog 9 81 underlying81).or X0)) hE [zC4 0 h0]
def l97:=Y6 32 y6 YU yR::l96
def ZN [H:HS X0 l96]:OkH l97:=yS1 true func32 λs_ r0 aa E hE=>by
 refine z8P rfl 0 (sz:=2) (t:=false) (es:=s_.map F9_) κ λbn hv0 hn=>?_;rcases hn with⟨hn0,he0⟩|hn0
 ·obtain⟨_,aa⟩:=gdE aa;rw[show s_=[] from List.map_eq_nil_iff.1 he0]at aa;cases aa;exact yEl (H:=zx ((zjX zn 4 72 κ hn0).or ((xMv prog 3 0 bn hv0).or X0))) hE [Hn (rfl:some bn=some bn),Hn (⟨rfl,rfl⟩:T.d (.atom bn)=T.d (.atom bn)/\T.d (.atom (.slice none 0 0))=T.d (.atom (.slice none 0 0))),qT]
 obtain⟨g0,aa⟩:=gdE aa;cases aa;exact yE (H:=zx ((zjX zn 4 72 κ hn0).or ((xMv prog 3 0 bn hv0).or X0))) hE [Hn (rfl:some bn=some bn),Hn (⟨rfl,rfl⟩:T.d (.atom bn)=T.d (.atom bn)/\T.d (.atom (.slice none 0 0))=T.d (.atom (.slice none 0 0))),qF,Hn (dM F9_ s_),Hn (aL F9_ F9_ g0),Hl (aM0 F9_ s_)]
def l98:=Y6 31 y6 zao yZ::l97
def ZX [H:HS X0 l97]:OkH l98:=yS1 true func31 λs_ r0 aa E hE=>by obtain⟨g0,aa⟩:=gdE aa;cases aa;exact yE hE [Ha (lnM F9_ s_),Ha (lnM F9_ s_),Hn (slB g0),Hn (slC g0),Hn (zib F9_ g0),Ha (znz 2 F9_ s_ 0 (s_.length:Int).toNat)]
def l99:=z0Q 10 zK xq sZ (eT2 zdQ sZ) ZF::l98
def zav [H:HS X0 l98]:OkH l99:=yS3 false func10 λm_ l_ states r0 aa E hE=>by
 let u0:=(xF sZ sZ (eSl 1 true y6));let u1:=(z6.mk 0 0 []);obtain⟨r_,h0,aa⟩:=zl aa;let Z0:List HO:=[zC3 56 h0];obtain c0|c0:=zt aa
 ·cases c0.2;exact yE hE (Z0++[c0,Hm (shM y6 y6 [])])
 refine yC 1111 [] [1,2,3,6,9] (Z0++[c0,Hh (.cut 1)]) ?_;refine z7P κ 9 λlz=>?_;obtain⟨ai,h1,aa⟩:=zl c0.2;let Z1:List HO:=[Hh (.v 2 [9]),Hm (shM y6 y6 []),Hh (.v 1 [9]),Hn (Uc (f:=.fn 30 []) (xs:=[.agg [zK m_,xq l_,.fn 29 [.atom lz]],I states]) (ls:=[(lz,.box (u0 u1))]) (r:=.tup []) (ys:=[.box (zK ai)]) [.agg [zK m_,xq l_,.fn 29 [.atom lz]],I states] (show Jr [.agg [zK m_,xq l_,.fn 29 [.atom lz]],I states] [.agg [zK m_,xq l_,.fn 29 [.atom lz]],I states] from inferInstance)),Ha (lnM y6 ai.i)];obtain c1|c1:=zt aa
 ·cases c1.2;exact yE (H:=zx ((z2o (P:=prog) uQ [9] (xS.pre (show LeA (.box (u0 u1)) (.box (zK u1)) from inferInstance) (ZY (H:=zd 51) (K:=29) (c:=zK) (λv s x s' b h=>zbe (H:=zd 51) h) (λ_ _ _ h=>by cases h) _ _ _ _ (z23 rfl) _ h1 lz)) 28).or ((xMk prog uQ).or X0))) hE (Z1++[c1,Hm (shM y6 y6 [])])
 obtain⟨g0,aa⟩:=gdE c1.2;refine yN (H:=zx ((xMs zn 38 72).or ((z2o (P:=prog) uQ [9] (xS.pre (show LeA (.box (u0 u1)) (.box (zK u1)) from inferInstance) (ZY (H:=zd 51) (K:=29) (c:=zK) (λv s x s' b h=>zbe (H:=zd 51) h) (λ_ _ _ h=>by cases h) _ _ _ _ (z23 rfl) _ h1 lz)) 28).or ((xMk prog uQ).or X0)))) 111111111 [] [6,9] (zI (z3l ai) r0) (λz=>[(9,.own (.box (.agg [I ai.j,I ai.m,eOs 1 true zao z])))]) [6,9,11] (Z1++[c1,Ha (lnM y6 ai.i),Hn (rL g0),Ha (rM 1 zao (ai.i.length:Int) ([]:List z7)),Hh (.cut 0)]) ?_ λJ1 au=>?_
 ·rintro gu aa;cases aa;exact yE hE [Hm (shM zao zao gu)]
 refine yMb 111111111210 [J1] [6,9,40,41,42] (λx=>[(9,.own (.box (.agg [I ai.j,I ai.m,eOs 1 true zao x.1]))),(42,.d (I x.2))]) aa  [Ha (lnM y6 ai.i)] λt2 aa ⟨bj,lk⟩ m2 aw ae hl1 J2 ax=>?_;obtain c2|c2:=zt ae
 ·obtain⟨al,h2,am,h3,az,h4,p8,h5,ae⟩:=z7L c2.2;cases ae;exact yB ax _ hl1 [c2,Hi y6 h2,zC1 1 h3,zg 0,Hm (shM F9_ F9_ am),Hs (zf1 0 h4 (loC y6 am<|loN)),Hm (shM F9_ F9_ am),Hn (iL zao h5),Hs (iM zao h5),Hs (iM zao h5),Hl (sM zao bj lk az)]
 cases c2.2;cases hl1;exact yB au bj aa [c2]
def zoH:List y4:=jV 16 zK zK eB Y8::l99
def z6p [H:HS X0 l99]:OkH zoH:=yS2 true func16 λa_ b_ r0 aa E hE=>by
 obtain c0|c0:=zt aa
 ·cases c0.2;exact yE hE (rpN 6 (Hb c0) (rpN 9 qT []))
 let Z0:List HO:=(rpN 6 (Hb c0) []);obtain c1|c1:=zt c0.2
 ·cases c1.2;exact yE hE (Z0++(rpN 8 (Hb c1) [qT]))
 let Z1:List HO:=(Z0++[c1,c1,c1,Ha (lnM y6 a_.i),c1,c1,c1,Ha (lnM y6 b_.i),c1,c1]);obtain c2|c2:=zt c1.2
 ·cases c2.2;exact yE hE (Z1++[c2])
 refine yK 111 [] [] (λz:Unit=>z0d=some r0) (λz=>[]) [2,3] (Z1++[c2,Hh (.cut 0)]) ?_ λJ1 au=>?_
 ·rintro⟨⟩ aa;cases aa;exact yE hE []
 refine yMb 111210 [J1] [2,3,5] (λx=>[(5,.d (I x))]) c2.2  [] λt2 aa s_ m2 aw ae hl1 J2 ax=>?_;let Z2:List HO:=[Ha (lnM y6 a_.i)];obtain c3|c3:=zt ae
 ·refine yNs 11121001 [J1,J2] [2,3,5] (λz:Unit=>Up s_=some aw) (λz=>[]) (Z2++[c3,Hh (.cut 0)]) ?_ λJ3 bk=>?_
  ·rintro⟨⟩ ae;cases ae;exact yB ax _ hl1 []
  obtain⟨al,h0,dp,h1,ae⟩:=zV c3.2;let Z3:List HO:=[Hi y6 h0,Ha (lnM F9_ al),Hi y6 h1,Ha (lnM F9_ dp)];obtain c4|c4:=zt ae
  ·cases c4.2;cases hl1;cases aa;exact yE hE (Z3++[c4])
  refine yMb 1112100120110 [J1,J2,J3] [2,3,5,6] (λx=>[(6,.d (I x))]) c4.2  (Z3++[c4]) λt4 ae i_ m4 dc ah hl2 J4 cx=>?_;obtain⟨pb,h2,ah⟩:=zl ah;let Z4:List HO:=[Hi y6 h2,Ha (lnM F9_ pb)];obtain c5|c5:=zt ah
  ·obtain⟨p9,h3,ak,h4,qd,h5,ar,h6,ah⟩:=z7L c5.2;let Z5:List HO:=(Z4++[c5,Hi y6 h3,Hi F9_ h4,Hi y6 h5,Hi F9_ h6]);obtain c6|c6:=zt ah
   ·cases c6.2;cases hl2;cases ae;cases hl1;cases aa;exact yE hE (Z5++[c6])
   cases c6.2;exact yB cx _ hl2 (Z5++[c6])
  cases c5.2;cases hl2;exact yB bk () ae (Z4++[c5])
 cases c3.2;cases hl1;exact yB au () aa (Z2++[c3])
def zoG:List y4:=Y6 39 sZ F2_ kF::zoH
def z5g [H:HS X0 zoH]:OkH zoG:=yS1 true func39 λn_ r0 aa E hE=>by obtain⟨g0,aa⟩:=gdE aa;cases aa;exact yE hE [Hn (rL g0),Ha (rM 1 sZ n_ (0:Int))]
def zoF:List y4:=z0Q 41 zK zK xq sZ VL::zoG
def z6v [H:HS X0 zoG]:OkH zoF:=yS3 true func41 λm_ other l_ r0 aa E hE=>by
 refine yNs 11 [] [2,3,4] (λz:Unit=>Xy m_ other l_=some r0) (λz=>[]) [Hh (.cut 1)] ?_ λJ1 au=>?_
 ·rintro⟨⟩ aa;obtain c0|c0:=zt aa
  ·cases c0.2;exact yE hE [c0]
  obtain⟨r_,h0,aa⟩:=zl c0.2;cases aa;exact yE hE [c0,zC2 60 h0]
 refine yMb 11210 [J1] [2,3,4,12,13,14] (λx=>[(14,.d (I x))]) aa  [Ha (lnM zK [m_,other])] λt2 aa k9 m2 aw ae hl1 J2 ax=>?_;obtain c1|c1:=zt ae
 ·obtain⟨l5,h1,ai,h2,ae⟩:=zV c1.2;let Z0:List HO:=[c1,Hn (iL zK h1),Hs (iM zK h1),zC1 94 h2];obtain c2|c2:=zt ae
  ·cases c2.2;cases hl1;cases aa;exact yE hE (Z0++[c2])
  cases c2.2;exact yB ax _ hl1 (Z0++[c2])
 cases c1.2;cases hl1;exact yB au () aa [c1]
def zoE:List y4:=z0Q 21 zK zK xq (eT3 sZ sZ sZ) Wu::zoF
def z5m [H:HS X0 zoF]:OkH zoE:=yS3 false func21 λm_ other l_ r0 aa E hE=>by
 obtain⟨r_,h0,aa⟩:=zl aa;let Z0:List HO:=[zC3 0 h0];obtain c0|c0:=zt aa
 ·cases c0.2;exact yE hE (Z0++[c0])
 refine yK 111 [] [] (λz:Unit=>Kg=some r0) (λz=>[]) [2,3,4] (Z0++[c0,Hh (.cut 0)]) ?_ λJ1 au=>?_
 ·rintro⟨⟩ aa;cases aa;exact yE hE []
 refine yMb 111210 [J1] [3,4,20,21,22] (λx=>[(22,.d (I x))]) c0.2  [Ha (lnM F5_ l_)] λt2 aa fj m2 aw ae hl1 J2 ax=>?_;obtain c1|c1:=zt ae
 ·obtain⟨cq,h1,ai,h2,ae⟩:=zV c1.2;let Z1:List HO:=[c1,Hi F5_ h1,zC3 57 h2];obtain c2|c2:=zt ae
  ·cases c2.2;cases hl1;cases aa;exact yE hE (Z1++[c2])
  cases c2.2;exact yB ax _ hl1 (Z1++[c2])
 cases c1.2;cases hl1;exact yB au () aa [c1]
def zoD:List y4:=zlt 15 eB Wn::zoE
def z5h [H:HS X0 zoE]:OkH zoD:=yS0 true func15 λr0 aa E hE=>by
 obtain⟨r_,h0,ai,h1,am,h2,az,h3,cp,h4,aa⟩:=zb0 aa;obtain⟨gh,h5,aa⟩:=zl aa;let Z0:List HO:=[zg 102,Hm (shM F9_ F9_ ([(z7.mk 1 0),(z7.mk 0 1)])),Hs (zf1 102 h0 (loC zao ([(z7.mk 1 0),(z7.mk 0 1)]:List z7)<|loN)),Hm (shM F9_ F9_ ([(z7.mk 1 0),(z7.mk 0 1)])),zC2 75 h1,zC2 75 h2,zC2 75 h3,Hk [] (z0r (hat 55)) (zf3 55 h4 (loC zK r_<|loC z4T ([]:TA)<|loC sZ 1<|loN)),Hk [] (z0r (hat 55)) (zf3 55 h5 (loC zK r_<|loC z4T ([]:TA)<|loC sZ 2<|loN))];obtain c0|c0:=zt aa
 ·cases c0.2;exact yE hE (Z0++(Hb c0::Hb c0::Hb c0::(rpN 22 qT [])))
 obtain c1|c1:=zt c0.2
 ·cases c1.2;exact yE hE (Z0++(Hb c0::Hb c0::Hb c0::Hb c1::Hb c1::Hb c1::(rpN 19 qT [])))
 let Z1:List HO:=(Z0++[c0,c0,c0,c1,c1,c1]);obtain c2|c2:=zt c1.2
 ·cases c2.2;exact yE hE (Z1++(Hb c2::Hb c2::Hb c2::(rpN 16 qT [])))
 obtain c3|c3:=zt c2.2
 ·cases c3.2;exact yE hE (Z1++(Hb c2::Hb c2::Hb c2::Hb c3::Hb c3::Hb c3::(rpN 13 qT [])))
 let Z2:List HO:=(Z1++[c2,c2,c2,c3,c3,c3]);obtain c4|c4:=zt c3.2
 ·cases c4.2;exact yE hE (Z2++(Hb c4::Hb c4::Hb c4::(rpN 10 qT [])))
 obtain c5|c5:=zt c4.2
 ·cases c5.2;exact yE hE (Z2++(Hb c4::Hb c4::Hb c4::Hb c5::Hb c5::Hb c5::(rpN 7 qT [])))
 let Z3:List HO:=(Z2++[c4,c4,c4,c5,c5,c5]);obtain c6|c6:=zt c5.2
 ·cases c6.2;exact yE hE (Z3++(Hb c6::Hb c6::Hb c6::(rpN 4 qT [])))
 obtain c7|c7:=zt c6.2
 ·cases c7.2;exact yE hE (Z3++[c6,c6,c6,c7,c7,c7,qT])
 let Z4:List HO:=(Z3++[c6,c6,c6,c7,c7,c7]);obtain c8|c8:=zt c7.2
 ·cases c8.2;exact yE hE (Z4++[c8])
 obtain⟨iz,h6,jk,h7,kg,h8,kh,h9,js,h10,aa⟩:=zb0 c8.2;obtain⟨gm,h11,od,h12,mf,h13,l4,h14,k0,h15,aa⟩:=zb0 aa;obtain⟨j9,h16,aa⟩:=zl aa;refine yC 11111111111111110 [] [1,3,5,7,9,11,12,13,14,15,16] (Z4++[c8,Hk [] (z0r (hat 4)) (zf3 4 h6 (loC zK r_<|loC z4T ([]:TA)<|loC sZ 2<|loN)),zC1 2 h7,zg 4,Hm (shM F2_ F3_ ([jk])),Hs (zf3 4 h8 (loC zK r_<|loC Ju [jk]<|loC sZ 2<|loN)),Hm (shM F2_ F3_ ([jk])),zC1 2 h9,zg 4,Hm (shM F2_ F3_ ([kh])),Hs (zf3 4 h10 (loC zK r_<|loC Ju [kh]<|loC sZ 2<|loN)),Hm (shM F2_ F3_ ([kh])),zC1 2 h11,zg 4,Hm (shM F2_ F3_ ([gm])),Hs (zf3 4 h12 (loC zK r_<|loC Ju [gm]<|loC sZ 2<|loN)),Hm (shM F2_ F3_ ([gm])),zC1 2 h13,zg 4,Hm (shM F2_ F3_ ([mf])),Hs (zf3 4 h14 (loC zK r_<|loC Ju [mf]<|loC sZ 2<|loN)),Hm (shM F2_ F3_ ([mf])),zg 102,Hm (shM F9_ F9_ ([(z7.mk 0 0)])),Hs (zf1 102 h15 (loC zao ([(z7.mk 0 0)]:List z7)<|loN)),Hm (shM F9_ F9_ ([(z7.mk 0 0)])),zg 102,Hm (shM F9_ F9_ ([(z7.mk 1 0),(z7.mk 1 1)])),Hs (zf1 102 h16 (loC zao ([(z7.mk 1 0),(z7.mk 1 1)]:List z7)<|loN)),Hm (shM F9_ F9_ ([(z7.mk 1 0),(z7.mk 1 1)])),Hh (.cut 1)]) ?_;obtain c9|c9:=zt aa
 ·cases c9.2;exact yE hE (Hb c9::Hb c9::Hb c9::(rpN 25 qT []))
 obtain c10|c10:=zt c9.2
 ·cases c10.2;exact yE hE (Hb c9::Hb c9::Hb c9::Hb c10::Hb c10::Hb c10::(rpN 22 qT []))
 let Z5:List HO:=[c9,c9,c9,c10,c10,c10];obtain c11|c11:=zt c10.2
 ·cases c11.2;exact yE hE (Z5++(Hb c11::Hb c11::Hb c11::(rpN 19 qT [])))
 obtain c12|c12:=zt c11.2
 ·cases c12.2;exact yE hE (Z5++(Hb c11::Hb c11::Hb c11::Hb c12::Hb c12::Hb c12::(rpN 16 qT [])))
 let Z6:List HO:=(Z5++[c11,c11,c11,c12,c12,c12]);obtain c13|c13:=zt c12.2
 ·cases c13.2;exact yE hE (Z6++(rpN 5 (Hb c13) (rpN 11 qT [])))
 obtain⟨mv,h17,aa⟩:=zl c13.2;let Z7:List HO:=(Z6++[c13,c13,c13,Hk [] (z0r (hat 3)) (zf2 3 h17 (loC zdQ iz.1<|loC zK k0<|loN)),c13,c13]);obtain c14|c14:=zt aa
 ·cases c14.2;exact yE hE (Z7++(rpN 5 (Hb c14) (rpN 6 qT [])))
 obtain⟨mw,h18,aa⟩:=zl c14.2;let Z8:List HO:=(Z7++[c14,c14,c14,Hk [] (z0r (hat 3)) (zf2 3 h18 (loC zdQ kg.1<|loC zK k0<|loN)),c14,c14]);obtain c15|c15:=zt aa
 ·cases c15.2;exact yE hE (Z8++(rpN 5 (Hb c15) [qT]))
 obtain⟨rc,h19,aa⟩:=zl c15.2;let Z9:List HO:=(Z8++[c15,c15,c15,Hk [] (z0r (hat 3)) (zf2 3 h19 (loC zdQ l4.1<|loC zK j9<|loN)),c15,c15]);obtain c16|c16:=zt aa
 ·cases c16.2;exact yE hE (Z9++[c16])
 obtain⟨pc,h20,pd,h21,pu,h22,aa⟩:=ZK c16.2;let Z10:List HO:=(Z9++[c16,zC1 2 h20,zC1 2 h21,zg 0,Hm (shM F2_ F3_ ([pc,pd])),Hs (zf3 0 h22 (loC zK r_<|loC zK j9<|loC Ju [pc,pd]<|loN))]);obtain c17|c17:=zt aa
 ·obtain c18|c18:=zt c17.2
  ·cases c18.2;exact yE hE (Z10++[c17,c17,c17,c18,c18,c18])
  cases c18.2;exact yE hE (Z10++[c17,c17,c17,c18,c18,c18])
 cases c17.2;exact yE hE (Z10++[c17,c17,c17,qF,qF,qF])
def zoC:List y4:=jV 50 F7_ sZ sZ YM::zoD
def z41 [H:HS X0 zoD]:OkH zoC:=yS2 true func50 λl_ k_ r0 aa E hE=>by
 obtain c0|c0:=zt aa
 ·obtain⟨cq,h0,aa⟩:=zl c0.2;cases aa;exact yE hE [Ha (lnM (eI .u16) l_),c0,Hi (eI .u16) h0]
 cases c0.2;exact yE hE [Ha (lnM (eI .u16) l_),c0]
def zoB:List y4:=Y6 25 zpa zK JO::zoC
def z6t [H:HS X0 zoC]:OkH zoB:=yS1 false func25 λx_ r0 aa E hE=>by
 let u0:=(w64 (1+(w64 (Int.tmod x_.j 3))));let u1:=(w64 (1+(w64 (Int.tmod x_.m 3))));let u2:=(w64 (1+(w64 (Int.tmod x_.K 6))));obtain⟨g0,aa⟩:=gdE aa;obtain⟨g1,aa⟩:=gdE aa;obtain⟨g2,aa⟩:=gdE aa;refine yNs 1111 [] [1,2,3,4] (zI (Uz x_) r0) (λz=>[(4,.own (.box (.agg [I u0,I u1,eOs 1 false YU z])))]) [Hn g0,Hn g1,Hn g2,Hh (.cut 3)] ?_ λJ1 au=>?_
 ·rintro fl aa;refine yNs 11111 [] [1,2,3,4] (zI (Uy x_) r0) (λz=>[(4,.own (.box (.agg [I u0,I u1,eOs 1 false YU z])))]) [Hh (.cut 0)] ?_ λJ2 ax=>?_
  ·rintro dv aa;refine yN 111111 [] [2,4] (zI (Ux x_) r0) (λz=>[(4,.own (.box (.agg [I u0,I u1,eOs 1 false YU z])))]) [1,2,3,4] [Hh (.cut 0)] ?_ λJ3 bk=>?_
   ·rintro ck aa;cases aa;exact yE hE [Hm (shM YU y6 ck)]
   refine yMb 111111210 [J3] [1,2,3,4,13] (λx=>[(4,.own (.box (.agg [I u0,I u1,eOs 1 false YU x.1]))),(13,.d (I x.2))]) aa  [] λt4 aa ⟨gi,s_⟩ m4 aw ae hl1 J4 cx=>?_;obtain c0|c0:=zt ae
   ·refine yNs 11111121001 [J3,J4] [1,2,3,4,13] (zI (Uw s_) aw) (λz=>[(4,.own (.box (.agg [I u0,I u1,eOs 1 false YU z])))]) [c0,Hh (.cut 0)] ?_ λJ5 dh=>?_
    ·rintro ga ae;cases ae;exact yB cx _ hl1 []
    refine yMb 111111210012010 [J3,J4,J5] [1,2,3,4,13,14] (λx=>[(4,.own (.box (.agg [I u0,I u1,eOs 1 false YU x.1]))),(14,.d (I x.2))]) c0.2  [] λt6 ae ⟨gq,i_⟩ m6 dc ah hl2 J6 fz=>?_;obtain c1|c1:=zt ah
    ·refine yNs 11111121001201001 [J3,J4,J5,J6] [1,2,3,4,13,14] (zI (Xw i_) dc) (λz=>[(4,.own (.box (.agg [I u0,I u1,eOs 1 false YU z])))]) [c1,Hh (.cut 0)] ?_ λJ7 j5=>?_
     ·rintro l8 ah;cases ah;exact yB fz _ hl2 []
     obtain⟨pk,h0,oh,h1,ah⟩:=zV c1.2;let Z0:List HO:=[Hn (iL YU h0),Hs (iM YU h0),Hs (iM YU h0),Hn (iL F9_ h1),Hs (iM YU h0),Hs (iM F9_ h1),Hs (iM YU h0),Hs (iM F9_ h1)];obtain c2|c2:=zt ah
     ·obtain⟨km,h2,r_,h3,ah⟩:=zV c2.2;obtain⟨g3,ah⟩:=gdE ah;obtain⟨ka,h4,ah⟩:=zl ah;exact yB j5 (gq.set s_.toNat (km.set i_.toNat (z7.mk (Int.tmod r_ u2) ka.r))) ah (Z0++[c2,Hn (iL YU h2),Hs (iM YU h2),zC2 0 h3,Hn g3,Hs (iM YU h2),Hn (iL F9_ h4),Hs (iM YU h2),Hs (iM F9_ h4),Hs (iM YU h2),Hs (iM F9_ h4),Hs (iM YU h2),Hs (iM F9_ h4),Hl (sM F9_ km i_ (z7.mk (Int.tmod r_ u2) ka.r)),Hl (sM YU gq s_ (km.set i_.toNat (z7.mk (Int.tmod r_ u2) ka.r)))])
     exact yB j5 gq c2.2 (Z0++[c2])
    cases c1.2;cases hl2;exact yB dh gq ae [c1]
   cases c0.2;cases hl1;exact yB bk gi aa [c0]
  refine yMb 11111210 [J2] [1,2,3,4,9] (λx=>[(4,.own (.box (.agg [I u0,I u1,eOs 1 false YU x.1]))),(9,.d (I x.2))]) aa  [] λt8 aa ⟨br,bf⟩ m8 aw ae hl1 J8 mb=>?_;obtain c3|c3:=zt ae
  ·refine yNs 1111121001 [J2,J8] [1,2,3,4,9] (zI (Uv bf) aw) (λz=>[(4,.own (.box (.agg [I u0,I u1,eOs 1 false YU z])))]) [c3,Hh (.cut 0)] ?_ λJ9 qo=>?_
   ·rintro l9 ae;cases ae;exact yB mb _ hl1 []
   refine yNs 1111121001201 [J2,J8,J9] [1,2,3,4,9,10] (zI (Vm x_ br bf) aw) (λz=>[(10,.own (eOs 1 false sZ z))]) [Hh (.cut 1)] ?_ λJ10 hJ10=>?_
   ·rintro free ae;obtain⟨nr,h5,ae⟩:=zl ae;refine yN 111112100120111 [J2,J8,J9] [1,2,3,4,9,12] (zI (uE x_ br bf) aw) (λz=>[(12,.d (I z))]) [1,2,3,4,9,10,12] [Hn (iL sZ h5),Hs (iM sZ h5),Hh (.cut 0)] ?_ λsj pw=>?_
    ·rintro k_ ae;obtain⟨g4,ae⟩:=gdE ae;obtain⟨kn,h6,ae⟩:=zl ae;obtain⟨g5,ae⟩:=gdE ae;obtain⟨kb,h7,ae⟩:=zl ae;exact yB qo (br.set (w64 (Int.tdiv k_ u0)).toNat (kn.set (Int.tmod k_ u0).toNat (z7.mk bf kb.r))) ae [Hn g4,Hn (iL YU h6),Hs (iM YU h6),Hn g5,Hs (iM YU h6),Hn (iL F9_ h7),Hs (iM YU h6),Hs (iM F9_ h7),Hs (iM YU h6),Hs (iM F9_ h7),Hs (iM YU h6),Hs (iM F9_ h7),Hl (sM F9_ kn (Int.tmod k_ u0) (z7.mk bf kb.r)),Hl (sM YU br (w64 (Int.tdiv k_ u0)) (kn.set (Int.tmod k_ u0).toNat (z7.mk bf kb.r)))]
    let Z1:List HO:=[Ha (lnM (eI .u8) x_.Tree)];obtain c4|c4:=zt ae
    ·obtain⟨qe,h8,ae⟩:=zl c4.2;obtain⟨g6,ae⟩:=gdE ae;obtain⟨oe,h9,ae⟩:=zl ae;exact yB pw oe ae (Z1++[c4,Hi (eI .u8) h8,Ha (lnM sZ free),Hn g6,Hn (iL sZ h9),Hs (iM sZ h9)])
    exact yB pw nr c4.2 (Z1++[c4])
   obtain⟨t12,ht12,ae⟩:=zl c3.2;refine yMx 1111121001201210 [J2,J8,J9,J10] [1,2,3,4,9,10,11] (λx=>[(10,.own (eOs 1 false sZ x.1)),(11,.d (I x.2))]) ht12 [(10,.own (eOs 1 true sZ [])),(11,.d (I 0))] [] λ⟨jq,aq⟩ sw dc ah hl2 sq sm=>?_;obtain c5|c5:=zt ah
   ·refine yNs 111112100120121001 [J2,J8,J9,J10,sq] [1,2,3,4,9,10,11] (zI (Yv aq) dc) (λz=>[(10,.own (eOs 1 false sZ z))]) [c5,Hh (.cut 0)] ?_ λJ13 hJ13=>?_
    ·rintro nu ah;cases ah;exact yB sm _ hl2 []
    obtain⟨g7,ah⟩:=gdE c5.2;obtain⟨pe,h10,ah⟩:=zl ah;obtain⟨g8,ah⟩:=gdE ah;obtain⟨nw,h11,ah⟩:=zl ah;let Z2:List HO:=[Hn g7,Hn (iL YU h10),Hs (iM YU h10),Hn g8,Hs (iM YU h10),Hn (iL F9_ h11),Hs (iM YU h10),Hs (iM F9_ h11),Hs (iM YU h10),Hs (iM F9_ h11)];obtain c6|c6:=zt ah
    ·obtain⟨g9,ah⟩:=gdE c6.2;exact yB hJ13 (jq++[aq]) ah (Z2++[c6,Hq (dM sZ [aq]),Hn (dM sZ [aq]),Hn (aL sZ sZ g9),Hl (aM sZ jq [aq])])
    exact yB hJ13 jq c6.2 (Z2++[c6])
   cases c5.2;cases hl2;exact yB hJ10 jq ae [c5]
  cases c3.2;cases hl1;exact yB ax br aa [c3]
 obtain⟨si,ht14,aa⟩:=zl aa;refine yMx 1111210 [J1] [1,2,3,4,5] (λx=>[(4,.own (.box (.agg [I u0,I u1,eOs 1 false YU x.1]))),(5,.d (I x.2))]) ht14 [(4,.own (.box (.agg [I u0,I u1,eOs 1 true YU []]))),(5,.d (I 0))] [] λ⟨dy,bl⟩ sx aw ae hl1 r8 sn=>?_;obtain c7|c7:=zt ae
 ·refine yNs 111121001 [J1,r8] [1,2,3,4,5] (zI (Vl bl) aw) (λz=>[(4,.own (.box (.agg [I u0,I u1,eOs 1 false YU z])))]) [c7,Hh (.cut 0)] ?_ λJ15 hJ15=>?_
  ·rintro ll ae;cases ae;exact yB sn _ hl1 []
  refine yNs 111121001201 [J1,r8,J15] [1,2,3,4,5,6] (zI (Vk dy bl) aw) (λz=>[(6,.own (eOs 2 false F9_ z))]) [Hh (.cut 1)] ?_ λJ16 hJ16=>?_
  ·rintro row ae;obtain⟨g10,ae⟩:=gdE ae;exact yB hJ15 (dy++[row]) ae [Hq (oC YU row []),Hn (aL YU YU g10),Hl (aM YU dy [row])]
  obtain⟨t17,ht17,ae⟩:=zl c7.2;refine yMx 111121001201210 [J1,r8,J15,J16] [1,2,3,4,5,6,7] (λx=>[(6,.own (eOs 2 false F9_ x.1)),(7,.d (I x.2))]) ht17 [(6,.own (eOs 2 true F9_ [])),(7,.d (I 0))] [] λ⟨db,fw⟩ m17 dc ah hl2 sy sp=>?_;obtain c8|c8:=zt ah
  ·obtain⟨ai,h12,ah⟩:=zl c8.2;obtain⟨g11,ah⟩:=gdE ah;obtain⟨g12,ah⟩:=gdE ah;obtain⟨g13,ah⟩:=gdE ah;cases ah;exact yB sp _ hl2 [c8,zC2 0 h12,Hn g11,Hn g12,Hq (dM F9_ ([(z7.mk (-1) (Int.tmod (w64 (Int.tdiv ai u2)) u1))]:List z7)),Hn (dM F9_ ([(z7.mk (-1) (Int.tmod (w64 (Int.tdiv ai u2)) u1))]:List z7)),Hn (aL F9_ F9_ g13),Hl (aM F9_ db ([(z7.mk (-1) (Int.tmod (w64 (Int.tdiv ai u2)) u1))]:List z7))]
  cases c8.2;cases hl2;exact yB hJ16 db ae [c8]
 cases c7.2;cases hl1;exact yB au dy aa [c7]
def zoA:List y4:=zjY 65 zK (eSl 1 false (eSl 1 false eB)) sZ sZ sZ Ui::zoB
def z5c [H:HS X0 zoB]:OkH zoA:=yS4 true func65 λm_ bi s_ t_ r0 aa E hE=>by
 refine yK 11 [] [] (λz:Unit=>Kc=some r0) (λz=>[]) [1,2,3,4] [Hh (.cut 1)] ?_ λJ1 au=>?_
 ·rintro⟨⟩ aa;cases aa;exact yE hE []
 refine yMb 11210 [J1] [1,2,3,4,9] (λx=>[(9,.d (I x))]) aa  [] λt2 aa i_ m2 aw ae hl1 J2 ax=>?_;obtain c0|c0:=zt ae
 ·refine yN 1121001 [J1,J2] [1,2,3,4,9,41,42,43,47,48,58] (λz:Int×Bool×Bool×Bool×Bool×Bool=>jK i_ z.1 z.2.1 z.2.2.1 z.2.2.2.1 z.2.2.2.2.1 z.2.2.2.2.2=some aw) (λz=>[(41,.d (I z.1)),(42,.d (B z.2.1)),(43,.d (B z.2.2.1)),(47,.d (B z.2.2.2.1)),(48,.d (B z.2.2.2.2.1)),(58,.d (B z.2.2.2.2.2))]) [1,2,3,4,9] [c0,Hh (.cut 0)] ?_ λJ3 bk=>?_
  ·rintro⟨rm,lk,mh,rn,ro,o7⟩ ae;cases ae;exact yB ax _ hl1 []
  obtain⟨al,h0,ak,h1,dp,h2,ar,h3,ae⟩:=z7L c0.2;let Z0:List HO:=[Hi y6 h0,Hi F9_ h1,Hi y6 h2,Hi F9_ h3];obtain c1|c1:=zt ae
  ·cases c1.2;cases hl1;cases aa;exact yE hE (Z0++(rpN 8 (Hb c1) [qT]))
  let Z1:List HO:=(Z0++(rpN 4 (Hb c1) []));obtain c2|c2:=zt c1.2
  ·let Z2:List HO:=(Z1++[c2,c2,c2,c1,c2,c1]);obtain c3|c3:=zt c2.2
   ·obtain⟨jb,h4,gb,h5,ae⟩:=zV c3.2;let Z3:List HO:=(Z2++(rpN 4 (Hb c3) (Hi (eSl 1 false eB) h4::(rpN 4 (Hb c3) [Hi eB h5,c3,c1,c3,c1]))));obtain c4|c4:=zt ae
    ·cases c4.2;cases hl1;cases aa;exact yE hE (Z3++[c4])
    exact yB bk (ak.o,decide (ak.o>=0),decide (ak.o>=0),decide (ar.o>=0),decide (ar.o>=0),gb) c4.2 (Z3++[c4])
   exact yB bk (ak.o,decide (ak.o>=0),decide (ak.o>=0),decide (ar.o>=0),decide (ar.o>=0),false) c3.2 (Z2++(rpN 9 (Hb c3) [c1,c3,c1,qF]))
  exact yB bk (ak.o,decide (ak.o>=0),decide (ak.o>=0),false,false,false) c2.2 (Z1++(Hb c2::Hb c2::Hb c2::Hb c1::Hb c2::Hb c1::(rpN 9 qF [c1,qF,c1,qF])))
 cases c0.2;cases hl1;exact yB au () aa [c0]
def zoz:List y4:=jV 44 zK sZ (eOs 1 false (eOs 1 true eB)) kO::zoA
def z3W [H:HS X0 zoA]:OkH zoz:=yS2 true func44 λm_ k_ r0 aa E hE=>by
 refine yNs 1111 [] [1,2,5,6] (zI (We m_ k_) r0) (λz=>[(6,.own (eOs 1 false (eOs 1 true eB) z))]) [Ha (lnM y6 m_.i),Hh (.cut 1)] ?_ λJ1 au=>?_
 ·rintro bi aa;refine yK 11111 [] [6] (zI Wc r0) (λz=>[(6,.own (eOs 1 false (eOs 1 true eB) z))]) [1,2,5,6] [Hh (.cut 0)] ?_ λJ2 ax=>?_
  ·rintro nc aa;cases aa;exact yE hE []
  refine yMb 11111210 [J2] [1,2,5,6,8] (λx=>[(6,.own (eOs 1 false (eOs 1 true eB) x.1)),(8,.d (I x.2))]) aa  [] λt3 aa ⟨co,round⟩ m3 aw ae hl1 J3 bk=>?_;obtain c0|c0:=zt ae
  ·refine yNs 1111121001 [J2,J3] [1,2,5,6,8] (zI (Wb round) aw) (λz=>[(6,.own (eOs 1 false (eOs 1 true eB) z))]) [c0,Hh (.cut 0)] ?_ λJ4 cx=>?_
   ·rintro ma ae;cases ae;exact yB bk _ hl1 []
   refine yN 1111121001201 [J2,J3,J4] [1,2,5,8,9] (zI (Wa round) aw) (λz=>[(9,.own (eOs 1 false (eOs 1 true eB) z))]) [1,2,5,6,8,9] [Hh (.cut 1)] ?_ λJ5 dh=>?_
   ·rintro next ae
    exact yB cx next ae []
   obtain⟨t6,kz,ae⟩:=zl c0.2;refine yMx 1111121001201210 [J2,J3,J4,J5] [1,2,5,6,8,9,10] (λx=>[(9,.own (eOs 1 false (eOs 1 true eB) x.1)),(10,.d (I x.2))]) kz [(9,.own (eOs 1 true (eOs 1 true eB) [])),(10,.d (I 0))] [Hh (.n 3 [6]),Hm (shM (eOs 1 true eB) (eSl 1 true eB) co)] λ⟨cr,s_⟩ m6 dc ah hl2 J6 fz=>?_;obtain c1|c1:=zt ah
   ·refine yNs 111112100120121001 [J2,J3,J4,J5,J6] [1,2,5,6,8,9,10] (zI (W9 s_) dc) (λz=>[(9,.own (eOs 1 false (eOs 1 true eB) z))]) [c1,Hh (.cut 0)] ?_ λJ7 j5=>?_
    ·rintro fm ah;cases ah;exact yB fz _ hl2 []
    obtain⟨g0,ah⟩:=gdE c1.2;obtain⟨g1,ah⟩:=gdE ah;refine yMb 11111210012012100120110 [J2,J3,J4,J5,J6,J7] [1,2,5,6,8,9,10,11] (λx=>[(9,.own (eOs 1 false (eOs 1 true eB) x.1)),(11,.d (I x.2))]) ah  [Hn (rL g0),Ha (rM 1 eB (m_.i.length:Int) false),Hq (oC (eOs 1 true eB) (List.replicate (m_.i.length:Int).toNat false) []),Hn (aL (eOs 1 true eB) (eOs 1 true eB) g1),Hl (aM (eOs 1 true eB) cr [(List.replicate (m_.i.length:Int).toNat false)])] λt8 ah ⟨cm,t_⟩ m8 oa a8 hl3 J8 mb=>?_;obtain c2|c2:=zt a8
    ·obtain⟨jd,h0,jb,h1,gb,h2,a8⟩:=ZK c2.2;let Z0:List HO:=[c2,Hn (iL (eOs 1 true eB) h0),Hs (iM (eOs 1 true eB) h0),Hi (eSl 1 true eB) h1,Hi eB h2];obtain c3|c3:=zt a8
     ·obtain⟨qp,h3,a8⟩:=zl c3.2;cases a8;exact yB mb _ hl3 (Z0++(rpN 7 (Hb c3) [Hs (iM (eOs 1 true eB) h0),Hn (iL eB h3),Hs (iM (eOs 1 true eB) h0),Hs (iM eB h3),Hs (iM (eOs 1 true eB) h0),Hs (iM eB h3),Hl (sM eB jd t_ true),Hl (sM (eOs 1 true eB) cm s_ (jd.set t_.toNat true))]))
     obtain⟨r_,h4,qg,h5,a8⟩:=zV c3.2;cases a8;exact yB mb _ hl3 (Z0++(rpN 5 (Hb c3) [Hk [] (z0r (hat 0)) (zf4 0 h4 (loC zK m_<|loC (eSl 1 false (eSl 1 true eB)) co<|loC sZ s_<|loC sZ t_<|loN)),c3,c3,Hs (iM (eOs 1 true eB) h0),Hn (iL eB h5),Hs (iM (eOs 1 true eB) h0),Hs (iM eB h5),Hs (iM (eOs 1 true eB) h0),Hs (iM eB h5),Hl (sM eB jd t_ (r_==1)),Hl (sM (eOs 1 true eB) cm s_ (jd.set t_.toNat (r_==1)))]))
    cases c2.2;cases hl3;exact yB j5 cm ah [c2]
   cases c1.2;cases hl2;exact yB dh cr ae [c1]
  cases c0.2;cases hl1;exact yB ax co aa [c0]
 obtain⟨t9,ht9,aa⟩:=zl aa;refine yMx 1111210 [J1] [1,2,5,6,7] (λx=>[(6,.own (eOs 1 false (eOs 1 true eB) x.1)),(7,.d (I x.2))]) ht9 [(6,.own (eOs 1 true (eOs 1 true eB) [])),(7,.d (I 0))] [] λ⟨jh,bf⟩ m9 aw ae hl1 J9 qo=>?_;obtain c4|c4:=zt ae
 ·obtain⟨g2,ae⟩:=gdE c4.2;obtain⟨g3,ae⟩:=gdE ae;cases ae;exact yB qo _ hl1 [c4,Hn (rL g2),Ha (rM 1 eB (m_.i.length:Int) false),Hq (oC (eOs 1 true eB) (List.replicate (m_.i.length:Int).toNat false) []),Hn (aL (eOs 1 true eB) (eOs 1 true eB) g3),Hl (aM (eOs 1 true eB) jh [(List.replicate (m_.i.length:Int).toNat false)])]
 cases c4.2;cases hl1;exact yB au jh aa [c4]
def zoy:List y4:=Y6 136 (eSl 1 false (eSl 1 false eB)) F6_ Zs::zoz
def z0X [H:HS X0 zoz]:OkH zoy:=yS1 true func136 λbi r0 aa E hE=>by
 refine yK 1111 [] [3] (zI WV r0) (λz=>[(3,.own (eOs 1 false sZ z))]) [0,3,4] [Hh (.cut 3)] ?_ λJ1 au=>?_
 ·rintro out aa;cases aa;exact yE hE []
 obtain⟨t2,ht2,aa⟩:=zl aa;refine yMx 1111210 [J1] [0,3,4,5] (λx=>[(3,.own (eOs 1 false sZ x.1)),(4,.d (I x.2.1)),(5,.d (I x.2.2))]) ht2 [(3,.own (eOs 1 true sZ [])),(4,.d (I 0)),(5,.d (I 0))] [] λ⟨aj,n_,s_⟩ m2 aw ae hl1 J2 ax=>?_;let Z0:List HO:=[Ha (lnM (eSl 1 false eB) bi)];obtain c0|c0:=zt ae
 ·refine yNs 111121001 [J1,J2] [0,3,4,5] (λz:TB×Int=>Zr s_ z.1 z.2=some aw) (λz=>[(3,.own (eOs 1 false sZ z.1)),(4,.d (I z.2))]) (Z0++[c0,Hh (.cut 0)]) ?_ λJ3 bk=>?_
  ·rintro⟨ay,cb⟩ ae;cases ae;exact yB ax _ hl1 []
  refine yNs 111121001201 [J1,J2,J3] [0,3,4,5,6] (zI (Zq aj n_ s_) aw) (λz=>[(6,.d (I z))]) [Hh (.cut 1)] ?_ λJ4 cx=>?_
  ·rintro b_ ae;refine yNs 1111210012011 [J1,J2,J3] [0,3,4,5,6] (λz:Int×Int=>vp aj s_ z.1 z.2=some aw) (λz=>[(4,.d (I z.1)),(6,.d (I z.2))]) [Hh (.cut 0)] ?_ λJ5 dh=>?_
   ·rintro⟨bz,j7⟩ ae;obtain⟨g0,ae⟩:=gdE ae;exact yB bk ((aj++[j7]),bz) ae [Hq (dM sZ [j7]),Hn (dM sZ [j7]),Hn (aL sZ sZ g0),Hl (aM sZ aj [j7])]
   obtain c1|c1:=zt ae
   ·exact yB dh (w64 (n_+1),n_) c1.2 [c1]
   exact yB dh (n_,b_) c1.2 [c1]
  refine yMb 111121001201210 [J1,J2,J3,J4] [0,3,4,5,6,7] (λx=>[(6,.d (I x.1)),(7,.d (I x.2))]) c0.2  [] λt6 ae ⟨oi,t_⟩ m6 dc ah hl2 J6 fz=>?_;obtain c2|c2:=zt ah
  ·refine yNs 11112100120121001 [J1,J2,J3,J4,J6] [0,3,4,5,6,7] (zI (uM t_) dc) (λz=>[(6,.d (I z))]) [c2,Hh (.cut 0)] ?_ λJ7 j5=>?_
   ·rintro qj ah;cases ah;exact yB fz _ hl2 []
   obtain⟨jb,h0,gb,h1,ah⟩:=zV c2.2;let Z1:List HO:=[Hi (eSl 1 false eB) h0,Hi eB h1];obtain c3|c3:=zt ah
   ·obtain⟨fx,h2,ah⟩:=zl c3.2;exact yB j5 fx ah (Z1++[c3,Hn (iL sZ h2),Hs (iM sZ h2)])
   exact yB j5 oi c3.2 (Z1++[c3])
  cases c2.2;cases hl2;exact yB cx oi ae [c2]
 cases c0.2;cases hl1;exact yB au aj aa (Z0++[c0])
def zox:List y4:=jV 103 zK sZ F6_ QX::zoy
def z3V [H:HS X0 zoy]:OkH zox:=yS2 true func103 λm_ k_ r0 aa E hE=>by obtain⟨r_,h0,ai,h1,aa⟩:=zV aa;cases aa;exact yE hE [zC2 1 h0,zg 0,Hm (shM (eOs 1 true eB) (eSl 1 true eB) r_),Hs (zf1 0 h1 (loC (eSl 1 false (eSl 1 true eB)) r_<|loN)),Hm (shM (eOs 1 true eB) (eSl 1 true eB) r_)]
def zow:List y4:=Y6 74 zK F6_ Zt::zox
def z2v [H:HS X0 zox]:OkH zow:=yS1 true func74 λm_ r0 aa E hE=>by obtain⟨r_,h0,aa⟩:=zl aa;cases aa;exact yE hE [Ha (lnM y6 m_.i),zC2 0 h0]
def zmY:List y4:=z0Q 113 zK sZ sZ F9_ JC::zow
def z6q [H:HS X0 zow]:OkH zmY:=yS3 false func113 λm_ s_ i_ r0 aa E hE=>by
 obtain c0|c0:=zt aa
 ·cases c0.2;exact yE hE [c0]
 obtain⟨al,h0,ak,h1,aa⟩:=zV c0.2;cases aa;exact yE hE [c0,Hi y6 h0,Hi F9_ h1]
def zov:List y4:=z0Q 115 zK sZ F5_ sZ Uq::zmY
def z01:∀(x y:z6×Int×TB),(λx=>[zK x.1,sZ x.2.1,F5_ x.2.2]) x=(λx=>[zK x.1,sZ x.2.1,F5_ x.2.2]) y->x=y:=zqH
def jU (mg:z6->Int->TB->Option Int):y4:=spF (α:=z6×Int×TB) (ρ:=Int) 115 (λx=>[zK x.1,sZ x.2.1,F5_ x.2.2]) (λr=>sZ r) (λx=>mg x.1 x.2.1 x.2.2) [] (by intro x y h;exact(congrArg (λ(p:z6×Int×TB)=>p) (show x=y from z01 x y h)))
def z2x (mg:z6->Int->TB->Option Int)[H:HS X0 (jU mg::zmY)]:(jU (Zv mg)).Ok prog:=by
 refine QF ?_;rintro⟨m_,s_,w_⟩ r0 aa;refine zY true func115 λE hE=>?_;obtain c0|c0:=zt aa
 ·cases c0.2;exact yE hE [Ha (lnM sZ w_),c0]
 obtain⟨ge,h0,r_,h1,aa⟩:=zV c0.2;obtain⟨g0,aa⟩:=gdE aa;obtain⟨ai,h2,aa⟩:=zl aa;cases aa;exact yE (H:=zx ((zqp zn zjc).or X0)) hE [Ha (lnM sZ w_),c0,Hi sZ h0,zC3 1 h1,Hn (slA g0),Hn (zlv sZ g0),Ha (slE 1 false sZ w_ (1:Int).toNat),Hc (hat 0 (s:=jU mg)) (x:=(m_,r_.o,(w_.drop (1:Int).toNat))) h2 (loC zK m_<|loC sZ r_.o<|loC F5_ (w_.drop (1:Int).toNat)<|loN)]
def z5f [H:HS X0 zmY]:OkH zov:=by
 have H:∀n,(jU (Zu n)).Ok prog:=by
  intro n;induction n with
  |zero=>exact QF λ_ _ h=>nomatch (show none=some _ from h)
  |succ n ih=>exact z2x _ (H:=za _ ih)
 exact zO3 λa b c r h=>zbu (x:=(a,b,c)) (H _) h
def zou:List y4:=jV 114 F5_ sZ F6_ VB::zov
def z6n [H:HS X0 zov]:OkH zou:=yS2 true func114 λw_ inputs r0 aa E hE=>by
 obtain⟨g0,aa⟩:=gdE aa;refine yK 111 [] [5] (zI Xl r0) (λz=>[(5,.own (eOs 1 false sZ z))]) [1,5] [Hn (dM sZ w_),Hn (aL sZ sZ g0),Hl (aM0 sZ w_),Hh (.cut 0)] ?_ λJ1 au=>?_
 ·rintro out aa;obtain⟨g1,aa⟩:=gdE aa;cases aa;exact yE hE [Hq (dM sZ ([0]:TB)),Hn (dM sZ ([0]:TB)),Hn (aL sZ sZ g1),Hl (aM sZ out ([0]:TB))]
 refine yMb 111210 [J1] [1,5,6] (λx=>[(5,.own (eOs 1 false sZ x.1)),(6,.d (I x.2))]) aa  [Ha (lnM sZ w_)] λt2 aa ⟨aj,k_⟩ m2 aw ae hl1 J2 ax=>?_;obtain c0|c0:=zt ae
 ·obtain⟨fx,h0,ae⟩:=zl c0.2;let Z0:List HO:=[c0,Hn (iL sZ h0),Hs (iM sZ h0)];obtain c1|c1:=zt ae
  ·obtain⟨lc,h1,rp,h2,ae⟩:=zV c1.2;cases ae;cases hl1;cases aa;exact yE hE (Z0++[c1,Hn (iL sZ h1),Hs (iM sZ h1),Hn (iL sZ h2),Hs (iM sZ h2),Hs (iM sZ h2),Hl (sM sZ aj k_ (w64 (lc+1)))])
  obtain⟨rq,h3,ae⟩:=zl c1.2;cases ae;exact yB ax _ hl1 (Z0++[c1,Hn (iL sZ h3),Hs (iM sZ h3),Hs (iM sZ h3),Hl (sM sZ aj k_ 0)])
 cases c0.2;cases hl1;exact yB au aj aa [c0]
def zot:List y4:=jV 85 zK sZ (eT2 z4T (eSl 1 true eB)) Ul::zou
def z6b:XH prog:=((XM zn (.inr 48) [8]).or X0)
def z5d [H:HS z6b zou]:OkH zot:=yS2 false func85 λm_ from_ r0 aa E hE=>by
 obtain⟨g0,aa⟩:=gdE aa;obtain⟨g1,aa⟩:=gdE aa;refine yK 1111 [] [6,7] (λz:TA×List Bool=>Vc z.1 z.2=some r0) (λz=>[(6,.own (eOs 1 true F5_ z.1)),(7,.own (eOs 1 true eB z.2))]) [1,2,6,7] [Ha (lnM y6 m_.i),Hn (rL g0),Ha (rM 1 F2_ (m_.i.length:Int) ([]:TB)),Hh (.v 0 [6]),Hm (shM F2_ F3_ (List.replicate (m_.i.length:Int).toNat ([]:TB))),Ha (lnM y6 m_.i),Hn (rL g1),Ha (rM 1 eB (m_.i.length:Int) false),Hh (.cut 0)] ?_ λJ1 au=>?_
 ·rintro⟨l_,is⟩ aa;cases aa;exact yE hE [Hm (shM F5_ F5_ l_),Hm (shM eB eB is)]
 obtain⟨t2,ht2,aa⟩:=zl aa;refine yMx 1111210 [J1] [1,2,6,7,8] (λx=>[(6,.own (eOs 1 true F5_ x.1)),(7,.own (eOs 1 true eB x.2.1)),(8,.own (eOs 1 false sZ x.2.2))]) ht2 [(6,.own (eOs 1 true F3_ (List.replicate (m_.i.length:Int).toNat ([]:TB)))),(7,.own (eOs 1 true eB (List.replicate (m_.i.length:Int).toNat false))),(8,.own (eOs 1 true sZ []))] [] λ⟨fq,gp,w_⟩ m2 aw ae hl1 J2 ax=>?_;let Z0:List HO:=[Ha (lnM sZ w_),Ha (lnM y6 m_.i)];obtain c0|c0:=zt ae
 ·refine yNs 111121001 [J1,J2] [1,2,6,7,8] (λz:TA×List Bool=>uC m_ w_ z.1 z.2=some aw) (λz=>[(6,.own (eOs 1 true F5_ z.1)),(7,.own (eOs 1 true eB z.2))]) (Z0++[c0,Hh (.n 1 [8]),Hm (shM sZ sZ w_),Hh (.cut 0)]) ?_ λJ3 bk=>?_
  ·rintro⟨la,qm⟩ ae;obtain⟨r_,h0,ae⟩:=zl ae;cases ae;exact yB ax _ hl1 [zC2 0 h0]
  obtain⟨ai,h1,ae⟩:=zl c0.2;let Z1:List HO:=[zC3 1 h1];obtain c1|c1:=zt ae
  ·obtain⟨pq,h2,ae⟩:=zl c1.2;let Z2:List HO:=(Z1++[c1,c1,c1,Hn (iL eB h2),c1,Hs (iM eB h2),c1,c1]);obtain c2|c2:=zt ae
   ·obtain⟨sb,h3,cq,h4,ae⟩:=zV c2.2;exact yB bk ((fq.set ai.toNat w_),(gp.set ai.toNat true)) ae (Z2++[c2,Hn (iL eB h3),Hs (iM eB h3),Hs (iM eB h3),Hl (sM eB gp ai true),Hn (iL F5_ h4),Hs (iM F5_ h4),Hs (iM F5_ h4),Hl (sM F5_ fq ai w_)])
   exact yB bk (fq,gp) c2.2 (Z2++[c2])
  exact yB bk (fq,gp) c1.2 (Z1++(rpN 6 (Hb c1) [qF]))
 cases c0.2;cases hl1;exact yB au (fq,gp) aa (Z0++[c0])
def zos:List y4:=Y6 58 zK (eT2 z4T (eSl 1 true eB)) WW::zot
def z3X [H:HS X0 zot]:OkH zos:=yS1 false func58 λm_ r0 aa E hE=>by obtain⟨r_,h0,aa⟩:=zl aa;cases aa;exact yE hE [zC2 0 h0]
def zor:List y4:=jV 104 F5_ F5_ sZ JB::zos
def z6o [H:HS X0 zos]:OkH zor:=yS2 true func104 λa_ b_ r0 aa E hE=>by
 let Z0:List HO:=[Ha (lnM sZ a_),Ha (lnM sZ b_)];obtain c0|c0:=zt aa
 ·let Z1:List HO:=(Z0++[c0,Ha (lnM sZ a_),Ha (lnM sZ b_)]);obtain c1|c1:=zt c0.2
  ·cases c1.2;exact yE hE (Z1++[c1])
  cases c1.2;exact yE hE (Z1++[c1])
 refine yK 111 [] [] (λz:Unit=>z0c=some r0) (λz=>[]) [0,1] (Z0++[c0,Hh (.cut 0)]) ?_ λJ1 au=>?_
 ·rintro⟨⟩ aa;cases aa;exact yE hE []
 refine yMb 111210 [J1] [0,1,5] (λx=>[(5,.d (I x))]) c0.2  [] λt2 aa i_ m2 aw ae hl1 J2 ax=>?_;obtain c2|c2:=zt ae
 ·obtain⟨ie,h0,gf,h1,ae⟩:=zV c2.2;let Z2:List HO:=[Ha (lnM sZ a_),c2,Hi sZ h0,Hi sZ h1];obtain c3|c3:=zt ae
  ·obtain⟨ny,h2,nz,h3,ae⟩:=zV c3.2;let Z3:List HO:=(Z2++[c3,Hi sZ h2,Hi sZ h3]);obtain c4|c4:=zt ae
   ·cases c4.2;cases hl1;cases aa;exact yE hE (Z3++[c4])
   cases c4.2;cases hl1;cases aa;exact yE hE (Z3++[c4])
  cases c3.2;exact yB ax _ hl1 (Z2++[c3])
 cases c2.2;cases hl1;exact yB au () aa [Ha (lnM sZ a_),c2]
def zoq:List y4:=Y6 75 zK F6_ Um::zor
abbrev z1v (out:TB):List (Nat×T):=[(5,.own (eOs 1 false sZ out))]
abbrev z1u (r_:TA×List Bool)(s_:Int)(ay:TB):List (Nat×T):=[(3,.d (eSl 1 true F5_ r_.1)),(4,.d (eSl 1 true eB r_.2)),(5,.own (eOs 1 false sZ ay)),(6,.d (I s_))]
abbrev z1t (r_:TA×List Bool)(aj:TB)(s_:Int)(k_:Int):List (Nat×T):=[(3,.d (eSl 1 true F5_ r_.1)),(4,.d (eSl 1 true eB r_.2)),(5,.own (eOs 1 false sZ aj)),(6,.d (I s_)),(7,.d (I k_))]
abbrev z1r (r_:TA×List Bool)(aj:TB)(s_:Int)(aq:Int):List (Nat×T):=[(3,.d (eSl 1 true F5_ r_.1)),(4,.d (eSl 1 true eB r_.2)),(5,.own (eOs 1 false sZ aj)),(6,.d (I s_)),(7,.d (I aq))]
abbrev z1s (r_:TA×List Bool)(aj:TB)(s_:Int):List (Nat×T):=[(3,.d (eSl 1 true F5_ r_.1)),(4,.d (eSl 1 true eB r_.2)),(5,.own (eOs 1 false sZ aj)),(6,.d (I s_))]
def z6c:XH prog:=((XM zn (.inl 49) []).or ((XM zn (.inl 47) [5]).or X0))
def z5e [H:HS z6c zor]:OkH zoq:=yS1 true func75 λm_ r0 aa E hE=>by
 obtain⟨r_,h0,aa⟩:=zl aa;refine yJ 1111 [] [5] (λz:TB=>Vd z=some r0) (λz=>z1v z) [(3,.d (eSl 1 true F5_ r_.1)),(4,.d (eSl 1 true eB r_.2)),(5,.own (eOs 1 true sZ []))] [zC1 1 h0,Hh (.cut 1)] ?_ λJ1 au=>?_
 ·rintro out aa;unfold Vd at aa;obtain rfl:=zZ aa;exact yE hE []
 obtain⟨t2,ht2,aa⟩:=zl aa;refine yLx 1111210 [J1] (λs=>jM r_ s.1 s.2) (λx=>z1s r_ x.1 x.2) (([]:TB),0) ht2 [(3,.d (eSl 1 true F5_ r_.1)),(4,.d (eSl 1 true eB r_.2)),(5,.own (eOs 1 true sZ [])),(6,.d (I 0))] inferInstance [] λ⟨aj,s_⟩ m2 aw ae hl1 J2 ax=>?_;try unfold jM at ae
 let Z0:List HO:=[Ha (lnM F5_ r_.1)];obtain c0|c0:=zt ae
 ·refine yJ 111121001 [J1,J2] [3,4,5,6] (λz:TB=>uD s_ z=some aw) (λz=>z1u r_ s_ z) [(3,.d (eSl 1 true F5_ r_.1)),(4,.d (eSl 1 true eB r_.2)),(5,.own (eOs 1 false sZ aj)),(6,.d (I s_))] (Z0++[c0,Hh (.cut 0)]) ?_ λJ3 bk=>?_
  ·rintro ay ae;unfold uD at ae;obtain rfl:=zZ ae;exact yB ax _ hl1 []
  obtain⟨u_,h1,ae⟩:=zl c0.2;obtain c1|c1:=zt ae
  ·exact yB bk aj c1.2 [Hi eB h1,c1]
  refine yJ 1111210012011 [J1,J2,J3] [3,4,5,6,7] (λz:Int=>Yo aj s_ z=some aw) (λz=>z1t r_ aj s_ z) [(3,.d (eSl 1 true F5_ r_.1)),(4,.d (eSl 1 true eB r_.2)),(5,.own (eOs 1 false sZ aj)),(6,.d (I s_)),(7,.d (I 0))] [Hi eB h1,c1,Hh (.cut 1)] ?_ λJ4 cx=>?_
  ·rintro k_ ae;unfold Yo at ae;obtain⟨g0,ae⟩:=gdE ae;obtain⟨g1,ae⟩:=gdE ae;obtain⟨g2,ae⟩:=gdE ae;obtain⟨g3,ae⟩:=gdE ae;obtain⟨g4,ae⟩:=gdE ae;exact yB bk ((((aj.drop 0).take (k_.toNat-0))++[s_])++(aj.drop k_.toNat)) ae [Hm (shM sZ sZ aj),Hn (slB g0),Hn (znB sZ g0),Ha (slM 1 false sZ aj 0 k_.toNat),Hn (dM sZ ((aj.drop 0).take (k_.toNat-0))),Hn (aL sZ sZ g1),Hl (aM0 sZ ((aj.drop 0).take (k_.toNat-0))),Hq (dM sZ [s_]),Hn (dM sZ [s_]),Hn (aL sZ sZ g2),Hl (aM sZ ((aj.drop 0).take (k_.toNat-0)) [s_]),Hn (slA g3),Hn (zlv sZ g3),Ha (slE 1 false sZ aj k_.toNat),Hn (dM sZ (aj.drop k_.toNat)),Hn (aL sZ sZ g4),Hl (aM sZ (((aj.drop 0).take (k_.toNat-0))++[s_]) (aj.drop k_.toNat))]
  obtain⟨t5,ht5,ae⟩:=zl c1.2;refine yL 111121001201120 [J1,J2,J3,J4] (λs=>jL r_ aj s_ s) (λx=>z1r r_ aj s_ x) 0 ht5  [] λaq m5 dc ah hl2 J5 dh=>?_;try unfold jL at ah;obtain c2|c2:=zt ah
  ·obtain⟨fx,h2,qq,h3,qr,h4,ai,h5,ah⟩:=z7L c2.2;let Z1:List HO:=(Ha (lnM sZ aj)::(rpN 4 (Hb c2) (Hn (iL sZ h2)::Hb c2::Hs (iM sZ h2)::Hb c2::Hi F5_ h3::(rpN 4 (Hb c2) [Hi F5_ h4,c2,c2,zC2 0 h5,c2,c2]))));obtain c3|c3:=zt ah
   ·obtain rfl:=zZ c3.2;exact yB dh _ hl2 (Z1++[c3])
   obtain rfl:=zZ c3.2;obtain rfl:=hl2;exact yB cx aq ae (Z1++[c3])
  obtain rfl:=zZ c2.2;obtain rfl:=hl2;exact yB cx aq ae (Ha (lnM sZ aj)::(rpN 14 (Hb c2) [qF]))
 obtain rfl:=zZ c0.2;obtain rfl:=hl1;exact yB au aj aa (Z0++[c0])
def zop:List y4:=Y6 48 zK F6_ kN::zoq
def z3U [H:HS X0 zoq]:OkH zop:=yS1 true func48 λm_ r0 aa E hE=>by
 obtain⟨r_,h0,ai,h1,aa⟩:=zV aa;refine yK 11111 [] [5] (zI W8 r0) (λz=>[(5,.own (eOs 1 false sZ z))]) [3,4,5] [zC1 7 h0,zC1 0 h1,Hh (.cut 1)] ?_ λJ1 au=>?_
 ·rintro out aa;cases aa;exact yE hE []
 obtain⟨t2,ht2,aa⟩:=zl aa;refine yMx 11111210 [J1] [3,4,5,6] (λx=>[(5,.own (eOs 1 false sZ x.1)),(6,.d (I x.2))]) ht2 [(5,.own (eOs 1 true sZ [])),(6,.d (I 0))] [] λ⟨aj,k_⟩ m2 aw ae hl1 J2 ax=>?_;obtain c0|c0:=zt ae
 ·refine yNs 1111121001 [J1,J2] [3,4,5,6] (zI (qD k_) aw) (λz=>[(5,.own (eOs 1 false sZ z))]) [Ha (lnM sZ ai),c0,Hh (.cut 0)] ?_ λJ3 bk=>?_
  ·rintro ay ae;cases ae;exact yB ax _ hl1 []
  refine yNs 1111121001201 [J1,J2,J3] [3,4,5,6,7] (zI (W7 ai aj k_) aw) (λz=>[(7,.d (I z))]) [Hh (.cut 1)] ?_ λJ4 cx=>?_
  ·rintro there ae;obtain c1|c1:=zt ae
   ·obtain⟨dx,h2,ae⟩:=zl c1.2;obtain⟨g0,ae⟩:=gdE ae;exact yB bk (aj++[dx]) ae [c1,Hn (iL sZ h2),Hs (iM sZ h2),Hq (dM sZ [dx]),Hn (dM sZ [dx]),Hn (aL sZ sZ g0),Hl (aM sZ aj [dx])]
   exact yB bk aj c1.2 [c1]
  refine yMb 1111121001201210 [J1,J2,J3,J4] [3,4,5,6,7,8] (λx=>[(7,.d (I x.1)),(8,.d (I x.2))]) c0.2  [] λt5 ae ⟨ft,n_⟩ m5 dc ah hl2 J5 dh=>?_;obtain c2|c2:=zt ah
  ·refine yNs 111112100120121001 [J1,J2,J3,J4,J5] [3,4,5,6,7,8] (zI (Zo n_) dc) (λz=>[(7,.d (I z))]) [c2,Hh (.cut 0)] ?_ λJ6 fz=>?_
   ·rintro my ah;cases ah;exact yB dh _ hl2 []
   obtain⟨jr,h3,n7,h4,n8,h5,qt,h6,ah⟩:=z7L c2.2;let Z0:List HO:=[Hn (iL sZ h3),Hs (iM sZ h3),Hn (iL sZ h4),Hs (iM sZ h4),Hn (iL sZ h5),Hs (iM sZ h5),Hn (iL sZ h6),Hs (iM sZ h6)];obtain c3|c3:=zt ah
   ·exact yB fz 1 c3.2 (Z0++[c3])
   exact yB fz ft c3.2 (Z0++[c3])
  cases c2.2;cases hl2;exact yB cx ft ae [c2]
 cases c0.2;cases hl1;exact yB au aj aa [Ha (lnM sZ ai),c0]
def zoo:List y4:=jV 76 zK sZ (eOs 1 true eB) Xm::zop
def z2w [H:HS X0 zop]:OkH zoo:=yS2 true func76 λm_ from_ r0 aa E hE=>by
 obtain⟨g0,aa⟩:=gdE aa;obtain⟨l5,h0,aa⟩:=zl aa;refine yK 1111 [] [5] (zI Xa r0) (λz=>[(5,.own (eOs 1 true eB z))]) [2,5] [Ha (lnM y6 m_.i),Hn (rL g0),Ha (rM 1 eB (m_.i.length:Int) false),Hn (iL eB h0),Hs (iM eB h0),Hs (iM eB h0),Hl (sM eB (List.replicate (m_.i.length:Int).toNat false) from_ true),Hh (.cut 0)] ?_ λJ1 au=>?_
 ·rintro out aa;cases aa;exact yE hE []
 refine yMb 1111210 [J1] [2,5,6] (λx=>[(5,.own (eOs 1 true eB x.1)),(6,.d (I x.2))]) aa  [] λt2 aa ⟨aj,round⟩ m2 aw ae hl1 J2 ax=>?_;let Z0:List HO:=[Ha (lnM y6 m_.i)];obtain c0|c0:=zt ae
 ·refine yNs 111121001 [J1,J2] [2,5,6] (zI (X9 round) aw) (λz=>[(5,.own (eOs 1 true eB z))]) (Z0++[c0,Hh (.cut 0)]) ?_ λJ3 bk=>?_
  ·rintro ay ae;cases ae;exact yB ax _ hl1 []
  refine yMb 1111210012010 [J1,J2,J3] [2,5,6,7] (λx=>[(5,.own (eOs 1 true eB x.1)),(7,.d (I x.2))]) c0.2  [] λt4 ae ⟨cu,s_⟩ m4 dc ah hl2 J4 cx=>?_;let Z1:List HO:=[Ha (lnM y6 m_.i)];obtain c1|c1:=zt ah
  ·refine yNs 111121001201001 [J1,J2,J3,J4] [2,5,6,7] (zI (X8 s_) dc) (λz=>[(5,.own (eOs 1 true eB z))]) (Z1++[c1,Hh (.cut 0)]) ?_ λJ5 dh=>?_
   ·rintro im ah;cases ah;exact yB cx _ hl2 []
   refine yMb 1111210012010012010 [J1,J2,J3,J4,J5] [2,5,6,7,8] (λx=>[(5,.own (eOs 1 true eB x.1)),(8,.d (I x.2))]) c1.2  [] λt6 ah ⟨jt,i_⟩ m6 oa a8 hl3 J6 fz=>?_;obtain c2|c2:=zt a8
   ·refine yNs 111121001201001201001 [J1,J2,J3,J4,J5,J6] [2,5,6,7,8] (zI (uz i_) oa) (λz=>[(5,.own (eOs 1 true eB z))]) [c2,Hh (.cut 0)] ?_ λJ7 j5=>?_
    ·rintro pf a8;cases a8;exact yB fz _ hl3 []
    obtain⟨al,h1,ak,h2,fx,h3,a8⟩:=ZK c2.2;let Z2:List HO:=[Hi y6 h1,Hi F9_ h2,Hn (iL eB h3),Hs (iM eB h3)];obtain c3|c3:=zt a8
    ·obtain c4|c4:=zt c3.2
     ·obtain⟨lc,h4,a8⟩:=zl c4.2;exact yB j5 (jt.set ak.o.toNat true) a8 (Z2++[c3,c3,c3,c4,Hn (iL eB h4),Hs (iM eB h4),Hs (iM eB h4),Hl (sM eB jt ak.o true)])
     exact yB j5 jt c4.2 (Z2++[c3,c3,c3,c4])
    exact yB j5 jt c3.2 (Z2++[c3,c3,c3,qF])
   cases c2.2;cases hl3;exact yB dh jt ah [c2]
  cases c1.2;cases hl2;exact yB bk cu ae (Z1++[c1])
 cases c0.2;cases hl1;exact yB au aj aa (Z0++[c0])
def zon:List y4:=Y6 49 zK F6_ z0b::zoo
def z85 [H:HS X0 zoo]:OkH zon:=yS1 true func49 λm_ r0 aa E hE=>by
 obtain⟨r_,h0,ai,h1,am,h2,aa⟩:=ZK aa;refine yK 111111 [] [6] (zI QU r0) (λz=>[(6,.own (eOs 1 false sZ z))]) [3,4,5,6] [zC1 9 h0,zC1 1 h1,zC2 0 h2,Hh (.cut 1)] ?_ λJ1 au=>?_
 ·rintro out aa;cases aa;exact yE hE []
 obtain⟨t2,ht2,aa⟩:=zl aa;refine yMx 111111210 [J1] [3,4,5,6,7] (λx=>[(6,.own (eOs 1 false sZ x.1)),(7,.d (I x.2))]) ht2 [(6,.own (eOs 1 true sZ [])),(7,.d (I 0))] [] λ⟨aj,s_⟩ m2 aw ae hl1 J2 ax=>?_;obtain c0|c0:=zt ae
 ·refine yNs 11111121001 [J1,J2] [3,4,5,6,7] (zI (QT s_) aw) (λz=>[(6,.own (eOs 1 false sZ z))]) [Ha (lnM sZ r_),c0,Hh (.cut 0)] ?_ λJ3 bk=>?_
  ·rintro ay ae;cases ae;exact yB ax _ hl1 []
  refine yNs 11111121001201 [J1,J2,J3] [3,4,5,6,7,8] (zI (QS aj s_) aw) (λz=>[(8,.d (I z))]) [Hh (.cut 1)] ?_ λJ4 cx=>?_
  ·rintro k_ ae;obtain⟨g0,ae⟩:=gdE ae;exact yB bk (aj++[k_]) ae [Hq (dM sZ [k_]),Hn (dM sZ [k_]),Hn (aL sZ sZ g0),Hl (aM sZ aj [k_])]
  refine yMb 11111121001201210 [J1,J2,J3,J4] [3,4,5,6,7,8,9] (λx=>[(8,.d (I x.1)),(9,.d (I x.2))]) c0.2  [] λt5 ae ⟨aq,n_⟩ m5 dc ah hl2 J5 dh=>?_;obtain c1|c1:=zt ah
  ·refine yNs 1111112100120121001 [J1,J2,J3,J4,J5] [3,4,5,6,7,8,9] (zI (YK n_) dc) (λz=>[(8,.d (I z))]) [Ha (lnM sZ ai),c1,Hh (.cut 0)] ?_ λJ6 fz=>?_
   ·rintro jw ah;cases ah;exact yB dh _ hl2 []
   obtain⟨dx,h3,ah⟩:=zl c1.2;let Z0:List HO:=[Hn (iL eB h3),Hs (iM eB h3)];obtain c2|c2:=zt ah
   ·obtain⟨jr,h4,n7,h5,n8,h6,ah⟩:=ZK c2.2;let Z1:List HO:=(Z0++(rpN 4 (Hb c2) [Hn (iL sZ h4),c2,Hs (iM sZ h4),c2,Hn (iL sZ h5),c2,Hs (iM sZ h5),c2,c2,c2,Hn (iL sZ h6),c2,Hs (iM sZ h6),c2,c2]));obtain c3|c3:=zt ah
    ·exact yB fz n_ c3.2 (Z1++[c3])
    exact yB fz aq c3.2 (Z1++[c3])
   exact yB fz aq c2.2 (Z0++(rpN 13 (Hb c2) [qF]))
  cases c1.2;cases hl2;exact yB cx aq ae [Ha (lnM sZ ai),c1]
 cases c0.2;cases hl1;exact yB au aj aa [Ha (lnM sZ r_),c0]
def zom:List y4:=Y6 24 zK zK Xk::zon
def z2u [H:HS X0 zon]:OkH zom:=yS1 false func24 λm_ r0 aa E hE=>by
 obtain⟨r_,h0,ai,h1,aa⟩:=zV aa;refine yN 11111 [] [2,5] (zI (X5 m_) r0) (λz=>[(5,.own (.box (.agg [I m_.j,I m_.m,eOs 1 false YU z])))]) [1,2,3,4,5] [zC1 2 h0,zC1 0 h1,Hh (.cut 1)] ?_ λJ1 au=>?_
 ·rintro gu aa;cases aa;exact yE hE [Hm (shM YU y6 gu)]
 obtain⟨t2,ht2,aa⟩:=zl aa;refine yMx 11111210 [J1] [1,2,3,4,5,6] (λx=>[(5,.own (.box (.agg [I m_.j,I m_.m,eOs 1 false YU x.1]))),(6,.d (I x.2))]) ht2 [(5,.own (.box (.agg [I m_.j,I m_.m,eOs 1 true YU []]))),(6,.d (I 0))] [] λ⟨bj,k_⟩ m2 aw ae hl1 J2 ax=>?_;obtain c0|c0:=zt ae
 ·refine yNs 1111121001 [J1,J2] [1,2,3,4,5,6] (zI (X4 k_) aw) (λz=>[(5,.own (.box (.agg [I m_.j,I m_.m,eOs 1 false YU z])))]) [Ha (lnM sZ r_),c0,Hh (.cut 0)] ?_ λJ3 bk=>?_
  ·rintro ky ae;cases ae;exact yB ax _ hl1 []
  refine yNs 1111121001201 [J1,J2,J3] [1,2,3,4,5,6,7] (zI (X3 bj k_) aw) (λz=>[(7,.own (eOs 2 false F9_ z))]) [Hh (.cut 1)] ?_ λJ4 cx=>?_
  ·rintro row ae;obtain⟨g0,ae⟩:=gdE ae;exact yB bk (bj++[row]) ae [Hq (oC YU row []),Hn (aL YU YU g0),Hl (aM YU bj [row])]
  obtain⟨t5,ht5,ae⟩:=zl c0.2;refine yMx 1111121001201210 [J1,J2,J3,J4] [1,2,3,4,5,6,7,8] (λx=>[(7,.own (eOs 2 false F9_ x.1)),(8,.d (I x.2))]) ht5 [(7,.own (eOs 2 true F9_ [])),(8,.d (I 0))] [] λ⟨db,i_⟩ m5 dc ah hl2 J5 dh=>?_;obtain c1|c1:=zt ah
  ·obtain⟨dx,h2,al,h3,ak,h4,ah⟩:=ZK c1.2;refine yNs 111112100120121001001 [J1,J2,J3,J4,J5] [1,2,3,4,5,6,7,8,9] (zI (uw db i_ ak) dc) (λz=>[(9,.own (.box (.agg [I z,I ak.r])))]) [c1,Hn (iL sZ h2),Hs (iM sZ h2),Hi y6 h3,Hi F9_ h4,Hh (.cut 0)] ?_ λJ6 fz=>?_
   ·rintro gj ah;obtain⟨g1,ah⟩:=gdE ah;cases ah;exact yB dh _ hl2 [Hq (dM F9_ [(z7.mk gj ak.r)]),Hn (dM F9_ [(z7.mk gj ak.r)]),Hn (aL F9_ F9_ g1),Hl (aM F9_ db [(z7.mk gj ak.r)])]
   obtain c2|c2:=zt ah
   ·obtain⟨jr,h5,ah⟩:=zl c2.2;exact yB fz jr ah [c2,Hn (iL sZ h5),Hs (iM sZ h5)]
   exact yB fz ak.o c2.2 [c2]
  cases c1.2;cases hl2;exact yB cx db ae [c1]
 cases c0.2;cases hl1;exact yB au bj aa [Ha (lnM sZ r_),c0]
def zol:List y4:=Y6 6 (ZI zpa) zK JN::zom
def z6s [H:HS X0 zom]:OkH zol:=yS1 false func6 λx_ r0 aa E hE=>by obtain⟨g0,aa⟩:=gdE aa;obtain⟨r_,h0,ai,h1,aa⟩:=zV aa;cases aa;exact yE hE [Hn g0,zC1 16 h0,zC1 0 h1]
def zok:List y4:=jV 14 zK sZ sZ WR::zol
def z3R [H:HS X0 zol]:OkH zok:=yS2 true func14 λm_ states r0 aa E hE=>by
 obtain c0|c0:=zt aa
 ·cases c0.2;exact yE hE [c0]
 refine yK 1111 [] [5] (zI QM r0) (λz=>[(5,.d (I z))]) [1,2,5] [c0,Hh (.cut 1)] ?_ λJ1 au=>?_
 ·rintro n_ aa;cases aa;exact yE hE []
 refine yMb 1111210 [J1] [1,2,5,6] (λx=>[(5,.d (I x.1)),(6,.d (I x.2))]) c0.2  [] λt2 aa ⟨cb,i_⟩ m2 aw ae hl1 J2 ax=>?_;obtain c1|c1:=zt ae
 ·cases c1.2;exact yB ax _ hl1 [c1]
 cases c1.2;cases hl1;exact yB au cb aa [c1]
def zoj:List y4:=jV 7 zK (eI .u8) sZ V0::zok
abbrev z0L (s_:Int):List (Nat×T):=[(5,.d (I s_))]
abbrev z0K (m_:z6)(bf:Int):List (Nat×T):=[(2,.own (.box (zK m_))),(5,.d (I bf))]
def z40 [H:HS X0 zok]:OkH zoj:=yS2 true func7 λm_ n_ r0 aa E hE=>by
 obtain⟨g0,aa⟩:=gdE aa;refine yJ 111 [] [5] (λz:Int=>Wm z=some r0) (λz=>z0L z) [(2,.own (.box (zK m_))),(5,.d (I (w64 (1+(w64 (Int.tmod n_ 3))))))] [Hn g0,Hh (.cut 2)] ?_ λJ1 au=>?_
 ·rintro s_ aa;unfold Wm at aa;obtain rfl:=zZ aa;exact yE hE []
 obtain⟨t2,ht2,aa⟩:=zl aa;refine yL 11120 [J1] (λs=>ZA m_ s) (λx=>z0K m_ x) (w64 (1+(w64 (Int.tmod n_ 3)))) ht2  [] λbf m2 aw ae hl1 J2 ax=>?_;try unfold ZA at ae;obtain c0|c0:=zt ae
 ·obtain⟨r_,h0,ae⟩:=zl c0.2;let Z0:List HO:=[c0,c0,c0,zC2 0 h0,c0,c0];obtain c1|c1:=zt ae
  ·obtain rfl:=zZ c1.2;exact yB ax _ hl1 (Z0++[c1])
  obtain rfl:=zZ c1.2;obtain rfl:=hl1;exact yB au bf aa (Z0++[c1])
 obtain rfl:=zZ c0.2;obtain rfl:=hl1;exact yB au bf aa (rpN 5 (Hb c0) [qF])
def zoi:List y4:=z0Q 19 zK sZ sZ (eT2 Ju sZ) KZ::zoj
def z83 [H:HS X0 zoj]:OkH zoi:=yS3 false func19 λm_ ZO fc r0 aa E hE=>by obtain⟨r_,h0,aa⟩:=zl aa;cases aa;exact yE (H:=zx ((zmP prog 9 82 underlying82).or X0)) hE [zC4 30 h0]
def zoh:List y4:=z0Q 20 zK sZ sZ (eT2 Ju sZ) Jx::zoi
def z6l [H:HS X0 zoi]:OkH zoh:=yS3 false func20 λm_ ZO fc r0 aa E hE=>by obtain⟨r_,h0,aa⟩:=zl aa;cases aa;exact yE (H:=zx ((zmP prog 9 83 underlying83).or X0)) hE [zC4 31 h0]
def zm6:List y4:=Y6 52 zgI sZ v6::zoh
def KT [H:HS X0 zoh]:OkH zm6:=yS1 true func52 λx_ r0 aa E hE=>by obtain⟨g0,aa⟩:=gdE aa;cases aa;exact yE hE [Hn g0]
def zog:List y4:=Y6 27 zgI (eOs 1 false F6_) Uu::zm6
def z5i [H:HS X0 zm6]:OkH zog:=yS1 true func27 λx_ r0 aa E hE=>by
 refine yK 111 [] [3] (zI Kf r0) (λz=>[(3,.own (eOs 1 false F6_ z))]) [1,3] [Hh (.cut 2)] ?_ λJ1 au=>?_
 ·rintro out aa;cases aa;exact yE hE []
 obtain⟨t2,ht2,aa⟩:=zl aa;refine yMx 111210 [J1] [1,3,4] (λx=>[(3,.own (eOs 1 false F6_ x.1)),(4,.d (I x.2))]) ht2 [(3,.own (eOs 1 true F6_ [])),(4,.d (I 0))] [] λ⟨aj,i_⟩ m2 aw ae hl1 J2 ax=>?_;let Z0:List HO:=[Ha (lnM F4_ x_.O)];obtain c0|c0:=zt ae
 ·obtain c1|c1:=zt c0.2
  ·refine yNs 11121001 [J1,J2] [1,3,4,13,14] (zI (Vj i_) aw) (λz=>[(3,.own (eOs 1 false F6_ z))]) (Z0++[c0,c0,c0,c1,Hh (.cut 0)]) ?_ λJ3 bk=>?_
   ·rintro ay ae;cases ae;exact yB ax _ hl1 []
   refine yNs 11121001201 [J1,J2,J3] [1,3,4,5,13,14] (zI (Vi aj i_) aw) (λz=>[(5,.own (eOs 1 false sZ z))]) [Hh (.cut 1)] ?_ λJ4 cx=>?_
   ·rintro w_ ae;obtain⟨g0,ae⟩:=gdE ae;exact yB bk (aj++[w_]) ae [Hq (oC F6_ w_ []),Hn (aL F6_ F6_ g0),Hl (aM F6_ aj [w_])]
   obtain⟨t5,ht5,ae⟩:=zl c1.2;refine yMx 11121001201210 [J1,J2,J3,J4] [1,3,4,5,6,13,14] (λx=>[(5,.own (eOs 1 false sZ x.1)),(6,.d (I x.2))]) ht5 [(5,.own (eOs 1 true sZ [])),(6,.d (I 0))] [] λ⟨eg,k_⟩ m5 dc ah hl2 J5 dh=>?_;obtain⟨pg,h0,ah⟩:=zl ah;let Z1:List HO:=[Hi F4_ h0,Ha (lnM (eI .u8) pg)];obtain c2|c2:=zt ah
   ·obtain c3|c3:=zt c2.2
    ·obtain⟨pl,h1,ju,h2,r_,h3,ah⟩:=ZK c3.2;obtain⟨g1,ah⟩:=gdE ah;obtain⟨g2,ah⟩:=gdE ah;cases ah;exact yB dh _ hl2 (Z1++[c2,c2,c2,c3,Hi F4_ h1,Hi (eI .u8) h2,zC1 0 h3,Hn g1,Hq (dM sZ [Int.tmod (w64 (ju)) r_]),Hn (dM sZ [Int.tmod (w64 (ju)) r_]),Hn (aL sZ sZ g2),Hl (aM sZ eg [Int.tmod (w64 (ju)) r_])])
    cases c3.2;cases hl2;exact yB cx eg ae (Z1++[c2,c2,c2,c3])
   cases c2.2;cases hl2;exact yB cx eg ae (Z1++[c2,c2,c2,qF])
  cases c1.2;cases hl1;exact yB au aj aa (Z0++[c0,c0,c0,c1])
 cases c0.2;cases hl1;exact yB au aj aa (Z0++[c0,c0,c0,qF])
def zof:List y4:=jV 77 F5_ F5_ sZ Zj::zog
def z2t [H:HS X0 zog]:OkH zof:=yS2 true func77 λa_ b_ r0 aa E hE=>by
 let Z0:List HO:=[Ha (lnM sZ a_),Ha (lnM sZ b_)];obtain c0|c0:=zt aa
 ·let Z1:List HO:=(Z0++[c0,Ha (lnM sZ a_),Ha (lnM sZ b_)]);obtain c1|c1:=zt c0.2
  ·cases c1.2;exact yE hE (Z1++[c1])
  cases c1.2;exact yE hE (Z1++[c1])
 refine yK 111 [] [] (λz:Unit=>UQ=some r0) (λz=>[]) [0,1] (Z0++[c0,Hh (.cut 0)]) ?_ λJ1 au=>?_
 ·rintro⟨⟩ aa;cases aa;exact yE hE []
 refine yMb 111210 [J1] [0,1,5] (λx=>[(5,.d (I x))]) c0.2  [] λt2 aa i_ m2 aw ae hl1 J2 ax=>?_;obtain c2|c2:=zt ae
 ·obtain⟨ie,h0,gf,h1,ae⟩:=zV c2.2;let Z2:List HO:=[Ha (lnM sZ a_),c2,Hi sZ h0,Hi sZ h1];obtain c3|c3:=zt ae
  ·cases c3.2;cases hl1;cases aa;exact yE hE (Z2++[c3])
  obtain⟨ny,h2,nz,h3,ae⟩:=zV c3.2;let Z3:List HO:=(Z2++[c3,Hi sZ h2,Hi sZ h3]);obtain c4|c4:=zt ae
  ·cases c4.2;cases hl1;cases aa;exact yE hE (Z3++[c4])
  cases c4.2;exact yB ax _ hl1 (Z3++[c4])
 cases c2.2;cases hl1;exact yB au () aa [Ha (lnM sZ a_),c2]
def zoe:List y4:=jV 51 zb7 F5_ zb7 z09 [true,false]::zof
def z3z:XH prog:=((XM zn (.inr 66) [65]).or ((XM zn (.inl 44) [43]).or X0))
def z84 [H:HS z3z zof]:OkH zoe:=yS2 true func51 λl_ w_ r0 aa E hE=>by
 refine yN 1111 [] [0,1,5] (zI (QQ l_ w_) r0) (λz=>[(5,.d (I z))]) [0,1,5,6] [Ha (lnM F5_ l_),Hh (.cut 0)] ?_ λJ1 au=>?_
 ·rintro gw aa;refine yNs 11111 [] [0,1,5] (λz:Unit=>YJ l_ w_ gw=some r0) (λz=>[]) [Hh (.cut 0)] ?_ λJ2 ax=>?_
  ·rintro⟨⟩ aa;obtain⟨g0,aa⟩:=gdE aa;refine yNs (H:=zx ((xNb zn 43).or z3z)) 1111111 [] [0,1,5] (zI (QP w_ gw) r0) (λz=>[(0,.own (eOs 1 false F5_ z))]) [Hm (shM F6_ F5_ ([[]])),Hn (dM F5_ ([[]]:TA)),Hn (aL F5_ F5_ g0),Hl (aM F5_ l_ ([[]]:TA)),Hh (.cut 0)] ?_ λJ3 bk=>?_
   ·rintro fq aa;obtain⟨g1,aa⟩:=gdE aa;obtain⟨cq,h0,aa⟩:=zl aa;cases aa;exact yE hE [Hn (dM sZ w_),Hn (aL sZ sZ g1),Hl (aM0 sZ w_),Hn (iL F5_ h0),Hm (shM sZ sZ w_),Hs (iM F5_ h0),Hs (iM F5_ h0),Hl (sM F5_ fq gw w_)]
   refine yMb 1111111210 [J3] [0,1,5,8] (λx=>[(0,.own (eOs 1 false F5_ x.1)),(8,.d (I x.2))]) aa  [Ha (lnM F5_ (l_++([[]]:TA)))] λt4 aa ⟨la,i_⟩ m4 aw ae hl1 J4 cx=>?_;obtain c0|c0:=zt ae
   ·obtain⟨iu,h1,sc,h2,ae⟩:=zV c0.2;cases ae;exact yB cx _ hl1 [c0,Hn (iL F5_ h1),Hs (iM F5_ h1),Hn (iL F5_ h2),Hs (iM F5_ h2),Hs (iM F5_ h2),Hl (sM F5_ la i_ iu)]
   cases c0.2;cases hl1;exact yB bk la aa [c0]
  let Z0:List HO:=[Ha (lnM F5_ l_)];obtain c1|c1:=zt aa
  ·obtain⟨ot,h3,r_,h4,aa⟩:=zV c1.2;let Z1:List HO:=(Z0++[c1,c1,c1,Hn (iL F5_ h3),c1,Hs (iM F5_ h3),c1,c1,zC2 0 h4,c1,c1]);obtain c2|c2:=zt aa
   ·cases c2.2;exact yE hE (Z1++[c2])
   exact yB ax () c2.2 (Z1++[c2])
  exact yB ax () c1.2 (Z0++(rpN 8 (Hb c1) [qF]))
 refine yMb 111120 [J1] [0,1,5,6] (λx=>[(5,.d (I x.1)),(6,.d (I x.2))]) aa  [] λt5 aa ⟨ko,lm⟩ m5 aw ae hl1 J5 dh=>?_;obtain c3|c3:=zt ae
 ·obtain⟨g2,ae⟩:=gdE c3.2;obtain⟨ou,h5,ai,h6,ae⟩:=zV ae;let Z2:List HO:=[c3,Hn g2,Hn (iL F5_ h5),Hs (iM F5_ h5),zC2 0 h6];obtain c4|c4:=zt ae
  ·cases c4.2;exact yB dh _ hl1 (Z2++[c4])
  cases c4.2;exact yB dh _ hl1 (Z2++[c4])
 cases c3.2;cases hl1;exact yB au ko aa [c3]
def zod:List y4:=Y6 26 xq zb7 VA::zoe
def z6m [H:HS X0 zoe]:OkH zod:=yS1 true func26 λl_ r0 aa E hE=>by
 refine yK 111 [] [3] (zI z0a r0) (λz=>[(3,.own (eOs 1 false F5_ z))]) [0,3] [Hh (.cut 2)] ?_ λJ1 au=>?_
 ·rintro out aa;cases aa;exact yE hE []
 obtain⟨t2,ht2,aa⟩:=zl aa;refine yMx 111210 [J1] [0,3,4] (λx=>[(3,.own (eOs 1 false F5_ x.1)),(4,.d (I x.2))]) ht2 [(3,.own (eOs 1 true F5_ [])),(4,.d (I 0))] [] λ⟨aj,i_⟩ m2 aw ae hl1 J2 ax=>?_;let Z0:List HO:=[Ha (lnM F5_ l_)];obtain c0|c0:=zt ae
 ·obtain⟨cq,h0,r_,h1,ae⟩:=zV c0.2;cases ae;exact yB ax _ hl1 (Z0++[c0,Hi F5_ h0,zC2 0 h1])
 cases c0.2;cases hl1;exact yB au aj aa (Z0++[c0])
def zoc:List y4:=Y6 9 zgI zb7 JM::zod
def z6r [H:HS X0 zod]:OkH zoc:=yS1 true func9 λx_ r0 aa E hE=>by obtain⟨r_,h0,ai,h1,aa⟩:=zV aa;cases aa;exact yE hE [zC1 3 h0,zg 0,Hm (shM F6_ F5_ r_),Hs (zf1 0 h1 (loC xq r_<|loN)),Hm (shM F6_ F5_ r_)]
def zob:List y4:=jV 8 xq sZ zb7 WZ::zoc
def z3Z [H:HS X0 zoc]:OkH zob:=yS2 true func8 λl_ inputs r0 aa E hE=>by
 refine yK 111 [] [5] (zI Wl r0) (λz=>[(5,.own (eOs 1 false F6_ z))]) [0,1,5] [Hh (.cut 2)] ?_ λJ1 au=>?_
 ·rintro out aa;obtain⟨r_,h0,aa⟩:=zl aa;cases aa;exact yE hE [zg 1,Hm (shM F6_ F5_ out),Hs (zf1 1 h0 (loC xq out<|loN)),Hm (shM F6_ F5_ out)]
 obtain⟨t2,ht2,aa⟩:=zl aa;refine yMx 111210 [J1] [0,1,5,6] (λx=>[(5,.own (eOs 1 false F6_ x.1)),(6,.d (I x.2))]) ht2 [(5,.own (eOs 1 true F6_ [])),(6,.d (I 0))] [] λ⟨aj,i_⟩ m2 aw ae hl1 J2 ax=>?_;let Z0:List HO:=[Ha (lnM F5_ l_)];obtain c0|c0:=zt ae
 ·refine yNs 11121001 [J1,J2] [0,1,5,6] (zI (Wk i_) aw) (λz=>[(5,.own (eOs 1 false F6_ z))]) (Z0++[c0,Hh (.cut 0)]) ?_ λJ3 bk=>?_
  ·rintro ay ae;cases ae;exact yB ax _ hl1 []
  refine yNs 11121001201 [J1,J2,J3] [0,1,5,6,7] (zI (Wj aj i_) aw) (λz=>[(7,.own (eOs 1 false sZ z))]) [Hh (.cut 1)] ?_ λJ4 cx=>?_
  ·rintro w_ ae;obtain⟨g0,ae⟩:=gdE ae;exact yB bk (aj++[w_]) ae [Hq (oC F6_ w_ []),Hn (aL F6_ F6_ g0),Hl (aM F6_ aj [w_])]
  obtain⟨t5,ht5,ae⟩:=zl c0.2;refine yMx 11121001201210 [J1,J2,J3,J4] [0,1,5,6,7,8] (λx=>[(7,.own (eOs 1 false sZ x.1)),(8,.d (I x.2))]) ht5 [(7,.own (eOs 1 true sZ [])),(8,.d (I 0))] [] λ⟨eg,k_⟩ m5 dc ah hl2 J5 dh=>?_;obtain⟨cq,h1,ah⟩:=zl ah;let Z1:List HO:=[Hi F5_ h1,Ha (lnM sZ cq)];obtain c1|c1:=zt ah
  ·obtain⟨iu,h2,ln,h3,ah⟩:=zV c1.2;obtain⟨g1,ah⟩:=gdE ah;obtain⟨g2,ah⟩:=gdE ah;cases ah;exact yB dh _ hl2 (Z1++[c1,Hi F5_ h2,Hi sZ h3,Hn g1,Hq (dM sZ [Int.tmod ln inputs]),Hn (dM sZ [Int.tmod ln inputs]),Hn (aL sZ sZ g2),Hl (aM sZ eg [Int.tmod ln inputs])])
  cases c1.2;cases hl2;exact yB cx eg ae (Z1++[c1])
 cases c0.2;cases hl1;exact yB au aj aa (Z0++[c0])
def zoa:List y4:=jV 43 zK zK zK WT::zob
def z4f:XH prog:=((XM zn (.inl 75) [74]).or X0)
def z3T [H:HS z4f zob]:OkH zoa:=yS2 false func43 λa_ b_ r0 aa E hE=>by
 refine yNs 111 [] [2,3,4,5] (zI (W5 a_ b_) r0) (λz=>[(5,.own (.box (.agg [I a_.j,I (mx a_.m b_.m),eOs 1 false y6 z])))]) [Hh (.cut 2)] ?_ λJ1 au=>?_
 ·rintro fl aa;refine yN 1111 [] [4,5] (zI (W4 a_ b_) r0) (λz=>[(5,.own (.box (.agg [I a_.j,I (mx a_.m b_.m),eOs 1 false y6 z])))]) [2,3,4,5] [Hh (.cut 0)] ?_ λJ2 ax=>?_
  ·rintro dv aa;cases aa;exact yE hE [Hm (shM y6 y6 dv)]
  refine yMb 1111210 [J2] [2,3,4,5,7] (λx=>[(5,.own (.box (.agg [I a_.j,I (mx a_.m b_.m),eOs 1 false y6 x.1]))),(7,.d (I x.2))]) aa  [] λt3 aa ⟨ck,s_⟩ m3 aw ae hl1 J3 bk=>?_;let Z0:List HO:=[Ha (lnM y6 b_.i)];obtain c0|c0:=zt ae
  ·refine yNs 111121001 [J2,J3] [2,3,4,5,7] (zI (W3 s_) aw) (λz=>[(5,.own (.box (.agg [I a_.j,I (mx a_.m b_.m),eOs 1 false y6 z])))]) (Z0++[c0,Hh (.cut 0)]) ?_ λJ4 cx=>?_
   ·rintro gi ae;cases ae;exact yB bk _ hl1 []
   refine yNs 111121001201 [J2,J3,J4] [2,3,4,5,7,8] (zI (W2 ck s_) aw) (λz=>[(8,.own (eOs 2 false F9_ z))]) [Hh (.cut 1)] ?_ λJ5 dh=>?_
   ·rintro row ae;obtain⟨g0,ae⟩:=gdE ae;exact yB cx (ck++[row]) ae [Hm (shM YU y6 ([row])),Hn (dM y6 [row]),Hn (aL y6 y6 g0),Hl (aM y6 ck [row])]
   obtain⟨t6,kz,ae⟩:=zl c0.2;refine yMx 111121001201210 [J2,J3,J4,J5] [2,3,4,5,7,8,9] (λx=>[(8,.own (eOs 2 false F9_ x.1)),(9,.d (I x.2))]) kz [(8,.own (eOs 2 true F9_ [])),(9,.d (I 0))] [] λ⟨db,i_⟩ m6 dc ah hl2 J6 fz=>?_;obtain c1|c1:=zt ah
   ·obtain⟨al,h0,ak,h1,ah⟩:=zV c1.2;refine yNs 11112100120121001001 [J2,J3,J4,J5,J6] [2,3,4,5,7,8,9,10] (zI (Zn db i_ ak) dc) (λz=>[(10,.own (.box (.agg [I z,I ak.r])))]) [c1,Hi y6 h0,Hi F9_ h1,Hh (.cut 0)] ?_ λJ7 j5=>?_
    ·rintro gj ah;obtain⟨g1,ah⟩:=gdE ah;cases ah;exact yB fz _ hl2 [Hq (dM F9_ [(z7.mk gj ak.r)]),Hn (dM F9_ [(z7.mk gj ak.r)]),Hn (aL F9_ F9_ g1),Hl (aM F9_ db [(z7.mk gj ak.r)])]
    obtain c2|c2:=zt ah
    ·exact yB j5 (w64 (ak.o+(a_.i.length:Int))) c2.2 [c2,Ha (lnM y6 a_.i)]
    exact yB j5 ak.o c2.2 [c2]
   cases c1.2;cases hl2;exact yB dh db ae [c1]
  cases c0.2;cases hl1;exact yB ax ck aa (Z0++[c0])
 obtain⟨t8,ht8,aa⟩:=zl aa;refine yMx 111210 [J1] [2,3,4,5,6] (λx=>[(5,.own (.box (.agg [I a_.j,I (mx a_.m b_.m),eOs 1 false y6 x.1]))),(6,.d (I x.2))]) ht8 [(5,.own (.box (.agg [I a_.j,I (mx a_.m b_.m),eOs 1 true y6 []]))),(6,.d (I 0))] [] λ⟨ga,bf⟩ m8 aw ae hl1 J8 mb=>?_;let Z1:List HO:=[Ha (lnM y6 a_.i)];obtain c3|c3:=zt ae
 ·obtain⟨dp,h2,ae⟩:=zl c3.2;obtain⟨g2,ae⟩:=gdE ae;cases ae;exact yB mb _ hl1 (Z1++[c3,Hi y6 h2,Hq (dM y6 [dp]),Hn (dM y6 [dp]),Hn (aL y6 y6 g2),Hl (aM y6 ga [dp])])
 cases c3.2;cases hl1;exact yB au ga aa (Z1++[c3])
def zo9:List y4:=jV 22 zK zK (eT2 F5_ eB) kM::zoa
abbrev z0I (w_:TB):List (Nat×T):=[(10,.own (eOs 1 false sZ w_))]
abbrev z0H (r_:z6)(s_:Int)(t_:Int)(cb:Int)(eg:TB)(ai:List (List Bool))(i_:Int)(rr:Int)(rt:Bool)(ji:Bool)(ru:Bool)(rz:Bool)(r7:Bool):List (Nat×T):=[(6,.own (.box (zK r_))),(7,.d (I s_)),(8,.d (I t_)),(9,.d (I (w64 (cb-1)))),(10,.own (eOs 1 false sZ eg)),(11,.own (eOs 1 false (eOs 1 true eB) ai)),(12,.d (I i_)),(82,.d (I rr)),(83,.d (B rt)),(84,.d (B ji)),(88,.d (B ru)),(89,.d (B rz)),(99,.d (B r7))]
abbrev z0F (r_:z6)(s_:Int)(t_:Int)(cb:Int)(eg:TB)(ai:List (List Bool))(i_:Int):List (Nat×T):=[(6,.own (.box (zK r_))),(7,.d (I s_)),(8,.d (I t_)),(9,.d (I (w64 (cb-1)))),(10,.own (eOs 1 false sZ eg)),(11,.own (eOs 1 false (eOs 1 true eB) ai)),(12,.d (I i_))]
abbrev z0G (r_:z6)(s_:Int)(t_:Int)(cb:Int)(eg:TB):List (Nat×T):=[(6,.own (.box (zK r_))),(7,.d (I s_)),(8,.d (I t_)),(9,.d (I cb)),(10,.own (eOs 1 false sZ eg))]
abbrev z0J (a_:z6)(r_:z6)(n_:Int):List (Nat×T):=[(6,.own (.box (zK r_))),(7,.d (I 0)),(8,.d (I (a_.i.length:Int))),(9,.d (I n_))]
abbrev z0E (a_:z6)(r_:z6)(bz:Int):List (Nat×T):=[(6,.own (.box (zK r_))),(7,.d (I 0)),(8,.d (I (a_.i.length:Int))),(9,.d (I bz))]
def z3S [H:HS X0 zoa]:OkH zo9:=yS2 false func22 λa_ b_ r0 aa E hE=>by
 obtain⟨r_,h0,aa⟩:=zl aa;refine yJ 11111 [] [6,7,8,9] (λz:Int=>Zm a_ r_ z=some r0) (λz=>z0J a_ r_ z) [(6,.own (.box (zK r_))),(7,.d (I 0)),(8,.d (I (a_.i.length:Int))),(9,.d (I 0))] [zC2 0 h0,Ha (lnM y6 a_.i),Hh (.cut 1)] ?_ λJ1 au=>?_
 ·rintro n_ aa;unfold Zm at aa;let Z0:List HO:=[Ha (lnM y6 r_.i)];obtain c0|c0:=zt aa
  ·obtain rfl:=zZ c0.2;exact yEl hE (Z0++[c0,Hm (shM sZ sZ [])])
  refine yJ 11111111 [] [10] (λz:TB=>Zl z=some r0) (λz=>z0I z) [(6,.own (.box (zK r_))),(7,.d (I 0)),(8,.d (I (a_.i.length:Int))),(9,.d (I n_)),(10,.own (eOs 1 true sZ []))] (Z0++[Hb c0,Hh (.cut 1)]) ?_ λJ2 ax=>?_
  ·rintro w_ aa;unfold Zl at aa;obtain rfl:=zZ aa;exact yE hE [Hm (shM sZ sZ w_)]
  obtain⟨t3,ht3,aa⟩:=zl c0.2;refine yLx 1111111120 [J2] (λs=>Zk r_ s.1 s.2.1 s.2.2.1 s.2.2.2) (λx=>z0G r_ x.1 x.2.1 x.2.2.1 x.2.2.2) (0,(a_.i.length:Int),n_,([]:TB)) ht3 [(6,.own (.box (zK r_))),(7,.d (I 0)),(8,.d (I (a_.i.length:Int))),(9,.d (I n_)),(10,.own (eOs 1 true sZ []))] inferInstance [] λ⟨s_,t_,cb,eg⟩ m3 aw ae hl1 J3 bk=>?_;try unfold Zk at ae;obtain c1|c1:=zt ae
  ·obtain⟨ai,h1,t4,ht4,ae⟩:=zV c1.2;refine yL 11111111200101110 [J2,J3] (λs=>qz r_ s_ t_ cb eg ai s) (λx=>z0F r_ s_ t_ cb eg ai x) 0 ht4  [Hb c1,zC2 27 h1] λi_ m4 dc ah hl2 J4 cx=>?_;try unfold qz at ah;obtain c2|c2:=zt ah
   ·refine yJ 1111111120010111001 [J2,J3,J4] [6,7,8,9,10,11,12,82,83,84,88,89,99] (λz:Int×Bool×Bool×Bool×Bool×Bool=>vQ i_ z.1 z.2.1 z.2.2.1 z.2.2.2.1 z.2.2.2.2.1 z.2.2.2.2.2=some dc) (λz=>z0H r_ s_ t_ cb eg ai i_ z.1 z.2.1 z.2.2.1 z.2.2.2.1 z.2.2.2.2.1 z.2.2.2.2.2) [(6,.own (.box (zK r_))),(7,.d (I s_)),(8,.d (I t_)),(9,.d (I (w64 (cb - 1)))),(10,.own (eOs 1 false sZ eg)),(11,.own (eOs 1 false (eOs 1 true eB) ai)),(12,.d (I i_))] [Hb c2,Hh (.cut 0)] ?_ λJ5 dh=>?_
    ·rintro⟨rr,rt,ji,ru,rz,r7⟩ ah;unfold vQ at ah;obtain rfl:=zZ ah;exact yB cx _ hl2 []
    obtain⟨al,h2,ak,h3,dp,h4,ar,h5,ah⟩:=z7L c2.2;let Z1:List HO:=[Hi y6 h2,Hi F9_ h3,Hi y6 h4,Hi F9_ h5];obtain c3|c3:=zt ah
    ·obtain⟨g0,ah⟩:=gdE c3.2;obtain rfl:=zZ ah;obtain rfl:=hl2;obtain rfl:=zZ ae;exact yB bk _ hl1 (Z1++(rpN 8 (Hb c3) [qT,Hq (dM sZ [i_]),Hn (dM sZ [i_]),Hn (aL sZ sZ g0),Hl (aM sZ eg [i_])]))
    let Z2:List HO:=(Z1++(rpN 4 (Hb c3) []));obtain c4|c4:=zt c3.2
    ·let Z3:List HO:=(Z2++[Hb c4,Hb c4,Hb c4,Hb c3,Hb c4,Hb c3]);obtain c5|c5:=zt c4.2
     ·obtain⟨dx,h6,n9,h7,ah⟩:=zV c5.2;let Z4:List HO:=(Z3++(rpN 4 (Hb c5) [Hn (iL (eOs 1 true eB) h6),Hb c5,Hs (iM (eOs 1 true eB) h6),Hb c5,Hb c5,Hb c5,Hs (iM (eOs 1 true eB) h6),Hn (iL eB h7),Hb c5,Hs (iM (eOs 1 true eB) h6),Hs (iM eB h7),Hb c3,Hb c5,Hb c3]));obtain c6|c6:=zt ah
      ·obtain⟨g1,ah⟩:=gdE c6.2;obtain rfl:=zZ ah;obtain rfl:=hl2;obtain rfl:=zZ ae;exact yB bk _ hl1 (Z4++[Hb c6,Hq (dM sZ [i_]),Hn (dM sZ [i_]),Hn (aL sZ sZ g1),Hl (aM sZ eg [i_])])
      exact yB dh (ak.o,decide (ak.o>=0),decide (ak.o>=0),decide (ar.o>=0),decide (ar.o>=0),n9) c6.2 (Z4++[Hb c6])
     exact yB dh (ak.o,decide (ak.o>=0),decide (ak.o>=0),decide (ar.o>=0),decide (ar.o>=0),false) c5.2 (Z3++(rpN 9 (Hb c5) [Hb c3,Hb c5,Hb c3,qF]))
    exact yB dh (ak.o,decide (ak.o>=0),decide (ak.o>=0),false,false,false) c4.2 (Z2++(Hb c4::Hb c4::Hb c4::Hb c3::Hb c4::Hb c3::(rpN 9 qF [Hb c3,qF,Hb c3,qF])))
   obtain rfl:=zZ c2.2;obtain rfl:=hl2;obtain rfl:=zZ ae;exact yB bk _ hl1 [Hb c2]
  obtain rfl:=zZ c1.2;obtain rfl:=hl1;exact yB ax eg aa [Hb c1]
 obtain⟨t6,kz,aa⟩:=zl aa;refine yL 1111120 [J1] (λs=>qh a_ r_ s) (λx=>z0E a_ r_ x) 0 kz  [] λbz m6 aw ae hl1 J6 fz=>?_;try unfold qh at ae
 let Z5:List HO:=[Ha (lnM y6 r_.i)];obtain c7|c7:=zt ae
 ·obtain⟨am,h8,jr,h9,pm,h10,ae⟩:=ZK c7.2;let Z6:List HO:=(Z5++[Hb c7,Hb c7,Hb c7,zC2 27 h8,Hb c7,Hb c7,Hn (iL (eOs 1 true eB) h9),Hb c7,Hs (iM (eOs 1 true eB) h9),Hb c7,Hb c7,Hs (iM (eOs 1 true eB) h9),Hn (iL eB h10),Hb c7,Hs (iM (eOs 1 true eB) h9),Hs (iM eB h10),Hb c7,Hb c7]);obtain c8|c8:=zt ae
  ·obtain rfl:=zZ c8.2;exact yB fz _ hl1 (Z6++[Hb c8])
  obtain rfl:=zZ c8.2;obtain rfl:=hl1;exact yB au bz aa (Z6++[Hb c8])
 obtain rfl:=zZ c7.2;obtain rfl:=hl1;exact yB au bz aa (Z5++(rpN 11 (Hb c7) [qF]))
def zo8:List y4:=z0Q 23 xq xq sZ (eT2 Ju sZ) XT::zo9
def z57 [H:HS X0 zo9]:OkH zo8:=yS3 false func23 λa_ b_ inputs r0 aa E hE=>by
 obtain⟨r_,h0,aa⟩:=zl aa;let Z0:List HO:=[zg 73,Hm (shM xq xq ([a_,b_])),Hs (zf2 73 h0 (loC sZ inputs<|loC (eSl 1 true xq) [a_,b_]<|loN))];obtain c0|c0:=zt aa
 ·cases c0.2;exact yE hE (Z0++[c0,Hm (shM F5_ F5_ [])])
 obtain⟨ai,h1,aa⟩:=zl c0.2;obtain⟨g0,aa⟩:=gdE aa;obtain⟨am,h2,aa⟩:=zl aa;cases aa;exact yE hE (Z0++[c0,zC1 81 h1,Hn (dM F5_ b_),Hn (aL F5_ F5_ g0),Hl (aM F5_ ai b_),zg 78,Hm (shM F5_ F5_ (ai++b_)),Hs (zf1 78 h2 (loC xq (ai++b_)<|loN)),Hm (shM F5_ F5_ (ai++b_))])
def zo7:List y4:=z0Q 5 (ZI zpa) zgI (z4c (eI .u8)) eB Wo::zo8
abbrev Jq (y_:xQ)(z_:zdS Int)(r_:z6)(ai:Int):List (Nat×T):=[(4,.own (.box (zgI y_))),(5,.own (.box ((z4c (eI .u8)) z_))),(7,.own (.box (zK r_))),(8,.d (I ai))]
abbrev Jp (y_:xQ)(z_:zdS Int)(r_:z6)(ai:Int)(l_:TA)(e_:Int):List (Nat×T):=[(4,.own (.box (zgI y_))),(5,.own (.box ((z4c (eI .u8)) z_))),(7,.own (.box (zK r_))),(8,.d (I ai)),(9,.d (eSl 1 true F3_ l_)),(10,.d (I e_))]
def z1n:XH prog:=((zmQ zn 105).or X0)
def z0Z [H:HS z1n zo8]:OkH zo7:=yS3 true func5 λx_ y_ z_ r0 aa E hE=>by
 let u0:=(w64 (Int.tmod z_.e2 8));obtain⟨r_,h0,ai,h1,aa⟩:=zV aa;refine yJ 1111 [] [4,5,7,8] (λz:Unit=>xC y_ z_ r_ ai=some r0) (λz=>Jq y_ z_ r_ ai) [(4,.own (.box (zgI y_))),(5,.own (.box ((z4c (eI .u8)) z_))),(7,.own (.box (zK r_))),(8,.d (I ai))] [zC1 14 h0,Hn (⟨rfl,θ⟩:true=true/\0<3),zC2 12 h1,Hh (.cut 0)] ?_ λJ1 au=>?_
 ·rintro⟨⟩ aa;unfold xC at aa;obtain⟨am,h2,az,h3,aa⟩:=zV aa;obtain⟨g0,aa⟩:=gdE aa;obtain⟨g1,aa⟩:=gdE aa;obtain⟨cp,h4,gh,h5,aa⟩:=zV aa;let Z0:List HO:=[zC1 4 h2,zg 3,Hm (shM F5_ F5_ am),Hs (zf2 3 h3 (loC xq am <| loC sZ r_.j <| loN)),Hm (shM F5_ F5_ am),Ha (lnM F5_ az),Hn (⟨rfl,θ⟩:true=true/\2<3),Hn g0,Hn g1.1,Hn (cuB F5_ g1),Hl (cuM F5_ az (mn (az.length:Int) u0)),zg 38,Hm (shM F5_ F5_ (az.take (mn (az.length:Int) u0).toNat)),Hs (zf3 38 h4 (loC zK r_ <| loC xq (az.take (mn (az.length:Int) u0).toNat) <| loC sZ ai <| loN)),Hm (shM F5_ F5_ (az.take (mn (az.length:Int) u0).toNat)),zC3 89 h5];obtain c0|c0:=zt aa
  ·obtain rfl:=zZ c0.2;exact yE hE (Z0++(rpN 6 (Hb c0) [qT]))
  let Z1:List HO:=(Z0++(rpN 6 (Hb c0) []));obtain c1|c1:=zt c0.2
  ·obtain rfl:=zZ c1.2;exact yE hE (Z1++[c1])
  obtain c2|c2:=zt c1.2
  ·obtain c3|c3:=zt c2.2
   ·obtain⟨iz,h6,aa⟩:=zl c3.2;obtain rfl:=zZ aa;exact yE hE (Z1++[c1,c2,c3,zC0 33 h6,c3])
   obtain rfl:=zZ c3.2;exact yE hE (Z1++[c1,c2,c3,c3])
  obtain⟨jk,h7,kg,h8,kh,h9,js,h10,gm,h11,aa⟩:=zb0 c2.2;let Z2:List HO:=(Z1++[c1,c2,Hk [] (z0r (hat 34)) (zf3 34 h7 (loC zK r_<|loC zdQ cp.1<|loC xq (az.take (mn (az.length:Int) u0).toNat)<|loN)),Hk [] (z0r (hat 1)) (zf2 1 h8 (loC zK r_<|loC zdQ cp.1<|loN)),zg 0,Hm (shM F5_ F5_ ([kg.1])),Hs (zf3 0 h9 (loC xq (az.take (mn (az.length:Int) u0).toNat)<|loC z4T [kg.1]<|loC sZ r_.j<|loN)),Hm (shM F5_ F5_ ([kg.1])),Hk [] (z0r (hat 89)) (zf3 89 h10 (loC zK r_<|loC Ju kh.1<|loC sZ ai<|loN)),Hk [] (z0r (hat 38)) (zf3 38 h11 (loC zK r_<|loC Ju kh.1<|loC sZ ai<|loN))]);obtain c4|c4:=zt aa
  ·obtain c5|c5:=zt c4.2
   ·let Z3:List HO:=(Z2++[c4,c4,c4,c5,c5]);obtain c6|c6:=zt c5.2
    ·obtain c7|c7:=zt c6.2
     ·let Z4:List HO:=(Z3++[c6,c6,c6,c7,c7,c7]);obtain c8|c8:=zt c7.2
      ·let Z5:List HO:=(Z4++(rpN 4 (Hb c8) []));obtain c9|c9:=zt c8.2
       ·obtain c10|c10:=zt c9.2
        ·obtain⟨od,h12,aa⟩:=zl c10.2;obtain rfl:=zZ aa;exact yE hE (Z5++(Hb c9::Hb c9::Hb c9::(rpN 4 (Hb c10) [c9,c10,c9,qT,zC0 33 h12,qT])))
        obtain⟨mf,h13,aa⟩:=zl c10.2;let Z6:List HO:=(Z5++[c9,c9,c9,c10,c10,c10,Hk [] (z0r (hat 37)) (zf2 37 h13 (loC zdQ cp.1<|loC zdQ gm.1<|loN)),c10,c9,c10,c9]);obtain c11|c11:=zt aa
        ·obtain⟨l4,h14,aa⟩:=zl c11.2;obtain rfl:=zZ aa;exact yE hE (Z6++[c11,zC0 33 h14,c11])
        obtain rfl:=zZ c11.2;exact yE hE (Z6++[c11,c11])
       obtain rfl:=zZ c9.2;exact yE hE (Z5++(rpN 5 (Hb c9) [qF,qF]))
      obtain rfl:=zZ c8.2;exact yE hE (Z4++(rpN 4 (Hb c8) (rpN 7 qF [])))
     obtain rfl:=zZ c7.2;exact yE hE (Z3++(Hb c6::Hb c6::Hb c6::Hb c7::Hb c7::Hb c7::(rpN 11 qF [])))
    obtain rfl:=zZ c6.2;exact yE hE (Z3++(Hb c6::Hb c6::Hb c6::(rpN 14 qF [])))
   obtain rfl:=zZ c5.2;exact yE hE (Z2++(Hb c4::Hb c4::Hb c4::Hb c5::Hb c5::(rpN 17 qF [])))
  obtain rfl:=zZ c4.2;exact yE hE (Z2++(Hb c4::Hb c4::Hb c4::(rpN 19 qF [])))
 let Z7:List HO:=[Ha (lnM y6 r_.i)];obtain c12|c12:=zt aa
 ·refine yJ 111121011 [J1] [4,5,7,8,9,10] (λz:TA×Int=>yS y_ z_ r_ ai z.1 z.2=some r0) (λz=>Jp y_ z_ r_ ai z.1 z.2) [(4,.own (.box (zgI y_))),(5,.own (.box ((z4c (eI .u8)) z_))),(7,.own (.box (zK r_))),(8,.d (I ai)),(9,.d (eSl 1 true F5_ [])),(10,.d (I 0))] (Z7++[c12,Hh (.n 4 [9]),Hm (shM F5_ F5_ []),Hh (.cut 0)]) ?_ λJ2 ax=>?_
  ·rintro⟨l_,e_⟩ aa;unfold yS at aa;obtain⟨k0,h15,aa⟩:=zl aa;let Z8:List HO:=[Hk [] (z0r (hat 89)) (zf3 89 h15 (loC zK r_ <| loC Ju l_ <| loC sZ ai <| loN)),Ha (lnM y6 r_.i)];obtain c13|c13:=zt aa
   ·obtain c14|c14:=zt c13.2
    ·obtain rfl:=zZ c14.2;exact yE hE (Z8++[c13,c13,c13,c14,c14,c13,c14,c13,qT,qT,c13,qT,c13,qT])
    let Z9:List HO:=(Z8++[c13,c13,c13,c14,c14,c13,c14,c13]);obtain c15|c15:=zt c14.2
    ·obtain rfl:=zZ c15.2;exact yE hE (Z9++[c15,c15,c13,c15,c13,qT])
    let Z10:List HO:=(Z9++[c15,c15,c13,c15,c13]);obtain c16|c16:=zt c15.2
    ·obtain rfl:=zZ c16.2;exact yE hE (Z10++[c16])
    exact yB au () c16.2 (Z10++[c16])
   exact yB au () c13.2 (Z8++(rpN 7 (Hb c13) [qF]))
  obtain⟨g2,aa⟩:=gdE c12.2;let Z11:List HO:=[Hn (⟨rfl,θ⟩:true=true/\1<3),Hn g2];obtain c17|c17:=zt aa
  ·obtain⟨j9,h16,aa⟩:=zl c17.2;exact yB ax (j9.1,j9.2) aa (Z11++[c17,zC3 41 h16])
  obtain c18|c18:=zt c17.2
  ·obtain⟨mv,h17,aa⟩:=zl c18.2;exact yB ax (mv.1,mv.2) aa (Z11++[c17,c18,zC3 11 h17])
  obtain c19|c19:=zt c18.2
  ·obtain⟨mw,h18,aa⟩:=zl c19.2;exact yB ax (mw.1,mw.2) aa (Z11++[c17,c18,c19,zC3 10 h18])
  exact yBx ax (([]:TA),0) c19.2 [(4,.own (.box (zgI y_))),(5,.own (.box ((z4c (eI .u8)) z_))),(7,.own (.box (zK r_))),(8,.d (I ai)),(9,.d (eSl 1 true F3_ [])),(10,.d (I 0))] inferInstance (Z11++[c17,c18,c19])
 exact yB au () c12.2 (Z7++[c12])
def spc {X:XH prog}{s:y4}{l:List y4}(w:∀[HS X l],OkH (s::l))(r:z1q prog l)(h:((l.map y4.k).contains s.k)=false:=by kernel_rfl):z1q prog (s::l):=⟨λc a b=>@w ⟨c,a,b⟩,zm7 h,r⟩
def zjT:z1q prog zo7:=spc z0Z <|
 spc z57 <|
 spc z3S <|
 spc z3T <|
 spc z3Z <|
 spc z6r <|
 spc z6m <|
 spc z84 <|
 spc z2t <|
 spc z5i <|
 spc KT <|
 spc z6l <|
 spc z83 <|
 spc z40 <|
 spc z3R <|
 spc z6s <|
 spc z2u <|
 spc z85 <|
 spc z2w <|
 spc z3U <|
 spc z5e <|
 spc z6o <|
 spc z3X <|
 spc z5d <|
 spc z6n <|
 spc z5f <|
 spc z6q <|
 spc z2v <|
 spc z3V <|
 spc z0X <|
 spc z3W <|
 spc z5c <|
 spc z6t <|
 spc z41 <|
 spc z5h <|
 spc z5m <|
 spc z6v <|
 spc z5g <|
 spc z6p <|
 spc zav <|
 spc ZX <|
 spc ZN <|
 spc zau <|
 spc z3M <|
 spc KL <|
 spc z2s <|
 spc Kk <|
 spc z1W <|
 spc z3Y <|
 spc z1T <|
 spc z58 <|
 spc Xh <|
 spc XO <|
 spc z2r <|
 spc zat <|
 spc qM <|
 spc z1P <|
 spc z86 <|
 spc z5j <|
 spc z5b <|
 spc z59 <|
 spc z6u <|
 spc z42 <|
 spc z0U <|
 spc KN <|
 spc VX <|
 spc z3P <|
 spc z3O <|
 spc z1Q <|
 spc z44 <|
 spc z43 <|
 spc JY <|
 spc z11 <|
 spc z3L <|
 spc z81 <|
 spc z6i <|
 spc z6j <|
 spc z82 <|
 spc z2C <|
 spc z6k <|
 spc z3K <|
 spc YX <|
 spc z1O <|
 spc VY <|
 spc z3J <|
 spc z51 <|
 spc Qz <|
 spc Q2 <|
 spc z1N <|
 spc z3N <|
 spc z88 <|
 spc z10 <|
 spc z6x <|
 spc z87 <|
 spc z1X <|
 spc z5k <|
 spc z6w <|
 spc z5a <|
 spc z52 <|
 spc z56 <|
 spc z2p <|
 spc z6A <|
 spc Vs <|
 spc z12 <|
 spc z2D <|
 spc z54 <|
 spc z4Z <|
 spc YW <|
 spc WB <|
 spc z2q <|
 spc z5l <|
 spc z6z <|
 spc z6y <|
 spc KQ <|
 spc Kl <|
 spc JV <|
 spc z0W <|
 spc Q1 <|
 spc z0V <|
 spc z3Q <|
 spc z1S <|
 spc Km <|
 spc JX <|
 spc XP <|
 spc Vr <|
 spc Kn <|
 spc Ko <|
 spc JW <|
 spc V8 <|
 spc z1U <|
 spc z0Y <|
 spc z1V <|
 spc uS <|
 spc jH <|
 spc KS <|
 spc z2z <|
 spc z2y <|
 spc z2A <|
 trivial
def zr {x:Int}(h1:-9223372036854775808<=x)(h2:x<=9223372036854775807):w64 x=x:=by simp only[w64,IntKind.wrap,IntKind.bits,IntKind.signed];simp;omega
variable {k:Nat}
section
variable {α β σ τ ρ:Type}
def Ret (x:Option α)(Q:α->Prop):Prop:=∃a,x=some a/\Q a
def Ret.mono {x:Option α}{Q R:α->Prop}(h:Ret x Q)(q:∀a,Q a->R a):Ret x R:=by have ⟨a,e,h⟩:=h;exact⟨a,e,q a h⟩
def Ret.eq {x:Option α}{a:α}(h:Ret x λb=>b=a):x=some a:=by obtain⟨b,e,rfl⟩:=h;exact e
def z8 {a:α}{Q:α->Prop}:Ret (some a) Q↔Q a:=⟨λ⟨b,e,q⟩=>by cases e;exact q,λq=>⟨a,rfl,q⟩⟩
def zi {x:Option α}{f:α->Option β}{Q:β->Prop}:Ret (Option.bind x f) Q↔Ret x λa=>Ret (f a) Q:=by
 cases x with
 |none=>exact⟨λ⟨b,e,_⟩=>(by cases e),λ⟨b,e,_⟩=>(by cases e)⟩
 |some a=>exact⟨λh=>⟨a,rfl,h⟩,λ⟨b,e,h⟩=>by cases e;exact h⟩
def Xe {p:Prop}[Decidable p]{x:Option α}{Q:α->Prop}:Ret (gd p x) Q↔p/\Ret x Q:=by
 unfold gd;by_cases h:p
 ·rw[if_pos h];exact⟨λq=>⟨h,q⟩,λq=>q.2⟩
 rw[if_neg h];exact⟨λ⟨b,e,_⟩=>by(cases e),λq=>(h q.1).elim⟩
def zj {c:Bool}{x y:Option α}{Q:α->Prop}:Ret (bif c then x else y) Q↔(c=true->Ret x Q)/\(c=false->Ret y Q):=by cases c<;>simp
def z8k {l:List α}{i:Int}{Q:α->Prop}:Ret (idx l i) Q↔0<=i/\∃x,l[i.toNat]?=some x/\Q x:=by
 cases i with
 |ofNat n=>show(∃a,l[n]?=some a/\Q a)↔_;simp
 |negSucc n=>exact⟨λ⟨b,e,_⟩=>by(cases e),λ⟨h,_⟩=>ω⟩
def zA (l:List α)(i:Nat):idx l (i:Int)=l[i]?:=rfl
def gdT {p:Prop}[Decidable p]{x:Option α}(h:p):gd p x=x:=by unfold gd;rw[if_pos h]
def bdT {x:Option α}{u:α}{f:α->Option ρ}(h:x=some u):Option.bind x f=f u:=by rw[h];rfl
def XK (step:σ->Option (LR σ τ))(n:Nat)(s:σ):z0k step (n+1) s=(match step s with|none=>none|some (.next s')=>z0k step n s'|some (.done t)=>some t):=rfl
def LRP (N:σ->Prop)(D:τ->Prop):LR σ τ->Prop
 |.next s=>N s
 |.done t=>D t
def zz {step:σ->Option (LR σ τ)}(I:σ->Prop)(m:σ->Nat){R:τ->Prop}{s:σ}(hs:I s)(hm:m s<18446744073709551616)
  (h:∀s,I s->Ret (step s) (LRP (λs'=>I s'/\m s' < m s) R)):Ret (loop step s) R:=by
 have gen:∀(n:Nat) (s:σ),I s->m s<n->Ret (z0k step n s) R:=by
  intro n;induction n with
  |zero=>intro s _ h;omega
  |succ n ih=>
   intro s hs hm;have ⟨a,e,q⟩:=h s hs;rw[XK,e];cases a with
   |next s'=>exact ih s' q.1 (by have:=q.2;omega)
   |done t=>exact⟨t,rfl,q⟩
 exact gen Vn s hs hm
def xo {step:σ->Option (LR σ τ)}(st:Nat->σ)(n:Nat){t:τ}(hn:n<9223372036854775808)(h:∀i,i<n->step (st i)=some (.next (st (i+1))))(hd:step (st n)=some (.done t)):loop step (st 0)=some t:=by
 have gen:∀(k:Nat) (i:Nat),i<=n->n-i<k->z0k step k (st i)=some t:=by
  intro k;induction k with
  |zero=>intro i _ h;omega
  |succ k ih=>
   intro i hi hk;rw[XK];rcases pM i n with q|q
   ·rw[h i q];exact ih (i+1) q ω
   have:i=n:=ω
   subst this;rw[hd]
 exact gen Vn 0 (pQ _) (by show n-0<18446744073709551616;omega)
def y5 (f:Nat->α->Option ρ):List α->Nat->Option ρ
 |[],_=>none
 |x::l,i=>match f i x with|some r=>some r|none=>y5 f l (i+1)
def UD {f:Nat->α->Option ρ}:∀{l:List α} {k:Nat},(∀i x,l[i]?=some x->f (k+i) x=none)->y5 f l k=none
 |[],_,_=>rfl
 |x::l,k,h=>by have h0:=h 0 x rfl;simp[mV]at h0;simp[y5,h0];exact UD λi y hy=>by have:=h (i+1) y (ξ hy);rwa[show k+1+i=k+(i+1) by omega]
def kH {f:Nat->α->Option ρ}{r:ρ}:∀{l:List α} {k:Nat},y5 f l k=some r->∃i x,l[i]?=some x/\f (k+i) x=some r
 |[],_,h=>by cases h
 |x::l,k,h=>by
  simp[y5]at h;cases hf:f k x with
  |some r'=>rw[hf]at h;exact⟨0,x,rfl,by rw[mV,hf];exact h⟩
  |none=>rw[hf]at h;have ⟨i,y,h1,h2⟩:=kH h;exact⟨i+1,y,ξ h1,by rw[<-h2];congr 1;omega⟩
def ZG {f:Nat->α->Option ρ}{l:List α}  (h:y5 f l k=none):∀i x,l[i]?=some x->f (k+i) x=none:=by
 induction l generalizing k with
 |nil=>intro i x h;simp at h
 |cons y l ih=>
  intro i x hx;simp[y5]at h;cases hf:f k y with
  |some r'=>rw[hf]at h;cases h
  |none=>
   rw[hf]at h;cases i with
   |zero=>simp at hx;subst hx;simpa using hf
   |succ i=>have:=ih h i x (ξ hx);rwa[show k+(i+1)=k+1+i by omega]
def oS:Option ρ->Unit⊕ρ
 |some r=>.inr r
 |none=>.inl ()
def nS (i:Nat):Option ρ->LR Int (Unit⊕ρ)
 |some r=>.done (.inr r)
 |none=>.next (w64 ((i:Int)+1))
def vt (l:List α)(hl:l.length<4611686018427387904){step:Int->Option (LR Int (Unit⊕ρ))}(f:Nat->α->Option ρ)
  (h:∀(i:Nat) (x:α),l[i]?=some x->step (i:Int)=some (nS i (f i x))) (h2:step (l.length:Int)=some (.done (.inl ()))) :
  loop step 0=some (oS (y5 f l 0)):=by
 have gen:∀(n:Nat) (k:Nat),k<=l.length->l.length-k<n->z0k step n (k:Int)=some (oS (y5 f (l.drop k) k)):=by
  intro n;induction n with
  |zero=>intro k _ h;omega
  |succ n ih=>
   intro k hk hn;rw[XK];rcases pM k l.length with hlt|hge
   ·have hx:l[k]?=some l[k]:=pB hlt;rw[h k _ hx,mW hlt];simp[y5];cases hf:f k l[k] with
    |some r=>rfl
    |none=>simp[nS];rw[zr ω ω];exact ih (k+1) hlt ω
   have:k=l.length:=ω
   subst this;rw[h2,List.drop_length];rfl
 exact gen Vn 0 (pQ _) (by show l.length-0<18446744073709551616;omega)
end
section
variable {S:Type}
def rv (k:Nat):TC->Nat
 |[]=>0
 |i::u=>rv k u*k+i+1
def z4g (k:Nat)(bad:S->Nat->Bool)(nx:S->Nat->Option S)(p0:S):TC->S->Prop
 |[],q=>q=p0
 |i::u,q=>∃p,z4g k bad nx p0 u p/\i<k/\bad p i=false/\nx p i=some q
def zmF (k:Nat)(bad:S->Nat->Bool)(nx:S->Nat->Option S)(p0:S):TC->Prop
 |[]=>False
 |i::u=>∃p,z4g k bad nx p0 u p/\i<k/\bad p i=true
def K1 (k:Nat)(bad:S->Nat->Bool)(nx:S->Nat->Option S):S->TC->Prop
 |_,[]=>False
 |p,[i]=>i<k/\bad p i=true
 |p,i::w=>i<k/\bad p i=false/\∃q,nx p i=some q/\K1 k bad nx q w
structure Bfs (k:Nat)(bad:S->Nat->Bool)(nx:S->Nat->Option S)(p0:S)(L:List (S×TC))(at_ i:Nat):Prop where
 first:L[0]?=some (p0,[])
 mono:∀(j j':Nat) (a b:S×TC),j<j'->L[j]?=some a->L[j']?=some b->rv k a.2<rv k b.2
 path:∀a∈L,z4g k bad nx p0 a.2 a.1
 ahead:∀a c,L[at_]?=some c->a∈L->rv k a.2<rv k c.2*k+i+1
 pos:i<=k
 lies:at_<=L.length
 fin:at_=L.length->i=0
 short:∀(j:Nat) (a:S×TC),L[j]?=some a->a.2.length<=j
 seen:∀(j x:Nat) (a:S×TC),L[j]?=some a->x<k->(j<at_\/j=at_/\x<i)->bad a.1 x=false/\∀q,nx a.1 x=some q->∃b∈L,b.1=q/\rv k b.2<=rv k a.2*k+x+1
variable {k:Nat}{bad:S->Nat->Bool}{nx:S->Nat->Option S}{p0:S}
def Bfs.start:Bfs k bad nx p0 [(p0,[])] 0 0:={
 first:=rfl
 mono:=by intro j j' a b h h1 h2;have:=(pC.1 h2).1;simp at this;omega
 path:=by intro a ha;simp at ha;subst ha;rfl
 ahead:=by intro a c _ ha;simp at ha;subst ha;simp[rv]
 pos:=pQ _
 lies:=ς
 fin:=by intro;rfl
 short:=by intro j a h;have:=(pC.1 h).1;simp at this;subst this;simp at h;subst h;simp
 seen:=by rintro j x a h _ (q|⟨_,q⟩)<;>omega }
def Bfs.old {L:List (S×TC)}{a i:Nat}(h:Bfs k bad nx p0 L a i){c:S×TC}(hc:L[a]?=some c)(hi:i<k)(hb:bad c.1 i=false)
  (hn:∀q,nx c.1 i=some q->∃b∈L,b.1=q):Bfs k bad nx p0 L a (i+1):={
 first:=h.first
 mono:=h.mono
 path:=h.path
 ahead:=λx y hy hx=>by have:=h.ahead x y hy hx;omega
 pos:=hi
 lies:=h.lies
 fin:=λe=>by have:=(pC.1 hc).1;omega
 short:=h.short
 seen:=by
  intro j x y hy hx q;by_cases e:j=a/\x=i
  ·obtain⟨rfl,rfl⟩:=e;rw[hc]at hy;cases hy;refine⟨hb,λq hq=>?_⟩;have ⟨b,h1,h2⟩:=hn q hq;exact⟨b,h1,h2,by have:=h.ahead b c hc h1;omega⟩
  exact h.seen j x y hy hx ω }
def Bfs.new {L:List (S×TC)}{a i:Nat}(h:Bfs k bad nx p0 L a i){c:S×TC}(hc:L[a]?=some c)(hi:i<k)(hb:bad c.1 i=false){q:S}
  (hn:nx c.1 i=some q):Bfs k bad nx p0 (L++[(q,i::c.2)]) a (i+1):=by
 have hlt:=(pC.1 hc).1;refine⟨?_,?_,?_,?_,hi,by simp;omega,λe=>by simp at e;omega,?_,?_⟩
 ·rw[pI ω];exact h.first
 ·intro j j' x y hj h1 h2;have hl:=(pC.1 h2).1;simp at hl;rw[pI ω]at h1;rcases pM j' L.length with g|g
  ·rw[pI g]at h2;exact h.mono j j' x y hj h1 h2
  have:j'=L.length:=ω
  subst this;simp at h2;subst h2;exact h.ahead x c hc (pT h1)
 ·intro x hx;rcases pD.1 hx with g|g
  ·exact h.path x g
  simp at g;subst g;exact⟨c.1,h.path c (pT hc),hi,hb,hn⟩
 ·intro x y hy hx;rw[pI hlt]at hy;rcases pD.1 hx with g|g
  ·have:=h.ahead x y hy g;omega
  simp at g;subst g;rw[hc]at hy;cases hy;simp[rv]
 ·intro j y hy;rcases pM j L.length with g|g
  ·rw[pI g]at hy;exact h.short j y hy
  have hl:=(pC.1 hy).1;simp at hl;have:j=L.length:=ω
  subst this;simp at hy;subst hy;have:=h.short a c hc;simp;omega
 intro j x y hy hx g;rw[pI ω]at hy;by_cases e:j=a/\x=i
 ·obtain⟨rfl,rfl⟩:=e;rw[hc]at hy;cases hy;refine⟨hb,λq' hq=>?_⟩;rw[hn]at hq;cases hq;exact⟨(q,x::c.2),ς,rfl,pF _⟩
 have ⟨h1,h2⟩:=h.seen j x y hy hx ω;refine⟨h1,λq' hq=>?_⟩;have ⟨b,g1,g2⟩:=h2 q' hq;exact⟨b,rf _ g1,g2⟩
def Bfs.step {L:List (S×TC)}{a:Nat}(h:Bfs k bad nx p0 L a k)(ha:a<L.length):Bfs k bad nx p0 L (a+1) 0:={
 first:=h.first
 mono:=h.mono
 path:=h.path
 ahead:=by intro x c hc hx;have h1:=h.ahead x _ (pB ha) hx;have h2:=h.mono a (a+1) _ _ ω (pB ha) hc;have h3:(rv k L[a].2+1)*k<=rv k c.2*k:=pV _ h2;rw[sI]at h3;omega
 pos:=pQ _
 lies:=ha
 fin:=λ_=>rfl
 short:=h.short
 seen:=λj x b hb hx g=>h.seen j x b hb hx (by rcases g with g|⟨_,g⟩<;>omega) }
def Bfs.reach {L:List (S×TC)}{a i:Nat}(h:Bfs k bad nx p0 L a i):∀(u:TC) (q:S),z4g k bad nx p0 u q->(∀c,L[a]?=some c->rv k u<rv k c.2*k+i+1)->∃(j:Nat) (b:S×TC),L[j]?=some b/\b.1=q/\rv k b.2<=rv k u
 |[],q,hp,_=>⟨0,_,h.first,hp.symm,pQ _⟩
 |x::u,q,⟨p,hp,hx,hb,hn⟩,hlt=>by
  have hk:rv k u<=rv k u*k:=Nat.le_mul_of_pos_right _ ω;obtain⟨j,b,hj,rfl,hr⟩:=h.reach u p hp λc hc=>by have:=hlt c hc;simp[rv]at this;omega
  have hmul:rv k b.2*k<=rv k u*k:=pV _ hr;have hjl:=(pC.1 hj).1;have hpos:j<a\/j=a/\x<i:=by
   rcases nE j a with g|g|g
   ·exact .inl g
   ·subst g;refine .inr ⟨rfl,?_⟩;have:=hlt b hj;simp[rv]at this;omega
   exfalso;have hal:a<L.length:=ω
   have h1:=hlt _ (pB hal);have h2:=h.mono a j _ _ g (pB hal) hj;have h3:(rv k L[a].2+1)*k<=rv k b.2*k:=pV _ h2;rw[sI]at h3;have:=h.pos;simp[rv]at h1;omega
  have ⟨_,h2⟩:=h.seen j x b hj hx hpos;have ⟨c,g1,g2,g3⟩:=h2 q hn;have ⟨j',g4⟩:=rN g1;exact⟨j',c,g4,g2,by simp[rv];omega⟩
def z74 {i:Nat}{q:S}(hi:i<k)(hb:bad p0 i=false)(hn:nx p0 i=some q):∀{u:TC} {r:S},z4g k bad nx q u r->z4g k bad nx p0 (u++[i]) r
 |[],r,h=>⟨p0,rfl,hi,hb,by rw[hn];exact congrArg some h.symm⟩
 |x::u,r,⟨p,hp,h⟩=>⟨p,z74 hi hb hn hp,h⟩
def z5o:∀{w:TC} {p:S},K1 k bad nx p w->zmF k bad nx p w.reverse
 |[],_,h=>h.elim
 |[i],p,h=>⟨p,rfl,h⟩
 |i::j::w,p,⟨hi,hb,q,hn,h⟩=>by
  have:=z5o h;rw[rl];cases hr:(j::w).reverse with
  |nil=>simp at hr
  |cons x u=>rw[hr]at this;have ⟨r,h1,h2⟩:=this;exact⟨r,z74 hi hb hn h1,h2⟩
def zdH:TC->TC->Prop
 |[],_=>True
 |i::u,j::v=>i<j\/i=j/\zdH u v
 |_::_,[]=>False
def zbh:∀{w:TC} {p:S},K1 k bad nx p w->∀x∈w,x<k
 |[],_,h=>h.elim
 |[i],_,h=>ξ h.1
 |i::j::w,_,⟨hi,_,q,_,h⟩=>by
  intro x hx;rcases pG.1 hx with rfl|hx
  ·exact hi
  exact zbh h x hx
def Mk (k:Nat)(bad:S->Nat->Bool)(nx:S->Nat->Option S):Nat->S->Prop
 |0,_=>False
 |n+1,p=>Mk k bad nx n p\/∃i,i<k/\(bad p i=true\/∃q,nx p i=some q/\Mk k bad nx n q)
def Mk.mono {n m:Nat}{p:S}(h:Mk k bad nx n p)(hm:n<=m):Mk k bad nx m p:=by
 induction hm with
 |refl=>exact h
 |step _ ih=>exact .inl ih
def Mk.tell:∀{n:Nat} {p:S},Mk k bad nx n p->∃w,K1 k bad nx p w/\w.length<=n
 |0,_,h=>h.elim
 |n+1,p,.inl h=>by have ⟨w,h1,h2⟩:=Mk.tell h;exact⟨w,h1,ω⟩
 |n+1,p,.inr ⟨i,hi,h⟩=>by
  by_cases hb:bad p i=true
  ·exact⟨[i],⟨hi,hb⟩,ς⟩
  rcases h with h|⟨q,hq,h⟩
  ·exact(hb h).elim
  have ⟨w,h1,h2⟩:=Mk.tell h;refine⟨i::w,?_,by simp;omega⟩;cases w with
  |nil=>exact h1.elim
  |cons j w=>exact⟨hi,ξ hb,q,hq,h1⟩
def Va:∀{w:TC} {p:S},K1 k bad nx p w->Mk k bad nx w.length p
 |[],_,h=>h.elim
 |[i],p,h=>.inr ⟨i,h.1,.inl h.2⟩
 |i::j::w,p,⟨hi,hb,q,hn,h⟩=>.inr ⟨i,hi,.inr ⟨q,hn,Va h⟩⟩
def Jt (k:Nat)(bad:S->Nat->Bool)(nx:S->Nat->Option S):Nat->S->TC->Prop
 |0,_,w=>w=[]
 |n+1,p,w=>∃i u,w=i::u/\i<k/\(bad p i=true\/∃q,nx p i=some q/\Mk k bad nx n q)/\(∀j,j<i->¬(bad p j=true\/∃q,nx p j=some q/\Mk k bad nx n q))/\(0<n->∃q,nx p i=some q/\Jt k bad nx n q u)/\(n=0->u=[])
def z1E:∀{n:Nat} {p:S} {w:TC},Mk k bad nx (n+1) p->¬Mk k bad nx n p->Jt k bad nx (n+1) p w->K1 k bad nx p w/\w.length=n+1/\∀v,K1 k bad nx p v->w.length<=v.length/\(w.length=v.length->zdH w v)
 |0,p,w,h,_,⟨i,u,ew,hi,hb,hl,_,hu⟩=>by
  subst ew;have hu:=hu rfl;subst hu;have hb:bad p i=true:=by
   rcases hb with hb|⟨q,_,h⟩
   ·exact hb
   exact h.elim
  refine⟨⟨hi,hb⟩,rfl,λv hv=>?_⟩;cases v with
  |nil=>exact hv.elim
  |cons j v=>
   refine⟨ς,λe=>?_⟩;have:v=[]:=ξ e.symm
   subst this;rcases nE i j with q|q|q
   ·exact .inl q
   ·exact .inr ⟨q,trivial⟩
   exact(hl j q (.inl hv.2)).elim
 |n+1,p,w,h,hn,⟨i,u,ew,hi,hb,hl,hq,_⟩=>by
  subst ew;have ⟨q,hq1,hq2⟩:=hq ω;have nb:∀j,j<k->bad p j=false:=by
   intro j hj;cases hc:bad p j with
   |false=>rfl
   |true=>exact(hn ((Mk.mono (n:=1) (.inr ⟨j,hj,.inl hc⟩) ω))).elim
  have hm:Mk k bad nx (n+1) q:=by
   rcases hb with hb|⟨q',e,h⟩
   ·rw[nb i hi]at hb;cases hb
   rw[hq1]at e;cases e;exact h
  have hm':¬Mk k bad nx n q:=λg=>hn (.inr ⟨i,hi,.inr ⟨q,hq1,g⟩⟩);have ⟨t,tl,tm⟩:=z1E hm hm' hq2;refine⟨?_,by simp[tl],λv hv=>?_⟩
  ·cases u with
   |nil=>exact t.elim
   |cons j u=>exact⟨hi,nb i hi,q,hq1,t⟩
  have hlen:n+2<=v.length:=by
   rcases pM v.length (n+2) with g|g
   ·exact(hn (Mk.mono (Va hv) ω)).elim
   exact g
  refine⟨by simp[tl];omega,λe=>?_⟩;match v,hv with
  |[],hv=>exact hv.elim
  |[j],hv=>simp[tl]at e
  |j::x::v,⟨hj,hjb,r,hr,hv⟩=>
   have hmj:Mk k bad nx (n+1) r:=Mk.mono (Va hv) (by simp at e⊢;omega);rcases nE i j with g|rfl|g
   ·exact .inl g
   ·rw[hq1]at hr;cases hr;exact .inr ⟨rfl,(tm _ hv).2 (ξ e)⟩
   exact(hl j g (.inr ⟨r,hr,hmj⟩)).elim
end
variable {α:Type}
def z3p {p q:α->Bool}:∀{l:List α},(∀x∈l,p x=true->q x=true)->(∃x∈l,q x=true/\p x=false)->l.countP p<l.countP q
 |[],_,⟨x,hx,_⟩=>by cases hx
 |y::l,h,⟨x,hx,h1,h2⟩=>by
  have hm:l.countP p<=l.countP q:=List.countP_mono_left λz hz=>h z (mY _ hz);simp[sL];rcases pG.1 hx with rfl|hx
  ·simp[h1,h2,if_true,gP,if_false];omega
  have:=z3p (λz hz=>h z (mY _ hz)) ⟨x,hx,h1,h2⟩;cases hp:p y with
  |true=>simp[h y ς hp,if_true];omega
  |false=>simp[gP,if_false];split<;>omega
open Classical in
def zgU (N:Nat)(R:Nat->Nat->Prop):Nat:=(List.range N).countP λs=>decide (∀t,t<s->¬R s t)
def zqt {N:Nat}(hN:0<N)(R:Nat->Nat->Nat->Prop)(symm:∀k s t,s<N->t<N->R k s t->R k t s)(trans:∀k s t u,s<N->t<N->u<N->R k s t->R k t u->R k s u)
  (refl:∀k s,s<N->R k s s) (mono:∀k s t,s<N->t<N->R (k+1) s t->R k s t) (stat:∀k,(∀s t,s<N->t<N->R k s t->R (k+1) s t)->∀s t,s<N->t<N->R (k+1) s t->R (k+2) s t) :
  ∀s t,s<N->t<N->R (N-1) s t->∀j,R j s t:=by
 classical
 have step:∀k,(¬∀s t,s<N->t<N->R k s t->R (k+1) s t)->zgU N (R k)<zgU N (R (k+1)):=by
  intro k hk;simp only[Classical.not_forall]at hk;have ⟨s,t,hs,ht,h1,h2⟩:=hk;unfold zgU;refine z3p (λx hx=>?_) ?_
  ·have hx:=gN.1 hx;simp only[decide_eq_true_eq];exact λh t ht q=>h t ht (mono k x t hx ω q)
  ·
   have hmin:∃z,z<N/\R k z s/\∀y,y<z->¬R k y s:=by
    have key:∀n,∀z,z<=n->z<N->R k z s->∃z,z<N/\R k z s/\∀y,y<z->¬R k y s:=by
     intro n;induction n with
     |zero=>intro z hz hzN hr;exact⟨z,hzN,hr,λy hy=>ω⟩
     |succ n ih=>
      intro z hz hzN hr;by_cases q:∃y,y<z/\R k y s
      ·have ⟨y,y1,y2⟩:=q;exact ih y ω ω y2
      exact⟨z,hzN,hr,λy hy g=>q ⟨y,hy,g⟩⟩
    exact key s s (pF _) hs (refl k s hs)
   have ⟨z,hz,hzs,hzm⟩:=hmin;have hzt:R k z t:=trans k z s t hz hs ht hzs h1;obtain⟨u,hu,hzu,hne⟩:∃u,u<N/\R k z u/\¬R (k+1) z u:=by
    by_cases q:R (k+1) z s
    ·by_cases g:R (k+1) z t
     ·exact(h2 (trans (k+1) s z t hs hz ht (symm _ _ _ hz hs q) g)).elim
     exact⟨t,ht,hzt,g⟩
    exact⟨s,hs,hzs,q⟩
   have hmin:∃y,y<N/\R (k+1) y u/\∀x,x<y->¬R (k+1) x u:=by
    have key:∀n,∀z,z<=n->z<N->R (k+1) z u->∃z,z<N/\R (k+1) z u/\∀y,y<z->¬R (k+1) y u:=by
     intro n;induction n with
     |zero=>intro z hz hzN hr;exact⟨z,hzN,hr,λy hy=>ω⟩
     |succ n ih=>
      intro z hz hzN hr;by_cases q:∃y,y<z/\R (k+1) y u
      ·have ⟨y,y1,y2⟩:=q;exact ih y ω ω y2
      exact⟨z,hzN,hr,λy hy g=>q ⟨y,hy,g⟩⟩
    exact key u u (pF _) hu (refl _ u hu)
   have ⟨y,hy,hyu,hym⟩:=hmin;have hyk:R k y u:=mono k y u hy hu hyu;have hyz:R k y z:=trans k y u z hy hu hz hyk (symm _ _ _ hz hu hzu);have hzy:z<y:=by
    rcases nE z y with g|g|g
    ·exact g
    ·subst g;exact(hne hyu).elim
    exact(hzm y g (trans k y z s hy hz hs hyz hzs)).elim
   refine⟨y,gN.2 hy,?_,?_⟩
   ·simp only[decide_eq_true_eq];intro x hx q;exact hym x hx (trans (k+1) x y u ω hy hu (symm _ _ _ hy ω q) hyu)
   simp only[decide_eq_false_iff_not];intro q;exact q z hzy hyz
 have le:∀k,zgU N (R k)<=N:=by intro k;unfold zgU;refine pJ (sJ) ?_;simp
 have one:∀k,1<=zgU N (R k):=by intro k;unfold zgU;refine List.countP_pos_iff.2 ⟨0,gN.2 hN,?_⟩;simp
 have rest:∃k,k<N/\∀s t,s<N->t<N->R k s t->R (k+1) s t:=by
  refine gE λhno=>?_;have:∀k,k<=N->k+1<=zgU N (R k):=by
   intro k;induction k with
   |zero=>intro _;exact one 0
   |succ k ih=>intro hk;have:=step k λh=>hno ⟨k,ω,h⟩;have:=ih ω;omega
  have:=this N (pF _);have:=le N;omega
 have ⟨k,hk,hst⟩:=rest;have up:∀d,∀s t,s<N->t<N->R (k+d) s t->R (k+d+1) s t:=by
  intro d;induction d with
  |zero=>exact hst
  |succ d ih=>exact stat (k+d) ih
 have down:∀d j s t,s<N->t<N->R (j+d) s t->R j s t:=by
  intro d;induction d with
  |zero=>intro j s t _ _ h;exact h
  |succ d ih=>intro j s t hs ht h;exact ih j s t hs ht (mono _ s t hs ht h)
 intro s t hs ht h j;have hk':R k s t:=down (N-1-k) k s t hs ht (by rw[show k+(N-1-k)=N-1 by omega];exact h);have far:∀d,R (k+d) s t:=by
  intro d;induction d with
  |zero=>exact hk'
  |succ d ih=>exact up d s t hs ht ih
 exact down k j s t hs ht (by rw[sX];exact far j)
section
variable {S S':Type}{k:Nat}{bad:S->Nat->Bool}{nx:S->Nat->Option S}{bad':S'->Nat->Bool}{nx':S'->Nat->Option S'}(φ:S->S')(I:S->Prop)
 (hI:∀p i q,I p->i<k->nx p i=some q->I q) (hb:∀p i,I p->i<k->bad' (φ p) i=bad p i) (hn:∀p i,I p->i<k->nx' (φ p) i=(nx p i).map φ)
include hI hb hn
theorem JK:∀(n:Nat) (p:S),I p->(Mk k bad' nx' n (φ p)↔Mk k bad nx n p)
 |0,_,_=>Iff.rfl
 |n+1,p,hp=>by
  simp[Mk];rw[JK n p hp];constructor
  ·rintro(h|⟨i,hi,h|⟨q,hq,h⟩⟩)
   ·exact .inl h
   ·exact .inr ⟨i,hi,.inl (by rw[<-hb p i hp hi];exact h)⟩
   rw[hn p i hp hi]at hq;obtain⟨r,hr,rfl⟩:=pZ.1 hq;exact .inr ⟨i,hi,.inr ⟨r,hr,(JK n r (hI p i r hp hi hr)).1 h⟩⟩
  rintro(h|⟨i,hi,h|⟨q,hq,h⟩⟩)
  ·exact .inl h
  ·exact .inr ⟨i,hi,.inl (by rw[hb p i hp hi];exact h)⟩
  exact .inr ⟨i,hi,.inr ⟨φ q,by rw[hn p i hp hi,hq];rfl,(JK n q (hI p i q hp hi hq)).2 h⟩⟩
theorem z1F:∀(n:Nat) (p:S) (w:TC),I p->Jt k bad' nx' n (φ p) w->Jt k bad nx n p w
 |0,_,_,_,h=>h
 |n+1,p,w,hp,⟨i,u,e,hi,h1,h2,h3,h4⟩=>by
  refine⟨i,u,e,hi,?_,?_,?_,h4⟩
  ·rcases h1 with h|⟨q,hq,h⟩
   ·exact .inl (by rw[<-hb p i hp hi];exact h)
   rw[hn p i hp hi]at hq;obtain⟨r,hr,rfl⟩:=pZ.1 hq;exact .inr ⟨r,hr,(JK φ I hI hb hn n r (hI p i r hp hi hr)).1 h⟩
  ·intro j hj h;apply h2 j hj;rcases h with h|⟨q,hq,h⟩
   ·exact .inl (by rw[hb p j hp ω];exact h)
   exact .inr ⟨φ q,by rw[hn p j hp ω,hq];rfl,(JK φ I hI hb hn n q (hI p j q hp ω hq)).2 h⟩
  intro hn0;have ⟨q,hq,h⟩:=h3 hn0;rw[hn p i hp hi]at hq;obtain⟨r,hr,rfl⟩:=pZ.1 hq;exact⟨r,hr,z1F n r u (hI p i r hp hi hr) h⟩
end
def z8H (m:z6)(x:z7):Bool:=(x.o == -1&&x.r == -1) ||(decide (0<=x.o)&&decide (x.o<(m.i.length:Int))&&decide (0<=x.r)&&decide (x.r<m.m))
def zaH (m:z6)(r:List z7):Bool:=decide ((r.length:Int)=m.j)&&r.all (z8H m)
def chk (m:z6):Int :=
 if m.j>16\/m.m>16\/(m.i.length:Int)>64 then 3 else if m.j<1\/m.m<1\/m.i.length=0 then 1 else if m.i.all (zaH m)=true then 0 else 1
def zja (m:z6)(x:z7):Xr m x=some (z8H m x):=by
 unfold Xr um;simp[nQ,sD];rcases Bool.eq_false_or_eq_true (x.o==(-1)&&x.r==(-1)) with h|h
 ·simp[z8H,h]
 rw[h];simp[z8H,h,rD,cond_false];by_cases h1:(0:Int)<=x.o
 ·by_cases h2:x.o<(m.i.length:Int)
  ·by_cases h3:(0:Int)<=x.r
   ·simp[rF,h1,h2,h3]
   simp[rF,h1,h2,h3]
  simp[rF,h1,h2]
 simp[h1]
def z8M (m:z6)(r:List z7)(hl:r.length<4611686018427387904):y8 r m=some (!r.all (z8H m)):=by
 have hloop:loop (λs=>y7 r m s) 0=some (oS (y5 (λi x=>if z8H m x=true then none else some (i:Int)) r 0)):=by
  refine vt r hl _ ?_ ?_
  ·intro i x hx;have hi:=(pC.1 hx).1;unfold y7;have hd:decide ((i:Int)<(r.length:Int))=true:=ξ hi
   rw[hd,cond_true,zA,bdT hx];unfold Xb;simp[zja,nQ];cases z8H m x<;>rfl
  unfold y7;simp
 unfold y8 xp;rw[hloop];simp[nQ];cases hf:y5 (λi x=>if z8H m x=true then none else some (i:Int)) r 0 with
 |some q=>
  have ⟨i,x,h1,h2⟩:=kH hf;have hx:z8H m x≠true:=by intro h;rw[if_pos h]at h2;cases h2
  rw[if_neg hx]at h2;simp[Option.some.injEq]at h2;have:r.all (z8H m)=false:=by rw[List.all_eq_false];exact⟨x,pT h1,hx⟩
  rw[this];have:(q:Int)>=0:=by rw[<-h2];omega
  show some (decide (q>=0))=_;simp[this]
 |none=>
  have:r.all (z8H m)=true:=by
   rw[gM];intro x hx;have ⟨i,hi⟩:=rN hx;have:=ZG hf i x hi;by_cases h:z8H m x=true
   ·exact h
   rw[if_neg h]at this;cases this
  rw[this];rfl
variable {m:z6}
def zaZ (h0:(m.i.length:Int)<=64)(h1:m.j<=16):loop (λs=>qV m s) 0=some (oS (y5 (λ_ r=>if zaH m r=true then none else some (1:Int)) m.i 0)):=by
 refine vt m.i ω _ ?_ ?_
 ·intro i r hr;have hi:=(pC.1 hr).1;unfold qV;have hd:decide ((i:Int)<(m.i.length:Int))=true:=ξ hi
  rw[hd,cond_true,zA,bdT hr];by_cases hlen:(r.length:Int)=m.j
  ·have hne:((r.length:Int) != m.j)=false:=ξ hlen
   rw[hne,cond_false,bdT (z8M m r ω)];have:zaH m r=r.all (z8H m):=by simp[zaH,hlen]
   rw[this];cases r.all (z8H m)<;>rfl
  have hne:((r.length:Int) !=m.j)=true:=ξ hlen
  rw[hne,cond_true];have:zaH m r=false:=by simp[zaH,hlen]
  rw[this];rfl
 unfold qV;simp
def zaF (m:z6):y5 (λ_ r=>if zaH m r=true then none else some (1:Int)) m.i 0=if m.i.all (zaH m)=true then none else some 1:=by
 by_cases h:m.i.all (zaH m)=true
 ·rw[if_pos h];refine UD λi r hr=>?_;rw[if_pos (gM.1 h r (pT hr))]
 rw[if_neg h];cases hf:y5 (λ_ r=>if zaH m r=true then none else some (1:Int)) m.i 0 with
 |some q=>
  have ⟨i,x,h1,h2⟩:=kH hf;split at h2
  ·cases h2
  exact h2.symm▸rfl
 |none=>
  exfalso;apply h;rw[gM];intro x hx;have ⟨i,hi⟩:=rN hx;have:=ZG hf i x hi;by_cases h:zaH m x=true
  ·exact h
  rw[if_neg h]at this;cases this
def V4 (m:z6):yU m=some (chk m):=by
 unfold yU chk;by_cases h1:m.j>16
 ·simp[h1]
 by_cases h2:m.m>16
 ·simp[rF,h1,h2]
 by_cases h3:(m.i.length:Int)>64
 ·simp[rF,h1,h2,h3]
 rw[if_neg (by simp[h1,h2,h3])];by_cases h4:m.j<1
 ·simp[rF,h1,h2,h3,h4]
 by_cases h5:m.m<1
 ·simp[rF,h1,h2,h3,h4,h5]
 by_cases h6:m.i.length=0
 ·simp[rF,h1,h2,h4,h5,h6]
 rw[if_neg (by simp[h4,h5,h6])];have h6':decide ((m.i.length:Int)<1)=false:=by simp;omega
 have e1:decide (m.j>16)=false:=ξ h1
 have e2:decide (m.m>16)=false:=ξ h2
 have e3:decide ((m.i.length:Int)>64)=false:=ξ h3
 have e4:decide (m.j<1)=false:=ξ h4
 have e5:decide (m.m<1)=false:=ξ h5
 simp only[e1,e2,e3,e4,e5,h6',cond_false];rw[bdT (zaZ ω ω),zaF];by_cases h:m.i.all (zaH m)=true
 ·rw[if_pos h,if_pos h];rfl
 rw[if_neg h,if_neg h];rfl
structure VM (m:z6):Prop where
 Q:1<=m.j
 N:m.j<=16
 out1:1<=m.m
 out16:m.m<=16
 D:1<=m.i.length
 w:m.i.length<=64
 row:∀r∈m.i,(r.length:Int)=m.j
 edge:∀r∈m.i,∀x∈r,(x.o=-1/\x.r=-1)\/(0<=x.o/\x.o<(m.i.length:Int)/\0<=x.r/\x.r<m.m)
def z0y (h:VM m):chk m=0:=by
 unfold chk;have:=h.Q;have:=h.N;have:=h.out1;have:=h.out16;have:=h.D;have:=h.w;rw[if_neg ω,if_neg ω,if_pos];rw[gM];intro r hr;simp[zaH,pN,decide_eq_true_eq,gM];refine⟨h.row r hr,λx hx=>?_⟩;simp[z8H,mN,pN,beq_iff_eq,decide_eq_true_eq];rcases h.edge r hr x hx with⟨a,b⟩|⟨a,b,c,d⟩
 ·exact .inl ⟨a,b⟩
 exact .inr ⟨⟨⟨a,b⟩,c⟩,d⟩
def kk (m:z6):Nat:=m.j.toNat
def E (m:z6)(s i:Nat):z7:=((m.i[s]?.getD [])[i]?).getD ⟨-1,-1⟩
variable {s i:Nat}{β:Type}
section
variable {m:z6}(h:VM m)
include h
theorem VM.kk_eq:((kk m:Nat):Int)=m.j:=by have:=h.Q;unfold kk;omega
theorem VM.kk_pos:1<=kk m:=by have:=h.Q;unfold kk;omega
theorem VM.kk_le:kk m<=16:=by have:=h.N;unfold kk;omega
theorem VM.rowAt {s:Nat}(hs:s<m.i.length):∃r,m.i[s]?=some r/\r.length=kk m/\∀i,i<kk m->r[i]?=some (E m s i):=by
 have hr:=pB hs;have hl:=h.row _ (pO hs);have hl':m.i[s].length=kk m:=by unfold kk;omega
 refine⟨_,hr,hl',λi hi=>?_⟩;have hi':i<m.i[s].length:=ω
 unfold E;rw[hr];simp[pX];rw[pB hi'];rfl
theorem VM.edgeAt (hs:s<m.i.length)(hi:i<kk m):((E m s i).o=-1/\(E m s i).r=-1)\/(0<=(E m s i).o/\(E m s i).o<(m.i.length:Int)/\0<=(E m s i).r/\(E m s i).r<m.m):=by have ⟨r,h1,_,h2⟩:=h.rowAt hs;exact h.edge r (pT h1) _ (pT (h2 i hi))
theorem VM.edge_eq (hs:s<m.i.length)(hi:i<kk m)  {f:z7->Option β} :
  (Option.bind (idx m.i (s:Int)) λr=>Option.bind (idx r (i:Int)) f)=f (E m s i):=by
 have ⟨r,h1,_,h2⟩:=h.rowAt hs;rw[zA,h1,nQ,zA,h2 i hi,nQ]
end
section
variable {K V:Type}[BEq K][LawfulBEq K]
def z2e (l:List (K×V))(x y:K)(v:V):VU (z35 l x v) y=if(x==y)=true then some v else VU l y:=by
 induction l with
 |nil=>simp[z35,VU]
 |cons p l ih=>
  simp[z35];by_cases h:p.1=x
  ·rw[if_pos (ξ h)];simp[VU];by_cases q:x=y
   ·rw[if_pos (ξ q),if_pos (ξ q)]
   rw[if_neg (ξ q),if_neg (ξ q),if_neg (by rw[h];simpa using q)]
  rw[if_neg (ξ h)];simp[VU,ih];by_cases q:p.1=y
  ·have q':¬x=y:=by rintro rfl;exact h q
   have e1:(p.1==y)=true:=ξ q
   have e2:(x==y)=false:=ξ q'
   simp[e1,e2]
  have e1:(p.1==y)=false:=ξ q
  simp[e1]
end
def Wg:∀(n:Nat) (l:TC),l.Nodup->(∀x∈l,x<n)->l.length<=n
 |0,l,_,h=>by
  cases l with
  |nil=>simp
  |cons x l=>have:=h x ς;omega
 |n+1,l,hd,h=>by
  by_cases hm:n∈l
  ·have h1:=sd hm;have h2:=Wg n (l.erase n) (hd.erase n) λx hx=>by have h3:=(hd.mem_erase_iff).1 hx;have:=h x h3.2;have:=h3.1;omega
   have:0<l.length:=List.length_pos_of_mem hm;omega
  have:=Wg n l hd λx hx=>by have:=h x hx;have:x≠n:=λe=>hm (e▸hx);omega
  omega
def wo (a b:z6)(p:Nat×Nat)(i:Nat):Bool:=(E a p.1 i).r !=(E b p.2 i).r
def nxP (a b:z6)(p:Nat×Nat)(i:Nat):Option (Nat×Nat):=if 0<=(E a p.1 i).o/\0<=(E b p.2 i).o then some ((E a p.1 i).o.toNat,(E b p.2 i).o.toNat) else none
def pA (q:Nat×Nat):wF Int:=⟨q.1,q.2⟩
def z5S {a b:z6}(hab:a.j=b.j):kk a=kk b:=by unfold kk;rw[hab]
structure WM (m:z6):Prop where
 Q:1<=m.j
 N:m.j<=16
 D:1<=m.i.length
 len:m.i.length<=128
 row:∀r∈m.i,(r.length:Int)=m.j
 edge:∀r∈m.i,∀x∈r,(x.o=-1/\x.r=-1)\/(0<=x.o/\x.o<(m.i.length:Int)/\0<=x.r)
def VM.wm (h:VM m):WM m:=⟨h.Q,h.N,h.D,by have:=h.w;omega,h.row,λr hr x hx=>by
 rcases h.edge r hr x hx with g|⟨g1,g2,g3,_⟩
 ·exact .inl g
 exact .inr ⟨g1,g2,g3⟩⟩
variable {p:Nat×Nat}
section
variable {m:z6}(h:WM m)
include h
theorem WM.kk_eq:((kk m:Nat):Int)=m.j:=by have:=h.Q;unfold kk;omega
theorem WM.kk_le:kk m<=16:=by have:=h.N;unfold kk;omega
theorem WM.rowAt {s:Nat}(hs:s<m.i.length):∃r,m.i[s]?=some r/\r.length=kk m/\∀i,i<kk m->r[i]?=some (E m s i):=by
 have hr:=pB hs;have hl:=h.row _ (pO hs);have hl':m.i[s].length=kk m:=by unfold kk;omega
 refine⟨_,hr,hl',λi hi=>?_⟩;have hi':i<m.i[s].length:=ω
 unfold E;rw[hr];simp[pX];rw[pB hi'];rfl
theorem WM.edgeAt (hs:s<m.i.length)(hi:i<kk m):((E m s i).o=-1/\(E m s i).r=-1)\/(0<=(E m s i).o/\(E m s i).o<(m.i.length:Int)/\0<=(E m s i).r):=by have ⟨r,h1,_,h2⟩:=h.rowAt hs;exact h.edge r (pT h1) _ (pT (h2 i hi))
theorem WM.edge_eq (hs:s<m.i.length)(hi:i<kk m)  {f:z7->Option β} :
  (Option.bind (idx m.i (s:Int)) λr=>Option.bind (idx r (i:Int)) f)=f (E m s i):=by
 have ⟨r,h1,_,h2⟩:=h.rowAt hs;rw[zA,h1,nQ,zA,h2 i hi,nQ]
theorem WM.nx_in {i:Nat}{q:Nat×Nat}(h1:p.1<m.i.length)(h2:p.2<m.i.length)(hi:i<kk m)(hq:nxP m m p i=some q):q.1<m.i.length/\q.2<m.i.length:=by
 unfold nxP at hq;split at hq
 ·rename_i hc;cases hq;have a:=h.edgeAt h1 hi;have b:=h.edgeAt h2 hi;simp only;omega
 cases hq
end
def mkb (k:Nat)(bad:Nat×Nat->Nat->Bool)(nx:Nat×Nat->Nat->Option (Nat×Nat)):Nat->Nat×Nat->Bool
 |0,_=>false
 |n+1,p=>mkb k bad nx n p ||(List.range k).any λi=>bad p i ||(match nx p i with|some q=>mkb k bad nx n q|none=>false)
def Us (k:Nat)(bad:Nat×Nat->Nat->Bool)(nx:Nat×Nat->Nat->Option (Nat×Nat)):∀(n:Nat) (p:Nat×Nat),mkb k bad nx n p=true↔Mk k bad nx n p
 |0,p=>by simp[mkb,Mk]
 |n+1,p=>by
  simp only[mkb,Mk,mN,so,gN,Us k bad nx n p];constructor
  ·rintro(h|⟨i,hi,h|h⟩)
   ·exact .inl h
   ·exact .inr ⟨i,hi,.inl h⟩
   cases hq:nx p i with
   |none=>rw[hq]at h;cases h
   |some q=>rw[hq]at h;exact .inr ⟨i,hi,.inr ⟨q,hq,(Us k bad nx n q).1 h⟩⟩
  rintro(h|⟨i,hi,h|⟨q,hq,h⟩⟩)
  ·exact .inl h
  ·exact .inr ⟨i,hi,.inl h⟩
  exact .inr ⟨i,hi,.inr (by rw[hq];exact(Us k bad nx n q).2 h)⟩
def tab (N:Nat)(f:Nat->Nat->Bool):List (List Bool):=(List.range N).map λs=>(List.range N).map λt=>f s t
def z6I {N s t:Nat}(f:Nat->Nat->Bool)(hs:s<N)(ht:t<N)  {g:Bool->Option β}:(Option.bind (idx (tab N f) (s:Int)) λr=>Option.bind (idx r (t:Int)) g)=g (f s t):=by
 have e1:(tab N f)[s]?=some ((List.range N).map λt=>f s t):=by simp[tab,hs]
 have e2:((List.range N).map λt=>f s t)[t]?=some (f s t):=by simp[ht]
 rw[zA,e1,nQ,zA,e2,nQ]
def z6O (N t:Nat)(g:Nat->α)(v:α):((List.range N).map g).set t v=(List.range N).map λx=>if x=t then v else g x:=by
 refine List.ext_getElem ς λn h1 h2=>?_;simp[List.getElem_set,List.getElem_map,List.getElem_range];by_cases e:t=n
 ·rw[if_pos e,if_pos e.symm]
 rw[if_neg e,if_neg (rA e)]
def Jw (m:z6)(f:Nat->Nat->Bool)(p:Nat×Nat)(i:Nat):Bool:=wo m m p i ||(match nxP m m p i with|some q=>f q.1 q.2|none=>false)
def zgv (h:WM m)(f:Nat->Nat->Bool){s t:Nat}(hs:s<m.i.length)(ht:t<m.i.length) :
  Ui m (tab m.i.length f) (s:Int) (t:Int)=some (if(List.range (kk m)).any (Jw m f (s,t))=true then 1 else 0):=by
 have hk:=h.kk_eq;have k16:=h.kk_le;have hl:loop (λq=>Yn m (tab m.i.length f) (s:Int) (t:Int) q) 0=some (oS (y5 (λ_ i=>if Jw m f (s,t) i=true then some (1:Int) else none) (List.range (kk m)) 0)):=by
  refine vt (List.range (kk m)) (by simp;omega) _ ?_ ?_
  ·intro i x hx;have hi:i<kk m:=by have:=(pC.1 hx).1;simpa using this
   have:x=i:=by rw[nW hi]at hx;exact(Option.some.inj hx).symm
   subst this;unfold Yn jK;have hd:decide ((x:Int)<m.j)=true:=by rw[<-hk];simpa using hi
   rw[hd,cond_true,h.edge_eq hs hi,h.edge_eq ht hi];have e1:=h.edgeAt hs hi;have e2:=h.edgeAt ht hi;by_cases hbad:(E m s x).r=(E m t x).r
   ·have n1:((E m s x).r !=(E m t x).r)=false:=ξ hbad
    rw[n1,cond_false];by_cases t1:(E m s x).o>=0
    ·by_cases t2:(E m t x).o>=0
     ·have hnx:nxP m m (s,t) x=some ((E m s x).o.toNat,(E m t x).o.toNat):=by unfold nxP;rw[if_pos ⟨t1,t2⟩]
      have hin:=h.nx_in hs ht hi hnx;have c1:(E m s x).o=(((E m s x).o.toNat:Nat):Int):=ω
      have c2:(E m t x).o=(((E m t x).o.toNat:Nat):Int):=ω
      have ht1:Jw m f (s,t) x=f (E m s x).o.toNat (E m t x).o.toNat:=by unfold Jw wo;rw[hnx];simp[n1,rD]
      rw[decide_eq_true t1,decide_eq_true t2];simp[cond_true];have:=z6I f hin.1 hin.2 (g:=λv=>bif v then some (LR.done (Sum.inr (1:Int)):LR Int (Unit⊕Int)) else some (LR.next (w64 ((x:Int)+1))));rw[<-c1,<-c2]at this;rw[this,ht1];cases f (E m s x).o.toNat (E m t x).o.toNat<;>rfl
     have ht1:Jw m f (s,t) x=false:=by unfold Jw wo nxP;rw[if_neg (by simp only;omega)];simp[n1,rD]
     rw[decide_eq_true t1,decide_eq_false t2,ht1];rfl
    have ht1:Jw m f (s,t) x=false:=by unfold Jw wo nxP;rw[if_neg (by simp only;omega)];simp[n1,rD]
    rw[decide_eq_false t1,ht1];rfl
   have n1:((E m s x).r !=(E m t x).r)=true:=ξ hbad
   have ht1:Jw m f (s,t) x=true:=by unfold Jw wo;simp[n1,Bool.true_or]
   rw[n1,ht1];rfl
  unfold Yn;rw[List.length_range,hk];simp
 unfold Ui;rw[bdT hl];cases hf:y5 (λ(_:Nat) i=>if Jw m f (s,t) i=true then some (1:Int) else none) (List.range (kk m)) 0 with
 |some q=>
  have ⟨i,x,h1,h2⟩:=kH hf;split at h2
  ·rename_i hx;cases h2;have:(List.range (kk m)).any (Jw m f (s,t))=true:=so.2 ⟨x,pT h1,hx⟩;rw[if_pos this];rfl
  cases h2
 |none=>
  have:¬(List.range (kk m)).any (Jw m f (s,t))=true:=by rw[so];rintro⟨x,hx,hx2⟩;have ⟨i,hi⟩:=rN hx;have:=ZG hf i x hi;rw[if_pos hx2]at this;cases this
  rw[if_neg this];rfl
def zbN (N:Nat):List.replicate ((N:Nat):Int).toNat false=(List.range N).map λ_=>false:=by refine List.ext_getElem ς λn h1 h2=>?_;simp
def WE (m:z6)(f:Nat->Nat->Bool)(s t:Nat):Bool:=f s t ||(List.range (kk m)).any (Jw m f (s,t))
def zfl (h:WM m)(f:Nat->Nat->Bool):loop (λq=>qH m (tab m.i.length f) q.1 q.2) (([]:List (List Bool)),0)=some (tab m.i.length (WE m f)):=by
 have zm6:=h.len;have row:∀(s:Nat),s<m.i.length->loop (λq=>qG m (tab m.i.length f) (s:Int) q.1 q.2) (((List.range s).map λs=>(List.range m.i.length).map λt=>WE m f s t)++[(List.range m.i.length).map λ_=>false],0)=some ((List.range (s+1)).map λs=>(List.range m.i.length).map λt=>WE m f s t):=by
  intro s hs;have hst:=xo (step:=λq=>qG m (tab m.i.length f) (s:Int) q.1 q.2) (λt:Nat=>(((List.range s).map λs=>(List.range m.i.length).map λt=>WE m f s t)++[(List.range m.i.length).map λt'=>if t' < t then WE m f s t' else false],(t:Int))) m.i.length (t:=(List.range (s+1)).map λs=>(List.range m.i.length).map λt=>WE m f s t) ω ?_ ?_
  ·simpa using hst
  ·intro t ht;unfold qG;have hd:decide ((t:Int)<(m.i.length:Int))=true:=ξ ht
   have hw:w64 ((t:Int)+1)=((t+1:Nat):Int):=by rw[zr ω ω];rfl
   simp only[hd,cond_true];have e1:(((List.range s).map λs=>(List.range m.i.length).map λt=>WE m f s t)++[(List.range m.i.length).map λt'=>if t' < t then WE m f s t' else false])[s]?=some ((List.range m.i.length).map λt'=>if t' < t then WE m f s t' else false):=by rw[pH ς];simp
   have e2:∀x,((List.range m.i.length).map λt'=>if t' < t then WE m f s t' else false)[t]?=some x↔x=false:=by intro x;simp[ht,eq_comm]
   have e2':=(e2 false).2 rfl;have fin:∀v:Bool,v=WE m f s t->(((List.range s).map λs=>(List.range m.i.length).map λt=>WE m f s t)++[(List.range m.i.length).map λt'=>if t' < t then WE m f s t' else false]).set s (((List.range m.i.length).map λt'=>if t' < t then WE m f s t' else false).set t v)=((List.range s).map λs=>(List.range m.i.length).map λt=>WE m f s t)++[(List.range m.i.length).map λt'=>if t' < t+1 then WE m f s t' else false]:=by
    intro v hv;rw[sV,if_neg ς,z6O];simp only[gD,List.length_range,nO,nX];congr 3;funext x;by_cases e:x=t
    ·subst e;rw[if_pos rfl,if_pos ω];exact hv
    rw[if_neg e];by_cases g:x<t
    ·rw[if_pos g,if_pos ω]
    rw[if_neg g,if_neg ω]
   rw[zA,bdT e1,z6I f hs ht];cases hf:f s t with
   |true=>simp only[cond_true];rw[zA,bdT e2',hw,pE,pE,fin true (by simp[WE,hf])]
   |false=>simp only[cond_false];rw[bdT (zgv h f hs ht),zA,bdT e2',hw,pE,pE,fin _ ?_];unfold WE;rw[hf,rD];cases (List.range (kk m)).any (Jw m f (s,t))<;>rfl
  unfold qG;simp only[s5,decide_false,cond_false];congr 3;rw[rO,gU];congr 1;simp only[gO,rB];congr 1;refine nC λx hx=>?_;rw[if_pos (gN.1 hx)]
 have:=xo (step:=λq=>qH m (tab m.i.length f) q.1 q.2) (λs:Nat=>((List.range s).map λs=>(List.range m.i.length).map λt=>WE m f s t,(s:Int))) m.i.length (t:=tab m.i.length (WE m f)) ω ?_ ?_
 ·exact this
 ·intro s hs;unfold qH W9;have hd:decide ((s:Int)<(m.i.length:Int))=true:=ξ hs
  have hw:w64 ((s:Int)+1)=((s+1:Nat):Int):=by rw[zr ω ω];rfl
  simp only[hd,cond_true];rw[gdT ω,gdT (by simp;omega),zbN,bdT (row s hs),hw]
 unfold qH;simp only[s5,decide_false,cond_false];rfl
def mrk (m:z6)(n s t:Nat):Bool:=mkb (kk m) (wo m m) (nxP m m) n (s,t)
def zfx (m:z6)(n:Nat):WE m (mrk m n)=mrk m (n+1):=by funext s t;unfold WE mrk;simp[mkb];congr 1
def z38 (h:WM m)(n:Nat)(hn:n<=1000000):kO m (n:Int)=some (tab m.i.length (mrk m n)):=by
 have zm6:=h.len;have l9:loop (λq=>qE m q.1 q.2) (([]:List (List Bool)),0)=some (tab m.i.length (mrk m 0)):=by
  have:=xo (step:=λq=>qE m q.1 q.2) (λs:Nat=>((List.range s).map λ_=>(List.range m.i.length).map λ_=>false,(s:Int))) m.i.length (t:=tab m.i.length (mrk m 0)) ω ?_ ?_
  ·exact this
  ·intro s hs;unfold qE;have hd:decide ((s:Int)<(m.i.length:Int))=true:=ξ hs
   have hw:w64 ((s:Int)+1)=((s+1:Nat):Int):=by rw[zr ω ω];rfl
   simp only[hd,cond_true];rw[gdT ω,gdT (by simp;omega),zbN,hw,rO,gU];rfl
  unfold qE;simp only[s5,decide_false,cond_false];rfl
 have l3:=xo (step:=λq=>qI m (n:Int) q.1 q.2) (λr:Nat=>(tab m.i.length (mrk m r),(r:Int))) n (t:=tab m.i.length (mrk m n)) ω ?_ ?_
 ·unfold kO We Wc;rw[bdT l9];have l3':loop (λq=>qI m (n:Int) q.1 q.2) (tab m.i.length (mrk m 0),0)=some (tab m.i.length (mrk m n)):=l3;rw[bdT l3']
 ·intro r hr;unfold qI Wa Wb;have hd:decide ((r:Int)<(n:Int))=true:=ξ hr
  have hw:w64 ((r:Int)+1)=((r+1:Nat):Int):=by rw[zr ω ω];rfl
  simp only[hd,cond_true];rw[bdT (zfl h (mrk m r)),zfx,hw]
 unfold qI;simp only[s5,decide_false,cond_false]
def z0h (h:WM m){s t:Nat}(hs:s<m.i.length)(ht:t<m.i.length){j:Nat}(hj:Mk (kk m) (wo m m) (nxP m m) j (s,t)):Mk (kk m) (wo m m) (nxP m m) (m.i.length-1) (s,t):=by
 refine gE λhno=>?_;have same:∀{p:Nat×Nat} {i:Nat},p.1<m.i.length->p.2<m.i.length->i<kk m->wo m m p i=false->((E m p.1 i).o>=0↔(E m p.2 i).o>=0):=by
  intro p i h1 h2 hi hb;have e:(E m p.1 i).r=(E m p.2 i).r:=by simpa[wo] using hb
  have a:=h.edgeAt h1 hi;have b:=h.edgeAt h2 hi;omega
 have symm:∀k s t,Mk (kk m) (wo m m) (nxP m m) k (s,t)->Mk (kk m) (wo m m) (nxP m m) k (t,s):=by
  intro k;induction k with
  |zero=>intro s t h;exact h
  |succ k ih=>
   rintro s t (h|⟨i,hi,h|⟨q,hq,h⟩⟩)
   ·exact .inl (ih _ _ h)
   ·exact .inr ⟨i,hi,.inl (by unfold wo at h⊢;simp[bne_iff_ne,ne_eq]at h⊢;exact λe=>h e.symm)⟩
   refine .inr ⟨i,hi,.inr ⟨(q.2,q.1),?_,ih _ _ h⟩⟩;unfold nxP at hq⊢;split at hq
   ·rename_i hc;cases hq;rw[if_pos ⟨hc.2,hc.1⟩]
   cases hq
 have trans:∀k s t u,s<m.i.length->t<m.i.length->u<m.i.length->Mk (kk m) (wo m m) (nxP m m) k (s,u)->Mk (kk m) (wo m m) (nxP m m) k (s,t)\/Mk (kk m) (wo m m) (nxP m m) k (t,u):=by
  intro k;induction k with
  |zero=>intro s t u _ _ _ h;exact h.elim
  |succ k ih=>
   rintro s t u hs ht hu (g|⟨i,hi,g|⟨q,hq,g⟩⟩)
   ·rcases ih s t u hs ht hu g with g|g
    ·exact .inl (.inl g)
    exact .inr (.inl g)
   ·cases b1:wo m m (s,t) i with
    |true=>exact .inl (.inr ⟨i,hi,.inl b1⟩)
    |false=>refine .inr (.inr ⟨i,hi,.inl ?_⟩);unfold wo at b1 g⊢;simp[bne_iff_ne,ne_eq,bne_eq_false_iff_eq]at b1 g⊢;rw[<-b1];exact g
   cases b1:wo m m (s,t) i with
   |true=>exact .inl (.inr ⟨i,hi,.inl b1⟩)
   |false=>
    cases b2:wo m m (t,u) i with
    |true=>exact .inr (.inr ⟨i,hi,.inl b2⟩)
    |false=>
     have c1:=same (p:=(s,t)) hs ht hi b1;have c2:=same (p:=(t,u)) ht hu hi b2;simp only at c1 c2;unfold nxP at hq;split at hq
     ·rename_i hc;cases hq;simp only at hc g;have e1:=h.edgeAt hs hi;have e2:=h.edgeAt ht hi;have e3:=h.edgeAt hu hi;rcases ih (E m s i).o.toNat (E m t i).o.toNat (E m u i).o.toNat ω ω ω g with g|g
      ·exact .inl (.inr ⟨i,hi,.inr ⟨_,by unfold nxP;rw[if_pos ⟨hc.1,by simp only;omega⟩],g⟩⟩)
      exact .inr (.inr ⟨i,hi,.inr ⟨_,by unfold nxP;rw[if_pos ⟨by simp only;omega,hc.2⟩],g⟩⟩)
     cases hq
 have refl:∀k s,¬Mk (kk m) (wo m m) (nxP m m) k (s,s):=by
  intro k;induction k with
  |zero=>intro s h;exact h
  |succ k ih=>
   rintro s (g|⟨i,hi,g|⟨q,hq,g⟩⟩)
   ·exact ih s g
   ·simp[wo]at g
   unfold nxP at hq;split at hq
   ·cases hq;exact ih _ g
   cases hq
 exact zqt (N:=m.i.length) h.D (λk s t=>¬Mk (kk m) (wo m m) (nxP m m) k (s,t)) (λk s t _ _ g q=>g (symm k t s q)) (λk s t u hs ht hu g1 g2 q=>by
   rcases trans k s t u hs ht hu q with g|g
   ·exact g1 g
   ·exact g2 g) (λk s _=>refl k s) (λk s t _ _ g q=>g (.inl q)) (λk hk s t hs ht g q=>by
   rcases q with q|⟨i,hi,q|⟨r,hr,q⟩⟩
   ·exact g q
   ·exact g (.inr ⟨i,hi,.inl q⟩)
   have hin:=h.nx_in (p:=(s,t)) hs ht hi hr;have:Mk (kk m) (wo m m) (nxP m m) k r:=gE λc=>hk r.1 r.2 hin.1 hin.2 c q;exact g (.inr ⟨i,hi,.inr ⟨r,hr,this⟩⟩)) s t hs ht hno j hj
def z8s {a k:Int}(h0:0<=a)(hk:1<=k)(hk2:k<=1000000):1<=w64 (1+w64 (Int.tmod a k))/\w64 (1+w64 (Int.tmod a k))<=k:=by have h1:=sW k h0;have h2:=sY a (show 0<k by omega);rw[zr (x:=Int.tmod a k) ω ω,zr ω ω];omega
def shE (n:Nat)(x:z7):z7:=if x.o>=0 then⟨x.o+(n:Int),x.r⟩ else x
def bes (a b:z6):z6:=⟨a.j,mx a.m b.m,a.i++b.i.map (List.map (shE a.i.length))⟩
section
variable {a b:z6}(va:VM a)(vb:VM b)(hab:a.j=b.j)
theorem z65:(bes a b).i.length=a.i.length+b.i.length:=by simp[bes]
include va vb hab
theorem zmz:WM (bes a b):=by
 have:=va.w;have:=vb.w;have:=va.D;refine⟨va.Q,va.N,by rw[z65];omega,by rw[z65];omega,λr hr=>?_,λr hr x hx=>?_⟩
 ·simp only[bes]at hr ⊢;rcases pD.1 hr with g|g
  ·exact va.row r g
  obtain⟨r',h1,rfl⟩:=pY.1 g;rw[gD,hab];exact vb.row r' h1
 rw[z65];simp only[bes]at hr;rcases pD.1 hr with g|g
 ·rcases va.edge r g x hx with q|⟨q1,q2,q3,_⟩
  ·exact .inl q
  exact .inr ⟨q1,ω,q3⟩
 obtain⟨r',h1,rfl⟩:=pY.1 g;obtain⟨x',h2,rfl⟩:=pY.1 hx;unfold shE;rcases vb.edge r' h1 x' h2 with q|⟨q1,q2,q3,_⟩
 ·rw[if_neg ω];exact .inl q
 rw[if_pos q1];exact .inr ⟨by simp only;omega,by simp only;omega,q3⟩
end
def zac {a b:z6}  (hs:s<a.i.length):E (bes a b) s i=E a s i:=by unfold E bes;simp only;rw[pI hs]
def z7M {a b:z6}(vb:VM b)  (hs:s<b.i.length)(hi:i<kk b):E (bes a b) (a.i.length+s) i=shE a.i.length (E b s i):=by have ⟨r,h1,h2,h3⟩:=vb.rowAt hs;unfold E bes;simp only;rw[pH ω,nD,gG,h1];simp only[gK,pX];rw[gG];have h3:=h3 i hi;rw[h3];rfl
def zic (n:Nat)(x:z7):(shE n x).r=x.r:=by unfold shE;split<;>rfl
def zdi {a b:z6}(va:VM a)(vb:VM b):WT a b=some (bes a b):=by
 have la:=va.w;have lb:=vb.w;have k16:=vb.kk_le;have hk:=vb.kk_eq;have l8:loop (λs=>qA a s.1 s.2) (([]:List (List z7)),0)=some a.i:=by
  have:=xo (step:=λs=>qA a s.1 s.2) (λi:Nat=>(a.i.take i,(i:Int))) a.i.length (t:=a.i) ω ?_ ?_
  ·exact this
  ·intro i hi;have hx:a.i[i]?=some a.i[i]:=pB hi;have hd:decide ((i:Int)<(a.i.length:Int))=true:=ξ hi
   have hw:w64 ((i:Int)+1)=((i+1:Nat):Int):=by rw[zr ω ω];rfl
   simp only[qA,hd,cond_true];rw[zA,bdT hx,gdT (by simp;omega),hw,gI,hx];rfl
  simp only[qA,s5,decide_false,cond_false,mG]
 have l6:∀s:Nat,s<b.i.length->loop (λq=>qB a b (s:Int) q.1 q.2) (([]:List z7),0)=some ((List.range (kk b)).map λi=>shE a.i.length (E b s i)):=by
  intro s hs;have:=xo (step:=λq=>qB a b (s:Int) q.1 q.2) (λi:Nat=>((List.range i).map λi=>shE a.i.length (E b s i),(i:Int))) (kk b) (t:=(List.range (kk b)).map λi=>shE a.i.length (E b s i)) ω ?_ ?_
  ·exact this
  ·intro i hi;have hd:decide ((i:Int)<b.j)=true:=by rw[<-hk];simpa using hi
   have hw:w64 ((i:Int)+1)=((i+1:Nat):Int):=by rw[zr ω ω];rfl
   simp only[qB,hd,cond_true];rw[vb.edge_eq hs hi];have hed:=vb.edgeAt hs hi;unfold Zn;have gl:∀e:z7,((List.range i).map λi=>shE a.i.length (E b s i)).length+([e]:List z7).length<=4294967296:=λe=>by simp;omega
   by_cases ht:(E b s i).o>=0
   ·have hw2:w64 ((E b s i).o+(a.i.length:Int))=(E b s i).o+(a.i.length:Int):=zr ω ω;rw[decide_eq_true ht,cond_true,gdT (gl _),hw,hw2,rO,gU];simp only[gO,rB,shE,if_pos ht]
   rw[decide_eq_false ht,cond_false,gdT (gl _),hw,rO,gU];simp only[gO,rB,shE,if_neg ht]
  simp only[qB,hk,s5,decide_false,cond_false]
 have rowE:∀s:Nat,s<b.i.length->((List.range (kk b)).map λi=>shE a.i.length (E b s i))=(b.i.map (List.map (shE a.i.length)))[s]?.getD []:=by intro s hs;have ⟨r,h1,h2,h3⟩:=vb.rowAt hs;rw[gG,h1];simp only[gK,pX];refine List.ext_getElem (by simp[h2]) λn g1 g2=>?_;simp only[List.getElem_map,List.getElem_range];have:=h3 n (ξ g1);rw[pB (ξ g2)]at this;rw[Option.some.inj this]
 have l3:loop (λs=>qC a b s.1 s.2) (a.i,0)=some (a.i++b.i.map (List.map (shE a.i.length))):=by
  have:=xo (step:=λs=>qC a b s.1 s.2) (λi:Nat=>(a.i++(b.i.map (List.map (shE a.i.length))).take i,(i:Int))) b.i.length (t:=a.i++b.i.map (List.map (shE a.i.length))) ω ?_ ?_
  ·simpa using this
  ·intro i hi;have hd:decide ((i:Int)<(b.i.length:Int))=true:=ξ hi
   have hw:w64 ((i:Int)+1)=((i+1:Nat):Int):=by rw[zr ω ω];rfl
   simp only[qC,hd,cond_true];rw[bdT (l6 i hi)];unfold W2 W3;rw[gdT (by simp;omega),hw,rowE i hi,gI];obtain⟨x,hx⟩:∃x,(b.i.map (List.map (shE a.i.length)))[i]?=some x:=⟨_,pB (ξ hi)⟩;rw[hx];simp only[pX,Option.toList_some,pP]
  simp only[qC,s5,decide_false,cond_false];rw[nP ς]
 unfold WT W5 W4;rw[bdT l8,bdT l3];rfl
def phi (a:z6)(p:Nat×Nat):Nat×Nat:=(p.1,a.i.length+p.2)
def InP (a b:z6)(p:Nat×Nat):Prop:=p.1<a.i.length/\p.2<b.i.length
section
variable {a b:z6}(va:VM a)(vb:VM b)(hab:a.j=b.j)
include va vb hab
theorem z9S (p:Nat×Nat)(i:Nat)(q:Nat×Nat)(hp:InP a b p)(hi:i<kk a)(hq:nxP a b p i=some q):InP a b q:=by
 unfold nxP at hq;split at hq
 ·rename_i hc;cases hq;have h1:=va.edgeAt hp.1 hi;have h2:=vb.edgeAt hp.2 (by rw[<-z5S hab];exact hi);refine⟨?_,?_⟩<;>simp only<;>omega
 cases hq
theorem zdj (p:Nat×Nat)(i:Nat)(hp:InP a b p)(hi:i<kk a):wo (bes a b) (bes a b) (phi a p) i=wo a b p i:=by have:=va.Q;unfold wo phi;simp only;rw[zac hp.1,z7M vb hp.2 (by rw[<-z5S hab];exact hi),zic]
theorem zhk (p:Nat×Nat)(i:Nat)(hp:InP a b p)(hi:i<kk a):nxP (bes a b) (bes a b) (phi a p) i=(nxP a b p i).map (phi a):=by
 have:=va.Q;unfold nxP phi;simp only;rw[zac hp.1,z7M vb hp.2 (by rw[<-z5S hab];exact hi)];by_cases h2:(E b p.2 i).o>=0
 ·by_cases h1:(E a p.1 i).o>=0
  ·rw[if_pos ⟨h1,by unfold shE;rw[if_pos h2];simp only;omega⟩,if_pos ⟨h1,h2⟩];unfold shE;rw[if_pos h2];exact congrArg some (rE rfl (by simp only;omega))
  rw[if_neg ω,if_neg ω];rfl
 rw[if_neg (by unfold shE;rw[if_neg h2];omega),if_neg ω];rfl
theorem zcf (n:Nat)(p:Nat×Nat)(hp:InP a b p):Mk (kk a) (wo (bes a b) (bes a b)) (nxP (bes a b) (bes a b)) n (phi a p)↔Mk (kk a) (wo a b) (nxP a b) n p :=
 JK (phi a) (InP a b) (z9S va vb hab) (zdj va vb hab) (zhk va vb hab) n p hp
theorem zaS (n:Nat)(p:Nat×Nat)(w:TC)(hp:InP a b p):Jt (kk a) (wo (bes a b) (bes a b)) (nxP (bes a b) (bes a b)) n (phi a p) w->Jt (kk a) (wo a b) (nxP a b) n p w :=
 z1F (phi a) (InP a b) (z9S va vb hab) (zdj va vb hab) (zhk va vb hab) n p w hp
def zqQ (a b:z6)(r:TB×Bool):Prop :=
 (∃n w,Mk (kk a) (wo a b) (nxP a b) (n+1) (0,0)/\¬Mk (kk a) (wo a b) (nxP a b) n (0,0)/\Jt (kk a) (wo a b) (nxP a b) (n+1) (0,0) w/\n+1<a.i.length+b.i.length/\r=(w.map Int.ofNat,true)) \/
 ((∀n,¬Mk (kk a) (wo a b) (nxP a b) n (0,0))/\r=([],false))
end
def z8c {n:Nat}  {i:Nat}:Jw m (mrk m n) p i=true↔(wo m m p i=true\/∃q,nxP m m p i=some q/\Mk (kk m) (wo m m) (nxP m m) n q):=by
 unfold Jw;rw[mN];constructor
 ·rintro(h|h)
  ·exact .inl h
  cases hq:nxP m m p i with
  |none=>rw[hq]at h;cases h
  |some q=>rw[hq]at h;exact .inr ⟨q,rfl,(Us _ _ _ n q).1 h⟩
 rintro(h|⟨q,hq,h⟩)
 ·exact .inl h
 refine .inr ?_;rw[hq];exact(Us _ _ _ n q).2 h
def zft (h:WM m)   (h1:p.1<m.i.length)(h2:p.2<m.i.length)(n w:Int)(ws:TB)(hw:ws.length<=1000)(hn:n=(k:Int)+1)(hk1:k<=1000)(hex:Mk (kk m) (wo m m) (nxP m m) (k+1) p)(hno:¬Mk (kk m) (wo m m) (nxP m m) k p) :
  Ret (loop (λs=>qz m (p.1:Int) (p.2:Int) n ws (tab m.i.length (mrk m k)) s) 0) λr=>∃i,i<kk m/\Jw m (mrk m k) p i=true/\(∀j,j<i->Jw m (mrk m k) p j=false)/\r=((E m p.1 i).o,(E m p.2 i).o,(k:Int),ws++[(i:Int)]):=by
 have hk:=h.kk_eq;have k16:=h.kk_le;obtain⟨i0,hi0,ht0⟩:∃i,i<kk m/\Jw m (mrk m k) p i=true:=by
  rcases hex with g|⟨i,hi,g⟩
  ·exact(hno g).elim
  exact⟨i,hi,z8c.2 g⟩
 refine zz (λs=>∃i:Nat,s=(i:Int)/\i<=kk m/\∀j,j<i->Jw m (mrk m k) p j=false) (λs=>100-s.toNat) ⟨0,rfl,pQ _,λj hj=>ω⟩ ς ?_;rintro i' ⟨i,hi',hik,hall⟩;subst hi';unfold qz vQ;rw[zj];refine⟨λhlt=>?_,λhge=>?_⟩
 ·have hlt:i<kk m:=by rw[<-hk]at hlt;simpa using hlt
  have hw1:w64 ((i:Int)+1)=((i+1:Nat):Int):=by rw[zr ω ω];rfl
  have hn1:w64 (n-1)=(k:Int):=by rw[zr ω ω];omega
  rw[h.edge_eq h1 hlt,h.edge_eq h2 hlt,hw1,hn1];have e1:=h.edgeAt h1 hlt;have e2:=h.edgeAt h2 hlt;have gl:ws.length+([(i:Int)]:TB).length<=4294967296:=by simp;omega
  have found:Jw m (mrk m k) p i=true->Ret (some (.done ((E m p.1 i).o,(E m p.2 i).o,(k:Int),ws++[(i:Int)])):Option (LR Int (Int×Int×Int×TB))) (LRP (λs'=>(∃j:Nat,s'=(j:Int)/\j<=kk m/\∀l,l<j->Jw m (mrk m k) p l=false)/\100-s'.toNat<100-(i:Int).toNat) (λr=>∃i,i<kk m/\Jw m (mrk m k) p i=true/\(∀j,j<i->Jw m (mrk m k) p j=false)/\r=((E m p.1 i).o,(E m p.2 i).o,(k:Int),ws++[(i:Int)]))) :=
   λht=>z8.2 ⟨i,hlt,ht,hall,rfl⟩
  have on:Jw m (mrk m k) p i=false->Ret (some (.next ((i+1:Nat):Int)):Option (LR Int (Int×Int×Int×TB))) (LRP (λs'=>(∃j:Nat,s'=(j:Int)/\j<=kk m/\∀l,l<j->Jw m (mrk m k) p l=false)/\100-s'.toNat<100-(i:Int).toNat) (λr=>∃i,i<kk m/\Jw m (mrk m k) p i=true/\(∀j,j<i->Jw m (mrk m k) p j=false)/\r=((E m p.1 i).o,(E m p.2 i).o,(k:Int),ws++[(i:Int)]))):=by
   intro ht;refine z8.2 ⟨⟨i+1,rfl,hlt,λj hj=>?_⟩,ω⟩;by_cases e:j=i
   ·subst e;exact ht
   exact hall j ω
  rw[zj];refine⟨λhb=>?_,λhb=>?_⟩
  ·rw[gdT gl];exact found (by unfold Jw wo;rw[hb,Bool.true_or])
  rw[zj];refine⟨λt1=>?_,λt1=>?_⟩
  ·have t1:(E m p.1 i).o>=0:=of_decide_eq_true t1;rw[zj];refine⟨λt2=>?_,λt2=>?_⟩
   ·have t2:(E m p.2 i).o>=0:=of_decide_eq_true t2;have hnx:nxP m m p i=some ((E m p.1 i).o.toNat,(E m p.2 i).o.toNat):=by unfold nxP;rw[if_pos ⟨t1,t2⟩]
    have hin:=h.nx_in h1 h2 hlt hnx;have c1:(E m p.1 i).o=(((E m p.1 i).o.toNat:Nat):Int):=ω
    have c2:(E m p.2 i).o=(((E m p.2 i).o.toNat:Nat):Int):=ω
    have ht1:Jw m (mrk m k) p i=mrk m k (E m p.1 i).o.toNat (E m p.2 i).o.toNat:=by unfold Jw wo;rw[hnx,hb,rD]
    have:=z6I (mrk m k) hin.1 hin.2 (g:=λv=>bif v then gd (ws.length+([(i:Int)]:TB).length<=4294967296) (some (LR.done ((E m p.1 i).o,(E m p.2 i).o,(k:Int),ws++[(i:Int)])):Option (LR Int (Int×Int×Int×TB))) else some (LR.next ((i+1:Nat):Int)));rw[<-c1,<-c2]at this;refine(congrArg (λo=>Ret o _) this).mpr ?_;rw[zj];refine⟨λg=>?_,λg=>on (by rw[ht1];exact g)⟩;rw[gdT gl];exact found (by rw[ht1];exact g)
   have t2:¬(E m p.2 i).o>=0:=of_decide_eq_false t2;exact on (by unfold Jw wo nxP;rw[hb,if_neg ω];rfl)
  have t1:¬(E m p.1 i).o>=0:=of_decide_eq_false t1;exact on (by unfold Jw wo nxP;rw[hb,if_neg ω];rfl)
 have:i=kk m:=by rw[<-hk]at hge;simp at hge;omega
 have:=hall i0 ω;rw[ht0]at this;cases this
section
variable {a b:z6}(va:VM a)(vb:VM b)(hab:a.j=b.j)
include va vb hab
theorem z9r:Ret (kM a b) (zqQ a b):=by
 have hm:=zmz va vb hab;have hN:=z65 (a:=a) (b:=b);have la:=va.w;have lb:=vb.w;have la1:=va.D;have lb1:=vb.D;have hp0:InP a b (0,0):=⟨va.D,vb.D⟩;have hkb:kk (bes a b)=kk a:=rfl;have z1:0<(bes a b).i.length:=ω
 have z2:a.i.length<(bes a b).i.length:=ω
 unfold kM;rw[bdT (zdi va vb),zi];have l6:Ret (loop (λs=>qh a (bes a b) s) 0) λr=>∃n:Nat,r=(n:Int)/\n<=(bes a b).i.length/\(∀j,j<n->mrk (bes a b) j 0 a.i.length=false)/\(n<(bes a b).i.length->mrk (bes a b) n 0 a.i.length=true):=by
  refine zz (λs=>∃n:Nat,s=(n:Int)/\n<=(bes a b).i.length/\∀j,j<n->mrk (bes a b) j 0 a.i.length=false) (λs=>1000-s.toNat) ⟨0,rfl,pQ _,λj hj=>ω⟩ ς ?_;rintro n' ⟨n,hn,hnl,hall⟩;subst hn;unfold qh;rw[zj];refine⟨λhlt=>?_,λhge=>?_⟩
  ·have hlt:n<(bes a b).i.length:=ξ hlt
   have hw:w64 ((n:Int)+1)=((n+1:Nat):Int):=by rw[zr ω ω];rfl
   rw[bdT (z38 hm n ω)];have:=z6I (mrk (bes a b) n) z1 z2 (g:=λv=>bif !v then(some (LR.next (w64 ((n:Int)+1))):Option (LR Int Int)) else some (LR.done (n:Int)));refine(congrArg (λo=>Ret o _) this).mpr ?_;rw[zj];refine⟨λg=>?_,λg=>?_⟩
   ·have g:mrk (bes a b) n 0 a.i.length=false:=ξ g
    rw[z8,hw];refine⟨⟨n+1,rfl,hlt,λj hj=>?_⟩,ω⟩;by_cases e:j=n
    ·subst e;exact g
    exact hall j ω
   have g:mrk (bes a b) n 0 a.i.length=true:=ξ g
   rw[z8];exact⟨n,rfl,hnl,hall,λ_=>g⟩
  have:n=(bes a b).i.length:=by simp at hge;omega
  rw[z8];exact⟨n,rfl,hnl,hall,λh=>ω⟩
 refine l6.mono ?_;rintro n' ⟨n,hn,hnl,hall,hat⟩;subst hn;unfold Zm Zl;rw[zj];refine⟨λhe=>?_,λhne=>?_⟩
 ·have he:n=(bes a b).i.length:=by simp at he;omega
  rw[z8];refine .inr ⟨λj hj=>?_,rfl⟩;have h1:=(zcf va vb hab j (0,0) hp0).2 hj;have h2:=z0h hm (s:=0) (t:=a.i.length) z1 z2 h1;have h3:=hall ((bes a b).i.length-1) ω;have h4:=(Us _ _ _ _ _).2 h2;unfold mrk at h3;rw[h3]at h4;cases h4
 have hne:n≠(bes a b).i.length:=by intro e;rw[e]at hne;simp at hne
 have hat:=hat ω;cases n with
 |zero=>simp[mrk,mkb]at hat
 |succ n=>
  have hmk:Mk (kk a) (wo (bes a b) (bes a b)) (nxP (bes a b) (bes a b)) (n+1) (phi a (0,0)):=(Us _ _ _ _ _).1 hat;have hno:¬Mk (kk a) (wo (bes a b) (bes a b)) (nxP (bes a b) (bes a b)) n (phi a (0,0)):=by intro c;have h4:=(Us _ _ _ _ _).2 c;have h3:=hall n ω;unfold mrk at h3;have h3':mkb (kk a) (wo (bes a b) (bes a b)) (nxP (bes a b) (bes a b)) n (phi a (0,0))=false:=h3;rw[h3']at h4;cases h4
  rw[zi];refine(zz (R:=λr=>∃w,Jt (kk a) (wo (bes a b) (bes a b)) (nxP (bes a b) (bes a b)) (n+1) (phi a (0,0)) w/\r=w.map Int.ofNat) (λs=>∃(wn:TC),s.2.2.2=wn.map Int.ofNat/\wn.length<=200/\((s.2.2.1=0/\Jt (kk a) (wo (bes a b) (bes a b)) (nxP (bes a b) (bes a b)) (n+1) (phi a (0,0)) wn) \/
   ∃(k:Nat) (p:Nat×Nat),s.2.2.1=(k:Int)+1/\k<=n/\wn.length+k=n/\s.1=(p.1:Int)/\s.2.1=(p.2:Int)/\p.1<(bes a b).i.length/\p.2<(bes a b).i.length/\Mk (kk a) (wo (bes a b) (bes a b)) (nxP (bes a b) (bes a b)) (k+1) p/\¬Mk (kk a) (wo (bes a b) (bes a b)) (nxP (bes a b) (bes a b)) k p /\
    ∀u,Jt (kk a) (wo (bes a b) (bes a b)) (nxP (bes a b) (bes a b)) (k+1) p u->Jt (kk a) (wo (bes a b) (bes a b)) (nxP (bes a b) (bes a b)) (n+1) (phi a (0,0)) (wn++u))) (λs=>s.2.2.1.toNat) ⟨[],rfl,ς,.inr ⟨n,phi a (0,0),ς,pF _,ς,rfl,by simp[phi],by simp[phi];omega,by simp[phi];omega,hmk,hno,λu h=>h⟩⟩ ?_ ?_).mono ?_
  ·simp only;omega
  ·rintro⟨s,t,c,w⟩ ⟨wn,hw,hwl,hcase⟩;simp only at hw hcase;subst hw;unfold Zk;rcases hcase with⟨hc,hg⟩|⟨k,p,hc,hkn,hwk,hs,ht,hp1,hp2,hk1,hk2,hgr⟩
   ·subst hc;rw[zj];refine⟨λh=>by have h:=of_decide_eq_true h;simp only at h;omega,λ_=>?_⟩;rw[z8];exact⟨wn,hg,rfl⟩
   subst hs ht;rw[zj];refine⟨λ_=>?_,λh=>?_⟩
   ·have hn1:w64 (c - 1)=(k:Int):=by rw[zr ω ω];omega
    rw[hn1,bdT (z38 hm k ω),zi];refine(zft hm hp1 hp2 c 0 _ (by simp;omega) hc ω hk1 hk2).mono ?_;rintro r ⟨i,hi,htel,hleast,rfl⟩;rw[z8];have htel':=z8c.1 htel;have hleast':∀j,j<i->¬(wo (bes a b) (bes a b) p j=true\/∃q,nxP (bes a b) (bes a b) p j=some q/\Mk (kk a) (wo (bes a b) (bes a b)) (nxP (bes a b) (bes a b)) k q):=by intro j hj g;have:=hleast j hj;rw[z8c.2 g]at this;cases this
    refine⟨⟨wn++[i],ς,by simp;omega,?_⟩,by simp only;omega⟩;cases k with
    |zero=>refine .inl ⟨rfl,hgr [i] ⟨i,[],rfl,hi,htel',hleast',λh=>absurd h (sC _),λ_=>rfl⟩⟩
    |succ k=>
     have hbad:wo (bes a b) (bes a b) p i≠true:=λg=>hk2 (Mk.mono (n:=1) (.inr ⟨i,hi,.inl g⟩) ω);obtain⟨q,hq,hqm⟩:∃q,nxP (bes a b) (bes a b) p i=some q/\Mk (kk a) (wo (bes a b) (bes a b)) (nxP (bes a b) (bes a b)) (k+1) q:=by
      rcases htel' with g|g
      ·exact(hbad g).elim
      exact g
     have hin:=hm.nx_in hp1 hp2 hi hq;have hqv:(E (bes a b) p.1 i).o=(q.1:Int)/\(E (bes a b) p.2 i).o=(q.2:Int):=by
      unfold nxP at hq;split at hq
      ·cases hq;simp only;omega
      cases hq
     refine .inr ⟨k,q,ς,ω,by simp;omega,hqv.1,hqv.2,hin.1,hin.2,hqm,λg=>hk2 (.inr ⟨i,hi,.inr ⟨q,hq,g⟩⟩),λu hu=>?_⟩;have:=hgr (i::u) ⟨i,u,rfl,hi,htel',hleast',λ_=>⟨q,hq,hu⟩,λh=>ω⟩;simpa using this
   have h:=of_decide_eq_false h;simp only at h;omega
  rintro r ⟨w,hg,rfl⟩;rw[z8];exact .inl ⟨n,w,(zcf va vb hab _ _ hp0).1 hmk,λg=>hno ((zcf va vb hab _ _ hp0).2 g),zaS va vb hab _ _ _ hp0 hg,ω,rfl⟩
end
def nxE (m:z6)(s:Int)(i:Nat):z7:=if s<0 then⟨-1,-1⟩ else E m s.toNat i
def rsp (m:z6):Int->TC->TB
 |_,[]=>[]
 |s,i::w=>(nxE m s i).r::rsp m (nxE m s i).o w
def aft (m:z6):Int->TC->Int
 |s,[]=>s
 |s,i::w=>aft m (nxE m s i).o w
def vj (m:z6):∀(w:TC) (s:Int) (i:Nat),rsp m s (w++[i])=rsp m s w++[(nxE m (aft m s w) i).r]/\aft m s (w++[i])=(nxE m (aft m s w) i).o
 |[],s,i=>⟨rfl,rfl⟩
 |j::w,s,i=>by have:=vj m w (nxE m s j).o i;simp only[gX,rsp,aft,this.1,this.2,and_self]
def QL (m:z6):∀(w:TC) (s:Int),(rsp m s w).length=w.length
 |[],_=>rfl
 |i::w,s=>by simp[rsp,QL m w]
def z1p (m:z6)(s:Int):Prop:=-1<=s/\s<(m.i.length:Int)
def zaO (h:VM m){s:Int}(hs:z1p m s){i:Nat}(hi:i<kk m):z1p m (nxE m s i).o:=by
 unfold nxE;have:=h.D;by_cases h0:s<0
 ·rw[if_pos h0];unfold z1p;simp only;omega
 rw[if_neg h0];have hl:s.toNat<m.i.length:=by have:=hs.2;omega
 have:=h.edgeAt hl hi;unfold z1p;omega
def ziH (h:VM m){s:Int}(hs:z1p m s){i:Nat}(hi:i<kk m):JC m s (i:Int)=some (nxE m s i)/\z1p m (nxE m s i).o:=by
 unfold JC nxE;have:=h.D;by_cases h0:s<0
 ·rw[decide_eq_true h0,cond_true,if_pos h0];exact⟨rfl,by unfold z1p;simp only;omega⟩
 rw[decide_eq_false h0,cond_false,if_neg h0];have hl:s.toNat<m.i.length:=by have:=hs.2;omega
 have he:=h.edge_eq hl hi (f:=λe=>some e);have hc:((s.toNat:Nat):Int)=s:=ω
 rw[hc]at he;refine⟨he,?_⟩;have:=h.edgeAt hl hi;unfold z1p;omega
section
variable {a b:z6}(va:VM a)(vb:VM b)(hab:a.j=b.j)
include va vb hab
theorem z9w:∀(u:TC) (q:Nat×Nat),z4g (kk a) (wo a b) (nxP a b) (0,0) u q->rsp a 0 u.reverse=rsp b 0 u.reverse/\aft a 0 u.reverse=(q.1:Int)/\aft b 0 u.reverse=(q.2:Int)/\InP a b q/\∀i∈u,i<kk a
 |[],q,h=>by simp only[z4g]at h;subst h;exact⟨rfl,rfl,rfl,⟨va.D,vb.D⟩,ς⟩
 |i::u,q,⟨p,hp,hi,hb,hn⟩=>by
  obtain⟨h1,h2,h3,h4,h5⟩:=z9w u p hp;have ea:nxE a (p.1:Int) i=E a p.1 i:=by unfold nxE;rw[if_neg ω,pE]
  have eb:nxE b (p.2:Int) i=E b p.2 i:=by unfold nxE;rw[if_neg ω,pE]
  have ho:(E a p.1 i).r=(E b p.2 i).r:=by simpa[wo] using hb
  have hq:(E a p.1 i).o=(q.1:Int)/\(E b p.2 i).o=(q.2:Int):=by
   unfold nxP at hn;split at hn
   ·cases hn;simp only;omega
   cases hn
  rw[rl,(vj a _ _ _).1,(vj b _ _ _).1,(vj a _ _ _).2,(vj b _ _ _).2,h1,h2,h3,ea,eb,ho];refine⟨rfl,hq.1,hq.2,z9S va vb hab p i q h4 hi hn,λj hj=>?_⟩;rcases pG.1 hj with rfl|g
  ·exact hi
  exact h5 j g
theorem z94 {i:Nat}{u:TC}(h:zmF (kk a) (wo a b) (nxP a b) (0,0) (i::u)):rsp a 0 (u.reverse++[i])≠rsp b 0 (u.reverse++[i])/\rsp a 0 u.reverse=rsp b 0 u.reverse/\∀j∈i::u,j<kk a:=by
 obtain⟨p,hp,hi,hb⟩:=h;obtain⟨h1,h2,h3,h4,h5⟩:=z9w va vb hab u p hp;have ea:nxE a (p.1:Int) i=E a p.1 i:=by unfold nxE;rw[if_neg ω,pE]
 have eb:nxE b (p.2:Int) i=E b p.2 i:=by unfold nxE;rw[if_neg ω,pE]
 have ho:(E a p.1 i).r≠(E b p.2 i).r:=by simpa[wo] using hb
 refine⟨?_,h1,λj hj=>?_⟩
 ·rw[(vj a _ _ _).1,(vj b _ _ _).1,h1,h2,h3,ea,eb];intro e;have:=List.append_cancel_left e;simp at this;exact ho this
 rcases pG.1 hj with rfl|g
 ·exact hi
 exact h5 j g
end
section
variable {N:Nat}{f:Nat->Nat->Bool}
structure zmK (N:Nat)(f:Nat->Nat->Bool)(out:TB)(n:Int)(s:Nat):Prop where
 len:out.length=s
 sN:s<=N
 n0:0<=n
 nS:n<=(s:Int)
 lt:∀(i:Nat) (x:Int),out[i]?=some x->0<=x/\x<n
 cls:∀(i j:Nat),i<s->j<s->(out[i]?=out[j]?↔f i j=false)
def zfw (hN:N<=1000)(hr:∀s,s<N->f s s=false)(hs:∀s t,s<N->t<N->f s t=false->f t s=false)(ht:∀s t u,s<N->t<N->u<N->f s t=false->f t u=false->f s u=false) :
  Ret (Zs (tab N f)) λout=>out.length=N/\∀i j,i<N->j<N->(out[i]?=out[j]?↔f i j=false):=by
 have hl:(tab N f).length=N:=by simp[tab]
 unfold Zs;rw[zi];refine Ret.mono (Q:=λout=>out.length=N/\∀i j,i<N->j<N->(out[i]?=out[j]?↔f i j=false)) ?_ λout h=>z8.2 h;refine zz (λq=>zmK N f q.1 q.2.1 q.2.2.toNat/\0<=q.2.2) (λq=>N-q.2.2.toNat) ⟨⟨rfl,pQ _,Int.le_refl 0,Int.le_refl 0,λi x h=>by simp at h,λi j h=>by simp at h⟩,Int.le_refl 0⟩ (by show N-0<_;omega) ?_;rintro⟨out,n,s⟩ ⟨hI,h0⟩;obtain⟨s,rfl⟩:=rj h0;simp[pE]at hI⊢;unfold WU;rw[zj];refine⟨λhc=>?_,λhc=>?_⟩
 ·rw[hl]at hc;have hsN:s<N:=ξ hc
  rw[zi];have inner:Ret (loop (λs_1=>Zp (tab N f) out (s:Int) s_1.1 s_1.2) (-1,0)) λb=>(b=-1/\∀t,t<s->f s t=true)\/∃t,t<s/\f s t=false/\out[t]?=some b:=by
   refine zz (λq=>0<=q.2/\q.2<=(s:Int)/\((q.1=-1/\∀t:Nat,(t:Int)<q.2->f s t=true)\/∃t,t<s/\f s t=false/\out[t]?=some q.1)) (λq=>s-q.2.toNat) ⟨ω,ω,.inl ⟨rfl,λt ht=>by simp at ht;omega⟩⟩ (by show s-0<_;omega) ?_;rintro⟨b,t⟩ ⟨g0,g1,g2⟩;simp only at g0 g1 g2⊢;obtain⟨t,rfl⟩:=rj g0;unfold Zp uM;rw[zj];refine⟨λhc=>?_,λhc=>?_⟩
   ·have hts:t<s:=ξ hc
    have hw:w64 ((t:Int)+1)=((t+1:Nat):Int):=by rw[zr ω ω];rfl
    rw[z6I f hsN ω,hw,zj];refine⟨λhf=>?_,λhf=>?_⟩
    ·rw[zi,z8k];have:∃x,out[t]?=some x:=⟨out[t]'(by rw[hI.len];exact hts),pB _⟩;have ⟨x,hx⟩:=this;refine⟨ω,x,by rw[pE];exact hx,z8.2 ⟨⟨ω,ω,.inr ⟨t,hts,ξ hf,hx⟩⟩,by simp[pE];omega⟩⟩
    refine z8.2 ⟨⟨ω,ω,?_⟩,by simp[pE];omega⟩;rcases g2 with⟨e,g2⟩|g2
    ·refine .inl ⟨e,λu hu=>?_⟩;rcases pM u t with q|q
     ·exact g2 u ω
     have:u=t:=ω
     subst this;simpa using hf
    exact .inr g2
   have hts:¬t<s:=ξ hc
   refine z8.2 ?_;rcases g2 with⟨e,g2⟩|g2
   ·exact .inl ⟨e,λu hu=>g2 u ω⟩
   exact .inr g2
  refine inner.mono λb hb=>?_;have hw:w64 ((s:Int)+1)=((s+1:Nat):Int):=by rw[zr ω ω];rfl
  have hlen:=hI.len;have hnS:=hI.nS;have hn0:=hI.n0;have fin:∀(n' c:Int),0<=n'->n'<=((s+1:Nat):Int)->n<=n'->0<=c->c<n'->(∀t,t<s->(out[t]?=some c↔f s t=false)) ->
    Ret (vp out (s:Int) n' c) (LRP (λs'=>(zmK N f s'.1 s'.2.1 s'.2.2.toNat/\0<=s'.2.2)/\N-s'.2.2.toNat<N-s) λout=>out.length=N/\∀i j,i<N->j<N->(out[i]?=out[j]?↔f i j=false)):=by
   intro n' c a1 a2 a3 a4 a5 a6;unfold vp Zr;rw[Xe,hw];refine⟨by simp[hlen];omega,z8.2 ⟨⟨⟨by simp[hlen],by simp;omega,a1,by simp;exact a2,?_,?_⟩,mS _⟩,by simp;omega⟩⟩
   ·intro i x hx;rcases pM i s with q|q
    ·rw[pI ω]at hx;have:=hI.lt i x hx;exact⟨this.1,by have:=this.2;simp only;omega⟩
    rw[pH ω]at hx;cases hh:i-out.length with
    |zero=>rw[hh]at hx;simp at hx;subst hx;exact⟨a4,a5⟩
    |succ k=>rw[hh]at hx;simp at hx
   intro i j hi hj;simp at hi hj;have at_:∀i,i<s->(out++[c])[i]?=out[i]?:=λi h=>pI ω;have at_s:(out++[c])[s]?=some c:=by rw[<-hlen,pH (pF _)];simp
   rcases pM i s with q|q<;>rcases pM j s with q'|q'
   ·show(out++[c])[i]?=(out++[c])[j]?↔_;rw[at_ i q,at_ j q'];exact hI.cls i j q q'
   ·have:j=s:=ω
    subst this;show(out++[c])[i]?=(out++[c])[j]?↔_;rw[at_ i q,at_s,a6 i q];exact⟨λh=>hs _ _ ω ω h,λh=>hs _ _ ω ω h⟩
   ·have:i=s:=ω
    subst this;show(out++[c])[i]?=(out++[c])[j]?↔_;rw[at_ j q',at_s,eq_comm,a6 j q']
   have e1:i=s:=ω
   have e2:j=s:=ω
   subst e1;subst e2;exact⟨λ_=>hr _ hsN,λ_=>rfl⟩
  unfold Zq;rw[zj];rcases hb with⟨rfl,hb⟩|⟨t,ht1,ht2,ht3⟩
  ·refine⟨λ_=>?_,λh=>by simp at h⟩;rw[zr ω ω];refine fin (n+1) n ω ω ω hn0 ω λt hts=>?_;rw[hb t hts];refine⟨λh=>?_,λh=>by cases h⟩;have:=hI.lt t n h;omega
  have hb0:=hI.lt t b ht3;refine⟨λh=>by simp at h;omega,λ_=>fin n b hn0 ω ω hb0.1 hb0.2 λu hu=>?_⟩;rw[<-ht3,hI.cls u t hu ht1];exact⟨λh=>ht _ _ _ ω ω ω ht2 (hs _ _ ω ω h),λh=>ht _ _ _ ω ω ω (hs _ _ ω ω h) ht2⟩
 rw[hl]at hc;have hsN:¬s<N:=ξ hc
 have:s=N:=by have:=hI.sN;omega
 subst this;exact z8.2 ⟨hI.len,hI.cls⟩
end
def SEq (m:z6)(s t:Nat):Prop:=∀w:TC,(∀i∈w,i<kk m)->rsp m (s:Int) w=rsp m (t:Int) w
def z2Q (m:z6):∀(w:TC) (s:Int),s<0->rsp m s w=w.map λ_=>-1
 |[],_,_=>rfl
 |i::w,s,h=>by simp[rsp,nxE,if_pos h,gO];rw[z2Q m w (-1) ω]
def ul (m:z6)(s i:Nat):nxE m (s:Int) i=E m s i:=by unfold nxE;rw[if_neg ω,pE]
section
variable {m:z6}(h:WM m)
include h
theorem z8w:∀(n:Nat) (p:Nat×Nat),p.1<m.i.length->p.2<m.i.length->Mk (kk m) (wo m m) (nxP m m) n p->∃w:TC,(∀i∈w,i<kk m)/\rsp m (p.1:Int) w≠rsp m (p.2:Int) w
 |0,p,_,_,q=>q.elim
 |n+1,p,h1,h2,q=>by
  rcases q with q|⟨i,hi,q|⟨r,hr,q⟩⟩
  ·exact z8w n p h1 h2 q
  ·refine⟨[i],ξ hi,λe=>?_⟩;simp[rsp,ul,List.cons.injEq,and_true]at e;simp[wo,e]at q
  have hin:=h.nx_in h1 h2 hi hr;have ⟨w,hw,hne⟩:=z8w n r hin.1 hin.2 q;refine⟨i::w,λj hj=>by rcases pG.1 hj with rfl|hj;exact hi;exact hw j hj,λe=>hne ?_⟩;simp[rsp,ul,List.cons.injEq]at e;unfold nxP at hr;split at hr
  ·rename_i hc;cases hr;have e1:(((E m p.1 i).o.toNat:Nat):Int)=(E m p.1 i).o:=ω
   have e2:(((E m p.2 i).o.toNat:Nat):Int)=(E m p.2 i).o:=ω
   simp[e1,e2];exact e.2
  cases hr
theorem zbb:∀(w:TC) (p:Nat×Nat),p.1<m.i.length->p.2<m.i.length->(∀i∈w,i<kk m)->rsp m (p.1:Int) w≠rsp m (p.2:Int) w->Mk (kk m) (wo m m) (nxP m m) w.length p
 |[],p,_,_,_,q=>(q rfl).elim
 |i::w,p,h1,h2,hw,q=>by
  have hi:=hw i ς;refine .inr ⟨i,hi,?_⟩;by_cases hb:wo m m p i=true
  ·exact .inl hb
  have he:(E m p.1 i).r=(E m p.2 i).r:=by simpa[wo] using hb
  simp[rsp,ul,he,ne_eq,List.cons.injEq,true_and]at q;have a:=h.edgeAt h1 hi;have b:=h.edgeAt h2 hi;by_cases hc:0<=(E m p.1 i).o/\0<=(E m p.2 i).o
  ·have hr:nxP m m p i=some ((E m p.1 i).o.toNat,(E m p.2 i).o.toNat):=by unfold nxP;rw[if_pos hc]
   have hin:=h.nx_in h1 h2 hi hr;have e1:(((E m p.1 i).o.toNat:Nat):Int)=(E m p.1 i).o:=ω
   have e2:(((E m p.2 i).o.toNat:Nat):Int)=(E m p.2 i).o:=ω
   exact .inr ⟨_,hr,zbb w _ hin.1 hin.2 (λj hj=>hw j (by simp[hj])) (by simpa only[e1,e2] using q)⟩
  exfalso;refine q ?_;have e1:(E m p.1 i).o=-1:=ω
  have e2:(E m p.2 i).o=-1:=ω
  rw[e1,e2]
theorem Ku {s t:Nat}(hs:s<m.i.length)(ht:t<m.i.length):mrk m m.i.length s t=false↔SEq m s t:=by
 have e:mrk m m.i.length s t=true↔¬SEq m s t:=by
  unfold mrk;rw[Us];constructor
  ·intro q g;have ⟨w,hw,hne⟩:=z8w h _ (s,t) hs ht q;exact hne (g w hw)
  intro q;have ⟨w,hw⟩:=Classical.not_forall.1 q;have ⟨hw,hne⟩:=Classical.not_imp.1 hw;have:=z0h h hs ht (zbb h w (s,t) hs ht hw hne);exact this.mono ω
 constructor
 ·intro q;exact gE λg=>by rw[e.2 g]at q;cases q
 intro q;cases hm:mrk m m.i.length s t with
 |false=>rfl
 |true=>exact(e.1 hm q).elim
theorem z3r:Ret (Zt m) λl=>l.length=m.i.length/\∀s t,s<m.i.length->t<m.i.length->(l[s]?=l[t]?↔SEq m s t):=by have hl:=h.len;unfold Zt QX;rw[zi,bdT (z38 h m.i.length ω),zi];refine Ret.mono (zfw ω (λs hs=>(Ku h hs hs).2 λw _=>rfl) (λs t hs ht q=>(Ku h ht hs).2 λw hw=>((Ku h hs ht).1 q w hw).symm) (λs t u hs ht hu q r=>(Ku h hs hu).2 λw hw=>((Ku h hs ht).1 q w hw).trans ((Ku h ht hu).1 r w hw))) ?_;rintro l ⟨h1,h2⟩;exact z8.2 (z8.2 ⟨h1,λs t hs ht=>(h2 s t hs ht).trans (Ku h hs ht)⟩)
end
def zai (h:VM m):∀(w:TC) (n:Nat) (s:Int),z1p m s->(∀i∈w,i<kk m)->w.length<n->Zu n m s (w.map Int.ofNat)=some (aft m s w)
 |w,0,_,_,_,hn=>ω
 |[],n+1,s,hs,_,_=>by show Zv (Zu n) m s []=_;rfl
 |i::w,n+1,s,hs,hw,hn=>by
  show Zv (Zu n) m s ((i:Int)::w.map Int.ofNat)=_;have hi:=hw i ς;have hx:=ziH h hs hi;unfold Zv;have hz:(((((i:Int)::w.map Int.ofNat).length:Nat):Int)==0)=false:=by rw[beq_eq_false_iff_ne];simp[gQ];omega
  rw[hz,cond_false];have e0:idx ((i:Int)::w.map Int.ofNat) 0=some (i:Int):=rfl;rw[bdT e0,bdT hx.1,gdT (by simp;omega)];have e1:((i:Int)::w.map Int.ofNat).drop (1:Int).toNat=w.map Int.ofNat:=rfl;rw[e1,bdT (zai h w n _ hx.2 (λj hj=>hw j (by simp[hj])) (by simp at hn;omega))];rfl
def zgK (h:VM m){s:Int}(hs:z1p m s)(w:TC)(hw:∀i∈w,i<kk m):Uq m s (w.map Int.ofNat)=some (aft m s w):=by unfold Uq;exact zai h w _ s hs hw ς
def z7x (k:Nat):TC->Option TC
 |[]=>none
 |d::r=>if d+1<k then some ((d+1)::r) else(z7x k r).map (0 :: ·)
def VS (k:Nat):TC->Nat
 |[]=>0
 |d::r=>d+k*VS k r
def z8a {k:Nat}:∀{r:TC},(∀d∈r,d<k)->VS k r<k^r.length
 |[],_=>by simp[VS]
 |d::r,h=>by have ih:=z8a (k:=k) (r:=r) λx hx=>h x (by simp[hx]);have hd:=h d ς;simp[VS,gQ,rC];have:k*(VS k r+1)<=k*k^r.length:=Nat.mul_le_mul_left k ih;rw[Nat.mul_add,Nat.mul_one]at this;rw[nI (k^r.length) k];omega
def z92:∀{r s:TC},r.length=s.length->(∀d∈r,d<k)->(∀d∈s,d<k)->VS k r=VS k s->r=s
 |[],[],_,_,_,_=>rfl
 |[],_::_,h,_,_,_=>by simp at h
 |_::_,[],h,_,_,_=>by simp at h
 |d::r,e::s,h,h1,h2,hv=>by
  have hd:=h1 d ς;have he:=h2 e ς;simp[VS]at hv;have a1:(d+k*VS k r)%k=d:=by rw[Nat.add_mul_mod_self_left,nY hd]
  have a2:(e+k*VS k s)%k=e:=by rw[Nat.add_mul_mod_self_left,nY he]
  have hde:d=e:=by rw[<-a1,<-a2,hv]
  subst hde;have hk:0<k:=ω
  have:k*VS k r=k*VS k s:=ω
  have:=Nat.eq_of_mul_eq_mul_left hk this;rw[z92 (ξ h) (λx hx=>h1 x (by simp[hx])) (λx hx=>h2 x (by simp[hx])) this]
def z7v:∀{r s:TC},(∀d∈r,d<k)->z7x k r=some s->s.length=r.length/\(∀d∈s,d<k)/\VS k s=VS k r+1
 |[],s,_,h=>by cases h
 |d::r,s,hr,h=>by
  have hd:=hr d ς;unfold z7x at h;split at h
  ·rename_i hc;cases h;exact⟨rfl,λx hx=>by rcases pG.1 hx with rfl|hx;exact hc;exact hr x (by simp[hx]),by simp[VS];omega⟩
  rename_i hc;obtain⟨s',h1,rfl⟩:=pZ.1 h;have ⟨g1,g2,g3⟩:=z7v (λx hx=>hr x (by simp[hx])) h1;refine⟨by simp[g1],λx hx=>by rcases pG.1 hx with rfl|hx;omega;exact g2 x hx,?_⟩;simp[VS,g3,Nat.mul_add,Nat.mul_one];omega
def z7w (hk:0<k):∀{r:TC},(∀d∈r,d<k)->z7x k r=none->VS k r+1=k^r.length
 |[],_,_=>by simp[VS]
 |d::r,hr,h=>by
  have hd:=hr d ς;unfold z7x at h;split at h
  ·cases h
  rename_i hc;have h1:z7x k r=none:=by cases e:z7x k r with|none=>rfl|some x=>rw[e]at h;cases h
  have:=z7w hk (λx hx=>hr x (by simp[hx])) h1;simp[VS,gQ,rC,<-this,gZ,nU,nI k];omega
def z8v (k:Nat)(w:TC):TC:=match z7x k w.reverse with|some r=>r.reverse|none=>List.replicate (w.length+1) 0
variable {w:TC}
def zcd (hk:1<=k)(hk2:k<=1000)  (hw:∀i∈w,i<k)(hl:w.length<=100000):VB (w.map Int.ofNat) (k:Int)=some ((z8v k w).map Int.ofNat):=by
 have hloop:Ret (loop (λs=>Uj (k:Int) s.1 s.2) (w.map Int.ofNat,w64 ((((w.map Int.ofNat).length:Nat):Int)-1))) λr=>match r with
   |.inl o=>z7x k w.reverse=none/\o=List.replicate w.length (0:Int)
   |.inr o=>∃r,z7x k w.reverse=some r/\o=r.reverse.map Int.ofNat:=by
  refine zz (λq=>∃(p:TC) (z:Nat),q.1=(p++List.replicate z 0).map Int.ofNat/\q.2=(p.length:Int)-1/\(∀i∈p,i<k)/\p.length+z=w.length/\z7x k w.reverse=(z7x k p.reverse).map (λr=>List.replicate z 0++r)) (λq=>(q.2+1).toNat) ⟨w,0,ς,by rw[zr (by simp;omega) (by simp;omega)];simp,hw,ς,by cases z7x k w.reverse<;>simp⟩ (by simp only;rw[zr (by simp;omega) (by simp;omega)];simp;omega) ?_;rintro⟨out,j⟩ ⟨p,z,h1,h2,h3,h4,h5⟩;simp only at h1 h2;subst h1;subst h2;unfold Uj;rw[zj];refine⟨λhc=>?_,λhc=>?_⟩
  ·have hp:1<=p.length:=by simp at hc;omega
   obtain⟨p',d,rfl⟩:∃p' d,p=p' ++ [d]:=by
    rcases rH p with e|⟨p',d,e⟩
    ·subst e;simp at hp
    exact⟨p',d,ξ e⟩
   have hd:=h3 d ς;have hj:(((p' ++ [d]).length:Nat):Int)-1=(p'.length:Int):=ς
   have hx:((p' ++ [d]++List.replicate z 0).map Int.ofNat)[p'.length]?=some (d:Int):=ς
   have hset:∀e:Nat,((p' ++ [d]++List.replicate z 0).map Int.ofNat).set p'.length (e:Int)=(p' ++ e::List.replicate z 0).map Int.ofNat:=by intro e;rw[pP,gU,sV,if_neg ς];simp
   have hr:(p' ++ [d]).reverse=d::p'.reverse:=ς
   rw[hr]at h5;have hin:z7x k (d::p'.reverse)=if d+1<k then some ((d+1)::p'.reverse) else(z7x k p'.reverse).map (0 :: ·):=rfl
   have hw1:w64 ((d:Int)+1)=((d+1:Nat):Int):=by rw[zr ω ω];rfl
   rw[hj,zA,bdT hx,hw1,zj];refine⟨λhc=>?_,λhc=>?_⟩
   ·have hdk:d+1<k:=by simp at hc;omega
    rw[bdT hx,bdT hx,hw1,pE,hset];refine z8.2 ?_;rw[hin,if_pos hdk]at h5;exact⟨_,h5,ς⟩
   have hdk:¬d+1<k:=by simp at hc;omega
   rw[bdT hx,pE,zr ω ω];have h0:=hset 0;simp only[Int.natCast_zero]at h0;refine z8.2 ⟨⟨p',z+1,?_,rfl,λi hi=>h3 i (by simp[hi]),by simp at h4;omega,?_⟩,?_⟩
   ·rw[nB];exact h0
   ·rw[hin,if_neg hdk]at h5;rw[h5];cases z7x k p'.reverse with
    |none=>rfl
    |some r=>simp[List.replicate_succ']
   simp only
   omega
  have hp:p=[]:=nF (by simp at hc;omega);subst hp;refine z8.2 ⟨?_,?_⟩
  ·rw[h5];rfl
  simp at h4;simp[h4]
 unfold VB;rw[gdT (by simp;omega)];have ⟨r,e,hr⟩:=hloop;rw[bdT e];unfold z8v;cases r with
 |inl o=>obtain⟨g1,rfl⟩:=hr;show Xl _=_;unfold Xl;rw[gdT (by simp;omega),g1];simp[List.replicate_succ']
 |inr o=>obtain⟨r,g1,rfl⟩:=hr;show some _=_;rw[g1]
def GG (k:Nat):Nat->Nat
 |0=>0
 |n+1=>GG k n+k^n
def z6d {k n m:Nat}(h:n<=m):GG k n<=GG k m:=by
 induction h with
 |refl=>exact pF _
 |step _ ih=>exact pJ ih (Nat.le_add_right _ _)
def rk (k:Nat)(w:TC):Nat:=GG k w.length+VS k w.reverse
def Wd (k:Nat)(w:TC):Prop:=∀i∈w,i<k
def Wd.rev (h:Wd k w):∀d∈w.reverse,d<k:=λd hd=>h d (ξ hd)
def zin (h:Wd k w):rk k w<GG k (w.length+1):=by have:=z8a h.rev;rw[mT]at this;show GG k w.length+VS k w.reverse<GG k w.length+k^w.length;omega
def z6W {k:Nat}{w u:TC}(hw:Wd k w)(h:w.length<u.length):rk k w<rk k u:=by have h1:=zin hw;have h2:=z6d (k:=k) (show w.length+1<=u.length from h);unfold rk at *;omega
def z9k {w u:TC}(hw:Wd k w)(hu:Wd k u)(h:rk k w=rk k u):w=u:=by
 have hl:w.length=u.length:=by
  rcases nE w.length u.length with q|q|q
  ·have:=z6W hw q;omega
  ·exact q
  have:=z6W hu q;omega
 have hv:VS k w.reverse=VS k u.reverse:=by unfold rk at h;rw[hl]at h;omega
 have:=z92 (ξ hl) hw.rev hu.rev hv;simpa using congrArg List.reverse this
def z6C (k:Nat):∀n,VS k (List.replicate n 0)=0
 |0=>rfl
 |n+1=>by simp[nB,VS,z6C k n]
def zfy (hk:1<=k)  (hw:Wd k w):Wd k (z8v k w)/\rk k (z8v k w)=rk k w+1/\(z8v k w).length<=w.length+1:=by
 unfold z8v;cases e:z7x k w.reverse with
 |some r=>have ⟨h1,h2,h3⟩:=z7v hw.rev e;rw[mT]at h1;refine⟨λi hi=>h2 i (ξ hi),?_,by simp[h1]⟩;simp[rk,mT,List.reverse_reverse,h1,h3];omega
 |none=>have h:=z7w ω hw.rev e;rw[mT]at h;refine⟨λi hi=>by have:=(List.mem_replicate.1 hi).2;omega,?_,ς⟩;simp[rk,mR,List.reverse_replicate,z6C,GG,<-h];omega
section
variable {m:z6}
def z3B (m:z6)(from_:Int)(l:TA)(is:List Bool)(r t:Nat):Prop :=
 (is[t]?=some true/\∃v:TC,l[t]?=some (v.map Int.ofNat)/\rk (kk m) v<r/\Wd (kk m) v/\v.length<m.i.length/\aft m from_ v=(t:Int)/\∀u,Wd (kk m) u->aft m from_ u=(t:Int)->rk (kk m) v<=rk (kk m) u) \/
 (is[t]?=some false/\l[t]?=some []/\∀u,Wd (kk m) u->rk (kk m) u<r->aft m from_ u≠(t:Int))
def z4O (h:VM m):∀(w:TC) (s:Int),z1p m s->Wd (kk m) w->z1p m (aft m s w)
 |[],s,hs,_=>hs
 |i::w,s,hs,hw=>z4O h w _ (zaO h hs (hw i ς)) λj hj=>hw j (by simp[hj])
def zc0 (h:VM m)(hG:GG (kk m) m.i.length<=1000000000){from_:Int}(hf:z1p m from_) :
  Ret (Ul m from_) λr=>r.1.length=m.i.length/\r.2.length=m.i.length/\∀t,t<m.i.length->z3B m from_ r.1 r.2 (GG (kk m) m.i.length) t:=by
 have l64:=h.w;have l1:=h.D;have hk:=h.kk_pos;have hk2:=h.kk_le;have hke:=h.kk_eq;unfold Ul Vc;rw[Xe,Xe];refine⟨ω,ω,?_⟩;rw[zi];refine Ret.mono ?_ λr hr=>z8.2 hr;refine zz (λq=>∃w:TC,q.2.2=w.map Int.ofNat/\Wd (kk m) w/\w.length<=m.i.length/\rk (kk m) w<=GG (kk m) m.i.length/\q.1.length=m.i.length/\q.2.1.length=m.i.length/\∀t,t<m.i.length->z3B m from_ q.1 q.2.1 (rk (kk m) w) t)
  (λq=>GG (kk m) m.i.length-rk (kk m) (q.2.2.map Int.toNat)) ⟨[],rfl,λi hi=>by simp at hi,ς,by simp[rk,GG,VS],ς,ς,λt ht=>.inr ⟨by simp[ht],by simp[ht],λu _ hu=>by simp[rk,GG,VS]at hu⟩⟩ (by simp only;omega) ?_
 rintro⟨l,is,wi⟩ ⟨w,h1,hw,hwl,hwr,h2,h3,h4⟩;simp only at h1 h2 h3 h4;subst h1;have hback:∀w:TC,(w.map Int.ofNat).map Int.toNat=w:=λw=>by induction w with|nil=>rfl|cons a w ih=>simp only[gO,ih];rfl
 simp only[hback];unfold Kd;rw[zj];refine⟨λhc=>?_,λhc=>?_⟩
 ·have hlt:w.length<m.i.length:=ξ hc
  have hrk:rk (kk m) w<GG (kk m) m.i.length:=Nat.lt_of_lt_of_le (zin hw) (z6d hlt);have ⟨n1,n2,n3⟩:=zfy hk hw;have hnx:VB (w.map Int.ofNat) m.j=some ((z8v (kk m) w).map Int.ofNat):=by rw[<-hke];exact zcd hk ω hw ω
  have fin:∀(l2:TA) (is2:List Bool),l2.length=m.i.length->is2.length=m.i.length->(∀t,t<m.i.length->z3B m from_ l2 is2 (rk (kk m) w+1) t) ->
    Ret (uC m (w.map Int.ofNat) l2 is2) (LRP (λs'=>(∃w:TC,s'.2.2=w.map Int.ofNat/\Wd (kk m) w/\w.length<=m.i.length/\rk (kk m) w<=GG (kk m) m.i.length/\s'.1.length=m.i.length/\s'.2.1.length=m.i.length/\∀t,t<m.i.length->z3B m from_ s'.1 s'.2.1 (rk (kk m) w) t)/\GG (kk m) m.i.length-rk (kk m) (s'.2.2.map Int.toNat)<GG (kk m) m.i.length-rk (kk m) w)
     λr=>r.1.length=m.i.length/\r.2.length=m.i.length/\∀t,t<m.i.length->z3B m from_ r.1 r.2 (GG (kk m) m.i.length) t):=by
   intro l2 is2 a1 a2 a3;unfold uC;rw[bdT hnx];refine z8.2 ⟨⟨_,rfl,n1,ω,ω,a1,a2,λt ht=>by rw[n2];exact a3 t ht⟩,?_⟩;rw[hback,n2];omega
  have hin:=z4O h w from_ hf hw;rw[bdT (zgK h hf w hw),zj];have stay:∀t,t<m.i.length->(aft m from_ w=(t:Int)->is[t]?=some true)->z3B m from_ l is (rk (kk m) w+1) t:=by
   intro t ht hn;rcases h4 t ht with⟨g1,v,g2,g3,g4⟩|⟨g1,g2,g3⟩
   ·exact .inl ⟨g1,v,g2,ω,g4⟩
   refine .inr ⟨g1,g2,λu hu hr e=>?_⟩;rcases pM (rk (kk m) u) (rk (kk m) w) with q|q
   ·exact g3 u hu q e
   have:=z9k hu hw ω;subst this;rw[hn e]at g1;cases g1
  refine⟨λhc=>?_,λhc=>?_⟩
  ·have hs0:0<=aft m from_ w:=ξ hc
   have ⟨s,hs⟩:=rj hs0;have hsN:s<m.i.length:=by have:=hin.2;omega
   rw[hs];rcases h4 s hsN with⟨g1,v,g2,g3⟩|⟨g1,g2,g3⟩
   ·rw[zA,bdT g1];simp only[mH,cond_false];refine fin l is h2 h3 λt ht=>stay t ht λe=>?_;have:t=s:=ω
    subst this;exact g1
   rw[zA,bdT g1];simp only[nM,cond_true];rw[bdT g1,zA,bdT g2,pE];refine fin _ _ (ξ h2) (ξ h3) λt ht=>?_;by_cases e:t=s
   ·subst e;refine .inl ⟨by simp[h3,ht],w,by simp[h2,ht],ω,hw,hlt,hs,λu hu he=>?_⟩;rcases pM (rk (kk m) u) (rk (kk m) w) with q|q
    ·exact(g3 u hu q he).elim
    exact q
   have:=stay t ht λe2=>ω
   unfold z3B at this⊢;rw[gS ω,gS ω];exact this
  have hs0:¬0<=aft m from_ w:=ξ hc
  exact fin l is h2 h3 λt ht=>stay t ht λe=>ω
 have hlt:¬w.length<m.i.length:=ξ hc
 have hle:w.length=m.i.length:=ω
 have hrk:rk (kk m) w=GG (kk m) m.i.length:=by
  have:GG (kk m) m.i.length<=rk (kk m) w:=by rw[<-hle];unfold rk;omega
  omega
 refine z8.2 ⟨h2,h3,λt ht=>?_⟩;rw[<-hrk];exact h4 t ht
end
def QA (k:Nat):∀(r:TC) (d:Nat),VS k (r++[d])=VS k r+d*k^r.length
 |[],d=>by simp[VS]
 |e::r,d=>by simp[gX,VS,QA k r d,gQ,rC,Nat.mul_add];rw[Nat.mul_left_comm k d,nI k (k^r.length)];omega
def zbf {k:Nat}:∀(i:Nat) (a b:TC),a.length=b.length->Wd k a->Wd k b->∀x y,a.take i=b.take i->a[i]?=some x->b[i]?=some y->x<y->VS k a.reverse<VS k b.reverse
 |0,a,b,hl,ha,hb,x,y,_,h1,h2,h=>by
  cases a with
  |nil=>simp at h1
  |cons d a=>
   cases b with
   |nil=>simp at h2
   |cons e b=>simp at h1 h2 hl;subst h1;subst h2;rw[rl,rl,QA,QA,mT,mT,<-hl];have:=z8a (k:=k) (r:=a.reverse) (λz hz=>ha z (by simp at hz;simp[hz]));rw[mT]at this;have h3:(d+1)*k^a.length<=e*k^a.length:=pV _ h;rw[gZ,nU]at h3;omega
 |i+1,a,b,hl,ha,hb,x,y,ht,h1,h2,h=>by
  cases a with
  |nil=>simp at h1
  |cons d a=>
   cases b with
   |nil=>simp at h2
   |cons e b=>simp[sA,List.cons.injEq]at ht;simp at h1 h2 hl;have ih:=zbf i a b hl (λz hz=>ha z (by simp[hz])) (λz hz=>hb z (by simp[hz])) x y ht.2 h1 h2 h;rw[rl,rl,QA,QA,mT,mT,<-hl,ht.1];omega
def ziZ {a b:TC}(ha:Wd k a)(hb:Wd k b)(hl:a.length<=100000)(hl2:b.length<=100000):JB (a.map Int.ofNat) (b.map Int.ofNat)=some (if rk k a<rk k b then 1 else 0):=by
 refine Ret.eq ?_;unfold JB;rw[zj];refine⟨λhc=>?_,λhc=>?_⟩
 ·have hne:a.length≠b.length:=by intro e;simp[e]at hc
  rw[zj];refine⟨λhc=>?_,λhc=>?_⟩
  ·have:a.length<b.length:=ξ hc
   exact z8.2 (by rw[if_pos (z6W ha this)])
  have:¬a.length<b.length:=ξ hc
  have:=z6W hb (u:=a) (w:=b) ω;exact z8.2 (by rw[if_neg ω])
 have he:a.length=b.length:=by
  have:(a.length:Int)=(b.length:Int):=ξ hc
  omega
 rw[zi];have hloop:Ret (loop (λs=>Uk (a.map Int.ofNat) (b.map Int.ofNat) s) 0) λr=>match r with
   |.inl _=>a=b
   |.inr r=>r=if rk k a<rk k b then 1 else 0:=by
  refine zz (λq=>∃i:Nat,q=(i:Int)/\i<=a.length/\a.take i=b.take i) (λq=>100000-q.toNat) ⟨0,rfl,pQ _,rfl⟩ ς ?_;rintro q ⟨i,rfl,hi,ht⟩;unfold Uk;rw[zj];refine⟨λhc=>?_,λhc=>?_⟩
  ·have hia:i<a.length:=ξ hc
   have hib:i<b.length:=ω
   have ea:(a.map Int.ofNat)[i]?=some ((a[i]:Nat):Int):=by simp[hia]
   have eb:(b.map Int.ofNat)[i]?=some ((b[i]:Nat):Int):=by simp[hib]
   have ea':a[i]?=some a[i]:=pB hia;have eb':b[i]?=some b[i]:=pB hib;rw[zA,bdT ea,zA,bdT eb,zj];refine⟨λhc=>?_,λhc=>?_⟩
   ·rw[bdT ea,bdT eb,zj];refine⟨λhc=>?_,λhc2=>?_⟩
    ·have hlt:a[i]<b[i]:=ξ hc
     have:=zbf i a b he ha hb _ _ ht ea' eb' hlt;refine z8.2 ?_;show(1:Int)=_;rw[if_pos (by unfold rk;rw[he];omega)]
    have h1:¬a[i]<b[i]:=ξ hc2
    have h2:a[i]≠b[i]:=by intro e;simp[e]at hc
    have:=zbf i b a he.symm hb ha _ _ ht.symm eb' ea' ω;refine z8.2 ?_;show(0:Int)=_;rw[if_neg (by unfold rk;rw[he];omega)]
   have h2:a[i]=b[i]:=by
    have:((a[i]:Nat):Int)=((b[i]:Nat):Int):=ξ hc
    omega
   rw[zr ω ω];refine z8.2 ⟨⟨i+1,rfl,hia,?_⟩,by simp[pE];omega⟩;rw[gI,gI,ht,ea',eb',h2]
  have:i=a.length:=by
   have:¬i<a.length:=ξ hc
   omega
  subst this;refine z8.2 ?_;show a=b;rw[mG]at ht;rw[ht,he,mG]
 refine hloop.mono λr hr=>?_;cases r with
 |inl u=>have hr:a=b:=hr;subst hr;exact z8.2 (by rw[if_neg (sC _)])
 |inr r=>exact z8.2 hr
def z3y (m:z6):∀(u w:TC) (s:Int),aft m s (u++w)=aft m (aft m s u) w
 |[],_,_=>rfl
 |i::u,w,s=>by simp[gX,aft,z3y m u w]
def z2R (m:z6):∀(u w:TC) (s:Int),rsp m s (u++w)=rsp m s u++rsp m (aft m s u) w
 |[],_,_=>rfl
 |i::u,w,s=>by simp[gX,rsp,aft,z2R m u w]
def zdB (m:z6):∀(w:TC) (s:Int),s<0->aft m s w<0
 |[],s,h=>h
 |i::w,s,h=>by simp[aft,nxE,if_pos h];exact zdB m w (-1) ω
section
variable {m:z6}(h:VM m)
include h
theorem Kq:∀(n:Nat) (u:TC),u.length<=n->Wd (kk m) u->0<=aft m 0 u->∃w,Wd (kk m) w/\w.length<m.i.length/\w.length<=u.length/\aft m 0 w=aft m 0 u
 |n,u,hn,hu,h0=>by
  have l1:=h.D;rcases pM u.length m.i.length with q|q
  ·exact⟨u,hu,q,pF _,rfl⟩
  cases n with
  |zero=>omega
  |succ n=>
   have hin0:z1p m 0:=⟨ω,ω⟩;have hpre:∀i,0<=aft m 0 (u.take i)/\aft m 0 (u.take i)<(m.i.length:Int):=by
    intro i;have e:=z3y m (u.take i) (u.drop i) 0;rw[mE]at e;have h1:=z4O h (u.take i) 0 hin0 λj hj=>hu j (gJ hj);refine⟨?_,h1.2⟩;rcases Int.lt_or_le (aft m 0 (u.take i)) 0 with g|g
    ·have:=zdB m (u.drop i) _ g;omega
    exact g
   have hex:∃i j,i<j/\j<=m.i.length/\aft m 0 (u.take i)=aft m 0 (u.take j):=by
    refine gE λhno=>?_;have hnd:((List.range (m.i.length+1)).map λi=>(aft m 0 (u.take i)).toNat).Nodup:=by unfold List.Nodup;rw[s9];refine rP ?_ (List.pairwise_lt_range (n:=m.i.length+1));intro a b ha hb hab e;have h1:=(hpre a).1;have h2:=(hpre b).1;exact hno ⟨a,b,hab,by have:=gN.1 hb;omega,ω⟩
    have:=Wg m.i.length _ hnd λx hx=>by obtain⟨i,_,rfl⟩:=pY.1 hx;have:=hpre i;omega
    simp at this;omega
   have ⟨i,j,hij,hj,e⟩:=hex;have e1:aft m 0 (u.take i++u.drop j)=aft m 0 u:=by rw[z3y,e,<-z3y,mE]
   have hlen:(u.take i++u.drop j).length<=n:=by simp;omega
   have ⟨w,w1,w2,w3,w4⟩:=Kq n (u.take i++u.drop j) hlen (λx hx=>by
    rcases pD.1 hx with q|q
    ·exact hu x (gJ q)
    exact hu x (rK q)) (by rw[e1];exact h0)
   exact⟨w,w1,w2,by simp at w3;omega,w4.trans e1⟩
end
structure Acc (m:z6)(t:Nat)(v:TC):Prop where
 wd:Wd (kk m) v
 len:v.length<m.i.length
 aft:aft m 0 v=(t:Int)
 least:∀u,Wd (kk m) u->Go.Own.aft m 0 u=(t:Int)->rk (kk m) v<=rk (kk m) u
section
variable {m:z6}(h:VM m)(hG:GG (kk m) m.i.length<=1000000000)
include h hG
def z0P (m:z6)(r:TA×List Bool):Prop :=
 r.1.length=m.i.length/\r.2.length=m.i.length/\∀t,t<m.i.length ->
  (r.2[t]?=some true/\∃v:TC,r.1[t]?=some (v.map Int.ofNat)/\Acc m t v)\/(r.2[t]?=some false/\∀u,Wd (kk m) u->aft m 0 u≠(t:Int))
theorem z4P:Ret (WW m) (z0P m):=by
 have l1:=h.D;unfold WW;rw[zi];refine(zc0 h hG (from_:=0) ⟨ω,ω⟩).mono λr hr=>z8.2 ⟨hr.1,hr.2.1,λt ht=>?_⟩;rcases hr.2.2 t ht with⟨g1,v,g2,g3,g4,g5,g6,g7⟩|⟨g1,g2,g3⟩
 ·exact .inl ⟨g1,v,g2,⟨g4,g5,g6,g7⟩⟩
 refine .inr ⟨g1,λu hu e=>?_⟩;have ⟨w,w1,w2,w3,w4⟩:=Kq h u.length u (pF _) hu ω;exact g3 w w1 (Nat.lt_of_lt_of_le (zin w1) (z6d w2)) (w4.trans e)
end
def zjM {s t:Nat}{v w:TC}(hv:Acc m s v)(hw:Acc m t w)(h:rk (kk m) v=rk (kk m) w):s=t:=by have:=z9k hv.wd hw.wd h;subst this;have h1:=hv.aft;have h2:=hw.aft;omega
def zal (m:z6)(L:TC):Prop:=L.Pairwise λs t=>∀v w,Acc m s v->Acc m t w->rk (kk m) v<rk (kk m) w
def XG {s:Nat}{v w:TC}(hv:Acc m s v)(hw:Acc m s w):v=w :=
 z9k hv.wd hw.wd (Nat.le_antisymm (hv.least w hw.wd hw.aft) (hw.least v hv.wd hv.aft))
section
variable {m:z6}(h:VM m)(hG:GG (kk m) m.i.length<=1000000000)
include h hG
theorem zc4:Ret (Um m) λo=>∃L:TC,o=L.map Int.ofNat/\zal m L/\(∀t∈L,t<m.i.length/\∃v,Acc m t v)/\∀t,t<m.i.length->t∉L->∀u,Wd (kk m) u->aft m 0 u≠(t:Int):=by
 have l64:=h.w;unfold Um;rw[zi];refine(z4P h hG).mono ?_;rintro r ⟨r1,r2,r3⟩;rw[zi];let I:TC->Nat->Prop:=λL s=>s<=m.i.length/\L.length<=s/\zal m L/\(∀t∈L,t<s/\∃v,Acc m t v)/\∀t,t<s->t∉L->∀u,Wd (kk m) u->aft m 0 u≠(t:Int);have hI:∀L s,I L s=(s<=m.i.length/\L.length<=s/\zal m L/\(∀t∈L,t<s/\∃v,Acc m t v)/\∀t,t<s->t∉L->∀u,Wd (kk m) u->aft m 0 u≠(t:Int)):=λ_ _=>rfl
 suffices hloop:Ret (loop (λs=>jM r s.1 s.2) (([]:TB),0)) λo=>∃L:TC,o=L.map Int.ofNat/\I L m.i.length from by refine hloop.mono ?_;rintro o ⟨L,rfl,q1,q2,q3,q4,q5⟩;exact z8.2 ⟨L,rfl,q3,q4,q5⟩
 refine zz (λq=>∃(L:TC) (s:Nat),q.1=L.map Int.ofNat/\q.2=(s:Int)/\I L s) (λq=>1000-q.2.toNat) ⟨[],0,rfl,rfl,pQ _,pF _,List.Pairwise.nil,λt ht=>by simp at ht,λt ht=>ω⟩ ς ?_;rintro⟨out,q⟩ ⟨L,s,e1,e2,i1,i2,i3,i4,i5⟩;simp only at e1 e2;subst e1;subst e2;unfold jM;rw[zj];refine⟨λhc=>?_,λhc=>?_⟩
 ·have hs:s<m.i.length:=by rw[r1]at hc;simpa using hc
  have hw:w64 ((s:Int)+1)=((s+1:Nat):Int):=by rw[zr ω ω];rfl
  have fin:∀L':TC,I L' (s+1)->Ret (uD (s:Int) (L'.map Int.ofNat)) (LRP (λs'=>(∃(L:TC) (s:Nat),s'.1=L.map Int.ofNat/\s'.2=(s:Int)/\I L s)/\1000-s'.2.toNat<1000-(s:Int).toNat) λo=>∃L:TC,o=L.map Int.ofNat/\I L m.i.length):=by intro L' hL;unfold uD;rw[hw];exact z8.2 ⟨⟨L',s+1,rfl,rfl,hL⟩,by simp only[pE];omega⟩
  rcases r3 s hs with⟨g1,v,g2,g3⟩|⟨g1,g2⟩
  ·rw[zA,bdT g1];simp only[mH,cond_false];rw[zi];have inner:Ret (loop (λk=>jL r (L.map Int.ofNat) (s:Int) k) 0) λk=>∃n:Nat,k=(n:Int)/\n<=L.length/\(∀t∈L.take n,∀w,Acc m t w->rk (kk m) w<rk (kk m) v)/\∀t,L[n]?=some t->∀w,Acc m t w->rk (kk m) v<rk (kk m) w:=by
    refine zz (λk=>∃n:Nat,k=(n:Int)/\n<=L.length/\∀t∈L.take n,∀w,Acc m t w->rk (kk m) w<rk (kk m) v) (λk=>1000-k.toNat) ⟨0,rfl,pQ _,λt ht=>by simp at ht⟩ ς ?_;rintro k ⟨n,rfl,n1,n2⟩;unfold jL;rw[zj];refine⟨λhc=>?_,λhc=>?_⟩
    ·have hn:n<L.length:=ξ hc
     have hx:(L.map Int.ofNat)[n]?=some ((L[n]:Nat):Int):=by simp[hn]
     have hx':L[n]?=some L[n]:=pB hn;have ⟨ht,w,hw2⟩:=i4 L[n] (pO hn);have hacc:r.1[L[n]]?=some (w.map Int.ofNat):=by
      rcases r3 L[n] ω with⟨_,w',k2,k3⟩|⟨_,k2⟩
      ·rw[k2,XG k3 hw2]
      exact(k2 w hw2.wd hw2.aft).elim
     have hle:=hw2.len;have hlv:=g3.len;rw[zA,bdT hx,zA,bdT hacc,zA,bdT g2,bdT (ziZ hw2.wd g3.wd ω ω),zj];by_cases hlt:rk (kk m) w<rk (kk m) v
     ·rw[if_pos hlt];refine⟨λ_=>?_,λe=>by simp at e⟩;rw[zr ω ω];refine z8.2 ⟨⟨n+1,rfl,hn,λt ht=>?_⟩,by simp only[pE];omega⟩;rw[gI,hx',pD]at ht;rcases ht with ht|ht
      ·exact n2 t ht
      have:t=L[n]:=ξ ht
      subst this;intro w' hw';rw[XG hw' hw2];exact hlt
     rw[if_neg hlt];refine⟨λe=>by simp at e,λ_=>z8.2 ⟨n,rfl,n1,n2,λt ht w' hw'=>?_⟩⟩;rw[hx']at ht;cases ht;rw[XG hw' hw2];rcases pM (rk (kk m) v) (rk (kk m) w) with q|q
     ·exact q
     have:=zjM hw2 g3 ω;omega
    have hn:¬n<L.length:=ξ hc
    refine z8.2 ⟨n,rfl,n1,n2,λt ht=>?_⟩;have:n<L.length:=(pC.1 ht).1;omega
   refine inner.mono ?_;rintro k ⟨n,rfl,n1,n2,n3⟩;unfold Yo;have e1:(((L.map Int.ofNat).drop 0).take ((n:Int).toNat-0))=(L.take n).map Int.ofNat:=by simp[List.map_take]
   have e2:(L.map Int.ofNat).drop (n:Int).toNat=(L.drop n).map Int.ofNat:=by simp[List.map_drop]
   rw[e1,e2,Xe,Xe,Xe,Xe,Xe];refine⟨by simp;omega,by simp;omega,by simp;omega,by simp;omega,by simp;omega,?_⟩;have e3:((L.take n).map Int.ofNat++([(s:Int)]:TB))++(L.drop n).map Int.ofNat=(L.take n++s::L.drop n).map Int.ofNat:=ς
   rw[e3];have hperm:∀t,t∈L.take n++s::L.drop n↔t=s\/t∈L:=by
    intro t;have:t∈L↔t∈L.take n\/t∈L.drop n:=by rw[<-pD,mE]
    rw[this,pD,pG];constructor
    ·rintro(q|q|q)
     ·exact .inr (.inl q)
     ·exact .inl q
     exact .inr (.inr q)
    rintro(q|q|q)
    ·exact .inr (.inl q)
    ·exact .inl q
    exact .inr (.inr q)
   have hdrop:∀t∈L.drop n,∀w,Acc m t w->rk (kk m) v<rk (kk m) w:=by
    intro t ht w hw';rcases pM n L.length with q|q
    ·rw[mW q]at ht;have hx':L[n]?=some L[n]:=pB q;have ⟨_,w0,hw0⟩:=i4 L[n] (pO q);have h0:=n3 L[n] hx' w0 hw0;rcases pG.1 ht with rfl|ht
     ·rw[XG hw' hw0];exact h0
     have hd:(L.drop n).Pairwise λs t=>∀v w,Acc m s v->Acc m t w->rk (kk m) v<rk (kk m) w:=rZ (List.drop_sublist n L) i3;rw[mW q]at hd;exact Nat.lt_trans h0 ((nH.1 hd).1 t ht w0 w hw0 hw')
    rw[mI q]at ht;cases ht
   refine fin _ ⟨hs,by simp;omega,?_,λt ht=>?_,λt ht hn u hu=>?_⟩
   ·show List.Pairwise _ _;rw[rh];refine⟨rZ (List.take_sublist n L) i3,nH.2 ⟨λt ht v' w hv' hw'=>?_,rZ (List.drop_sublist n L) i3⟩,?_⟩
    ·rw[XG hv' g3];exact hdrop t ht w hw'
    intro a ha b hb v' w hv' hw';have hav:=n2 a ha v' hv';rcases pG.1 hb with rfl|hb
    ·rw[XG hw' g3];exact hav
    exact Nat.lt_trans hav (hdrop b hb w hw')
   ·rcases(hperm t).1 ht with rfl|ht
    ·exact⟨ω,v,g3⟩
    have:=i4 t ht;exact⟨ω,this.2⟩
   have hne:t≠s:=λe=>hn ((hperm t).2 (.inl e));exact i5 t ω (λq=>hn ((hperm t).2 (.inr q))) u hu
  rw[zA,bdT g1];simp only[nM,cond_true];refine fin L ⟨hs,ω,i3,λt ht=>⟨by have:=(i4 t ht).1;omega,(i4 t ht).2⟩,λt ht hn u hu=>?_⟩;rcases pM t s with q|q
  ·exact i5 t q hn u hu
  have:t=s:=ω
  subst this;exact g2 u hu
 have hs:¬s<m.i.length:=by rw[r1]at hc;simpa using hc
 have:s=m.i.length:=ω
 subst this;exact z8.2 ⟨L,rfl,i1,i2,i3,i4,i5⟩
end
def wC:TB->TB->Int
 |[],[]=>0
 |[],_::_=>-1
 |_::_,[]=>1
 |x::a,y::b=>if x<y then -1 else if y<x then 1 else wC a b
def jE (a b:TB):Int:=if a.length<b.length then -1 else if b.length<a.length then 1 else wC a b
def zco:∀{a b:TB},wC a b=0->a=b
 |[],[],_=>rfl
 |[],_::_,h=>by simp[wC]at h
 |_::_,[],h=>by simp[wC]at h
 |x::a,y::b,h=>by
  simp[wC]at h;split at h
  ·simp at h
  split at h
  ·simp at h
  rw[show x=y by omega,zco h]
def z7m:∀a:TB,wC a a=0
 |[]=>rfl
 |x::a=>by simp[wC,z7m a]
def z9G:∀a b:TB,wC b a=- wC a b
 |[],[]=>rfl
 |[],_::_=>rfl
 |_::_,[]=>rfl
 |x::a,y::b=>by
  simp[wC];split
  ·rw[if_neg ω]
  split
  ·rfl
  exact z9G a b
def z4y:∀{a b c:TB},wC a b<0->wC b c<0->wC a c<0
 |[],[],_,h,_=>by simp[wC]at h
 |[],_::_,[],_,h=>by simp[wC]at h
 |[],_::_,_::_,_,_=>by simp[wC]
 |_::_,[],_,h,_=>by simp[wC]at h
 |_::_,_::_,[],_,h=>by simp[wC]at h
 |x::a,y::b,z::c,h1,h2=>by
  simp[wC]at h1 h2⊢;by_cases e1:x<y
  ·by_cases e2:y<z
   ·rw[if_pos ω];omega
   rw[if_neg e2]at h2;by_cases e3:z<y
   ·rw[if_pos e3]at h2;omega
   rw[if_pos ω];omega
  rw[if_neg e1]at h1;by_cases e3:y<x
  ·rw[if_pos e3]at h1;omega
  rw[if_neg e3]at h1;have:x=y:=ω
  subst this;by_cases e2:x<z
  ·rw[if_pos e2];omega
  rw[if_neg e2]at h2⊢;by_cases e4:z<x
  ·rw[if_pos e4]at h2;omega
  rw[if_neg e4]at h2⊢;exact z4y h1 h2
variable {a b:TB}
def z3q (h:jE a b=0):a=b:=by
 unfold jE at h;split at h
 ·simp at h
 split at h
 ·simp at h
 exact zco h
def Jl (a:TB):jE a a=0:=by simp[jE,z7m]
def za6:jE a b=0↔a=b:=⟨z3q,λh=>h▸Jl a⟩
def za5 (a b:TB):jE b a=- jE a b:=by
 unfold jE;by_cases h1:a.length<b.length
 ·rw[if_pos h1,if_neg ω,if_pos h1];rfl
 by_cases h2:b.length<a.length
 ·rw[if_pos h2,if_neg h1,if_pos h2]
 rw[if_neg h1,if_neg h2,if_neg h2,if_neg h1,z9G]
def vV {a b c:TB}(h1:jE a b<0)(h2:jE b c<0):jE a c<0:=by
 unfold jE at *;by_cases e1:a.length<b.length
 ·by_cases e2:b.length<c.length
  ·rw[if_pos ω];omega
  rw[if_neg e2]at h2;by_cases e3:c.length<b.length
  ·rw[if_pos e3]at h2;omega
  rw[if_pos ω];omega
 rw[if_neg e1]at h1;by_cases e3:b.length<a.length
 ·rw[if_pos e3]at h1;omega
 rw[if_neg e3]at h1;have e:a.length=b.length:=ω
 rw[e];by_cases e2:b.length<c.length
 ·rw[if_pos e2];omega
 rw[if_neg e2]at h2⊢;by_cases e4:c.length<b.length
 ·rw[if_pos e4]at h2;omega
 rw[if_neg e4]at h2⊢;exact z4y h1 h2
def JR (a:TB):¬jE a a<0:=by rw[Jl];omega
def zd6 (h:jE a b<0):¬jE b a<0:=by rw[za5 a b];omega
def z64:¬jE a b<0↔jE b a<0\/a=b:=by rw[<-za6,za5 a b];omega
def SW (l:TA):Prop:=l.Pairwise λa b=>jE a b<0
def SW.nil:SW []:=List.Pairwise.nil
variable {l:TA}{x:TB}
def SW.tail (h:SW (x::l)):SW l:=(nH.1 h).2
def SW.head (h:SW (x::l)):∀y∈l,jE x y<0:=(nH.1 h).1
def SW.unique:∀{l m:TA},SW l->SW m->(∀x,x∈l↔x∈m)->l=m
 |[],[],_,_,_=>rfl
 |[],y::m,_,_,h=>by have:=(h y).2 ς;simp at this
 |x::l,[],_,_,h=>by have:=(h x).1 ς;simp at this
 |x::l,y::m,h1,h2,h=>by
  have hxy:x=y:=by
   rcases pG.1 ((h x).1 ς) with e|e
   ·exact e
   rcases pG.1 ((h y).2 ς) with e'|e'
   ·exact e'.symm
   exact absurd (h2.head x e) (zd6 (h1.head y e'))
  subst hxy;rw[SW.unique h1.tail h2.tail λz=>?_];constructor
  ·intro hz;rcases pG.1 ((h z).1 (by simp[hz])) with e|e
   ·subst e;exact absurd (h1.head _ hz) (JR _)
   exact e
  intro hz;rcases pG.1 ((h z).2 (by simp[hz])) with e|e
  ·subst e;exact absurd (h2.head _ hz) (JR _)
  exact e
def SW.sub {l m:TA}(h:SW l)(hs:List.Sublist m l):SW m:=rZ hs h
def SW.filter (h:SW l)(p:TB->Bool):SW (l.filter p):=h.sub List.filter_sublist
def SW.nodup (h:SW l):l.Nodup:=List.Pairwise.imp (λ{a b} q e=>by subst e;exact JR _ q) h
def z4a (w:TB):TA->TA
 |[]=>[w]
 |x::l=>if jE x w<0 then x::z4a w l else if jE x w=0 then x::l else w::x::l
def z0i {w x:TB}:∀{l:TA},x∈z4a w l↔x=w\/x∈l
 |[]=>by simp[z4a]
 |y::l=>by
  simp[z4a];split
  ·simp[pG,z0i];constructor
   ·rintro(h|h|h)<;>simp[h]
   rintro(h|h|h)<;>simp[h]
  split
  ·rename_i h1 h2;have:=z3q h2;subst this;simp
  simp
def SW.put {w:TB}:∀{l:TA},SW l->SW (z4a w l)
 |[],_=>by simp[z4a,SW]
 |y::l,h=>by
  simp[z4a];split
  ·rename_i h1;refine nH.2 ⟨λz hz=>?_,SW.put h.tail⟩;rcases z0i.1 hz with rfl|hz
   ·exact h1
   exact h.head z hz
  split
  ·exact h
  rename_i h1 h2;have hw:jE w y<0:=by
   rcases z64.1 h1 with q|q
   ·exact q
   exact absurd (za6.2 q) h2
  refine nH.2 ⟨λz hz=>?_,h⟩;rcases pG.1 hz with rfl|hz
  ·exact hw
  exact vV hw (h.head z hz)
def z9t (w:TB):∀l,(z4a w l).length<=l.length+1
 |[]=>by simp[z4a]
 |y::l=>by
  simp[z4a];split
  ·have:=z9t w l;simp;omega
  split<;>simp
def srt (l:TA):TA:=l.foldl (λm w=>z4a w m) []
def z8h:∀(l m:TA),SW m->SW (l.foldl (λm w=>z4a w m) m)/\∀x,x∈l.foldl (λm w=>z4a w m) m↔x∈m\/x∈l
 |[],m,h=>⟨h,ς⟩
 |w::l,m,h=>by
  have ⟨h1,h2⟩:=z8h l (z4a w m) h.put;refine⟨h1,λx=>?_⟩;rw[rX,h2,z0i];simp[pG];constructor
  ·rintro((h|h)|h)<;>simp[h]
  rintro(h|h|h)<;>simp[h]
def jG (l:TA):SW (srt l):=(z8h l [] .nil).1
def ym:x∈srt l↔x∈l:=by rw[srt,(z8h l [] .nil).2];simp
def zbs {l m:TA}(h:SW m)(hm:∀x,x∈m↔x∈l):m=srt l:=h.unique (jG l) λx=>by rw[hm,ym]
def z00 (h:SW l):srt l=l:=(zbs h λ_=>.rfl).symm
def z6L {l m:TA}(h:∀x,x∈l↔x∈m):srt l=srt m:=zbs (jG l) λx=>by rw[ym,h]
def zeZ (l:TA)(w:TB):srt (l++[w])=z4a w (srt l):=by simp[srt]
def XW (l:TA):(srt l).length<=l.length:=by
 have:∀(l m:TA),(l.foldl (λm w=>z4a w m) m).length<=m.length+l.length:=by
  intro l;induction l with
  |nil=>intro m;simp
  |cons w l ih=>intro m;have:=ih (z4a w m);have:=z9t w m;simp[rX,gQ];omega
 have q:=this l [];simp[List.length_nil,mC]at q;exact q
end Go.Own
end
