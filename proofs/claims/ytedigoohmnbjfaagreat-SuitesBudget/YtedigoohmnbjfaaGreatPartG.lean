/- Walks, further. -/
import Derived.Test.YtedigoohmnbjfaaGreatPartF
import Derived.Test.YtedigoohmnbjfaaGreatPartC
import Derived.Test.YtedigoohmnbjfaaGreatPartE
noncomputable section
set_option linter.unusedVariables false
set_option linter.defProp false
set_option linter.unusedSimpArgs false
namespace Go.Own
open Go.Proofs.Tryz
def oB {α:Type _}{β:Type _}(a:α)(f:α->Option β):Option.bind (some a) f=f a:=rfl
open Go.Proofs
set_option maxRecDepth 100000
set_option maxHeartbeats 8000000
def zkN:List y7:=z2N 222 zlM F8_ F8_ yp xg::l99
def JD [H:HS X0 l99]:OkH zkN:=yS3 true func222 λx_ u_ v_ r0 aa E hE=>by obtain⟨r_,h0,ai,h1,pk,h2,aa⟩:=jI aa;cases aa;exact yE hE [zC3 0 h0,zC3 0 h1,Hi yp h2]
def UP [H:HS X0 zkN](bz:Value):∀(x0:Ul) (x_:zF) (b_:zb) (r0:zb×Bool),wH x0 x_ b_=some r0->z82 prog 220 [.agg [],.sptr (.agg [.agg [I x_.m_.j,I x_.m_.m,eSl 1 false xZ x_.m_.i],eSl 1 false F8_ x_.q_,eSl 1 false F8_ x_.p_,eSl 1 false F8_ x_.O,eSl 1 false yp x_.P,eSl 1 false F8_ x_.F,eSl 1 false F8_ x_.K]),.atom bz] ([bz].zip [.box (.agg [eOs 16 false F2_ b_.x,I b_.s,I b_.w])]) r0.2 (.iface 124 (.agg #[])) (.tup []) [.box (.agg [eOs 16 false F2_ r0.1.x,I r0.1.s,I r0.1.w])]:=by
 intro x0 x_ b_ r0 aa;refine z4X (tt:=wD) (nt:=f220.ntmps) (body:=zbd f220) [2] zu func220 rfl (by kernel_rfl) rfl rfl (by show(3:Nat)<=106;decide) (by decide) rfl rfl rfl (λE hE hD=>?_);refine yNs 11 [] [1,2] (λz:List (zz Int)×Int×Int=>uH x_ b_ z.1 z.2.1 z.2.2=some r0) (λz=>[(2,.own (.box (.agg [eOs 16 false F2_ z.1,I z.2.1,I z.2.2])))]) [Hh (.cut 1)] ?_ λJ1 ar=>?_
 ·rintro⟨br,cp,fm⟩ aa;obtain⟨r_,h0,t2,ht2,aa⟩:=ya aa;refine yM 111110 [] [1,2,73,74,75] (λx=>[(2,.own (.box (.agg [eOs 16 false F2_ x.1,I x.2.1,I x.2.2.1]))),(75,.d (I x.2.2.2))]) ht2  [zC3 4 h0,Ha (lnM F4_ r_.1)] λ⟨bh,cj,fh,jg⟩ m2 av ae hl1 J2 au=>?_;obtain c0|c0:=zC ae
  ·refine yNs 111110011 [J2] [1,2,73,74,75] (λz:List (zz Int)×Int×Int=>Zu jg z.1 z.2.1 z.2.2=some av) (λz=>[(2,.own (.box (.agg [eOs 16 false F2_ z.1,I z.2.1,I z.2.2])))]) [c0,Hh (.cut 0)] ?_ λJ3 bg=>?_
   ·rintro⟨bm,ce,d0⟩ ae;cases ae;exact yB au _ hl1 []
   obtain⟨u_,h1,t4,ht4,ae⟩:=ya c0.2;refine yM (H:=zx ((xLs zu 78 (eSl 1 true s7 u_) (eSl 1 false s7 u_) inferInstance).or X0)) 11111001120110 [J2,J3] [1,2,15,73,74,75,82,83,84] (λx=>[(2,.own (.box (.agg [eOs 16 false F2_ x.1,I x.2.1,I x.2.2.1]))),(84,.d (I x.2.2.2))]) ht4  [Hi F4_ h1,Hn (rfl:T.d (eSl 1 true s7 u_)=T.d (eSl 1 true s7 u_)),Ha (lnM F8_ x_.K)] λ⟨aq,bc,fj,j7⟩ m4 dj ah hl2 J4 db=>?_;obtain c1|c1:=zC ah
   ·refine yNs 11111001120110011 [J2,J3,J4] [1,2,15,73,74,75,82,83,84] (λz:List (zz Int)×Int×Int=>Zt j7 z.1 z.2.1 z.2.2=some dj) (λz=>[(2,.own (.box (.agg [eOs 16 false F2_ z.1,I z.2.1,I z.2.2])))]) [c1,Hh (.cut 0)] ?_ λJ5 dc=>?_
    ·rintro⟨ct,cg,dz⟩ ah;cases ah;exact yB db _ hl2 []
    obtain⟨ez,h2,ai,h3,t6,kb,ah⟩:=jI c1.2;refine yM 1111100112011001120110 [J2,J3,J4,J5] [1,2,15,17,73,74,75,82,83,84,91,92,93] (λx=>[(2,.own (.box (.agg [eOs 16 false F2_ x.1,I x.2.1,I x.2.2.1]))),(93,.d (I x.2.2.2))]) kb  [Hi F8_ h2,zC3 0 h3,Ha (lnM F8_ ai)] λ⟨ju,eg,km,m0⟩ m6 nb aw hl3 J6 ep=>?_;obtain c2|c2:=zC aw
    ·obtain⟨dm,h4,aw⟩:=zn c2.2;refine yC 1111100112011001120110011001 [J2,J3,J4,J5,J6] [1,2,15,17,19,73,74,75,82,83,84,91,92,93] [c2,Hi F8_ h4,Hh (.stp 0)] ?_;obtain⟨ak,h5,aw⟩:=zn aw;obtain c3|c3:=zC aw
     ·cases c3.2;cases hl3;cases ah;cases hl2;cases ae;cases hl1;cases aa;exact yD 5 [2] ((xC (H:=zd 10) bz _ _ _ h5).2 c3.1) [.atom bz,z6W [u_,ez,dm]] inferInstance [Hm (shM F8_ F8_ ([u_,ez,dm]))] λst0=>hD rfl st0
     cases c3.2;exact yB (H:=zx ((qZ (P:=prog) wD [2] ((xC (H:=zd 10) bz _ _ _ h5).1 c3.1) 102).or X0)) ep _ hl3 [Hm (shM F8_ F8_ ([u_,ez,dm])),Hn (Yr (f:=.fn 219 []) (xs:=[.atom bz,yp [u_,ez,dm]]) (ls:=[(bz,.box (.agg [eOs 16 false F2_ ju,I eg,I km]))]) (r:=.tup []) (ys:=[.box (.agg [eOs 16 false F2_ ak.1.x,I ak.1.s,I ak.1.w])]) [.atom bz,z6W [u_,ez,dm]] (show Jp [.atom bz,z6W [u_,ez,dm]] [.atom bz,yp [u_,ez,dm]] from inferInstance))]
    cases c2.2;cases hl3;exact yB dc (ju,eg,km) ah [c2]
   cases c1.2;cases hl2;exact yB bg (aq,bc,fj) ae [c1]
  cases c0.2;cases hl1;cases aa;exact yF .normal [(2,.own (.box (.agg [eOs 16 false F2_ bh,I cj,I fh])))] [c0] λst0 h0=>hE rfl _ st0 (.inl rfl) (XF h0 ⟨⟨rfl,rfl⟩,trivial⟩)
 refine yMb 11210 [J1] [1,2,23,24,25] (λx=>[(2,.own (.box (.agg [eOs 16 false F2_ x.1,I x.2.1,I x.2.2.1]))),(25,.d (I x.2.2.2))]) aa  [Ha (lnM F8_ x_.q_)] λt7 aa ⟨jx,jb,ko,jh⟩ m7 av ae hl1 J7 gw=>?_;obtain c4|c4:=zC ae
 ·refine yNs 11210011 [J1,J7] [1,2,23,24,25] (λz:List (zz Int)×Int×Int=>Zs jh z.1 z.2.1 z.2.2=some av) (λz=>[(2,.own (.box (.agg [eOs 16 false F2_ z.1,I z.2.1,I z.2.2])))]) [c4,Hh (.cut 0)] ?_ λJ8 lq=>?_
  ·rintro⟨lz,lk,ml⟩ ae;cases ae;exact yB gw _ hl1 []
  obtain⟨gq,h6,t9,ht9,ae⟩:=ya c4.2;refine yM 1121001120110 [J1,J7,J8] [1,2,7,23,24,25,32,33,34] (λx=>[(2,.own (.box (.agg [eOs 16 false F2_ x.1,I x.2.1,I x.2.2.1]))),(34,.d (I x.2.2.2))]) ht9  [Hi F8_ h6,Ha (lnM F8_ x_.F)] λ⟨jw,ja,kn,fw⟩ m9 dj ah hl2 J9 qe=>?_;obtain c5|c5:=zC ah
  ·refine yNs 1121001120110011 [J1,J7,J8,J9] [1,2,7,23,24,25,32,33,34] (λz:List (zz Int)×Int×Int=>kK fw z.1 z.2.1 z.2.2=some dj) (λz=>[(2,.own (.box (.agg [eOs 16 false F2_ z.1,I z.2.1,I z.2.2])))]) [c5,Hh (.cut 0)] ?_ λJ10 hJ10=>?_
   ·rintro⟨l4,ll,mp⟩ ah;cases ah;exact yB qe _ hl2 []
   obtain⟨a6,h7,sc,ht11,ah⟩:=ya c5.2;refine yM 112100112011001120110 [J1,J7,J8,J9,J10] [1,2,7,9,23,24,25,32,33,34,41,42,43] (λx=>[(2,.own (.box (.agg [eOs 16 false F2_ x.1,I x.2.1,I x.2.2.1]))),(43,.d (I x.2.2.2))]) ht11  [Hi F8_ h7,Ha (lnM F8_ x_.O)] λ⟨i8,ix,jv,my⟩ su nb aw hl3 se pw=>?_;obtain c6|c6:=zC aw
   ·obtain⟨fy,h8,aw⟩:=zn c6.2;refine yC 112100112011001120110011001 [J1,J7,J8,J9,J10,se] [1,2,7,9,11,23,24,25,32,33,34,41,42,43] [c6,Hi F8_ h8,Hh (.stp 0)] ?_;obtain⟨am,h9,aw⟩:=zn aw;obtain c7|c7:=zC aw
    ·cases c7.2;cases hl3;cases ah;cases hl2;cases ae;cases hl1;cases aa;exact yD 5 [2] ((xC (H:=zd 10) bz _ _ _ h9).2 c7.1) [.atom bz,z6W [gq,a6,fy]] inferInstance [Hm (shM F8_ F8_ ([gq,a6,fy]))] λst0=>hD rfl st0
    cases c7.2;exact yB (H:=zx ((qZ (P:=prog) wD [2] ((xC (H:=zd 10) bz _ _ _ h9).1 c7.1) 52).or X0)) pw _ hl3 [Hm (shM F8_ F8_ ([gq,a6,fy])),Hn (Yr (f:=.fn 219 []) (xs:=[.atom bz,yp [gq,a6,fy]]) (ls:=[(bz,.box (.agg [eOs 16 false F2_ i8,I ix,I jv]))]) (r:=.tup []) (ys:=[.box (.agg [eOs 16 false F2_ am.1.x,I am.1.s,I am.1.w])]) [.atom bz,z6W [gq,a6,fy]] (show Jp [.atom bz,z6W [gq,a6,fy]] [.atom bz,yp [gq,a6,fy]] from inferInstance))]
   cases c6.2;cases hl3;exact yB hJ10 (i8,ix,jv) ah [c6]
  cases c5.2;cases hl2;exact yB lq (jw,ja,kn) ae [c5]
 cases c4.2;cases hl1;exact yB ar (jx,jb,ko) aa [c4]
def Um [H:HS X0 zkN](bz:Value):∀(x0:Vf) (x_:zF) (b_:zb) (r0:zb×Bool),wh x0 x_ b_=some r0->z82 prog 229 [.agg [],.sptr (.agg [.agg [I x_.m_.j,I x_.m_.m,eSl 1 false xZ x_.m_.i],eSl 1 false F8_ x_.q_,eSl 1 false F8_ x_.p_,eSl 1 false F8_ x_.O,eSl 1 false yp x_.P,eSl 1 false F8_ x_.F,eSl 1 false F8_ x_.K]),.atom bz] ([bz].zip [.box (.agg [eOs 16 false F2_ b_.x,I b_.s,I b_.w])]) r0.2 (.iface 124 (.agg #[])) (.tup []) [.box (.agg [eOs 16 false F2_ r0.1.x,I r0.1.s,I r0.1.w])]:=by
 intro x0 x_ b_ r0 aa;refine z4X (tt:=wD) (nt:=f229.ntmps) (body:=zbd f229) [2] zu func229 rfl (by kernel_rfl) rfl rfl (by show(3:Nat)<=48;decide) (by decide) rfl rfl rfl (λE hE hD=>?_);refine yMb 1110 [] [1,2,15,16,17] (λx=>[(2,.own (.box (.agg [eOs 16 false F2_ x.1,I x.2.1,I x.2.2.1]))),(17,.d (I x.2.2.2))]) aa  [Ha (lnM F8_ x_.p_)] λt1 aa ⟨br,cp,fm,ba⟩ m1 av ae hl1 J1 ar=>?_;obtain c0|c0:=zC ae
 ·refine yNs 1110011 [J1] [1,2,15,16,17] (λz:List (zz Int)×Int×Int=>kO ba z.1 z.2.1 z.2.2=some av) (λz=>[(2,.own (.box (.agg [eOs 16 false F2_ z.1,I z.2.1,I z.2.2])))]) [c0,Hh (.cut 0)] ?_ λJ2 au=>?_
  ·rintro⟨bh,cj,fh⟩ ae;cases ae;exact yB ar _ hl1 []
  obtain⟨bj,h0,t3,ht3,ae⟩:=ya c0.2;refine yM 111001120110 [J1,J2] [1,2,7,15,16,17,24,25,26] (λx=>[(2,.own (.box (.agg [eOs 16 false F2_ x.1,I x.2.1,I x.2.2.1]))),(26,.d (I x.2.2.2))]) ht3  [Hi F8_ h0,Ha (lnM F8_ x_.F)] λ⟨bm,ce,d0,gk⟩ m3 dj ah hl2 J3 bg=>?_;obtain c1|c1:=zC ah
  ·refine yNs 111001120110011 [J1,J2,J3] [1,2,7,15,16,17,24,25,26] (λz:List (zz Int)×Int×Int=>kN gk z.1 z.2.1 z.2.2=some dj) (λz=>[(2,.own (.box (.agg [eOs 16 false F2_ z.1,I z.2.1,I z.2.2])))]) [c1,Hh (.cut 0)] ?_ λJ4 db=>?_
   ·rintro⟨aq,bc,fj⟩ ah;cases ah;exact yB bg _ hl2 []
   obtain⟨a6,h1,r_,h2,t5,ht5,ah⟩:=jI c1.2;refine yM 11100112011001120110 [J1,J2,J3,J4] [1,2,7,9,15,16,17,24,25,26,33,34,35] (λx=>[(2,.own (.box (.agg [eOs 16 false F2_ x.1,I x.2.1,I x.2.2.1]))),(35,.d (I x.2.2.2))]) ht5  [Hi F8_ h1,zC3 0 h2,Ha (lnM F8_ r_)] λ⟨ct,cg,dz,ib⟩ m5 nb aw hl3 J5 dc=>?_;obtain c2|c2:=zC aw
   ·obtain⟨dm,h3,aw⟩:=zn c2.2;refine yC 11100112011001120110011001 [J1,J2,J3,J4,J5] [1,2,7,9,11,15,16,17,24,25,26,33,34,35] [c2,Hi F8_ h3,Hh (.stp 0)] ?_;obtain⟨ai,h4,aw⟩:=zn aw;obtain c3|c3:=zC aw
    ·cases c3.2;cases hl3;cases ah;cases hl2;cases ae;cases hl1;cases aa;exact yD 5 [2] ((xC (H:=zd 10) bz _ _ _ h4).2 c3.1) [.atom bz,z6W [bj,a6,dm]] inferInstance [Hm (shM F8_ F8_ ([bj,a6,dm]))] λst0=>hD rfl st0
    cases c3.2;exact yB (H:=zx ((qZ (P:=prog) wD [2] ((xC (H:=zd 10) bz _ _ _ h4).1 c3.1) 44).or X0)) dc _ hl3 [Hm (shM F8_ F8_ ([bj,a6,dm])),Hn (Yr (f:=.fn 219 []) (xs:=[.atom bz,yp [bj,a6,dm]]) (ls:=[(bz,.box (.agg [eOs 16 false F2_ ct,I cg,I dz]))]) (r:=.tup []) (ys:=[.box (.agg [eOs 16 false F2_ ai.1.x,I ai.1.s,I ai.1.w])]) [.atom bz,z6W [bj,a6,dm]] (show Jp [.atom bz,z6W [bj,a6,dm]] [.atom bz,yp [bj,a6,dm]] from inferInstance))]
   cases c2.2;cases hl3;exact yB db (ct,cg,dz) ah [c2]
  cases c1.2;cases hl2;exact yB au (bm,ce,d0) ae [c1]
 cases c0.2;cases hl1;cases aa;exact yF .normal [(2,.own (.box (.agg [eOs 16 false F2_ br,I cp,I fm])))] [c0] λst0 h0=>hE rfl _ st0 (.inl rfl) (XF h0 ⟨⟨rfl,rfl⟩,trivial⟩)
def zly:List y7:=z2N 37 zlM (eIf 77) s7 (eT2 (ePo Vh) eB) vX::zkN
def z1t [H:HS X0 zkN]:OkH zly:=by
 have hE:∀b:zb,(A.agg [eOs 16 false F2_ b.x,eI .i64 b.s,eI .i64 b.w]).live=true/\(A.agg [eOs 16 false F2_ b.x,eI .i64 b.s,eI .i64 b.w]).shut=yH zlP s7 s7 b:=λb=>⟨z0O.live (f:=yH zp0 s7 s7) b,z0O.sh (f:=yH zp0 s7 s7) b⟩;refine UX ?_;rintro⟨x,s,most⟩ r0 aa;obtain⟨r,hr,aa⟩:=zn aa;obtain rfl:=w9 aa;have key:∀(T kf:Nat),(∀w,(method 392 T (.agg #[]) "gauntlet/suites.fill").run prog w=.ok (kf,.agg #[]) w)->(∀args w,(callFunc kf args).run prog w=.ok (.enter kf args) w) ->
   (∀bv,z82 prog kf [.agg [],zlM x,.atom bv] [(bv,.box (.agg [.osl 16 false [.agg (List.replicate 16 (.atom (.int .i32 0)))],.atom (.int .i64 0),.atom (.int .i64 most)]))] r.2 (.iface 124 (.agg #[])) (.tup []) [.box (.agg [eOs 16 false F2_ r.1.x,eI .i64 r.1.s,eI .i64 r.1.w])]) ->
   uQ prog 37 [zlM x,.atom (.iface T (.agg #[])),.atom (.int .i64 most)] (.tup [ePo Vh (bif r.2 then none else some r.1),eB (!r.2)]):=by
  intro T kf h1 h2 h3;have q:=z7M h1 h2 rfl (hE r.1).1 (hE r.1).2 h3;refine q.le ?_;cases r.2
  ·exact(show LeV (.tup [.sptr (yH zlP s7 s7 r.1),.atom (.bool true)]) (.tup [.dop (poQ (some (yH zlP s7 s7 r.1))),.atom (.bool true)]) from inferInstance)
  exact(show LeV (.tup [.atom (.pointer none),.atom (.bool false)]) (.tup [.dop (poQ none),.atom (.bool false)]) from inferInstance)
 match s,hr with
 |0,hr=>exact key 77 218 Tryz.meth77 (λ_ _=>by kernel_rfl) λbv=>QZ (H:=zd 10) bv ⟨⟩ x _ r hr
 |1,hr=>exact key 78 220 Tryz.meth78 (λ_ _=>by kernel_rfl) λbv=>UP (H:=zd 0) bv ⟨⟩ x _ r hr
 |2,hr=>exact key 79 229 Tryz.meth79 (λ_ _=>by kernel_rfl) λbv=>Um (H:=zd 0) bv ⟨⟩ x _ r hr
 |n+3,hr=>cases hr
def xu:y7:=spR (α:=TA) (ρ:=TA) 112 (λx=>[(eOs 1 false F4_) x]) (λr=>zlO r) (λx=>w7 x) [true] (zow)
def XK:∀x r,(λx=>w7 x) x=some r->(KX.add xu).run 112 ((KX.add xu).norm 112 ((λx=>[(eOs 1 false F4_) x]) x))=some ((λr=>zlO r) r):=λx r h=>znc h rfl
def XL:(KX.add xu).gives 112=[true]:=zhY
def XU [H:HS X0 zly]:xu.Ok prog:=by refine zai ?_;rintro s_ r0 aa;refine zY true func112 λE hE=>?_;cases aa;exact yE (H:=zx ((xCl zu 8).or X0)) hE [Ha (lnM F4_ s_),Ha (lnM F4_ s_),Hn (nB _:(0:Int)<=((s_.length:Nat):Int)),Hn (nB _:(0:Int)<=((s_.length:Nat):Int)),Hn (clB F4_ s_),Ha (clE 1 F4_ s_)]
def zna:List y7:=Yo 69 (eSp Vh) zlO wT::zly
abbrev UC (out:TA):List (Nat×T):=[(2,.own (eOs 1 false F4_ out))]
abbrev UB (b_:zb)(ax:TA)(next:List zh):List (Nat×T):=[(0,.d (.sptr (Vh b_))),(2,.own (eOs 1 false F4_ ax)),(4,.own (eOs 2 false UN next))]
abbrev UA (b_:zb)(ay:List zh)(ba:Int)(gx:TA)(ff:List zh):List (Nat×T):=[(0,.d (.sptr (Vh b_))),(2,.own (eOs 1 false F4_ gx)),(3,.own (eOs 2 false UN ay)),(4,.own (eOs 2 false UN ff)),(15,.als 3 [] 0 0),(16,.d (I ((ay.length:Nat):Int))),(17,.d (I ba))]
abbrev Uz (b_:zb)(ay:List zh)(bo:TA)(ba:Int)(a8:zh)(cb:List zh)(pu:Bool):List (Nat×T):=[(0,.d (.sptr (Vh b_))),(2,.own (eOs 1 false F4_ bo)),(3,.own (eOs 2 false UN ay)),(4,.own (eOs 2 false UN cb)),(6,.own (.box (UN a8))),(7,.d (B pu)),(15,.als 3 [] 0 0),(16,.d (I ((ay.length:Nat):Int))),(17,.d (I ba))]
abbrev Uy (b_:zb)(ay:List zh)(bo:TA)(ba:Int)(a8:zh)(a7:zz Int)(fg:Int)(og:List zh)(oh:Bool):List (Nat×T):=[(0,.d (.sptr (Vh b_))),(2,.own (eOs 1 false F4_ bo)),(3,.own (eOs 2 false UN ay)),(4,.own (eOs 2 false UN og)),(6,.own (.box (UN a8))),(7,.d (B oh)),(15,.als 3 [] 0 0),(16,.d (I ((ay.length:Nat):Int))),(17,.d (I ba)),(28,.d (F2_ a7)),(29,.d (I fg))]
abbrev Uv (b_:zb)(ay:List zh)(bo:TA)(ba:Int)(a8:zh)(a7:zz Int)(iq:List zh)(l9:Bool)(fg:Int):List (Nat×T):=[(0,.d (.sptr (Vh b_))),(2,.own (eOs 1 false F4_ bo)),(3,.own (eOs 2 false UN ay)),(4,.own (eOs 2 false UN iq)),(6,.own (.box (UN a8))),(7,.d (B l9)),(15,.als 3 [] 0 0),(16,.d (I ((ay.length:Nat):Int))),(17,.d (I ba)),(28,.d (F2_ a7)),(29,.d (I fg))]
abbrev Uw (b_:zb)(ay:List zh)(bo:TA)(cr:List zh)(ba:Int):List (Nat×T):=[(0,.d (.sptr (Vh b_))),(2,.own (eOs 1 false F4_ bo)),(3,.own (eOs 2 false UN ay)),(4,.own (eOs 2 false UN cr)),(15,.als 3 [] 0 0),(16,.d (I ((ay.length:Nat):Int))),(17,.d (I ba))]
abbrev Ux (b_:zb)(aj:TA)(ay:List zh):List (Nat×T):=[(0,.d (.sptr (Vh b_))),(2,.own (eOs 1 false F4_ aj)),(3,.own (eOs 2 false UN ay))]
def uO:XH prog:=((X8 zu (.inl 52) [51]).or ((X8 zu (.inl 43) [42]).or ((X8 zu (.inl 11) [10]).or X0)))
def K2 [H:HS uO zly]:OkH zna:=yS1 true func69 λb_ r0 aa E hE=>by
 refine yJ 111 [] [2] (λz:TA=>u7 z=some r0) (λz=>UC z) [(0,.d (.sptr (Vh b_))),(2,.own (eOs 1 true F8_ [])),(3,.own (eOs 2 true (yV (eI .i32) F4_) ([(zh.mk 0 [])])))] [Hm (shM s7 s7 []),Hh (.cut 0)] ?_ λJ1 ar=>?_
 ·rintro out aa;unfold u7 at aa;obtain⟨r_,h0,aa⟩:=zn aa;obtain rfl:=w9 aa;exact yE (H:=zx ((z44 zu (XU (H:=zd 0)) 57).or uO)) hE [Hh (.g [true]),Hn XL,Hx (.a (zlO r_)) (XK out _ h0)]
 obtain⟨t2,ht2,aa⟩:=zn aa;refine yLx 11120 [J1] (λs=>vY b_ s.1 s.2) (λx=>Ux b_ x.1 x.2) (([]:TA),([(zh.mk 0 [])]:List zh)) ht2 [(0,.d (.sptr (Vh b_))),(2,.own (eOs 1 true F4_ [])),(3,.own (eOs 2 true (yV (eI .i32) F4_) ([(zh.mk 0 [])])))] inferInstance [] λ⟨aj,ay⟩ m2 av ae hl1 J2 au=>?_;try unfold vY at ae
 let Z0:List HO:=[Ha (lnM UN ay)];obtain c0|c0:=zC ae
 ·refine yJ 111200101 [J1,J2] [0,2,4] (λz:TA×List zh=>u6 z.1 z.2=some av) (λz=>UB b_ z.1 z.2) [(0,.d (.sptr (Vh b_))),(2,.own (eOs 1 false F4_ aj)),(3,.own (eOs 2 false UN ay)),(4,.own (eOs 2 true UN []))] (Z0++[c0,Hh (.cut 1)]) ?_ λJ3 bg=>?_
  ·rintro⟨ax,next⟩ ae;unfold u6 at ae;obtain rfl:=w9 ae;exact yB au _ hl1 []
  obtain⟨t4,ht4,ae⟩:=zn c0.2;refine yLx 111200101210 [J1,J2,J3] (λs=>yl b_ ay s.1 s.2.1 s.2.2) (λx=>Uw b_ ay x.1 x.2.1 x.2.2) (aj,([]:List zh),0) ht4 [(0,.d (.sptr (Vh b_))),(2,.own (eOs 1 false F4_ aj)),(3,.own (eOs 2 false UN ay)),(4,.own (eOs 2 true UN [])),(15,.als 3 [] 0 0),(16,.d (I ((ay.length:Nat):Int))),(17,.d (I 0))] inferInstance [Ha (lnM UN ay)] λ⟨bo,cr,ba⟩ m4 dj ah hl2 J4 db=>?_;try unfold yl at ah;obtain c1|c1:=zC ah
  ·refine yJ 111200101210011 [J1,J2,J3,J4] [0,2,3,4,15,16,17] (λz:TA×List zh=>wJ ba z.1 z.2=some dj) (λz=>UA b_ ay ba z.1 z.2) [(0,.d (.sptr (Vh b_))),(2,.own (eOs 1 false F4_ bo)),(3,.own (eOs 2 false UN ay)),(4,.own (eOs 2 false UN cr)),(15,.als 3 [] 0 0),(16,.d (I ((ay.length:Nat):Int))),(17,.d (I ba))] [c1,Hh (.cut 0)] ?_ λJ5 dc=>?_
   ·rintro⟨gx,ff⟩ ah;unfold wJ at ah;obtain rfl:=w9 ah;exact yB db _ hl2 []
   obtain⟨a8,h1,ah⟩:=zn c1.2;refine yJ 1112001012100112011 [J1,J2,J3,J4,J5] [0,2,3,4,6,7,15,16,17] (λz:List zh×Bool=>vZ bo ba a8 z.1 z.2=some dj) (λz=>Uz b_ ay bo ba a8 z.1 z.2) [(0,.d (.sptr (Vh b_))),(2,.own (eOs 1 false F4_ bo)),(3,.own (eOs 2 false UN ay)),(4,.own (eOs 2 false UN cr)),(6,.own (.box (UN a8))),(7,.d (B true)),(15,.als 3 [] 0 0),(16,.d (I ((ay.length:Nat):Int))),(17,.d (I ba))] [Hn (iL UN h1),Hs (iM UN h1),Hh (.cut 1)] ?_ λJ6 ep=>?_
   ·rintro⟨cb,pu⟩ ah;unfold vZ at ah;obtain c2|c2:=zC ah
    ·obtain⟨ai,h2,ah⟩:=zn c2.2;obtain⟨g0,ah⟩:=gdE ah;exact yB dc ((bo++[ai]),cb) ah [c2,zC1 54 h2,Hq (dM F4_ [ai]),Hn (dM F4_ [ai]),Hn (aL F4_ F4_ g0),Hl (aM F4_ bo [ai])]
    exact yB dc (bo,cb) c2.2 [c2]
   obtain⟨a7,h3,t7,ht7,ah⟩:=ya ah;refine yL 1112001012100112011210 [J1,J2,J3,J4,J5,J6] (λs=>yk a8 a7 s.1 s.2.1 s.2.2) (λx=>Uv b_ ay bo ba a8 a7 x.1 x.2.1 x.2.2) (cr,true,0) ht7  [Hi F2_ h3] λ⟨iq,l9,fg⟩ m7 nb aw hl3 J7 gw=>?_;try unfold yk at aw;obtain c3|c3:=zC aw
   ·refine yJ 1112001012100112011210011 [J1,J2,J3,J4,J5,J6,J7] [0,2,3,4,6,7,15,16,17,28,29] (λz:List zh×Bool=>wI fg z.1 z.2=some nb) (λz=>Uy b_ ay bo ba a8 a7 fg z.1 z.2) [(0,.d (.sptr (Vh b_))),(2,.own (eOs 1 false F4_ bo)),(3,.own (eOs 2 false UN ay)),(4,.own (eOs 2 false UN iq)),(6,.own (.box (UN a8))),(7,.d (B l9)),(15,.als 3 [] 0 0),(16,.d (I ((ay.length:Nat):Int))),(17,.d (I ba)),(28,.d (F2_ a7)),(29,.d (I fg))] [c3,Hh (.cut 0)] ?_ λJ8 lq=>?_
    ·rintro⟨og,oh⟩ aw;unfold wI at aw;obtain rfl:=w9 aw;exact yB gw _ hl3 []
    obtain⟨cell,h4,aw⟩:=zn c3.2;let Z1:List HO:=[Hs (iM (eI .i32) h4),Hn (ixV (k:=.i32) (tt:=wD) (e:=21) (l:=[a7.e0,a7.e1,a7.e2,a7.e3,a7.e4,a7.e5,a7.e6,a7.e7,a7.e8,a7.e9,a7.e10,a7.e11,a7.e12,a7.e13,a7.e14,a7.e15]) (λ_=>by kernel_rfl) h4 (m:=16) rfl)];obtain c4|c4:=zC aw
    ·obtain⟨ak,h5,aw⟩:=zn c4.2;obtain⟨g1,aw⟩:=gdE aw;obtain⟨g2,aw⟩:=gdE aw;exact yB (H:=zx ((znC zu 32).or uO)) lq ((iq++[(zh.mk cell (ak++[fg]))]),false) aw (Z1++[c4,zC1 54 h5,Hq (dM s7 [fg]),Hn (dM s7 [fg]),Hn (aN s7 s7 g1 (by simp)),Hl (aM s7 ak [fg]),Hm (shM s7 s7 (ak++[fg])),Hq (dM UN [(zh.mk cell (ak++[fg]))]),Hn (dM UN [(zh.mk cell (ak++[fg]))]),Hn (aL UN UN g2),Hl (aM UN iq [(zh.mk cell (ak++[fg]))])])
    exact yB (H:=zx ((znC zu 32).or uO)) lq (iq,l9) c4.2 (Z1++[c4])
   obtain rfl:=w9 c3.2;obtain rfl:=hl3;exact yB ep (iq,l9) ah [c3]
  obtain rfl:=w9 c1.2;obtain rfl:=hl2;exact yB bg (bo,cr) ae [c1]
 obtain rfl:=w9 c0.2;obtain rfl:=hl1;exact yB ar aj aa (Z0++[c0])
def zn9:List y7:=zh8 35 (eIf 77) xe s7 s7 (eT2 kC s7) ww::zna
def z2U [H:HS X0 zna]:OkH zn9:=yS4 false func35 λs_ m_ bound bf r0 aa E hE=>by
 obtain⟨r_,h0,aa⟩:=zn aa;let Z0:List HO:=[zC2 58 h0];obtain c0|c0:=zC aa
 ·cases c0.2;exact yE hE (Z0++[c0,Hm (shM F8_ F8_ [])])
 obtain c1|c1:=zC c0.2
 ·cases c1.2;exact yE hE (Z0++[c0,c1,c1,c1,qT,Hm (shM F8_ F8_ [])])
 let Z1:List HO:=(Z0++[c0,c1,c1,c1]);obtain c2|c2:=zC c1.2
 ·cases c2.2;exact yE hE (Z1++[c2,Hm (shM F8_ F8_ [])])
 obtain⟨ai,h1,aa⟩:=zn c2.2;let Z2:List HO:=(Z1++[c2,zC2 12 h1,Hn (rfl:T.d (ePo JC ai.1)=T.d (ePo JC ai.1))]);obtain c3|c3:=zC aa
 ·cases c3.2;exact yE (H:=zx ((xRe prog 11 (ePo JC ai.1) (ePo JC ai.1) (λ_ _ q=>q)).or X0)) hE (Z2++[c3,Hm (shM F8_ F8_ [])])
 obtain⟨there,h2,ak,h3,aa⟩:=ya c3.2;let Z3:List HO:=(Z2++[c3,Hn (rfl:T.d (ePo JC ai.1)=T.d (ePo JC ai.1)),zC3 1 h3,Hn (rfl:T.d (ePo Vh ak.1)=T.d (ePo Vh ak.1))]);obtain c4|c4:=zC aa
 ·cases c4.2;exact yE (H:=zx ((xRe prog 13 (ePo Vh ak.1) (ePo Vh ak.1) (λ_ _ q=>q)).or ((xRe prog 38 (ePo JC ai.1) (.sptr (.agg [.agg [I there.m_.j,I there.m_.m,eSl 1 false xZ there.m_.i],eSl 1 false F8_ there.q_,eSl 1 false F8_ there.p_,eSl 1 false F8_ there.O,eSl 1 false yp there.P,eSl 1 false F8_ there.F,eSl 1 false F8_ there.K])) (poM (f:=JC) h2)).or ((xRe prog 11 (ePo JC ai.1) (ePo JC ai.1) (λ_ _ q=>q)).or X0)))) hE (Z3++[c4,Hm (shM F8_ F8_ [])])
 obtain⟨ee,h4,am,h5,az,h6,aa⟩:=jI c4.2;let Z4:List HO:=(Z3++[c4,Hn (rfl:T.d (ePo Vh ak.1)=T.d (ePo Vh ak.1)),zC1 0 h5,zg 32,Hm (shM F4_ F4_ am),Hs (zf2 32 h6 (loC kC am<|loC s7 m_.j<|loN))]);obtain c5|c5:=zC aa
 ·cases c5.2;exact yE (H:=zx ((xRe prog 46 (ePo Vh ak.1) (.sptr (.agg [eSl 16 false F2_ ee.x,I ee.s,I ee.w])) (poM (f:=Vh) h4)).or ((xRe prog 13 (ePo Vh ak.1) (ePo Vh ak.1) (λ_ _ q=>q)).or ((xRe prog 38 (ePo JC ai.1) (.sptr (.agg [.agg [I there.m_.j,I there.m_.m,eSl 1 false xZ there.m_.i],eSl 1 false F8_ there.q_,eSl 1 false F8_ there.p_,eSl 1 false F8_ there.O,eSl 1 false yp there.P,eSl 1 false F8_ there.F,eSl 1 false F8_ there.K])) (poM (f:=JC) h2)).or ((xRe prog 11 (ePo JC ai.1) (ePo JC ai.1) (λ_ _ q=>q)).or X0))))) hE (Z4++[c5,Hm (shM F8_ F8_ [])])
 cases c5.2;exact yE (H:=zx ((xRe prog 46 (ePo Vh ak.1) (.sptr (.agg [eSl 16 false F2_ ee.x,I ee.s,I ee.w])) (poM (f:=Vh) h4)).or ((xRe prog 13 (ePo Vh ak.1) (ePo Vh ak.1) (λ_ _ q=>q)).or ((xRe prog 38 (ePo JC ai.1) (.sptr (.agg [.agg [I there.m_.j,I there.m_.m,eSl 1 false xZ there.m_.i],eSl 1 false F8_ there.q_,eSl 1 false F8_ there.p_,eSl 1 false F8_ there.O,eSl 1 false yp there.P,eSl 1 false F8_ there.F,eSl 1 false F8_ there.K])) (poM (f:=JC) h2)).or ((xRe prog 11 (ePo JC ai.1) (ePo JC ai.1) (λ_ _ q=>q)).or X0))))) hE (Z4++[c5,Hm (shM F4_ F4_ am)])
def zn8:List y7:=z2N 10 xe s7 s7 (eT2 kC s7) W5::zn9
def z9m [H:HS X0 zn9]:OkH zn8:=yS3 false func10 λm_ bound bf r0 aa E hE=>by obtain⟨r_,h0,aa⟩:=zn aa;cases aa;exact yE (H:=zx ((zgs prog 9 77 underlying77).or X0)) hE [zC4 0 h0]
def zn7:List y7:=z2N 11 xe s7 s7 (eT2 kC s7) UU::zn8
def z74 [H:HS X0 zn8]:OkH zn7:=yS3 false func11 λm_ bound bf r0 aa E hE=>by obtain⟨r_,h0,aa⟩:=zn aa;cases aa;exact yE (H:=zx ((zgs prog 9 78 underlying78).or X0)) hE [zC4 1 h0]
def zn6:List y7:=z2N 12 xe s7 s7 (eT2 kC s7) V0::zn7
def z5q [H:HS X0 zn7]:OkH zn6:=yS3 false func12 λm_ bound bf r0 aa E hE=>by obtain⟨r_,h0,aa⟩:=zn aa;cases aa;exact yE (H:=zx ((zgs prog 9 79 underlying79).or X0)) hE [zC4 2 h0]
def zn5:List y7:=uR 13 xe s7 (eT2 F1_ s7) z0z::zn6
def z2V [H:HS X0 zn6]:OkH zn5:=yS2 false func13 λm_ bound r0 aa E hE=>by
 obtain⟨r_,h0,aa⟩:=zn aa;let Z0:List HO:=[zC2 62 h0];obtain c0|c0:=zC aa
 ·cases c0.2;exact yE hE (Z0++[c0])
 obtain⟨ai,h1,aa⟩:=zn c0.2;let Z1:List HO:=(Z0++[c0,zC2 16 h1,Hn (rfl:T.d (ePo JC ai.1)=T.d (ePo JC ai.1))]);obtain c1|c1:=zC aa
 ·cases c1.2;exact yE (H:=zx ((xRe prog 7 (ePo JC ai.1) (ePo JC ai.1) (λ_ _ q=>q)).or X0)) hE (Z1++[c1])
 refine yK (H:=zx ((xRe prog 7 (ePo JC ai.1) (ePo JC ai.1) (λ_ _ q=>q)).or X0)) 11111 [] [4] (zI UV r0) (λz=>[(4,.own (.box (F1_ z)))]) [4,7] (Z1++[c1,Hh (.cut 0)]) ?_ λJ1 ar=>?_
 ·rintro n_ aa;cases aa;exact yE hE []
 refine yMb (H:=zx ((zgs prog 33 79 underlying79).or ((zgs prog 31 78 underlying78).or ((zgs prog 29 77 underlying77).or X0)))) 11111210 [J1] [4,7,34,35,36] (λx=>[(4,.own (.box (F1_ x.1))),(36,.d (I x.2))]) c1.2  [Ha (lnM (eIf 77) ([0,1,2]:TC))] λt2 aa ⟨ca,kl⟩ m2 av ae hl1 J2 au=>?_;obtain c2|c2:=zC ae
 ·obtain⟨mj,h2,there,h3,ak,h4,ae⟩:=jI c2.2;let Z2:List HO:=[c2,Hn (iL (eIf 77) h2),Hs (iM (eIf 77) h2),Hn (rfl:T.d (ePo JC ai.1)=T.d (ePo JC ai.1)),zC3 5 h4,Hn (rfl:T.d (ePo Vh ak.1)=T.d (ePo Vh ak.1))];obtain c3|c3:=zC ae
  ·cases c3.2;cases hl1;cases aa;exact yE (H:=zx ((xRe prog 10 (ePo Vh ak.1) (ePo Vh ak.1) (λ_ _ q=>q)).or ((xRe prog 42 (ePo JC ai.1) (.sptr (.agg [.agg [I there.m_.j,I there.m_.m,eSl 1 false xZ there.m_.i],eSl 1 false F8_ there.q_,eSl 1 false F8_ there.p_,eSl 1 false F8_ there.O,eSl 1 false yp there.P,eSl 1 false F8_ there.F,eSl 1 false F8_ there.K])) (poM (f:=JC) h3)).or X0))) hE (Z2++[c3])
  obtain⟨ee,h5,cell,h6,arr,h7,ae⟩:=jI c3.2;replace h7:=w9 h7;cases ae;exact yB (H:=zx ((xRe prog 51 (ePo Vh ak.1) (.sptr (.agg [eSl 16 false F2_ ee.x,I ee.s,I ee.w])) (poM (f:=Vh) h5)).or ((xRe prog 10 (ePo Vh ak.1) (ePo Vh ak.1) (λ_ _ q=>q)).or ((xRe prog 42 (ePo JC ai.1) (.sptr (.agg [.agg [I there.m_.j,I there.m_.m,eSl 1 false xZ there.m_.i],eSl 1 false F8_ there.q_,eSl 1 false F8_ there.p_,eSl 1 false F8_ there.O,eSl 1 false yp there.P,eSl 1 false F8_ there.F,eSl 1 false F8_ there.K])) (poM (f:=JC) h3)).or X0)))) au _ hl1 (Z2++[c3,Hn (rfl:T.d (ePo Vh ak.1)=T.d (ePo Vh ak.1)),Hn (⟨arJ (by kernel_rfl) (i0 h6),(iL s7 h6).2⟩:vT wD 36 ((xT.toL ca).map s7) kl=true/\kl.toNat<((xT.toL ca).map s7).length),Hh (.op 7),Hh (.f),Hs (iM s7 h6),Hh (.f),Hs (iM s7 h6),Hx (.l ((xT.toL arr).map s7)) ((xT.setL s7 ca kl (mx ee.s 1)).trans (congrArg (λq=>(xT.toL q).map s7) h7))])
 cases c2.2;cases hl1;exact yB ar ca aa [c2]
def zn4:List y7:=uR 48 s7 s7 (eOs 1 false F7_) Xs::zn5
def z4l [H:HS X0 zn5]:OkH zn4:=yS2 true func48 λinputs k_ r0 aa E hE=>by
 refine yK 111 [] [5] (zI Jx r0) (λz=>[(5,.own (eOs 1 false F7_ z))]) [0,1,5] [Hh (.cut 2)] ?_ λJ1 ar=>?_
 ·rintro out aa;cases aa;exact yE hE []
 obtain⟨t2,ht2,aa⟩:=zn aa;refine yMx 111210 [J1] [0,1,5,6] (λx=>[(5,.own (eOs 1 false F7_ x.1)),(6,.d (I x.2))]) ht2 [(5,.own (eOs 1 true F5_ ([[]]))),(6,.d (I 0))] [] λ⟨aj,n_⟩ m2 av ae hl1 J2 au=>?_;obtain c0|c0:=zC ae
 ·refine yNs 11121001 [J1,J2] [0,1,5,6] (zI (WC n_) av) (λz=>[(5,.own (eOs 1 false F7_ z))]) [c0,Hh (.cut 0)] ?_ λJ3 bg=>?_
  ·rintro ax ae;cases ae;exact yB au _ hl1 []
  refine yN 11121001201 [J1,J2,J3] [0,1,6,7] (zI (WB n_) av) (λz=>[(7,.own (eOs 1 false F7_ z))]) [0,1,5,6,7] [Hh (.cut 1)] ?_ λJ4 db=>?_
  ·rintro next ae
   exact yB bg next ae []
  obtain⟨t5,ht5,ae⟩:=zn c0.2;refine yMx 11121001201210 [J1,J2,J3,J4] [0,1,5,6,7,8] (λx=>[(7,.own (eOs 1 false F7_ x.1)),(8,.d (I x.2))]) ht5 [(7,.own (eOs 1 true F7_ [])),(8,.d (I 0))] [] λ⟨cr,i_⟩ m5 dj ah hl2 J5 dc=>?_;let Z0:List HO:=[Ha (lnM F7_ aj)];obtain c1|c1:=zC ah
  ·refine yNs 1112100120121001 [J1,J2,J3,J4,J5] [0,1,5,6,7,8] (zI (Wz i_) dj) (λz=>[(7,.own (eOs 1 false F7_ z))]) (Z0++[c1,Hh (.cut 0)]) ?_ λJ6 ep=>?_
   ·rintro ff ah;cases ah;exact yB dc _ hl2 []
   refine yMb 11121001201210012010 [J1,J2,J3,J4,J5,J6] [0,1,5,6,7,8,9] (λx=>[(7,.own (eOs 1 false F7_ x.1)),(9,.d (I x.2))]) c1.2  [] λt7 ah ⟨cb,s_⟩ m7 nb aw hl3 J7 gw=>?_;obtain c2|c2:=zC aw
   ·obtain⟨dn,h0,aw⟩:=zn c2.2;obtain⟨g0,aw⟩:=gdE aw;obtain⟨g1,aw⟩:=gdE aw;obtain⟨g2,aw⟩:=gdE aw;cases aw;exact yB gw _ hl3 [c2,Hn (iL F7_ h0),Hs (iM F7_ h0),Hs (iM F7_ h0),Hq (dM s7 dn),Hs (iM F7_ h0),Hn (dM s7 dn),Hn (aL s7 s7 g0),Hl (aM0 s7 dn),Hq (dM s7 [s_]),Hn (dM s7 [s_]),Hn (aL s7 s7 g1),Hl (aM s7 dn [s_]),Hq (oC F7_ (dn++[s_]) []),Hn (aL F7_ F7_ g2),Hl (aM F7_ cb [(dn++[s_])])]
   cases c2.2;cases hl3;exact yB ep cb ah [c2]
  cases c1.2;cases hl2;exact yB db cr ae (Z0++[c1])
 cases c0.2;cases hl1;exact yB ar aj aa [c0]
def zn3:List y7:=uR 39 s7 s7 z0M qN::zn4
def z6U:XH prog:=((X8 zu (.inl 16) [15]).or X0)
def z5s [H:HS z6U zn4]:OkH zn3:=yS2 true func39 λinputs k_ r0 aa E hE=>by
 refine yK 111 [] [5] (zI Kr r0) (λz=>[(5,.own (eOs 1 false F8_ z))]) [0,1,5] [Hh (.cut 2)] ?_ λJ1 ar=>?_
 ·rintro out aa;cases aa;exact yE hE []
 obtain⟨t2,ht2,aa⟩:=zn aa;refine yMx 111210 [J1] [0,1,5,6] (λx=>[(5,.own (eOs 1 false F8_ x.1)),(6,.d (I x.2))]) ht2 [(5,.own (eOs 1 true F8_ [])),(6,.d (I 0))] [] λ⟨aj,n_⟩ m2 av ae hl1 J2 au=>?_;obtain c0|c0:=zC ae
 ·obtain⟨r_,h0,ae⟩:=zn c0.2;obtain⟨g0,ae⟩:=gdE ae;cases ae;exact yB au _ hl1 [c0,zC2 0 h0,Hm (shM F7_ F8_ r_),Hn (dM F8_ r_),Hn (aL F8_ F8_ g0),Hl (aM F8_ aj r_)]
 cases c0.2;cases hl1;exact yB ar aj aa [c0]
def zn2:List y7:=uR 60 F8_ F8_ s7 v8::zn3
def z1u [H:HS X0 zn3]:OkH zn2:=yS2 true func60 λa_ b_ r0 aa E hE=>by
 let Z0:List HO:=[Ha (lnM s7 a_),Ha (lnM s7 b_)];obtain c0|c0:=zC aa
 ·let Z1:List HO:=(Z0++[c0,Ha (lnM s7 a_),Ha (lnM s7 b_)]);obtain c1|c1:=zC c0.2
  ·cases c1.2;exact yE hE (Z1++[c1])
  cases c1.2;exact yE hE (Z1++[c1])
 refine yK 111 [] [] (λz:Unit=>Ug=some r0) (λz=>[]) [0,1] (Z0++[c0,Hh (.cut 0)]) ?_ λJ1 ar=>?_
 ·rintro⟨⟩ aa;cases aa;exact yE hE []
 refine yMb 111210 [J1] [0,1,5] (λx=>[(5,.d (I x))]) c0.2  [] λt2 aa i_ m2 av ae hl1 J2 au=>?_;obtain c2|c2:=zC ae
 ·obtain⟨dv,h0,dx,h1,ae⟩:=ya c2.2;let Z2:List HO:=[Ha (lnM s7 a_),c2,Hi s7 h0,Hi s7 h1];obtain c3|c3:=zC ae
  ·cases c3.2;cases hl1;cases aa;exact yE hE (Z2++[c3])
  obtain⟨i6,h2,l6,h3,ae⟩:=ya c3.2;let Z3:List HO:=(Z2++[c3,Hi s7 h2,Hi s7 h3]);obtain c4|c4:=zC ae
  ·cases c4.2;cases hl1;cases aa;exact yE hE (Z3++[c4])
  cases c4.2;exact yB au _ hl1 (Z3++[c4])
 cases c2.2;cases hl1;exact yB ar () aa [Ha (lnM s7 a_),c2]
def zn1:List y7:=uR 63 z0M F8_ z0M Q8 [true,false]::zn2
def z2J:XH prog:=((X8 zu (.inr 66) [65]).or ((X8 zu (.inl 44) [43]).or X0))
def z79 [H:HS z2J zn2]:OkH zn1:=yS2 true func63 λl_ w_ r0 aa E hE=>by
 refine yN 1111 [] [0,1,5] (zI (Q7 l_ w_) r0) (λz=>[(5,.d (I z))]) [0,1,5,6] [Ha (lnM F8_ l_),Hh (.cut 0)] ?_ λJ1 ar=>?_
 ·rintro ir aa;refine yNs 11111 [] [0,1,5] (λz:Unit=>Yd l_ w_ ir=some r0) (λz=>[]) [Hh (.cut 0)] ?_ λJ2 au=>?_
  ·rintro⟨⟩ aa;obtain⟨g0,aa⟩:=gdE aa;refine yNs (H:=zx ((xNb zu 43).or z2J)) 1111111 [] [0,1,5] (zI (Q6 w_ ir) r0) (λz=>[(0,.own (eOs 1 false F8_ z))]) [Hm (shM F7_ F8_ ([[]])),Hn (dM F8_ ([[]]:TA)),Hn (aL F8_ F8_ g0),Hl (aM F8_ l_ ([[]]:TA)),Hh (.cut 0)] ?_ λJ3 bg=>?_
   ·rintro dr aa;obtain⟨g1,aa⟩:=gdE aa;obtain⟨bi,h0,aa⟩:=zn aa;cases aa;exact yE hE [Hn (dM s7 w_),Hn (aL s7 s7 g1),Hl (aM0 s7 w_),Hn (iL F8_ h0),Hm (shM s7 s7 w_),Hs (iM F8_ h0),Hs (iM F8_ h0),Hl (sM F8_ dr ir w_)]
   refine yMb 1111111210 [J3] [0,1,5,8] (λx=>[(0,.own (eOs 1 false F8_ x.1)),(8,.d (I x.2))]) aa  [Ha (lnM F8_ (l_++([[]]:TA)))] λt4 aa ⟨j6,i_⟩ m4 av ae hl1 J4 db=>?_;obtain c0|c0:=zC ae
   ·obtain⟨ew,h1,nu,h2,ae⟩:=ya c0.2;cases ae;exact yB db _ hl1 [c0,Hn (iL F8_ h1),Hs (iM F8_ h1),Hn (iL F8_ h2),Hs (iM F8_ h2),Hs (iM F8_ h2),Hl (sM F8_ j6 i_ ew)]
   cases c0.2;cases hl1;exact yB bg j6 aa [c0]
  let Z0:List HO:=[Ha (lnM F8_ l_)];obtain c1|c1:=zC aa
  ·obtain⟨ow,h3,r_,h4,aa⟩:=ya c1.2;let Z1:List HO:=(Z0++[c1,c1,c1,Hn (iL F8_ h3),c1,Hs (iM F8_ h3),c1,c1,zC2 0 h4,c1,c1]);obtain c2|c2:=zC aa
   ·cases c2.2;exact yE hE (Z1++[c2])
   exact yB au () c2.2 (Z1++[c2])
  exact yB au () c1.2 (Z0++(rpN 8 (Hb c1) [qF]))
 refine yMb 111120 [J1] [0,1,5,6] (λx=>[(5,.d (I x.1)),(6,.d (I x.2))]) aa  [] λt5 aa ⟨lb,l5⟩ m5 av ae hl1 J5 dc=>?_;obtain c3|c3:=zC ae
 ·obtain⟨g2,ae⟩:=gdE c3.2;obtain⟨ox,h5,ai,h6,ae⟩:=ya ae;let Z2:List HO:=[c3,Hn g2,Hn (iL F8_ h5),Hs (iM F8_ h5),zC2 0 h6];obtain c4|c4:=zC ae
  ·cases c4.2;exact yB dc _ hl1 (Z2++[c4])
  cases c4.2;exact yB dc _ hl1 (Z2++[c4])
 cases c3.2;cases hl1;exact yB ar lb aa [c3]
def zn0:List y7:=Yo 31 yp z0M X3::zn1
def z5t [H:HS X0 zn1]:OkH zn0:=yS1 true func31 λl_ r0 aa E hE=>by
 refine yK 111 [] [3] (zI Ks r0) (λz=>[(3,.own (eOs 1 false F8_ z))]) [0,3] [Hh (.cut 2)] ?_ λJ1 ar=>?_
 ·rintro out aa;cases aa;exact yE hE []
 obtain⟨t2,ht2,aa⟩:=zn aa;refine yMx 111210 [J1] [0,3,4] (λx=>[(3,.own (eOs 1 false F8_ x.1)),(4,.d (I x.2))]) ht2 [(3,.own (eOs 1 true F8_ [])),(4,.d (I 0))] [] λ⟨aj,i_⟩ m2 av ae hl1 J2 au=>?_;let Z0:List HO:=[Ha (lnM F8_ l_)];obtain c0|c0:=zC ae
 ·obtain⟨bi,h0,r_,h1,ae⟩:=ya c0.2;cases ae;exact yB au _ hl1 (Z0++[c0,Hi F8_ h0,zC2 0 h1])
 cases c0.2;cases hl1;exact yB ar aj aa (Z0++[c0])
def zmZ:List y7:=Yo 45 xe z0M kp::zn0
def z30 [H:HS X0 zn0]:OkH zmZ:=yS1 true func45 λm_ r0 aa E hE=>by obtain⟨r_,h0,ai,h1,aa⟩:=ya aa;cases aa;exact yE hE [zC1 100 h0,Hk [] (z2u (hat 0)) (zf1 0 h1 (loC z6W r_.1<|loN))]
def zmY:List y7:=uR 40 yp yp z0M xE::zmZ
def z33 [H:HS X0 zmZ]:OkH zmY:=yS2 true func40 λa_ b_ r0 aa E hE=>by
 refine yK 111 [] [5] (zI Qb r0) (λz=>[(5,.own (eOs 1 false F8_ z))]) [0,1,5] [Hh (.cut 2)] ?_ λJ1 ar=>?_
 ·rintro out aa;cases aa;exact yE hE []
 obtain⟨t2,ht2,aa⟩:=zn aa;refine yMx 111210 [J1] [0,1,5,6] (λx=>[(5,.own (eOs 1 false F8_ x.1)),(6,.d (I x.2))]) ht2 [(5,.own (eOs 1 true F8_ [])),(6,.d (I 0))] [] λ⟨aj,i_⟩ m2 av ae hl1 J2 au=>?_;let Z0:List HO:=[Ha (lnM F8_ a_)];obtain c0|c0:=zC ae
 ·refine yNs 11121001 [J1,J2] [0,1,5,6] (zI (Xt i_) av) (λz=>[(5,.own (eOs 1 false F8_ z))]) (Z0++[c0,Hh (.cut 0)]) ?_ λJ3 bg=>?_
  ·rintro ax ae;cases ae;exact yB au _ hl1 []
  refine yMb 111210012010 [J1,J2,J3] [0,1,5,6,7] (λx=>[(5,.own (eOs 1 false F8_ x.1)),(7,.d (I x.2))]) c0.2  [] λt4 ae ⟨bo,k_⟩ m4 dj ah hl2 J4 db=>?_;let Z1:List HO:=[Ha (lnM F8_ b_)];obtain c1|c1:=zC ah
  ·obtain⟨dv,h0,ah⟩:=zn c1.2;obtain⟨g0,ah⟩:=gdE ah;obtain⟨dx,h1,ah⟩:=zn ah;obtain⟨g1,ah⟩:=gdE ah;obtain⟨r_,h2,ah⟩:=zn ah;cases ah;exact yB db _ hl2 (Z1++[c1,Hi F8_ h0,Hn (dM s7 dv),Hn (aL s7 s7 g0),Hl (aM0 s7 dv),Hi F8_ h1,Hn (dM s7 dx),Hn (aL s7 s7 g1),Hl (aM s7 dv dx),zg 2,Hm (shM s7 s7 (dv++dx)),Hs (zf2 2 h2 (loC z0M bo<|loC F8_ (dv++dx)<|loN))])
  cases c1.2;cases hl2;exact yB bg bo ae (Z1++[c1])
 cases c0.2;cases hl1;exact yB ar aj aa (Z0++[c0])
def zmX:List y7:=uR 78 xe s7 z0M Wy::zmY
def z0W [H:HS X0 zmY]:OkH zmX:=yS2 true func78 λm_ k_ r0 aa E hE=>by obtain⟨r_,h0,ai,h1,ak,h2,aa⟩:=jI aa;cases aa;exact yE hE [zC1 1 h0,zC2 5 h1,zg 0,Hm (shM F8_ F8_ r_),Hm (shM F8_ F8_ ai),Hs (zf2 0 h2 (loC yp r_<|loC yp ai<|loN)),Hm (shM F8_ F8_ r_),Hm (shM F8_ F8_ ai)]
def zmW:List y7:=Yo 41 xe z0M wC::zmX
def JE [H:HS X0 zmX]:OkH zmW:=yS1 true func41 λm_ r0 aa E hE=>by obtain⟨r_,h0,aa⟩:=zn aa;cases aa;exact yE hE [zC2 0 h0]
def zmV:List y7:=z2N 61 xe s7 F8_ F7_ Qm::zmW
def z7c [H:HS X0 zmW]:OkH zmV:=yS3 true func61 λm_ s_ w_ r0 aa E hE=>by
 refine yK 111 [] [7] (zI Qk r0) (λz=>[(7,.own (eOs 1 false s7 z))]) [1,2,3,7] [Hh (.cut 2)] ?_ λJ1 ar=>?_
 ·rintro out aa;cases aa;exact yE hE []
 obtain⟨t2,ht2,aa⟩:=zn aa;refine yMx 111210 [J1] [1,2,3,7,8] (λx=>[(1,.d (I x.1)),(7,.own (eOs 1 false s7 x.2.1)),(8,.d (I x.2.2))]) ht2 [(1,.d (I s_)),(7,.own (eOs 1 true s7 [])),(8,.d (I 0))] [] λ⟨bk,aj,k_⟩ m2 av ae hl1 J2 au=>?_;obtain c0|c0:=zC ae
 ·obtain⟨fc,h0,r_,h1,ae⟩:=ya c0.2;obtain⟨g0,ae⟩:=gdE ae;cases ae;exact yB au _ hl1 [Ha (lnM s7 w_),c0,Hi s7 h0,zC3 108 h1,Hq (dM s7 [r_.r]),Hn (dM s7 [r_.r]),Hn (aL s7 s7 g0),Hl (aM s7 aj [r_.r])]
 cases c0.2;cases hl1;exact yB ar aj aa [Ha (lnM s7 w_),c0]
def zmU:List y7:=uR 191 F8_ F8_ s7 VF::zmV
def z1z [H:HS X0 zmV]:OkH zmU:=yS2 true func191 λa_ b_ r0 aa E hE=>by
 let Z0:List HO:=[Ha (lnM s7 a_),Ha (lnM s7 b_)];obtain c0|c0:=zC aa
 ·cases c0.2;exact yE hE (Z0++[c0])
 let Z1:List HO:=(Z0++[c0,Ha (lnM s7 a_),Ha (lnM s7 b_)]);obtain c1|c1:=zC c0.2
 ·cases c1.2;exact yE hE (Z1++[c1])
 refine yK 1111 [] [] (λz:Unit=>YD=some r0) (λz=>[]) [0,1] (Z1++[c1,Hh (.cut 0)]) ?_ λJ1 ar=>?_
 ·rintro⟨⟩ aa;cases aa;exact yE hE []
 refine yMb 1111210 [J1] [0,1,5] (λx=>[(5,.d (I x))]) c1.2  [] λt2 aa i_ m2 av ae hl1 J2 au=>?_;obtain c2|c2:=zC ae
 ·obtain⟨dv,h0,dx,h1,ae⟩:=ya c2.2;let Z2:List HO:=[Ha (lnM s7 a_),c2,Hi s7 h0,Hi s7 h1];obtain c3|c3:=zC ae
  ·cases c3.2;cases hl1;cases aa;exact yE hE (Z2++[c3])
  obtain⟨i6,h2,l6,h3,ae⟩:=ya c3.2;let Z3:List HO:=(Z2++[c3,Hi s7 h2,Hi s7 h3]);obtain c4|c4:=zC ae
  ·cases c4.2;cases hl1;cases aa;exact yE hE (Z3++[c4])
  cases c4.2;exact yB au _ hl1 (Z3++[c4])
 cases c2.2;cases hl1;exact yB ar () aa [Ha (lnM s7 a_),c2]
def zmT:List y7:=uR 170 F8_ F8_ eB QJ::zmU
def z5z [H:HS X0 zmU]:OkH zmT:=yS2 true func170 λa_ b_ r0 aa E hE=>by obtain⟨r_,h0,aa⟩:=zn aa;cases aa;exact yE hE [zC2 0 h0]
def zmS:List y7:=zh8 151 xe F8_ s7 s7 s7 W9::zmT
def z35 [H:HS X0 zmT]:OkH zmS:=yS4 true func151 λm_ w_ s_ t_ r0 aa E hE=>by
 obtain⟨r_,h0,ai,h1,ak,h2,aa⟩:=jI aa;let Z0:List HO:=[zC3 2 h0,zC3 2 h1,zg 0,Hm (shM s7 s7 r_),Hm (shM s7 s7 ai),Hs (zf2 0 h2 (loC F8_ r_<|loC F8_ ai<|loN))];obtain c0|c0:=zC aa
 ·cases c0.2;exact yE hE (Z0++[c0])
 cases c0.2;exact yE hE (Z0++[c0])
def zmR:List y7:=uR 150 F8_ s7 F7_ z0b::zmS
def z5v [H:HS X0 zmS]:OkH zmR:=yS2 true func150 λw_ inputs r0 aa E hE=>by
 obtain⟨g0,aa⟩:=gdE aa;refine yK 111 [] [5] (zI Kv r0) (λz=>[(5,.own (eOs 1 false s7 z))]) [1,5] [Hn (dM s7 w_),Hn (aL s7 s7 g0),Hl (aM0 s7 w_),Hh (.cut 0)] ?_ λJ1 ar=>?_
 ·rintro out aa;obtain⟨g1,aa⟩:=gdE aa;cases aa;exact yE hE [Hq (dM s7 ([0]:TB)),Hn (dM s7 ([0]:TB)),Hn (aL s7 s7 g1),Hl (aM s7 out ([0]:TB))]
 refine yMb 111210 [J1] [1,5,6] (λx=>[(5,.own (eOs 1 false s7 x.1)),(6,.d (I x.2))]) aa  [Ha (lnM s7 w_)] λt2 aa ⟨aj,k_⟩ m2 av ae hl1 J2 au=>?_;obtain c0|c0:=zC ae
 ·obtain⟨dn,h0,ae⟩:=zn c0.2;let Z0:List HO:=[c0,Hn (iL s7 h0),Hs (iM s7 h0)];obtain c1|c1:=zC ae
  ·obtain⟨jr,h1,o7,h2,ae⟩:=ya c1.2;cases ae;cases hl1;cases aa;exact yE hE (Z0++[c1,Hn (iL s7 h1),Hs (iM s7 h1),Hn (iL s7 h2),Hs (iM s7 h2),Hs (iM s7 h2),Hl (sM s7 aj k_ (w64 (jr+1)))])
  obtain⟨o8,h3,ae⟩:=zn c1.2;cases ae;exact yB au _ hl1 (Z0++[c1,Hn (iL s7 h3),Hs (iM s7 h3),Hs (iM s7 h3),Hl (sM s7 aj k_ 0)])
 cases c0.2;cases hl1;exact yB ar aj aa [c0]
def zmQ:List y7:=z2N 121 xe s7 s7 (eT2 F8_ eB) wy::zmR
def z0X [H:HS X0 zmR]:OkH zmQ:=yS3 false func121 λm_ s_ t_ r0 aa E hE=>by
 refine yK 11 [] [] (λz:Unit=>V4=some r0) (λz=>[]) [1,2,3] [Hh (.cut 1)] ?_ λJ1 ar=>?_
 ·rintro⟨⟩ aa;cases aa;exact yEl hE [Hm (shM s7 s7 [])]
 obtain⟨t2,ht2,aa⟩:=zn aa;refine yMx 11210 [J1] [1,2,3,8] (λx=>[(8,.own (eOs 1 false s7 x))]) ht2 [(8,.own (eOs 1 true s7 []))] [] λw_ m2 av ae hl1 J2 au=>?_;let Z0:List HO:=[Ha (lnM s7 w_),Ha (lnM xZ m_.i)];obtain c0|c0:=zC ae
 ·obtain⟨r_,h0,ae⟩:=zn c0.2;let Z1:List HO:=(Z0++[Hb c0,zg 1,Hm (shM s7 s7 w_),Hs (zf4 1 h0 (loC xe m_ <| loC F8_ w_ <| loC s7 s_ <| loC s7 t_ <| loN))]);obtain c1|c1:=zC ae
  ·cases c1.2;cases hl1;cases aa;exact yE hE (Z1++[Hb c1,Hm (shM s7 s7 w_)])
  obtain⟨ai,h1,ae⟩:=zn c1.2;cases ae;exact yB au _ hl1 (Z1++[Hb c1,zg 0,Hm (shM s7 s7 w_),Hs (zf2 0 h1 (loC F8_ w_<|loC s7 m_.j<|loN)),Hm (shM s7 s7 w_)])
 cases c0.2;cases hl1;exact yB ar () aa (Z0++[Hb c0])
def zmP:List y7:=uR 80 xe s7 z0M Xo::zmQ
def z4i [H:HS X0 zmQ]:OkH zmP:=yS2 true func80 λm_ s_ r0 aa E hE=>by
 refine yK 111 [] [5] (zI Ww r0) (λz=>[(5,.own (eOs 1 false F8_ z))]) [1,2,5] [Hh (.cut 2)] ?_ λJ1 ar=>?_
 ·rintro out aa;obtain⟨r_,h0,aa⟩:=zn aa;cases aa;exact yE hE [zg 10,Hm (shM F8_ F8_ out),Hs (zf1 10 h0 (loC yp out<|loN)),Hm (shM F8_ F8_ out)]
 obtain⟨t2,ht2,aa⟩:=zn aa;refine yMx 111210 [J1] [1,2,5,6] (λx=>[(5,.own (eOs 1 false F8_ x.1)),(6,.d (I x.2))]) ht2 [(5,.own (eOs 1 true F8_ [])),(6,.d (I 0))] [] λ⟨aj,a_⟩ m2 av ae hl1 J2 au=>?_;let Z0:List HO:=[Ha (lnM xZ m_.i)];obtain c0|c0:=zC ae
 ·refine yNs 11121001 [J1,J2] [1,2,5,6] (zI (Wv a_) av) (λz=>[(5,.own (eOs 1 false F8_ z))]) (Z0++[c0,Hh (.cut 0)]) ?_ λJ3 bg=>?_
  ·rintro ax ae;cases ae;exact yB au _ hl1 []
  refine yMb 111210012010 [J1,J2,J3] [1,2,5,6,7] (λx=>[(5,.own (eOs 1 false F8_ x.1)),(7,.d (I x.2))]) c0.2  [] λt4 ae ⟨bo,b_⟩ m4 dj ah hl2 J4 db=>?_;let Z1:List HO:=[Ha (lnM xZ m_.i)];obtain c1|c1:=zC ah
  ·refine yNs 11121001201001 [J1,J2,J3,J4] [1,2,5,6,7] (zI (wx b_) dj) (λz=>[(5,.own (eOs 1 false F8_ z))]) (Z1++[c1,Hh (.cut 0)]) ?_ λJ5 dc=>?_
   ·rintro gx ah;cases ah;exact yB db _ hl2 []
   obtain c2|c2:=zC c1.2
   ·obtain⟨ai,h1,ah⟩:=zn c2.2;obtain⟨g0,ah⟩:=gdE ah;exact yB dc (bo++[ai.1]) ah (rpN 4 (Hb c2) (rpN 5 qT [zC3 0 h1,Hq (dM F8_ [ai.1]),Hn (dM F8_ [ai.1]),Hn (aL F8_ F8_ g0),Hl (aM F8_ bo [ai.1])]))
   let Z2:List HO:=(rpN 4 (Hb c2) []);obtain c3|c3:=zC c2.2
   ·obtain⟨ak,h2,ah⟩:=zn c3.2;obtain⟨g1,ah⟩:=gdE ah;exact yB dc (bo++[ak.1]) ah (Z2++(rpN 4 (Hb c3) [qT,zC3 0 h2,Hq (dM F8_ [ak.1]),Hn (dM F8_ [ak.1]),Hn (aL F8_ F8_ g1),Hl (aM F8_ bo [ak.1])]))
   let Z3:List HO:=(Z2++(rpN 4 (Hb c3) []));obtain c4|c4:=zC c3.2
   ·obtain⟨am,h3,ah⟩:=zn c4.2;obtain⟨g2,ah⟩:=gdE ah;exact yB dc (bo++[am.1]) ah (Z3++[c4,zC3 0 h3,Hq (dM F8_ [am.1]),Hn (dM F8_ [am.1]),Hn (aL F8_ F8_ g2),Hl (aM F8_ bo [am.1])])
   exact yB dc bo c4.2 (Z3++[c4])
  cases c1.2;cases hl2;exact yB bg bo ae (Z1++[c1])
 cases c0.2;cases hl1;exact yB ar aj aa (Z0++[c0])
def zmO:List y7:=Yo 44 xe z0M Q3::zmP
def z78 [H:HS X0 zmP]:OkH zmO:=yS1 true func44 λm_ r0 aa E hE=>by obtain⟨r_,h0,aa⟩:=zn aa;cases aa;exact yE hE [zC2 0 h0]
def zmN:List y7:=Yo 43 yp yp X2::zmO
def z5r [H:HS X0 zmO]:OkH zmN:=yS1 false func43 λl_ r0 aa E hE=>by
 let Z0:List HO:=[Ha (lnM F8_ l_)];obtain c0|c0:=zC aa
 ·cases c0.2;exact yEl hE (Z0++[c0,Hm (shM F5_ F4_ ([[]]))])
 cases c0.2;exact yE hE (Z0++[Hb c0])
def zmM:List y7:=uR 79 F8_ F8_ eB W7::zmN
def z31 [H:HS X0 zmN]:OkH zmM:=yS2 true func79 λa_ b_ r0 aa E hE=>by
 let Z0:List HO:=[Ha (lnM s7 a_),Ha (lnM s7 b_)];obtain c0|c0:=zC aa
 ·obtain⟨g0,aa⟩:=gdE c0.2;obtain⟨r_,h0,aa⟩:=zn aa;cases aa;exact yE hE (Z0++(rpN 4 (Hb c0) [Ha (lnM s7 a_),c0,Hn (slB g0),Hn (zdL s7 g0),Ha (slM 1 false s7 b_ 0 ((a_.length:Nat):Int).toNat),c0,zC2 15 h0,c0,c0]))
 cases c0.2;exact yE hE (Z0++(rpN 8 (Hb c0) []))
def zmL:List y7:=Yo 42 yp z0M qh::zmM
def z32 [H:HS X0 zmM]:OkH zmL:=yS1 true func42 λl_ r0 aa E hE=>by
 refine yK 111 [] [3] (zI Q9 r0) (λz=>[(3,.own (eOs 1 false F8_ z))]) [0,3] [Hh (.cut 2)] ?_ λJ1 ar=>?_
 ·rintro out aa;cases aa;exact yE hE []
 obtain⟨t2,ht2,aa⟩:=zn aa;refine yMx 111210 [J1] [0,3,4] (λx=>[(3,.own (eOs 1 false F8_ x.1)),(4,.d (I x.2))]) ht2 [(3,.own (eOs 1 true F8_ [])),(4,.d (I 0))] [] λ⟨aj,i_⟩ m2 av ae hl1 J2 au=>?_;let Z0:List HO:=[Ha (lnM F8_ l_)];obtain c0|c0:=zC ae
 ·refine yNs 11121001 [J1,J2] [0,3,4] (zI (kW i_) av) (λz=>[(3,.own (eOs 1 false F8_ z))]) (Z0++[c0,Hh (.cut 0)]) ?_ λJ3 bg=>?_
  ·rintro ax ae;cases ae;exact yB au _ hl1 []
  refine yNs 11121001201 [J1,J2,J3] [0,3,4,5] (zI (Xq l_ aj i_) av) (λz=>[(5,.d (B z))]) [Hh (.cut 1)] ?_ λJ4 db=>?_
  ·rintro oi ae;obtain c1|c1:=zC ae
   ·obtain⟨bi,h0,ae⟩:=zn c1.2;obtain⟨g0,ae⟩:=gdE ae;exact yB bg (aj++[bi]) ae [c1,Hi F8_ h0,Hq (dM F8_ [bi]),Hn (dM F8_ [bi]),Hn (aL F8_ F8_ g0),Hl (aM F8_ aj [bi])]
   exact yB bg aj c1.2 [c1]
  refine yMb 11121001201210 [J1,J2,J3,J4] [0,3,4,5,6] (λx=>[(5,.d (B x.1)),(6,.d (I x.2))]) c0.2  [] λt5 ae ⟨lv,k_⟩ m5 dj ah hl2 J5 dc=>?_;let Z1:List HO:=[Ha (lnM F8_ l_)];obtain c2|c2:=zC ah
  ·obtain c3|c3:=zC c2.2
   ·cases c3.2;exact yB dc _ hl2 (Z1++(Hb c2::(rpN 10 (Hb c3) [])))
   obtain⟨ew,h1,nu,h2,r_,h3,ah⟩:=jI c3.2;cases ah;exact yB dc _ hl2 (Z1++(Hb c2::Hb c3::Hb c3::Hb c3::Hi F8_ h1::(rpN 4 (Hb c3) [Hi F8_ h2,c3,c3,zC2 0 h3,c3])))
  cases c2.2;cases hl2;exact yB db lv ae (Z1++[c2])
 cases c0.2;cases hl1;exact yB ar aj aa (Z0++[c0])
def zkM:List y7:=uR 15 xe s7 z0M z4H::zmL
def za3 [H:HS X0 zmL]:OkH zkM:=yS2 true func15 λm_ bound r0 aa E hE=>by obtain⟨r_,h0,ai,h1,ak,h2,am,h3,az,h4,aa⟩:=z7X aa;obtain⟨bn,h5,cx,h6,aa⟩:=ya aa;cases aa;exact yE hE [Ha (lnM xZ m_.i),zC2 18 h0,zC1 11 h1,zg 13,Hm (shM F8_ F8_ ai),Hm (shM F8_ F8_ r_),Hs (zf2 13 h2 (loC yp ai<|loC yp r_<|loN)),Hm (shM F8_ F8_ ai),Hm (shM F8_ F8_ r_),zC1 3 h3,zg 2,Hm (shM F8_ F8_ am),Hs (zf1 2 h4 (loC yp am<|loN)),Hm (shM F8_ F8_ am),zg 13,Hm (shM F8_ F8_ ak),Hs (zf2 13 h5 (loC yp ak<|loC yp az<|loN)),Hm (shM F8_ F8_ ak),zg 0,Hm (shM F8_ F8_ bn),Hs (zf1 0 h6 (loC yp bn<|loN)),Hm (shM F8_ F8_ bn)]
def zmK:List y7:=uR 38 yp yp eB QH::zkM
def z5u [H:HS X0 zkM]:OkH zmK:=yS2 true func38 λa_ b_ r0 aa E hE=>by
 let Z0:List HO:=[Ha (lnM F8_ a_),Ha (lnM F8_ b_)];obtain c0|c0:=zC aa
 ·cases c0.2;exact yE hE (Z0++[c0])
 refine yK 111 [] [] (λz:Unit=>Vz=some r0) (λz=>[]) [0,1] (Z0++[c0,Hh (.cut 0)]) ?_ λJ1 ar=>?_
 ·rintro⟨⟩ aa;cases aa;exact yE hE []
 refine yMb 111210 [J1] [0,1,5] (λx=>[(5,.d (I x))]) c0.2  [] λt2 aa i_ m2 av ae hl1 J2 au=>?_;let Z1:List HO:=[Ha (lnM F8_ a_)];obtain c1|c1:=zC ae
 ·obtain⟨dv,h0,dx,h1,r_,h2,ae⟩:=jI c1.2;let Z2:List HO:=(Z1++[c1,Hi F8_ h0,Hi F8_ h1,zC2 18 h2]);obtain c2|c2:=zC ae
  ·cases c2.2;cases hl1;cases aa;exact yE hE (Z2++[c2])
  cases c2.2;exact yB au _ hl1 (Z2++[c2])
 cases c1.2;cases hl1;exact yB ar () aa (Z1++[c1])
def zmJ:List y7:=uR 14 kC yp eB qS::zmK
def z5A [H:HS X0 zmK]:OkH zmJ:=yS2 true func14 λa_ b_ r0 aa E hE=>by
 obtain⟨r_,h0,aa⟩:=zn aa;let Z0:List HO:=[Hk [] (z2u (hat 0)) (zf2 0 h0 (loC kC a_<|loC yp b_<|loN))];obtain c0|c0:=zC aa
 ·cases c0.2;exact yE hE (Z0++[c0,c0,Ha (lnM F4_ a_),c0,c0,Ha (lnM F4_ a_),c0,c0])
 cases c0.2;exact yE hE (Z0++(rpN 6 (Hb c0) []))
def zmI:List y7:=uR 82 yp F8_ eB Kt::zmJ
def z7a [H:HS X0 zmJ]:OkH zmI:=yS2 true func82 λl_ w_ r0 aa E hE=>by
 refine yK 11 [] [] (λz:Unit=>Qa=some r0) (λz=>[]) [0,1] [Hh (.cut 1)] ?_ λJ1 ar=>?_
 ·rintro⟨⟩ aa;cases aa;exact yE hE []
 refine yMb 11210 [J1] [0,1,5] (λx=>[(5,.d (I x))]) aa  [] λt2 aa i_ m2 av ae hl1 J2 au=>?_;let Z0:List HO:=[Ha (lnM F8_ l_)];obtain c0|c0:=zC ae
 ·obtain⟨bi,h0,r_,h1,ae⟩:=ya c0.2;let Z1:List HO:=(Z0++[c0,Hi F8_ h0,zC2 20 h1]);obtain c1|c1:=zC ae
  ·cases c1.2;cases hl1;cases aa;exact yE hE (Z1++[c1])
  cases c1.2;exact yB au _ hl1 (Z1++[c1])
 cases c0.2;cases hl1;exact yB ar () aa (Z0++[c0])
def zmH:List y7:=uR 46 yp yp z0M Xr::zmI
def z4k [H:HS X0 zmI]:OkH zmH:=yS2 true func46 λa_ b_ r0 aa E hE=>by
 refine yK 111 [] [5] (zI Jw r0) (λz=>[(5,.own (eOs 1 false F8_ z))]) [0,1,5] [Hh (.cut 2)] ?_ λJ1 ar=>?_
 ·rintro out aa;cases aa;exact yE hE []
 obtain⟨t2,ht2,aa⟩:=zn aa;refine yMx 111210 [J1] [0,1,5,6] (λx=>[(5,.own (eOs 1 false F8_ x.1)),(6,.d (I x.2))]) ht2 [(5,.own (eOs 1 true F8_ [])),(6,.d (I 0))] [] λ⟨aj,i_⟩ m2 av ae hl1 J2 au=>?_;let Z0:List HO:=[Ha (lnM F8_ a_)];obtain c0|c0:=zC ae
 ·refine yNs 11121001 [J1,J2] [0,1,5,6] (zI (ZT i_) av) (λz=>[(5,.own (eOs 1 false F8_ z))]) (Z0++[c0,Hh (.cut 0)]) ?_ λJ3 bg=>?_
  ·rintro ax ae;cases ae;exact yB au _ hl1 []
  obtain⟨dv,h0,r_,h1,ae⟩:=ya c0.2;let Z1:List HO:=[Hi F8_ h0,zC2 0 h1];obtain c1|c1:=zC ae
  ·obtain⟨i6,h2,ae⟩:=zn c1.2;obtain⟨g0,ae⟩:=gdE ae;exact yB bg (aj++[i6]) ae (Z1++[c1,Hi F8_ h2,Hq (dM F8_ [i6]),Hn (dM F8_ [i6]),Hn (aL F8_ F8_ g0),Hl (aM F8_ aj [i6])])
  exact yB bg aj c1.2 (Z1++[c1])
 cases c0.2;cases hl1;exact yB ar aj aa (Z0++[c0])
def zmG:List y7:=uR 83 xe s7 z0M z1d::zmH
def z9o [H:HS X0 zmH]:OkH zmG:=yS2 true func83 λm_ s_ r0 aa E hE=>by obtain⟨r_,h0,aa⟩:=zn aa;cases aa;exact yE hE [zC2 9 h0]
def zmF:List y7:=uR 49 yp yp z0M Xp::zmG
def z4j [H:HS X0 zmG]:OkH zmF:=yS2 true func49 λa_ b_ r0 aa E hE=>by obtain⟨g0,aa⟩:=gdE aa;obtain⟨g1,aa⟩:=gdE aa;obtain⟨r_,h0,aa⟩:=zn aa;cases aa;exact yE hE [Hn (dM F8_ a_),Hn (aL F8_ F8_ g0),Hl (aM0 F8_ a_),Hn (dM F8_ b_),Hn (aL F8_ F8_ g1),Hl (aM F8_ a_ b_),zg 21,Hm (shM F8_ F8_ (a_++b_)),Hs (zf1 21 h0 (loC yp (a_++b_)<|loN)),Hm (shM F8_ F8_ (a_++b_))]
def zmE:List y7:=uR 47 xe yp z0M uA::zmF
def z0V [H:HS X0 zmF]:OkH zmE:=yS2 true func47 λm_ l_ r0 aa E hE=>by
 refine yK 111 [] [5] (zI V2 r0) (λz=>[(5,.own (eOs 1 false F8_ z))]) [1,2,5] [Hh (.cut 2)] ?_ λJ1 ar=>?_
 ·rintro out aa;cases aa;exact yE hE []
 obtain⟨t2,ht2,aa⟩:=zn aa;refine yMx 111210 [J1] [1,2,5,6] (λx=>[(5,.own (eOs 1 false F8_ x.1)),(6,.d (I x.2))]) ht2 [(5,.own (eOs 1 true F8_ [])),(6,.d (I 0))] [] λ⟨aj,i_⟩ m2 av ae hl1 J2 au=>?_;let Z0:List HO:=[Ha (lnM F8_ l_)];obtain c0|c0:=zC ae
 ·obtain⟨bi,h0,r_,h1,ai,h2,ak,h3,ae⟩:=z6P c0.2;obtain⟨g0,ae⟩:=gdE ae;obtain⟨am,h4,az,h5,ae⟩:=ya ae;cases ae;exact yB au _ hl1 (Z0++[c0,Hi F8_ h0,zC3 125 h1,zC2 1 h2,zg 9,Hm (shM F8_ F8_ ai),Hs (zf1 9 h3 (loC yp ai<|loN)),Hm (shM F8_ F8_ ai),Hn (slA g0),Hn (slB g0),Hn (zlZ F8_ g0),Ha (slM 1 false F8_ l_ i_.toNat (w64 (i_+1)).toNat),zC2 20 h4,zg 0,Hm (shM F8_ F8_ aj),Hm (shM F8_ F8_ am),Hs (zf2 0 h5 (loC yp aj<|loC yp am<|loN)),Hm (shM F8_ F8_ aj),Hm (shM F8_ F8_ am)])
 cases c0.2;cases hl1;exact yB ar aj aa (Z0++[c0])
def zmD:List y7:=uR 16 xe s7 z0M z1c::zmE
def z9n [H:HS X0 zmE]:OkH zmD:=yS2 true func16 λm_ bound r0 aa E hE=>by obtain⟨r_,h0,ai,h1,ak,h2,am,h3,az,h4,aa⟩:=z7X aa;obtain⟨bn,h5,cx,h6,gb,h7,iy,h8,gr,h9,aa⟩:=z7X aa;obtain⟨im,h10,j8,h11,mv,h12,aa⟩:=jI aa;cases aa;exact yE hE [Ha (lnM xZ m_.i),zC1 22 h0,zC1 19 h1,zg 3,Hm (shM F8_ F8_ ai),Hm (shM F8_ F8_ r_),Hs (zf2 3 h2 (loC yp ai<|loC yp r_<|loN)),Hm (shM F8_ F8_ ai),Hm (shM F8_ F8_ r_),zC2 26 h3,zg 21,Hm (shM F8_ F8_ am),Hs (zf2 21 h4 (loC yp r_<|loC yp am<|loN)),Hm (shM F8_ F8_ am),zC1 11 h5,zg 10,Hm (shM F8_ F8_ bn),Hs (zf1 10 h6 (loC yp bn<|loN)),Hm (shM F8_ F8_ bn),zg 21,Hm (shM F8_ F8_ az),Hs (zf2 21 h7 (loC yp az<|loC yp cx<|loN)),Hm (shM F8_ F8_ az),zC2 27 h8,zg 21,Hm (shM F8_ F8_ ak),Hm (shM F7_ F8_ iy),Hs (zf2 21 h9 (loC yp ak<|loC yp iy<|loN)),Hm (shM F8_ F8_ ak),Hm (shM F7_ F8_ iy),zg 0,Hm (shM F8_ F8_ gr),Hs (zf2 0 h10 (loC xe m_<|loC yp gr<|loN)),Hm (shM F8_ F8_ gr),zg 1,Hm (shM F8_ F8_ gb),Hm (shM F8_ F8_ im),Hs (zf2 1 h11 (loC yp gb<|loC yp im<|loN)),Hm (shM F8_ F8_ gb),Hm (shM F8_ F8_ im),zg 8,Hm (shM F8_ F8_ j8),Hs (zf1 8 h12 (loC yp j8<|loN)),Hm (shM F8_ F8_ j8)]
def zmC:List y7:=uR 17 xe s7 z0M Kq::zmD
def z75 [H:HS X0 zmD]:OkH zmC:=yS2 true func17 λm_ bound r0 aa E hE=>by obtain⟨r_,h0,ai,h1,ak,h2,am,h3,az,h4,aa⟩:=z7X aa;cases aa;exact yE hE [Ha (lnM xZ m_.i),zC2 27 h0,zC1 20 h1,zg 22,Hm (shM F8_ F8_ ai),Hm (shM F8_ F8_ r_),Hs (zf2 22 h2 (loC yp ai<|loC yp r_<|loN)),Hm (shM F8_ F8_ ai),Hm (shM F8_ F8_ r_),zg 1,Hm (shM F8_ F8_ ak),Hs (zf2 1 h3 (loC xe m_<|loC yp ak<|loN)),Hm (shM F8_ F8_ ak),zg 9,Hm (shM F8_ F8_ am),Hs (zf1 9 h4 (loC yp am<|loN)),Hm (shM F8_ F8_ am)]
def zmB:List y7:=ziA 50 zgp KE::zmC
def z1C [H:HS X0 zmC]:OkH zmB:=yS0 false func50 λr0 aa E hE=>by cases aa;exact yE hE [Hm (shM (eOs 2 true uS) zoY ([[(z8.mk 1 0),(z8.mk 0 0)],[(z8.mk 2 0),(z8.mk 1 1)],[(z8.mk 0 1),(z8.mk 2 0)]]))]
def zmA:List y7:=ziA 18 eB JQ::zmB
def z4q [H:HS X0 zmB]:OkH zmA:=yS0 true func18 λr0 aa E hE=>by
 let u0:=([[1,0],[1,1],[0,1,0],[0,1,1],[0,0,0,0],[0,0,0,1],[0,0,1,0],[0,0,1,1]]:TA);obtain⟨r_,h0,ai,h1,ak,h2,am,h3,aa⟩:=z6P aa;let Z0:List HO:=[zC0 0 h0,Hk [] (z2u (hat 34)) (zf3 34 h1 (loC zgp r_<|loC s7 3<|loC s7 8<|loN)),Hk [] (z2u (hat 33)) (zf3 33 h2 (loC zgp r_<|loC s7 3<|loC s7 4096<|loN)),Hk [] (z2u (hat 32)) (zf3 32 h3 (loC zgp r_<|loC s7 3<|loC s7 4096<|loN))];obtain c0|c0:=zC aa
 ·cases c0.2;exact yE hE (Z0++(Hb c0::Hb c0::Hb c0::(rpN 21 qT [])))
 obtain c1|c1:=zC c0.2
 ·cases c1.2;exact yE hE (Z0++(Hb c0::Hb c0::Hb c0::Hb c1::Hb c1::Hb c1::(rpN 18 qT [])))
 let Z1:List HO:=(Z0++[c0,c0,c0,c1,c1,c1]);obtain c2|c2:=zC c1.2
 ·cases c2.2;exact yE hE (Z1++(rpN 5 (Hb c2) (rpN 13 qT [])))
 obtain⟨az,h4,aa⟩:=zn c2.2;let Z2:List HO:=(Z1++[c2,c2,c2,Hm (shM F5_ F4_ ([[1,0],[1,1],[0,1,0],[0,1,1],[0,0,0,0],[0,0,0,1],[0,0,1,0],[0,0,1,1]])),Hn (Yr (f:=.fn 14 []) (xs:=[kC ai.1,yp u0]) (ls:=[]) (r:=B az) (ys:=[]) [kC ai.1,kC u0] (show Jp [kC ai.1,kC u0] [kC ai.1,yp u0] from inferInstance)),c2,c2]);obtain c3|c3:=zC aa
 ·cases c3.2;exact yE (H:=zx ((qZ (P:=prog) wD [] (lentCall ((zk2 8 h4 :))) 49).or X0)) hE (Z2++(rpN 6 (Hb c3) (rpN 7 qT [])))
 obtain⟨g0,aa⟩:=gdE c3.2;obtain⟨bn,h5,aa⟩:=zn aa;let Z3:List HO:=(Z2++[c3,c3,c3,Hn (slB g0),Hn (zdL F4_ g0),Ha (slM 1 (true&&(7:Int).toNat==(u0.map F4_).length) F4_ u0 0 (7:Int).toNat),c3,Hn (Yr (f:=.fn 14 []) (xs:=[kC ak.1,yp ((u0.drop 0).take ((7:Int).toNat-0))]) (ls:=[]) (r:=B bn) (ys:=[]) [kC ak.1,(eSl 1 (true&&(7:Int).toNat==(u0.map F4_).length) F4_) ((u0.drop 0).take ((7:Int).toNat-0))] (show Jp [kC ak.1,(eSl 1 (true&&(7:Int).toNat==(u0.map F4_).length) F4_) ((u0.drop 0).take ((7:Int).toNat-0))] [kC ak.1,yp ((u0.drop 0).take ((7:Int).toNat-0))] from inferInstance)),c3,c3]);obtain c4|c4:=zC aa
 ·cases c4.2;exact yE (H:=zx ((qZ (P:=prog) wD [] (lentCall ((zk2 8 h5 :))) 56).or ((qZ (P:=prog) wD [] (lentCall ((zk2 8 h4 :))) 49).or X0))) hE (Z3++(rpN 6 (Hb c4) [qT]))
 obtain⟨g1,aa⟩:=gdE c4.2;obtain⟨cx,h6,aa⟩:=zn aa;let Z4:List HO:=(Z3++[c4,c4,c4,Hn (slB g1),Hn (zdL F4_ g1),Ha (slM 1 (true&&(7:Int).toNat==(u0.map F4_).length) F4_ u0 0 (7:Int).toNat),c4,Hn (Yr (f:=.fn 14 []) (xs:=[kC am.1,yp ((u0.drop 0).take ((7:Int).toNat-0))]) (ls:=[]) (r:=B cx) (ys:=[]) [kC am.1,(eSl 1 (true&&(7:Int).toNat==(u0.map F4_).length) F4_) ((u0.drop 0).take ((7:Int).toNat-0))] (show Jp [kC am.1,(eSl 1 (true&&(7:Int).toNat==(u0.map F4_).length) F4_) ((u0.drop 0).take ((7:Int).toNat-0))] [kC am.1,yp ((u0.drop 0).take ((7:Int).toNat-0))] from inferInstance)),c4,c4]);obtain c5|c5:=zC aa
 ·cases c5.2;exact yE (H:=zx ((qZ (P:=prog) wD [] (lentCall ((zk2 8 h6 :))) 63).or ((qZ (P:=prog) wD [] (lentCall ((zk2 8 h5 :))) 56).or ((qZ (P:=prog) wD [] (lentCall ((zk2 8 h4 :))) 49).or X0)))) hE (Z4++[c5])
 obtain⟨gb,h7,iy,h8,gr,h9,im,h10,aa⟩:=z6P c5.2;let Z5:List HO:=(Z4++[c5,Hk [] (z2u (hat 34)) (zf3 34 h7 (loC zgp r_<|loC s7 2<|loC s7 9<|loN)),Hk [] (z2u (hat 34)) (zf3 34 h8 (loC zgp r_<|loC s7 8<|loC s7 9<|loN)),Hk [] (z2u (hat 34)) (zf3 34 h9 (loC zgp r_<|loC s7 3<|loC s7 7<|loN)),Hk [] (z2u (hat 31)) (zf2 31 h10 (loC zgp r_<|loC s7 3<|loN))]);obtain c6|c6:=zC aa
 ·obtain c7|c7:=zC c6.2
  ·let Z6:List HO:=(Z5++[c6,c6,c6,c7,c7,c7]);obtain c8|c8:=zC c7.2
   ·obtain c9|c9:=zC c8.2
    ·cases c9.2;exact yE (H:=zx ((qZ (P:=prog) wD [] (lentCall ((zk2 8 h6 :))) 63).or ((qZ (P:=prog) wD [] (lentCall ((zk2 8 h5 :))) 56).or ((qZ (P:=prog) wD [] (lentCall ((zk2 8 h4 :))) 49).or X0)))) hE (Z6++(Hb c8::Hb c8::Hb c8::(rpN 4 (Hb c9) [])))
    cases c9.2;exact yE (H:=zx ((qZ (P:=prog) wD [] (lentCall ((zk2 8 h6 :))) 63).or ((qZ (P:=prog) wD [] (lentCall ((zk2 8 h5 :))) 56).or ((qZ (P:=prog) wD [] (lentCall ((zk2 8 h4 :))) 49).or X0)))) hE (Z6++(Hb c8::Hb c8::Hb c8::(rpN 4 (Hb c9) [])))
   cases c8.2;exact yE (H:=zx ((qZ (P:=prog) wD [] (lentCall ((zk2 8 h6 :))) 63).or ((qZ (P:=prog) wD [] (lentCall ((zk2 8 h5 :))) 56).or ((qZ (P:=prog) wD [] (lentCall ((zk2 8 h4 :))) 49).or X0)))) hE (Z6++(Hb c8::Hb c8::Hb c8::(rpN 4 qF [])))
  cases c7.2;exact yE (H:=zx ((qZ (P:=prog) wD [] (lentCall ((zk2 8 h6 :))) 63).or ((qZ (P:=prog) wD [] (lentCall ((zk2 8 h5 :))) 56).or ((qZ (P:=prog) wD [] (lentCall ((zk2 8 h4 :))) 49).or X0)))) hE (Z5++(Hb c6::Hb c6::Hb c6::Hb c7::Hb c7::Hb c7::(rpN 7 qF [])))
 cases c6.2;exact yE (H:=zx ((qZ (P:=prog) wD [] (lentCall ((zk2 8 h6 :))) 63).or ((qZ (P:=prog) wD [] (lentCall ((zk2 8 h5 :))) 56).or ((qZ (P:=prog) wD [] (lentCall ((zk2 8 h4 :))) 49).or X0)))) hE (Z5++(Hb c6::Hb c6::Hb c6::(rpN 10 qF [])))
def zmz:List y7:=uR 4 zoV (eI .u16) eB Zf::zmA
def Jc [H:HS X0 zmA]:OkH zmz:=yS2 true func4 λx_ bf r0 aa E hE=>by
 let u0:=(w64 (1+(Int.tmod (w64 (bf)) 200)));obtain⟨r_,h0,aa⟩:=zn aa;obtain⟨g0,aa⟩:=gdE aa;obtain⟨ai,h1,ak,h2,am,h3,az,h4,bn,h5,aa⟩:=z7X aa;obtain⟨cx,h6,aa⟩:=zn aa;refine yK 11111111111 [] [] (λz:Unit=>vd=some r0) (λz=>[]) [7,8,15,16] [zC1 120 h0,Ha (lnM xZ r_.i),Hn g0,zC2 11 h1,zC2 3 h2,zC2 2 h3,Hh (.v 0 [8]),Hm (shM F8_ F8_ ai),Hm (shM F8_ F8_ ak),Hm (shM F8_ F8_ am),zC3 35 h4,zC3 34 h5,zC3 33 h6,Hh (.cut 2)] ?_ λJ1 ar=>?_
 ·rintro⟨⟩ aa;obtain⟨gb,h7,aa⟩:=zn aa;cases aa;exact yE hE [zC0 0 h7]
 refine yMb 11111111111210 [J1] [7,8,15,16,17] (λx=>[(17,.d (I x))]) aa  [] λt2 aa i_ m2 av ae hl1 J2 au=>?_;obtain c0|c0:=zC ae
 ·refine yN 1111111111121001 [J1,J2] [7,8,15,16,17,91,93,94,95,96,97,112] (λz:TA×Int×Bool×Bool×Bool=>xh i_ z.1 z.2.1 z.2.2.1 z.2.2.2.1 z.2.2.2.2=some av) (λz=>[(91,.d (I i_)),(93,.d (eSl 1 false F8_ z.1)),(94,.d (I z.2.1)),(95,.d (I u0)),(96,.d (B z.2.2.1)),(97,.d (B z.2.2.2.1)),(112,.d (B z.2.2.2.2))]) [7,8,15,16,17] [c0,Hh (.cut 0)] ?_ λJ3 bg=>?_
  ·rintro⟨m0,rj,rk,rl,qn⟩ ae;cases ae;exact yB au _ hl1 []
  obtain⟨cell,h8,ae⟩:=zn c0.2;let Z0:List HO:=[Hn (⟨arJ (by kernel_rfl) (i0 h8),(iL yp h8).2⟩:vT wD 44 ((xT.toL (xT.mk ai ak am)).map yp) i_=true/\i_.toNat<((xT.toL (xT.mk ai ak am)).map yp).length),Hh (.op 2),Hh (.f),Hs (iM yp h8),Ha (lnM F8_ cell)];obtain c1|c1:=zC ae
  ·obtain⟨co,h9,ae⟩:=zn c1.2;let Z1:List HO:=(Z0++[c1,c1,Hn (⟨arJ (by kernel_rfl) (i0 h9),(iL s7 h9).2⟩:vT wD 45 ((xT.toL (xT.mk az.2 bn.2 cx.2)).map s7) i_=true/\i_.toNat<((xT.toL (xT.mk az.2 bn.2 cx.2)).map s7).length),c1,Hh (.f),Hs (iM s7 h9),c1,c1]);obtain c2|c2:=zC ae
   ·cases c2.2;cases hl1;cases aa;exact yE hE (Z1++(rpN 5 (Hb c2) (Hb c1::Hb c2::Hb c1::(rpN 10 qT []))))
   obtain⟨iv,h10,ae⟩:=zn c2.2;let Z2:List HO:=(Z1++[c2,c2,Hn (⟨arJ (by kernel_rfl) (i0 h10),(iL kC h10).2⟩:vT wD 44 ((xT.toL (xT.mk az.1 bn.1 cx.1)).map kC) i_=true/\i_.toNat<((xT.toL (xT.mk az.1 bn.1 cx.1)).map kC).length),c2,Hh (.f),Hs (iM kC h10),c2,Ha (lnM F4_ iv),c2,c1,c2,c1]);obtain c3|c3:=zC ae
   ·cases c3.2;cases hl1;cases aa;exact yE hE (Z2++(rpN 9 (Hb c3) [qT]))
   obtain⟨d9,h11,ae⟩:=zn c3.2;let Z3:List HO:=(Z2++[c3,c3,Hn (⟨arJ (by kernel_rfl) (i0 h11),(iL yp h11).2⟩:vT wD 44 ((xT.toL (xT.mk ai ak am)).map yp) i_=true/\i_.toNat<((xT.toL (xT.mk ai ak am)).map yp).length),c3,Hh (.f),Hs (iM yp h11),c3,Ha (lnM F8_ d9),c3,c3,c3]);obtain c4|c4:=zC ae
   ·obtain⟨qt,h12,ae⟩:=zn c4.2;let Z4:List HO:=(Z3++[c4,c4,Hn (⟨arJ (by kernel_rfl) (i0 h12),(iL s7 h12).2⟩:vT wD 45 ((xT.toL (xT.mk az.2 bn.2 cx.2)).map s7) i_=true/\i_.toNat<((xT.toL (xT.mk az.2 bn.2 cx.2)).map s7).length),c4,Hh (.f),Hs (iM s7 h12),c4,c4]);obtain c5|c5:=zC ae
    ·cases c5.2;cases hl1;cases aa;exact yE hE (Z4++(rpN 8 (Hb c5) [c4,c5,c3,c4,c3,qT]))
    obtain⟨ma,h13,mb,h14,iy,h15,ae⟩:=jI c5.2;let Z5:List HO:=(Z4++[c5,c5,Hn (⟨arJ (by kernel_rfl) (i0 h13),(iL kC h13).2⟩:vT wD 44 ((xT.toL (xT.mk az.1 bn.1 cx.1)).map kC) i_=true/\i_.toNat<((xT.toL (xT.mk az.1 bn.1 cx.1)).map kC).length),c5,Hh (.f),Hs (iM kC h13),c5,c5,Hn (⟨arJ (by kernel_rfl) (i0 h14),(iL yp h14).2⟩:vT wD 44 ((xT.toL (xT.mk ai ak am)).map yp) i_=true/\i_.toNat<((xT.toL (xT.mk ai ak am)).map yp).length),c5,Hh (.f),Hs (iM yp h14),c5,Hn (Yr (f:=.fn 14 []) (xs:=[kC ma,yp mb]) (ls:=[]) (r:=B iy) (ys:=[]) [kC ma,yp mb] (show Jp [kC ma,yp mb] [kC ma,yp mb] from inferInstance)),c5,c4,c5,c3,c4,c3]);obtain c6|c6:=zC ae
    ·cases c6.2;cases hl1;cases aa;exact yE (H:=zx ((qZ (P:=prog) wD [] (lentCall ((zk2 9 h15 :))) 109).or X0)) hE (Z5++[c6])
    exact yB (H:=zx ((qZ (P:=prog) wD [] (lentCall ((zk2 9 h15 :))) 109).or X0)) bg (d9,((d9.length:Nat):Int),decide (((d9.length:Nat):Int)<=u0),decide (((d9.length:Nat):Int)<=u0),!iy) c6.2 (Z5++[c6])
   exact yB bg (d9,((d9.length:Nat):Int),decide (((d9.length:Nat):Int)<=u0),decide (((d9.length:Nat):Int)<=u0),false) c4.2 (Z3++(rpN 6 (Hb c4) [c3,c4,c3,qF]))
  obtain⟨ie,h16,ae⟩:=zn c1.2;let Z6:List HO:=(Z0++(rpN 7 (Hb c1) [qF,qF,Hn (⟨arJ (by kernel_rfl) (i0 h16),(iL yp h16).2⟩:vT wD 44 ((xT.toL (xT.mk ai ak am)).map yp) i_=true/\i_.toNat<((xT.toL (xT.mk ai ak am)).map yp).length),qF,Hh (.f),Hs (iM yp h16),qF,Ha (lnM F8_ ie),qF,qF,qF]));obtain c7|c7:=zC ae
  ·obtain⟨qu,h17,ae⟩:=zn c7.2;let Z7:List HO:=(Z6++[c7,c7,Hn (⟨arJ (by kernel_rfl) (i0 h17),(iL s7 h17).2⟩:vT wD 45 ((xT.toL (xT.mk az.2 bn.2 cx.2)).map s7) i_=true/\i_.toNat<((xT.toL (xT.mk az.2 bn.2 cx.2)).map s7).length),c7,Hh (.f),Hs (iM s7 h17),c7,c7]);obtain c8|c8:=zC ae
   ·cases c8.2;cases hl1;cases aa;exact yE hE (Z7++(rpN 8 (Hb c8) [c7,c8,qF,c7,qF,qT]))
   obtain⟨mc,h18,lm,h19,gr,h20,ae⟩:=jI c8.2;let Z8:List HO:=(Z7++[c8,c8,Hn (⟨arJ (by kernel_rfl) (i0 h18),(iL kC h18).2⟩:vT wD 44 ((xT.toL (xT.mk az.1 bn.1 cx.1)).map kC) i_=true/\i_.toNat<((xT.toL (xT.mk az.1 bn.1 cx.1)).map kC).length),c8,Hh (.f),Hs (iM kC h18),c8,c8,Hn (⟨arJ (by kernel_rfl) (i0 h19),(iL yp h19).2⟩:vT wD 44 ((xT.toL (xT.mk ai ak am)).map yp) i_=true/\i_.toNat<((xT.toL (xT.mk ai ak am)).map yp).length),c8,Hh (.f),Hs (iM yp h19),c8,Hn (Yr (f:=.fn 14 []) (xs:=[kC mc,yp lm]) (ls:=[]) (r:=B gr) (ys:=[]) [kC mc,yp lm] (show Jp [kC mc,yp lm] [kC mc,yp lm] from inferInstance)),c8,c7,c8,qF,c7,qF]);obtain c9|c9:=zC ae
   ·cases c9.2;cases hl1;cases aa;exact yE (H:=zx ((qZ (P:=prog) wD [] (lentCall ((zk2 9 h20 :))) 109).or X0)) hE (Z8++[c9])
   exact yB (H:=zx ((qZ (P:=prog) wD [] (lentCall ((zk2 9 h20 :))) 109).or X0)) bg (ie,((ie.length:Nat):Int),decide (((ie.length:Nat):Int)<=u0),decide (((ie.length:Nat):Int)<=u0),!gr) c9.2 (Z8++[c9])
  exact yB bg (ie,((ie.length:Nat):Int),decide (((ie.length:Nat):Int)<=u0),decide (((ie.length:Nat):Int)<=u0),false) c7.2 (Z6++(rpN 6 (Hb c7) [qF,c7,qF,qF]))
 cases c0.2;cases hl1;exact yB ar () aa [c0]
def spc {X:XH prog}{s:y7}{l:List y7}(w:∀[HS X l],OkH (s::l))(r:z0r prog l)(h:((l.map y7.k).contains s.k)=false:=by kernel_rfl):z0r prog (s::l):=⟨λc a b=>@w ⟨c,a,b⟩,zkO h,r⟩
def ziw:z0r prog zmz:=spc Jc <|
 spc z4q <|
 spc z1C <|
 spc z75 <|
 spc z9n <|
 spc z0V <|
 spc z4j <|
 spc z9o <|
 spc z4k <|
 spc z7a <|
 spc z5A <|
 spc z5u <|
 spc za3 <|
 spc z32 <|
 spc z31 <|
 spc z5r <|
 spc z78 <|
 spc z4i <|
 spc z0X <|
 spc z5v <|
 spc z35 <|
 spc z5z <|
 spc z1z <|
 spc z7c <|
 spc JE <|
 spc z0W <|
 spc z33 <|
 spc z30 <|
 spc z5t <|
 spc z79 <|
 spc z1u <|
 spc z5s <|
 spc z4l <|
 spc z2V <|
 spc z5q <|
 spc z74 <|
 spc z9m <|
 spc z2U <|
 spc K2 <|
 spc z1t <|
 spc JD <|
 spc z11 <|
 spc z3a <|
 spc z0Y <|
 spc z4e <|
 spc YJ <|
 spc Xa <|
 spc z1s <|
 spc z9l <|
 spc qI <|
 spc z0R <|
 spc z7d <|
 spc z4r <|
 spc z4h <|
 spc z4f <|
 spc z5D <|
 spc z3c <|
 spc KY <|
 spc K3 <|
 spc Vm <|
 spc z2Y <|
 spc z2X <|
 spc z0S <|
 spc z3e <|
 spc z3d <|
 spc Jd <|
 spc z03 <|
 spc z2T <|
 spc z72 <|
 spc z5n <|
 spc z4g <|
 spc z4d <|
 spc z5o <|
 spc z73 <|
 spc z1D <|
 spc z5p <|
 spc z2S <|
 spc z4b <|
 spc Yq <|
 spc z0Q <|
 spc z1q <|
 spc z5E <|
 spc WR <|
 spc z04 <|
 spc z1E <|
 spc Vn <|
 spc z4c <|
 spc z49 <|
 spc Yp <|
 spc XT <|
 spc z1r <|
 spc z2R <|
 spc z4a <|
 spc UQ <|
 spc Uo <|
 spc z0P <|
 spc z2W <|
 spc K6 <|
 spc JF <|
 spc J0 <|
 spc z00 <|
 spc Un <|
 spc KZ <|
 spc z2Z <|
 spc z0U <|
 spc JG <|
 spc Jb <|
 spc Xb <|
 spc WQ <|
 spc JH <|
 spc JI <|
 spc Ja <|
 spc Wp <|
 spc z0Z <|
 spc z02 <|
 spc z10 <|
 spc uU <|
 spc ji <|
 spc K8 <|
 spc z1B <|
 spc z1A <|
 spc z5B <|
 spc z1v <|
 spc z7b <|
 spc z1x <|
 spc z34 <|
 spc z4o <|
 spc z5x <|
 spc z38 <|
 spc z4n <|
 spc z5w <|
 spc z4p <|
 spc z5y <|
 spc z1w <|
 spc z36 <|
 spc z01 <|
 spc z37 <|
 spc z4m <|
 spc z5C <|
 spc z3b <|
 trivial
def zA {x:Int}(h1:-9223372036854775808<=x)(h2:x<=9223372036854775807):w64 x=x:=by simp only[w64,IntKind.wrap,IntKind.bits,IntKind.signed];simp;omega
variable {k:Nat}
section
variable {α β σ τ ρ:Type}
def Ret (x:Option α)(Q:α->Prop):Prop:=∃a,x=some a/\Q a
def Ret.mono {x:Option α}{Q R:α->Prop}(h:Ret x Q)(q:∀a,Q a->R a):Ret x R:=by obtain⟨a,e,h⟩:=h;exact⟨a,e,q a h⟩
def Ret.eq {x:Option α}{a:α}(h:Ret x λb=>b=a):x=some a:=by obtain⟨b,e,rfl⟩:=h;exact e
def z7 {a:α}{Q:α->Prop}:Ret (some a) Q↔Q a:=⟨λ⟨b,e,q⟩=>by cases e;exact q,λq=>⟨a,rfl,q⟩⟩
def zm {x:Option α}{f:α->Option β}{Q:β->Prop}:Ret (Option.bind x f) Q↔Ret x λa=>Ret (f a) Q:=by
 cases x with
 |none=>exact⟨λ⟨b,e,_⟩=>(by cases e),λ⟨b,e,_⟩=>(by cases e)⟩
 |some a=>exact⟨λh=>⟨a,rfl,h⟩,λ⟨b,e,h⟩=>by cases e;exact h⟩
def Yc {p:Prop}[Decidable p]{x:Option α}{Q:α->Prop}:Ret (gd p x) Q↔p/\Ret x Q:=by
 unfold gd;by_cases h:p
 ·rw[if_pos h];exact⟨λq=>⟨h,q⟩,λq=>q.2⟩
 rw[if_neg h];exact⟨λ⟨b,e,_⟩=>by(cases e),λq=>(h q.1).elim⟩
def zy {c:Bool}{x y:Option α}{Q:α->Prop}:Ret (bif c then x else y) Q↔(c=true->Ret x Q)/\(c=false->Ret y Q):=by cases c<;>simp
def z7s {l:List α}{i:Int}{Q:α->Prop}:Ret (idx l i) Q↔0<=i/\∃x,l[i.toNat]?=some x/\Q x:=by
 cases i with
 |ofNat n=>show(∃a,l[n]?=some a/\Q a)↔_;simp
 |negSucc n=>exact⟨λ⟨b,e,_⟩=>by(cases e),λ⟨h,_⟩=>by omega⟩
def zM (l:List α)(i:Nat):idx l (i:Int)=l[i]?:=rfl
def gdT {p:Prop}[Decidable p]{x:Option α}(h:p):gd p x=x:=by unfold gd;rw[if_pos h]
def bdT {x:Option α}{u:α}{f:α->Option ρ}(h:x=some u):Option.bind x f=f u:=by rw[h];rfl
def X6 (step:σ->Option (LR σ τ))(n:Nat)(s:σ):KB step (n+1) s=(match step s with|none=>none|some (.next s')=>KB step n s'|some (.done t)=>some t):=rfl
def LRP (N:σ->Prop)(D:τ->Prop):LR σ τ->Prop
 |.next s=>N s
 |.done t=>D t
def zG {step:σ->Option (LR σ τ)}(I:σ->Prop)(m:σ->Nat){R:τ->Prop}{s:σ}(hs:I s)(hm:m s<18446744073709551616)
  (h:∀s,I s->Ret (step s) (LRP (λs'=>I s'/\m s' < m s) R)):Ret (loop step s) R:=by
 have gen:∀(n:Nat) (s:σ),I s->m s<n->Ret (KB step n s) R:=by
  intro n;induction n with
  |zero=>intro s _ h;omega
  |succ n ih=>
   intro s hs hm;obtain⟨a,e,q⟩:=h s hs;rw[X6,e];cases a with
   |next s'=>exact ih s' q.1 (by have:=q.2;omega)
   |done t=>exact⟨t,rfl,q⟩
 exact gen Ur s hs hm
def yY {step:σ->Option (LR σ τ)}(st:Nat->σ)(n:Nat){t:τ}(hn:n<9223372036854775808)(h:∀i,i<n->step (st i)=some (.next (st (i+1))))(hd:step (st n)=some (.done t)):loop step (st 0)=some t:=by
 have gen:∀(k:Nat) (i:Nat),i<=n->n-i<k->KB step k (st i)=some t:=by
  intro k;induction k with
  |zero=>intro i _ h;omega
  |succ k ih=>
   intro i hi hk;rw[X6];rcases pD i n with q|q
   ·rw[h i q];exact ih (i+1) q (by omega)
   have:i=n:=by omega
   subst this;rw[hd]
 exact gen Ur 0 (pM _) (by show n-0<18446744073709551616;omega)
def y9 (f:Nat->α->Option ρ):List α->Nat->Option ρ
 |[],_=>none
 |x::l,i=>match f i x with|some r=>some r|none=>y9 f l (i+1)
def VR {f:Nat->α->Option ρ}:∀{l:List α} {k:Nat},(∀i x,l[i]?=some x->f (k+i) x=none)->y9 f l k=none
 |[],_,_=>rfl
 |x::l,k,h=>by have h0:=h 0 x rfl;simp only[mO]at h0;simp only[y9,h0];exact VR λi y hy=>by have:=h (i+1) y (by simpa using hy);rwa[show k+1+i=k+(i+1) by omega]
def uk {f:Nat->α->Option ρ}{r:ρ}:∀{l:List α} {k:Nat},y9 f l k=some r->∃i x,l[i]?=some x/\f (k+i) x=some r
 |[],_,h=>by cases h
 |x::l,k,h=>by
  simp only[y9]at h;cases hf:f k x with
  |some r'=>rw[hf]at h;exact⟨0,x,rfl,by rw[mO,hf];exact h⟩
  |none=>rw[hf]at h;obtain⟨i,y,h1,h2⟩:=uk h;exact⟨i+1,y,by simpa using h1,by rw[<-h2];congr 1;omega⟩
def ul {f:Nat->α->Option ρ}{l:List α}  (h:y9 f l k=none):∀i x,l[i]?=some x->f (k+i) x=none:=by
 induction l generalizing k with
 |nil=>intro i x h;simp at h
 |cons y l ih=>
  intro i x hx;simp only[y9]at h;cases hf:f k y with
  |some r'=>rw[hf]at h;cases h
  |none=>
   rw[hf]at h;cases i with
   |zero=>simp at hx;subst hx;simpa using hf
   |succ i=>have:=ih h i x (by simpa using hx);rwa[show k+(i+1)=k+1+i by omega]
def oS:Option ρ->Unit⊕ρ
 |some r=>.inr r
 |none=>.inl ()
def nS (i:Nat):Option ρ->LR Int (Unit⊕ρ)
 |some r=>.done (.inr r)
 |none=>.next (w64 ((i:Int)+1))
def wn (l:List α)(hl:l.length<4611686018427387904){step:Int->Option (LR Int (Unit⊕ρ))}(f:Nat->α->Option ρ)
  (h:∀(i:Nat) (x:α),l[i]?=some x->step (i:Int)=some (nS i (f i x))) (h2:step (l.length:Int)=some (.done (.inl ()))) :
  loop step 0=some (oS (y9 f l 0)):=by
 have gen:∀(n:Nat) (k:Nat),k<=l.length->l.length-k<n->KB step n (k:Int)=some (oS (y9 f (l.drop k) k)):=by
  intro n;induction n with
  |zero=>intro k _ h;omega
  |succ n ih=>
   intro k hk hn;rw[X6];rcases pD k l.length with hlt|hge
   ·have hx:l[k]?=some l[k]:=pe hlt;rw[h k _ hx,mA hlt];simp only[y9];cases hf:f k l[k] with
    |some r=>rfl
    |none=>simp only[nS];rw[zA (by omega) (by omega)];exact ih (k+1) hlt (by omega)
   have:k=l.length:=by omega
   subst this;rw[h2,List.drop_length];rfl
 exact gen Ur 0 (pM _) (by show l.length-0<18446744073709551616;omega)
end
section
variable {S:Type}
def rv (k:Nat):TC->Nat
 |[]=>0
 |i::u=>rv k u*k+i+1
def zcx (k:Nat)(bad:S->Nat->Bool)(nx:S->Nat->Option S)(p0:S):TC->S->Prop
 |[],q=>q=p0
 |i::u,q=>∃p,zcx k bad nx p0 u p/\i<k/\bad p i=false/\nx p i=some q
def KQ (k:Nat)(bad:S->Nat->Bool)(nx:S->Nat->Option S):S->TC->Prop
 |_,[]=>False
 |p,[i]=>i<k/\bad p i=true
 |p,i::w=>i<k/\bad p i=false/\∃q,nx p i=some q/\KQ k bad nx q w
structure Bfs (k:Nat)(bad:S->Nat->Bool)(nx:S->Nat->Option S)(p0:S)(L:List (S×TC))(at_ i:Nat):Prop where
 first:L[0]?=some (p0,[])
 mono:∀(j j':Nat) (a b:S×TC),j<j'->L[j]?=some a->L[j']?=some b->rv k a.2<rv k b.2
 path:∀a∈L,zcx k bad nx p0 a.2 a.1
 ahead:∀a c,L[at_]?=some c->a∈L->rv k a.2<rv k c.2*k+i+1
 pos:i<=k
 lies:at_<=L.length
 fin:at_=L.length->i=0
 short:∀(j:Nat) (a:S×TC),L[j]?=some a->a.2.length<=j
 seen:∀(j x:Nat) (a:S×TC),L[j]?=some a->x<k->(j<at_\/j=at_/\x<i)->bad a.1 x=false/\∀q,nx a.1 x=some q->∃b∈L,b.1=q/\rv k b.2<=rv k a.2*k+x+1
variable {k:Nat}{bad:S->Nat->Bool}{nx:S->Nat->Option S}{p0:S}
def Bfs.start:Bfs k bad nx p0 [(p0,[])] 0 0:={
 first:=rfl
 mono:=by intro j j' a b h h1 h2;have:=(pf.1 h2).1;simp at this;omega
 path:=by intro a ha;simp at ha;subst ha;rfl
 ahead:=by intro a c _ ha;simp at ha;subst ha;simp[rv]
 pos:=pM _
 lies:=by simp
 fin:=by intro;rfl
 short:=by intro j a h;have:=(pf.1 h).1;simp at this;subst this;simp at h;subst h;simp
 seen:=by rintro j x a h _ (q|⟨_,q⟩)<;>omega }
def Bfs.old {L:List (S×TC)}{a i:Nat}(h:Bfs k bad nx p0 L a i){c:S×TC}(hc:L[a]?=some c)(hi:i<k)(hb:bad c.1 i=false)
  (hn:∀q,nx c.1 i=some q->∃b∈L,b.1=q):Bfs k bad nx p0 L a (i+1):={
 first:=h.first
 mono:=h.mono
 path:=h.path
 ahead:=λx y hy hx=>by have:=h.ahead x y hy hx;omega
 pos:=hi
 lies:=h.lies
 fin:=λe=>by have:=(pf.1 hc).1;omega
 short:=h.short
 seen:=by
  intro j x y hy hx q;by_cases e:j=a/\x=i
  ·obtain⟨rfl,rfl⟩:=e;rw[hc]at hy;cases hy;refine⟨hb,λq hq=>?_⟩;obtain⟨b,h1,h2⟩:=hn q hq;exact⟨b,h1,h2,by have:=h.ahead b c hc h1;omega⟩
  exact h.seen j x y hy hx (by omega) }
def Bfs.new {L:List (S×TC)}{a i:Nat}(h:Bfs k bad nx p0 L a i){c:S×TC}(hc:L[a]?=some c)(hi:i<k)(hb:bad c.1 i=false){q:S}
  (hn:nx c.1 i=some q):Bfs k bad nx p0 (L++[(q,i::c.2)]) a (i+1):=by
 have hlt:=(pf.1 hc).1;refine⟨?_,?_,?_,?_,hi,by simp;omega,λe=>by simp at e;omega,?_,?_⟩
 ·rw[pA (by omega)];exact h.first
 ·intro j j' x y hj h1 h2;have hl:=(pf.1 h2).1;simp at hl;rw[pA (by omega)]at h1;rcases pD j' L.length with g|g
  ·rw[pA g]at h2;exact h.mono j j' x y hj h1 h2
  have:j'=L.length:=by omega
  subst this;simp at h2;subst h2;exact h.ahead x c hc (pI h1)
 ·intro x hx;rcases pg.1 hx with g|g
  ·exact h.path x g
  simp at g;subst g;exact⟨c.1,h.path c (pI hc),hi,hb,hn⟩
 ·intro x y hy hx;rw[pA hlt]at hy;rcases pg.1 hx with g|g
  ·have:=h.ahead x y hy g;omega
  simp at g;subst g;rw[hc]at hy;cases hy;simp[rv]
 ·intro j y hy;rcases pD j L.length with g|g
  ·rw[pA g]at hy;exact h.short j y hy
  have hl:=(pf.1 hy).1;simp at hl;have:j=L.length:=by omega
  subst this;simp at hy;subst hy;have:=h.short a c hc;simp;omega
 intro j x y hy hx g;rw[pA (by omega)]at hy;by_cases e:j=a/\x=i
 ·obtain⟨rfl,rfl⟩:=e;rw[hc]at hy;cases hy;refine⟨hb,λq' hq=>?_⟩;rw[hn]at hq;cases hq;exact⟨(q,x::c.2),by simp,rfl,pi _⟩
 obtain⟨h1,h2⟩:=h.seen j x y hy hx (by omega);refine⟨h1,λq' hq=>?_⟩;obtain⟨b,g1,g2⟩:=h2 q' hq;exact⟨b,rb _ g1,g2⟩
def Bfs.step {L:List (S×TC)}{a:Nat}(h:Bfs k bad nx p0 L a k)(ha:a<L.length):Bfs k bad nx p0 L (a+1) 0:={
 first:=h.first
 mono:=h.mono
 path:=h.path
 ahead:=by intro x c hc hx;have h1:=h.ahead x _ (pe ha) hx;have h2:=h.mono a (a+1) _ _ (by omega) (pe ha) hc;have h3:(rv k L[a].2+1)*k<=rv k c.2*k:=hU _ h2;rw[rq]at h3;omega
 pos:=pM _
 lies:=ha
 fin:=λ_=>rfl
 short:=h.short
 seen:=λj x b hb hx g=>h.seen j x b hb hx (by rcases g with g|⟨_,g⟩<;>omega) }
def Bfs.reach {L:List (S×TC)}{a i:Nat}(h:Bfs k bad nx p0 L a i):∀(u:TC) (q:S),zcx k bad nx p0 u q->(∀c,L[a]?=some c->rv k u<rv k c.2*k+i+1)->∃(j:Nat) (b:S×TC),L[j]?=some b/\b.1=q/\rv k b.2<=rv k u
 |[],q,hp,_=>⟨0,_,h.first,hp.symm,pM _⟩
 |x::u,q,⟨p,hp,hx,hb,hn⟩,hlt=>by
  have hk:rv k u<=rv k u*k:=Nat.le_mul_of_pos_right _ (by omega);obtain⟨j,b,hj,rfl,hr⟩:=h.reach u p hp λc hc=>by have:=hlt c hc;simp only[rv]at this;omega
  have hmul:rv k b.2*k<=rv k u*k:=hU _ hr;have hjl:=(pf.1 hj).1;have hpos:j<a\/j=a/\x<i:=by
   rcases mT j a with g|g|g
   ·exact .inl g
   ·subst g;refine .inr ⟨rfl,?_⟩;have:=hlt b hj;simp only[rv]at this;omega
   exfalso;have hal:a<L.length:=by omega
   have h1:=hlt _ (pe hal);have h2:=h.mono a j _ _ g (pe hal) hj;have h3:(rv k L[a].2+1)*k<=rv k b.2*k:=hU _ h2;rw[rq]at h3;have:=h.pos;simp only[rv]at h1;omega
  obtain⟨_,h2⟩:=h.seen j x b hj hx hpos;obtain⟨c,g1,g2,g3⟩:=h2 q hn;obtain⟨j',g4⟩:=rm g1;exact⟨j',c,g4,g2,by simp only[rv];omega⟩
def z9S:TC->TC->Prop
 |[],_=>True
 |i::u,j::v=>i<j\/i=j/\z9S u v
 |_::_,[]=>False
def z1J:∀{w:TC} {p:S},KQ k bad nx p w->∀x∈w,x<k
 |[],_,h=>h.elim
 |[i],_,h=>by simpa using h.1
 |i::j::w,_,⟨hi,_,q,_,h⟩=>by
  intro x hx;rcases pl.1 hx with rfl|hx
  ·exact hi
  exact z1J h x hx
def Mk (k:Nat)(bad:S->Nat->Bool)(nx:S->Nat->Option S):Nat->S->Prop
 |0,_=>False
 |n+1,p=>Mk k bad nx n p\/∃i,i<k/\(bad p i=true\/∃q,nx p i=some q/\Mk k bad nx n q)
def Mk.mono {n m:Nat}{p:S}(h:Mk k bad nx n p)(hm:n<=m):Mk k bad nx m p:=by
 induction hm with
 |refl=>exact h
 |step _ ih=>exact .inl ih
def Mk.tell:∀{n:Nat} {p:S},Mk k bad nx n p->∃w,KQ k bad nx p w/\w.length<=n
 |0,_,h=>h.elim
 |n+1,p,.inl h=>by obtain⟨w,h1,h2⟩:=Mk.tell h;exact⟨w,h1,by omega⟩
 |n+1,p,.inr ⟨i,hi,h⟩=>by
  by_cases hb:bad p i=true
  ·exact⟨[i],⟨hi,hb⟩,by simp⟩
  rcases h with h|⟨q,hq,h⟩
  ·exact(hb h).elim
  obtain⟨w,h1,h2⟩:=Mk.tell h;refine⟨i::w,?_,by simp;omega⟩;cases w with
  |nil=>exact h1.elim
  |cons j w=>exact⟨hi,by simpa using hb,q,hq,h1⟩
def Vr:∀{w:TC} {p:S},KQ k bad nx p w->Mk k bad nx w.length p
 |[],_,h=>h.elim
 |[i],p,h=>.inr ⟨i,h.1,.inl h.2⟩
 |i::j::w,p,⟨hi,hb,q,hn,h⟩=>.inr ⟨i,hi,.inr ⟨q,hn,Vr h⟩⟩
end
variable {α:Type}
def z2A {p q:α->Bool}:∀{l:List α},(∀x∈l,p x=true->q x=true)->(∃x∈l,q x=true/\p x=false)->l.countP p<l.countP q
 |[],_,⟨x,hx,_⟩=>by cases hx
 |y::l,h,⟨x,hx,h1,h2⟩=>by
  have hm:l.countP p<=l.countP q:=List.countP_mono_left λz hz=>h z (mV _ hz);simp only[rP];rcases pl.1 hx with rfl|hx
  ·simp only[h1,h2,if_true,gf,if_false];omega
  have:=z2A (λz hz=>h z (mV _ hz)) ⟨x,hx,h1,h2⟩;cases hp:p y with
  |true=>simp only[h y (by simp) hp,if_true];omega
  |false=>simp only[gf,if_false];split<;>omega
open Classical in
def zfO (N:Nat)(R:Nat->Nat->Prop):Nat:=(List.range N).countP λs=>decide (∀t,t<s->¬R s t)
def zp7 {N:Nat}(hN:0<N)(R:Nat->Nat->Nat->Prop)(symm:∀k s t,s<N->t<N->R k s t->R k t s)(trans:∀k s t u,s<N->t<N->u<N->R k s t->R k t u->R k s u)
  (refl:∀k s,s<N->R k s s) (mono:∀k s t,s<N->t<N->R (k+1) s t->R k s t) (stat:∀k,(∀s t,s<N->t<N->R k s t->R (k+1) s t)->∀s t,s<N->t<N->R (k+1) s t->R (k+2) s t) :
  ∀s t,s<N->t<N->R (N-1) s t->∀j,R j s t:=by
 classical
 have step:∀k,(¬∀s t,s<N->t<N->R k s t->R (k+1) s t)->zfO N (R k)<zfO N (R (k+1)):=by
  intro k hk;simp only[Classical.not_forall]at hk;obtain⟨s,t,hs,ht,h1,h2⟩:=hk;unfold zfO;refine z2A (λx hx=>?_) ?_
  ·have hx:=gJ.1 hx;simp only[decide_eq_true_eq];exact λh t ht q=>h t ht (mono k x t hx (by omega) q)
  ·
   have hmin:∃z,z<N/\R k z s/\∀y,y<z->¬R k y s:=by
    have key:∀n,∀z,z<=n->z<N->R k z s->∃z,z<N/\R k z s/\∀y,y<z->¬R k y s:=by
     intro n;induction n with
     |zero=>intro z hz hzN hr;exact⟨z,hzN,hr,λy hy=>by omega⟩
     |succ n ih=>
      intro z hz hzN hr;by_cases q:∃y,y<z/\R k y s
      ·obtain⟨y,y1,y2⟩:=q;exact ih y (by omega) (by omega) y2
      exact⟨z,hzN,hr,λy hy g=>q ⟨y,hy,g⟩⟩
    exact key s s (pi _) hs (refl k s hs)
   obtain⟨z,hz,hzs,hzm⟩:=hmin;have hzt:R k z t:=trans k z s t hz hs ht hzs h1;obtain⟨u,hu,hzu,hne⟩:∃u,u<N/\R k z u/\¬R (k+1) z u:=by
    by_cases q:R (k+1) z s
    ·by_cases g:R (k+1) z t
     ·exact(h2 (trans (k+1) s z t hs hz ht (symm _ _ _ hz hs q) g)).elim
     exact⟨t,ht,hzt,g⟩
    exact⟨s,hs,hzs,q⟩
   have hmin:∃y,y<N/\R (k+1) y u/\∀x,x<y->¬R (k+1) x u:=by
    have key:∀n,∀z,z<=n->z<N->R (k+1) z u->∃z,z<N/\R (k+1) z u/\∀y,y<z->¬R (k+1) y u:=by
     intro n;induction n with
     |zero=>intro z hz hzN hr;exact⟨z,hzN,hr,λy hy=>by omega⟩
     |succ n ih=>
      intro z hz hzN hr;by_cases q:∃y,y<z/\R (k+1) y u
      ·obtain⟨y,y1,y2⟩:=q;exact ih y (by omega) (by omega) y2
      exact⟨z,hzN,hr,λy hy g=>q ⟨y,hy,g⟩⟩
    exact key u u (pi _) hu (refl _ u hu)
   obtain⟨y,hy,hyu,hym⟩:=hmin;have hyk:R k y u:=mono k y u hy hu hyu;have hyz:R k y z:=trans k y u z hy hu hz hyk (symm _ _ _ hz hu hzu);have hzy:z<y:=by
    rcases mT z y with g|g|g
    ·exact g
    ·subst g;exact(hne hyu).elim
    exact(hzm y g (trans k y z s hy hz hs hyz hzs)).elim
   refine⟨y,gJ.2 hy,?_,?_⟩
   ·simp only[decide_eq_true_eq];intro x hx q;exact hym x hx (trans (k+1) x y u (by omega) hy hu (symm _ _ _ hy (by omega) q) hyu)
   simp only[decide_eq_false_iff_not];intro q;exact q z hzy hyz
 have le:∀k,zfO N (R k)<=N:=by intro k;unfold zfO;refine pm (rI) ?_;simp
 have one:∀k,1<=zfO N (R k):=by intro k;unfold zfO;refine List.countP_pos_iff.2 ⟨0,gJ.2 hN,?_⟩;simp
 have rest:∃k,k<N/\∀s t,s<N->t<N->R k s t->R (k+1) s t:=by
  refine gG λhno=>?_;have:∀k,k<=N->k+1<=zfO N (R k):=by
   intro k;induction k with
   |zero=>intro _;exact one 0
   |succ k ih=>intro hk;have:=step k λh=>hno ⟨k,by omega,h⟩;have:=ih (by omega);omega
  have:=this N (pi _);have:=le N;omega
 obtain⟨k,hk,hst⟩:=rest;have up:∀d,∀s t,s<N->t<N->R (k+d) s t->R (k+d+1) s t:=by
  intro d;induction d with
  |zero=>exact hst
  |succ d ih=>exact stat (k+d) ih
 have down:∀d j s t,s<N->t<N->R (j+d) s t->R j s t:=by
  intro d;induction d with
  |zero=>intro j s t _ _ h;exact h
  |succ d ih=>intro j s t hs ht h;exact ih j s t hs ht (mono _ s t hs ht h)
 intro s t hs ht h j;have hk':R k s t:=down (N-1-k) k s t hs ht (by rw[show k+(N-1-k)=N-1 by omega];exact h);have far:∀d,R (k+d) s t:=by
  intro d;induction d with
  |zero=>exact hk'
  |succ d ih=>exact up d s t hs ht ih
 exact down k j s t hs ht (by rw[rZ];exact far j)
section
variable {S S':Type}{k:Nat}{bad:S->Nat->Bool}{nx:S->Nat->Option S}{bad':S'->Nat->Bool}{nx':S'->Nat->Option S'}(φ:S->S')(I:S->Prop)
 (hI:∀p i q,I p->i<k->nx p i=some q->I q) (hb:∀p i,I p->i<k->bad' (φ p) i=bad p i) (hn:∀p i,I p->i<k->nx' (φ p) i=(nx p i).map φ)
include hI hb hn
end
def z7Q (m:z6)(x:z8):Bool:=(x.o == -1&&x.r == -1) ||(decide (0<=x.o)&&decide (x.o<(m.i.length:Int))&&decide (0<=x.r)&&decide (x.r<m.m))
def z9z (m:z6)(r:List z8):Bool:=decide ((r.length:Int)=m.j)&&r.all (z7Q m)
def chk (m:z6):Int :=
 if m.j>16\/m.m>16\/(m.i.length:Int)>64 then 3 else if m.j<1\/m.m<1\/m.i.length=0 then 1 else if m.i.all (z9z m)=true then 0 else 1
def zi0 (m:z6)(x:z8):YR m x=some (z7Q m x):=by
 unfold YR ug;simp only[oB,rC];rcases Bool.eq_false_or_eq_true (x.o==(-1)&&x.r==(-1)) with h|h
 ·simp[z7Q,h]
 rw[h];simp only[z7Q,h,nF,cond_false];by_cases h1:(0:Int)<=x.o
 ·by_cases h2:x.o<(m.i.length:Int)
  ·by_cases h3:(0:Int)<=x.r
   ·simp[mP,h1,h2,h3]
   simp[mP,h1,h2,h3]
  simp[mP,h1,h2]
 simp[h1]
def z7V (m:z6)(r:List z8)(hl:r.length<4611686018427387904):yd r m=some (!r.all (z7Q m)):=by
 have hloop:loop (λs=>yc r m s) 0=some (oS (y9 (λi x=>if z7Q m x=true then none else some (i:Int)) r 0)):=by
  refine wn r hl _ ?_ ?_
  ·intro i x hx;have hi:=(pf.1 hx).1;unfold yc;have hd:decide ((i:Int)<((r.length:Nat):Int))=true:=by simpa using hi
   rw[hd,cond_true,zM,bdT hx];unfold YE;simp only[zi0,oB];cases z7Q m x<;>rfl
  unfold yc;simp
 unfold yd xm;rw[hloop];simp only[oB];cases hf:y9 (λi x=>if z7Q m x=true then none else some (i:Int)) r 0 with
 |some q=>
  obtain⟨i,x,h1,h2⟩:=uk hf;have hx:z7Q m x≠true:=by intro h;rw[if_pos h]at h2;cases h2
  rw[if_neg hx]at h2;simp only[Option.some.injEq]at h2;have:r.all (z7Q m)=false:=by rw[List.all_eq_false];exact⟨x,pI h1,hx⟩
  rw[this];have:(q:Int)>=0:=by rw[<-h2];omega
  show some (decide (q>=0))=_;simp[this]
 |none=>
  have:r.all (z7Q m)=true:=by
   rw[gB];intro x hx;obtain⟨i,hi⟩:=rm hx;have:=ul hf i x hi;by_cases h:z7Q m x=true
   ·exact h
   rw[if_neg h]at this;cases this
  rw[this];rfl
variable {m:z6}
def z9Q (h0:(m.i.length:Int)<=64)(h1:m.j<=16):loop (λs=>qR m s) 0=some (oS (y9 (λ_ r=>if z9z m r=true then none else some (1:Int)) m.i 0)):=by
 refine wn m.i (by omega) _ ?_ ?_
 ·intro i r hr;have hi:=(pf.1 hr).1;unfold qR;have hd:decide ((i:Int)<((m.i.length:Nat):Int))=true:=by simpa using hi
  rw[hd,cond_true,zM,bdT hr];by_cases hlen:(r.length:Int)=m.j
  ·have hne:(((r.length:Nat):Int) != m.j)=false:=by simpa using hlen
   rw[hne,cond_false,bdT (z7V m r (by omega))];have:z9z m r=r.all (z7Q m):=by simp[z9z,hlen]
   rw[this];cases r.all (z7Q m)<;>rfl
  have hne:(((r.length:Nat):Int) !=m.j)=true:=by simpa using hlen
  rw[hne,cond_true];have:z9z m r=false:=by simp[z9z,hlen]
  rw[this];rfl
 unfold qR;simp
def z9y (m:z6):y9 (λ_ r=>if z9z m r=true then none else some (1:Int)) m.i 0=if m.i.all (z9z m)=true then none else some 1:=by
 by_cases h:m.i.all (z9z m)=true
 ·rw[if_pos h];refine VR λi r hr=>?_;rw[if_pos (gB.1 h r (pI hr))]
 rw[if_neg h];cases hf:y9 (λ_ r=>if z9z m r=true then none else some (1:Int)) m.i 0 with
 |some q=>
  obtain⟨i,x,h1,h2⟩:=uk hf;split at h2
  ·cases h2
  exact h2.symm▸rfl
 |none=>
  exfalso;apply h;rw[gB];intro x hx;obtain⟨i,hi⟩:=rm hx;have:=ul hf i x hi;by_cases h:z9z m x=true
  ·exact h
  rw[if_neg h]at this;cases this
def VX (m:z6):xq m=some (chk m):=by
 unfold xq chk;by_cases h1:m.j>16
 ·simp[h1]
 by_cases h2:m.m>16
 ·simp[mP,h1,h2]
 by_cases h3:(m.i.length:Int)>64
 ·simp[mP,h1,h2,h3]
 rw[if_neg (by simp[mP,h1,h2,h3])];by_cases h4:m.j<1
 ·simp[mP,h1,h2,h3,h4]
 by_cases h5:m.m<1
 ·simp[mP,h1,h2,h3,h4,h5]
 by_cases h6:m.i.length=0
 ·simp[mP,h1,h2,h4,h5,h6]
 rw[if_neg (by simp[h4,h5,h6])];have h6':decide (((m.i.length:Nat):Int)<1)=false:=by simp;omega
 have e1:decide (m.j>16)=false:=by simpa using h1
 have e2:decide (m.m>16)=false:=by simpa using h2
 have e3:decide (((m.i.length:Nat):Int)>64)=false:=by simpa using h3
 have e4:decide (m.j<1)=false:=by simpa using h4
 have e5:decide (m.m<1)=false:=by simpa using h5
 simp only[e1,e2,e3,e4,e5,h6',cond_false];rw[bdT (z9Q (by omega) (by omega)),z9y];by_cases h:m.i.all (z9z m)=true
 ·rw[if_pos h,if_pos h];rfl
 rw[if_neg h,if_neg h];rfl
structure VM (m:z6):Prop where
 in1:1<=m.j
 in16:m.j<=16
 out1:1<=m.m
 out16:m.m<=16
 J:1<=m.i.length
 y:m.i.length<=64
 row:∀r∈m.i,(r.length:Int)=m.j
 edge:∀r∈m.i,∀x∈r,(x.o=-1/\x.r=-1)\/(0<=x.o/\x.o<(m.i.length:Int)/\0<=x.r/\x.r<m.m)
def z2C (h:VM m):chk m=0:=by
 unfold chk;have:=h.in1;have:=h.in16;have:=h.out1;have:=h.out16;have:=h.J;have:=h.y;rw[if_neg (by omega),if_neg (by omega),if_pos];rw[gB];intro r hr;simp only[z9z,pB,decide_eq_true_eq,gB];refine⟨h.row r hr,λx hx=>?_⟩;simp only[z7Q,gY,pB,beq_iff_eq,decide_eq_true_eq];rcases h.edge r hr x hx with⟨a,b⟩|⟨a,b,c,d⟩
 ·exact .inl ⟨a,b⟩
 exact .inr ⟨⟨⟨a,b⟩,c⟩,d⟩
def kk (m:z6):Nat:=m.j.toNat
def E (m:z6)(s i:Nat):z8:=((m.i[s]?.getD [])[i]?).getD ⟨-1,-1⟩
variable {s i:Nat}{β:Type}
section
variable {m:z6}(h:VM m)
include h
theorem VM.kk_eq:((kk m:Nat):Int)=m.j:=by have:=h.in1;unfold kk;omega
theorem VM.kk_pos:1<=kk m:=by have:=h.in1;unfold kk;omega
theorem VM.kk_le:kk m<=16:=by have:=h.in16;unfold kk;omega
theorem VM.rowAt {s:Nat}(hs:s<m.i.length):∃r,m.i[s]?=some r/\r.length=kk m/\∀i,i<kk m->r[i]?=some (E m s i):=by
 have hr:=pe hs;have hl:=h.row _ (pC hs);have hl':m.i[s].length=kk m:=by unfold kk;omega
 refine⟨_,hr,hl',λi hi=>?_⟩;have hi':i<m.i[s].length:=by omega
 unfold E;rw[hr];simp only[pW];rw[pe hi'];rfl
theorem VM.edgeAt (hs:s<m.i.length)(hi:i<kk m):((E m s i).o=-1/\(E m s i).r=-1)\/(0<=(E m s i).o/\(E m s i).o<(m.i.length:Int)/\0<=(E m s i).r/\(E m s i).r<m.m):=by obtain⟨r,h1,_,h2⟩:=h.rowAt hs;exact h.edge r (pI h1) _ (pI (h2 i hi))
theorem VM.edge_eq (hs:s<m.i.length)(hi:i<kk m)  {f:z8->Option β} :
  (Option.bind (idx m.i (s:Int)) λr=>Option.bind (idx r (i:Int)) f)=f (E m s i):=by
 obtain⟨r,h1,_,h2⟩:=h.rowAt hs;rw[zM,h1,oB,zM,h2 i hi,oB]
end
section
variable {K V:Type}[BEq K][LawfulBEq K]
def z1f (l:List (K×V))(x y:K)(v:V):Vj (z2h l x v) y=if(x==y)=true then some v else Vj l y:=by
 induction l with
 |nil=>simp only[z2h,Vj]
 |cons p l ih=>
  simp only[z2h];by_cases h:p.1=x
  ·rw[if_pos (by simpa using h)];simp only[Vj];by_cases q:x=y
   ·rw[if_pos (by simpa using q),if_pos (by simpa using q)]
   rw[if_neg (by simpa using q),if_neg (by simpa using q),if_neg (by rw[h];simpa using q)]
  rw[if_neg (by simpa using h)];simp only[Vj,ih];by_cases q:p.1=y
  ·have q':¬x=y:=by rintro rfl;exact h q
   have e1:(p.1==y)=true:=by simpa using q
   have e2:(x==y)=false:=by simpa using q'
   simp[e1,e2]
  have e1:(p.1==y)=false:=by simpa using q
  simp[e1]
end
def XG:∀(n:Nat) (l:TC),l.Nodup->(∀x∈l,x<n)->l.length<=n
 |0,l,_,h=>by
  cases l with
  |nil=>simp
  |cons x l=>have:=h x (by simp);omega
 |n+1,l,hd,h=>by
  by_cases hm:n∈l
  ·have h1:=List.length_erase_of_mem hm;have h2:=XG n (l.erase n) (hd.erase n) λx hx=>by have h3:=(hd.mem_erase_iff).1 hx;have:=h x h3.2;have:=h3.1;omega
   have:0<l.length:=List.length_pos_of_mem hm;omega
  have:=XG n l hd λx hx=>by have:=h x hx;have:x≠n:=λe=>hm (e▸hx);omega
  omega
def Zm (a b:z6)(p:Nat×Nat)(i:Nat):Bool:=(E a p.1 i).r !=(E b p.2 i).r
def nxP (a b:z6)(p:Nat×Nat)(i:Nat):Option (Nat×Nat):=if 0<=(E a p.1 i).o/\0<=(E b p.2 i).o then some ((E a p.1 i).o.toNat,(E b p.2 i).o.toNat) else none
abbrev LL:=List ((Nat×Nat)×TC)
def zpG (a b:z6)(L:LL):Prop:=(L.map (·.1)).Nodup/\∀x∈L,x.1.1<a.i.length/\x.1.2<b.i.length
structure WM (m:z6):Prop where
 in1:1<=m.j
 in16:m.j<=16
 J:1<=m.i.length
 len:m.i.length<=128
 row:∀r∈m.i,(r.length:Int)=m.j
 edge:∀r∈m.i,∀x∈r,(x.o=-1/\x.r=-1)\/(0<=x.o/\x.o<(m.i.length:Int)/\0<=x.r)
def VM.wm (h:VM m):WM m:=⟨h.in1,h.in16,h.J,by have:=h.y;omega,h.row,λr hr x hx=>by
 rcases h.edge r hr x hx with g|⟨g1,g2,g3,_⟩
 ·exact .inl g
 exact .inr ⟨g1,g2,g3⟩⟩
section
variable {m:z6}(h:WM m)
include h
theorem WM.kk_eq:((kk m:Nat):Int)=m.j:=by have:=h.in1;unfold kk;omega
theorem WM.kk_le:kk m<=16:=by have:=h.in16;unfold kk;omega
theorem WM.rowAt {s:Nat}(hs:s<m.i.length):∃r,m.i[s]?=some r/\r.length=kk m/\∀i,i<kk m->r[i]?=some (E m s i):=by
 have hr:=pe hs;have hl:=h.row _ (pC hs);have hl':m.i[s].length=kk m:=by unfold kk;omega
 refine⟨_,hr,hl',λi hi=>?_⟩;have hi':i<m.i[s].length:=by omega
 unfold E;rw[hr];simp only[pW];rw[pe hi'];rfl
theorem WM.edgeAt (hs:s<m.i.length)(hi:i<kk m):((E m s i).o=-1/\(E m s i).r=-1)\/(0<=(E m s i).o/\(E m s i).o<(m.i.length:Int)/\0<=(E m s i).r):=by obtain⟨r,h1,_,h2⟩:=h.rowAt hs;exact h.edge r (pI h1) _ (pI (h2 i hi))
theorem WM.edge_eq (hs:s<m.i.length)(hi:i<kk m)  {f:z8->Option β} :
  (Option.bind (idx m.i (s:Int)) λr=>Option.bind (idx r (i:Int)) f)=f (E m s i):=by
 obtain⟨r,h1,_,h2⟩:=h.rowAt hs;rw[zM,h1,oB,zM,h2 i hi,oB]
theorem WM.nx_in {p:Nat×Nat}{i:Nat}{q:Nat×Nat}(h1:p.1<m.i.length)(h2:p.2<m.i.length)(hi:i<kk m)(hq:nxP m m p i=some q):q.1<m.i.length/\q.2<m.i.length:=by
 unfold nxP at hq;split at hq
 ·rename_i hc;cases hq;have a:=h.edgeAt h1 hi;have b:=h.edgeAt h2 hi;simp only;omega
 cases hq
end
def mkb (k:Nat)(bad:Nat×Nat->Nat->Bool)(nx:Nat×Nat->Nat->Option (Nat×Nat)):Nat->Nat×Nat->Bool
 |0,_=>false
 |n+1,p=>mkb k bad nx n p ||(List.range k).any λi=>bad p i ||(match nx p i with|some q=>mkb k bad nx n q|none=>false)
def z4T (k:Nat)(bad:Nat×Nat->Nat->Bool)(nx:Nat×Nat->Nat->Option (Nat×Nat)):∀(n:Nat) (p:Nat×Nat),mkb k bad nx n p=true↔Mk k bad nx n p
 |0,p=>by simp[mkb,Mk]
 |n+1,p=>by
  simp only[mkb,Mk,gY,rr,gJ,z4T k bad nx n p];constructor
  ·rintro(h|⟨i,hi,h|h⟩)
   ·exact .inl h
   ·exact .inr ⟨i,hi,.inl h⟩
   cases hq:nx p i with
   |none=>rw[hq]at h;cases h
   |some q=>rw[hq]at h;exact .inr ⟨i,hi,.inr ⟨q,hq,(z4T k bad nx n q).1 h⟩⟩
  rintro(h|⟨i,hi,h|⟨q,hq,h⟩⟩)
  ·exact .inl h
  ·exact .inr ⟨i,hi,.inl h⟩
  exact .inr ⟨i,hi,.inr (by rw[hq];exact(z4T k bad nx n q).2 h)⟩
def tab (N:Nat)(f:Nat->Nat->Bool):List (List Bool):=(List.range N).map λs=>(List.range N).map λt=>f s t
def za9 {N s t:Nat}(f:Nat->Nat->Bool)(hs:s<N)(ht:t<N)  {g:Bool->Option β}:(Option.bind (idx (tab N f) (s:Int)) λr=>Option.bind (idx r (t:Int)) g)=g (f s t):=by
 have e1:(tab N f)[s]?=some ((List.range N).map λt=>f s t):=by simp[tab,hs]
 have e2:((List.range N).map λt=>f s t)[t]?=some (f s t):=by simp[ht]
 rw[zM,e1,oB,zM,e2,oB]
def zao (N t:Nat)(g:Nat->α)(v:α):((List.range N).map g).set t v=(List.range N).map λx=>if x=t then v else g x:=by
 refine List.ext_getElem (by simp) λn h1 h2=>?_;simp only[List.getElem_set,List.getElem_map,List.getElem_range];by_cases e:t=n
 ·rw[if_pos e,if_pos e.symm]
 rw[if_neg e,if_neg (nL e)]
def z7g (m:z6)(f:Nat->Nat->Bool)(p:Nat×Nat)(i:Nat):Bool:=Zm m m p i ||(match nxP m m p i with|some q=>f q.1 q.2|none=>false)
def zfq (h:WM m)(f:Nat->Nat->Bool){s t:Nat}(hs:s<m.i.length)(ht:t<m.i.length) :
  VA m (tab m.i.length f) (s:Int) (t:Int)=some (if(List.range (kk m)).any (z7g m f (s,t))=true then 1 else 0):=by
 have hk:=h.kk_eq;have k16:=h.kk_le;have hl:loop (λq=>ZU m (tab m.i.length f) (s:Int) (t:Int) q) 0=some (oS (y9 (λ_ i=>if z7g m f (s,t) i=true then some (1:Int) else none) (List.range (kk m)) 0)):=by
  refine wn (List.range (kk m)) (by simp;omega) _ ?_ ?_
  ·intro i x hx;have hi:i<kk m:=by have:=(pf.1 hx).1;simpa using this
   have:x=i:=by rw[rV hi]at hx;exact(Option.some.inj hx).symm
   subst this;unfold ZU jC;have hd:decide ((x:Int)<m.j)=true:=by rw[<-hk];simpa using hi
   rw[hd,cond_true,h.edge_eq hs hi,h.edge_eq ht hi];have e1:=h.edgeAt hs hi;have e2:=h.edgeAt ht hi;by_cases hbad:(E m s x).r=(E m t x).r
   ·have n1:((E m s x).r !=(E m t x).r)=false:=by simpa using hbad
    rw[n1,cond_false];by_cases t1:(E m s x).o>=0
    ·by_cases t2:(E m t x).o>=0
     ·have hnx:nxP m m (s,t) x=some ((E m s x).o.toNat,(E m t x).o.toNat):=by unfold nxP;rw[if_pos ⟨t1,t2⟩]
      have hin:=h.nx_in hs ht hi hnx;have c1:(E m s x).o=(((E m s x).o.toNat:Nat):Int):=by omega
      have c2:(E m t x).o=(((E m t x).o.toNat:Nat):Int):=by omega
      have ht1:z7g m f (s,t) x=f (E m s x).o.toNat (E m t x).o.toNat:=by unfold z7g Zm;rw[hnx];simp only[n1,nF]
      rw[decide_eq_true t1,decide_eq_true t2];simp only[cond_true];have:=za9 f hin.1 hin.2 (g:=λv=>bif v then some (LR.done (Sum.inr (1:Int)):LR Int (Unit⊕Int)) else some (LR.next (w64 ((x:Int)+1))));rw[<-c1,<-c2]at this;rw[this,ht1];cases f (E m s x).o.toNat (E m t x).o.toNat<;>rfl
     have ht1:z7g m f (s,t) x=false:=by unfold z7g Zm nxP;rw[if_neg (by simp only;omega)];simp only[n1,nF]
     rw[decide_eq_true t1,decide_eq_false t2,ht1];rfl
    have ht1:z7g m f (s,t) x=false:=by unfold z7g Zm nxP;rw[if_neg (by simp only;omega)];simp only[n1,nF]
    rw[decide_eq_false t1,ht1];rfl
   have n1:((E m s x).r !=(E m t x).r)=true:=by simpa using hbad
   have ht1:z7g m f (s,t) x=true:=by unfold z7g Zm;simp only[n1,Bool.true_or]
   rw[n1,ht1];rfl
  unfold ZU;rw[List.length_range,hk];simp
 unfold VA;rw[bdT hl];cases hf:y9 (λ(_:Nat) i=>if z7g m f (s,t) i=true then some (1:Int) else none) (List.range (kk m)) 0 with
 |some q=>
  obtain⟨i,x,h1,h2⟩:=uk hf;split at h2
  ·rename_i hx;cases h2;have:(List.range (kk m)).any (z7g m f (s,t))=true:=rr.2 ⟨x,pI h1,hx⟩;rw[if_pos this];rfl
  cases h2
 |none=>
  have:¬(List.range (kk m)).any (z7g m f (s,t))=true:=by rw[rr];rintro⟨x,hx,hx2⟩;obtain⟨i,hi⟩:=rm hx;have:=ul hf i x hi;rw[if_pos hx2]at this;cases this
  rw[if_neg this];rfl
def zaJ (N:Nat):List.replicate ((N:Nat):Int).toNat false=(List.range N).map λ_=>false:=by refine List.ext_getElem (by simp) λn h1 h2=>?_;simp
def XW (m:z6)(f:Nat->Nat->Bool)(s t:Nat):Bool:=f s t ||(List.range (kk m)).any (z7g m f (s,t))
def ze2 (h:WM m)(f:Nat->Nat->Bool):loop (λq=>qB m (tab m.i.length f) q.1 q.2) (([]:List (List Bool)),0)=some (tab m.i.length (XW m f)):=by
 have zkM:=h.len;have row:∀(s:Nat),s<m.i.length->loop (λq=>qA m (tab m.i.length f) (s:Int) q.1 q.2) (((List.range s).map λs=>(List.range m.i.length).map λt=>XW m f s t)++[(List.range m.i.length).map λ_=>false],0)=some ((List.range (s+1)).map λs=>(List.range m.i.length).map λt=>XW m f s t):=by
  intro s hs;have hst:=yY (step:=λq=>qA m (tab m.i.length f) (s:Int) q.1 q.2) (λt:Nat=>(((List.range s).map λs=>(List.range m.i.length).map λt=>XW m f s t)++[(List.range m.i.length).map λt'=>if t' < t then XW m f s t' else false],(t:Int))) m.i.length (t:=(List.range (s+1)).map λs=>(List.range m.i.length).map λt=>XW m f s t) (by omega) ?_ ?_
  ·simpa using hst
  ·intro t ht;unfold qA;have hd:decide ((t:Int)<((m.i.length:Nat):Int))=true:=by simpa using ht
   have hw:w64 ((t:Int)+1)=((t+1:Nat):Int):=by rw[zA (by omega) (by omega)];rfl
   simp only[hd,cond_true];have e1:(((List.range s).map λs=>(List.range m.i.length).map λt=>XW m f s t)++[(List.range m.i.length).map λt'=>if t' < t then XW m f s t' else false])[s]?=some ((List.range m.i.length).map λt'=>if t' < t then XW m f s t' else false):=by rw[po (by simp)];simp
   have e2:∀x,((List.range m.i.length).map λt'=>if t' < t then XW m f s t' else false)[t]?=some x↔x=false:=by intro x;simp[ht,eq_comm]
   have e2':=(e2 false).2 rfl;have fin:∀v:Bool,v=XW m f s t->(((List.range s).map λs=>(List.range m.i.length).map λt=>XW m f s t)++[(List.range m.i.length).map λt'=>if t' < t then XW m f s t' else false]).set s (((List.range m.i.length).map λt'=>if t' < t then XW m f s t' else false).set t v)=((List.range s).map λs=>(List.range m.i.length).map λt=>XW m f s t)++[(List.range m.i.length).map λt'=>if t' < t+1 then XW m f s t' else false]:=by
    intro v hv;rw[List.set_append,if_neg (by simp),zao];simp only[pY,List.length_range,nK,nH];congr 3;funext x;by_cases e:x=t
    ·subst e;rw[if_pos rfl,if_pos (by omega)];exact hv
    rw[if_neg e];by_cases g:x<t
    ·rw[if_pos g,if_pos (by omega)]
    rw[if_neg g,if_neg (by omega)]
   rw[zM,bdT e1,za9 f hs ht];cases hf:f s t with
   |true=>simp only[cond_true];rw[zM,bdT e2',hw,ph,ph,fin true (by simp[XW,hf])]
   |false=>simp only[cond_false];rw[bdT (zfq h f hs ht),zM,bdT e2',hw,ph,ph,fin _ ?_];unfold XW;rw[hf,nF];cases (List.range (kk m)).any (z7g m f (s,t))<;>rfl
  unfold qA;simp only[Int.lt_irrefl,decide_false,cond_false];congr 3;rw[nV,gV];congr 1;simp only[gE,nE];congr 1;refine ny λx hx=>?_;rw[if_pos (gJ.1 hx)]
 have:=yY (step:=λq=>qB m (tab m.i.length f) q.1 q.2) (λs:Nat=>((List.range s).map λs=>(List.range m.i.length).map λt=>XW m f s t,(s:Int))) m.i.length (t:=tab m.i.length (XW m f)) (by omega) ?_ ?_
 ·exact this
 ·intro s hs;unfold qB Xx;have hd:decide ((s:Int)<((m.i.length:Nat):Int))=true:=by simpa using hs
  have hw:w64 ((s:Int)+1)=((s+1:Nat):Int):=by rw[zA (by omega) (by omega)];rfl
  simp only[hd,cond_true];rw[gdT (by omega),gdT (by simp;omega),zaJ,bdT (row s hs),hw]
 unfold qB;simp only[Int.lt_irrefl,decide_false,cond_false];rfl
def mrk (m:z6)(n s t:Nat):Bool:=mkb (kk m) (Zm m m) (nxP m m) n (s,t)
def zek (m:z6)(n:Nat):XW m (mrk m n)=mrk m (n+1):=by funext s t;unfold XW mrk;simp only[mkb];congr 1
def zbl (h:WM m)(n:Nat)(hn:n<=1000000):Wc m (n:Int)=some (tab m.i.length (mrk m n)):=by
 have zkM:=h.len;have l9:loop (λq=>qz m q.1 q.2) (([]:List (List Bool)),0)=some (tab m.i.length (mrk m 0)):=by
  have:=yY (step:=λq=>qz m q.1 q.2) (λs:Nat=>((List.range s).map λ_=>(List.range m.i.length).map λ_=>false,(s:Int))) m.i.length (t:=tab m.i.length (mrk m 0)) (by omega) ?_ ?_
  ·exact this
  ·intro s hs;unfold qz;have hd:decide ((s:Int)<((m.i.length:Nat):Int))=true:=by simpa using hs
   have hw:w64 ((s:Int)+1)=((s+1:Nat):Int):=by rw[zA (by omega) (by omega)];rfl
   simp only[hd,cond_true];rw[gdT (by omega),gdT (by simp;omega),zaJ,hw,nV,gV];rfl
  unfold qz;simp only[Int.lt_irrefl,decide_false,cond_false];rfl
 have l3:=yY (step:=λq=>qC m (n:Int) q.1 q.2) (λr:Nat=>(tab m.i.length (mrk m r),(r:Int))) n (t:=tab m.i.length (mrk m n)) (by omega) ?_ ?_
 ·unfold Wc XB XA;rw[bdT l9];have l3':loop (λq=>qC m (n:Int) q.1 q.2) (tab m.i.length (mrk m 0),0)=some (tab m.i.length (mrk m n)):=l3;rw[bdT l3']
 ·intro r hr;unfold qC Xy Xz;have hd:decide ((r:Int)<(n:Int))=true:=by simpa using hr
  have hw:w64 ((r:Int)+1)=((r+1:Nat):Int):=by rw[zA (by omega) (by omega)];rfl
  simp only[hd,cond_true];rw[bdT (ze2 h (mrk m r)),zek,hw]
 unfold qC;simp only[Int.lt_irrefl,decide_false,cond_false]
def Kz (h:WM m){s t:Nat}(hs:s<m.i.length)(ht:t<m.i.length){j:Nat}(hj:Mk (kk m) (Zm m m) (nxP m m) j (s,t)):Mk (kk m) (Zm m m) (nxP m m) (m.i.length-1) (s,t):=by
 refine gG λhno=>?_;have same:∀{p:Nat×Nat} {i:Nat},p.1<m.i.length->p.2<m.i.length->i<kk m->Zm m m p i=false->((E m p.1 i).o>=0↔(E m p.2 i).o>=0):=by
  intro p i h1 h2 hi hb;have e:(E m p.1 i).r=(E m p.2 i).r:=by simpa[Zm] using hb
  have a:=h.edgeAt h1 hi;have b:=h.edgeAt h2 hi;omega
 have symm:∀k s t,Mk (kk m) (Zm m m) (nxP m m) k (s,t)->Mk (kk m) (Zm m m) (nxP m m) k (t,s):=by
  intro k;induction k with
  |zero=>intro s t h;exact h
  |succ k ih=>
   rintro s t (h|⟨i,hi,h|⟨q,hq,h⟩⟩)
   ·exact .inl (ih _ _ h)
   ·exact .inr ⟨i,hi,.inl (by unfold Zm at h⊢;simp only[bne_iff_ne,ne_eq]at h⊢;exact λe=>h e.symm)⟩
   refine .inr ⟨i,hi,.inr ⟨(q.2,q.1),?_,ih _ _ h⟩⟩;unfold nxP at hq⊢;split at hq
   ·rename_i hc;cases hq;rw[if_pos ⟨hc.2,hc.1⟩]
   cases hq
 have trans:∀k s t u,s<m.i.length->t<m.i.length->u<m.i.length->Mk (kk m) (Zm m m) (nxP m m) k (s,u)->Mk (kk m) (Zm m m) (nxP m m) k (s,t)\/Mk (kk m) (Zm m m) (nxP m m) k (t,u):=by
  intro k;induction k with
  |zero=>intro s t u _ _ _ h;exact h.elim
  |succ k ih=>
   rintro s t u hs ht hu (g|⟨i,hi,g|⟨q,hq,g⟩⟩)
   ·rcases ih s t u hs ht hu g with g|g
    ·exact .inl (.inl g)
    exact .inr (.inl g)
   ·cases b1:Zm m m (s,t) i with
    |true=>exact .inl (.inr ⟨i,hi,.inl b1⟩)
    |false=>refine .inr (.inr ⟨i,hi,.inl ?_⟩);unfold Zm at b1 g⊢;simp only[bne_iff_ne,ne_eq,bne_eq_false_iff_eq]at b1 g⊢;rw[<-b1];exact g
   cases b1:Zm m m (s,t) i with
   |true=>exact .inl (.inr ⟨i,hi,.inl b1⟩)
   |false=>
    cases b2:Zm m m (t,u) i with
    |true=>exact .inr (.inr ⟨i,hi,.inl b2⟩)
    |false=>
     have c1:=same (p:=(s,t)) hs ht hi b1;have c2:=same (p:=(t,u)) ht hu hi b2;simp only at c1 c2;unfold nxP at hq;split at hq
     ·rename_i hc;cases hq;simp only at hc g;have e1:=h.edgeAt hs hi;have e2:=h.edgeAt ht hi;have e3:=h.edgeAt hu hi;rcases ih (E m s i).o.toNat (E m t i).o.toNat (E m u i).o.toNat (by omega) (by omega) (by omega) g with g|g
      ·exact .inl (.inr ⟨i,hi,.inr ⟨_,by unfold nxP;rw[if_pos ⟨hc.1,by simp only;omega⟩],g⟩⟩)
      exact .inr (.inr ⟨i,hi,.inr ⟨_,by unfold nxP;rw[if_pos ⟨by simp only;omega,hc.2⟩],g⟩⟩)
     cases hq
 have refl:∀k s,¬Mk (kk m) (Zm m m) (nxP m m) k (s,s):=by
  intro k;induction k with
  |zero=>intro s h;exact h
  |succ k ih=>
   rintro s (g|⟨i,hi,g|⟨q,hq,g⟩⟩)
   ·exact ih s g
   ·simp[Zm]at g
   unfold nxP at hq;split at hq
   ·cases hq;exact ih _ g
   cases hq
 exact zp7 (N:=m.i.length) h.J (λk s t=>¬Mk (kk m) (Zm m m) (nxP m m) k (s,t)) (λk s t _ _ g q=>g (symm k t s q)) (λk s t u hs ht hu g1 g2 q=>by
   rcases trans k s t u hs ht hu q with g|g
   ·exact g1 g
   ·exact g2 g) (λk s _=>refl k s) (λk s t _ _ g q=>g (.inl q)) (λk hk s t hs ht g q=>by
   rcases q with q|⟨i,hi,q|⟨r,hr,q⟩⟩
   ·exact g q
   ·exact g (.inr ⟨i,hi,.inl q⟩)
   have hin:=h.nx_in (p:=(s,t)) hs ht hi hr;have:Mk (kk m) (Zm m m) (nxP m m) k r:=gG λc=>hk r.1 r.2 hin.1 hin.2 c q;exact g (.inr ⟨i,hi,.inr ⟨r,hr,this⟩⟩)) s t hs ht hno j hj
def z7z {a k:Int}(h0:0<=a)(hk:1<=k)(hk2:k<=1000000):1<=w64 (1+w64 (Int.tmod a k))/\w64 (1+w64 (Int.tmod a k))<=k:=by have h1:=rX k h0;have h2:=s5 a (show 0<k by omega);rw[zA (x:=Int.tmod a k) (by omega) (by omega),zA (by omega) (by omega)];omega
def zhn (s t:TB)(hs:s.length<4611686018427387904)(ht:t.length<4611686018427387904):QJ s t=some (decide (s=t)):=by
 unfold QJ VF;by_cases h1:s.length<t.length
 ·rw[decide_eq_true (show((s.length:Nat):Int)<((t.length:Nat):Int) by omega),cond_true,oB];rw[decide_eq_false (λe=>by rw[e]at h1;omega)];rfl
 by_cases h2:t.length<s.length
 ·rw[decide_eq_false (show ¬((s.length:Nat):Int)<((t.length:Nat):Int) by omega),cond_false,decide_eq_true (show((s.length:Nat):Int)>((t.length:Nat):Int) by omega),cond_true,oB];rw[decide_eq_false (λe=>by rw[e]at h2;omega)];rfl
 rw[decide_eq_false (show ¬((s.length:Nat):Int)<((t.length:Nat):Int) by omega),cond_false,decide_eq_false (show ¬((s.length:Nat):Int)>((t.length:Nat):Int) by omega),cond_false];have hlen:s.length=t.length:=by omega
 have hl:loop (λq=>jO s t q) 0=some (oS (y9 (λi x=>match t[i]? with|none=>none|some y=>if x<y then some (-1) else if y<x then some (1:Int) else none) s 0)):=by
  refine wn s hs _ ?_ ?_
  ·intro i x hx;have hi:=(pf.1 hx).1;have hit:i<t.length:=by omega
   have ht:=pe hit;unfold jO;have hd:decide ((i:Int)<((s.length:Nat):Int))=true:=by simpa using hi
   rw[hd,cond_true];simp only[zM,hx,ht,oB];generalize t[i]=y;by_cases h1:x<y
   ·simp[mP,h1,nS]
   by_cases h2:y<x
   ·simp[mP,h1,h2,nS]
   simp[mP,h1,h2,nS]
  unfold jO;simp
 rw[hl,oB];cases hf:y9 (λi x=>match t[i]? with|none=>none|some y=>if x<y then some (-1) else if y<x then some (1:Int) else none) s 0 with
 |some r=>
  obtain⟨i,x,h3,h4⟩:=uk hf;have hne:s≠t:=by intro e;rw[gF,<-e,h3]at h4;simp at h4
  have hr:r≠0:=by
   rw[gF]at h4;cases ht:t[i]? with
   |none=>rw[ht]at h4;cases h4
   |some y=>
    rw[ht]at h4;simp only at h4;split at h4
    ·cases h4;decide
    split at h4
    ·cases h4;decide
    cases h4
  simp only[oS,oB,decide_eq_false hne];congr 1;simpa using hr
 |none=>
  have he:s=t:=by
   refine gN λn=>?_;rcases pD n s.length with g|g
   ·have hx:=pe g;have ht:=pe (show n<t.length by omega);have:=ul hf n _ hx;rw[gF,ht]at this;simp only at this;rw[hx,ht];split at this
    ·cases this
    split at this
    ·cases this
    rename_i g1 g2;congr 1;omega
   rw[nZ.2 g,nZ.2 (by omega)]
  simp only[oS,YD,oB,decide_eq_true he];rfl
def nxE (m:z6)(s:Int)(i:Nat):z8:=if s<0 then⟨-1,-1⟩ else E m s.toNat i
def rsp (m:z6):Int->TC->TB
 |_,[]=>[]
 |s,i::w=>(nxE m s i).r::rsp m (nxE m s i).o w
def aft (m:z6):Int->TC->Int
 |s,[]=>s
 |s,i::w=>aft m (nxE m s i).o w
def Vw (m:z6):∀(w:TC) (s:Int) (i:Nat),rsp m s (w++[i])=rsp m s w++[(nxE m (aft m s w) i).r]/\aft m s (w++[i])=(nxE m (aft m s w) i).o
 |[],s,i=>⟨rfl,rfl⟩
 |j::w,s,i=>by have:=Vw m w (nxE m s j).o i;simp only[gK,rsp,aft,this.1,this.2,and_self]
def zaE (m:z6):∀(w:TC) (s:Int),(rsp m s w).length=w.length
 |[],_=>rfl
 |i::w,s=>by simp[rsp,zaE m w]
def z3n (m:z6)(s:Int):Prop:=-1<=s/\s<(m.i.length:Int)
def zhJ (h:VM m){s:Int}(hs:z3n m s){i:Nat}(hi:i<kk m):z3n m (nxE m s i).o:=by
 unfold nxE;have:=h.J;by_cases h0:s<0
 ·rw[if_pos h0];unfold z3n;simp only;omega
 rw[if_neg h0];have hl:s.toNat<m.i.length:=by have:=hs.2;omega
 have:=h.edgeAt hl hi;unfold z3n;omega
def zbe (h:VM m){s:Int}(hs:z3n m s){i:Nat}(hi:i<kk m):V5 m s (i:Int)=some (nxE m s i)/\z3n m (nxE m s i).o:=by
 unfold V5 nxE;have:=h.J;by_cases h0:s<0
 ·rw[decide_eq_true h0,cond_true,if_pos h0];exact⟨rfl,by unfold z3n;simp only;omega⟩
 rw[decide_eq_false h0,cond_false,if_neg h0];have hl:s.toNat<m.i.length:=by have:=hs.2;omega
 have he:=h.edge_eq hl hi (f:=λe=>some e);have hc:((s.toNat:Nat):Int)=s:=by omega
 rw[hc]at he;refine⟨he,?_⟩;have:=h.edgeAt hl hi;unfold z3n;omega
def zfL (h:VM m){s:Int}(hs:z3n m s)(w:TC)(hw:∀i∈w,i<kk m)(hl:w.length<=100000):Qm m s (w.map Int.ofNat)=some (rsp m s w):=by
 have hloop:loop (λq=>Qj m (w.map Int.ofNat) q.1 q.2.1 q.2.2) (s,([]:TB),0)=some (rsp m s w):=by
  refine Ret.eq (zG (λq=>∃k:Nat,q.2.2=(k:Int)/\k<=w.length/\z3n m q.1/\q.2.1.length=k/\q.2.1++rsp m q.1 (w.drop k)=rsp m s w) (λq=>200000-q.2.2.toNat) ⟨0,rfl,pM _,hs,rfl,rfl⟩ (by simp) ?_);rintro⟨s',out,k'⟩ ⟨k,hk,hkl,hst,hol,ho⟩;simp only at hk hst hol ho;subst hk;unfold Qj;rw[zy];refine⟨λhlt=>?_,λhge=>?_⟩
  ·have hlt:k<w.length:=by simpa using hlt
   have hx:(w.map Int.ofNat)[k]?=some ((w[k]:Nat):Int):=by simp[hlt]
   have hi:=hw _ (pC hlt);have hn:=zbe h hst hi;have hw1:w64 ((k:Int)+1)=((k+1:Nat):Int):=by rw[zA (by omega) (by omega)];rfl
   rw[zM,bdT hx,bdT hn.1,gdT (by simp;omega),z7,hw1];refine⟨⟨k+1,rfl,hlt,hn.2,by simp[hol],?_⟩,by simp only;omega⟩;rw[<-ho,mA hlt];simp[rsp]
  have:k=w.length:=by simp at hge;omega
  subst this;rw[z7];rw[List.drop_length]at ho;show out=rsp m s w;simpa[rsp] using ho
 unfold Qm Qk;rw[bdT hloop]
section
variable {N:Nat}{f:Nat->Nat->Bool}
structure zlp (N:Nat)(f:Nat->Nat->Bool)(out:TB)(n:Int)(s:Nat):Prop where
 len:out.length=s
 sN:s<=N
 n0:0<=n
 nS:n<=(s:Int)
 lt:∀(i:Nat) (x:Int),out[i]?=some x->0<=x/\x<n
 cls:∀(i j:Nat),i<s->j<s->(out[i]?=out[j]?↔f i j=false)
def zei (hN:N<=1000)(hr:∀s,s<N->f s s=false)(hs:∀s t,s<N->t<N->f s t=false->f t s=false)(ht:∀s t u,s<N->t<N->u<N->f s t=false->f t u=false->f s u=false) :
  Ret (Za (tab N f)) λout=>out.length=N/\∀i j,i<N->j<N->(out[i]?=out[j]?↔f i j=false):=by
 have hl:(tab N f).length=N:=by simp[tab]
 unfold Za;rw[zm];refine Ret.mono (Q:=λout=>out.length=N/\∀i j,i<N->j<N->(out[i]?=out[j]?↔f i j=false)) ?_ λout h=>z7.2 h;refine zG (λq=>zlp N f q.1 q.2.1 q.2.2.toNat/\0<=q.2.2) (λq=>N-q.2.2.toNat) ⟨⟨rfl,pM _,Int.le_refl 0,Int.le_refl 0,λi x h=>by simp at h,λi j h=>by simp at h⟩,Int.le_refl 0⟩ (by show N-0<_;omega) ?_;rintro⟨out,n,s⟩ ⟨hI,h0⟩;obtain⟨s,rfl⟩:=nD h0;simp only[ph]at hI⊢;unfold Wa;rw[zy];refine⟨λhc=>?_,λhc=>?_⟩
 ·rw[hl]at hc;have hsN:s<N:=by simpa using hc
  rw[zm];have inner:Ret (loop (λs_1=>kY (tab N f) out (s:Int) s_1.1 s_1.2) (-1,0)) λb=>(b=-1/\∀t,t<s->f s t=true)\/∃t,t<s/\f s t=false/\out[t]?=some b:=by
   refine zG (λq=>0<=q.2/\q.2<=(s:Int)/\((q.1=-1/\∀t:Nat,(t:Int)<q.2->f s t=true)\/∃t,t<s/\f s t=false/\out[t]?=some q.1)) (λq=>s-q.2.toNat) ⟨by omega,by omega,.inl ⟨rfl,λt ht=>by simp at ht;omega⟩⟩ (by show s-0<_;omega) ?_;rintro⟨b,t⟩ ⟨g0,g1,g2⟩;simp only at g0 g1 g2⊢;obtain⟨t,rfl⟩:=nD g0;unfold kY uM;rw[zy];refine⟨λhc=>?_,λhc=>?_⟩
   ·have hts:t<s:=by simpa using hc
    have hw:w64 ((t:Int)+1)=((t+1:Nat):Int):=by rw[zA (by omega) (by omega)];rfl
    rw[za9 f hsN (by omega),hw,zy];refine⟨λhf=>?_,λhf=>?_⟩
    ·rw[zm,z7s];have:∃x,out[t]?=some x:=⟨out[t]'(by rw[hI.len];exact hts),pe _⟩;obtain⟨x,hx⟩:=this;refine⟨by omega,x,by rw[ph];exact hx,z7.2 ⟨⟨by omega,by omega,.inr ⟨t,hts,by simpa using hf,hx⟩⟩,by simp only[ph];omega⟩⟩
    refine z7.2 ⟨⟨by omega,by omega,?_⟩,by simp only[ph];omega⟩;rcases g2 with⟨e,g2⟩|g2
    ·refine .inl ⟨e,λu hu=>?_⟩;rcases pD u t with q|q
     ·exact g2 u (by omega)
     have:u=t:=by omega
     subst this;simpa using hf
    exact .inr g2
   have hts:¬t<s:=by simpa using hc
   refine z7.2 ?_;rcases g2 with⟨e,g2⟩|g2
   ·exact .inl ⟨e,λu hu=>g2 u (by omega)⟩
   exact .inr g2
  refine inner.mono λb hb=>?_;have hw:w64 ((s:Int)+1)=((s+1:Nat):Int):=by rw[zA (by omega) (by omega)];rfl
  have hlen:=hI.len;have hnS:=hI.nS;have hn0:=hI.n0;have fin:∀(n' c:Int),0<=n'->n'<=((s+1:Nat):Int)->n<=n'->0<=c->c<n'->(∀t,t<s->(out[t]?=some c↔f s t=false)) ->
    Ret (va out (s:Int) n' c) (LRP (λs'=>(zlp N f s'.1 s'.2.1 s'.2.2.toNat/\0<=s'.2.2)/\N-s'.2.2.toNat<N-s) λout=>out.length=N/\∀i j,i<N->j<N->(out[i]?=out[j]?↔f i j=false)):=by
   intro n' c a1 a2 a3 a4 a5 a6;unfold va Z9;rw[Yc,hw];refine⟨by simp[hlen];omega,z7.2 ⟨⟨⟨by simp[hlen],by simp only[ph];omega,a1,by simp only[ph];exact a2,?_,?_⟩,nB _⟩,by simp only[ph];omega⟩⟩
   ·intro i x hx;rcases pD i s with q|q
    ·rw[pA (by omega)]at hx;have:=hI.lt i x hx;exact⟨this.1,by have:=this.2;simp only;omega⟩
    rw[po (by omega)]at hx;cases hh:i-out.length with
    |zero=>rw[hh]at hx;simp at hx;subst hx;exact⟨a4,a5⟩
    |succ k=>rw[hh]at hx;simp at hx
   intro i j hi hj;simp only[ph]at hi hj;have at_:∀i,i<s->(out++[c])[i]?=out[i]?:=λi h=>pA (by omega);have at_s:(out++[c])[s]?=some c:=by rw[<-hlen,po (pi _)];simp
   rcases pD i s with q|q<;>rcases pD j s with q'|q'
   ·show(out++[c])[i]?=(out++[c])[j]?↔_;rw[at_ i q,at_ j q'];exact hI.cls i j q q'
   ·have:j=s:=by omega
    subst this;show(out++[c])[i]?=(out++[c])[j]?↔_;rw[at_ i q,at_s,a6 i q];exact⟨λh=>hs _ _ (by omega) (by omega) h,λh=>hs _ _ (by omega) (by omega) h⟩
   ·have:i=s:=by omega
    subst this;show(out++[c])[i]?=(out++[c])[j]?↔_;rw[at_ j q',at_s,eq_comm,a6 j q']
   have e1:i=s:=by omega
   have e2:j=s:=by omega
   subst e1;subst e2;exact⟨λ_=>hr _ hsN,λ_=>rfl⟩
  unfold kZ;rw[zy];rcases hb with⟨rfl,hb⟩|⟨t,ht1,ht2,ht3⟩
  ·refine⟨λ_=>?_,λh=>by simp at h⟩;rw[zA (by omega) (by omega)];refine fin (n+1) n (by omega) (by omega) (by omega) hn0 (by omega) λt hts=>?_;rw[hb t hts];refine⟨λh=>?_,λh=>by cases h⟩;have:=hI.lt t n h;omega
  have hb0:=hI.lt t b ht3;refine⟨λh=>by simp at h;omega,λ_=>fin n b hn0 (by omega) (by omega) hb0.1 hb0.2 λu hu=>?_⟩;rw[<-ht3,hI.cls u t hu ht1];exact⟨λh=>ht _ _ _ (by omega) (by omega) (by omega) ht2 (hs _ _ (by omega) (by omega) h),λh=>ht _ _ _ (by omega) (by omega) (by omega) (hs _ _ (by omega) (by omega) h) ht2⟩
 rw[hl]at hc;have hsN:¬s<N:=by simpa using hc
 have:s=N:=by have:=hI.sN;omega
 subst this;exact z7.2 ⟨hI.len,hI.cls⟩
end
def SEq (m:z6)(s t:Nat):Prop:=∀w:TC,(∀i∈w,i<kk m)->rsp m (s:Int) w=rsp m (t:Int) w
def z7q (m:z6):∀(w:TC) (s:Int),s<0->rsp m s w=w.map λ_=>-1
 |[],_,_=>rfl
 |i::w,s,h=>by simp only[rsp,nxE,if_pos h,gE];rw[z7q m w (-1) (by omega)]
def uJ (m:z6)(s i:Nat):nxE m (s:Int) i=E m s i:=by unfold nxE;rw[if_neg (by omega),ph]
section
variable {m:z6}(h:WM m)
include h
theorem z7C:∀(n:Nat) (p:Nat×Nat),p.1<m.i.length->p.2<m.i.length->Mk (kk m) (Zm m m) (nxP m m) n p->∃w:TC,(∀i∈w,i<kk m)/\rsp m (p.1:Int) w≠rsp m (p.2:Int) w
 |0,p,_,_,q=>q.elim
 |n+1,p,h1,h2,q=>by
  rcases q with q|⟨i,hi,q|⟨r,hr,q⟩⟩
  ·exact z7C n p h1 h2 q
  ·refine⟨[i],by simpa using hi,λe=>?_⟩;simp only[rsp,uJ,List.cons.injEq,and_true]at e;simp[Zm,e]at q
  have hin:=h.nx_in h1 h2 hi hr;obtain⟨w,hw,hne⟩:=z7C n r hin.1 hin.2 q;refine⟨i::w,λj hj=>by rcases pl.1 hj with rfl|hj;exact hi;exact hw j hj,λe=>hne ?_⟩;simp only[rsp,uJ,List.cons.injEq]at e;unfold nxP at hr;split at hr
  ·rename_i hc;cases hr;have e1:(((E m p.1 i).o.toNat:Nat):Int)=(E m p.1 i).o:=by omega
   have e2:(((E m p.2 i).o.toNat:Nat):Int)=(E m p.2 i).o:=by omega
   simp only[e1,e2];exact e.2
  cases hr
theorem za0:∀(w:TC) (p:Nat×Nat),p.1<m.i.length->p.2<m.i.length->(∀i∈w,i<kk m)->rsp m (p.1:Int) w≠rsp m (p.2:Int) w->Mk (kk m) (Zm m m) (nxP m m) w.length p
 |[],p,_,_,_,q=>(q rfl).elim
 |i::w,p,h1,h2,hw,q=>by
  have hi:=hw i (by simp);refine .inr ⟨i,hi,?_⟩;by_cases hb:Zm m m p i=true
  ·exact .inl hb
  have he:(E m p.1 i).r=(E m p.2 i).r:=by simpa[Zm] using hb
  simp only[rsp,uJ,he,ne_eq,List.cons.injEq,true_and]at q;have a:=h.edgeAt h1 hi;have b:=h.edgeAt h2 hi;by_cases hc:0<=(E m p.1 i).o/\0<=(E m p.2 i).o
  ·have hr:nxP m m p i=some ((E m p.1 i).o.toNat,(E m p.2 i).o.toNat):=by unfold nxP;rw[if_pos hc]
   have hin:=h.nx_in h1 h2 hi hr;have e1:(((E m p.1 i).o.toNat:Nat):Int)=(E m p.1 i).o:=by omega
   have e2:(((E m p.2 i).o.toNat:Nat):Int)=(E m p.2 i).o:=by omega
   exact .inr ⟨_,hr,za0 w _ hin.1 hin.2 (λj hj=>hw j (by simp[hj])) (by simpa only[e1,e2] using q)⟩
  exfalso;refine q ?_;have e1:(E m p.1 i).o=-1:=by omega
  have e2:(E m p.2 i).o=-1:=by omega
  rw[e1,e2]
theorem JO {s t:Nat}(hs:s<m.i.length)(ht:t<m.i.length):mrk m m.i.length s t=false↔SEq m s t:=by
 have e:mrk m m.i.length s t=true↔¬SEq m s t:=by
  unfold mrk;rw[z4T];constructor
  ·intro q g;obtain⟨w,hw,hne⟩:=z7C h _ (s,t) hs ht q;exact hne (g w hw)
  intro q;obtain⟨w,hw⟩:=Classical.not_forall.1 q;obtain⟨hw,hne⟩:=Classical.not_imp.1 hw;have:=Kz h hs ht (za0 h w (s,t) hs ht hw hne);exact this.mono (by omega)
 constructor
 ·intro q;exact gG λg=>by rw[e.2 g]at q;cases q
 intro q;cases hm:mrk m m.i.length s t with
 |false=>rfl
 |true=>exact(e.1 hm q).elim
theorem z2B:Ret (Zb m) λl=>l.length=m.i.length/\∀s t,s<m.i.length->t<m.i.length->(l[s]?=l[t]?↔SEq m s t):=by have hl:=h.len;unfold Zb Qi;rw[zm,bdT (zbl h m.i.length (by omega)),zm];refine Ret.mono (zei (by omega) (λs hs=>(JO h hs hs).2 λw _=>rfl) (λs t hs ht q=>(JO h ht hs).2 λw hw=>((JO h hs ht).1 q w hw).symm) (λs t u hs ht hu q r=>(JO h hs hu).2 λw hw=>((JO h hs ht).1 q w hw).trans ((JO h ht hu).1 r w hw))) ?_;rintro l ⟨h1,h2⟩;exact z7.2 (z7.2 ⟨h1,λs t hs ht=>(h2 s t hs ht).trans (JO h hs ht)⟩)
end
def z9c (h:VM m):∀(w:TC) (n:Nat) (s:Int),z3n m s->(∀i∈w,i<kk m)->w.length<n->Zc n m s (w.map Int.ofNat)=some (aft m s w)
 |w,0,_,_,_,hn=>by omega
 |[],n+1,s,hs,_,_=>by show Zd (Zc n) m s []=_;rfl
 |i::w,n+1,s,hs,hw,hn=>by
  show Zd (Zc n) m s ((i:Int)::w.map Int.ofNat)=_;have hi:=hw i (by simp);have hx:=zbe h hs hi;unfold Zd;have hz:(((((i:Int)::w.map Int.ofNat).length:Nat):Int)==0)=false:=by rw[beq_eq_false_iff_ne];simp only[gv];omega
  rw[hz,cond_false];have e0:idx ((i:Int)::w.map Int.ofNat) 0=some (i:Int):=rfl;rw[bdT e0,bdT hx.1,gdT (by simp;omega)];have e1:((i:Int)::w.map Int.ofNat).drop (1:Int).toNat=w.map Int.ofNat:=rfl;rw[e1,bdT (z9c h w n _ hx.2 (λj hj=>hw j (by simp[hj])) (by simp at hn;omega))];rfl
def z9i (h:VM m){s:Int}(hs:z3n m s)(w:TC)(hw:∀i∈w,i<kk m):XC m s (w.map Int.ofNat)=some (aft m s w):=by unfold XC;exact z9c h w _ s hs hw (by simp)
def z6D (k:Nat):TC->Option TC
 |[]=>none
 |d::r=>if d+1<k then some ((d+1)::r) else(z6D k r).map (0 :: ·)
def WP (k:Nat):TC->Nat
 |[]=>0
 |d::r=>d+k*WP k r
def z1F {k:Nat}:∀{r:TC},(∀d∈r,d<k)->WP k r<k^r.length
 |[],_=>by simp[WP]
 |d::r,h=>by have ih:=z1F (k:=k) (r:=r) λx hx=>h x (by simp[hx]);have hd:=h d (by simp);simp only[WP,gv,s6];have:k*(WP k r+1)<=k*k^r.length:=Nat.mul_le_mul_left k ih;rw[Nat.mul_add,Nat.mul_one]at this;rw[rJ (k^r.length) k];omega
def z85:∀{r s:TC},r.length=s.length->(∀d∈r,d<k)->(∀d∈s,d<k)->WP k r=WP k s->r=s
 |[],[],_,_,_,_=>rfl
 |[],_::_,h,_,_,_=>by simp at h
 |_::_,[],h,_,_,_=>by simp at h
 |d::r,e::s,h,h1,h2,hv=>by
  have hd:=h1 d (by simp);have he:=h2 e (by simp);simp only[WP]at hv;have a1:(d+k*WP k r)%k=d:=by rw[Nat.add_mul_mod_self_left,ro hd]
  have a2:(e+k*WP k s)%k=e:=by rw[Nat.add_mul_mod_self_left,ro he]
  have hde:d=e:=by rw[<-a1,<-a2,hv]
  subst hde;have hk:0<k:=by omega
  have:k*WP k r=k*WP k s:=by omega
  have:=Nat.eq_of_mul_eq_mul_left hk this;rw[z85 (by simpa using h) (λx hx=>h1 x (by simp[hx])) (λx hx=>h2 x (by simp[hx])) this]
def z6B:∀{r s:TC},(∀d∈r,d<k)->z6D k r=some s->s.length=r.length/\(∀d∈s,d<k)/\WP k s=WP k r+1
 |[],s,_,h=>by cases h
 |d::r,s,hr,h=>by
  have hd:=hr d (by simp);unfold z6D at h;split at h
  ·rename_i hc;cases h;exact⟨rfl,λx hx=>by rcases pl.1 hx with rfl|hx;exact hc;exact hr x (by simp[hx]),by simp only[WP];omega⟩
  rename_i hc;obtain⟨s',h1,rfl⟩:=pT.1 h;obtain⟨g1,g2,g3⟩:=z6B (λx hx=>hr x (by simp[hx])) h1;refine⟨by simp[g1],λx hx=>by rcases pl.1 hx with rfl|hx;omega;exact g2 x hx,?_⟩;simp only[WP,g3,Nat.mul_add,Nat.mul_one];omega
def z6C (hk:0<k):∀{r:TC},(∀d∈r,d<k)->z6D k r=none->WP k r+1=k^r.length
 |[],_,_=>by simp[WP]
 |d::r,hr,h=>by
  have hd:=hr d (by simp);unfold z6D at h;split at h
  ·cases h
  rename_i hc;have h1:z6D k r=none:=by cases e:z6D k r with|none=>rfl|some x=>rw[e]at h;cases h
  have:=z6C hk (λx hx=>hr x (by simp[hx])) h1;simp only[WP,gv,s6,<-this,gR,rn,rJ k];omega
def z6m (k:Nat)(w:TC):TC:=match z6D k w.reverse with|some r=>r.reverse|none=>List.replicate (w.length+1) 0
variable {w:TC}
def z6l (hk:1<=k)(hk2:k<=1000)  (hw:∀i∈w,i<k)(hl:w.length<=100000):X4 (w.map Int.ofNat) (k:Int)=some ((z6m k w).map Int.ofNat):=by
 have hloop:Ret (loop (λs=>VB (k:Int) s.1 s.2) (w.map Int.ofNat,w64 ((((w.map Int.ofNat).length:Nat):Int)-1))) λr=>match r with
   |.inl o=>z6D k w.reverse=none/\o=List.replicate w.length (0:Int)
   |.inr o=>∃r,z6D k w.reverse=some r/\o=r.reverse.map Int.ofNat:=by
  refine zG (λq=>∃(p:TC) (z:Nat),q.1=(p++List.replicate z 0).map Int.ofNat/\q.2=(p.length:Int)-1/\(∀i∈p,i<k)/\p.length+z=w.length/\z6D k w.reverse=(z6D k p.reverse).map (λr=>List.replicate z 0++r)) (λq=>(q.2+1).toNat) ⟨w,0,by simp,by rw[zA (by simp;omega) (by simp;omega)];simp,hw,by simp,by cases z6D k w.reverse<;>simp⟩ (by simp only;rw[zA (by simp;omega) (by simp;omega)];simp;omega) ?_;rintro⟨out,j⟩ ⟨p,z,h1,h2,h3,h4,h5⟩;simp only at h1 h2;subst h1;subst h2;unfold VB;rw[zy];refine⟨λhc=>?_,λhc=>?_⟩
  ·have hp:1<=p.length:=by simp at hc;omega
   obtain⟨p',d,rfl⟩:∃p' d,p=p' ++ [d]:=by
    rcases rK p with e|⟨p',d,e⟩
    ·subst e;simp at hp
    exact⟨p',d,by simpa using e⟩
   have hd:=h3 d (by simp);have hj:(((p' ++ [d]).length:Nat):Int)-1=((p'.length:Nat):Int):=by simp
   have hx:((p' ++ [d]++List.replicate z 0).map Int.ofNat)[p'.length]?=some (d:Int):=by simp
   have hset:∀e:Nat,((p' ++ [d]++List.replicate z 0).map Int.ofNat).set p'.length (e:Int)=(p' ++ e::List.replicate z 0).map Int.ofNat:=by intro e;rw[pG,gV,List.set_append,if_neg (by simp)];simp
   have hr:(p' ++ [d]).reverse=d::p'.reverse:=by simp
   rw[hr]at h5;have hin:z6D k (d::p'.reverse)=if d+1<k then some ((d+1)::p'.reverse) else(z6D k p'.reverse).map (0 :: ·):=rfl
   have hw1:w64 ((d:Int)+1)=((d+1:Nat):Int):=by rw[zA (by omega) (by omega)];rfl
   rw[hj,zM,bdT hx,hw1,zy];refine⟨λhc=>?_,λhc=>?_⟩
   ·have hdk:d+1<k:=by simp at hc;omega
    rw[bdT hx,bdT hx,hw1,ph,hset];refine z7.2 ?_;rw[hin,if_pos hdk]at h5;exact⟨_,h5,by simp⟩
   have hdk:¬d+1<k:=by simp at hc;omega
   rw[bdT hx,ph,zA (by omega) (by omega)];have h0:=hset 0;simp only[Int.natCast_zero]at h0;refine z7.2 ⟨⟨p',z+1,?_,rfl,λi hi=>h3 i (by simp[hi]),by simp at h4;omega,?_⟩,?_⟩
   ·rw[mY];exact h0
   ·rw[hin,if_neg hdk]at h5;rw[h5];cases z6D k p'.reverse with
    |none=>rfl
    |some r=>simp[List.replicate_succ']
   simp only
   omega
  have hp:p=[]:=mK (by simp at hc;omega);subst hp;refine z7.2 ⟨?_,?_⟩
  ·rw[h5];rfl
  simp at h4;simp[h4]
 unfold X4;rw[gdT (by simp;omega)];obtain⟨r,e,hr⟩:=hloop;rw[bdT e];unfold z6m;cases r with
 |inl o=>obtain⟨g1,rfl⟩:=hr;show YN _=_;unfold YN;rw[gdT (by simp;omega),g1];simp[List.replicate_succ']
 |inr o=>obtain⟨r,g1,rfl⟩:=hr;show some _=_;rw[g1]
def GG (k:Nat):Nat->Nat
 |0=>0
 |n+1=>GG k n+k^n
def JY {k n m:Nat}(h:n<=m):GG k n<=GG k m:=by
 induction h with
 |refl=>exact pi _
 |step _ ih=>exact pm ih (Nat.le_add_right _ _)
def rk (k:Nat)(w:TC):Nat:=GG k w.length+WP k w.reverse
def Wd (k:Nat)(w:TC):Prop:=∀i∈w,i<k
def Wd.rev (h:Wd k w):∀d∈w.reverse,d<k:=λd hd=>h d (by simpa using hd)
def ze4 (h:Wd k w):rk k w<GG k (w.length+1):=by have:=z1F h.rev;rw[mB]at this;show GG k w.length+WP k w.reverse<GG k w.length+k^w.length;omega
def z1X {k:Nat}{w u:TC}(hw:Wd k w)(h:w.length<u.length):rk k w<rk k u:=by have h1:=ze4 hw;have h2:=JY (k:=k) (show w.length+1<=u.length from h);unfold rk at *;omega
def z60 {w u:TC}(hw:Wd k w)(hu:Wd k u)(h:rk k w=rk k u):w=u:=by
 have hl:w.length=u.length:=by
  rcases mT w.length u.length with q|q|q
  ·have:=z1X hw q;omega
  ·exact q
  have:=z1X hu q;omega
 have hv:WP k w.reverse=WP k u.reverse:=by unfold rk at h;rw[hl]at h;omega
 have:=z85 (by simpa using hl) hw.rev hu.rev hv;simpa using congrArg List.reverse this
def z5G (k:Nat):∀n,WP k (List.replicate n 0)=0
 |0=>rfl
 |n+1=>by simp[mY,WP,z5G k n]
def z8D (hk:1<=k)  (hw:Wd k w):Wd k (z6m k w)/\rk k (z6m k w)=rk k w+1/\(z6m k w).length<=w.length+1:=by
 unfold z6m;cases e:z6D k w.reverse with
 |some r=>obtain⟨h1,h2,h3⟩:=z6B hw.rev e;rw[mB]at h1;refine⟨λi hi=>h2 i (by simpa using hi),?_,by simp[h1]⟩;simp only[rk,mB,List.reverse_reverse,h1,h3];omega
 |none=>have h:=z6C (by omega) hw.rev e;rw[mB]at h;refine⟨λi hi=>by have:=(List.mem_replicate.1 hi).2;omega,?_,by simp⟩;simp only[rk,mD,List.reverse_replicate,z5G,GG,<-h];omega
section
variable {m:z6}
def z2K (m:z6)(from_:Int)(l:TA)(is:List Bool)(r t:Nat):Prop :=
 (is[t]?=some true/\∃v:TC,l[t]?=some (v.map Int.ofNat)/\rk (kk m) v<r/\Wd (kk m) v/\v.length<m.i.length/\aft m from_ v=(t:Int)/\∀u,Wd (kk m) u->aft m from_ u=(t:Int)->rk (kk m) v<=rk (kk m) u) \/
 (is[t]?=some false/\l[t]?=some []/\∀u,Wd (kk m) u->rk (kk m) u<r->aft m from_ u≠(t:Int))
def z40 (h:VM m):∀(w:TC) (s:Int),z3n m s->Wd (kk m) w->z3n m (aft m s w)
 |[],s,hs,_=>hs
 |i::w,s,hs,hw=>z40 h w _ (zhJ h hs (hw i (by simp))) λj hj=>hw j (by simp[hj])
def zb0 (h:VM m)(hG:GG (kk m) m.i.length<=1000000000){from_:Int}(hf:z3n m from_) :
  Ret (VD m from_) λr=>r.1.length=m.i.length/\r.2.length=m.i.length/\∀t,t<m.i.length->z2K m from_ r.1 r.2 (GG (kk m) m.i.length) t:=by
 have l64:=h.y;have l1:=h.J;have hk:=h.kk_pos;have hk2:=h.kk_le;have hke:=h.kk_eq;unfold VD WD;rw[Yc,Yc];refine⟨by omega,by omega,?_⟩;rw[zm];refine Ret.mono ?_ λr hr=>z7.2 hr;refine zG (λq=>∃w:TC,q.2.2=w.map Int.ofNat/\Wd (kk m) w/\w.length<=m.i.length/\rk (kk m) w<=GG (kk m) m.i.length/\q.1.length=m.i.length/\q.2.1.length=m.i.length/\∀t,t<m.i.length->z2K m from_ q.1 q.2.1 (rk (kk m) w) t)
  (λq=>GG (kk m) m.i.length-rk (kk m) (q.2.2.map Int.toNat)) ⟨[],rfl,λi hi=>by simp at hi,by simp,by simp[rk,GG,WP],by simp,by simp,λt ht=>.inr ⟨by simp[ht],by simp[ht],λu _ hu=>by simp[rk,GG,WP]at hu⟩⟩ (by simp only;omega) ?_
 rintro⟨l,is,wi⟩ ⟨w,h1,hw,hwl,hwr,h2,h3,h4⟩;simp only at h1 h2 h3 h4;subst h1;have hback:∀w:TC,(w.map Int.ofNat).map Int.toNat=w:=λw=>by induction w with|nil=>rfl|cons a w ih=>simp only[gE,ih];rfl
 simp only[hback];unfold Jz;rw[zy];refine⟨λhc=>?_,λhc=>?_⟩
 ·have hlt:w.length<m.i.length:=by simpa using hc
  have hrk:rk (kk m) w<GG (kk m) m.i.length:=Nat.lt_of_lt_of_le (ze4 hw) (JY hlt);obtain⟨n1,n2,n3⟩:=z8D hk hw;have hnx:X4 (w.map Int.ofNat) m.j=some ((z6m (kk m) w).map Int.ofNat):=by rw[<-hke];exact z6l hk (by omega) hw (by omega)
  have fin:∀(l2:TA) (is2:List Bool),l2.length=m.i.length->is2.length=m.i.length->(∀t,t<m.i.length->z2K m from_ l2 is2 (rk (kk m) w+1) t) ->
    Ret (uD m (w.map Int.ofNat) l2 is2) (LRP (λs'=>(∃w:TC,s'.2.2=w.map Int.ofNat/\Wd (kk m) w/\w.length<=m.i.length/\rk (kk m) w<=GG (kk m) m.i.length/\s'.1.length=m.i.length/\s'.2.1.length=m.i.length/\∀t,t<m.i.length->z2K m from_ s'.1 s'.2.1 (rk (kk m) w) t)/\GG (kk m) m.i.length-rk (kk m) (s'.2.2.map Int.toNat)<GG (kk m) m.i.length-rk (kk m) w)
     λr=>r.1.length=m.i.length/\r.2.length=m.i.length/\∀t,t<m.i.length->z2K m from_ r.1 r.2 (GG (kk m) m.i.length) t):=by
   intro l2 is2 a1 a2 a3;unfold uD;rw[bdT hnx];refine z7.2 ⟨⟨_,rfl,n1,by omega,by omega,a1,a2,λt ht=>by rw[n2];exact a3 t ht⟩,?_⟩;rw[hback,n2];omega
  have hin:=z40 h w from_ hf hw;rw[bdT (z9i h hf w hw),zy];have stay:∀t,t<m.i.length->(aft m from_ w=(t:Int)->is[t]?=some true)->z2K m from_ l is (rk (kk m) w+1) t:=by
   intro t ht hn;rcases h4 t ht with⟨g1,v,g2,g3,g4⟩|⟨g1,g2,g3⟩
   ·exact .inl ⟨g1,v,g2,by omega,g4⟩
   refine .inr ⟨g1,g2,λu hu hr e=>?_⟩;rcases pD (rk (kk m) u) (rk (kk m) w) with q|q
   ·exact g3 u hu q e
   have:=z60 hu hw (by omega);subst this;rw[hn e]at g1;cases g1
  refine⟨λhc=>?_,λhc=>?_⟩
  ·have hs0:0<=aft m from_ w:=by simpa using hc
   obtain⟨s,hs⟩:=nD hs0;have hsN:s<m.i.length:=by have:=hin.2;omega
   rw[hs];rcases h4 s hsN with⟨g1,v,g2,g3⟩|⟨g1,g2,g3⟩
   ·rw[zM,bdT g1];simp only[gP,cond_false];refine fin l is h2 h3 λt ht=>stay t ht λe=>?_;have:t=s:=by omega
    subst this;exact g1
   rw[zM,bdT g1];simp only[mF,cond_true];rw[bdT g1,zM,bdT g2,ph];refine fin _ _ (by simpa using h2) (by simpa using h3) λt ht=>?_;by_cases e:t=s
   ·subst e;refine .inl ⟨by simp[h3,ht],w,by simp[h2,ht],by omega,hw,hlt,hs,λu hu he=>?_⟩;rcases pD (rk (kk m) u) (rk (kk m) w) with q|q
    ·exact(g3 u hu q he).elim
    exact q
   have:=stay t ht λe2=>by omega
   unfold z2K at this⊢;rw[gC (by omega),gC (by omega)];exact this
  have hs0:¬0<=aft m from_ w:=by simpa using hc
  exact fin l is h2 h3 λt ht=>stay t ht λe=>by omega
 have hlt:¬w.length<m.i.length:=by simpa using hc
 have hle:w.length=m.i.length:=by omega
 have hrk:rk (kk m) w=GG (kk m) m.i.length:=by
  have:GG (kk m) m.i.length<=rk (kk m) w:=by rw[<-hle];unfold rk;omega
  omega
 refine z7.2 ⟨h2,h3,λt ht=>?_⟩;rw[<-hrk];exact h4 t ht
end
def wB:TB->TB->Int
 |[],[]=>0
 |[],_::_=>-1
 |_::_,[]=>1
 |x::a,y::b=>if x<y then -1 else if y<x then 1 else wB a b
def uT (a b:TB):Int:=if a.length<b.length then -1 else if b.length<a.length then 1 else wB a b
def zbq:∀{a b:TB},wB a b=0->a=b
 |[],[],_=>rfl
 |[],_::_,h=>by simp[wB]at h
 |_::_,[],h=>by simp[wB]at h
 |x::a,y::b,h=>by
  simp only[wB]at h;split at h
  ·simp at h
  split at h
  ·simp at h
  rw[show x=y by omega,zbq h]
def z6u:∀a:TB,wB a a=0
 |[]=>rfl
 |x::a=>by simp[wB,z6u a]
def z8K:∀a b:TB,wB b a=- wB a b
 |[],[]=>rfl
 |[],_::_=>rfl
 |_::_,[]=>rfl
 |x::a,y::b=>by
  simp only[wB];split
  ·rw[if_neg (by omega)]
  split
  ·rfl
  exact z8K a b
def z3K:∀{a b c:TB},wB a b<0->wB b c<0->wB a c<0
 |[],[],_,h,_=>by simp[wB]at h
 |[],_::_,[],_,h=>by simp[wB]at h
 |[],_::_,_::_,_,_=>by simp[wB]
 |_::_,[],_,h,_=>by simp[wB]at h
 |_::_,_::_,[],_,h=>by simp[wB]at h
 |x::a,y::b,z::c,h1,h2=>by
  simp only[wB]at h1 h2⊢;by_cases e1:x<y
  ·by_cases e2:y<z
   ·rw[if_pos (by omega)];omega
   rw[if_neg e2]at h2;by_cases e3:z<y
   ·rw[if_pos e3]at h2;omega
   rw[if_pos (by omega)];omega
  rw[if_neg e1]at h1;by_cases e3:y<x
  ·rw[if_pos e3]at h1;omega
  rw[if_neg e3]at h1;have:x=y:=by omega
  subst this;by_cases e2:x<z
  ·rw[if_pos e2];omega
  rw[if_neg e2]at h2⊢;by_cases e4:z<x
  ·rw[if_pos e4]at h2;omega
  rw[if_neg e4]at h2⊢;exact z3K h1 h2
variable {a b:TB}
def Qy (h:uT a b=0):a=b:=by
 unfold uT at h;split at h
 ·simp at h
 split at h
 ·simp at h
 exact zbq h
def Ym (a:TB):uT a a=0:=by simp[uT,z6u]
def z95:uT a b=0↔a=b:=⟨Qy,λh=>h▸Ym a⟩
def z94 (a b:TB):uT b a=- uT a b:=by
 unfold uT;by_cases h1:a.length<b.length
 ·rw[if_pos h1,if_neg (by omega),if_pos h1];rfl
 by_cases h2:b.length<a.length
 ·rw[if_pos h2,if_neg h1,if_pos h2]
 rw[if_neg h1,if_neg h2,if_neg h2,if_neg h1,z8K]
def vS {a b c:TB}(h1:uT a b<0)(h2:uT b c<0):uT a c<0:=by
 unfold uT at *;by_cases e1:a.length<b.length
 ·by_cases e2:b.length<c.length
  ·rw[if_pos (by omega)];omega
  rw[if_neg e2]at h2;by_cases e3:c.length<b.length
  ·rw[if_pos e3]at h2;omega
  rw[if_pos (by omega)];omega
 rw[if_neg e1]at h1;by_cases e3:b.length<a.length
 ·rw[if_pos e3]at h1;omega
 rw[if_neg e3]at h1;have e:a.length=b.length:=by omega
 rw[e];by_cases e2:b.length<c.length
 ·rw[if_pos e2];omega
 rw[if_neg e2]at h2⊢;by_cases e4:c.length<b.length
 ·rw[if_pos e4]at h2;omega
 rw[if_neg e4]at h2⊢;exact z3K h1 h2
def QV (a:TB):¬uT a a<0:=by rw[Ym];omega
def zc2 (h:uT a b<0):¬uT b a<0:=by rw[z94 a b];omega
def z59:¬uT a b<0↔uT b a<0\/a=b:=by rw[<-z95,z94 a b];omega
def SW (l:TA):Prop:=l.Pairwise λa b=>uT a b<0
def SW.nil:SW []:=List.Pairwise.nil
variable {l:TA}{x:TB}
def SW.tail (h:SW (x::l)):SW l:=(mM.1 h).2
def SW.head (h:SW (x::l)):∀y∈l,uT x y<0:=(mM.1 h).1
def SW.unique:∀{l m:TA},SW l->SW m->(∀x,x∈l↔x∈m)->l=m
 |[],[],_,_,_=>rfl
 |[],y::m,_,_,h=>by have:=(h y).2 (by simp);simp at this
 |x::l,[],_,_,h=>by have:=(h x).1 (by simp);simp at this
 |x::l,y::m,h1,h2,h=>by
  have hxy:x=y:=by
   rcases pl.1 ((h x).1 (by simp)) with e|e
   ·exact e
   rcases pl.1 ((h y).2 (by simp)) with e'|e'
   ·exact e'.symm
   exact absurd (h2.head x e) (zc2 (h1.head y e'))
  subst hxy;rw[SW.unique h1.tail h2.tail λz=>?_];constructor
  ·intro hz;rcases pl.1 ((h z).1 (by simp[hz])) with e|e
   ·subst e;exact absurd (h1.head _ hz) (QV _)
   exact e
  intro hz;rcases pl.1 ((h z).2 (by simp[hz])) with e|e
  ·subst e;exact absurd (h2.head _ hz) (QV _)
  exact e
def SW.sub {l m:TA}(h:SW l)(hs:List.Sublist m l):SW m:=nW hs h
def SW.filter (h:SW l)(p:TB->Bool):SW (l.filter p):=h.sub List.filter_sublist
def SW.nodup (h:SW l):l.Nodup:=List.Pairwise.imp (λ{a b} q e=>by subst e;exact QV _ q) h
def z3i (w:TB):TA->TA
 |[]=>[w]
 |x::l=>if uT x w<0 then x::z3i w l else if uT x w=0 then x::l else w::x::l
def KA {w x:TB}:∀{l:TA},x∈z3i w l↔x=w\/x∈l
 |[]=>by simp[z3i]
 |y::l=>by
  simp only[z3i];split
  ·simp only[pl,KA];constructor
   ·rintro(h|h|h)<;>simp[h]
   rintro(h|h|h)<;>simp[h]
  split
  ·rename_i h1 h2;have:=Qy h2;subst this;simp
  simp
def SW.put {w:TB}:∀{l:TA},SW l->SW (z3i w l)
 |[],_=>by simp[z3i,SW]
 |y::l,h=>by
  simp only[z3i];split
  ·rename_i h1;refine mM.2 ⟨λz hz=>?_,SW.put h.tail⟩;rcases KA.1 hz with rfl|hz
   ·exact h1
   exact h.head z hz
  split
  ·exact h
  rename_i h1 h2;have hw:uT w y<0:=by
   rcases z59.1 h1 with q|q
   ·exact q
   exact absurd (z95.2 q) h2
  refine mM.2 ⟨λz hz=>?_,h⟩;rcases pl.1 hz with rfl|hz
  ·exact hw
  exact vS hw (h.head z hz)
def z8v (w:TB):∀l,(z3i w l).length<=l.length+1
 |[]=>by simp[z3i]
 |y::l=>by
  simp only[z3i];split
  ·have:=z8v w l;simp;omega
  split<;>simp
def srt (l:TA):TA:=l.foldl (λm w=>z3i w m) []
def z7l:∀(l m:TA),SW m->SW (l.foldl (λm w=>z3i w m) m)/\∀x,x∈l.foldl (λm w=>z3i w m) m↔x∈m\/x∈l
 |[],m,h=>⟨h,by simp⟩
 |w::l,m,h=>by
  obtain⟨h1,h2⟩:=z7l l (z3i w m) h.put;refine⟨h1,λx=>?_⟩;rw[nU,h2,KA];simp only[pl];constructor
  ·rintro((h|h)|h)<;>simp[h]
  rintro(h|h|h)<;>simp[h]
def jA (l:TA):SW (srt l):=(z7l l [] .nil).1
def zS:x∈srt l↔x∈l:=by rw[srt,(z7l l [] .nil).2];simp
def zah {l m:TA}(h:SW m)(hm:∀x,x∈m↔x∈l):m=srt l:=h.unique (jA l) λx=>by rw[hm,zS]
def Ke (h:SW l):srt l=l:=(zah h λ_=>.rfl).symm
def Kf {l m:TA}(h:∀x,x∈l↔x∈m):srt l=srt m:=zah (jA l) λx=>by rw[zS,h]
def z8h (l:TA)(w:TB):srt (l++[w])=z3i w (srt l):=by simp[srt]
def Ws (l:TA):(srt l).length<=l.length:=by
 have:∀(l m:TA),(l.foldl (λm w=>z3i w m) m).length<=m.length+l.length:=by
  intro l;induction l with
  |nil=>intro m;simp
  |cons w l ih=>intro m;have:=ih (z3i w m);have:=z8v w m;simp only[nU,gv];omega
 have q:=this l [];simp only[List.length_nil,gF]at q;exact q
def zr {l:List α}{i:Nat}{x:α}(h:l[i]?=some x):idx l (i:Int)=some x:=h
def zbK (b:TB)(g:Nat->Int->Option Int)(hg:∀i x y,b[i]?=some y->g i x=if x<y then some (-1) else if y<x then some 1 else none) :
  ∀(a:TB) (k:Nat),k+a.length=b.length->(y9 g a k).getD 0=wB a (b.drop k)
 |[],k,h=>by have:b.drop k=[]:=mC (by simp at h;omega);rw[this];rfl
 |x::a,k,h=>by
  simp only[gv]at h;have hk:k<b.length:=by omega
  rw[mA hk];simp only[y9,wB,hg k x b[k] (pe hk)];by_cases h1:x<b[k]
  ·simp[h1]
  by_cases h2:b[k]<x
  ·simp[h1,h2]
  simp only[h1,h2,if_false];exact zbK b g hg a (k+1) (by omega)
def Qx (a b:TB)(h:a.length=b.length->a.length<4611686018427387904):v8 a b=some (uT a b):=by
 unfold v8;by_cases hl:a.length=b.length
 ·have h':=h hl;simp only[hl,bne_self_eq_false,cond_false];rw[bdT (wn a h' (λi x=>match b[i]? with|some y=>if x<y then some (-1:Int) else if y<x then some 1 else none|none=>none) ?_ ?_)]
  ·have q:=zbK b (λi x=>match b[i]? with|some y=>if x<y then some (-1:Int) else if y<x then some 1 else none|none=>none) (λi x y hy=>by simp only[hy]) a 0 (by omega);rw[List.drop_zero]at q;have hc:uT a b=wB a b:=by unfold uT;rw[if_neg (by omega),if_neg (by omega)]
   rw[hc,<-q];cases y9 (λi x=>match b[i]? with|some y=>if x<y then some (-1:Int) else if y<x then some 1 else none|none=>none) a 0<;>rfl
  ·intro i x hx;have hi:i<a.length:=(pf.1 hx).1;have hy:b[i]?=some b[i]:=pe (by omega);unfold Ys;have hc:decide ((i:Int)<(a.length:Int))=true:=by simpa using hi
   simp only[hc,cond_true,zr hx,zr hy,hy,oB];by_cases h1:x<b[i]
   ·simp[h1,nS]
   by_cases h2:b[i]<x
   ·simp[h1,h2,nS]
   simp[h1,h2,nS]
  unfold Ys;simp
 have h1:(((a.length:Nat):Int) !=((b.length:Nat):Int))=true:=by simp;omega
 simp only[h1,cond_true];unfold uT;by_cases h2:a.length<b.length
 ·simp[h2]
 have h3:b.length<a.length:=by omega
 simp[h2,h3]
def cI (x y:Int):Int:=if x<y then -1 else if y<x then 1 else 0
def zc1 (x y:Int):qE x y=some (cI x y):=by
 unfold qE YW cI;simp only[bne_self_eq_false,oB,cond_false];by_cases h1:x<y
 ·simp[h1]
 by_cases h2:y<x
 ·simp[h1,h2]
 simp[h1,h2]
def zhm (a b:TB)(h:a.length<4611686018427387904):∃c,wO a b=some c/\(a.length=b.length->c=wB a b):=by
 unfold wO;have hloop:=wn a h (step:=λs=>xS a b s) (λi x=>match b[i]? with|some y=>if x<y then some (-1:Int) else if y<x then some 1 else none|none=>some 1) (by
  intro i x hx;have hi:i<a.length:=(pf.1 hx).1;unfold xS;have hc:decide ((i:Int)<(a.length:Int))=true:=by simpa using hi
  simp only[hc,cond_true,zr hx,oB];by_cases hb:i<b.length
  ·have hy:b[i]?=some b[i]:=pe hb;have hd:decide ((i:Int)>=(b.length:Int))=false:=by simp;omega
   simp only[hd,cond_false,zr hy,hy,oB,zc1];unfold cI;by_cases h1:x<b[i]
   ·simp[h1,nS]
   by_cases h2:b[i]<x
   ·simp[h1,h2,nS]
   simp[h1,h2,nS]
  have hy:b[i]?=none:=pJ (by omega);have hd:decide ((i:Int)>=(b.length:Int))=true:=by simp;omega
  simp only[hd,cond_true,hy,nS]) (by unfold xS;simp)
 rw[bdT hloop];have q:=λhl=>zbK b (λi x=>match b[i]? with|some y=>if x<y then some (-1:Int) else if y<x then some 1 else none|none=>some 1) (λi x y hy=>by simp only[hy]) a 0 hl;cases hf:y9 (λi x=>match b[i]? with|some y=>if x<y then some (-1:Int) else if y<x then some 1 else none|none=>some 1) a 0 with
 |some r=>refine⟨r,rfl,λhl=>?_⟩;have:=q (by omega);rw[hf]at this;simpa using this
 |none=>
  unfold vn;by_cases hl:a.length<b.length
  ·refine⟨-1,by simp[oS,hl],λhl2=>by omega⟩
  refine⟨0,by simp[oS,hl],λhl2=>?_⟩;have:=q (by omega);rw[hf]at this;simpa using this
def zpx (x y:Int):QU [x,y]=some (if x=0 then y else x):=by
 unfold QU;rw[bdT (wn [x,y] (by simp) (step:=λs=>YX [x,y] s) (λi v=>if v≠0 then some v else none) ?_ ?_)]
 ·by_cases h1:x=0
  ·by_cases h2:y=0
   ·simp[y9,h1,h2,oS,VW]
   simp[y9,h1,h2,oS]
  simp[y9,h1,oS]
 ·intro i v hv;have hi:i<[x,y].length:=(pf.1 hv).1;unfold YX;have hc:decide ((i:Int)<(([x,y]:TB).length:Int))=true:=by simp only[decide_eq_true_eq];omega
  simp only[hc,cond_true,zr hv,oB];by_cases h:v=0
  ·simp[h,nS]
  have hb:(v !=0)=true:=by simpa using h
  simp[h,hb,nS]
 unfold YX;simp
def Vi (a b:TB)(h:a.length<4611686018427387904):yI a b=some (uT a b):=by
 unfold yI;obtain⟨c,hc,hl⟩:=zhm a b h;rw[zc1,hc];simp only[oB,zpx];unfold cI uT;by_cases h1:a.length<b.length
 ·simp[h1]
 by_cases h2:b.length<a.length
 ·simp[h1,h2]
 simp[h1,h2,hl (by omega)]
def wE (n:Int)(w:TB):Int:=if 256<w.length then 3 else if w.any (λc=>decide (c<0) || decide (n<=c)) then 1 else 0
variable {n:Int}
def z7e {w:TB}:wE n w=0↔w.length<=256/\∀c∈w,0<=c/\c<n:=by
 unfold wE;by_cases h:256<w.length
 ·rw[if_pos h];exact⟨λq=>by simp at q,λq=>by omega⟩
 rw[if_neg h];by_cases h2:w.any (λc=>decide (c<0) || decide (n<=c))=true
 ·rw[if_pos h2];simp only[rr,gY,decide_eq_true_eq]at h2;obtain⟨c,h3,h4⟩:=h2;refine⟨λq=>by simp at q,λq=>?_⟩;have:=q.2 c h3;omega
 rw[if_neg h2];simp only[rr,gY,decide_eq_true_eq,not_exists,not_and,not_or]at h2;refine⟨λ_=>⟨by omega,λc hc=>?_⟩,λ_=>rfl⟩;have:=h2 c hc;omega
variable {ρ:Type}
def zgd (p:Int->Bool)(g:Nat->Int->Option ρ)(hg:∀i x,(g i x).isSome=p x):∀(w:TB) (k:Nat),(y9 g w k).isSome=w.any p
 |[],k=>rfl
 |x::w,k=>by
  simp only[y9,List.any_cons];have:=hg k x;cases hx:g k x with
  |some r=>rw[hx]at this;simp at this;simp[<-this]
  |none=>rw[hx]at this;simp at this;rw[this,nF];exact zgd p g hg w (k+1)
def z5F (n:Int)(w:TB):jS w n=some (if 16<n then 3 else if 256<w.length then 3 else if n<1 then 1 else wE n w):=by
 unfold jS;by_cases h0:16<n
 ·simp[h0]
 by_cases h:256<w.length
 ·have h':(256:Int)<(w.length:Int):=by omega
  simp[h0,h,h']
 by_cases h1:n<1
 ·have h':¬(256:Int)<(w.length:Int):=by omega
  simp[h0,h,h',h1]
 have hd:decide (((w.length:Nat):Int)>256)=false:=by simp;omega
 have hd0:decide (n>16)=false:=by simp;omega
 have hd1:decide (n<1)=false:=by simp;omega
 simp only[hd,hd0,hd1,cond_false,if_neg h,if_neg h0,if_neg h1];unfold wL vH wE;have hl:=wn w (by omega) (step:=λs=>xw w n s) (λi c=>if c<0\/n<=c then some (i:Int) else none) (by
  intro i c hc;have hi:i<w.length:=(pf.1 hc).1;unfold xw Vk;have hq:decide ((i:Int)<(w.length:Int))=true:=by simpa using hi
  simp only[hq,cond_true,zr hc,oB];by_cases h1:c<0
  ·simp[h1,nS]
  by_cases h2:n<=c
  ·simp[h1,h2,nS]
  simp[h1,h2,nS]) (by unfold xw;simp)
 rw[bdT hl,if_neg h];have q:=zgd (λc=>decide (c<0) || decide (n<=c)) (λi c=>if c<0\/n<=c then some (i:Int) else none) (λi c=>by by_cases h:c<0\/n<=c<;>simp[h]<;>simpa using h) w 0;cases hf:y9 (λi c=>if c<0\/n<=c then some (i:Int) else none) w 0 with
 |none=>rw[hf]at q;rw[<-q];rfl
 |some r=>
  rw[hf]at q;obtain⟨i,x,h1,h2⟩:=uk hf;rw[<-q];split at h2
  ·cases h2;simp[oS]
  cases h2
def eS (e:Int):Option Int:=if e=0 then none else some e
def loE (n:Int)(l:TA):Int:=if 16<n then 3 else if 4096<l.length then 3 else if n<1 then 1 else(y9 (λ_ w=>eS (wE n w)) l 0).getD 0
def z8Z:∀{l:TA} {k:Nat},(y9 (λ_ w=>eS (wE n w)) l k).getD 0=0↔∀w∈l,wE n w=0
 |[],_=>by simp[y9]
 |w::l,k=>by
  by_cases h:wE n w=0
  ·have:eS (wE n w)=none:=by simp[eS,h]
   simp only[y9,this];rw[z8Z];simp[h]
  have:eS (wE n w)=some (wE n w):=by simp[eS,h]
  simp[y9,this,h]
def KD:loE n l=0↔(1<=n/\n<=16)/\l.length<=4096/\∀w∈l,w.length<=256/\∀c∈w,0<=c/\c<n:=by
 unfold loE;by_cases h0:16<n
 ·rw[if_pos h0];exact⟨λq=>by simp at q,λq=>by omega⟩
 by_cases h1:4096<l.length
 ·rw[if_neg h0,if_pos h1];exact⟨λq=>by simp at q,λq=>by omega⟩
 by_cases h2:n<1
 ·rw[if_neg h0,if_neg h1,if_pos h2];exact⟨λq=>by simp at q,λq=>by omega⟩
 rw[if_neg h0,if_neg h1,if_neg h2,z8Z];constructor
 ·intro q;exact⟨by omega,by omega,λw hw=>z7e.1 (q w hw)⟩
 intro q w hw;exact z7e.2 (q.2.2 w hw)
def z4V (l:TA)(n:Int):Xf l n=some (loE n l):=by
 unfold Xf loE;by_cases h0:16<n
 ·simp[h0]
 by_cases h1:4096<l.length
 ·have h':(4096:Int)<(l.length:Int):=by omega
  simp[h0,h1,h']
 by_cases h2:n<1
 ·have h':¬(4096:Int)<(l.length:Int):=by omega
  simp[h0,h1,h2,h']
 have d0:decide (n>16)=false:=by simp;omega
 have d1:decide (((l.length:Nat):Int)>4096)=false:=by simp;omega
 have d2:decide (n<1)=false:=by simp;omega
 simp only[d0,d1,d2,cond_false,if_neg h0,if_neg h1,if_neg h2];rw[bdT (wn l (by omega) (step:=λs=>ZP l n s) (λ_ w=>eS (wE n w)) ?_ ?_)]
 ·cases y9 (λ_ w=>eS (wE n w)) l 0<;>rfl
 ·intro i w hw;have hi:i<l.length:=(pf.1 hw).1;have hq:decide ((i:Int)<(l.length:Int))=true:=by simpa using hi
  have he:jS w n=some (wE n w):=by
   rw[z5F,if_neg h0,if_neg h2];by_cases h:256<w.length
   ·rw[if_pos h];unfold wE;rw[if_pos h]
   rw[if_neg h]
  unfold ZP;simp only[hq,cond_true,zr hw,oB,he];by_cases hz:wE n w=0
  ·simp[hz,eS,nS]
  have hb:(wE n w !=0)=true:=by simpa using hz
  simp[hz,hb,eS,nS]
 unfold ZP;simp
def zeu (l:TA)(hl:l.length<4611686018427387904){step:Int×Int->Option (LR (Int×Int) Int)}
  (h:∀(n:Int) (i:Nat) (x:TB),l[i]?=some x->step (n,(i:Int))=some (.next (w64 (n+((x.length:Nat):Int)),w64 ((i:Int)+1)))) (h2:∀n,step (n,(l.length:Int))=some (.done n)) :
  loop step (0,0)=some (l.foldl (λn x=>w64 (n+((x.length:Nat):Int))) 0):=by
 have gen:∀(m k:Nat) (n:Int),k<=l.length->l.length-k<m->KB step m (n,(k:Int))=some ((l.drop k).foldl (λn x=>w64 (n+((x.length:Nat):Int))) n):=by
  intro m;induction m with
  |zero=>intro k n _ h;omega
  |succ m ih=>
   intro k n hk hn;rw[X6];rcases pD k l.length with hlt|hge
   ·have hx:l[k]?=some l[k]:=pe hlt;rw[h n k _ hx,mA hlt];simp only[nU];rw[zA (x:=(k:Int)+1) (by omega) (by omega)];exact ih (k+1) _ hlt (by omega)
   have:k=l.length:=by omega
   subst this;rw[h2,List.drop_length];rfl
 exact gen Ur 0 0 (pM _) (by show l.length-0<18446744073709551616;omega)
def stW (l:TA):Int:=l.foldl (λn x=>w64 (n+((x.length:Nat):Int))) 0
def z8d (l:TA)(hl:l.length<4611686018427387904):Xd l=some (stW l):=by
 unfold Xd;rw[bdT (zeu l hl (step:=λs=>ZO l s.1 s.2) ?_ ?_)]
 ·rfl
 ·intro n i x hx;have hi:i<l.length:=(pf.1 hx).1;have hq:decide ((i:Int)<(l.length:Int))=true:=by simpa using hi
  unfold ZO;simp only[hq,cond_true,zr hx,oB]
 intro n;unfold ZO;simp
def jZ (l:TA):Nat:=(l.map List.length).sum
def zfE (h:jZ l<4611686018427387904):stW l=(jZ l:Int):=by
 have gen:∀(l:TA) (n:Nat),n+jZ l<4611686018427387904->l.foldl (λn x=>w64 (n+((x.length:Nat):Int))) (n:Int)=((n+jZ l:Nat):Int):=by
  intro l;induction l with
  |nil=>intro n _;simp[jZ]
  |cons x l ih=>
   intro n hn;have hs:jZ (x::l)=x.length+jZ l:=by simp[jZ]
   rw[hs]at hn⊢;rw[nU,zA (by omega) (by omega),<-Int.natCast_add,ih (n+x.length) (by omega)];congr 1;omega
 have:=gen l 0 (by omega);simpa[stW] using this
def z4u {m:Nat}(h:∀w∈l,w.length<=m):jZ l<=l.length*m:=by
 induction l with
 |nil=>simp[jZ]
 |cons x l ih=>
  have hs:jZ (x::l)=x.length+jZ l:=by simp[jZ]
  have h1:=h x (by simp);have h2:=ih λw hw=>h w (by simp[hw]);rw[hs,gv,gR];omega
def z8b:∀{l:TA},SW l↔∀i x y,l[i]?=some x->l[i+1]?=some y->uT x y<0
 |[]=>by simp[SW]
 |[x]=>⟨λ_ i a b _ h2=>by simp at h2,λ_=>by simp[SW]⟩
 |x::y::l=>by
  constructor
  ·intro h i a b h1 h2;cases i with
   |zero=>simp at h1 h2;subst h1;subst h2;exact h.head y (by simp)
   |succ i=>exact z8b.1 h.tail i a b (by simpa using h1) (by simpa using h2)
  intro h;have ht:SW (y::l):=z8b.2 λi a b h1 h2=>h (i+1) a b (by simpa using h1) (by simpa using h2);have h0:=h 0 x y rfl rfl;refine mM.2 ⟨λz hz=>?_,ht⟩;rcases pl.1 hz with rfl|hz
  ·exact h0
  exact vS h0 (ht.head z hz)
def z9F {α ρ:Type}(l:List α)(hl:l.length<4611686018427387904){step:Int->Option (LR Int (Unit⊕ρ))}(f:Nat->α->Option ρ)
  (h:∀(i:Nat) (x:α),1<=i->l[i]?=some x->step (i:Int)=some (nS i (f i x))) (h2:∀k:Nat,l.length<=k->step (k:Int)=some (.done (.inl ()))) :
  loop step 1=some (oS (y9 f (l.drop 1) 1)):=by
 have gen:∀(n:Nat) (k:Nat),1<=k->l.length-k<n->KB step n (k:Int)=some (oS (y9 f (l.drop k) k)):=by
  intro n;induction n with
  |zero=>intro k _ h;omega
  |succ n ih=>
   intro k hk hn;rw[X6];rcases pD k l.length with hlt|hge
   ·have hx:l[k]?=some l[k]:=pe hlt;rw[h k _ hk hx,mA hlt];simp only[y9];cases hf:f k l[k] with
    |some r=>rfl
    |none=>simp only[nS];rw[zA (by omega) (by omega)];exact ih (k+1) (by omega) (by omega)
   rw[h2 k hge,mC hge];rfl
 exact gen Ur 1 (pi _) (by show l.length-1<18446744073709551616;omega)
instance (l:TA):Decidable (SW l):=by unfold SW;infer_instance
def zeR (l:TA)(r:ρ):y9 (λi x=>match l[i-1]? with|some y=>if 0<=uT y x then some r else none|none=>none) (l.drop 1) 1=if SW l then none else some r:=by
 by_cases hs:SW l
 ·rw[if_pos hs];refine VR λi x hx=>?_;rw[mG]at hx;have hi:1+i<l.length:=(pf.1 hx).1;have hy:l[1+i - 1]?=some l[i]:=by rw[show 1+i - 1=i by omega];exact pe (by omega)
  rw[hy];have:=z8b.1 hs i l[i] x (pe (by omega)) (by rw[rZ];exact hx);simp only;rw[if_neg (by omega)]
 rw[if_neg hs];cases hf:y9 (λi x=>match l[i-1]? with|some y=>if 0<=uT y x then some r else none|none=>none) (l.drop 1) 1 with
 |some r'=>
  obtain⟨i,x,h1,h2⟩:=uk hf;split at h2
  ·split at h2
   ·exact h2.symm
   cases h2
  cases h2
 |none=>
  exfalso;refine hs (z8b.2 λi x y hx hy=>?_);have:=ul hf i y (by rw[mG,rZ];exact hy);rw[show 1+i-1=i by omega,hx]at this;simp only at this;split at this
  ·cases this
  omega
def zft (l:TA)(h:l.length<=4096)(hw:∀w∈l,w.length<4611686018427387904):Vp l=some (decide (SW l)):=by
 unfold Vp;rw[bdT (z9F l (by omega) (step:=λs=>ZQ l s) (λi x=>match l[i-1]? with|some y=>if 0<=uT y x then some false else none|none=>none) ?_ ?_),zeR]
 ·by_cases hs:SW l
  ·simp[hs,oS,Wr]
  simp[hs,oS]
 ·intro i x hi hx;have hil:i<l.length:=(pf.1 hx).1;have hy:l[i - 1]?=some l[i - 1]:=pe (by omega);have hq:decide ((i:Int)<(l.length:Int))=true:=by simpa using hil
  unfold ZQ;rw[zA (x:=(i:Int)-1) (by omega) (by omega),show((i:Int)-1)=((i-1:Nat):Int) by omega];have hE:=Vi l[i-1] x (hw _ (pC (by omega)));simp only[hq,cond_true,zr hx,zr hy,oB,hy,hE];by_cases hc:0<=uT l[i-1] x
  ·simp[hc,nS]
  simp[hc,nS]
 intro k hk;unfold ZQ;have:decide ((k:Int)<(l.length:Int))=false:=by simp;omega
 simp only[this,cond_false]
def chE (n:Int)(l:TA):Int:=if loE n l≠0 then loE n l else if SW l then(if 65536<jZ l then 3 else 0) else 1
def z97:chE n l=0↔loE n l=0/\SW l/\jZ l<=65536:=by
 unfold chE;by_cases h:loE n l=0
 ·rw[if_neg (by simp[h])];by_cases h2:SW l
  ·rw[if_pos h2];by_cases h3:65536<jZ l
   ·rw[if_pos h3];exact⟨λq=>by simp at q,λq=>by omega⟩
   rw[if_neg h3];exact⟨λ_=>⟨h,h2,by omega⟩,λ_=>rfl⟩
  rw[if_neg h2];exact⟨λq=>by simp at q,λq=>absurd q.2.1 h2⟩
 rw[if_pos h];exact⟨λq=>absurd q h,λq=>absurd q.1 h⟩
def z6q (h:loE n l=0):l.length<=4096/\(∀w∈l,w.length<=256)/\jZ l<=1048576:=by obtain⟨_,h1,h2⟩:=KD.1 h;refine⟨h1,λw hw=>(h2 w hw).1,?_⟩;have:=z4u (m:=256) λw hw=>(h2 w hw).1;omega
def z5K (l:TA)(n:Int):Xh l n=some (chE n l):=by
 unfold Xh chE;rw[z4V];simp only[oB];by_cases h:loE n l=0
 ·obtain⟨h1,h2,h3⟩:=z6q h;rw[zft l h1 λw hw=>by have:=h2 w hw;omega,z8d l (by omega),zfE (by omega)];simp only[h,bne_self_eq_false,cond_false,oB,ne_eq,not_true,if_false];by_cases hs:SW l
  ·by_cases hq:65536<jZ l
   ·have:(65536:Int)<(jZ l:Int):=by omega
    simp[hs,hq,this]
   have:¬(65536:Int)<(jZ l:Int):=by omega
   simp[hs,hq,this]
  simp[hs]
 have hb:(loE n l !=0)=true:=by simpa using h
 simp[h,hb]
def z1a (x:zz α)(i:Nat)(v:α):(zz.setI x (i:Int) v).toL=x.toL.set i v:=by unfold zz.setI;rw[zz.toL_ofL _ _ (by simp[zz.toL]),ph]
def zgy {x y:zz α}(h:x.toL=y.toL):x=y:=by cases x;cases y;simp only[zz.toL,List.cons.injEq,and_true]at h;simp only[zz.mk.injEq];exact h
instance:LawfulBEq (zz (qY Int)):={
 eq_of_beq:=by
  intro a b h;cases a;cases b;simp only[BEq.beq,pB,decide_eq_true_eq]at h;simp only[zz.mk.injEq];obtain⟨⟨⟨⟨⟨⟨⟨⟨⟨⟨⟨⟨⟨⟨⟨h0,h1⟩,h2⟩,h3⟩,h4⟩,h5⟩,h6⟩,h7⟩,h8⟩,h9⟩,h10⟩,h11⟩,h12⟩,h13⟩,h14⟩,h15⟩:=h;have e:∀{p q:qY Int},(p.e0=q.e0/\p.e1=q.e1)->p=q:=by rintro⟨a0,a1⟩ ⟨b0,b1⟩ ⟨rfl,rfl⟩;rfl
  exact⟨e h0,e h1,e h2,e h3,e h4,e h5,e h6,e h7,e h8,e h9,e h10,e h11,e h12,e h13,e h14,e h15⟩
 rfl:=by intro a;cases a;simp[BEq.beq] }
instance:LawfulBEq zK:={
 eq_of_beq:=by intro a b h;have h:(a.L==b.L&&a.z==b.z)=true:=h;rw[pB,beq_iff_eq,beq_iff_eq]at h;obtain⟨a0,a1⟩:=a;obtain⟨b0,b1⟩:=b;obtain⟨h0,h1⟩:=h;have h0:a0=b0:=h0;have h1:a1=b1:=h1;rw[h0,h1]
 rfl:=by intro a;show(a.L==a.L&&a.z==a.z)=true;rw[beq_self_eq_true,beq_self_eq_true];rfl }
def sgN (m:z6)(p:TB)(s j:Nat):qY Int:=if j<kk m then⟨(E m s j).r,if(E m s j).o=-1 then -1 else(p[(E m s j).o.toNat]?).getD 0⟩ else⟨0,0⟩
def zaM (f g:Nat->α){n i:Nat}(v:α)(h:∀j,j<n->g j=if j=i then v else f j):((List.range n).map f).set i v=(List.range n).map g:=by
 apply gN;intro j;by_cases hj:j<n
 ·have e1:((List.range n).map g)[j]?=some (g j):=by simp[hj]
  have e2:((List.range n).map f)[j]?=some (f j):=by simp[hj]
  rw[e1,h j hj];by_cases e:j=i
  ·subst e;rw[gM (by simpa using hj),if_pos rfl]
  rw[gC (λq=>e q.symm),e2,if_neg e]
 rw[pJ (by simp;omega),pJ (by simp;omega)]
variable {p:TB}
section
variable {m:z6}(h:VM m)
include h
theorem zdM (hp:p.length=m.i.length){s:Nat}(hs:s<m.i.length):Ret (ki m p (s:Int)) λa=>a.toL=(List.range 16).map (sgN m p s):=by
 obtain⟨r,r1,r2,r3⟩:=h.rowAt hs;have hk:=h.kk_le;unfold ki Xn;rw[bdT (zr r1),zm];refine Ret.mono ?_ λa ha=>z7.2 ha;refine zG (λst=>∃i:Nat,st.2=(i:Int)/\i<=kk m/\st.1.toL=(List.range 16).map λj=>if j<i then sgN m p s j else⟨0,0⟩) (λst=>20-st.2.toNat) ⟨0,rfl,by omega,by simp[zz.toL,nV]⟩ (by show 20-_<_;omega) ?_;rintro⟨a,_⟩ ⟨i,rfl,hi,ha⟩;simp only at ha;show Ret (Xm p r a (i:Int)) _;unfold Xm kQ;rw[zy];refine⟨λhc=>?_,λhc=>?_⟩
 ·have hc:(i:Int)<((r.length:Nat):Int):=of_decide_eq_true hc;have hik:i<kk m:=by omega
  have e1:a.toL[i]?=some ⟨0,0⟩:=by rw[ha];simp[show i<16 by omega]
  have w2:w64 ((i:Int)+1)=((i+1:Nat):Int):=by rw[zA (by omega) (by omega)];rfl
  have hed:=h.edgeAt hs hik;have step:∀v:qY Int,sgN m p s i=v->∀b:zz (qY Int),b.toL=((List.range 16).map λj=>if j<i then sgN m p s j else⟨0,0⟩).set i v->b.toL=(List.range 16).map λj=>if j<i+1 then sgN m p s j else⟨0,0⟩:=by
   intro v hv b hb;rw[hb];refine zaM _ _ v λj hj=>?_;by_cases e:j=i
   ·subst e;rw[if_pos (by omega),if_pos rfl,hv]
   rw[if_neg e];by_cases e2:j<i
   ·rw[if_pos e2,if_pos (by omega)]
   rw[if_neg e2,if_neg (by omega)]
  rw[bdT (zr (r3 i hik)),bdT (zr e1),oB,zy];refine⟨λht=>?_,λht=>?_⟩
  ·have ht:(E m s i).o≠-1:=by simpa using ht
   obtain⟨t,htn⟩:∃t:Nat,(E m s i).o=t:=⟨(E m s i).o.toNat,by omega⟩;have hpt:p[t]?=some p[t]:=pe (by omega);have e2:(zz.setI a (i:Int) ⟨(E m s i).r,-1⟩).toL[i]?=some ⟨(E m s i).r,-1⟩:=by rw[z1a,gM (by rw[ha];simp;omega)]
   rw[htn,bdT (zr hpt),bdT (zr e2),oB,z7,w2];refine⟨⟨i+1,rfl,by omega,step _ ?_ _ (by rw[z1a,z1a,ha,List.set_set])⟩,by simp only[ph];omega⟩;unfold sgN;rw[if_pos hik,if_neg ht,htn,ph,hpt,pW]
  have ht:(E m s i).o=-1:=by simpa using ht
  rw[z7,w2];refine⟨⟨i+1,rfl,by omega,step _ ?_ _ (by rw[z1a,ha])⟩,by simp only[ph];omega⟩;unfold sgN;rw[if_pos hik,if_pos ht]
 have hc:=of_decide_eq_false hc;have:i=kk m:=by omega
 subst this;refine z7.2 ?_;show a.toL=_;rw[ha];refine ny λj hj=>?_;unfold sgN;by_cases e:j<kk m
 ·rw[if_pos e,if_pos e]
 rw[if_neg e,if_neg e]
end
def Rgf (l:TB):Prop:=∀(s:Nat) (x:Int),l[s]?=some x->∃v:Nat,x=(v:Int)/\∀w:Nat,w<v->∃t,t<s/\l[t]?=some (w:Int)
def z8q {l r:TB}(hl:Rgf l)(hr:Rgf r)(hlen:l.length=r.length)(h:∀s t:Nat,s<l.length->t<l.length->(l[s]?=l[t]?↔r[s]?=r[t]?)):l=r:=by
 have gen:∀n s,s<n->s<l.length->l[s]?=r[s]?:=by
  intro n;induction n with
  |zero=>intro s q;omega
  |succ n ih=>
   intro s hs hsl;have hx:l[s]?=some l[s]:=pe hsl;have hy:r[s]?=some r[s]:=pe (by omega);by_cases old:∃t,t<s/\l[t]?=l[s]?
   ·obtain⟨t,t1,t2⟩:=old;rw[<-t2,ih t (by omega) (by omega)];exact(h t s (by omega) hsl).1 t2
   obtain⟨v,v1,v2⟩:=hl s _ hx;obtain⟨u,u1,u2⟩:=hr s _ hy;rw[hx,hy,v1,u1];rcases mT v u with q|q|q
   ·exfalso;obtain⟨t,t1,t2⟩:=u2 v q;exact old ⟨t,t1,by rw[ih t (by omega) (by omega),t2,hx,v1]⟩
   ·rw[q]
   exfalso;obtain⟨t,t1,t2⟩:=v2 u q;have:r[t]?=r[s]?:=by rw[<-ih t (by omega) (by omega),t2,hy,u1]
   exact old ⟨t,t1,(h t s (by omega) hsl).2 this⟩
 apply gN;intro s;by_cases hs:s<l.length
 ·exact gen (s+1) s (by omega) hs
 rw[pJ (by omega),pJ (by omega)]
def z8F {K V:Type}[BEq K](x:K)(v:V):∀l:List (K×V),Vj l x=none->(z2h l x v).length=l.length+1
 |[],_=>rfl
 |p::l,hg=>by
  simp only[Vj]at hg;split at hg
  ·cases hg
  rename_i q;simp only[z2h,q];show((p::z2h l x v).length)=_;rw[gv,z8F x v l hg,gv]
section
variable {m:z6}(h:VM m)
include h
def zfz (m:z6)(p:TB)(s t:Nat):Prop:=p[s]?=p[t]?/\∀j,j<kk m->sgN m p s j=sgN m p t j
theorem z7u (hp:p.length=m.i.length):Ret (kT m p) λq=>q.length=m.i.length/\Rgf q/\∀s t:Nat,s<m.i.length->t<m.i.length->(q[s]?=q[t]?↔zfz m p s t):=by
 have hN:=h.y;have hk:=h.kk_le;have hkey:∀s,s<m.i.length->∃key:zK,key.L=(p[s]?).getD 0/\key.z.toL=(List.range 16).map (sgN m p s)/\ki m p (s:Int)=some key.z:=by intro s hs;obtain⟨a,a1,a2⟩:=zdM h hp hs;exact⟨⟨(p[s]?).getD 0,a⟩,rfl,a2,a1⟩
 have:∃key:Nat->zK,∀s,s<m.i.length->(key s).L=(p[s]?).getD 0/\(key s).z.toL=(List.range 16).map (sgN m p s)/\ki m p (s:Int)=some (key s).z:=by
  classical
  refine⟨λs=>if q:s<m.i.length then(hkey s q).choose else⟨0,zz.mk ⟨0,0⟩ ⟨0,0⟩ ⟨0,0⟩ ⟨0,0⟩ ⟨0,0⟩ ⟨0,0⟩ ⟨0,0⟩ ⟨0,0⟩ ⟨0,0⟩ ⟨0,0⟩ ⟨0,0⟩ ⟨0,0⟩ ⟨0,0⟩ ⟨0,0⟩ ⟨0,0⟩ ⟨0,0⟩⟩,λs hs=>?_⟩;simp only[hs,dif_pos];exact(hkey s hs).choose_spec
 obtain⟨key,hkey⟩:=this;have alike:∀s t,s<m.i.length->t<m.i.length->(key s=key t↔zfz m p s t):=by
  intro s t hs ht;obtain⟨a1,a2,_⟩:=hkey s hs;obtain⟨b1,b2,_⟩:=hkey t ht;have xs:p[s]?=some p[s]:=pe (by omega);have xt:p[t]?=some p[t]:=pe (by omega);rw[xs,pW]at a1;rw[xt,pW]at b1;constructor
  ·intro e;refine⟨by rw[xs,xt,<-a1,<-b1,e],λj hj=>?_⟩;have e2:(List.range 16).map (sgN m p s)=(List.range 16).map (sgN m p t):=by rw[<-a2,<-b2,e]
   have:=congrArg (λl=>l[j]?) e2;simpa[show j<16 by omega] using this
  rintro⟨e1,e2⟩;have e3:(key s).z=(key t).z:=zgy (by
   rw[a2,b2];refine ny λj hj=>?_;by_cases q:j<kk m
   ·exact e2 j q
   unfold sgN;rw[if_neg q,if_neg q])
  have e4:(key s).L=(key t).L:=by rw[a1,b1];rw[xs,xt]at e1;exact Option.some.inj e1
  revert e3 e4;generalize key s=u;generalize key t=v;intro e3 e4;obtain⟨u0,u1⟩:=u;obtain⟨v0,v1⟩:=v;simp only at e3 e4;rw[e3,e4]
 unfold kT kS;rw[gdT (by omega),zm];refine Ret.mono ?_ λq hq=>z7.2 hq;refine zG (λst=>∃i:Nat,st.2.2=(i:Int)/\i<=m.i.length/\st.2.1.length=m.i.length/\(∀s,s<i->∃v:Nat,st.2.1[s]?=some (v:Int)/\v<st.1.length/\Vj st.1 (key s)=some (v:Int)/\∀w:Nat,w<v->∃t,t<s/\st.2.1[t]?=some (w:Int))/\(∀w:Nat,w<st.1.length->∃t,t<i/\st.2.1[t]?=some (w:Int)) /\
   (∀k v,Vj st.1 k=some v->∃t,t<i/\key t=k)/\∀s t:Nat,s<i->t<i->st.2.1[s]?=st.2.1[t]?->key s=key t) (λst=>100-st.2.2.toNat) ⟨0,rfl,by omega,by simp[hp],λs q=>by omega,λw q=>by simp at q,λk v q=>by simp[Vj]at q,λs t q=>by omega⟩ (by show 100-_<_;omega) ?_
 rintro⟨names,out,_⟩ ⟨i,rfl,hi,ho,h1,h2,h3,h4⟩;simp only at ho h1 h2 h3 h4;show Ret (kR m p names out (i:Int)) _;unfold kR;rw[zy];refine⟨λhc=>?_,λhc=>?_⟩
 ·have hc:(i:Int)<((p.length:Nat):Int):=of_decide_eq_true hc;have hiN:i<m.i.length:=by omega
  obtain⟨a1,a2,a3⟩:=hkey i hiN;have xi:p[i]?=some p[i]:=pe (by omega);rw[xi,pW]at a1;have hmk:zK.mk p[i] (key i).z=key i:=by rw[<-a1]
  have w2:w64 ((i:Int)+1)=((i+1:Nat):Int):=by rw[zA (by omega) (by omega)];rfl
  have hoi:out[i]?=some out[i]:=pe (by omega);rw[bdT (zr xi),bdT a3,oB,hmk];cases hg:Vj names (key i) with
  |none=>
   rw[Option.isSome_none,mF,cond_true];unfold v6;have hfresh:∀t,t<i->key t≠key i:=λt ht e=>by obtain⟨v,_,_,v3,_⟩:=h1 t ht;rw[e,hg]at v3;cases v3
   have hlen:=z8F (key i) ((names.length:Nat):Int) names hg;rw[hmk,z1f,if_pos (by simp),pW,oB,bdT (zr hoi),z7,w2,ph];have keep:∀t:Nat,t<i->(out.set i ((names.length:Nat):Int))[t]?=out[t]?:=λt ht=>gC (by omega);have new:(out.set i ((names.length:Nat):Int))[i]?=some ((names.length:Nat):Int):=gM (by omega);refine⟨⟨i+1,rfl,by omega,by simp[ho],λs hs=>?_,λw hw=>?_,λk v q=>?_,λs t hs ht q=>?_⟩,by simp only[ph];omega⟩
   ·simp only
    by_cases e:s=i
    ·subst e;refine⟨names.length,new,by omega,by rw[z1f,if_pos (by simp)],λw hw=>?_⟩;obtain⟨t,t1,t2⟩:=h2 w hw;exact⟨t,t1,by rw[keep t t1];exact t2⟩
    obtain⟨v,v1,v2,v3,v4⟩:=h1 s (by omega);refine⟨v,by rw[keep s (by omega)];exact v1,by omega,?_,λw hw=>?_⟩
    ·rw[z1f,if_neg (by simpa using λq=>hfresh s (by omega) q.symm)];exact v3
    obtain⟨t,t1,t2⟩:=v4 w hw;exact⟨t,t1,by rw[keep t (by omega)];exact t2⟩
   ·simp only at hw ⊢;by_cases e:w<names.length
    ·obtain⟨t,t1,t2⟩:=h2 w e;exact⟨t,by omega,by rw[keep t t1];exact t2⟩
    have:w=names.length:=by omega
    subst this;exact⟨i,by omega,new⟩
   ·simp only at q;rw[z1f]at q;by_cases e:key i=k
    ·exact⟨i,by omega,e⟩
    rw[if_neg (by simpa using e)]at q;obtain⟨t,t1,t2⟩:=h3 k v q;exact⟨t,by omega,t2⟩
   simp only at q;have low:∀t,t<i->out[t]?≠some ((names.length:Nat):Int):=λt ht g=>by obtain⟨v,v1,v2,_⟩:=h1 t ht;rw[v1]at g;have:=Option.some.inj g;omega
   by_cases es:s=i
   ·by_cases et:t=i
    ·rw[es,et]
    exfalso;rw[es,new,keep t (by omega)]at q;exact low t (by omega) q.symm
   by_cases et:t=i
   ·exfalso;rw[et,new,keep s (by omega)]at q;exact low s (by omega) q
   rw[keep s (by omega),keep t (by omega)]at q;exact h4 s t (by omega) (by omega) q
  |some v=>
   rw[Option.isSome_some,gP,cond_false];unfold v6;obtain⟨t0,t1,t2⟩:=h3 _ _ hg;obtain⟨u,u1,u2,u3,u4⟩:=h1 t0 t1;rw[t2,hg]at u3;have hvu:v=(u:Int):=Option.some.inj u3;rw[hmk,hg,pW,oB,bdT (zr hoi),z7,w2,ph];have keep:∀t:Nat,t<i->(out.set i v)[t]?=out[t]?:=λt ht=>gC (by omega);have new:(out.set i v)[i]?=some v:=gM (by omega);refine⟨⟨i+1,rfl,by omega,by simp[ho],λs hs=>?_,λw hw=>?_,λk v q=>?_,λs t hs ht q=>?_⟩,by simp only[ph];omega⟩
   ·simp only
    by_cases e:s=i
    ·subst e;refine⟨u,by rw[new,hvu],u2,by rw[hg,hvu],λw hw=>?_⟩;obtain⟨t,g1,g2⟩:=u4 w hw;exact⟨t,by omega,by rw[keep t (by omega)];exact g2⟩
    obtain⟨v',v1,v2,v3,v4⟩:=h1 s (by omega);refine⟨v',by rw[keep s (by omega)];exact v1,v2,v3,λw hw=>?_⟩;obtain⟨t,g1,g2⟩:=v4 w hw;exact⟨t,g1,by rw[keep t (by omega)];exact g2⟩
   ·simp only at hw⊢;obtain⟨t,g1,g2⟩:=h2 w hw;exact⟨t,by omega,by rw[keep t g1];exact g2⟩
   ·obtain⟨t,g1,g2⟩:=h3 k v q;exact⟨t,by omega,g2⟩
   simp only at q;have like:∀t,t<i->out[t]?=some v->key t=key i:=λt ht g=>by rw[<-t2];exact h4 t t0 ht t1 (by rw[g,u1,hvu])
   by_cases es:s=i
   ·by_cases et:t=i
    ·rw[es,et]
    rw[es,new,keep t (by omega)]at q;rw[es];exact(like t (by omega) q.symm).symm
   by_cases et:t=i
   ·rw[et,new,keep s (by omega)]at q;rw[et];exact like s (by omega) q
   rw[keep s (by omega),keep t (by omega)]at q;exact h4 s t (by omega) (by omega) q
 have hc:=of_decide_eq_false hc;have:i=m.i.length:=by omega
 subst this;refine z7.2 ⟨ho,λs x hx=>?_,λs t hs ht=>?_⟩
 ·have hs:s<m.i.length:=by have:=(pf.1 hx).1;omega
  obtain⟨v,v1,_,_,v4⟩:=h1 s hs;rw[hx]at v1;exact⟨v,Option.some.inj v1,v4⟩
 rw[<-alike s t hs ht];refine⟨h4 s t hs ht,λe=>?_⟩;obtain⟨v,v1,_,v3,_⟩:=h1 s hs;obtain⟨u,u1,_,u3,_⟩:=h1 t ht;rw[e,u3]at v3;rw[v1,u1,<-Option.some.inj v3]
end
def zbS (a b:TB)(ha:a.length<4611686018427387904):vA a b=some (decide (a=b)):=by
 unfold vA ud;by_cases hl:a.length=b.length
 ·have e:(((a.length:Nat):Int) !=((b.length:Nat):Int))=false:=by simp[hl]
  rw[e,cond_false,wn a ha (step:=λs=>wo a b s) (λi x=>if b[i]?=some x then none else some false) ?_ ?_]
  ·by_cases q:a=b
   ·rw[VR λi x hx=>by rw[gF,<-q,if_pos hx]];simp[oS,q]
   cases hf:y9 (λi x=>if b[i]?=some x then none else some false) a 0 with
   |none=>
    exfalso;refine q (gN λi=>?_);by_cases hi:i<a.length
    ·have hx:a[i]?=some a[i]:=pe hi;have:=ul hf i _ hx;rw[gF]at this;split at this
     ·rename_i g;rw[hx,g]
     cases this
    rw[pJ (by omega),pJ (by omega)]
   |some r=>
    obtain⟨i,x,_,h2⟩:=uk hf;split at h2
    ·cases h2
    cases h2;simp[oS,q]
  ·intro i x hx;have hi:=(pf.1 hx).1;have hy:b[i]?=some b[i]:=pe (by omega);unfold wo;rw[decide_eq_true (by omega),cond_true,bdT (zr hx),bdT (zr hy),hy];by_cases e2:x=b[i]
   ·rw[e2,bne_self_eq_false,cond_false,if_pos rfl];rfl
   have e3:(x !=b[i])=true:=by simpa using e2
   rw[e3,cond_true,if_neg λg=>e2 (Option.some.inj g).symm];rfl
  unfold wo;rw[decide_eq_false (by omega),cond_false]
 have e:(((a.length:Nat):Int) !=((b.length:Nat):Int))=true:=by simpa using λg:(a.length:Int)=b.length=>hl (by omega)
 rw[e,cond_true,decide_eq_false λq=>hl (by rw[q])]
section
variable {m:z6}(h:VM m)
include h
omit h in theorem seq_out {s t:Nat} (q:SEq m s t) {j:Nat} (hj:j<kk m):(E m s j).r=(E m t j).r/\∀w:TC,(∀i∈w,i<kk m)->rsp m (E m s j).o w=rsp m (E m t j).o w:=by
 have gen:∀w:TC,(∀i∈w,i<kk m)->(E m s j).r=(E m t j).r/\rsp m (E m s j).o w=rsp m (E m t j).o w:=by intro w hw;have:=q (j::w) (λi hi=>by rcases pl.1 hi with rfl|g;exact hj;exact hw i g);simp only[rsp,uJ,List.cons.injEq]at this;exact this
 exact⟨(gen [] (by simp)).1,λw hw=>(gen w hw).2⟩
theorem zap (hp:p.length=m.i.length)(hq:∀s t,s<m.i.length->t<m.i.length->SEq m s t->p[s]?=p[t]?){s t:Nat}(hs:s<m.i.length)(ht:t<m.i.length)(q:SEq m s t):zfz m p s t:=by
 refine⟨hq s t hs ht q,λj hj=>?_⟩;obtain⟨o1,o2⟩:=seq_out q hj;have hes:=h.edgeAt hs hj;have het:=h.edgeAt ht hj;unfold sgN;rw[if_pos hj,if_pos hj,o1];rcases hes with⟨a1,a2⟩|⟨a1,a2,a3,a4⟩
 ·rcases het with⟨b1,b2⟩|⟨b1,b2,b3,b4⟩
  ·rw[if_pos a1,if_pos b1]
  omega
 rcases het with⟨b1,b2⟩|⟨b1,b2,b3,b4⟩
 ·omega
 rw[if_neg (by omega),if_neg (by omega)];have e1:(((E m s j).o.toNat:Nat):Int)=(E m s j).o:=by omega
 have e2:(((E m t j).o.toNat:Nat):Int)=(E m t j).o:=by omega
 have:=hq _ _ (by omega) (by omega) (show SEq m (E m s j).o.toNat (E m t j).o.toNat from λw hw=>by rw[e1,e2];exact o2 w hw);rw[this]
theorem zbM (hp:p.length=m.i.length)(hr:Rgf p)(hf:∀s t,s<m.i.length->t<m.i.length->p[s]?=p[t]?->zfz m p s t):∀(w:TC) (s t:Nat),s<m.i.length->t<m.i.length->p[s]?=p[t]?->(∀i∈w,i<kk m)->rsp m (s:Int) w=rsp m (t:Int) w
 |[],_,_,_,_,_,_=>rfl
 |j::w,s,t,hs,ht,e,hw=>by
  have hj:j<kk m:=hw j (by simp);have hw':∀i∈w,i<kk m:=λi hi=>hw i (by simp[hi]);have hal:=(hf s t hs ht e).2 j hj;have hes:=h.edgeAt hs hj;have het:=h.edgeAt ht hj;have pos:∀u:Nat,u<m.i.length->0<=(p[u]?).getD 0:=λu hu=>by have hx:p[u]?=some p[u]:=pe (by omega);obtain⟨v,v1,_⟩:=hr u _ hx;rw[hx,pW,v1];omega
  unfold sgN at hal;rw[if_pos hj,if_pos hj]at hal;have a0:=congrArg qY.e0 hal;have a1:=congrArg qY.e1 hal;simp only at a0 a1;simp only[rsp,uJ,a0,List.cons.injEq,true_and];rcases hes with⟨b1,b2⟩|⟨b1,b2,b3,b4⟩
  ·rcases het with⟨c1,c2⟩|⟨c1,c2,c3,c4⟩
   ·rw[b1,c1]
   rw[if_pos b1,if_neg (by omega)]at a1;have:=pos (E m t j).o.toNat (by omega);omega
  rcases het with⟨c1,c2⟩|⟨c1,c2,c3,c4⟩
  ·rw[if_neg (by omega),if_pos c1]at a1;have:=pos (E m s j).o.toNat (by omega);omega
  rw[if_neg (by omega),if_neg (by omega)]at a1;have x1:p[(E m s j).o.toNat]?=some p[(E m s j).o.toNat]:=pe (by omega);have x2:p[(E m t j).o.toNat]?=some p[(E m t j).o.toNat]:=pe (by omega);have:=zbM hp hr hf w (E m s j).o.toNat (E m t j).o.toNat (by omega) (by omega) (by rw[x1,x2]at a1⊢;exact congrArg some a1) hw';have e1:(((E m s j).o.toNat:Nat):Int)=(E m s j).o:=by omega
  have e2:(((E m t j).o.toNat:Nat):Int)=(E m t j).o:=by omega
  rw[e1,e2]at this;exact this
def QD (N:Nat)(p:TB):Nat:=((List.range N).flatMap λs=>(List.range N).map λt=>(s,t)).countP λx=>decide (p[x.1]?=p[x.2]?)
omit h in
theorem z6o {N s t:Nat}:(s,t)∈((List.range N).flatMap λs=>(List.range N).map λt=>(s,t))↔s<N/\t<N:=by
 simp only[gO,pQ,gJ,Prod.mk.injEq];constructor
 ·rintro⟨a,ha,b,hb,rfl,rfl⟩;exact⟨ha,hb⟩
 rintro⟨a,b⟩;exact⟨s,a,t,b,rfl,rfl⟩
theorem z9P:Ret (kV m) λr=>r.2.2=0/\r.1.length=m.i.length/\Rgf r.1/\∀s t:Nat,s<m.i.length->t<m.i.length->(r.1[s]?=r.1[t]?↔SEq m s t):=by
 have hN:=h.y;have hN1:=h.J;unfold kV Wt;rw[VX,z2C h,oB,bne_self_eq_false,cond_false,oB];unfold jN;rw[gdT (by omega),zm,zm];have e0:((m.i.length:Nat):Int).toNat=m.i.length:=by simp
 rw[e0];refine(zG (R:=λy:LR (TB×Int) Empty=>∃p n,y=.next (p,n)/\p.length=m.i.length/\Rgf p/\∀s t:Nat,s<m.i.length->t<m.i.length->(p[s]?=p[t]?↔SEq m s t))
  (λst:LR (TB×Int) Empty×TB=>(∃x,st.1=.next x)/\st.2.length=m.i.length/\Rgf st.2/\∀s t:Nat,s<m.i.length->t<m.i.length->SEq m s t->st.2[s]?=st.2[t]?) (λst=>QD m.i.length st.2) ⟨⟨_,rfl⟩,by simp,?_,?_⟩ ?_ ?_).mono ?_
 ·intro s x hx;simp only[gQ]at hx;split at hx
  ·cases hx;exact⟨0,rfl,λw q=>by omega⟩
  cases hx
 ·intro s t hs ht _;simp only[gQ];rw[if_pos hs,if_pos ht]
 ·have:QD m.i.length (List.replicate m.i.length (0:Int))<=((List.range m.i.length).flatMap λs=>(List.range m.i.length).map λt=>(s,t)).length:=rI;have e:((List.range m.i.length).flatMap λs=>(List.range m.i.length).map λt=>(s,t)).length=m.i.length*m.i.length:=by rw[List.length_flatMap];simp only[pY,List.length_range,List.map_const',List.sum_replicate_nat]
  rw[e]at this;have:=mE hN hN;show QD m.i.length (List.replicate m.i.length (0:Int))<18446744073709551616;omega
 ·rintro⟨y,p⟩ ⟨⟨⟨x,n⟩,rfl⟩,hp,hr,hq⟩;simp only at hp hr hq;show Ret (uf m (yOf λs x=>v7 s.1 s.2 x) (.next (x,n)) p) _;unfold uf;simp only[yOf,v7,oB,cond_true];rw[zm];refine(z7u h hp).mono ?_;rintro q ⟨q1,q2,q3⟩;rw[zbS p q (by omega),oB,zy];refine⟨λhc=>?_,λhc=>?_⟩
  ·have hc:p=q:=of_decide_eq_true hc;rw[z7];refine⟨p,w64 (n+1),rfl,hp,hr,λs t hs ht=>⟨λe w hw=>?_,hq s t hs ht⟩⟩;exact zbM h hp hr (λs t hs ht e=>(q3 s t hs ht).1 (by rw[<-hc];exact e)) w s t hs ht e hw
  have hc:¬p=q:=of_decide_eq_false hc;rw[z7];refine⟨⟨⟨_,rfl⟩,q1,q2,λs t hs ht e=>(q3 s t hs ht).2 (zap h hp hq hs ht e)⟩,?_⟩;show QD m.i.length q<QD m.i.length p;unfold QD;refine z2A (λz hz hd=>?_) ?_
  ·obtain⟨s,t⟩:=z;obtain⟨hs,ht⟩:=z6o.1 hz;simp only[decide_eq_true_eq]at hd⊢;exact((q3 s t hs ht).1 hd).1
  refine gG λg=>hc (z8q hr q2 (by omega) λs t hs ht=>⟨λe=>?_,λe=>((q3 s t (by omega) (by omega)).1 e).1⟩);refine gG λg2=>g ⟨(s,t),z6o.2 ⟨by omega,by omega⟩,by simpa using e,by simpa using g2⟩
 rintro y ⟨p,n,rfl,g1,g2,g3⟩;rw[z7];unfold kU;simp only;rw[z7];exact⟨rfl,g1,g2,g3⟩
end
def z0m (w:TB):zQ w=some w:=by unfold zQ;rw[gdT (by omega)];simp
def z96 (w:TB)(h:w.length<=4294967296):ye w=some w:=by unfold ye;rw[gdT (by simpa using h)]
def z8m (a b:TB)(h:a.length<4611686018427387904):jj a b=some (decide (a=b)):=by
 unfold jj;rw[Vi a b h];simp only[oB];by_cases e:a=b
 ·subst e;simp[Ym]
 have:uT a b≠0:=λq=>e (Qy q);simp[e,this]
def QW (l:TA):Prop:=l.Pairwise λa b=>¬uT b a<0
def YQ {l:List α}{n:Nat}{x:α}:x∈l.take n↔∃i,i<n/\l[i]?=some x:=by
 rw[gD];constructor
 ·rintro⟨i,h⟩;rw[pO]at h;split at h
  ·exact⟨i,by omega,h⟩
  cases h
 rintro⟨i,h1,h2⟩;exact⟨i,by rw[pO,if_pos h1];exact h2⟩
def zab (h:SW l)(hx:∀y∈l,uT y x<0):SW (l++[x]):=by unfold SW;rw[nC];exact⟨h,by simp,λa ha b hb=>by simp at hb;subst hb;exact hx a ha⟩
section
variable {s:TA}(hq:QW s)(hl:s.length<=4294967296)(hw:∀w∈s,w.length<4611686018427387904)
include hq hl hw
omit hl hw in
theorem zec {i j:Nat}{x y:TB}(hi:s[i]?=some x)(hj:s[j]?=some y)(h:i<=j):uT x y<0\/x=y:=by
 rcases pD i j with h|h
 ·have:=(gT.1 hq) i j (pf.1 hi).1 (pf.1 hj).1 h;rw[(pf.1 hi).2,(pf.1 hj).2]at this;rcases z59.1 this with q|q
  ·exact .inl q
  exact .inr q.symm
 have:i=j:=by omega
 subst this;rw[hi]at hj;exact .inr (by simpa using hj)
theorem z6O (h1:1<=k)(hk:k<s.length)(hd:s[k-1]?=s[k]?)(hs:SW (s.take k)) :
  Ret (Option.bind (loop (λq=>yR (k:Int) q.1 q.2.1 q.2.2) (s,(k:Int),1)) λt=>yh t.1 t.2) λr=>r=.done (.inr (srt s)):=by
 rw[zm];refine Ret.mono (zG (λq=>∃kk k2:Nat,q.2.1=(kk:Int)/\q.2.2=(k2:Int)/\1<=k2/\k+k2<=s.length/\kk<k+k2/\q.1.length=s.length/\(∀i,kk<=i->q.1[i]?=s[i]?)/\SW (q.1.take kk)/\∀x,x∈q.1.take kk↔x∈s.take (k+k2)) (λq=>s.length-q.2.2.toNat) (R:=λt=>∃kk:Nat,t.2=(kk:Int)/\kk<=s.length/\t.1.length=s.length/\t.1.take kk=srt s) ?_ ?_ ?_) ?_
 ·refine⟨k,1,rfl,rfl,pi _,hk,by omega,rfl,λ_ _=>rfl,hs,λx=>?_⟩;rw[YQ,YQ];constructor
  ·rintro⟨i,h2,h3⟩;exact⟨i,by omega,h3⟩
  rintro⟨i,h2,h3⟩;rcases pD i k with h|h
  ·exact⟨i,h,h3⟩
  have:i=k:=by omega
  subst this;exact⟨i-1,by omega,by rw[hd];exact h3⟩
 ·show s.length-_<_;omega
 ·rintro⟨S,a,b⟩ ⟨kk,k2,rfl,rfl,g1,g2,g3,g4,g5,g6,g7⟩;simp only at g4 g5 g6 g7;show Ret (yR (k:Int) S (kk:Int) (k2:Int)) _;unfold yR;rw[zy];refine⟨λhc=>?_,λhc=>?_⟩
  ·have hlt:k2<s.length - k:=by rw[g4]at hc;simpa using hc
   have e1:s[k+k2]?=some s[k+k2]:=pe (by omega);have e2:s[k+k2-1]?=some s[k+k2-1]:=pe (by omega);have f1:idx S ((k:Int)+(k2:Int))=some s[k+k2]:=by rw[<-Int.natCast_add,zM,g5 _ (by omega),e1]
   have f2:idx S ((k:Int)+w64 ((k2:Int)-1))=some s[k+k2-1]:=by rw[zA (by omega) (by omega),show(k:Int)+((k2:Int)-1)=((k+k2-1:Nat):Int) by omega,zM,g5 _ (by omega),e2]
   rw[gdT (by omega),f1];simp only[oB];rw[gdT (by rw[zA (by omega) (by omega)];omega),f2];simp only[oB];rw[z8m _ _ (hw _ (pC (by omega)))];simp only[oB];have hk2:w64 ((k2:Int)+1)=((k2+1:Nat):Int):=by rw[zA (by omega) (by omega)];omega
   by_cases he:s[k+k2]=s[k+k2-1]
   ·simp only[he,decide_true,gP,cond_false];unfold yg;rw[hk2,z7];refine⟨⟨kk,k2+1,rfl,rfl,by omega,by omega,by omega,g4,g5,g6,λx=>?_⟩,by simp only[ph];omega⟩;rw[g7,YQ,YQ];constructor
    ·rintro⟨i,h2,h3⟩;exact⟨i,by omega,h3⟩
    rintro⟨i,h2,h3⟩;rcases pD i (k+k2) with h|h
    ·exact⟨i,h,h3⟩
    have:i=k+k2:=by omega
    subst this;exact⟨k+k2-1,by omega,by rw[e2,<-he,<-e1];exact h3⟩
   simp only[he,decide_false,mF,cond_true];rw[gdT (by omega)];have e3:idx S (kk:Int)=some s[kk]:=by rw[zM,g5 _ (pi _),pe (by omega)]
   rw[e3];simp only[oB];unfold yg;rw[hk2,zA (x:=(kk:Int)+1) (by omega) (by omega),z7];have hset:(S.set ((kk:Int).toNat) s[k+k2]).take (kk+1)=S.take kk++[s[k+k2]]:=by rw[ph,pU,List.take_set_of_le (pi _),gM (by omega)];rfl
   refine⟨⟨kk+1,k2+1,rfl,rfl,by omega,by omega,by omega,by simp[g4],λi hi=>?_,?_,λx=>?_⟩,by simp only[ph];omega⟩
   ·simp only
    rw[gC (by omega),g5 _ (by omega)]
   ·simp only
    rw[hset];refine zab g6 λy hy=>?_;obtain⟨i,h2,h3⟩:=YQ.1 ((g7 y).1 hy);have hlast:uT s[k+k2-1] s[k+k2]<0:=by
     rcases zec hq e2 e1 (by omega) with q|q
     ·exact q
     exact absurd q.symm he
    rcases zec hq h3 e2 (by omega) with q|q
    ·exact vS q hlast
    rw[q];exact hlast
   simp only
   rw[hset,pg,g7,YQ,YQ];constructor
   ·rintro(⟨i,h2,h3⟩|h)
    ·exact⟨i,by omega,h3⟩
    simp at h;subst h;exact⟨k+k2,by omega,e1⟩
   rintro⟨i,h2,h3⟩;rcases pD i (k+k2) with h|h
   ·exact .inl ⟨i,h,h3⟩
   have:i=k+k2:=by omega
   subst this;rw[e1]at h3;exact .inr (by simpa using h3.symm)
  have hge:s.length-k<=k2:=by rw[g4]at hc;simpa using hc
  have hkk:k+k2=s.length:=by omega
  rw[z7];refine⟨kk,rfl,by omega,g4,zah g6 λx=>?_⟩;rw[g7,hkk,gL]
 rintro⟨S,a⟩ ⟨kk,rfl,h1,h2,h3⟩;simp only at h2 h3;show Ret (yh S (kk:Int)) _;unfold yh;have hlen:(S.take (kk:Int).toNat++List.replicate (S.length-(kk:Int).toNat) ([]:TB)).length=S.length:=by simp[pN];omega
 rw[gdT (by omega),gdT (by omega),gdT (by rw[hlen];omega),z7];simp only[ph];rw[List.take_left' (by rw[pN];omega),h3]
theorem z9O:xy s ()=some (srt s):=by
 unfold xy;by_cases h2:s.length<2
 ·have hd:decide (((s.length:Nat):Int)<2)=true:=by simp;omega
  simp only[hd,cond_true];rw[Ke];match s,h2 with
  |[],_=>exact SW.nil
  |[x],_=>simp[SW]
 have hd:decide (((s.length:Nat):Int)<2)=false:=by simp;omega
 simp only[hd,cond_false];apply Ret.eq;rw[zm];refine Ret.mono (zG (λq:Int=>∃j:Nat,q=(j:Int)/\1<=j/\j<=s.length/\SW (s.take j)) (λq=>s.length-q.toNat) (R:=λt:Unit⊕TA=>match t with|.inl _=>srt s=s|.inr p=>p=srt s) ?_ ?_ ?_) ?_
 ·refine⟨1,rfl,pi _,by omega,?_⟩;match s,h2 with
  |[],h2=>simp at h2
  |x::l,_=>simp[SW]
 ·show s.length-_<_;omega
 ·rintro _ ⟨j,rfl,g1,g2,g3⟩;show Ret (xU s (j:Int)) _;unfold xU;rw[zy];refine⟨λhc=>?_,λhc=>?_⟩
  ·have hj:j<s.length:=by simpa using hc
   have e1:s[j]?=some s[j]:=pe hj;have e2:s[j-1]?=some s[j-1]:=pe (by omega);rw[zA (x:=(j:Int)-1) (by omega) (by omega),show(j:Int)-1=((j-1:Nat):Int) by omega,zr e1,zr e2];simp only[oB];rw[z8m _ _ (hw _ (pC hj))];simp only[oB];by_cases he:s[j]=s[j-1]
   ·simp only[he,decide_true,cond_true];rw[gdT (by omega)];refine(z6O hq hl hw g1 hj (by rw[e1,e2,he]) g3).mono ?_;rintro _ rfl;rfl
   simp only[he,decide_false,cond_false];unfold xV;rw[zA (by omega) (by omega),z7];refine⟨⟨j+1,rfl,by omega,hj,?_⟩,by simp only[ph];omega⟩;have:s.take (j+1)=s.take j++[s[j]]:=by rw[pU,e1];rfl
   rw[this];refine zab g3 λy hy=>?_;obtain⟨i,h3,h4⟩:=YQ.1 hy;have hlast:uT s[j-1] s[j]<0:=by
    rcases zec hq e2 e1 (by omega) with q|q
    ·exact q
    exact absurd q.symm he
   rcases zec hq h4 e2 (by omega) with q|q
   ·exact vS q hlast
   rw[q];exact hlast
  have hj:j=s.length:=by
   have:¬j<s.length:=by simpa using hc
   omega
  rw[z7];show srt s=s;rw[hj,gL]at g3;exact Ke g3
 rintro(u|p) h
 ·show Ret (some s) _;rw[z7];exact h.symm
 show Ret (some p) _;rw[z7];exact h
end
def z5O (l:TA):SOk uT l :=
 ⟨λx _=>QV x,λx _ y _ z _ h1 h2=>vS h1 h2,λx _ y _ h1 h2=>by
  rcases z59.1 h1 with q|q
  ·exact absurd q h2
  exact q⟩
def zdG {l m:TA}(h:l.Perm m):srt l=srt m:=Kf λx=>h.mem_iff
def z2n {c d:TB->TB->Int}:∀{l:TA},(∀x∈l,∀y∈l,c x y=d x y)->JR c l=JR d l
 |[],_=>rfl
 |x::l,h=>by
  have ih:=z2n (c:=c) (d:=d) (l:=l) λa ha b hb=>h a (by simp[ha]) b (by simp[hb]);show z9W c x (JR c l)=z9W d x (JR d l);rw[ih];have gen:∀m:TA,(∀y∈m,y∈l)->z9W c x m=z9W d x m:=by
   intro m;induction m with
   |nil=>intro _;rfl
   |cons y m ih2=>intro hm;simp only[z9W];rw[h y (by simp[hm y (by simp)]) x (by simp),ih2 λz hz=>hm z (by simp[hz])]
  exact gen _ λy hy=>(ZI d l).mem_iff.1 hy
def soR (l:TA):TA×Int:=if 4096<(srt l).length\/65536<jZ (srt l) then([],3) else(srt l,0)
def Ki (hl:l.length<=100000)(hw:∀w∈l,w.length<=4294967296):xD l=some (soR l):=by
 unfold xD xW;rw[gdT (by simp;omega)];simp only[oB];have hc:∀x∈l,∀y,yI x y=some (uT x y):=λx hx y=>Vi x y (by have:=hw x hx;omega);have hso:zal (λx y=>yI x y) l=some (JR uT l):=by
  unfold zal;rw[gdT ⟨by omega,λx hx y hy=>by simp only[hc x hx y];rfl⟩];have hcc:∀x∈l,∀y∈l,(yI x y).getD 0=uT x y:=λx hx y _=>by rw[hc x hx y];rfl
  rw[gdT,z2n (c:=λx y=>(yI x y).getD 0) (d:=uT) hcc];have q:=z5O l;refine⟨λx hx=>by show ¬(yI x x).getD 0<0;rw[hcc x hx x hx];exact q.1 x hx,λx hx y hy z hz h1 h2=>?_,λx hx y hy h1 h2=>?_⟩
  ·simp only[hcc x hx y hy,hcc y hy z hz,hcc x hx z hz]at h1 h2⊢;exact q.2.1 x hx y hy z hz h1 h2
  simp only[hcc x hx y hy,hcc y hy x hx]at h1 h2;exact q.2.2 x hx y hy h1 h2
 rw[hso];simp only[oB];have hp:=ZI uT l;have hq:QW (JR uT l):=Qt (z5O l) (λy hy=>hy);rw[z9O hq (by rw[hp.length_eq];omega) (λw h=>by have:=hw w (hp.mem_iff.1 h);omega)];simp only[oB];unfold wp;simp only[oB];rw[zdG hp];have hlen:(srt l).length<=100000:=pm (Ws l) hl;have hws:∀w∈srt l,w.length<=4294967296:=λw h=>hw w (zS.1 h);unfold soR;generalize srt l=r at hlen hws;have hsy:jZ r<=100000*4294967296:=pm (z4u hws) (hU _ hlen);by_cases h1:4096<r.length
 ·have:(4096:Int)<(r.length:Int):=by omega
  simp[h1,this]
 have d1:decide (((r.length:Nat):Int)>4096)=false:=by simp;omega
 simp only[d1,cond_false];rw[z8d r (by omega),zfE (by omega)];simp only[oB];by_cases h2:65536<jZ r
 ·have:(65536:Int)<(jZ r:Int):=by omega
  simp[h2,this]
 have d2:decide (((jZ r:Nat):Int)>65536)=false:=by simp;omega
 simp only[d2,cond_false];rw[if_neg (by omega)];have hloop:=yY (step:=λs=>wG r s.1 s.2) (λi=>((r.take i).map (λq=>(q,true))++(r.drop i).map (λq=>(q,false)),(i:Int))) r.length (t:=r.map λq=>(q,true)) (by omega) (by
  intro i hi;have hA:((r.take i).map (λq=>(q,true))).length=i:=by rw[pY,pN];omega
  have hd:r.drop i=r[i]::r.drop (i+1):=mA hi;have hx:((r.take i).map (λq=>(q,true))++(r.drop i).map (λq=>(q,false)))[i]?=some (r[i],false):=by rw[po (by omega),hA,hd];simp
  show wG r _ (i:Int)=_;unfold wG;have hq:decide ((i:Int)<((r.length-(0:Int).toNat:Nat):Int))=true:=by simpa using hi
  simp only[hq,cond_true];rw[gdT (by omega),Int.zero_add,zr hx];simp only[oB];rw[z96 _ (hws _ (pC hi))];simp only[oB,z0m,ph];rw[zA (by omega) (by omega)];congr 3;rw[rN _ _ (by omega),hA,hd,pU,pe hi];simp only[nK,gE,nH,gV,Option.toList_some,nE,pG,gK,pL]) (by
  show wG r _ (r.length:Int)=_;unfold wG;simp)
 have h0:((r.take 0).map (λq=>(q,true))++(r.drop 0).map (λq=>(q,false)),((0:Nat):Int))=(r.map (λq=>(q,false)),(0:Int)):=by simp
 rw[h0]at hloop;rw[hloop];simp only[oB];unfold Xe;rw[gdT (by intro q hq;obtain⟨_,_,rfl⟩:=pQ.1 hq;rfl)];simp[mn,Function.comp_def]
def KH (a:Nat)(w:TB):TA:=(List.range a).map λs:Nat=>w++[(s:Int)]
def exW (a:Nat):Nat->TA
 |0=>[[]]
 |k+1=>(exW a k).flatMap (KH a)
def zeY (a:Nat)(w:TB):(KH a w).length=a:=by simp[KH]
def z51 (a:Nat)(l:TA):(l.flatMap (KH a)).length=l.length*a:=by
 induction l with
 |nil=>simp
 |cons w l ih=>rw[nM,pF,ih,zeY,gv,rq];omega
def XN (a:Nat):∀k,(exW a k).length=a^k
 |0=>rfl
 |k+1=>by rw[exW,z51,XN,s6]
def jR (a:Nat):∀k,∀w∈exW a k,w.length=k
 |0,w,h=>by simp[exW]at h;subst h;rfl
 |k+1,w,h=>by rw[exW,gO]at h;obtain⟨v,h1,h2⟩:=h;simp only[KH,pQ]at h2;obtain⟨s,_,rfl⟩:=h2;simp[jR a k v h1]
def zl5 {a:Nat}(ha:a<=16){w:TB}(hw:w.length<=1000){nx:TA}(hn:nx.length<=10000000) :
  loop (λs=>uV (a:Int) w s.1 s.2) (nx,0)=some (nx++KH a w):=by
 have h:=yY (step:=λs=>uV (a:Int) w s.1 s.2) (λi=>(nx++(List.range i).map (λs:Nat=>w++[(s:Int)]),(i:Int))) a (t:=nx++KH a w) (by omega) (by
  intro i hi;show uV (a:Int) w _ (i:Int)=_;unfold uV;have hq:decide ((i:Int)<(a:Int))=true:=by simpa using hi
  simp only[hq,cond_true,z0m,oB];rw[gdT (by simp;omega),gdT (by simp;omega),zA (by omega) (by omega),nV,gV,pG];rfl) (by
  show uV (a:Int) w _ (a:Int)=_;unfold uV;simp[KH])
 have h0:((nx++(List.range 0).map (λs:Nat=>w++[(s:Int)])),((0:Nat):Int))=(nx,(0:Int)):=by simp
 rw[h0]at h;exact h
def zkz {a:Nat}(ha:a<=16)  (hw:∀w∈l,w.length<=1000)(hl:l.length<=100000) :
  loop (λs=>uW (a:Int) l s.1 s.2) (([]:TA),0)=some (l.flatMap (KH a)):=by
 have h:=yY (step:=λs=>uW (a:Int) l s.1 s.2) (λi=>((l.take i).flatMap (KH a),(i:Int))) l.length (t:=l.flatMap (KH a)) (by omega) (by
  intro i hi;show uW (a:Int) l _ (i:Int)=_;unfold uW;have hq:decide ((i:Int)<(l.length:Int))=true:=by simpa using hi
  have hx:l[i]?=some l[i]:=pe hi;have hlen:((l.take i).flatMap (KH a)).length<=10000000:=by rw[z51,pN];have:min i l.length*a<=100000*16:=mE (by omega) ha;omega
  simp only[hq,cond_true,zr hx,oB];rw[bdT (zl5 ha (hw _ (pC hi)) hlen)];unfold UR;rw[zA (by omega) (by omega),pU,hx,List.flatMap_append];simp) (by
  show uW (a:Int) l _ (l.length:Int)=_;unfold uW;simp)
 simpa using h
def wz (a f:Nat):Nat->TA
 |0=>[]
 |k+1=>if f<=k then wz a f k++exW a k else wz a f k
def syW (a f:Nat):Nat->Nat
 |0=>0
 |k+1=>if f<=k then syW a f k+k*a^k else syW a f k
def XV (a f t k:Nat):Prop:=4096<(wz a f (k+1)).length\/65536<syW a f (k+1)\/k<t/\4096<a^k*a
instance (a f t k:Nat):Decidable (XV a f t k):=by unfold XV;infer_instance
def zcr {a f t k:Nat}(ha:1<=a/\a<=16)(hf:f<=256)(ht:t<=256)(hk:k<=t)(ho:(wz a f k).length<=4096)(hs:syW a f k<=65536)(hl:a^k<=4096) :
  jY (a:Int) (f:Int) (t:Int) (wz a f k) (exW a k) (syW a f k:Int) (k:Int)=if XV a f t k then some (.done ([],3)) else if k=t then Option.bind (xD (wz a f (k+1))) (λr=>some (.done (r.1,r.2))) else some (.next (wz a f (k+1),exW a (k+1),(syW a f (k+1):Int),((k+1:Nat):Int))):=by
 have hmul:k*a^k<=256*4096:=mE (by omega) hl;have hma:a^k*a<=4096*16:=mE hl ha.2;have e:jY (a:Int) (f:Int) (t:Int) (wz a f k) (exW a k) (syW a f k:Int) (k:Int)=Y4 (a:Int) (t:Int) (exW a k) (k:Int) (wz a f (k+1)) (syW a f (k+1):Int):=by
  unfold jY;by_cases h:f<=k
  ·have hd:decide ((k:Int)>=(f:Int))=true:=by simpa using h
   simp only[hd,cond_true];have hm:w64 ((k:Int)*((exW a k).length:Int))=((k*a^k:Nat):Int):=by rw[XN,<-mU,zA (by omega) (by omega)]
   rw[gdT (by rw[XN];omega),hm,zA (by omega) (by omega)];simp only[wz,syW,if_pos h];congr 1
  have hd:decide ((k:Int)>=(f:Int))=false:=by simp;omega
  simp only[hd,cond_false,wz,syW,if_neg h]
 rw[e];unfold Y4;by_cases h1:4096<(wz a f (k+1)).length
 ·have:decide (((wz a f (k+1)).length:Int) > 4096)=true:=by simp only[decide_eq_true_eq];omega
  simp only[this,cond_true];rw[if_pos (show XV a f t k from .inl h1)]
 have d1:decide (((wz a f (k+1)).length:Int)>4096)=false:=by simp;omega
 simp only[d1,cond_false];by_cases h2:65536<syW a f (k+1)
 ·have:decide ((syW a f (k+1):Int) > 65536)=true:=by simp only[decide_eq_true_eq];omega
  simp only[this,cond_true];rw[if_pos (show XV a f t k from .inr (.inl h2))]
 have d2:decide ((syW a f (k+1):Int)>65536)=false:=by simp;omega
 simp only[d2,cond_false];have hm:w64 (((exW a k).length:Int)*(a:Int))=((a^k*a:Nat):Int):=by rw[XN,<-mU,zA (by omega) (by omega)]
 rw[hm];have J4:∀(hns:¬(k<t/\4096<a^k*a)) (b:Bool),Y3 (a:Int) (t:Int) (exW a k) (k:Int) (wz a f (k+1)) (syW a f (k+1):Int) b=if k=t then Option.bind (xD (wz a f (k+1))) (λr=>some (.done (r.1,r.2))) else some (.next (wz a f (k+1),exW a (k+1),(syW a f (k+1):Int),((k+1:Nat):Int))):=by
  intro hns b;unfold Y3;by_cases hkt:k=t
  ·subst hkt;simp
  have hd:((k:Int)==(t:Int))=false:=by simp;omega
  simp only[hd,cond_false,if_neg hkt];rw[bdT (zkz ha.2 (λw hw=>by rw[jR a k w hw];omega) (by rw[XN];omega))];unfold US UT;rw[zA (by omega) (by omega)];rfl
 by_cases hkt:k<t
 ·have hd:decide ((k:Int)<(t:Int))=true:=by simpa using hkt
  simp only[hd,cond_true];by_cases h3:4096<a^k*a
  ·have:decide (((a ^ k*a:Nat):Int) > 4096)=true:=by simp only[decide_eq_true_eq];omega
   simp only[this,cond_true];rw[if_pos (show XV a f t k from .inr (.inr ⟨hkt,h3⟩))]
  have:decide (((a^k*a:Nat):Int)>4096)=false:=by simp only[decide_eq_false_iff_not];omega
  simp only[this,cond_false];rw[J4 (by omega),if_neg (show ¬XV a f t k by unfold XV;omega)]
 have hd:decide ((k:Int)<(t:Int))=false:=by simp;omega
 simp only[hd,cond_false];rw[J4 (by omega),if_neg (show ¬XV a f t k by unfold XV;omega)]
def z4R {a f t k:Nat}(ha:1<=a)(hs:¬XV a f t k)(hk:k<t):(wz a f (k+1)).length<=4096/\syW a f (k+1)<=65536/\a^(k+1)<=4096:=by unfold XV at hs;rw[s6];omega
variable {r:Option (TA×Int)}
def zcu {a f t:Nat}(ha:1<=a/\a<=16)(hf:f<=256)(ht:t<=256){r:Option (TA×Int)}
  (hr:(∃j,j<=t/\XV a f t j)->r=some ([],3)) (hr2:(∀j,j<=t->¬XV a f t j)->r=Option.bind (xD (wz a f (t+1))) λr=>some (r.1,r.2)) :
  ∀(m k:Nat),k<=t->t-k<m->(∀j,j<k->¬XV a f t j)->(wz a f k).length<=4096->syW a f k<=65536->a^k<=4096->KB (λs=>jY (a:Int) (f:Int) (t:Int) s.1 s.2.1 s.2.2.1 s.2.2.2) m (wz a f k,exW a k,(syW a f k:Int),(k:Int))=r
 |0,k,_,h,_,_,_,_=>by omega
 |m+1,k,hk,hm,hns,h1,h2,h3=>by
  rw[X6];dsimp only
  rw[zcr ha hf ht hk h1 h2 h3];by_cases hst:XV a f t k
  ·rw[if_pos hst,hr ⟨k,hk,hst⟩]
  rw[if_neg hst];by_cases hkt:k=t
  ·subst hkt;rw[if_pos rfl,hr2 λj hj=>by
    rcases pD j k with q|q
    ·exact hns j q
    rw[show j=k by omega];exact hst]
   cases xD (wz a f (k+1))<;>rfl
  rw[if_neg hkt];obtain⟨q1,q2,q3⟩:=z4R ha.1 hst (by omega);exact zcu ha hf ht hr hr2 m (k+1) (by omega) (by omega) (λj hj=>by
   rcases pD j k with q|q
   ·exact hns j q
   rw[show j=k by omega];exact hst) q1 q2 q3
def zll {a f t:Nat}(ha:1<=a/\a<=16)(hf:f<=256)(ht:t<=256){r:Option (TA×Int)}
  (hr:(∃j,j<=t/\XV a f t j)->r=some ([],3)) (hr2:(∀j,j<=t->¬XV a f t j)->r=Option.bind (xD (wz a f (t+1))) λr=>some (r.1,r.2)) :
  WW (a:Int) (f:Int) (t:Int)=r:=by
 unfold WW;have d1:decide ((a:Int)>16)=false:=by simp;omega
 have d2:decide ((a:Int)<1)=false:=by simp;omega
 have d3:decide ((t:Int)<0)=false:=by simp
 have d4:decide ((t:Int)>256)=false:=by simp;omega
 simp only[d1,d2,d3,d4,cond_false];have h:=zcu ha hf ht hr hr2 Ur 0 (pM _) (by show t-0<18446744073709551616;omega) (λj hj=>by omega) (by simp[wz]) (by simp[syW]) (by simp);have h':loop (λs=>jY (a:Int) (f:Int) (t:Int) s.1 s.2.1 s.2.2.1 s.2.2.2) (([]:TA),([[]]:TA),0,0)=r:=h;rw[h'];cases r<;>rfl
end Go.Own
end
