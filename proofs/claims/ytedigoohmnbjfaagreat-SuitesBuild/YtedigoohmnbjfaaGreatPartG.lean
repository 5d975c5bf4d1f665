/- Walks, further. -/
import Derived.Test.YtedigoohmnbjfaaGreatPartF
import Derived.Test.YtedigoohmnbjfaaGreatPartC
import Derived.Test.YtedigoohmnbjfaaGreatPartE
noncomputable section
set_option linter.unusedVariables false
set_option linter.defProp false
set_option linter.unusedSimpArgs false
namespace Go.Own
open Go.Proofs.Tryz
def oB {α:Type _}{β:Type _}(a:α)(f:α->Option β):Option.bind (some a) f=f a:=rfl
open Go.Proofs
set_option maxRecDepth 100000
set_option maxHeartbeats 8000000
def zkD:List y7:=z2F 222 zlC F8_ F8_ yQ xc::l99
def Jw [H:HS X0 l99]:OkH zkD:=yS3 true func222 λx_ u_ v_ r0 aa E hE=>by obtain⟨r_,h0,ai,h1,pk,h2,aa⟩:=jZ aa;cases aa;exact yE hE [zC3 0 h0,zC3 0 h1,Hi yQ h2]
def UK [H:HS X0 zkD](bz:Value):∀(x0:Ug) (x_:zF) (b_:zb) (r0:zb×Bool),wC x0 x_ b_=some r0->z7X prog 220 [.agg [],.sptr (.agg [.agg [I x_.m_.j,I x_.m_.m,eSl 1 false xW x_.m_.i],eSl 1 false F8_ x_.q_,eSl 1 false F8_ x_.p_,eSl 1 false F8_ x_.O,eSl 1 false yQ x_.P,eSl 1 false F8_ x_.F,eSl 1 false F8_ x_.K]),.atom bz] ([bz].zip [.box (.agg [eOs 16 false F2_ b_.x,I b_.s,I b_.w])]) r0.2 (.iface 124 (.agg #[])) (.tup []) [.box (.agg [eOs 16 false F2_ r0.1.x,I r0.1.s,I r0.1.w])]:=by
 intro x0 x_ b_ r0 aa;refine z4R (tt:=wM) (nt:=f220.ntmps) (body:=zbd f220) [2] zu func220 rfl (by kernel_rfl) rfl rfl (by show(3:Nat)<=106;decide) (by decide) rfl rfl rfl (λE hE hD=>?_);refine yNs 11 [] [1,2] (λz:List (zz Int)×Int×Int=>uD x_ b_ z.1 z.2.1 z.2.2=some r0) (λz=>[(2,.own (.box (.agg [eOs 16 false F2_ z.1,I z.2.1,I z.2.2])))]) [Hh (.cut 1)] ?_ λJ1 ar=>?_
 ·rintro⟨br,cp,fm⟩ aa;obtain⟨r_,h0,t2,ht2,aa⟩:=y8 aa;refine yM 111110 [] [1,2,73,74,75] (λx=>[(2,.own (.box (.agg [eOs 16 false F2_ x.1,I x.2.1,I x.2.2.1]))),(75,.d (I x.2.2.2))]) ht2  [zC3 4 h0,Ha (lnM F4_ r_.1)] λ⟨bh,cj,fh,jg⟩ m2 av ae hl1 J2 au=>?_;obtain c0|c0:=zA ae
  ·refine yNs 111110011 [J2] [1,2,73,74,75] (λz:List (zz Int)×Int×Int=>Zm jg z.1 z.2.1 z.2.2=some av) (λz=>[(2,.own (.box (.agg [eOs 16 false F2_ z.1,I z.2.1,I z.2.2])))]) [c0,Hh (.cut 0)] ?_ λJ3 bg=>?_
   ·rintro⟨bm,ce,d0⟩ ae;cases ae;exact yB au _ hl1 []
   obtain⟨u_,h1,t4,ht4,ae⟩:=y8 c0.2;refine yM (H:=zx ((xLs zu 78 (eSl 1 true rZ u_) (eSl 1 false rZ u_) inferInstance).or X0)) 11111001120110 [J2,J3] [1,2,15,73,74,75,82,83,84] (λx=>[(2,.own (.box (.agg [eOs 16 false F2_ x.1,I x.2.1,I x.2.2.1]))),(84,.d (I x.2.2.2))]) ht4  [Hi F4_ h1,Hn (rfl:T.d (eSl 1 true rZ u_)=T.d (eSl 1 true rZ u_)),Ha (lnM F8_ x_.K)] λ⟨aq,bc,fj,j7⟩ m4 dj ah hl2 J4 db=>?_;obtain c1|c1:=zA ah
   ·refine yNs 11111001120110011 [J2,J3,J4] [1,2,15,73,74,75,82,83,84] (λz:List (zz Int)×Int×Int=>Zl j7 z.1 z.2.1 z.2.2=some dj) (λz=>[(2,.own (.box (.agg [eOs 16 false F2_ z.1,I z.2.1,I z.2.2])))]) [c1,Hh (.cut 0)] ?_ λJ5 dc=>?_
    ·rintro⟨ct,cg,dz⟩ ah;cases ah;exact yB db _ hl2 []
    obtain⟨ez,h2,ai,h3,t6,kb,ah⟩:=jZ c1.2;refine yM 1111100112011001120110 [J2,J3,J4,J5] [1,2,15,17,73,74,75,82,83,84,91,92,93] (λx=>[(2,.own (.box (.agg [eOs 16 false F2_ x.1,I x.2.1,I x.2.2.1]))),(93,.d (I x.2.2.2))]) kb  [Hi F8_ h2,zC3 0 h3,Ha (lnM F8_ ai)] λ⟨ju,eg,km,m0⟩ m6 nb aw hl3 J6 ep=>?_;obtain c2|c2:=zA aw
    ·obtain⟨dm,h4,aw⟩:=zp c2.2;refine yC 1111100112011001120110011001 [J2,J3,J4,J5,J6] [1,2,15,17,19,73,74,75,82,83,84,91,92,93] [c2,Hi F8_ h4,Hh (.stp 0)] ?_;obtain⟨ak,h5,aw⟩:=zp aw;obtain c3|c3:=zA aw
     ·cases c3.2;cases hl3;cases ah;cases hl2;cases ae;cases hl1;cases aa;exact yD 5 [2] ((xz (H:=zd 10) bz _ _ _ h5).2 c3.1) [.atom bz,z6S [u_,ez,dm]] inferInstance [Hm (shM F8_ F8_ ([u_,ez,dm]))] λst0=>hD rfl st0
     cases c3.2;exact yB (H:=zx ((vP (P:=prog) wM [2] ((xz (H:=zd 10) bz _ _ _ h5).1 c3.1) 102).or X0)) ep _ hl3 [Hm (shM F8_ F8_ ([u_,ez,dm])),Hn (Zq (f:=.fn 219 []) (xs:=[.atom bz,yQ [u_,ez,dm]]) (ls:=[(bz,.box (.agg [eOs 16 false F2_ ju,I eg,I km]))]) (r:=.tup []) (ys:=[.box (.agg [eOs 16 false F2_ ak.1.x,I ak.1.s,I ak.1.w])]) [.atom bz,z6S [u_,ez,dm]] (show QS [.atom bz,z6S [u_,ez,dm]] [.atom bz,yQ [u_,ez,dm]] from inferInstance))]
    cases c2.2;cases hl3;exact yB dc (ju,eg,km) ah [c2]
   cases c1.2;cases hl2;exact yB bg (aq,bc,fj) ae [c1]
  cases c0.2;cases hl1;cases aa;exact yF .normal [(2,.own (.box (.agg [eOs 16 false F2_ bh,I cj,I fh])))] [c0] λst0 h0=>hE rfl _ st0 (.inl rfl) (XA h0 ⟨⟨rfl,rfl⟩,trivial⟩)
 refine yMb 11210 [J1] [1,2,23,24,25] (λx=>[(2,.own (.box (.agg [eOs 16 false F2_ x.1,I x.2.1,I x.2.2.1]))),(25,.d (I x.2.2.2))]) aa  [Ha (lnM F8_ x_.q_)] λt7 aa ⟨jx,jb,ko,jh⟩ m7 av ae hl1 J7 gw=>?_;obtain c4|c4:=zA ae
 ·refine yNs 11210011 [J1,J7] [1,2,23,24,25] (λz:List (zz Int)×Int×Int=>Zk jh z.1 z.2.1 z.2.2=some av) (λz=>[(2,.own (.box (.agg [eOs 16 false F2_ z.1,I z.2.1,I z.2.2])))]) [c4,Hh (.cut 0)] ?_ λJ8 lq=>?_
  ·rintro⟨lz,lk,ml⟩ ae;cases ae;exact yB gw _ hl1 []
  obtain⟨gq,h6,t9,ht9,ae⟩:=y8 c4.2;refine yM 1121001120110 [J1,J7,J8] [1,2,7,23,24,25,32,33,34] (λx=>[(2,.own (.box (.agg [eOs 16 false F2_ x.1,I x.2.1,I x.2.2.1]))),(34,.d (I x.2.2.2))]) ht9  [Hi F8_ h6,Ha (lnM F8_ x_.F)] λ⟨jw,ja,kn,fw⟩ m9 dj ah hl2 J9 qe=>?_;obtain c5|c5:=zA ah
  ·refine yNs 1121001120110011 [J1,J7,J8,J9] [1,2,7,23,24,25,32,33,34] (λz:List (zz Int)×Int×Int=>kD fw z.1 z.2.1 z.2.2=some dj) (λz=>[(2,.own (.box (.agg [eOs 16 false F2_ z.1,I z.2.1,I z.2.2])))]) [c5,Hh (.cut 0)] ?_ λJ10 hJ10=>?_
   ·rintro⟨l4,ll,mp⟩ ah;cases ah;exact yB qe _ hl2 []
   obtain⟨a6,h7,sc,ht11,ah⟩:=y8 c5.2;refine yM 112100112011001120110 [J1,J7,J8,J9,J10] [1,2,7,9,23,24,25,32,33,34,41,42,43] (λx=>[(2,.own (.box (.agg [eOs 16 false F2_ x.1,I x.2.1,I x.2.2.1]))),(43,.d (I x.2.2.2))]) ht11  [Hi F8_ h7,Ha (lnM F8_ x_.O)] λ⟨i8,ix,jv,my⟩ su nb aw hl3 se pw=>?_;obtain c6|c6:=zA aw
   ·obtain⟨fy,h8,aw⟩:=zp c6.2;refine yC 112100112011001120110011001 [J1,J7,J8,J9,J10,se] [1,2,7,9,11,23,24,25,32,33,34,41,42,43] [c6,Hi F8_ h8,Hh (.stp 0)] ?_;obtain⟨am,h9,aw⟩:=zp aw;obtain c7|c7:=zA aw
    ·cases c7.2;cases hl3;cases ah;cases hl2;cases ae;cases hl1;cases aa;exact yD 5 [2] ((xz (H:=zd 10) bz _ _ _ h9).2 c7.1) [.atom bz,z6S [gq,a6,fy]] inferInstance [Hm (shM F8_ F8_ ([gq,a6,fy]))] λst0=>hD rfl st0
    cases c7.2;exact yB (H:=zx ((vP (P:=prog) wM [2] ((xz (H:=zd 10) bz _ _ _ h9).1 c7.1) 52).or X0)) pw _ hl3 [Hm (shM F8_ F8_ ([gq,a6,fy])),Hn (Zq (f:=.fn 219 []) (xs:=[.atom bz,yQ [gq,a6,fy]]) (ls:=[(bz,.box (.agg [eOs 16 false F2_ i8,I ix,I jv]))]) (r:=.tup []) (ys:=[.box (.agg [eOs 16 false F2_ am.1.x,I am.1.s,I am.1.w])]) [.atom bz,z6S [gq,a6,fy]] (show QS [.atom bz,z6S [gq,a6,fy]] [.atom bz,yQ [gq,a6,fy]] from inferInstance))]
   cases c6.2;cases hl3;exact yB hJ10 (i8,ix,jv) ah [c6]
  cases c5.2;cases hl2;exact yB lq (jw,ja,kn) ae [c5]
 cases c4.2;cases hl1;exact yB ar (jx,jb,ko) aa [c4]
def Uh [H:HS X0 zkD](bz:Value):∀(x0:Vb) (x_:zF) (b_:zb) (r0:zb×Bool),wc x0 x_ b_=some r0->z7X prog 229 [.agg [],.sptr (.agg [.agg [I x_.m_.j,I x_.m_.m,eSl 1 false xW x_.m_.i],eSl 1 false F8_ x_.q_,eSl 1 false F8_ x_.p_,eSl 1 false F8_ x_.O,eSl 1 false yQ x_.P,eSl 1 false F8_ x_.F,eSl 1 false F8_ x_.K]),.atom bz] ([bz].zip [.box (.agg [eOs 16 false F2_ b_.x,I b_.s,I b_.w])]) r0.2 (.iface 124 (.agg #[])) (.tup []) [.box (.agg [eOs 16 false F2_ r0.1.x,I r0.1.s,I r0.1.w])]:=by
 intro x0 x_ b_ r0 aa;refine z4R (tt:=wM) (nt:=f229.ntmps) (body:=zbd f229) [2] zu func229 rfl (by kernel_rfl) rfl rfl (by show(3:Nat)<=48;decide) (by decide) rfl rfl rfl (λE hE hD=>?_);refine yMb 1110 [] [1,2,15,16,17] (λx=>[(2,.own (.box (.agg [eOs 16 false F2_ x.1,I x.2.1,I x.2.2.1]))),(17,.d (I x.2.2.2))]) aa  [Ha (lnM F8_ x_.p_)] λt1 aa ⟨br,cp,fm,ba⟩ m1 av ae hl1 J1 ar=>?_;obtain c0|c0:=zA ae
 ·refine yNs 1110011 [J1] [1,2,15,16,17] (λz:List (zz Int)×Int×Int=>kH ba z.1 z.2.1 z.2.2=some av) (λz=>[(2,.own (.box (.agg [eOs 16 false F2_ z.1,I z.2.1,I z.2.2])))]) [c0,Hh (.cut 0)] ?_ λJ2 au=>?_
  ·rintro⟨bh,cj,fh⟩ ae;cases ae;exact yB ar _ hl1 []
  obtain⟨bj,h0,t3,ht3,ae⟩:=y8 c0.2;refine yM 111001120110 [J1,J2] [1,2,7,15,16,17,24,25,26] (λx=>[(2,.own (.box (.agg [eOs 16 false F2_ x.1,I x.2.1,I x.2.2.1]))),(26,.d (I x.2.2.2))]) ht3  [Hi F8_ h0,Ha (lnM F8_ x_.F)] λ⟨bm,ce,d0,gk⟩ m3 dj ah hl2 J3 bg=>?_;obtain c1|c1:=zA ah
  ·refine yNs 111001120110011 [J1,J2,J3] [1,2,7,15,16,17,24,25,26] (λz:List (zz Int)×Int×Int=>kG gk z.1 z.2.1 z.2.2=some dj) (λz=>[(2,.own (.box (.agg [eOs 16 false F2_ z.1,I z.2.1,I z.2.2])))]) [c1,Hh (.cut 0)] ?_ λJ4 db=>?_
   ·rintro⟨aq,bc,fj⟩ ah;cases ah;exact yB bg _ hl2 []
   obtain⟨a6,h1,r_,h2,t5,ht5,ah⟩:=jZ c1.2;refine yM 11100112011001120110 [J1,J2,J3,J4] [1,2,7,9,15,16,17,24,25,26,33,34,35] (λx=>[(2,.own (.box (.agg [eOs 16 false F2_ x.1,I x.2.1,I x.2.2.1]))),(35,.d (I x.2.2.2))]) ht5  [Hi F8_ h1,zC3 0 h2,Ha (lnM F8_ r_)] λ⟨ct,cg,dz,ib⟩ m5 nb aw hl3 J5 dc=>?_;obtain c2|c2:=zA aw
   ·obtain⟨dm,h3,aw⟩:=zp c2.2;refine yC 11100112011001120110011001 [J1,J2,J3,J4,J5] [1,2,7,9,11,15,16,17,24,25,26,33,34,35] [c2,Hi F8_ h3,Hh (.stp 0)] ?_;obtain⟨ai,h4,aw⟩:=zp aw;obtain c3|c3:=zA aw
    ·cases c3.2;cases hl3;cases ah;cases hl2;cases ae;cases hl1;cases aa;exact yD 5 [2] ((xz (H:=zd 10) bz _ _ _ h4).2 c3.1) [.atom bz,z6S [bj,a6,dm]] inferInstance [Hm (shM F8_ F8_ ([bj,a6,dm]))] λst0=>hD rfl st0
    cases c3.2;exact yB (H:=zx ((vP (P:=prog) wM [2] ((xz (H:=zd 10) bz _ _ _ h4).1 c3.1) 44).or X0)) dc _ hl3 [Hm (shM F8_ F8_ ([bj,a6,dm])),Hn (Zq (f:=.fn 219 []) (xs:=[.atom bz,yQ [bj,a6,dm]]) (ls:=[(bz,.box (.agg [eOs 16 false F2_ ct,I cg,I dz]))]) (r:=.tup []) (ys:=[.box (.agg [eOs 16 false F2_ ai.1.x,I ai.1.s,I ai.1.w])]) [.atom bz,z6S [bj,a6,dm]] (show QS [.atom bz,z6S [bj,a6,dm]] [.atom bz,yQ [bj,a6,dm]] from inferInstance))]
   cases c2.2;cases hl3;exact yB db (ct,cg,dz) ah [c2]
  cases c1.2;cases hl2;exact yB au (bm,ce,d0) ae [c1]
 cases c0.2;cases hl1;cases aa;exact yF .normal [(2,.own (.box (.agg [eOs 16 false F2_ br,I cp,I fm])))] [c0] λst0 h0=>hE rfl _ st0 (.inl rfl) (XA h0 ⟨⟨rfl,rfl⟩,trivial⟩)
def zlo:List y7:=z2F 37 zlC (eIf 77) rZ (eT2 (ePo Vd) eB) vT::zkD
def z1m [H:HS X0 zkD]:OkH zlo:=by
 have hE:∀b:zb,(A.agg [eOs 16 false F2_ b.x,eI .i64 b.s,eI .i64 b.w]).live=true/\(A.agg [eOs 16 false F2_ b.x,eI .i64 b.s,eI .i64 b.w]).shut=yz zlF rZ rZ b:=λb=>⟨z0H.live (f:=yz zoO rZ rZ) b,z0H.sh (f:=yz zoO rZ rZ) b⟩;refine UR ?_;rintro⟨x,s,most⟩ r0 aa;obtain⟨r,hr,aa⟩:=zp aa;obtain rfl:=xZ aa;have key:∀(T kf:Nat),(∀w,(method 392 T (.agg #[]) "gauntlet/suites.fill").run prog w=.ok (kf,.agg #[]) w)->(∀args w,(callFunc kf args).run prog w=.ok (.enter kf args) w) ->
   (∀bv,z7X prog kf [.agg [],zlC x,.atom bv] [(bv,.box (.agg [.osl 16 false [.agg (List.replicate 16 (.atom (.int .i32 0)))],.atom (.int .i64 0),.atom (.int .i64 most)]))] r.2 (.iface 124 (.agg #[])) (.tup []) [.box (.agg [eOs 16 false F2_ r.1.x,eI .i64 r.1.s,eI .i64 r.1.w])]) ->
   uM prog 37 [zlC x,.atom (.iface T (.agg #[])),.atom (.int .i64 most)] (.tup [ePo Vd (bif r.2 then none else some r.1),eB (!r.2)]):=by
  intro T kf h1 h2 h3;have q:=z7I h1 h2 rfl (hE r.1).1 (hE r.1).2 h3;refine q.le ?_;cases r.2
  ·exact(show LeV (.tup [.sptr (yz zlF rZ rZ r.1),.atom (.bool true)]) (.tup [.dop (poQ (some (yz zlF rZ rZ r.1))),.atom (.bool true)]) from inferInstance)
  exact(show LeV (.tup [.atom (.pointer none),.atom (.bool false)]) (.tup [.dop (poQ none),.atom (.bool false)]) from inferInstance)
 match s,hr with
 |0,hr=>exact key 77 218 Tryz.meth77 (λ_ _=>by kernel_rfl) λbv=>QT (H:=zd 10) bv ⟨⟩ x _ r hr
 |1,hr=>exact key 78 220 Tryz.meth78 (λ_ _=>by kernel_rfl) λbv=>UK (H:=zd 0) bv ⟨⟩ x _ r hr
 |2,hr=>exact key 79 229 Tryz.meth79 (λ_ _=>by kernel_rfl) λbv=>Uh (H:=zd 0) bv ⟨⟩ x _ r hr
 |n+3,hr=>cases hr
def xp:y7:=spR (α:=TA) (ρ:=TA) 112 (λx=>[(eOs 1 false F4_) x]) (λr=>zlE r) (λx=>xX x) [true] (zok)
def XE:∀x r,(λx=>xX x) x=some r->(KQ.add xp).run 112 ((KQ.add xp).norm 112 ((λx=>[(eOs 1 false F4_) x]) x))=some ((λr=>zlE r) r):=λx r h=>zn2 h rfl
def XF:(KQ.add xp).gives 112=[true]:=zhQ
def XP [H:HS X0 zlo]:xp.Ok prog:=by refine zae ?_;rintro s_ r0 aa;refine zY true func112 λE hE=>?_;cases aa;exact yE (H:=zx ((xCl zu 8).or X0)) hE [Ha (lnM F4_ s_),Ha (lnM F4_ s_),Hn (mZ _:(0:Int)<=((s_.length:Nat):Int)),Hn (mZ _:(0:Int)<=((s_.length:Nat):Int)),Hn (clB F4_ s_),Ha (clE 1 F4_ s_)]
def zn0:List y7:=Yj 69 (eSp Vd) zlE wQ::zlo
abbrev Ux (out:TA):List (Nat×T):=[(2,.own (eOs 1 false F4_ out))]
abbrev Uw (b_:zb)(ax:TA)(next:List zh):List (Nat×T):=[(0,.d (.sptr (Vd b_))),(2,.own (eOs 1 false F4_ ax)),(4,.own (eOs 2 false UI next))]
abbrev Uv (b_:zb)(ay:List zh)(ba:Int)(gx:TA)(ff:List zh):List (Nat×T):=[(0,.d (.sptr (Vd b_))),(2,.own (eOs 1 false F4_ gx)),(3,.own (eOs 2 false UI ay)),(4,.own (eOs 2 false UI ff)),(15,.als 3 [] 0 0),(16,.d (I ((ay.length:Nat):Int))),(17,.d (I ba))]
abbrev Uu (b_:zb)(ay:List zh)(bo:TA)(ba:Int)(a8:zh)(cb:List zh)(pu:Bool):List (Nat×T):=[(0,.d (.sptr (Vd b_))),(2,.own (eOs 1 false F4_ bo)),(3,.own (eOs 2 false UI ay)),(4,.own (eOs 2 false UI cb)),(6,.own (.box (UI a8))),(7,.d (B pu)),(15,.als 3 [] 0 0),(16,.d (I ((ay.length:Nat):Int))),(17,.d (I ba))]
abbrev Ut (b_:zb)(ay:List zh)(bo:TA)(ba:Int)(a8:zh)(a7:zz Int)(fg:Int)(og:List zh)(oh:Bool):List (Nat×T):=[(0,.d (.sptr (Vd b_))),(2,.own (eOs 1 false F4_ bo)),(3,.own (eOs 2 false UI ay)),(4,.own (eOs 2 false UI og)),(6,.own (.box (UI a8))),(7,.d (B oh)),(15,.als 3 [] 0 0),(16,.d (I ((ay.length:Nat):Int))),(17,.d (I ba)),(28,.d (F2_ a7)),(29,.d (I fg))]
abbrev Uq (b_:zb)(ay:List zh)(bo:TA)(ba:Int)(a8:zh)(a7:zz Int)(iq:List zh)(l9:Bool)(fg:Int):List (Nat×T):=[(0,.d (.sptr (Vd b_))),(2,.own (eOs 1 false F4_ bo)),(3,.own (eOs 2 false UI ay)),(4,.own (eOs 2 false UI iq)),(6,.own (.box (UI a8))),(7,.d (B l9)),(15,.als 3 [] 0 0),(16,.d (I ((ay.length:Nat):Int))),(17,.d (I ba)),(28,.d (F2_ a7)),(29,.d (I fg))]
abbrev Ur (b_:zb)(ay:List zh)(bo:TA)(cr:List zh)(ba:Int):List (Nat×T):=[(0,.d (.sptr (Vd b_))),(2,.own (eOs 1 false F4_ bo)),(3,.own (eOs 2 false UI ay)),(4,.own (eOs 2 false UI cr)),(15,.als 3 [] 0 0),(16,.d (I ((ay.length:Nat):Int))),(17,.d (I ba))]
abbrev Us (b_:zb)(aj:TA)(ay:List zh):List (Nat×T):=[(0,.d (.sptr (Vd b_))),(2,.own (eOs 1 false F4_ aj)),(3,.own (eOs 2 false UI ay))]
def uK:XH prog:=((X2 zu (.inl 52) [51]).or ((X2 zu (.inl 43) [42]).or ((X2 zu (.inl 11) [10]).or X0)))
def JW [H:HS uK zlo]:OkH zn0:=yS1 true func69 λb_ r0 aa E hE=>by
 refine yJ 111 [] [2] (λz:TA=>vX z=some r0) (λz=>Ux z) [(0,.d (.sptr (Vd b_))),(2,.own (eOs 1 true F8_ [])),(3,.own (eOs 2 true (yU (eI .i32) F4_) ([(zh.mk 0 [])])))] [Hm (shM rZ rZ []),Hh (.cut 0)] ?_ λJ1 ar=>?_
 ·rintro out aa;unfold vX at aa;obtain⟨r_,h0,aa⟩:=zp aa;obtain rfl:=xZ aa;exact yE (H:=zx ((z3X zu (XP (H:=zd 0)) 57).or uK)) hE [Hh (.g [true]),Hn XF,Hx (.a (zlE r_)) (XE out _ h0)]
 obtain⟨t2,ht2,aa⟩:=zp aa;refine yLx 11120 [J1] (λs=>vU b_ s.1 s.2) (λx=>Us b_ x.1 x.2) (([]:TA),([(zh.mk 0 [])]:List zh)) ht2 [(0,.d (.sptr (Vd b_))),(2,.own (eOs 1 true F4_ [])),(3,.own (eOs 2 true (yU (eI .i32) F4_) ([(zh.mk 0 [])])))] inferInstance [] λ⟨aj,ay⟩ m2 av ae hl1 J2 au=>?_;try unfold vU at ae
 let Z0:List HO:=[Ha (lnM UI ay)];obtain c0|c0:=zA ae
 ·refine yJ 111200101 [J1,J2] [0,2,4] (λz:TA×List zh=>vW z.1 z.2=some av) (λz=>Uw b_ z.1 z.2) [(0,.d (.sptr (Vd b_))),(2,.own (eOs 1 false F4_ aj)),(3,.own (eOs 2 false UI ay)),(4,.own (eOs 2 true UI []))] (Z0++[c0,Hh (.cut 1)]) ?_ λJ3 bg=>?_
  ·rintro⟨ax,next⟩ ae;unfold vW at ae;obtain rfl:=xZ ae;exact yB au _ hl1 []
  obtain⟨t4,ht4,ae⟩:=zp c0.2;refine yLx 111200101210 [J1,J2,J3] (λs=>yl b_ ay s.1 s.2.1 s.2.2) (λx=>Ur b_ ay x.1 x.2.1 x.2.2) (aj,([]:List zh),0) ht4 [(0,.d (.sptr (Vd b_))),(2,.own (eOs 1 false F4_ aj)),(3,.own (eOs 2 false UI ay)),(4,.own (eOs 2 true UI [])),(15,.als 3 [] 0 0),(16,.d (I ((ay.length:Nat):Int))),(17,.d (I 0))] inferInstance [Ha (lnM UI ay)] λ⟨bo,cr,ba⟩ m4 dj ah hl2 J4 db=>?_;try unfold yl at ah;obtain c1|c1:=zA ah
  ·refine yJ 111200101210011 [J1,J2,J3,J4] [0,2,3,4,15,16,17] (λz:TA×List zh=>wF ba z.1 z.2=some dj) (λz=>Uv b_ ay ba z.1 z.2) [(0,.d (.sptr (Vd b_))),(2,.own (eOs 1 false F4_ bo)),(3,.own (eOs 2 false UI ay)),(4,.own (eOs 2 false UI cr)),(15,.als 3 [] 0 0),(16,.d (I ((ay.length:Nat):Int))),(17,.d (I ba))] [c1,Hh (.cut 0)] ?_ λJ5 dc=>?_
   ·rintro⟨gx,ff⟩ ah;unfold wF at ah;obtain rfl:=xZ ah;exact yB db _ hl2 []
   obtain⟨a8,h1,ah⟩:=zp c1.2;refine yJ 1112001012100112011 [J1,J2,J3,J4,J5] [0,2,3,4,6,7,15,16,17] (λz:List zh×Bool=>vV bo ba a8 z.1 z.2=some dj) (λz=>Uu b_ ay bo ba a8 z.1 z.2) [(0,.d (.sptr (Vd b_))),(2,.own (eOs 1 false F4_ bo)),(3,.own (eOs 2 false UI ay)),(4,.own (eOs 2 false UI cr)),(6,.own (.box (UI a8))),(7,.d (B true)),(15,.als 3 [] 0 0),(16,.d (I ((ay.length:Nat):Int))),(17,.d (I ba))] [Hn (iL UI h1),Hs (iM UI h1),Hh (.cut 1)] ?_ λJ6 ep=>?_
   ·rintro⟨cb,pu⟩ ah;unfold vV at ah;obtain c2|c2:=zA ah
    ·obtain⟨ai,h2,ah⟩:=zp c2.2;obtain⟨g0,ah⟩:=gdE ah;exact yB dc ((bo++[ai]),cb) ah [c2,zC1 54 h2,Hq (dM F4_ [ai]),Hn (dM F4_ [ai]),Hn (aL F4_ F4_ g0),Hl (aM F4_ bo [ai])]
    exact yB dc (bo,cb) c2.2 [c2]
   obtain⟨a7,h3,t7,ht7,ah⟩:=y8 ah;refine yL 1112001012100112011210 [J1,J2,J3,J4,J5,J6] (λs=>yk a8 a7 s.1 s.2.1 s.2.2) (λx=>Uq b_ ay bo ba a8 a7 x.1 x.2.1 x.2.2) (cr,true,0) ht7  [Hi F2_ h3] λ⟨iq,l9,fg⟩ m7 nb aw hl3 J7 gw=>?_;try unfold yk at aw;obtain c3|c3:=zA aw
   ·refine yJ 1112001012100112011210011 [J1,J2,J3,J4,J5,J6,J7] [0,2,3,4,6,7,15,16,17,28,29] (λz:List zh×Bool=>wD fg z.1 z.2=some nb) (λz=>Ut b_ ay bo ba a8 a7 fg z.1 z.2) [(0,.d (.sptr (Vd b_))),(2,.own (eOs 1 false F4_ bo)),(3,.own (eOs 2 false UI ay)),(4,.own (eOs 2 false UI iq)),(6,.own (.box (UI a8))),(7,.d (B l9)),(15,.als 3 [] 0 0),(16,.d (I ((ay.length:Nat):Int))),(17,.d (I ba)),(28,.d (F2_ a7)),(29,.d (I fg))] [c3,Hh (.cut 0)] ?_ λJ8 lq=>?_
    ·rintro⟨og,oh⟩ aw;unfold wD at aw;obtain rfl:=xZ aw;exact yB gw _ hl3 []
    obtain⟨cell,h4,aw⟩:=zp c3.2;let Z1:List HO:=[Hs (iM (eI .i32) h4),Hn (ixV (k:=.i32) (tt:=wM) (e:=21) (l:=[a7.e0,a7.e1,a7.e2,a7.e3,a7.e4,a7.e5,a7.e6,a7.e7,a7.e8,a7.e9,a7.e10,a7.e11,a7.e12,a7.e13,a7.e14,a7.e15]) (λ_=>by kernel_rfl) h4 (m:=16) rfl)];obtain c4|c4:=zA aw
    ·obtain⟨ak,h5,aw⟩:=zp c4.2;obtain⟨g1,aw⟩:=gdE aw;obtain⟨g2,aw⟩:=gdE aw;exact yB (H:=zx ((znt zu 32).or uK)) lq ((iq++[(zh.mk cell (ak++[fg]))]),false) aw (Z1++[c4,zC1 54 h5,Hq (dM rZ [fg]),Hn (dM rZ [fg]),Hn (aN rZ rZ g1 (by simp)),Hl (aM rZ ak [fg]),Hm (shM rZ rZ (ak++[fg])),Hq (dM UI [(zh.mk cell (ak++[fg]))]),Hn (dM UI [(zh.mk cell (ak++[fg]))]),Hn (aL UI UI g2),Hl (aM UI iq [(zh.mk cell (ak++[fg]))])])
    exact yB (H:=zx ((znt zu 32).or uK)) lq (iq,l9) c4.2 (Z1++[c4])
   obtain rfl:=xZ c3.2;obtain rfl:=hl3;exact yB ep (iq,l9) ah [c3]
  obtain rfl:=xZ c1.2;obtain rfl:=hl2;exact yB bg (bo,cr) ae [c1]
 obtain rfl:=xZ c0.2;obtain rfl:=hl1;exact yB ar aj aa (Z0++[c0])
def zmZ:List y7:=zh0 35 (eIf 77) xa rZ rZ (eT2 ZX rZ) wt::zn0
def z2M [H:HS X0 zn0]:OkH zmZ:=yS4 false func35 λs_ m_ bound bf r0 aa E hE=>by
 obtain⟨r_,h0,aa⟩:=zp aa;let Z0:List HO:=[zC2 58 h0];obtain c0|c0:=zA aa
 ·cases c0.2;exact yE hE (Z0++[c0,Hm (shM F8_ F8_ [])])
 obtain c1|c1:=zA c0.2
 ·cases c1.2;exact yE hE (Z0++[c0,c1,c1,c1,qT,Hm (shM F8_ F8_ [])])
 let Z1:List HO:=(Z0++[c0,c1,c1,c1]);obtain c2|c2:=zA c1.2
 ·cases c2.2;exact yE hE (Z1++[c2,Hm (shM F8_ F8_ [])])
 obtain⟨ai,h1,aa⟩:=zp c2.2;let Z2:List HO:=(Z1++[c2,zC2 12 h1,Hn (rfl:T.d (ePo Jv ai.1)=T.d (ePo Jv ai.1))]);obtain c3|c3:=zA aa
 ·cases c3.2;exact yE (H:=zx ((xRe prog 11 (ePo Jv ai.1) (ePo Jv ai.1) (λ_ _ q=>q)).or X0)) hE (Z2++[c3,Hm (shM F8_ F8_ [])])
 obtain⟨there,h2,ak,h3,aa⟩:=y8 c3.2;let Z3:List HO:=(Z2++[c3,Hn (rfl:T.d (ePo Jv ai.1)=T.d (ePo Jv ai.1)),zC3 1 h3,Hn (rfl:T.d (ePo Vd ak.1)=T.d (ePo Vd ak.1))]);obtain c4|c4:=zA aa
 ·cases c4.2;exact yE (H:=zx ((xRe prog 13 (ePo Vd ak.1) (ePo Vd ak.1) (λ_ _ q=>q)).or ((xRe prog 38 (ePo Jv ai.1) (.sptr (.agg [.agg [I there.m_.j,I there.m_.m,eSl 1 false xW there.m_.i],eSl 1 false F8_ there.q_,eSl 1 false F8_ there.p_,eSl 1 false F8_ there.O,eSl 1 false yQ there.P,eSl 1 false F8_ there.F,eSl 1 false F8_ there.K])) (poM (f:=Jv) h2)).or ((xRe prog 11 (ePo Jv ai.1) (ePo Jv ai.1) (λ_ _ q=>q)).or X0)))) hE (Z3++[c4,Hm (shM F8_ F8_ [])])
 obtain⟨ee,h4,am,h5,az,h6,aa⟩:=jZ c4.2;let Z4:List HO:=(Z3++[c4,Hn (rfl:T.d (ePo Vd ak.1)=T.d (ePo Vd ak.1)),zC1 0 h5,zg 32,Hm (shM F4_ F4_ am),Hs (zf2 32 h6 (loC ZX am<|loC rZ m_.j<|loN))]);obtain c5|c5:=zA aa
 ·cases c5.2;exact yE (H:=zx ((xRe prog 46 (ePo Vd ak.1) (.sptr (.agg [eSl 16 false F2_ ee.x,I ee.s,I ee.w])) (poM (f:=Vd) h4)).or ((xRe prog 13 (ePo Vd ak.1) (ePo Vd ak.1) (λ_ _ q=>q)).or ((xRe prog 38 (ePo Jv ai.1) (.sptr (.agg [.agg [I there.m_.j,I there.m_.m,eSl 1 false xW there.m_.i],eSl 1 false F8_ there.q_,eSl 1 false F8_ there.p_,eSl 1 false F8_ there.O,eSl 1 false yQ there.P,eSl 1 false F8_ there.F,eSl 1 false F8_ there.K])) (poM (f:=Jv) h2)).or ((xRe prog 11 (ePo Jv ai.1) (ePo Jv ai.1) (λ_ _ q=>q)).or X0))))) hE (Z4++[c5,Hm (shM F8_ F8_ [])])
 cases c5.2;exact yE (H:=zx ((xRe prog 46 (ePo Vd ak.1) (.sptr (.agg [eSl 16 false F2_ ee.x,I ee.s,I ee.w])) (poM (f:=Vd) h4)).or ((xRe prog 13 (ePo Vd ak.1) (ePo Vd ak.1) (λ_ _ q=>q)).or ((xRe prog 38 (ePo Jv ai.1) (.sptr (.agg [.agg [I there.m_.j,I there.m_.m,eSl 1 false xW there.m_.i],eSl 1 false F8_ there.q_,eSl 1 false F8_ there.p_,eSl 1 false F8_ there.O,eSl 1 false yQ there.P,eSl 1 false F8_ there.F,eSl 1 false F8_ there.K])) (poM (f:=Jv) h2)).or ((xRe prog 11 (ePo Jv ai.1) (ePo Jv ai.1) (λ_ _ q=>q)).or X0))))) hE (Z4++[c5,Hm (shM F4_ F4_ am)])
def zmY:List y7:=z2F 10 xa rZ rZ (eT2 ZX rZ) W1::zmZ
def z9i [H:HS X0 zmZ]:OkH zmY:=yS3 false func10 λm_ bound bf r0 aa E hE=>by obtain⟨r_,h0,aa⟩:=zp aa;cases aa;exact yE (H:=zx ((zgm prog 9 77 underlying77).or X0)) hE [zC4 0 h0]
def zmX:List y7:=z2F 11 xa rZ rZ (eT2 ZX rZ) UP::zmY
def z6Z [H:HS X0 zmY]:OkH zmX:=yS3 false func11 λm_ bound bf r0 aa E hE=>by obtain⟨r_,h0,aa⟩:=zp aa;cases aa;exact yE (H:=zx ((zgm prog 9 78 underlying78).or X0)) hE [zC4 1 h0]
def zmW:List y7:=z2F 12 xa rZ rZ (eT2 ZX rZ) WW::zmX
def z5l [H:HS X0 zmX]:OkH zmW:=yS3 false func12 λm_ bound bf r0 aa E hE=>by obtain⟨r_,h0,aa⟩:=zp aa;cases aa;exact yE (H:=zx ((zgm prog 9 79 underlying79).or X0)) hE [zC4 2 h0]
def zmV:List y7:=uN 13 xa rZ (eT2 F1_ rZ) Y7::zmW
def z2N [H:HS X0 zmW]:OkH zmV:=yS2 false func13 λm_ bound r0 aa E hE=>by
 obtain⟨r_,h0,aa⟩:=zp aa;let Z0:List HO:=[zC2 62 h0];obtain c0|c0:=zA aa
 ·cases c0.2;exact yE hE (Z0++[c0])
 obtain⟨ai,h1,aa⟩:=zp c0.2;let Z1:List HO:=(Z0++[c0,zC2 16 h1,Hn (rfl:T.d (ePo Jv ai.1)=T.d (ePo Jv ai.1))]);obtain c1|c1:=zA aa
 ·cases c1.2;exact yE (H:=zx ((xRe prog 7 (ePo Jv ai.1) (ePo Jv ai.1) (λ_ _ q=>q)).or X0)) hE (Z1++[c1])
 refine yK (H:=zx ((xRe prog 7 (ePo Jv ai.1) (ePo Jv ai.1) (λ_ _ q=>q)).or X0)) 11111 [] [4] (zI Xd r0) (λz=>[(4,.own (.box (F1_ z)))]) [4,7] (Z1++[c1,Hh (.cut 0)]) ?_ λJ1 ar=>?_
 ·rintro n_ aa;cases aa;exact yE hE []
 refine yMb (H:=zx ((zgm prog 33 79 underlying79).or ((zgm prog 31 78 underlying78).or ((zgm prog 29 77 underlying77).or X0)))) 11111210 [J1] [4,7,34,35,36] (λx=>[(4,.own (.box (F1_ x.1))),(36,.d (I x.2))]) c1.2  [Ha (lnM (eIf 77) ([0,1,2]:TC))] λt2 aa ⟨ca,kl⟩ m2 av ae hl1 J2 au=>?_;obtain c2|c2:=zA ae
 ·obtain⟨mj,h2,there,h3,ak,h4,ae⟩:=jZ c2.2;let Z2:List HO:=[c2,Hn (iL (eIf 77) h2),Hs (iM (eIf 77) h2),Hn (rfl:T.d (ePo Jv ai.1)=T.d (ePo Jv ai.1)),zC3 5 h4,Hn (rfl:T.d (ePo Vd ak.1)=T.d (ePo Vd ak.1))];obtain c3|c3:=zA ae
  ·cases c3.2;cases hl1;cases aa;exact yE (H:=zx ((xRe prog 10 (ePo Vd ak.1) (ePo Vd ak.1) (λ_ _ q=>q)).or ((xRe prog 42 (ePo Jv ai.1) (.sptr (.agg [.agg [I there.m_.j,I there.m_.m,eSl 1 false xW there.m_.i],eSl 1 false F8_ there.q_,eSl 1 false F8_ there.p_,eSl 1 false F8_ there.O,eSl 1 false yQ there.P,eSl 1 false F8_ there.F,eSl 1 false F8_ there.K])) (poM (f:=Jv) h3)).or X0))) hE (Z2++[c3])
  obtain⟨ee,h5,cell,h6,arr,h7,ae⟩:=jZ c3.2;replace h7:=xZ h7;cases ae;exact yB (H:=zx ((xRe prog 51 (ePo Vd ak.1) (.sptr (.agg [eSl 16 false F2_ ee.x,I ee.s,I ee.w])) (poM (f:=Vd) h5)).or ((xRe prog 10 (ePo Vd ak.1) (ePo Vd ak.1) (λ_ _ q=>q)).or ((xRe prog 42 (ePo Jv ai.1) (.sptr (.agg [.agg [I there.m_.j,I there.m_.m,eSl 1 false xW there.m_.i],eSl 1 false F8_ there.q_,eSl 1 false F8_ there.p_,eSl 1 false F8_ there.O,eSl 1 false yQ there.P,eSl 1 false F8_ there.F,eSl 1 false F8_ there.K])) (poM (f:=Jv) h3)).or X0)))) au _ hl1 (Z2++[c3,Hn (rfl:T.d (ePo Vd ak.1)=T.d (ePo Vd ak.1)),Hn (⟨arJ (by kernel_rfl) (i0 h6),(iL rZ h6).2⟩:k7 wM 36 ((XY.toL ca).map rZ) kl=true/\kl.toNat<((XY.toL ca).map rZ).length),Hh (.op 7),Hh (.f),Hs (iM rZ h6),Hh (.f),Hs (iM rZ h6),Hx (.l ((XY.toL arr).map rZ)) ((XY.setL rZ ca kl (mx ee.s 1)).trans (congrArg (λq=>(XY.toL q).map rZ) h7))])
 cases c2.2;cases hl1;exact yB ar ca aa [c2]
def zmU:List y7:=uN 48 rZ rZ (eOs 1 false F7_) Xn::zmV
def z4e [H:HS X0 zmV]:OkH zmU:=yS2 true func48 λinputs k_ r0 aa E hE=>by
 refine yK 111 [] [5] (zI Jp r0) (λz=>[(5,.own (eOs 1 false F7_ z))]) [0,1,5] [Hh (.cut 2)] ?_ λJ1 ar=>?_
 ·rintro out aa;cases aa;exact yE hE []
 obtain⟨t2,ht2,aa⟩:=zp aa;refine yMx 111210 [J1] [0,1,5,6] (λx=>[(5,.own (eOs 1 false F7_ x.1)),(6,.d (I x.2))]) ht2 [(5,.own (eOs 1 true F5_ ([[]]))),(6,.d (I 0))] [] λ⟨aj,n_⟩ m2 av ae hl1 J2 au=>?_;obtain c0|c0:=zA ae
 ·refine yNs 11121001 [J1,J2] [0,1,5,6] (zI (Ww n_) av) (λz=>[(5,.own (eOs 1 false F7_ z))]) [c0,Hh (.cut 0)] ?_ λJ3 bg=>?_
  ·rintro ax ae;cases ae;exact yB au _ hl1 []
  refine yN 11121001201 [J1,J2,J3] [0,1,6,7] (zI (Wv n_) av) (λz=>[(7,.own (eOs 1 false F7_ z))]) [0,1,5,6,7] [Hh (.cut 1)] ?_ λJ4 db=>?_
  ·rintro next ae
   exact yB bg next ae []
  obtain⟨t5,ht5,ae⟩:=zp c0.2;refine yMx 11121001201210 [J1,J2,J3,J4] [0,1,5,6,7,8] (λx=>[(7,.own (eOs 1 false F7_ x.1)),(8,.d (I x.2))]) ht5 [(7,.own (eOs 1 true F7_ [])),(8,.d (I 0))] [] λ⟨cr,i_⟩ m5 dj ah hl2 J5 dc=>?_;let Z0:List HO:=[Ha (lnM F7_ aj)];obtain c1|c1:=zA ah
  ·refine yNs 1112100120121001 [J1,J2,J3,J4,J5] [0,1,5,6,7,8] (zI (Wu i_) dj) (λz=>[(7,.own (eOs 1 false F7_ z))]) (Z0++[c1,Hh (.cut 0)]) ?_ λJ6 ep=>?_
   ·rintro ff ah;cases ah;exact yB dc _ hl2 []
   refine yMb 11121001201210012010 [J1,J2,J3,J4,J5,J6] [0,1,5,6,7,8,9] (λx=>[(7,.own (eOs 1 false F7_ x.1)),(9,.d (I x.2))]) c1.2  [] λt7 ah ⟨cb,s_⟩ m7 nb aw hl3 J7 gw=>?_;obtain c2|c2:=zA aw
   ·obtain⟨dn,h0,aw⟩:=zp c2.2;obtain⟨g0,aw⟩:=gdE aw;obtain⟨g1,aw⟩:=gdE aw;obtain⟨g2,aw⟩:=gdE aw;cases aw;exact yB gw _ hl3 [c2,Hn (iL F7_ h0),Hs (iM F7_ h0),Hs (iM F7_ h0),Hq (dM rZ dn),Hs (iM F7_ h0),Hn (dM rZ dn),Hn (aL rZ rZ g0),Hl (aM0 rZ dn),Hq (dM rZ [s_]),Hn (dM rZ [s_]),Hn (aL rZ rZ g1),Hl (aM rZ dn [s_]),Hq (oC F7_ (dn++[s_]) []),Hn (aL F7_ F7_ g2),Hl (aM F7_ cb [(dn++[s_])])]
   cases c2.2;cases hl3;exact yB ep cb ah [c2]
  cases c1.2;cases hl2;exact yB db cr ae (Z0++[c1])
 cases c0.2;cases hl1;exact yB ar aj aa [c0]
def zmT:List y7:=uN 39 rZ rZ z0F qG::zmU
def z6Q:XH prog:=((X2 zu (.inl 16) [15]).or X0)
def z5n [H:HS z6Q zmU]:OkH zmT:=yS2 true func39 λinputs k_ r0 aa E hE=>by
 refine yK 111 [] [5] (zI Kl r0) (λz=>[(5,.own (eOs 1 false F8_ z))]) [0,1,5] [Hh (.cut 2)] ?_ λJ1 ar=>?_
 ·rintro out aa;cases aa;exact yE hE []
 obtain⟨t2,ht2,aa⟩:=zp aa;refine yMx 111210 [J1] [0,1,5,6] (λx=>[(5,.own (eOs 1 false F8_ x.1)),(6,.d (I x.2))]) ht2 [(5,.own (eOs 1 true F8_ [])),(6,.d (I 0))] [] λ⟨aj,n_⟩ m2 av ae hl1 J2 au=>?_;obtain c0|c0:=zA ae
 ·obtain⟨r_,h0,ae⟩:=zp c0.2;obtain⟨g0,ae⟩:=gdE ae;cases ae;exact yB au _ hl1 [c0,zC2 0 h0,Hm (shM F7_ F8_ r_),Hn (dM F8_ r_),Hn (aL F8_ F8_ g0),Hl (aM F8_ aj r_)]
 cases c0.2;cases hl1;exact yB ar aj aa [c0]
def zmS:List y7:=uN 60 F8_ F8_ rZ wY::zmT
def z1n [H:HS X0 zmT]:OkH zmS:=yS2 true func60 λa_ b_ r0 aa E hE=>by
 let Z0:List HO:=[Ha (lnM rZ a_),Ha (lnM rZ b_)];obtain c0|c0:=zA aa
 ·let Z1:List HO:=(Z0++[c0,Ha (lnM rZ a_),Ha (lnM rZ b_)]);obtain c1|c1:=zA c0.2
  ·cases c1.2;exact yE hE (Z1++[c1])
  cases c1.2;exact yE hE (Z1++[c1])
 refine yK 111 [] [] (λz:Unit=>Ub=some r0) (λz=>[]) [0,1] (Z0++[c0,Hh (.cut 0)]) ?_ λJ1 ar=>?_
 ·rintro⟨⟩ aa;cases aa;exact yE hE []
 refine yMb 111210 [J1] [0,1,5] (λx=>[(5,.d (I x))]) c0.2  [] λt2 aa i_ m2 av ae hl1 J2 au=>?_;obtain c2|c2:=zA ae
 ·obtain⟨dv,h0,dx,h1,ae⟩:=y8 c2.2;let Z2:List HO:=[Ha (lnM rZ a_),c2,Hi rZ h0,Hi rZ h1];obtain c3|c3:=zA ae
  ·cases c3.2;cases hl1;cases aa;exact yE hE (Z2++[c3])
  obtain⟨i6,h2,l6,h3,ae⟩:=y8 c3.2;let Z3:List HO:=(Z2++[c3,Hi rZ h2,Hi rZ h3]);obtain c4|c4:=zA ae
  ·cases c4.2;cases hl1;cases aa;exact yE hE (Z3++[c4])
  cases c4.2;exact yB au _ hl1 (Z3++[c4])
 cases c2.2;cases hl1;exact yB ar () aa [Ha (lnM rZ a_),c2]
def zmR:List y7:=uN 63 z0F F8_ z0F Q2 [true,false]::zmS
def z2B:XH prog:=((X2 zu (.inr 66) [65]).or ((X2 zu (.inl 44) [43]).or X0))
def z73 [H:HS z2B zmS]:OkH zmR:=yS2 true func63 λl_ w_ r0 aa E hE=>by
 refine yN 1111 [] [0,1,5] (zI (Q1 l_ w_) r0) (λz=>[(5,.d (I z))]) [0,1,5,6] [Ha (lnM F8_ l_),Hh (.cut 0)] ?_ λJ1 ar=>?_
 ·rintro ir aa;refine yNs 11111 [] [0,1,5] (λz:Unit=>Ya l_ w_ ir=some r0) (λz=>[]) [Hh (.cut 0)] ?_ λJ2 au=>?_
  ·rintro⟨⟩ aa;obtain⟨g0,aa⟩:=gdE aa;refine yNs (H:=zx ((xNb zu 43).or z2B)) 1111111 [] [0,1,5] (zI (Q0 w_ ir) r0) (λz=>[(0,.own (eOs 1 false F8_ z))]) [Hm (shM F7_ F8_ ([[]])),Hn (dM F8_ ([[]]:TA)),Hn (aL F8_ F8_ g0),Hl (aM F8_ l_ ([[]]:TA)),Hh (.cut 0)] ?_ λJ3 bg=>?_
   ·rintro dr aa;obtain⟨g1,aa⟩:=gdE aa;obtain⟨bi,h0,aa⟩:=zp aa;cases aa;exact yE hE [Hn (dM rZ w_),Hn (aL rZ rZ g1),Hl (aM0 rZ w_),Hn (iL F8_ h0),Hm (shM rZ rZ w_),Hs (iM F8_ h0),Hs (iM F8_ h0),Hl (sM F8_ dr ir w_)]
   refine yMb 1111111210 [J3] [0,1,5,8] (λx=>[(0,.own (eOs 1 false F8_ x.1)),(8,.d (I x.2))]) aa  [Ha (lnM F8_ (l_++([[]]:TA)))] λt4 aa ⟨j6,i_⟩ m4 av ae hl1 J4 db=>?_;obtain c0|c0:=zA ae
   ·obtain⟨ew,h1,nu,h2,ae⟩:=y8 c0.2;cases ae;exact yB db _ hl1 [c0,Hn (iL F8_ h1),Hs (iM F8_ h1),Hn (iL F8_ h2),Hs (iM F8_ h2),Hs (iM F8_ h2),Hl (sM F8_ j6 i_ ew)]
   cases c0.2;cases hl1;exact yB bg j6 aa [c0]
  let Z0:List HO:=[Ha (lnM F8_ l_)];obtain c1|c1:=zA aa
  ·obtain⟨ow,h3,r_,h4,aa⟩:=y8 c1.2;let Z1:List HO:=(Z0++[c1,c1,c1,Hn (iL F8_ h3),c1,Hs (iM F8_ h3),c1,c1,zC2 0 h4,c1,c1]);obtain c2|c2:=zA aa
   ·cases c2.2;exact yE hE (Z1++[c2])
   exact yB au () c2.2 (Z1++[c2])
  exact yB au () c1.2 (Z0++(rpN 8 (Hb c1) [qF]))
 refine yMb 111120 [J1] [0,1,5,6] (λx=>[(5,.d (I x.1)),(6,.d (I x.2))]) aa  [] λt5 aa ⟨lb,l5⟩ m5 av ae hl1 J5 dc=>?_;obtain c3|c3:=zA ae
 ·obtain⟨g2,ae⟩:=gdE c3.2;obtain⟨ox,h5,ai,h6,ae⟩:=y8 ae;let Z2:List HO:=[c3,Hn g2,Hn (iL F8_ h5),Hs (iM F8_ h5),zC2 0 h6];obtain c4|c4:=zA ae
  ·cases c4.2;exact yB dc _ hl1 (Z2++[c4])
  cases c4.2;exact yB dc _ hl1 (Z2++[c4])
 cases c3.2;cases hl1;exact yB ar lb aa [c3]
def zmQ:List y7:=Yj 31 yQ z0F YV::zmR
def z5o [H:HS X0 zmR]:OkH zmQ:=yS1 true func31 λl_ r0 aa E hE=>by
 refine yK 111 [] [3] (zI Km r0) (λz=>[(3,.own (eOs 1 false F8_ z))]) [0,3] [Hh (.cut 2)] ?_ λJ1 ar=>?_
 ·rintro out aa;cases aa;exact yE hE []
 obtain⟨t2,ht2,aa⟩:=zp aa;refine yMx 111210 [J1] [0,3,4] (λx=>[(3,.own (eOs 1 false F8_ x.1)),(4,.d (I x.2))]) ht2 [(3,.own (eOs 1 true F8_ [])),(4,.d (I 0))] [] λ⟨aj,i_⟩ m2 av ae hl1 J2 au=>?_;let Z0:List HO:=[Ha (lnM F8_ l_)];obtain c0|c0:=zA ae
 ·obtain⟨bi,h0,r_,h1,ae⟩:=y8 c0.2;cases ae;exact yB au _ hl1 (Z0++[c0,Hi F8_ h0,zC2 0 h1])
 cases c0.2;cases hl1;exact yB ar aj aa (Z0++[c0])
def zmP:List y7:=Yj 45 xa z0F jV::zmQ
def z2S [H:HS X0 zmQ]:OkH zmP:=yS1 true func45 λm_ r0 aa E hE=>by obtain⟨r_,h0,ai,h1,aa⟩:=y8 aa;cases aa;exact yE hE [zC1 100 h0,Hk [] (z2m (hat 0)) (zf1 0 h1 (loC z6S r_.1<|loN))]
def zmO:List y7:=uN 40 yQ yQ z0F xC::zmP
def z2V [H:HS X0 zmP]:OkH zmO:=yS2 true func40 λa_ b_ r0 aa E hE=>by
 refine yK 111 [] [5] (zI Q5 r0) (λz=>[(5,.own (eOs 1 false F8_ z))]) [0,1,5] [Hh (.cut 2)] ?_ λJ1 ar=>?_
 ·rintro out aa;cases aa;exact yE hE []
 obtain⟨t2,ht2,aa⟩:=zp aa;refine yMx 111210 [J1] [0,1,5,6] (λx=>[(5,.own (eOs 1 false F8_ x.1)),(6,.d (I x.2))]) ht2 [(5,.own (eOs 1 true F8_ [])),(6,.d (I 0))] [] λ⟨aj,i_⟩ m2 av ae hl1 J2 au=>?_;let Z0:List HO:=[Ha (lnM F8_ a_)];obtain c0|c0:=zA ae
 ·refine yNs 11121001 [J1,J2] [0,1,5,6] (zI (Xo i_) av) (λz=>[(5,.own (eOs 1 false F8_ z))]) (Z0++[c0,Hh (.cut 0)]) ?_ λJ3 bg=>?_
  ·rintro ax ae;cases ae;exact yB au _ hl1 []
  refine yMb 111210012010 [J1,J2,J3] [0,1,5,6,7] (λx=>[(5,.own (eOs 1 false F8_ x.1)),(7,.d (I x.2))]) c0.2  [] λt4 ae ⟨bo,k_⟩ m4 dj ah hl2 J4 db=>?_;let Z1:List HO:=[Ha (lnM F8_ b_)];obtain c1|c1:=zA ah
  ·obtain⟨dv,h0,ah⟩:=zp c1.2;obtain⟨g0,ah⟩:=gdE ah;obtain⟨dx,h1,ah⟩:=zp ah;obtain⟨g1,ah⟩:=gdE ah;obtain⟨r_,h2,ah⟩:=zp ah;cases ah;exact yB db _ hl2 (Z1++[c1,Hi F8_ h0,Hn (dM rZ dv),Hn (aL rZ rZ g0),Hl (aM0 rZ dv),Hi F8_ h1,Hn (dM rZ dx),Hn (aL rZ rZ g1),Hl (aM rZ dv dx),zg 2,Hm (shM rZ rZ (dv++dx)),Hs (zf2 2 h2 (loC z0F bo<|loC F8_ (dv++dx)<|loN))])
  cases c1.2;cases hl2;exact yB bg bo ae (Z1++[c1])
 cases c0.2;cases hl1;exact yB ar aj aa (Z0++[c0])
def zmN:List y7:=uN 78 xa rZ z0F Wt::zmO
def z0P [H:HS X0 zmO]:OkH zmN:=yS2 true func78 λm_ k_ r0 aa E hE=>by obtain⟨r_,h0,ai,h1,ak,h2,aa⟩:=jZ aa;cases aa;exact yE hE [zC1 1 h0,zC2 5 h1,zg 0,Hm (shM F8_ F8_ r_),Hm (shM F8_ F8_ ai),Hs (zf2 0 h2 (loC yQ r_<|loC yQ ai<|loN)),Hm (shM F8_ F8_ r_),Hm (shM F8_ F8_ ai)]
def zmM:List y7:=Yj 41 xa z0F wy::zmN
def Jx [H:HS X0 zmN]:OkH zmM:=yS1 true func41 λm_ r0 aa E hE=>by obtain⟨r_,h0,aa⟩:=zp aa;cases aa;exact yE hE [zC2 0 h0]
def zmL:List y7:=z2F 61 xa rZ F8_ F7_ Qe::zmM
def z78 [H:HS X0 zmM]:OkH zmL:=yS3 true func61 λm_ s_ w_ r0 aa E hE=>by
 refine yK 111 [] [7] (zI Qd r0) (λz=>[(7,.own (eOs 1 false rZ z))]) [1,2,3,7] [Hh (.cut 2)] ?_ λJ1 ar=>?_
 ·rintro out aa;cases aa;exact yE hE []
 obtain⟨t2,ht2,aa⟩:=zp aa;refine yMx 111210 [J1] [1,2,3,7,8] (λx=>[(1,.d (I x.1)),(7,.own (eOs 1 false rZ x.2.1)),(8,.d (I x.2.2))]) ht2 [(1,.d (I s_)),(7,.own (eOs 1 true rZ [])),(8,.d (I 0))] [] λ⟨bk,aj,k_⟩ m2 av ae hl1 J2 au=>?_;obtain c0|c0:=zA ae
 ·obtain⟨fc,h0,r_,h1,ae⟩:=y8 c0.2;obtain⟨g0,ae⟩:=gdE ae;cases ae;exact yB au _ hl1 [Ha (lnM rZ w_),c0,Hi rZ h0,zC3 108 h1,Hq (dM rZ [r_.r]),Hn (dM rZ [r_.r]),Hn (aL rZ rZ g0),Hl (aM rZ aj [r_.r])]
 cases c0.2;cases hl1;exact yB ar aj aa [Ha (lnM rZ w_),c0]
def zmK:List y7:=uN 191 F8_ F8_ rZ VB::zmL
def z1s [H:HS X0 zmL]:OkH zmK:=yS2 true func191 λa_ b_ r0 aa E hE=>by
 let Z0:List HO:=[Ha (lnM rZ a_),Ha (lnM rZ b_)];obtain c0|c0:=zA aa
 ·cases c0.2;exact yE hE (Z0++[c0])
 let Z1:List HO:=(Z0++[c0,Ha (lnM rZ a_),Ha (lnM rZ b_)]);obtain c1|c1:=zA c0.2
 ·cases c1.2;exact yE hE (Z1++[c1])
 refine yK 1111 [] [] (λz:Unit=>Yx=some r0) (λz=>[]) [0,1] (Z1++[c1,Hh (.cut 0)]) ?_ λJ1 ar=>?_
 ·rintro⟨⟩ aa;cases aa;exact yE hE []
 refine yMb 1111210 [J1] [0,1,5] (λx=>[(5,.d (I x))]) c1.2  [] λt2 aa i_ m2 av ae hl1 J2 au=>?_;obtain c2|c2:=zA ae
 ·obtain⟨dv,h0,dx,h1,ae⟩:=y8 c2.2;let Z2:List HO:=[Ha (lnM rZ a_),c2,Hi rZ h0,Hi rZ h1];obtain c3|c3:=zA ae
  ·cases c3.2;cases hl1;cases aa;exact yE hE (Z2++[c3])
  obtain⟨i6,h2,l6,h3,ae⟩:=y8 c3.2;let Z3:List HO:=(Z2++[c3,Hi rZ h2,Hi rZ h3]);obtain c4|c4:=zA ae
  ·cases c4.2;cases hl1;cases aa;exact yE hE (Z3++[c4])
  cases c4.2;exact yB au _ hl1 (Z3++[c4])
 cases c2.2;cases hl1;exact yB ar () aa [Ha (lnM rZ a_),c2]
def zmJ:List y7:=uN 170 F8_ F8_ eB QD::zmK
def z5u [H:HS X0 zmK]:OkH zmJ:=yS2 true func170 λa_ b_ r0 aa E hE=>by obtain⟨r_,h0,aa⟩:=zp aa;cases aa;exact yE hE [zC2 0 h0]
def zmI:List y7:=zh0 151 xa F8_ rZ rZ rZ W5::zmJ
def z2X [H:HS X0 zmJ]:OkH zmI:=yS4 true func151 λm_ w_ s_ t_ r0 aa E hE=>by
 obtain⟨r_,h0,ai,h1,ak,h2,aa⟩:=jZ aa;let Z0:List HO:=[zC3 2 h0,zC3 2 h1,zg 0,Hm (shM rZ rZ r_),Hm (shM rZ rZ ai),Hs (zf2 0 h2 (loC F8_ r_<|loC F8_ ai<|loN))];obtain c0|c0:=zA aa
 ·cases c0.2;exact yE hE (Z0++[c0])
 cases c0.2;exact yE hE (Z0++[c0])
def zmH:List y7:=uN 150 F8_ rZ F7_ z04::zmI
def z5q [H:HS X0 zmI]:OkH zmH:=yS2 true func150 λw_ inputs r0 aa E hE=>by
 obtain⟨g0,aa⟩:=gdE aa;refine yK 111 [] [5] (zI Kp r0) (λz=>[(5,.own (eOs 1 false rZ z))]) [1,5] [Hn (dM rZ w_),Hn (aL rZ rZ g0),Hl (aM0 rZ w_),Hh (.cut 0)] ?_ λJ1 ar=>?_
 ·rintro out aa;obtain⟨g1,aa⟩:=gdE aa;cases aa;exact yE hE [Hq (dM rZ ([0]:TB)),Hn (dM rZ ([0]:TB)),Hn (aL rZ rZ g1),Hl (aM rZ out ([0]:TB))]
 refine yMb 111210 [J1] [1,5,6] (λx=>[(5,.own (eOs 1 false rZ x.1)),(6,.d (I x.2))]) aa  [Ha (lnM rZ w_)] λt2 aa ⟨aj,k_⟩ m2 av ae hl1 J2 au=>?_;obtain c0|c0:=zA ae
 ·obtain⟨dn,h0,ae⟩:=zp c0.2;let Z0:List HO:=[c0,Hn (iL rZ h0),Hs (iM rZ h0)];obtain c1|c1:=zA ae
  ·obtain⟨jr,h1,o7,h2,ae⟩:=y8 c1.2;cases ae;cases hl1;cases aa;exact yE hE (Z0++[c1,Hn (iL rZ h1),Hs (iM rZ h1),Hn (iL rZ h2),Hs (iM rZ h2),Hs (iM rZ h2),Hl (sM rZ aj k_ (w64 (jr+1)))])
  obtain⟨o8,h3,ae⟩:=zp c1.2;cases ae;exact yB au _ hl1 (Z0++[c1,Hn (iL rZ h3),Hs (iM rZ h3),Hs (iM rZ h3),Hl (sM rZ aj k_ 0)])
 cases c0.2;cases hl1;exact yB ar aj aa [c0]
def zmG:List y7:=z2F 121 xa rZ rZ (eT2 F8_ eB) wv::zmH
def z0Q [H:HS X0 zmH]:OkH zmG:=yS3 false func121 λm_ s_ t_ r0 aa E hE=>by
 refine yK 11 [] [] (λz:Unit=>V0=some r0) (λz=>[]) [1,2,3] [Hh (.cut 1)] ?_ λJ1 ar=>?_
 ·rintro⟨⟩ aa;cases aa;exact yEl hE [Hm (shM rZ rZ [])]
 obtain⟨t2,ht2,aa⟩:=zp aa;refine yMx 11210 [J1] [1,2,3,8] (λx=>[(8,.own (eOs 1 false rZ x))]) ht2 [(8,.own (eOs 1 true rZ []))] [] λw_ m2 av ae hl1 J2 au=>?_;let Z0:List HO:=[Ha (lnM rZ w_),Ha (lnM xW m_.i)];obtain c0|c0:=zA ae
 ·obtain⟨r_,h0,ae⟩:=zp c0.2;let Z1:List HO:=(Z0++[Hb c0,zg 1,Hm (shM rZ rZ w_),Hs (zf4 1 h0 (loC xa m_ <| loC F8_ w_ <| loC rZ s_ <| loC rZ t_ <| loN))]);obtain c1|c1:=zA ae
  ·cases c1.2;cases hl1;cases aa;exact yE hE (Z1++[Hb c1,Hm (shM rZ rZ w_)])
  obtain⟨ai,h1,ae⟩:=zp c1.2;cases ae;exact yB au _ hl1 (Z1++[Hb c1,zg 0,Hm (shM rZ rZ w_),Hs (zf2 0 h1 (loC F8_ w_<|loC rZ m_.j<|loN)),Hm (shM rZ rZ w_)])
 cases c0.2;cases hl1;exact yB ar () aa (Z0++[Hb c0])
def zmF:List y7:=uN 80 xa rZ z0F Xj::zmG
def z4b [H:HS X0 zmG]:OkH zmF:=yS2 true func80 λm_ s_ r0 aa E hE=>by
 refine yK 111 [] [5] (zI Ws r0) (λz=>[(5,.own (eOs 1 false F8_ z))]) [1,2,5] [Hh (.cut 2)] ?_ λJ1 ar=>?_
 ·rintro out aa;obtain⟨r_,h0,aa⟩:=zp aa;cases aa;exact yE hE [zg 10,Hm (shM F8_ F8_ out),Hs (zf1 10 h0 (loC yQ out<|loN)),Hm (shM F8_ F8_ out)]
 obtain⟨t2,ht2,aa⟩:=zp aa;refine yMx 111210 [J1] [1,2,5,6] (λx=>[(5,.own (eOs 1 false F8_ x.1)),(6,.d (I x.2))]) ht2 [(5,.own (eOs 1 true F8_ [])),(6,.d (I 0))] [] λ⟨aj,a_⟩ m2 av ae hl1 J2 au=>?_;let Z0:List HO:=[Ha (lnM xW m_.i)];obtain c0|c0:=zA ae
 ·refine yNs 11121001 [J1,J2] [1,2,5,6] (zI (Wr a_) av) (λz=>[(5,.own (eOs 1 false F8_ z))]) (Z0++[c0,Hh (.cut 0)]) ?_ λJ3 bg=>?_
  ·rintro ax ae;cases ae;exact yB au _ hl1 []
  refine yMb 111210012010 [J1,J2,J3] [1,2,5,6,7] (λx=>[(5,.own (eOs 1 false F8_ x.1)),(7,.d (I x.2))]) c0.2  [] λt4 ae ⟨bo,b_⟩ m4 dj ah hl2 J4 db=>?_;let Z1:List HO:=[Ha (lnM xW m_.i)];obtain c1|c1:=zA ah
  ·refine yNs 11121001201001 [J1,J2,J3,J4] [1,2,5,6,7] (zI (wu b_) dj) (λz=>[(5,.own (eOs 1 false F8_ z))]) (Z1++[c1,Hh (.cut 0)]) ?_ λJ5 dc=>?_
   ·rintro gx ah;cases ah;exact yB db _ hl2 []
   obtain c2|c2:=zA c1.2
   ·obtain⟨ai,h1,ah⟩:=zp c2.2;obtain⟨g0,ah⟩:=gdE ah;exact yB dc (bo++[ai.1]) ah (rpN 4 (Hb c2) (rpN 5 qT [zC3 0 h1,Hq (dM F8_ [ai.1]),Hn (dM F8_ [ai.1]),Hn (aL F8_ F8_ g0),Hl (aM F8_ bo [ai.1])]))
   let Z2:List HO:=(rpN 4 (Hb c2) []);obtain c3|c3:=zA c2.2
   ·obtain⟨ak,h2,ah⟩:=zp c3.2;obtain⟨g1,ah⟩:=gdE ah;exact yB dc (bo++[ak.1]) ah (Z2++(rpN 4 (Hb c3) [qT,zC3 0 h2,Hq (dM F8_ [ak.1]),Hn (dM F8_ [ak.1]),Hn (aL F8_ F8_ g1),Hl (aM F8_ bo [ak.1])]))
   let Z3:List HO:=(Z2++(rpN 4 (Hb c3) []));obtain c4|c4:=zA c3.2
   ·obtain⟨am,h3,ah⟩:=zp c4.2;obtain⟨g2,ah⟩:=gdE ah;exact yB dc (bo++[am.1]) ah (Z3++[c4,zC3 0 h3,Hq (dM F8_ [am.1]),Hn (dM F8_ [am.1]),Hn (aL F8_ F8_ g2),Hl (aM F8_ bo [am.1])])
   exact yB dc bo c4.2 (Z3++[c4])
  cases c1.2;cases hl2;exact yB bg bo ae (Z1++[c1])
 cases c0.2;cases hl1;exact yB ar aj aa (Z0++[c0])
def zmE:List y7:=Yj 44 xa z0F UX::zmF
def z72 [H:HS X0 zmF]:OkH zmE:=yS1 true func44 λm_ r0 aa E hE=>by obtain⟨r_,h0,aa⟩:=zp aa;cases aa;exact yE hE [zC2 0 h0]
def zmD:List y7:=Yj 43 yQ yQ YU::zmE
def z5m [H:HS X0 zmE]:OkH zmD:=yS1 false func43 λl_ r0 aa E hE=>by
 let Z0:List HO:=[Ha (lnM F8_ l_)];obtain c0|c0:=zA aa
 ·cases c0.2;exact yEl hE (Z0++[c0,Hm (shM F5_ F4_ ([[]]))])
 cases c0.2;exact yE hE (Z0++[Hb c0])
def zmC:List y7:=uN 79 F8_ F8_ eB W3::zmD
def z2T [H:HS X0 zmD]:OkH zmC:=yS2 true func79 λa_ b_ r0 aa E hE=>by
 let Z0:List HO:=[Ha (lnM rZ a_),Ha (lnM rZ b_)];obtain c0|c0:=zA aa
 ·obtain⟨g0,aa⟩:=gdE c0.2;obtain⟨r_,h0,aa⟩:=zp aa;cases aa;exact yE hE (Z0++(rpN 4 (Hb c0) [Ha (lnM rZ a_),c0,Hn (slB g0),Hn (zdG rZ g0),Ha (slM 1 false rZ b_ 0 ((a_.length:Nat):Int).toNat),c0,zC2 15 h0,c0,c0]))
 cases c0.2;exact yE hE (Z0++(rpN 8 (Hb c0) []))
def zmB:List y7:=Yj 42 yQ z0F uZ::zmC
def z2U [H:HS X0 zmC]:OkH zmB:=yS1 true func42 λl_ r0 aa E hE=>by
 refine yK 111 [] [3] (zI Q3 r0) (λz=>[(3,.own (eOs 1 false F8_ z))]) [0,3] [Hh (.cut 2)] ?_ λJ1 ar=>?_
 ·rintro out aa;cases aa;exact yE hE []
 obtain⟨t2,ht2,aa⟩:=zp aa;refine yMx 111210 [J1] [0,3,4] (λx=>[(3,.own (eOs 1 false F8_ x.1)),(4,.d (I x.2))]) ht2 [(3,.own (eOs 1 true F8_ [])),(4,.d (I 0))] [] λ⟨aj,i_⟩ m2 av ae hl1 J2 au=>?_;let Z0:List HO:=[Ha (lnM F8_ l_)];obtain c0|c0:=zA ae
 ·refine yNs 11121001 [J1,J2] [0,3,4] (zI (kQ i_) av) (λz=>[(3,.own (eOs 1 false F8_ z))]) (Z0++[c0,Hh (.cut 0)]) ?_ λJ3 bg=>?_
  ·rintro ax ae;cases ae;exact yB au _ hl1 []
  refine yNs 11121001201 [J1,J2,J3] [0,3,4,5] (zI (Xl l_ aj i_) av) (λz=>[(5,.d (B z))]) [Hh (.cut 1)] ?_ λJ4 db=>?_
  ·rintro oi ae;obtain c1|c1:=zA ae
   ·obtain⟨bi,h0,ae⟩:=zp c1.2;obtain⟨g0,ae⟩:=gdE ae;exact yB bg (aj++[bi]) ae [c1,Hi F8_ h0,Hq (dM F8_ [bi]),Hn (dM F8_ [bi]),Hn (aL F8_ F8_ g0),Hl (aM F8_ aj [bi])]
   exact yB bg aj c1.2 [c1]
  refine yMb 11121001201210 [J1,J2,J3,J4] [0,3,4,5,6] (λx=>[(5,.d (B x.1)),(6,.d (I x.2))]) c0.2  [] λt5 ae ⟨lv,k_⟩ m5 dj ah hl2 J5 dc=>?_;let Z1:List HO:=[Ha (lnM F8_ l_)];obtain c2|c2:=zA ah
  ·obtain c3|c3:=zA c2.2
   ·cases c3.2;exact yB dc _ hl2 (Z1++(Hb c2::(rpN 10 (Hb c3) [])))
   obtain⟨ew,h1,nu,h2,r_,h3,ah⟩:=jZ c3.2;cases ah;exact yB dc _ hl2 (Z1++(Hb c2::Hb c3::Hb c3::Hb c3::Hi F8_ h1::(rpN 4 (Hb c3) [Hi F8_ h2,c3,c3,zC2 0 h3,c3])))
  cases c2.2;cases hl2;exact yB db lv ae (Z1++[c2])
 cases c0.2;cases hl1;exact yB ar aj aa (Z0++[c0])
def zkC:List y7:=uN 15 xa rZ z0F z4B::zmB
def z9Z [H:HS X0 zmB]:OkH zkC:=yS2 true func15 λm_ bound r0 aa E hE=>by obtain⟨r_,h0,ai,h1,ak,h2,am,h3,az,h4,aa⟩:=z9M aa;obtain⟨bn,h5,cx,h6,aa⟩:=y8 aa;cases aa;exact yE hE [Ha (lnM xW m_.i),zC2 18 h0,zC1 11 h1,zg 13,Hm (shM F8_ F8_ ai),Hm (shM F8_ F8_ r_),Hs (zf2 13 h2 (loC yQ ai<|loC yQ r_<|loN)),Hm (shM F8_ F8_ ai),Hm (shM F8_ F8_ r_),zC1 3 h3,zg 2,Hm (shM F8_ F8_ am),Hs (zf1 2 h4 (loC yQ am<|loN)),Hm (shM F8_ F8_ am),zg 13,Hm (shM F8_ F8_ ak),Hs (zf2 13 h5 (loC yQ ak<|loC yQ az<|loN)),Hm (shM F8_ F8_ ak),zg 0,Hm (shM F8_ F8_ bn),Hs (zf1 0 h6 (loC yQ bn<|loN)),Hm (shM F8_ F8_ bn)]
def zmA:List y7:=uN 38 yQ yQ eB QB::zkC
def z5p [H:HS X0 zkC]:OkH zmA:=yS2 true func38 λa_ b_ r0 aa E hE=>by
 let Z0:List HO:=[Ha (lnM F8_ a_),Ha (lnM F8_ b_)];obtain c0|c0:=zA aa
 ·cases c0.2;exact yE hE (Z0++[c0])
 refine yK 111 [] [] (λz:Unit=>Vv=some r0) (λz=>[]) [0,1] (Z0++[c0,Hh (.cut 0)]) ?_ λJ1 ar=>?_
 ·rintro⟨⟩ aa;cases aa;exact yE hE []
 refine yMb 111210 [J1] [0,1,5] (λx=>[(5,.d (I x))]) c0.2  [] λt2 aa i_ m2 av ae hl1 J2 au=>?_;let Z1:List HO:=[Ha (lnM F8_ a_)];obtain c1|c1:=zA ae
 ·obtain⟨dv,h0,dx,h1,r_,h2,ae⟩:=jZ c1.2;let Z2:List HO:=(Z1++[c1,Hi F8_ h0,Hi F8_ h1,zC2 18 h2]);obtain c2|c2:=zA ae
  ·cases c2.2;cases hl1;cases aa;exact yE hE (Z2++[c2])
  cases c2.2;exact yB au _ hl1 (Z2++[c2])
 cases c1.2;cases hl1;exact yB ar () aa (Z1++[c1])
def zmz:List y7:=uN 14 ZX yQ eB qL::zmA
def z5v [H:HS X0 zmA]:OkH zmz:=yS2 true func14 λa_ b_ r0 aa E hE=>by
 obtain⟨r_,h0,aa⟩:=zp aa;let Z0:List HO:=[Hk [] (z2m (hat 0)) (zf2 0 h0 (loC ZX a_<|loC yQ b_<|loN))];obtain c0|c0:=zA aa
 ·cases c0.2;exact yE hE (Z0++[c0,c0,Ha (lnM F4_ a_),c0,c0,Ha (lnM F4_ a_),c0,c0])
 cases c0.2;exact yE hE (Z0++(rpN 6 (Hb c0) []))
def zmy:List y7:=uN 82 yQ F8_ eB Kn::zmz
def z74 [H:HS X0 zmz]:OkH zmy:=yS2 true func82 λl_ w_ r0 aa E hE=>by
 refine yK 11 [] [] (λz:Unit=>Q4=some r0) (λz=>[]) [0,1] [Hh (.cut 1)] ?_ λJ1 ar=>?_
 ·rintro⟨⟩ aa;cases aa;exact yE hE []
 refine yMb 11210 [J1] [0,1,5] (λx=>[(5,.d (I x))]) aa  [] λt2 aa i_ m2 av ae hl1 J2 au=>?_;let Z0:List HO:=[Ha (lnM F8_ l_)];obtain c0|c0:=zA ae
 ·obtain⟨bi,h0,r_,h1,ae⟩:=y8 c0.2;let Z1:List HO:=(Z0++[c0,Hi F8_ h0,zC2 20 h1]);obtain c1|c1:=zA ae
  ·cases c1.2;cases hl1;cases aa;exact yE hE (Z1++[c1])
  cases c1.2;exact yB au _ hl1 (Z1++[c1])
 cases c0.2;cases hl1;exact yB ar () aa (Z0++[c0])
def zmx:List y7:=uN 46 yQ yQ z0F Xm::zmy
def z4d [H:HS X0 zmy]:OkH zmx:=yS2 true func46 λa_ b_ r0 aa E hE=>by
 refine yK 111 [] [5] (zI Jo r0) (λz=>[(5,.own (eOs 1 false F8_ z))]) [0,1,5] [Hh (.cut 2)] ?_ λJ1 ar=>?_
 ·rintro out aa;cases aa;exact yE hE []
 obtain⟨t2,ht2,aa⟩:=zp aa;refine yMx 111210 [J1] [0,1,5,6] (λx=>[(5,.own (eOs 1 false F8_ x.1)),(6,.d (I x.2))]) ht2 [(5,.own (eOs 1 true F8_ [])),(6,.d (I 0))] [] λ⟨aj,i_⟩ m2 av ae hl1 J2 au=>?_;let Z0:List HO:=[Ha (lnM F8_ a_)];obtain c0|c0:=zA ae
 ·refine yNs 11121001 [J1,J2] [0,1,5,6] (zI (ZO i_) av) (λz=>[(5,.own (eOs 1 false F8_ z))]) (Z0++[c0,Hh (.cut 0)]) ?_ λJ3 bg=>?_
  ·rintro ax ae;cases ae;exact yB au _ hl1 []
  obtain⟨dv,h0,r_,h1,ae⟩:=y8 c0.2;let Z1:List HO:=[Hi F8_ h0,zC2 0 h1];obtain c1|c1:=zA ae
  ·obtain⟨i6,h2,ae⟩:=zp c1.2;obtain⟨g0,ae⟩:=gdE ae;exact yB bg (aj++[i6]) ae (Z1++[c1,Hi F8_ h2,Hq (dM F8_ [i6]),Hn (dM F8_ [i6]),Hn (aL F8_ F8_ g0),Hl (aM F8_ aj [i6])])
  exact yB bg aj c1.2 (Z1++[c1])
 cases c0.2;cases hl1;exact yB ar aj aa (Z0++[c0])
def zmw:List y7:=uN 83 xa rZ z0F z15::zmx
def z9k [H:HS X0 zmx]:OkH zmw:=yS2 true func83 λm_ s_ r0 aa E hE=>by obtain⟨r_,h0,aa⟩:=zp aa;cases aa;exact yE hE [zC2 9 h0]
def zmv:List y7:=uN 49 yQ yQ z0F Xk::zmw
def z4c [H:HS X0 zmw]:OkH zmv:=yS2 true func49 λa_ b_ r0 aa E hE=>by obtain⟨g0,aa⟩:=gdE aa;obtain⟨g1,aa⟩:=gdE aa;obtain⟨r_,h0,aa⟩:=zp aa;cases aa;exact yE hE [Hn (dM F8_ a_),Hn (aL F8_ F8_ g0),Hl (aM0 F8_ a_),Hn (dM F8_ b_),Hn (aL F8_ F8_ g1),Hl (aM F8_ a_ b_),zg 21,Hm (shM F8_ F8_ (a_++b_)),Hs (zf1 21 h0 (loC yQ (a_++b_)<|loN)),Hm (shM F8_ F8_ (a_++b_))]
def zmu:List y7:=uN 47 xa yQ z0F uu::zmv
def z0O [H:HS X0 zmv]:OkH zmu:=yS2 true func47 λm_ l_ r0 aa E hE=>by
 refine yK 111 [] [5] (zI WY r0) (λz=>[(5,.own (eOs 1 false F8_ z))]) [1,2,5] [Hh (.cut 2)] ?_ λJ1 ar=>?_
 ·rintro out aa;cases aa;exact yE hE []
 obtain⟨t2,ht2,aa⟩:=zp aa;refine yMx 111210 [J1] [1,2,5,6] (λx=>[(5,.own (eOs 1 false F8_ x.1)),(6,.d (I x.2))]) ht2 [(5,.own (eOs 1 true F8_ [])),(6,.d (I 0))] [] λ⟨aj,i_⟩ m2 av ae hl1 J2 au=>?_;let Z0:List HO:=[Ha (lnM F8_ l_)];obtain c0|c0:=zA ae
 ·obtain⟨bi,h0,r_,h1,ai,h2,ak,h3,ae⟩:=z54 c0.2;obtain⟨g0,ae⟩:=gdE ae;obtain⟨am,h4,az,h5,ae⟩:=y8 ae;cases ae;exact yB au _ hl1 (Z0++[c0,Hi F8_ h0,zC3 125 h1,zC2 1 h2,zg 9,Hm (shM F8_ F8_ ai),Hs (zf1 9 h3 (loC yQ ai<|loN)),Hm (shM F8_ F8_ ai),Hn (slA g0),Hn (slB g0),Hn (zlP F8_ g0),Ha (slM 1 false F8_ l_ i_.toNat (w64 (i_+1)).toNat),zC2 20 h4,zg 0,Hm (shM F8_ F8_ aj),Hm (shM F8_ F8_ am),Hs (zf2 0 h5 (loC yQ aj<|loC yQ am<|loN)),Hm (shM F8_ F8_ aj),Hm (shM F8_ F8_ am)])
 cases c0.2;cases hl1;exact yB ar aj aa (Z0++[c0])
def zmt:List y7:=uN 16 xa rZ z0F z14::zmu
def z9j [H:HS X0 zmu]:OkH zmt:=yS2 true func16 λm_ bound r0 aa E hE=>by obtain⟨r_,h0,ai,h1,ak,h2,am,h3,az,h4,aa⟩:=z9M aa;obtain⟨bn,h5,cx,h6,gb,h7,iy,h8,gr,h9,aa⟩:=z9M aa;obtain⟨im,h10,j8,h11,mv,h12,aa⟩:=jZ aa;cases aa;exact yE hE [Ha (lnM xW m_.i),zC1 22 h0,zC1 19 h1,zg 3,Hm (shM F8_ F8_ ai),Hm (shM F8_ F8_ r_),Hs (zf2 3 h2 (loC yQ ai<|loC yQ r_<|loN)),Hm (shM F8_ F8_ ai),Hm (shM F8_ F8_ r_),zC2 26 h3,zg 21,Hm (shM F8_ F8_ am),Hs (zf2 21 h4 (loC yQ r_<|loC yQ am<|loN)),Hm (shM F8_ F8_ am),zC1 11 h5,zg 10,Hm (shM F8_ F8_ bn),Hs (zf1 10 h6 (loC yQ bn<|loN)),Hm (shM F8_ F8_ bn),zg 21,Hm (shM F8_ F8_ az),Hs (zf2 21 h7 (loC yQ az<|loC yQ cx<|loN)),Hm (shM F8_ F8_ az),zC2 27 h8,zg 21,Hm (shM F8_ F8_ ak),Hm (shM F7_ F8_ iy),Hs (zf2 21 h9 (loC yQ ak<|loC yQ iy<|loN)),Hm (shM F8_ F8_ ak),Hm (shM F7_ F8_ iy),zg 0,Hm (shM F8_ F8_ gr),Hs (zf2 0 h10 (loC xa m_<|loC yQ gr<|loN)),Hm (shM F8_ F8_ gr),zg 1,Hm (shM F8_ F8_ gb),Hm (shM F8_ F8_ im),Hs (zf2 1 h11 (loC yQ gb<|loC yQ im<|loN)),Hm (shM F8_ F8_ gb),Hm (shM F8_ F8_ im),zg 8,Hm (shM F8_ F8_ j8),Hs (zf1 8 h12 (loC yQ j8<|loN)),Hm (shM F8_ F8_ j8)]
def zms:List y7:=uN 17 xa rZ z0F Kk::zmt
def z71 [H:HS X0 zmt]:OkH zms:=yS2 true func17 λm_ bound r0 aa E hE=>by obtain⟨r_,h0,ai,h1,ak,h2,am,h3,az,h4,aa⟩:=z9M aa;cases aa;exact yE hE [Ha (lnM xW m_.i),zC2 27 h0,zC1 20 h1,zg 22,Hm (shM F8_ F8_ ai),Hm (shM F8_ F8_ r_),Hs (zf2 22 h2 (loC yQ ai<|loC yQ r_<|loN)),Hm (shM F8_ F8_ ai),Hm (shM F8_ F8_ r_),zg 1,Hm (shM F8_ F8_ ak),Hs (zf2 1 h3 (loC xa m_<|loC yQ ak<|loN)),Hm (shM F8_ F8_ ak),zg 9,Hm (shM F8_ F8_ am),Hs (zf1 9 h4 (loC yQ am<|loN)),Hm (shM F8_ F8_ am)]
def zmr:List y7:=zis 50 zgj Ky::zms
def z1v [H:HS X0 zms]:OkH zmr:=yS0 false func50 λr0 aa E hE=>by cases aa;exact yE hE [Hm (shM (eOs 2 true uO) zoM ([[(z8.mk 1 0),(z8.mk 0 0)],[(z8.mk 2 0),(z8.mk 1 1)],[(z8.mk 0 1),(z8.mk 2 0)]]))]
def zmq:List y7:=zis 18 eB JK::zmr
def z4j [H:HS X0 zmr]:OkH zmq:=yS0 true func18 λr0 aa E hE=>by
 let u0:=([[1,0],[1,1],[0,1,0],[0,1,1],[0,0,0,0],[0,0,0,1],[0,0,1,0],[0,0,1,1]]:TA);obtain⟨r_,h0,ai,h1,ak,h2,am,h3,aa⟩:=z54 aa;let Z0:List HO:=[zC0 0 h0,Hk [] (z2m (hat 34)) (zf3 34 h1 (loC zgj r_<|loC rZ 3<|loC rZ 8<|loN)),Hk [] (z2m (hat 33)) (zf3 33 h2 (loC zgj r_<|loC rZ 3<|loC rZ 4096<|loN)),Hk [] (z2m (hat 32)) (zf3 32 h3 (loC zgj r_<|loC rZ 3<|loC rZ 4096<|loN))];obtain c0|c0:=zA aa
 ·cases c0.2;exact yE hE (Z0++(Hb c0::Hb c0::Hb c0::(rpN 21 qT [])))
 obtain c1|c1:=zA c0.2
 ·cases c1.2;exact yE hE (Z0++(Hb c0::Hb c0::Hb c0::Hb c1::Hb c1::Hb c1::(rpN 18 qT [])))
 let Z1:List HO:=(Z0++[c0,c0,c0,c1,c1,c1]);obtain c2|c2:=zA c1.2
 ·cases c2.2;exact yE hE (Z1++(rpN 5 (Hb c2) (rpN 13 qT [])))
 obtain⟨az,h4,aa⟩:=zp c2.2;let Z2:List HO:=(Z1++[c2,c2,c2,Hm (shM F5_ F4_ ([[1,0],[1,1],[0,1,0],[0,1,1],[0,0,0,0],[0,0,0,1],[0,0,1,0],[0,0,1,1]])),Hn (Zq (f:=.fn 14 []) (xs:=[ZX ai.1,yQ u0]) (ls:=[]) (r:=B az) (ys:=[]) [ZX ai.1,ZX u0] (show QS [ZX ai.1,ZX u0] [ZX ai.1,yQ u0] from inferInstance)),c2,c2]);obtain c3|c3:=zA aa
 ·cases c3.2;exact yE (H:=zx ((vP (P:=prog) wM [] (lentCall ((zk2 8 h4 :))) 49).or X0)) hE (Z2++(rpN 6 (Hb c3) (rpN 7 qT [])))
 obtain⟨g0,aa⟩:=gdE c3.2;obtain⟨bn,h5,aa⟩:=zp aa;let Z3:List HO:=(Z2++[c3,c3,c3,Hn (slB g0),Hn (zdG F4_ g0),Ha (slM 1 (true&&(7:Int).toNat==(u0.map F4_).length) F4_ u0 0 (7:Int).toNat),c3,Hn (Zq (f:=.fn 14 []) (xs:=[ZX ak.1,yQ ((u0.drop 0).take ((7:Int).toNat-0))]) (ls:=[]) (r:=B bn) (ys:=[]) [ZX ak.1,(eSl 1 (true&&(7:Int).toNat==(u0.map F4_).length) F4_) ((u0.drop 0).take ((7:Int).toNat-0))] (show QS [ZX ak.1,(eSl 1 (true&&(7:Int).toNat==(u0.map F4_).length) F4_) ((u0.drop 0).take ((7:Int).toNat-0))] [ZX ak.1,yQ ((u0.drop 0).take ((7:Int).toNat-0))] from inferInstance)),c3,c3]);obtain c4|c4:=zA aa
 ·cases c4.2;exact yE (H:=zx ((vP (P:=prog) wM [] (lentCall ((zk2 8 h5 :))) 56).or ((vP (P:=prog) wM [] (lentCall ((zk2 8 h4 :))) 49).or X0))) hE (Z3++(rpN 6 (Hb c4) [qT]))
 obtain⟨g1,aa⟩:=gdE c4.2;obtain⟨cx,h6,aa⟩:=zp aa;let Z4:List HO:=(Z3++[c4,c4,c4,Hn (slB g1),Hn (zdG F4_ g1),Ha (slM 1 (true&&(7:Int).toNat==(u0.map F4_).length) F4_ u0 0 (7:Int).toNat),c4,Hn (Zq (f:=.fn 14 []) (xs:=[ZX am.1,yQ ((u0.drop 0).take ((7:Int).toNat-0))]) (ls:=[]) (r:=B cx) (ys:=[]) [ZX am.1,(eSl 1 (true&&(7:Int).toNat==(u0.map F4_).length) F4_) ((u0.drop 0).take ((7:Int).toNat-0))] (show QS [ZX am.1,(eSl 1 (true&&(7:Int).toNat==(u0.map F4_).length) F4_) ((u0.drop 0).take ((7:Int).toNat-0))] [ZX am.1,yQ ((u0.drop 0).take ((7:Int).toNat-0))] from inferInstance)),c4,c4]);obtain c5|c5:=zA aa
 ·cases c5.2;exact yE (H:=zx ((vP (P:=prog) wM [] (lentCall ((zk2 8 h6 :))) 63).or ((vP (P:=prog) wM [] (lentCall ((zk2 8 h5 :))) 56).or ((vP (P:=prog) wM [] (lentCall ((zk2 8 h4 :))) 49).or X0)))) hE (Z4++[c5])
 obtain⟨gb,h7,iy,h8,gr,h9,im,h10,aa⟩:=z54 c5.2;let Z5:List HO:=(Z4++[c5,Hk [] (z2m (hat 34)) (zf3 34 h7 (loC zgj r_<|loC rZ 2<|loC rZ 9<|loN)),Hk [] (z2m (hat 34)) (zf3 34 h8 (loC zgj r_<|loC rZ 8<|loC rZ 9<|loN)),Hk [] (z2m (hat 34)) (zf3 34 h9 (loC zgj r_<|loC rZ 3<|loC rZ 7<|loN)),Hk [] (z2m (hat 31)) (zf2 31 h10 (loC zgj r_<|loC rZ 3<|loN))]);obtain c6|c6:=zA aa
 ·obtain c7|c7:=zA c6.2
  ·let Z6:List HO:=(Z5++[c6,c6,c6,c7,c7,c7]);obtain c8|c8:=zA c7.2
   ·obtain c9|c9:=zA c8.2
    ·cases c9.2;exact yE (H:=zx ((vP (P:=prog) wM [] (lentCall ((zk2 8 h6 :))) 63).or ((vP (P:=prog) wM [] (lentCall ((zk2 8 h5 :))) 56).or ((vP (P:=prog) wM [] (lentCall ((zk2 8 h4 :))) 49).or X0)))) hE (Z6++(Hb c8::Hb c8::Hb c8::(rpN 4 (Hb c9) [])))
    cases c9.2;exact yE (H:=zx ((vP (P:=prog) wM [] (lentCall ((zk2 8 h6 :))) 63).or ((vP (P:=prog) wM [] (lentCall ((zk2 8 h5 :))) 56).or ((vP (P:=prog) wM [] (lentCall ((zk2 8 h4 :))) 49).or X0)))) hE (Z6++(Hb c8::Hb c8::Hb c8::(rpN 4 (Hb c9) [])))
   cases c8.2;exact yE (H:=zx ((vP (P:=prog) wM [] (lentCall ((zk2 8 h6 :))) 63).or ((vP (P:=prog) wM [] (lentCall ((zk2 8 h5 :))) 56).or ((vP (P:=prog) wM [] (lentCall ((zk2 8 h4 :))) 49).or X0)))) hE (Z6++(Hb c8::Hb c8::Hb c8::(rpN 4 qF [])))
  cases c7.2;exact yE (H:=zx ((vP (P:=prog) wM [] (lentCall ((zk2 8 h6 :))) 63).or ((vP (P:=prog) wM [] (lentCall ((zk2 8 h5 :))) 56).or ((vP (P:=prog) wM [] (lentCall ((zk2 8 h4 :))) 49).or X0)))) hE (Z5++(Hb c6::Hb c6::Hb c6::Hb c7::Hb c7::Hb c7::(rpN 7 qF [])))
 cases c6.2;exact yE (H:=zx ((vP (P:=prog) wM [] (lentCall ((zk2 8 h6 :))) 63).or ((vP (P:=prog) wM [] (lentCall ((zk2 8 h5 :))) 56).or ((vP (P:=prog) wM [] (lentCall ((zk2 8 h4 :))) 49).or X0)))) hE (Z5++(Hb c6::Hb c6::Hb c6::(rpN 10 qF [])))
def zmp:List y7:=uN 3 zoJ (eI .u8) eB ZB::zmq
def JC [H:HS X0 zmq]:OkH zmp:=yS2 true func3 λx_ ck r0 aa E hE=>by
 obtain⟨r_,h0,aa⟩:=zp aa;obtain⟨g0,aa⟩:=gdE aa;obtain⟨ai,h1,ak,h2,am,h3,az,h4,aa⟩:=z54 aa;let Z0:List HO:=[zC1 120 h0,Ha (lnM xW r_.i),Hn g0,zC3 35 h1,zC3 34 h2,zC3 33 h3,zC2 32 h4];obtain c0|c0:=zA aa
 ·cases c0.2;exact yE hE (Z0++(Hb c0::Hb c0::Hb c0::(rpN 28 qT [])))
 obtain c1|c1:=zA c0.2
 ·cases c1.2;exact yE hE (Z0++(Hb c0::Hb c0::Hb c0::Hb c1::Hb c1::Hb c1::(rpN 25 qT [])))
 let Z1:List HO:=(Z0++[c0,c0,c0,c1,c1,c1]);obtain c2|c2:=zA c1.2
 ·cases c2.2;exact yE hE (Z1++(Hb c2::Hb c2::Hb c2::(rpN 22 qT [])))
 obtain c3|c3:=zA c2.2
 ·cases c3.2;exact yE hE (Z1++(Hb c2::Hb c2::Hb c2::(rpN 7 (Hb c3) (rpN 15 qT []))))
 obtain⟨bn,h5,cx,h6,aa⟩:=y8 c3.2;let Z2:List HO:=(Z1++(Hb c2::Hb c2::Hb c2::(rpN 4 (Hb c3) [zC2 11 h5,c3,Hm (shM F8_ F8_ bn),Hn (Zq (f:=.fn 14 []) (xs:=[ZX ai.1,yQ bn]) (ls:=[]) (r:=B cx) (ys:=[]) [ZX ai.1,yQ bn] (show QS [ZX ai.1,yQ bn] [ZX ai.1,yQ bn] from inferInstance)),c3,c3])));obtain c4|c4:=zA aa
 ·cases c4.2;exact yE (H:=zx ((vP (P:=prog) wM [] (lentCall ((zk2 9 h6 :))) 67).or X0)) hE (Z2++(rpN 7 (Hb c4) (rpN 8 qT [])))
 obtain⟨gb,h7,iy,h8,aa⟩:=y8 c4.2;let Z3:List HO:=(Z2++(rpN 4 (Hb c4) [zC2 3 h7,c4,Hm (shM F8_ F8_ gb),Hn (Zq (f:=.fn 14 []) (xs:=[ZX ak.1,yQ gb]) (ls:=[]) (r:=B iy) (ys:=[]) [ZX ak.1,yQ gb] (show QS [ZX ak.1,yQ gb] [ZX ak.1,yQ gb] from inferInstance)),c4,c4]));obtain c5|c5:=zA aa
 ·cases c5.2;exact yE (H:=zx ((vP (P:=prog) wM [] (lentCall ((zk2 9 h8 :))) 75).or ((vP (P:=prog) wM [] (lentCall ((zk2 9 h6 :))) 67).or X0))) hE (Z3++(rpN 7 (Hb c5) [qT]))
 obtain⟨gr,h9,im,h10,aa⟩:=y8 c5.2;let Z4:List HO:=(Z3++(rpN 4 (Hb c5) [zC2 2 h9,c5,Hm (shM F8_ F8_ gr),Hn (Zq (f:=.fn 14 []) (xs:=[ZX am.1,yQ gr]) (ls:=[]) (r:=B im) (ys:=[]) [ZX am.1,yQ gr] (show QS [ZX am.1,yQ gr] [ZX am.1,yQ gr] from inferInstance)),c5,c5]));obtain c6|c6:=zA aa
 ·cases c6.2;exact yE (H:=zx ((vP (P:=prog) wM [] (lentCall ((zk2 9 h10 :))) 83).or ((vP (P:=prog) wM [] (lentCall ((zk2 9 h8 :))) 75).or ((vP (P:=prog) wM [] (lentCall ((zk2 9 h6 :))) 67).or X0)))) hE (Z4++[c6])
 let Z5:List HO:=(Z4++[c6,Ha (lnM F4_ ai.1),Ha (lnM F4_ ak.1),Ha (lnM F4_ am.1)]);obtain c7|c7:=zA c6.2
 ·obtain⟨j8,h11,aa⟩:=zp c7.2;cases aa;exact yE (H:=zx ((vP (P:=prog) wM [] (lentCall ((zk2 9 h10 :))) 83).or ((vP (P:=prog) wM [] (lentCall ((zk2 9 h8 :))) 75).or ((vP (P:=prog) wM [] (lentCall ((zk2 9 h6 :))) 67).or X0)))) hE (Z5++[c7,zC0 0 h11,c7])
 cases c7.2;exact yE (H:=zx ((vP (P:=prog) wM [] (lentCall ((zk2 9 h10 :))) 83).or ((vP (P:=prog) wM [] (lentCall ((zk2 9 h8 :))) 75).or ((vP (P:=prog) wM [] (lentCall ((zk2 9 h6 :))) 67).or X0)))) hE (Z5++[c7,c7])
def spc {X:XH prog}{s:y7}{l:List y7}(w:∀[HS X l],OkH (s::l))(r:z0k prog l)(h:((l.map y7.k).contains s.k)=false:=by kernel_rfl):z0k prog (s::l):=⟨λc a b=>@w ⟨c,a,b⟩,zkE h,r⟩
def zin:z0k prog zmp:=spc JC <|
 spc z4j <|
 spc z1v <|
 spc z71 <|
 spc z9j <|
 spc z0O <|
 spc z4c <|
 spc z9k <|
 spc z4d <|
 spc z74 <|
 spc z5v <|
 spc z5p <|
 spc z9Z <|
 spc z2U <|
 spc z2T <|
 spc z5m <|
 spc z72 <|
 spc z4b <|
 spc z0Q <|
 spc z5q <|
 spc z2X <|
 spc z5u <|
 spc z1s <|
 spc z78 <|
 spc Jx <|
 spc z0P <|
 spc z2V <|
 spc z2S <|
 spc z5o <|
 spc z73 <|
 spc z1n <|
 spc z5n <|
 spc z4e <|
 spc z2N <|
 spc z5l <|
 spc z6Z <|
 spc z9i <|
 spc z2M <|
 spc JW <|
 spc z1m <|
 spc Jw <|
 spc z0U <|
 spc z31 <|
 spc z0R <|
 spc z47 <|
 spc YD <|
 spc X4 <|
 spc z1l <|
 spc z9h <|
 spc qA <|
 spc z0K <|
 spc z79 <|
 spc z4k <|
 spc z4a <|
 spc z48 <|
 spc z5y <|
 spc z33 <|
 spc KR <|
 spc JX <|
 spc Vi <|
 spc z2Q <|
 spc z2P <|
 spc z0L <|
 spc z35 <|
 spc z34 <|
 spc QY <|
 spc KW <|
 spc z2L <|
 spc z6X <|
 spc z5i <|
 spc z49 <|
 spc z44 <|
 spc z5j <|
 spc z6Y <|
 spc z1w <|
 spc z5k <|
 spc z2K <|
 spc z42 <|
 spc Yl <|
 spc z0J <|
 spc z1j <|
 spc z5z <|
 spc WN <|
 spc KX <|
 spc z1x <|
 spc Vj <|
 spc z43 <|
 spc z40 <|
 spc Yk <|
 spc XO <|
 spc z1k <|
 spc z2J <|
 spc z41 <|
 spc UL <|
 spc Uj <|
 spc z0I <|
 spc z2O <|
 spc K0 <|
 spc Jy <|
 spc QU <|
 spc KT <|
 spc Ui <|
 spc KS <|
 spc z2R <|
 spc z0N <|
 spc Jz <|
 spc QX <|
 spc X5 <|
 spc WK <|
 spc JA <|
 spc JB <|
 spc QV <|
 spc Wl <|
 spc z0S <|
 spc KV <|
 spc z0T <|
 spc uQ <|
 spc qR <|
 spc K2 <|
 spc z1u <|
 spc z1t <|
 spc z5w <|
 spc z1o <|
 spc z75 <|
 spc z1q <|
 spc z2W <|
 spc z4h <|
 spc z5s <|
 spc z30 <|
 spc z4g <|
 spc z5r <|
 spc z4i <|
 spc z5t <|
 spc z1p <|
 spc z2Y <|
 spc KU <|
 spc z2Z <|
 spc z4f <|
 spc z5x <|
 spc z32 <|
 trivial
def zC {x:Int}(h1:-9223372036854775808<=x)(h2:x<=9223372036854775807):w64 x=x:=by simp only[w64,IntKind.wrap,IntKind.bits,IntKind.signed];simp;omega
variable {k:Nat}
section
variable {α β σ τ ρ:Type}
def Ret (x:Option α)(Q:α->Prop):Prop:=∃a,x=some a/\Q a
def Ret.mono {x:Option α}{Q R:α->Prop}(h:Ret x Q)(q:∀a,Q a->R a):Ret x R:=by obtain⟨a,e,h⟩:=h;exact⟨a,e,q a h⟩
def Ret.eq {x:Option α}{a:α}(h:Ret x λb=>b=a):x=some a:=by obtain⟨b,e,rfl⟩:=h;exact e
def z7 {a:α}{Q:α->Prop}:Ret (some a) Q↔Q a:=⟨λ⟨b,e,q⟩=>by cases e;exact q,λq=>⟨a,rfl,q⟩⟩
def zm {x:Option α}{f:α->Option β}{Q:β->Prop}:Ret (Option.bind x f) Q↔Ret x λa=>Ret (f a) Q:=by
 cases x with
 |none=>exact⟨λ⟨b,e,_⟩=>(by cases e),λ⟨b,e,_⟩=>(by cases e)⟩
 |some a=>exact⟨λh=>⟨a,rfl,h⟩,λ⟨b,e,h⟩=>by cases e;exact h⟩
def Y9 {p:Prop}[Decidable p]{x:Option α}{Q:α->Prop}:Ret (gd p x) Q↔p/\Ret x Q:=by
 unfold gd;by_cases h:p
 ·rw[if_pos h];exact⟨λq=>⟨h,q⟩,λq=>q.2⟩
 rw[if_neg h];exact⟨λ⟨b,e,_⟩=>by(cases e),λq=>(h q.1).elim⟩
def zy {c:Bool}{x y:Option α}{Q:α->Prop}:Ret (bif c then x else y) Q↔(c=true->Ret x Q)/\(c=false->Ret y Q):=by cases c<;>simp
def z7o {l:List α}{i:Int}{Q:α->Prop}:Ret (idx l i) Q↔0<=i/\∃x,l[i.toNat]?=some x/\Q x:=by
 cases i with
 |ofNat n=>show(∃a,l[n]?=some a/\Q a)↔_;simp
 |negSucc n=>exact⟨λ⟨b,e,_⟩=>by(cases e),λ⟨h,_⟩=>by omega⟩
def zM (l:List α)(i:Nat):idx l (i:Int)=l[i]?:=rfl
def gdT {p:Prop}[Decidable p]{x:Option α}(h:p):gd p x=x:=by unfold gd;rw[if_pos h]
def bdT {x:Option α}{u:α}{f:α->Option ρ}(h:x=some u):Option.bind x f=f u:=by rw[h];rfl
def YZ (step:σ->Option (LR σ τ))(n:Nat)(s:σ):Kv step (n+1) s=(match step s with|none=>none|some (.next s')=>Kv step n s'|some (.done t)=>some t):=rfl
def LRP (N:σ->Prop)(D:τ->Prop):LR σ τ->Prop
 |.next s=>N s
 |.done t=>D t
def zG {step:σ->Option (LR σ τ)}(I:σ->Prop)(m:σ->Nat){R:τ->Prop}{s:σ}(hs:I s)(hm:m s<18446744073709551616)
  (h:∀s,I s->Ret (step s) (LRP (λs'=>I s'/\m s' < m s) R)):Ret (loop step s) R:=by
 have gen:∀(n:Nat) (s:σ),I s->m s<n->Ret (Kv step n s) R:=by
  intro n;induction n with
  |zero=>intro s _ h;omega
  |succ n ih=>
   intro s hs hm;obtain⟨a,e,q⟩:=h s hs;rw[YZ,e];cases a with
   |next s'=>exact ih s' q.1 (by have:=q.2;omega)
   |done t=>exact⟨t,rfl,q⟩
 exact gen Um s hs hm
def xh {step:σ->Option (LR σ τ)}(st:Nat->σ)(n:Nat){t:τ}(hn:n<9223372036854775808)(h:∀i,i<n->step (st i)=some (.next (st (i+1))))(hd:step (st n)=some (.done t)):loop step (st 0)=some t:=by
 have gen:∀(k:Nat) (i:Nat),i<=n->n-i<k->Kv step k (st i)=some t:=by
  intro k;induction k with
  |zero=>intro i _ h;omega
  |succ k ih=>
   intro i hi hk;rw[YZ];rcases pC i n with q|q
   ·rw[h i q];exact ih (i+1) q (by omega)
   have:i=n:=by omega
   subst this;rw[hd]
 exact gen Um 0 (pM _) (by show n-0<18446744073709551616;omega)
def ya (f:Nat->α->Option ρ):List α->Nat->Option ρ
 |[],_=>none
 |x::l,i=>match f i x with|some r=>some r|none=>ya f l (i+1)
def VN {f:Nat->α->Option ρ}:∀{l:List α} {k:Nat},(∀i x,l[i]?=some x->f (k+i) x=none)->ya f l k=none
 |[],_,_=>rfl
 |x::l,k,h=>by have h0:=h 0 x rfl;simp only[mL]at h0;simp only[ya,h0];exact VN λi y hy=>by have:=h (i+1) y (by simpa using hy);rwa[show k+1+i=k+(i+1) by omega]
def ug {f:Nat->α->Option ρ}{r:ρ}:∀{l:List α} {k:Nat},ya f l k=some r->∃i x,l[i]?=some x/\f (k+i) x=some r
 |[],_,h=>by cases h
 |x::l,k,h=>by
  simp only[ya]at h;cases hf:f k x with
  |some r'=>rw[hf]at h;exact⟨0,x,rfl,by rw[mL,hf];exact h⟩
  |none=>rw[hf]at h;obtain⟨i,y,h1,h2⟩:=ug h;exact⟨i+1,y,by simpa using h1,by rw[<-h2];congr 1;omega⟩
def uh {f:Nat->α->Option ρ}{l:List α}  (h:ya f l k=none):∀i x,l[i]?=some x->f (k+i) x=none:=by
 induction l generalizing k with
 |nil=>intro i x h;simp at h
 |cons y l ih=>
  intro i x hx;simp only[ya]at h;cases hf:f k y with
  |some r'=>rw[hf]at h;cases h
  |none=>
   rw[hf]at h;cases i with
   |zero=>simp at hx;subst hx;simpa using hf
   |succ i=>have:=ih h i x (by simpa using hx);rwa[show k+(i+1)=k+1+i by omega]
def oS:Option ρ->Unit⊕ρ
 |some r=>.inr r
 |none=>.inl ()
def nS (i:Nat):Option ρ->LR Int (Unit⊕ρ)
 |some r=>.done (.inr r)
 |none=>.next (w64 ((i:Int)+1))
def wh (l:List α)(hl:l.length<4611686018427387904){step:Int->Option (LR Int (Unit⊕ρ))}(f:Nat->α->Option ρ)
  (h:∀(i:Nat) (x:α),l[i]?=some x->step (i:Int)=some (nS i (f i x))) (h2:step (l.length:Int)=some (.done (.inl ()))) :
  loop step 0=some (oS (ya f l 0)):=by
 have gen:∀(n:Nat) (k:Nat),k<=l.length->l.length-k<n->Kv step n (k:Int)=some (oS (ya f (l.drop k) k)):=by
  intro n;induction n with
  |zero=>intro k _ h;omega
  |succ n ih=>
   intro k hk hn;rw[YZ];rcases pC k l.length with hlt|hge
   ·have hx:l[k]?=some l[k]:=pe hlt;rw[h k _ hx,mc hlt];simp only[ya];cases hf:f k l[k] with
    |some r=>rfl
    |none=>simp only[nS];rw[zC (by omega) (by omega)];exact ih (k+1) hlt (by omega)
   have:k=l.length:=by omega
   subst this;rw[h2,List.drop_length];rfl
 exact gen Um 0 (pM _) (by show l.length-0<18446744073709551616;omega)
end
section
variable {S:Type}
def rv (k:Nat):TC->Nat
 |[]=>0
 |i::u=>rv k u*k+i+1
def zcr (k:Nat)(bad:S->Nat->Bool)(nx:S->Nat->Option S)(p0:S):TC->S->Prop
 |[],q=>q=p0
 |i::u,q=>∃p,zcr k bad nx p0 u p/\i<k/\bad p i=false/\nx p i=some q
def KI (k:Nat)(bad:S->Nat->Bool)(nx:S->Nat->Option S):S->TC->Prop
 |_,[]=>False
 |p,[i]=>i<k/\bad p i=true
 |p,i::w=>i<k/\bad p i=false/\∃q,nx p i=some q/\KI k bad nx q w
structure Bfs (k:Nat)(bad:S->Nat->Bool)(nx:S->Nat->Option S)(p0:S)(L:List (S×TC))(at_ i:Nat):Prop where
 first:L[0]?=some (p0,[])
 mono:∀(j j':Nat) (a b:S×TC),j<j'->L[j]?=some a->L[j']?=some b->rv k a.2<rv k b.2
 path:∀a∈L,zcr k bad nx p0 a.2 a.1
 ahead:∀a c,L[at_]?=some c->a∈L->rv k a.2<rv k c.2*k+i+1
 pos:i<=k
 lies:at_<=L.length
 fin:at_=L.length->i=0
 short:∀(j:Nat) (a:S×TC),L[j]?=some a->a.2.length<=j
 seen:∀(j x:Nat) (a:S×TC),L[j]?=some a->x<k->(j<at_\/j=at_/\x<i)->bad a.1 x=false/\∀q,nx a.1 x=some q->∃b∈L,b.1=q/\rv k b.2<=rv k a.2*k+x+1
variable {k:Nat}{bad:S->Nat->Bool}{nx:S->Nat->Option S}{p0:S}
def Bfs.start:Bfs k bad nx p0 [(p0,[])] 0 0:={
 first:=rfl
 mono:=by intro j j' a b h h1 h2;have:=(pf.1 h2).1;simp at this;omega
 path:=by intro a ha;simp at ha;subst ha;rfl
 ahead:=by intro a c _ ha;simp at ha;subst ha;simp[rv]
 pos:=pM _
 lies:=by simp
 fin:=by intro;rfl
 short:=by intro j a h;have:=(pf.1 h).1;simp at this;subst this;simp at h;subst h;simp
 seen:=by rintro j x a h _ (q|⟨_,q⟩)<;>omega }
def Bfs.old {L:List (S×TC)}{a i:Nat}(h:Bfs k bad nx p0 L a i){c:S×TC}(hc:L[a]?=some c)(hi:i<k)(hb:bad c.1 i=false)
  (hn:∀q,nx c.1 i=some q->∃b∈L,b.1=q):Bfs k bad nx p0 L a (i+1):={
 first:=h.first
 mono:=h.mono
 path:=h.path
 ahead:=λx y hy hx=>by have:=h.ahead x y hy hx;omega
 pos:=hi
 lies:=h.lies
 fin:=λe=>by have:=(pf.1 hc).1;omega
 short:=h.short
 seen:=by
  intro j x y hy hx q;by_cases e:j=a/\x=i
  ·obtain⟨rfl,rfl⟩:=e;rw[hc]at hy;cases hy;refine⟨hb,λq hq=>?_⟩;obtain⟨b,h1,h2⟩:=hn q hq;exact⟨b,h1,h2,by have:=h.ahead b c hc h1;omega⟩
  exact h.seen j x y hy hx (by omega) }
def Bfs.new {L:List (S×TC)}{a i:Nat}(h:Bfs k bad nx p0 L a i){c:S×TC}(hc:L[a]?=some c)(hi:i<k)(hb:bad c.1 i=false){q:S}
  (hn:nx c.1 i=some q):Bfs k bad nx p0 (L++[(q,i::c.2)]) a (i+1):=by
 have hlt:=(pf.1 hc).1;refine⟨?_,?_,?_,?_,hi,by simp;omega,λe=>by simp at e;omega,?_,?_⟩
 ·rw[pA (by omega)];exact h.first
 ·intro j j' x y hj h1 h2;have hl:=(pf.1 h2).1;simp at hl;rw[pA (by omega)]at h1;rcases pC j' L.length with g|g
  ·rw[pA g]at h2;exact h.mono j j' x y hj h1 h2
  have:j'=L.length:=by omega
  subst this;simp at h2;subst h2;exact h.ahead x c hc (pI h1)
 ·intro x hx;rcases pg.1 hx with g|g
  ·exact h.path x g
  simp at g;subst g;exact⟨c.1,h.path c (pI hc),hi,hb,hn⟩
 ·intro x y hy hx;rw[pA hlt]at hy;rcases pg.1 hx with g|g
  ·have:=h.ahead x y hy g;omega
  simp at g;subst g;rw[hc]at hy;cases hy;simp[rv]
 ·intro j y hy;rcases pC j L.length with g|g
  ·rw[pA g]at hy;exact h.short j y hy
  have hl:=(pf.1 hy).1;simp at hl;have:j=L.length:=by omega
  subst this;simp at hy;subst hy;have:=h.short a c hc;simp;omega
 intro j x y hy hx g;rw[pA (by omega)]at hy;by_cases e:j=a/\x=i
 ·obtain⟨rfl,rfl⟩:=e;rw[hc]at hy;cases hy;refine⟨hb,λq' hq=>?_⟩;rw[hn]at hq;cases hq;exact⟨(q,x::c.2),by simp,rfl,pi _⟩
 obtain⟨h1,h2⟩:=h.seen j x y hy hx (by omega);refine⟨h1,λq' hq=>?_⟩;obtain⟨b,g1,g2⟩:=h2 q' hq;exact⟨b,nX _ g1,g2⟩
def Bfs.step {L:List (S×TC)}{a:Nat}(h:Bfs k bad nx p0 L a k)(ha:a<L.length):Bfs k bad nx p0 L (a+1) 0:={
 first:=h.first
 mono:=h.mono
 path:=h.path
 ahead:=by intro x c hc hx;have h1:=h.ahead x _ (pe ha) hx;have h2:=h.mono a (a+1) _ _ (by omega) (pe ha) hc;have h3:(rv k L[a].2+1)*k<=rv k c.2*k:=hU _ h2;rw[rm]at h3;omega
 pos:=pM _
 lies:=ha
 fin:=λ_=>rfl
 short:=h.short
 seen:=λj x b hb hx g=>h.seen j x b hb hx (by rcases g with g|⟨_,g⟩<;>omega) }
def Bfs.reach {L:List (S×TC)}{a i:Nat}(h:Bfs k bad nx p0 L a i):∀(u:TC) (q:S),zcr k bad nx p0 u q->(∀c,L[a]?=some c->rv k u<rv k c.2*k+i+1)->∃(j:Nat) (b:S×TC),L[j]?=some b/\b.1=q/\rv k b.2<=rv k u
 |[],q,hp,_=>⟨0,_,h.first,hp.symm,pM _⟩
 |x::u,q,⟨p,hp,hx,hb,hn⟩,hlt=>by
  have hk:rv k u<=rv k u*k:=Nat.le_mul_of_pos_right _ (by omega);obtain⟨j,b,hj,rfl,hr⟩:=h.reach u p hp λc hc=>by have:=hlt c hc;simp only[rv]at this;omega
  have hmul:rv k b.2*k<=rv k u*k:=hU _ hr;have hjl:=(pf.1 hj).1;have hpos:j<a\/j=a/\x<i:=by
   rcases mQ j a with g|g|g
   ·exact .inl g
   ·subst g;refine .inr ⟨rfl,?_⟩;have:=hlt b hj;simp only[rv]at this;omega
   exfalso;have hal:a<L.length:=by omega
   have h1:=hlt _ (pe hal);have h2:=h.mono a j _ _ g (pe hal) hj;have h3:(rv k L[a].2+1)*k<=rv k b.2*k:=hU _ h2;rw[rm]at h3;have:=h.pos;simp only[rv]at h1;omega
  obtain⟨_,h2⟩:=h.seen j x b hj hx hpos;obtain⟨c,g1,g2,g3⟩:=h2 q hn;obtain⟨j',g4⟩:=nY g1;exact⟨j',c,g4,g2,by simp only[rv];omega⟩
def z9O:TC->TC->Prop
 |[],_=>True
 |i::u,j::v=>i<j\/i=j/\z9O u v
 |_::_,[]=>False
def z1C:∀{w:TC} {p:S},KI k bad nx p w->∀x∈w,x<k
 |[],_,h=>h.elim
 |[i],_,h=>by simpa using h.1
 |i::j::w,_,⟨hi,_,q,_,h⟩=>by
  intro x hx;rcases pl.1 hx with rfl|hx
  ·exact hi
  exact z1C h x hx
def Mk (k:Nat)(bad:S->Nat->Bool)(nx:S->Nat->Option S):Nat->S->Prop
 |0,_=>False
 |n+1,p=>Mk k bad nx n p\/∃i,i<k/\(bad p i=true\/∃q,nx p i=some q/\Mk k bad nx n q)
def Mk.mono {n m:Nat}{p:S}(h:Mk k bad nx n p)(hm:n<=m):Mk k bad nx m p:=by
 induction hm with
 |refl=>exact h
 |step _ ih=>exact .inl ih
def Mk.tell:∀{n:Nat} {p:S},Mk k bad nx n p->∃w,KI k bad nx p w/\w.length<=n
 |0,_,h=>h.elim
 |n+1,p,.inl h=>by obtain⟨w,h1,h2⟩:=Mk.tell h;exact⟨w,h1,by omega⟩
 |n+1,p,.inr ⟨i,hi,h⟩=>by
  by_cases hb:bad p i=true
  ·exact⟨[i],⟨hi,hb⟩,by simp⟩
  rcases h with h|⟨q,hq,h⟩
  ·exact(hb h).elim
  obtain⟨w,h1,h2⟩:=Mk.tell h;refine⟨i::w,?_,by simp;omega⟩;cases w with
  |nil=>exact h1.elim
  |cons j w=>exact⟨hi,by simpa using hb,q,hq,h1⟩
def Vn:∀{w:TC} {p:S},KI k bad nx p w->Mk k bad nx w.length p
 |[],_,h=>h.elim
 |[i],p,h=>.inr ⟨i,h.1,.inl h.2⟩
 |i::j::w,p,⟨hi,hb,q,hn,h⟩=>.inr ⟨i,hi,.inr ⟨q,hn,Vn h⟩⟩
end
variable {α:Type}
def z2s {p q:α->Bool}:∀{l:List α},(∀x∈l,p x=true->q x=true)->(∃x∈l,q x=true/\p x=false)->l.countP p<l.countP q
 |[],_,⟨x,hx,_⟩=>by cases hx
 |y::l,h,⟨x,hx,h1,h2⟩=>by
  have hm:l.countP p<=l.countP q:=List.countP_mono_left λz hz=>h z (mS _ hz);simp only[rK];rcases pl.1 hx with rfl|hx
  ·simp only[h1,h2,if_true,gf,if_false];omega
  have:=z2s (λz hz=>h z (mS _ hz)) ⟨x,hx,h1,h2⟩;cases hp:p y with
  |true=>simp only[h y (by simp) hp,if_true];omega
  |false=>simp only[gf,if_false];split<;>omega
open Classical in
def zfH (N:Nat)(R:Nat->Nat->Prop):Nat:=(List.range N).countP λs=>decide (∀t,t<s->¬R s t)
def zoV {N:Nat}(hN:0<N)(R:Nat->Nat->Nat->Prop)(symm:∀k s t,s<N->t<N->R k s t->R k t s)(trans:∀k s t u,s<N->t<N->u<N->R k s t->R k t u->R k s u)
  (refl:∀k s,s<N->R k s s) (mono:∀k s t,s<N->t<N->R (k+1) s t->R k s t) (stat:∀k,(∀s t,s<N->t<N->R k s t->R (k+1) s t)->∀s t,s<N->t<N->R (k+1) s t->R (k+2) s t) :
  ∀s t,s<N->t<N->R (N-1) s t->∀j,R j s t:=by
 classical
 have step:∀k,(¬∀s t,s<N->t<N->R k s t->R (k+1) s t)->zfH N (R k)<zfH N (R (k+1)):=by
  intro k hk;simp only[Classical.not_forall]at hk;obtain⟨s,t,hs,ht,h1,h2⟩:=hk;unfold zfH;refine z2s (λx hx=>?_) ?_
  ·have hx:=gK.1 hx;simp only[decide_eq_true_eq];exact λh t ht q=>h t ht (mono k x t hx (by omega) q)
  ·
   have hmin:∃z,z<N/\R k z s/\∀y,y<z->¬R k y s:=by
    have key:∀n,∀z,z<=n->z<N->R k z s->∃z,z<N/\R k z s/\∀y,y<z->¬R k y s:=by
     intro n;induction n with
     |zero=>intro z hz hzN hr;exact⟨z,hzN,hr,λy hy=>by omega⟩
     |succ n ih=>
      intro z hz hzN hr;by_cases q:∃y,y<z/\R k y s
      ·obtain⟨y,y1,y2⟩:=q;exact ih y (by omega) (by omega) y2
      exact⟨z,hzN,hr,λy hy g=>q ⟨y,hy,g⟩⟩
    exact key s s (pi _) hs (refl k s hs)
   obtain⟨z,hz,hzs,hzm⟩:=hmin;have hzt:R k z t:=trans k z s t hz hs ht hzs h1;obtain⟨u,hu,hzu,hne⟩:∃u,u<N/\R k z u/\¬R (k+1) z u:=by
    by_cases q:R (k+1) z s
    ·by_cases g:R (k+1) z t
     ·exact(h2 (trans (k+1) s z t hs hz ht (symm _ _ _ hz hs q) g)).elim
     exact⟨t,ht,hzt,g⟩
    exact⟨s,hs,hzs,q⟩
   have hmin:∃y,y<N/\R (k+1) y u/\∀x,x<y->¬R (k+1) x u:=by
    have key:∀n,∀z,z<=n->z<N->R (k+1) z u->∃z,z<N/\R (k+1) z u/\∀y,y<z->¬R (k+1) y u:=by
     intro n;induction n with
     |zero=>intro z hz hzN hr;exact⟨z,hzN,hr,λy hy=>by omega⟩
     |succ n ih=>
      intro z hz hzN hr;by_cases q:∃y,y<z/\R (k+1) y u
      ·obtain⟨y,y1,y2⟩:=q;exact ih y (by omega) (by omega) y2
      exact⟨z,hzN,hr,λy hy g=>q ⟨y,hy,g⟩⟩
    exact key u u (pi _) hu (refl _ u hu)
   obtain⟨y,hy,hyu,hym⟩:=hmin;have hyk:R k y u:=mono k y u hy hu hyu;have hyz:R k y z:=trans k y u z hy hu hz hyk (symm _ _ _ hz hu hzu);have hzy:z<y:=by
    rcases mQ z y with g|g|g
    ·exact g
    ·subst g;exact(hne hyu).elim
    exact(hzm y g (trans k y z s hy hz hs hyz hzs)).elim
   refine⟨y,gK.2 hy,?_,?_⟩
   ·simp only[decide_eq_true_eq];intro x hx q;exact hym x hx (trans (k+1) x y u (by omega) hy hu (symm _ _ _ hy (by omega) q) hyu)
   simp only[decide_eq_false_iff_not];intro q;exact q z hzy hyz
 have le:∀k,zfH N (R k)<=N:=by intro k;unfold zfH;refine pm (rF) ?_;simp
 have one:∀k,1<=zfH N (R k):=by intro k;unfold zfH;refine List.countP_pos_iff.2 ⟨0,gK.2 hN,?_⟩;simp
 have rest:∃k,k<N/\∀s t,s<N->t<N->R k s t->R (k+1) s t:=by
  refine gG λhno=>?_;have:∀k,k<=N->k+1<=zfH N (R k):=by
   intro k;induction k with
   |zero=>intro _;exact one 0
   |succ k ih=>intro hk;have:=step k λh=>hno ⟨k,by omega,h⟩;have:=ih (by omega);omega
  have:=this N (pi _);have:=le N;omega
 obtain⟨k,hk,hst⟩:=rest;have up:∀d,∀s t,s<N->t<N->R (k+d) s t->R (k+d+1) s t:=by
  intro d;induction d with
  |zero=>exact hst
  |succ d ih=>exact stat (k+d) ih
 have down:∀d j s t,s<N->t<N->R (j+d) s t->R j s t:=by
  intro d;induction d with
  |zero=>intro j s t _ _ h;exact h
  |succ d ih=>intro j s t hs ht h;exact ih j s t hs ht (mono _ s t hs ht h)
 intro s t hs ht h j;have hk':R k s t:=down (N-1-k) k s t hs ht (by rw[show k+(N-1-k)=N-1 by omega];exact h);have far:∀d,R (k+d) s t:=by
  intro d;induction d with
  |zero=>exact hk'
  |succ d ih=>exact up d s t hs ht ih
 exact down k j s t hs ht (by rw[rW];exact far j)
section
variable {S S':Type}{k:Nat}{bad:S->Nat->Bool}{nx:S->Nat->Option S}{bad':S'->Nat->Bool}{nx':S'->Nat->Option S'}(φ:S->S')(I:S->Prop)
 (hI:∀p i q,I p->i<k->nx p i=some q->I q) (hb:∀p i,I p->i<k->bad' (φ p) i=bad p i) (hn:∀p i,I p->i<k->nx' (φ p) i=(nx p i).map φ)
include hI hb hn
end
def z7M (m:z6)(x:z8):Bool:=(x.o == -1&&x.r == -1) ||(decide (0<=x.o)&&decide (x.o<(m.i.length:Int))&&decide (0<=x.r)&&decide (x.r<m.m))
def z9v (m:z6)(r:List z8):Bool:=decide ((r.length:Int)=m.j)&&r.all (z7M m)
def chk (m:z6):Int :=
 if m.j>16\/m.m>16\/(m.i.length:Int)>64 then 3 else if m.j<1\/m.m<1\/m.i.length=0 then 1 else if m.i.all (z9v m)=true then 0 else 1
def zhS (m:z6)(x:z8):YL m x=some (z7M m x):=by
 unfold YL uc;simp only[oB,rz];rcases Bool.eq_false_or_eq_true (x.o==(-1)&&x.r==(-1)) with h|h
 ·simp[z7M,h]
 rw[h];simp only[z7M,h,nC,cond_false];by_cases h1:(0:Int)<=x.o
 ·by_cases h2:x.o<(m.i.length:Int)
  ·by_cases h3:(0:Int)<=x.r
   ·simp[mM,h1,h2,h3]
   simp[mM,h1,h2,h3]
  simp[mM,h1,h2]
 simp[h1]
def z7R (m:z6)(r:List z8)(hl:r.length<4611686018427387904):yd r m=some (!r.all (z7M m)):=by
 have hloop:loop (λs=>yc r m s) 0=some (oS (ya (λi x=>if z7M m x=true then none else some (i:Int)) r 0)):=by
  refine wh r hl _ ?_ ?_
  ·intro i x hx;have hi:=(pf.1 hx).1;unfold yc;have hd:decide ((i:Int)<((r.length:Nat):Int))=true:=by simpa using hi
   rw[hd,cond_true,zM,bdT hx];unfold Yy;simp only[zhS,oB];cases z7M m x<;>rfl
  unfold yc;simp
 unfold yd xj;rw[hloop];simp only[oB];cases hf:ya (λi x=>if z7M m x=true then none else some (i:Int)) r 0 with
 |some q=>
  obtain⟨i,x,h1,h2⟩:=ug hf;have hx:z7M m x≠true:=by intro h;rw[if_pos h]at h2;cases h2
  rw[if_neg hx]at h2;simp only[Option.some.injEq]at h2;have:r.all (z7M m)=false:=by rw[List.all_eq_false];exact⟨x,pI h1,hx⟩
  rw[this];have:(q:Int)>=0:=by rw[<-h2];omega
  show some (decide (q>=0))=_;simp[this]
 |none=>
  have:r.all (z7M m)=true:=by
   rw[gB];intro x hx;obtain⟨i,hi⟩:=nY hx;have:=uh hf i x hi;by_cases h:z7M m x=true
   ·exact h
   rw[if_neg h]at this;cases this
  rw[this];rfl
variable {m:z6}
def z9L (h0:(m.i.length:Int)<=64)(h1:m.j<=16):loop (λs=>qK m s) 0=some (oS (ya (λ_ r=>if z9v m r=true then none else some (1:Int)) m.i 0)):=by
 refine wh m.i (by omega) _ ?_ ?_
 ·intro i r hr;have hi:=(pf.1 hr).1;unfold qK;have hd:decide ((i:Int)<((m.i.length:Nat):Int))=true:=by simpa using hi
  rw[hd,cond_true,zM,bdT hr];by_cases hlen:(r.length:Int)=m.j
  ·have hne:(((r.length:Nat):Int) != m.j)=false:=by simpa using hlen
   rw[hne,cond_false,bdT (z7R m r (by omega))];have:z9v m r=r.all (z7M m):=by simp[z9v,hlen]
   rw[this];cases r.all (z7M m)<;>rfl
  have hne:(((r.length:Nat):Int) !=m.j)=true:=by simpa using hlen
  rw[hne,cond_true];have:z9v m r=false:=by simp[z9v,hlen]
  rw[this];rfl
 unfold qK;simp
def z9u (m:z6):ya (λ_ r=>if z9v m r=true then none else some (1:Int)) m.i 0=if m.i.all (z9v m)=true then none else some 1:=by
 by_cases h:m.i.all (z9v m)=true
 ·rw[if_pos h];refine VN λi r hr=>?_;rw[if_pos (gB.1 h r (pI hr))]
 rw[if_neg h];cases hf:ya (λ_ r=>if z9v m r=true then none else some (1:Int)) m.i 0 with
 |some q=>
  obtain⟨i,x,h1,h2⟩:=ug hf;split at h2
  ·cases h2
  exact h2.symm▸rfl
 |none=>
  exfalso;apply h;rw[gB];intro x hx;obtain⟨i,hi⟩:=nY hx;have:=uh hf i x hi;by_cases h:z9v m x=true
  ·exact h
  rw[if_neg h]at this;cases this
def VT (m:z6):xo m=some (chk m):=by
 unfold xo chk;by_cases h1:m.j>16
 ·simp[h1]
 by_cases h2:m.m>16
 ·simp[mM,h1,h2]
 by_cases h3:(m.i.length:Int)>64
 ·simp[mM,h1,h2,h3]
 rw[if_neg (by simp[mM,h1,h2,h3])];by_cases h4:m.j<1
 ·simp[mM,h1,h2,h3,h4]
 by_cases h5:m.m<1
 ·simp[mM,h1,h2,h3,h4,h5]
 by_cases h6:m.i.length=0
 ·simp[mM,h1,h2,h4,h5,h6]
 rw[if_neg (by simp[h4,h5,h6])];have h6':decide (((m.i.length:Nat):Int)<1)=false:=by simp;omega
 have e1:decide (m.j>16)=false:=by simpa using h1
 have e2:decide (m.m>16)=false:=by simpa using h2
 have e3:decide (((m.i.length:Nat):Int)>64)=false:=by simpa using h3
 have e4:decide (m.j<1)=false:=by simpa using h4
 have e5:decide (m.m<1)=false:=by simpa using h5
 simp only[e1,e2,e3,e4,e5,h6',cond_false];rw[bdT (z9L (by omega) (by omega)),z9u];by_cases h:m.i.all (z9v m)=true
 ·rw[if_pos h,if_pos h];rfl
 rw[if_neg h,if_neg h];rfl
structure VM (m:z6):Prop where
 in1:1<=m.j
 in16:m.j<=16
 out1:1<=m.m
 out16:m.m<=16
 J:1<=m.i.length
 y:m.i.length<=64
 row:∀r∈m.i,(r.length:Int)=m.j
 edge:∀r∈m.i,∀x∈r,(x.o=-1/\x.r=-1)\/(0<=x.o/\x.o<(m.i.length:Int)/\0<=x.r/\x.r<m.m)
def z2u (h:VM m):chk m=0:=by
 unfold chk;have:=h.in1;have:=h.in16;have:=h.out1;have:=h.out16;have:=h.J;have:=h.y;rw[if_neg (by omega),if_neg (by omega),if_pos];rw[gB];intro r hr;simp only[z9v,pB,decide_eq_true_eq,gB];refine⟨h.row r hr,λx hx=>?_⟩;simp only[z7M,gY,pB,beq_iff_eq,decide_eq_true_eq];rcases h.edge r hr x hx with⟨a,b⟩|⟨a,b,c,d⟩
 ·exact .inl ⟨a,b⟩
 exact .inr ⟨⟨⟨a,b⟩,c⟩,d⟩
def kk (m:z6):Nat:=m.j.toNat
def E (m:z6)(s i:Nat):z8:=((m.i[s]?.getD [])[i]?).getD ⟨-1,-1⟩
variable {s i:Nat}{β:Type}
section
variable {m:z6}(h:VM m)
include h
theorem VM.kk_eq:((kk m:Nat):Int)=m.j:=by have:=h.in1;unfold kk;omega
theorem VM.kk_pos:1<=kk m:=by have:=h.in1;unfold kk;omega
theorem VM.kk_le:kk m<=16:=by have:=h.in16;unfold kk;omega
theorem VM.rowAt {s:Nat}(hs:s<m.i.length):∃r,m.i[s]?=some r/\r.length=kk m/\∀i,i<kk m->r[i]?=some (E m s i):=by
 have hr:=pe hs;have hl:=h.row _ (pD hs);have hl':m.i[s].length=kk m:=by unfold kk;omega
 refine⟨_,hr,hl',λi hi=>?_⟩;have hi':i<m.i[s].length:=by omega
 unfold E;rw[hr];simp only[pW];rw[pe hi'];rfl
theorem VM.edgeAt (hs:s<m.i.length)(hi:i<kk m):((E m s i).o=-1/\(E m s i).r=-1)\/(0<=(E m s i).o/\(E m s i).o<(m.i.length:Int)/\0<=(E m s i).r/\(E m s i).r<m.m):=by obtain⟨r,h1,_,h2⟩:=h.rowAt hs;exact h.edge r (pI h1) _ (pI (h2 i hi))
theorem VM.edge_eq (hs:s<m.i.length)(hi:i<kk m)  {f:z8->Option β} :
  (Option.bind (idx m.i (s:Int)) λr=>Option.bind (idx r (i:Int)) f)=f (E m s i):=by
 obtain⟨r,h1,_,h2⟩:=h.rowAt hs;rw[zM,h1,oB,zM,h2 i hi,oB]
end
section
variable {K V:Type}[BEq K][LawfulBEq K]
def z18 (l:List (K×V))(x y:K)(v:V):Vf (z29 l x v) y=if(x==y)=true then some v else Vf l y:=by
 induction l with
 |nil=>simp only[z29,Vf]
 |cons p l ih=>
  simp only[z29];by_cases h:p.1=x
  ·rw[if_pos (by simpa using h)];simp only[Vf];by_cases q:x=y
   ·rw[if_pos (by simpa using q),if_pos (by simpa using q)]
   rw[if_neg (by simpa using q),if_neg (by simpa using q),if_neg (by rw[h];simpa using q)]
  rw[if_neg (by simpa using h)];simp only[Vf,ih];by_cases q:p.1=y
  ·have q':¬x=y:=by rintro rfl;exact h q
   have e1:(p.1==y)=true:=by simpa using q
   have e2:(x==y)=false:=by simpa using q'
   simp[e1,e2]
  have e1:(p.1==y)=false:=by simpa using q
  simp[e1]
end
def XB:∀(n:Nat) (l:TC),l.Nodup->(∀x∈l,x<n)->l.length<=n
 |0,l,_,h=>by
  cases l with
  |nil=>simp
  |cons x l=>have:=h x (by simp);omega
 |n+1,l,hd,h=>by
  by_cases hm:n∈l
  ·have h1:=List.length_erase_of_mem hm;have h2:=XB n (l.erase n) (hd.erase n) λx hx=>by have h3:=(hd.mem_erase_iff).1 hx;have:=h x h3.2;have:=h3.1;omega
   have:0<l.length:=List.length_pos_of_mem hm;omega
  have:=XB n l hd λx hx=>by have:=h x hx;have:x≠n:=λe=>hm (e▸hx);omega
  omega
def Zd (a b:z6)(p:Nat×Nat)(i:Nat):Bool:=(E a p.1 i).r !=(E b p.2 i).r
def nxP (a b:z6)(p:Nat×Nat)(i:Nat):Option (Nat×Nat):=if 0<=(E a p.1 i).o/\0<=(E b p.2 i).o then some ((E a p.1 i).o.toNat,(E b p.2 i).o.toNat) else none
abbrev LL:=List ((Nat×Nat)×TC)
def zpv (a b:z6)(L:LL):Prop:=(L.map (·.1)).Nodup/\∀x∈L,x.1.1<a.i.length/\x.1.2<b.i.length
structure WM (m:z6):Prop where
 in1:1<=m.j
 in16:m.j<=16
 J:1<=m.i.length
 len:m.i.length<=128
 row:∀r∈m.i,(r.length:Int)=m.j
 edge:∀r∈m.i,∀x∈r,(x.o=-1/\x.r=-1)\/(0<=x.o/\x.o<(m.i.length:Int)/\0<=x.r)
def VM.wm (h:VM m):WM m:=⟨h.in1,h.in16,h.J,by have:=h.y;omega,h.row,λr hr x hx=>by
 rcases h.edge r hr x hx with g|⟨g1,g2,g3,_⟩
 ·exact .inl g
 exact .inr ⟨g1,g2,g3⟩⟩
section
variable {m:z6}(h:WM m)
include h
theorem WM.kk_eq:((kk m:Nat):Int)=m.j:=by have:=h.in1;unfold kk;omega
theorem WM.kk_le:kk m<=16:=by have:=h.in16;unfold kk;omega
theorem WM.rowAt {s:Nat}(hs:s<m.i.length):∃r,m.i[s]?=some r/\r.length=kk m/\∀i,i<kk m->r[i]?=some (E m s i):=by
 have hr:=pe hs;have hl:=h.row _ (pD hs);have hl':m.i[s].length=kk m:=by unfold kk;omega
 refine⟨_,hr,hl',λi hi=>?_⟩;have hi':i<m.i[s].length:=by omega
 unfold E;rw[hr];simp only[pW];rw[pe hi'];rfl
theorem WM.edgeAt (hs:s<m.i.length)(hi:i<kk m):((E m s i).o=-1/\(E m s i).r=-1)\/(0<=(E m s i).o/\(E m s i).o<(m.i.length:Int)/\0<=(E m s i).r):=by obtain⟨r,h1,_,h2⟩:=h.rowAt hs;exact h.edge r (pI h1) _ (pI (h2 i hi))
theorem WM.edge_eq (hs:s<m.i.length)(hi:i<kk m)  {f:z8->Option β} :
  (Option.bind (idx m.i (s:Int)) λr=>Option.bind (idx r (i:Int)) f)=f (E m s i):=by
 obtain⟨r,h1,_,h2⟩:=h.rowAt hs;rw[zM,h1,oB,zM,h2 i hi,oB]
theorem WM.nx_in {p:Nat×Nat}{i:Nat}{q:Nat×Nat}(h1:p.1<m.i.length)(h2:p.2<m.i.length)(hi:i<kk m)(hq:nxP m m p i=some q):q.1<m.i.length/\q.2<m.i.length:=by
 unfold nxP at hq;split at hq
 ·rename_i hc;cases hq;have a:=h.edgeAt h1 hi;have b:=h.edgeAt h2 hi;simp only;omega
 cases hq
end
def mkb (k:Nat)(bad:Nat×Nat->Nat->Bool)(nx:Nat×Nat->Nat->Option (Nat×Nat)):Nat->Nat×Nat->Bool
 |0,_=>false
 |n+1,p=>mkb k bad nx n p ||(List.range k).any λi=>bad p i ||(match nx p i with|some q=>mkb k bad nx n q|none=>false)
def z4N (k:Nat)(bad:Nat×Nat->Nat->Bool)(nx:Nat×Nat->Nat->Option (Nat×Nat)):∀(n:Nat) (p:Nat×Nat),mkb k bad nx n p=true↔Mk k bad nx n p
 |0,p=>by simp[mkb,Mk]
 |n+1,p=>by
  simp only[mkb,Mk,gY,rn,gK,z4N k bad nx n p];constructor
  ·rintro(h|⟨i,hi,h|h⟩)
   ·exact .inl h
   ·exact .inr ⟨i,hi,.inl h⟩
   cases hq:nx p i with
   |none=>rw[hq]at h;cases h
   |some q=>rw[hq]at h;exact .inr ⟨i,hi,.inr ⟨q,hq,(z4N k bad nx n q).1 h⟩⟩
  rintro(h|⟨i,hi,h|⟨q,hq,h⟩⟩)
  ·exact .inl h
  ·exact .inr ⟨i,hi,.inl h⟩
  exact .inr ⟨i,hi,.inr (by rw[hq];exact(z4N k bad nx n q).2 h)⟩
def tab (N:Nat)(f:Nat->Nat->Bool):List (List Bool):=(List.range N).map λs=>(List.range N).map λt=>f s t
def za5 {N s t:Nat}(f:Nat->Nat->Bool)(hs:s<N)(ht:t<N)  {g:Bool->Option β}:(Option.bind (idx (tab N f) (s:Int)) λr=>Option.bind (idx r (t:Int)) g)=g (f s t):=by
 have e1:(tab N f)[s]?=some ((List.range N).map λt=>f s t):=by simp[tab,hs]
 have e2:((List.range N).map λt=>f s t)[t]?=some (f s t):=by simp[ht]
 rw[zM,e1,oB,zM,e2,oB]
def zak (N t:Nat)(g:Nat->α)(v:α):((List.range N).map g).set t v=(List.range N).map λx=>if x=t then v else g x:=by
 refine List.ext_getElem (by simp) λn h1 h2=>?_;simp only[List.getElem_set,List.getElem_map,List.getElem_range];by_cases e:t=n
 ·rw[if_pos e,if_pos e.symm]
 rw[if_neg e,if_neg (nI e)]
def z7c (m:z6)(f:Nat->Nat->Bool)(p:Nat×Nat)(i:Nat):Bool:=Zd m m p i ||(match nxP m m p i with|some q=>f q.1 q.2|none=>false)
def zfj (h:WM m)(f:Nat->Nat->Bool){s t:Nat}(hs:s<m.i.length)(ht:t<m.i.length) :
  Vw m (tab m.i.length f) (s:Int) (t:Int)=some (if(List.range (kk m)).any (z7c m f (s,t))=true then 1 else 0):=by
 have hk:=h.kk_eq;have k16:=h.kk_le;have hl:loop (λq=>ZP m (tab m.i.length f) (s:Int) (t:Int) q) 0=some (oS (ya (λ_ i=>if z7c m f (s,t) i=true then some (1:Int) else none) (List.range (kk m)) 0)):=by
  refine wh (List.range (kk m)) (by simp;omega) _ ?_ ?_
  ·intro i x hx;have hi:i<kk m:=by have:=(pf.1 hx).1;simpa using this
   have:x=i:=by rw[rR hi]at hx;exact(Option.some.inj hx).symm
   subst this;unfold ZP qX;have hd:decide ((x:Int)<m.j)=true:=by rw[<-hk];simpa using hi
   rw[hd,cond_true,h.edge_eq hs hi,h.edge_eq ht hi];have e1:=h.edgeAt hs hi;have e2:=h.edgeAt ht hi;by_cases hbad:(E m s x).r=(E m t x).r
   ·have n1:((E m s x).r !=(E m t x).r)=false:=by simpa using hbad
    rw[n1,cond_false];by_cases t1:(E m s x).o>=0
    ·by_cases t2:(E m t x).o>=0
     ·have hnx:nxP m m (s,t) x=some ((E m s x).o.toNat,(E m t x).o.toNat):=by unfold nxP;rw[if_pos ⟨t1,t2⟩]
      have hin:=h.nx_in hs ht hi hnx;have c1:(E m s x).o=(((E m s x).o.toNat:Nat):Int):=by omega
      have c2:(E m t x).o=(((E m t x).o.toNat:Nat):Int):=by omega
      have ht1:z7c m f (s,t) x=f (E m s x).o.toNat (E m t x).o.toNat:=by unfold z7c Zd;rw[hnx];simp only[n1,nC]
      rw[decide_eq_true t1,decide_eq_true t2];simp only[cond_true];have:=za5 f hin.1 hin.2 (g:=λv=>bif v then some (LR.done (Sum.inr (1:Int)):LR Int (Unit⊕Int)) else some (LR.next (w64 ((x:Int)+1))));rw[<-c1,<-c2]at this;rw[this,ht1];cases f (E m s x).o.toNat (E m t x).o.toNat<;>rfl
     have ht1:z7c m f (s,t) x=false:=by unfold z7c Zd nxP;rw[if_neg (by simp only;omega)];simp only[n1,nC]
     rw[decide_eq_true t1,decide_eq_false t2,ht1];rfl
    have ht1:z7c m f (s,t) x=false:=by unfold z7c Zd nxP;rw[if_neg (by simp only;omega)];simp only[n1,nC]
    rw[decide_eq_false t1,ht1];rfl
   have n1:((E m s x).r !=(E m t x).r)=true:=by simpa using hbad
   have ht1:z7c m f (s,t) x=true:=by unfold z7c Zd;simp only[n1,Bool.true_or]
   rw[n1,ht1];rfl
  unfold ZP;rw[List.length_range,hk];simp
 unfold Vw;rw[bdT hl];cases hf:ya (λ(_:Nat) i=>if z7c m f (s,t) i=true then some (1:Int) else none) (List.range (kk m)) 0 with
 |some q=>
  obtain⟨i,x,h1,h2⟩:=ug hf;split at h2
  ·rename_i hx;cases h2;have:(List.range (kk m)).any (z7c m f (s,t))=true:=rn.2 ⟨x,pI h1,hx⟩;rw[if_pos this];rfl
  cases h2
 |none=>
  have:¬(List.range (kk m)).any (z7c m f (s,t))=true:=by rw[rn];rintro⟨x,hx,hx2⟩;obtain⟨i,hi⟩:=nY hx;have:=uh hf i x hi;rw[if_pos hx2]at this;cases this
  rw[if_neg this];rfl
def zaF (N:Nat):List.replicate ((N:Nat):Int).toNat false=(List.range N).map λ_=>false:=by refine List.ext_getElem (by simp) λn h1 h2=>?_;simp
def XR (m:z6)(f:Nat->Nat->Bool)(s t:Nat):Bool:=f s t ||(List.range (kk m)).any (z7c m f (s,t))
def zdW (h:WM m)(f:Nat->Nat->Bool):loop (λq=>qh m (tab m.i.length f) q.1 q.2) (([]:List (List Bool)),0)=some (tab m.i.length (XR m f)):=by
 have zkC:=h.len;have row:∀(s:Nat),s<m.i.length->loop (λq=>qd m (tab m.i.length f) (s:Int) q.1 q.2) (((List.range s).map λs=>(List.range m.i.length).map λt=>XR m f s t)++[(List.range m.i.length).map λ_=>false],0)=some ((List.range (s+1)).map λs=>(List.range m.i.length).map λt=>XR m f s t):=by
  intro s hs;have hst:=xh (step:=λq=>qd m (tab m.i.length f) (s:Int) q.1 q.2) (λt:Nat=>(((List.range s).map λs=>(List.range m.i.length).map λt=>XR m f s t)++[(List.range m.i.length).map λt'=>if t' < t then XR m f s t' else false],(t:Int))) m.i.length (t:=(List.range (s+1)).map λs=>(List.range m.i.length).map λt=>XR m f s t) (by omega) ?_ ?_
  ·simpa using hst
  ·intro t ht;unfold qd;have hd:decide ((t:Int)<((m.i.length:Nat):Int))=true:=by simpa using ht
   have hw:w64 ((t:Int)+1)=((t+1:Nat):Int):=by rw[zC (by omega) (by omega)];rfl
   simp only[hd,cond_true];have e1:(((List.range s).map λs=>(List.range m.i.length).map λt=>XR m f s t)++[(List.range m.i.length).map λt'=>if t' < t then XR m f s t' else false])[s]?=some ((List.range m.i.length).map λt'=>if t' < t then XR m f s t' else false):=by rw[po (by simp)];simp
   have e2:∀x,((List.range m.i.length).map λt'=>if t' < t then XR m f s t' else false)[t]?=some x↔x=false:=by intro x;simp[ht,eq_comm]
   have e2':=(e2 false).2 rfl;have fin:∀v:Bool,v=XR m f s t->(((List.range s).map λs=>(List.range m.i.length).map λt=>XR m f s t)++[(List.range m.i.length).map λt'=>if t' < t then XR m f s t' else false]).set s (((List.range m.i.length).map λt'=>if t' < t then XR m f s t' else false).set t v)=((List.range s).map λs=>(List.range m.i.length).map λt=>XR m f s t)++[(List.range m.i.length).map λt'=>if t' < t+1 then XR m f s t' else false]:=by
    intro v hv;rw[List.set_append,if_neg (by simp),zak];simp only[pY,List.length_range,nH,nE];congr 3;funext x;by_cases e:x=t
    ·subst e;rw[if_pos rfl,if_pos (by omega)];exact hv
    rw[if_neg e];by_cases g:x<t
    ·rw[if_pos g,if_pos (by omega)]
    rw[if_neg g,if_neg (by omega)]
   rw[zM,bdT e1,za5 f hs ht];cases hf:f s t with
   |true=>simp only[cond_true];rw[zM,bdT e2',hw,ph,ph,fin true (by simp[XR,hf])]
   |false=>simp only[cond_false];rw[bdT (zfj h f hs ht),zM,bdT e2',hw,ph,ph,fin _ ?_];unfold XR;rw[hf,nC];cases (List.range (kk m)).any (z7c m f (s,t))<;>rfl
  unfold qd;simp only[Int.lt_irrefl,decide_false,cond_false];congr 3;rw[nR,gV];congr 1;simp only[gE,nB];congr 1;refine mX λx hx=>?_;rw[if_pos (gK.1 hx)]
 have:=xh (step:=λq=>qh m (tab m.i.length f) q.1 q.2) (λs:Nat=>((List.range s).map λs=>(List.range m.i.length).map λt=>XR m f s t,(s:Int))) m.i.length (t:=tab m.i.length (XR m f)) (by omega) ?_ ?_
 ·exact this
 ·intro s hs;unfold qh Xs;have hd:decide ((s:Int)<((m.i.length:Nat):Int))=true:=by simpa using hs
  have hw:w64 ((s:Int)+1)=((s+1:Nat):Int):=by rw[zC (by omega) (by omega)];rfl
  simp only[hd,cond_true];rw[gdT (by omega),gdT (by simp;omega),zaF,bdT (row s hs),hw]
 unfold qh;simp only[Int.lt_irrefl,decide_false,cond_false];rfl
def mrk (m:z6)(n s t:Nat):Bool:=mkb (kk m) (Zd m m) (nxP m m) n (s,t)
def zee (m:z6)(n:Nat):XR m (mrk m n)=mrk m (n+1):=by funext s t;unfold XR mrk;simp only[mkb];congr 1
def zbg (h:WM m)(n:Nat)(hn:n<=1000000):W8 m (n:Int)=some (tab m.i.length (mrk m n)):=by
 have zkC:=h.len;have l9:loop (λq=>qb m q.1 q.2) (([]:List (List Bool)),0)=some (tab m.i.length (mrk m 0)):=by
  have:=xh (step:=λq=>qb m q.1 q.2) (λs:Nat=>((List.range s).map λ_=>(List.range m.i.length).map λ_=>false,(s:Int))) m.i.length (t:=tab m.i.length (mrk m 0)) (by omega) ?_ ?_
  ·exact this
  ·intro s hs;unfold qb;have hd:decide ((s:Int)<((m.i.length:Nat):Int))=true:=by simpa using hs
   have hw:w64 ((s:Int)+1)=((s+1:Nat):Int):=by rw[zC (by omega) (by omega)];rfl
   simp only[hd,cond_true];rw[gdT (by omega),gdT (by simp;omega),zaF,hw,nR,gV];rfl
  unfold qb;simp only[Int.lt_irrefl,decide_false,cond_false];rfl
 have l3:=xh (step:=λq=>qn m (n:Int) q.1 q.2) (λr:Nat=>(tab m.i.length (mrk m r),(r:Int))) n (t:=tab m.i.length (mrk m n)) (by omega) ?_ ?_
 ·unfold W8 Xw Xv;rw[bdT l9];have l3':loop (λq=>qn m (n:Int) q.1 q.2) (tab m.i.length (mrk m 0),0)=some (tab m.i.length (mrk m n)):=l3;rw[bdT l3']
 ·intro r hr;unfold qn Xt Xu;have hd:decide ((r:Int)<(n:Int))=true:=by simpa using hr
  have hw:w64 ((r:Int)+1)=((r+1:Nat):Int):=by rw[zC (by omega) (by omega)];rfl
  simp only[hd,cond_true];rw[bdT (zdW h (mrk m r)),zee,hw]
 unfold qn;simp only[Int.lt_irrefl,decide_false,cond_false]
def Kt (h:WM m){s t:Nat}(hs:s<m.i.length)(ht:t<m.i.length){j:Nat}(hj:Mk (kk m) (Zd m m) (nxP m m) j (s,t)):Mk (kk m) (Zd m m) (nxP m m) (m.i.length-1) (s,t):=by
 refine gG λhno=>?_;have same:∀{p:Nat×Nat} {i:Nat},p.1<m.i.length->p.2<m.i.length->i<kk m->Zd m m p i=false->((E m p.1 i).o>=0↔(E m p.2 i).o>=0):=by
  intro p i h1 h2 hi hb;have e:(E m p.1 i).r=(E m p.2 i).r:=by simpa[Zd] using hb
  have a:=h.edgeAt h1 hi;have b:=h.edgeAt h2 hi;omega
 have symm:∀k s t,Mk (kk m) (Zd m m) (nxP m m) k (s,t)->Mk (kk m) (Zd m m) (nxP m m) k (t,s):=by
  intro k;induction k with
  |zero=>intro s t h;exact h
  |succ k ih=>
   rintro s t (h|⟨i,hi,h|⟨q,hq,h⟩⟩)
   ·exact .inl (ih _ _ h)
   ·exact .inr ⟨i,hi,.inl (by unfold Zd at h⊢;simp only[bne_iff_ne,ne_eq]at h⊢;exact λe=>h e.symm)⟩
   refine .inr ⟨i,hi,.inr ⟨(q.2,q.1),?_,ih _ _ h⟩⟩;unfold nxP at hq⊢;split at hq
   ·rename_i hc;cases hq;rw[if_pos ⟨hc.2,hc.1⟩]
   cases hq
 have trans:∀k s t u,s<m.i.length->t<m.i.length->u<m.i.length->Mk (kk m) (Zd m m) (nxP m m) k (s,u)->Mk (kk m) (Zd m m) (nxP m m) k (s,t)\/Mk (kk m) (Zd m m) (nxP m m) k (t,u):=by
  intro k;induction k with
  |zero=>intro s t u _ _ _ h;exact h.elim
  |succ k ih=>
   rintro s t u hs ht hu (g|⟨i,hi,g|⟨q,hq,g⟩⟩)
   ·rcases ih s t u hs ht hu g with g|g
    ·exact .inl (.inl g)
    exact .inr (.inl g)
   ·cases b1:Zd m m (s,t) i with
    |true=>exact .inl (.inr ⟨i,hi,.inl b1⟩)
    |false=>refine .inr (.inr ⟨i,hi,.inl ?_⟩);unfold Zd at b1 g⊢;simp only[bne_iff_ne,ne_eq,bne_eq_false_iff_eq]at b1 g⊢;rw[<-b1];exact g
   cases b1:Zd m m (s,t) i with
   |true=>exact .inl (.inr ⟨i,hi,.inl b1⟩)
   |false=>
    cases b2:Zd m m (t,u) i with
    |true=>exact .inr (.inr ⟨i,hi,.inl b2⟩)
    |false=>
     have c1:=same (p:=(s,t)) hs ht hi b1;have c2:=same (p:=(t,u)) ht hu hi b2;simp only at c1 c2;unfold nxP at hq;split at hq
     ·rename_i hc;cases hq;simp only at hc g;have e1:=h.edgeAt hs hi;have e2:=h.edgeAt ht hi;have e3:=h.edgeAt hu hi;rcases ih (E m s i).o.toNat (E m t i).o.toNat (E m u i).o.toNat (by omega) (by omega) (by omega) g with g|g
      ·exact .inl (.inr ⟨i,hi,.inr ⟨_,by unfold nxP;rw[if_pos ⟨hc.1,by simp only;omega⟩],g⟩⟩)
      exact .inr (.inr ⟨i,hi,.inr ⟨_,by unfold nxP;rw[if_pos ⟨by simp only;omega,hc.2⟩],g⟩⟩)
     cases hq
 have refl:∀k s,¬Mk (kk m) (Zd m m) (nxP m m) k (s,s):=by
  intro k;induction k with
  |zero=>intro s h;exact h
  |succ k ih=>
   rintro s (g|⟨i,hi,g|⟨q,hq,g⟩⟩)
   ·exact ih s g
   ·simp[Zd]at g
   unfold nxP at hq;split at hq
   ·cases hq;exact ih _ g
   cases hq
 exact zoV (N:=m.i.length) h.J (λk s t=>¬Mk (kk m) (Zd m m) (nxP m m) k (s,t)) (λk s t _ _ g q=>g (symm k t s q)) (λk s t u hs ht hu g1 g2 q=>by
   rcases trans k s t u hs ht hu q with g|g
   ·exact g1 g
   ·exact g2 g) (λk s _=>refl k s) (λk s t _ _ g q=>g (.inl q)) (λk hk s t hs ht g q=>by
   rcases q with q|⟨i,hi,q|⟨r,hr,q⟩⟩
   ·exact g q
   ·exact g (.inr ⟨i,hi,.inl q⟩)
   have hin:=h.nx_in (p:=(s,t)) hs ht hi hr;have:Mk (kk m) (Zd m m) (nxP m m) k r:=gG λc=>hk r.1 r.2 hin.1 hin.2 c q;exact g (.inr ⟨i,hi,.inr ⟨r,hr,this⟩⟩)) s t hs ht hno j hj
def z7v {a k:Int}(h0:0<=a)(hk:1<=k)(hk2:k<=1000000):1<=w64 (1+w64 (Int.tmod a k))/\w64 (1+w64 (Int.tmod a k))<=k:=by have h1:=rU k h0;have h2:=rX a (show 0<k by omega);rw[zC (x:=Int.tmod a k) (by omega) (by omega),zC (by omega) (by omega)];omega
def zhf (s t:TB)(hs:s.length<4611686018427387904)(ht:t.length<4611686018427387904):QD s t=some (decide (s=t)):=by
 unfold QD VB;by_cases h1:s.length<t.length
 ·rw[decide_eq_true (show((s.length:Nat):Int)<((t.length:Nat):Int) by omega),cond_true,oB];rw[decide_eq_false (λe=>by rw[e]at h1;omega)];rfl
 by_cases h2:t.length<s.length
 ·rw[decide_eq_false (show ¬((s.length:Nat):Int)<((t.length:Nat):Int) by omega),cond_false,decide_eq_true (show((s.length:Nat):Int)>((t.length:Nat):Int) by omega),cond_true,oB];rw[decide_eq_false (λe=>by rw[e]at h2;omega)];rfl
 rw[decide_eq_false (show ¬((s.length:Nat):Int)<((t.length:Nat):Int) by omega),cond_false,decide_eq_false (show ¬((s.length:Nat):Int)>((t.length:Nat):Int) by omega),cond_false];have hlen:s.length=t.length:=by omega
 have hl:loop (λq=>jG s t q) 0=some (oS (ya (λi x=>match t[i]? with|none=>none|some y=>if x<y then some (-1) else if y<x then some (1:Int) else none) s 0)):=by
  refine wh s hs _ ?_ ?_
  ·intro i x hx;have hi:=(pf.1 hx).1;have hit:i<t.length:=by omega
   have ht:=pe hit;unfold jG;have hd:decide ((i:Int)<((s.length:Nat):Int))=true:=by simpa using hi
   rw[hd,cond_true];simp only[zM,hx,ht,oB];generalize t[i]=y;by_cases h1:x<y
   ·simp[mM,h1,nS]
   by_cases h2:y<x
   ·simp[mM,h1,h2,nS]
   simp[mM,h1,h2,nS]
  unfold jG;simp
 rw[hl,oB];cases hf:ya (λi x=>match t[i]? with|none=>none|some y=>if x<y then some (-1) else if y<x then some (1:Int) else none) s 0 with
 |some r=>
  obtain⟨i,x,h3,h4⟩:=ug hf;have hne:s≠t:=by intro e;rw[gF,<-e,h3]at h4;simp at h4
  have hr:r≠0:=by
   rw[gF]at h4;cases ht:t[i]? with
   |none=>rw[ht]at h4;cases h4
   |some y=>
    rw[ht]at h4;simp only at h4;split at h4
    ·cases h4;decide
    split at h4
    ·cases h4;decide
    cases h4
  simp only[oS,oB,decide_eq_false hne];congr 1;simpa using hr
 |none=>
  have he:s=t:=by
   refine gO λn=>?_;rcases pC n s.length with g|g
   ·have hx:=pe g;have ht:=pe (show n<t.length by omega);have:=uh hf n _ hx;rw[gF,ht]at this;simp only at this;rw[hx,ht];split at this
    ·cases this
    split at this
    ·cases this
    rename_i g1 g2;congr 1;omega
   rw[nW.2 g,nW.2 (by omega)]
  simp only[oS,Yx,oB,decide_eq_true he];rfl
def nxE (m:z6)(s:Int)(i:Nat):z8:=if s<0 then⟨-1,-1⟩ else E m s.toNat i
def rsp (m:z6):Int->TC->TB
 |_,[]=>[]
 |s,i::w=>(nxE m s i).r::rsp m (nxE m s i).o w
def aft (m:z6):Int->TC->Int
 |s,[]=>s
 |s,i::w=>aft m (nxE m s i).o w
def Vs (m:z6):∀(w:TC) (s:Int) (i:Nat),rsp m s (w++[i])=rsp m s w++[(nxE m (aft m s w) i).r]/\aft m s (w++[i])=(nxE m (aft m s w) i).o
 |[],s,i=>⟨rfl,rfl⟩
 |j::w,s,i=>by have:=Vs m w (nxE m s j).o i;simp only[gL,rsp,aft,this.1,this.2,and_self]
def zaA (m:z6):∀(w:TC) (s:Int),(rsp m s w).length=w.length
 |[],_=>rfl
 |i::w,s=>by simp[rsp,zaA m w]
def z3f (m:z6)(s:Int):Prop:=-1<=s/\s<(m.i.length:Int)
def zhB (h:VM m){s:Int}(hs:z3f m s){i:Nat}(hi:i<kk m):z3f m (nxE m s i).o:=by
 unfold nxE;have:=h.J;by_cases h0:s<0
 ·rw[if_pos h0];unfold z3f;simp only;omega
 rw[if_neg h0];have hl:s.toNat<m.i.length:=by have:=hs.2;omega
 have:=h.edgeAt hl hi;unfold z3f;omega
def zb8 (h:VM m){s:Int}(hs:z3f m s){i:Nat}(hi:i<kk m):V1 m s (i:Int)=some (nxE m s i)/\z3f m (nxE m s i).o:=by
 unfold V1 nxE;have:=h.J;by_cases h0:s<0
 ·rw[decide_eq_true h0,cond_true,if_pos h0];exact⟨rfl,by unfold z3f;simp only;omega⟩
 rw[decide_eq_false h0,cond_false,if_neg h0];have hl:s.toNat<m.i.length:=by have:=hs.2;omega
 have he:=h.edge_eq hl hi (f:=λe=>some e);have hc:((s.toNat:Nat):Int)=s:=by omega
 rw[hc]at he;refine⟨he,?_⟩;have:=h.edgeAt hl hi;unfold z3f;omega
def zfE (h:VM m){s:Int}(hs:z3f m s)(w:TC)(hw:∀i∈w,i<kk m)(hl:w.length<=100000):Qe m s (w.map Int.ofNat)=some (rsp m s w):=by
 have hloop:loop (λq=>Qc m (w.map Int.ofNat) q.1 q.2.1 q.2.2) (s,([]:TB),0)=some (rsp m s w):=by
  refine Ret.eq (zG (λq=>∃k:Nat,q.2.2=(k:Int)/\k<=w.length/\z3f m q.1/\q.2.1.length=k/\q.2.1++rsp m q.1 (w.drop k)=rsp m s w) (λq=>200000-q.2.2.toNat) ⟨0,rfl,pM _,hs,rfl,rfl⟩ (by simp) ?_);rintro⟨s',out,k'⟩ ⟨k,hk,hkl,hst,hol,ho⟩;simp only at hk hst hol ho;subst hk;unfold Qc;rw[zy];refine⟨λhlt=>?_,λhge=>?_⟩
  ·have hlt:k<w.length:=by simpa using hlt
   have hx:(w.map Int.ofNat)[k]?=some ((w[k]:Nat):Int):=by simp[hlt]
   have hi:=hw _ (pD hlt);have hn:=zb8 h hst hi;have hw1:w64 ((k:Int)+1)=((k+1:Nat):Int):=by rw[zC (by omega) (by omega)];rfl
   rw[zM,bdT hx,bdT hn.1,gdT (by simp;omega),z7,hw1];refine⟨⟨k+1,rfl,hlt,hn.2,by simp[hol],?_⟩,by simp only;omega⟩;rw[<-ho,mc hlt];simp[rsp]
  have:k=w.length:=by simp at hge;omega
  subst this;rw[z7];rw[List.drop_length]at ho;show out=rsp m s w;simpa[rsp] using ho
 unfold Qe Qd;rw[bdT hloop]
section
variable {N:Nat}{f:Nat->Nat->Bool}
structure zlf (N:Nat)(f:Nat->Nat->Bool)(out:TB)(n:Int)(s:Nat):Prop where
 len:out.length=s
 sN:s<=N
 n0:0<=n
 nS:n<=(s:Int)
 lt:∀(i:Nat) (x:Int),out[i]?=some x->0<=x/\x<n
 cls:∀(i j:Nat),i<s->j<s->(out[i]?=out[j]?↔f i j=false)
def zec (hN:N<=1000)(hr:∀s,s<N->f s s=false)(hs:∀s t,s<N->t<N->f s t=false->f t s=false)(ht:∀s t u,s<N->t<N->u<N->f s t=false->f t u=false->f s u=false) :
  Ret (kV (tab N f)) λout=>out.length=N/\∀i j,i<N->j<N->(out[i]?=out[j]?↔f i j=false):=by
 have hl:(tab N f).length=N:=by simp[tab]
 unfold kV;rw[zm];refine Ret.mono (Q:=λout=>out.length=N/\∀i j,i<N->j<N->(out[i]?=out[j]?↔f i j=false)) ?_ λout h=>z7.2 h;refine zG (λq=>zlf N f q.1 q.2.1 q.2.2.toNat/\0<=q.2.2) (λq=>N-q.2.2.toNat) ⟨⟨rfl,pM _,Int.le_refl 0,Int.le_refl 0,λi x h=>by simp at h,λi j h=>by simp at h⟩,Int.le_refl 0⟩ (by show N-0<_;omega) ?_;rintro⟨out,n,s⟩ ⟨hI,h0⟩;obtain⟨s,rfl⟩:=nA h0;simp only[ph]at hI⊢;unfold W6;rw[zy];refine⟨λhc=>?_,λhc=>?_⟩
 ·rw[hl]at hc;have hsN:s<N:=by simpa using hc
  rw[zm];have inner:Ret (loop (λs_1=>kS (tab N f) out (s:Int) s_1.1 s_1.2) (-1,0)) λb=>(b=-1/\∀t,t<s->f s t=true)\/∃t,t<s/\f s t=false/\out[t]?=some b:=by
   refine zG (λq=>0<=q.2/\q.2<=(s:Int)/\((q.1=-1/\∀t:Nat,(t:Int)<q.2->f s t=true)\/∃t,t<s/\f s t=false/\out[t]?=some q.1)) (λq=>s-q.2.toNat) ⟨by omega,by omega,.inl ⟨rfl,λt ht=>by simp at ht;omega⟩⟩ (by show s-0<_;omega) ?_;rintro⟨b,t⟩ ⟨g0,g1,g2⟩;simp only at g0 g1 g2⊢;obtain⟨t,rfl⟩:=nA g0;unfold kS uI;rw[zy];refine⟨λhc=>?_,λhc=>?_⟩
   ·have hts:t<s:=by simpa using hc
    have hw:w64 ((t:Int)+1)=((t+1:Nat):Int):=by rw[zC (by omega) (by omega)];rfl
    rw[za5 f hsN (by omega),hw,zy];refine⟨λhf=>?_,λhf=>?_⟩
    ·rw[zm,z7o];have:∃x,out[t]?=some x:=⟨out[t]'(by rw[hI.len];exact hts),pe _⟩;obtain⟨x,hx⟩:=this;refine⟨by omega,x,by rw[ph];exact hx,z7.2 ⟨⟨by omega,by omega,.inr ⟨t,hts,by simpa using hf,hx⟩⟩,by simp only[ph];omega⟩⟩
    refine z7.2 ⟨⟨by omega,by omega,?_⟩,by simp only[ph];omega⟩;rcases g2 with⟨e,g2⟩|g2
    ·refine .inl ⟨e,λu hu=>?_⟩;rcases pC u t with q|q
     ·exact g2 u (by omega)
     have:u=t:=by omega
     subst this;simpa using hf
    exact .inr g2
   have hts:¬t<s:=by simpa using hc
   refine z7.2 ?_;rcases g2 with⟨e,g2⟩|g2
   ·exact .inl ⟨e,λu hu=>g2 u (by omega)⟩
   exact .inr g2
  refine inner.mono λb hb=>?_;have hw:w64 ((s:Int)+1)=((s+1:Nat):Int):=by rw[zC (by omega) (by omega)];rfl
  have hlen:=hI.len;have hnS:=hI.nS;have hn0:=hI.n0;have fin:∀(n' c:Int),0<=n'->n'<=((s+1:Nat):Int)->n<=n'->0<=c->c<n'->(∀t,t<s->(out[t]?=some c↔f s t=false)) ->
    Ret (wZ out (s:Int) n' c) (LRP (λs'=>(zlf N f s'.1 s'.2.1 s'.2.2.toNat/\0<=s'.2.2)/\N-s'.2.2.toNat<N-s) λout=>out.length=N/\∀i j,i<N->j<N->(out[i]?=out[j]?↔f i j=false)):=by
   intro n' c a1 a2 a3 a4 a5 a6;unfold wZ kU;rw[Y9,hw];refine⟨by simp[hlen];omega,z7.2 ⟨⟨⟨by simp[hlen],by simp only[ph];omega,a1,by simp only[ph];exact a2,?_,?_⟩,mZ _⟩,by simp only[ph];omega⟩⟩
   ·intro i x hx;rcases pC i s with q|q
    ·rw[pA (by omega)]at hx;have:=hI.lt i x hx;exact⟨this.1,by have:=this.2;simp only;omega⟩
    rw[po (by omega)]at hx;cases hh:i-out.length with
    |zero=>rw[hh]at hx;simp at hx;subst hx;exact⟨a4,a5⟩
    |succ k=>rw[hh]at hx;simp at hx
   intro i j hi hj;simp only[ph]at hi hj;have at_:∀i,i<s->(out++[c])[i]?=out[i]?:=λi h=>pA (by omega);have at_s:(out++[c])[s]?=some c:=by rw[<-hlen,po (pi _)];simp
   rcases pC i s with q|q<;>rcases pC j s with q'|q'
   ·show(out++[c])[i]?=(out++[c])[j]?↔_;rw[at_ i q,at_ j q'];exact hI.cls i j q q'
   ·have:j=s:=by omega
    subst this;show(out++[c])[i]?=(out++[c])[j]?↔_;rw[at_ i q,at_s,a6 i q];exact⟨λh=>hs _ _ (by omega) (by omega) h,λh=>hs _ _ (by omega) (by omega) h⟩
   ·have:i=s:=by omega
    subst this;show(out++[c])[i]?=(out++[c])[j]?↔_;rw[at_ j q',at_s,eq_comm,a6 j q']
   have e1:i=s:=by omega
   have e2:j=s:=by omega
   subst e1;subst e2;exact⟨λ_=>hr _ hsN,λ_=>rfl⟩
  unfold kT;rw[zy];rcases hb with⟨rfl,hb⟩|⟨t,ht1,ht2,ht3⟩
  ·refine⟨λ_=>?_,λh=>by simp at h⟩;rw[zC (by omega) (by omega)];refine fin (n+1) n (by omega) (by omega) (by omega) hn0 (by omega) λt hts=>?_;rw[hb t hts];refine⟨λh=>?_,λh=>by cases h⟩;have:=hI.lt t n h;omega
  have hb0:=hI.lt t b ht3;refine⟨λh=>by simp at h;omega,λ_=>fin n b hn0 (by omega) (by omega) hb0.1 hb0.2 λu hu=>?_⟩;rw[<-ht3,hI.cls u t hu ht1];exact⟨λh=>ht _ _ _ (by omega) (by omega) (by omega) ht2 (hs _ _ (by omega) (by omega) h),λh=>ht _ _ _ (by omega) (by omega) (by omega) (hs _ _ (by omega) (by omega) h) ht2⟩
 rw[hl]at hc;have hsN:¬s<N:=by simpa using hc
 have:s=N:=by have:=hI.sN;omega
 subst this;exact z7.2 ⟨hI.len,hI.cls⟩
end
def SEq (m:z6)(s t:Nat):Prop:=∀w:TC,(∀i∈w,i<kk m)->rsp m (s:Int) w=rsp m (t:Int) w
def z7m (m:z6):∀(w:TC) (s:Int),s<0->rsp m s w=w.map λ_=>-1
 |[],_,_=>rfl
 |i::w,s,h=>by simp only[rsp,nxE,if_pos h,gE];rw[z7m m w (-1) (by omega)]
def uF (m:z6)(s i:Nat):nxE m (s:Int) i=E m s i:=by unfold nxE;rw[if_neg (by omega),ph]
section
variable {m:z6}(h:WM m)
include h
theorem z7y:∀(n:Nat) (p:Nat×Nat),p.1<m.i.length->p.2<m.i.length->Mk (kk m) (Zd m m) (nxP m m) n p->∃w:TC,(∀i∈w,i<kk m)/\rsp m (p.1:Int) w≠rsp m (p.2:Int) w
 |0,p,_,_,q=>q.elim
 |n+1,p,h1,h2,q=>by
  rcases q with q|⟨i,hi,q|⟨r,hr,q⟩⟩
  ·exact z7y n p h1 h2 q
  ·refine⟨[i],by simpa using hi,λe=>?_⟩;simp only[rsp,uF,List.cons.injEq,and_true]at e;simp[Zd,e]at q
  have hin:=h.nx_in h1 h2 hi hr;obtain⟨w,hw,hne⟩:=z7y n r hin.1 hin.2 q;refine⟨i::w,λj hj=>by rcases pl.1 hj with rfl|hj;exact hi;exact hw j hj,λe=>hne ?_⟩;simp only[rsp,uF,List.cons.injEq]at e;unfold nxP at hr;split at hr
  ·rename_i hc;cases hr;have e1:(((E m p.1 i).o.toNat:Nat):Int)=(E m p.1 i).o:=by omega
   have e2:(((E m p.2 i).o.toNat:Nat):Int)=(E m p.2 i).o:=by omega
   simp only[e1,e2];exact e.2
  cases hr
theorem z9W:∀(w:TC) (p:Nat×Nat),p.1<m.i.length->p.2<m.i.length->(∀i∈w,i<kk m)->rsp m (p.1:Int) w≠rsp m (p.2:Int) w->Mk (kk m) (Zd m m) (nxP m m) w.length p
 |[],p,_,_,_,q=>(q rfl).elim
 |i::w,p,h1,h2,hw,q=>by
  have hi:=hw i (by simp);refine .inr ⟨i,hi,?_⟩;by_cases hb:Zd m m p i=true
  ·exact .inl hb
  have he:(E m p.1 i).r=(E m p.2 i).r:=by simpa[Zd] using hb
  simp only[rsp,uF,he,ne_eq,List.cons.injEq,true_and]at q;have a:=h.edgeAt h1 hi;have b:=h.edgeAt h2 hi;by_cases hc:0<=(E m p.1 i).o/\0<=(E m p.2 i).o
  ·have hr:nxP m m p i=some ((E m p.1 i).o.toNat,(E m p.2 i).o.toNat):=by unfold nxP;rw[if_pos hc]
   have hin:=h.nx_in h1 h2 hi hr;have e1:(((E m p.1 i).o.toNat:Nat):Int)=(E m p.1 i).o:=by omega
   have e2:(((E m p.2 i).o.toNat:Nat):Int)=(E m p.2 i).o:=by omega
   exact .inr ⟨_,hr,z9W w _ hin.1 hin.2 (λj hj=>hw j (by simp[hj])) (by simpa only[e1,e2] using q)⟩
  exfalso;refine q ?_;have e1:(E m p.1 i).o=-1:=by omega
  have e2:(E m p.2 i).o=-1:=by omega
  rw[e1,e2]
theorem JI {s t:Nat}(hs:s<m.i.length)(ht:t<m.i.length):mrk m m.i.length s t=false↔SEq m s t:=by
 have e:mrk m m.i.length s t=true↔¬SEq m s t:=by
  unfold mrk;rw[z4N];constructor
  ·intro q g;obtain⟨w,hw,hne⟩:=z7y h _ (s,t) hs ht q;exact hne (g w hw)
  intro q;obtain⟨w,hw⟩:=Classical.not_forall.1 q;obtain⟨hw,hne⟩:=Classical.not_imp.1 hw;have:=Kt h hs ht (z9W h w (s,t) hs ht hw hne);exact this.mono (by omega)
 constructor
 ·intro q;exact gG λg=>by rw[e.2 g]at q;cases q
 intro q;cases hm:mrk m m.i.length s t with
 |false=>rfl
 |true=>exact(e.1 hm q).elim
theorem z2t:Ret (kW m) λl=>l.length=m.i.length/\∀s t,s<m.i.length->t<m.i.length->(l[s]?=l[t]?↔SEq m s t):=by have hl:=h.len;unfold kW Qb;rw[zm,bdT (zbg h m.i.length (by omega)),zm];refine Ret.mono (zec (by omega) (λs hs=>(JI h hs hs).2 λw _=>rfl) (λs t hs ht q=>(JI h ht hs).2 λw hw=>((JI h hs ht).1 q w hw).symm) (λs t u hs ht hu q r=>(JI h hs hu).2 λw hw=>((JI h hs ht).1 q w hw).trans ((JI h ht hu).1 r w hw))) ?_;rintro l ⟨h1,h2⟩;exact z7.2 (z7.2 ⟨h1,λs t hs ht=>(h2 s t hs ht).trans (JI h hs ht)⟩)
end
def z98 (h:VM m):∀(w:TC) (n:Nat) (s:Int),z3f m s->(∀i∈w,i<kk m)->w.length<n->kX n m s (w.map Int.ofNat)=some (aft m s w)
 |w,0,_,_,_,hn=>by omega
 |[],n+1,s,hs,_,_=>by show kY (kX n) m s []=_;rfl
 |i::w,n+1,s,hs,hw,hn=>by
  show kY (kX n) m s ((i:Int)::w.map Int.ofNat)=_;have hi:=hw i (by simp);have hx:=zb8 h hs hi;unfold kY;have hz:(((((i:Int)::w.map Int.ofNat).length:Nat):Int)==0)=false:=by rw[beq_eq_false_iff_ne];simp only[gt];omega
  rw[hz,cond_false];have e0:idx ((i:Int)::w.map Int.ofNat) 0=some (i:Int):=rfl;rw[bdT e0,bdT hx.1,gdT (by simp;omega)];have e1:((i:Int)::w.map Int.ofNat).drop (1:Int).toNat=w.map Int.ofNat:=rfl;rw[e1,bdT (z98 h w n _ hx.2 (λj hj=>hw j (by simp[hj])) (by simp at hn;omega))];rfl
def z9e (h:VM m){s:Int}(hs:z3f m s)(w:TC)(hw:∀i∈w,i<kk m):Xx m s (w.map Int.ofNat)=some (aft m s w):=by unfold Xx;exact z98 h w _ s hs hw (by simp)
def z6z (k:Nat):TC->Option TC
 |[]=>none
 |d::r=>if d+1<k then some ((d+1)::r) else(z6z k r).map (0 :: ·)
def WJ (k:Nat):TC->Nat
 |[]=>0
 |d::r=>d+k*WJ k r
def z1y {k:Nat}:∀{r:TC},(∀d∈r,d<k)->WJ k r<k^r.length
 |[],_=>by simp[WJ]
 |d::r,h=>by have ih:=z1y (k:=k) (r:=r) λx hx=>h x (by simp[hx]);have hd:=h d (by simp);simp only[WJ,gt,rY];have:k*(WJ k r+1)<=k*k^r.length:=Nat.mul_le_mul_left k ih;rw[Nat.mul_add,Nat.mul_one]at this;rw[rG (k^r.length) k];omega
def z80:∀{r s:TC},r.length=s.length->(∀d∈r,d<k)->(∀d∈s,d<k)->WJ k r=WJ k s->r=s
 |[],[],_,_,_,_=>rfl
 |[],_::_,h,_,_,_=>by simp at h
 |_::_,[],h,_,_,_=>by simp at h
 |d::r,e::s,h,h1,h2,hv=>by
  have hd:=h1 d (by simp);have he:=h2 e (by simp);simp only[WJ]at hv;have a1:(d+k*WJ k r)%k=d:=by rw[Nat.add_mul_mod_self_left,rb hd]
  have a2:(e+k*WJ k s)%k=e:=by rw[Nat.add_mul_mod_self_left,rb he]
  have hde:d=e:=by rw[<-a1,<-a2,hv]
  subst hde;have hk:0<k:=by omega
  have:k*WJ k r=k*WJ k s:=by omega
  have:=Nat.eq_of_mul_eq_mul_left hk this;rw[z80 (by simpa using h) (λx hx=>h1 x (by simp[hx])) (λx hx=>h2 x (by simp[hx])) this]
def z6x:∀{r s:TC},(∀d∈r,d<k)->z6z k r=some s->s.length=r.length/\(∀d∈s,d<k)/\WJ k s=WJ k r+1
 |[],s,_,h=>by cases h
 |d::r,s,hr,h=>by
  have hd:=hr d (by simp);unfold z6z at h;split at h
  ·rename_i hc;cases h;exact⟨rfl,λx hx=>by rcases pl.1 hx with rfl|hx;exact hc;exact hr x (by simp[hx]),by simp only[WJ];omega⟩
  rename_i hc;obtain⟨s',h1,rfl⟩:=pT.1 h;obtain⟨g1,g2,g3⟩:=z6x (λx hx=>hr x (by simp[hx])) h1;refine⟨by simp[g1],λx hx=>by rcases pl.1 hx with rfl|hx;omega;exact g2 x hx,?_⟩;simp only[WJ,g3,Nat.mul_add,Nat.mul_one];omega
def z6y (hk:0<k):∀{r:TC},(∀d∈r,d<k)->z6z k r=none->WJ k r+1=k^r.length
 |[],_,_=>by simp[WJ]
 |d::r,hr,h=>by
  have hd:=hr d (by simp);unfold z6z at h;split at h
  ·cases h
  rename_i hc;have h1:z6z k r=none:=by cases e:z6z k r with|none=>rfl|some x=>rw[e]at h;cases h
  have:=z6y hk (λx hx=>hr x (by simp[hx])) h1;simp only[WJ,gt,rY,<-this,gR,nZ,rG k];omega
def z6i (k:Nat)(w:TC):TC:=match z6z k w.reverse with|some r=>r.reverse|none=>List.replicate (w.length+1) 0
variable {w:TC}
def z6h (hk:1<=k)(hk2:k<=1000)  (hw:∀i∈w,i<k)(hl:w.length<=100000):YW (w.map Int.ofNat) (k:Int)=some ((z6i k w).map Int.ofNat):=by
 have hloop:Ret (loop (λs=>Vx (k:Int) s.1 s.2) (w.map Int.ofNat,w64 ((((w.map Int.ofNat).length:Nat):Int)-1))) λr=>match r with
   |.inl o=>z6z k w.reverse=none/\o=List.replicate w.length (0:Int)
   |.inr o=>∃r,z6z k w.reverse=some r/\o=r.reverse.map Int.ofNat:=by
  refine zG (λq=>∃(p:TC) (z:Nat),q.1=(p++List.replicate z 0).map Int.ofNat/\q.2=(p.length:Int)-1/\(∀i∈p,i<k)/\p.length+z=w.length/\z6z k w.reverse=(z6z k p.reverse).map (λr=>List.replicate z 0++r)) (λq=>(q.2+1).toNat) ⟨w,0,by simp,by rw[zC (by simp;omega) (by simp;omega)];simp,hw,by simp,by cases z6z k w.reverse<;>simp⟩ (by simp only;rw[zC (by simp;omega) (by simp;omega)];simp;omega) ?_;rintro⟨out,j⟩ ⟨p,z,h1,h2,h3,h4,h5⟩;simp only at h1 h2;subst h1;subst h2;unfold Vx;rw[zy];refine⟨λhc=>?_,λhc=>?_⟩
  ·have hp:1<=p.length:=by simp at hc;omega
   obtain⟨p',d,rfl⟩:∃p' d,p=p' ++ [d]:=by
    rcases rH p with e|⟨p',d,e⟩
    ·subst e;simp at hp
    exact⟨p',d,by simpa using e⟩
   have hd:=h3 d (by simp);have hj:(((p' ++ [d]).length:Nat):Int)-1=((p'.length:Nat):Int):=by simp
   have hx:((p' ++ [d]++List.replicate z 0).map Int.ofNat)[p'.length]?=some (d:Int):=by simp
   have hset:∀e:Nat,((p' ++ [d]++List.replicate z 0).map Int.ofNat).set p'.length (e:Int)=(p' ++ e::List.replicate z 0).map Int.ofNat:=by intro e;rw[pG,gV,List.set_append,if_neg (by simp)];simp
   have hr:(p' ++ [d]).reverse=d::p'.reverse:=by simp
   rw[hr]at h5;have hin:z6z k (d::p'.reverse)=if d+1<k then some ((d+1)::p'.reverse) else(z6z k p'.reverse).map (0 :: ·):=rfl
   have hw1:w64 ((d:Int)+1)=((d+1:Nat):Int):=by rw[zC (by omega) (by omega)];rfl
   rw[hj,zM,bdT hx,hw1,zy];refine⟨λhc=>?_,λhc=>?_⟩
   ·have hdk:d+1<k:=by simp at hc;omega
    rw[bdT hx,bdT hx,hw1,ph,hset];refine z7.2 ?_;rw[hin,if_pos hdk]at h5;exact⟨_,h5,by simp⟩
   have hdk:¬d+1<k:=by simp at hc;omega
   rw[bdT hx,ph,zC (by omega) (by omega)];have h0:=hset 0;simp only[Int.natCast_zero]at h0;refine z7.2 ⟨⟨p',z+1,?_,rfl,λi hi=>h3 i (by simp[hi]),by simp at h4;omega,?_⟩,?_⟩
   ·rw[mV];exact h0
   ·rw[hin,if_neg hdk]at h5;rw[h5];cases z6z k p'.reverse with
    |none=>rfl
    |some r=>simp[List.replicate_succ']
   simp only
   omega
  have hp:p=[]:=mH (by simp at hc;omega);subst hp;refine z7.2 ⟨?_,?_⟩
  ·rw[h5];rfl
  simp at h4;simp[h4]
 unfold YW;rw[gdT (by simp;omega)];obtain⟨r,e,hr⟩:=hloop;rw[bdT e];unfold z6i;cases r with
 |inl o=>obtain⟨g1,rfl⟩:=hr;show YH _=_;unfold YH;rw[gdT (by simp;omega),g1];simp[List.replicate_succ']
 |inr o=>obtain⟨r,g1,rfl⟩:=hr;show some _=_;rw[g1]
def GG (k:Nat):Nat->Nat
 |0=>0
 |n+1=>GG k n+k^n
def JS {k n m:Nat}(h:n<=m):GG k n<=GG k m:=by
 induction h with
 |refl=>exact pi _
 |step _ ih=>exact pm ih (Nat.le_add_right _ _)
def rk (k:Nat)(w:TC):Nat:=GG k w.length+WJ k w.reverse
def Wd (k:Nat)(w:TC):Prop:=∀i∈w,i<k
def Wd.rev (h:Wd k w):∀d∈w.reverse,d<k:=λd hd=>h d (by simpa using hd)
def zdY (h:Wd k w):rk k w<GG k (w.length+1):=by have:=z1y h.rev;rw[mn]at this;show GG k w.length+WJ k w.reverse<GG k w.length+k^w.length;omega
def z1P {k:Nat}{w u:TC}(hw:Wd k w)(h:w.length<u.length):rk k w<rk k u:=by have h1:=zdY hw;have h2:=JS (k:=k) (show w.length+1<=u.length from h);unfold rk at *;omega
def z5V {w u:TC}(hw:Wd k w)(hu:Wd k u)(h:rk k w=rk k u):w=u:=by
 have hl:w.length=u.length:=by
  rcases mQ w.length u.length with q|q|q
  ·have:=z1P hw q;omega
  ·exact q
  have:=z1P hu q;omega
 have hv:WJ k w.reverse=WJ k u.reverse:=by unfold rk at h;rw[hl]at h;omega
 have:=z80 (by simpa using hl) hw.rev hu.rev hv;simpa using congrArg List.reverse this
def z5B (k:Nat):∀n,WJ k (List.replicate n 0)=0
 |0=>rfl
 |n+1=>by simp[mV,WJ,z5B k n]
def z8y (hk:1<=k)  (hw:Wd k w):Wd k (z6i k w)/\rk k (z6i k w)=rk k w+1/\(z6i k w).length<=w.length+1:=by
 unfold z6i;cases e:z6z k w.reverse with
 |some r=>obtain⟨h1,h2,h3⟩:=z6x hw.rev e;rw[mn]at h1;refine⟨λi hi=>h2 i (by simpa using hi),?_,by simp[h1]⟩;simp only[rk,mn,List.reverse_reverse,h1,h3];omega
 |none=>have h:=z6y (by omega) hw.rev e;rw[mn]at h;refine⟨λi hi=>by have:=(List.mem_replicate.1 hi).2;omega,?_,by simp⟩;simp only[rk,mB,List.reverse_replicate,z5B,GG,<-h];omega
section
variable {m:z6}
def z2C (m:z6)(from_:Int)(l:TA)(is:List Bool)(r t:Nat):Prop :=
 (is[t]?=some true/\∃v:TC,l[t]?=some (v.map Int.ofNat)/\rk (kk m) v<r/\Wd (kk m) v/\v.length<m.i.length/\aft m from_ v=(t:Int)/\∀u,Wd (kk m) u->aft m from_ u=(t:Int)->rk (kk m) v<=rk (kk m) u) \/
 (is[t]?=some false/\l[t]?=some []/\∀u,Wd (kk m) u->rk (kk m) u<r->aft m from_ u≠(t:Int))
def z3T (h:VM m):∀(w:TC) (s:Int),z3f m s->Wd (kk m) w->z3f m (aft m s w)
 |[],s,hs,_=>hs
 |i::w,s,hs,hw=>z3T h w _ (zhB h hs (hw i (by simp))) λj hj=>hw j (by simp[hj])
def zaV (h:VM m)(hG:GG (kk m) m.i.length<=1000000000){from_:Int}(hf:z3f m from_) :
  Ret (Vz m from_) λr=>r.1.length=m.i.length/\r.2.length=m.i.length/\∀t,t<m.i.length->z2C m from_ r.1 r.2 (GG (kk m) m.i.length) t:=by
 have l64:=h.y;have l1:=h.J;have hk:=h.kk_pos;have hk2:=h.kk_le;have hke:=h.kk_eq;unfold Vz Wy;rw[Y9,Y9];refine⟨by omega,by omega,?_⟩;rw[zm];refine Ret.mono ?_ λr hr=>z7.2 hr;refine zG (λq=>∃w:TC,q.2.2=w.map Int.ofNat/\Wd (kk m) w/\w.length<=m.i.length/\rk (kk m) w<=GG (kk m) m.i.length/\q.1.length=m.i.length/\q.2.1.length=m.i.length/\∀t,t<m.i.length->z2C m from_ q.1 q.2.1 (rk (kk m) w) t)
  (λq=>GG (kk m) m.i.length-rk (kk m) (q.2.2.map Int.toNat)) ⟨[],rfl,λi hi=>by simp at hi,by simp,by simp[rk,GG,WJ],by simp,by simp,λt ht=>.inr ⟨by simp[ht],by simp[ht],λu _ hu=>by simp[rk,GG,WJ]at hu⟩⟩ (by simp only;omega) ?_
 rintro⟨l,is,wi⟩ ⟨w,h1,hw,hwl,hwr,h2,h3,h4⟩;simp only at h1 h2 h3 h4;subst h1;have hback:∀w:TC,(w.map Int.ofNat).map Int.toNat=w:=λw=>by induction w with|nil=>rfl|cons a w ih=>simp only[gE,ih];rfl
 simp only[hback];unfold Jr;rw[zy];refine⟨λhc=>?_,λhc=>?_⟩
 ·have hlt:w.length<m.i.length:=by simpa using hc
  have hrk:rk (kk m) w<GG (kk m) m.i.length:=Nat.lt_of_lt_of_le (zdY hw) (JS hlt);obtain⟨n1,n2,n3⟩:=z8y hk hw;have hnx:YW (w.map Int.ofNat) m.j=some ((z6i (kk m) w).map Int.ofNat):=by rw[<-hke];exact z6h hk (by omega) hw (by omega)
  have fin:∀(l2:TA) (is2:List Bool),l2.length=m.i.length->is2.length=m.i.length->(∀t,t<m.i.length->z2C m from_ l2 is2 (rk (kk m) w+1) t) ->
    Ret (uz m (w.map Int.ofNat) l2 is2) (LRP (λs'=>(∃w:TC,s'.2.2=w.map Int.ofNat/\Wd (kk m) w/\w.length<=m.i.length/\rk (kk m) w<=GG (kk m) m.i.length/\s'.1.length=m.i.length/\s'.2.1.length=m.i.length/\∀t,t<m.i.length->z2C m from_ s'.1 s'.2.1 (rk (kk m) w) t)/\GG (kk m) m.i.length-rk (kk m) (s'.2.2.map Int.toNat)<GG (kk m) m.i.length-rk (kk m) w)
     λr=>r.1.length=m.i.length/\r.2.length=m.i.length/\∀t,t<m.i.length->z2C m from_ r.1 r.2 (GG (kk m) m.i.length) t):=by
   intro l2 is2 a1 a2 a3;unfold uz;rw[bdT hnx];refine z7.2 ⟨⟨_,rfl,n1,by omega,by omega,a1,a2,λt ht=>by rw[n2];exact a3 t ht⟩,?_⟩;rw[hback,n2];omega
  have hin:=z3T h w from_ hf hw;rw[bdT (z9e h hf w hw),zy];have stay:∀t,t<m.i.length->(aft m from_ w=(t:Int)->is[t]?=some true)->z2C m from_ l is (rk (kk m) w+1) t:=by
   intro t ht hn;rcases h4 t ht with⟨g1,v,g2,g3,g4⟩|⟨g1,g2,g3⟩
   ·exact .inl ⟨g1,v,g2,by omega,g4⟩
   refine .inr ⟨g1,g2,λu hu hr e=>?_⟩;rcases pC (rk (kk m) u) (rk (kk m) w) with q|q
   ·exact g3 u hu q e
   have:=z5V hu hw (by omega);subst this;rw[hn e]at g1;cases g1
  refine⟨λhc=>?_,λhc=>?_⟩
  ·have hs0:0<=aft m from_ w:=by simpa using hc
   obtain⟨s,hs⟩:=nA hs0;have hsN:s<m.i.length:=by have:=hin.2;omega
   rw[hs];rcases h4 s hsN with⟨g1,v,g2,g3⟩|⟨g1,g2,g3⟩
   ·rw[zM,bdT g1];simp only[gH,cond_false];refine fin l is h2 h3 λt ht=>stay t ht λe=>?_;have:t=s:=by omega
    subst this;exact g1
   rw[zM,bdT g1];simp only[mA,cond_true];rw[bdT g1,zM,bdT g2,ph];refine fin _ _ (by simpa using h2) (by simpa using h3) λt ht=>?_;by_cases e:t=s
   ·subst e;refine .inl ⟨by simp[h3,ht],w,by simp[h2,ht],by omega,hw,hlt,hs,λu hu he=>?_⟩;rcases pC (rk (kk m) u) (rk (kk m) w) with q|q
    ·exact(g3 u hu q he).elim
    exact q
   have:=stay t ht λe2=>by omega
   unfold z2C at this⊢;rw[gC (by omega),gC (by omega)];exact this
  have hs0:¬0<=aft m from_ w:=by simpa using hc
  exact fin l is h2 h3 λt ht=>stay t ht λe=>by omega
 have hlt:¬w.length<m.i.length:=by simpa using hc
 have hle:w.length=m.i.length:=by omega
 have hrk:rk (kk m) w=GG (kk m) m.i.length:=by
  have:GG (kk m) m.i.length<=rk (kk m) w:=by rw[<-hle];unfold rk;omega
  omega
 refine z7.2 ⟨h2,h3,λt ht=>?_⟩;rw[<-hrk];exact h4 t ht
end
def wx:TB->TB->Int
 |[],[]=>0
 |[],_::_=>-1
 |_::_,[]=>1
 |x::a,y::b=>if x<y then -1 else if y<x then 1 else wx a b
def uP (a b:TB):Int:=if a.length<b.length then -1 else if b.length<a.length then 1 else wx a b
def zbl:∀{a b:TB},wx a b=0->a=b
 |[],[],_=>rfl
 |[],_::_,h=>by simp[wx]at h
 |_::_,[],h=>by simp[wx]at h
 |x::a,y::b,h=>by
  simp only[wx]at h;split at h
  ·simp at h
  split at h
  ·simp at h
  rw[show x=y by omega,zbl h]
def z6q:∀a:TB,wx a a=0
 |[]=>rfl
 |x::a=>by simp[wx,z6q a]
def z8F:∀a b:TB,wx b a=- wx a b
 |[],[]=>rfl
 |[],_::_=>rfl
 |_::_,[]=>rfl
 |x::a,y::b=>by
  simp only[wx];split
  ·rw[if_neg (by omega)]
  split
  ·rfl
  exact z8F a b
def z3D:∀{a b c:TB},wx a b<0->wx b c<0->wx a c<0
 |[],[],_,h,_=>by simp[wx]at h
 |[],_::_,[],_,h=>by simp[wx]at h
 |[],_::_,_::_,_,_=>by simp[wx]
 |_::_,[],_,h,_=>by simp[wx]at h
 |_::_,_::_,[],_,h=>by simp[wx]at h
 |x::a,y::b,z::c,h1,h2=>by
  simp only[wx]at h1 h2⊢;by_cases e1:x<y
  ·by_cases e2:y<z
   ·rw[if_pos (by omega)];omega
   rw[if_neg e2]at h2;by_cases e3:z<y
   ·rw[if_pos e3]at h2;omega
   rw[if_pos (by omega)];omega
  rw[if_neg e1]at h1;by_cases e3:y<x
  ·rw[if_pos e3]at h1;omega
  rw[if_neg e3]at h1;have:x=y:=by omega
  subst this;by_cases e2:x<z
  ·rw[if_pos e2];omega
  rw[if_neg e2]at h2⊢;by_cases e4:z<x
  ·rw[if_pos e4]at h2;omega
  rw[if_neg e4]at h2⊢;exact z3D h1 h2
variable {a b:TB}
def Qr (h:uP a b=0):a=b:=by
 unfold uP at h;split at h
 ·simp at h
 split at h
 ·simp at h
 exact zbl h
def Yi (a:TB):uP a a=0:=by simp[uP,z6q]
def z90:uP a b=0↔a=b:=⟨Qr,λh=>h▸Yi a⟩
def z8Z (a b:TB):uP b a=- uP a b:=by
 unfold uP;by_cases h1:a.length<b.length
 ·rw[if_pos h1,if_neg (by omega),if_pos h1];rfl
 by_cases h2:b.length<a.length
 ·rw[if_pos h2,if_neg h1,if_pos h2]
 rw[if_neg h1,if_neg h2,if_neg h2,if_neg h1,z8F]
def vO {a b c:TB}(h1:uP a b<0)(h2:uP b c<0):uP a c<0:=by
 unfold uP at *;by_cases e1:a.length<b.length
 ·by_cases e2:b.length<c.length
  ·rw[if_pos (by omega)];omega
  rw[if_neg e2]at h2;by_cases e3:c.length<b.length
  ·rw[if_pos e3]at h2;omega
  rw[if_pos (by omega)];omega
 rw[if_neg e1]at h1;by_cases e3:b.length<a.length
 ·rw[if_pos e3]at h1;omega
 rw[if_neg e3]at h1;have e:a.length=b.length:=by omega
 rw[e];by_cases e2:b.length<c.length
 ·rw[if_pos e2];omega
 rw[if_neg e2]at h2⊢;by_cases e4:c.length<b.length
 ·rw[if_pos e4]at h2;omega
 rw[if_neg e4]at h2⊢;exact z3D h1 h2
def QP (a:TB):¬uP a a<0:=by rw[Yi];omega
def zbX (h:uP a b<0):¬uP b a<0:=by rw[z8Z a b];omega
def z51:¬uP a b<0↔uP b a<0\/a=b:=by rw[<-z90,z8Z a b];omega
def SW (l:TA):Prop:=l.Pairwise λa b=>uP a b<0
def SW.nil:SW []:=List.Pairwise.nil
variable {l:TA}{x:TB}
def SW.tail (h:SW (x::l)):SW l:=(mJ.1 h).2
def SW.head (h:SW (x::l)):∀y∈l,uP x y<0:=(mJ.1 h).1
def SW.unique:∀{l m:TA},SW l->SW m->(∀x,x∈l↔x∈m)->l=m
 |[],[],_,_,_=>rfl
 |[],y::m,_,_,h=>by have:=(h y).2 (by simp);simp at this
 |x::l,[],_,_,h=>by have:=(h x).1 (by simp);simp at this
 |x::l,y::m,h1,h2,h=>by
  have hxy:x=y:=by
   rcases pl.1 ((h x).1 (by simp)) with e|e
   ·exact e
   rcases pl.1 ((h y).2 (by simp)) with e'|e'
   ·exact e'.symm
   exact absurd (h2.head x e) (zbX (h1.head y e'))
  subst hxy;rw[SW.unique h1.tail h2.tail λz=>?_];constructor
  ·intro hz;rcases pl.1 ((h z).1 (by simp[hz])) with e|e
   ·subst e;exact absurd (h1.head _ hz) (QP _)
   exact e
  intro hz;rcases pl.1 ((h z).2 (by simp[hz])) with e|e
  ·subst e;exact absurd (h2.head _ hz) (QP _)
  exact e
def SW.sub {l m:TA}(h:SW l)(hs:List.Sublist m l):SW m:=nT hs h
def SW.filter (h:SW l)(p:TB->Bool):SW (l.filter p):=h.sub List.filter_sublist
def SW.nodup (h:SW l):l.Nodup:=List.Pairwise.imp (λ{a b} q e=>by subst e;exact QP _ q) h
def z3a (w:TB):TA->TA
 |[]=>[w]
 |x::l=>if uP x w<0 then x::z3a w l else if uP x w=0 then x::l else w::x::l
def Ku {w x:TB}:∀{l:TA},x∈z3a w l↔x=w\/x∈l
 |[]=>by simp[z3a]
 |y::l=>by
  simp only[z3a];split
  ·simp only[pl,Ku];constructor
   ·rintro(h|h|h)<;>simp[h]
   rintro(h|h|h)<;>simp[h]
  split
  ·rename_i h1 h2;have:=Qr h2;subst this;simp
  simp
def SW.put {w:TB}:∀{l:TA},SW l->SW (z3a w l)
 |[],_=>by simp[z3a,SW]
 |y::l,h=>by
  simp only[z3a];split
  ·rename_i h1;refine mJ.2 ⟨λz hz=>?_,SW.put h.tail⟩;rcases Ku.1 hz with rfl|hz
   ·exact h1
   exact h.head z hz
  split
  ·exact h
  rename_i h1 h2;have hw:uP w y<0:=by
   rcases z51.1 h1 with q|q
   ·exact q
   exact absurd (z90.2 q) h2
  refine mJ.2 ⟨λz hz=>?_,h⟩;rcases pl.1 hz with rfl|hz
  ·exact hw
  exact vO hw (h.head z hz)
def z8q (w:TB):∀l,(z3a w l).length<=l.length+1
 |[]=>by simp[z3a]
 |y::l=>by
  simp only[z3a];split
  ·have:=z8q w l;simp;omega
  split<;>simp
def srt (l:TA):TA:=l.foldl (λm w=>z3a w m) []
def z7h:∀(l m:TA),SW m->SW (l.foldl (λm w=>z3a w m) m)/\∀x,x∈l.foldl (λm w=>z3a w m) m↔x∈m\/x∈l
 |[],m,h=>⟨h,by simp⟩
 |w::l,m,h=>by
  obtain⟨h1,h2⟩:=z7h l (z3a w m) h.put;refine⟨h1,λx=>?_⟩;rw[nQ,h2,Ku];simp only[pl];constructor
  ·rintro((h|h)|h)<;>simp[h]
  rintro(h|h|h)<;>simp[h]
def qV (l:TA):SW (srt l):=(z7h l [] .nil).1
def zS:x∈srt l↔x∈l:=by rw[srt,(z7h l [] .nil).2];simp
def zad {l m:TA}(h:SW m)(hm:∀x,x∈m↔x∈l):m=srt l:=h.unique (qV l) λx=>by rw[hm,zS]
def K8 (h:SW l):srt l=l:=(zad h λ_=>.rfl).symm
def K9 {l m:TA}(h:∀x,x∈l↔x∈m):srt l=srt m:=zad (qV l) λx=>by rw[zS,h]
def z8c (l:TA)(w:TB):srt (l++[w])=z3a w (srt l):=by simp[srt]
def Wn (l:TA):(srt l).length<=l.length:=by
 have:∀(l m:TA),(l.foldl (λm w=>z3a w m) m).length<=m.length+l.length:=by
  intro l;induction l with
  |nil=>intro m;simp
  |cons w l ih=>intro m;have:=ih (z3a w m);have:=z8q w m;simp only[nQ,gt];omega
 have q:=this l [];simp only[rS,gF]at q;exact q
def zr {l:List α}{i:Nat}{x:α}(h:l[i]?=some x):idx l (i:Int)=some x:=h
def zbE (b:TB)(g:Nat->Int->Option Int)(hg:∀i x y,b[i]?=some y->g i x=if x<y then some (-1) else if y<x then some 1 else none) :
  ∀(a:TB) (k:Nat),k+a.length=b.length->(ya g a k).getD 0=wx a (b.drop k)
 |[],k,h=>by have:b.drop k=[]:=mw (by simp at h;omega);rw[this];rfl
 |x::a,k,h=>by
  simp only[gt]at h;have hk:k<b.length:=by omega
  rw[mc hk];simp only[ya,wx,hg k x b[k] (pe hk)];by_cases h1:x<b[k]
  ·simp[h1]
  by_cases h2:b[k]<x
  ·simp[h1,h2]
  simp only[h1,h2,if_false];exact zbE b g hg a (k+1) (by omega)
def Qq (a b:TB)(h:a.length=b.length->a.length<4611686018427387904):wY a b=some (uP a b):=by
 unfold wY;by_cases hl:a.length=b.length
 ·have h':=h hl;simp only[hl,bne_self_eq_false,cond_false];rw[bdT (wh a h' (λi x=>match b[i]? with|some y=>if x<y then some (-1:Int) else if y<x then some 1 else none|none=>none) ?_ ?_)]
  ·have q:=zbE b (λi x=>match b[i]? with|some y=>if x<y then some (-1:Int) else if y<x then some 1 else none|none=>none) (λi x y hy=>by simp only[hy]) a 0 (by omega);rw[List.drop_zero]at q;have hc:uP a b=wx a b:=by unfold uP;rw[if_neg (by omega),if_neg (by omega)]
   rw[hc,<-q];cases ya (λi x=>match b[i]? with|some y=>if x<y then some (-1:Int) else if y<x then some 1 else none|none=>none) a 0<;>rfl
  ·intro i x hx;have hi:i<a.length:=(pf.1 hx).1;have hy:b[i]?=some b[i]:=pe (by omega);unfold Ym;have hc:decide ((i:Int)<(a.length:Int))=true:=by simpa using hi
   simp only[hc,cond_true,zr hx,zr hy,hy,oB];by_cases h1:x<b[i]
   ·simp[h1,nS]
   by_cases h2:b[i]<x
   ·simp[h1,h2,nS]
   simp[h1,h2,nS]
  unfold Ym;simp
 have h1:(((a.length:Nat):Int) !=((b.length:Nat):Int))=true:=by simp;omega
 simp only[h1,cond_true];unfold uP;by_cases h2:a.length<b.length
 ·simp[h2]
 have h3:b.length<a.length:=by omega
 simp[h2,h3]
def cI (x y:Int):Int:=if x<y then -1 else if y<x then 1 else 0
def zbW (x y:Int):qt x y=some (cI x y):=by
 unfold qt YQ cI;simp only[bne_self_eq_false,oB,cond_false];by_cases h1:x<y
 ·simp[h1]
 by_cases h2:y<x
 ·simp[h1,h2]
 simp[h1,h2]
def zhe (a b:TB)(h:a.length<4611686018427387904):∃c,wK a b=some c/\(a.length=b.length->c=wx a b):=by
 unfold wK;have hloop:=wh a h (step:=λs=>xQ a b s) (λi x=>match b[i]? with|some y=>if x<y then some (-1:Int) else if y<x then some 1 else none|none=>some 1) (by
  intro i x hx;have hi:i<a.length:=(pf.1 hx).1;unfold xQ;have hc:decide ((i:Int)<(a.length:Int))=true:=by simpa using hi
  simp only[hc,cond_true,zr hx,oB];by_cases hb:i<b.length
  ·have hy:b[i]?=some b[i]:=pe hb;have hd:decide ((i:Int)>=(b.length:Int))=false:=by simp;omega
   simp only[hd,cond_false,zr hy,hy,oB,zbW];unfold cI;by_cases h1:x<b[i]
   ·simp[h1,nS]
   by_cases h2:b[i]<x
   ·simp[h1,h2,nS]
   simp[h1,h2,nS]
  have hy:b[i]?=none:=pJ (by omega);have hd:decide ((i:Int)>=(b.length:Int))=true:=by simp;omega
  simp only[hd,cond_true,hy,nS]) (by unfold xQ;simp)
 rw[bdT hloop];have q:=λhl=>zbE b (λi x=>match b[i]? with|some y=>if x<y then some (-1:Int) else if y<x then some 1 else none|none=>some 1) (λi x y hy=>by simp only[hy]) a 0 hl;cases hf:ya (λi x=>match b[i]? with|some y=>if x<y then some (-1:Int) else if y<x then some 1 else none|none=>some 1) a 0 with
 |some r=>refine⟨r,rfl,λhl=>?_⟩;have:=q (by omega);rw[hf]at this;simpa using this
 |none=>
  unfold ve;by_cases hl:a.length<b.length
  ·refine⟨-1,by simp[oS,hl],λhl2=>by omega⟩
  refine⟨0,by simp[oS,hl],λhl2=>?_⟩;have:=q (by omega);rw[hf]at this;simpa using this
def zpm (x y:Int):QO [x,y]=some (if x=0 then y else x):=by
 unfold QO;rw[bdT (wh [x,y] (by simp) (step:=λs=>YR [x,y] s) (λi v=>if v≠0 then some v else none) ?_ ?_)]
 ·by_cases h1:x=0
  ·by_cases h2:y=0
   ·simp[ya,h1,h2,oS,VS]
   simp[ya,h1,h2,oS]
  simp[ya,h1,oS]
 ·intro i v hv;have hi:i<[x,y].length:=(pf.1 hv).1;unfold YR;have hc:decide ((i:Int)<(([x,y]:TB).length:Int))=true:=by simp only[decide_eq_true_eq];omega
  simp only[hc,cond_true,zr hv,oB];by_cases h:v=0
  ·simp[h,nS]
  have hb:(v !=0)=true:=by simpa using h
  simp[h,hb,nS]
 unfold YR;simp
def Ve (a b:TB)(h:a.length<4611686018427387904):yG a b=some (uP a b):=by
 unfold yG;obtain⟨c,hc,hl⟩:=zhe a b h;rw[zbW,hc];simp only[oB,zpm];unfold cI uP;by_cases h1:a.length<b.length
 ·simp[h1]
 by_cases h2:b.length<a.length
 ·simp[h1,h2]
 simp[h1,h2,hl (by omega)]
def wE (n:Int)(w:TB):Int:=if 256<w.length then 3 else if w.any (λc=>decide (c<0) || decide (n<=c)) then 1 else 0
variable {n:Int}
def z7a {w:TB}:wE n w=0↔w.length<=256/\∀c∈w,0<=c/\c<n:=by
 unfold wE;by_cases h:256<w.length
 ·rw[if_pos h];exact⟨λq=>by simp at q,λq=>by omega⟩
 rw[if_neg h];by_cases h2:w.any (λc=>decide (c<0) || decide (n<=c))=true
 ·rw[if_pos h2];simp only[rn,gY,decide_eq_true_eq]at h2;obtain⟨c,h3,h4⟩:=h2;refine⟨λq=>by simp at q,λq=>?_⟩;have:=q.2 c h3;omega
 rw[if_neg h2];simp only[rn,gY,decide_eq_true_eq,not_exists,not_and,not_or]at h2;refine⟨λ_=>⟨by omega,λc hc=>?_⟩,λ_=>rfl⟩;have:=h2 c hc;omega
variable {ρ:Type}
def zg7 (p:Int->Bool)(g:Nat->Int->Option ρ)(hg:∀i x,(g i x).isSome=p x):∀(w:TB) (k:Nat),(ya g w k).isSome=w.any p
 |[],k=>rfl
 |x::w,k=>by
  simp only[ya,List.any_cons];have:=hg k x;cases hx:g k x with
  |some r=>rw[hx]at this;simp at this;simp[<-this]
  |none=>rw[hx]at this;simp at this;rw[this,nC];exact zg7 p g hg w (k+1)
def z5A (n:Int)(w:TB):jK w n=some (if 16<n then 3 else if 256<w.length then 3 else if n<1 then 1 else wE n w):=by
 unfold jK;by_cases h0:16<n
 ·simp[h0]
 by_cases h:256<w.length
 ·have h':(256:Int)<(w.length:Int):=by omega
  simp[h0,h,h']
 by_cases h1:n<1
 ·have h':¬(256:Int)<(w.length:Int):=by omega
  simp[h0,h,h',h1]
 have hd:decide (((w.length:Nat):Int)>256)=false:=by simp;omega
 have hd0:decide (n>16)=false:=by simp;omega
 have hd1:decide (n<1)=false:=by simp;omega
 simp only[hd,hd0,hd1,cond_false,if_neg h,if_neg h0,if_neg h1];unfold wH vC wE;have hl:=wh w (by omega) (step:=λs=>xq w n s) (λi c=>if c<0\/n<=c then some (i:Int) else none) (by
  intro i c hc;have hi:i<w.length:=(pf.1 hc).1;unfold xq Vg;have hq:decide ((i:Int)<(w.length:Int))=true:=by simpa using hi
  simp only[hq,cond_true,zr hc,oB];by_cases h1:c<0
  ·simp[h1,nS]
  by_cases h2:n<=c
  ·simp[h1,h2,nS]
  simp[h1,h2,nS]) (by unfold xq;simp)
 rw[bdT hl,if_neg h];have q:=zg7 (λc=>decide (c<0) || decide (n<=c)) (λi c=>if c<0\/n<=c then some (i:Int) else none) (λi c=>by by_cases h:c<0\/n<=c<;>simp[h]<;>simpa using h) w 0;cases hf:ya (λi c=>if c<0\/n<=c then some (i:Int) else none) w 0 with
 |none=>rw[hf]at q;rw[<-q];rfl
 |some r=>
  rw[hf]at q;obtain⟨i,x,h1,h2⟩:=ug hf;rw[<-q];split at h2
  ·cases h2;simp[oS]
  cases h2
def eS (e:Int):Option Int:=if e=0 then none else some e
def loE (n:Int)(l:TA):Int:=if 16<n then 3 else if 4096<l.length then 3 else if n<1 then 1 else(ya (λ_ w=>eS (wE n w)) l 0).getD 0
def z8U:∀{l:TA} {k:Nat},(ya (λ_ w=>eS (wE n w)) l k).getD 0=0↔∀w∈l,wE n w=0
 |[],_=>by simp[ya]
 |w::l,k=>by
  by_cases h:wE n w=0
  ·have:eS (wE n w)=none:=by simp[eS,h]
   simp only[ya,this];rw[z8U];simp[h]
  have:eS (wE n w)=some (wE n w):=by simp[eS,h]
  simp[ya,this,h]
def Kx:loE n l=0↔(1<=n/\n<=16)/\l.length<=4096/\∀w∈l,w.length<=256/\∀c∈w,0<=c/\c<n:=by
 unfold loE;by_cases h0:16<n
 ·rw[if_pos h0];exact⟨λq=>by simp at q,λq=>by omega⟩
 by_cases h1:4096<l.length
 ·rw[if_neg h0,if_pos h1];exact⟨λq=>by simp at q,λq=>by omega⟩
 by_cases h2:n<1
 ·rw[if_neg h0,if_neg h1,if_pos h2];exact⟨λq=>by simp at q,λq=>by omega⟩
 rw[if_neg h0,if_neg h1,if_neg h2,z8U];constructor
 ·intro q;exact⟨by omega,by omega,λw hw=>z7a.1 (q w hw)⟩
 intro q w hw;exact z7a.2 (q.2.2 w hw)
def z4P (l:TA)(n:Int):X9 l n=some (loE n l):=by
 unfold X9 loE;by_cases h0:16<n
 ·simp[h0]
 by_cases h1:4096<l.length
 ·have h':(4096:Int)<(l.length:Int):=by omega
  simp[h0,h1,h']
 by_cases h2:n<1
 ·have h':¬(4096:Int)<(l.length:Int):=by omega
  simp[h0,h1,h2,h']
 have d0:decide (n>16)=false:=by simp;omega
 have d1:decide (((l.length:Nat):Int)>4096)=false:=by simp;omega
 have d2:decide (n<1)=false:=by simp;omega
 simp only[d0,d1,d2,cond_false,if_neg h0,if_neg h1,if_neg h2];rw[bdT (wh l (by omega) (step:=λs=>ZK l n s) (λ_ w=>eS (wE n w)) ?_ ?_)]
 ·cases ya (λ_ w=>eS (wE n w)) l 0<;>rfl
 ·intro i w hw;have hi:i<l.length:=(pf.1 hw).1;have hq:decide ((i:Int)<(l.length:Int))=true:=by simpa using hi
  have he:jK w n=some (wE n w):=by
   rw[z5A,if_neg h0,if_neg h2];by_cases h:256<w.length
   ·rw[if_pos h];unfold wE;rw[if_pos h]
   rw[if_neg h]
  unfold ZK;simp only[hq,cond_true,zr hw,oB,he];by_cases hz:wE n w=0
  ·simp[hz,eS,nS]
  have hb:(wE n w !=0)=true:=by simpa using hz
  simp[hz,hb,eS,nS]
 unfold ZK;simp
def zeo (l:TA)(hl:l.length<4611686018427387904){step:Int×Int->Option (LR (Int×Int) Int)}
  (h:∀(n:Int) (i:Nat) (x:TB),l[i]?=some x->step (n,(i:Int))=some (.next (w64 (n+((x.length:Nat):Int)),w64 ((i:Int)+1)))) (h2:∀n,step (n,(l.length:Int))=some (.done n)) :
  loop step (0,0)=some (l.foldl (λn x=>w64 (n+((x.length:Nat):Int))) 0):=by
 have gen:∀(m k:Nat) (n:Int),k<=l.length->l.length-k<m->Kv step m (n,(k:Int))=some ((l.drop k).foldl (λn x=>w64 (n+((x.length:Nat):Int))) n):=by
  intro m;induction m with
  |zero=>intro k n _ h;omega
  |succ m ih=>
   intro k n hk hn;rw[YZ];rcases pC k l.length with hlt|hge
   ·have hx:l[k]?=some l[k]:=pe hlt;rw[h n k _ hx,mc hlt];simp only[nQ];rw[zC (x:=(k:Int)+1) (by omega) (by omega)];exact ih (k+1) _ hlt (by omega)
   have:k=l.length:=by omega
   subst this;rw[h2,List.drop_length];rfl
 exact gen Um 0 0 (pM _) (by show l.length-0<18446744073709551616;omega)
def stW (l:TA):Int:=l.foldl (λn x=>w64 (n+((x.length:Nat):Int))) 0
def z88 (l:TA)(hl:l.length<4611686018427387904):X7 l=some (stW l):=by
 unfold X7;rw[bdT (zeo l hl (step:=λs=>ZJ l s.1 s.2) ?_ ?_)]
 ·rfl
 ·intro n i x hx;have hi:i<l.length:=(pf.1 hx).1;have hq:decide ((i:Int)<(l.length:Int))=true:=by simpa using hi
  unfold ZJ;simp only[hq,cond_true,zr hx,oB]
 intro n;unfold ZJ;simp
def jR (l:TA):Nat:=(l.map List.length).sum
def zfx (h:jR l<4611686018427387904):stW l=(jR l:Int):=by
 have gen:∀(l:TA) (n:Nat),n+jR l<4611686018427387904->l.foldl (λn x=>w64 (n+((x.length:Nat):Int))) (n:Int)=((n+jR l:Nat):Int):=by
  intro l;induction l with
  |nil=>intro n _;simp[jR]
  |cons x l ih=>
   intro n hn;have hs:jR (x::l)=x.length+jR l:=by simp[jR]
   rw[hs]at hn⊢;rw[nQ,zC (by omega) (by omega),<-Int.natCast_add,ih (n+x.length) (by omega)];congr 1;omega
 have:=gen l 0 (by omega);simpa[stW] using this
def z4n {m:Nat}(h:∀w∈l,w.length<=m):jR l<=l.length*m:=by
 induction l with
 |nil=>simp[jR]
 |cons x l ih=>
  have hs:jR (x::l)=x.length+jR l:=by simp[jR]
  have h1:=h x (by simp);have h2:=ih λw hw=>h w (by simp[hw]);rw[hs,gt,gR];omega
def z86:∀{l:TA},SW l↔∀i x y,l[i]?=some x->l[i+1]?=some y->uP x y<0
 |[]=>by simp[SW]
 |[x]=>⟨λ_ i a b _ h2=>by simp at h2,λ_=>by simp[SW]⟩
 |x::y::l=>by
  constructor
  ·intro h i a b h1 h2;cases i with
   |zero=>simp at h1 h2;subst h1;subst h2;exact h.head y (by simp)
   |succ i=>exact z86.1 h.tail i a b (by simpa using h1) (by simpa using h2)
  intro h;have ht:SW (y::l):=z86.2 λi a b h1 h2=>h (i+1) a b (by simpa using h1) (by simpa using h2);have h0:=h 0 x y rfl rfl;refine mJ.2 ⟨λz hz=>?_,ht⟩;rcases pl.1 hz with rfl|hz
  ·exact h0
  exact vO h0 (ht.head z hz)
def z9A {α ρ:Type}(l:List α)(hl:l.length<4611686018427387904){step:Int->Option (LR Int (Unit⊕ρ))}(f:Nat->α->Option ρ)
  (h:∀(i:Nat) (x:α),1<=i->l[i]?=some x->step (i:Int)=some (nS i (f i x))) (h2:∀k:Nat,l.length<=k->step (k:Int)=some (.done (.inl ()))) :
  loop step 1=some (oS (ya f (l.drop 1) 1)):=by
 have gen:∀(n:Nat) (k:Nat),1<=k->l.length-k<n->Kv step n (k:Int)=some (oS (ya f (l.drop k) k)):=by
  intro n;induction n with
  |zero=>intro k _ h;omega
  |succ n ih=>
   intro k hk hn;rw[YZ];rcases pC k l.length with hlt|hge
   ·have hx:l[k]?=some l[k]:=pe hlt;rw[h k _ hk hx,mc hlt];simp only[ya];cases hf:f k l[k] with
    |some r=>rfl
    |none=>simp only[nS];rw[zC (by omega) (by omega)];exact ih (k+1) (by omega) (by omega)
   rw[h2 k hge,mw hge];rfl
 exact gen Um 1 (pi _) (by show l.length-1<18446744073709551616;omega)
instance (l:TA):Decidable (SW l):=by unfold SW;infer_instance
def zeL (l:TA)(r:ρ):ya (λi x=>match l[i-1]? with|some y=>if 0<=uP y x then some r else none|none=>none) (l.drop 1) 1=if SW l then none else some r:=by
 by_cases hs:SW l
 ·rw[if_pos hs];refine VN λi x hx=>?_;rw[mD]at hx;have hi:1+i<l.length:=(pf.1 hx).1;have hy:l[1+i - 1]?=some l[i]:=by rw[show 1+i - 1=i by omega];exact pe (by omega)
  rw[hy];have:=z86.1 hs i l[i] x (pe (by omega)) (by rw[rW];exact hx);simp only;rw[if_neg (by omega)]
 rw[if_neg hs];cases hf:ya (λi x=>match l[i-1]? with|some y=>if 0<=uP y x then some r else none|none=>none) (l.drop 1) 1 with
 |some r'=>
  obtain⟨i,x,h1,h2⟩:=ug hf;split at h2
  ·split at h2
   ·exact h2.symm
   cases h2
  cases h2
 |none=>
  exfalso;refine hs (z86.2 λi x y hx hy=>?_);have:=uh hf i y (by rw[mD,rW];exact hy);rw[show 1+i-1=i by omega,hx]at this;simp only at this;split at this
  ·cases this
  omega
def zfm (l:TA)(h:l.length<=4096)(hw:∀w∈l,w.length<4611686018427387904):Vl l=some (decide (SW l)):=by
 unfold Vl;rw[bdT (z9A l (by omega) (step:=λs=>ZL l s) (λi x=>match l[i-1]? with|some y=>if 0<=uP y x then some false else none|none=>none) ?_ ?_),zeL]
 ·by_cases hs:SW l
  ·simp[hs,oS,Wm]
  simp[hs,oS]
 ·intro i x hi hx;have hil:i<l.length:=(pf.1 hx).1;have hy:l[i - 1]?=some l[i - 1]:=pe (by omega);have hq:decide ((i:Int)<(l.length:Int))=true:=by simpa using hil
  unfold ZL;rw[zC (x:=(i:Int)-1) (by omega) (by omega),show((i:Int)-1)=((i-1:Nat):Int) by omega];have hE:=Ve l[i-1] x (hw _ (pD (by omega)));simp only[hq,cond_true,zr hx,zr hy,oB,hy,hE];by_cases hc:0<=uP l[i-1] x
  ·simp[hc,nS]
  simp[hc,nS]
 intro k hk;unfold ZL;have:decide ((k:Int)<(l.length:Int))=false:=by simp;omega
 simp only[this,cond_false]
def chE (n:Int)(l:TA):Int:=if loE n l≠0 then loE n l else if SW l then(if 65536<jR l then 3 else 0) else 1
def z92:chE n l=0↔loE n l=0/\SW l/\jR l<=65536:=by
 unfold chE;by_cases h:loE n l=0
 ·rw[if_neg (by simp[h])];by_cases h2:SW l
  ·rw[if_pos h2];by_cases h3:65536<jR l
   ·rw[if_pos h3];exact⟨λq=>by simp at q,λq=>by omega⟩
   rw[if_neg h3];exact⟨λ_=>⟨h,h2,by omega⟩,λ_=>rfl⟩
  rw[if_neg h2];exact⟨λq=>by simp at q,λq=>absurd q.2.1 h2⟩
 rw[if_pos h];exact⟨λq=>absurd q h,λq=>absurd q.1 h⟩
def z6m (h:loE n l=0):l.length<=4096/\(∀w∈l,w.length<=256)/\jR l<=1048576:=by obtain⟨_,h1,h2⟩:=Kx.1 h;refine⟨h1,λw hw=>(h2 w hw).1,?_⟩;have:=z4n (m:=256) λw hw=>(h2 w hw).1;omega
def z5F (l:TA)(n:Int):Xb l n=some (chE n l):=by
 unfold Xb chE;rw[z4P];simp only[oB];by_cases h:loE n l=0
 ·obtain⟨h1,h2,h3⟩:=z6m h;rw[zfm l h1 λw hw=>by have:=h2 w hw;omega,z88 l (by omega),zfx (by omega)];simp only[h,bne_self_eq_false,cond_false,oB,ne_eq,not_true,if_false];by_cases hs:SW l
  ·by_cases hq:65536<jR l
   ·have:(65536:Int)<(jR l:Int):=by omega
    simp[hs,hq,this]
   have:¬(65536:Int)<(jR l:Int):=by omega
   simp[hs,hq,this]
  simp[hs]
 have hb:(loE n l !=0)=true:=by simpa using h
 simp[h,hb]
def z12 (x:zz α)(i:Nat)(v:α):(zz.setI x (i:Int) v).toL=x.toL.set i v:=by unfold zz.setI;rw[zz.toL_ofL _ _ (by simp[zz.toL]),ph]
def zgs {x y:zz α}(h:x.toL=y.toL):x=y:=by cases x;cases y;simp only[zz.toL,List.cons.injEq,and_true]at h;simp only[zz.mk.injEq];exact h
instance:LawfulBEq (zz (qQ Int)):={
 eq_of_beq:=by
  intro a b h;cases a;cases b;simp only[BEq.beq,pB,decide_eq_true_eq]at h;simp only[zz.mk.injEq];obtain⟨⟨⟨⟨⟨⟨⟨⟨⟨⟨⟨⟨⟨⟨⟨h0,h1⟩,h2⟩,h3⟩,h4⟩,h5⟩,h6⟩,h7⟩,h8⟩,h9⟩,h10⟩,h11⟩,h12⟩,h13⟩,h14⟩,h15⟩:=h;have e:∀{p q:qQ Int},(p.e0=q.e0/\p.e1=q.e1)->p=q:=by rintro⟨a0,a1⟩ ⟨b0,b1⟩ ⟨rfl,rfl⟩;rfl
  exact⟨e h0,e h1,e h2,e h3,e h4,e h5,e h6,e h7,e h8,e h9,e h10,e h11,e h12,e h13,e h14,e h15⟩
 rfl:=by intro a;cases a;simp[BEq.beq] }
instance:LawfulBEq zK:={
 eq_of_beq:=by intro a b h;have h:(a.L==b.L&&a.z==b.z)=true:=h;rw[pB,beq_iff_eq,beq_iff_eq]at h;obtain⟨a0,a1⟩:=a;obtain⟨b0,b1⟩:=b;obtain⟨h0,h1⟩:=h;have h0:a0=b0:=h0;have h1:a1=b1:=h1;rw[h0,h1]
 rfl:=by intro a;show(a.L==a.L&&a.z==a.z)=true;rw[beq_self_eq_true,beq_self_eq_true];rfl }
def sgN (m:z6)(p:TB)(s j:Nat):qQ Int:=if j<kk m then⟨(E m s j).r,if(E m s j).o=-1 then -1 else(p[(E m s j).o.toNat]?).getD 0⟩ else⟨0,0⟩
def zaH (f g:Nat->α){n i:Nat}(v:α)(h:∀j,j<n->g j=if j=i then v else f j):((List.range n).map f).set i v=(List.range n).map g:=by
 apply gO;intro j;by_cases hj:j<n
 ·have e1:((List.range n).map g)[j]?=some (g j):=by simp[hj]
  have e2:((List.range n).map f)[j]?=some (f j):=by simp[hj]
  rw[e1,h j hj];by_cases e:j=i
  ·subst e;rw[gN (by simpa using hj),if_pos rfl]
  rw[gC (λq=>e q.symm),e2,if_neg e]
 rw[pJ (by simp;omega),pJ (by simp;omega)]
variable {p:TB}
section
variable {m:z6}(h:VM m)
include h
theorem zdH (hp:p.length=m.i.length){s:Nat}(hs:s<m.i.length):Ret (jU m p (s:Int)) λa=>a.toL=(List.range 16).map (sgN m p s):=by
 obtain⟨r,r1,r2,r3⟩:=h.rowAt hs;have hk:=h.kk_le;unfold jU Xi;rw[bdT (zr r1),zm];refine Ret.mono ?_ λa ha=>z7.2 ha;refine zG (λst=>∃i:Nat,st.2=(i:Int)/\i<=kk m/\st.1.toL=(List.range 16).map λj=>if j<i then sgN m p s j else⟨0,0⟩) (λst=>20-st.2.toNat) ⟨0,rfl,by omega,by simp[zz.toL,nR]⟩ (by show 20-_<_;omega) ?_;rintro⟨a,_⟩ ⟨i,rfl,hi,ha⟩;simp only at ha;show Ret (Xh p r a (i:Int)) _;unfold Xh kK;rw[zy];refine⟨λhc=>?_,λhc=>?_⟩
 ·have hc:(i:Int)<((r.length:Nat):Int):=of_decide_eq_true hc;have hik:i<kk m:=by omega
  have e1:a.toL[i]?=some ⟨0,0⟩:=by rw[ha];simp[show i<16 by omega]
  have w2:w64 ((i:Int)+1)=((i+1:Nat):Int):=by rw[zC (by omega) (by omega)];rfl
  have hed:=h.edgeAt hs hik;have step:∀v:qQ Int,sgN m p s i=v->∀b:zz (qQ Int),b.toL=((List.range 16).map λj=>if j<i then sgN m p s j else⟨0,0⟩).set i v->b.toL=(List.range 16).map λj=>if j<i+1 then sgN m p s j else⟨0,0⟩:=by
   intro v hv b hb;rw[hb];refine zaH _ _ v λj hj=>?_;by_cases e:j=i
   ·subst e;rw[if_pos (by omega),if_pos rfl,hv]
   rw[if_neg e];by_cases e2:j<i
   ·rw[if_pos e2,if_pos (by omega)]
   rw[if_neg e2,if_neg (by omega)]
  rw[bdT (zr (r3 i hik)),bdT (zr e1),oB,zy];refine⟨λht=>?_,λht=>?_⟩
  ·have ht:(E m s i).o≠-1:=by simpa using ht
   obtain⟨t,htn⟩:∃t:Nat,(E m s i).o=t:=⟨(E m s i).o.toNat,by omega⟩;have hpt:p[t]?=some p[t]:=pe (by omega);have e2:(zz.setI a (i:Int) ⟨(E m s i).r,-1⟩).toL[i]?=some ⟨(E m s i).r,-1⟩:=by rw[z12,gN (by rw[ha];simp;omega)]
   rw[htn,bdT (zr hpt),bdT (zr e2),oB,z7,w2];refine⟨⟨i+1,rfl,by omega,step _ ?_ _ (by rw[z12,z12,ha,List.set_set])⟩,by simp only[ph];omega⟩;unfold sgN;rw[if_pos hik,if_neg ht,htn,ph,hpt,pW]
  have ht:(E m s i).o=-1:=by simpa using ht
  rw[z7,w2];refine⟨⟨i+1,rfl,by omega,step _ ?_ _ (by rw[z12,ha])⟩,by simp only[ph];omega⟩;unfold sgN;rw[if_pos hik,if_pos ht]
 have hc:=of_decide_eq_false hc;have:i=kk m:=by omega
 subst this;refine z7.2 ?_;show a.toL=_;rw[ha];refine mX λj hj=>?_;unfold sgN;by_cases e:j<kk m
 ·rw[if_pos e,if_pos e]
 rw[if_neg e,if_neg e]
end
def Rgf (l:TB):Prop:=∀(s:Nat) (x:Int),l[s]?=some x->∃v:Nat,x=(v:Int)/\∀w:Nat,w<v->∃t,t<s/\l[t]?=some (w:Int)
def z8l {l r:TB}(hl:Rgf l)(hr:Rgf r)(hlen:l.length=r.length)(h:∀s t:Nat,s<l.length->t<l.length->(l[s]?=l[t]?↔r[s]?=r[t]?)):l=r:=by
 have gen:∀n s,s<n->s<l.length->l[s]?=r[s]?:=by
  intro n;induction n with
  |zero=>intro s q;omega
  |succ n ih=>
   intro s hs hsl;have hx:l[s]?=some l[s]:=pe hsl;have hy:r[s]?=some r[s]:=pe (by omega);by_cases old:∃t,t<s/\l[t]?=l[s]?
   ·obtain⟨t,t1,t2⟩:=old;rw[<-t2,ih t (by omega) (by omega)];exact(h t s (by omega) hsl).1 t2
   obtain⟨v,v1,v2⟩:=hl s _ hx;obtain⟨u,u1,u2⟩:=hr s _ hy;rw[hx,hy,v1,u1];rcases mQ v u with q|q|q
   ·exfalso;obtain⟨t,t1,t2⟩:=u2 v q;exact old ⟨t,t1,by rw[ih t (by omega) (by omega),t2,hx,v1]⟩
   ·rw[q]
   exfalso;obtain⟨t,t1,t2⟩:=v2 u q;have:r[t]?=r[s]?:=by rw[<-ih t (by omega) (by omega),t2,hy,u1]
   exact old ⟨t,t1,(h t s (by omega) hsl).2 this⟩
 apply gO;intro s;by_cases hs:s<l.length
 ·exact gen (s+1) s (by omega) hs
 rw[pJ (by omega),pJ (by omega)]
def z8A {K V:Type}[BEq K](x:K)(v:V):∀l:List (K×V),Vf l x=none->(z29 l x v).length=l.length+1
 |[],_=>rfl
 |p::l,hg=>by
  simp only[Vf]at hg;split at hg
  ·cases hg
  rename_i q;simp only[z29,q];show((p::z29 l x v).length)=_;rw[gt,z8A x v l hg,gt]
section
variable {m:z6}(h:VM m)
include h
def zfs (m:z6)(p:TB)(s t:Nat):Prop:=p[s]?=p[t]?/\∀j,j<kk m->sgN m p s j=sgN m p t j
theorem z7q (hp:p.length=m.i.length):Ret (kN m p) λq=>q.length=m.i.length/\Rgf q/\∀s t:Nat,s<m.i.length->t<m.i.length->(q[s]?=q[t]?↔zfs m p s t):=by
 have hN:=h.y;have hk:=h.kk_le;have hkey:∀s,s<m.i.length->∃key:zK,key.L=(p[s]?).getD 0/\key.z.toL=(List.range 16).map (sgN m p s)/\jU m p (s:Int)=some key.z:=by intro s hs;obtain⟨a,a1,a2⟩:=zdH h hp hs;exact⟨⟨(p[s]?).getD 0,a⟩,rfl,a2,a1⟩
 have:∃key:Nat->zK,∀s,s<m.i.length->(key s).L=(p[s]?).getD 0/\(key s).z.toL=(List.range 16).map (sgN m p s)/\jU m p (s:Int)=some (key s).z:=by
  classical
  refine⟨λs=>if q:s<m.i.length then(hkey s q).choose else⟨0,zz.mk ⟨0,0⟩ ⟨0,0⟩ ⟨0,0⟩ ⟨0,0⟩ ⟨0,0⟩ ⟨0,0⟩ ⟨0,0⟩ ⟨0,0⟩ ⟨0,0⟩ ⟨0,0⟩ ⟨0,0⟩ ⟨0,0⟩ ⟨0,0⟩ ⟨0,0⟩ ⟨0,0⟩ ⟨0,0⟩⟩,λs hs=>?_⟩;simp only[hs,dif_pos];exact(hkey s hs).choose_spec
 obtain⟨key,hkey⟩:=this;have alike:∀s t,s<m.i.length->t<m.i.length->(key s=key t↔zfs m p s t):=by
  intro s t hs ht;obtain⟨a1,a2,_⟩:=hkey s hs;obtain⟨b1,b2,_⟩:=hkey t ht;have xs:p[s]?=some p[s]:=pe (by omega);have xt:p[t]?=some p[t]:=pe (by omega);rw[xs,pW]at a1;rw[xt,pW]at b1;constructor
  ·intro e;refine⟨by rw[xs,xt,<-a1,<-b1,e],λj hj=>?_⟩;have e2:(List.range 16).map (sgN m p s)=(List.range 16).map (sgN m p t):=by rw[<-a2,<-b2,e]
   have:=congrArg (λl=>l[j]?) e2;simpa[show j<16 by omega] using this
  rintro⟨e1,e2⟩;have e3:(key s).z=(key t).z:=zgs (by
   rw[a2,b2];refine mX λj hj=>?_;by_cases q:j<kk m
   ·exact e2 j q
   unfold sgN;rw[if_neg q,if_neg q])
  have e4:(key s).L=(key t).L:=by rw[a1,b1];rw[xs,xt]at e1;exact Option.some.inj e1
  revert e3 e4;generalize key s=u;generalize key t=v;intro e3 e4;obtain⟨u0,u1⟩:=u;obtain⟨v0,v1⟩:=v;simp only at e3 e4;rw[e3,e4]
 unfold kN kM;rw[gdT (by omega),zm];refine Ret.mono ?_ λq hq=>z7.2 hq;refine zG (λst=>∃i:Nat,st.2.2=(i:Int)/\i<=m.i.length/\st.2.1.length=m.i.length/\(∀s,s<i->∃v:Nat,st.2.1[s]?=some (v:Int)/\v<st.1.length/\Vf st.1 (key s)=some (v:Int)/\∀w:Nat,w<v->∃t,t<s/\st.2.1[t]?=some (w:Int))/\(∀w:Nat,w<st.1.length->∃t,t<i/\st.2.1[t]?=some (w:Int)) /\
   (∀k v,Vf st.1 k=some v->∃t,t<i/\key t=k)/\∀s t:Nat,s<i->t<i->st.2.1[s]?=st.2.1[t]?->key s=key t) (λst=>100-st.2.2.toNat) ⟨0,rfl,by omega,by simp[hp],λs q=>by omega,λw q=>by simp at q,λk v q=>by simp[Vf]at q,λs t q=>by omega⟩ (by show 100-_<_;omega) ?_
 rintro⟨names,out,_⟩ ⟨i,rfl,hi,ho,h1,h2,h3,h4⟩;simp only at ho h1 h2 h3 h4;show Ret (kL m p names out (i:Int)) _;unfold kL;rw[zy];refine⟨λhc=>?_,λhc=>?_⟩
 ·have hc:(i:Int)<((p.length:Nat):Int):=of_decide_eq_true hc;have hiN:i<m.i.length:=by omega
  obtain⟨a1,a2,a3⟩:=hkey i hiN;have xi:p[i]?=some p[i]:=pe (by omega);rw[xi,pW]at a1;have hmk:zK.mk p[i] (key i).z=key i:=by rw[<-a1]
  have w2:w64 ((i:Int)+1)=((i+1:Nat):Int):=by rw[zC (by omega) (by omega)];rfl
  have hoi:out[i]?=some out[i]:=pe (by omega);rw[bdT (zr xi),bdT a3,oB,hmk];cases hg:Vf names (key i) with
  |none=>
   rw[Option.isSome_none,mA,cond_true];unfold wW;have hfresh:∀t,t<i->key t≠key i:=λt ht e=>by obtain⟨v,_,_,v3,_⟩:=h1 t ht;rw[e,hg]at v3;cases v3
   have hlen:=z8A (key i) ((names.length:Nat):Int) names hg;rw[hmk,z18,if_pos (by simp),pW,oB,bdT (zr hoi),z7,w2,ph];have keep:∀t:Nat,t<i->(out.set i ((names.length:Nat):Int))[t]?=out[t]?:=λt ht=>gC (by omega);have new:(out.set i ((names.length:Nat):Int))[i]?=some ((names.length:Nat):Int):=gN (by omega);refine⟨⟨i+1,rfl,by omega,by simp[ho],λs hs=>?_,λw hw=>?_,λk v q=>?_,λs t hs ht q=>?_⟩,by simp only[ph];omega⟩
   ·simp only
    by_cases e:s=i
    ·subst e;refine⟨names.length,new,by omega,by rw[z18,if_pos (by simp)],λw hw=>?_⟩;obtain⟨t,t1,t2⟩:=h2 w hw;exact⟨t,t1,by rw[keep t t1];exact t2⟩
    obtain⟨v,v1,v2,v3,v4⟩:=h1 s (by omega);refine⟨v,by rw[keep s (by omega)];exact v1,by omega,?_,λw hw=>?_⟩
    ·rw[z18,if_neg (by simpa using λq=>hfresh s (by omega) q.symm)];exact v3
    obtain⟨t,t1,t2⟩:=v4 w hw;exact⟨t,t1,by rw[keep t (by omega)];exact t2⟩
   ·simp only at hw ⊢;by_cases e:w<names.length
    ·obtain⟨t,t1,t2⟩:=h2 w e;exact⟨t,by omega,by rw[keep t t1];exact t2⟩
    have:w=names.length:=by omega
    subst this;exact⟨i,by omega,new⟩
   ·simp only at q;rw[z18]at q;by_cases e:key i=k
    ·exact⟨i,by omega,e⟩
    rw[if_neg (by simpa using e)]at q;obtain⟨t,t1,t2⟩:=h3 k v q;exact⟨t,by omega,t2⟩
   simp only at q;have low:∀t,t<i->out[t]?≠some ((names.length:Nat):Int):=λt ht g=>by obtain⟨v,v1,v2,_⟩:=h1 t ht;rw[v1]at g;have:=Option.some.inj g;omega
   by_cases es:s=i
   ·by_cases et:t=i
    ·rw[es,et]
    exfalso;rw[es,new,keep t (by omega)]at q;exact low t (by omega) q.symm
   by_cases et:t=i
   ·exfalso;rw[et,new,keep s (by omega)]at q;exact low s (by omega) q
   rw[keep s (by omega),keep t (by omega)]at q;exact h4 s t (by omega) (by omega) q
  |some v=>
   rw[Option.isSome_some,gH,cond_false];unfold wW;obtain⟨t0,t1,t2⟩:=h3 _ _ hg;obtain⟨u,u1,u2,u3,u4⟩:=h1 t0 t1;rw[t2,hg]at u3;have hvu:v=(u:Int):=Option.some.inj u3;rw[hmk,hg,pW,oB,bdT (zr hoi),z7,w2,ph];have keep:∀t:Nat,t<i->(out.set i v)[t]?=out[t]?:=λt ht=>gC (by omega);have new:(out.set i v)[i]?=some v:=gN (by omega);refine⟨⟨i+1,rfl,by omega,by simp[ho],λs hs=>?_,λw hw=>?_,λk v q=>?_,λs t hs ht q=>?_⟩,by simp only[ph];omega⟩
   ·simp only
    by_cases e:s=i
    ·subst e;refine⟨u,by rw[new,hvu],u2,by rw[hg,hvu],λw hw=>?_⟩;obtain⟨t,g1,g2⟩:=u4 w hw;exact⟨t,by omega,by rw[keep t (by omega)];exact g2⟩
    obtain⟨v',v1,v2,v3,v4⟩:=h1 s (by omega);refine⟨v',by rw[keep s (by omega)];exact v1,v2,v3,λw hw=>?_⟩;obtain⟨t,g1,g2⟩:=v4 w hw;exact⟨t,g1,by rw[keep t (by omega)];exact g2⟩
   ·simp only at hw⊢;obtain⟨t,g1,g2⟩:=h2 w hw;exact⟨t,by omega,by rw[keep t g1];exact g2⟩
   ·obtain⟨t,g1,g2⟩:=h3 k v q;exact⟨t,by omega,g2⟩
   simp only at q;have like:∀t,t<i->out[t]?=some v->key t=key i:=λt ht g=>by rw[<-t2];exact h4 t t0 ht t1 (by rw[g,u1,hvu])
   by_cases es:s=i
   ·by_cases et:t=i
    ·rw[es,et]
    rw[es,new,keep t (by omega)]at q;rw[es];exact(like t (by omega) q.symm).symm
   by_cases et:t=i
   ·rw[et,new,keep s (by omega)]at q;rw[et];exact like s (by omega) q
   rw[keep s (by omega),keep t (by omega)]at q;exact h4 s t (by omega) (by omega) q
 have hc:=of_decide_eq_false hc;have:i=m.i.length:=by omega
 subst this;refine z7.2 ⟨ho,λs x hx=>?_,λs t hs ht=>?_⟩
 ·have hs:s<m.i.length:=by have:=(pf.1 hx).1;omega
  obtain⟨v,v1,_,_,v4⟩:=h1 s hs;rw[hx]at v1;exact⟨v,Option.some.inj v1,v4⟩
 rw[<-alike s t hs ht];refine⟨h4 s t hs ht,λe=>?_⟩;obtain⟨v,v1,_,v3,_⟩:=h1 s hs;obtain⟨u,u1,_,u3,_⟩:=h1 t ht;rw[e,u3]at v3;rw[v1,u1,<-Option.some.inj v3]
end
def zbM (a b:TB)(ha:a.length<4611686018427387904):vt a b=some (decide (a=b)):=by
 unfold vt u9;by_cases hl:a.length=b.length
 ·have e:(((a.length:Nat):Int) !=((b.length:Nat):Int))=false:=by simp[hl]
  rw[e,cond_false,wh a ha (step:=λs=>wj a b s) (λi x=>if b[i]?=some x then none else some false) ?_ ?_]
  ·by_cases q:a=b
   ·rw[VN λi x hx=>by rw[gF,<-q,if_pos hx]];simp[oS,q]
   cases hf:ya (λi x=>if b[i]?=some x then none else some false) a 0 with
   |none=>
    exfalso;refine q (gO λi=>?_);by_cases hi:i<a.length
    ·have hx:a[i]?=some a[i]:=pe hi;have:=uh hf i _ hx;rw[gF]at this;split at this
     ·rename_i g;rw[hx,g]
     cases this
    rw[pJ (by omega),pJ (by omega)]
   |some r=>
    obtain⟨i,x,_,h2⟩:=ug hf;split at h2
    ·cases h2
    cases h2;simp[oS,q]
  ·intro i x hx;have hi:=(pf.1 hx).1;have hy:b[i]?=some b[i]:=pe (by omega);unfold wj;rw[decide_eq_true (by omega),cond_true,bdT (zr hx),bdT (zr hy),hy];by_cases e2:x=b[i]
   ·rw[e2,bne_self_eq_false,cond_false,if_pos rfl];rfl
   have e3:(x !=b[i])=true:=by simpa using e2
   rw[e3,cond_true,if_neg λg=>e2 (Option.some.inj g).symm];rfl
  unfold wj;rw[decide_eq_false (by omega),cond_false]
 have e:(((a.length:Nat):Int) !=((b.length:Nat):Int))=true:=by simpa using λg:(a.length:Int)=b.length=>hl (by omega)
 rw[e,cond_true,decide_eq_false λq=>hl (by rw[q])]
section
variable {m:z6}(h:VM m)
include h
omit h in theorem seq_out {s t:Nat} (q:SEq m s t) {j:Nat} (hj:j<kk m):(E m s j).r=(E m t j).r/\∀w:TC,(∀i∈w,i<kk m)->rsp m (E m s j).o w=rsp m (E m t j).o w:=by
 have gen:∀w:TC,(∀i∈w,i<kk m)->(E m s j).r=(E m t j).r/\rsp m (E m s j).o w=rsp m (E m t j).o w:=by intro w hw;have:=q (j::w) (λi hi=>by rcases pl.1 hi with rfl|g;exact hj;exact hw i g);simp only[rsp,uF,List.cons.injEq]at this;exact this
 exact⟨(gen [] (by simp)).1,λw hw=>(gen w hw).2⟩
theorem zal (hp:p.length=m.i.length)(hq:∀s t,s<m.i.length->t<m.i.length->SEq m s t->p[s]?=p[t]?){s t:Nat}(hs:s<m.i.length)(ht:t<m.i.length)(q:SEq m s t):zfs m p s t:=by
 refine⟨hq s t hs ht q,λj hj=>?_⟩;obtain⟨o1,o2⟩:=seq_out q hj;have hes:=h.edgeAt hs hj;have het:=h.edgeAt ht hj;unfold sgN;rw[if_pos hj,if_pos hj,o1];rcases hes with⟨a1,a2⟩|⟨a1,a2,a3,a4⟩
 ·rcases het with⟨b1,b2⟩|⟨b1,b2,b3,b4⟩
  ·rw[if_pos a1,if_pos b1]
  omega
 rcases het with⟨b1,b2⟩|⟨b1,b2,b3,b4⟩
 ·omega
 rw[if_neg (by omega),if_neg (by omega)];have e1:(((E m s j).o.toNat:Nat):Int)=(E m s j).o:=by omega
 have e2:(((E m t j).o.toNat:Nat):Int)=(E m t j).o:=by omega
 have:=hq _ _ (by omega) (by omega) (show SEq m (E m s j).o.toNat (E m t j).o.toNat from λw hw=>by rw[e1,e2];exact o2 w hw);rw[this]
theorem zbG (hp:p.length=m.i.length)(hr:Rgf p)(hf:∀s t,s<m.i.length->t<m.i.length->p[s]?=p[t]?->zfs m p s t):∀(w:TC) (s t:Nat),s<m.i.length->t<m.i.length->p[s]?=p[t]?->(∀i∈w,i<kk m)->rsp m (s:Int) w=rsp m (t:Int) w
 |[],_,_,_,_,_,_=>rfl
 |j::w,s,t,hs,ht,e,hw=>by
  have hj:j<kk m:=hw j (by simp);have hw':∀i∈w,i<kk m:=λi hi=>hw i (by simp[hi]);have hal:=(hf s t hs ht e).2 j hj;have hes:=h.edgeAt hs hj;have het:=h.edgeAt ht hj;have pos:∀u:Nat,u<m.i.length->0<=(p[u]?).getD 0:=λu hu=>by have hx:p[u]?=some p[u]:=pe (by omega);obtain⟨v,v1,_⟩:=hr u _ hx;rw[hx,pW,v1];omega
  unfold sgN at hal;rw[if_pos hj,if_pos hj]at hal;have a0:=congrArg qQ.e0 hal;have a1:=congrArg qQ.e1 hal;simp only at a0 a1;simp only[rsp,uF,a0,List.cons.injEq,true_and];rcases hes with⟨b1,b2⟩|⟨b1,b2,b3,b4⟩
  ·rcases het with⟨c1,c2⟩|⟨c1,c2,c3,c4⟩
   ·rw[b1,c1]
   rw[if_pos b1,if_neg (by omega)]at a1;have:=pos (E m t j).o.toNat (by omega);omega
  rcases het with⟨c1,c2⟩|⟨c1,c2,c3,c4⟩
  ·rw[if_neg (by omega),if_pos c1]at a1;have:=pos (E m s j).o.toNat (by omega);omega
  rw[if_neg (by omega),if_neg (by omega)]at a1;have x1:p[(E m s j).o.toNat]?=some p[(E m s j).o.toNat]:=pe (by omega);have x2:p[(E m t j).o.toNat]?=some p[(E m t j).o.toNat]:=pe (by omega);have:=zbG hp hr hf w (E m s j).o.toNat (E m t j).o.toNat (by omega) (by omega) (by rw[x1,x2]at a1⊢;exact congrArg some a1) hw';have e1:(((E m s j).o.toNat:Nat):Int)=(E m s j).o:=by omega
  have e2:(((E m t j).o.toNat:Nat):Int)=(E m t j).o:=by omega
  rw[e1,e2]at this;exact this
def Qx (N:Nat)(p:TB):Nat:=((List.range N).flatMap λs=>(List.range N).map λt=>(s,t)).countP λx=>decide (p[x.1]?=p[x.2]?)
omit h in
theorem z6k {N s t:Nat}:(s,t)∈((List.range N).flatMap λs=>(List.range N).map λt=>(s,t))↔s<N/\t<N:=by
 simp only[gP,pQ,gK,Prod.mk.injEq];constructor
 ·rintro⟨a,ha,b,hb,rfl,rfl⟩;exact⟨ha,hb⟩
 rintro⟨a,b⟩;exact⟨s,a,t,b,rfl,rfl⟩
theorem z9K:Ret (kP m) λr=>r.2.2=0/\r.1.length=m.i.length/\Rgf r.1/\∀s t:Nat,s<m.i.length->t<m.i.length->(r.1[s]?=r.1[t]?↔SEq m s t):=by
 have hN:=h.y;have hN1:=h.J;unfold kP Wo;rw[VT,z2u h,oB,bne_self_eq_false,cond_false,oB];unfold jF;rw[gdT (by omega),zm,zm];have e0:((m.i.length:Nat):Int).toNat=m.i.length:=by simp
 rw[e0];refine(zG (R:=λy:LR (TB×Int) Empty=>∃p n,y=.next (p,n)/\p.length=m.i.length/\Rgf p/\∀s t:Nat,s<m.i.length->t<m.i.length->(p[s]?=p[t]?↔SEq m s t))
  (λst:LR (TB×Int) Empty×TB=>(∃x,st.1=.next x)/\st.2.length=m.i.length/\Rgf st.2/\∀s t:Nat,s<m.i.length->t<m.i.length->SEq m s t->st.2[s]?=st.2[t]?) (λst=>Qx m.i.length st.2) ⟨⟨_,rfl⟩,by simp,?_,?_⟩ ?_ ?_).mono ?_
 ·intro s x hx;simp only[gQ]at hx;split at hx
  ·cases hx;exact⟨0,rfl,λw q=>by omega⟩
  cases hx
 ·intro s t hs ht _;simp only[gQ];rw[if_pos hs,if_pos ht]
 ·have:Qx m.i.length (List.replicate m.i.length (0:Int))<=((List.range m.i.length).flatMap λs=>(List.range m.i.length).map λt=>(s,t)).length:=rF;have e:((List.range m.i.length).flatMap λs=>(List.range m.i.length).map λt=>(s,t)).length=m.i.length*m.i.length:=by rw[List.length_flatMap];simp only[pY,List.length_range,List.map_const',List.sum_replicate_nat]
  rw[e]at this;have:=mC hN hN;show Qx m.i.length (List.replicate m.i.length (0:Int))<18446744073709551616;omega
 ·rintro⟨y,p⟩ ⟨⟨⟨x,n⟩,rfl⟩,hp,hr,hq⟩;simp only at hp hr hq;show Ret (ub m (yOf λs x=>wX s.1 s.2 x) (.next (x,n)) p) _;unfold ub;simp only[yOf,wX,oB,cond_true];rw[zm];refine(z7q h hp).mono ?_;rintro q ⟨q1,q2,q3⟩;rw[zbM p q (by omega),oB,zy];refine⟨λhc=>?_,λhc=>?_⟩
  ·have hc:p=q:=of_decide_eq_true hc;rw[z7];refine⟨p,w64 (n+1),rfl,hp,hr,λs t hs ht=>⟨λe w hw=>?_,hq s t hs ht⟩⟩;exact zbG h hp hr (λs t hs ht e=>(q3 s t hs ht).1 (by rw[<-hc];exact e)) w s t hs ht e hw
  have hc:¬p=q:=of_decide_eq_false hc;rw[z7];refine⟨⟨⟨_,rfl⟩,q1,q2,λs t hs ht e=>(q3 s t hs ht).2 (zal h hp hq hs ht e)⟩,?_⟩;show Qx m.i.length q<Qx m.i.length p;unfold Qx;refine z2s (λz hz hd=>?_) ?_
  ·obtain⟨s,t⟩:=z;obtain⟨hs,ht⟩:=z6k.1 hz;simp only[decide_eq_true_eq]at hd⊢;exact((q3 s t hs ht).1 hd).1
  refine gG λg=>hc (z8l hr q2 (by omega) λs t hs ht=>⟨λe=>?_,λe=>((q3 s t (by omega) (by omega)).1 e).1⟩);refine gG λg2=>g ⟨(s,t),z6k.2 ⟨by omega,by omega⟩,by simpa using e,by simpa using g2⟩
 rintro y ⟨p,n,rfl,g1,g2,g3⟩;rw[z7];unfold kO;simp only;rw[z7];exact⟨rfl,g1,g2,g3⟩
end
def z0f (w:TB):zQ w=some w:=by unfold zQ;rw[gdT (by omega)];simp
def z91 (w:TB)(h:w.length<=4294967296):ye w=some w:=by unfold ye;rw[gdT (by simpa using h)]
def z8h (a b:TB)(h:a.length<4611686018427387904):qS a b=some (decide (a=b)):=by
 unfold qS;rw[Ve a b h];simp only[oB];by_cases e:a=b
 ·subst e;simp[Yi]
 have:uP a b≠0:=λq=>e (Qr q);simp[e,this]
def QW (l:TA):Prop:=l.Pairwise λa b=>¬uP b a<0
def YK {l:List α}{n:Nat}{x:α}:x∈l.take n↔∃i,i<n/\l[i]?=some x:=by
 rw[gD];constructor
 ·rintro⟨i,h⟩;rw[pO]at h;split at h
  ·exact⟨i,by omega,h⟩
  cases h
 rintro⟨i,h1,h2⟩;exact⟨i,by rw[pO,if_pos h1];exact h2⟩
def za7 (h:SW l)(hx:∀y∈l,uP y x<0):SW (l++[x]):=by unfold SW;rw[ny];exact⟨h,by simp,λa ha b hb=>by simp at hb;subst hb;exact hx a ha⟩
section
variable {s:TA}(hq:QW s)(hl:s.length<=4294967296)(hw:∀w∈s,w.length<4611686018427387904)
include hq hl hw
omit hl hw in
theorem ze6 {i j:Nat}{x y:TB}(hi:s[i]?=some x)(hj:s[j]?=some y)(h:i<=j):uP x y<0\/x=y:=by
 rcases pC i j with h|h
 ·have:=(gT.1 hq) i j (pf.1 hi).1 (pf.1 hj).1 h;rw[(pf.1 hi).2,(pf.1 hj).2]at this;rcases z51.1 this with q|q
  ·exact .inl q
  exact .inr q.symm
 have:i=j:=by omega
 subst this;rw[hi]at hj;exact .inr (by simpa using hj)
theorem z6L (h1:1<=k)(hk:k<s.length)(hd:s[k-1]?=s[k]?)(hs:SW (s.take k)) :
  Ret (Option.bind (loop (λq=>yO (k:Int) q.1 q.2.1 q.2.2) (s,(k:Int),1)) λt=>yh t.1 t.2) λr=>r=.done (.inr (srt s)):=by
 rw[zm];refine Ret.mono (zG (λq=>∃kk k2:Nat,q.2.1=(kk:Int)/\q.2.2=(k2:Int)/\1<=k2/\k+k2<=s.length/\kk<k+k2/\q.1.length=s.length/\(∀i,kk<=i->q.1[i]?=s[i]?)/\SW (q.1.take kk)/\∀x,x∈q.1.take kk↔x∈s.take (k+k2)) (λq=>s.length-q.2.2.toNat) (R:=λt=>∃kk:Nat,t.2=(kk:Int)/\kk<=s.length/\t.1.length=s.length/\t.1.take kk=srt s) ?_ ?_ ?_) ?_
 ·refine⟨k,1,rfl,rfl,pi _,hk,by omega,rfl,λ_ _=>rfl,hs,λx=>?_⟩;rw[YK,YK];constructor
  ·rintro⟨i,h2,h3⟩;exact⟨i,by omega,h3⟩
  rintro⟨i,h2,h3⟩;rcases pC i k with h|h
  ·exact⟨i,h,h3⟩
  have:i=k:=by omega
  subst this;exact⟨i-1,by omega,by rw[hd];exact h3⟩
 ·show s.length-_<_;omega
 ·rintro⟨S,a,b⟩ ⟨kk,k2,rfl,rfl,g1,g2,g3,g4,g5,g6,g7⟩;simp only at g4 g5 g6 g7;show Ret (yO (k:Int) S (kk:Int) (k2:Int)) _;unfold yO;rw[zy];refine⟨λhc=>?_,λhc=>?_⟩
  ·have hlt:k2<s.length - k:=by rw[g4]at hc;simpa using hc
   have e1:s[k+k2]?=some s[k+k2]:=pe (by omega);have e2:s[k+k2-1]?=some s[k+k2-1]:=pe (by omega);have f1:idx S ((k:Int)+(k2:Int))=some s[k+k2]:=by rw[<-Int.natCast_add,zM,g5 _ (by omega),e1]
   have f2:idx S ((k:Int)+w64 ((k2:Int)-1))=some s[k+k2-1]:=by rw[zC (by omega) (by omega),show(k:Int)+((k2:Int)-1)=((k+k2-1:Nat):Int) by omega,zM,g5 _ (by omega),e2]
   rw[gdT (by omega),f1];simp only[oB];rw[gdT (by rw[zC (by omega) (by omega)];omega),f2];simp only[oB];rw[z8h _ _ (hw _ (pD (by omega)))];simp only[oB];have hk2:w64 ((k2:Int)+1)=((k2+1:Nat):Int):=by rw[zC (by omega) (by omega)];omega
   by_cases he:s[k+k2]=s[k+k2-1]
   ·simp only[he,decide_true,gH,cond_false];unfold yg;rw[hk2,z7];refine⟨⟨kk,k2+1,rfl,rfl,by omega,by omega,by omega,g4,g5,g6,λx=>?_⟩,by simp only[ph];omega⟩;rw[g7,YK,YK];constructor
    ·rintro⟨i,h2,h3⟩;exact⟨i,by omega,h3⟩
    rintro⟨i,h2,h3⟩;rcases pC i (k+k2) with h|h
    ·exact⟨i,h,h3⟩
    have:i=k+k2:=by omega
    subst this;exact⟨k+k2-1,by omega,by rw[e2,<-he,<-e1];exact h3⟩
   simp only[he,decide_false,mA,cond_true];rw[gdT (by omega)];have e3:idx S (kk:Int)=some s[kk]:=by rw[zM,g5 _ (pi _),pe (by omega)]
   rw[e3];simp only[oB];unfold yg;rw[hk2,zC (x:=(kk:Int)+1) (by omega) (by omega),z7];have hset:(S.set ((kk:Int).toNat) s[k+k2]).take (kk+1)=S.take kk++[s[k+k2]]:=by rw[ph,pU,List.take_set_of_le (pi _),gN (by omega)];rfl
   refine⟨⟨kk+1,k2+1,rfl,rfl,by omega,by omega,by omega,by simp[g4],λi hi=>?_,?_,λx=>?_⟩,by simp only[ph];omega⟩
   ·simp only
    rw[gC (by omega),g5 _ (by omega)]
   ·simp only
    rw[hset];refine za7 g6 λy hy=>?_;obtain⟨i,h2,h3⟩:=YK.1 ((g7 y).1 hy);have hlast:uP s[k+k2-1] s[k+k2]<0:=by
     rcases ze6 hq e2 e1 (by omega) with q|q
     ·exact q
     exact absurd q.symm he
    rcases ze6 hq h3 e2 (by omega) with q|q
    ·exact vO q hlast
    rw[q];exact hlast
   simp only
   rw[hset,pg,g7,YK,YK];constructor
   ·rintro(⟨i,h2,h3⟩|h)
    ·exact⟨i,by omega,h3⟩
    simp at h;subst h;exact⟨k+k2,by omega,e1⟩
   rintro⟨i,h2,h3⟩;rcases pC i (k+k2) with h|h
   ·exact .inl ⟨i,h,h3⟩
   have:i=k+k2:=by omega
   subst this;rw[e1]at h3;exact .inr (by simpa using h3.symm)
  have hge:s.length-k<=k2:=by rw[g4]at hc;simpa using hc
  have hkk:k+k2=s.length:=by omega
  rw[z7];refine⟨kk,rfl,by omega,g4,zad g6 λx=>?_⟩;rw[g7,hkk,gM]
 rintro⟨S,a⟩ ⟨kk,rfl,h1,h2,h3⟩;simp only at h2 h3;show Ret (yh S (kk:Int)) _;unfold yh;have hlen:(S.take (kk:Int).toNat++List.replicate (S.length-(kk:Int).toNat) ([]:TB)).length=S.length:=by simp[pN];omega
 rw[gdT (by omega),gdT (by omega),gdT (by rw[hlen];omega),z7];simp only[ph];rw[List.take_left' (by rw[pN];omega),h3]
theorem z9J:xw s ()=some (srt s):=by
 unfold xw;by_cases h2:s.length<2
 ·have hd:decide (((s.length:Nat):Int)<2)=true:=by simp;omega
  simp only[hd,cond_true];rw[K8];match s,h2 with
  |[],_=>exact SW.nil
  |[x],_=>simp[SW]
 have hd:decide (((s.length:Nat):Int)<2)=false:=by simp;omega
 simp only[hd,cond_false];apply Ret.eq;rw[zm];refine Ret.mono (zG (λq:Int=>∃j:Nat,q=(j:Int)/\1<=j/\j<=s.length/\SW (s.take j)) (λq=>s.length-q.toNat) (R:=λt:Unit⊕TA=>match t with|.inl _=>srt s=s|.inr p=>p=srt s) ?_ ?_ ?_) ?_
 ·refine⟨1,rfl,pi _,by omega,?_⟩;match s,h2 with
  |[],h2=>simp at h2
  |x::l,_=>simp[SW]
 ·show s.length-_<_;omega
 ·rintro _ ⟨j,rfl,g1,g2,g3⟩;show Ret (xR s (j:Int)) _;unfold xR;rw[zy];refine⟨λhc=>?_,λhc=>?_⟩
  ·have hj:j<s.length:=by simpa using hc
   have e1:s[j]?=some s[j]:=pe hj;have e2:s[j-1]?=some s[j-1]:=pe (by omega);rw[zC (x:=(j:Int)-1) (by omega) (by omega),show(j:Int)-1=((j-1:Nat):Int) by omega,zr e1,zr e2];simp only[oB];rw[z8h _ _ (hw _ (pD hj))];simp only[oB];by_cases he:s[j]=s[j-1]
   ·simp only[he,decide_true,cond_true];rw[gdT (by omega)];refine(z6L hq hl hw g1 hj (by rw[e1,e2,he]) g3).mono ?_;rintro _ rfl;rfl
   simp only[he,decide_false,cond_false];unfold xS;rw[zC (by omega) (by omega),z7];refine⟨⟨j+1,rfl,by omega,hj,?_⟩,by simp only[ph];omega⟩;have:s.take (j+1)=s.take j++[s[j]]:=by rw[pU,e1];rfl
   rw[this];refine za7 g3 λy hy=>?_;obtain⟨i,h3,h4⟩:=YK.1 hy;have hlast:uP s[j-1] s[j]<0:=by
    rcases ze6 hq e2 e1 (by omega) with q|q
    ·exact q
    exact absurd q.symm he
   rcases ze6 hq h4 e2 (by omega) with q|q
   ·exact vO q hlast
   rw[q];exact hlast
  have hj:j=s.length:=by
   have:¬j<s.length:=by simpa using hc
   omega
  rw[z7];show srt s=s;rw[hj,gM]at g3;exact K8 g3
 rintro(u|p) h
 ·show Ret (some s) _;rw[z7];exact h.symm
 show Ret (some p) _;rw[z7];exact h
end
def z5J (l:TA):SOk uP l :=
 ⟨λx _=>QP x,λx _ y _ z _ h1 h2=>vO h1 h2,λx _ y _ h1 h2=>by
  rcases z51.1 h1 with q|q
  ·exact absurd q h2
  exact q⟩
def zdB {l m:TA}(h:l.Perm m):srt l=srt m:=K9 λx=>h.mem_iff
def z2f {c d:TB->TB->Int}:∀{l:TA},(∀x∈l,∀y∈l,c x y=d x y)->JL c l=JL d l
 |[],_=>rfl
 |x::l,h=>by
  have ih:=z2f (c:=c) (d:=d) (l:=l) λa ha b hb=>h a (by simp[ha]) b (by simp[hb]);show z9S c x (JL c l)=z9S d x (JL d l);rw[ih];have gen:∀m:TA,(∀y∈m,y∈l)->z9S c x m=z9S d x m:=by
   intro m;induction m with
   |nil=>intro _;rfl
   |cons y m ih2=>intro hm;simp only[z9S];rw[h y (by simp[hm y (by simp)]) x (by simp),ih2 λz hz=>hm z (by simp[hz])]
  exact gen _ λy hy=>(ZC d l).mem_iff.1 hy
def soR (l:TA):TA×Int:=if 4096<(srt l).length\/65536<jR (srt l) then([],3) else(srt l,0)
def Kc (hl:l.length<=100000)(hw:∀w∈l,w.length<=4294967296):xA l=some (soR l):=by
 unfold xA xT;rw[gdT (by simp;omega)];simp only[oB];have hc:∀x∈l,∀y,yG x y=some (uP x y):=λx hx y=>Ve x y (by have:=hw x hx;omega);have hso:zah (λx y=>yG x y) l=some (JL uP l):=by
  unfold zah;rw[gdT ⟨by omega,λx hx y hy=>by simp only[hc x hx y];rfl⟩];have hcc:∀x∈l,∀y∈l,(yG x y).getD 0=uP x y:=λx hx y _=>by rw[hc x hx y];rfl
  rw[gdT,z2f (c:=λx y=>(yG x y).getD 0) (d:=uP) hcc];have q:=z5J l;refine⟨λx hx=>by show ¬(yG x x).getD 0<0;rw[hcc x hx x hx];exact q.1 x hx,λx hx y hy z hz h1 h2=>?_,λx hx y hy h1 h2=>?_⟩
  ·simp only[hcc x hx y hy,hcc y hy z hz,hcc x hx z hz]at h1 h2⊢;exact q.2.1 x hx y hy z hz h1 h2
  simp only[hcc x hx y hy,hcc y hy x hx]at h1 h2;exact q.2.2 x hx y hy h1 h2
 rw[hso];simp only[oB];have hp:=ZC uP l;have hq:QW (JL uP l):=Qm (z5J l) (λy hy=>hy);rw[z9J hq (by rw[hp.length_eq];omega) (λw h=>by have:=hw w (hp.mem_iff.1 h);omega)];simp only[oB];unfold wk;simp only[oB];rw[zdB hp];have hlen:(srt l).length<=100000:=pm (Wn l) hl;have hws:∀w∈srt l,w.length<=4294967296:=λw h=>hw w (zS.1 h);unfold soR;generalize srt l=r at hlen hws;have hsy:jR r<=100000*4294967296:=pm (z4n hws) (hU _ hlen);by_cases h1:4096<r.length
 ·have:(4096:Int)<(r.length:Int):=by omega
  simp[h1,this]
 have d1:decide (((r.length:Nat):Int)>4096)=false:=by simp;omega
 simp only[d1,cond_false];rw[z88 r (by omega),zfx (by omega)];simp only[oB];by_cases h2:65536<jR r
 ·have:(65536:Int)<(jR r:Int):=by omega
  simp[h2,this]
 have d2:decide (((jR r:Nat):Int)>65536)=false:=by simp;omega
 simp only[d2,cond_false];rw[if_neg (by omega)];have hloop:=xh (step:=λs=>wB r s.1 s.2) (λi=>((r.take i).map (λq=>(q,true))++(r.drop i).map (λq=>(q,false)),(i:Int))) r.length (t:=r.map λq=>(q,true)) (by omega) (by
  intro i hi;have hA:((r.take i).map (λq=>(q,true))).length=i:=by rw[pY,pN];omega
  have hd:r.drop i=r[i]::r.drop (i+1):=mc hi;have hx:((r.take i).map (λq=>(q,true))++(r.drop i).map (λq=>(q,false)))[i]?=some (r[i],false):=by rw[po (by omega),hA,hd];simp
  show wB r _ (i:Int)=_;unfold wB;have hq:decide ((i:Int)<((r.length-(0:Int).toNat:Nat):Int))=true:=by simpa using hi
  simp only[hq,cond_true];rw[gdT (by omega),Int.zero_add,zr hx];simp only[oB];rw[z91 _ (hws _ (pD hi))];simp only[oB,z0f,ph];rw[zC (by omega) (by omega)];congr 3;rw[rI _ _ (by omega),hA,hd,pU,pe hi];simp only[nH,gE,nE,gV,Option.toList_some,nB,pG,gL,pL]) (by
  show wB r _ (r.length:Int)=_;unfold wB;simp)
 have h0:((r.take 0).map (λq=>(q,true))++(r.drop 0).map (λq=>(q,false)),((0:Nat):Int))=(r.map (λq=>(q,false)),(0:Int)):=by simp
 rw[h0]at hloop;rw[hloop];simp only[oB];unfold X8;rw[gdT (by intro q hq;obtain⟨_,_,rfl⟩:=pQ.1 hq;rfl)];simp[ma,Function.comp_def]
def KB (a:Nat)(w:TB):TA:=(List.range a).map λs:Nat=>w++[(s:Int)]
def exW (a:Nat):Nat->TA
 |0=>[[]]
 |k+1=>(exW a k).flatMap (KB a)
def zeS (a:Nat)(w:TB):(KB a w).length=a:=by simp[KB]
def z4U (a:Nat)(l:TA):(l.flatMap (KB a)).length=l.length*a:=by
 induction l with
 |nil=>simp
 |cons w l ih=>rw[nJ,pF,ih,zeS,gt,rm];omega
def XI (a:Nat):∀k,(exW a k).length=a^k
 |0=>rfl
 |k+1=>by rw[exW,z4U,XI,rY]
def jJ (a:Nat):∀k,∀w∈exW a k,w.length=k
 |0,w,h=>by simp[exW]at h;subst h;rfl
 |k+1,w,h=>by rw[exW,gP]at h;obtain⟨v,h1,h2⟩:=h;simp only[KB,pQ]at h2;obtain⟨s,_,rfl⟩:=h2;simp[jJ a k v h1]
def zkV {a:Nat}(ha:a<=16){w:TB}(hw:w.length<=1000){nx:TA}(hn:nx.length<=10000000) :
  loop (λs=>uR (a:Int) w s.1 s.2) (nx,0)=some (nx++KB a w):=by
 have h:=xh (step:=λs=>uR (a:Int) w s.1 s.2) (λi=>(nx++(List.range i).map (λs:Nat=>w++[(s:Int)]),(i:Int))) a (t:=nx++KB a w) (by omega) (by
  intro i hi;show uR (a:Int) w _ (i:Int)=_;unfold uR;have hq:decide ((i:Int)<(a:Int))=true:=by simpa using hi
  simp only[hq,cond_true,z0f,oB];rw[gdT (by simp;omega),gdT (by simp;omega),zC (by omega) (by omega),nR,gV,pG];rfl) (by
  show uR (a:Int) w _ (a:Int)=_;unfold uR;simp[KB])
 have h0:((nx++(List.range 0).map (λs:Nat=>w++[(s:Int)])),((0:Nat):Int))=(nx,(0:Int)):=by simp
 rw[h0]at h;exact h
def zkq {a:Nat}(ha:a<=16)  (hw:∀w∈l,w.length<=1000)(hl:l.length<=100000) :
  loop (λs=>uS (a:Int) l s.1 s.2) (([]:TA),0)=some (l.flatMap (KB a)):=by
 have h:=xh (step:=λs=>uS (a:Int) l s.1 s.2) (λi=>((l.take i).flatMap (KB a),(i:Int))) l.length (t:=l.flatMap (KB a)) (by omega) (by
  intro i hi;show uS (a:Int) l _ (i:Int)=_;unfold uS;have hq:decide ((i:Int)<(l.length:Int))=true:=by simpa using hi
  have hx:l[i]?=some l[i]:=pe hi;have hlen:((l.take i).flatMap (KB a)).length<=10000000:=by rw[z4U,pN];have:min i l.length*a<=100000*16:=mC (by omega) ha;omega
  simp only[hq,cond_true,zr hx,oB];rw[bdT (zkV ha (hw _ (pD hi)) hlen)];unfold UM;rw[zC (by omega) (by omega),pU,hx,List.flatMap_append];simp) (by
  show uS (a:Int) l _ (l.length:Int)=_;unfold uS;simp)
 simpa using h
def ww (a f:Nat):Nat->TA
 |0=>[]
 |k+1=>if f<=k then ww a f k++exW a k else ww a f k
def syW (a f:Nat):Nat->Nat
 |0=>0
 |k+1=>if f<=k then syW a f k+k*a^k else syW a f k
def XQ (a f t k:Nat):Prop:=4096<(ww a f (k+1)).length\/65536<syW a f (k+1)\/k<t/\4096<a^k*a
instance (a f t k:Nat):Decidable (XQ a f t k):=by unfold XQ;infer_instance
def zcm {a f t k:Nat}(ha:1<=a/\a<=16)(hf:f<=256)(ht:t<=256)(hk:k<=t)(ho:(ww a f k).length<=4096)(hs:syW a f k<=65536)(hl:a^k<=4096) :
  jQ (a:Int) (f:Int) (t:Int) (ww a f k) (exW a k) (syW a f k:Int) (k:Int)=if XQ a f t k then some (.done ([],3)) else if k=t then Option.bind (xA (ww a f (k+1))) (λr=>some (.done (r.1,r.2))) else some (.next (ww a f (k+1),exW a (k+1),(syW a f (k+1):Int),((k+1:Nat):Int))):=by
 have hmul:k*a^k<=256*4096:=mC (by omega) hl;have hma:a^k*a<=4096*16:=mC hl ha.2;have e:jQ (a:Int) (f:Int) (t:Int) (ww a f k) (exW a k) (syW a f k:Int) (k:Int)=Y0 (a:Int) (t:Int) (exW a k) (k:Int) (ww a f (k+1)) (syW a f (k+1):Int):=by
  unfold jQ;by_cases h:f<=k
  ·have hd:decide ((k:Int)>=(f:Int))=true:=by simpa using h
   simp only[hd,cond_true];have hm:w64 ((k:Int)*((exW a k).length:Int))=((k*a^k:Nat):Int):=by rw[XI,<-mR,zC (by omega) (by omega)]
   rw[gdT (by rw[XI];omega),hm,zC (by omega) (by omega)];simp only[ww,syW,if_pos h];congr 1
  have hd:decide ((k:Int)>=(f:Int))=false:=by simp;omega
  simp only[hd,cond_false,ww,syW,if_neg h]
 rw[e];unfold Y0;by_cases h1:4096<(ww a f (k+1)).length
 ·have:decide (((ww a f (k+1)).length:Int) > 4096)=true:=by simp only[decide_eq_true_eq];omega
  simp only[this,cond_true];rw[if_pos (show XQ a f t k from .inl h1)]
 have d1:decide (((ww a f (k+1)).length:Int)>4096)=false:=by simp;omega
 simp only[d1,cond_false];by_cases h2:65536<syW a f (k+1)
 ·have:decide ((syW a f (k+1):Int) > 65536)=true:=by simp only[decide_eq_true_eq];omega
  simp only[this,cond_true];rw[if_pos (show XQ a f t k from .inr (.inl h2))]
 have d2:decide ((syW a f (k+1):Int)>65536)=false:=by simp;omega
 simp only[d2,cond_false];have hm:w64 (((exW a k).length:Int)*(a:Int))=((a^k*a:Nat):Int):=by rw[XI,<-mR,zC (by omega) (by omega)]
 rw[hm];have J4:∀(hns:¬(k<t/\4096<a^k*a)) (b:Bool),ZZ (a:Int) (t:Int) (exW a k) (k:Int) (ww a f (k+1)) (syW a f (k+1):Int) b=if k=t then Option.bind (xA (ww a f (k+1))) (λr=>some (.done (r.1,r.2))) else some (.next (ww a f (k+1),exW a (k+1),(syW a f (k+1):Int),((k+1:Nat):Int))):=by
  intro hns b;unfold ZZ;by_cases hkt:k=t
  ·subst hkt;simp
  have hd:((k:Int)==(t:Int))=false:=by simp;omega
  simp only[hd,cond_false,if_neg hkt];rw[bdT (zkq ha.2 (λw hw=>by rw[jJ a k w hw];omega) (by rw[XI];omega))];unfold UN UO;rw[zC (by omega) (by omega)];rfl
 by_cases hkt:k<t
 ·have hd:decide ((k:Int)<(t:Int))=true:=by simpa using hkt
  simp only[hd,cond_true];by_cases h3:4096<a^k*a
  ·have:decide (((a ^ k*a:Nat):Int) > 4096)=true:=by simp only[decide_eq_true_eq];omega
   simp only[this,cond_true];rw[if_pos (show XQ a f t k from .inr (.inr ⟨hkt,h3⟩))]
  have:decide (((a^k*a:Nat):Int)>4096)=false:=by simp only[decide_eq_false_iff_not];omega
  simp only[this,cond_false];rw[J4 (by omega),if_neg (show ¬XQ a f t k by unfold XQ;omega)]
 have hd:decide ((k:Int)<(t:Int))=false:=by simp;omega
 simp only[hd,cond_false];rw[J4 (by omega),if_neg (show ¬XQ a f t k by unfold XQ;omega)]
def z4L {a f t k:Nat}(ha:1<=a)(hs:¬XQ a f t k)(hk:k<t):(ww a f (k+1)).length<=4096/\syW a f (k+1)<=65536/\a^(k+1)<=4096:=by unfold XQ at hs;rw[rY];omega
variable {r:Option (TA×Int)}
def zco {a f t:Nat}(ha:1<=a/\a<=16)(hf:f<=256)(ht:t<=256){r:Option (TA×Int)}
  (hr:(∃j,j<=t/\XQ a f t j)->r=some ([],3)) (hr2:(∀j,j<=t->¬XQ a f t j)->r=Option.bind (xA (ww a f (t+1))) λr=>some (r.1,r.2)) :
  ∀(m k:Nat),k<=t->t-k<m->(∀j,j<k->¬XQ a f t j)->(ww a f k).length<=4096->syW a f k<=65536->a^k<=4096->Kv (λs=>jQ (a:Int) (f:Int) (t:Int) s.1 s.2.1 s.2.2.1 s.2.2.2) m (ww a f k,exW a k,(syW a f k:Int),(k:Int))=r
 |0,k,_,h,_,_,_,_=>by omega
 |m+1,k,hk,hm,hns,h1,h2,h3=>by
  rw[YZ];dsimp only
  rw[zcm ha hf ht hk h1 h2 h3];by_cases hst:XQ a f t k
  ·rw[if_pos hst,hr ⟨k,hk,hst⟩]
  rw[if_neg hst];by_cases hkt:k=t
  ·subst hkt;rw[if_pos rfl,hr2 λj hj=>by
    rcases pC j k with q|q
    ·exact hns j q
    rw[show j=k by omega];exact hst]
   cases xA (ww a f (k+1))<;>rfl
  rw[if_neg hkt];obtain⟨q1,q2,q3⟩:=z4L ha.1 hst (by omega);exact zco ha hf ht hr hr2 m (k+1) (by omega) (by omega) (λj hj=>by
   rcases pC j k with q|q
   ·exact hns j q
   rw[show j=k by omega];exact hst) q1 q2 q3
def zlb {a f t:Nat}(ha:1<=a/\a<=16)(hf:f<=256)(ht:t<=256){r:Option (TA×Int)}
  (hr:(∃j,j<=t/\XQ a f t j)->r=some ([],3)) (hr2:(∀j,j<=t->¬XQ a f t j)->r=Option.bind (xA (ww a f (t+1))) λr=>some (r.1,r.2)) :
  WR (a:Int) (f:Int) (t:Int)=r:=by
 unfold WR;have d1:decide ((a:Int)>16)=false:=by simp;omega
 have d2:decide ((a:Int)<1)=false:=by simp;omega
 have d3:decide ((t:Int)<0)=false:=by simp
 have d4:decide ((t:Int)>256)=false:=by simp;omega
 simp only[d1,d2,d3,d4,cond_false];have h:=zco ha hf ht hr hr2 Um 0 (pM _) (by show t-0<18446744073709551616;omega) (λj hj=>by omega) (by simp[ww]) (by simp[syW]) (by simp);have h':loop (λs=>jQ (a:Int) (f:Int) (t:Int) s.1 s.2.1 s.2.2.1 s.2.2.2) (([]:TA),([[]]:TA),0,0)=r:=h;rw[h'];cases r<;>rfl
end Go.Own
end
