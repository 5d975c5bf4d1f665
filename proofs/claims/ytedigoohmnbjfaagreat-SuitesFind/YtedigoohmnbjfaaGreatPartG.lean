/- Walks, further. -/
import Derived.Test.YtedigoohmnbjfaaGreatPartF
import Derived.Test.YtedigoohmnbjfaaGreatPartC
import Derived.Test.YtedigoohmnbjfaaGreatPartE
noncomputable section
set_option linter.unusedVariables false
set_option linter.defProp false
set_option linter.unusedSimpArgs false
namespace Go.Own
open Go.Proofs.Tryz
def oB {α:Type _}{β:Type _}(a:α)(f:α->Option β):Option.bind (some a) f=f a:=rfl
open Go.Proofs
set_option maxRecDepth 100000
set_option maxHeartbeats 8000000
def zk0:List yi:=z18 222 zl5 F8_ F8_ ua xe::l99
def QM [H:HS X0 l99]:OkH zk0:=yS3 true func222 λx_ u_ v_ r0 aa E hE=>by obtain⟨r_,h0,ai,h1,pk,h2,aa⟩:=Zc aa;cases aa;exact yE hE [zC3 0 h0,zC3 0 h1,Hi ua h2]
def Ui [H:HS X0 zk0](bz:Value):∀(x0:VE) (x_:zD) (b_:zb) (r0:zb×Bool),wq x0 x_ b_=some r0->z7e prog 220 [.agg [],.sptr (.agg [.agg [I x_.m_.Inputs,I x_.m_.Outputs,eSl 1 false yO x_.m_.Rows],eSl 1 false F8_ x_.q_,eSl 1 false F8_ x_.p_,eSl 1 false F8_ x_.all_,eSl 1 false ua x_.each_,eSl 1 false F8_ x_.short_,eSl 1 false F8_ x_.exact_]),.atom bz] ([bz].zip [.box (.agg [eOs 16 false F2_ b_.nodes_,I b_.leaves_,I b_.most_])]) r0.2 (.iface 124 (.agg #[])) (.tup []) [.box (.agg [eOs 16 false F2_ r0.1.nodes_,I r0.1.leaves_,I r0.1.most_])]:=by
 intro x0 x_ b_ r0 aa;refine z4m (tt:=vF) (nt:=f220.ntmps) (body:=zbd f220) [2] zr func220 rfl (by kernel_rfl) rfl rfl (by show(3:Nat)<=106;decide) (by decide) rfl rfl rfl (λE hE hD=>?_);refine yNs 11 [] [1,2] (λz:List (zy Int)×Int×Int=>uq x_ b_ z.1 z.2.1 z.2.2=some r0) (λz=>[(2,.own (.box (.agg [eOs 16 false F2_ z.1,I z.2.1,I z.2.2])))]) [Hh (.cut 1)] ?_ λJ1 ar=>?_
 ·rintro⟨br,cp,fm⟩ aa;obtain⟨r_,h0,t2,ht2,aa⟩:=yj aa;refine yM 111110 [] [1,2,73,74,75] (λx=>[(2,.own (.box (.agg [eOs 16 false F2_ x.1,I x.2.1,I x.2.2.1]))),(75,.d (I x.2.2.2))]) ht2  [zC3 4 h0,Ha (lnM F4_ r_.1)] λ⟨bh,cj,fh,jg⟩ m2 av ae hl1 J2 au=>?_;obtain c0|c0:=zF ae
  ·refine yNs 111110011 [J2] [1,2,73,74,75] (λz:List (zy Int)×Int×Int=>Zk jg z.1 z.2.1 z.2.2=some av) (λz=>[(2,.own (.box (.agg [eOs 16 false F2_ z.1,I z.2.1,I z.2.2])))]) [c0,Hh (.cut 0)] ?_ λJ3 bg=>?_
   ·rintro⟨bm,ce,d0⟩ ae;cases ae;exact yB au _ hl1 []
   obtain⟨u_,h1,t4,ht4,ae⟩:=yj c0.2;refine yM (H:=zx ((xLs zr 78 (eSl 1 true sy u_) (eSl 1 false sy u_) inferInstance).or X0)) 11111001120110 [J2,J3] [1,2,15,73,74,75,82,83,84] (λx=>[(2,.own (.box (.agg [eOs 16 false F2_ x.1,I x.2.1,I x.2.2.1]))),(84,.d (I x.2.2.2))]) ht4  [Hi F4_ h1,Hn (rfl:T.d (eSl 1 true sy u_)=T.d (eSl 1 true sy u_)),Ha (lnM F8_ x_.exact_)] λ⟨aq,bc,fj,j7⟩ m4 dj ah hl2 J4 db=>?_;obtain c1|c1:=zF ah
   ·refine yNs 11111001120110011 [J2,J3,J4] [1,2,15,73,74,75,82,83,84] (λz:List (zy Int)×Int×Int=>Zj j7 z.1 z.2.1 z.2.2=some dj) (λz=>[(2,.own (.box (.agg [eOs 16 false F2_ z.1,I z.2.1,I z.2.2])))]) [c1,Hh (.cut 0)] ?_ λJ5 dc=>?_
    ·rintro⟨ct,cg,dz⟩ ah;cases ah;exact yB db _ hl2 []
    obtain⟨ez,h2,ai,h3,t6,kb,ah⟩:=Zc c1.2;refine yM 1111100112011001120110 [J2,J3,J4,J5] [1,2,15,17,73,74,75,82,83,84,91,92,93] (λx=>[(2,.own (.box (.agg [eOs 16 false F2_ x.1,I x.2.1,I x.2.2.1]))),(93,.d (I x.2.2.2))]) kb  [Hi F8_ h2,zC3 0 h3,Ha (lnM F8_ ai)] λ⟨ju,eg,km,m0⟩ m6 nb aw hl3 J6 ep=>?_;obtain c2|c2:=zF aw
    ·obtain⟨dm,h4,aw⟩:=zt c2.2;refine yC 1111100112011001120110011001 [J2,J3,J4,J5,J6] [1,2,15,17,19,73,74,75,82,83,84,91,92,93] [c2,Hi F8_ h4,Hh (.stp 0)] ?_;obtain⟨ak,h5,aw⟩:=zt aw;obtain c3|c3:=zF aw
     ·cases c3.2;cases hl3;cases ah;cases hl2;cases ae;cases hl1;cases aa;exact yD 5 [2] ((xz (H:=zd 10) bz _ _ _ h5).2 c3.1) [.atom bz,z6j [u_,ez,dm]] inferInstance [Hm (shM F8_ F8_ ([u_,ez,dm]))] λst0=>hD rfl st0
     cases c3.2;exact yB (H:=zx ((Za (P:=prog) vF [2] ((xz (H:=zd 10) bz _ _ _ h5).1 c3.1) 102).or X0)) ep _ hl3 [Hm (shM F8_ F8_ ([u_,ez,dm])),Hn (W6 (f:=.fn 219 []) (xs:=[.atom bz,ua [u_,ez,dm]]) (ls:=[(bz,.box (.agg [eOs 16 false F2_ ju,I eg,I km]))]) (r:=.tup []) (ys:=[.box (.agg [eOs 16 false F2_ ak.1.nodes_,I ak.1.leaves_,I ak.1.most_])]) [.atom bz,z6j [u_,ez,dm]] (show Ji [.atom bz,z6j [u_,ez,dm]] [.atom bz,ua [u_,ez,dm]] from inferInstance))]
    cases c2.2;cases hl3;exact yB dc (ju,eg,km) ah [c2]
   cases c1.2;cases hl2;exact yB bg (aq,bc,fj) ae [c1]
  cases c0.2;cases hl1;cases aa;exact yF .normal [(2,.own (.box (.agg [eOs 16 false F2_ bh,I cj,I fh])))] [c0] λst0 h0=>hE rfl _ st0 (.inl rfl) (Xo h0 ⟨⟨rfl,rfl⟩,trivial⟩)
 refine yMb 11210 [J1] [1,2,23,24,25] (λx=>[(2,.own (.box (.agg [eOs 16 false F2_ x.1,I x.2.1,I x.2.2.1]))),(25,.d (I x.2.2.2))]) aa  [Ha (lnM F8_ x_.q_)] λt7 aa ⟨jx,jb,ko,jh⟩ m7 av ae hl1 J7 gw=>?_;obtain c4|c4:=zF ae
 ·refine yNs 11210011 [J1,J7] [1,2,23,24,25] (λz:List (zy Int)×Int×Int=>Zi jh z.1 z.2.1 z.2.2=some av) (λz=>[(2,.own (.box (.agg [eOs 16 false F2_ z.1,I z.2.1,I z.2.2])))]) [c4,Hh (.cut 0)] ?_ λJ8 lq=>?_
  ·rintro⟨lz,lk,ml⟩ ae;cases ae;exact yB gw _ hl1 []
  obtain⟨gq,h6,t9,ht9,ae⟩:=yj c4.2;refine yM 1121001120110 [J1,J7,J8] [1,2,7,23,24,25,32,33,34] (λx=>[(2,.own (.box (.agg [eOs 16 false F2_ x.1,I x.2.1,I x.2.2.1]))),(34,.d (I x.2.2.2))]) ht9  [Hi F8_ h6,Ha (lnM F8_ x_.short_)] λ⟨jw,ja,kn,fw⟩ m9 dj ah hl2 J9 qe=>?_;obtain c5|c5:=zF ah
  ·refine yNs 1121001120110011 [J1,J7,J8,J9] [1,2,7,23,24,25,32,33,34] (λz:List (zy Int)×Int×Int=>jW fw z.1 z.2.1 z.2.2=some dj) (λz=>[(2,.own (.box (.agg [eOs 16 false F2_ z.1,I z.2.1,I z.2.2])))]) [c5,Hh (.cut 0)] ?_ λJ10 hJ10=>?_
   ·rintro⟨l4,ll,mp⟩ ah;cases ah;exact yB qe _ hl2 []
   obtain⟨a6,h7,sc,ht11,ah⟩:=yj c5.2;refine yM 112100112011001120110 [J1,J7,J8,J9,J10] [1,2,7,9,23,24,25,32,33,34,41,42,43] (λx=>[(2,.own (.box (.agg [eOs 16 false F2_ x.1,I x.2.1,I x.2.2.1]))),(43,.d (I x.2.2.2))]) ht11  [Hi F8_ h7,Ha (lnM F8_ x_.all_)] λ⟨i8,ix,jv,my⟩ su nb aw hl3 se pw=>?_;obtain c6|c6:=zF aw
   ·obtain⟨fy,h8,aw⟩:=zt c6.2;refine yC 112100112011001120110011001 [J1,J7,J8,J9,J10,se] [1,2,7,9,11,23,24,25,32,33,34,41,42,43] [c6,Hi F8_ h8,Hh (.stp 0)] ?_;obtain⟨am,h9,aw⟩:=zt aw;obtain c7|c7:=zF aw
    ·cases c7.2;cases hl3;cases ah;cases hl2;cases ae;cases hl1;cases aa;exact yD 5 [2] ((xz (H:=zd 10) bz _ _ _ h9).2 c7.1) [.atom bz,z6j [gq,a6,fy]] inferInstance [Hm (shM F8_ F8_ ([gq,a6,fy]))] λst0=>hD rfl st0
    cases c7.2;exact yB (H:=zx ((Za (P:=prog) vF [2] ((xz (H:=zd 10) bz _ _ _ h9).1 c7.1) 52).or X0)) pw _ hl3 [Hm (shM F8_ F8_ ([gq,a6,fy])),Hn (W6 (f:=.fn 219 []) (xs:=[.atom bz,ua [gq,a6,fy]]) (ls:=[(bz,.box (.agg [eOs 16 false F2_ i8,I ix,I jv]))]) (r:=.tup []) (ys:=[.box (.agg [eOs 16 false F2_ am.1.nodes_,I am.1.leaves_,I am.1.most_])]) [.atom bz,z6j [gq,a6,fy]] (show Ji [.atom bz,z6j [gq,a6,fy]] [.atom bz,ua [gq,a6,fy]] from inferInstance))]
   cases c6.2;cases hl3;exact yB hJ10 (i8,ix,jv) ah [c6]
  cases c5.2;cases hl2;exact yB lq (jw,ja,kn) ae [c5]
 cases c4.2;cases hl1;exact yB ar (jx,jb,ko) aa [c4]
def VF [H:HS X0 zk0](bz:Value):∀(x0:WG) (x_:zD) (b_:zb) (r0:zb×Bool),xX x0 x_ b_=some r0->z7e prog 229 [.agg [],.sptr (.agg [.agg [I x_.m_.Inputs,I x_.m_.Outputs,eSl 1 false yO x_.m_.Rows],eSl 1 false F8_ x_.q_,eSl 1 false F8_ x_.p_,eSl 1 false F8_ x_.all_,eSl 1 false ua x_.each_,eSl 1 false F8_ x_.short_,eSl 1 false F8_ x_.exact_]),.atom bz] ([bz].zip [.box (.agg [eOs 16 false F2_ b_.nodes_,I b_.leaves_,I b_.most_])]) r0.2 (.iface 124 (.agg #[])) (.tup []) [.box (.agg [eOs 16 false F2_ r0.1.nodes_,I r0.1.leaves_,I r0.1.most_])]:=by
 intro x0 x_ b_ r0 aa;refine z4m (tt:=vF) (nt:=f229.ntmps) (body:=zbd f229) [2] zr func229 rfl (by kernel_rfl) rfl rfl (by show(3:Nat)<=48;decide) (by decide) rfl rfl rfl (λE hE hD=>?_);refine yMb 1110 [] [1,2,15,16,17] (λx=>[(2,.own (.box (.agg [eOs 16 false F2_ x.1,I x.2.1,I x.2.2.1]))),(17,.d (I x.2.2.2))]) aa  [Ha (lnM F8_ x_.p_)] λt1 aa ⟨br,cp,fm,ba⟩ m1 av ae hl1 J1 ar=>?_;obtain c0|c0:=zF ae
 ·refine yNs 1110011 [J1] [1,2,15,16,17] (λz:List (zy Int)×Int×Int=>k7 ba z.1 z.2.1 z.2.2=some av) (λz=>[(2,.own (.box (.agg [eOs 16 false F2_ z.1,I z.2.1,I z.2.2])))]) [c0,Hh (.cut 0)] ?_ λJ2 au=>?_
  ·rintro⟨bh,cj,fh⟩ ae;cases ae;exact yB ar _ hl1 []
  obtain⟨bj,h0,t3,ht3,ae⟩:=yj c0.2;refine yM 111001120110 [J1,J2] [1,2,7,15,16,17,24,25,26] (λx=>[(2,.own (.box (.agg [eOs 16 false F2_ x.1,I x.2.1,I x.2.2.1]))),(26,.d (I x.2.2.2))]) ht3  [Hi F8_ h0,Ha (lnM F8_ x_.short_)] λ⟨bm,ce,d0,gk⟩ m3 dj ah hl2 J3 bg=>?_;obtain c1|c1:=zF ah
  ·refine yNs 111001120110011 [J1,J2,J3] [1,2,7,15,16,17,24,25,26] (λz:List (zy Int)×Int×Int=>jZ gk z.1 z.2.1 z.2.2=some dj) (λz=>[(2,.own (.box (.agg [eOs 16 false F2_ z.1,I z.2.1,I z.2.2])))]) [c1,Hh (.cut 0)] ?_ λJ4 db=>?_
   ·rintro⟨aq,bc,fj⟩ ah;cases ah;exact yB bg _ hl2 []
   obtain⟨a6,h1,r_,h2,t5,ht5,ah⟩:=Zc c1.2;refine yM 11100112011001120110 [J1,J2,J3,J4] [1,2,7,9,15,16,17,24,25,26,33,34,35] (λx=>[(2,.own (.box (.agg [eOs 16 false F2_ x.1,I x.2.1,I x.2.2.1]))),(35,.d (I x.2.2.2))]) ht5  [Hi F8_ h1,zC3 0 h2,Ha (lnM F8_ r_)] λ⟨ct,cg,dz,ib⟩ m5 nb aw hl3 J5 dc=>?_;obtain c2|c2:=zF aw
   ·obtain⟨dm,h3,aw⟩:=zt c2.2;refine yC 11100112011001120110011001 [J1,J2,J3,J4,J5] [1,2,7,9,11,15,16,17,24,25,26,33,34,35] [c2,Hi F8_ h3,Hh (.stp 0)] ?_;obtain⟨ai,h4,aw⟩:=zt aw;obtain c3|c3:=zF aw
    ·cases c3.2;cases hl3;cases ah;cases hl2;cases ae;cases hl1;cases aa;exact yD 5 [2] ((xz (H:=zd 10) bz _ _ _ h4).2 c3.1) [.atom bz,z6j [bj,a6,dm]] inferInstance [Hm (shM F8_ F8_ ([bj,a6,dm]))] λst0=>hD rfl st0
    cases c3.2;exact yB (H:=zx ((Za (P:=prog) vF [2] ((xz (H:=zd 10) bz _ _ _ h4).1 c3.1) 44).or X0)) dc _ hl3 [Hm (shM F8_ F8_ ([bj,a6,dm])),Hn (W6 (f:=.fn 219 []) (xs:=[.atom bz,ua [bj,a6,dm]]) (ls:=[(bz,.box (.agg [eOs 16 false F2_ ct,I cg,I dz]))]) (r:=.tup []) (ys:=[.box (.agg [eOs 16 false F2_ ai.1.nodes_,I ai.1.leaves_,I ai.1.most_])]) [.atom bz,z6j [bj,a6,dm]] (show Ji [.atom bz,z6j [bj,a6,dm]] [.atom bz,ua [bj,a6,dm]] from inferInstance))]
   cases c2.2;cases hl3;exact yB db (ct,cg,dz) ah [c2]
  cases c1.2;cases hl2;exact yB au (bm,ce,d0) ae [c1]
 cases c0.2;cases hl1;cases aa;exact yF .normal [(2,.own (.box (.agg [eOs 16 false F2_ br,I cp,I fm])))] [c0] λst0 h0=>hE rfl _ st0 (.inl rfl) (Xo h0 ⟨⟨rfl,rfl⟩,trivial⟩)
def zkT:List yi:=z18 37 zl5 (eIf 77) sy (eT2 (ePo WH) eB) vL::zk0
def z0L [H:HS X0 zk0]:OkH zkT:=by
 have hE:∀b:zb,(A.agg [eOs 16 false F2_ b.nodes_,eI .i64 b.leaves_,eI .i64 b.most_]).live=true/\(A.agg [eOs 16 false F2_ b.nodes_,eI .i64 b.leaves_,eI .i64 b.most_]).shut=yw zl8 sy sy b:=λb=>⟨z0a.live (f:=yw zo6 sy sy) b,z0a.sh (f:=yw zo6 sy sy) b⟩;refine Ut ?_;rintro⟨x,s,most⟩ r0 aa;obtain⟨r,hr,aa⟩:=zt aa;obtain rfl:=yH aa;have key:∀(T kf:Nat),(∀w,(method 392 T (.agg #[]) "gauntlet/suites.fill").run prog w=.ok (kf,.agg #[]) w)->(∀args w,(callFunc kf args).run prog w=.ok (.enter kf args) w) ->
   (∀bv,z7e prog kf [.agg [],zl5 x,.atom bv] [(bv,.box (.agg [.osl 16 false [.agg (List.replicate 16 (.atom (.int .i32 0)))],.atom (.int .i64 0),.atom (.int .i64 most)]))] r.2 (.iface 124 (.agg #[])) (.tup []) [.box (.agg [eOs 16 false F2_ r.1.nodes_,eI .i64 r.1.leaves_,eI .i64 r.1.most_])]) ->
   uD prog 37 [zl5 x,.atom (.iface T (.agg #[])),.atom (.int .i64 most)] (.tup [ePo WH (bif r.2 then none else some r.1),eB (!r.2)]):=by
  intro T kf h1 h2 h3;have q:=z6X h1 h2 rfl (hE r.1).1 (hE r.1).2 h3;refine q.le ?_;cases r.2
  ·exact(show LeV (.tup [.sptr (yw zl8 sy sy r.1),.atom (.bool true)]) (.tup [.dop (poQ (some (yw zl8 sy sy r.1))),.atom (.bool true)]) from inferInstance)
  exact(show LeV (.tup [.atom (.pointer none),.atom (.bool false)]) (.tup [.dop (poQ none),.atom (.bool false)]) from inferInstance)
 match s,hr with
 |0,hr=>exact key 77 218 Tryz.meth77 (λ_ _=>by kernel_rfl) λbv=>Qj (H:=zd 10) bv ⟨⟩ x _ r hr
 |1,hr=>exact key 78 220 Tryz.meth78 (λ_ _=>by kernel_rfl) λbv=>Ui (H:=zd 0) bv ⟨⟩ x _ r hr
 |2,hr=>exact key 79 229 Tryz.meth79 (λ_ _=>by kernel_rfl) λbv=>VF (H:=zd 0) bv ⟨⟩ x _ r hr
 |n+3,hr=>cases hr
def xp:yi:=spR (α:=TA) (ρ:=TA) 112 (λx=>[(eOs 1 false F4_) x]) (λr=>zl7 r) (λx=>xS x) [true] (znz)
def Xs:∀x r,(λx=>xS x) x=some r->(KG.add xp).run 112 ((KG.add xp).norm 112 ((λx=>[(eOs 1 false F4_) x]) x))=some ((λr=>zl7 r) r):=λx r h=>zm7 h rfl
def Xt:(KG.add xp).gives 112=[true]:=zh8
def XC [H:HS X0 zkT]:xp.Ok prog:=by refine z9p ?_;rintro s_ r0 aa;refine zY true func112 λE hE=>?_;cases aa;exact yE (H:=zx ((xCl zr 8).or X0)) hE [Ha (lnM F4_ s_),Ha (lnM F4_ s_),Hn (mT _:(0:Int)<=((s_.length:Nat):Int)),Hn (mT _:(0:Int)<=((s_.length:Nat):Int)),Hn (clB F4_ s_),Ha (clE 1 F4_ s_)]
def zm5:List yi:=XA 69 (eSp WH) zl7 wJ::zkT
abbrev VV (out:TA):List (Nat×T):=[(2,.own (eOs 1 false F4_ out))]
abbrev VU (b_:zb)(ax:TA)(next:List zh):List (Nat×T):=[(0,.d (.sptr (WH b_))),(2,.own (eOs 1 false F4_ ax)),(4,.own (eOs 2 false Ug next))]
abbrev VT (b_:zb)(ay:List zh)(ba:Int)(gx:TA)(ff:List zh):List (Nat×T):=[(0,.d (.sptr (WH b_))),(2,.own (eOs 1 false F4_ gx)),(3,.own (eOs 2 false Ug ay)),(4,.own (eOs 2 false Ug ff)),(15,.als 3 [] 0 0),(16,.d (I ((ay.length:Nat):Int))),(17,.d (I ba))]
abbrev VS (b_:zb)(ay:List zh)(bo:TA)(ba:Int)(a8:zh)(cb:List zh)(pu:Bool):List (Nat×T):=[(0,.d (.sptr (WH b_))),(2,.own (eOs 1 false F4_ bo)),(3,.own (eOs 2 false Ug ay)),(4,.own (eOs 2 false Ug cb)),(6,.own (.box (Ug a8))),(7,.d (B pu)),(15,.als 3 [] 0 0),(16,.d (I ((ay.length:Nat):Int))),(17,.d (I ba))]
abbrev VR (b_:zb)(ay:List zh)(bo:TA)(ba:Int)(a8:zh)(a7:zy Int)(fg:Int)(og:List zh)(oh:Bool):List (Nat×T):=[(0,.d (.sptr (WH b_))),(2,.own (eOs 1 false F4_ bo)),(3,.own (eOs 2 false Ug ay)),(4,.own (eOs 2 false Ug og)),(6,.own (.box (Ug a8))),(7,.d (B oh)),(15,.als 3 [] 0 0),(16,.d (I ((ay.length:Nat):Int))),(17,.d (I ba)),(28,.d (F2_ a7)),(29,.d (I fg))]
abbrev VO (b_:zb)(ay:List zh)(bo:TA)(ba:Int)(a8:zh)(a7:zy Int)(iq:List zh)(l9:Bool)(fg:Int):List (Nat×T):=[(0,.d (.sptr (WH b_))),(2,.own (eOs 1 false F4_ bo)),(3,.own (eOs 2 false Ug ay)),(4,.own (eOs 2 false Ug iq)),(6,.own (.box (Ug a8))),(7,.d (B l9)),(15,.als 3 [] 0 0),(16,.d (I ((ay.length:Nat):Int))),(17,.d (I ba)),(28,.d (F2_ a7)),(29,.d (I fg))]
abbrev VP (b_:zb)(ay:List zh)(bo:TA)(cr:List zh)(ba:Int):List (Nat×T):=[(0,.d (.sptr (WH b_))),(2,.own (eOs 1 false F4_ bo)),(3,.own (eOs 2 false Ug ay)),(4,.own (eOs 2 false Ug cr)),(15,.als 3 [] 0 0),(16,.d (I ((ay.length:Nat):Int))),(17,.d (I ba))]
abbrev VQ (b_:zb)(aj:TA)(ay:List zh):List (Nat×T):=[(0,.d (.sptr (WH b_))),(2,.own (eOs 1 false F4_ aj)),(3,.own (eOs 2 false Ug ay))]
def uB:XH prog:=((W0 zr (.inl 52) [51]).or ((W0 zr (.inl 43) [42]).or ((W0 zr (.inl 11) [10]).or X0)))
def Jm [H:HS uB zkT]:OkH zm5:=yS1 true func69 λb_ r0 aa E hE=>by
 refine yJ 111 [] [2] (λz:TA=>vP z=some r0) (λz=>VV z) [(0,.d (.sptr (WH b_))),(2,.own (eOs 1 true F8_ [])),(3,.own (eOs 2 true (yV (eI .i32) F4_) ([(zh.mk 0 [])])))] [Hm (shM sy sy []),Hh (.cut 0)] ?_ λJ1 ar=>?_
 ·rintro out aa;unfold vP at aa;obtain⟨r_,h0,aa⟩:=zt aa;obtain rfl:=yH aa;exact yE (H:=zx ((z3y zr (XC (H:=zd 0)) 57).or uB)) hE [Hh (.g [true]),Hn Xt,Hx (.a (zl7 r_)) (Xs out _ h0)]
 obtain⟨t2,ht2,aa⟩:=zt aa;refine yLx 11120 [J1] (λs=>vM b_ s.1 s.2) (λx=>VQ b_ x.1 x.2) (([]:TA),([(zh.mk 0 [])]:List zh)) ht2 [(0,.d (.sptr (WH b_))),(2,.own (eOs 1 true F4_ [])),(3,.own (eOs 2 true (yV (eI .i32) F4_) ([(zh.mk 0 [])])))] inferInstance [] λ⟨aj,ay⟩ m2 av ae hl1 J2 au=>?_;try unfold vM at ae
 let Z0:List HO:=[Ha (lnM Ug ay)];obtain c0|c0:=zF ae
 ·refine yJ 111200101 [J1,J2] [0,2,4] (λz:TA×List zh=>vO z.1 z.2=some av) (λz=>VU b_ z.1 z.2) [(0,.d (.sptr (WH b_))),(2,.own (eOs 1 false F4_ aj)),(3,.own (eOs 2 false Ug ay)),(4,.own (eOs 2 true Ug []))] (Z0++[c0,Hh (.cut 1)]) ?_ λJ3 bg=>?_
  ·rintro⟨ax,next⟩ ae;unfold vO at ae;obtain rfl:=yH ae;exact yB au _ hl1 []
  obtain⟨t4,ht4,ae⟩:=zt c0.2;refine yLx 111200101210 [J1,J2,J3] (λs=>yh b_ ay s.1 s.2.1 s.2.2) (λx=>VP b_ ay x.1 x.2.1 x.2.2) (aj,([]:List zh),0) ht4 [(0,.d (.sptr (WH b_))),(2,.own (eOs 1 false F4_ aj)),(3,.own (eOs 2 false Ug ay)),(4,.own (eOs 2 true Ug [])),(15,.als 3 [] 0 0),(16,.d (I ((ay.length:Nat):Int))),(17,.d (I 0))] inferInstance [Ha (lnM Ug ay)] λ⟨bo,cr,ba⟩ m4 dj ah hl2 J4 db=>?_;try unfold yh at ah;obtain c1|c1:=zF ah
  ·refine yJ 111200101210011 [J1,J2,J3,J4] [0,2,3,4,15,16,17] (λz:TA×List zh=>wu ba z.1 z.2=some dj) (λz=>VT b_ ay ba z.1 z.2) [(0,.d (.sptr (WH b_))),(2,.own (eOs 1 false F4_ bo)),(3,.own (eOs 2 false Ug ay)),(4,.own (eOs 2 false Ug cr)),(15,.als 3 [] 0 0),(16,.d (I ((ay.length:Nat):Int))),(17,.d (I ba))] [c1,Hh (.cut 0)] ?_ λJ5 dc=>?_
   ·rintro⟨gx,ff⟩ ah;unfold wu at ah;obtain rfl:=yH ah;exact yB db _ hl2 []
   obtain⟨a8,h1,ah⟩:=zt c1.2;refine yJ 1112001012100112011 [J1,J2,J3,J4,J5] [0,2,3,4,6,7,15,16,17] (λz:List zh×Bool=>vN bo ba a8 z.1 z.2=some dj) (λz=>VS b_ ay bo ba a8 z.1 z.2) [(0,.d (.sptr (WH b_))),(2,.own (eOs 1 false F4_ bo)),(3,.own (eOs 2 false Ug ay)),(4,.own (eOs 2 false Ug cr)),(6,.own (.box (Ug a8))),(7,.d (B true)),(15,.als 3 [] 0 0),(16,.d (I ((ay.length:Nat):Int))),(17,.d (I ba))] [Hn (iL Ug h1),Hs (iM Ug h1),Hh (.cut 1)] ?_ λJ6 ep=>?_
   ·rintro⟨cb,pu⟩ ah;unfold vN at ah;obtain c2|c2:=zF ah
    ·obtain⟨ai,h2,ah⟩:=zt c2.2;obtain⟨g0,ah⟩:=gdE ah;exact yB dc ((bo++[ai]),cb) ah [c2,zC1 54 h2,Hq (dM F4_ [ai]),Hn (dM F4_ [ai]),Hn (aL F4_ F4_ g0),Hl (aM F4_ bo [ai])]
    exact yB dc (bo,cb) c2.2 [c2]
   obtain⟨a7,h3,t7,ht7,ah⟩:=yj ah;refine yL 1112001012100112011210 [J1,J2,J3,J4,J5,J6] (λs=>yg a8 a7 s.1 s.2.1 s.2.2) (λx=>VO b_ ay bo ba a8 a7 x.1 x.2.1 x.2.2) (cr,true,0) ht7  [Hi F2_ h3] λ⟨iq,l9,fg⟩ m7 nb aw hl3 J7 gw=>?_;try unfold yg at aw;obtain c3|c3:=zF aw
   ·refine yJ 1112001012100112011210011 [J1,J2,J3,J4,J5,J6,J7] [0,2,3,4,6,7,15,16,17,28,29] (λz:List zh×Bool=>wt fg z.1 z.2=some nb) (λz=>VR b_ ay bo ba a8 a7 fg z.1 z.2) [(0,.d (.sptr (WH b_))),(2,.own (eOs 1 false F4_ bo)),(3,.own (eOs 2 false Ug ay)),(4,.own (eOs 2 false Ug iq)),(6,.own (.box (Ug a8))),(7,.d (B l9)),(15,.als 3 [] 0 0),(16,.d (I ((ay.length:Nat):Int))),(17,.d (I ba)),(28,.d (F2_ a7)),(29,.d (I fg))] [c3,Hh (.cut 0)] ?_ λJ8 lq=>?_
    ·rintro⟨og,oh⟩ aw;unfold wt at aw;obtain rfl:=yH aw;exact yB gw _ hl3 []
    obtain⟨cell,h4,aw⟩:=zt c3.2;let Z1:List HO:=[Hs (iM (eI .i32) h4),Hn (ixV (k:=.i32) (tt:=vF) (e:=21) (l:=[a7.e0,a7.e1,a7.e2,a7.e3,a7.e4,a7.e5,a7.e6,a7.e7,a7.e8,a7.e9,a7.e10,a7.e11,a7.e12,a7.e13,a7.e14,a7.e15]) (λ_=>by kernel_rfl) h4 (m:=16) rfl)];obtain c4|c4:=zF aw
    ·obtain⟨ak,h5,aw⟩:=zt c4.2;obtain⟨g1,aw⟩:=gdE aw;obtain⟨g2,aw⟩:=gdE aw;exact yB (H:=zx ((zmE zr 32).or uB)) lq ((iq++[(zh.mk cell (ak++[fg]))]),false) aw (Z1++[c4,zC1 54 h5,Hq (dM sy [fg]),Hn (dM sy [fg]),Hn (aN sy sy g1 (by simp)),Hl (aM sy ak [fg]),Hm (shM sy sy (ak++[fg])),Hq (dM Ug [(zh.mk cell (ak++[fg]))]),Hn (dM Ug [(zh.mk cell (ak++[fg]))]),Hn (aL Ug Ug g2),Hl (aM Ug iq [(zh.mk cell (ak++[fg]))])])
    exact yB (H:=zx ((zmE zr 32).or uB)) lq (iq,l9) c4.2 (Z1++[c4])
   obtain rfl:=yH c3.2;obtain rfl:=hl3;exact yB ep (iq,l9) ah [c3]
  obtain rfl:=yH c1.2;obtain rfl:=hl2;exact yB bg (bo,cr) ae [c1]
 obtain rfl:=yH c0.2;obtain rfl:=hl1;exact yB ar aj aa (Z0++[c0])
def zm4:List yi:=zhN 35 (eIf 77) yG sy sy (eT2 XM sy) wj::zm5
def z2o [H:HS X0 zm5]:OkH zm4:=yS4 false func35 λs_ m_ bound bf r0 aa E hE=>by
 obtain⟨r_,h0,aa⟩:=zt aa;let Z0:List HO:=[zC2 58 h0];obtain c0|c0:=zF aa
 ·cases c0.2;exact yE hE (Z0++[c0,Hm (shM F8_ F8_ [])])
 obtain c1|c1:=zF c0.2
 ·cases c1.2;exact yE hE (Z0++[c0,c1,c1,c1,qT,Hm (shM F8_ F8_ [])])
 let Z1:List HO:=(Z0++[c0,c1,c1,c1]);obtain c2|c2:=zF c1.2
 ·cases c2.2;exact yE hE (Z1++[c2,Hm (shM F8_ F8_ [])])
 obtain⟨ai,h1,aa⟩:=zt c2.2;let Z2:List HO:=(Z1++[c2,zC2 12 h1,Hn (rfl:T.d (ePo QL ai.1)=T.d (ePo QL ai.1))]);obtain c3|c3:=zF aa
 ·cases c3.2;exact yE (H:=zx ((xRe prog 11 (ePo QL ai.1) (ePo QL ai.1) (λ_ _ q=>q)).or X0)) hE (Z2++[c3,Hm (shM F8_ F8_ [])])
 obtain⟨there,h2,ak,h3,aa⟩:=yj c3.2;let Z3:List HO:=(Z2++[c3,Hn (rfl:T.d (ePo QL ai.1)=T.d (ePo QL ai.1)),zC3 1 h3,Hn (rfl:T.d (ePo WH ak.1)=T.d (ePo WH ak.1))]);obtain c4|c4:=zF aa
 ·cases c4.2;exact yE (H:=zx ((xRe prog 13 (ePo WH ak.1) (ePo WH ak.1) (λ_ _ q=>q)).or ((xRe prog 38 (ePo QL ai.1) (.sptr (.agg [.agg [I there.m_.Inputs,I there.m_.Outputs,eSl 1 false yO there.m_.Rows],eSl 1 false F8_ there.q_,eSl 1 false F8_ there.p_,eSl 1 false F8_ there.all_,eSl 1 false ua there.each_,eSl 1 false F8_ there.short_,eSl 1 false F8_ there.exact_])) (poM (f:=QL) h2)).or ((xRe prog 11 (ePo QL ai.1) (ePo QL ai.1) (λ_ _ q=>q)).or X0)))) hE (Z3++[c4,Hm (shM F8_ F8_ [])])
 obtain⟨ee,h4,am,h5,az,h6,aa⟩:=Zc c4.2;let Z4:List HO:=(Z3++[c4,Hn (rfl:T.d (ePo WH ak.1)=T.d (ePo WH ak.1)),zC1 0 h5,zg 32,Hm (shM F4_ F4_ am),Hs (zf2 32 h6 (loC XM am<|loC sy m_.Inputs<|loN))]);obtain c5|c5:=zF aa
 ·cases c5.2;exact yE (H:=zx ((xRe prog 46 (ePo WH ak.1) (.sptr (.agg [eSl 16 false F2_ ee.nodes_,I ee.leaves_,I ee.most_])) (poM (f:=WH) h4)).or ((xRe prog 13 (ePo WH ak.1) (ePo WH ak.1) (λ_ _ q=>q)).or ((xRe prog 38 (ePo QL ai.1) (.sptr (.agg [.agg [I there.m_.Inputs,I there.m_.Outputs,eSl 1 false yO there.m_.Rows],eSl 1 false F8_ there.q_,eSl 1 false F8_ there.p_,eSl 1 false F8_ there.all_,eSl 1 false ua there.each_,eSl 1 false F8_ there.short_,eSl 1 false F8_ there.exact_])) (poM (f:=QL) h2)).or ((xRe prog 11 (ePo QL ai.1) (ePo QL ai.1) (λ_ _ q=>q)).or X0))))) hE (Z4++[c5,Hm (shM F8_ F8_ [])])
 cases c5.2;exact yE (H:=zx ((xRe prog 46 (ePo WH ak.1) (.sptr (.agg [eSl 16 false F2_ ee.nodes_,I ee.leaves_,I ee.most_])) (poM (f:=WH) h4)).or ((xRe prog 13 (ePo WH ak.1) (ePo WH ak.1) (λ_ _ q=>q)).or ((xRe prog 38 (ePo QL ai.1) (.sptr (.agg [.agg [I there.m_.Inputs,I there.m_.Outputs,eSl 1 false yO there.m_.Rows],eSl 1 false F8_ there.q_,eSl 1 false F8_ there.p_,eSl 1 false F8_ there.all_,eSl 1 false ua there.each_,eSl 1 false F8_ there.short_,eSl 1 false F8_ there.exact_])) (poM (f:=QL) h2)).or ((xRe prog 11 (ePo QL ai.1) (ePo QL ai.1) (λ_ _ q=>q)).or X0))))) hE (Z4++[c5,Hm (shM F4_ F4_ am)])
def zm3:List yi:=z18 10 yG sy sy (eT2 XM sy) XP::zm4
def z8v [H:HS X0 zm4]:OkH zm3:=yS3 false func10 λm_ bound bf r0 aa E hE=>by obtain⟨r_,h0,aa⟩:=zt aa;cases aa;exact yE (H:=zx ((zfA prog 9 77 underlying77).or X0)) hE [zC4 0 h0]
def zm2:List yi:=z18 11 yG sy sy (eT2 XM sy) Up::zm3
def z6p [H:HS X0 zm3]:OkH zm2:=yS3 false func11 λm_ bound bf r0 aa E hE=>by obtain⟨r_,h0,aa⟩:=zt aa;cases aa;exact yE (H:=zx ((zfA prog 9 78 underlying78).or X0)) hE [zC4 1 h0]
def zm1:List yi:=z18 12 yG sy sy (eT2 XM sy) Wt::zm2
def z4Q [H:HS X0 zm2]:OkH zm1:=yS3 false func12 λm_ bound bf r0 aa E hE=>by obtain⟨r_,h0,aa⟩:=zt aa;cases aa;exact yE (H:=zx ((zfA prog 9 79 underlying79).or X0)) hE [zC4 2 h0]
def zm0:List yi:=Zb 13 yG sy (eT2 F1_ sy) KU::zm1
def z2p [H:HS X0 zm1]:OkH zm0:=yS2 false func13 λm_ bound r0 aa E hE=>by
 obtain⟨r_,h0,aa⟩:=zt aa;let Z0:List HO:=[zC2 62 h0];obtain c0|c0:=zF aa
 ·cases c0.2;exact yE hE (Z0++[c0])
 obtain⟨ai,h1,aa⟩:=zt c0.2;let Z1:List HO:=(Z0++[c0,zC2 16 h1,Hn (rfl:T.d (ePo QL ai.1)=T.d (ePo QL ai.1))]);obtain c1|c1:=zF aa
 ·cases c1.2;exact yE (H:=zx ((xRe prog 7 (ePo QL ai.1) (ePo QL ai.1) (λ_ _ q=>q)).or X0)) hE (Z1++[c1])
 refine yK (H:=zx ((xRe prog 7 (ePo QL ai.1) (ePo QL ai.1) (λ_ _ q=>q)).or X0)) 11111 [] [4] (zI Uq r0) (λz=>[(4,.own (.box (F1_ z)))]) [4,7] (Z1++[c1,Hh (.cut 0)]) ?_ λJ1 ar=>?_
 ·rintro n_ aa;cases aa;exact yE hE []
 refine yMb (H:=zx ((zfA prog 33 79 underlying79).or ((zfA prog 31 78 underlying78).or ((zfA prog 29 77 underlying77).or X0)))) 11111210 [J1] [4,7,34,35,36] (λx=>[(4,.own (.box (F1_ x.1))),(36,.d (I x.2))]) c1.2  [Ha (lnM (eIf 77) ([0,1,2]:TC))] λt2 aa ⟨ca,kl⟩ m2 av ae hl1 J2 au=>?_;obtain c2|c2:=zF ae
 ·obtain⟨mj,h2,there,h3,ak,h4,ae⟩:=Zc c2.2;let Z2:List HO:=[c2,Hn (iL (eIf 77) h2),Hs (iM (eIf 77) h2),Hn (rfl:T.d (ePo QL ai.1)=T.d (ePo QL ai.1)),zC3 5 h4,Hn (rfl:T.d (ePo WH ak.1)=T.d (ePo WH ak.1))];obtain c3|c3:=zF ae
  ·cases c3.2;cases hl1;cases aa;exact yE (H:=zx ((xRe prog 10 (ePo WH ak.1) (ePo WH ak.1) (λ_ _ q=>q)).or ((xRe prog 42 (ePo QL ai.1) (.sptr (.agg [.agg [I there.m_.Inputs,I there.m_.Outputs,eSl 1 false yO there.m_.Rows],eSl 1 false F8_ there.q_,eSl 1 false F8_ there.p_,eSl 1 false F8_ there.all_,eSl 1 false ua there.each_,eSl 1 false F8_ there.short_,eSl 1 false F8_ there.exact_])) (poM (f:=QL) h3)).or X0))) hE (Z2++[c3])
  obtain⟨ee,h5,cell,h6,arr,h7,ae⟩:=Zc c3.2;replace h7:=yH h7;cases ae;exact yB (H:=zx ((xRe prog 51 (ePo WH ak.1) (.sptr (.agg [eSl 16 false F2_ ee.nodes_,I ee.leaves_,I ee.most_])) (poM (f:=WH) h5)).or ((xRe prog 10 (ePo WH ak.1) (ePo WH ak.1) (λ_ _ q=>q)).or ((xRe prog 42 (ePo QL ai.1) (.sptr (.agg [.agg [I there.m_.Inputs,I there.m_.Outputs,eSl 1 false yO there.m_.Rows],eSl 1 false F8_ there.q_,eSl 1 false F8_ there.p_,eSl 1 false F8_ there.all_,eSl 1 false ua there.each_,eSl 1 false F8_ there.short_,eSl 1 false F8_ there.exact_])) (poM (f:=QL) h3)).or X0)))) au _ hl1 (Z2++[c3,Hn (rfl:T.d (ePo WH ak.1)=T.d (ePo WH ak.1)),Hn (⟨arJ (by kernel_rfl) (i0 h6),(iL sy h6).2⟩:jP vF 36 ((Uf.toL ca).map sy) kl=true/\kl.toNat<((Uf.toL ca).map sy).length),Hh (.op 7),Hh (.f),Hs (iM sy h6),Hh (.f),Hs (iM sy h6),Hx (.l ((Uf.toL arr).map sy)) ((Uf.setL sy ca kl (mx ee.leaves_ 1)).trans (congrArg (λq=>(Uf.toL q).map sy) h7))])
 cases c2.2;cases hl1;exact yB ar ca aa [c2]
def zlZ:List yi:=Zb 60 F8_ F8_ sy JJ::zm0
def z0M [H:HS X0 zm0]:OkH zlZ:=yS2 true func60 λa_ b_ r0 aa E hE=>by
 let Z0:List HO:=[Ha (lnM sy a_),Ha (lnM sy b_)];obtain c0|c0:=zF aa
 ·let Z1:List HO:=(Z0++[c0,Ha (lnM sy a_),Ha (lnM sy b_)]);obtain c1|c1:=zF c0.2
  ·cases c1.2;exact yE hE (Z1++[c1])
  cases c1.2;exact yE hE (Z1++[c1])
 refine yK 111 [] [] (λz:Unit=>Vz=some r0) (λz=>[]) [0,1] (Z0++[c0,Hh (.cut 0)]) ?_ λJ1 ar=>?_
 ·rintro⟨⟩ aa;cases aa;exact yE hE []
 refine yMb 111210 [J1] [0,1,5] (λx=>[(5,.d (I x))]) c0.2  [] λt2 aa i_ m2 av ae hl1 J2 au=>?_;obtain c2|c2:=zF ae
 ·obtain⟨dv,h0,dx,h1,ae⟩:=yj c2.2;let Z2:List HO:=[Ha (lnM sy a_),c2,Hi sy h0,Hi sy h1];obtain c3|c3:=zF ae
  ·cases c3.2;cases hl1;cases aa;exact yE hE (Z2++[c3])
  obtain⟨i6,h2,l6,h3,ae⟩:=yj c3.2;let Z3:List HO:=(Z2++[c3,Hi sy h2,Hi sy h3]);obtain c4|c4:=zF ae
  ·cases c4.2;cases hl1;cases aa;exact yE hE (Z3++[c4])
  cases c4.2;exact yB au _ hl1 (Z3++[c4])
 cases c2.2;cases hl1;exact yB ar () aa [Ha (lnM sy a_),c2]
def zlY:List yi:=Zb 38 ua ua eB z32::zlZ
def z4R [H:HS X0 zlZ]:OkH zlY:=yS2 true func38 λa_ b_ r0 aa E hE=>by
 let Z0:List HO:=[Ha (lnM F8_ a_),Ha (lnM F8_ b_)];obtain c0|c0:=zF aa
 ·cases c0.2;exact yE hE (Z0++[c0])
 refine yK 111 [] [] (λz:Unit=>JK=some r0) (λz=>[]) [0,1] (Z0++[c0,Hh (.cut 0)]) ?_ λJ1 ar=>?_
 ·rintro⟨⟩ aa;cases aa;exact yE hE []
 refine yMb 111210 [J1] [0,1,5] (λx=>[(5,.d (I x))]) c0.2  [] λt2 aa i_ m2 av ae hl1 J2 au=>?_;let Z1:List HO:=[Ha (lnM F8_ a_)];obtain c1|c1:=zF ae
 ·obtain⟨dv,h0,dx,h1,r_,h2,ae⟩:=Zc c1.2;let Z2:List HO:=(Z1++[c1,Hi F8_ h0,Hi F8_ h1,zC2 0 h2]);obtain c2|c2:=zF ae
  ·cases c2.2;cases hl1;cases aa;exact yE hE (Z2++[c2])
  cases c2.2;exact yB au _ hl1 (Z2++[c2])
 cases c1.2;cases hl1;exact yB ar () aa (Z1++[c1])
def zlX:List yi:=Zb 14 XM ua eB Q9::zlY
def z4V [H:HS X0 zlY]:OkH zlX:=yS2 true func14 λa_ b_ r0 aa E hE=>by
 obtain⟨r_,h0,aa⟩:=zt aa;let Z0:List HO:=[Hk [] (z0q (hat 0)) (zf2 0 h0 (loC XM a_<|loC ua b_<|loN))];obtain c0|c0:=zF aa
 ·cases c0.2;exact yE hE (Z0++[c0,c0,Ha (lnM F4_ a_),c0,c0,Ha (lnM F4_ a_),c0,c0])
 cases c0.2;exact yE hE (Z0++(rpN 6 (Hb c0) []))
def zlW:List yi:=zhO 50 zfx JT::zlX
def z0T [H:HS X0 zlX]:OkH zlW:=yS0 false func50 λr0 aa E hE=>by cases aa;exact yE hE [Hm (shM (eOs 2 true wk) zo4 ([[(z7.mk 1 0),(z7.mk 0 0)],[(z7.mk 2 0),(z7.mk 1 1)],[(z7.mk 0 1),(z7.mk 2 0)]]))]
def zlV:List yi:=zhO 18 eB Ja::zlW
def z3O [H:HS X0 zlW]:OkH zlV:=yS0 true func18 λr0 aa E hE=>by
 obtain⟨r_,h0,ai,h1,ak,h2,am,h3,aa⟩:=z2N aa;let Z0:List HO:=[zC0 0 h0,Hk [] (z0q (hat 7)) (zf3 7 h1 (loC zfx r_<|loC sy 3<|loC sy 8<|loN)),Hk [] (z0q (hat 6)) (zf3 6 h2 (loC zfx r_<|loC sy 3<|loC sy 4096<|loN)),Hk [] (z0q (hat 5)) (zf3 5 h3 (loC zfx r_<|loC sy 3<|loC sy 4096<|loN))];obtain c0|c0:=zF aa
 ·cases c0.2;exact yE hE (Z0++(Hb c0::Hb c0::Hb c0::(rpN 21 qT [])))
 obtain c1|c1:=zF c0.2
 ·cases c1.2;exact yE hE (Z0++(Hb c0::Hb c0::Hb c0::Hb c1::Hb c1::Hb c1::(rpN 18 qT [])))
 let Z1:List HO:=(Z0++[c0,c0,c0,c1,c1,c1]);obtain c2|c2:=zF c1.2
 ·cases c2.2;exact yE hE (Z1++(rpN 5 (Hb c2) (rpN 13 qT [])))
 obtain⟨az,h4,aa⟩:=zt c2.2;let Z2:List HO:=(Z1++[c2,c2,c2,Hm (shM F5_ F4_ ([[1,0],[1,1],[0,1,0],[0,1,1],[0,0,0,0],[0,0,0,1],[0,0,1,0],[0,0,1,1]])),Hn (W6 (f:=.fn 14 []) (xs:=[XM ai.1,ua ([[1,0],[1,1],[0,1,0],[0,1,1],[0,0,0,0],[0,0,0,1],[0,0,1,0],[0,0,1,1]]:TA)]) (ls:=[]) (r:=B az) (ys:=[]) [XM ai.1,XM ([[1,0],[1,1],[0,1,0],[0,1,1],[0,0,0,0],[0,0,0,1],[0,0,1,0],[0,0,1,1]]:TA)] (show Ji [XM ai.1,XM ([[1,0],[1,1],[0,1,0],[0,1,1],[0,0,0,0],[0,0,0,1],[0,0,1,0],[0,0,1,1]]:TA)] [XM ai.1,ua ([[1,0],[1,1],[0,1,0],[0,1,1],[0,0,0,0],[0,0,0,1],[0,0,1,0],[0,0,1,1]]:TA)] from inferInstance)),c2,c2]);obtain c3|c3:=zF aa
 ·cases c3.2;exact yE (H:=zx ((Za (P:=prog) vF [] (lentCall ((zk2 1 h4 :))) 49).or X0)) hE (Z2++(rpN 6 (Hb c3) (rpN 7 qT [])))
 obtain⟨g0,aa⟩:=gdE c3.2;obtain⟨bn,h5,aa⟩:=zt aa;let Z3:List HO:=(Z2++[c3,c3,c3,Hn (slB g0),Hn (zgj F4_ g0),Ha (slM 1 (true&&(7:Int).toNat==(([[1,0],[1,1],[0,1,0],[0,1,1],[0,0,0,0],[0,0,0,1],[0,0,1,0],[0,0,1,1]]:TA).map F4_).length) F4_ ([[1,0],[1,1],[0,1,0],[0,1,1],[0,0,0,0],[0,0,0,1],[0,0,1,0],[0,0,1,1]]:TA) 0 (7:Int).toNat),c3,Hn (W6 (f:=.fn 14 []) (xs:=[XM ak.1,ua ((([[1,0],[1,1],[0,1,0],[0,1,1],[0,0,0,0],[0,0,0,1],[0,0,1,0],[0,0,1,1]]:TA).drop 0).take ((7:Int).toNat-0))]) (ls:=[]) (r:=B bn) (ys:=[]) [XM ak.1,(eSl 1 (true&&(7:Int).toNat==(([[1,0],[1,1],[0,1,0],[0,1,1],[0,0,0,0],[0,0,0,1],[0,0,1,0],[0,0,1,1]]:TA).map F4_).length) F4_) ((([[1,0],[1,1],[0,1,0],[0,1,1],[0,0,0,0],[0,0,0,1],[0,0,1,0],[0,0,1,1]]:TA).drop 0).take ((7:Int).toNat-0))] (show Ji [XM ak.1,(eSl 1 (true&&(7:Int).toNat==(([[1,0],[1,1],[0,1,0],[0,1,1],[0,0,0,0],[0,0,0,1],[0,0,1,0],[0,0,1,1]]:TA).map F4_).length) F4_) ((([[1,0],[1,1],[0,1,0],[0,1,1],[0,0,0,0],[0,0,0,1],[0,0,1,0],[0,0,1,1]]:TA).drop 0).take ((7:Int).toNat-0))] [XM ak.1,ua ((([[1,0],[1,1],[0,1,0],[0,1,1],[0,0,0,0],[0,0,0,1],[0,0,1,0],[0,0,1,1]]:TA).drop 0).take ((7:Int).toNat-0))] from inferInstance)),c3,c3]);obtain c4|c4:=zF aa
 ·cases c4.2;exact yE (H:=zx ((Za (P:=prog) vF [] (lentCall ((zk2 1 h5 :))) 56).or ((Za (P:=prog) vF [] (lentCall ((zk2 1 h4 :))) 49).or X0))) hE (Z3++(rpN 6 (Hb c4) [qT]))
 obtain⟨g1,aa⟩:=gdE c4.2;obtain⟨cx,h6,aa⟩:=zt aa;let Z4:List HO:=(Z3++[c4,c4,c4,Hn (slB g1),Hn (zgj F4_ g1),Ha (slM 1 (true&&(7:Int).toNat==(([[1,0],[1,1],[0,1,0],[0,1,1],[0,0,0,0],[0,0,0,1],[0,0,1,0],[0,0,1,1]]:TA).map F4_).length) F4_ ([[1,0],[1,1],[0,1,0],[0,1,1],[0,0,0,0],[0,0,0,1],[0,0,1,0],[0,0,1,1]]:TA) 0 (7:Int).toNat),c4,Hn (W6 (f:=.fn 14 []) (xs:=[XM am.1,ua ((([[1,0],[1,1],[0,1,0],[0,1,1],[0,0,0,0],[0,0,0,1],[0,0,1,0],[0,0,1,1]]:TA).drop 0).take ((7:Int).toNat-0))]) (ls:=[]) (r:=B cx) (ys:=[]) [XM am.1,(eSl 1 (true&&(7:Int).toNat==(([[1,0],[1,1],[0,1,0],[0,1,1],[0,0,0,0],[0,0,0,1],[0,0,1,0],[0,0,1,1]]:TA).map F4_).length) F4_) ((([[1,0],[1,1],[0,1,0],[0,1,1],[0,0,0,0],[0,0,0,1],[0,0,1,0],[0,0,1,1]]:TA).drop 0).take ((7:Int).toNat-0))] (show Ji [XM am.1,(eSl 1 (true&&(7:Int).toNat==(([[1,0],[1,1],[0,1,0],[0,1,1],[0,0,0,0],[0,0,0,1],[0,0,1,0],[0,0,1,1]]:TA).map F4_).length) F4_) ((([[1,0],[1,1],[0,1,0],[0,1,1],[0,0,0,0],[0,0,0,1],[0,0,1,0],[0,0,1,1]]:TA).drop 0).take ((7:Int).toNat-0))] [XM am.1,ua ((([[1,0],[1,1],[0,1,0],[0,1,1],[0,0,0,0],[0,0,0,1],[0,0,1,0],[0,0,1,1]]:TA).drop 0).take ((7:Int).toNat-0))] from inferInstance)),c4,c4]);obtain c5|c5:=zF aa
 ·cases c5.2;exact yE (H:=zx ((Za (P:=prog) vF [] (lentCall ((zk2 1 h6 :))) 63).or ((Za (P:=prog) vF [] (lentCall ((zk2 1 h5 :))) 56).or ((Za (P:=prog) vF [] (lentCall ((zk2 1 h4 :))) 49).or X0)))) hE (Z4++[c5])
 obtain⟨gb,h7,iy,h8,gr,h9,im,h10,aa⟩:=z2N c5.2;let Z5:List HO:=(Z4++[c5,Hk [] (z0q (hat 7)) (zf3 7 h7 (loC zfx r_<|loC sy 2<|loC sy 9<|loN)),Hk [] (z0q (hat 7)) (zf3 7 h8 (loC zfx r_<|loC sy 8<|loC sy 9<|loN)),Hk [] (z0q (hat 7)) (zf3 7 h9 (loC zfx r_<|loC sy 3<|loC sy 7<|loN)),Hk [] (z0q (hat 4)) (zf2 4 h10 (loC zfx r_<|loC sy 3<|loN))]);obtain c6|c6:=zF aa
 ·obtain c7|c7:=zF c6.2
  ·let Z6:List HO:=(Z5++[c6,c6,c6,c7,c7,c7]);obtain c8|c8:=zF c7.2
   ·obtain c9|c9:=zF c8.2
    ·cases c9.2;exact yE (H:=zx ((Za (P:=prog) vF [] (lentCall ((zk2 1 h6 :))) 63).or ((Za (P:=prog) vF [] (lentCall ((zk2 1 h5 :))) 56).or ((Za (P:=prog) vF [] (lentCall ((zk2 1 h4 :))) 49).or X0)))) hE (Z6++(Hb c8::Hb c8::Hb c8::(rpN 4 (Hb c9) [])))
    cases c9.2;exact yE (H:=zx ((Za (P:=prog) vF [] (lentCall ((zk2 1 h6 :))) 63).or ((Za (P:=prog) vF [] (lentCall ((zk2 1 h5 :))) 56).or ((Za (P:=prog) vF [] (lentCall ((zk2 1 h4 :))) 49).or X0)))) hE (Z6++(Hb c8::Hb c8::Hb c8::(rpN 4 (Hb c9) [])))
   cases c8.2;exact yE (H:=zx ((Za (P:=prog) vF [] (lentCall ((zk2 1 h6 :))) 63).or ((Za (P:=prog) vF [] (lentCall ((zk2 1 h5 :))) 56).or ((Za (P:=prog) vF [] (lentCall ((zk2 1 h4 :))) 49).or X0)))) hE (Z6++(Hb c8::Hb c8::Hb c8::(rpN 4 qF [])))
  cases c7.2;exact yE (H:=zx ((Za (P:=prog) vF [] (lentCall ((zk2 1 h6 :))) 63).or ((Za (P:=prog) vF [] (lentCall ((zk2 1 h5 :))) 56).or ((Za (P:=prog) vF [] (lentCall ((zk2 1 h4 :))) 49).or X0)))) hE (Z5++(Hb c6::Hb c6::Hb c6::Hb c7::Hb c7::Hb c7::(rpN 7 qF [])))
 cases c6.2;exact yE (H:=zx ((Za (P:=prog) vF [] (lentCall ((zk2 1 h6 :))) 63).or ((Za (P:=prog) vF [] (lentCall ((zk2 1 h5 :))) 56).or ((Za (P:=prog) vF [] (lentCall ((zk2 1 h4 :))) 49).or X0)))) hE (Z5++(Hb c6::Hb c6::Hb c6::(rpN 10 qF [])))
def zlU:List yi:=Zb 19 zo2 yG yG Qa::zlV
def z4W [H:HS X0 zlV]:OkH zlU:=yS2 false func19 λx_ m_ r0 aa E hE=>by
 refine yNs 111 [] [2,3,4,5] (zI (Vf x_ m_) r0) (λz=>[(5,.own (.box (.agg [I m_.Inputs,I m_.Outputs,eOs 1 false uu z])))]) [Hh (.cut 2)] ?_ λJ1 ar=>?_
 ·rintro gy aa;refine yNs 1111 [] [2,3,4,5] (zI (Ve x_ m_) r0) (λz=>[(5,.own (.box (.agg [I m_.Inputs,I m_.Outputs,eOs 1 false uu z])))]) [Hh (.cut 0)] ?_ λJ2 au=>?_
  ·rintro bt aa;refine yN 11111 [] [4,5] (zI (Vd m_) r0) (λz=>[(5,.own (.box (.agg [I m_.Inputs,I m_.Outputs,eOs 1 false uu z])))]) [2,3,4,5] [Hh (.cut 0)] ?_ λJ3 bg=>?_
   ·rintro gp aa;cases aa;exact yE hE [Hm (shM uu yO gp)]
   refine yMb 11111210 [J3] [2,3,4,5,8] (λx=>[(5,.own (.box (.agg [I m_.Inputs,I m_.Outputs,eOs 1 false uu x.1]))),(8,.d (I x.2))]) aa  [] λt4 aa ⟨bw,i_⟩ m4 av ae hl1 J4 db=>?_;let Z0:List HO:=[Ha (lnM (JY (eI .u8)) x_.Changes)];obtain c0|c0:=zF ae
   ·obtain c1|c1:=zF c0.2
    ·obtain⟨dh,h0,ae⟩:=zt c1.2;obtain⟨g0,ae⟩:=gdE ae;obtain⟨g1,ae⟩:=gdE ae;refine yNs 11111210010011 [J3,J4] [2,3,4,5,8,9,10,73,74] (λz:Int×Int=>kU m_ bw i_ dh z.1 z.2=some av) (λz=>[(10,.own (.box (.agg [I z.1,I z.2])))]) (Z0++[c0,c0,c0,c1,Hi (JY (eI .u8)) h0,Hn (⟨rfl,by decide⟩:true=true/\2<4),Ha (lnM uu bw),Hn g0,Hn (⟨rfl,by decide⟩:true=true/\3<4),Hn g1,Hh (.cut 0)]) ?_ λJ5 dc=>?_
     ·rintro⟨ny,mw⟩ ae;obtain⟨g2,ae⟩:=gdE ae;obtain⟨kp,h1,ae⟩:=zt ae;obtain⟨g3,ae⟩:=gdE ae;obtain⟨pi,h2,ae⟩:=zt ae;cases ae;exact yB db _ hl1 [Hn (⟨rfl,by decide⟩:true=true/\0<4),Ha (lnM uu bw),Hn g2,Hn (iL uu h1),Hs (iM uu h1),Hn (⟨rfl,by decide⟩:true=true/\1<4),Hn g3,Hs (iM uu h1),Hn (iL wk h2),Hs (iM uu h1),Hs (iM wk h2),Hs (iM uu h1),Hs (iM wk h2),Hl (sM wk kp (Int.tmod (w64 (dh.e1)) m_.Inputs) (z7.mk ny mw)),Hl (sM uu bw (Int.tmod (w64 (dh.e0)) ((bw.length:Nat):Int)) (kp.set (Int.tmod (w64 (dh.e1)) m_.Inputs).toNat (z7.mk ny mw)))]
     obtain c2|c2:=zF ae
     ·exact yB dc ((-1),(-1)) c2.2 [c2]
     exact yB dc (Int.tmod (w64 (dh.e2)) ((bw.length:Nat):Int),Int.tmod (w64 (dh.e3)) (w64 (m_.Outputs+1))) c2.2 [c2]
    cases c1.2;cases hl1;exact yB bg bw aa (Z0++[c0,c0,c0,c1])
   cases c0.2;cases hl1;exact yB bg bw aa (Z0++[c0,c0,c0,qF])
  refine yMb 1111210 [J2] [2,3,4,5,7] (λx=>[(5,.own (.box (.agg [I m_.Inputs,I m_.Outputs,eOs 1 false uu x.1]))),(7,.d (I x.2))]) aa  [] λt6 aa ⟨gt,fk⟩ m6 av ae hl1 J6 ep=>?_;let Z1:List HO:=[Ha (lnM (eI .u8) x_.Copies)];obtain c3|c3:=zF ae
  ·obtain c4|c4:=zF c3.2
   ·obtain⟨pl,h3,ae⟩:=zt c4.2;obtain⟨g4,ae⟩:=gdE ae;obtain⟨ap,h4,ae⟩:=zt ae;obtain⟨g5,ae⟩:=gdE ae;obtain⟨g6,ae⟩:=gdE ae;cases ae;exact yB ep _ hl1 (Z1++[c3,c3,c3,c4,Hi (eI .u8) h3,Ha (lnM yO m_.Rows),Hn g4,Hi yO h4,Hn (dM wk ap),Hn (aL wk wk g5),Hl (aM0 wk ap),Hq (oC uu ap []),Hn (aL uu uu g6),Hl (aM uu gt [ap])])
   cases c4.2;cases hl1;exact yB au gt aa (Z1++[c3,c3,c3,c4])
  cases c3.2;cases hl1;exact yB au gt aa (Z1++[c3,c3,c3,qF])
 obtain⟨t7,ht7,aa⟩:=zt aa;refine yMx 111210 [J1] [2,3,4,5,6] (λx=>[(5,.own (.box (.agg [I m_.Inputs,I m_.Outputs,eOs 1 false uu x.1]))),(6,.d (I x.2))]) ht7 [(5,.own (.box (.agg [I m_.Inputs,I m_.Outputs,eOs 1 true uu []]))),(6,.d (I 0))] [] λ⟨iz,s_⟩ m7 av ae hl1 J7 gw=>?_;let Z2:List HO:=[Ha (lnM yO m_.Rows)];obtain c5|c5:=zF ae
 ·obtain⟨du,h5,ae⟩:=zt c5.2;obtain⟨g7,ae⟩:=gdE ae;obtain⟨g8,ae⟩:=gdE ae;cases ae;exact yB gw _ hl1 (Z2++[c5,Hi yO h5,Hn (dM wk du),Hn (aL wk wk g7),Hl (aM0 wk du),Hq (oC uu du []),Hn (aL uu uu g8),Hl (aM uu iz [du])])
 cases c5.2;cases hl1;exact yB ar iz aa (Z2++[c5])
def zlT:List yi:=Zb 51 yG yG yG XR::zlU
def z2O:XH prog:=((W0 zr (.inl 75) [74]).or X0)
def z2w [H:HS z2O zlU]:OkH zlT:=yS2 false func51 λa_ b_ r0 aa E hE=>by
 refine yNs 111 [] [2,3,4,5] (zI (Xd a_ b_) r0) (λz=>[(5,.own (.box (.agg [I a_.Inputs,I (mx a_.Outputs b_.Outputs),eOs 1 false yO z])))]) [Hh (.cut 2)] ?_ λJ1 ar=>?_
 ·rintro gj aa;refine yN 1111 [] [4,5] (zI (Xc a_ b_) r0) (λz=>[(5,.own (.box (.agg [I a_.Inputs,I (mx a_.Outputs b_.Outputs),eOs 1 false yO z])))]) [2,3,4,5] [Hh (.cut 0)] ?_ λJ2 au=>?_
  ·rintro bq aa;cases aa;exact yE hE [Hm (shM yO yO bq)]
  refine yMb 1111210 [J2] [2,3,4,5,7] (λx=>[(5,.own (.box (.agg [I a_.Inputs,I (mx a_.Outputs b_.Outputs),eOs 1 false yO x.1]))),(7,.d (I x.2))]) aa  [] λt3 aa ⟨cm,s_⟩ m3 av ae hl1 J3 bg=>?_;let Z0:List HO:=[Ha (lnM yO b_.Rows)];obtain c0|c0:=zF ae
  ·refine yNs 111121001 [J2,J3] [2,3,4,5,7] (zI (Xb s_) av) (λz=>[(5,.own (.box (.agg [I a_.Inputs,I (mx a_.Outputs b_.Outputs),eOs 1 false yO z])))]) (Z0++[c0,Hh (.cut 0)]) ?_ λJ4 db=>?_
   ·rintro gu ae;cases ae;exact yB bg _ hl1 []
   refine yNs 111121001201 [J2,J3,J4] [2,3,4,5,7,8] (zI (Xa cm s_) av) (λz=>[(8,.own (eOs 2 false wk z))]) [Hh (.cut 1)] ?_ λJ5 dc=>?_
   ·rintro row ae;obtain⟨g0,ae⟩:=gdE ae;exact yB db (cm++[row]) ae [Hm (shM uu yO ([row])),Hn (dM yO [row]),Hn (aL yO yO g0),Hl (aM yO cm [row])]
   obtain⟨t6,kb,ae⟩:=zt c0.2;refine yMx 111121001201210 [J2,J3,J4,J5] [2,3,4,5,7,8,9] (λx=>[(8,.own (eOs 2 false wk x.1)),(9,.d (I x.2))]) kb [(8,.own (eOs 2 true wk [])),(9,.d (I 0))] [] λ⟨bu,i_⟩ m6 dj ah hl2 J6 ep=>?_;obtain c1|c1:=zF ah
   ·obtain⟨ap,h0,al,h1,ah⟩:=yj c1.2;refine yNs 11112100120121001001 [J2,J3,J4,J5,J6] [2,3,4,5,7,8,9,10] (zI (kJ bu i_ al) dj) (λz=>[(10,.own (.box (.agg [I z,I al.Out])))]) [c1,Hi yO h0,Hi wk h1,Hh (.cut 0)] ?_ λJ7 gw=>?_
    ·rintro gz ah;obtain⟨g1,ah⟩:=gdE ah;cases ah;exact yB ep _ hl2 [Hq (dM wk [(z7.mk gz al.Out)]),Hn (dM wk [(z7.mk gz al.Out)]),Hn (aL wk wk g1),Hl (aM wk bu [(z7.mk gz al.Out)])]
    obtain c2|c2:=zF ah
    ·exact yB gw (w64 (al.To+((a_.Rows.length:Nat):Int))) c2.2 [c2,Ha (lnM yO a_.Rows)]
    exact yB gw al.To c2.2 [c2]
   cases c1.2;cases hl2;exact yB dc bu ae [c1]
  cases c0.2;cases hl1;exact yB au cm aa (Z0++[c0])
 obtain⟨t8,ht8,aa⟩:=zt aa;refine yMx 111210 [J1] [2,3,4,5,6] (λx=>[(5,.own (.box (.agg [I a_.Inputs,I (mx a_.Outputs b_.Outputs),eOs 1 false yO x.1]))),(6,.d (I x.2))]) ht8 [(5,.own (.box (.agg [I a_.Inputs,I (mx a_.Outputs b_.Outputs),eOs 1 true yO []]))),(6,.d (I 0))] [] λ⟨gl,bk⟩ m8 av ae hl1 J8 lq=>?_;let Z1:List HO:=[Ha (lnM yO a_.Rows)];obtain c3|c3:=zF ae
 ·obtain⟨du,h2,ae⟩:=zt c3.2;obtain⟨g2,ae⟩:=gdE ae;cases ae;exact yB lq _ hl1 (Z1++[c3,Hi yO h2,Hq (dM yO [du]),Hn (dM yO [du]),Hn (aL yO yO g2),Hl (aM yO gl [du])])
 cases c3.2;cases hl1;exact yB ar gl aa (Z1++[c3])
def zlS:List yi:=Zb 20 yG yG (eT2 F8_ eB) Y3::zlT
abbrev Kc (w_:TB):List (Nat×T):=[(10,.own (eOs 1 false sy w_))]
abbrev Kb (r_:z6)(s_:Int)(t_:Int)(ca:Int)(fp:TB)(ai:List (List Bool))(i_:Int)(rm:Int)(rn:Bool)(j7:Bool)(ro:Bool)(rp:Bool)(rq:Bool):List (Nat×T):=[(6,.own (.box (yG r_))),(7,.d (I s_)),(8,.d (I t_)),(9,.d (I (w64 (ca-1)))),(10,.own (eOs 1 false sy fp)),(11,.own (eOs 1 false (eOs 1 true eB) ai)),(12,.d (I i_)),(82,.d (I rm)),(83,.d (B rn)),(84,.d (B j7)),(88,.d (B ro)),(89,.d (B rp)),(99,.d (B rq))]
abbrev K9 (r_:z6)(s_:Int)(t_:Int)(ca:Int)(fp:TB)(ai:List (List Bool))(i_:Int):List (Nat×T):=[(6,.own (.box (yG r_))),(7,.d (I s_)),(8,.d (I t_)),(9,.d (I (w64 (ca-1)))),(10,.own (eOs 1 false sy fp)),(11,.own (eOs 1 false (eOs 1 true eB) ai)),(12,.d (I i_))]
abbrev Ka (r_:z6)(s_:Int)(t_:Int)(ca:Int)(fp:TB):List (Nat×T):=[(6,.own (.box (yG r_))),(7,.d (I s_)),(8,.d (I t_)),(9,.d (I ca)),(10,.own (eOs 1 false sy fp))]
abbrev Kd (a_:z6)(r_:z6)(n_:Int):List (Nat×T):=[(6,.own (.box (yG r_))),(7,.d (I 0)),(8,.d (I ((a_.Rows.length:Nat):Int))),(9,.d (I n_))]
abbrev K8 (a_:z6)(r_:z6)(cd:Int):List (Nat×T):=[(6,.own (.box (yG r_))),(7,.d (I 0)),(8,.d (I ((a_.Rows.length:Nat):Int))),(9,.d (I cd))]
def z2v [H:HS X0 zlT]:OkH zlS:=yS2 false func20 λa_ b_ r0 aa E hE=>by
 obtain⟨r_,h0,aa⟩:=zt aa;refine yJ 11111 [] [6,7,8,9] (λz:Int=>kI a_ r_ z=some r0) (λz=>Kd a_ r_ z) [(6,.own (.box (yG r_))),(7,.d (I 0)),(8,.d (I ((a_.Rows.length:Nat):Int))),(9,.d (I 0))] [zC2 0 h0,Ha (lnM yO a_.Rows),Hh (.cut 1)] ?_ λJ1 ar=>?_
 ·rintro n_ aa;unfold kI at aa;let Z0:List HO:=[Ha (lnM yO r_.Rows)];obtain c0|c0:=zF aa
  ·obtain rfl:=yH c0.2;exact yEl hE (Z0++[c0,Hm (shM sy sy [])])
  refine yJ 11111111 [] [10] (λz:TB=>kH z=some r0) (λz=>Kc z) [(6,.own (.box (yG r_))),(7,.d (I 0)),(8,.d (I ((a_.Rows.length:Nat):Int))),(9,.d (I n_)),(10,.own (eOs 1 true sy []))] (Z0++[Hb c0,Hh (.cut 1)]) ?_ λJ2 au=>?_
  ·rintro w_ aa;unfold kH at aa;obtain rfl:=yH aa;exact yE hE [Hm (shM sy sy w_)]
  obtain⟨t3,ht3,aa⟩:=zt c0.2;refine yLx 1111111120 [J2] (λs=>kG r_ s.1 s.2.1 s.2.2.1 s.2.2.2) (λx=>Ka r_ x.1 x.2.1 x.2.2.1 x.2.2.2) (0,((a_.Rows.length:Nat):Int),n_,([]:TB)) ht3 [(6,.own (.box (yG r_))),(7,.d (I 0)),(8,.d (I ((a_.Rows.length:Nat):Int))),(9,.d (I n_)),(10,.own (eOs 1 true sy []))] inferInstance [] λ⟨s_,t_,ca,fp⟩ m3 av ae hl1 J3 bg=>?_;try unfold kG at ae;obtain c1|c1:=zF ae
  ·obtain⟨ai,h1,t4,ht4,ae⟩:=yj c1.2;refine yL 11111111200101110 [J2,J3] (λs=>uR r_ s_ t_ ca fp ai s) (λx=>K9 r_ s_ t_ ca fp ai x) 0 ht4  [Hb c1,zC2 110 h1] λi_ m4 dj ah hl2 J4 db=>?_;try unfold uR at ah;obtain c2|c2:=zF ah
   ·refine yJ 1111111120010111001 [J2,J3,J4] [6,7,8,9,10,11,12,82,83,84,88,89,99] (λz:Int×Bool×Bool×Bool×Bool×Bool=>vA i_ z.1 z.2.1 z.2.2.1 z.2.2.2.1 z.2.2.2.2.1 z.2.2.2.2.2=some dj) (λz=>Kb r_ s_ t_ ca fp ai i_ z.1 z.2.1 z.2.2.1 z.2.2.2.1 z.2.2.2.2.1 z.2.2.2.2.2) [(6,.own (.box (yG r_))),(7,.d (I s_)),(8,.d (I t_)),(9,.d (I (w64 (ca - 1)))),(10,.own (eOs 1 false sy fp)),(11,.own (eOs 1 false (eOs 1 true eB) ai)),(12,.d (I i_))] [Hb c2,Hh (.cut 0)] ?_ λJ5 dc=>?_
    ·rintro⟨rm,rn,j7,ro,rp,rq⟩ ah;unfold vA at ah;obtain rfl:=yH ah;exact yB db _ hl2 []
    obtain⟨ap,h2,al,h3,du,h4,bp,h5,ah⟩:=z2N c2.2;let Z1:List HO:=[Hi yO h2,Hi wk h3,Hi yO h4,Hi wk h5];obtain c3|c3:=zF ah
    ·obtain⟨g0,ah⟩:=gdE c3.2;obtain rfl:=yH ah;obtain rfl:=hl2;obtain rfl:=yH ae;exact yB bg _ hl1 (Z1++(rpN 8 (Hb c3) [qT,Hq (dM sy [i_]),Hn (dM sy [i_]),Hn (aL sy sy g0),Hl (aM sy fp [i_])]))
    let Z2:List HO:=(Z1++(rpN 4 (Hb c3) []));obtain c4|c4:=zF c3.2
    ·let Z3:List HO:=(Z2++[Hb c4,Hb c4,Hb c4,Hb c3,Hb c4,Hb c3]);obtain c5|c5:=zF c4.2
     ·obtain⟨dm,h6,ji,h7,ah⟩:=yj c5.2;let Z4:List HO:=(Z3++(rpN 4 (Hb c5) [Hn (iL (eOs 1 true eB) h6),Hb c5,Hs (iM (eOs 1 true eB) h6),Hb c5,Hb c5,Hb c5,Hs (iM (eOs 1 true eB) h6),Hn (iL eB h7),Hb c5,Hs (iM (eOs 1 true eB) h6),Hs (iM eB h7),Hb c3,Hb c5,Hb c3]));obtain c6|c6:=zF ah
      ·obtain⟨g1,ah⟩:=gdE c6.2;obtain rfl:=yH ah;obtain rfl:=hl2;obtain rfl:=yH ae;exact yB bg _ hl1 (Z4++[Hb c6,Hq (dM sy [i_]),Hn (dM sy [i_]),Hn (aL sy sy g1),Hl (aM sy fp [i_])])
      exact yB dc (al.To,decide (al.To>=0),decide (al.To>=0),decide (bp.To>=0),decide (bp.To>=0),ji) c6.2 (Z4++[Hb c6])
     exact yB dc (al.To,decide (al.To>=0),decide (al.To>=0),decide (bp.To>=0),decide (bp.To>=0),false) c5.2 (Z3++(rpN 9 (Hb c5) [Hb c3,Hb c5,Hb c3,qF]))
    exact yB dc (al.To,decide (al.To>=0),decide (al.To>=0),false,false,false) c4.2 (Z2++(Hb c4::Hb c4::Hb c4::Hb c3::Hb c4::Hb c3::(rpN 9 qF [Hb c3,qF,Hb c3,qF])))
   obtain rfl:=yH c2.2;obtain rfl:=hl2;obtain rfl:=yH ae;exact yB bg _ hl1 [Hb c2]
  obtain rfl:=yH c1.2;obtain rfl:=hl1;exact yB au fp aa [Hb c1]
 obtain⟨t6,kb,aa⟩:=zt aa;refine yL 1111120 [J1] (λs=>uQ a_ r_ s) (λx=>K8 a_ r_ x) 0 kb  [] λcd m6 av ae hl1 J6 ep=>?_;try unfold uQ at ae
 let Z5:List HO:=[Ha (lnM yO r_.Rows)];obtain c7|c7:=zF ae
 ·obtain⟨ak,h8,ip,h9,pm,h10,ae⟩:=Zc c7.2;let Z6:List HO:=(Z5++[Hb c7,Hb c7,Hb c7,zC2 110 h8,Hb c7,Hb c7,Hn (iL (eOs 1 true eB) h9),Hb c7,Hs (iM (eOs 1 true eB) h9),Hb c7,Hb c7,Hs (iM (eOs 1 true eB) h9),Hn (iL eB h10),Hb c7,Hs (iM (eOs 1 true eB) h9),Hs (iM eB h10),Hb c7,Hb c7]);obtain c8|c8:=zF ae
  ·obtain rfl:=yH c8.2;exact yB ep _ hl1 (Z6++[Hb c8])
  obtain rfl:=yH c8.2;obtain rfl:=hl1;exact yB ar cd aa (Z6++[Hb c8])
 obtain rfl:=yH c7.2;obtain rfl:=hl1;exact yB ar cd aa (Z5++(rpN 11 (Hb c7) [qF]))
def zlR:List yi:=z18 55 yG sy F8_ (λr:TB×Int=>.opq (US [some (F5_ r.1),some (sy r.2)])) jN::zlS
def z2C [H:HS X0 zlS]:OkH zlR:=by
 refine zO3 λm_ s_ w_ r0 aa=>?_;try unfold jN at aa;refine z4w (tt:=vF) (rs:=[(true,6,none),(false,7,none)]) (n:=⟨f55.ntmps,[]⟩) (body:=zbd f55) zr func55 rfl (by kernel_rfl) rfl rfl (by show(3:Nat)<=33;decide) λE hE=>?_
 obtain⟨r_,h0,aa⟩:=zt aa;let Z0:List HO:=[zC2 18 h0];obtain c0|c0:=zF aa
 ·obtain rfl:=yH c0.2;let ZE:List HO:=(Z0++[c0]);exact z29 X0 zr H.ok z1B hE 4000 (hs:=hoH ZE) (x:=(.opq (US [some (eOs 1 true sy []),some (I r_)]))) (hoB ZE) (by kernel_rfl) (show LeV (.opq (US [some (eOs 1 true sy []),some (I r_)])) (.opq (US [some (eOs 1 true sy ([]:TB)),some (I r_)])) from inferInstance)
 obtain⟨ai,h1,aa⟩:=zt c0.2;let Z1:List HO:=(Z0++[c0,zC2 62 h1]);obtain c1|c1:=zF aa
 ·obtain rfl:=yH c1.2;let ZE:List HO:=(Z1++[c1]);exact z29 X0 zr H.ok z1B hE 4000 (hs:=hoH ZE) (x:=(.opq (US [some (eOs 1 true sy []),some (I ai)]))) (hoB ZE) (by kernel_rfl) (show LeV (.opq (US [some (eOs 1 true sy []),some (I ai)])) (.opq (US [some (eOs 1 true sy ([]:TB)),some (I ai)])) from inferInstance)
 obtain⟨ak,h2,aa⟩:=zt c1.2;obtain rfl:=yH aa;let ZE:List HO:=(Z1++[c1,zC3 17 h2,Hn (⟨rfl,rfl⟩:T.own (.opq (US [some (eOs 1 true sy ak.1),some (I ak.2)]))=T.own (.opq (US [some (eOs 1 true sy ak.1),some (I ak.2)]))/\1=1),Hn (⟨rfl,rfl⟩:T.own (.opq (US [none,some (I ak.2)]))=T.own (.opq (US [none,some (I ak.2)]))/\1=1)]);exact z29 ((z0b prog 31 [none,some (I ak.2)]).or ((z0b prog 30 [some (eOs 1 true sy ak.1),some (I ak.2)]).or X0)) zr H.ok z1B hE 4000 (hs:=hoH ZE) (x:=(.opq (US [some (eOs 1 true sy ak.1),some (I 0)]))) (hoB ZE) (by kernel_rfl) (LeV.refl _)
def zlQ:List yi:=z18 21 yG yG ua (eT2 eB sy) uK::zlR
def z2r [H:HS X0 zlR]:OkH zlQ:=yS3 false func21 λm_ other l_ r0 aa E hE=>by
 refine yNs 11 [] [2,3,4] (λz:Unit=>k8 m_ other l_=some r0) (λz=>[]) [Hh (.cut 1)] ?_ λJ1 ar=>?_
 ·rintro⟨⟩ aa;obtain c0|c0:=zF aa
  ·cases c0.2;exact yE hE [c0]
  obtain⟨r_,h0,aa⟩:=zt c0.2;let Z0:List HO:=[c0,zC2 46 h0];obtain c1|c1:=zF aa
  ·cases c1.2;exact yE hE (Z0++[c1])
  refine yK 11111 [] [] (λz:Unit=>Ur=some r0) (λz=>[]) [2,3,4] (Z0++[c1,Hh (.cut 0)]) ?_ λJ2 au=>?_
  ·rintro⟨⟩ aa;cases aa;exact yE hE []
  refine yMb 11111210 [J2] [3,4,44,45,46] (λx=>[(46,.d (I x))]) c1.2  [Ha (lnM F8_ l_)] λt3 aa nh m3 av ae hl1 J3 bg=>?_;obtain c2|c2:=zF ae
  ·obtain⟨bi,h1,ai,h2,ak,h3,am,h4,ae⟩:=z2N c2.2;let Z1:List HO:=[c2,Hi F8_ h1,zC3 0 h2,Hn (⟨rfl,rfl⟩:T.own (.opq (US [some (eOs 1 true sy ai.1),some (I ai.2)]))=T.own (.opq (US [some (eOs 1 true sy ai.1),some (I ai.2)]))/\1=1),Hn (⟨rfl,rfl⟩:T.own (.opq (US [none,some (I ai.2)]))=T.own (.opq (US [none,some (I ai.2)]))/\1=1),zC3 0 h3,Hn (⟨rfl,rfl⟩:T.own (.opq (US [some (eOs 1 true sy ak.1),some (I ak.2)]))=T.own (.opq (US [some (eOs 1 true sy ak.1),some (I ak.2)]))/\1=1),Hn (⟨rfl,rfl⟩:T.own (.opq (US [none,some (I ak.2)]))=T.own (.opq (US [none,some (I ak.2)]))/\1=1),zg 77,Hm (shM sy sy ai.1),Hm (shM sy sy ak.1),Hs (zf2 77 h4 (loC F4_ ai.1 <| loC F4_ ak.1 <| loN))];obtain c3|c3:=zF ae
   ·cases c3.2;cases hl1;cases aa;exact yE (H:=zx ((z0b prog 61 [none,some (I ak.2)]).or ((z0b prog 60 [some (eOs 1 true sy ak.1),some (I ak.2)]).or ((z0b prog 55 [none,some (I ai.2)]).or ((z0b prog 54 [some (eOs 1 true sy ai.1),some (I ai.2)]).or X0))))) hE (Z1++[c3])
   cases c3.2;exact yB (H:=zx ((z0b prog 61 [none,some (I ak.2)]).or ((z0b prog 60 [some (eOs 1 true sy ak.1),some (I ak.2)]).or ((z0b prog 55 [none,some (I ai.2)]).or ((z0b prog 54 [some (eOs 1 true sy ai.1),some (I ai.2)]).or X0))))) bg _ hl1 (Z1++[c3])
  cases c2.2;cases hl1;exact yB au () aa [c2]
 refine yMb 11210 [J1] [2,3,4,20,21,22] (λx=>[(22,.d (I x))]) aa  [Ha (lnM yG [m_,other])] λt4 aa pe m4 av ae hl1 J4 db=>?_;obtain c4|c4:=zF ae
 ·obtain⟨mj,h5,az,h6,ae⟩:=yj c4.2;let Z2:List HO:=[c4,Hn (iL yG h5),Hs (iM yG h5),zC1 91 h6];obtain c5|c5:=zF ae
  ·cases c5.2;cases hl1;cases aa;exact yE hE (Z2++[c5])
  cases c5.2;exact yB db _ hl1 (Z2++[c5])
 cases c4.2;cases hl1;exact yB ar () aa [c4]
def zlP:List yi:=z18 5 zo0 zo2 (eI .u8) eB Yq::zlQ
def Ju [H:HS X0 zlQ]:OkH zlP:=yS3 true func5 λx_ y_ ck r0 aa E hE=>by
 obtain⟨r_,h0,ai,h1,aa⟩:=yj aa;obtain⟨g0,aa⟩:=gdE aa;obtain⟨ak,h2,am,h3,az,h4,aa⟩:=Zc aa;let Z0:List HO:=[zC1 98 h0,zC2 4 h1,Ha (lnM yO r_.Rows),Hn g0,Ha (lnM yO ai.Rows),zC3 13 h2,zC3 12 h3,zC3 11 h4];obtain c0|c0:=zF aa
 ·cases c0.2;exact yE hE (Z0++(Hb c0::Hb c0::Hb c0::(rpN 4 qT [])))
 obtain c1|c1:=zF c0.2
 ·cases c1.2;exact yE hE (Z0++[c0,c0,c0,c1,c1,c1,qT])
 let Z1:List HO:=(Z0++[c0,c0,c0,c1,c1,c1]);obtain c2|c2:=zF c1.2
 ·cases c2.2;exact yE hE (Z1++[c2])
 obtain⟨bn,h5,cx,h6,gb,h7,iy,h8,aa⟩:=z2N c2.2;let Z2:List HO:=(Z1++[c2,zC2 2 h5,Hk [] (z0q (hat 0)) (zf3 0 h6 (loC yG r_<|loC yG ai<|loC XM ak.1<|loN)),Hk [] (z0q (hat 0)) (zf3 0 h7 (loC yG r_<|loC yG ai<|loC XM am.1<|loN)),Hk [] (z0q (hat 0)) (zf3 0 h8 (loC yG r_<|loC yG ai<|loC XM az.1<|loN))]);obtain c3|c3:=zF aa
 ·obtain c4|c4:=zF c3.2
  ·let Z3:List HO:=(Z2++[c3,c3,c3,c4,c4,c4]);obtain c5|c5:=zF c4.2
   ·let Z4:List HO:=(Z3++(rpN 4 (Hb c5) []));obtain c6|c6:=zF c5.2
    ·let Z5:List HO:=(Z4++(rpN 4 (Hb c6) []));obtain c7|c7:=zF c6.2
     ·let Z6:List HO:=(Z5++(rpN 4 (Hb c7) []));obtain c8|c8:=zF c7.2
      ·obtain⟨gr,h9,aa⟩:=zt c8.2;cases aa;exact yE hE (Z6++[c8,zC0 5 h9,c8])
      cases c8.2;exact yE hE (Z6++[c8,c8])
     cases c7.2;exact yE hE (Z5++(rpN 4 (Hb c7) [qF,qF]))
    cases c6.2;exact yE hE (Z4++(rpN 4 (Hb c6) (rpN 6 qF [])))
   cases c5.2;exact yE hE (Z3++(rpN 4 (Hb c5) (rpN 10 qF [])))
  cases c4.2;exact yE hE (Z2++(Hb c3::Hb c3::Hb c3::Hb c4::Hb c4::Hb c4::(rpN 14 qF [])))
 cases c3.2;exact yE hE (Z2++(Hb c3::Hb c3::Hb c3::(rpN 17 qF [])))
def spc {X:XH prog}{s:yi}{l:List yi}(w:∀[HS X l],OkH (s::l))(r:KL prog l)(h:((l.map yi.k).contains s.k)=false:=by kernel_rfl):KL prog (s::l):=⟨λc a b=>@w ⟨c,a,b⟩,zk1 h,r⟩
def zhJ:KL prog zlP:=spc Ju <|
 spc z2r <|
 spc z2C <|
 spc z2v <|
 spc z2w <|
 spc z4W <|
 spc z3O <|
 spc z0T <|
 spc z4V <|
 spc z4R <|
 spc z0M <|
 spc z2p <|
 spc z4Q <|
 spc z6p <|
 spc z8v <|
 spc z2o <|
 spc Jm <|
 spc z0L <|
 spc QM <|
 spc z0l <|
 spc z2B <|
 spc z0i <|
 spc z3G <|
 spc Yv <|
 spc YV <|
 spc z0K <|
 spc z8u <|
 spc qn <|
 spc z0e <|
 spc z6r <|
 spc z3P <|
 spc z3J <|
 spc z3H <|
 spc z4Z <|
 spc z2E <|
 spc Kk <|
 spc Jn <|
 spc WP <|
 spc z2t <|
 spc z2s <|
 spc z0f <|
 spc z2G <|
 spc z2F <|
 spc Qo <|
 spc Kp <|
 spc z2n <|
 spc z6n <|
 spc z4N <|
 spc z3I <|
 spc z3F <|
 spc z4O <|
 spc z6o <|
 spc z0U <|
 spc z4P <|
 spc z2m <|
 spc z3D <|
 spc Ye <|
 spc z0d <|
 spc z0I <|
 spc z51 <|
 spc Wl <|
 spc Kq <|
 spc z0V <|
 spc WQ <|
 spc z3E <|
 spc z3B <|
 spc Yd <|
 spc XB <|
 spc z0J <|
 spc z2l <|
 spc z3C <|
 spc Uj <|
 spc VH <|
 spc z0c <|
 spc z2q <|
 spc Jq <|
 spc QN <|
 spc Qk <|
 spc Km <|
 spc VG <|
 spc Kl <|
 spc z2u <|
 spc z0h <|
 spc QO <|
 spc Qn <|
 spc YW <|
 spc Wk <|
 spc QP <|
 spc QQ <|
 spc Qm <|
 spc W4 <|
 spc z0j <|
 spc Ko <|
 spc z0k <|
 spc uE <|
 spc qJ <|
 spc Jt <|
 spc z0S <|
 spc z0R <|
 spc z4X <|
 spc z0N <|
 spc z6q <|
 spc z0P <|
 spc z2x <|
 spc z3M <|
 spc z4T <|
 spc z2A <|
 spc z3L <|
 spc z4S <|
 spc z3N <|
 spc z4U <|
 spc z0O <|
 spc z2y <|
 spc Kn <|
 spc z2z <|
 spc z3K <|
 spc z4Y <|
 spc z2D <|
 trivial
def zC {x:Int}(h1:-9223372036854775808<=x)(h2:x<=9223372036854775807):w64 x=x:=by simp only[w64,IntKind.wrap,IntKind.bits,IntKind.signed];simp;omega
variable {k:Nat}
section
variable {α β σ τ ρ:Type}
def Ret (x:Option α)(Q:α->Prop):Prop:=∃a,x=some a/\Q a
def Ret.mono {x:Option α}{Q R:α->Prop}(h:Ret x Q)(q:∀a,Q a->R a):Ret x R:=by obtain⟨a,e,h⟩:=h;exact⟨a,e,q a h⟩
def Ret.eq {x:Option α}{a:α}(h:Ret x λb=>b=a):x=some a:=by obtain⟨b,e,rfl⟩:=h;exact e
def z8 {a:α}{Q:α->Prop}:Ret (some a) Q↔Q a:=⟨λ⟨b,e,q⟩=>by cases e;exact q,λq=>⟨a,rfl,q⟩⟩
def zm {x:Option α}{f:α->Option β}{Q:β->Prop}:Ret (Option.bind x f) Q↔Ret x λa=>Ret (f a) Q:=by
 cases x with
 |none=>exact⟨λ⟨b,e,_⟩=>(by cases e),λ⟨b,e,_⟩=>(by cases e)⟩
 |some a=>exact⟨λh=>⟨a,rfl,h⟩,λ⟨b,e,h⟩=>by cases e;exact h⟩
def Ys {p:Prop}[Decidable p]{x:Option α}{Q:α->Prop}:Ret (gd p x) Q↔p/\Ret x Q:=by
 unfold gd;by_cases h:p
 ·rw[if_pos h];exact⟨λq=>⟨h,q⟩,λq=>q.2⟩
 rw[if_neg h];exact⟨λ⟨b,e,_⟩=>by(cases e),λq=>(h q.1).elim⟩
def zu {c:Bool}{x y:Option α}{Q:α->Prop}:Ret (bif c then x else y) Q↔(c=true->Ret x Q)/\(c=false->Ret y Q):=by cases c<;>simp
def z6F {l:List α}{i:Int}{Q:α->Prop}:Ret (idx l i) Q↔0<=i/\∃x,l[i.toNat]?=some x/\Q x:=by
 cases i with
 |ofNat n=>show(∃a,l[n]?=some a/\Q a)↔_;simp
 |negSucc n=>exact⟨λ⟨b,e,_⟩=>by(cases e),λ⟨h,_⟩=>by omega⟩
def zK (l:List α)(i:Nat):idx l (i:Int)=l[i]?:=rfl
def gdT {p:Prop}[Decidable p]{x:Option α}(h:p):gd p x=x:=by unfold gd;rw[if_pos h]
def bdT {x:Option α}{u:α}{f:α->Option ρ}(h:x=some u):Option.bind x f=f u:=by rw[h];rfl
def YS (step:σ->Option (LR σ τ))(n:Nat)(s:σ):JQ step (n+1) s=(match step s with|none=>none|some (.next s')=>JQ step n s'|some (.done t)=>some t):=rfl
def LRP (N:σ->Prop)(D:τ->Prop):LR σ τ->Prop
 |.next s=>N s
 |.done t=>D t
def zG {step:σ->Option (LR σ τ)}(I:σ->Prop)(m:σ->Nat){R:τ->Prop}{s:σ}(hs:I s)(hm:m s<18446744073709551616)
  (h:∀s,I s->Ret (step s) (LRP (λs'=>I s'/\m s' < m s) R)):Ret (loop step s) R:=by
 have gen:∀(n:Nat) (s:σ),I s->m s<n->Ret (JQ step n s) R:=by
  intro n;induction n with
  |zero=>intro s _ h;omega
  |succ n ih=>
   intro s hs hm;obtain⟨a,e,q⟩:=h s hs;rw[YS,e];cases a with
   |next s'=>exact ih s' q.1 (by have:=q.2;omega)
   |done t=>exact⟨t,rfl,q⟩
 exact gen Wh s hs hm
def vh {step:σ->Option (LR σ τ)}(st:Nat->σ)(n:Nat){t:τ}(hn:n<9223372036854775808)(h:∀i,i<n->step (st i)=some (.next (st (i+1))))(hd:step (st n)=some (.done t)):loop step (st 0)=some t:=by
 have gen:∀(k:Nat) (i:Nat),i<=n->n-i<k->JQ step k (st i)=some t:=by
  intro k;induction k with
  |zero=>intro i _ h;omega
  |succ k ih=>
   intro i hi hk;rw[YS];rcases pL i n with q|q
   ·rw[h i q];exact ih (i+1) q (by omega)
   have:i=n:=by omega
   subst this;rw[hd]
 exact gen Wh 0 (pP _) (by show n-0<18446744073709551616;omega)
def ye (f:Nat->α->Option ρ):List α->Nat->Option ρ
 |[],_=>none
 |x::l,i=>match f i x with|some r=>some r|none=>ye f l (i+1)
def Xv {f:Nat->α->Option ρ}:∀{l:List α} {k:Nat},(∀i x,l[i]?=some x->f (k+i) x=none)->ye f l k=none
 |[],_,_=>rfl
 |x::l,k,h=>by have h0:=h 0 x rfl;simp only[mP]at h0;simp only[ye,h0];exact Xv λi y hy=>by have:=h (i+1) y (by simpa using hy);rwa[show k+1+i=k+(i+1) by omega]
def jB {f:Nat->α->Option ρ}{r:ρ}:∀{l:List α} {k:Nat},ye f l k=some r->∃i x,l[i]?=some x/\f (k+i) x=some r
 |[],_,h=>by cases h
 |x::l,k,h=>by
  simp only[ye]at h;cases hf:f k x with
  |some r'=>rw[hf]at h;exact⟨0,x,rfl,by rw[mP,hf];exact h⟩
  |none=>rw[hf]at h;obtain⟨i,y,h1,h2⟩:=jB h;exact⟨i+1,y,by simpa using h1,by rw[<-h2];congr 1;omega⟩
def kX {f:Nat->α->Option ρ}{l:List α}  (h:ye f l k=none):∀i x,l[i]?=some x->f (k+i) x=none:=by
 induction l generalizing k with
 |nil=>intro i x h;simp at h
 |cons y l ih=>
  intro i x hx;simp only[ye]at h;cases hf:f k y with
  |some r'=>rw[hf]at h;cases h
  |none=>
   rw[hf]at h;cases i with
   |zero=>simp at hx;subst hx;simpa using hf
   |succ i=>have:=ih h i x (by simpa using hx);rwa[show k+(i+1)=k+1+i by omega]
def oS:Option ρ->Unit⊕ρ
 |some r=>.inr r
 |none=>.inl ()
def nS (i:Nat):Option ρ->LR Int (Unit⊕ρ)
 |some r=>.done (.inr r)
 |none=>.next (w64 ((i:Int)+1))
def wU (l:List α)(hl:l.length<4611686018427387904){step:Int->Option (LR Int (Unit⊕ρ))}(f:Nat->α->Option ρ)
  (h:∀(i:Nat) (x:α),l[i]?=some x->step (i:Int)=some (nS i (f i x))) (h2:step (l.length:Int)=some (.done (.inl ()))) :
  loop step 0=some (oS (ye f l 0)):=by
 have gen:∀(n:Nat) (k:Nat),k<=l.length->l.length-k<n->JQ step n (k:Int)=some (oS (ye f (l.drop k) k)):=by
  intro n;induction n with
  |zero=>intro k _ h;omega
  |succ n ih=>
   intro k hk hn;rw[YS];rcases pL k l.length with hlt|hge
   ·have hx:l[k]?=some l[k]:=pf hlt;rw[h k _ hx,mV hlt];simp only[ye];cases hf:f k l[k] with
    |some r=>rfl
    |none=>simp only[nS];rw[zC (by omega) (by omega)];exact ih (k+1) hlt (by omega)
   have:k=l.length:=by omega
   subst this;rw[h2,List.drop_length];rfl
 exact gen Wh 0 (pP _) (by show l.length-0<18446744073709551616;omega)
end
section
variable {S:Type}
def rv (k:Nat):TC->Nat
 |[]=>0
 |i::u=>rv k u*k+i+1
def z2P (k:Nat)(bad:S->Nat->Bool)(nx:S->Nat->Option S)(p0:S):TC->S->Prop
 |[],q=>q=p0
 |i::u,q=>∃p,z2P k bad nx p0 u p/\i<k/\bad p i=false/\nx p i=some q
def zkF (k:Nat)(bad:S->Nat->Bool)(nx:S->Nat->Option S)(p0:S):TC->Prop
 |[]=>False
 |i::u=>∃p,z2P k bad nx p0 u p/\i<k/\bad p i=true
def K7 (k:Nat)(bad:S->Nat->Bool)(nx:S->Nat->Option S):S->TC->Prop
 |_,[]=>False
 |p,[i]=>i<k/\bad p i=true
 |p,i::w=>i<k/\bad p i=false/\∃q,nx p i=some q/\K7 k bad nx q w
structure Bfs (k:Nat)(bad:S->Nat->Bool)(nx:S->Nat->Option S)(p0:S)(L:List (S×TC))(at_ i:Nat):Prop where
 first:L[0]?=some (p0,[])
 mono:∀(j j':Nat) (a b:S×TC),j<j'->L[j]?=some a->L[j']?=some b->rv k a.2<rv k b.2
 path:∀a∈L,z2P k bad nx p0 a.2 a.1
 ahead:∀a c,L[at_]?=some c->a∈L->rv k a.2<rv k c.2*k+i+1
 pos:i<=k
 lies:at_<=L.length
 fin:at_=L.length->i=0
 short:∀(j:Nat) (a:S×TC),L[j]?=some a->a.2.length<=j
 seen:∀(j x:Nat) (a:S×TC),L[j]?=some a->x<k->(j<at_\/j=at_/\x<i)->bad a.1 x=false/\∀q,nx a.1 x=some q->∃b∈L,b.1=q/\rv k b.2<=rv k a.2*k+x+1
variable {k:Nat}{bad:S->Nat->Bool}{nx:S->Nat->Option S}{p0:S}
def Bfs.start:Bfs k bad nx p0 [(p0,[])] 0 0:={
 first:=rfl
 mono:=by intro j j' a b h h1 h2;have:=(pg.1 h2).1;simp at this;omega
 path:=by intro a ha;simp at ha;subst ha;rfl
 ahead:=by intro a c _ ha;simp at ha;subst ha;simp[rv]
 pos:=pP _
 lies:=by simp
 fin:=by intro;rfl
 short:=by intro j a h;have:=(pg.1 h).1;simp at this;subst this;simp at h;subst h;simp
 seen:=by rintro j x a h _ (q|⟨_,q⟩)<;>omega }
def Bfs.old {L:List (S×TC)}{a i:Nat}(h:Bfs k bad nx p0 L a i){c:S×TC}(hc:L[a]?=some c)(hi:i<k)(hb:bad c.1 i=false)
  (hn:∀q,nx c.1 i=some q->∃b∈L,b.1=q):Bfs k bad nx p0 L a (i+1):={
 first:=h.first
 mono:=h.mono
 path:=h.path
 ahead:=λx y hy hx=>by have:=h.ahead x y hy hx;omega
 pos:=hi
 lies:=h.lies
 fin:=λe=>by have:=(pg.1 hc).1;omega
 short:=h.short
 seen:=by
  intro j x y hy hx q;by_cases e:j=a/\x=i
  ·obtain⟨rfl,rfl⟩:=e;rw[hc]at hy;cases hy;refine⟨hb,λq hq=>?_⟩;obtain⟨b,h1,h2⟩:=hn q hq;exact⟨b,h1,h2,by have:=h.ahead b c hc h1;omega⟩
  exact h.seen j x y hy hx (by omega) }
def Bfs.new {L:List (S×TC)}{a i:Nat}(h:Bfs k bad nx p0 L a i){c:S×TC}(hc:L[a]?=some c)(hi:i<k)(hb:bad c.1 i=false){q:S}
  (hn:nx c.1 i=some q):Bfs k bad nx p0 (L++[(q,i::c.2)]) a (i+1):=by
 have hlt:=(pg.1 hc).1;refine⟨?_,?_,?_,?_,hi,by simp;omega,λe=>by simp at e;omega,?_,?_⟩
 ·rw[pC (by omega)];exact h.first
 ·intro j j' x y hj h1 h2;have hl:=(pg.1 h2).1;simp at hl;rw[pC (by omega)]at h1;rcases pL j' L.length with g|g
  ·rw[pC g]at h2;exact h.mono j j' x y hj h1 h2
  have:j'=L.length:=by omega
  subst this;simp at h2;subst h2;exact h.ahead x c hc (pH h1)
 ·intro x hx;rcases ph.1 hx with g|g
  ·exact h.path x g
  simp at g;subst g;exact⟨c.1,h.path c (pH hc),hi,hb,hn⟩
 ·intro x y hy hx;rw[pC hlt]at hy;rcases ph.1 hx with g|g
  ·have:=h.ahead x y hy g;omega
  simp at g;subst g;rw[hc]at hy;cases hy;simp[rv]
 ·intro j y hy;rcases pL j L.length with g|g
  ·rw[pC g]at hy;exact h.short j y hy
  have hl:=(pg.1 hy).1;simp at hl;have:j=L.length:=by omega
  subst this;simp at hy;subst hy;have:=h.short a c hc;simp;omega
 intro j x y hy hx g;rw[pC (by omega)]at hy;by_cases e:j=a/\x=i
 ·obtain⟨rfl,rfl⟩:=e;rw[hc]at hy;cases hy;refine⟨hb,λq' hq=>?_⟩;rw[hn]at hq;cases hq;exact⟨(q,x::c.2),by simp,rfl,pA _⟩
 obtain⟨h1,h2⟩:=h.seen j x y hy hx (by omega);refine⟨h1,λq' hq=>?_⟩;obtain⟨b,g1,g2⟩:=h2 q' hq;exact⟨b,rz _ g1,g2⟩
def Bfs.step {L:List (S×TC)}{a:Nat}(h:Bfs k bad nx p0 L a k)(ha:a<L.length):Bfs k bad nx p0 L (a+1) 0:={
 first:=h.first
 mono:=h.mono
 path:=h.path
 ahead:=by intro x c hc hx;have h1:=h.ahead x _ (pf ha) hx;have h2:=h.mono a (a+1) _ _ (by omega) (pf ha) hc;have h3:(rv k L[a].2+1)*k<=rv k c.2*k:=gI _ h2;rw[rQ]at h3;omega
 pos:=pP _
 lies:=ha
 fin:=λ_=>rfl
 short:=h.short
 seen:=λj x b hb hx g=>h.seen j x b hb hx (by rcases g with g|⟨_,g⟩<;>omega) }
def Bfs.reach {L:List (S×TC)}{a i:Nat}(h:Bfs k bad nx p0 L a i):∀(u:TC) (q:S),z2P k bad nx p0 u q->(∀c,L[a]?=some c->rv k u<rv k c.2*k+i+1)->∃(j:Nat) (b:S×TC),L[j]?=some b/\b.1=q/\rv k b.2<=rv k u
 |[],q,hp,_=>⟨0,_,h.first,hp.symm,pP _⟩
 |x::u,q,⟨p,hp,hx,hb,hn⟩,hlt=>by
  have hk:rv k u<=rv k u*k:=Nat.le_mul_of_pos_right _ (by omega);obtain⟨j,b,hj,rfl,hr⟩:=h.reach u p hp λc hc=>by have:=hlt c hc;simp only[rv]at this;omega
  have hmul:rv k b.2*k<=rv k u*k:=gI _ hr;have hjl:=(pg.1 hj).1;have hpos:j<a\/j=a/\x<i:=by
   rcases mW j a with g|g|g
   ·exact .inl g
   ·subst g;refine .inr ⟨rfl,?_⟩;have:=hlt b hj;simp only[rv]at this;omega
   exfalso;have hal:a<L.length:=by omega
   have h1:=hlt _ (pf hal);have h2:=h.mono a j _ _ g (pf hal) hj;have h3:(rv k L[a].2+1)*k<=rv k b.2*k:=gI _ h2;rw[rQ]at h3;have:=h.pos;simp only[rv]at h1;omega
  obtain⟨_,h2⟩:=h.seen j x b hj hx hpos;obtain⟨c,g1,g2,g3⟩:=h2 q hn;obtain⟨j',g4⟩:=rA g1;exact⟨j',c,g4,g2,by simp only[rv];omega⟩
def z5y {i:Nat}{q:S}(hi:i<k)(hb:bad p0 i=false)(hn:nx p0 i=some q):∀{u:TC} {r:S},z2P k bad nx q u r->z2P k bad nx p0 (u++[i]) r
 |[],r,h=>⟨p0,rfl,hi,hb,by rw[hn];exact congrArg some h.symm⟩
 |x::u,r,⟨p,hp,h⟩=>⟨p,z5y hi hb hn hp,h⟩
def z7j:∀{w:TC} {p:S},K7 k bad nx p w->zkF k bad nx p w.reverse
 |[],_,h=>h.elim
 |[i],p,h=>⟨p,rfl,h⟩
 |i::j::w,p,⟨hi,hb,q,hn,h⟩=>by
  have:=z7j h;rw[nG];cases hr:(j::w).reverse with
  |nil=>simp at hr
  |cons x u=>rw[hr]at this;obtain⟨r,h1,h2⟩:=this;exact⟨r,z5y hi hb hn h1,h2⟩
def zeB:TC->TC->Prop
 |[],_=>True
 |i::u,j::v=>i<j\/i=j/\zeB u v
 |_::_,[]=>False
def z9e:∀{w:TC} {p:S},K7 k bad nx p w->∀x∈w,x<k
 |[],_,h=>h.elim
 |[i],_,h=>by simpa using h.1
 |i::j::w,_,⟨hi,_,q,_,h⟩=>by
  intro x hx;rcases pB.1 hx with rfl|hx
  ·exact hi
  exact z9e h x hx
def Mk (k:Nat)(bad:S->Nat->Bool)(nx:S->Nat->Option S):Nat->S->Prop
 |0,_=>False
 |n+1,p=>Mk k bad nx n p\/∃i,i<k/\(bad p i=true\/∃q,nx p i=some q/\Mk k bad nx n q)
def Mk.mono {n m:Nat}{p:S}(h:Mk k bad nx n p)(hm:n<=m):Mk k bad nx m p:=by
 induction hm with
 |refl=>exact h
 |step _ ih=>exact .inl ih
def Mk.tell:∀{n:Nat} {p:S},Mk k bad nx n p->∃w,K7 k bad nx p w/\w.length<=n
 |0,_,h=>h.elim
 |n+1,p,.inl h=>by obtain⟨w,h1,h2⟩:=Mk.tell h;exact⟨w,h1,by omega⟩
 |n+1,p,.inr ⟨i,hi,h⟩=>by
  by_cases hb:bad p i=true
  ·exact⟨[i],⟨hi,hb⟩,by simp⟩
  rcases h with h|⟨q,hq,h⟩
  ·exact(hb h).elim
  obtain⟨w,h1,h2⟩:=Mk.tell h;refine⟨i::w,?_,by simp;omega⟩;cases w with
  |nil=>exact h1.elim
  |cons j w=>exact⟨hi,by simpa using hb,q,hq,h1⟩
def Uo:∀{w:TC} {p:S},K7 k bad nx p w->Mk k bad nx w.length p
 |[],_,h=>h.elim
 |[i],p,h=>.inr ⟨i,h.1,.inl h.2⟩
 |i::j::w,p,⟨hi,hb,q,hn,h⟩=>.inr ⟨i,hi,.inr ⟨q,hn,Uo h⟩⟩
def QK (k:Nat)(bad:S->Nat->Bool)(nx:S->Nat->Option S):Nat->S->TC->Prop
 |0,_,w=>w=[]
 |n+1,p,w=>∃i u,w=i::u/\i<k/\(bad p i=true\/∃q,nx p i=some q/\Mk k bad nx n q)/\(∀j,j<i->¬(bad p j=true\/∃q,nx p j=some q/\Mk k bad nx n q))/\(0<n->∃q,nx p i=some q/\QK k bad nx n q u)/\(n=0->u=[])
end
variable {α:Type}
def z21 {p q:α->Bool}:∀{l:List α},(∀x∈l,p x=true->q x=true)->(∃x∈l,q x=true/\p x=false)->l.countP p<l.countP q
 |[],_,⟨x,hx,_⟩=>by cases hx
 |y::l,h,⟨x,hx,h1,h2⟩=>by
  have hm:l.countP p<=l.countP q:=List.countP_mono_left λz hz=>h z (mS _ hz);simp only[rW];rcases pB.1 hx with rfl|hx
  ·simp only[h1,h2,if_true,gC,if_false];omega
  have:=z21 (λz hz=>h z (mS _ hz)) ⟨x,hx,h1,h2⟩;cases hp:p y with
  |true=>simp only[h y (by simp) hp,if_true];omega
  |false=>simp only[gC,if_false];split<;>omega
open Classical in
def zeU (N:Nat)(R:Nat->Nat->Prop):Nat:=(List.range N).countP λs=>decide (∀t,t<s->¬R s t)
def zod {N:Nat}(hN:0<N)(R:Nat->Nat->Nat->Prop)(symm:∀k s t,s<N->t<N->R k s t->R k t s)(trans:∀k s t u,s<N->t<N->u<N->R k s t->R k t u->R k s u)
  (refl:∀k s,s<N->R k s s) (mono:∀k s t,s<N->t<N->R (k+1) s t->R k s t) (stat:∀k,(∀s t,s<N->t<N->R k s t->R (k+1) s t)->∀s t,s<N->t<N->R (k+1) s t->R (k+2) s t) :
  ∀s t,s<N->t<N->R (N-1) s t->∀j,R j s t:=by
 classical
 have step:∀k,(¬∀s t,s<N->t<N->R k s t->R (k+1) s t)->zeU N (R k)<zeU N (R (k+1)):=by
  intro k hk;simp only[Classical.not_forall]at hk;obtain⟨s,t,hs,ht,h1,h2⟩:=hk;unfold zeU;refine z21 (λx hx=>?_) ?_
  ·have hx:=gK.1 hx;simp only[decide_eq_true_eq];exact λh t ht q=>h t ht (mono k x t hx (by omega) q)
  ·
   have hmin:∃z,z<N/\R k z s/\∀y,y<z->¬R k y s:=by
    have key:∀n,∀z,z<=n->z<N->R k z s->∃z,z<N/\R k z s/\∀y,y<z->¬R k y s:=by
     intro n;induction n with
     |zero=>intro z hz hzN hr;exact⟨z,hzN,hr,λy hy=>by omega⟩
     |succ n ih=>
      intro z hz hzN hr;by_cases q:∃y,y<z/\R k y s
      ·obtain⟨y,y1,y2⟩:=q;exact ih y (by omega) (by omega) y2
      exact⟨z,hzN,hr,λy hy g=>q ⟨y,hy,g⟩⟩
    exact key s s (pA _) hs (refl k s hs)
   obtain⟨z,hz,hzs,hzm⟩:=hmin;have hzt:R k z t:=trans k z s t hz hs ht hzs h1;obtain⟨u,hu,hzu,hne⟩:∃u,u<N/\R k z u/\¬R (k+1) z u:=by
    by_cases q:R (k+1) z s
    ·by_cases g:R (k+1) z t
     ·exact(h2 (trans (k+1) s z t hs hz ht (symm _ _ _ hz hs q) g)).elim
     exact⟨t,ht,hzt,g⟩
    exact⟨s,hs,hzs,q⟩
   have hmin:∃y,y<N/\R (k+1) y u/\∀x,x<y->¬R (k+1) x u:=by
    have key:∀n,∀z,z<=n->z<N->R (k+1) z u->∃z,z<N/\R (k+1) z u/\∀y,y<z->¬R (k+1) y u:=by
     intro n;induction n with
     |zero=>intro z hz hzN hr;exact⟨z,hzN,hr,λy hy=>by omega⟩
     |succ n ih=>
      intro z hz hzN hr;by_cases q:∃y,y<z/\R (k+1) y u
      ·obtain⟨y,y1,y2⟩:=q;exact ih y (by omega) (by omega) y2
      exact⟨z,hzN,hr,λy hy g=>q ⟨y,hy,g⟩⟩
    exact key u u (pA _) hu (refl _ u hu)
   obtain⟨y,hy,hyu,hym⟩:=hmin;have hyk:R k y u:=mono k y u hy hu hyu;have hyz:R k y z:=trans k y u z hy hu hz hyk (symm _ _ _ hz hu hzu);have hzy:z<y:=by
    rcases mW z y with g|g|g
    ·exact g
    ·subst g;exact(hne hyu).elim
    exact(hzm y g (trans k y z s hy hz hs hyz hzs)).elim
   refine⟨y,gK.2 hy,?_,?_⟩
   ·simp only[decide_eq_true_eq];intro x hx q;exact hym x hx (trans (k+1) x y u (by omega) hy hu (symm _ _ _ hy (by omega) q) hyu)
   simp only[decide_eq_false_iff_not];intro q;exact q z hzy hyz
 have le:∀k,zeU N (R k)<=N:=by intro k;unfold zeU;refine pE (rS) ?_;simp
 have one:∀k,1<=zeU N (R k):=by intro k;unfold zeU;refine List.countP_pos_iff.2 ⟨0,gK.2 hN,?_⟩;simp
 have rest:∃k,k<N/\∀s t,s<N->t<N->R k s t->R (k+1) s t:=by
  refine pZ λhno=>?_;have:∀k,k<=N->k+1<=zeU N (R k):=by
   intro k;induction k with
   |zero=>intro _;exact one 0
   |succ k ih=>intro hk;have:=step k λh=>hno ⟨k,by omega,h⟩;have:=ih (by omega);omega
  have:=this N (pA _);have:=le N;omega
 obtain⟨k,hk,hst⟩:=rest;have up:∀d,∀s t,s<N->t<N->R (k+d) s t->R (k+d+1) s t:=by
  intro d;induction d with
  |zero=>exact hst
  |succ d ih=>exact stat (k+d) ih
 have down:∀d j s t,s<N->t<N->R (j+d) s t->R j s t:=by
  intro d;induction d with
  |zero=>intro j s t _ _ h;exact h
  |succ d ih=>intro j s t hs ht h;exact ih j s t hs ht (mono _ s t hs ht h)
 intro s t hs ht h j;have hk':R k s t:=down (N-1-k) k s t hs ht (by rw[show k+(N-1-k)=N-1 by omega];exact h);have far:∀d,R (k+d) s t:=by
  intro d;induction d with
  |zero=>exact hk'
  |succ d ih=>exact up d s t hs ht ih
 exact down k j s t hs ht (by rw[sv];exact far j)
section
variable {S S':Type}{k:Nat}{bad:S->Nat->Bool}{nx:S->Nat->Option S}{bad':S'->Nat->Bool}{nx':S'->Nat->Option S'}(φ:S->S')(I:S->Prop)
 (hI:∀p i q,I p->i<k->nx p i=some q->I q) (hb:∀p i,I p->i<k->bad' (φ p) i=bad p i) (hn:∀p i,I p->i<k->nx' (φ p) i=(nx p i).map φ)
include hI hb hn
theorem Q7:∀(n:Nat) (p:S),I p->(Mk k bad' nx' n (φ p)↔Mk k bad nx n p)
 |0,_,_=>Iff.rfl
 |n+1,p,hp=>by
  simp only[Mk];rw[Q7 n p hp];constructor
  ·rintro(h|⟨i,hi,h|⟨q,hq,h⟩⟩)
   ·exact .inl h
   ·exact .inr ⟨i,hi,.inl (by rw[<-hb p i hp hi];exact h)⟩
   rw[hn p i hp hi]at hq;obtain⟨r,hr,rfl⟩:=pQ.1 hq;exact .inr ⟨i,hi,.inr ⟨r,hr,(Q7 n r (hI p i r hp hi hr)).1 h⟩⟩
  rintro(h|⟨i,hi,h|⟨q,hq,h⟩⟩)
  ·exact .inl h
  ·exact .inr ⟨i,hi,.inl (by rw[hb p i hp hi];exact h)⟩
  exact .inr ⟨i,hi,.inr ⟨φ q,by rw[hn p i hp hi,hq];rfl,(Q7 n q (hI p i q hp hi hq)).2 h⟩⟩
theorem z03:∀(n:Nat) (p:S) (w:TC),I p->QK k bad' nx' n (φ p) w->QK k bad nx n p w
 |0,_,_,_,h=>h
 |n+1,p,w,hp,⟨i,u,e,hi,h1,h2,h3,h4⟩=>by
  refine⟨i,u,e,hi,?_,?_,?_,h4⟩
  ·rcases h1 with h|⟨q,hq,h⟩
   ·exact .inl (by rw[<-hb p i hp hi];exact h)
   rw[hn p i hp hi]at hq;obtain⟨r,hr,rfl⟩:=pQ.1 hq;exact .inr ⟨r,hr,(Q7 φ I hI hb hn n r (hI p i r hp hi hr)).1 h⟩
  ·intro j hj h;apply h2 j hj;rcases h with h|⟨q,hq,h⟩
   ·exact .inl (by rw[hb p j hp (by omega)];exact h)
   exact .inr ⟨φ q,by rw[hn p j hp (by omega),hq];rfl,(Q7 φ I hI hb hn n q (hI p j q hp (by omega) hq)).2 h⟩
  intro hn0;obtain⟨q,hq,h⟩:=h3 hn0;rw[hn p i hp hi]at hq;obtain⟨r,hr,rfl⟩:=pQ.1 hq;exact⟨r,hr,z03 n r u (hI p i r hp hi hr) h⟩
end
def z6Z (m:z6)(x:z7):Bool:=(x.To == -1&&x.Out == -1) ||(decide (0<=x.To)&&decide (x.To<(m.Rows.length:Int))&&decide (0<=x.Out)&&decide (x.Out<m.Outputs))
def z8H (m:z6)(r:List z7):Bool:=decide ((r.length:Int)=m.Inputs)&&r.all (z6Z m)
def chk (m:z6):Int :=
 if m.Inputs>16\/m.Outputs>16\/(m.Rows.length:Int)>64 then 3 else if m.Inputs<1\/m.Outputs<1\/m.Rows.length=0 then 1 else if m.Rows.all (z8H m)=true then 0 else 1
def zha (m:z6)(x:z7):YC m x=some (z6Z m x):=by
 unfold YC vY;simp only[oB,s5];rcases Bool.eq_false_or_eq_true (x.To==(-1)&&x.Out==(-1)) with h|h
 ·simp[z6Z,h]
 rw[h];simp only[z6Z,h,nH,cond_false];by_cases h1:(0:Int)<=x.To
 ·by_cases h2:x.To<(m.Rows.length:Int)
  ·by_cases h3:(0:Int)<=x.Out
   ·simp[nE,h1,h2,h3]
   simp[nE,h1,h2,h3]
  simp[nE,h1,h2]
 simp[h1]
def z75 (m:z6)(r:List z7)(hl:r.length<4611686018427387904):y9 r m=some (!r.all (z6Z m)):=by
 have hloop:loop (λs=>y8 r m s) 0=some (oS (ye (λi x=>if z6Z m x=true then none else some (i:Int)) r 0)):=by
  refine wU r hl _ ?_ ?_
  ·intro i x hx;have hi:=(pg.1 hx).1;unfold y8;have hd:decide ((i:Int)<((r.length:Nat):Int))=true:=by simpa using hi
   rw[hd,cond_true,zK,bdT hx];unfold Yp;simp only[zha,oB];cases z6Z m x<;>rfl
  unfold y8;simp
 unfold y9 xj;rw[hloop];simp only[oB];cases hf:ye (λi x=>if z6Z m x=true then none else some (i:Int)) r 0 with
 |some q=>
  obtain⟨i,x,h1,h2⟩:=jB hf;have hx:z6Z m x≠true:=by intro h;rw[if_pos h]at h2;cases h2
  rw[if_neg hx]at h2;simp only[Option.some.injEq]at h2;have:r.all (z6Z m)=false:=by rw[List.all_eq_false];exact⟨x,pH h1,hx⟩
  rw[this];have:(q:Int)>=0:=by rw[<-h2];omega
  show some (decide (q>=0))=_;simp[this]
 |none=>
  have:r.all (z6Z m)=true:=by
   rw[gB];intro x hx;obtain⟨i,hi⟩:=rA hx;have:=kX hf i x hi;by_cases h:z6Z m x=true
   ·exact h
   rw[if_neg h]at this;cases this
  rw[this];rfl
variable {m:z6}
def z8Y (h0:(m.Rows.length:Int)<=64)(h1:m.Inputs<=16):loop (λs=>qC m s) 0=some (oS (ye (λ_ r=>if z8H m r=true then none else some (1:Int)) m.Rows 0)):=by
 refine wU m.Rows (by omega) _ ?_ ?_
 ·intro i r hr;have hi:=(pg.1 hr).1;unfold qC;have hd:decide ((i:Int)<((m.Rows.length:Nat):Int))=true:=by simpa using hi
  rw[hd,cond_true,zK,bdT hr];by_cases hlen:(r.length:Int)=m.Inputs
  ·have hne:(((r.length:Nat):Int) != m.Inputs)=false:=by simpa using hlen
   rw[hne,cond_false,bdT (z75 m r (by omega))];have:z8H m r=r.all (z6Z m):=by simp[z8H,hlen]
   rw[this];cases r.all (z6Z m)<;>rfl
  have hne:(((r.length:Nat):Int) !=m.Inputs)=true:=by simpa using hlen
  rw[hne,cond_true];have:z8H m r=false:=by simp[z8H,hlen]
  rw[this];rfl
 unfold qC;simp
def z8G (m:z6):ye (λ_ r=>if z8H m r=true then none else some (1:Int)) m.Rows 0=if m.Rows.all (z8H m)=true then none else some 1:=by
 by_cases h:m.Rows.all (z8H m)=true
 ·rw[if_pos h];refine Xv λi r hr=>?_;rw[if_pos (gB.1 h r (pH hr))]
 rw[if_neg h];cases hf:ye (λ_ r=>if z8H m r=true then none else some (1:Int)) m.Rows 0 with
 |some q=>
  obtain⟨i,x,h1,h2⟩:=jB hf;split at h2
  ·cases h2
  exact h2.symm▸rfl
 |none=>
  exfalso;apply h;rw[gB];intro x hx;obtain⟨i,hi⟩:=rA hx;have:=kX hf i x hi;by_cases h:z8H m x=true
  ·exact h
  rw[if_neg h]at this;cases this
def YM (m:z6):yT m=some (chk m):=by
 unfold yT chk;by_cases h1:m.Inputs>16
 ·simp[h1]
 by_cases h2:m.Outputs>16
 ·simp[nE,h1,h2]
 by_cases h3:(m.Rows.length:Int)>64
 ·simp[nE,h1,h2,h3]
 rw[if_neg (by simp[nE,h1,h2,h3])];by_cases h4:m.Inputs<1
 ·simp[nE,h1,h2,h3,h4]
 by_cases h5:m.Outputs<1
 ·simp[nE,h1,h2,h3,h4,h5]
 by_cases h6:m.Rows.length=0
 ·simp[nE,h1,h2,h4,h5,h6]
 rw[if_neg (by simp[h4,h5,h6])];have h6':decide (((m.Rows.length:Nat):Int)<1)=false:=by simp;omega
 have e1:decide (m.Inputs>16)=false:=by simpa using h1
 have e2:decide (m.Outputs>16)=false:=by simpa using h2
 have e3:decide (((m.Rows.length:Nat):Int)>64)=false:=by simpa using h3
 have e4:decide (m.Inputs<1)=false:=by simpa using h4
 have e5:decide (m.Outputs<1)=false:=by simpa using h5
 simp only[e1,e2,e3,e4,e5,h6',cond_false];rw[bdT (z8Y (by omega) (by omega)),z8G];by_cases h:m.Rows.all (z8H m)=true
 ·rw[if_pos h,if_pos h];rfl
 rw[if_neg h,if_neg h];rfl
structure VM (m:z6):Prop where
 in1:1<=m.Inputs
 in16:m.Inputs<=16
 out1:1<=m.Outputs
 out16:m.Outputs<=16
 len1:1<=m.Rows.length
 len64:m.Rows.length<=64
 row:∀r∈m.Rows,(r.length:Int)=m.Inputs
 edge:∀r∈m.Rows,∀x∈r,(x.To=-1/\x.Out=-1)\/(0<=x.To/\x.To<(m.Rows.length:Int)/\0<=x.Out/\x.Out<m.Outputs)
def K3 (h:VM m):chk m=0:=by
 unfold chk;have:=h.in1;have:=h.in16;have:=h.out1;have:=h.out16;have:=h.len1;have:=h.len64;rw[if_neg (by omega),if_neg (by omega),if_pos];rw[gB];intro r hr;simp only[z8H,pF,decide_eq_true_eq,gB];refine⟨h.row r hr,λx hx=>?_⟩;simp only[z6Z,mc,pF,beq_iff_eq,decide_eq_true_eq];rcases h.edge r hr x hx with⟨a,b⟩|⟨a,b,c,d⟩
 ·exact .inl ⟨a,b⟩
 exact .inr ⟨⟨⟨a,b⟩,c⟩,d⟩
def kk (m:z6):Nat:=m.Inputs.toNat
def E (m:z6)(s i:Nat):z7:=((m.Rows[s]?.getD [])[i]?).getD ⟨-1,-1⟩
variable {s i:Nat}{β:Type}
section
variable {m:z6}(h:VM m)
include h
theorem VM.kk_eq:((kk m:Nat):Int)=m.Inputs:=by have:=h.in1;unfold kk;omega
theorem VM.kk_pos:1<=kk m:=by have:=h.in1;unfold kk;omega
theorem VM.kk_le:kk m<=16:=by have:=h.in16;unfold kk;omega
theorem VM.rowAt {s:Nat}(hs:s<m.Rows.length):∃r,m.Rows[s]?=some r/\r.length=kk m/\∀i,i<kk m->r[i]?=some (E m s i):=by
 have hr:=pf hs;have hl:=h.row _ (pN hs);have hl':m.Rows[s].length=kk m:=by unfold kk;omega
 refine⟨_,hr,hl',λi hi=>?_⟩;have hi':i<m.Rows[s].length:=by omega
 unfold E;rw[hr];simp only[pV];rw[pf hi'];rfl
theorem VM.edgeAt (hs:s<m.Rows.length)(hi:i<kk m):((E m s i).To=-1/\(E m s i).Out=-1)\/(0<=(E m s i).To/\(E m s i).To<(m.Rows.length:Int)/\0<=(E m s i).Out/\(E m s i).Out<m.Outputs):=by obtain⟨r,h1,_,h2⟩:=h.rowAt hs;exact h.edge r (pH h1) _ (pH (h2 i hi))
theorem VM.edge_eq (hs:s<m.Rows.length)(hi:i<kk m)  {f:z7->Option β} :
  (Option.bind (idx m.Rows (s:Int)) λr=>Option.bind (idx r (i:Int)) f)=f (E m s i):=by
 obtain⟨r,h1,_,h2⟩:=h.rowAt hs;rw[zK,h1,oB,zK,h2 i hi,oB]
end
section
variable {K V:Type}[BEq K][LawfulBEq K]
def z0v (l:List (K×V))(x y:K)(v:V):WK (z1F l x v) y=if(x==y)=true then some v else WK l y:=by
 induction l with
 |nil=>simp only[z1F,WK]
 |cons p l ih=>
  simp only[z1F];by_cases h:p.1=x
  ·rw[if_pos (by simpa using h)];simp only[WK];by_cases q:x=y
   ·rw[if_pos (by simpa using q),if_pos (by simpa using q)]
   rw[if_neg (by simpa using q),if_neg (by simpa using q),if_neg (by rw[h];simpa using q)]
  rw[if_neg (by simpa using h)];simp only[WK,ih];by_cases q:p.1=y
  ·have q':¬x=y:=by rintro rfl;exact h q
   have e1:(p.1==y)=true:=by simpa using q
   have e2:(x==y)=false:=by simpa using q'
   simp[e1,e2]
  have e1:(p.1==y)=false:=by simpa using q
  simp[e1]
end
def Xp:∀(n:Nat) (l:TC),l.Nodup->(∀x∈l,x<n)->l.length<=n
 |0,l,_,h=>by
  cases l with
  |nil=>simp
  |cons x l=>have:=h x (by simp);omega
 |n+1,l,hd,h=>by
  by_cases hm:n∈l
  ·have h1:=rF hm;have h2:=Xp n (l.erase n) (hd.erase n) λx hx=>by have h3:=(hd.mem_erase_iff).1 hx;have:=h x h3.2;have:=h3.1;omega
   have:0<l.length:=List.length_pos_of_mem hm;omega
  have:=Xp n l hd λx hx=>by have:=h x hx;have:x≠n:=λe=>hm (e▸hx);omega
  omega
def wz (a b:z6)(p:Nat×Nat)(i:Nat):Bool:=(E a p.1 i).Out !=(E b p.2 i).Out
def nxP (a b:z6)(p:Nat×Nat)(i:Nat):Option (Nat×Nat):=if 0<=(E a p.1 i).To/\0<=(E b p.2 i).To then some ((E a p.1 i).To.toNat,(E b p.2 i).To.toNat) else none
abbrev LL:=List ((Nat×Nat)×TC)
def zoQ (a b:z6)(L:LL):Prop:=(L.map (·.1)).Nodup/\∀x∈L,x.1.1<a.Rows.length/\x.1.2<b.Rows.length
def z1N {a b:z6}(hab:a.Inputs=b.Inputs):kk a=kk b:=by unfold kk;rw[hab]
structure WM (m:z6):Prop where
 in1:1<=m.Inputs
 in16:m.Inputs<=16
 len1:1<=m.Rows.length
 len:m.Rows.length<=128
 row:∀r∈m.Rows,(r.length:Int)=m.Inputs
 edge:∀r∈m.Rows,∀x∈r,(x.To=-1/\x.Out=-1)\/(0<=x.To/\x.To<(m.Rows.length:Int)/\0<=x.Out)
def VM.wm (h:VM m):WM m:=⟨h.in1,h.in16,h.len1,by have:=h.len64;omega,h.row,λr hr x hx=>by
 rcases h.edge r hr x hx with g|⟨g1,g2,g3,_⟩
 ·exact .inl g
 exact .inr ⟨g1,g2,g3⟩⟩
section
variable {m:z6}(h:WM m)
include h
theorem WM.kk_eq:((kk m:Nat):Int)=m.Inputs:=by have:=h.in1;unfold kk;omega
theorem WM.kk_le:kk m<=16:=by have:=h.in16;unfold kk;omega
theorem WM.rowAt {s:Nat}(hs:s<m.Rows.length):∃r,m.Rows[s]?=some r/\r.length=kk m/\∀i,i<kk m->r[i]?=some (E m s i):=by
 have hr:=pf hs;have hl:=h.row _ (pN hs);have hl':m.Rows[s].length=kk m:=by unfold kk;omega
 refine⟨_,hr,hl',λi hi=>?_⟩;have hi':i<m.Rows[s].length:=by omega
 unfold E;rw[hr];simp only[pV];rw[pf hi'];rfl
theorem WM.edgeAt (hs:s<m.Rows.length)(hi:i<kk m):((E m s i).To=-1/\(E m s i).Out=-1)\/(0<=(E m s i).To/\(E m s i).To<(m.Rows.length:Int)/\0<=(E m s i).Out):=by obtain⟨r,h1,_,h2⟩:=h.rowAt hs;exact h.edge r (pH h1) _ (pH (h2 i hi))
theorem WM.edge_eq (hs:s<m.Rows.length)(hi:i<kk m)  {f:z7->Option β} :
  (Option.bind (idx m.Rows (s:Int)) λr=>Option.bind (idx r (i:Int)) f)=f (E m s i):=by
 obtain⟨r,h1,_,h2⟩:=h.rowAt hs;rw[zK,h1,oB,zK,h2 i hi,oB]
theorem WM.nx_in {p:Nat×Nat}{i:Nat}{q:Nat×Nat}(h1:p.1<m.Rows.length)(h2:p.2<m.Rows.length)(hi:i<kk m)(hq:nxP m m p i=some q):q.1<m.Rows.length/\q.2<m.Rows.length:=by
 unfold nxP at hq;split at hq
 ·rename_i hc;cases hq;have a:=h.edgeAt h1 hi;have b:=h.edgeAt h2 hi;simp only;omega
 cases hq
end
def mkb (k:Nat)(bad:Nat×Nat->Nat->Bool)(nx:Nat×Nat->Nat->Option (Nat×Nat)):Nat->Nat×Nat->Bool
 |0,_=>false
 |n+1,p=>mkb k bad nx n p ||(List.range k).any λi=>bad p i ||(match nx p i with|some q=>mkb k bad nx n q|none=>false)
def Vb (k:Nat)(bad:Nat×Nat->Nat->Bool)(nx:Nat×Nat->Nat->Option (Nat×Nat)):∀(n:Nat) (p:Nat×Nat),mkb k bad nx n p=true↔Mk k bad nx n p
 |0,p=>by simp[mkb,Mk]
 |n+1,p=>by
  simp only[mkb,Mk,mc,rG,gK,Vb k bad nx n p];constructor
  ·rintro(h|⟨i,hi,h|h⟩)
   ·exact .inl h
   ·exact .inr ⟨i,hi,.inl h⟩
   cases hq:nx p i with
   |none=>rw[hq]at h;cases h
   |some q=>rw[hq]at h;exact .inr ⟨i,hi,.inr ⟨q,hq,(Vb k bad nx n q).1 h⟩⟩
  rintro(h|⟨i,hi,h|⟨q,hq,h⟩⟩)
  ·exact .inl h
  ·exact .inr ⟨i,hi,.inl h⟩
  exact .inr ⟨i,hi,.inr (by rw[hq];exact(Vb k bad nx n q).2 h)⟩
def tab (N:Nat)(f:Nat->Nat->Bool):List (List Bool):=(List.range N).map λs=>(List.range N).map λt=>f s t
def z59 {N s t:Nat}(f:Nat->Nat->Bool)(hs:s<N)(ht:t<N)  {g:Bool->Option β}:(Option.bind (idx (tab N f) (s:Int)) λr=>Option.bind (idx r (t:Int)) g)=g (f s t):=by
 have e1:(tab N f)[s]?=some ((List.range N).map λt=>f s t):=by simp[tab,hs]
 have e2:((List.range N).map λt=>f s t)[t]?=some (f s t):=by simp[ht]
 rw[zK,e1,oB,zK,e2,oB]
def z9v (N t:Nat)(g:Nat->α)(v:α):((List.range N).map g).set t v=(List.range N).map λx=>if x=t then v else g x:=by
 refine List.ext_getElem (by simp) λn h1 h2=>?_;simp only[List.getElem_set,List.getElem_map,List.getElem_range];by_cases e:t=n
 ·rw[if_pos e,if_pos e.symm]
 rw[if_neg e,if_neg (nP e)]
def UV (m:z6)(f:Nat->Nat->Bool)(p:Nat×Nat)(i:Nat):Bool:=wz m m p i ||(match nxP m m p i with|some q=>f q.1 q.2|none=>false)
def zet (h:WM m)(f:Nat->Nat->Bool){s t:Nat}(hs:s<m.Rows.length)(ht:t<m.Rows.length) :
  V2 m (tab m.Rows.length f) (s:Int) (t:Int)=some (if(List.range (kk m)).any (UV m f (s,t))=true then 1 else 0):=by
 have hk:=h.kk_eq;have k16:=h.kk_le;have hl:loop (λq=>ZL m (tab m.Rows.length f) (s:Int) (t:Int) q) 0=some (oS (ye (λ_ i=>if UV m f (s,t) i=true then some (1:Int) else none) (List.range (kk m)) 0)):=by
  refine wU (List.range (kk m)) (by simp;omega) _ ?_ ?_
  ·intro i x hx;have hi:i<kk m:=by have:=(pg.1 hx).1;simpa using this
   have:x=i:=by rw[s8 hi]at hx;exact(Option.some.inj hx).symm
   subst this;unfold ZL qN;have hd:decide ((x:Int)<m.Inputs)=true:=by rw[<-hk];simpa using hi
   rw[hd,cond_true,h.edge_eq hs hi,h.edge_eq ht hi];have e1:=h.edgeAt hs hi;have e2:=h.edgeAt ht hi;by_cases hbad:(E m s x).Out=(E m t x).Out
   ·have n1:((E m s x).Out !=(E m t x).Out)=false:=by simpa using hbad
    rw[n1,cond_false];by_cases t1:(E m s x).To>=0
    ·by_cases t2:(E m t x).To>=0
     ·have hnx:nxP m m (s,t) x=some ((E m s x).To.toNat,(E m t x).To.toNat):=by unfold nxP;rw[if_pos ⟨t1,t2⟩]
      have hin:=h.nx_in hs ht hi hnx;have c1:(E m s x).To=(((E m s x).To.toNat:Nat):Int):=by omega
      have c2:(E m t x).To=(((E m t x).To.toNat:Nat):Int):=by omega
      have ht1:UV m f (s,t) x=f (E m s x).To.toNat (E m t x).To.toNat:=by unfold UV wz;rw[hnx];simp only[n1,nH]
      rw[decide_eq_true t1,decide_eq_true t2];simp only[cond_true];have:=z59 f hin.1 hin.2 (g:=λv=>bif v then some (LR.done (Sum.inr (1:Int)):LR Int (Unit⊕Int)) else some (LR.next (w64 ((x:Int)+1))));rw[<-c1,<-c2]at this;rw[this,ht1];cases f (E m s x).To.toNat (E m t x).To.toNat<;>rfl
     have ht1:UV m f (s,t) x=false:=by unfold UV wz nxP;rw[if_neg (by simp only;omega)];simp only[n1,nH]
     rw[decide_eq_true t1,decide_eq_false t2,ht1];rfl
    have ht1:UV m f (s,t) x=false:=by unfold UV wz nxP;rw[if_neg (by simp only;omega)];simp only[n1,nH]
    rw[decide_eq_false t1,ht1];rfl
   have n1:((E m s x).Out !=(E m t x).Out)=true:=by simpa using hbad
   have ht1:UV m f (s,t) x=true:=by unfold UV wz;simp only[n1,Bool.true_or]
   rw[n1,ht1];rfl
  unfold ZL;rw[List.length_range,hk];simp
 unfold V2;rw[bdT hl];cases hf:ye (λ(_:Nat) i=>if UV m f (s,t) i=true then some (1:Int) else none) (List.range (kk m)) 0 with
 |some q=>
  obtain⟨i,x,h1,h2⟩:=jB hf;split at h2
  ·rename_i hx;cases h2;have:(List.range (kk m)).any (UV m f (s,t))=true:=rG.2 ⟨x,pH h1,hx⟩;rw[if_pos this];rfl
  cases h2
 |none=>
  have:¬(List.range (kk m)).any (UV m f (s,t))=true:=by rw[rG];rintro⟨x,hx,hx2⟩;obtain⟨i,hi⟩:=rA hx;have:=kX hf i x hi;rw[if_pos hx2]at this;cases this
  rw[if_neg this];rfl
def z9O (N:Nat):List.replicate ((N:Nat):Int).toNat false=(List.range N).map λ_=>false:=by refine List.ext_getElem (by simp) λn h1 h2=>?_;simp
def XE (m:z6)(f:Nat->Nat->Bool)(s t:Nat):Bool:=f s t ||(List.range (kk m)).any (UV m f (s,t))
def zd7 (h:WM m)(f:Nat->Nat->Bool):loop (λq=>uY m (tab m.Rows.length f) q.1 q.2) (([]:List (List Bool)),0)=some (tab m.Rows.length (XE m f)):=by
 have l128:=h.len;have row:∀(s:Nat),s<m.Rows.length->loop (λq=>uX m (tab m.Rows.length f) (s:Int) q.1 q.2) (((List.range s).map λs=>(List.range m.Rows.length).map λt=>XE m f s t)++[(List.range m.Rows.length).map λ_=>false],0)=some ((List.range (s+1)).map λs=>(List.range m.Rows.length).map λt=>XE m f s t):=by
  intro s hs;have hst:=vh (step:=λq=>uX m (tab m.Rows.length f) (s:Int) q.1 q.2) (λt:Nat=>(((List.range s).map λs=>(List.range m.Rows.length).map λt=>XE m f s t)++[(List.range m.Rows.length).map λt'=>if t' < t then XE m f s t' else false],(t:Int))) m.Rows.length (t:=(List.range (s+1)).map λs=>(List.range m.Rows.length).map λt=>XE m f s t) (by omega) ?_ ?_
  ·simpa using hst
  ·intro t ht;unfold uX;have hd:decide ((t:Int)<((m.Rows.length:Nat):Int))=true:=by simpa using ht
   have hw:w64 ((t:Int)+1)=((t+1:Nat):Int):=by rw[zC (by omega) (by omega)];rfl
   simp only[hd,cond_true];have e1:(((List.range s).map λs=>(List.range m.Rows.length).map λt=>XE m f s t)++[(List.range m.Rows.length).map λt'=>if t' < t then XE m f s t' else false])[s]?=some ((List.range m.Rows.length).map λt'=>if t' < t then XE m f s t' else false):=by rw[pD (by simp)];simp
   have e2:∀x,((List.range m.Rows.length).map λt'=>if t' < t then XE m f s t' else false)[t]?=some x↔x=false:=by intro x;simp[ht,eq_comm]
   have e2':=(e2 false).2 rfl;have fin:∀v:Bool,v=XE m f s t->(((List.range s).map λs=>(List.range m.Rows.length).map λt=>XE m f s t)++[(List.range m.Rows.length).map λt'=>if t' < t then XE m f s t' else false]).set s (((List.range m.Rows.length).map λt'=>if t' < t then XE m f s t' else false).set t v)=((List.range s).map λs=>(List.range m.Rows.length).map λt=>XE m f s t)++[(List.range m.Rows.length).map λt'=>if t' < t+1 then XE m f s t' else false]:=by
    intro v hv;rw[List.set_append,if_neg (by simp),z9v];simp only[hZ,List.length_range,rE,rN];congr 3;funext x;by_cases e:x=t
    ·subst e;rw[if_pos rfl,if_pos (by omega)];exact hv
    rw[if_neg e];by_cases g:x<t
    ·rw[if_pos g,if_pos (by omega)]
    rw[if_neg g,if_neg (by omega)]
   rw[zK,bdT e1,z59 f hs ht];cases hf:f s t with
   |true=>simp only[cond_true];rw[zK,bdT e2',hw,po,po,fin true (by simp[XE,hf])]
   |false=>simp only[cond_false];rw[bdT (zet h f hs ht),zK,bdT e2',hw,po,po,fin _ ?_];unfold XE;rw[hf,nH];cases (List.range (kk m)).any (UV m f (s,t))<;>rfl
  unfold uX;simp only[rl,decide_false,cond_false];congr 3;rw[nM,gL];congr 1;simp only[gF,nA];congr 1;refine mG λx hx=>?_;rw[if_pos (gK.1 hx)]
 have:=vh (step:=λq=>uY m (tab m.Rows.length f) q.1 q.2) (λs:Nat=>((List.range s).map λs=>(List.range m.Rows.length).map λt=>XE m f s t,(s:Int))) m.Rows.length (t:=tab m.Rows.length (XE m f)) (by omega) ?_ ?_
 ·exact this
 ·intro s hs;unfold uY Xh;have hd:decide ((s:Int)<((m.Rows.length:Nat):Int))=true:=by simpa using hs
  have hw:w64 ((s:Int)+1)=((s+1:Nat):Int):=by rw[zC (by omega) (by omega)];rfl
  simp only[hd,cond_true];rw[gdT (by omega),gdT (by simp;omega),z9O,bdT (row s hs),hw]
 unfold uY;simp only[rl,decide_false,cond_false];rfl
def mrk (m:z6)(n s t:Nat):Bool:=mkb (kk m) (wz m m) (nxP m m) n (s,t)
def zdo (m:z6)(n:Nat):XE m (mrk m n)=mrk m (n+1):=by funext s t;unfold XE mrk;simp only[mkb];congr 1
def z1I (h:WM m)(n:Nat)(hn:n<=1000000):jL m (n:Int)=some (tab m.Rows.length (mrk m n)):=by
 have l128:=h.len;have l9:loop (λq=>uW m q.1 q.2) (([]:List (List Bool)),0)=some (tab m.Rows.length (mrk m 0)):=by
  have:=vh (step:=λq=>uW m q.1 q.2) (λs:Nat=>((List.range s).map λ_=>(List.range m.Rows.length).map λ_=>false,(s:Int))) m.Rows.length (t:=tab m.Rows.length (mrk m 0)) (by omega) ?_ ?_
  ·exact this
  ·intro s hs;unfold uW;have hd:decide ((s:Int)<((m.Rows.length:Nat):Int))=true:=by simpa using hs
   have hw:w64 ((s:Int)+1)=((s+1:Nat):Int):=by rw[zC (by omega) (by omega)];rfl
   simp only[hd,cond_true];rw[gdT (by omega),gdT (by simp;omega),z9O,hw,nM,gL];rfl
  unfold uW;simp only[rl,decide_false,cond_false];rfl
 have l3:=vh (step:=λq=>uZ m (n:Int) q.1 q.2) (λr:Nat=>(tab m.Rows.length (mrk m r),(r:Int))) n (t:=tab m.Rows.length (mrk m n)) (by omega) ?_ ?_
 ·unfold jL Xl Xk;rw[bdT l9];have l3':loop (λq=>uZ m (n:Int) q.1 q.2) (tab m.Rows.length (mrk m 0),0)=some (tab m.Rows.length (mrk m n)):=l3;rw[bdT l3']
 ·intro r hr;unfold uZ Xi Xj;have hd:decide ((r:Int)<(n:Int))=true:=by simpa using hr
  have hw:w64 ((r:Int)+1)=((r+1:Nat):Int):=by rw[zC (by omega) (by omega)];rfl
  simp only[hd,cond_true];rw[bdT (zd7 h (mrk m r)),zdo,hw]
 unfold uZ;simp only[rl,decide_false,cond_false]
def JP (h:WM m){s t:Nat}(hs:s<m.Rows.length)(ht:t<m.Rows.length){j:Nat}(hj:Mk (kk m) (wz m m) (nxP m m) j (s,t)):Mk (kk m) (wz m m) (nxP m m) (m.Rows.length-1) (s,t):=by
 refine pZ λhno=>?_;have same:∀{p:Nat×Nat} {i:Nat},p.1<m.Rows.length->p.2<m.Rows.length->i<kk m->wz m m p i=false->((E m p.1 i).To>=0↔(E m p.2 i).To>=0):=by
  intro p i h1 h2 hi hb;have e:(E m p.1 i).Out=(E m p.2 i).Out:=by simpa[wz] using hb
  have a:=h.edgeAt h1 hi;have b:=h.edgeAt h2 hi;omega
 have symm:∀k s t,Mk (kk m) (wz m m) (nxP m m) k (s,t)->Mk (kk m) (wz m m) (nxP m m) k (t,s):=by
  intro k;induction k with
  |zero=>intro s t h;exact h
  |succ k ih=>
   rintro s t (h|⟨i,hi,h|⟨q,hq,h⟩⟩)
   ·exact .inl (ih _ _ h)
   ·exact .inr ⟨i,hi,.inl (by unfold wz at h⊢;simp only[bne_iff_ne,ne_eq]at h⊢;exact λe=>h e.symm)⟩
   refine .inr ⟨i,hi,.inr ⟨(q.2,q.1),?_,ih _ _ h⟩⟩;unfold nxP at hq⊢;split at hq
   ·rename_i hc;cases hq;rw[if_pos ⟨hc.2,hc.1⟩]
   cases hq
 have trans:∀k s t u,s<m.Rows.length->t<m.Rows.length->u<m.Rows.length->Mk (kk m) (wz m m) (nxP m m) k (s,u)->Mk (kk m) (wz m m) (nxP m m) k (s,t)\/Mk (kk m) (wz m m) (nxP m m) k (t,u):=by
  intro k;induction k with
  |zero=>intro s t u _ _ _ h;exact h.elim
  |succ k ih=>
   rintro s t u hs ht hu (g|⟨i,hi,g|⟨q,hq,g⟩⟩)
   ·rcases ih s t u hs ht hu g with g|g
    ·exact .inl (.inl g)
    exact .inr (.inl g)
   ·cases b1:wz m m (s,t) i with
    |true=>exact .inl (.inr ⟨i,hi,.inl b1⟩)
    |false=>refine .inr (.inr ⟨i,hi,.inl ?_⟩);unfold wz at b1 g⊢;simp only[bne_iff_ne,ne_eq,bne_eq_false_iff_eq]at b1 g⊢;rw[<-b1];exact g
   cases b1:wz m m (s,t) i with
   |true=>exact .inl (.inr ⟨i,hi,.inl b1⟩)
   |false=>
    cases b2:wz m m (t,u) i with
    |true=>exact .inr (.inr ⟨i,hi,.inl b2⟩)
    |false=>
     have c1:=same (p:=(s,t)) hs ht hi b1;have c2:=same (p:=(t,u)) ht hu hi b2;simp only at c1 c2;unfold nxP at hq;split at hq
     ·rename_i hc;cases hq;simp only at hc g;have e1:=h.edgeAt hs hi;have e2:=h.edgeAt ht hi;have e3:=h.edgeAt hu hi;rcases ih (E m s i).To.toNat (E m t i).To.toNat (E m u i).To.toNat (by omega) (by omega) (by omega) g with g|g
      ·exact .inl (.inr ⟨i,hi,.inr ⟨_,by unfold nxP;rw[if_pos ⟨hc.1,by simp only;omega⟩],g⟩⟩)
      exact .inr (.inr ⟨i,hi,.inr ⟨_,by unfold nxP;rw[if_pos ⟨by simp only;omega,hc.2⟩],g⟩⟩)
     cases hq
 have refl:∀k s,¬Mk (kk m) (wz m m) (nxP m m) k (s,s):=by
  intro k;induction k with
  |zero=>intro s h;exact h
  |succ k ih=>
   rintro s (g|⟨i,hi,g|⟨q,hq,g⟩⟩)
   ·exact ih s g
   ·simp[wz]at g
   unfold nxP at hq;split at hq
   ·cases hq;exact ih _ g
   cases hq
 exact zod (N:=m.Rows.length) h.len1 (λk s t=>¬Mk (kk m) (wz m m) (nxP m m) k (s,t)) (λk s t _ _ g q=>g (symm k t s q)) (λk s t u hs ht hu g1 g2 q=>by
   rcases trans k s t u hs ht hu q with g|g
   ·exact g1 g
   ·exact g2 g) (λk s _=>refl k s) (λk s t _ _ g q=>g (.inl q)) (λk hk s t hs ht g q=>by
   rcases q with q|⟨i,hi,q|⟨r,hr,q⟩⟩
   ·exact g q
   ·exact g (.inr ⟨i,hi,.inl q⟩)
   have hin:=h.nx_in (p:=(s,t)) hs ht hi hr;have:Mk (kk m) (wz m m) (nxP m m) k r:=pZ λc=>hk r.1 r.2 hin.1 hin.2 c q;exact g (.inr ⟨i,hi,.inr ⟨r,hr,this⟩⟩)) s t hs ht hno j hj
def z6L {a k:Int}(h0:0<=a)(hk:1<=k)(hk2:k<=1000000):1<=w64 (1+w64 (Int.tmod a k))/\w64 (1+w64 (Int.tmod a k))<=k:=by have h1:=s9 k h0;have h2:=sw a (show 0<k by omega);rw[zC (x:=Int.tmod a k) (by omega) (by omega),zC (by omega) (by omega)];omega
def shE (n:Nat)(x:z7):z7:=if x.To>=0 then⟨x.To+(n:Int),x.Out⟩ else x
def bes (a b:z6):z6:=⟨a.Inputs,mx a.Outputs b.Outputs,a.Rows++b.Rows.map (List.map (shE a.Rows.length))⟩
section
variable {a b:z6}(va:VM a)(vb:VM b)(hab:a.Inputs=b.Inputs)
theorem z4y:(bes a b).Rows.length=a.Rows.length+b.Rows.length:=by simp[bes]
include va vb hab
theorem zkz:WM (bes a b):=by
 have:=va.len64;have:=vb.len64;have:=va.len1;refine⟨va.in1,va.in16,by rw[z4y];omega,by rw[z4y];omega,λr hr=>?_,λr hr x hx=>?_⟩
 ·simp only[bes]at hr ⊢;rcases ph.1 hr with g|g
  ·exact va.row r g
  obtain⟨r',h1,rfl⟩:=pR.1 g;rw[hZ,hab];exact vb.row r' h1
 rw[z4y];simp only[bes]at hr;rcases ph.1 hr with g|g
 ·rcases va.edge r g x hx with q|⟨q1,q2,q3,_⟩
  ·exact .inl q
  exact .inr ⟨q1,by omega,q3⟩
 obtain⟨r',h1,rfl⟩:=pR.1 g;obtain⟨x',h2,rfl⟩:=pR.1 hx;unfold shE;rcases vb.edge r' h1 x' h2 with q|⟨q1,q2,q3,_⟩
 ·rw[if_neg (by omega)];exact .inl q
 rw[if_pos q1];exact .inr ⟨by simp only;omega,by simp only;omega,q3⟩
end
def z8k {a b:z6}  (hs:s<a.Rows.length):E (bes a b) s i=E a s i:=by unfold E bes;simp only;rw[pC hs]
def z6d {a b:z6}(vb:VM b)  (hs:s<b.Rows.length)(hi:i<kk b):E (bes a b) (a.Rows.length+s) i=shE a.Rows.length (E b s i):=by obtain⟨r,h1,h2,h3⟩:=vb.rowAt hs;unfold E bes;simp only;rw[pD (by omega),mI,gD,h1];simp only[gA,pV];rw[gD];have h3:=h3 i hi;rw[h3];rfl
def zgk (n:Nat)(x:z7):(shE n x).Out=x.Out:=by unfold shE;split<;>rfl
def zbh {a b:z6}(va:VM a)(vb:VM b):XR a b=some (bes a b):=by
 have la:=va.len64;have lb:=vb.len64;have k16:=vb.kk_le;have hk:=vb.kk_eq;have l8:loop (λs=>uS a s.1 s.2) (([]:List (List z7)),0)=some a.Rows:=by
  have:=vh (step:=λs=>uS a s.1 s.2) (λi:Nat=>(a.Rows.take i,(i:Int))) a.Rows.length (t:=a.Rows) (by omega) ?_ ?_
  ·exact this
  ·intro i hi;have hx:a.Rows[i]?=some a.Rows[i]:=pf hi;have hd:decide ((i:Int)<((a.Rows.length:Nat):Int))=true:=by simpa using hi
   have hw:w64 ((i:Int)+1)=((i+1:Nat):Int):=by rw[zC (by omega) (by omega)];rfl
   simp only[uS,hd,cond_true];rw[zK,bdT hx,gdT (by simp;omega),hw,gE,hx];rfl
  simp only[uS,rl,decide_false,cond_false,mb]
 have l6:∀s:Nat,s<b.Rows.length->loop (λq=>uT a b (s:Int) q.1 q.2) (([]:List z7),0)=some ((List.range (kk b)).map λi=>shE a.Rows.length (E b s i)):=by
  intro s hs;have:=vh (step:=λq=>uT a b (s:Int) q.1 q.2) (λi:Nat=>((List.range i).map λi=>shE a.Rows.length (E b s i),(i:Int))) (kk b) (t:=(List.range (kk b)).map λi=>shE a.Rows.length (E b s i)) (by omega) ?_ ?_
  ·exact this
  ·intro i hi;have hd:decide ((i:Int)<b.Inputs)=true:=by rw[<-hk];simpa using hi
   have hw:w64 ((i:Int)+1)=((i+1:Nat):Int):=by rw[zC (by omega) (by omega)];rfl
   simp only[uT,hd,cond_true];rw[vb.edge_eq hs hi];have hed:=vb.edgeAt hs hi;unfold kJ;have gl:∀e:z7,((List.range i).map λi=>shE a.Rows.length (E b s i)).length+([e]:List z7).length<=4294967296:=λe=>by simp;omega
   by_cases ht:(E b s i).To>=0
   ·have hw2:w64 ((E b s i).To+((a.Rows.length:Nat):Int))=(E b s i).To+(a.Rows.length:Int):=zC (by omega) (by omega);rw[decide_eq_true ht,cond_true,gdT (gl _),hw,hw2,nM,gL];simp only[gF,nA,shE,if_pos ht]
   rw[decide_eq_false ht,cond_false,gdT (gl _),hw,nM,gL];simp only[gF,nA,shE,if_neg ht]
  simp only[uT,hk,rl,decide_false,cond_false]
 have rowE:∀s:Nat,s<b.Rows.length->((List.range (kk b)).map λi=>shE a.Rows.length (E b s i))=(b.Rows.map (List.map (shE a.Rows.length)))[s]?.getD []:=by intro s hs;obtain⟨r,h1,h2,h3⟩:=vb.rowAt hs;rw[gD,h1];simp only[gA,pV];refine List.ext_getElem (by simp[h2]) λn g1 g2=>?_;simp only[List.getElem_map,List.getElem_range];have:=h3 n (by simpa using g1);rw[pf (by simpa using g2)]at this;rw[Option.some.inj this]
 have l3:loop (λs=>uU a b s.1 s.2) (a.Rows,0)=some (a.Rows++b.Rows.map (List.map (shE a.Rows.length))):=by
  have:=vh (step:=λs=>uU a b s.1 s.2) (λi:Nat=>(a.Rows++(b.Rows.map (List.map (shE a.Rows.length))).take i,(i:Int))) b.Rows.length (t:=a.Rows++b.Rows.map (List.map (shE a.Rows.length))) (by omega) ?_ ?_
  ·simpa using this
  ·intro i hi;have hd:decide ((i:Int)<((b.Rows.length:Nat):Int))=true:=by simpa using hi
   have hw:w64 ((i:Int)+1)=((i+1:Nat):Int):=by rw[zC (by omega) (by omega)];rfl
   simp only[uU,hd,cond_true];rw[bdT (l6 i hi)];unfold Xa Xb;rw[gdT (by simp;omega),hw,rowE i hi,gE];obtain⟨x,hx⟩:∃x,(b.Rows.map (List.map (shE a.Rows.length)))[i]?=some x:=⟨_,pf (by simpa using hi)⟩;rw[hx];simp only[pV,Option.toList_some,pJ]
  simp only[uU,rl,decide_false,cond_false];rw[mN (by simp)]
 unfold XR Xd Xc;rw[bdT l8,bdT l3];rfl
def phi (a:z6)(p:Nat×Nat):Nat×Nat:=(p.1,a.Rows.length+p.2)
def InP (a b:z6)(p:Nat×Nat):Prop:=p.1<a.Rows.length/\p.2<b.Rows.length
section
variable {a b:z6}(va:VM a)(vb:VM b)(hab:a.Inputs=b.Inputs)
include va vb hab
theorem zaG (p:Nat×Nat)(i:Nat)(q:Nat×Nat)(hp:InP a b p)(hi:i<kk a)(hq:nxP a b p i=some q):InP a b q:=by
 unfold nxP at hq;split at hq
 ·rename_i hc;cases hq;have h1:=va.edgeAt hp.1 hi;have h2:=vb.edgeAt hp.2 (by rw[<-z1N hab];exact hi);refine⟨?_,?_⟩<;>simp only<;>omega
 cases hq
theorem zbi (p:Nat×Nat)(i:Nat)(hp:InP a b p)(hi:i<kk a):wz (bes a b) (bes a b) (phi a p) i=wz a b p i:=by have:=va.in1;unfold wz phi;simp only;rw[z8k hp.1,z6d vb hp.2 (by rw[<-z1N hab];exact hi),zgk]
theorem zfs (p:Nat×Nat)(i:Nat)(hp:InP a b p)(hi:i<kk a):nxP (bes a b) (bes a b) (phi a p) i=(nxP a b p i).map (phi a):=by
 have:=va.in1;unfold nxP phi;simp only;rw[z8k hp.1,z6d vb hp.2 (by rw[<-z1N hab];exact hi)];by_cases h2:(E b p.2 i).To>=0
 ·by_cases h1:(E a p.1 i).To>=0
  ·rw[if_pos ⟨h1,by unfold shE;rw[if_pos h2];simp only;omega⟩,if_pos ⟨h1,h2⟩];unfold shE;rw[if_pos h2];exact congrArg some (rV rfl (by simp only;omega))
  rw[if_neg (by omega),if_neg (by omega)];rfl
 rw[if_neg (by unfold shE;rw[if_neg h2];omega),if_neg (by omega)];rfl
theorem zai (n:Nat)(p:Nat×Nat)(hp:InP a b p):Mk (kk a) (wz (bes a b) (bes a b)) (nxP (bes a b) (bes a b)) n (phi a p)↔Mk (kk a) (wz a b) (nxP a b) n p :=
 Q7 (phi a) (InP a b) (zaG va vb hab) (zbi va vb hab) (zfs va vb hab) n p hp
theorem z8Q (n:Nat)(p:Nat×Nat)(w:TC)(hp:InP a b p):QK (kk a) (wz (bes a b) (bes a b)) (nxP (bes a b) (bes a b)) n (phi a p) w->QK (kk a) (wz a b) (nxP a b) n p w :=
 z03 (phi a) (InP a b) (zaG va vb hab) (zbi va vb hab) (zfs va vb hab) n p w hp
def zoP (a b:z6)(r:TB×Bool):Prop :=
 (∃n w,Mk (kk a) (wz a b) (nxP a b) (n+1) (0,0)/\¬Mk (kk a) (wz a b) (nxP a b) n (0,0)/\QK (kk a) (wz a b) (nxP a b) (n+1) (0,0) w/\n+1<a.Rows.length+b.Rows.length/\r=(w.map Int.ofNat,true)) \/
 ((∀n,¬Mk (kk a) (wz a b) (nxP a b) n (0,0))/\r=([],false))
end
def z6u {n:Nat}{p:Nat×Nat}{i:Nat}:UV m (mrk m n) p i=true↔(wz m m p i=true\/∃q,nxP m m p i=some q/\Mk (kk m) (wz m m) (nxP m m) n q):=by
 unfold UV;rw[mc];constructor
 ·rintro(h|h)
  ·exact .inl h
  cases hq:nxP m m p i with
  |none=>rw[hq]at h;cases h
  |some q=>rw[hq]at h;exact .inr ⟨q,rfl,(Vb _ _ _ n q).1 h⟩
 rintro(h|⟨q,hq,h⟩)
 ·exact .inl h
 refine .inr ?_;rw[hq];exact(Vb _ _ _ n q).2 h
def zdj (h:WM m)  {p:Nat×Nat}(h1:p.1<m.Rows.length)(h2:p.2<m.Rows.length)(n w:Int)(ws:TB)(hw:ws.length<=1000)(hn:n=(k:Int)+1)(hk1:k<=1000)(hex:Mk (kk m) (wz m m) (nxP m m) (k+1) p)(hno:¬Mk (kk m) (wz m m) (nxP m m) k p) :
  Ret (loop (λs=>uR m (p.1:Int) (p.2:Int) n ws (tab m.Rows.length (mrk m k)) s) 0) λr=>∃i,i<kk m/\UV m (mrk m k) p i=true/\(∀j,j<i->UV m (mrk m k) p j=false)/\r=((E m p.1 i).To,(E m p.2 i).To,(k:Int),ws++[(i:Int)]):=by
 have hk:=h.kk_eq;have k16:=h.kk_le;obtain⟨i0,hi0,ht0⟩:∃i,i<kk m/\UV m (mrk m k) p i=true:=by
  rcases hex with g|⟨i,hi,g⟩
  ·exact(hno g).elim
  exact⟨i,hi,z6u.2 g⟩
 refine zG (λs=>∃i:Nat,s=(i:Int)/\i<=kk m/\∀j,j<i->UV m (mrk m k) p j=false) (λs=>100-s.toNat) ⟨0,rfl,pP _,λj hj=>by omega⟩ (by simp) ?_;rintro i' ⟨i,hi',hik,hall⟩;subst hi';unfold uR vA;rw[zu];refine⟨λhlt=>?_,λhge=>?_⟩
 ·have hlt:i<kk m:=by rw[<-hk]at hlt;simpa using hlt
  have hw1:w64 ((i:Int)+1)=((i+1:Nat):Int):=by rw[zC (by omega) (by omega)];rfl
  have hn1:w64 (n-1)=(k:Int):=by rw[zC (by omega) (by omega)];omega
  rw[h.edge_eq h1 hlt,h.edge_eq h2 hlt,hw1,hn1];have e1:=h.edgeAt h1 hlt;have e2:=h.edgeAt h2 hlt;have gl:ws.length+([(i:Int)]:TB).length<=4294967296:=by simp;omega
  have found:UV m (mrk m k) p i=true->Ret (some (.done ((E m p.1 i).To,(E m p.2 i).To,(k:Int),ws++[(i:Int)])):Option (LR Int (Int×Int×Int×TB))) (LRP (λs'=>(∃j:Nat,s'=(j:Int)/\j<=kk m/\∀l,l<j->UV m (mrk m k) p l=false)/\100-s'.toNat<100-(i:Int).toNat) (λr=>∃i,i<kk m/\UV m (mrk m k) p i=true/\(∀j,j<i->UV m (mrk m k) p j=false)/\r=((E m p.1 i).To,(E m p.2 i).To,(k:Int),ws++[(i:Int)]))) :=
   λht=>z8.2 ⟨i,hlt,ht,hall,rfl⟩
  have on:UV m (mrk m k) p i=false->Ret (some (.next ((i+1:Nat):Int)):Option (LR Int (Int×Int×Int×TB))) (LRP (λs'=>(∃j:Nat,s'=(j:Int)/\j<=kk m/\∀l,l<j->UV m (mrk m k) p l=false)/\100-s'.toNat<100-(i:Int).toNat) (λr=>∃i,i<kk m/\UV m (mrk m k) p i=true/\(∀j,j<i->UV m (mrk m k) p j=false)/\r=((E m p.1 i).To,(E m p.2 i).To,(k:Int),ws++[(i:Int)]))):=by
   intro ht;refine z8.2 ⟨⟨i+1,rfl,hlt,λj hj=>?_⟩,by omega⟩;by_cases e:j=i
   ·subst e;exact ht
   exact hall j (by omega)
  rw[zu];refine⟨λhb=>?_,λhb=>?_⟩
  ·rw[gdT gl];exact found (by unfold UV wz;rw[hb,Bool.true_or])
  rw[zu];refine⟨λt1=>?_,λt1=>?_⟩
  ·have t1:(E m p.1 i).To>=0:=of_decide_eq_true t1;rw[zu];refine⟨λt2=>?_,λt2=>?_⟩
   ·have t2:(E m p.2 i).To>=0:=of_decide_eq_true t2;have hnx:nxP m m p i=some ((E m p.1 i).To.toNat,(E m p.2 i).To.toNat):=by unfold nxP;rw[if_pos ⟨t1,t2⟩]
    have hin:=h.nx_in h1 h2 hlt hnx;have c1:(E m p.1 i).To=(((E m p.1 i).To.toNat:Nat):Int):=by omega
    have c2:(E m p.2 i).To=(((E m p.2 i).To.toNat:Nat):Int):=by omega
    have ht1:UV m (mrk m k) p i=mrk m k (E m p.1 i).To.toNat (E m p.2 i).To.toNat:=by unfold UV wz;rw[hnx,hb,nH]
    have:=z59 (mrk m k) hin.1 hin.2 (g:=λv=>bif v then gd (ws.length+([(i:Int)]:TB).length<=4294967296) (some (LR.done ((E m p.1 i).To,(E m p.2 i).To,(k:Int),ws++[(i:Int)])):Option (LR Int (Int×Int×Int×TB))) else some (LR.next ((i+1:Nat):Int)));rw[<-c1,<-c2]at this;refine(congrArg (λo=>Ret o _) this).mpr ?_;rw[zu];refine⟨λg=>?_,λg=>on (by rw[ht1];exact g)⟩;rw[gdT gl];exact found (by rw[ht1];exact g)
   have t2:¬(E m p.2 i).To>=0:=of_decide_eq_false t2;exact on (by unfold UV wz nxP;rw[hb,if_neg (by omega)];rfl)
  have t1:¬(E m p.1 i).To>=0:=of_decide_eq_false t1;exact on (by unfold UV wz nxP;rw[hb,if_neg (by omega)];rfl)
 have:i=kk m:=by rw[<-hk]at hge;simp at hge;omega
 have:=hall i0 (by omega);rw[ht0]at this;cases this
section
variable {a b:z6}(va:VM a)(vb:VM b)(hab:a.Inputs=b.Inputs)
include va vb hab
theorem zdc:Ret (Y3 a b) (zoP a b):=by
 have hm:=zkz va vb hab;have hN:=z4y (a:=a) (b:=b);have la:=va.len64;have lb:=vb.len64;have la1:=va.len1;have lb1:=vb.len1;have hp0:InP a b (0,0):=⟨va.len1,vb.len1⟩;have hkb:kk (bes a b)=kk a:=rfl;have z1:0<(bes a b).Rows.length:=by omega
 have z2:a.Rows.length<(bes a b).Rows.length:=by omega
 unfold Y3;rw[bdT (zbh va vb),zm];have l6:Ret (loop (λs=>uQ a (bes a b) s) 0) λr=>∃n:Nat,r=(n:Int)/\n<=(bes a b).Rows.length/\(∀j,j<n->mrk (bes a b) j 0 a.Rows.length=false)/\(n<(bes a b).Rows.length->mrk (bes a b) n 0 a.Rows.length=true):=by
  refine zG (λs=>∃n:Nat,s=(n:Int)/\n<=(bes a b).Rows.length/\∀j,j<n->mrk (bes a b) j 0 a.Rows.length=false) (λs=>1000-s.toNat) ⟨0,rfl,pP _,λj hj=>by omega⟩ (by simp) ?_;rintro n' ⟨n,hn,hnl,hall⟩;subst hn;unfold uQ;rw[zu];refine⟨λhlt=>?_,λhge=>?_⟩
  ·have hlt:n<(bes a b).Rows.length:=by simpa using hlt
   have hw:w64 ((n:Int)+1)=((n+1:Nat):Int):=by rw[zC (by omega) (by omega)];rfl
   rw[bdT (z1I hm n (by omega))];have:=z59 (mrk (bes a b) n) z1 z2 (g:=λv=>bif !v then(some (LR.next (w64 ((n:Int)+1))):Option (LR Int Int)) else some (LR.done (n:Int)));refine(congrArg (λo=>Ret o _) this).mpr ?_;rw[zu];refine⟨λg=>?_,λg=>?_⟩
   ·have g:mrk (bes a b) n 0 a.Rows.length=false:=by simpa using g
    rw[z8,hw];refine⟨⟨n+1,rfl,hlt,λj hj=>?_⟩,by omega⟩;by_cases e:j=n
    ·subst e;exact g
    exact hall j (by omega)
   have g:mrk (bes a b) n 0 a.Rows.length=true:=by simpa using g
   rw[z8];exact⟨n,rfl,hnl,hall,λ_=>g⟩
  have:n=(bes a b).Rows.length:=by simp at hge;omega
  rw[z8];exact⟨n,rfl,hnl,hall,λh=>by omega⟩
 refine l6.mono ?_;rintro n' ⟨n,hn,hnl,hall,hat⟩;subst hn;unfold kI kH;rw[zu];refine⟨λhe=>?_,λhne=>?_⟩
 ·have he:n=(bes a b).Rows.length:=by simp at he;omega
  rw[z8];refine .inr ⟨λj hj=>?_,rfl⟩;have h1:=(zai va vb hab j (0,0) hp0).2 hj;have h2:=JP hm (s:=0) (t:=a.Rows.length) z1 z2 h1;have h3:=hall ((bes a b).Rows.length-1) (by omega);have h4:=(Vb _ _ _ _ _).2 h2;unfold mrk at h3;rw[h3]at h4;cases h4
 have hne:n≠(bes a b).Rows.length:=by intro e;rw[e]at hne;simp at hne
 have hat:=hat (by omega);cases n with
 |zero=>simp[mrk,mkb]at hat
 |succ n=>
  have hmk:Mk (kk a) (wz (bes a b) (bes a b)) (nxP (bes a b) (bes a b)) (n+1) (phi a (0,0)):=(Vb _ _ _ _ _).1 hat;have hno:¬Mk (kk a) (wz (bes a b) (bes a b)) (nxP (bes a b) (bes a b)) n (phi a (0,0)):=by intro c;have h4:=(Vb _ _ _ _ _).2 c;have h3:=hall n (by omega);unfold mrk at h3;have h3':mkb (kk a) (wz (bes a b) (bes a b)) (nxP (bes a b) (bes a b)) n (phi a (0,0))=false:=h3;rw[h3']at h4;cases h4
  rw[zm];refine(zG (R:=λr=>∃w,QK (kk a) (wz (bes a b) (bes a b)) (nxP (bes a b) (bes a b)) (n+1) (phi a (0,0)) w/\r=w.map Int.ofNat) (λs=>∃(wn:TC),s.2.2.2=wn.map Int.ofNat/\wn.length<=200/\((s.2.2.1=0/\QK (kk a) (wz (bes a b) (bes a b)) (nxP (bes a b) (bes a b)) (n+1) (phi a (0,0)) wn) \/
   ∃(k:Nat) (p:Nat×Nat),s.2.2.1=(k:Int)+1/\k<=n/\wn.length+k=n/\s.1=(p.1:Int)/\s.2.1=(p.2:Int)/\p.1<(bes a b).Rows.length/\p.2<(bes a b).Rows.length/\Mk (kk a) (wz (bes a b) (bes a b)) (nxP (bes a b) (bes a b)) (k+1) p/\¬Mk (kk a) (wz (bes a b) (bes a b)) (nxP (bes a b) (bes a b)) k p /\
    ∀u,QK (kk a) (wz (bes a b) (bes a b)) (nxP (bes a b) (bes a b)) (k+1) p u->QK (kk a) (wz (bes a b) (bes a b)) (nxP (bes a b) (bes a b)) (n+1) (phi a (0,0)) (wn++u))) (λs=>s.2.2.1.toNat) ⟨[],rfl,by simp,.inr ⟨n,phi a (0,0),by simp,pA _,by simp,rfl,by simp[phi],by simp[phi];omega,by simp[phi];omega,hmk,hno,λu h=>h⟩⟩ ?_ ?_).mono ?_
  ·simp only;omega
  ·rintro⟨s,t,c,w⟩ ⟨wn,hw,hwl,hcase⟩;simp only at hw hcase;subst hw;unfold kG;rcases hcase with⟨hc,hg⟩|⟨k,p,hc,hkn,hwk,hs,ht,hp1,hp2,hk1,hk2,hgr⟩
   ·subst hc;rw[zu];refine⟨λh=>by have h:=of_decide_eq_true h;simp only at h;omega,λ_=>?_⟩;rw[z8];exact⟨wn,hg,rfl⟩
   subst hs ht;rw[zu];refine⟨λ_=>?_,λh=>?_⟩
   ·have hn1:w64 (c - 1)=(k:Int):=by rw[zC (by omega) (by omega)];omega
    rw[hn1,bdT (z1I hm k (by omega)),zm];refine(zdj hm hp1 hp2 c 0 _ (by simp;omega) hc (by omega) hk1 hk2).mono ?_;rintro r ⟨i,hi,htel,hleast,rfl⟩;rw[z8];have htel':=z6u.1 htel;have hleast':∀j,j<i->¬(wz (bes a b) (bes a b) p j=true\/∃q,nxP (bes a b) (bes a b) p j=some q/\Mk (kk a) (wz (bes a b) (bes a b)) (nxP (bes a b) (bes a b)) k q):=by intro j hj g;have:=hleast j hj;rw[z6u.2 g]at this;cases this
    refine⟨⟨wn++[i],by simp,by simp;omega,?_⟩,by simp only;omega⟩;cases k with
    |zero=>refine .inl ⟨rfl,hgr [i] ⟨i,[],rfl,hi,htel',hleast',λh=>absurd h (rK _),λ_=>rfl⟩⟩
    |succ k=>
     have hbad:wz (bes a b) (bes a b) p i≠true:=λg=>hk2 (Mk.mono (n:=1) (.inr ⟨i,hi,.inl g⟩) (by omega));obtain⟨q,hq,hqm⟩:∃q,nxP (bes a b) (bes a b) p i=some q/\Mk (kk a) (wz (bes a b) (bes a b)) (nxP (bes a b) (bes a b)) (k+1) q:=by
      rcases htel' with g|g
      ·exact(hbad g).elim
      exact g
     have hin:=hm.nx_in hp1 hp2 hi hq;have hqv:(E (bes a b) p.1 i).To=(q.1:Int)/\(E (bes a b) p.2 i).To=(q.2:Int):=by
      unfold nxP at hq;split at hq
      ·cases hq;simp only;omega
      cases hq
     refine .inr ⟨k,q,by simp,by omega,by simp;omega,hqv.1,hqv.2,hin.1,hin.2,hqm,λg=>hk2 (.inr ⟨i,hi,.inr ⟨q,hq,g⟩⟩),λu hu=>?_⟩;have:=hgr (i::u) ⟨i,u,rfl,hi,htel',hleast',λ_=>⟨q,hq,hu⟩,λh=>by omega⟩;simpa using this
   have h:=of_decide_eq_false h;simp only at h;omega
  rintro r ⟨w,hg,rfl⟩;rw[z8];exact .inl ⟨n,w,(zai va vb hab _ _ hp0).1 hmk,λg=>hno ((zai va vb hab _ _ hp0).2 g),z8Q va vb hab _ _ _ hp0 hg,by omega,rfl⟩
end
def nxE (m:z6)(s:Int)(i:Nat):z7:=if s<0 then⟨-1,-1⟩ else E m s.toNat i
def rsp (m:z6):Int->TC->TB
 |_,[]=>[]
 |s,i::w=>(nxE m s i).Out::rsp m (nxE m s i).To w
def aft (m:z6):Int->TC->Int
 |s,[]=>s
 |s,i::w=>aft m (nxE m s i).To w
def wP (m:z6):∀(w:TC) (s:Int) (i:Nat),rsp m s (w++[i])=rsp m s w++[(nxE m (aft m s w) i).Out]/\aft m s (w++[i])=(nxE m (aft m s w) i).To
 |[],s,i=>⟨rfl,rfl⟩
 |j::w,s,i=>by have:=wP m w (nxE m s j).To i;simp only[gO,rsp,aft,this.1,this.2,and_self]
def QV (m:z6):∀(w:TC) (s:Int),(rsp m s w).length=w.length
 |[],_=>rfl
 |i::w,s=>by simp[rsp,QV m w]
def z3v (m:z6)(s:Int):Prop:=-1<=s/\s<(m.Rows.length:Int)
def zdn (h:VM m){s:Int}(hs:z3v m s){i:Nat}(hi:i<kk m):z3v m (nxE m s i).To:=by
 unfold nxE;have:=h.len1;by_cases h0:s<0
 ·rw[if_pos h0];unfold z3v;simp only;omega
 rw[if_neg h0];have hl:s.toNat<m.Rows.length:=by have:=hs.2;omega
 have:=h.edgeAt hl hi;unfold z3v;omega
def zgS (h:VM m){s:Int}(hs:z3v m s){i:Nat}(hi:i<kk m):Q0 m s (i:Int)=some (nxE m s i)/\z3v m (nxE m s i).To:=by
 unfold Q0 nxE;have:=h.len1;by_cases h0:s<0
 ·rw[decide_eq_true h0,cond_true,if_pos h0];exact⟨rfl,by unfold z3v;simp only;omega⟩
 rw[decide_eq_false h0,cond_false,if_neg h0];have hl:s.toNat<m.Rows.length:=by have:=hs.2;omega
 have he:=h.edge_eq hl hi (f:=λe=>some e);have hc:((s.toNat:Nat):Int)=s:=by omega
 rw[hc]at he;refine⟨he,?_⟩;have:=h.edgeAt hl hi;unfold z3v;omega
section
variable {a b:z6}(va:VM a)(vb:VM b)(hab:a.Inputs=b.Inputs)
include va vb hab
theorem z7L:∀(u:TC) (q:Nat×Nat),z2P (kk a) (wz a b) (nxP a b) (0,0) u q->rsp a 0 u.reverse=rsp b 0 u.reverse/\aft a 0 u.reverse=(q.1:Int)/\aft b 0 u.reverse=(q.2:Int)/\InP a b q/\∀i∈u,i<kk a
 |[],q,h=>by simp only[z2P]at h;subst h;exact⟨rfl,rfl,rfl,⟨va.len1,vb.len1⟩,by simp⟩
 |i::u,q,⟨p,hp,hi,hb,hn⟩=>by
  obtain⟨h1,h2,h3,h4,h5⟩:=z7L u p hp;have ea:nxE a (p.1:Int) i=E a p.1 i:=by unfold nxE;rw[if_neg (by omega),po]
  have eb:nxE b (p.2:Int) i=E b p.2 i:=by unfold nxE;rw[if_neg (by omega),po]
  have ho:(E a p.1 i).Out=(E b p.2 i).Out:=by simpa[wz] using hb
  have hq:(E a p.1 i).To=(q.1:Int)/\(E b p.2 i).To=(q.2:Int):=by
   unfold nxP at hn;split at hn
   ·cases hn;simp only;omega
   cases hn
  rw[nG,(wP a _ _ _).1,(wP b _ _ _).1,(wP a _ _ _).2,(wP b _ _ _).2,h1,h2,h3,ea,eb,ho];refine⟨rfl,hq.1,hq.2,zaG va vb hab p i q h4 hi hn,λj hj=>?_⟩;rcases pB.1 hj with rfl|g
  ·exact hi
  exact h5 j g
theorem zcI {i:Nat}{u:TC}(h:zkF (kk a) (wz a b) (nxP a b) (0,0) (i::u)):rsp a 0 (u.reverse++[i])≠rsp b 0 (u.reverse++[i])/\rsp a 0 u.reverse=rsp b 0 u.reverse/\∀j∈i::u,j<kk a:=by
 obtain⟨p,hp,hi,hb⟩:=h;obtain⟨h1,h2,h3,h4,h5⟩:=z7L va vb hab u p hp;have ea:nxE a (p.1:Int) i=E a p.1 i:=by unfold nxE;rw[if_neg (by omega),po]
 have eb:nxE b (p.2:Int) i=E b p.2 i:=by unfold nxE;rw[if_neg (by omega),po]
 have ho:(E a p.1 i).Out≠(E b p.2 i).Out:=by simpa[wz] using hb
 refine⟨?_,h1,λj hj=>?_⟩
 ·rw[(wP a _ _ _).1,(wP b _ _ _).1,h1,h2,h3,ea,eb];intro e;have:=List.append_cancel_left e;simp at this;exact ho this
 rcases pB.1 hj with rfl|g
 ·exact hi
 exact h5 j g
end
section
variable {N:Nat}{f:Nat->Nat->Bool}
structure zkJ (N:Nat)(f:Nat->Nat->Bool)(out:TB)(n:Int)(s:Nat):Prop where
 len:out.length=s
 sN:s<=N
 n0:0<=n
 nS:n<=(s:Int)
 lt:∀(i:Nat) (x:Int),out[i]?=some x->0<=x/\x<n
 cls:∀(i j:Nat),i<s->j<s->(out[i]?=out[j]?↔f i j=false)
def zdl (hN:N<=1000)(hr:∀s,s<N->f s s=false)(hs:∀s t,s<N->t<N->f s t=false->f t s=false)(ht:∀s t u,s<N->t<N->u<N->f s t=false->f t u=false->f s u=false) :
  Ret (kO (tab N f)) λout=>out.length=N/\∀i j,i<N->j<N->(out[i]?=out[j]?↔f i j=false):=by
 have hl:(tab N f).length=N:=by simp[tab]
 unfold kO;rw[zm];refine Ret.mono (Q:=λout=>out.length=N/\∀i j,i<N->j<N->(out[i]?=out[j]?↔f i j=false)) ?_ λout h=>z8.2 h;refine zG (λq=>zkJ N f q.1 q.2.1 q.2.2.toNat/\0<=q.2.2) (λq=>N-q.2.2.toNat) ⟨⟨rfl,pP _,Int.le_refl 0,Int.le_refl 0,λi x h=>by simp at h,λi j h=>by simp at h⟩,Int.le_refl 0⟩ (by show N-0<_;omega) ?_;rintro⟨out,n,s⟩ ⟨hI,h0⟩;obtain⟨s,rfl⟩:=nF h0;simp only[po]at hI⊢;unfold XS;rw[zu];refine⟨λhc=>?_,λhc=>?_⟩
 ·rw[hl]at hc;have hsN:s<N:=by simpa using hc
  rw[zm];have inner:Ret (loop (λs_1=>kL (tab N f) out (s:Int) s_1.1 s_1.2) (-1,0)) λb=>(b=-1/\∀t,t<s->f s t=true)\/∃t,t<s/\f s t=false/\out[t]?=some b:=by
   refine zG (λq=>0<=q.2/\q.2<=(s:Int)/\((q.1=-1/\∀t:Nat,(t:Int)<q.2->f s t=true)\/∃t,t<s/\f s t=false/\out[t]?=some q.1)) (λq=>s-q.2.toNat) ⟨by omega,by omega,.inl ⟨rfl,λt ht=>by simp at ht;omega⟩⟩ (by show s-0<_;omega) ?_;rintro⟨b,t⟩ ⟨g0,g1,g2⟩;simp only at g0 g1 g2⊢;obtain⟨t,rfl⟩:=nF g0;unfold kL uz;rw[zu];refine⟨λhc=>?_,λhc=>?_⟩
   ·have hts:t<s:=by simpa using hc
    have hw:w64 ((t:Int)+1)=((t+1:Nat):Int):=by rw[zC (by omega) (by omega)];rfl
    rw[z59 f hsN (by omega),hw,zu];refine⟨λhf=>?_,λhf=>?_⟩
    ·rw[zm,z6F];have:∃x,out[t]?=some x:=⟨out[t]'(by rw[hI.len];exact hts),pf _⟩;obtain⟨x,hx⟩:=this;refine⟨by omega,x,by rw[po];exact hx,z8.2 ⟨⟨by omega,by omega,.inr ⟨t,hts,by simpa using hf,hx⟩⟩,by simp only[po];omega⟩⟩
    refine z8.2 ⟨⟨by omega,by omega,?_⟩,by simp only[po];omega⟩;rcases g2 with⟨e,g2⟩|g2
    ·refine .inl ⟨e,λu hu=>?_⟩;rcases pL u t with q|q
     ·exact g2 u (by omega)
     have:u=t:=by omega
     subst this;simpa using hf
    exact .inr g2
   have hts:¬t<s:=by simpa using hc
   refine z8.2 ?_;rcases g2 with⟨e,g2⟩|g2
   ·exact .inl ⟨e,λu hu=>g2 u (by omega)⟩
   exact .inr g2
  refine inner.mono λb hb=>?_;have hw:w64 ((s:Int)+1)=((s+1:Nat):Int):=by rw[zC (by omega) (by omega)];rfl
  have hlen:=hI.len;have hnS:=hI.nS;have hn0:=hI.n0;have fin:∀(n' c:Int),0<=n'->n'<=((s+1:Nat):Int)->n<=n'->0<=c->c<n'->(∀t,t<s->(out[t]?=some c↔f s t=false)) ->
    Ret (wS out (s:Int) n' c) (LRP (λs'=>(zkJ N f s'.1 s'.2.1 s'.2.2.toNat/\0<=s'.2.2)/\N-s'.2.2.toNat<N-s) λout=>out.length=N/\∀i j,i<N->j<N->(out[i]?=out[j]?↔f i j=false)):=by
   intro n' c a1 a2 a3 a4 a5 a6;unfold wS kN;rw[Ys,hw];refine⟨by simp[hlen];omega,z8.2 ⟨⟨⟨by simp[hlen],by simp only[po];omega,a1,by simp only[po];exact a2,?_,?_⟩,mT _⟩,by simp only[po];omega⟩⟩
   ·intro i x hx;rcases pL i s with q|q
    ·rw[pC (by omega)]at hx;have:=hI.lt i x hx;exact⟨this.1,by have:=this.2;simp only;omega⟩
    rw[pD (by omega)]at hx;cases hh:i-out.length with
    |zero=>rw[hh]at hx;simp at hx;subst hx;exact⟨a4,a5⟩
    |succ k=>rw[hh]at hx;simp at hx
   intro i j hi hj;simp only[po]at hi hj;have at_:∀i,i<s->(out++[c])[i]?=out[i]?:=λi h=>pC (by omega);have at_s:(out++[c])[s]?=some c:=by rw[<-hlen,pD (pA _)];simp
   rcases pL i s with q|q<;>rcases pL j s with q'|q'
   ·show(out++[c])[i]?=(out++[c])[j]?↔_;rw[at_ i q,at_ j q'];exact hI.cls i j q q'
   ·have:j=s:=by omega
    subst this;show(out++[c])[i]?=(out++[c])[j]?↔_;rw[at_ i q,at_s,a6 i q];exact⟨λh=>hs _ _ (by omega) (by omega) h,λh=>hs _ _ (by omega) (by omega) h⟩
   ·have:i=s:=by omega
    subst this;show(out++[c])[i]?=(out++[c])[j]?↔_;rw[at_ j q',at_s,eq_comm,a6 j q']
   have e1:i=s:=by omega
   have e2:j=s:=by omega
   subst e1;subst e2;exact⟨λ_=>hr _ hsN,λ_=>rfl⟩
  unfold kM;rw[zu];rcases hb with⟨rfl,hb⟩|⟨t,ht1,ht2,ht3⟩
  ·refine⟨λ_=>?_,λh=>by simp at h⟩;rw[zC (by omega) (by omega)];refine fin (n+1) n (by omega) (by omega) (by omega) hn0 (by omega) λt hts=>?_;rw[hb t hts];refine⟨λh=>?_,λh=>by cases h⟩;have:=hI.lt t n h;omega
  have hb0:=hI.lt t b ht3;refine⟨λh=>by simp at h;omega,λ_=>fin n b hn0 (by omega) (by omega) hb0.1 hb0.2 λu hu=>?_⟩;rw[<-ht3,hI.cls u t hu ht1];exact⟨λh=>ht _ _ _ (by omega) (by omega) (by omega) ht2 (hs _ _ (by omega) (by omega) h),λh=>ht _ _ _ (by omega) (by omega) (by omega) (hs _ _ (by omega) (by omega) h) ht2⟩
 rw[hl]at hc;have hsN:¬s<N:=by simpa using hc
 have:s=N:=by have:=hI.sN;omega
 subst this;exact z8.2 ⟨hI.len,hI.cls⟩
end
def SEq (m:z6)(s t:Nat):Prop:=∀w:TC,(∀i∈w,i<kk m)->rsp m (s:Int) w=rsp m (t:Int) w
def z1i (m:z6):∀(w:TC) (s:Int),s<0->rsp m s w=w.map λ_=>-1
 |[],_,_=>rfl
 |i::w,s,h=>by simp only[rsp,nxE,if_pos h,gF];rw[z1i m w (-1) (by omega)]
def vX (m:z6)(s i:Nat):nxE m (s:Int) i=E m s i:=by unfold nxE;rw[if_neg (by omega),po]
section
variable {m:z6}(h:WM m)
include h
theorem z6O:∀(n:Nat) (p:Nat×Nat),p.1<m.Rows.length->p.2<m.Rows.length->Mk (kk m) (wz m m) (nxP m m) n p->∃w:TC,(∀i∈w,i<kk m)/\rsp m (p.1:Int) w≠rsp m (p.2:Int) w
 |0,p,_,_,q=>q.elim
 |n+1,p,h1,h2,q=>by
  rcases q with q|⟨i,hi,q|⟨r,hr,q⟩⟩
  ·exact z6O n p h1 h2 q
  ·refine⟨[i],by simpa using hi,λe=>?_⟩;simp only[rsp,vX,List.cons.injEq,and_true]at e;simp[wz,e]at q
  have hin:=h.nx_in h1 h2 hi hr;obtain⟨w,hw,hne⟩:=z6O n r hin.1 hin.2 q;refine⟨i::w,λj hj=>by rcases pB.1 hj with rfl|hj;exact hi;exact hw j hj,λe=>hne ?_⟩;simp only[rsp,vX,List.cons.injEq]at e;unfold nxP at hr;split at hr
  ·rename_i hc;cases hr;have e1:(((E m p.1 i).To.toNat:Nat):Int)=(E m p.1 i).To:=by omega
   have e2:(((E m p.2 i).To.toNat:Nat):Int)=(E m p.2 i).To:=by omega
   simp only[e1,e2];exact e.2
  cases hr
theorem z99:∀(w:TC) (p:Nat×Nat),p.1<m.Rows.length->p.2<m.Rows.length->(∀i∈w,i<kk m)->rsp m (p.1:Int) w≠rsp m (p.2:Int) w->Mk (kk m) (wz m m) (nxP m m) w.length p
 |[],p,_,_,_,q=>(q rfl).elim
 |i::w,p,h1,h2,hw,q=>by
  have hi:=hw i (by simp);refine .inr ⟨i,hi,?_⟩;by_cases hb:wz m m p i=true
  ·exact .inl hb
  have he:(E m p.1 i).Out=(E m p.2 i).Out:=by simpa[wz] using hb
  simp only[rsp,vX,he,ne_eq,List.cons.injEq,true_and]at q;have a:=h.edgeAt h1 hi;have b:=h.edgeAt h2 hi;by_cases hc:0<=(E m p.1 i).To/\0<=(E m p.2 i).To
  ·have hr:nxP m m p i=some ((E m p.1 i).To.toNat,(E m p.2 i).To.toNat):=by unfold nxP;rw[if_pos hc]
   have hin:=h.nx_in h1 h2 hi hr;have e1:(((E m p.1 i).To.toNat:Nat):Int)=(E m p.1 i).To:=by omega
   have e2:(((E m p.2 i).To.toNat:Nat):Int)=(E m p.2 i).To:=by omega
   exact .inr ⟨_,hr,z99 w _ hin.1 hin.2 (λj hj=>hw j (by simp[hj])) (by simpa only[e1,e2] using q)⟩
  exfalso;refine q ?_;have e1:(E m p.1 i).To=-1:=by omega
  have e2:(E m p.2 i).To=-1:=by omega
  rw[e1,e2]
theorem QZ {s t:Nat}(hs:s<m.Rows.length)(ht:t<m.Rows.length):mrk m m.Rows.length s t=false↔SEq m s t:=by
 have e:mrk m m.Rows.length s t=true↔¬SEq m s t:=by
  unfold mrk;rw[Vb];constructor
  ·intro q g;obtain⟨w,hw,hne⟩:=z6O h _ (s,t) hs ht q;exact hne (g w hw)
  intro q;obtain⟨w,hw⟩:=Classical.not_forall.1 q;obtain⟨hw,hne⟩:=Classical.not_imp.1 hw;have:=JP h hs ht (z99 h w (s,t) hs ht hw hne);exact this.mono (by omega)
 constructor
 ·intro q;exact pZ λg=>by rw[e.2 g]at q;cases q
 intro q;cases hm:mrk m m.Rows.length s t with
 |false=>rfl
 |true=>exact(e.1 hm q).elim
theorem z23:Ret (kP m) λl=>l.length=m.Rows.length/\∀s t,s<m.Rows.length->t<m.Rows.length->(l[s]?=l[t]?↔SEq m s t):=by have hl:=h.len;unfold kP UD;rw[zm,bdT (z1I h m.Rows.length (by omega)),zm];refine Ret.mono (zdl (by omega) (λs hs=>(QZ h hs hs).2 λw _=>rfl) (λs t hs ht q=>(QZ h ht hs).2 λw hw=>((QZ h hs ht).1 q w hw).symm) (λs t u hs ht hu q r=>(QZ h hs hu).2 λw hw=>((QZ h hs ht).1 q w hw).trans ((QZ h ht hu).1 r w hw))) ?_;rintro l ⟨h1,h2⟩;exact z8.2 (z8.2 ⟨h1,λs t hs ht=>(h2 s t hs ht).trans (QZ h hs ht)⟩)
end
def z8n (h:VM m):∀(w:TC) (n:Nat) (s:Int),z3v m s->(∀i∈w,i<kk m)->w.length<n->kQ n m s (w.map Int.ofNat)=some (aft m s w)
 |w,0,_,_,_,hn=>by omega
 |[],n+1,s,hs,_,_=>by show kR (kQ n) m s []=_;rfl
 |i::w,n+1,s,hs,hw,hn=>by
  show kR (kQ n) m s ((i:Int)::w.map Int.ofNat)=_;have hi:=hw i (by simp);have hx:=zgS h hs hi;unfold kR;have hz:(((((i:Int)::w.map Int.ofNat).length:Nat):Int)==0)=false:=by rw[beq_eq_false_iff_ne];simp only[pX];omega
  rw[hz,cond_false];have e0:idx ((i:Int)::w.map Int.ofNat) 0=some (i:Int):=rfl;rw[bdT e0,bdT hx.1,gdT (by simp;omega)];have e1:((i:Int)::w.map Int.ofNat).drop (1:Int).toNat=w.map Int.ofNat:=rfl;rw[e1,bdT (z8n h w n _ hx.2 (λj hj=>hw j (by simp[hj])) (by simp at hn;omega))];rfl
def zeE (h:VM m){s:Int}(hs:z3v m s)(w:TC)(hw:∀i∈w,i<kk m):V7 m s (w.map Int.ofNat)=some (aft m s w):=by unfold V7;exact z8n h w _ s hs hw (by simp)
def z5X (k:Nat):TC->Option TC
 |[]=>none
 |d::r=>if d+1<k then some ((d+1)::r) else(z5X k r).map (0 :: ·)
def WJ (k:Nat):TC->Nat
 |[]=>0
 |d::r=>d+k*WJ k r
def z6s {k:Nat}:∀{r:TC},(∀d∈r,d<k)->WJ k r<k^r.length
 |[],_=>by simp[WJ]
 |d::r,h=>by have ih:=z6s (k:=k) (r:=r) λx hx=>h x (by simp[hx]);have hd:=h d (by simp);simp only[WJ,pX,sx];have:k*(WJ k r+1)<=k*k^r.length:=Nat.mul_le_mul_left k ih;rw[Nat.mul_add,Nat.mul_one]at this;rw[rT (k^r.length) k];omega
def z7h:∀{r s:TC},r.length=s.length->(∀d∈r,d<k)->(∀d∈s,d<k)->WJ k r=WJ k s->r=s
 |[],[],_,_,_,_=>rfl
 |[],_::_,h,_,_,_=>by simp at h
 |_::_,[],h,_,_,_=>by simp at h
 |d::r,e::s,h,h1,h2,hv=>by
  have hd:=h1 d (by simp);have he:=h2 e (by simp);simp only[WJ]at hv;have a1:(d+k*WJ k r)%k=d:=by rw[Nat.add_mul_mod_self_left,rC hd]
  have a2:(e+k*WJ k s)%k=e:=by rw[Nat.add_mul_mod_self_left,rC he]
  have hde:d=e:=by rw[<-a1,<-a2,hv]
  subst hde;have hk:0<k:=by omega
  have:k*WJ k r=k*WJ k s:=by omega
  have:=Nat.eq_of_mul_eq_mul_left hk this;rw[z7h (by simpa using h) (λx hx=>h1 x (by simp[hx])) (λx hx=>h2 x (by simp[hx])) this]
def z5V:∀{r s:TC},(∀d∈r,d<k)->z5X k r=some s->s.length=r.length/\(∀d∈s,d<k)/\WJ k s=WJ k r+1
 |[],s,_,h=>by cases h
 |d::r,s,hr,h=>by
  have hd:=hr d (by simp);unfold z5X at h;split at h
  ·rename_i hc;cases h;exact⟨rfl,λx hx=>by rcases pB.1 hx with rfl|hx;exact hc;exact hr x (by simp[hx]),by simp only[WJ];omega⟩
  rename_i hc;obtain⟨s',h1,rfl⟩:=pQ.1 h;obtain⟨g1,g2,g3⟩:=z5V (λx hx=>hr x (by simp[hx])) h1;refine⟨by simp[g1],λx hx=>by rcases pB.1 hx with rfl|hx;omega;exact g2 x hx,?_⟩;simp only[WJ,g3,Nat.mul_add,Nat.mul_one];omega
def z5W (hk:0<k):∀{r:TC},(∀d∈r,d<k)->z5X k r=none->WJ k r+1=k^r.length
 |[],_,_=>by simp[WJ]
 |d::r,hr,h=>by
  have hd:=hr d (by simp);unfold z5X at h;split at h
  ·cases h
  rename_i hc;have h1:z5X k r=none:=by cases e:z5X k r with|none=>rfl|some x=>rw[e]at h;cases h
  have:=z5W hk (λx hx=>hr x (by simp[hx])) h1;simp only[WJ,pX,sx,<-this,gU,rB,rT k];omega
def z6N (k:Nat)(w:TC):TC:=match z5X k w.reverse with|some r=>r.reverse|none=>List.replicate (w.length+1) 0
variable {w:TC}
def zaf (hk:1<=k)(hk2:k<=1000)  (hw:∀i∈w,i<k)(hl:w.length<=100000):Wu (w.map Int.ofNat) (k:Int)=some ((z6N k w).map Int.ofNat):=by
 have hloop:Ret (loop (λs=>V3 (k:Int) s.1 s.2) (w.map Int.ofNat,w64 ((((w.map Int.ofNat).length:Nat):Int)-1))) λr=>match r with
   |.inl o=>z5X k w.reverse=none/\o=List.replicate w.length (0:Int)
   |.inr o=>∃r,z5X k w.reverse=some r/\o=r.reverse.map Int.ofNat:=by
  refine zG (λq=>∃(p:TC) (z:Nat),q.1=(p++List.replicate z 0).map Int.ofNat/\q.2=(p.length:Int)-1/\(∀i∈p,i<k)/\p.length+z=w.length/\z5X k w.reverse=(z5X k p.reverse).map (λr=>List.replicate z 0++r)) (λq=>(q.2+1).toNat) ⟨w,0,by simp,by rw[zC (by simp;omega) (by simp;omega)];simp,hw,by simp,by cases z5X k w.reverse<;>simp⟩ (by simp only;rw[zC (by simp;omega) (by simp;omega)];simp;omega) ?_;rintro⟨out,j⟩ ⟨p,z,h1,h2,h3,h4,h5⟩;simp only at h1 h2;subst h1;subst h2;unfold V3;rw[zu];refine⟨λhc=>?_,λhc=>?_⟩
  ·have hp:1<=p.length:=by simp at hc;omega
   obtain⟨p',d,rfl⟩:∃p' d,p=p' ++ [d]:=by
    rcases rU p with e|⟨p',d,e⟩
    ·subst e;simp at hp
    exact⟨p',d,by simpa using e⟩
   have hd:=h3 d (by simp);have hj:(((p' ++ [d]).length:Nat):Int)-1=((p'.length:Nat):Int):=by simp
   have hx:((p' ++ [d]++List.replicate z 0).map Int.ofNat)[p'.length]?=some (d:Int):=by simp
   have hset:∀e:Nat,((p' ++ [d]++List.replicate z 0).map Int.ofNat).set p'.length (e:Int)=(p' ++ e::List.replicate z 0).map Int.ofNat:=by intro e;rw[pJ,gL,List.set_append,if_neg (by simp)];simp
   have hr:(p' ++ [d]).reverse=d::p'.reverse:=by simp
   rw[hr]at h5;have hin:z5X k (d::p'.reverse)=if d+1<k then some ((d+1)::p'.reverse) else(z5X k p'.reverse).map (0 :: ·):=rfl
   have hw1:w64 ((d:Int)+1)=((d+1:Nat):Int):=by rw[zC (by omega) (by omega)];rfl
   rw[hj,zK,bdT hx,hw1,zu];refine⟨λhc=>?_,λhc=>?_⟩
   ·have hdk:d+1<k:=by simp at hc;omega
    rw[bdT hx,bdT hx,hw1,po,hset];refine z8.2 ?_;rw[hin,if_pos hdk]at h5;exact⟨_,h5,by simp⟩
   have hdk:¬d+1<k:=by simp at hc;omega
   rw[bdT hx,po,zC (by omega) (by omega)];have h0:=hset 0;simp only[Int.natCast_zero]at h0;refine z8.2 ⟨⟨p',z+1,?_,rfl,λi hi=>h3 i (by simp[hi]),by simp at h4;omega,?_⟩,?_⟩
   ·rw[nB];exact h0
   ·rw[hin,if_neg hdk]at h5;rw[h5];cases z5X k p'.reverse with
    |none=>rfl
    |some r=>simp[List.replicate_succ']
   simp only
   omega
  have hp:p=[]:=mJ (by simp at hc;omega);subst hp;refine z8.2 ⟨?_,?_⟩
  ·rw[h5];rfl
  simp at h4;simp[h4]
 unfold Wu;rw[gdT (by simp;omega)];obtain⟨r,e,hr⟩:=hloop;rw[bdT e];unfold z6N;cases r with
 |inl o=>obtain⟨g1,rfl⟩:=hr;show Yy _=_;unfold Yy;rw[gdT (by simp;omega),g1];simp[List.replicate_succ']
 |inr o=>obtain⟨r,g1,rfl⟩:=hr;show some _=_;rw[g1]
def GG (k:Nat):Nat->Nat
 |0=>0
 |n+1=>GG k n+k^n
def z4J {k n m:Nat}(h:n<=m):GG k n<=GG k m:=by
 induction h with
 |refl=>exact pA _
 |step _ ih=>exact pE ih (Nat.le_add_right _ _)
def rk (k:Nat)(w:TC):Nat:=GG k w.length+WJ k w.reverse
def Wd (k:Nat)(w:TC):Prop:=∀i∈w,i<k
def Wd.rev (h:Wd k w):∀d∈w.reverse,d<k:=λd hd=>h d (by simpa using hd)
def zgC (h:Wd k w):rk k w<GG k (w.length+1):=by have:=z6s h.rev;rw[mH]at this;show GG k w.length+WJ k w.reverse<GG k w.length+k^w.length;omega
def z5p {k:Nat}{w u:TC}(hw:Wd k w)(h:w.length<u.length):rk k w<rk k u:=by have h1:=zgC hw;have h2:=z4J (k:=k) (show w.length+1<=u.length from h);unfold rk at *;omega
def z7C {w u:TC}(hw:Wd k w)(hu:Wd k u)(h:rk k w=rk k u):w=u:=by
 have hl:w.length=u.length:=by
  rcases mW w.length u.length with q|q|q
  ·have:=z5p hw q;omega
  ·exact q
  have:=z5p hu q;omega
 have hv:WJ k w.reverse=WJ k u.reverse:=by unfold rk at h;rw[hl]at h;omega
 have:=z7h (by simpa using hl) hw.rev hu.rev hv;simpa using congrArg List.reverse this
def z52 (k:Nat):∀n,WJ k (List.replicate n 0)=0
 |0=>rfl
 |n+1=>by simp[nB,WJ,z52 k n]
def zdp (hk:1<=k)  (hw:Wd k w):Wd k (z6N k w)/\rk k (z6N k w)=rk k w+1/\(z6N k w).length<=w.length+1:=by
 unfold z6N;cases e:z5X k w.reverse with
 |some r=>obtain⟨h1,h2,h3⟩:=z5V hw.rev e;rw[mH]at h1;refine⟨λi hi=>h2 i (by simpa using hi),?_,by simp[h1]⟩;simp only[rk,mH,List.reverse_reverse,h1,h3];omega
 |none=>have h:=z5W (by omega) hw.rev e;rw[mH]at h;refine⟨λi hi=>by have:=(List.mem_replicate.1 hi).2;omega,?_,by simp⟩;simp only[rk,mB,List.reverse_replicate,z52,GG,<-h];omega
section
variable {m:z6}
def z2e (m:z6)(from_:Int)(l:TA)(is:List Bool)(r t:Nat):Prop :=
 (is[t]?=some true/\∃v:TC,l[t]?=some (v.map Int.ofNat)/\rk (kk m) v<r/\Wd (kk m) v/\v.length<m.Rows.length/\aft m from_ v=(t:Int)/\∀u,Wd (kk m) u->aft m from_ u=(t:Int)->rk (kk m) v<=rk (kk m) u) \/
 (is[t]?=some false/\l[t]?=some []/\∀u,Wd (kk m) u->rk (kk m) u<r->aft m from_ u≠(t:Int))
def z3t (h:VM m):∀(w:TC) (s:Int),z3v m s->Wd (kk m) w->z3v m (aft m s w)
 |[],s,hs,_=>hs
 |i::w,s,hs,hw=>z3t h w _ (zdn h hs (hw i (by simp))) λj hj=>hw j (by simp[hj])
def za1 (h:VM m)(hG:GG (kk m) m.Rows.length<=1000000000){from_:Int}(hf:z3v m from_) :
  Ret (V5 m from_) λr=>r.1.length=m.Rows.length/\r.2.length=m.Rows.length/\∀t,t<m.Rows.length->z2e m from_ r.1 r.2 (GG (kk m) m.Rows.length) t:=by
 have l64:=h.len64;have l1:=h.len1;have hk:=h.kk_pos;have hk2:=h.kk_le;have hke:=h.kk_eq;unfold V5 W8;rw[Ys,Ys];refine⟨by omega,by omega,?_⟩;rw[zm];refine Ret.mono ?_ λr hr=>z8.2 hr;refine zG (λq=>∃w:TC,q.2.2=w.map Int.ofNat/\Wd (kk m) w/\w.length<=m.Rows.length/\rk (kk m) w<=GG (kk m) m.Rows.length/\q.1.length=m.Rows.length/\q.2.1.length=m.Rows.length/\∀t,t<m.Rows.length->z2e m from_ q.1 q.2.1 (rk (kk m) w) t)
  (λq=>GG (kk m) m.Rows.length-rk (kk m) (q.2.2.map Int.toNat)) ⟨[],rfl,λi hi=>by simp at hi,by simp,by simp[rk,GG,WJ],by simp,by simp,λt ht=>.inr ⟨by simp[ht],by simp[ht],λu _ hu=>by simp[rk,GG,WJ]at hu⟩⟩ (by simp only;omega) ?_
 rintro⟨l,is,wi⟩ ⟨w,h1,hw,hwl,hwr,h2,h3,h4⟩;simp only at h1 h2 h3 h4;subst h1;have hback:∀w:TC,(w.map Int.ofNat).map Int.toNat=w:=λw=>by induction w with|nil=>rfl|cons a w ih=>simp only[gF,ih];rfl
 simp only[hback];unfold QG;rw[zu];refine⟨λhc=>?_,λhc=>?_⟩
 ·have hlt:w.length<m.Rows.length:=by simpa using hc
  have hrk:rk (kk m) w<GG (kk m) m.Rows.length:=Nat.lt_of_lt_of_le (zgC hw) (z4J hlt);obtain⟨n1,n2,n3⟩:=zdp hk hw;have hnx:Wu (w.map Int.ofNat) m.Inputs=some ((z6N (kk m) w).map Int.ofNat):=by rw[<-hke];exact zaf hk (by omega) hw (by omega)
  have fin:∀(l2:TA) (is2:List Bool),l2.length=m.Rows.length->is2.length=m.Rows.length->(∀t,t<m.Rows.length->z2e m from_ l2 is2 (rk (kk m) w+1) t) ->
    Ret (uk m (w.map Int.ofNat) l2 is2) (LRP (λs'=>(∃w:TC,s'.2.2=w.map Int.ofNat/\Wd (kk m) w/\w.length<=m.Rows.length/\rk (kk m) w<=GG (kk m) m.Rows.length/\s'.1.length=m.Rows.length/\s'.2.1.length=m.Rows.length/\∀t,t<m.Rows.length->z2e m from_ s'.1 s'.2.1 (rk (kk m) w) t)/\GG (kk m) m.Rows.length-rk (kk m) (s'.2.2.map Int.toNat)<GG (kk m) m.Rows.length-rk (kk m) w)
     λr=>r.1.length=m.Rows.length/\r.2.length=m.Rows.length/\∀t,t<m.Rows.length->z2e m from_ r.1 r.2 (GG (kk m) m.Rows.length) t):=by
   intro l2 is2 a1 a2 a3;unfold uk;rw[bdT hnx];refine z8.2 ⟨⟨_,rfl,n1,by omega,by omega,a1,a2,λt ht=>by rw[n2];exact a3 t ht⟩,?_⟩;rw[hback,n2];omega
  have hin:=z3t h w from_ hf hw;rw[bdT (zeE h hf w hw),zu];have stay:∀t,t<m.Rows.length->(aft m from_ w=(t:Int)->is[t]?=some true)->z2e m from_ l is (rk (kk m) w+1) t:=by
   intro t ht hn;rcases h4 t ht with⟨g1,v,g2,g3,g4⟩|⟨g1,g2,g3⟩
   ·exact .inl ⟨g1,v,g2,by omega,g4⟩
   refine .inr ⟨g1,g2,λu hu hr e=>?_⟩;rcases pL (rk (kk m) u) (rk (kk m) w) with q|q
   ·exact g3 u hu q e
   have:=z7C hu hw (by omega);subst this;rw[hn e]at g1;cases g1
  refine⟨λhc=>?_,λhc=>?_⟩
  ·have hs0:0<=aft m from_ w:=by simpa using hc
   obtain⟨s,hs⟩:=nF hs0;have hsN:s<m.Rows.length:=by have:=hin.2;omega
   rw[hs];rcases h4 s hsN with⟨g1,v,g2,g3⟩|⟨g1,g2,g3⟩
   ·rw[zK,bdT g1];simp only[gV,cond_false];refine fin l is h2 h3 λt ht=>stay t ht λe=>?_;have:t=s:=by omega
    subst this;exact g1
   rw[zK,bdT g1];simp only[mO,cond_true];rw[bdT g1,zK,bdT g2,po];refine fin _ _ (by simpa using h2) (by simpa using h3) λt ht=>?_;by_cases e:t=s
   ·subst e;refine .inl ⟨by simp[h3,ht],w,by simp[h2,ht],by omega,hw,hlt,hs,λu hu he=>?_⟩;rcases pL (rk (kk m) u) (rk (kk m) w) with q|q
    ·exact(g3 u hu q he).elim
    exact q
   have:=stay t ht λe2=>by omega
   unfold z2e at this⊢;rw[gJ (by omega),gJ (by omega)];exact this
  have hs0:¬0<=aft m from_ w:=by simpa using hc
  exact fin l is h2 h3 λt ht=>stay t ht λe=>by omega
 have hlt:¬w.length<m.Rows.length:=by simpa using hc
 have hle:w.length=m.Rows.length:=by omega
 have hrk:rk (kk m) w=GG (kk m) m.Rows.length:=by
  have:GG (kk m) m.Rows.length<=rk (kk m) w:=by rw[<-hle];unfold rk;omega
  omega
 refine z8.2 ⟨h2,h3,λt ht=>?_⟩;rw[<-hrk];exact h4 t ht
end
def wy:TB->TB->Int
 |[],[]=>0
 |[],_::_=>-1
 |_::_,[]=>1
 |x::a,y::b=>if x<y then -1 else if y<x then 1 else wy a b
def Yc (a b:TB):Int:=if a.length<b.length then -1 else if b.length<a.length then 1 else wy a b
def zat:∀{a b:TB},wy a b=0->a=b
 |[],[],_=>rfl
 |[],_::_,h=>by simp[wy]at h
 |_::_,[],h=>by simp[wy]at h
 |x::a,y::b,h=>by
  simp only[wy]at h;split at h
  ·simp at h
  split at h
  ·simp at h
  rw[show x=y by omega,zat h]
def z5O:∀a:TB,wy a a=0
 |[]=>rfl
 |x::a=>by simp[wy,z5O a]
def z7U:∀a b:TB,wy b a=- wy a b
 |[],[]=>rfl
 |[],_::_=>rfl
 |_::_,[]=>rfl
 |x::a,y::b=>by
  simp only[wy];split
  ·rw[if_neg (by omega)]
  split
  ·rfl
  exact z7U a b
def z3d:∀{a b c:TB},wy a b<0->wy b c<0->wy a c<0
 |[],[],_,h,_=>by simp[wy]at h
 |[],_::_,[],_,h=>by simp[wy]at h
 |[],_::_,_::_,_,_=>by simp[wy]
 |_::_,[],_,h,_=>by simp[wy]at h
 |_::_,_::_,[],_,h=>by simp[wy]at h
 |x::a,y::b,z::c,h1,h2=>by
  simp only[wy]at h1 h2⊢;by_cases e1:x<y
  ·by_cases e2:y<z
   ·rw[if_pos (by omega)];omega
   rw[if_neg e2]at h2;by_cases e3:z<y
   ·rw[if_pos e3]at h2;omega
   rw[if_pos (by omega)];omega
  rw[if_neg e1]at h1;by_cases e3:y<x
  ·rw[if_pos e3]at h1;omega
  rw[if_neg e3]at h1;have:x=y:=by omega
  subst this;by_cases e2:x<z
  ·rw[if_pos e2];omega
  rw[if_neg e2]at h2⊢;by_cases e4:z<x
  ·rw[if_pos e4]at h2;omega
  rw[if_neg e4]at h2⊢;exact z3d h1 h2
variable {a b:TB}
def z4v (h:Yc a b=0):a=b:=by
 unfold Yc at h;split at h
 ·simp at h
 split at h
 ·simp at h
 exact zat h
def K2 (a:TB):Yc a a=0:=by simp[Yc,z5O]
def z8g:Yc a b=0↔a=b:=⟨z4v,λh=>h▸K2 a⟩
def z8f (a b:TB):Yc b a=- Yc a b:=by
 unfold Yc;by_cases h1:a.length<b.length
 ·rw[if_pos h1,if_neg (by omega),if_pos h1];rfl
 by_cases h2:b.length<a.length
 ·rw[if_pos h2,if_neg h1,if_pos h2]
 rw[if_neg h1,if_neg h2,if_neg h2,if_neg h1,z7U]
def ZD {a b c:TB}(h1:Yc a b<0)(h2:Yc b c<0):Yc a c<0:=by
 unfold Yc at *;by_cases e1:a.length<b.length
 ·by_cases e2:b.length<c.length
  ·rw[if_pos (by omega)];omega
  rw[if_neg e2]at h2;by_cases e3:c.length<b.length
  ·rw[if_pos e3]at h2;omega
  rw[if_pos (by omega)];omega
 rw[if_neg e1]at h1;by_cases e3:b.length<a.length
 ·rw[if_pos e3]at h1;omega
 rw[if_neg e3]at h1;have e:a.length=b.length:=by omega
 rw[e];by_cases e2:b.length<c.length
 ·rw[if_pos e2];omega
 rw[if_neg e2]at h2⊢;by_cases e4:c.length<b.length
 ·rw[if_pos e4]at h2;omega
 rw[if_neg e4]at h2⊢;exact z3d h1 h2
def Qg (a:TB):¬Yc a a<0:=by rw[K2];omega
def zb2 (h:Yc a b<0):¬Yc b a<0:=by rw[z8f a b];omega
def z79:¬Yc a b<0↔Yc b a<0\/a=b:=by rw[<-z8g,z8f a b];omega
def SW (l:TA):Prop:=l.Pairwise λa b=>Yc a b<0
def SW.nil:SW []:=List.Pairwise.nil
variable {l:TA}{x:TB}
def SW.tail (h:SW (x::l)):SW l:=(mU.1 h).2
def SW.head (h:SW (x::l)):∀y∈l,Yc x y<0:=(mU.1 h).1
def SW.unique:∀{l m:TA},SW l->SW m->(∀x,x∈l↔x∈m)->l=m
 |[],[],_,_,_=>rfl
 |[],y::m,_,_,h=>by have:=(h y).2 (by simp);simp at this
 |x::l,[],_,_,h=>by have:=(h x).1 (by simp);simp at this
 |x::l,y::m,h1,h2,h=>by
  have hxy:x=y:=by
   rcases pB.1 ((h x).1 (by simp)) with e|e
   ·exact e
   rcases pB.1 ((h y).2 (by simp)) with e'|e'
   ·exact e'.symm
   exact absurd (h2.head x e) (zb2 (h1.head y e'))
  subst hxy;rw[SW.unique h1.tail h2.tail λz=>?_];constructor
  ·intro hz;rcases pB.1 ((h z).1 (by simp[hz])) with e|e
   ·subst e;exact absurd (h1.head _ hz) (Qg _)
   exact e
  intro hz;rcases pB.1 ((h z).2 (by simp[hz])) with e|e
  ·subst e;exact absurd (h2.head _ hz) (Qg _)
  exact e
def SW.sub {l m:TA}(h:SW l)(hs:List.Sublist m l):SW m:=rj hs h
def SW.filter (h:SW l)(p:TB->Bool):SW (l.filter p):=h.sub List.filter_sublist
def SW.nodup (h:SW l):l.Nodup:=List.Pairwise.imp (λ{a b} q e=>by subst e;exact Qg _ q) h
def z5w (w:TB):TA->TA
 |[]=>[w]
 |x::l=>if Yc x w<0 then x::z5w w l else if Yc x w=0 then x::l else w::x::l
def z4i {w x:TB}:∀{l:TA},x∈z5w w l↔x=w\/x∈l
 |[]=>by simp[z5w]
 |y::l=>by
  simp only[z5w];split
  ·simp only[pB,z4i];constructor
   ·rintro(h|h|h)<;>simp[h]
   rintro(h|h|h)<;>simp[h]
  split
  ·rename_i h1 h2;have:=z4v h2;subst this;simp
  simp
def SW.put {w:TB}:∀{l:TA},SW l->SW (z5w w l)
 |[],_=>by simp[z5w,SW]
 |y::l,h=>by
  simp only[z5w];split
  ·rename_i h1;refine mU.2 ⟨λz hz=>?_,SW.put h.tail⟩;rcases z4i.1 hz with rfl|hz
   ·exact h1
   exact h.head z hz
  split
  ·exact h
  rename_i h1 h2;have hw:Yc w y<0:=by
   rcases z79.1 h1 with q|q
   ·exact q
   exact absurd (z8g.2 q) h2
  refine mU.2 ⟨λz hz=>?_,h⟩;rcases pB.1 hz with rfl|hz
  ·exact hw
  exact ZD hw (h.head z hz)
def z7I (w:TB):∀l,(z5w w l).length<=l.length+1
 |[]=>by simp[z5w]
 |y::l=>by
  simp only[z5w];split
  ·have:=z7I w l;simp;omega
  split<;>simp
def srt (l:TA):TA:=l.foldl (λm w=>z5w w m) []
def z6z:∀(l m:TA),SW m->SW (l.foldl (λm w=>z5w w m) m)/\∀x,x∈l.foldl (λm w=>z5w w m) m↔x∈m\/x∈l
 |[],m,h=>⟨h,by simp⟩
 |w::l,m,h=>by
  obtain⟨h1,h2⟩:=z6z l (z5w w m) h.put;refine⟨h1,λx=>?_⟩;rw[nZ,h2,z4i];simp only[pB];constructor
  ·rintro((h|h)|h)<;>simp[h]
  rintro(h|h|h)<;>simp[h]
def Zl (l:TA):SW (srt l):=(z6z l [] .nil).1
def xa:x∈srt l↔x∈l:=by rw[srt,(z6z l [] .nil).2];simp
def z9o {l m:TA}(h:SW m)(hm:∀x,x∈m↔x∈l):m=srt l:=h.unique (Zl l) λx=>by rw[hm,xa]
def Jy (h:SW l):srt l=l:=(z9o h λ_=>.rfl).symm
def z5d {l m:TA}(h:∀x,x∈l↔x∈m):srt l=srt m:=z9o (Zl l) λx=>by rw[xa,h]
def QS (l:TA):(srt l).length<=l.length:=by
 have:∀(l m:TA),(l.foldl (λm w=>z5w w m) m).length<=m.length+l.length:=by
  intro l;induction l with
  |nil=>intro m;simp
  |cons w l ih=>intro m;have:=ih (z5w w m);have:=z7I w m;simp only[nZ,pX];omega
 have q:=this l [];simp only[mY,gS]at q;exact q
def zz {l:List α}{i:Nat}{x:α}(h:l[i]?=some x):idx l (i:Int)=some x:=h
def zfk (b:TB)(g:Nat->Int->Option Int)(hg:∀i x y,b[i]?=some y->g i x=if x<y then some (-1) else if y<x then some 1 else none) :
  ∀(a:TB) (k:Nat),k+a.length=b.length->(ye g a k).getD 0=wy a (b.drop k)
 |[],k,h=>by have:b.drop k=[]:=gW (by simp at h;omega);rw[this];rfl
 |x::a,k,h=>by
  simp only[pX]at h;have hk:k<b.length:=by omega
  rw[mV hk];simp only[ye,wy,hg k x b[k] (pf hk)];by_cases h1:x<b[k]
  ·simp[h1]
  by_cases h2:b[k]<x
  ·simp[h1,h2]
  simp only[h1,h2,if_false];exact zfk b g hg a (k+1) (by omega)
def cI (x y:Int):Int:=if x<y then -1 else if y<x then 1 else 0
def zb1 (x y:Int):qb x y=some (cI x y):=by
 unfold qb YK cI;simp only[bne_self_eq_false,oB,cond_false];by_cases h1:x<y
 ·simp[h1]
 by_cases h2:y<x
 ·simp[h1,h2]
 simp[h1,h2]
def zgy (a b:TB)(h:a.length<4611686018427387904):∃c,wC a b=some c/\(a.length=b.length->c=wy a b):=by
 unfold wC;have hloop:=wU a h (step:=λs=>xL a b s) (λi x=>match b[i]? with|some y=>if x<y then some (-1:Int) else if y<x then some 1 else none|none=>some 1) (by
  intro i x hx;have hi:i<a.length:=(pg.1 hx).1;unfold xL;have hc:decide ((i:Int)<(a.length:Int))=true:=by simpa using hi
  simp only[hc,cond_true,zz hx,oB];by_cases hb:i<b.length
  ·have hy:b[i]?=some b[i]:=pf hb;have hd:decide ((i:Int)>=(b.length:Int))=false:=by simp;omega
   simp only[hd,cond_false,zz hy,hy,oB,zb1];unfold cI;by_cases h1:x<b[i]
   ·simp[h1,nS]
   by_cases h2:b[i]<x
   ·simp[h1,h2,nS]
   simp[h1,h2,nS]
  have hy:b[i]?=none:=pO (by omega);have hd:decide ((i:Int)>=(b.length:Int))=true:=by simp;omega
  simp only[hd,cond_true,hy,nS]) (by unfold xL;simp)
 rw[bdT hloop];have q:=λhl=>zfk b (λi x=>match b[i]? with|some y=>if x<y then some (-1:Int) else if y<x then some 1 else none|none=>some 1) (λi x y hy=>by simp only[hy]) a 0 hl;cases hf:ye (λi x=>match b[i]? with|some y=>if x<y then some (-1:Int) else if y<x then some 1 else none|none=>some 1) a 0 with
 |some r=>refine⟨r,rfl,λhl=>?_⟩;have:=q (by omega);rw[hf]at this;simpa using this
 |none=>
  unfold wZ;by_cases hl:a.length<b.length
  ·refine⟨-1,by simp[oS,hl],λhl2=>by omega⟩
  refine⟨0,by simp[oS,hl],λhl2=>?_⟩;have:=q (by omega);rw[hf]at this;simpa using this
def zoG (x y:Int):Qe [x,y]=some (if x=0 then y else x):=by
 unfold Qe;rw[bdT (wU [x,y] (by simp) (step:=λs=>YL [x,y] s) (λi v=>if v≠0 then some v else none) ?_ ?_)]
 ·by_cases h1:x=0
  ·by_cases h2:y=0
   ·simp[ye,h1,h2,oS,Vq]
   simp[ye,h1,h2,oS]
  simp[ye,h1,oS]
 ·intro i v hv;have hi:i<[x,y].length:=(pg.1 hv).1;unfold YL;have hc:decide ((i:Int)<(([x,y]:TB).length:Int))=true:=by simp only[decide_eq_true_eq];omega
  simp only[hc,cond_true,zz hv,oB];by_cases h:v=0
  ·simp[h,nS]
  have hb:(v !=0)=true:=by simpa using h
  simp[h,hb,nS]
 unfold YL;simp
def WI (a b:TB)(h:a.length<4611686018427387904):yx a b=some (Yc a b):=by
 unfold yx;obtain⟨c,hc,hl⟩:=zgy a b h;rw[zb1,hc];simp only[oB,zoG];unfold cI Yc;by_cases h1:a.length<b.length
 ·simp[h1]
 by_cases h2:b.length<a.length
 ·simp[h1,h2]
 simp[h1,h2,hl (by omega)]
def wE (n:Int)(w:TB):Int:=if 256<w.length then 3 else if w.any (λc=>decide (c<0) || decide (n<=c)) then 1 else 0
variable {n:Int}
def z3Q {w:TB}:wE n w=0↔w.length<=256/\∀c∈w,0<=c/\c<n:=by
 unfold wE;by_cases h:256<w.length
 ·rw[if_pos h];exact⟨λq=>by simp at q,λq=>by omega⟩
 rw[if_neg h];by_cases h2:w.any (λc=>decide (c<0) || decide (n<=c))=true
 ·rw[if_pos h2];simp only[rG,mc,decide_eq_true_eq]at h2;obtain⟨c,h3,h4⟩:=h2;refine⟨λq=>by simp at q,λq=>?_⟩;have:=q.2 c h3;omega
 rw[if_neg h2];simp only[rG,mc,decide_eq_true_eq,not_exists,not_and,not_or]at h2;refine⟨λ_=>⟨by omega,λc hc=>?_⟩,λ_=>rfl⟩;have:=h2 c hc;omega
variable {ρ:Type}
def zfl (p:Int->Bool)(g:Nat->Int->Option ρ)(hg:∀i x,(g i x).isSome=p x):∀(w:TB) (k:Nat),(ye g w k).isSome=w.any p
 |[],k=>rfl
 |x::w,k=>by
  simp only[ye,List.any_cons];have:=hg k x;cases hx:g k x with
  |some r=>rw[hx]at this;simp at this;simp[<-this]
  |none=>rw[hx]at this;simp at this;rw[this,nH];exact zfl p g hg w (k+1)
def z0W (n:Int)(w:TB):vI w n=some (if 16<n then 3 else if 256<w.length then 3 else if n<1 then 1 else wE n w):=by
 unfold vI;by_cases h0:16<n
 ·simp[h0]
 by_cases h:256<w.length
 ·have h':(256:Int)<(w.length:Int):=by omega
  simp[h0,h,h']
 by_cases h1:n<1
 ·have h':¬(256:Int)<(w.length:Int):=by omega
  simp[h0,h,h',h1]
 have hd:decide (((w.length:Nat):Int)>256)=false:=by simp;omega
 have hd0:decide (n>16)=false:=by simp;omega
 have hd1:decide (n<1)=false:=by simp;omega
 simp only[hd,hd0,hd1,cond_false,if_neg h,if_neg h0,if_neg h1];unfold ww vt wE;have hl:=wU w (by omega) (step:=λs=>xq w n s) (λi c=>if c<0\/n<=c then some (i:Int) else none) (by
  intro i c hc;have hi:i<w.length:=(pg.1 hc).1;unfold xq WN;have hq:decide ((i:Int)<(w.length:Int))=true:=by simpa using hi
  simp only[hq,cond_true,zz hc,oB];by_cases h1:c<0
  ·simp[h1,nS]
  by_cases h2:n<=c
  ·simp[h1,h2,nS]
  simp[h1,h2,nS]) (by unfold xq;simp)
 rw[bdT hl,if_neg h];have q:=zfl (λc=>decide (c<0) || decide (n<=c)) (λi c=>if c<0\/n<=c then some (i:Int) else none) (λi c=>by by_cases h:c<0\/n<=c<;>simp[h]<;>simpa using h) w 0;cases hf:ye (λi c=>if c<0\/n<=c then some (i:Int) else none) w 0 with
 |none=>rw[hf]at q;rw[<-q];rfl
 |some r=>
  rw[hf]at q;obtain⟨i,x,h1,h2⟩:=jB hf;rw[<-q];split at h2
  ·cases h2;simp[oS]
  cases h2
def eS (e:Int):Option Int:=if e=0 then none else some e
def loE (n:Int)(l:TA):Int:=if 16<n then 3 else if 4096<l.length then 3 else if n<1 then 1 else(ye (λ_ w=>eS (wE n w)) l 0).getD 0
def z89:∀{l:TA} {k:Nat},(ye (λ_ w=>eS (wE n w)) l k).getD 0=0↔∀w∈l,wE n w=0
 |[],_=>by simp[ye]
 |w::l,k=>by
  by_cases h:wE n w=0
  ·have:eS (wE n w)=none:=by simp[eS,h]
   simp only[ye,this];rw[z89];simp[h]
  have:eS (wE n w)=some (wE n w):=by simp[eS,h]
  simp[ye,this,h]
def JS:loE n l=0↔(1<=n/\n<=16)/\l.length<=4096/\∀w∈l,w.length<=256/\∀c∈w,0<=c/\c<n:=by
 unfold loE;by_cases h0:16<n
 ·rw[if_pos h0];exact⟨λq=>by simp at q,λq=>by omega⟩
 by_cases h1:4096<l.length
 ·rw[if_neg h0,if_pos h1];exact⟨λq=>by simp at q,λq=>by omega⟩
 by_cases h2:n<1
 ·rw[if_neg h0,if_neg h1,if_pos h2];exact⟨λq=>by simp at q,λq=>by omega⟩
 rw[if_neg h0,if_neg h1,if_neg h2,z89];constructor
 ·intro q;exact⟨by omega,by omega,λw hw=>z3Q.1 (q w hw)⟩
 intro q w hw;exact z3Q.2 (q.2.2 w hw)
def z4k (l:TA)(n:Int):X2 l n=some (loE n l):=by
 unfold X2 loE;by_cases h0:16<n
 ·simp[h0]
 by_cases h1:4096<l.length
 ·have h':(4096:Int)<(l.length:Int):=by omega
  simp[h0,h1,h']
 by_cases h2:n<1
 ·have h':¬(4096:Int)<(l.length:Int):=by omega
  simp[h0,h1,h2,h']
 have d0:decide (n>16)=false:=by simp;omega
 have d1:decide (((l.length:Nat):Int)>4096)=false:=by simp;omega
 have d2:decide (n<1)=false:=by simp;omega
 simp only[d0,d1,d2,cond_false,if_neg h0,if_neg h1,if_neg h2];rw[bdT (wU l (by omega) (step:=λs=>ZH l n s) (λ_ w=>eS (wE n w)) ?_ ?_)]
 ·cases ye (λ_ w=>eS (wE n w)) l 0<;>rfl
 ·intro i w hw;have hi:i<l.length:=(pg.1 hw).1;have hq:decide ((i:Int)<(l.length:Int))=true:=by simpa using hi
  have he:vI w n=some (wE n w):=by
   rw[z0W,if_neg h0,if_neg h2];by_cases h:256<w.length
   ·rw[if_pos h];unfold wE;rw[if_pos h]
   rw[if_neg h]
  unfold ZH;simp only[hq,cond_true,zz hw,oB,he];by_cases hz:wE n w=0
  ·simp[hz,eS,nS]
  have hb:(wE n w !=0)=true:=by simpa using hz
  simp[hz,hb,eS,nS]
 unfold ZH;simp
def zdA (l:TA)(hl:l.length<4611686018427387904){step:Int×Int->Option (LR (Int×Int) Int)}
  (h:∀(n:Int) (i:Nat) (x:TB),l[i]?=some x->step (n,(i:Int))=some (.next (w64 (n+((x.length:Nat):Int)),w64 ((i:Int)+1)))) (h2:∀n,step (n,(l.length:Int))=some (.done n)) :
  loop step (0,0)=some (l.foldl (λn x=>w64 (n+((x.length:Nat):Int))) 0):=by
 have gen:∀(m k:Nat) (n:Int),k<=l.length->l.length-k<m->JQ step m (n,(k:Int))=some ((l.drop k).foldl (λn x=>w64 (n+((x.length:Nat):Int))) n):=by
  intro m;induction m with
  |zero=>intro k n _ h;omega
  |succ m ih=>
   intro k n hk hn;rw[YS];rcases pL k l.length with hlt|hge
   ·have hx:l[k]?=some l[k]:=pf hlt;rw[h n k _ hx,mV hlt];simp only[nZ];rw[zC (x:=(k:Int)+1) (by omega) (by omega)];exact ih (k+1) _ hlt (by omega)
   have:k=l.length:=by omega
   subst this;rw[h2,List.drop_length];rfl
 exact gen Wh 0 0 (pP _) (by show l.length-0<18446744073709551616;omega)
def stW (l:TA):Int:=l.foldl (λn x=>w64 (n+((x.length:Nat):Int))) 0
def z7p (l:TA)(hl:l.length<4611686018427387904):YZ l=some (stW l):=by
 unfold YZ;rw[bdT (zdA l hl (step:=λs=>ZG l s.1 s.2) ?_ ?_)]
 ·rfl
 ·intro n i x hx;have hi:i<l.length:=(pg.1 hx).1;have hq:decide ((i:Int)<(l.length:Int))=true:=by simpa using hi
  unfold ZG;simp only[hq,cond_true,zz hx,oB]
 intro n;unfold ZG;simp
def jG (l:TA):Nat:=(l.map List.length).sum
def zeL (h:jG l<4611686018427387904):stW l=(jG l:Int):=by
 have gen:∀(l:TA) (n:Nat),n+jG l<4611686018427387904->l.foldl (λn x=>w64 (n+((x.length:Nat):Int))) (n:Int)=((n+jG l:Nat):Int):=by
  intro l;induction l with
  |nil=>intro n _;simp[jG]
  |cons x l ih=>
   intro n hn;have hs:jG (x::l)=x.length+jG l:=by simp[jG]
   rw[hs]at hn⊢;rw[nZ,zC (by omega) (by omega),<-Int.natCast_add,ih (n+x.length) (by omega)];congr 1;omega
 have:=gen l 0 (by omega);simpa[stW] using this
def z3T {m:Nat}(h:∀w∈l,w.length<=m):jG l<=l.length*m:=by
 induction l with
 |nil=>simp[jG]
 |cons x l ih=>
  have hs:jG (x::l)=x.length+jG l:=by simp[jG]
  have h1:=h x (by simp);have h2:=ih λw hw=>h w (by simp[hw]);rw[hs,pX,gU];omega
def z7n:∀{l:TA},SW l↔∀i x y,l[i]?=some x->l[i+1]?=some y->Yc x y<0
 |[]=>by simp[SW]
 |[x]=>⟨λ_ i a b _ h2=>by simp at h2,λ_=>by simp[SW]⟩
 |x::y::l=>by
  constructor
  ·intro h i a b h1 h2;cases i with
   |zero=>simp at h1 h2;subst h1;subst h2;exact h.head y (by simp)
   |succ i=>exact z7n.1 h.tail i a b (by simpa using h1) (by simpa using h2)
  intro h;have ht:SW (y::l):=z7n.2 λi a b h1 h2=>h (i+1) a b (by simpa using h1) (by simpa using h2);have h0:=h 0 x y rfl rfl;refine mU.2 ⟨λz hz=>?_,ht⟩;rcases pB.1 hz with rfl|hz
  ·exact h0
  exact ZD h0 (ht.head z hz)
def z8M {α ρ:Type}(l:List α)(hl:l.length<4611686018427387904){step:Int->Option (LR Int (Unit⊕ρ))}(f:Nat->α->Option ρ)
  (h:∀(i:Nat) (x:α),1<=i->l[i]?=some x->step (i:Int)=some (nS i (f i x))) (h2:∀k:Nat,l.length<=k->step (k:Int)=some (.done (.inl ()))) :
  loop step 1=some (oS (ye f (l.drop 1) 1)):=by
 have gen:∀(n:Nat) (k:Nat),1<=k->l.length-k<n->JQ step n (k:Int)=some (oS (ye f (l.drop k) k)):=by
  intro n;induction n with
  |zero=>intro k _ h;omega
  |succ n ih=>
   intro k hk hn;rw[YS];rcases pL k l.length with hlt|hge
   ·have hx:l[k]?=some l[k]:=pf hlt;rw[h k _ hk hx,mV hlt];simp only[ye];cases hf:f k l[k] with
    |some r=>rfl
    |none=>simp only[nS];rw[zC (by omega) (by omega)];exact ih (k+1) (by omega) (by omega)
   rw[h2 k hge,gW hge];rfl
 exact gen Wh 1 (pA _) (by show l.length-1<18446744073709551616;omega)
instance (l:TA):Decidable (SW l):=by unfold SW;infer_instance
def zdY (l:TA)(r:ρ):ye (λi x=>match l[i-1]? with|some y=>if 0<=Yc y x then some r else none|none=>none) (l.drop 1) 1=if SW l then none else some r:=by
 by_cases hs:SW l
 ·rw[if_pos hs];refine Xv λi x hx=>?_;rw[mM]at hx;have hi:1+i<l.length:=(pg.1 hx).1;have hy:l[1+i - 1]?=some l[i]:=by rw[show 1+i - 1=i by omega];exact pf (by omega)
  rw[hy];have:=z7n.1 hs i l[i] x (pf (by omega)) (by rw[sv];exact hx);simp only;rw[if_neg (by omega)]
 rw[if_neg hs];cases hf:ye (λi x=>match l[i-1]? with|some y=>if 0<=Yc y x then some r else none|none=>none) (l.drop 1) 1 with
 |some r'=>
  obtain⟨i,x,h1,h2⟩:=jB hf;split at h2
  ·split at h2
   ·exact h2.symm
   cases h2
  cases h2
 |none=>
  exfalso;refine hs (z7n.2 λi x y hx hy=>?_);have:=kX hf i y (by rw[mM,sv];exact hy);rw[show 1+i-1=i by omega,hx]at this;simp only at this;split at this
  ·cases this
  omega
def zew (l:TA)(h:l.length<=4096)(hw:∀w∈l,w.length<4611686018427387904):WT l=some (decide (SW l)):=by
 unfold WT;rw[bdT (z8M l (by omega) (step:=λs=>ZI l s) (λi x=>match l[i-1]? with|some y=>if 0<=Yc y x then some false else none|none=>none) ?_ ?_),zdY]
 ·by_cases hs:SW l
  ·simp[hs,oS,W5]
  simp[hs,oS]
 ·intro i x hi hx;have hil:i<l.length:=(pg.1 hx).1;have hy:l[i - 1]?=some l[i - 1]:=pf (by omega);have hq:decide ((i:Int)<(l.length:Int))=true:=by simpa using hil
  unfold ZI;rw[zC (x:=(i:Int)-1) (by omega) (by omega),show((i:Int)-1)=((i-1:Nat):Int) by omega];have hE:=WI l[i-1] x (hw _ (pN (by omega)));simp only[hq,cond_true,zz hx,zz hy,oB,hy,hE];by_cases hc:0<=Yc l[i-1] x
  ·simp[hc,nS]
  simp[hc,nS]
 intro k hk;unfold ZI;have:decide ((k:Int)<(l.length:Int))=false:=by simp;omega
 simp only[this,cond_false]
def chE (n:Int)(l:TA):Int:=if loE n l≠0 then loE n l else if SW l then(if 65536<jG l then 3 else 0) else 1
def z8i:chE n l=0↔loE n l=0/\SW l/\jG l<=65536:=by
 unfold chE;by_cases h:loE n l=0
 ·rw[if_neg (by simp[h])];by_cases h2:SW l
  ·rw[if_pos h2];by_cases h3:65536<jG l
   ·rw[if_pos h3];exact⟨λq=>by simp at q,λq=>by omega⟩
   rw[if_neg h3];exact⟨λ_=>⟨h,h2,by omega⟩,λ_=>rfl⟩
  rw[if_neg h2];exact⟨λq=>by simp at q,λq=>absurd q.2.1 h2⟩
 rw[if_pos h];exact⟨λq=>absurd q h,λq=>absurd q.1 h⟩
def z5L (h:loE n l=0):l.length<=4096/\(∀w∈l,w.length<=256)/\jG l<=1048576:=by obtain⟨_,h1,h2⟩:=JS.1 h;refine⟨h1,λw hw=>(h2 w hw).1,?_⟩;have:=z3T (m:=256) λw hw=>(h2 w hw).1;omega
def z13 (l:TA)(n:Int):j8 l n=some (chE n l):=by
 unfold j8 chE;rw[z4k];simp only[oB];by_cases h:loE n l=0
 ·obtain⟨h1,h2,h3⟩:=z5L h;rw[zew l h1 λw hw=>by have:=h2 w hw;omega,z7p l (by omega),zeL (by omega)];simp only[h,bne_self_eq_false,cond_false,oB,ne_eq,not_true,if_false];by_cases hs:SW l
  ·by_cases hq:65536<jG l
   ·have:(65536:Int)<(jG l:Int):=by omega
    simp[hs,hq,this]
   have:¬(65536:Int)<(jG l:Int):=by omega
   simp[hs,hq,this]
  simp[hs]
 have hb:(loE n l !=0)=true:=by simpa using h
 simp[h,hb]
def z0s (x:zy α)(i:Nat)(v:α):(zy.setI x (i:Int) v).toL=x.toL.set i v:=by unfold zy.setI;rw[zy.toL_ofL _ _ (by simp[zy.toL]),po]
def zfH {x y:zy α}(h:x.toL=y.toL):x=y:=by cases x;cases y;simp only[zy.toL,List.cons.injEq,and_true]at h;simp only[zy.mk.injEq];exact h
instance:LawfulBEq (zy (qI Int)):={
 eq_of_beq:=by
  intro a b h;cases a;cases b;simp only[BEq.beq,pF,decide_eq_true_eq]at h;simp only[zy.mk.injEq];obtain⟨⟨⟨⟨⟨⟨⟨⟨⟨⟨⟨⟨⟨⟨⟨h0,h1⟩,h2⟩,h3⟩,h4⟩,h5⟩,h6⟩,h7⟩,h8⟩,h9⟩,h10⟩,h11⟩,h12⟩,h13⟩,h14⟩,h15⟩:=h;have e:∀{p q:qI Int},(p.e0=q.e0/\p.e1=q.e1)->p=q:=by rintro⟨a0,a1⟩ ⟨b0,b1⟩ ⟨rfl,rfl⟩;rfl
  exact⟨e h0,e h1,e h2,e h3,e h4,e h5,e h6,e h7,e h8,e h9,e h10,e h11,e h12,e h13,e h14,e h15⟩
 rfl:=by intro a;cases a;simp[BEq.beq] }
instance:LawfulBEq zL:={
 eq_of_beq:=by intro a b h;have h:(a.block_==b.block_&&a.signature_==b.signature_)=true:=h;rw[pF,beq_iff_eq,beq_iff_eq]at h;obtain⟨a0,a1⟩:=a;obtain⟨b0,b1⟩:=b;obtain⟨h0,h1⟩:=h;have h0:a0=b0:=h0;have h1:a1=b1:=h1;rw[h0,h1]
 rfl:=by intro a;show(a.block_==a.block_&&a.signature_==a.signature_)=true;rw[beq_self_eq_true,beq_self_eq_true];rfl }
def sgN (m:z6)(p:TB)(s j:Nat):qI Int:=if j<kk m then⟨(E m s j).Out,if(E m s j).To=-1 then -1 else(p[(E m s j).To.toNat]?).getD 0⟩ else⟨0,0⟩
def z9R (f g:Nat->α){n i:Nat}(v:α)(h:∀j,j<n->g j=if j=i then v else f j):((List.range n).map f).set i v=(List.range n).map g:=by
 apply ma;intro j;by_cases hj:j<n
 ·have e1:((List.range n).map g)[j]?=some (g j):=by simp[hj]
  have e2:((List.range n).map f)[j]?=some (f j):=by simp[hj]
  rw[e1,h j hj];by_cases e:j=i
  ·subst e;rw[gQ (by simpa using hj),if_pos rfl]
  rw[gJ (λq=>e q.symm),e2,if_neg e]
 rw[pO (by simp;omega),pO (by simp;omega)]
variable {p:TB}
section
variable {m:z6}(h:VM m)
include h
theorem zcU (hp:p.length=m.Rows.length){s:Nat}(hs:s<m.Rows.length):Ret (jJ m p (s:Int)) λa=>a.toL=(List.range 16).map (sgN m p s):=by
 obtain⟨r,r1,r2,r3⟩:=h.rowAt hs;have hk:=h.kk_le;unfold jJ X9;rw[bdT (zz r1),zm];refine Ret.mono ?_ λa ha=>z8.2 ha;refine zG (λst=>∃i:Nat,st.2=(i:Int)/\i<=kk m/\st.1.toL=(List.range 16).map λj=>if j<i then sgN m p s j else⟨0,0⟩) (λst=>20-st.2.toNat) ⟨0,rfl,by omega,by simp[zy.toL,nM]⟩ (by show 20-_<_;omega) ?_;rintro⟨a,_⟩ ⟨i,rfl,hi,ha⟩;simp only at ha;show Ret (X8 p r a (i:Int)) _;unfold X8 kA;rw[zu];refine⟨λhc=>?_,λhc=>?_⟩
 ·have hc:(i:Int)<((r.length:Nat):Int):=of_decide_eq_true hc;have hik:i<kk m:=by omega
  have e1:a.toL[i]?=some ⟨0,0⟩:=by rw[ha];simp[show i<16 by omega]
  have w2:w64 ((i:Int)+1)=((i+1:Nat):Int):=by rw[zC (by omega) (by omega)];rfl
  have hed:=h.edgeAt hs hik;have step:∀v:qI Int,sgN m p s i=v->∀b:zy (qI Int),b.toL=((List.range 16).map λj=>if j<i then sgN m p s j else⟨0,0⟩).set i v->b.toL=(List.range 16).map λj=>if j<i+1 then sgN m p s j else⟨0,0⟩:=by
   intro v hv b hb;rw[hb];refine z9R _ _ v λj hj=>?_;by_cases e:j=i
   ·subst e;rw[if_pos (by omega),if_pos rfl,hv]
   rw[if_neg e];by_cases e2:j<i
   ·rw[if_pos e2,if_pos (by omega)]
   rw[if_neg e2,if_neg (by omega)]
  rw[bdT (zz (r3 i hik)),bdT (zz e1),oB,zu];refine⟨λht=>?_,λht=>?_⟩
  ·have ht:(E m s i).To≠-1:=by simpa using ht
   obtain⟨t,htn⟩:∃t:Nat,(E m s i).To=t:=⟨(E m s i).To.toNat,by omega⟩;have hpt:p[t]?=some p[t]:=pf (by omega);have e2:(zy.setI a (i:Int) ⟨(E m s i).Out,-1⟩).toL[i]?=some ⟨(E m s i).Out,-1⟩:=by rw[z0s,gQ (by rw[ha];simp;omega)]
   rw[htn,bdT (zz hpt),bdT (zz e2),oB,z8,w2];refine⟨⟨i+1,rfl,by omega,step _ ?_ _ (by rw[z0s,z0s,ha,List.set_set])⟩,by simp only[po];omega⟩;unfold sgN;rw[if_pos hik,if_neg ht,htn,po,hpt,pV]
  have ht:(E m s i).To=-1:=by simpa using ht
  rw[z8,w2];refine⟨⟨i+1,rfl,by omega,step _ ?_ _ (by rw[z0s,ha])⟩,by simp only[po];omega⟩;unfold sgN;rw[if_pos hik,if_pos ht]
 have hc:=of_decide_eq_false hc;have:i=kk m:=by omega
 subst this;refine z8.2 ?_;show a.toL=_;rw[ha];refine mG λj hj=>?_;unfold sgN;by_cases e:j<kk m
 ·rw[if_pos e,if_pos e]
 rw[if_neg e,if_neg e]
end
def Rgf (l:TB):Prop:=∀(s:Nat) (x:Int),l[s]?=some x->∃v:Nat,x=(v:Int)/\∀w:Nat,w<v->∃t,t<s/\l[t]?=some (w:Int)
def z7D {l r:TB}(hl:Rgf l)(hr:Rgf r)(hlen:l.length=r.length)(h:∀s t:Nat,s<l.length->t<l.length->(l[s]?=l[t]?↔r[s]?=r[t]?)):l=r:=by
 have gen:∀n s,s<n->s<l.length->l[s]?=r[s]?:=by
  intro n;induction n with
  |zero=>intro s q;omega
  |succ n ih=>
   intro s hs hsl;have hx:l[s]?=some l[s]:=pf hsl;have hy:r[s]?=some r[s]:=pf (by omega);by_cases old:∃t,t<s/\l[t]?=l[s]?
   ·obtain⟨t,t1,t2⟩:=old;rw[<-t2,ih t (by omega) (by omega)];exact(h t s (by omega) hsl).1 t2
   obtain⟨v,v1,v2⟩:=hl s _ hx;obtain⟨u,u1,u2⟩:=hr s _ hy;rw[hx,hy,v1,u1];rcases mW v u with q|q|q
   ·exfalso;obtain⟨t,t1,t2⟩:=u2 v q;exact old ⟨t,t1,by rw[ih t (by omega) (by omega),t2,hx,v1]⟩
   ·rw[q]
   exfalso;obtain⟨t,t1,t2⟩:=v2 u q;have:r[t]?=r[s]?:=by rw[<-ih t (by omega) (by omega),t2,hy,u1]
   exact old ⟨t,t1,(h t s (by omega) hsl).2 this⟩
 apply ma;intro s;by_cases hs:s<l.length
 ·exact gen (s+1) s (by omega) hs
 rw[pO (by omega),pO (by omega)]
def z7R {K V:Type}[BEq K](x:K)(v:V):∀l:List (K×V),WK l x=none->(z1F l x v).length=l.length+1
 |[],_=>rfl
 |p::l,hg=>by
  simp only[WK]at hg;split at hg
  ·cases hg
  rename_i q;simp only[z1F,q];show((p::z1F l x v).length)=_;rw[pX,z7R x v l hg,pX]
section
variable {m:z6}(h:VM m)
include h
def zeD (m:z6)(p:TB)(s t:Nat):Prop:=p[s]?=p[t]?/\∀j,j<kk m->sgN m p s j=sgN m p t j
theorem z6G (hp:p.length=m.Rows.length):Ret (kD m p) λq=>q.length=m.Rows.length/\Rgf q/\∀s t:Nat,s<m.Rows.length->t<m.Rows.length->(q[s]?=q[t]?↔zeD m p s t):=by
 have hN:=h.len64;have hk:=h.kk_le;have hkey:∀s,s<m.Rows.length->∃key:zL,key.block_=(p[s]?).getD 0/\key.signature_.toL=(List.range 16).map (sgN m p s)/\jJ m p (s:Int)=some key.signature_:=by intro s hs;obtain⟨a,a1,a2⟩:=zcU h hp hs;exact⟨⟨(p[s]?).getD 0,a⟩,rfl,a2,a1⟩
 have:∃key:Nat->zL,∀s,s<m.Rows.length->(key s).block_=(p[s]?).getD 0/\(key s).signature_.toL=(List.range 16).map (sgN m p s)/\jJ m p (s:Int)=some (key s).signature_:=by
  classical
  refine⟨λs=>if q:s<m.Rows.length then(hkey s q).choose else⟨0,zy.mk ⟨0,0⟩ ⟨0,0⟩ ⟨0,0⟩ ⟨0,0⟩ ⟨0,0⟩ ⟨0,0⟩ ⟨0,0⟩ ⟨0,0⟩ ⟨0,0⟩ ⟨0,0⟩ ⟨0,0⟩ ⟨0,0⟩ ⟨0,0⟩ ⟨0,0⟩ ⟨0,0⟩ ⟨0,0⟩⟩,λs hs=>?_⟩;simp only[hs,dif_pos];exact(hkey s hs).choose_spec
 obtain⟨key,hkey⟩:=this;have alike:∀s t,s<m.Rows.length->t<m.Rows.length->(key s=key t↔zeD m p s t):=by
  intro s t hs ht;obtain⟨a1,a2,_⟩:=hkey s hs;obtain⟨b1,b2,_⟩:=hkey t ht;have xs:p[s]?=some p[s]:=pf (by omega);have xt:p[t]?=some p[t]:=pf (by omega);rw[xs,pV]at a1;rw[xt,pV]at b1;constructor
  ·intro e;refine⟨by rw[xs,xt,<-a1,<-b1,e],λj hj=>?_⟩;have e2:(List.range 16).map (sgN m p s)=(List.range 16).map (sgN m p t):=by rw[<-a2,<-b2,e]
   have:=congrArg (λl=>l[j]?) e2;simpa[show j<16 by omega] using this
  rintro⟨e1,e2⟩;have e3:(key s).signature_=(key t).signature_:=zfH (by
   rw[a2,b2];refine mG λj hj=>?_;by_cases q:j<kk m
   ·exact e2 j q
   unfold sgN;rw[if_neg q,if_neg q])
  have e4:(key s).block_=(key t).block_:=by rw[a1,b1];rw[xs,xt]at e1;exact Option.some.inj e1
  revert e3 e4;generalize key s=u;generalize key t=v;intro e3 e4;obtain⟨u0,u1⟩:=u;obtain⟨v0,v1⟩:=v;simp only at e3 e4;rw[e3,e4]
 unfold kD kC;rw[gdT (by omega),zm];refine Ret.mono ?_ λq hq=>z8.2 hq;refine zG (λst=>∃i:Nat,st.2.2=(i:Int)/\i<=m.Rows.length/\st.2.1.length=m.Rows.length/\(∀s,s<i->∃v:Nat,st.2.1[s]?=some (v:Int)/\v<st.1.length/\WK st.1 (key s)=some (v:Int)/\∀w:Nat,w<v->∃t,t<s/\st.2.1[t]?=some (w:Int))/\(∀w:Nat,w<st.1.length->∃t,t<i/\st.2.1[t]?=some (w:Int)) /\
   (∀k v,WK st.1 k=some v->∃t,t<i/\key t=k)/\∀s t:Nat,s<i->t<i->st.2.1[s]?=st.2.1[t]?->key s=key t) (λst=>100-st.2.2.toNat) ⟨0,rfl,by omega,by simp[hp],λs q=>by omega,λw q=>by simp at q,λk v q=>by simp[WK]at q,λs t q=>by omega⟩ (by show 100-_<_;omega) ?_
 rintro⟨names,out,_⟩ ⟨i,rfl,hi,ho,h1,h2,h3,h4⟩;simp only at ho h1 h2 h3 h4;show Ret (kB m p names out (i:Int)) _;unfold kB;rw[zu];refine⟨λhc=>?_,λhc=>?_⟩
 ·have hc:(i:Int)<((p.length:Nat):Int):=of_decide_eq_true hc;have hiN:i<m.Rows.length:=by omega
  obtain⟨a1,a2,a3⟩:=hkey i hiN;have xi:p[i]?=some p[i]:=pf (by omega);rw[xi,pV]at a1;have hmk:zL.mk p[i] (key i).signature_=key i:=by rw[<-a1]
  have w2:w64 ((i:Int)+1)=((i+1:Nat):Int):=by rw[zC (by omega) (by omega)];rfl
  have hoi:out[i]?=some out[i]:=pf (by omega);rw[bdT (zz xi),bdT a3,oB,hmk];cases hg:WK names (key i) with
  |none=>
   rw[Option.isSome_none,mO,cond_true];unfold wQ;have hfresh:∀t,t<i->key t≠key i:=λt ht e=>by obtain⟨v,_,_,v3,_⟩:=h1 t ht;rw[e,hg]at v3;cases v3
   have hlen:=z7R (key i) ((names.length:Nat):Int) names hg;rw[hmk,z0v,if_pos (by simp),pV,oB,bdT (zz hoi),z8,w2,po];have keep:∀t:Nat,t<i->(out.set i ((names.length:Nat):Int))[t]?=out[t]?:=λt ht=>gJ (by omega);have new:(out.set i ((names.length:Nat):Int))[i]?=some ((names.length:Nat):Int):=gQ (by omega);refine⟨⟨i+1,rfl,by omega,by simp[ho],λs hs=>?_,λw hw=>?_,λk v q=>?_,λs t hs ht q=>?_⟩,by simp only[po];omega⟩
   ·simp only
    by_cases e:s=i
    ·subst e;refine⟨names.length,new,by omega,by rw[z0v,if_pos (by simp)],λw hw=>?_⟩;obtain⟨t,t1,t2⟩:=h2 w hw;exact⟨t,t1,by rw[keep t t1];exact t2⟩
    obtain⟨v,v1,v2,v3,v4⟩:=h1 s (by omega);refine⟨v,by rw[keep s (by omega)];exact v1,by omega,?_,λw hw=>?_⟩
    ·rw[z0v,if_neg (by simpa using λq=>hfresh s (by omega) q.symm)];exact v3
    obtain⟨t,t1,t2⟩:=v4 w hw;exact⟨t,t1,by rw[keep t (by omega)];exact t2⟩
   ·simp only at hw ⊢;by_cases e:w<names.length
    ·obtain⟨t,t1,t2⟩:=h2 w e;exact⟨t,by omega,by rw[keep t t1];exact t2⟩
    have:w=names.length:=by omega
    subst this;exact⟨i,by omega,new⟩
   ·simp only at q;rw[z0v]at q;by_cases e:key i=k
    ·exact⟨i,by omega,e⟩
    rw[if_neg (by simpa using e)]at q;obtain⟨t,t1,t2⟩:=h3 k v q;exact⟨t,by omega,t2⟩
   simp only at q;have low:∀t,t<i->out[t]?≠some ((names.length:Nat):Int):=λt ht g=>by obtain⟨v,v1,v2,_⟩:=h1 t ht;rw[v1]at g;have:=Option.some.inj g;omega
   by_cases es:s=i
   ·by_cases et:t=i
    ·rw[es,et]
    exfalso;rw[es,new,keep t (by omega)]at q;exact low t (by omega) q.symm
   by_cases et:t=i
   ·exfalso;rw[et,new,keep s (by omega)]at q;exact low s (by omega) q
   rw[keep s (by omega),keep t (by omega)]at q;exact h4 s t (by omega) (by omega) q
  |some v=>
   rw[Option.isSome_some,gV,cond_false];unfold wQ;obtain⟨t0,t1,t2⟩:=h3 _ _ hg;obtain⟨u,u1,u2,u3,u4⟩:=h1 t0 t1;rw[t2,hg]at u3;have hvu:v=(u:Int):=Option.some.inj u3;rw[hmk,hg,pV,oB,bdT (zz hoi),z8,w2,po];have keep:∀t:Nat,t<i->(out.set i v)[t]?=out[t]?:=λt ht=>gJ (by omega);have new:(out.set i v)[i]?=some v:=gQ (by omega);refine⟨⟨i+1,rfl,by omega,by simp[ho],λs hs=>?_,λw hw=>?_,λk v q=>?_,λs t hs ht q=>?_⟩,by simp only[po];omega⟩
   ·simp only
    by_cases e:s=i
    ·subst e;refine⟨u,by rw[new,hvu],u2,by rw[hg,hvu],λw hw=>?_⟩;obtain⟨t,g1,g2⟩:=u4 w hw;exact⟨t,by omega,by rw[keep t (by omega)];exact g2⟩
    obtain⟨v',v1,v2,v3,v4⟩:=h1 s (by omega);refine⟨v',by rw[keep s (by omega)];exact v1,v2,v3,λw hw=>?_⟩;obtain⟨t,g1,g2⟩:=v4 w hw;exact⟨t,g1,by rw[keep t (by omega)];exact g2⟩
   ·simp only at hw⊢;obtain⟨t,g1,g2⟩:=h2 w hw;exact⟨t,by omega,by rw[keep t g1];exact g2⟩
   ·obtain⟨t,g1,g2⟩:=h3 k v q;exact⟨t,by omega,g2⟩
   simp only at q;have like:∀t,t<i->out[t]?=some v->key t=key i:=λt ht g=>by rw[<-t2];exact h4 t t0 ht t1 (by rw[g,u1,hvu])
   by_cases es:s=i
   ·by_cases et:t=i
    ·rw[es,et]
    rw[es,new,keep t (by omega)]at q;rw[es];exact(like t (by omega) q.symm).symm
   by_cases et:t=i
   ·rw[et,new,keep s (by omega)]at q;rw[et];exact like s (by omega) q
   rw[keep s (by omega),keep t (by omega)]at q;exact h4 s t (by omega) (by omega) q
 have hc:=of_decide_eq_false hc;have:i=m.Rows.length:=by omega
 subst this;refine z8.2 ⟨ho,λs x hx=>?_,λs t hs ht=>?_⟩
 ·have hs:s<m.Rows.length:=by have:=(pg.1 hx).1;omega
  obtain⟨v,v1,_,_,v4⟩:=h1 s hs;rw[hx]at v1;exact⟨v,Option.some.inj v1,v4⟩
 rw[<-alike s t hs ht];refine⟨h4 s t hs ht,λe=>?_⟩;obtain⟨v,v1,_,v3,_⟩:=h1 s hs;obtain⟨u,u1,_,u3,_⟩:=h1 t ht;rw[e,u3]at v3;rw[v1,u1,<-Option.some.inj v3]
end
def z68 (a b:TB)(ha:a.length<4611686018427387904):w7 a b=some (decide (a=b)):=by
 unfold w7 vU;by_cases hl:a.length=b.length
 ·have e:(((a.length:Nat):Int) !=((b.length:Nat):Int))=false:=by simp[hl]
  rw[e,cond_false,wU a ha (step:=λs=>w8 a b s) (λi x=>if b[i]?=some x then none else some false) ?_ ?_]
  ·by_cases q:a=b
   ·rw[Xv λi x hx=>by rw[gS,<-q,if_pos hx]];simp[oS,q]
   cases hf:ye (λi x=>if b[i]?=some x then none else some false) a 0 with
   |none=>
    exfalso;refine q (ma λi=>?_);by_cases hi:i<a.length
    ·have hx:a[i]?=some a[i]:=pf hi;have:=kX hf i _ hx;rw[gS]at this;split at this
     ·rename_i g;rw[hx,g]
     cases this
    rw[pO (by omega),pO (by omega)]
   |some r=>
    obtain⟨i,x,_,h2⟩:=jB hf;split at h2
    ·cases h2
    cases h2;simp[oS,q]
  ·intro i x hx;have hi:=(pg.1 hx).1;have hy:b[i]?=some b[i]:=pf (by omega);unfold w8;rw[decide_eq_true (by omega),cond_true,bdT (zz hx),bdT (zz hy),hy];by_cases e2:x=b[i]
   ·rw[e2,bne_self_eq_false,cond_false,if_pos rfl];rfl
   have e3:(x !=b[i])=true:=by simpa using e2
   rw[e3,cond_true,if_neg λg=>e2 (Option.some.inj g).symm];rfl
  unfold w8;rw[decide_eq_false (by omega),cond_false]
 have e:(((a.length:Nat):Int) !=((b.length:Nat):Int))=true:=by simpa using λg:(a.length:Int)=b.length=>hl (by omega)
 rw[e,cond_true,decide_eq_false λq=>hl (by rw[q])]
section
variable {m:z6}(h:VM m)
include h
omit h in theorem seq_out {s t:Nat} (q:SEq m s t) {j:Nat} (hj:j<kk m):(E m s j).Out=(E m t j).Out/\∀w:TC,(∀i∈w,i<kk m)->rsp m (E m s j).To w=rsp m (E m t j).To w:=by
 have gen:∀w:TC,(∀i∈w,i<kk m)->(E m s j).Out=(E m t j).Out/\rsp m (E m s j).To w=rsp m (E m t j).To w:=by intro w hw;have:=q (j::w) (λi hi=>by rcases pB.1 hi with rfl|g;exact hj;exact hw i g);simp only[rsp,vX,List.cons.injEq]at this;exact this
 exact⟨(gen [] (by simp)).1,λw hw=>(gen w hw).2⟩
theorem z9w (hp:p.length=m.Rows.length)(hq:∀s t,s<m.Rows.length->t<m.Rows.length->SEq m s t->p[s]?=p[t]?){s t:Nat}(hs:s<m.Rows.length)(ht:t<m.Rows.length)(q:SEq m s t):zeD m p s t:=by
 refine⟨hq s t hs ht q,λj hj=>?_⟩;obtain⟨o1,o2⟩:=seq_out q hj;have hes:=h.edgeAt hs hj;have het:=h.edgeAt ht hj;unfold sgN;rw[if_pos hj,if_pos hj,o1];rcases hes with⟨a1,a2⟩|⟨a1,a2,a3,a4⟩
 ·rcases het with⟨b1,b2⟩|⟨b1,b2,b3,b4⟩
  ·rw[if_pos a1,if_pos b1]
  omega
 rcases het with⟨b1,b2⟩|⟨b1,b2,b3,b4⟩
 ·omega
 rw[if_neg (by omega),if_neg (by omega)];have e1:(((E m s j).To.toNat:Nat):Int)=(E m s j).To:=by omega
 have e2:(((E m t j).To.toNat:Nat):Int)=(E m t j).To:=by omega
 have:=hq _ _ (by omega) (by omega) (show SEq m (E m s j).To.toNat (E m t j).To.toNat from λw hw=>by rw[e1,e2];exact o2 w hw);rw[this]
theorem zaO (hp:p.length=m.Rows.length)(hr:Rgf p)(hf:∀s t,s<m.Rows.length->t<m.Rows.length->p[s]?=p[t]?->zeD m p s t):∀(w:TC) (s t:Nat),s<m.Rows.length->t<m.Rows.length->p[s]?=p[t]?->(∀i∈w,i<kk m)->rsp m (s:Int) w=rsp m (t:Int) w
 |[],_,_,_,_,_,_=>rfl
 |j::w,s,t,hs,ht,e,hw=>by
  have hj:j<kk m:=hw j (by simp);have hw':∀i∈w,i<kk m:=λi hi=>hw i (by simp[hi]);have hal:=(hf s t hs ht e).2 j hj;have hes:=h.edgeAt hs hj;have het:=h.edgeAt ht hj;have pos:∀u:Nat,u<m.Rows.length->0<=(p[u]?).getD 0:=λu hu=>by have hx:p[u]?=some p[u]:=pf (by omega);obtain⟨v,v1,_⟩:=hr u _ hx;rw[hx,pV,v1];omega
  unfold sgN at hal;rw[if_pos hj,if_pos hj]at hal;have a0:=congrArg qI.e0 hal;have a1:=congrArg qI.e1 hal;simp only at a0 a1;simp only[rsp,vX,a0,List.cons.injEq,true_and];rcases hes with⟨b1,b2⟩|⟨b1,b2,b3,b4⟩
  ·rcases het with⟨c1,c2⟩|⟨c1,c2,c3,c4⟩
   ·rw[b1,c1]
   rw[if_pos b1,if_neg (by omega)]at a1;have:=pos (E m t j).To.toNat (by omega);omega
  rcases het with⟨c1,c2⟩|⟨c1,c2,c3,c4⟩
  ·rw[if_neg (by omega),if_pos c1]at a1;have:=pos (E m s j).To.toNat (by omega);omega
  rw[if_neg (by omega),if_neg (by omega)]at a1;have x1:p[(E m s j).To.toNat]?=some p[(E m s j).To.toNat]:=pf (by omega);have x2:p[(E m t j).To.toNat]?=some p[(E m t j).To.toNat]:=pf (by omega);have:=zaO hp hr hf w (E m s j).To.toNat (E m t j).To.toNat (by omega) (by omega) (by rw[x1,x2]at a1⊢;exact congrArg some a1) hw';have e1:(((E m s j).To.toNat:Nat):Int)=(E m s j).To:=by omega
  have e2:(((E m t j).To.toNat:Nat):Int)=(E m t j).To:=by omega
  rw[e1,e2]at this;exact this
def UT (N:Nat)(p:TB):Nat:=((List.range N).flatMap λs=>(List.range N).map λt=>(s,t)).countP λx=>decide (p[x.1]?=p[x.2]?)
omit h in
theorem z5I {N s t:Nat}:(s,t)∈((List.range N).flatMap λs=>(List.range N).map λt=>(s,t))↔s<N/\t<N:=by
 simp only[mD,pR,gK,Prod.mk.injEq];constructor
 ·rintro⟨a,ha,b,hb,rfl,rfl⟩;exact⟨ha,hb⟩
 rintro⟨a,b⟩;exact⟨s,a,t,b,rfl,rfl⟩
theorem z8X:Ret (kF m) λr=>r.2.2=0/\r.1.length=m.Rows.length/\Rgf r.1/\∀s t:Nat,s<m.Rows.length->t<m.Rows.length->(r.1[s]?=r.1[t]?↔SEq m s t):=by
 have hN:=h.len64;have hN1:=h.len1;unfold kF W7;rw[YM,K3 h,oB,bne_self_eq_false,cond_false,oB];unfold qY;rw[gdT (by omega),zm,zm];have e0:((m.Rows.length:Nat):Int).toNat=m.Rows.length:=by simp
 rw[e0];refine(zG (R:=λy:LR (TB×Int) Empty=>∃p n,y=.next (p,n)/\p.length=m.Rows.length/\Rgf p/\∀s t:Nat,s<m.Rows.length->t<m.Rows.length->(p[s]?=p[t]?↔SEq m s t))
  (λst:LR (TB×Int) Empty×TB=>(∃x,st.1=.next x)/\st.2.length=m.Rows.length/\Rgf st.2/\∀s t:Nat,s<m.Rows.length->t<m.Rows.length->SEq m s t->st.2[s]?=st.2[t]?) (λst=>UT m.Rows.length st.2) ⟨⟨_,rfl⟩,by simp,?_,?_⟩ ?_ ?_).mono ?_
 ·intro s x hx;simp only[gN]at hx;split at hx
  ·cases hx;exact⟨0,rfl,λw q=>by omega⟩
  cases hx
 ·intro s t hs ht _;simp only[gN];rw[if_pos hs,if_pos ht]
 ·have:UT m.Rows.length (List.replicate m.Rows.length (0:Int))<=((List.range m.Rows.length).flatMap λs=>(List.range m.Rows.length).map λt=>(s,t)).length:=rS;have e:((List.range m.Rows.length).flatMap λs=>(List.range m.Rows.length).map λt=>(s,t)).length=m.Rows.length*m.Rows.length:=by rw[List.length_flatMap];simp only[hZ,List.length_range,List.map_const',List.sum_replicate_nat]
  rw[e]at this;have:=mX hN hN;show UT m.Rows.length (List.replicate m.Rows.length (0:Int))<18446744073709551616;omega
 ·rintro⟨y,p⟩ ⟨⟨⟨x,n⟩,rfl⟩,hp,hr,hq⟩;simp only at hp hr hq;show Ret (vW m (yOf λs x=>wR s.1 s.2 x) (.next (x,n)) p) _;unfold vW;simp only[yOf,wR,oB,cond_true];rw[zm];refine(z6G h hp).mono ?_;rintro q ⟨q1,q2,q3⟩;rw[z68 p q (by omega),oB,zu];refine⟨λhc=>?_,λhc=>?_⟩
  ·have hc:p=q:=of_decide_eq_true hc;rw[z8];refine⟨p,w64 (n+1),rfl,hp,hr,λs t hs ht=>⟨λe w hw=>?_,hq s t hs ht⟩⟩;exact zaO h hp hr (λs t hs ht e=>(q3 s t hs ht).1 (by rw[<-hc];exact e)) w s t hs ht e hw
  have hc:¬p=q:=of_decide_eq_false hc;rw[z8];refine⟨⟨⟨_,rfl⟩,q1,q2,λs t hs ht e=>(q3 s t hs ht).2 (z9w h hp hq hs ht e)⟩,?_⟩;show UT m.Rows.length q<UT m.Rows.length p;unfold UT;refine z21 (λz hz hd=>?_) ?_
  ·obtain⟨s,t⟩:=z;obtain⟨hs,ht⟩:=z5I.1 hz;simp only[decide_eq_true_eq]at hd⊢;exact((q3 s t hs ht).1 hd).1
  refine pZ λg=>hc (z7D hr q2 (by omega) λs t hs ht=>⟨λe=>?_,λe=>((q3 s t (by omega) (by omega)).1 e).1⟩);refine pZ λg2=>g ⟨(s,t),z5I.2 ⟨by omega,by omega⟩,by simpa using e,by simpa using g2⟩
 rintro y ⟨p,n,rfl,g1,g2,g3⟩;rw[z8];unfold kE;simp only;rw[z8];exact⟨rfl,g1,g2,g3⟩
end
def KH (w:TB):zQ w=some w:=by unfold zQ;rw[gdT (by omega)];simp
def z8h (w:TB)(h:w.length<=4294967296):ya w=some w:=by unfold ya;rw[gdT (by simpa using h)]
def z7x (a b:TB)(h:a.length<4611686018427387904):qK a b=some (decide (a=b)):=by
 unfold qK;rw[WI a b h];simp only[oB];by_cases e:a=b
 ·subst e;simp[K2]
 have:Yc a b≠0:=λq=>e (z4v q);simp[e,this]
def QW (l:TA):Prop:=l.Pairwise λa b=>¬Yc b a<0
def XW {l:List α}{n:Nat}{x:α}:x∈l.take n↔∃i,i<n/\l[i]?=some x:=by
 rw[gM];constructor
 ·rintro⟨i,h⟩;rw[pW]at h;split at h
  ·exact⟨i,by omega,h⟩
  cases h
 rintro⟨i,h1,h2⟩;exact⟨i,by rw[pW,if_pos h1];exact h2⟩
def z9i (h:SW l)(hx:∀y∈l,Yc y x<0):SW (l++[x]):=by unfold SW;rw[nN];exact⟨h,by simp,λa ha b hb=>by simp at hb;subst hb;exact hx a ha⟩
section
variable {s:TA}(hq:QW s)(hl:s.length<=4294967296)(hw:∀w∈s,w.length<4611686018427387904)
include hq hl hw
omit hl hw in
theorem zde {i j:Nat}{x y:TB}(hi:s[i]?=some x)(hj:s[j]?=some y)(h:i<=j):Yc x y<0\/x=y:=by
 rcases pL i j with h|h
 ·have:=(mK.1 hq) i j (pg.1 hi).1 (pg.1 hj).1 h;rw[(pg.1 hi).2,(pg.1 hj).2]at this;rcases z79.1 this with q|q
  ·exact .inl q
  exact .inr q.symm
 have:i=j:=by omega
 subst this;rw[hi]at hj;exact .inr (by simpa using hj)
theorem z6c (h1:1<=k)(hk:k<s.length)(hd:s[k-1]?=s[k]?)(hs:SW (s.take k)) :
  Ret (Option.bind (loop (λq=>yQ (k:Int) q.1 q.2.1 q.2.2) (s,(k:Int),1)) λt=>yd t.1 t.2) λr=>r=.done (.inr (srt s)):=by
 rw[zm];refine Ret.mono (zG (λq=>∃kk k2:Nat,q.2.1=(kk:Int)/\q.2.2=(k2:Int)/\1<=k2/\k+k2<=s.length/\kk<k+k2/\q.1.length=s.length/\(∀i,kk<=i->q.1[i]?=s[i]?)/\SW (q.1.take kk)/\∀x,x∈q.1.take kk↔x∈s.take (k+k2)) (λq=>s.length-q.2.2.toNat) (R:=λt=>∃kk:Nat,t.2=(kk:Int)/\kk<=s.length/\t.1.length=s.length/\t.1.take kk=srt s) ?_ ?_ ?_) ?_
 ·refine⟨k,1,rfl,rfl,pA _,hk,by omega,rfl,λ_ _=>rfl,hs,λx=>?_⟩;rw[XW,XW];constructor
  ·rintro⟨i,h2,h3⟩;exact⟨i,by omega,h3⟩
  rintro⟨i,h2,h3⟩;rcases pL i k with h|h
  ·exact⟨i,h,h3⟩
  have:i=k:=by omega
  subst this;exact⟨i-1,by omega,by rw[hd];exact h3⟩
 ·show s.length-_<_;omega
 ·rintro⟨S,a,b⟩ ⟨kk,k2,rfl,rfl,g1,g2,g3,g4,g5,g6,g7⟩;simp only at g4 g5 g6 g7;show Ret (yQ (k:Int) S (kk:Int) (k2:Int)) _;unfold yQ;rw[zu];refine⟨λhc=>?_,λhc=>?_⟩
  ·have hlt:k2<s.length - k:=by rw[g4]at hc;simpa using hc
   have e1:s[k+k2]?=some s[k+k2]:=pf (by omega);have e2:s[k+k2-1]?=some s[k+k2-1]:=pf (by omega);have f1:idx S ((k:Int)+(k2:Int))=some s[k+k2]:=by rw[<-Int.natCast_add,zK,g5 _ (by omega),e1]
   have f2:idx S ((k:Int)+w64 ((k2:Int)-1))=some s[k+k2-1]:=by rw[zC (by omega) (by omega),show(k:Int)+((k2:Int)-1)=((k+k2-1:Nat):Int) by omega,zK,g5 _ (by omega),e2]
   rw[gdT (by omega),f1];simp only[oB];rw[gdT (by rw[zC (by omega) (by omega)];omega),f2];simp only[oB];rw[z7x _ _ (hw _ (pN (by omega)))];simp only[oB];have hk2:w64 ((k2:Int)+1)=((k2+1:Nat):Int):=by rw[zC (by omega) (by omega)];omega
   by_cases he:s[k+k2]=s[k+k2-1]
   ·simp only[he,decide_true,gV,cond_false];unfold yc;rw[hk2,z8];refine⟨⟨kk,k2+1,rfl,rfl,by omega,by omega,by omega,g4,g5,g6,λx=>?_⟩,by simp only[po];omega⟩;rw[g7,XW,XW];constructor
    ·rintro⟨i,h2,h3⟩;exact⟨i,by omega,h3⟩
    rintro⟨i,h2,h3⟩;rcases pL i (k+k2) with h|h
    ·exact⟨i,h,h3⟩
    have:i=k+k2:=by omega
    subst this;exact⟨k+k2-1,by omega,by rw[e2,<-he,<-e1];exact h3⟩
   simp only[he,decide_false,mO,cond_true];rw[gdT (by omega)];have e3:idx S (kk:Int)=some s[kk]:=by rw[zK,g5 _ (pA _),pf (by omega)]
   rw[e3];simp only[oB];unfold yc;rw[hk2,zC (x:=(kk:Int)+1) (by omega) (by omega),z8];have hset:(S.set ((kk:Int).toNat) s[k+k2]).take (kk+1)=S.take kk++[s[k+k2]]:=by rw[po,gE,List.take_set_of_le (pA _),gQ (by omega)];rfl
   refine⟨⟨kk+1,k2+1,rfl,rfl,by omega,by omega,by omega,by simp[g4],λi hi=>?_,?_,λx=>?_⟩,by simp only[po];omega⟩
   ·simp only
    rw[gJ (by omega),g5 _ (by omega)]
   ·simp only
    rw[hset];refine z9i g6 λy hy=>?_;obtain⟨i,h2,h3⟩:=XW.1 ((g7 y).1 hy);have hlast:Yc s[k+k2-1] s[k+k2]<0:=by
     rcases zde hq e2 e1 (by omega) with q|q
     ·exact q
     exact absurd q.symm he
    rcases zde hq h3 e2 (by omega) with q|q
    ·exact ZD q hlast
    rw[q];exact hlast
   simp only
   rw[hset,ph,g7,XW,XW];constructor
   ·rintro(⟨i,h2,h3⟩|h)
    ·exact⟨i,by omega,h3⟩
    simp at h;subst h;exact⟨k+k2,by omega,e1⟩
   rintro⟨i,h2,h3⟩;rcases pL i (k+k2) with h|h
   ·exact .inl ⟨i,h,h3⟩
   have:i=k+k2:=by omega
   subst this;rw[e1]at h3;exact .inr (by simpa using h3.symm)
  have hge:s.length-k<=k2:=by rw[g4]at hc;simpa using hc
  have hkk:k+k2=s.length:=by omega
  rw[z8];refine⟨kk,rfl,by omega,g4,z9o g6 λx=>?_⟩;rw[g7,hkk,mb]
 rintro⟨S,a⟩ ⟨kk,rfl,h1,h2,h3⟩;simp only at h2 h3;show Ret (yd S (kk:Int)) _;unfold yd;have hlen:(S.take (kk:Int).toNat++List.replicate (S.length-(kk:Int).toNat) ([]:TB)).length=S.length:=by simp[hU];omega
 rw[gdT (by omega),gdT (by omega),gdT (by rw[hlen];omega),z8];simp only[po];rw[List.take_left' (by rw[hU];omega),h3]
theorem z8W:xw s ()=some (srt s):=by
 unfold xw;by_cases h2:s.length<2
 ·have hd:decide (((s.length:Nat):Int)<2)=true:=by simp;omega
  simp only[hd,cond_true];rw[Jy];match s,h2 with
  |[],_=>exact SW.nil
  |[x],_=>simp[SW]
 have hd:decide (((s.length:Nat):Int)<2)=false:=by simp;omega
 simp only[hd,cond_false];apply Ret.eq;rw[zm];refine Ret.mono (zG (λq:Int=>∃j:Nat,q=(j:Int)/\1<=j/\j<=s.length/\SW (s.take j)) (λq=>s.length-q.toNat) (R:=λt:Unit⊕TA=>match t with|.inl _=>srt s=s|.inr p=>p=srt s) ?_ ?_ ?_) ?_
 ·refine⟨1,rfl,pA _,by omega,?_⟩;match s,h2 with
  |[],h2=>simp at h2
  |x::l,_=>simp[SW]
 ·show s.length-_<_;omega
 ·rintro _ ⟨j,rfl,g1,g2,g3⟩;show Ret (xN s (j:Int)) _;unfold xN;rw[zu];refine⟨λhc=>?_,λhc=>?_⟩
  ·have hj:j<s.length:=by simpa using hc
   have e1:s[j]?=some s[j]:=pf hj;have e2:s[j-1]?=some s[j-1]:=pf (by omega);rw[zC (x:=(j:Int)-1) (by omega) (by omega),show(j:Int)-1=((j-1:Nat):Int) by omega,zz e1,zz e2];simp only[oB];rw[z7x _ _ (hw _ (pN hj))];simp only[oB];by_cases he:s[j]=s[j-1]
   ·simp only[he,decide_true,cond_true];rw[gdT (by omega)];refine(z6c hq hl hw g1 hj (by rw[e1,e2,he]) g3).mono ?_;rintro _ rfl;rfl
   simp only[he,decide_false,cond_false];unfold xO;rw[zC (by omega) (by omega),z8];refine⟨⟨j+1,rfl,by omega,hj,?_⟩,by simp only[po];omega⟩;have:s.take (j+1)=s.take j++[s[j]]:=by rw[gE,e1];rfl
   rw[this];refine z9i g3 λy hy=>?_;obtain⟨i,h3,h4⟩:=XW.1 hy;have hlast:Yc s[j-1] s[j]<0:=by
    rcases zde hq e2 e1 (by omega) with q|q
    ·exact q
    exact absurd q.symm he
   rcases zde hq h4 e2 (by omega) with q|q
   ·exact ZD q hlast
   rw[q];exact hlast
  have hj:j=s.length:=by
   have:¬j<s.length:=by simpa using hc
   omega
  rw[z8];show srt s=s;rw[hj,mb]at g3;exact Jy g3
 rintro(u|p) h
 ·show Ret (some s) _;rw[z8];exact h.symm
 show Ret (some p) _;rw[z8];exact h
end
def z5e (l:TA):SOk Yc l :=
 ⟨λx _=>Qg x,λx _ y _ z _ h1 h2=>ZD h1 h2,λx _ y _ h1 h2=>by
  rcases z79.1 h1 with q|q
  ·exact absurd q h2
  exact q⟩
def zcQ {l m:TA}(h:l.Perm m):srt l=srt m:=z5d λx=>h.mem_iff
def z1P {c d:TB->TB->Int}:∀{l:TA},(∀x∈l,∀y∈l,c x y=d x y)->Jb c l=Jb d l
 |[],_=>rfl
 |x::l,h=>by
  have ih:=z1P (c:=c) (d:=d) (l:=l) λa ha b hb=>h a (by simp[ha]) b (by simp[hb]);show z94 c x (Jb c l)=z94 d x (Jb d l);rw[ih];have gen:∀m:TA,(∀y∈m,y∈l)->z94 c x m=z94 d x m:=by
   intro m;induction m with
   |nil=>intro _;rfl
   |cons y m ih2=>intro hm;simp only[z94];rw[h y (by simp[hm y (by simp)]) x (by simp),ih2 λz hz=>hm z (by simp[hz])]
  exact gen _ λy hy=>(Zy d l).mem_iff.1 hy
def soR (l:TA):TA×Int:=if 4096<(srt l).length\/65536<jG (srt l) then([],3) else(srt l,0)
def JB (hl:l.length<=100000)(hw:∀w∈l,w.length<=4294967296):xA l=some (soR l):=by
 unfold xA xP;rw[gdT (by simp;omega)];simp only[oB];have hc:∀x∈l,∀y,yx x y=some (Yc x y):=λx hx y=>WI x y (by have:=hw x hx;omega);have hso:z9s (λx y=>yx x y) l=some (Jb Yc l):=by
  unfold z9s;rw[gdT ⟨by omega,λx hx y hy=>by simp only[hc x hx y];rfl⟩];have hcc:∀x∈l,∀y∈l,(yx x y).getD 0=Yc x y:=λx hx y _=>by rw[hc x hx y];rfl
  rw[gdT,z1P (c:=λx y=>(yx x y).getD 0) (d:=Yc) hcc];have q:=z5e l;refine⟨λx hx=>by show ¬(yx x x).getD 0<0;rw[hcc x hx x hx];exact q.1 x hx,λx hx y hy z hz h1 h2=>?_,λx hx y hy h1 h2=>?_⟩
  ·simp only[hcc x hx y hy,hcc y hy z hz,hcc x hx z hz]at h1 h2⊢;exact q.2.1 x hx y hy z hz h1 h2
  simp only[hcc x hx y hy,hcc y hy x hx]at h1 h2;exact q.2.2 x hx y hy h1 h2
 rw[hso];simp only[oB];have hp:=Zy Yc l;have hq:QW (Jb Yc l):=UJ (z5e l) (λy hy=>hy);rw[z8W hq (by rw[hp.length_eq];omega) (λw h=>by have:=hw w (hp.mem_iff.1 h);omega)];simp only[oB];unfold w9;simp only[oB];rw[zcQ hp];have hlen:(srt l).length<=100000:=pE (QS l) hl;have hws:∀w∈srt l,w.length<=4294967296:=λw h=>hw w (xa.1 h);unfold soR;generalize srt l=r at hlen hws;have hsy:jG r<=100000*4294967296:=pE (z3T hws) (gI _ hlen);by_cases h1:4096<r.length
 ·have:(4096:Int)<(r.length:Int):=by omega
  simp[h1,this]
 have d1:decide (((r.length:Nat):Int)>4096)=false:=by simp;omega
 simp only[d1,cond_false];rw[z7p r (by omega),zeL (by omega)];simp only[oB];by_cases h2:65536<jG r
 ·have:(65536:Int)<(jG r:Int):=by omega
  simp[h2,this]
 have d2:decide (((jG r:Nat):Int)>65536)=false:=by simp;omega
 simp only[d2,cond_false];rw[if_neg (by omega)];have hloop:=vh (step:=λs=>wp r s.1 s.2) (λi=>((r.take i).map (λq=>(q,true))++(r.drop i).map (λq=>(q,false)),(i:Int))) r.length (t:=r.map λq=>(q,true)) (by omega) (by
  intro i hi;have hA:((r.take i).map (λq=>(q,true))).length=i:=by rw[hZ,hU];omega
  have hd:r.drop i=r[i]::r.drop (i+1):=mV hi;have hx:((r.take i).map (λq=>(q,true))++(r.drop i).map (λq=>(q,false)))[i]?=some (r[i],false):=by rw[pD (by omega),hA,hd];simp
  show wp r _ (i:Int)=_;unfold wp;have hq:decide ((i:Int)<((r.length-(0:Int).toNat:Nat):Int))=true:=by simpa using hi
  simp only[hq,cond_true];rw[gdT (by omega),Int.zero_add,zz hx];simp only[oB];rw[z8h _ (hws _ (pN hi))];simp only[oB,KH,po];rw[zC (by omega) (by omega)];congr 3;rw[List.set_append_right _ _ (by omega),hA,hd,gE,pf hi];simp only[rE,gF,rN,gL,Option.toList_some,nA,pJ,gO,pM]) (by
  show wp r _ (r.length:Int)=_;unfold wp;simp)
 have h0:((r.take 0).map (λq=>(q,true))++(r.drop 0).map (λq=>(q,false)),((0:Nat):Int))=(r.map (λq=>(q,false)),(0:Int)):=by simp
 rw[h0]at hloop;rw[hloop];simp only[oB];unfold X1;rw[gdT (by intro q hq;obtain⟨_,_,rfl⟩:=pR.1 hq;rfl)];simp[gT,Function.comp_def]
end Go.Own
end
