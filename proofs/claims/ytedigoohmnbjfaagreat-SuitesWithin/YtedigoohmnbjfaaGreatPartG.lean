/- Walks, further. -/
import Derived.Test.YtedigoohmnbjfaaGreatPartF
import Derived.Test.YtedigoohmnbjfaaGreatPartC
import Derived.Test.YtedigoohmnbjfaaGreatPartE
noncomputable section
set_option linter.unusedVariables false
set_option linter.defProp false
set_option linter.unusedSimpArgs false
namespace Go.Own
open Go.Proofs.Tryz
def oB {α:Type _}{β:Type _}(a:α)(f:α->Option β):Option.bind (some a) f=f a:=rfl
open Go.Proofs
set_option maxRecDepth 100000
set_option maxHeartbeats 8000000
def zky:List yg:=z2A 222 zlA F8_ F8_ vp xk::l99
def Jp [H:HS X0 l99]:OkH zky:=yS3 true func222 λx_ u_ v_ r0 aa E hE=>by obtain⟨r_,h0,ai,h1,pk,h2,aa⟩:=ZZ aa;cases aa;exact yE hE [zC3 0 h0,zC3 0 h1,Hi vp h2]
def UK [H:HS X0 zky](bz:Value):∀(x0:Ug) (x_:zG) (b_:zb) (r0:zb×Bool),wK x0 x_ b_=some r0->z7r prog 220 [.agg [],.sptr (.agg [.agg [I x_.m_.Inputs,I x_.m_.Outputs,eSl 1 false wv x_.m_.Rows],eSl 1 false F8_ x_.q_,eSl 1 false F8_ x_.p_,eSl 1 false F8_ x_.all_,eSl 1 false vp x_.each_,eSl 1 false F8_ x_.short_,eSl 1 false F8_ x_.exact_]),.atom bz] ([bz].zip [.box (.agg [eOs 16 false F2_ b_.nodes_,I b_.leaves_,I b_.most_])]) r0.2 (.iface 124 (.agg #[])) (.tup []) [.box (.agg [eOs 16 false F2_ r0.1.nodes_,I r0.1.leaves_,I r0.1.most_])]:=by
 intro x0 x_ b_ r0 aa;refine z4C (tt:=wZ) (nt:=f220.ntmps) (body:=zbd f220) [2] zl func220 rfl (by kernel_rfl) rfl rfl (by show(3:Nat)<=106;decide) (by decide) rfl rfl rfl (λE hE hD=>?_);refine yNs 11 [] [1,2] (λz:List (zC Int)×Int×Int=>uI x_ b_ z.1 z.2.1 z.2.2=some r0) (λz=>[(2,.own (.box (.agg [eOs 16 false F2_ z.1,I z.2.1,I z.2.2])))]) [Hh (.cut 1)] ?_ λJ1 ar=>?_
 ·rintro⟨br,cp,fm⟩ aa;obtain⟨r_,h0,t2,ht2,aa⟩:=yf aa;refine yM 111110 [] [1,2,73,74,75] (λx=>[(2,.own (.box (.agg [eOs 16 false F2_ x.1,I x.2.1,I x.2.2.1]))),(75,.d (I x.2.2.2))]) ht2  [zC3 4 h0,Ha (lnM F4_ r_.1)] λ⟨bh,cj,fh,jg⟩ m2 av ae hl1 J2 au=>?_;obtain c0|c0:=zH ae
  ·refine yNs 111110011 [J2] [1,2,73,74,75] (λz:List (zC Int)×Int×Int=>ZC jg z.1 z.2.1 z.2.2=some av) (λz=>[(2,.own (.box (.agg [eOs 16 false F2_ z.1,I z.2.1,I z.2.2])))]) [c0,Hh (.cut 0)] ?_ λJ3 bg=>?_
   ·rintro⟨bm,ce,d0⟩ ae;cases ae;exact yB au _ hl1 []
   obtain⟨u_,h1,t4,ht4,ae⟩:=yf c0.2;refine yM (H:=zx ((xLs zl 78 (eSl 1 true rY u_) (eSl 1 false rY u_) inferInstance).or X0)) 11111001120110 [J2,J3] [1,2,15,73,74,75,82,83,84] (λx=>[(2,.own (.box (.agg [eOs 16 false F2_ x.1,I x.2.1,I x.2.2.1]))),(84,.d (I x.2.2.2))]) ht4  [Hi F4_ h1,Hn (rfl:T.d (eSl 1 true rY u_)=T.d (eSl 1 true rY u_)),Ha (lnM F8_ x_.exact_)] λ⟨aq,bc,fj,j7⟩ m4 dj ah hl2 J4 db=>?_;obtain c1|c1:=zH ah
   ·refine yNs 11111001120110011 [J2,J3,J4] [1,2,15,73,74,75,82,83,84] (λz:List (zC Int)×Int×Int=>ZB j7 z.1 z.2.1 z.2.2=some dj) (λz=>[(2,.own (.box (.agg [eOs 16 false F2_ z.1,I z.2.1,I z.2.2])))]) [c1,Hh (.cut 0)] ?_ λJ5 dc=>?_
    ·rintro⟨ct,cg,dz⟩ ah;cases ah;exact yB db _ hl2 []
    obtain⟨ez,h2,ai,h3,t6,kb,ah⟩:=ZZ c1.2;refine yM 1111100112011001120110 [J2,J3,J4,J5] [1,2,15,17,73,74,75,82,83,84,91,92,93] (λx=>[(2,.own (.box (.agg [eOs 16 false F2_ x.1,I x.2.1,I x.2.2.1]))),(93,.d (I x.2.2.2))]) kb  [Hi F8_ h2,zC3 0 h3,Ha (lnM F8_ ai)] λ⟨ju,eg,km,m0⟩ m6 nb aw hl3 J6 ep=>?_;obtain c2|c2:=zH aw
    ·obtain⟨dm,h4,aw⟩:=zy c2.2;refine yC 1111100112011001120110011001 [J2,J3,J4,J5,J6] [1,2,15,17,19,73,74,75,82,83,84,91,92,93] [c2,Hi F8_ h4,Hh (.stp 0)] ?_;obtain⟨ak,h5,aw⟩:=zy aw;obtain c3|c3:=zH aw
     ·cases c3.2;cases hl3;cases ah;cases hl2;cases ae;cases hl1;cases aa;exact yD 5 [2] ((xF (H:=zd 10) bz _ _ _ h5).2 c3.1) [.atom bz,z6u [u_,ez,dm]] inferInstance [Hm (shM F8_ F8_ ([u_,ez,dm]))] λst0=>hD rfl st0
     cases c3.2;exact yB (H:=zx ((jV (P:=prog) wZ [2] ((xF (H:=zd 10) bz _ _ _ h5).1 c3.1) 102).or X0)) ep _ hl3 [Hm (shM F8_ F8_ ([u_,ez,dm])),Hn (ZH (f:=.fn 219 []) (xs:=[.atom bz,vp [u_,ez,dm]]) (ls:=[(bz,.box (.agg [eOs 16 false F2_ ju,I eg,I km]))]) (r:=.tup []) (ys:=[.box (.agg [eOs 16 false F2_ ak.1.nodes_,I ak.1.leaves_,I ak.1.most_])]) [.atom bz,z6u [u_,ez,dm]] (show Qm [.atom bz,z6u [u_,ez,dm]] [.atom bz,vp [u_,ez,dm]] from inferInstance))]
    cases c2.2;cases hl3;exact yB dc (ju,eg,km) ah [c2]
   cases c1.2;cases hl2;exact yB bg (aq,bc,fj) ae [c1]
  cases c0.2;cases hl1;cases aa;exact yF .normal [(2,.own (.box (.agg [eOs 16 false F2_ bh,I cj,I fh])))] [c0] λst0 h0=>hE rfl _ st0 (.inl rfl) (ZS h0 ⟨⟨rfl,rfl⟩,trivial⟩)
 refine yMb 11210 [J1] [1,2,23,24,25] (λx=>[(2,.own (.box (.agg [eOs 16 false F2_ x.1,I x.2.1,I x.2.2.1]))),(25,.d (I x.2.2.2))]) aa  [Ha (lnM F8_ x_.q_)] λt7 aa ⟨jx,jb,ko,jh⟩ m7 av ae hl1 J7 gw=>?_;obtain c4|c4:=zH ae
 ·refine yNs 11210011 [J1,J7] [1,2,23,24,25] (λz:List (zC Int)×Int×Int=>ZA jh z.1 z.2.1 z.2.2=some av) (λz=>[(2,.own (.box (.agg [eOs 16 false F2_ z.1,I z.2.1,I z.2.2])))]) [c4,Hh (.cut 0)] ?_ λJ8 lq=>?_
  ·rintro⟨lz,lk,ml⟩ ae;cases ae;exact yB gw _ hl1 []
  obtain⟨gq,h6,t9,ht9,ae⟩:=yf c4.2;refine yM 1121001120110 [J1,J7,J8] [1,2,7,23,24,25,32,33,34] (λx=>[(2,.own (.box (.agg [eOs 16 false F2_ x.1,I x.2.1,I x.2.2.1]))),(34,.d (I x.2.2.2))]) ht9  [Hi F8_ h6,Ha (lnM F8_ x_.short_)] λ⟨jw,ja,kn,fw⟩ m9 dj ah hl2 J9 qe=>?_;obtain c5|c5:=zH ah
  ·refine yNs 1121001120110011 [J1,J7,J8,J9] [1,2,7,23,24,25,32,33,34] (λz:List (zC Int)×Int×Int=>kQ fw z.1 z.2.1 z.2.2=some dj) (λz=>[(2,.own (.box (.agg [eOs 16 false F2_ z.1,I z.2.1,I z.2.2])))]) [c5,Hh (.cut 0)] ?_ λJ10 hJ10=>?_
   ·rintro⟨l4,ll,mp⟩ ah;cases ah;exact yB qe _ hl2 []
   obtain⟨a6,h7,sc,ht11,ah⟩:=yf c5.2;refine yM 112100112011001120110 [J1,J7,J8,J9,J10] [1,2,7,9,23,24,25,32,33,34,41,42,43] (λx=>[(2,.own (.box (.agg [eOs 16 false F2_ x.1,I x.2.1,I x.2.2.1]))),(43,.d (I x.2.2.2))]) ht11  [Hi F8_ h7,Ha (lnM F8_ x_.all_)] λ⟨i8,ix,jv,my⟩ su nb aw hl3 se pw=>?_;obtain c6|c6:=zH aw
   ·obtain⟨fy,h8,aw⟩:=zy c6.2;refine yC 112100112011001120110011001 [J1,J7,J8,J9,J10,se] [1,2,7,9,11,23,24,25,32,33,34,41,42,43] [c6,Hi F8_ h8,Hh (.stp 0)] ?_;obtain⟨am,h9,aw⟩:=zy aw;obtain c7|c7:=zH aw
    ·cases c7.2;cases hl3;cases ah;cases hl2;cases ae;cases hl1;cases aa;exact yD 5 [2] ((xF (H:=zd 10) bz _ _ _ h9).2 c7.1) [.atom bz,z6u [gq,a6,fy]] inferInstance [Hm (shM F8_ F8_ ([gq,a6,fy]))] λst0=>hD rfl st0
    cases c7.2;exact yB (H:=zx ((jV (P:=prog) wZ [2] ((xF (H:=zd 10) bz _ _ _ h9).1 c7.1) 52).or X0)) pw _ hl3 [Hm (shM F8_ F8_ ([gq,a6,fy])),Hn (ZH (f:=.fn 219 []) (xs:=[.atom bz,vp [gq,a6,fy]]) (ls:=[(bz,.box (.agg [eOs 16 false F2_ i8,I ix,I jv]))]) (r:=.tup []) (ys:=[.box (.agg [eOs 16 false F2_ am.1.nodes_,I am.1.leaves_,I am.1.most_])]) [.atom bz,z6u [gq,a6,fy]] (show Qm [.atom bz,z6u [gq,a6,fy]] [.atom bz,vp [gq,a6,fy]] from inferInstance))]
   cases c6.2;cases hl3;exact yB hJ10 (i8,ix,jv) ah [c6]
  cases c5.2;cases hl2;exact yB lq (jw,ja,kn) ae [c5]
 cases c4.2;cases hl1;exact yB ar (jx,jb,ko) aa [c4]
def Uh [H:HS X0 zky](bz:Value):∀(x0:V8) (x_:zG) (b_:zb) (r0:zb×Bool),wo x0 x_ b_=some r0->z7r prog 229 [.agg [],.sptr (.agg [.agg [I x_.m_.Inputs,I x_.m_.Outputs,eSl 1 false wv x_.m_.Rows],eSl 1 false F8_ x_.q_,eSl 1 false F8_ x_.p_,eSl 1 false F8_ x_.all_,eSl 1 false vp x_.each_,eSl 1 false F8_ x_.short_,eSl 1 false F8_ x_.exact_]),.atom bz] ([bz].zip [.box (.agg [eOs 16 false F2_ b_.nodes_,I b_.leaves_,I b_.most_])]) r0.2 (.iface 124 (.agg #[])) (.tup []) [.box (.agg [eOs 16 false F2_ r0.1.nodes_,I r0.1.leaves_,I r0.1.most_])]:=by
 intro x0 x_ b_ r0 aa;refine z4C (tt:=wZ) (nt:=f229.ntmps) (body:=zbd f229) [2] zl func229 rfl (by kernel_rfl) rfl rfl (by show(3:Nat)<=48;decide) (by decide) rfl rfl rfl (λE hE hD=>?_);refine yMb 1110 [] [1,2,15,16,17] (λx=>[(2,.own (.box (.agg [eOs 16 false F2_ x.1,I x.2.1,I x.2.2.1]))),(17,.d (I x.2.2.2))]) aa  [Ha (lnM F8_ x_.p_)] λt1 aa ⟨br,cp,fm,ba⟩ m1 av ae hl1 J1 ar=>?_;obtain c0|c0:=zH ae
 ·refine yNs 1110011 [J1] [1,2,15,16,17] (λz:List (zC Int)×Int×Int=>kU ba z.1 z.2.1 z.2.2=some av) (λz=>[(2,.own (.box (.agg [eOs 16 false F2_ z.1,I z.2.1,I z.2.2])))]) [c0,Hh (.cut 0)] ?_ λJ2 au=>?_
  ·rintro⟨bh,cj,fh⟩ ae;cases ae;exact yB ar _ hl1 []
  obtain⟨bj,h0,t3,ht3,ae⟩:=yf c0.2;refine yM 111001120110 [J1,J2] [1,2,7,15,16,17,24,25,26] (λx=>[(2,.own (.box (.agg [eOs 16 false F2_ x.1,I x.2.1,I x.2.2.1]))),(26,.d (I x.2.2.2))]) ht3  [Hi F8_ h0,Ha (lnM F8_ x_.short_)] λ⟨bm,ce,d0,gk⟩ m3 dj ah hl2 J3 bg=>?_;obtain c1|c1:=zH ah
  ·refine yNs 111001120110011 [J1,J2,J3] [1,2,7,15,16,17,24,25,26] (λz:List (zC Int)×Int×Int=>kT gk z.1 z.2.1 z.2.2=some dj) (λz=>[(2,.own (.box (.agg [eOs 16 false F2_ z.1,I z.2.1,I z.2.2])))]) [c1,Hh (.cut 0)] ?_ λJ4 db=>?_
   ·rintro⟨aq,bc,fj⟩ ah;cases ah;exact yB bg _ hl2 []
   obtain⟨a6,h1,r_,h2,t5,ht5,ah⟩:=ZZ c1.2;refine yM 11100112011001120110 [J1,J2,J3,J4] [1,2,7,9,15,16,17,24,25,26,33,34,35] (λx=>[(2,.own (.box (.agg [eOs 16 false F2_ x.1,I x.2.1,I x.2.2.1]))),(35,.d (I x.2.2.2))]) ht5  [Hi F8_ h1,zC3 0 h2,Ha (lnM F8_ r_)] λ⟨ct,cg,dz,ib⟩ m5 nb aw hl3 J5 dc=>?_;obtain c2|c2:=zH aw
   ·obtain⟨dm,h3,aw⟩:=zy c2.2;refine yC 11100112011001120110011001 [J1,J2,J3,J4,J5] [1,2,7,9,11,15,16,17,24,25,26,33,34,35] [c2,Hi F8_ h3,Hh (.stp 0)] ?_;obtain⟨ai,h4,aw⟩:=zy aw;obtain c3|c3:=zH aw
    ·cases c3.2;cases hl3;cases ah;cases hl2;cases ae;cases hl1;cases aa;exact yD 5 [2] ((xF (H:=zd 10) bz _ _ _ h4).2 c3.1) [.atom bz,z6u [bj,a6,dm]] inferInstance [Hm (shM F8_ F8_ ([bj,a6,dm]))] λst0=>hD rfl st0
    cases c3.2;exact yB (H:=zx ((jV (P:=prog) wZ [2] ((xF (H:=zd 10) bz _ _ _ h4).1 c3.1) 44).or X0)) dc _ hl3 [Hm (shM F8_ F8_ ([bj,a6,dm])),Hn (ZH (f:=.fn 219 []) (xs:=[.atom bz,vp [bj,a6,dm]]) (ls:=[(bz,.box (.agg [eOs 16 false F2_ ct,I cg,I dz]))]) (r:=.tup []) (ys:=[.box (.agg [eOs 16 false F2_ ai.1.nodes_,I ai.1.leaves_,I ai.1.most_])]) [.atom bz,z6u [bj,a6,dm]] (show Qm [.atom bz,z6u [bj,a6,dm]] [.atom bz,vp [bj,a6,dm]] from inferInstance))]
   cases c2.2;cases hl3;exact yB db (ct,cg,dz) ah [c2]
  cases c1.2;cases hl2;exact yB au (bm,ce,d0) ae [c1]
 cases c0.2;cases hl1;cases aa;exact yF .normal [(2,.own (.box (.agg [eOs 16 false F2_ br,I cp,I fm])))] [c0] λst0 h0=>hE rfl _ st0 (.inl rfl) (ZS h0 ⟨⟨rfl,rfl⟩,trivial⟩)
def zln:List yg:=z2A 37 zlA (eIf 77) rY (eT2 (ePo V9) eB) vY::zky
def z1h [H:HS X0 zky]:OkH zln:=by
 have hE:∀b:zb,(A.agg [eOs 16 false F2_ b.nodes_,eI .i64 b.leaves_,eI .i64 b.most_]).live=true/\(A.agg [eOs 16 false F2_ b.nodes_,eI .i64 b.leaves_,eI .i64 b.most_]).shut=yO zlF rY rY b:=λb=>⟨KF.live (f:=yO zoq rY rY) b,KF.sh (f:=yO zoq rY rY) b⟩;refine WU ?_;rintro⟨x,s,most⟩ r0 aa;obtain⟨r,hr,aa⟩:=zy aa;obtain rfl:=xR aa;have key:∀(T kf:Nat),(∀w,(method 392 T (.agg #[]) "gauntlet/suites.fill").run prog w=.ok (kf,.agg #[]) w)->(∀args w,(callFunc kf args).run prog w=.ok (.enter kf args) w) ->
   (∀bv,z7r prog kf [.agg [],zlA x,.atom bv] [(bv,.box (.agg [.osl 16 false [.agg (List.replicate 16 (.atom (.int .i32 0)))],.atom (.int .i64 0),.atom (.int .i64 most)]))] r.2 (.iface 124 (.agg #[])) (.tup []) [.box (.agg [eOs 16 false F2_ r.1.nodes_,eI .i64 r.1.leaves_,eI .i64 r.1.most_])]) ->
   uR prog 37 [zlA x,.atom (.iface T (.agg #[])),.atom (.int .i64 most)] (.tup [ePo V9 (bif r.2 then none else some r.1),eB (!r.2)]):=by
  intro T kf h1 h2 h3;have q:=z7d h1 h2 rfl (hE r.1).1 (hE r.1).2 h3;refine q.le ?_;cases r.2
  ·exact(show LeV (.tup [.sptr (yO zlF rY rY r.1),.atom (.bool true)]) (.tup [.dop (poQ (some (yO zlF rY rY r.1))),.atom (.bool true)]) from inferInstance)
  exact(show LeV (.tup [.atom (.pointer none),.atom (.bool false)]) (.tup [.dop (poQ none),.atom (.bool false)]) from inferInstance)
 match s,hr with
 | 0,hr=>exact key 77 218 Tryz.meth77 (λ_ _=>by kernel_rfl) λbv=>QL (H:=zd 10) bv ⟨⟩ x _ r hr
 | 1,hr=>exact key 78 220 Tryz.meth78 (λ_ _=>by kernel_rfl) λbv=>UK (H:=zd 0) bv ⟨⟩ x _ r hr
 | 2,hr=>exact key 79 229 Tryz.meth79 (λ_ _=>by kernel_rfl) λbv=>Uh (H:=zd 0) bv ⟨⟩ x _ r hr
 | n+3,hr=>cases hr
def xx:yg:=spR (α:=TA) (ρ:=TA) 112 (λx=>[(eOs 1 false F4_) x]) (λr=>zlE r) (λx=>wc x) [true] (zmE)
def XQ:∀x r,(λx=>wc x) x=some r->(Jl.add xx).run 112 ((Jl.add xx).norm 112 ((λx=>[(eOs 1 false F4_) x]) x))=some ((λr=>zlE r) r):=λx r h=>zlu h rfl
def XR:(Jl.add xx).gives 112=[true]:=zes
def XY [H:HS X0 zln]:xx.Ok prog:=by refine z7H ?_;rintro s_ r0 aa;refine zY true func112 λE hE=>?_;cases aa;exact yE (H:=zx ((xCl zl 8).or X0)) hE [Ha (lnM F4_ s_),Ha (lnM F4_ s_),Hn (nA _:(0:Int)<=((s_.length:Nat):Int)),Hn (nA _:(0:Int)<=((s_.length:Nat):Int)),Hn (clB F4_ s_),Ha (clE 1 F4_ s_)]
def zmC:List yg:=YZ 69 (eSp V9) zlE wX::zln
abbrev Ux (out:TA):List (Nat×T):=[(2,.own (eOs 1 false F4_ out))]
abbrev Uw (b_:zb)(ax:TA)(next:List zj):List (Nat×T):=[(0,.d (.sptr (V9 b_))),(2,.own (eOs 1 false F4_ ax)),(4,.own (eOs 2 false UJ next))]
abbrev Uv (b_:zb)(ay:List zj)(ba:Int)(gx:TA)(ff:List zj):List (Nat×T):=[(0,.d (.sptr (V9 b_))),(2,.own (eOs 1 false F4_ gx)),(3,.own (eOs 2 false UJ ay)),(4,.own (eOs 2 false UJ ff)),(15,.als 3 [] 0 0),(16,.d (I ((ay.length:Nat):Int))),(17,.d (I ba))]
abbrev Uu (b_:zb)(ay:List zj)(bo:TA)(ba:Int)(a8:zj)(cb:List zj)(pu:Bool):List (Nat×T):=[(0,.d (.sptr (V9 b_))),(2,.own (eOs 1 false F4_ bo)),(3,.own (eOs 2 false UJ ay)),(4,.own (eOs 2 false UJ cb)),(6,.own (.box (UJ a8))),(7,.d (B pu)),(15,.als 3 [] 0 0),(16,.d (I ((ay.length:Nat):Int))),(17,.d (I ba))]
abbrev Ut (b_:zb)(ay:List zj)(bo:TA)(ba:Int)(a8:zj)(a7:zC Int)(fg:Int)(og:List zj)(oh:Bool):List (Nat×T):=[(0,.d (.sptr (V9 b_))),(2,.own (eOs 1 false F4_ bo)),(3,.own (eOs 2 false UJ ay)),(4,.own (eOs 2 false UJ og)),(6,.own (.box (UJ a8))),(7,.d (B oh)),(15,.als 3 [] 0 0),(16,.d (I ((ay.length:Nat):Int))),(17,.d (I ba)),(28,.d (F2_ a7)),(29,.d (I fg))]
abbrev Uq (b_:zb)(ay:List zj)(bo:TA)(ba:Int)(a8:zj)(a7:zC Int)(iq:List zj)(l9:Bool)(fg:Int):List (Nat×T):=[(0,.d (.sptr (V9 b_))),(2,.own (eOs 1 false F4_ bo)),(3,.own (eOs 2 false UJ ay)),(4,.own (eOs 2 false UJ iq)),(6,.own (.box (UJ a8))),(7,.d (B l9)),(15,.als 3 [] 0 0),(16,.d (I ((ay.length:Nat):Int))),(17,.d (I ba)),(28,.d (F2_ a7)),(29,.d (I fg))]
abbrev Ur (b_:zb)(ay:List zj)(bo:TA)(cr:List zj)(ba:Int):List (Nat×T):=[(0,.d (.sptr (V9 b_))),(2,.own (eOs 1 false F4_ bo)),(3,.own (eOs 2 false UJ ay)),(4,.own (eOs 2 false UJ cr)),(15,.als 3 [] 0 0),(16,.d (I ((ay.length:Nat):Int))),(17,.d (I ba))]
abbrev Us (b_:zb)(aj:TA)(ay:List zj):List (Nat×T):=[(0,.d (.sptr (V9 b_))),(2,.own (eOs 1 false F4_ aj)),(3,.own (eOs 2 false UJ ay))]
def uP:XH prog:=((xL zl (.inl 52) [51]).or ((xL zl (.inl 43) [42]).or ((xL zl (.inl 11) [10]).or X0)))
def JS [H:HS uP zln]:OkH zmC:=yS1 true func69 λb_ r0 aa E hE=>by
 refine yJ 111 [] [2] (λz:TA=>u9 z=some r0) (λz=>Ux z) [(0,.d (.sptr (V9 b_))),(2,.own (eOs 1 true F8_ [])),(3,.own (eOs 2 true (yZ (eI .i32) F4_) ([(zj.mk 0 [])])))] [Hm (shM rY rY []),Hh (.cut 0)] ?_ λJ1 ar=>?_
 ·rintro out aa;unfold u9 at aa;obtain⟨r_,h0,aa⟩:=zy aa;obtain rfl:=xR aa;exact yE (H:=zx ((z0C zl (XY (H:=zd 0)) 57).or uP)) hE [Hh (.g [true]),Hn XR,Hx (.a (zlE r_)) (XQ out _ h0)]
 obtain⟨t2,ht2,aa⟩:=zy aa;refine yLx 11120 [J1] (λs=>vZ b_ s.1 s.2) (λx=>Us b_ x.1 x.2) (([]:TA),([(zj.mk 0 [])]:List zj)) ht2 [(0,.d (.sptr (V9 b_))),(2,.own (eOs 1 true F4_ [])),(3,.own (eOs 2 true (yZ (eI .i32) F4_) ([(zj.mk 0 [])])))] inferInstance [] λ⟨aj,ay⟩ m2 av ae hl1 J2 au=>?_;try unfold vZ at ae
 let Z0:List HO:=[Ha (lnM UJ ay)];obtain c0|c0:=zH ae
 ·refine yJ 111200101 [J1,J2] [0,2,4] (λz:TA×List zj=>u7 z.1 z.2=some av) (λz=>Uw b_ z.1 z.2) [(0,.d (.sptr (V9 b_))),(2,.own (eOs 1 false F4_ aj)),(3,.own (eOs 2 false UJ ay)),(4,.own (eOs 2 true UJ []))] (Z0++[c0,Hh (.cut 1)]) ?_ λJ3 bg=>?_
  ·rintro⟨ax,next⟩ ae;unfold u7 at ae;obtain rfl:=xR ae;exact yB au _ hl1 []
  obtain⟨t4,ht4,ae⟩:=zy c0.2;refine yLx 111200101210 [J1,J2,J3] (λs=>ym b_ ay s.1 s.2.1 s.2.2) (λx=>Ur b_ ay x.1 x.2.1 x.2.2) (aj,([]:List zj),0) ht4 [(0,.d (.sptr (V9 b_))),(2,.own (eOs 1 false F4_ aj)),(3,.own (eOs 2 false UJ ay)),(4,.own (eOs 2 true UJ [])),(15,.als 3 [] 0 0),(16,.d (I ((ay.length:Nat):Int))),(17,.d (I 0))] inferInstance [Ha (lnM UJ ay)] λ⟨bo,cr,ba⟩ m4 dj ah hl2 J4 db=>?_;try unfold ym at ah;obtain c1|c1:=zH ah
  ·refine yJ 111200101210011 [J1,J2,J3,J4] [0,2,3,4,15,16,17] (λz:TA×List zj=>wM ba z.1 z.2=some dj) (λz=>Uv b_ ay ba z.1 z.2) [(0,.d (.sptr (V9 b_))),(2,.own (eOs 1 false F4_ bo)),(3,.own (eOs 2 false UJ ay)),(4,.own (eOs 2 false UJ cr)),(15,.als 3 [] 0 0),(16,.d (I ((ay.length:Nat):Int))),(17,.d (I ba))] [c1,Hh (.cut 0)] ?_ λJ5 dc=>?_
   ·rintro⟨gx,ff⟩ ah;unfold wM at ah;obtain rfl:=xR ah;exact yB db _ hl2 []
   obtain⟨a8,h1,ah⟩:=zy c1.2;refine yJ 1112001012100112011 [J1,J2,J3,J4,J5] [0,2,3,4,6,7,15,16,17] (λz:List zj×Bool=>u6 bo ba a8 z.1 z.2=some dj) (λz=>Uu b_ ay bo ba a8 z.1 z.2) [(0,.d (.sptr (V9 b_))),(2,.own (eOs 1 false F4_ bo)),(3,.own (eOs 2 false UJ ay)),(4,.own (eOs 2 false UJ cr)),(6,.own (.box (UJ a8))),(7,.d (B true)),(15,.als 3 [] 0 0),(16,.d (I ((ay.length:Nat):Int))),(17,.d (I ba))] [Hn (iL UJ h1),Hs (iM UJ h1),Hh (.cut 1)] ?_ λJ6 ep=>?_
   ·rintro⟨cb,pu⟩ ah;unfold u6 at ah;obtain c2|c2:=zH ah
    ·obtain⟨ai,h2,ah⟩:=zy c2.2;obtain⟨g0,ah⟩:=gdE ah;exact yB dc ((bo++[ai]),cb) ah [c2,zC1 54 h2,Hq (dM F4_ [ai]),Hn (dM F4_ [ai]),Hn (aL F4_ F4_ g0),Hl (aM F4_ bo [ai])]
    exact yB dc (bo,cb) c2.2 [c2]
   obtain⟨a7,h3,t7,ht7,ah⟩:=yf ah;refine yL 1112001012100112011210 [J1,J2,J3,J4,J5,J6] (λs=>yl a8 a7 s.1 s.2.1 s.2.2) (λx=>Uq b_ ay bo ba a8 a7 x.1 x.2.1 x.2.2) (cr,true,0) ht7  [Hi F2_ h3] λ⟨iq,l9,fg⟩ m7 nb aw hl3 J7 gw=>?_;try unfold yl at aw;obtain c3|c3:=zH aw
   ·refine yJ 1112001012100112011210011 [J1,J2,J3,J4,J5,J6,J7] [0,2,3,4,6,7,15,16,17,28,29] (λz:List zj×Bool=>wL fg z.1 z.2=some nb) (λz=>Ut b_ ay bo ba a8 a7 fg z.1 z.2) [(0,.d (.sptr (V9 b_))),(2,.own (eOs 1 false F4_ bo)),(3,.own (eOs 2 false UJ ay)),(4,.own (eOs 2 false UJ iq)),(6,.own (.box (UJ a8))),(7,.d (B l9)),(15,.als 3 [] 0 0),(16,.d (I ((ay.length:Nat):Int))),(17,.d (I ba)),(28,.d (F2_ a7)),(29,.d (I fg))] [c3,Hh (.cut 0)] ?_ λJ8 lq=>?_
    ·rintro⟨og,oh⟩ aw;unfold wL at aw;obtain rfl:=xR aw;exact yB gw _ hl3 []
    obtain⟨cell,h4,aw⟩:=zy c3.2;let Z1:List HO:=[Hs (iM (eI .i32) h4),Hn (ixV (k:=.i32) (tt:=wZ) (e:=21) (l:=[a7.e0,a7.e1,a7.e2,a7.e3,a7.e4,a7.e5,a7.e6,a7.e7,a7.e8,a7.e9,a7.e10,a7.e11,a7.e12,a7.e13,a7.e14,a7.e15]) (λ_=>by kernel_rfl) h4 (m:=16) rfl)];obtain c4|c4:=zH aw
    ·obtain⟨ak,h5,aw⟩:=zy c4.2;obtain⟨g1,aw⟩:=gdE aw;obtain⟨g2,aw⟩:=gdE aw;exact yB (H:=zx ((zn8 zl 32).or uP)) lq ((iq++[(zj.mk cell (ak++[fg]))]),false) aw (Z1++[c4,zC1 54 h5,Hq (dM rY [fg]),Hn (dM rY [fg]),Hn (aN rY rY g1 (by simp)),Hl (aM rY ak [fg]),Hm (shM rY rY (ak++[fg])),Hq (dM UJ [(zj.mk cell (ak++[fg]))]),Hn (dM UJ [(zj.mk cell (ak++[fg]))]),Hn (aL UJ UJ g2),Hl (aM UJ iq [(zj.mk cell (ak++[fg]))])])
    exact yB (H:=zx ((zn8 zl 32).or uP)) lq (iq,l9) c4.2 (Z1++[c4])
   obtain rfl:=xR c3.2;obtain rfl:=hl3;exact yB ep (iq,l9) ah [c3]
  obtain rfl:=xR c1.2;obtain rfl:=hl2;exact yB bg (bo,cr) ae [c1]
 obtain rfl:=xR c0.2;obtain rfl:=hl1;exact yB ar aj aa (Z0++[c0])
def zmB:List yg:=zib 35 (eIf 77) xQ rY rY (eT2 kK rY) wD::zmC
def z2J [H:HS X0 zmC]:OkH zmB:=yS4 false func35 λs_ m_ bound bf r0 aa E hE=>by
 obtain⟨r_,h0,aa⟩:=zy aa;let Z0:List HO:=[zC2 58 h0];obtain c0|c0:=zH aa
 ·cases c0.2;exact yE hE (Z0++[c0,Hm (shM F8_ F8_ [])])
 obtain c1|c1:=zH c0.2
 ·cases c1.2;exact yE hE (Z0++[c0,c1,c1,c1,qT,Hm (shM F8_ F8_ [])])
 let Z1:List HO:=(Z0++[c0,c1,c1,c1]);obtain c2|c2:=zH c1.2
 ·cases c2.2;exact yE hE (Z1++[c2,Hm (shM F8_ F8_ [])])
 obtain⟨ai,h1,aa⟩:=zy c2.2;let Z2:List HO:=(Z1++[c2,zC2 12 h1,Hn (rfl:T.d (ePo Jn ai.1)=T.d (ePo Jn ai.1))]);obtain c3|c3:=zH aa
 ·cases c3.2;exact yE (H:=zx ((xRe prog 11 (ePo Jn ai.1) (ePo Jn ai.1) (λ_ _ q=>q)).or X0)) hE (Z2++[c3,Hm (shM F8_ F8_ [])])
 obtain⟨there,h2,ak,h3,aa⟩:=yf c3.2;let Z3:List HO:=(Z2++[c3,Hn (rfl:T.d (ePo Jn ai.1)=T.d (ePo Jn ai.1)),zC3 1 h3,Hn (rfl:T.d (ePo V9 ak.1)=T.d (ePo V9 ak.1))]);obtain c4|c4:=zH aa
 ·cases c4.2;exact yE (H:=zx ((xRe prog 13 (ePo V9 ak.1) (ePo V9 ak.1) (λ_ _ q=>q)).or ((xRe prog 38 (ePo Jn ai.1) (.sptr (.agg [.agg [I there.m_.Inputs,I there.m_.Outputs,eSl 1 false wv there.m_.Rows],eSl 1 false F8_ there.q_,eSl 1 false F8_ there.p_,eSl 1 false F8_ there.all_,eSl 1 false vp there.each_,eSl 1 false F8_ there.short_,eSl 1 false F8_ there.exact_])) (poM (f:=Jn) h2)).or ((xRe prog 11 (ePo Jn ai.1) (ePo Jn ai.1) (λ_ _ q=>q)).or X0)))) hE (Z3++[c4,Hm (shM F8_ F8_ [])])
 obtain⟨ee,h4,am,h5,az,h6,aa⟩:=ZZ c4.2;let Z4:List HO:=(Z3++[c4,Hn (rfl:T.d (ePo V9 ak.1)=T.d (ePo V9 ak.1)),zC1 0 h5,zg 32,Hm (shM F4_ F4_ am),Hs (zf2 32 h6 (loC kK am <| loC rY m_.Inputs <| loN))]);obtain c5|c5:=zH aa
 ·cases c5.2;exact yE (H:=zx ((xRe prog 46 (ePo V9 ak.1) (.sptr (.agg [eSl 16 false F2_ ee.nodes_,I ee.leaves_,I ee.most_])) (poM (f:=V9) h4)).or ((xRe prog 13 (ePo V9 ak.1) (ePo V9 ak.1) (λ_ _ q=>q)).or ((xRe prog 38 (ePo Jn ai.1) (.sptr (.agg [.agg [I there.m_.Inputs,I there.m_.Outputs,eSl 1 false wv there.m_.Rows],eSl 1 false F8_ there.q_,eSl 1 false F8_ there.p_,eSl 1 false F8_ there.all_,eSl 1 false vp there.each_,eSl 1 false F8_ there.short_,eSl 1 false F8_ there.exact_])) (poM (f:=Jn) h2)).or ((xRe prog 11 (ePo Jn ai.1) (ePo Jn ai.1) (λ_ _ q=>q)).or X0))))) hE (Z4++[c5,Hm (shM F8_ F8_ [])])
 cases c5.2;exact yE (H:=zx ((xRe prog 46 (ePo V9 ak.1) (.sptr (.agg [eSl 16 false F2_ ee.nodes_,I ee.leaves_,I ee.most_])) (poM (f:=V9) h4)).or ((xRe prog 13 (ePo V9 ak.1) (ePo V9 ak.1) (λ_ _ q=>q)).or ((xRe prog 38 (ePo Jn ai.1) (.sptr (.agg [.agg [I there.m_.Inputs,I there.m_.Outputs,eSl 1 false wv there.m_.Rows],eSl 1 false F8_ there.q_,eSl 1 false F8_ there.p_,eSl 1 false F8_ there.all_,eSl 1 false vp there.each_,eSl 1 false F8_ there.short_,eSl 1 false F8_ there.exact_])) (poM (f:=Jn) h2)).or ((xRe prog 11 (ePo Jn ai.1) (ePo Jn ai.1) (λ_ _ q=>q)).or X0))))) hE (Z4++[c5,Hm (shM F4_ F4_ am)])
def zmA:List yg:=z2A 10 xQ rY rY (eT2 kK rY) YX::zmB
def z8S [H:HS X0 zmB]:OkH zmA:=yS3 false func10 λm_ bound bf r0 aa E hE=>by obtain⟨r_,h0,aa⟩:=zy aa;cases aa;exact yE (H:=zx ((zfY prog 9 77 underlying77).or X0)) hE [zC4 0 h0]
def zmz:List yg:=z2A 11 xQ rY rY (eT2 kK rY) WT::zmA
def z6A [H:HS X0 zmA]:OkH zmz:=yS3 false func11 λm_ bound bf r0 aa E hE=>by obtain⟨r_,h0,aa⟩:=zy aa;cases aa;exact yE (H:=zx ((zfY prog 9 78 underlying78).or X0)) hE [zC4 1 h0]
def zmy:List yg:=z2A 12 xQ rY rY (eT2 kK rY) Xh::zmz
def z5b [H:HS X0 zmz]:OkH zmy:=yS3 false func12 λm_ bound bf r0 aa E hE=>by obtain⟨r_,h0,aa⟩:=zy aa;cases aa;exact yE (H:=zx ((zfY prog 9 79 underlying79).or X0)) hE [zC4 2 h0]
def zmx:List yg:=Zs 13 xQ rY (eT2 F1_ rY) z0l::zmy
def z2K [H:HS X0 zmy]:OkH zmx:=yS2 false func13 λm_ bound r0 aa E hE=>by
 obtain⟨r_,h0,aa⟩:=zy aa;let Z0:List HO:=[zC2 62 h0];obtain c0|c0:=zH aa
 ·cases c0.2;exact yE hE (Z0++[c0])
 obtain⟨ai,h1,aa⟩:=zy c0.2;let Z1:List HO:=(Z0++[c0,zC2 16 h1,Hn (rfl:T.d (ePo Jn ai.1)=T.d (ePo Jn ai.1))]);obtain c1|c1:=zH aa
 ·cases c1.2;exact yE (H:=zx ((xRe prog 7 (ePo Jn ai.1) (ePo Jn ai.1) (λ_ _ q=>q)).or X0)) hE (Z1++[c1])
 refine yK (H:=zx ((xRe prog 7 (ePo Jn ai.1) (ePo Jn ai.1) (λ_ _ q=>q)).or X0)) 11111 [] [4] (zI US r0) (λz=>[(4,.own (.box (F1_ z)))]) [4,7] (Z1++[c1,Hh (.cut 0)]) ?_ λJ1 ar=>?_
 ·rintro n_ aa;cases aa;exact yE hE []
 refine yMb (H:=zx ((zfY prog 33 79 underlying79).or ((zfY prog 31 78 underlying78).or ((zfY prog 29 77 underlying77).or X0)))) 11111210 [J1] [4,7,34,35,36] (λx=>[(4,.own (.box (F1_ x.1))),(36,.d (I x.2))]) c1.2  [Ha (lnM (eIf 77) ([0,1,2]:TC))] λt2 aa ⟨ca,kl⟩ m2 av ae hl1 J2 au=>?_;obtain c2|c2:=zH ae
 ·obtain⟨mj,h2,there,h3,ak,h4,ae⟩:=ZZ c2.2;let Z2:List HO:=[c2,Hn (iL (eIf 77) h2),Hs (iM (eIf 77) h2),Hn (rfl:T.d (ePo Jn ai.1)=T.d (ePo Jn ai.1)),zC3 5 h4,Hn (rfl:T.d (ePo V9 ak.1)=T.d (ePo V9 ak.1))];obtain c3|c3:=zH ae
  ·cases c3.2;cases hl1;cases aa;exact yE (H:=zx ((xRe prog 10 (ePo V9 ak.1) (ePo V9 ak.1) (λ_ _ q=>q)).or ((xRe prog 42 (ePo Jn ai.1) (.sptr (.agg [.agg [I there.m_.Inputs,I there.m_.Outputs,eSl 1 false wv there.m_.Rows],eSl 1 false F8_ there.q_,eSl 1 false F8_ there.p_,eSl 1 false F8_ there.all_,eSl 1 false vp there.each_,eSl 1 false F8_ there.short_,eSl 1 false F8_ there.exact_])) (poM (f:=Jn) h3)).or X0))) hE (Z2++[c3])
  obtain⟨ee,h5,cell,h6,arr,h7,ae⟩:=ZZ c3.2;replace h7:=xR h7;cases ae;exact yB (H:=zx ((xRe prog 51 (ePo V9 ak.1) (.sptr (.agg [eSl 16 false F2_ ee.nodes_,I ee.leaves_,I ee.most_])) (poM (f:=V9) h5)).or ((xRe prog 10 (ePo V9 ak.1) (ePo V9 ak.1) (λ_ _ q=>q)).or ((xRe prog 42 (ePo Jn ai.1) (.sptr (.agg [.agg [I there.m_.Inputs,I there.m_.Outputs,eSl 1 false wv there.m_.Rows],eSl 1 false F8_ there.q_,eSl 1 false F8_ there.p_,eSl 1 false F8_ there.all_,eSl 1 false vp there.each_,eSl 1 false F8_ there.short_,eSl 1 false F8_ there.exact_])) (poM (f:=Jn) h3)).or X0)))) au _ hl1 (Z2++[c3,Hn (rfl:T.d (ePo V9 ak.1)=T.d (ePo V9 ak.1)),Hn (⟨arJ (by kernel_rfl) (i0 h6),(iL rY h6).2⟩:kI wZ 36 ((UI.toL ca).map rY) kl=true/\kl.toNat<((UI.toL ca).map rY).length),Hh (.op 7),Hh (.f),Hs (iM rY h6),Hh (.f),Hs (iM rY h6),Hx (.l ((UI.toL arr).map rY)) ((UI.setL rY ca kl (mx ee.leaves_ 1)).trans (congrArg (λq=>(UI.toL q).map rY) h7))])
 cases c2.2;cases hl1;exact yB ar ca aa [c2]
def zmw:List yg:=Zs 60 F8_ F8_ rY X1::zmx
def z1i [H:HS X0 zmx]:OkH zmw:=yS2 true func60 λa_ b_ r0 aa E hE=>by
 let Z0:List HO:=[Ha (lnM rY a_),Ha (lnM rY b_)];obtain c0|c0:=zH aa
 ·let Z1:List HO:=(Z0++[c0,Ha (lnM rY a_),Ha (lnM rY b_)]);obtain c1|c1:=zH c0.2
  ·cases c1.2;exact yE hE (Z1++[c1])
  cases c1.2;exact yE hE (Z1++[c1])
 refine yK 111 [] [] (λz:Unit=>Uc=some r0) (λz=>[]) [0,1] (Z0++[c0,Hh (.cut 0)]) ?_ λJ1 ar=>?_
 ·rintro⟨⟩ aa;cases aa;exact yE hE []
 refine yMb 111210 [J1] [0,1,5] (λx=>[(5,.d (I x))]) c0.2  [] λt2 aa i_ m2 av ae hl1 J2 au=>?_;obtain c2|c2:=zH ae
 ·obtain⟨dv,h0,dx,h1,ae⟩:=yf c2.2;let Z2:List HO:=[Ha (lnM rY a_),c2,Hi rY h0,Hi rY h1];obtain c3|c3:=zH ae
  ·cases c3.2;cases hl1;cases aa;exact yE hE (Z2++[c3])
  obtain⟨i6,h2,l6,h3,ae⟩:=yf c3.2;let Z3:List HO:=(Z2++[c3,Hi rY h2,Hi rY h3]);obtain c4|c4:=zH ae
  ·cases c4.2;cases hl1;cases aa;exact yE hE (Z3++[c4])
  cases c4.2;exact yB au _ hl1 (Z3++[c4])
 cases c2.2;cases hl1;exact yB ar () aa [Ha (lnM rY a_),c2]
def zmv:List yg:=Zs 38 vp vp eB WW::zmw
def z5c [H:HS X0 zmw]:OkH zmv:=yS2 true func38 λa_ b_ r0 aa E hE=>by
 let Z0:List HO:=[Ha (lnM F8_ a_),Ha (lnM F8_ b_)];obtain c0|c0:=zH aa
 ·cases c0.2;exact yE hE (Z0++[c0])
 refine yK 111 [] [] (λz:Unit=>Vt=some r0) (λz=>[]) [0,1] (Z0++[c0,Hh (.cut 0)]) ?_ λJ1 ar=>?_
 ·rintro⟨⟩ aa;cases aa;exact yE hE []
 refine yMb 111210 [J1] [0,1,5] (λx=>[(5,.d (I x))]) c0.2  [] λt2 aa i_ m2 av ae hl1 J2 au=>?_;let Z1:List HO:=[Ha (lnM F8_ a_)];obtain c1|c1:=zH ae
 ·obtain⟨dv,h0,dx,h1,r_,h2,ae⟩:=ZZ c1.2;let Z2:List HO:=(Z1++[c1,Hi F8_ h0,Hi F8_ h1,zC2 0 h2]);obtain c2|c2:=zH ae
  ·cases c2.2;cases hl1;cases aa;exact yE hE (Z2++[c2])
  cases c2.2;exact yB au _ hl1 (Z2++[c2])
 cases c1.2;cases hl1;exact yB ar () aa (Z1++[c1])
def zmu:List yg:=Zs 14 kK vp eB QD::zmv
def z5g [H:HS X0 zmv]:OkH zmu:=yS2 true func14 λa_ b_ r0 aa E hE=>by
 obtain⟨r_,h0,aa⟩:=zy aa;let Z0:List HO:=[Hk [] (Kl (hat 0)) (zf2 0 h0 (loC kK a_ <| loC vp b_ <| loN))];obtain c0|c0:=zH aa
 ·cases c0.2;exact yE hE (Z0++[c0,c0,Ha (lnM F4_ a_),c0,c0,Ha (lnM F4_ a_),c0,c0])
 cases c0.2;exact yE hE (Z0++(rpN 6 (Hb c0) []))
def zmt:List yg:=zic 50 zfV Kj::zmu
def z1p [H:HS X0 zmu]:OkH zmt:=yS0 false func50 λr0 aa E hE=>by cases aa;exact yE hE [Hm (shM (eOs 2 true uS) zop ([[(z8.mk 1 0),(z8.mk 0 0)],[(z8.mk 2 0),(z8.mk 1 1)],[(z8.mk 0 1),(z8.mk 2 0)]]))]
def zms:List yg:=zic 18 eB JF::zmt
def z43 [H:HS X0 zmt]:OkH zms:=yS0 true func18 λr0 aa E hE=>by
 let u0:=([[1,0],[1,1],[0,1,0],[0,1,1],[0,0,0,0],[0,0,0,1],[0,0,1,0],[0,0,1,1]]:TA);obtain⟨r_,h0,ai,h1,ak,h2,am,h3,aa⟩:=z7m aa;let Z0:List HO:=[zC0 0 h0,Hk [] (Kl (hat 7)) (zf3 7 h1 (loC zfV r_ <| loC rY 3 <| loC rY 8 <| loN)),Hk [] (Kl (hat 6)) (zf3 6 h2 (loC zfV r_ <| loC rY 3 <| loC rY 4096 <| loN)),Hk [] (Kl (hat 5)) (zf3 5 h3 (loC zfV r_ <| loC rY 3 <| loC rY 4096 <| loN))];obtain c0|c0:=zH aa
 ·cases c0.2;exact yE hE (Z0++(Hb c0::Hb c0::Hb c0::(rpN 21 qT [])))
 obtain c1|c1:=zH c0.2
 ·cases c1.2;exact yE hE (Z0++(Hb c0::Hb c0::Hb c0::Hb c1::Hb c1::Hb c1::(rpN 18 qT [])))
 let Z1:List HO:=(Z0++[c0,c0,c0,c1,c1,c1]);obtain c2|c2:=zH c1.2
 ·cases c2.2;exact yE hE (Z1++(rpN 5 (Hb c2) (rpN 13 qT [])))
 obtain⟨az,h4,aa⟩:=zy c2.2;let Z2:List HO:=(Z1++[c2,c2,c2,Hm (shM F5_ F4_ ([[1,0],[1,1],[0,1,0],[0,1,1],[0,0,0,0],[0,0,0,1],[0,0,1,0],[0,0,1,1]])),Hn (ZH (f:=.fn 14 []) (xs:=[kK ai.1,vp u0]) (ls:=[]) (r:=B az) (ys:=[]) [kK ai.1,kK u0] (show Qm [kK ai.1,kK u0] [kK ai.1,vp u0] from inferInstance)),c2,c2]);obtain c3|c3:=zH aa
 ·cases c3.2;exact yE (H:=zx ((jV (P:=prog) wZ [] (lentCall ((zk2 1 h4 :))) 49).or X0)) hE (Z2++(rpN 6 (Hb c3) (rpN 7 qT [])))
 obtain⟨g0,aa⟩:=gdE c3.2;obtain⟨bn,h5,aa⟩:=zy aa;let Z3:List HO:=(Z2++[c3,c3,c3,Hn (slB g0),Hn (zgF F4_ g0),Ha (slM 1 (true&&(7:Int).toNat==(u0.map F4_).length) F4_ u0 0 (7:Int).toNat),c3,Hn (ZH (f:=.fn 14 []) (xs:=[kK ak.1,vp ((u0.drop 0).take ((7:Int).toNat - 0))]) (ls:=[]) (r:=B bn) (ys:=[]) [kK ak.1,(eSl 1 (true&&(7:Int).toNat==(u0.map F4_).length) F4_) ((u0.drop 0).take ((7:Int).toNat - 0))] (show Qm [kK ak.1,(eSl 1 (true&&(7:Int).toNat==(u0.map F4_).length) F4_) ((u0.drop 0).take ((7:Int).toNat - 0))] [kK ak.1,vp ((u0.drop 0).take ((7:Int).toNat - 0))] from inferInstance)),c3,c3]);obtain c4|c4:=zH aa
 ·cases c4.2;exact yE (H:=zx ((jV (P:=prog) wZ [] (lentCall ((zk2 1 h5 :))) 56).or ((jV (P:=prog) wZ [] (lentCall ((zk2 1 h4 :))) 49).or X0))) hE (Z3++(rpN 6 (Hb c4) [qT]))
 obtain⟨g1,aa⟩:=gdE c4.2;obtain⟨cx,h6,aa⟩:=zy aa;let Z4:List HO:=(Z3++[c4,c4,c4,Hn (slB g1),Hn (zgF F4_ g1),Ha (slM 1 (true&&(7:Int).toNat==(u0.map F4_).length) F4_ u0 0 (7:Int).toNat),c4,Hn (ZH (f:=.fn 14 []) (xs:=[kK am.1,vp ((u0.drop 0).take ((7:Int).toNat - 0))]) (ls:=[]) (r:=B cx) (ys:=[]) [kK am.1,(eSl 1 (true&&(7:Int).toNat==(u0.map F4_).length) F4_) ((u0.drop 0).take ((7:Int).toNat - 0))] (show Qm [kK am.1,(eSl 1 (true&&(7:Int).toNat==(u0.map F4_).length) F4_) ((u0.drop 0).take ((7:Int).toNat - 0))] [kK am.1,vp ((u0.drop 0).take ((7:Int).toNat - 0))] from inferInstance)),c4,c4]);obtain c5|c5:=zH aa
 ·cases c5.2;exact yE (H:=zx ((jV (P:=prog) wZ [] (lentCall ((zk2 1 h6 :))) 63).or ((jV (P:=prog) wZ [] (lentCall ((zk2 1 h5 :))) 56).or ((jV (P:=prog) wZ [] (lentCall ((zk2 1 h4 :))) 49).or X0)))) hE (Z4++[c5])
 obtain⟨gb,h7,iy,h8,gr,h9,im,h10,aa⟩:=z7m c5.2;let Z5:List HO:=(Z4++[c5,Hk [] (Kl (hat 7)) (zf3 7 h7 (loC zfV r_ <| loC rY 2 <| loC rY 9 <| loN)),Hk [] (Kl (hat 7)) (zf3 7 h8 (loC zfV r_ <| loC rY 8 <| loC rY 9 <| loN)),Hk [] (Kl (hat 7)) (zf3 7 h9 (loC zfV r_ <| loC rY 3 <| loC rY 7 <| loN)),Hk [] (Kl (hat 4)) (zf2 4 h10 (loC zfV r_ <| loC rY 3 <| loN))]);obtain c6|c6:=zH aa
 ·obtain c7|c7:=zH c6.2
  ·let Z6:List HO:=(Z5++[c6,c6,c6,c7,c7,c7]);obtain c8|c8:=zH c7.2
   ·obtain c9|c9:=zH c8.2
    ·cases c9.2;exact yE (H:=zx ((jV (P:=prog) wZ [] (lentCall ((zk2 1 h6 :))) 63).or ((jV (P:=prog) wZ [] (lentCall ((zk2 1 h5 :))) 56).or ((jV (P:=prog) wZ [] (lentCall ((zk2 1 h4 :))) 49).or X0)))) hE (Z6++(Hb c8::Hb c8::Hb c8::(rpN 4 (Hb c9) [])))
    cases c9.2;exact yE (H:=zx ((jV (P:=prog) wZ [] (lentCall ((zk2 1 h6 :))) 63).or ((jV (P:=prog) wZ [] (lentCall ((zk2 1 h5 :))) 56).or ((jV (P:=prog) wZ [] (lentCall ((zk2 1 h4 :))) 49).or X0)))) hE (Z6++(Hb c8::Hb c8::Hb c8::(rpN 4 (Hb c9) [])))
   cases c8.2;exact yE (H:=zx ((jV (P:=prog) wZ [] (lentCall ((zk2 1 h6 :))) 63).or ((jV (P:=prog) wZ [] (lentCall ((zk2 1 h5 :))) 56).or ((jV (P:=prog) wZ [] (lentCall ((zk2 1 h4 :))) 49).or X0)))) hE (Z6++(Hb c8::Hb c8::Hb c8::(rpN 4 qF [])))
  cases c7.2;exact yE (H:=zx ((jV (P:=prog) wZ [] (lentCall ((zk2 1 h6 :))) 63).or ((jV (P:=prog) wZ [] (lentCall ((zk2 1 h5 :))) 56).or ((jV (P:=prog) wZ [] (lentCall ((zk2 1 h4 :))) 49).or X0)))) hE (Z5++(Hb c6::Hb c6::Hb c6::Hb c7::Hb c7::Hb c7::(rpN 7 qF [])))
 cases c6.2;exact yE (H:=zx ((jV (P:=prog) wZ [] (lentCall ((zk2 1 h6 :))) 63).or ((jV (P:=prog) wZ [] (lentCall ((zk2 1 h5 :))) 56).or ((jV (P:=prog) wZ [] (lentCall ((zk2 1 h4 :))) 49).or X0)))) hE (Z5++(Hb c6::Hb c6::Hb c6::(rpN 10 qF [])))
def zkx:List yg:=z2A 64 vp vp rY (eT2 kK rY) Xu::zms
def z3U [H:HS X0 zms]:OkH zkx:=yS3 false func64 λa_ b_ inputs r0 aa E hE=>by
 obtain⟨r_,h0,aa⟩:=zy aa;let Z0:List HO:=[zg 41,Hm (shM vp vp ([a_,b_])),Hs (zf2 41 h0 (loC rY inputs <| loC (eSl 1 true vp) [a_,b_] <| loN))];obtain c0|c0:=zH aa
 ·cases c0.2;exact yE hE (Z0++[c0,Hm (shM F8_ F8_ [])])
 obtain⟨ai,h1,aa⟩:=zy c0.2;obtain⟨g0,aa⟩:=gdE aa;obtain⟨ak,h2,aa⟩:=zy aa;cases aa;exact yE hE (Z0++[c0,zC1 57 h1,Hn (dM F8_ b_),Hn (aL F8_ F8_ g0),Hl (aM F8_ ai b_),zg 48,Hm (shM F8_ F8_ (ai++b_)),Hs (zf1 48 h2 (loC vp (ai++b_) <| loN)),Hm (shM F8_ F8_ (ai++b_))])
def YP [H:HS X0 zkx](bz:Value):∀(b_:zA) (r0:Int×zA),v8 b_=some r0->uC prog (.fn 163 []) [.atom bz] ([bz].zip [.box (.agg [I b_.inputs_,eOs 2 false YN b_.nodes_])]) (I r0.1) [.box (.agg [I r0.2.inputs_,eOs 2 false YN r0.2.nodes_])]:=by
 intro b_ r0 aa;refine z8d (tt:=wZ) (nt:=f163.ntmps) (body:=zbd f163) [0] zl func163 rfl (by kernel_rfl) rfl rfl (by show(1:Nat)<=38;decide) (by decide) rfl rfl rfl rfl (λE hE=>?_) rfl;refine zl4 0 (v:=bz) (y:=.box (.agg [I b_.inputs_,eOs 2 false YN b_.nodes_])) (by kernel_rfl) (by kernel_rfl) (by kernel_rfl) λhv0=>?_;obtain⟨g0,aa⟩:=gdE aa;refine yNs 111 [] [0,3] (zI (uZ b_) r0) (λz=>[(3,.own (.box (.agg [eOs 1 true rY z,B false])))]) [Hn (rL g0),Ha (rM 1 rY b_.inputs_ (0:Int)),Hh (.cut 0)] ?_ λJ1 ar=>?_
 ·rintro jy aa;obtain⟨g1,aa⟩:=gdE aa;cases aa;exact yF (H:=zx ((xNc prog 30 0 bz).or ((xMv prog 22 0 bz hv0).or X0))) .ret [(0,.own (.box (.agg [I b_.inputs_,eOs 2 false YN (b_.nodes_++[(ze.mk jy false)])]))),(2,.d (I (w64 ((((b_.nodes_++[(ze.mk jy false)]).length:Nat):Int) - 1))))] [Hn (rfl:some bz=some bz),Hq (oC YN (ze.mk jy false) []),Hn (aL YN YN g1),Hl (aM YN b_.nodes_ [(ze.mk jy false)]),Hn (⟨rfl,rfl⟩:T.d (.atom bz)=T.d (.atom bz)/\some bz=some bz),Ha (lnM YN (b_.nodes_++[(ze.mk jy false)]))] λst0 h0=>hE _ st0 (.inr rfl) (ZS h0 ⟨⟨rfl,rfl⟩,trivial⟩) (zmL h0 rfl rfl)
 refine yMb 111210 [J1] [0,3,13,14] (λx=>[(3,.own (.box (.agg [eOs 1 true rY x.1,B false]))),(14,.d (I x.2))]) aa  [Ha (lnM rY (List.replicate b_.inputs_.toNat (0:Int)))] λt2 aa ⟨j5,kq⟩ m2 av ae hl1 J2 au=>?_;obtain c0|c0:=zH ae
 ·obtain⟨qo,h0,ae⟩:=zy c0.2;cases ae;exact yB au _ hl1 [c0,Hn (iL rY h0),Hs (iM rY h0),Hs (iM rY h0),Hl (sM rY j5 kq (-1))]
 cases c0.2;cases hl1;exact yB ar j5 aa [c0]
def Jo [H:HS X0 zkx](bz:Value):∀(w_:TB) (b_:zA) (r0:zA),qL w_ b_=some r0->uC prog (.fn 141 []) [.atom bz,eSl 1 false rY w_] ([bz].zip [.box (.agg [I b_.inputs_,eOs 2 false YN b_.nodes_])]) (.tup []) [.box (.agg [I r0.inputs_,eOs 2 false YN r0.nodes_])]:=by
 intro w_ b_ r0 aa;refine z0Z (tt:=wZ) (nt:=f141.ntmps) (body:=zbd f141) [0] zl func141 rfl (by kernel_rfl) rfl rfl (by show(2:Nat)<=66;decide) (by decide) rfl rfl (λE hE=>?_) rfl;refine yNs 11 [] [0,1,4] (λz:Int×List ze=>wn w_ z.1 z.2=some r0) (λz=>[(0,.own (.box (.agg [I z.1,eOs 2 false YN z.2])))]) [Hh (.cut 1)] ?_ λJ1 ar=>?_
 ·rintro⟨io,br⟩ aa;refine yK 111 [] [0,4] (λz:Int×List ze×Int=>vC z.1 z.2.1 z.2.2=some r0) (λz=>[(0,.own (.box (.agg [I z.1,eOs 2 false YN z.2.1]))),(4,.d (I z.2.2))]) [0,1,4] [Hh (.cut 0)] ?_ λJ2 au=>?_
  ·rintro⟨gf,bh,at_⟩ aa;obtain⟨je,h0,aa⟩:=zy aa;cases aa;exact yF .normal [(0,.own (.box (.agg [I gf,eOs 2 false YN (bh.set at_.toNat (ze.mk je.Next true))])))] [Hn (iL YN h0),Hs (iM YN h0),Hs (iM YN h0),Hs (iM YN h0),Hl (sM YN bh at_ (ze.mk je.Next true))] λst0 h0=>hE _ st0 (.inl rfl) (ZS h0 ⟨⟨rfl,rfl⟩,trivial⟩)
  refine yMb 111210 [J2] [0,4,16,17,18] (λx=>[(0,.own (.box (.agg [I x.1,eOs 2 false YN x.2.1]))),(4,.d (I x.2.2.1)),(18,.d (I x.2.2.2))]) aa  [Ha (lnM rY w_)] λt3 aa ⟨ij,bm,ia,gh⟩ m3 av ae hl1 J3 bg=>?_;obtain c0|c0:=zH ae
  ·obtain⟨fc,h1,ae⟩:=zy c0.2;refine yNs 111210011001 [J2,J3] [0,4,6,16,17,18] (λz:Int×List ze=>wk ia gh fc z.1 z.2=some av) (λz=>[(0,.own (.box (.agg [I z.1,eOs 2 false YN z.2])))]) [c0,Hi rY h1,Hh (.cut 0)] ?_ λJ4 db=>?_
   ·rintro⟨ln,aq⟩ ae;obtain⟨iw,h2,jj,h3,ae⟩:=yf ae;cases ae;exact yB bg _ hl1 [Hn (iL YN h2),Hs (iM YN h2),Hs (iM YN h2),Hs (iM YN h2),Hn (iL rY h3),Hs (iM YN h2),Hs (iM rY h3)]
   obtain⟨dp,h4,po,h5,ae⟩:=yf ae;let Z0:List HO:=[Hn (iL YN h4),Hs (iM YN h4),Hs (iM YN h4),Hs (iM YN h4),Hn (iL rY h5),Hs (iM YN h4),Hs (iM rY h5)];obtain c1|c1:=zH ae
   ·obtain⟨r_,h6,a7,h7,rb,h8,ae⟩:=ZZ c1.2;exact yB (H:=zx ((jV (P:=prog) wZ [0] (YP (H:=zd 0) bz _ _ h6) 35).or X0)) db (r_.2.inputs_,(r_.2.nodes_.set ia.toNat (ze.mk (a7.Next.set fc.toNat r_.1) a7.End))) ae (Z0++[c1,Hn (ZH (f:=.fn 163 []) (xs:=[.atom bz]) (ls:=[(bz,.box (.agg [I ij,eOs 2 false YN bm]))]) (r:=I r_.1) (ys:=[.box (.agg [I r_.2.inputs_,eOs 2 false YN r_.2.nodes_])]) [.atom bz] (show Qm [.atom bz] [.atom bz] from inferInstance)),Hn (iL YN h7),Hs (iM YN h7),Hs (iM YN h7),Hs (iM YN h7),Hn (iL rY h8),Hs (iM YN h7),Hs (iM rY h8),Hs (iM YN h7),Hs (iM rY h8),Hl (sM rY a7.Next fc r_.1),Hl (sM YN r_.2.nodes_ ia (ze.mk (a7.Next.set fc.toNat r_.1) a7.End))])
   exact yB db (ij,bm) c1.2 (Z0++[c1])
  cases c0.2;cases hl1;exact yB au (ij,bm,ia) aa [c0]
 let Z1:List HO:=[Ha (lnM YN b_.nodes_)];obtain c2|c2:=zH aa
 ·obtain⟨ai,h9,aa⟩:=zy c2.2;exact yB (H:=zx ((jV (P:=prog) wZ [0] (YP (H:=zd 0) bz _ _ h9) 15).or X0)) ar (ai.2.inputs_,ai.2.nodes_) aa (Z1++[c2,Hn (ZH (f:=.fn 163 []) (xs:=[.atom bz]) (ls:=[(bz,.box (.agg [I b_.inputs_,eOs 2 false YN b_.nodes_]))]) (r:=I ai.1) (ys:=[.box (.agg [I ai.2.inputs_,eOs 2 false YN ai.2.nodes_])]) [.atom bz] (show Qm [.atom bz] [.atom bz] from inferInstance))])
 exact yB ar (b_.inputs_,b_.nodes_) c2.2 (Z1++[c2])
def zmr:List yg:=Zs 107 vp rY (eBx zp8) z0S::zkx
def z8Q [H:HS X0 zkx]:OkH zmr:=yS2 true func107 λl_ inputs r0 aa E hE=>by
 refine yC 111 [] [0,5] [Hh (.cut 2)] ?_;refine z8G (by kernel_rfl) 5 λkc=>?_;refine yK 111 [] [5] (λz:Int×List ze=>Vh z.1 z.2=some r0) (λz=>[(5,.own (.box (.agg [I z.1,eOs 2 false YN z.2])))]) [0,5] [Hh (.cut 0)] ?_ λJ1 ar=>?_
 ·rintro⟨io,br⟩ aa;cases aa;exact yE hE []
 obtain⟨t2,ht2,aa⟩:=zy aa;refine yMx 111210 [J1] [5,11,12,13] (λx=>[(5,.own (.box (.agg [I x.1,eOs 2 false YN x.2.1]))),(13,.d (I x.2.2))]) ht2 [(5,.own (.box (.agg [I inputs,eOs 2 true YN []]))),(13,.d (I 0))] [Ha (lnM F8_ l_)] λ⟨gf,bh,fq⟩ m2 av ae hl1 J2 au=>?_;obtain c0|c0:=zH ae
 ·obtain⟨bi,h0,r_,h1,ae⟩:=yf c0.2;cases ae;exact yB (H:=zx ((jV (P:=prog) wZ [5] (Jo (H:=zd 0) kc _ _ _ h1) 19).or X0)) au _ hl1 [c0,Hi F8_ h0,Hn (ZH (f:=.fn 141 []) (xs:=[.atom kc,F8_ bi]) (ls:=[(kc,.box (.agg [I gf,eOs 2 false YN bh]))]) (r:=.tup []) (ys:=[.box (.agg [I r_.inputs_,eOs 2 false YN r_.nodes_])]) [.atom kc,F8_ bi] (show Qm [.atom kc,F8_ bi] [.atom kc,F8_ bi] from inferInstance))]
 cases c0.2;cases hl1;exact yB ar (gf,bh) aa [c0]
def zlm:List yg:=YZ 140 zn3 (Ko 162 (eSp zn3)) KS::zmr
def z56 [H:HS X0 zmr]:OkH zlm:=yS1 true func140 λgv r0 aa E hE=>by cases aa;exact yE hE []
variable {σ:Type}
abbrev KB (x0:List ze)(YY:σ->JP)(js:σ)(next:List zf):List (Nat×T):=[(0,.own (.opq (YY js).q)),(1,.d (.sptr (eSl 2 false z0R x0))),(4,.own (eOs 2 false JQ next))]
abbrev KA (x0:List ze)(YY:σ->JP)(cq:List zf)(dy:Int)(qd:σ)(ff:List zf):List (Nat×T):=[(0,.own (.opq (YY qd).q)),(1,.d (.sptr (eSl 2 false z0R x0))),(3,.own (eOs 2 false JQ cq)),(4,.own (eOs 2 false JQ ff)),(17,.als 3 [] 0 0),(18,.d (I ((cq.length:Nat):Int))),(19,.d (I dy))]
abbrev Kz (x0:List ze)(YY:σ->JP)(cq:List zf)(dy:Int)(a8:zf)(yr:σ×Bool)(lp:ze)(fw:Int)(iq:List zf):List (Nat×T):=[(0,.own (.opq (YY yr.1).q)),(1,.d (.sptr (eSl 2 false z0R x0))),(3,.own (eOs 2 false JQ cq)),(4,.own (eOs 2 false JQ iq)),(6,.own (.box (JQ a8))),(17,.als 3 [] 0 0),(18,.d (I ((cq.length:Nat):Int))),(19,.d (I dy)),(32,.d (eSl 1 false rY lp.Next)),(33,.d (I ((lp.Next.length:Nat):Int))),(34,.d (I fw))]
abbrev Kw (x0:List ze)(YY:σ->JP)(cq:List zf)(dy:Int)(a8:zf)(yr:σ×Bool)(lp:ze)(cb:List zf)(fw:Int):List (Nat×T):=[(0,.own (.opq (YY yr.1).q)),(1,.d (.sptr (eSl 2 false z0R x0))),(3,.own (eOs 2 false JQ cq)),(4,.own (eOs 2 false JQ cb)),(6,.own (.box (JQ a8))),(17,.als 3 [] 0 0),(18,.d (I ((cq.length:Nat):Int))),(19,.d (I dy)),(32,.d (eSl 1 false rY lp.Next)),(33,.d (I ((lp.Next.length:Nat):Int))),(34,.d (I fw))]
abbrev Kx (x0:List ze)(YY:σ->JP)(cq:List zf)(gg:σ)(cr:List zf)(dy:Int):List (Nat×T):=[(0,.own (.opq (YY gg).q)),(1,.d (.sptr (eSl 2 false z0R x0))),(3,.own (eOs 2 false JQ cq)),(4,.own (eOs 2 false JQ cr)),(17,.als 3 [] 0 0),(18,.d (I ((cq.length:Nat):Int))),(19,.d (I dy))]
abbrev Ky (x0:List ze)(YY:σ->JP)(dw:σ)(cq:List zf):List (Nat×T):=[(0,.own (.opq (YY dw).q)),(1,.d (.sptr (eSl 2 false z0R x0))),(3,.own (eOs 2 false JQ cq))]
abbrev KC (x0:List ze)(YY:σ->JP)(sg:σ)(ay:List zf):List (Nat×T):=[(0,.own (.opq (YY sg).q)),(1,.d (.sptr (eSl 2 false z0R x0))),(3,.own (eOs 2 true zlB ay))]
def z2E [H:HS X0 zlm](x0:List ze):z4W prog (.fn 162 [.sptr (eSl 2 false z0R x0)]) (λ(x:zf) (_:Bool) (_:Value)=>[JQ x]) (@Yg x0):=by
 refine z05 (tt:=wZ) (nt:=f162.ntmps) (body:=zbd f162) zl func162 rfl (by kernel_rfl) rfl rfl (by show(2:Nat)<=55;decide) ?_;intro σ yv YY yy hy sg r0 aa E hE;refine yKs (H:=zx ((xL zl (.inl 49) [48]).or ((xL zl (.inl 13) [12]).or X0))) 11 [] [0,1,3] (zI (uY x0 yy sg) r0) (λz=>KC x0 YY sg z) [Hh (.cut 1)] ?_ λJ1 ar=>?_
 ·rintro ay aa;obtain⟨t2,ht2,aa⟩:=zy aa;refine yLx (H:=zx ((xL zl (.inl 49) [48]).or ((xL zl (.inl 13) [12]).or X0))) 1110 [] (λs=>uW x0 yy s.1 s.2) (λx=>Ky x0 YY x.1 x.2) (sg,ay) ht2 [(0,.own (.opq (YY sg).q)),(1,.d (.sptr (eSl 2 false z0R x0))),(3,.own (eOs 2 true zlB ay))] inferInstance [] λ⟨dw,cq⟩ m2 av ae hl1 J2 au=>?_;let Z0:List HO:=[Ha (lnM JQ cq)];obtain c0|c0:=zH ae
  ·refine yK (H:=zx ((xL zl (.inl 49) [48]).or ((xL zl (.inl 13) [12]).or X0))) 11100101 [J2] [0,1,4] (λz:σ×List zf=>Xq z.1 z.2=some av) (λz=>KB x0 YY z.1 z.2) [0,1,3,4] (Z0++[c0,Hh (.cut 1)]) ?_ λJ3 bg=>?_
   ·rintro⟨js,next⟩ ae;cases ae;exact yB (H:=zx ((xL zl (.inl 49) [48]).or ((xL zl (.inl 13) [12]).or X0))) au _ hl1 []
   obtain⟨t4,ht4,ae⟩:=zy c0.2;refine yLx (H:=zx ((xL zl (.inl 49) [48]).or ((xL zl (.inl 13) [12]).or X0))) 11100101210 [J2,J3] (λs=>uV x0 yy cq s.1 s.2.1 s.2.2) (λx=>Kx x0 YY cq x.1 x.2.1 x.2.2) (dw,([]:List zf),0) ht4 [(0,.own (.opq (YY dw).q)),(1,.d (.sptr (eSl 2 false z0R x0))),(3,.own (eOs 2 false JQ cq)),(4,.own (eOs 2 true JQ [])),(17,.als 3 [] 0 0),(18,.d (I ((cq.length:Nat):Int))),(19,.d (I 0))] inferInstance [Ha (lnM JQ cq)] λ⟨gg,cr,dy⟩ m4 dj ah hl2 J4 db=>?_;obtain c1|c1:=zH ah
   ·refine yKs (H:=zx ((xL zl (.inl 49) [48]).or ((xL zl (.inl 13) [12]).or X0))) 11100101210011 [J2,J3,J4] [0,1,3,4,17,18,19] (λz:σ×List zf=>Xp dy z.1 z.2=some dj) (λz=>KA x0 YY cq dy z.1 z.2) [c1,Hh (.cut 0)] ?_ λJ5 dc=>?_
    ·rintro⟨qd,ff⟩ ah;cases ah;exact yB (H:=zx ((xL zl (.inl 49) [48]).or ((xL zl (.inl 13) [12]).or X0))) db _ hl2 []
    obtain⟨a8,h0,yr,h1,ah⟩:=yf c1.2;let Z1:List HO:=[Hn (iL JQ h0),Hs (iM JQ h0),Hn (KU (yv:=yv) (Y:=YY) (enc:=(λ(x:zf) (_:Bool) (_:Value)=>[JQ x])) (s:=gg) (x:=a8) (s':=yr.1) (b:=yr.2) (v:=.nilFunc) [JQ a8] (show Qm [JQ a8] [JQ a8] from inferInstance))];obtain c2|c2:=zH ah
    ·cases c2.2;cases hl2;cases ae;cases hl1;cases aa;exact yF (H:=zx ((WI (P:=prog) wZ hy 25 (s:=gg) (x:=a8) (s':=yr.1) (b:=yr.2) .nilFunc h1).or ((xL zl (.inl 49) [48]).or ((xL zl (.inl 13) [12]).or X0)))) .ret [(0,.own (.opq (YY yr.1).q))] (Z1++[c2]) λst0 h0=>hE _ st0 (.inr rfl) h0
    obtain⟨lp,h2,t6,kb,ah⟩:=yf c2.2;refine yL (H:=zx ((WI (P:=prog) wZ hy 25 (s:=gg) (x:=a8) (s':=yr.1) (b:=yr.2) .nilFunc h1).or ((xL zl (.inl 49) [48]).or ((xL zl (.inl 13) [12]).or X0)))) 11100101210011201110 [J2,J3,J4,J5] (λs=>xX a8 yr lp s.1 s.2) (λx=>Kw x0 YY cq dy a8 yr lp x.1 x.2) (cr,0) kb  (Z1++[c2,Hi z0R h2,Ha (lnM rY lp.Next)]) λ⟨cb,fw⟩ m6 nb aw hl3 J6 ep=>?_;obtain c3|c3:=zH aw
    ·refine yKs (H:=zx ((xL zl (.inl 49) [48]).or ((xL zl (.inl 13) [12]).or X0))) 11100101210011201110011 [J2,J3,J4,J5,J6] [0,1,3,4,6,17,18,19,32,33,34] (zI (uX fw) nb) (λz=>Kz x0 YY cq dy a8 yr lp fw z) [c3,Hh (.cut 0)] ?_ λJ7 gw=>?_
     ·rintro iq aw;cases aw;exact yB (H:=zx ((xL zl (.inl 49) [48]).or ((xL zl (.inl 13) [12]).or X0))) ep _ hl3 []
     obtain⟨jj,h3,aw⟩:=zy c3.2;obtain c4|c4:=zH aw
     ·obtain⟨r_,h4,aw⟩:=zy c4.2;obtain⟨g0,aw⟩:=gdE aw;obtain⟨g1,aw⟩:=gdE aw;exact yB (H:=zx ((xL zl (.inl 49) [48]).or ((xL zl (.inl 13) [12]).or X0))) gw (cb++[(zf.mk jj (r_++[fw]))]) aw [Hi rY h3,c4,zC1 68 h4,Hq (dM rY [fw]),Hn (dM rY [fw]),Hn (aN rY rY g0 (by simp)),Hl (aM rY r_ [fw]),Hm (shM rY rY (r_++[fw])),Hq (dM JQ [(zf.mk jj (r_++[fw]))]),Hn (dM JQ [(zf.mk jj (r_++[fw]))]),Hn (aL JQ JQ g1),Hl (aM JQ cb [(zf.mk jj (r_++[fw]))])]
     exact yB (H:=zx ((xL zl (.inl 49) [48]).or ((xL zl (.inl 13) [12]).or X0))) gw cb c4.2 [Hi rY h3,c4]
    cases c3.2;cases hl3;exact yB (H:=zx ((xL zl (.inl 49) [48]).or ((xL zl (.inl 13) [12]).or X0))) dc (yr.1,cb) ah [c3]
   cases c1.2;cases hl2;exact yB (H:=zx ((xL zl (.inl 49) [48]).or ((xL zl (.inl 13) [12]).or X0))) bg (gg,cr) ae [c1]
  cases c0.2;cases hl1;cases aa;exact yF (H:=zx ((xL zl (.inl 49) [48]).or ((xL zl (.inl 13) [12]).or X0))) .normal [(0,.own (.opq (YY dw).q))] (Z0++[c0]) λst0 h0=>hE _ st0 (.inl rfl) h0
 let Z2:List HO:=[Ha (lnM z0R x0)];obtain c5|c5:=zH aa
 ·exact yBx (H:=zx ((xL zl (.inl 49) [48]).or ((xL zl (.inl 13) [12]).or X0))) ar ([(zf.mk 0 [])]:List zf) c5.2 [(0,.own (.opq (YY sg).q)),(1,.d (.sptr (eSl 2 false z0R x0))),(3,.own (eOs 2 true zlB ([(zf.mk 0 [])])))] inferInstance (Z2++[c5,Hm (shM rY rY [])])
 exact yBx (H:=zx ((xL zl (.inl 49) [48]).or ((xL zl (.inl 13) [12]).or X0))) ar ([]:List zf) c5.2 [(0,.own (.opq (YY sg).q)),(1,.d (.sptr (eSl 2 false z0R x0))),(3,.own (eOs 2 true zlB []))] inferInstance (Z2++[c5])
def zkw:List yg:=YZ 142 rY eB UN::zlm
def z2G [H:HS X0 zlm]:OkH zkw:=yS1 true func142 λk_ r0 aa E hE=>by cases aa;exact yE hE []
def vT:yg:=spF (α:=TB×Unit) (ρ:=Int) 156 (λx=>[F8_ x.1,(z8w 142) x.2]) (λr=>rY r) (λx=>wO x.1 x.2) [] (by rintro⟨a0,a1⟩ ⟨b0,b1⟩ h;have e0:=uT.inj (f:=F8_) _ _ (List.cons.inj h).1;replace h:=(List.cons.inj h).2;have e1:=uT.inj (f:=(z8w 142)) _ _ (List.cons.inj h).1;subst e0 e1;rfl)
def Yy [H:HS X0 zkw]:vT.Ok prog:=by
 refine WU ?_;rintro⟨s_,f_⟩ r0 aa;refine zY true func156 λE hE=>?_;refine yK 11 [] [] (λz:Unit=>vU=some r0) (λz=>[]) [0,1] [Hh (.cut 1)] ?_ λJ1 ar=>?_
 ·rintro⟨⟩ aa;cases aa;exact yE hE []
 refine yMb 11210 [J1] [0,1,7,8] (λx=>[(8,.d (I x))]) aa  [Ha (lnM rY s_)] λt2 aa x8 m2 av ae hl1 J2 au=>?_;obtain c0|c0:=zH ae
 ·obtain⟨eb,h0,r_,h1,ae⟩:=yf c0.2;let Z0:List HO:=[c0,Hi rY h0,zC1 0 h1];obtain c1|c1:=zH ae
  ·cases c1.2;cases hl1;cases aa;exact yE hE (Z0++[c1])
  cases c1.2;exact yB au _ hl1 (Z0++[c1])
 cases c0.2;cases hl1;exact yB ar () aa [c0]
def vb:yg:=spF (α:=TB×Unit) (ρ:=Bool) 126 (λx=>[F8_ x.1,(z8w 142) x.2]) (λr=>eB r) (λx=>xY x.1 x.2) [] (by rintro⟨a0,a1⟩ ⟨b0,b1⟩ h;have e0:=uT.inj (f:=F8_) _ _ (List.cons.inj h).1;replace h:=(List.cons.inj h).2;have e1:=uT.inj (f:=(z8w 142)) _ _ (List.cons.inj h).1;subst e0 e1;rfl)
def Zu [H:HS X0 zkw]:vb.Ok prog:=by refine WU ?_;rintro⟨s_,f_⟩ r0 aa;refine zY true func126 λE hE=>?_;obtain⟨r_,h0,aa⟩:=zy aa;cases aa;exact yE (H:=zx ((z0C zl (Yy (H:=zd 0)) 7).or X0)) hE [Hc (Ctr.add_has Jl vT) (x:=(s_,())) h0 (loC F8_ s_ <| loC (z8w 142) () <| loN)]
def zll:List yg:=YZ 108 z0R eB Qn::zkw
def z57 [H:HS X0 zkw]:OkH zll:=yS1 true func108 λn_ r0 aa E hE=>by obtain⟨r_,h0,aa⟩:=zy aa;cases aa;exact yE (H:=zx ((z0C zl (Zu (H:=zd 0)) 5).or X0)) hE [Hc (Ctr.add_has Jl vb) (x:=(n_.Next,())) h0 (loC F8_ n_.Next <| loC (z8w 142) () <| loN)]
def xI:yg:=spR (α:=TA) (ρ:=TA) 112 (λx=>[zlD x]) (λr=>kK r) (λx=>xC x) [] (zmE)
def W2:∀x r,(λx=>xC x) x=some r->(Jl.add xI).run 112 ((Jl.add xI).norm 112 ((λx=>[zlD x]) x))=some ((λr=>kK r) r):=λx r h=>zlu h rfl
def W5:(Jl.add xI).gives 112=[]:=zes
def Wt [H:HS X0 zll]:xI.Ok prog:=by refine z7H ?_;rintro s_ r0 aa;refine zY true func112 λE hE=>?_;obtain⟨g0,aa⟩:=gdE aa;cases aa;exact yE hE [Ha (lnM F4_ s_),Ha (lnM F4_ s_),Hn (slB g0),Hn (slC g0),Hn (zgE F4_ g0),Ha (zlP 1 F4_ s_ 0 ((s_.length:Nat):Int).toNat)]
def zmq:List yg:=Zs 106 zn3 (z8w 108) kK YV::zll
abbrev JO (out:TA):List (Nat×T):=[(4,.own (.box (eOs 1 false F4_ out)))]
abbrev kp (gv:List ze)(ai:List ze)(aj:TA):List (Nat×T):=[(2,.own (.box (eSl 2 false z0R gv))),(3,.own (.box (.fn 108 []))),(4,.own (.box (eOs 1 false F4_ aj))),(7,.d (.fn 162 [.sptr (eSl 2 false z0R ai)]))]
def z1f [H:HS X0 zll]:OkH zmq:=yS2 false func106 λgv is r0 aa E hE=>by
 refine yJ 11 [] [4] (λz:TA=>jQ z=some r0) (λz=>JO z) [(2,.own (.box (eSl 2 false z0R gv))),(3,.own (.box (.fn 108 []))),(4,.own (.box (eOs 1 true F8_ [])))] [Hh (.cut 1)] ?_ λJ1 ar=>?_
 ·rintro out aa;unfold jQ at aa;obtain⟨r_,h0,aa⟩:=zy aa;obtain rfl:=xR aa;exact yE (H:=zx ((z0C zl (Wt (H:=zd 0)) 24).or X0)) hE [Hh (.g []),Hn W5,Hm (shM F4_ F4_ out),Hx (.a (kK r_)) (W2 out _ h0),Hm (shM F4_ F4_ out)]
 obtain⟨ai,h1,t2,ht2,aa⟩:=yf aa;refine yAt (sub [1,2,1,0] (zbd f106)) (frs [1,2,1,0] [J1] (zbd f106) []) [(2,.own (.box (eSl 2 false z0R gv))),(3,.own (.box (.fn 108 []))),(4,.own (.box (eOs 1 true F4_ []))),(7,.d (.fn 162 [.sptr (eSl 2 false z0R ai)]))] [zC1 2 h1] λst0 h0=>?_;refine JL (g:=.tmp 7) (ps:=[8]) (assign:=(sub [1,2,1,0,0] (zbd f106))) (body:=(sub [1,2,1,0,1] (zbd f106))) (K:=162) (caps:=[.sptr (eSl 2 false z0R ai)]) (by kernel_rfl) [2,3,4,7] (λs=>kp gv ai s) (λz=>nomatch z) (λz=>nomatch z) ((λ(x:zf) (_:Bool) (_:Value)=>[JQ x])) (F:=@Yg ai) (λs x=>ur gv s x) ([]:TA) t2 _ h0 inferInstance (by kernel_rfl) (by decide) (λ_=>rfl) (by rintro⟨⟩) (by kernel_rfl) (λ_ _ _=>rfl) (z2E (H:=zd 2) ai) ht2 ?_ ?_
 ·rintro qg aj x8 vr av ae;replace ae:ur gv aj x8=some av:=ae;unfold ur at ae;refine yF .normal [(2,.own (.box (eSl 2 false z0R gv))),(3,.own (.box (.fn 108 []))),(4,.own (.box (eOs 1 false F4_ aj))),(5,.own (.box (JQ x8))),(7,.d (.fn 162 [.sptr (eSl 2 false z0R ai)]))] [] λst0 h0=>⟨rfl,z35 h0 ?_⟩;obtain⟨oj,h2,ak,h3,ae⟩:=yf ae;let Z0:List HO:=[Hi z0R h2,zC1 0 h3];obtain c0|c0:=zH ae
  ·obtain⟨am,h4,az,h5,ae⟩:=yf c0.2;obtain⟨g0,ae⟩:=gdE ae;obtain rfl:=xR ae;exact yF .normal (kp gv ai (aj++[az])) (Z0++[c0,zC1 71 h4,zg 70,Hm (shM rY rY am),Hs (zf1 70 h5 (loC F8_ am <| loN)),Hm (shM rY rY am),Hq (dM F4_ [az]),Hn (dM F4_ [az]),Hn (aL F4_ F4_ g0),Hl (aM F4_ aj [az])]) λst0 h0=>⟨rfl,_,h0,LeL.refl _⟩
  obtain rfl:=xR c0.2;exact yF .normal (kp gv ai aj) (Z0++[c0]) λst0 h0=>⟨rfl,_,h0,LeL.refl _⟩
 rcases t2 with aj|z
 ·dsimp only at aa;exact Yw (by kernel_rfl) (ar _ [(4,.own (.box (eOs 1 false F4_ aj)))] aj aa (show Own.canon [4] _=ofL _ by kernel_rfl) inferInstance)
 cases z
def zmp:List yg:=Zs 65 vp rY (eT2 kK rY) Wb::zmq
def z2H [H:HS X0 zmq]:OkH zmp:=yS2 false func65 λl_ inputs r0 aa E hE=>by
 obtain⟨r_,h0,aa⟩:=zy aa;let Z0:List HO:=[zC2 48 h0];obtain c0|c0:=zH aa
 ·cases c0.2;exact yE hE (Z0++[c0,Hm (shM F8_ F8_ [])])
 obtain⟨ai,h1,ak,h2,aa⟩:=yf c0.2;cases aa;exact yE hE (Z0++[c0,zC2 4 h1,zg 0,Hm (shM YN (yq F4_ eB) ai.nodes_),Hs (zf2 0 h2 (loC (eSl 2 false (yq F4_ eB)) ai.nodes_ <| loC (z8w 108) () <| loN)),Hm (shM YN (yq F4_ eB) ai.nodes_)])
def zmo:List yg:=z2A 32 vp vp rY eB wG::zmp
def z2U [H:HS X0 zmp]:OkH zmo:=yS3 true func32 λa_ b_ inputs r0 aa E hE=>by
 obtain⟨r_,h0,ai,h1,aa⟩:=yf aa;let Z0:List HO:=[zC3 6 h0,Hk [] (Kl (hat 0)) (zf2 0 h1 (loC kK r_.1 <| loC rY inputs <| loN))];obtain c0|c0:=zH aa
 ·obtain c1|c1:=zH c0.2
  ·obtain⟨ak,h2,aa⟩:=zy c1.2;cases aa;exact yE hE (Z0++[c0,c0,c0,c1,c1,c1,Hk [] (Kl (hat 10)) (zf2 10 h2 (loC kK ai.1 <| loC vp b_ <| loN)),c1])
  cases c1.2;exact yE hE (Z0++(Hb c0::Hb c0::Hb c0::(rpN 4 (Hb c1) [])))
 cases c0.2;exact yE hE (Z0++(Hb c0::Hb c0::Hb c0::(rpN 4 qF [])))
def zmn:List yg:=Zs 8 zom (eI .u8) eB Zk::zmo
def QP [H:HS X0 zmo]:OkH zmn:=yS2 true func8 λx_ ck r0 aa E hE=>by
 obtain⟨r_,h0,aa⟩:=zy aa;obtain⟨g0,aa⟩:=gdE aa;obtain⟨ai,h1,ak,h2,am,h3,az,h4,bn,h5,aa⟩:=zhR aa;obtain⟨cx,h6,aa⟩:=zy aa;let Z0:List HO:=[zC1 101 h0,Ha (lnM wv r_.Rows),Hn g0,zC3 16 h1,zC3 15 h2,zC3 14 h3,zC3 16 h4,zC3 15 h5,zC3 14 h6];obtain c0|c0:=zH aa
 ·cases c0.2;exact yE hE (Z0++(Hb c0::Hb c0::Hb c0::(rpN 13 qT [])))
 obtain c1|c1:=zH c0.2
 ·cases c1.2;exact yE hE (Z0++(Hb c0::Hb c0::Hb c0::Hb c1::Hb c1::Hb c1::(rpN 10 qT [])))
 let Z1:List HO:=(Z0++[c0,c0,c0,c1,c1,c1]);obtain c2|c2:=zH c1.2
 ·cases c2.2;exact yE hE (Z1++(Hb c2::Hb c2::Hb c2::(rpN 7 qT [])))
 obtain c3|c3:=zH c2.2
 ·cases c3.2;exact yE hE (Z1++(Hb c2::Hb c2::Hb c2::Hb c3::Hb c3::Hb c3::(rpN 4 qT [])))
 let Z2:List HO:=(Z1++[c2,c2,c2,c3,c3,c3]);obtain c4|c4:=zH c3.2
 ·cases c4.2;exact yE hE (Z2++[c4,c4,c4,qT])
 obtain c5|c5:=zH c4.2
 ·cases c5.2;exact yE hE (Z2++[c4,c4,c4,c5])
 obtain⟨gb,h7,aa⟩:=zy c5.2;let Z3:List HO:=(Z2++[c4,c4,c4,c5,Hk [] (Kl (hat 0)) (zf3 0 h7 (loC kK ak.1 <| loC kK ai.1 <| loC rY r_.Inputs <| loN))]);obtain c6|c6:=zH aa
 ·obtain⟨iy,h8,aa⟩:=zy c6.2;let Z4:List HO:=(Z3++(rpN 5 (Hb c6) [Hk [] (Kl (hat 0)) (zf3 0 h8 (loC kK am.1 <| loC kK ai.1 <| loC rY r_.Inputs <| loN)),c6]));obtain c7|c7:=zH aa
  ·obtain⟨gr,h9,aa⟩:=zy c7.2;let Z5:List HO:=(Z4++(rpN 5 (Hb c7) [Hk [] (Kl (hat 0)) (zf3 0 h9 (loC kK ai.1 <| loC kK az.1 <| loC rY r_.Inputs <| loN)),c7]));obtain c8|c8:=zH aa
   ·obtain⟨im,h10,aa⟩:=zy c8.2;let Z6:List HO:=(Z5++(rpN 5 (Hb c8) [Hk [] (Kl (hat 0)) (zf3 0 h10 (loC kK ak.1 <| loC kK bn.1 <| loC rY r_.Inputs <| loN)),c8]));obtain c9|c9:=zH aa
    ·obtain⟨j8,h11,aa⟩:=zy c9.2;let Z7:List HO:=(Z6++(rpN 5 (Hb c9) [Hk [] (Kl (hat 0)) (zf3 0 h11 (loC kK am.1 <| loC kK cx.1 <| loC rY r_.Inputs <| loN)),c9]));obtain c10|c10:=zH aa
     ·obtain⟨mv,h12,aa⟩:=zy c10.2;cases aa;exact yE hE (Z7++[c10,zC0 8 h12,c10])
     cases c10.2;exact yE hE (Z7++[c10,c10])
    cases c9.2;exact yE hE (Z6++(rpN 6 (Hb c9) [qF,qF]))
   cases c8.2;exact yE hE (Z5++(rpN 6 (Hb c8) (rpN 8 qF [])))
  cases c7.2;exact yE hE (Z4++(rpN 6 (Hb c7) (rpN 14 qF [])))
 cases c6.2;exact yE hE (Z3++(rpN 6 (Hb c6) (rpN 20 qF [])))
def spc {X:XH prog}{s:yg}{l:List yg}(w:∀[HS X l],OkH (s::l))(r:z0d prog l)(h:((l.map yg.k).contains s.k)=false:=by kernel_rfl):z0d prog (s::l):=⟨λc a b=>@w ⟨c,a,b⟩,zkz h,r⟩
def zi7:z0d prog zmn:=spc QP <|
 spc z2U <|
 spc z2H <|
 spc z1f <|
 spc z57 <|
 spc z2G <|
 spc z56 <|
 spc z8Q <|
 spc z3U <|
 spc z43 <|
 spc z1p <|
 spc z5g <|
 spc z5c <|
 spc z1i <|
 spc z2K <|
 spc z5b <|
 spc z6A <|
 spc z8S <|
 spc z2J <|
 spc JS <|
 spc z1h <|
 spc Jp <|
 spc z0M <|
 spc z2T <|
 spc z0J <|
 spc z3V <|
 spc YU <|
 spc Xm <|
 spc z1g <|
 spc z8R <|
 spc qK <|
 spc z0F <|
 spc z6C <|
 spc z44 <|
 spc z3Y <|
 spc z3W <|
 spc z5j <|
 spc z2W <|
 spc KJ <|
 spc JT <|
 spc Ve <|
 spc z2N <|
 spc z2M <|
 spc z0G <|
 spc z2Y <|
 spc z2X <|
 spc QQ <|
 spc KP <|
 spc z2I <|
 spc z6y <|
 spc z58 <|
 spc z3X <|
 spc z3T <|
 spc z59 <|
 spc z6z <|
 spc z1q <|
 spc z5a <|
 spc z2F <|
 spc z3R <|
 spc YA <|
 spc z0E <|
 spc z1d <|
 spc z5k <|
 spc WK <|
 spc KQ <|
 spc z1r <|
 spc Vf <|
 spc z3S <|
 spc z3P <|
 spc Yz <|
 spc XX <|
 spc z1e <|
 spc z2D <|
 spc z3Q <|
 spc UL <|
 spc Uj <|
 spc z0D <|
 spc z2L <|
 spc JW <|
 spc Jq <|
 spc QM <|
 spc KL <|
 spc Ui <|
 spc KK <|
 spc z2O <|
 spc z0I <|
 spc Jr <|
 spc QO <|
 spc Xn <|
 spc WJ <|
 spc Jt <|
 spc Ju <|
 spc QN <|
 spc Ws <|
 spc z0K <|
 spc KO <|
 spc z0L <|
 spc uU <|
 spc jE <|
 spc JY <|
 spc z1o <|
 spc z1n <|
 spc z5h <|
 spc z1j <|
 spc z6B <|
 spc z1l <|
 spc z2P <|
 spc z41 <|
 spc z5e <|
 spc z2S <|
 spc z40 <|
 spc z5d <|
 spc z42 <|
 spc z5f <|
 spc z1k <|
 spc z2Q <|
 spc KN <|
 spc z2R <|
 spc z3Z <|
 spc z5i <|
 spc z2V <|
 trivial
def zJ {x:Int}(h1:-9223372036854775808<=x)(h2:x<=9223372036854775807):w64 x=x:=by simp only[w64,IntKind.wrap,IntKind.bits,IntKind.signed];simp;omega
variable {k:Nat}
section
variable {α β σ τ ρ:Type}
def Ret (x:Option α)(Q:α->Prop):Prop:=∃a,x=some a/\Q a
def Ret.mono {x:Option α}{Q R:α->Prop}(h:Ret x Q)(q:∀a,Q a->R a):Ret x R:=by obtain⟨a,e,h⟩:=h;exact⟨a,e,q a h⟩
def Ret.eq {x:Option α}{a:α}(h:Ret x λb=>b=a):x=some a:=by obtain⟨b,e,rfl⟩:=h;exact e
def z7 {a:α}{Q:α->Prop}:Ret (some a) Q↔Q a:=⟨λ⟨b,e,q⟩=>by cases e;exact q,λq=>⟨a,rfl,q⟩⟩
def zp {x:Option α}{f:α->Option β}{Q:β->Prop}:Ret (Option.bind x f) Q↔Ret x λa=>Ret (f a) Q:=by
 cases x with
 | none=>exact⟨λ⟨b,e,_⟩=>(by cases e),λ⟨b,e,_⟩=>(by cases e)⟩
 | some a=>exact⟨λh=>⟨a,rfl,h⟩,λ⟨b,e,h⟩=>by cases e;exact h⟩
def YQ {p:Prop}[Decidable p]{x:Option α}{Q:α->Prop}:Ret (gd p x) Q↔p/\Ret x Q:=by
 unfold gd;by_cases h:p
 ·rw[if_pos h];exact⟨λq=>⟨h,q⟩,λq=>q.2⟩
 rw[if_neg h];exact⟨λ⟨b,e,_⟩=>by(cases e),λq=>(h q.1).elim⟩
def zD {c:Bool}{x y:Option α}{Q:α->Prop}:Ret (bif c then x else y) Q↔(c=true->Ret x Q)/\(c=false->Ret y Q):=by cases c <;> simp
def z6S {l:List α}{i:Int}{Q:α->Prop}:Ret (idx l i) Q↔0<=i/\∃x,l[i.toNat]?=some x/\Q x:=by
 cases i with
 | ofNat n=>show(∃a,l[n]?=some a/\Q a)↔_;simp
 | negSucc n=>exact⟨λ⟨b,e,_⟩=>by(cases e),λ⟨h,_⟩=>by omega⟩
def zS (l:List α)(i:Nat):idx l (i:Int)=l[i]?:=rfl
def gdT {p:Prop}[Decidable p]{x:Option α}(h:p):gd p x=x:=by unfold gd;rw[if_pos h]
def bdT {x:Option α}{u:α}{f:α->Option ρ}(h:x=some u):Option.bind x f=f u:=by rw[h];rfl
def qV (step:σ->Option (LR σ τ))(n:Nat)(s:σ):QX step (n+1) s=(match step s with|none=>none|some (.next s')=>QX step n s'|some (.done t)=>some t):=rfl
def LRP (N:σ->Prop)(D:τ->Prop):LR σ τ->Prop
 | .next s=>N s
 | .done t=>D t
def zM {step:σ->Option (LR σ τ)}(I:σ->Prop)(m:σ->Nat){R:τ->Prop}{s:σ}(hs:I s)(hm:m s<18446744073709551616)
  (h:∀s,I s->Ret (step s) (LRP (λs'=>I s'/\m s' < m s) R)):Ret (loop step s) R:=by
 have gen:∀(n:Nat) (s:σ),I s->m s<n->Ret (QX step n s) R:=by
  intro n;induction n with
  | zero=>intro s _ h;omega
  | succ n ih=>
   intro s hs hm;obtain⟨a,e,q⟩:=h s hs;rw[qV,e];cases a with
   | next s'=>exact ih s' q.1 (by have:=q.2;omega)
   | done t=>exact⟨t,rfl,q⟩
 exact gen VL s hs hm
def uk {step:σ->Option (LR σ τ)}(st:Nat->σ)(n:Nat){t:τ}(hn:n<9223372036854775808)(h:∀i,i<n->step (st i)=some (.next (st (i+1))))(hd:step (st n)=some (.done t)):loop step (st 0)=some t:=by
 have gen:∀(k:Nat) (i:Nat),i<=n->n - i<k->QX step k (st i)=some t:=by
  intro k;induction k with
  | zero=>intro i _ h;omega
  | succ k ih=>
   intro i hi hk;rw[qV];rcases pF i n with q|q
   ·rw[h i q];exact ih (i+1) q (by omega)
   have:i=n:=by omega
   subst this;rw[hd]
 exact gen VL 0 (pO _) (by show n - 0<18446744073709551616;omega)
def yj (f:Nat->α->Option ρ):List α->Nat->Option ρ
 | [],_=>none
 | x::l,i=>match f i x with|some r=>some r|none=>yj f l (i+1)
def VN {f:Nat->α->Option ρ}:∀{l:List α} {k:Nat},(∀i x,l[i]?=some x->f (k+i) x=none)->yj f l k=none
 | [],_,_=>rfl
 | x::l,k,h=>by have h0:=h 0 x rfl;simp only[mC]at h0;simp only[yj,h0];exact VN λi y hy=>by have:=h (i+1) y (by simpa using hy);rwa[show k+1+i=k+(i+1) by omega]
def uo {f:Nat->α->Option ρ}{r:ρ}:∀{l:List α} {k:Nat},yj f l k=some r->∃i x,l[i]?=some x/\f (k+i) x=some r
 | [],_,h=>by cases h
 | x::l,k,h=>by
  simp only[yj]at h;cases hf:f k x with
  | some r'=>rw[hf]at h;exact⟨0,x,rfl,by rw[mC,hf];exact h⟩
  | none=>rw[hf]at h;obtain⟨i,y,h1,h2⟩:=uo h;exact⟨i+1,y,by simpa using h1,by rw[<-h2];congr 1;omega⟩
def qY {f:Nat->α->Option ρ}{l:List α}  (h:yj f l k=none):∀i x,l[i]?=some x->f (k+i) x=none:=by
 induction l generalizing k with
 | nil=>intro i x h;simp at h
 | cons y l ih=>
  intro i x hx;simp only[yj]at h;cases hf:f k y with
  | some r'=>rw[hf]at h;cases h
  | none=>
   rw[hf]at h;cases i with
   | zero=>simp at hx;subst hx;simpa using hf
   | succ i=>have:=ih h i x (by simpa using hx);rwa[show k+(i+1)=k+1+i by omega]
def oS:Option ρ->Unit⊕ρ
 | some r=>.inr r
 | none=>.inl ()
def nS (i:Nat):Option ρ->LR Int (Unit⊕ρ)
 | some r=>.done (.inr r)
 | none=>.next (w64 ((i:Int)+1))
def wR (l:List α)(hl:l.length<4611686018427387904){step:Int->Option (LR Int (Unit⊕ρ))}(f:Nat->α->Option ρ)
  (h:∀(i:Nat) (x:α),l[i]?=some x->step (i:Int)=some (nS i (f i x))) (h2:step (l.length:Int)=some (.done (.inl ()))) :
  loop step 0=some (oS (yj f l 0)):=by
 have gen:∀(n:Nat) (k:Nat),k<=l.length->l.length - k<n->QX step n (k:Int)=some (oS (yj f (l.drop k) k)):=by
  intro n;induction n with
  | zero=>intro k _ h;omega
  | succ n ih=>
   intro k hk hn;rw[qV];rcases pF k l.length with hlt|hge
   ·have hx:l[k]?=some l[k]:=pe hlt;rw[h k _ hx,mI hlt];simp only[yj];cases hf:f k l[k] with
    | some r=>rfl
    | none=>simp only[nS];rw[zJ (by omega) (by omega)];exact ih (k+1) hlt (by omega)
   have:k=l.length:=by omega
   subst this;rw[h2,List.drop_length];rfl
 exact gen VL 0 (pO _) (by show l.length - 0<18446744073709551616;omega)
end
section
variable {S:Type}
def rv (k:Nat):TC->Nat
 | []=>0
 | i::u=>rv k u*k+i+1
def zc6 (k:Nat)(bad:S->Nat->Bool)(nx:S->Nat->Option S)(p0:S):TC->S->Prop
 | [],q=>q=p0
 | i::u,q=>∃p,zc6 k bad nx p0 u p/\i<k/\bad p i=false/\nx p i=some q
def z0Q (k:Nat)(bad:S->Nat->Bool)(nx:S->Nat->Option S):S->TC->Prop
 | _,[]=>False
 | p,[i]=>i<k/\bad p i=true
 | p,i::w=>i<k/\bad p i=false/\∃q,nx p i=some q/\z0Q k bad nx q w
structure Bfs (k:Nat)(bad:S->Nat->Bool)(nx:S->Nat->Option S)(p0:S)(L:List (S×TC))(at_ i:Nat):Prop where
 first:L[0]?=some (p0,[])
 mono:∀(j j':Nat) (a b:S×TC),j<j'->L[j]?=some a->L[j']?=some b->rv k a.2<rv k b.2
 path:∀a∈L,zc6 k bad nx p0 a.2 a.1
 ahead:∀a c,L[at_]?=some c->a∈L->rv k a.2<rv k c.2*k+i+1
 pos:i<=k
 lies:at_<=L.length
 fin:at_=L.length->i=0
 short:∀(j:Nat) (a:S×TC),L[j]?=some a->a.2.length<=j
 seen:∀(j x:Nat) (a:S×TC),L[j]?=some a->x<k->(j<at_\/j=at_/\x<i)->bad a.1 x=false/\∀q,nx a.1 x=some q->∃b∈L,b.1=q/\rv k b.2<=rv k a.2*k+x+1
variable {k:Nat}{bad:S->Nat->Bool}{nx:S->Nat->Option S}{p0:S}
def Bfs.start:Bfs k bad nx p0 [(p0,[])] 0 0:={
 first:=rfl
 mono:=by intro j j' a b h h1 h2;have:=(pf.1 h2).1;simp at this;omega
 path:=by intro a ha;simp at ha;subst ha;rfl
 ahead:=by intro a c _ ha;simp at ha;subst ha;simp[rv]
 pos:=pO _
 lies:=by simp
 fin:=by intro;rfl
 short:=by intro j a h;have:=(pf.1 h).1;simp at this;subst this;simp at h;subst h;simp
 seen:=by rintro j x a h _ (q|⟨_,q⟩) <;> omega }
def Bfs.old {L:List (S×TC)}{a i:Nat}(h:Bfs k bad nx p0 L a i){c:S×TC}(hc:L[a]?=some c)(hi:i<k)(hb:bad c.1 i=false)
  (hn:∀q,nx c.1 i=some q->∃b∈L,b.1=q):Bfs k bad nx p0 L a (i+1):={
 first:=h.first
 mono:=h.mono
 path:=h.path
 ahead:=λx y hy hx=>by have:=h.ahead x y hy hx;omega
 pos:=hi
 lies:=h.lies
 fin:=λe=>by have:=(pf.1 hc).1;omega
 short:=h.short
 seen:=by
  intro j x y hy hx q;by_cases e:j=a/\x=i
  ·obtain⟨rfl,rfl⟩:=e;rw[hc]at hy;cases hy;refine⟨hb,λq hq=>?_⟩;obtain⟨b,h1,h2⟩:=hn q hq;exact⟨b,h1,h2,by have:=h.ahead b c hc h1;omega⟩
  exact h.seen j x y hy hx (by omega) }
def Bfs.new {L:List (S×TC)}{a i:Nat}(h:Bfs k bad nx p0 L a i){c:S×TC}(hc:L[a]?=some c)(hi:i<k)(hb:bad c.1 i=false){q:S}
  (hn:nx c.1 i=some q):Bfs k bad nx p0 (L++[(q,i::c.2)]) a (i+1):=by
 have hlt:=(pf.1 hc).1;refine⟨?_,?_,?_,?_,hi,by simp;omega,λe=>by simp at e;omega,?_,?_⟩
 ·rw[pB (by omega)];exact h.first
 ·intro j j' x y hj h1 h2;have hl:=(pf.1 h2).1;simp at hl;rw[pB (by omega)]at h1;rcases pF j' L.length with g|g
  ·rw[pB g]at h2;exact h.mono j j' x y hj h1 h2
  have:j'=L.length:=by omega
  subst this;simp at h2;subst h2;exact h.ahead x c hc (pD h1)
 ·intro x hx;rcases pg.1 hx with g|g
  ·exact h.path x g
  simp at g;subst g;exact⟨c.1,h.path c (pD hc),hi,hb,hn⟩
 ·intro x y hy hx;rw[pB hlt]at hy;rcases pg.1 hx with g|g
  ·have:=h.ahead x y hy g;omega
  simp at g;subst g;rw[hc]at hy;cases hy;simp[rv]
 ·intro j y hy;rcases pF j L.length with g|g
  ·rw[pB g]at hy;exact h.short j y hy
  have hl:=(pf.1 hy).1;simp at hl;have:j=L.length:=by omega
  subst this;simp at hy;subst hy;have:=h.short a c hc;simp;omega
 intro j x y hy hx g;rw[pB (by omega)]at hy;by_cases e:j=a/\x=i
 ·obtain⟨rfl,rfl⟩:=e;rw[hc]at hy;cases hy;refine⟨hb,λq' hq=>?_⟩;rw[hn]at hq;cases hq;exact⟨(q,x::c.2),by simp,rfl,pi _⟩
 obtain⟨h1,h2⟩:=h.seen j x y hy hx (by omega);refine⟨h1,λq' hq=>?_⟩;obtain⟨b,g1,g2⟩:=h2 q' hq;exact⟨b,nZ _ g1,g2⟩
def Bfs.step {L:List (S×TC)}{a:Nat}(h:Bfs k bad nx p0 L a k)(ha:a<L.length):Bfs k bad nx p0 L (a+1) 0:={
 first:=h.first
 mono:=h.mono
 path:=h.path
 ahead:=by intro x c hc hx;have h1:=h.ahead x _ (pe ha) hx;have h2:=h.mono a (a+1) _ _ (by omega) (pe ha) hc;have h3:(rv k L[a].2+1)*k<=rv k c.2*k:=gH _ h2;rw[rD]at h3;omega
 pos:=pO _
 lies:=ha
 fin:=λ_=>rfl
 short:=h.short
 seen:=λj x b hb hx g=>h.seen j x b hb hx (by rcases g with g|⟨_,g⟩ <;> omega) }
def Bfs.reach {L:List (S×TC)}{a i:Nat}(h:Bfs k bad nx p0 L a i):∀(u:TC) (q:S),zc6 k bad nx p0 u q->(∀c,L[a]?=some c->rv k u<rv k c.2*k+i+1)->∃(j:Nat) (b:S×TC),L[j]?=some b/\b.1=q/\rv k b.2<=rv k u
 | [],q,hp,_=>⟨0,_,h.first,hp.symm,pO _⟩
 | x::u,q,⟨p,hp,hx,hb,hn⟩,hlt=>by
  have hk:rv k u<=rv k u*k:=Nat.le_mul_of_pos_right _ (by omega);obtain⟨j,b,hj,rfl,hr⟩:=h.reach u p hp λc hc=>by have:=hlt c hc;simp only[rv]at this;omega
  have hmul:rv k b.2*k<=rv k u*k:=gH _ hr;have hjl:=(pf.1 hj).1;have hpos:j<a\/j=a/\x<i:=by
   rcases mT j a with g|g|g
   ·exact .inl g
   ·subst g;refine .inr ⟨rfl,?_⟩;have:=hlt b hj;simp only[rv]at this;omega
   exfalso;have hal:a<L.length:=by omega
   have h1:=hlt _ (pe hal);have h2:=h.mono a j _ _ g (pe hal) hj;have h3:(rv k L[a].2+1)*k<=rv k b.2*k:=gH _ h2;rw[rD]at h3;have:=h.pos;simp only[rv]at h1;omega
  obtain⟨_,h2⟩:=h.seen j x b hj hx hpos;obtain⟨c,g1,g2,g3⟩:=h2 q hn;obtain⟨j',g4⟩:=rj g1;exact⟨j',c,g4,g2,by simp only[rv];omega⟩
def zfd:TC->TC->Prop
 | [],_=>True
 | i::u,j::v=>i<j\/i=j/\zfd u v
 | _::_,[]=>False
def z9C:∀{w:TC} {p:S},z0Q k bad nx p w->∀x∈w,x<k
 | [],_,h=>h.elim
 | [i],_,h=>by simpa using h.1
 | i::j::w,_,⟨hi,_,q,_,h⟩=>by
  intro x hx;rcases pm.1 hx with rfl|hx
  ·exact hi
  exact z9C h x hx
def Mk (k:Nat)(bad:S->Nat->Bool)(nx:S->Nat->Option S):Nat->S->Prop
 | 0,_=>False
 | n+1,p=>Mk k bad nx n p\/∃i,i<k/\(bad p i=true\/∃q,nx p i=some q/\Mk k bad nx n q)
def Mk.mono {n m:Nat}{p:S}(h:Mk k bad nx n p)(hm:n<=m):Mk k bad nx m p:=by
 induction hm with
 | refl=>exact h
 | step _ ih=>exact .inl ih
def Mk.tell:∀{n:Nat} {p:S},Mk k bad nx n p->∃w,z0Q k bad nx p w/\w.length<=n
 | 0,_,h=>h.elim
 | n+1,p,.inl h=>by obtain⟨w,h1,h2⟩:=Mk.tell h;exact⟨w,h1,by omega⟩
 | n+1,p,.inr ⟨i,hi,h⟩=>by
  by_cases hb:bad p i=true
  ·exact⟨[i],⟨hi,hb⟩,by simp⟩
  rcases h with h|⟨q,hq,h⟩
  ·exact(hb h).elim
  obtain⟨w,h1,h2⟩:=Mk.tell h;refine⟨i::w,?_,by simp;omega⟩;cases w with
  | nil=>exact h1.elim
  | cons j w=>exact⟨hi,by simpa using hb,q,hq,h1⟩
def UR:∀{w:TC} {p:S},z0Q k bad nx p w->Mk k bad nx w.length p
 | [],_,h=>h.elim
 | [i],p,h=>.inr ⟨i,h.1,.inl h.2⟩
 | i::j::w,p,⟨hi,hb,q,hn,h⟩=>.inr ⟨i,hi,.inr ⟨q,hn,UR h⟩⟩
end
variable {α:Type}
def z2n {p q:α->Bool}:∀{l:List α},(∀x∈l,p x=true->q x=true)->(∃x∈l,q x=true/\p x=false)->l.countP p<l.countP q
 | [],_,⟨x,hx,_⟩=>by cases hx
 | y::l,h,⟨x,hx,h1,h2⟩=>by
  have hm:l.countP p<=l.countP q:=List.countP_mono_left λz hz=>h z (mX _ hz);simp only[rI];rcases pm.1 hx with rfl|hx
  ·simp only[h1,h2,if_true,hZ,if_false];omega
  have:=z2n (λz hz=>h z (mX _ hz)) ⟨x,hx,h1,h2⟩;cases hp:p y with
  | true=>simp only[h y (by simp) hp,if_true];omega
  | false=>simp only[hZ,if_false];split <;> omega
open Classical in
def zfv (N:Nat)(R:Nat->Nat->Prop):Nat:=(List.range N).countP λs=>decide (∀t,t<s->¬R s t)
def zox {N:Nat}(hN:0<N)(R:Nat->Nat->Nat->Prop)(symm:∀k s t,s<N->t<N->R k s t->R k t s)(trans:∀k s t u,s<N->t<N->u<N->R k s t->R k t u->R k s u)
  (refl:∀k s,s<N->R k s s) (mono:∀k s t,s<N->t<N->R (k+1) s t->R k s t) (stat:∀k,(∀s t,s<N->t<N->R k s t->R (k+1) s t)->∀s t,s<N->t<N->R (k+1) s t->R (k+2) s t) :
  ∀s t,s<N->t<N->R (N - 1) s t->∀j,R j s t:=by
 classical
 have step:∀k,(¬∀s t,s<N->t<N->R k s t->R (k+1) s t)->zfv N (R k)<zfv N (R (k+1)):=by
  intro k hk;simp only[Classical.not_forall]at hk;obtain⟨s,t,hs,ht,h1,h2⟩:=hk;unfold zfv;refine z2n (λx hx=>?_) ?_
  ·have hx:=gO.1 hx;simp only[decide_eq_true_eq];exact λh t ht q=>h t ht (mono k x t hx (by omega) q)
  ·
   have hmin:∃z,z<N/\R k z s/\∀y,y<z->¬R k y s:=by
    have key:∀n,∀z,z<=n->z<N->R k z s->∃z,z<N/\R k z s/\∀y,y<z->¬R k y s:=by
     intro n;induction n with
     | zero=>intro z hz hzN hr;exact⟨z,hzN,hr,λy hy=>by omega⟩
     | succ n ih=>
      intro z hz hzN hr;by_cases q:∃y,y<z/\R k y s
      ·obtain⟨y,y1,y2⟩:=q;exact ih y (by omega) (by omega) y2
      exact⟨z,hzN,hr,λy hy g=>q ⟨y,hy,g⟩⟩
    exact key s s (pi _) hs (refl k s hs)
   obtain⟨z,hz,hzs,hzm⟩:=hmin;have hzt:R k z t:=trans k z s t hz hs ht hzs h1;obtain⟨u,hu,hzu,hne⟩:∃u,u<N/\R k z u/\¬R (k+1) z u:=by
    by_cases q:R (k+1) z s
    ·by_cases g:R (k+1) z t
     ·exact(h2 (trans (k+1) s z t hs hz ht (symm _ _ _ hz hs q) g)).elim
     exact⟨t,ht,hzt,g⟩
    exact⟨s,hs,hzs,q⟩
   have hmin:∃y,y<N/\R (k+1) y u/\∀x,x<y->¬R (k+1) x u:=by
    have key:∀n,∀z,z<=n->z<N->R (k+1) z u->∃z,z<N/\R (k+1) z u/\∀y,y<z->¬R (k+1) y u:=by
     intro n;induction n with
     | zero=>intro z hz hzN hr;exact⟨z,hzN,hr,λy hy=>by omega⟩
     | succ n ih=>
      intro z hz hzN hr;by_cases q:∃y,y<z/\R (k+1) y u
      ·obtain⟨y,y1,y2⟩:=q;exact ih y (by omega) (by omega) y2
      exact⟨z,hzN,hr,λy hy g=>q ⟨y,hy,g⟩⟩
    exact key u u (pi _) hu (refl _ u hu)
   obtain⟨y,hy,hyu,hym⟩:=hmin;have hyk:R k y u:=mono k y u hy hu hyu;have hyz:R k y z:=trans k y u z hy hu hz hyk (symm _ _ _ hz hu hzu);have hzy:z<y:=by
    rcases mT z y with g|g|g
    ·exact g
    ·subst g;exact(hne hyu).elim
    exact(hzm y g (trans k y z s hy hz hs hyz hzs)).elim
   refine⟨y,gO.2 hy,?_,?_⟩
   ·simp only[decide_eq_true_eq];intro x hx q;exact hym x hx (trans (k+1) x y u (by omega) hy hu (symm _ _ _ hy (by omega) q) hyu)
   simp only[decide_eq_false_iff_not];intro q;exact q z hzy hyz
 have le:∀k,zfv N (R k)<=N:=by intro k;unfold zfv;refine pC (rF) ?_;simp
 have one:∀k,1<=zfv N (R k):=by intro k;unfold zfv;refine List.countP_pos_iff.2 ⟨0,gO.2 hN,?_⟩;simp
 have rest:∃k,k<N/\∀s t,s<N->t<N->R k s t->R (k+1) s t:=by
  refine gM λhno=>?_;have:∀k,k<=N->k+1<=zfv N (R k):=by
   intro k;induction k with
   | zero=>intro _;exact one 0
   | succ k ih=>intro hk;have:=step k λh=>hno ⟨k,by omega,h⟩;have:=ih (by omega);omega
  have:=this N (pi _);have:=le N;omega
 obtain⟨k,hk,hst⟩:=rest;have up:∀d,∀s t,s<N->t<N->R (k+d) s t->R (k+d+1) s t:=by
  intro d;induction d with
  | zero=>exact hst
  | succ d ih=>exact stat (k+d) ih
 have down:∀d j s t,s<N->t<N->R (j+d) s t->R j s t:=by
  intro d;induction d with
  | zero=>intro j s t _ _ h;exact h
  | succ d ih=>intro j s t hs ht h;exact ih j s t hs ht (mono _ s t hs ht h)
 intro s t hs ht h j;have hk':R k s t:=down (N - 1 - k) k s t hs ht (by rw[show k+(N - 1 - k)=N - 1 by omega];exact h);have far:∀d,R (k+d) s t:=by
  intro d;induction d with
  | zero=>exact hk'
  | succ d ih=>exact up d s t hs ht ih
 exact down k j s t hs ht (by rw[rV];exact far j)
section
variable {S S':Type}{k:Nat}{bad:S->Nat->Bool}{nx:S->Nat->Option S}{bad':S'->Nat->Bool}{nx':S'->Nat->Option S'}(φ:S->S')(I:S->Prop)
 (hI:∀p i q,I p->i<k->nx p i=some q->I q) (hb:∀p i,I p->i<k->bad' (φ p) i=bad p i) (hn:∀p i,I p->i<k->nx' (φ p) i=(nx p i).map φ)
include hI hb hn
end
def z7e (m:z6)(x:z8):Bool:=(x.To == -1&&x.Out == -1) ||(decide (0<=x.To)&&decide (x.To<(m.Rows.length:Int))&&decide (0<=x.Out)&&decide (x.Out<m.Outputs))
def z94 (m:z6)(r:List z8):Bool:=decide ((r.length:Int)=m.Inputs)&&r.all (z7e m)
def chk (m:z6):Int :=
 if m.Inputs > 16\/m.Outputs > 16\/(m.Rows.length:Int) > 64 then 3 else if m.Inputs<1\/m.Outputs<1\/m.Rows.length=0 then 1 else if m.Rows.all (z94 m)=true then 0 else 1
def zhA (m:z6)(x:z8):X7 m x=some (z7e m x):=by
 unfold X7 ui;simp only[oB,rP];rcases Bool.eq_false_or_eq_true (x.To==(-1)&&x.Out==(-1)) with h|h
 ·simp[z7e,h]
 rw[h];simp only[z7e,h,nL,cond_false];by_cases h1:(0:Int)<=x.To
 ·by_cases h2:x.To<(m.Rows.length:Int)
  ·by_cases h3:(0:Int)<=x.Out
   ·simp[nB,h1,h2,h3]
   simp[nB,h1,h2,h3]
  simp[nB,h1,h2]
 simp[h1]
def z7j (m:z6)(r:List z8)(hl:r.length<4611686018427387904):yd r m=some (!r.all (z7e m)):=by
 have hloop:loop (λs=>yc r m s) 0=some (oS (yj (λi x=>if z7e m x=true then none else some (i:Int)) r 0)):=by
  refine wR r hl _ ?_ ?_
  ·intro i x hx;have hi:=(pf.1 hx).1;unfold yc;have hd:decide ((i:Int)<((r.length:Nat):Int))=true:=by simpa using hi
   rw[hd,cond_true,zS,bdT hx];unfold YM;simp only[zhA,oB];cases z7e m x <;> rfl
  unfold yc;simp
 unfold yd xq;rw[hloop];simp only[oB];cases hf:yj (λi x=>if z7e m x=true then none else some (i:Int)) r 0 with
 | some q=>
  obtain⟨i,x,h1,h2⟩:=uo hf;have hx:z7e m x≠true:=by intro h;rw[if_pos h]at h2;cases h2
  rw[if_neg hx]at h2;simp only[Option.some.injEq]at h2;have:r.all (z7e m)=false:=by rw[List.all_eq_false];exact⟨x,pD h1,hx⟩
  rw[this];have:(q:Int)>=0:=by rw[<-h2];omega
  show some (decide (q>=0))=_;simp[this]
 | none=>
  have:r.all (z7e m)=true:=by
   rw[gD];intro x hx;obtain⟨i,hi⟩:=rj hx;have:=qY hf i x hi;by_cases h:z7e m x=true
   ·exact h
   rw[if_neg h]at this;cases this
  rw[this];rfl
variable {m:z6}
def z9n (h0:(m.Rows.length:Int)<=64)(h1:m.Inputs<=16):loop (λs=>qU m s) 0=some (oS (yj (λ_ r=>if z94 m r=true then none else some (1:Int)) m.Rows 0)):=by
 refine wR m.Rows (by omega) _ ?_ ?_
 ·intro i r hr;have hi:=(pf.1 hr).1;unfold qU;have hd:decide ((i:Int)<((m.Rows.length:Nat):Int))=true:=by simpa using hi
  rw[hd,cond_true,zS,bdT hr];by_cases hlen:(r.length:Int)=m.Inputs
  ·have hne:(((r.length:Nat):Int) != m.Inputs)=false:=by simpa using hlen
   rw[hne,cond_false,bdT (z7j m r (by omega))];have:z94 m r=r.all (z7e m):=by simp[z94,hlen]
   rw[this];cases r.all (z7e m) <;> rfl
  have hne:(((r.length:Nat):Int) != m.Inputs)=true:=by simpa using hlen
  rw[hne,cond_true];have:z94 m r=false:=by simp[z94,hlen]
  rw[this];rfl
 unfold qU;simp
def z93 (m:z6):yj (λ_ r=>if z94 m r=true then none else some (1:Int)) m.Rows 0=if m.Rows.all (z94 m)=true then none else some 1:=by
 by_cases h:m.Rows.all (z94 m)=true
 ·rw[if_pos h];refine VN λi r hr=>?_;rw[if_pos (gD.1 h r (pD hr))]
 rw[if_neg h];cases hf:yj (λ_ r=>if z94 m r=true then none else some (1:Int)) m.Rows 0 with
 | some q=>
  obtain⟨i,x,h1,h2⟩:=uo hf;split at h2
  ·cases h2
  exact h2.symm ▸ rfl
 | none=>
  exfalso;apply h;rw[gD];intro x hx;obtain⟨i,hi⟩:=rj hx;have:=qY hf i x hi;by_cases h:z94 m x=true
  ·exact h
  rw[if_neg h]at this;cases this
def VT (m:z6):xw m=some (chk m):=by
 unfold xw chk;by_cases h1:m.Inputs > 16
 ·simp[h1]
 by_cases h2:m.Outputs > 16
 ·simp[nB,h1,h2]
 by_cases h3:(m.Rows.length:Int) > 64
 ·simp[nB,h1,h2,h3]
 rw[if_neg (by simp[nB,h1,h2,h3])];by_cases h4:m.Inputs<1
 ·simp[nB,h1,h2,h3,h4]
 by_cases h5:m.Outputs<1
 ·simp[nB,h1,h2,h3,h4,h5]
 by_cases h6:m.Rows.length=0
 ·simp[nB,h1,h2,h4,h5,h6]
 rw[if_neg (by simp[h4,h5,h6])];have h6':decide (((m.Rows.length:Nat):Int)<1)=false:=by simp;omega
 have e1:decide (m.Inputs > 16)=false:=by simpa using h1
 have e2:decide (m.Outputs > 16)=false:=by simpa using h2
 have e3:decide (((m.Rows.length:Nat):Int) > 64)=false:=by simpa using h3
 have e4:decide (m.Inputs<1)=false:=by simpa using h4
 have e5:decide (m.Outputs<1)=false:=by simpa using h5
 simp only[e1,e2,e3,e4,e5,h6',cond_false];rw[bdT (z9n (by omega) (by omega)),z93];by_cases h:m.Rows.all (z94 m)=true
 ·rw[if_pos h,if_pos h];rfl
 rw[if_neg h,if_neg h];rfl
structure VM (m:z6):Prop where
 in1:1<=m.Inputs
 in16:m.Inputs<=16
 out1:1<=m.Outputs
 out16:m.Outputs<=16
 len1:1<=m.Rows.length
 len64:m.Rows.length<=64
 row:∀r∈m.Rows,(r.length:Int)=m.Inputs
 edge:∀r∈m.Rows,∀x∈r,(x.To=-1/\x.Out=-1)\/(0<=x.To/\x.To<(m.Rows.length:Int)/\0<=x.Out/\x.Out<m.Outputs)
def z2q (h:VM m):chk m=0:=by
 unfold chk;have:=h.in1;have:=h.in16;have:=h.out1;have:=h.out16;have:=h.len1;have:=h.len64;rw[if_neg (by omega),if_neg (by omega),if_pos];rw[gD];intro r hr;simp only[z94,pE,decide_eq_true_eq,gD];refine⟨h.row r hr,λx hx=>?_⟩;simp only[z7e,ma,pE,beq_iff_eq,decide_eq_true_eq];rcases h.edge r hr x hx with⟨a,b⟩|⟨a,b,c,d⟩
 ·exact .inl ⟨a,b⟩
 exact .inr ⟨⟨⟨a,b⟩,c⟩,d⟩
def kk (m:z6):Nat:=m.Inputs.toNat
def E (m:z6)(s i:Nat):z8:=((m.Rows[s]?.getD [])[i]?).getD ⟨-1,-1⟩
variable {s i:Nat}{β:Type}
section
variable {m:z6}(h:VM m)
include h
theorem VM.kk_eq:((kk m:Nat):Int)=m.Inputs:=by have:=h.in1;unfold kk;omega
theorem VM.kk_pos:1<=kk m:=by have:=h.in1;unfold kk;omega
theorem VM.kk_le:kk m<=16:=by have:=h.in16;unfold kk;omega
theorem VM.rowAt {s:Nat}(hs:s<m.Rows.length):∃r,m.Rows[s]?=some r/\r.length=kk m/\∀i,i<kk m->r[i]?=some (E m s i):=by
 have hr:=pe hs;have hl:=h.row _ (pL hs);have hl':m.Rows[s].length=kk m:=by unfold kk;omega
 refine⟨_,hr,hl',λi hi=>?_⟩;have hi':i<m.Rows[s].length:=by omega
 unfold E;rw[hr];simp only[pV];rw[pe hi'];rfl
theorem VM.edgeAt (hs:s<m.Rows.length)(hi:i<kk m):((E m s i).To=-1/\(E m s i).Out=-1)\/(0<=(E m s i).To/\(E m s i).To<(m.Rows.length:Int)/\0<=(E m s i).Out/\(E m s i).Out<m.Outputs):=by obtain⟨r,h1,_,h2⟩:=h.rowAt hs;exact h.edge r (pD h1) _ (pD (h2 i hi))
theorem VM.edge_eq (hs:s<m.Rows.length)(hi:i<kk m)  {f:z8->Option β} :
  (Option.bind (idx m.Rows (s:Int)) λr=>Option.bind (idx r (i:Int)) f)=f (E m s i):=by
 obtain⟨r,h1,_,h2⟩:=h.rowAt hs;rw[zS,h1,oB,zS,h2 i hi,oB]
end
section
variable {K V:Type}[BEq K][LawfulBEq K]
def z0Y (l:List (K×V))(x y:K)(v:V):Vb (z1Y l x v) y=if(x==y)=true then some v else Vb l y:=by
 induction l with
 | nil=>simp only[z1Y,Vb]
 | cons p l ih=>
  simp only[z1Y];by_cases h:p.1=x
  ·rw[if_pos (by simpa using h)];simp only[Vb];by_cases q:x=y
   ·rw[if_pos (by simpa using q),if_pos (by simpa using q)]
   rw[if_neg (by simpa using q),if_neg (by simpa using q),if_neg (by rw[h];simpa using q)]
  rw[if_neg (by simpa using h)];simp only[Vb,ih];by_cases q:p.1=y
  ·have q':¬x=y:=by rintro rfl;exact h q
   have e1:(p.1==y)=true:=by simpa using q
   have e2:(x==y)=false:=by simpa using q'
   simp[e1,e2]
  have e1:(p.1==y)=false:=by simpa using q
  simp[e1]
end
def XN:∀(n:Nat) (l:TC),l.Nodup->(∀x∈l,x<n)->l.length<=n
 | 0,l,_,h=>by
  cases l with
  | nil=>simp
  | cons x l=>have:=h x (by simp);omega
 | n+1,l,hd,h=>by
  by_cases hm:n∈l
  ·have h1:=List.length_erase_of_mem hm;have h2:=XN n (l.erase n) (hd.erase n) λx hx=>by have h3:=(hd.mem_erase_iff).1 hx;have:=h x h3.2;have:=h3.1;omega
   have:0<l.length:=List.length_pos_of_mem hm;omega
  have:=XN n l hd λx hx=>by have:=h x hx;have:x≠n:=λe=>hm (e ▸ hx);omega
  omega
def Ye (a b:z6)(p:Nat×Nat)(i:Nat):Bool:=(E a p.1 i).Out !=(E b p.2 i).Out
def nxP (a b:z6)(p:Nat×Nat)(i:Nat):Option (Nat×Nat):=if 0<=(E a p.1 i).To/\0<=(E b p.2 i).To then some ((E a p.1 i).To.toNat,(E b p.2 i).To.toNat) else none
abbrev LL:=List ((Nat×Nat)×TC)
def zp7 (a b:z6)(L:LL):Prop:=(L.map (·.1)).Nodup/\∀x∈L,x.1.1<a.Rows.length/\x.1.2<b.Rows.length
structure WM (m:z6):Prop where
 in1:1<=m.Inputs
 in16:m.Inputs<=16
 len1:1<=m.Rows.length
 len:m.Rows.length<=128
 row:∀r∈m.Rows,(r.length:Int)=m.Inputs
 edge:∀r∈m.Rows,∀x∈r,(x.To=-1/\x.Out=-1)\/(0<=x.To/\x.To<(m.Rows.length:Int)/\0<=x.Out)
def VM.wm (h:VM m):WM m:=⟨h.in1,h.in16,h.len1,by have:=h.len64;omega,h.row,λr hr x hx=>by
 rcases h.edge r hr x hx with g|⟨g1,g2,g3,_⟩
 ·exact .inl g
 exact .inr ⟨g1,g2,g3⟩⟩
section
variable {m:z6}(h:WM m)
include h
theorem WM.kk_eq:((kk m:Nat):Int)=m.Inputs:=by have:=h.in1;unfold kk;omega
theorem WM.kk_le:kk m<=16:=by have:=h.in16;unfold kk;omega
theorem WM.rowAt {s:Nat}(hs:s<m.Rows.length):∃r,m.Rows[s]?=some r/\r.length=kk m/\∀i,i<kk m->r[i]?=some (E m s i):=by
 have hr:=pe hs;have hl:=h.row _ (pL hs);have hl':m.Rows[s].length=kk m:=by unfold kk;omega
 refine⟨_,hr,hl',λi hi=>?_⟩;have hi':i<m.Rows[s].length:=by omega
 unfold E;rw[hr];simp only[pV];rw[pe hi'];rfl
theorem WM.edgeAt (hs:s<m.Rows.length)(hi:i<kk m):((E m s i).To=-1/\(E m s i).Out=-1)\/(0<=(E m s i).To/\(E m s i).To<(m.Rows.length:Int)/\0<=(E m s i).Out):=by obtain⟨r,h1,_,h2⟩:=h.rowAt hs;exact h.edge r (pD h1) _ (pD (h2 i hi))
theorem WM.edge_eq (hs:s<m.Rows.length)(hi:i<kk m)  {f:z8->Option β} :
  (Option.bind (idx m.Rows (s:Int)) λr=>Option.bind (idx r (i:Int)) f)=f (E m s i):=by
 obtain⟨r,h1,_,h2⟩:=h.rowAt hs;rw[zS,h1,oB,zS,h2 i hi,oB]
theorem WM.nx_in {p:Nat×Nat}{i:Nat}{q:Nat×Nat}(h1:p.1<m.Rows.length)(h2:p.2<m.Rows.length)(hi:i<kk m)(hq:nxP m m p i=some q):q.1<m.Rows.length/\q.2<m.Rows.length:=by
 unfold nxP at hq;split at hq
 ·rename_i hc;cases hq;have a:=h.edgeAt h1 hi;have b:=h.edgeAt h2 hi;simp only;omega
 cases hq
end
def mkb (k:Nat)(bad:Nat×Nat->Nat->Bool)(nx:Nat×Nat->Nat->Option (Nat×Nat)):Nat->Nat×Nat->Bool
 | 0,_=>false
 | n+1,p=>mkb k bad nx n p ||(List.range k).any λi=>bad p i ||(match nx p i with|some q=>mkb k bad nx n q|none=>false)
def z4w (k:Nat)(bad:Nat×Nat->Nat->Bool)(nx:Nat×Nat->Nat->Option (Nat×Nat)):∀(n:Nat) (p:Nat×Nat),mkb k bad nx n p=true↔Mk k bad nx n p
 | 0,p=>by simp[mkb,Mk]
 | n+1,p=>by
  simp only[mkb,Mk,ma,ro,gO,z4w k bad nx n p];constructor
  ·rintro(h|⟨i,hi,h|h⟩)
   ·exact .inl h
   ·exact .inr ⟨i,hi,.inl h⟩
   cases hq:nx p i with
   | none=>rw[hq]at h;cases h
   | some q=>rw[hq]at h;exact .inr ⟨i,hi,.inr ⟨q,hq,(z4w k bad nx n q).1 h⟩⟩
  rintro(h|⟨i,hi,h|⟨q,hq,h⟩⟩)
  ·exact .inl h
  ·exact .inr ⟨i,hi,.inl h⟩
  exact .inr ⟨i,hi,.inr (by rw[hq];exact(z4w k bad nx n q).2 h)⟩
def tab (N:Nat)(f:Nat->Nat->Bool):List (List Bool):=(List.range N).map λs=>(List.range N).map λt=>f s t
def z9F {N s t:Nat}(f:Nat->Nat->Bool)(hs:s<N)(ht:t<N)  {g:Bool->Option β}:(Option.bind (idx (tab N f) (s:Int)) λr=>Option.bind (idx r (t:Int)) g)=g (f s t):=by
 have e1:(tab N f)[s]?=some ((List.range N).map λt=>f s t):=by simp[tab,hs]
 have e2:((List.range N).map λt=>f s t)[t]?=some (f s t):=by simp[ht]
 rw[zS,e1,oB,zS,e2,oB]
def z9U (N t:Nat)(g:Nat->α)(v:α):((List.range N).map g).set t v=(List.range N).map λx=>if x=t then v else g x:=by
 refine List.ext_getElem (by simp) λn h1 h2=>?_;simp only[List.getElem_set,List.getElem_map,List.getElem_range];by_cases e:t=n
 ·rw[if_pos e,if_pos e.symm]
 rw[if_neg e,if_neg (nK e)]
def z6G (m:z6)(f:Nat->Nat->Bool)(p:Nat×Nat)(i:Nat):Bool:=Ye m m p i ||(match nxP m m p i with|some q=>f q.1 q.2|none=>false)
def zf5 (h:WM m)(f:Nat->Nat->Bool){s t:Nat}(hs:s<m.Rows.length)(ht:t<m.Rows.length) :
  Vu m (tab m.Rows.length f) (s:Int) (t:Int)=some (if(List.range (kk m)).any (z6G m f (s,t))=true then 1 else 0):=by
 have hk:=h.kk_eq;have k16:=h.kk_le;have hl:loop (λq=>Y6 m (tab m.Rows.length f) (s:Int) (t:Int) q) 0=some (oS (yj (λ_ i=>if z6G m f (s,t) i=true then some (1:Int) else none) (List.range (kk m)) 0)):=by
  refine wR (List.range (kk m)) (by simp;omega) _ ?_ ?_
  ·intro i x hx;have hi:i<kk m:=by have:=(pf.1 hx).1;simpa using this
   have:x=i:=by rw[rR hi]at hx;exact(Option.some.inj hx).symm
   subst this;unfold Y6 jI;have hd:decide ((x:Int)<m.Inputs)=true:=by rw[<-hk];simpa using hi
   rw[hd,cond_true,h.edge_eq hs hi,h.edge_eq ht hi];have e1:=h.edgeAt hs hi;have e2:=h.edgeAt ht hi;by_cases hbad:(E m s x).Out=(E m t x).Out
   ·have n1:((E m s x).Out !=(E m t x).Out)=false:=by simpa using hbad
    rw[n1,cond_false];by_cases t1:(E m s x).To>=0
    ·by_cases t2:(E m t x).To>=0
     ·have hnx:nxP m m (s,t) x=some ((E m s x).To.toNat,(E m t x).To.toNat):=by unfold nxP;rw[if_pos ⟨t1,t2⟩]
      have hin:=h.nx_in hs ht hi hnx;have c1:(E m s x).To=(((E m s x).To.toNat:Nat):Int):=by omega
      have c2:(E m t x).To=(((E m t x).To.toNat:Nat):Int):=by omega
      have ht1:z6G m f (s,t) x=f (E m s x).To.toNat (E m t x).To.toNat:=by unfold z6G Ye;rw[hnx];simp only[n1,nL]
      rw[decide_eq_true t1,decide_eq_true t2];simp only[cond_true];have:=z9F f hin.1 hin.2 (g:=λv=>bif v then some (LR.done (Sum.inr (1:Int)):LR Int (Unit⊕Int)) else some (LR.next (w64 ((x:Int)+1))));rw[<-c1,<-c2]at this;rw[this,ht1];cases f (E m s x).To.toNat (E m t x).To.toNat <;> rfl
     have ht1:z6G m f (s,t) x=false:=by unfold z6G Ye nxP;rw[if_neg (by simp only;omega)];simp only[n1,nL]
     rw[decide_eq_true t1,decide_eq_false t2,ht1];rfl
    have ht1:z6G m f (s,t) x=false:=by unfold z6G Ye nxP;rw[if_neg (by simp only;omega)];simp only[n1,nL]
    rw[decide_eq_false t1,ht1];rfl
   have n1:((E m s x).Out !=(E m t x).Out)=true:=by simpa using hbad
   have ht1:z6G m f (s,t) x=true:=by unfold z6G Ye;simp only[n1,Bool.true_or]
   rw[n1,ht1];rfl
  unfold Y6;rw[List.length_range,hk];simp
 unfold Vu;rw[bdT hl];cases hf:yj (λ(_:Nat) i=>if z6G m f (s,t) i=true then some (1:Int) else none) (List.range (kk m)) 0 with
 | some q=>
  obtain⟨i,x,h1,h2⟩:=uo hf;split at h2
  ·rename_i hx;cases h2;have:(List.range (kk m)).any (z6G m f (s,t))=true:=ro.2 ⟨x,pD h1,hx⟩;rw[if_pos this];rfl
  cases h2
 | none=>
  have:¬(List.range (kk m)).any (z6G m f (s,t))=true:=by rw[ro];rintro⟨x,hx,hx2⟩;obtain⟨i,hi⟩:=rj hx;have:=qY hf i x hi;rw[if_pos hx2]at this;cases this
  rw[if_neg this];rfl
def zae (N:Nat):List.replicate ((N:Nat):Int).toNat false=(List.range N).map λ_=>false:=by refine List.ext_getElem (by simp) λn h1 h2=>?_;simp
def W0 (m:z6)(f:Nat->Nat->Bool)(s t:Nat):Bool:=f s t ||(List.range (kk m)).any (z6G m f (s,t))
def zdG (h:WM m)(f:Nat->Nat->Bool):loop (λq=>qG m (tab m.Rows.length f) q.1 q.2) (([]:List (List Bool)),0)=some (tab m.Rows.length (W0 m f)):=by
 have l128:=h.len;have row:∀(s:Nat),s<m.Rows.length->loop (λq=>qE m (tab m.Rows.length f) (s:Int) q.1 q.2) (((List.range s).map λs=>(List.range m.Rows.length).map λt=>W0 m f s t)++[(List.range m.Rows.length).map λ_=>false],0)=some ((List.range (s+1)).map λs=>(List.range m.Rows.length).map λt=>W0 m f s t):=by
  intro s hs;have hst:=uk (step:=λq=>qE m (tab m.Rows.length f) (s:Int) q.1 q.2) (λt:Nat=>(((List.range s).map λs=>(List.range m.Rows.length).map λt=>W0 m f s t)++[(List.range m.Rows.length).map λt'=>if t' < t then W0 m f s t' else false],(t:Int))) m.Rows.length (t:=(List.range (s+1)).map λs=>(List.range m.Rows.length).map λt=>W0 m f s t) (by omega) ?_ ?_
  ·simpa using hst
  ·intro t ht;unfold qE;have hd:decide ((t:Int)<((m.Rows.length:Nat):Int))=true:=by simpa using ht
   have hw:w64 ((t:Int)+1)=((t+1:Nat):Int):=by rw[zJ (by omega) (by omega)];rfl
   simp only[hd,cond_true];have e1:(((List.range s).map λs=>(List.range m.Rows.length).map λt=>W0 m f s t)++[(List.range m.Rows.length).map λt'=>if t' < t then W0 m f s t' else false])[s]?=some ((List.range m.Rows.length).map λt'=>if t' < t then W0 m f s t' else false):=by rw[pA (by simp)];simp
   have e2:∀x,((List.range m.Rows.length).map λt'=>if t' < t then W0 m f s t' else false)[t]?=some x↔x=false:=by intro x;simp[ht,eq_comm]
   have e2':=(e2 false).2 rfl;have fin:∀v:Bool,v=W0 m f s t->(((List.range s).map λs=>(List.range m.Rows.length).map λt=>W0 m f s t)++[(List.range m.Rows.length).map λt'=>if t' < t then W0 m f s t' else false]).set s (((List.range m.Rows.length).map λt'=>if t' < t then W0 m f s t' else false).set t v)=((List.range s).map λs=>(List.range m.Rows.length).map λt=>W0 m f s t)++[(List.range m.Rows.length).map λt'=>if t' < t+1 then W0 m f s t' else false]:=by
    intro v hv;rw[List.set_append,if_neg (by simp),z9U];simp only[gC,List.length_range,nR,nP];congr 3;funext x;by_cases e:x=t
    ·subst e;rw[if_pos rfl,if_pos (by omega)];exact hv
    rw[if_neg e];by_cases g:x<t
    ·rw[if_pos g,if_pos (by omega)]
    rw[if_neg g,if_neg (by omega)]
   rw[zS,bdT e1,z9F f hs ht];cases hf:f s t with
   | true=>simp only[cond_true];rw[zS,bdT e2',hw,ph,ph,fin true (by simp[W0,hf])]
   | false=>simp only[cond_false];rw[bdT (zf5 h f hs ht),zS,bdT e2',hw,ph,ph,fin _ ?_];unfold W0;rw[hf,nL];cases (List.range (kk m)).any (z6G m f (s,t)) <;> rfl
  unfold qE;simp only[Int.lt_irrefl,decide_false,cond_false];congr 3;rw[ru,gY];congr 1;simp only[gB,nG];congr 1;refine nF λx hx=>?_;rw[if_pos (gO.1 hx)]
 have:=uk (step:=λq=>qG m (tab m.Rows.length f) q.1 q.2) (λs:Nat=>((List.range s).map λs=>(List.range m.Rows.length).map λt=>W0 m f s t,(s:Int))) m.Rows.length (t:=tab m.Rows.length (W0 m f)) (by omega) ?_ ?_
 ·exact this
 ·intro s hs;unfold qG XF;have hd:decide ((s:Int)<((m.Rows.length:Nat):Int))=true:=by simpa using hs
  have hw:w64 ((s:Int)+1)=((s+1:Nat):Int):=by rw[zJ (by omega) (by omega)];rfl
  simp only[hd,cond_true];rw[gdT (by omega),gdT (by simp;omega),zae,bdT (row s hs),hw]
 unfold qG;simp only[Int.lt_irrefl,decide_false,cond_false];rfl
def mrk (m:z6)(n s t:Nat):Bool:=mkb (kk m) (Ye m m) (nxP m m) n (s,t)
def zdV (m:z6)(n:Nat):W0 m (mrk m n)=mrk m (n+1):=by funext s t;unfold W0 mrk;simp only[mkb];congr 1
def zaP (h:WM m)(n:Nat)(hn:n<=1000000):Wg m (n:Int)=some (tab m.Rows.length (mrk m n)):=by
 have l128:=h.len;have l9:loop (λq=>qD m q.1 q.2) (([]:List (List Bool)),0)=some (tab m.Rows.length (mrk m 0)):=by
  have:=uk (step:=λq=>qD m q.1 q.2) (λs:Nat=>((List.range s).map λ_=>(List.range m.Rows.length).map λ_=>false,(s:Int))) m.Rows.length (t:=tab m.Rows.length (mrk m 0)) (by omega) ?_ ?_
  ·exact this
  ·intro s hs;unfold qD;have hd:decide ((s:Int)<((m.Rows.length:Nat):Int))=true:=by simpa using hs
   have hw:w64 ((s:Int)+1)=((s+1:Nat):Int):=by rw[zJ (by omega) (by omega)];rfl
   simp only[hd,cond_true];rw[gdT (by omega),gdT (by simp;omega),zae,hw,ru,gY];rfl
  unfold qD;simp only[Int.lt_irrefl,decide_false,cond_false];rfl
 have l3:=uk (step:=λq=>qH m (n:Int) q.1 q.2) (λr:Nat=>(tab m.Rows.length (mrk m r),(r:Int))) n (t:=tab m.Rows.length (mrk m n)) (by omega) ?_ ?_
 ·unfold Wg XK XJ;rw[bdT l9];have l3':loop (λq=>qH m (n:Int) q.1 q.2) (tab m.Rows.length (mrk m 0),0)=some (tab m.Rows.length (mrk m n)):=l3;rw[bdT l3']
 ·intro r hr;unfold qH XG XI;have hd:decide ((r:Int)<(n:Int))=true:=by simpa using hr
  have hw:w64 ((r:Int)+1)=((r+1:Nat):Int):=by rw[zJ (by omega) (by omega)];rfl
  simp only[hd,cond_true];rw[bdT (zdG h (mrk m r)),zdV,hw]
 unfold qH;simp only[Int.lt_irrefl,decide_false,cond_false]
def z0X (h:WM m){s t:Nat}(hs:s<m.Rows.length)(ht:t<m.Rows.length){j:Nat}(hj:Mk (kk m) (Ye m m) (nxP m m) j (s,t)):Mk (kk m) (Ye m m) (nxP m m) (m.Rows.length - 1) (s,t):=by
 refine gM λhno=>?_;have same:∀{p:Nat×Nat} {i:Nat},p.1<m.Rows.length->p.2<m.Rows.length->i<kk m->Ye m m p i=false->((E m p.1 i).To>=0↔(E m p.2 i).To>=0):=by
  intro p i h1 h2 hi hb;have e:(E m p.1 i).Out=(E m p.2 i).Out:=by simpa[Ye] using hb
  have a:=h.edgeAt h1 hi;have b:=h.edgeAt h2 hi;omega
 have symm:∀k s t,Mk (kk m) (Ye m m) (nxP m m) k (s,t)->Mk (kk m) (Ye m m) (nxP m m) k (t,s):=by
  intro k;induction k with
  | zero=>intro s t h;exact h
  | succ k ih=>
   rintro s t (h|⟨i,hi,h|⟨q,hq,h⟩⟩)
   ·exact .inl (ih _ _ h)
   ·exact .inr ⟨i,hi,.inl (by unfold Ye at h ⊢;simp only[bne_iff_ne,ne_eq]at h ⊢;exact λe=>h e.symm)⟩
   refine .inr ⟨i,hi,.inr ⟨(q.2,q.1),?_,ih _ _ h⟩⟩;unfold nxP at hq ⊢;split at hq
   ·rename_i hc;cases hq;rw[if_pos ⟨hc.2,hc.1⟩]
   cases hq
 have trans:∀k s t u,s<m.Rows.length->t<m.Rows.length->u<m.Rows.length->Mk (kk m) (Ye m m) (nxP m m) k (s,u)->Mk (kk m) (Ye m m) (nxP m m) k (s,t)\/Mk (kk m) (Ye m m) (nxP m m) k (t,u):=by
  intro k;induction k with
  | zero=>intro s t u _ _ _ h;exact h.elim
  | succ k ih=>
   rintro s t u hs ht hu (g|⟨i,hi,g|⟨q,hq,g⟩⟩)
   ·rcases ih s t u hs ht hu g with g|g
    ·exact .inl (.inl g)
    exact .inr (.inl g)
   ·cases b1:Ye m m (s,t) i with
    | true=>exact .inl (.inr ⟨i,hi,.inl b1⟩)
    | false=>refine .inr (.inr ⟨i,hi,.inl ?_⟩);unfold Ye at b1 g ⊢;simp only[bne_iff_ne,ne_eq,bne_eq_false_iff_eq]at b1 g ⊢;rw[<-b1];exact g
   cases b1:Ye m m (s,t) i with
   | true=>exact .inl (.inr ⟨i,hi,.inl b1⟩)
   | false=>
    cases b2:Ye m m (t,u) i with
    | true=>exact .inr (.inr ⟨i,hi,.inl b2⟩)
    | false=>
     have c1:=same (p:=(s,t)) hs ht hi b1;have c2:=same (p:=(t,u)) ht hu hi b2;simp only at c1 c2;unfold nxP at hq;split at hq
     ·rename_i hc;cases hq;simp only at hc g;have e1:=h.edgeAt hs hi;have e2:=h.edgeAt ht hi;have e3:=h.edgeAt hu hi;rcases ih (E m s i).To.toNat (E m t i).To.toNat (E m u i).To.toNat (by omega) (by omega) (by omega) g with g|g
      ·exact .inl (.inr ⟨i,hi,.inr ⟨_,by unfold nxP;rw[if_pos ⟨hc.1,by simp only;omega⟩],g⟩⟩)
      exact .inr (.inr ⟨i,hi,.inr ⟨_,by unfold nxP;rw[if_pos ⟨by simp only;omega,hc.2⟩],g⟩⟩)
     cases hq
 have refl:∀k s,¬Mk (kk m) (Ye m m) (nxP m m) k (s,s):=by
  intro k;induction k with
  | zero=>intro s h;exact h
  | succ k ih=>
   rintro s (g|⟨i,hi,g|⟨q,hq,g⟩⟩)
   ·exact ih s g
   ·simp[Ye]at g
   unfold nxP at hq;split at hq
   ·cases hq;exact ih _ g
   cases hq
 exact zox (N:=m.Rows.length) h.len1 (λk s t=>¬Mk (kk m) (Ye m m) (nxP m m) k (s,t)) (λk s t _ _ g q=>g (symm k t s q)) (λk s t u hs ht hu g1 g2 q=>by
   rcases trans k s t u hs ht hu q with g|g
   ·exact g1 g
   ·exact g2 g) (λk s _=>refl k s) (λk s t _ _ g q=>g (.inl q)) (λk hk s t hs ht g q=>by
   rcases q with q|⟨i,hi,q|⟨r,hr,q⟩⟩
   ·exact g q
   ·exact g (.inr ⟨i,hi,.inl q⟩)
   have hin:=h.nx_in (p:=(s,t)) hs ht hi hr;have:Mk (kk m) (Ye m m) (nxP m m) k r:=gM λc=>hk r.1 r.2 hin.1 hin.2 c q;exact g (.inr ⟨i,hi,.inr ⟨r,hr,this⟩⟩)) s t hs ht hno j hj
def z6Z {a k:Int}(h0:0<=a)(hk:1<=k)(hk2:k<=1000000):1<=w64 (1+w64 (Int.tmod a k))/\w64 (1+w64 (Int.tmod a k))<=k:=by have h1:=rT k h0;have h2:=rW a (show 0<k by omega);rw[zJ (x:=Int.tmod a k) (by omega) (by omega),zJ (by omega) (by omega)];omega
def nxE (m:z6)(s:Int)(i:Nat):z8:=if s<0 then⟨-1,-1⟩ else E m s.toNat i
def rsp (m:z6):Int->TC->TB
 | _,[]=>[]
 | s,i::w=>(nxE m s i).Out::rsp m (nxE m s i).To w
def aft (m:z6):Int->TC->Int
 | s,[]=>s
 | s,i::w=>aft m (nxE m s i).To w
def Vq (m:z6):∀(w:TC) (s:Int) (i:Nat),rsp m s (w++[i])=rsp m s w++[(nxE m (aft m s w) i).Out]/\aft m s (w++[i])=(nxE m (aft m s w) i).To
 | [],s,i=>⟨rfl,rfl⟩
 | j::w,s,i=>by have:=Vq m w (nxE m s j).To i;simp only[gK,rsp,aft,this.1,this.2,and_self]
def za9 (m:z6):∀(w:TC) (s:Int),(rsp m s w).length=w.length
 | [],_=>rfl
 | i::w,s=>by simp[rsp,za9 m w]
def z4V (m:z6)(s:Int):Prop:=-1<=s/\s<(m.Rows.length:Int)
def zhe (h:VM m){s:Int}(hs:z4V m s){i:Nat}(hi:i<kk m):z4V m (nxE m s i).To:=by
 unfold nxE;have:=h.len1;by_cases h0:s<0
 ·rw[if_pos h0];unfold z4V;simp only;omega
 rw[if_neg h0];have hl:s.toNat<m.Rows.length:=by have:=hs.2;omega
 have:=h.edgeAt hl hi;unfold z4V;omega
def zhh (h:VM m){s:Int}(hs:z4V m s){i:Nat}(hi:i<kk m):Qv m s (i:Int)=some (nxE m s i)/\z4V m (nxE m s i).To:=by
 unfold Qv nxE;have:=h.len1;by_cases h0:s<0
 ·rw[decide_eq_true h0,cond_true,if_pos h0];exact⟨rfl,by unfold z4V;simp only;omega⟩
 rw[decide_eq_false h0,cond_false,if_neg h0];have hl:s.toNat<m.Rows.length:=by have:=hs.2;omega
 have he:=h.edge_eq hl hi (f:=λe=>some e);have hc:((s.toNat:Nat):Int)=s:=by omega
 rw[hc]at he;refine⟨he,?_⟩;have:=h.edgeAt hl hi;unfold z4V;omega
section
variable {N:Nat}{f:Nat->Nat->Bool}
structure zlb (N:Nat)(f:Nat->Nat->Bool)(out:TB)(n:Int)(s:Nat):Prop where
 len:out.length=s
 sN:s<=N
 n0:0<=n
 nS:n<=(s:Int)
 lt:∀(i:Nat) (x:Int),out[i]?=some x->0<=x/\x<n
 cls:∀(i j:Nat),i<s->j<s->(out[i]?=out[j]?↔f i j=false)
def zdT (hN:N<=1000)(hr:∀s,s<N->f s s=false)(hs:∀s t,s<N->t<N->f s t=false->f t s=false)(ht:∀s t u,s<N->t<N->u<N->f s t=false->f t u=false->f s u=false) :
  Ret (Ze (tab N f)) λout=>out.length=N/\∀i j,i<N->j<N->(out[i]?=out[j]?↔f i j=false):=by
 have hl:(tab N f).length=N:=by simp[tab]
 unfold Ze;rw[zp];refine Ret.mono (Q:=λout=>out.length=N/\∀i j,i<N->j<N->(out[i]?=out[j]?↔f i j=false)) ?_ λout h=>z7.2 h;refine zM (λq=>zlb N f q.1 q.2.1 q.2.2.toNat/\0<=q.2.2) (λq=>N - q.2.2.toNat) ⟨⟨rfl,pO _,Int.le_refl 0,Int.le_refl 0,λi x h=>by simp at h,λi j h=>by simp at h⟩,Int.le_refl 0⟩ (by show N - 0<_;omega) ?_;rintro⟨out,n,s⟩ ⟨hI,h0⟩;obtain⟨s,rfl⟩:=nD h0;simp only[ph]at hI ⊢;unfold We;rw[zD];refine⟨λhc=>?_,λhc=>?_⟩
 ·rw[hl]at hc;have hsN:s<N:=by simpa using hc
  rw[zp];have inner:Ret (loop (λs_1=>Zb (tab N f) out (s:Int) s_1.1 s_1.2) (-1,0)) λb=>(b=-1/\∀t,t<s->f s t=true)\/∃t,t<s/\f s t=false/\out[t]?=some b:=by
   refine zM (λq=>0<=q.2/\q.2<=(s:Int)/\((q.1=-1/\∀t:Nat,(t:Int)<q.2->f s t=true)\/∃t,t<s/\f s t=false/\out[t]?=some q.1)) (λq=>s - q.2.toNat) ⟨by omega,by omega,.inl ⟨rfl,λt ht=>by simp at ht;omega⟩⟩ (by show s - 0<_;omega) ?_;rintro⟨b,t⟩ ⟨g0,g1,g2⟩;simp only at g0 g1 g2 ⊢;obtain⟨t,rfl⟩:=nD g0;unfold Zb uN;rw[zD];refine⟨λhc=>?_,λhc=>?_⟩
   ·have hts:t<s:=by simpa using hc
    have hw:w64 ((t:Int)+1)=((t+1:Nat):Int):=by rw[zJ (by omega) (by omega)];rfl
    rw[z9F f hsN (by omega),hw,zD];refine⟨λhf=>?_,λhf=>?_⟩
    ·rw[zp,z6S];have:∃x,out[t]?=some x:=⟨out[t]'(by rw[hI.len];exact hts),pe _⟩;obtain⟨x,hx⟩:=this;refine⟨by omega,x,by rw[ph];exact hx,z7.2 ⟨⟨by omega,by omega,.inr ⟨t,hts,by simpa using hf,hx⟩⟩,by simp only[ph];omega⟩⟩
    refine z7.2 ⟨⟨by omega,by omega,?_⟩,by simp only[ph];omega⟩;rcases g2 with⟨e,g2⟩|g2
    ·refine .inl ⟨e,λu hu=>?_⟩;rcases pF u t with q|q
     ·exact g2 u (by omega)
     have:u=t:=by omega
     subst this;simpa using hf
    exact .inr g2
   have hts:¬t<s:=by simpa using hc
   refine z7.2 ?_;rcases g2 with⟨e,g2⟩|g2
   ·exact .inl ⟨e,λu hu=>g2 u (by omega)⟩
   exact .inr g2
  refine inner.mono λb hb=>?_;have hw:w64 ((s:Int)+1)=((s+1:Nat):Int):=by rw[zJ (by omega) (by omega)];rfl
  have hlen:=hI.len;have hnS:=hI.nS;have hn0:=hI.n0;have fin:∀(n' c:Int),0<=n'->n'<=((s+1:Nat):Int)->n<=n'->0<=c->c<n'->(∀t,t<s->(out[t]?=some c↔f s t=false)) ->
    Ret (vh out (s:Int) n' c) (LRP (λs'=>(zlb N f s'.1 s'.2.1 s'.2.2.toNat/\0<=s'.2.2)/\N - s'.2.2.toNat<N - s) λout=>out.length=N/\∀i j,i<N->j<N->(out[i]?=out[j]?↔f i j=false)):=by
   intro n' c a1 a2 a3 a4 a5 a6;unfold vh Zd;rw[YQ,hw];refine⟨by simp[hlen];omega,z7.2 ⟨⟨⟨by simp[hlen],by simp only[ph];omega,a1,by simp only[ph];exact a2,?_,?_⟩,nA _⟩,by simp only[ph];omega⟩⟩
   ·intro i x hx;rcases pF i s with q|q
    ·rw[pB (by omega)]at hx;have:=hI.lt i x hx;exact⟨this.1,by have:=this.2;simp only;omega⟩
    rw[pA (by omega)]at hx;cases hh:i - out.length with
    | zero=>rw[hh]at hx;simp at hx;subst hx;exact⟨a4,a5⟩
    | succ k=>rw[hh]at hx;simp at hx
   intro i j hi hj;simp only[ph]at hi hj;have at_:∀i,i<s->(out++[c])[i]?=out[i]?:=λi h=>pB (by omega);have at_s:(out++[c])[s]?=some c:=by rw[<-hlen,pA (pi _)];simp
   rcases pF i s with q|q <;> rcases pF j s with q'|q'
   ·show(out++[c])[i]?=(out++[c])[j]?↔_;rw[at_ i q,at_ j q'];exact hI.cls i j q q'
   ·have:j=s:=by omega
    subst this;show(out++[c])[i]?=(out++[c])[j]?↔_;rw[at_ i q,at_s,a6 i q];exact⟨λh=>hs _ _ (by omega) (by omega) h,λh=>hs _ _ (by omega) (by omega) h⟩
   ·have:i=s:=by omega
    subst this;show(out++[c])[i]?=(out++[c])[j]?↔_;rw[at_ j q',at_s,eq_comm,a6 j q']
   have e1:i=s:=by omega
   have e2:j=s:=by omega
   subst e1;subst e2;exact⟨λ_=>hr _ hsN,λ_=>rfl⟩
  unfold Zc;rw[zD];rcases hb with⟨rfl,hb⟩|⟨t,ht1,ht2,ht3⟩
  ·refine⟨λ_=>?_,λh=>by simp at h⟩;rw[zJ (by omega) (by omega)];refine fin (n+1) n (by omega) (by omega) (by omega) hn0 (by omega) λt hts=>?_;rw[hb t hts];refine⟨λh=>?_,λh=>by cases h⟩;have:=hI.lt t n h;omega
  have hb0:=hI.lt t b ht3;refine⟨λh=>by simp at h;omega,λ_=>fin n b hn0 (by omega) (by omega) hb0.1 hb0.2 λu hu=>?_⟩;rw[<-ht3,hI.cls u t hu ht1];exact⟨λh=>ht _ _ _ (by omega) (by omega) (by omega) ht2 (hs _ _ (by omega) (by omega) h),λh=>ht _ _ _ (by omega) (by omega) (by omega) (hs _ _ (by omega) (by omega) h) ht2⟩
 rw[hl]at hc;have hsN:¬s<N:=by simpa using hc
 have:s=N:=by have:=hI.sN;omega
 subst this;exact z7.2 ⟨hI.len,hI.cls⟩
end
def SEq (m:z6)(s t:Nat):Prop:=∀w:TC,(∀i∈w,i<kk m)->rsp m (s:Int) w=rsp m (t:Int) w
def z6Q (m:z6):∀(w:TC) (s:Int),s<0->rsp m s w=w.map λ_=>-1
 | [],_,_=>rfl
 | i::w,s,h=>by simp only[rsp,nxE,if_pos h,gB];rw[z6Q m w (-1) (by omega)]
def jY (m:z6)(s i:Nat):nxE m (s:Int) i=E m s i:=by unfold nxE;rw[if_neg (by omega),ph]
section
variable {m:z6}(h:WM m)
include h
theorem z74:∀(n:Nat) (p:Nat×Nat),p.1<m.Rows.length->p.2<m.Rows.length->Mk (kk m) (Ye m m) (nxP m m) n p->∃w:TC,(∀i∈w,i<kk m)/\rsp m (p.1:Int) w≠rsp m (p.2:Int) w
 | 0,p,_,_,q=>q.elim
 | n+1,p,h1,h2,q=>by
  rcases q with q|⟨i,hi,q|⟨r,hr,q⟩⟩
  ·exact z74 n p h1 h2 q
  ·refine⟨[i],by simpa using hi,λe=>?_⟩;simp only[rsp,jY,List.cons.injEq,and_true]at e;simp[Ye,e]at q
  have hin:=h.nx_in h1 h2 hi hr;obtain⟨w,hw,hne⟩:=z74 n r hin.1 hin.2 q;refine⟨i::w,λj hj=>by rcases pm.1 hj with rfl|hj;exact hi;exact hw j hj,λe=>hne ?_⟩;simp only[rsp,jY,List.cons.injEq]at e;unfold nxP at hr;split at hr
  ·rename_i hc;cases hr;have e1:(((E m p.1 i).To.toNat:Nat):Int)=(E m p.1 i).To:=by omega
   have e2:(((E m p.2 i).To.toNat:Nat):Int)=(E m p.2 i).To:=by omega
   simp only[e1,e2];exact e.2
  cases hr
theorem z9x:∀(w:TC) (p:Nat×Nat),p.1<m.Rows.length->p.2<m.Rows.length->(∀i∈w,i<kk m)->rsp m (p.1:Int) w≠rsp m (p.2:Int) w->Mk (kk m) (Ye m m) (nxP m m) w.length p
 | [],p,_,_,_,q=>(q rfl).elim
 | i::w,p,h1,h2,hw,q=>by
  have hi:=hw i (by simp);refine .inr ⟨i,hi,?_⟩;by_cases hb:Ye m m p i=true
  ·exact .inl hb
  have he:(E m p.1 i).Out=(E m p.2 i).Out:=by simpa[Ye] using hb
  simp only[rsp,jY,he,ne_eq,List.cons.injEq,true_and]at q;have a:=h.edgeAt h1 hi;have b:=h.edgeAt h2 hi;by_cases hc:0<=(E m p.1 i).To/\0<=(E m p.2 i).To
  ·have hr:nxP m m p i=some ((E m p.1 i).To.toNat,(E m p.2 i).To.toNat):=by unfold nxP;rw[if_pos hc]
   have hin:=h.nx_in h1 h2 hi hr;have e1:(((E m p.1 i).To.toNat:Nat):Int)=(E m p.1 i).To:=by omega
   have e2:(((E m p.2 i).To.toNat:Nat):Int)=(E m p.2 i).To:=by omega
   exact .inr ⟨_,hr,z9x w _ hin.1 hin.2 (λj hj=>hw j (by simp[hj])) (by simpa only[e1,e2] using q)⟩
  exfalso;refine q ?_;have e1:(E m p.1 i).To=-1:=by omega
  have e2:(E m p.2 i).To=-1:=by omega
  rw[e1,e2]
theorem JD {s t:Nat}(hs:s<m.Rows.length)(ht:t<m.Rows.length):mrk m m.Rows.length s t=false↔SEq m s t:=by
 have e:mrk m m.Rows.length s t=true↔¬SEq m s t:=by
  unfold mrk;rw[z4w];constructor
  ·intro q g;obtain⟨w,hw,hne⟩:=z74 h _ (s,t) hs ht q;exact hne (g w hw)
  intro q;obtain⟨w,hw⟩:=Classical.not_forall.1 q;obtain⟨hw,hne⟩:=Classical.not_imp.1 hw;have:=z0X h hs ht (z9x h w (s,t) hs ht hw hne);exact this.mono (by omega)
 constructor
 ·intro q;exact gM λg=>by rw[e.2 g]at q;cases q
 intro q;cases hm:mrk m m.Rows.length s t with
 | false=>rfl
 | true=>exact(e.1 hm q).elim
theorem z2p:Ret (Zf m) λl=>l.length=m.Rows.length/\∀s t,s<m.Rows.length->t<m.Rows.length->(l[s]?=l[t]?↔SEq m s t):=by have hl:=h.len;unfold Zf Q3;rw[zp,bdT (zaP h m.Rows.length (by omega)),zp];refine Ret.mono (zdT (by omega) (λs hs=>(JD h hs hs).2 λw _=>rfl) (λs t hs ht q=>(JD h ht hs).2 λw hw=>((JD h hs ht).1 q w hw).symm) (λs t u hs ht hu q r=>(JD h hs hu).2 λw hw=>((JD h hs ht).1 q w hw).trans ((JD h ht hu).1 r w hw))) ?_;rintro l ⟨h1,h2⟩;exact z7.2 (z7.2 ⟨h1,λs t hs ht=>(h2 s t hs ht).trans (JD h hs ht)⟩)
end
def z8I (h:VM m):∀(w:TC) (n:Nat) (s:Int),z4V m s->(∀i∈w,i<kk m)->w.length<n->Zg n m s (w.map Int.ofNat)=some (aft m s w)
 | w,0,_,_,_,hn=>by omega
 | [],n+1,s,hs,_,_=>by show Zh (Zg n) m s []=_;rfl
 | i::w,n+1,s,hs,hw,hn=>by
  show Zh (Zg n) m s ((i:Int)::w.map Int.ofNat)=_;have hi:=hw i (by simp);have hx:=zhh h hs hi;unfold Zh;have hz:(((((i:Int)::w.map Int.ofNat).length:Nat):Int)==0)=false:=by rw[beq_eq_false_iff_ne];simp only[pZ];omega
  rw[hz,cond_false];have e0:idx ((i:Int)::w.map Int.ofNat) 0=some (i:Int):=rfl;rw[bdT e0,bdT hx.1,gdT (by simp;omega)];have e1:((i:Int)::w.map Int.ofNat).drop (1:Int).toNat=w.map Int.ofNat:=rfl;rw[e1,bdT (z8I h w n _ hx.2 (λj hj=>hw j (by simp[hj])) (by simp at hn;omega))];rfl
def zfg (h:VM m){s:Int}(hs:z4V m s)(w:TC)(hw:∀i∈w,i<kk m):Vz m s (w.map Int.ofNat)=some (aft m s w):=by unfold Vz;exact z8I h w _ s hs hw (by simp)
def z6b (k:Nat):TC->Option TC
 | []=>none
 | d::r=>if d+1<k then some ((d+1)::r) else(z6b k r).map (0 :: ·)
def Vg (k:Nat):TC->Nat
 | []=>0
 | d::r=>d+k*Vg k r
def z6E {k:Nat}:∀{r:TC},(∀d∈r,d<k)->Vg k r<k ^ r.length
 | [],_=>by simp[Vg]
 | d::r,h=>by have ih:=z6E (k:=k) (r:=r) λx hx=>h x (by simp[hx]);have hd:=h d (by simp);simp only[Vg,pZ,rX];have:k*(Vg k r+1)<=k*k ^ r.length:=Nat.mul_le_mul_left k ih;rw[Nat.mul_add,Nat.mul_one]at this;rw[rG (k ^ r.length) k];omega
def z7u:∀{r s:TC},r.length=s.length->(∀d∈r,d<k)->(∀d∈s,d<k)->Vg k r=Vg k s->r=s
 | [],[],_,_,_,_=>rfl
 | [],_::_,h,_,_,_=>by simp at h
 | _::_,[],h,_,_,_=>by simp at h
 | d::r,e::s,h,h1,h2,hv=>by
  have hd:=h1 d (by simp);have he:=h2 e (by simp);simp only[Vg]at hv;have a1:(d+k*Vg k r) % k=d:=by rw[Nat.add_mul_mod_self_left,rm hd]
  have a2:(e+k*Vg k s) % k=e:=by rw[Nat.add_mul_mod_self_left,rm he]
  have hde:d=e:=by rw[<-a1,<-a2,hv]
  subst hde;have hk:0<k:=by omega
  have:k*Vg k r=k*Vg k s:=by omega
  have:=Nat.eq_of_mul_eq_mul_left hk this;rw[z7u (by simpa using h) (λx hx=>h1 x (by simp[hx])) (λx hx=>h2 x (by simp[hx])) this]
def z69:∀{r s:TC},(∀d∈r,d<k)->z6b k r=some s->s.length=r.length/\(∀d∈s,d<k)/\Vg k s=Vg k r+1
 | [],s,_,h=>by cases h
 | d::r,s,hr,h=>by
  have hd:=hr d (by simp);unfold z6b at h;split at h
  ·rename_i hc;cases h;exact⟨rfl,λx hx=>by rcases pm.1 hx with rfl|hx;exact hc;exact hr x (by simp[hx]),by simp only[Vg];omega⟩
  rename_i hc;obtain⟨s',h1,rfl⟩:=pT.1 h;obtain⟨g1,g2,g3⟩:=z69 (λx hx=>hr x (by simp[hx])) h1;refine⟨by simp[g1],λx hx=>by rcases pm.1 hx with rfl|hx;omega;exact g2 x hx,?_⟩;simp only[Vg,g3,Nat.mul_add,Nat.mul_one];omega
def z6a (hk:0<k):∀{r:TC},(∀d∈r,d<k)->z6b k r=none->Vg k r+1=k ^ r.length
 | [],_,_=>by simp[Vg]
 | d::r,hr,h=>by
  have hd:=hr d (by simp);unfold z6b at h;split at h
  ·cases h
  rename_i hc;have h1:z6b k r=none:=by cases e:z6b k r with|none=>rfl|some x=>rw[e]at h;cases h
  have:=z6a hk (λx hx=>hr x (by simp[hx])) h1;simp only[Vg,pZ,rX,<-this,gW,rl,rG k];omega
def z73 (k:Nat)(w:TC):TC:=match z6b k w.reverse with|some r=>r.reverse|none=>List.replicate (w.length+1) 0
variable {w:TC}
def zaF (hk:1<=k)(hk2:k<=1000)  (hw:∀i∈w,i<k)(hl:w.length<=100000):WX (w.map Int.ofNat) (k:Int)=some ((z73 k w).map Int.ofNat):=by
 have hloop:Ret (loop (λs=>Vv (k:Int) s.1 s.2) (w.map Int.ofNat,w64 ((((w.map Int.ofNat).length:Nat):Int) - 1))) λr=>match r with
   | .inl o=>z6b k w.reverse=none/\o=List.replicate w.length (0:Int)
   | .inr o=>∃r,z6b k w.reverse=some r/\o=r.reverse.map Int.ofNat:=by
  refine zM (λq=>∃(p:TC) (z:Nat),q.1=(p++List.replicate z 0).map Int.ofNat/\q.2=(p.length:Int) - 1/\(∀i∈p,i<k)/\p.length+z=w.length/\z6b k w.reverse=(z6b k p.reverse).map (λr=>List.replicate z 0++r)) (λq=>(q.2+1).toNat) ⟨w,0,by simp,by rw[zJ (by simp;omega) (by simp;omega)];simp,hw,by simp,by cases z6b k w.reverse <;> simp⟩ (by simp only;rw[zJ (by simp;omega) (by simp;omega)];simp;omega) ?_;rintro⟨out,j⟩ ⟨p,z,h1,h2,h3,h4,h5⟩;simp only at h1 h2;subst h1;subst h2;unfold Vv;rw[zD];refine⟨λhc=>?_,λhc=>?_⟩
  ·have hp:1<=p.length:=by simp at hc;omega
   obtain⟨p',d,rfl⟩:∃p' d,p=p' ++ [d]:=by
    rcases nV p with e|⟨p',d,e⟩
    ·subst e;simp at hp
    exact⟨p',d,by simpa using e⟩
   have hd:=h3 d (by simp);have hj:(((p' ++ [d]).length:Nat):Int) - 1=((p'.length:Nat):Int):=by simp
   have hx:((p' ++ [d]++List.replicate z 0).map Int.ofNat)[p'.length]?=some (d:Int):=by simp
   have hset:∀e:Nat,((p' ++ [d]++List.replicate z 0).map Int.ofNat).set p'.length (e:Int)=(p' ++ e::List.replicate z 0).map Int.ofNat:=by intro e;rw[pK,gY,List.set_append,if_neg (by simp)];simp
   have hr:(p' ++ [d]).reverse=d::p'.reverse:=by simp
   rw[hr]at h5;have hin:z6b k (d::p'.reverse)=if d+1<k then some ((d+1)::p'.reverse) else(z6b k p'.reverse).map (0 :: ·):=rfl
   have hw1:w64 ((d:Int)+1)=((d+1:Nat):Int):=by rw[zJ (by omega) (by omega)];rfl
   rw[hj,zS,bdT hx,hw1,zD];refine⟨λhc=>?_,λhc=>?_⟩
   ·have hdk:d+1<k:=by simp at hc;omega
    rw[bdT hx,bdT hx,hw1,ph,hset];refine z7.2 ?_;rw[hin,if_pos hdk]at h5;exact⟨_,h5,by simp⟩
   have hdk:¬d+1<k:=by simp at hc;omega
   rw[bdT hx,ph,zJ (by omega) (by omega)];have h0:=hset 0;simp only[Int.natCast_zero]at h0;refine z7.2 ⟨⟨p',z+1,?_,rfl,λi hi=>h3 i (by simp[hi]),by simp at h4;omega,?_⟩,?_⟩
   ·rw[nu];exact h0
   ·rw[hin,if_neg hdk]at h5;rw[h5];cases z6b k p'.reverse with
    | none=>rfl
    | some r=>simp[List.replicate_succ']
   simp only
   omega
  have hp:p=[]:=gR (by simp at hc;omega);subst hp;refine z7.2 ⟨?_,?_⟩
  ·rw[h5];rfl
  simp at h4;simp[h4]
 unfold WX;rw[gdT (by simp;omega)];obtain⟨r,e,hr⟩:=hloop;rw[bdT e];unfold z73;cases r with
 | inl o=>obtain⟨g1,rfl⟩:=hr;show X4 _=_;unfold X4;rw[gdT (by simp;omega),g1];simp[List.replicate_succ']
 | inr o=>obtain⟨r,g1,rfl⟩:=hr;show some _=_;rw[g1]
def GG (k:Nat):Nat->Nat
 | 0=>0
 | n+1=>GG k n+k ^ n
def z4X {k n m:Nat}(h:n<=m):GG k n<=GG k m:=by
 induction h with
 | refl=>exact pi _
 | step _ ih=>exact pC ih (Nat.le_add_right _ _)
def rk (k:Nat)(w:TC):Nat:=GG k w.length+Vg k w.reverse
def Wd (k:Nat)(w:TC):Prop:=∀i∈w,i<k
def Wd.rev (h:Wd k w):∀d∈w.reverse,d<k:=λd hd=>h d (by simpa using hd)
def zgX (h:Wd k w):rk k w<GG k (w.length+1):=by have:=z6E h.rev;rw[mG]at this;show GG k w.length+Vg k w.reverse<GG k w.length+k ^ w.length;omega
def z7R {k:Nat}{w u:TC}(hw:Wd k w)(h:w.length<u.length):rk k w<rk k u:=by have h1:=zgX hw;have h2:=z4X (k:=k) (show w.length+1<=u.length from h);unfold rk at *;omega
def z7S {w u:TC}(hw:Wd k w)(hu:Wd k u)(h:rk k w=rk k u):w=u:=by
 have hl:w.length=u.length:=by
  rcases mT w.length u.length with q|q|q
  ·have:=z7R hw q;omega
  ·exact q
  have:=z7R hu q;omega
 have hv:Vg k w.reverse=Vg k u.reverse:=by unfold rk at h;rw[hl]at h;omega
 have:=z7u (by simpa using hl) hw.rev hu.rev hv;simpa using congrArg List.reverse this
def z5m (k:Nat):∀n,Vg k (List.replicate n 0)=0
 | 0=>rfl
 | n+1=>by simp[nu,Vg,z5m k n]
def zdW (hk:1<=k)  (hw:Wd k w):Wd k (z73 k w)/\rk k (z73 k w)=rk k w+1/\(z73 k w).length<=w.length+1:=by
 unfold z73;cases e:z6b k w.reverse with
 | some r=>obtain⟨h1,h2,h3⟩:=z69 hw.rev e;rw[mG]at h1;refine⟨λi hi=>h2 i (by simpa using hi),?_,by simp[h1]⟩;simp only[rk,mG,List.reverse_reverse,h1,h3];omega
 | none=>have h:=z6a (by omega) hw.rev e;rw[mG]at h;refine⟨λi hi=>by have:=(List.mem_replicate.1 hi).2;omega,?_,by simp⟩;simp only[rk,mc,List.reverse_replicate,z5m,GG,<-h];omega
section
variable {m:z6}
def z2x (m:z6)(from_:Int)(l:TA)(is:List Bool)(r t:Nat):Prop :=
 (is[t]?=some true/\∃v:TC,l[t]?=some (v.map Int.ofNat)/\rk (kk m) v<r/\Wd (kk m) v/\v.length<m.Rows.length/\aft m from_ v=(t:Int)/\∀u,Wd (kk m) u->aft m from_ u=(t:Int)->rk (kk m) v<=rk (kk m) u) \/
 (is[t]?=some false/\l[t]?=some []/\∀u,Wd (kk m) u->rk (kk m) u<r->aft m from_ u≠(t:Int))
def z3J (h:VM m):∀(w:TC) (s:Int),z4V m s->Wd (kk m) w->z4V m (aft m s w)
 | [],s,hs,_=>hs
 | i::w,s,hs,hw=>z3J h w _ (zhe h hs (hw i (by simp))) λj hj=>hw j (by simp[hj])
def zar (h:VM m)(hG:GG (kk m) m.Rows.length<=1000000000){from_:Int}(hf:z4V m from_) :
  Ret (Vx m from_) λr=>r.1.length=m.Rows.length/\r.2.length=m.Rows.length/\∀t,t<m.Rows.length->z2x m from_ r.1 r.2 (GG (kk m) m.Rows.length) t:=by
 have l64:=h.len64;have l1:=h.len1;have hk:=h.kk_pos;have hk2:=h.kk_le;have hke:=h.kk_eq;unfold Vx Ww;rw[YQ,YQ];refine⟨by omega,by omega,?_⟩;rw[zp];refine Ret.mono ?_ λr hr=>z7.2 hr;refine zM (λq=>∃w:TC,q.2.2=w.map Int.ofNat/\Wd (kk m) w/\w.length<=m.Rows.length/\rk (kk m) w<=GG (kk m) m.Rows.length/\q.1.length=m.Rows.length/\q.2.1.length=m.Rows.length/\∀t,t<m.Rows.length->z2x m from_ q.1 q.2.1 (rk (kk m) w) t)
  (λq=>GG (kk m) m.Rows.length - rk (kk m) (q.2.2.map Int.toNat)) ⟨[],rfl,λi hi=>by simp at hi,by simp,by simp[rk,GG,Vg],by simp,by simp,λt ht=>.inr ⟨by simp[ht],by simp[ht],λu _ hu=>by simp[rk,GG,Vg]at hu⟩⟩ (by simp only;omega) ?_
 rintro⟨l,is,wi⟩ ⟨w,h1,hw,hwl,hwr,h2,h3,h4⟩;simp only at h1 h2 h3 h4;subst h1;have hback:∀w:TC,(w.map Int.ofNat).map Int.toNat=w:=λw=>by induction w with|nil=>rfl|cons a w ih=>simp only[gB,ih];rfl
 simp only[hback];unfold Jj;rw[zD];refine⟨λhc=>?_,λhc=>?_⟩
 ·have hlt:w.length<m.Rows.length:=by simpa using hc
  have hrk:rk (kk m) w<GG (kk m) m.Rows.length:=Nat.lt_of_lt_of_le (zgX hw) (z4X hlt);obtain⟨n1,n2,n3⟩:=zdW hk hw;have hnx:WX (w.map Int.ofNat) m.Inputs=some ((z73 (kk m) w).map Int.ofNat):=by rw[<-hke];exact zaF hk (by omega) hw (by omega)
  have fin:∀(l2:TA) (is2:List Bool),l2.length=m.Rows.length->is2.length=m.Rows.length->(∀t,t<m.Rows.length->z2x m from_ l2 is2 (rk (kk m) w+1) t) ->
    Ret (uE m (w.map Int.ofNat) l2 is2) (LRP (λs'=>(∃w:TC,s'.2.2=w.map Int.ofNat/\Wd (kk m) w/\w.length<=m.Rows.length/\rk (kk m) w<=GG (kk m) m.Rows.length/\s'.1.length=m.Rows.length/\s'.2.1.length=m.Rows.length/\∀t,t<m.Rows.length->z2x m from_ s'.1 s'.2.1 (rk (kk m) w) t)/\GG (kk m) m.Rows.length - rk (kk m) (s'.2.2.map Int.toNat)<GG (kk m) m.Rows.length - rk (kk m) w)
     λr=>r.1.length=m.Rows.length/\r.2.length=m.Rows.length/\∀t,t<m.Rows.length->z2x m from_ r.1 r.2 (GG (kk m) m.Rows.length) t):=by
   intro l2 is2 a1 a2 a3;unfold uE;rw[bdT hnx];refine z7.2 ⟨⟨_,rfl,n1,by omega,by omega,a1,a2,λt ht=>by rw[n2];exact a3 t ht⟩,?_⟩;rw[hback,n2];omega
  have hin:=z3J h w from_ hf hw;rw[bdT (zfg h hf w hw),zD];have stay:∀t,t<m.Rows.length->(aft m from_ w=(t:Int)->is[t]?=some true)->z2x m from_ l is (rk (kk m) w+1) t:=by
   intro t ht hn;rcases h4 t ht with⟨g1,v,g2,g3,g4⟩|⟨g1,g2,g3⟩
   ·exact .inl ⟨g1,v,g2,by omega,g4⟩
   refine .inr ⟨g1,g2,λu hu hr e=>?_⟩;rcases pF (rk (kk m) u) (rk (kk m) w) with q|q
   ·exact g3 u hu q e
   have:=z7S hu hw (by omega);subst this;rw[hn e]at g1;cases g1
  refine⟨λhc=>?_,λhc=>?_⟩
  ·have hs0:0<=aft m from_ w:=by simpa using hc
   obtain⟨s,hs⟩:=nD hs0;have hsN:s<m.Rows.length:=by have:=hin.2;omega
   rw[hs];rcases h4 s hsN with⟨g1,v,g2,g3⟩|⟨g1,g2,g3⟩
   ·rw[zS,bdT g1];simp only[gU,cond_false];refine fin l is h2 h3 λt ht=>stay t ht λe=>?_;have:t=s:=by omega
    subst this;exact g1
   rw[zS,bdT g1];simp only[mE,cond_true];rw[bdT g1,zS,bdT g2,ph];refine fin _ _ (by simpa using h2) (by simpa using h3) λt ht=>?_;by_cases e:t=s
   ·subst e;refine .inl ⟨by simp[h3,ht],w,by simp[h2,ht],by omega,hw,hlt,hs,λu hu he=>?_⟩;rcases pF (rk (kk m) u) (rk (kk m) w) with q|q
    ·exact(g3 u hu q he).elim
    exact q
   have:=stay t ht λe2=>by omega
   unfold z2x at this ⊢;rw[pW (by omega),pW (by omega)];exact this
  have hs0:¬0<=aft m from_ w:=by simpa using hc
  exact fin l is h2 h3 λt ht=>stay t ht λe=>by omega
 have hlt:¬w.length<m.Rows.length:=by simpa using hc
 have hle:w.length=m.Rows.length:=by omega
 have hrk:rk (kk m) w=GG (kk m) m.Rows.length:=by
  have:GG (kk m) m.Rows.length<=rk (kk m) w:=by rw[<-hle];unfold rk;omega
  omega
 refine z7.2 ⟨h2,h3,λt ht=>?_⟩;rw[<-hrk];exact h4 t ht
end
def wF:TB->TB->Int
 | [],[]=>0
 | [],_::_=>-1
 | _::_,[]=>1
 | x::a,y::b=>if x<y then -1 else if y<x then 1 else wF a b
def Zt (a b:TB):Int:=if a.length<b.length then -1 else if b.length<a.length then 1 else wF a b
def zaT:∀{a b:TB},wF a b=0->a=b
 | [],[],_=>rfl
 | [],_::_,h=>by simp[wF]at h
 | _::_,[],h=>by simp[wF]at h
 | x::a,y::b,h=>by
  simp only[wF]at h;split at h
  ·simp at h
  split at h
  ·simp at h
  rw[show x=y by omega,zaT h]
def z61:∀a:TB,wF a a=0
 | []=>rfl
 | x::a=>by simp[wF,z61 a]
def z8a:∀a b:TB,wF b a=- wF a b
 | [],[]=>rfl
 | [],_::_=>rfl
 | _::_,[]=>rfl
 | x::a,y::b=>by
  simp only[wF];split
  ·rw[if_neg (by omega)]
  split
  ·rfl
  exact z8a a b
def z3s:∀{a b c:TB},wF a b<0->wF b c<0->wF a c<0
 | [],[],_,h,_=>by simp[wF]at h
 | [],_::_,[],_,h=>by simp[wF]at h
 | [],_::_,_::_,_,_=>by simp[wF]
 | _::_,[],_,h,_=>by simp[wF]at h
 | _::_,_::_,[],_,h=>by simp[wF]at h
 | x::a,y::b,z::c,h1,h2=>by
  simp only[wF]at h1 h2 ⊢;by_cases e1:x<y
  ·by_cases e2:y<z
   ·rw[if_pos (by omega)];omega
   rw[if_neg e2]at h2;by_cases e3:z<y
   ·rw[if_pos e3]at h2;omega
   rw[if_pos (by omega)];omega
  rw[if_neg e1]at h1;by_cases e3:y<x
  ·rw[if_pos e3]at h1;omega
  rw[if_neg e3]at h1;have:x=y:=by omega
  subst this;by_cases e2:x<z
  ·rw[if_pos e2];omega
  rw[if_neg e2]at h2 ⊢;by_cases e4:z<x
  ·rw[if_pos e4]at h2;omega
  rw[if_neg e4]at h2 ⊢;exact z3s h1 h2
variable {a b:TB}
def z2o (h:Zt a b=0):a=b:=by
 unfold Zt at h;split at h
 ·simp at h
 split at h
 ·simp at h
 exact zaT h
def Qe (a:TB):Zt a a=0:=by simp[Zt,z61]
def z8B:Zt a b=0↔a=b:=⟨z2o,λh=>h ▸ Qe a⟩
def z8A (a b:TB):Zt b a=- Zt a b:=by
 unfold Zt;by_cases h1:a.length<b.length
 ·rw[if_pos h1,if_neg (by omega),if_pos h1];rfl
 by_cases h2:b.length<a.length
 ·rw[if_pos h2,if_neg h1,if_pos h2]
 rw[if_neg h1,if_neg h2,if_neg h2,if_neg h1,z8a]
def ZY {a b c:TB}(h1:Zt a b<0)(h2:Zt b c<0):Zt a c<0:=by
 unfold Zt at *;by_cases e1:a.length<b.length
 ·by_cases e2:b.length<c.length
  ·rw[if_pos (by omega)];omega
  rw[if_neg e2]at h2;by_cases e3:c.length<b.length
  ·rw[if_pos e3]at h2;omega
  rw[if_pos (by omega)];omega
 rw[if_neg e1]at h1;by_cases e3:b.length<a.length
 ·rw[if_pos e3]at h1;omega
 rw[if_neg e3]at h1;have e:a.length=b.length:=by omega
 rw[e];by_cases e2:b.length<c.length
 ·rw[if_pos e2];omega
 rw[if_neg e2]at h2 ⊢;by_cases e4:c.length<b.length
 ·rw[if_pos e4]at h2;omega
 rw[if_neg e4]at h2 ⊢;exact z3s h1 h2
def QI (a:TB):¬Zt a a<0:=by rw[Qe];omega
def zbA (h:Zt a b<0):¬Zt b a<0:=by rw[z8A a b];omega
def z7l:¬Zt a b<0↔Zt b a<0\/a=b:=by rw[<-z8B,z8A a b];omega
def SW (l:TA):Prop:=l.Pairwise λa b=>Zt a b<0
def SW.nil:SW []:=List.Pairwise.nil
variable {l:TA}{x:TB}
def SW.tail (h:SW (x::l)):SW l:=(mQ.1 h).2
def SW.head (h:SW (x::l)):∀y∈l,Zt x y<0:=(mQ.1 h).1
def SW.unique:∀{l m:TA},SW l->SW m->(∀x,x∈l↔x∈m)->l=m
 | [],[],_,_,_=>rfl
 | [],y::m,_,_,h=>by have:=(h y).2 (by simp);simp at this
 | x::l,[],_,_,h=>by have:=(h x).1 (by simp);simp at this
 | x::l,y::m,h1,h2,h=>by
  have hxy:x=y:=by
   rcases pm.1 ((h x).1 (by simp)) with e|e
   ·exact e
   rcases pm.1 ((h y).2 (by simp)) with e'|e'
   ·exact e'.symm
   exact absurd (h2.head x e) (zbA (h1.head y e'))
  subst hxy;rw[SW.unique h1.tail h2.tail λz=>?_];constructor
  ·intro hz;rcases pm.1 ((h z).1 (by simp[hz])) with e|e
   ·subst e;exact absurd (h1.head _ hz) (QI _)
   exact e
  intro hz;rcases pm.1 ((h z).2 (by simp[hz])) with e|e
  ·subst e;exact absurd (h2.head _ hz) (QI _)
  exact e
def SW.sub {l m:TA}(h:SW l)(hs:List.Sublist m l):SW m:=nW hs h
def SW.filter (h:SW l)(p:TB->Bool):SW (l.filter p):=h.sub List.filter_sublist
def SW.nodup (h:SW l):l.Nodup:=List.Pairwise.imp (λ{a b} q e=>by subst e;exact QI _ q) h
def z5M (w:TB):TA->TA
 | []=>[w]
 | x::l=>if Zt x w<0 then x::z5M w l else if Zt x w=0 then x::l else w::x::l
def z4x {w x:TB}:∀{l:TA},x∈z5M w l↔x=w\/x∈l
 | []=>by simp[z5M]
 | y::l=>by
  simp only[z5M];split
  ·simp only[pm,z4x];constructor
   ·rintro(h|h|h) <;> simp[h]
   rintro(h|h|h) <;> simp[h]
  split
  ·rename_i h1 h2;have:=z2o h2;subst this;simp
  simp
def SW.put {w:TB}:∀{l:TA},SW l->SW (z5M w l)
 | [],_=>by simp[z5M,SW]
 | y::l,h=>by
  simp only[z5M];split
  ·rename_i h1;refine mQ.2 ⟨λz hz=>?_,SW.put h.tail⟩;rcases z4x.1 hz with rfl|hz
   ·exact h1
   exact h.head z hz
  split
  ·exact h
  rename_i h1 h2;have hw:Zt w y<0:=by
   rcases z7l.1 h1 with q|q
   ·exact q
   exact absurd (z8B.2 q) h2
  refine mQ.2 ⟨λz hz=>?_,h⟩;rcases pm.1 hz with rfl|hz
  ·exact hw
  exact ZY hw (h.head z hz)
def z7Y (w:TB):∀l,(z5M w l).length<=l.length+1
 | []=>by simp[z5M]
 | y::l=>by
  simp only[z5M];split
  ·have:=z7Y w l;simp;omega
  split <;> simp
def srt (l:TA):TA:=l.foldl (λm w=>z5M w m) []
def z6L:∀(l m:TA),SW m->SW (l.foldl (λm w=>z5M w m) m)/\∀x,x∈l.foldl (λm w=>z5M w m) m↔x∈m\/x∈l
 | [],m,h=>⟨h,by simp⟩
 | w::l,m,h=>by
  obtain⟨h1,h2⟩:=z6L l (z5M w m) h.put;refine⟨h1,λx=>?_⟩;rw[nU,h2,z4x];simp only[pm];constructor
  ·rintro((h|h)|h) <;> simp[h]
  rintro(h|h|h) <;> simp[h]
def uK (l:TA):SW (srt l):=(z6L l [] .nil).1
def yu:x∈srt l↔x∈l:=by rw[srt,(z6L l [] .nil).2];simp
def z9O {l m:TA}(h:SW m)(hm:∀x,x∈m↔x∈l):m=srt l:=h.unique (uK l) λx=>by rw[hm,yu]
def K4 (h:SW l):srt l=l:=(z9O h λ_=>.rfl).symm
def z5t {l m:TA}(h:∀x,x∈l↔x∈m):srt l=srt m:=z9O (uK l) λx=>by rw[yu,h]
def Vn (l:TA):(srt l).length<=l.length:=by
 have:∀(l m:TA),(l.foldl (λm w=>z5M w m) m).length<=m.length+l.length:=by
  intro l;induction l with
  | nil=>intro m;simp
  | cons w l ih=>intro m;have:=ih (z5M w m);have:=z7Y w m;simp only[nU,pZ];omega
 have q:=this l [];simp only[List.length_nil,gJ]at q;exact q
def zw {l:List α}{i:Nat}{x:α}(h:l[i]?=some x):idx l (i:Int)=some x:=h
def zbh (b:TB)(g:Nat->Int->Option Int)(hg:∀i x y,b[i]?=some y->g i x=if x<y then some (-1) else if y<x then some 1 else none) :
  ∀(a:TB) (k:Nat),k+a.length=b.length->(yj g a k).getD 0=wF a (b.drop k)
 | [],k,h=>by have:b.drop k=[]:=mn (by simp at h;omega);rw[this];rfl
 | x::a,k,h=>by
  simp only[pZ]at h;have hk:k<b.length:=by omega
  rw[mI hk];simp only[yj,wF,hg k x b[k] (pe hk)];by_cases h1:x<b[k]
  ·simp[h1]
  by_cases h2:b[k]<x
  ·simp[h1,h2]
  simp only[h1,h2,if_false];exact zbh b g hg a (k+1) (by omega)
def zby (a b:TB)(h:a.length=b.length->a.length<4611686018427387904):X1 a b=some (Zt a b):=by
 unfold X1;by_cases hl:a.length=b.length
 ·have h':=h hl;simp only[hl,bne_self_eq_false,cond_false];rw[bdT (wR a h' (λi x=>match b[i]? with|some y=>if x<y then some (-1:Int) else if y<x then some 1 else none|none=>none) ?_ ?_)]
  ·have q:=zbh b (λi x=>match b[i]? with|some y=>if x<y then some (-1:Int) else if y<x then some 1 else none|none=>none) (λi x y hy=>by simp only[hy]) a 0 (by omega);rw[List.drop_zero]at q;have hc:Zt a b=wF a b:=by unfold Zt;rw[if_neg (by omega),if_neg (by omega)]
   rw[hc,<-q];cases yj (λi x=>match b[i]? with|some y=>if x<y then some (-1:Int) else if y<x then some 1 else none|none=>none) a 0 <;> rfl
  ·intro i x hx;have hi:i<a.length:=(pf.1 hx).1;have hy:b[i]?=some b[i]:=pe (by omega);unfold YB;have hc:decide ((i:Int)<(a.length:Int))=true:=by simpa using hi
   simp only[hc,cond_true,zw hx,zw hy,hy,oB];by_cases h1:x<b[i]
   ·simp[h1,nS]
   by_cases h2:b[i]<x
   ·simp[h1,h2,nS]
   simp[h1,h2,nS]
  unfold YB;simp
 have h1:(((a.length:Nat):Int) !=((b.length:Nat):Int))=true:=by simp;omega
 simp only[h1,cond_true];unfold Zt;by_cases h2:a.length<b.length
 ·simp[h2]
 have h3:b.length<a.length:=by omega
 simp[h2,h3]
def cI (x y:Int):Int:=if x<y then -1 else if y<x then 1 else 0
def zbz (x y:Int):qJ x y=some (cI x y):=by
 unfold qJ Xc cI;simp only[bne_self_eq_false,oB,cond_false];by_cases h1:x<y
 ·simp[h1]
 by_cases h2:y<x
 ·simp[h1,h2]
 simp[h1,h2]
def zgT (a b:TB)(h:a.length<4611686018427387904):∃c,wS a b=some c/\(a.length=b.length->c=wF a b):=by
 unfold wS;have hloop:=wR a h (step:=λs=>xU a b s) (λi x=>match b[i]? with|some y=>if x<y then some (-1:Int) else if y<x then some 1 else none|none=>some 1) (by
  intro i x hx;have hi:i<a.length:=(pf.1 hx).1;unfold xU;have hc:decide ((i:Int)<(a.length:Int))=true:=by simpa using hi
  simp only[hc,cond_true,zw hx,oB];by_cases hb:i<b.length
  ·have hy:b[i]?=some b[i]:=pe hb;have hd:decide ((i:Int)>=(b.length:Int))=false:=by simp;omega
   simp only[hd,cond_false,zw hy,hy,oB,zbz];unfold cI;by_cases h1:x<b[i]
   ·simp[h1,nS]
   by_cases h2:b[i]<x
   ·simp[h1,h2,nS]
   simp[h1,h2,nS]
  have hy:b[i]?=none:=pM (by omega);have hd:decide ((i:Int)>=(b.length:Int))=true:=by simp;omega
  simp only[hd,cond_true,hy,nS]) (by unfold xU;simp)
 rw[bdT hloop];have q:=λhl=>zbh b (λi x=>match b[i]? with|some y=>if x<y then some (-1:Int) else if y<x then some 1 else none|none=>some 1) (λi x y hy=>by simp only[hy]) a 0 hl;cases hf:yj (λi x=>match b[i]? with|some y=>if x<y then some (-1:Int) else if y<x then some 1 else none|none=>some 1) a 0 with
 | some r=>refine⟨r,rfl,λhl=>?_⟩;have:=q (by omega);rw[hf]at this;simpa using this
 | none=>
  unfold vu;by_cases hl:a.length<b.length
  ·refine⟨-1,by simp[oS,hl],λhl2=>by omega⟩
  refine⟨0,by simp[oS,hl],λhl2=>?_⟩;have:=q (by omega);rw[hf]at this;simpa using this
def zoY (x y:Int):QH [x,y]=some (if x=0 then y else x):=by
 unfold QH;rw[bdT (wR [x,y] (by simp) (step:=λs=>Xd [x,y] s) (λi v=>if v≠0 then some v else none) ?_ ?_)]
 ·by_cases h1:x=0
  ·by_cases h2:y=0
   ·simp[yj,h1,h2,oS,VS]
   simp[yj,h1,h2,oS]
  simp[yj,h1,oS]
 ·intro i v hv;have hi:i<[x,y].length:=(pf.1 hv).1;unfold Xd;have hc:decide ((i:Int)<(([x,y]:TB).length:Int))=true:=by simp only[decide_eq_true_eq];omega
  simp only[hc,cond_true,zw hv,oB];by_cases h:v=0
  ·simp[h,nS]
  have hb:(v != 0)=true:=by simpa using h
  simp[h,hb,nS]
 unfold Xd;simp
def Va (a b:TB)(h:a.length<4611686018427387904):yQ a b=some (Zt a b):=by
 unfold yQ;obtain⟨c,hc,hl⟩:=zgT a b h;rw[zbz,hc];simp only[oB,zoY];unfold cI Zt;by_cases h1:a.length<b.length
 ·simp[h1]
 by_cases h2:b.length<a.length
 ·simp[h1,h2]
 simp[h1,h2,hl (by omega)]
def wE (n:Int)(w:TB):Int:=if 256<w.length then 3 else if w.any (λc=>decide (c<0) || decide (n<=c)) then 1 else 0
variable {n:Int}
def z6D {w:TB}:wE n w=0↔w.length<=256/\∀c∈w,0<=c/\c<n:=by
 unfold wE;by_cases h:256<w.length
 ·rw[if_pos h];exact⟨λq=>by simp at q,λq=>by omega⟩
 rw[if_neg h];by_cases h2:w.any (λc=>decide (c<0) || decide (n<=c))=true
 ·rw[if_pos h2];simp only[ro,ma,decide_eq_true_eq]at h2;obtain⟨c,h3,h4⟩:=h2;refine⟨λq=>by simp at q,λq=>?_⟩;have:=q.2 c h3;omega
 rw[if_neg h2];simp only[ro,ma,decide_eq_true_eq,not_exists,not_and,not_or]at h2;refine⟨λ_=>⟨by omega,λc hc=>?_⟩,λ_=>rfl⟩;have:=h2 c hc;omega
variable {ρ:Type}
def zbi (p:Int->Bool)(g:Nat->Int->Option ρ)(hg:∀i x,(g i x).isSome=p x):∀(w:TB) (k:Nat),(yj g w k).isSome=w.any p
 | [],k=>rfl
 | x::w,k=>by
  simp only[yj,List.any_cons];have:=hg k x;cases hx:g k x with
  | some r=>rw[hx]at this;simp at this;simp[<-this]
  | none=>rw[hx]at this;simp at this;rw[this,nL];exact zbi p g hg w (k+1)
def z5l (n:Int)(w:TB):jW w n=some (if 16<n then 3 else if 256<w.length then 3 else if n<1 then 1 else wE n w):=by
 unfold jW;by_cases h0:16<n
 ·simp[h0]
 by_cases h:256<w.length
 ·have h':(256:Int)<(w.length:Int):=by omega
  simp[h0,h,h']
 by_cases h1:n<1
 ·have h':¬(256:Int)<(w.length:Int):=by omega
  simp[h0,h,h',h1]
 have hd:decide (((w.length:Nat):Int) > 256)=false:=by simp;omega
 have hd0:decide (n > 16)=false:=by simp;omega
 have hd1:decide (n<1)=false:=by simp;omega
 simp only[hd,hd0,hd1,cond_false,if_neg h,if_neg h0,if_neg h1];unfold wP vL wE;have hl:=wR w (by omega) (step:=λs=>xy w n s) (λi c=>if c<0\/n<=c then some (i:Int) else none) (by
  intro i c hc;have hi:i<w.length:=(pf.1 hc).1;unfold xy Vc;have hq:decide ((i:Int)<(w.length:Int))=true:=by simpa using hi
  simp only[hq,cond_true,zw hc,oB];by_cases h1:c<0
  ·simp[h1,nS]
  by_cases h2:n<=c
  ·simp[h1,h2,nS]
  simp[h1,h2,nS]) (by unfold xy;simp)
 rw[bdT hl,if_neg h];have q:=zbi (λc=>decide (c<0) || decide (n<=c)) (λi c=>if c<0\/n<=c then some (i:Int) else none) (λi c=>by by_cases h:c<0\/n<=c <;> simp[h] <;> simpa using h) w 0;cases hf:yj (λi c=>if c<0\/n<=c then some (i:Int) else none) w 0 with
 | none=>rw[hf]at q;rw[<-q];rfl
 | some r=>
  rw[hf]at q;obtain⟨i,x,h1,h2⟩:=uo hf;rw[<-q];split at h2
  ·cases h2;simp[oS]
  cases h2
def eS (e:Int):Option Int:=if e=0 then none else some e
def loE (n:Int)(l:TA):Int:=if 16<n then 3 else if 4096<l.length then 3 else if n<1 then 1 else(yj (λ_ w=>eS (wE n w)) l 0).getD 0
def z8t:∀{l:TA} {k:Nat},(yj (λ_ w=>eS (wE n w)) l k).getD 0=0↔∀w∈l,wE n w=0
 | [],_=>by simp[yj]
 | w::l,k=>by
  by_cases h:wE n w=0
  ·have:eS (wE n w)=none:=by simp[eS,h]
   simp only[yj,this];rw[z8t];simp[h]
  have:eS (wE n w)=some (wE n w):=by simp[eS,h]
  simp[yj,this,h]
def Ki:loE n l=0↔(1<=n/\n<=16)/\l.length<=4096/\∀w∈l,w.length<=256/\∀c∈w,0<=c/\c<n:=by
 unfold loE;by_cases h0:16<n
 ·rw[if_pos h0];exact⟨λq=>by simp at q,λq=>by omega⟩
 by_cases h1:4096<l.length
 ·rw[if_neg h0,if_pos h1];exact⟨λq=>by simp at q,λq=>by omega⟩
 by_cases h2:n<1
 ·rw[if_neg h0,if_neg h1,if_pos h2];exact⟨λq=>by simp at q,λq=>by omega⟩
 rw[if_neg h0,if_neg h1,if_neg h2,z8t];constructor
 ·intro q;exact⟨by omega,by omega,λw hw=>z6D.1 (q w hw)⟩
 intro q w hw;exact z6D.2 (q.2.2 w hw)
def z4z (l:TA)(n:Int):Xt l n=some (loE n l):=by
 unfold Xt loE;by_cases h0:16<n
 ·simp[h0]
 by_cases h1:4096<l.length
 ·have h':(4096:Int)<(l.length:Int):=by omega
  simp[h0,h1,h']
 by_cases h2:n<1
 ·have h':¬(4096:Int)<(l.length:Int):=by omega
  simp[h0,h1,h2,h']
 have d0:decide (n > 16)=false:=by simp;omega
 have d1:decide (((l.length:Nat):Int) > 4096)=false:=by simp;omega
 have d2:decide (n<1)=false:=by simp;omega
 simp only[d0,d1,d2,cond_false,if_neg h0,if_neg h1,if_neg h2];rw[bdT (wR l (by omega) (step:=λs=>Y2 l n s) (λ_ w=>eS (wE n w)) ?_ ?_)]
 ·cases yj (λ_ w=>eS (wE n w)) l 0 <;> rfl
 ·intro i w hw;have hi:i<l.length:=(pf.1 hw).1;have hq:decide ((i:Int)<(l.length:Int))=true:=by simpa using hi
  have he:jW w n=some (wE n w):=by
   rw[z5l,if_neg h0,if_neg h2];by_cases h:256<w.length
   ·rw[if_pos h];unfold wE;rw[if_pos h]
   rw[if_neg h]
  unfold Y2;simp only[hq,cond_true,zw hw,oB,he];by_cases hz:wE n w=0
  ·simp[hz,eS,nS]
  have hb:(wE n w != 0)=true:=by simpa using hz
  simp[hz,hb,eS,nS]
 unfold Y2;simp
def ze7 (l:TA)(hl:l.length<4611686018427387904){step:Int×Int->Option (LR (Int×Int) Int)}
  (h:∀(n:Int) (i:Nat) (x:TB),l[i]?=some x->step (n,(i:Int))=some (.next (w64 (n+((x.length:Nat):Int)),w64 ((i:Int)+1)))) (h2:∀n,step (n,(l.length:Int))=some (.done n)) :
  loop step (0,0)=some (l.foldl (λn x=>w64 (n+((x.length:Nat):Int))) 0):=by
 have gen:∀(m k:Nat) (n:Int),k<=l.length->l.length - k<m->QX step m (n,(k:Int))=some ((l.drop k).foldl (λn x=>w64 (n+((x.length:Nat):Int))) n):=by
  intro m;induction m with
  | zero=>intro k n _ h;omega
  | succ m ih=>
   intro k n hk hn;rw[qV];rcases pF k l.length with hlt|hge
   ·have hx:l[k]?=some l[k]:=pe hlt;rw[h n k _ hx,mI hlt];simp only[nU];rw[zJ (x:=(k:Int)+1) (by omega) (by omega)];exact ih (k+1) _ hlt (by omega)
   have:k=l.length:=by omega
   subst this;rw[h2,List.drop_length];rfl
 exact gen VL 0 0 (pO _) (by show l.length - 0<18446744073709551616;omega)
def stW (l:TA):Int:=l.foldl (λn x=>w64 (n+((x.length:Nat):Int))) 0
def z7D (l:TA)(hl:l.length<4611686018427387904):Xr l=some (stW l):=by
 unfold Xr;rw[bdT (ze7 l hl (step:=λs=>Y1 l s.1 s.2) ?_ ?_)]
 ·rfl
 ·intro n i x hx;have hi:i<l.length:=(pf.1 hx).1;have hq:decide ((i:Int)<(l.length:Int))=true:=by simpa using hi
  unfold Y1;simp only[hq,cond_true,zw hx,oB]
 intro n;unfold Y1;simp
def qn (l:TA):Nat:=(l.map List.length).sum
def zfm (h:qn l<4611686018427387904):stW l=(qn l:Int):=by
 have gen:∀(l:TA) (n:Nat),n+qn l<4611686018427387904->l.foldl (λn x=>w64 (n+((x.length:Nat):Int))) (n:Int)=((n+qn l:Nat):Int):=by
  intro l;induction l with
  | nil=>intro n _;simp[qn]
  | cons x l ih=>
   intro n hn;have hs:qn (x::l)=x.length+qn l:=by simp[qn]
   rw[hs]at hn ⊢;rw[nU,zJ (by omega) (by omega),<-Int.natCast_add,ih (n+x.length) (by omega)];congr 1;omega
 have:=gen l 0 (by omega);simpa[stW] using this
def z49 {m:Nat}(h:∀w∈l,w.length<=m):qn l<=l.length*m:=by
 induction l with
 | nil=>simp[qn]
 | cons x l ih=>
  have hs:qn (x::l)=x.length+qn l:=by simp[qn]
  have h1:=h x (by simp);have h2:=ih λw hw=>h w (by simp[hw]);rw[hs,pZ,gW];omega
def z7B:∀{l:TA},SW l↔∀i x y,l[i]?=some x->l[i+1]?=some y->Zt x y<0
 | []=>by simp[SW]
 | [x]=>⟨λ_ i a b _ h2=>by simp at h2,λ_=>by simp[SW]⟩
 | x::y::l=>by
  constructor
  ·intro h i a b h1 h2;cases i with
   | zero=>simp at h1 h2;subst h1;subst h2;exact h.head y (by simp)
   | succ i=>exact z7B.1 h.tail i a b (by simpa using h1) (by simpa using h2)
  intro h;have ht:SW (y::l):=z7B.2 λi a b h1 h2=>h (i+1) a b (by simpa using h1) (by simpa using h2);have h0:=h 0 x y rfl rfl;refine mQ.2 ⟨λz hz=>?_,ht⟩;rcases pm.1 hz with rfl|hz
  ·exact h0
  exact ZY h0 (ht.head z hz)
def z9b {α ρ:Type}(l:List α)(hl:l.length<4611686018427387904){step:Int->Option (LR Int (Unit⊕ρ))}(f:Nat->α->Option ρ)
  (h:∀(i:Nat) (x:α),1<=i->l[i]?=some x->step (i:Int)=some (nS i (f i x))) (h2:∀k:Nat,l.length<=k->step (k:Int)=some (.done (.inl ()))) :
  loop step 1=some (oS (yj f (l.drop 1) 1)):=by
 have gen:∀(n:Nat) (k:Nat),1<=k->l.length - k<n->QX step n (k:Int)=some (oS (yj f (l.drop k) k)):=by
  intro n;induction n with
  | zero=>intro k _ h;omega
  | succ n ih=>
   intro k hk hn;rw[qV];rcases pF k l.length with hlt|hge
   ·have hx:l[k]?=some l[k]:=pe hlt;rw[h k _ hk hx,mI hlt];simp only[yj];cases hf:f k l[k] with
    | some r=>rfl
    | none=>simp only[nS];rw[zJ (by omega) (by omega)];exact ih (k+1) (by omega) (by omega)
   rw[h2 k hge,mn hge];rfl
 exact gen VL 1 (pi _) (by show l.length - 1<18446744073709551616;omega)
instance (l:TA):Decidable (SW l):=by unfold SW;infer_instance
def zev (l:TA)(r:ρ):yj (λi x=>match l[i - 1]? with|some y=>if 0<=Zt y x then some r else none|none=>none) (l.drop 1) 1=if SW l then none else some r:=by
 by_cases hs:SW l
 ·rw[if_pos hs];refine VN λi x hx=>?_;rw[mK]at hx;have hi:1+i<l.length:=(pf.1 hx).1;have hy:l[1+i - 1]?=some l[i]:=by rw[show 1+i - 1=i by omega];exact pe (by omega)
  rw[hy];have:=z7B.1 hs i l[i] x (pe (by omega)) (by rw[rV];exact hx);simp only;rw[if_neg (by omega)]
 rw[if_neg hs];cases hf:yj (λi x=>match l[i - 1]? with|some y=>if 0<=Zt y x then some r else none|none=>none) (l.drop 1) 1 with
 | some r'=>
  obtain⟨i,x,h1,h2⟩:=uo hf;split at h2
  ·split at h2
   ·exact h2.symm
   cases h2
  cases h2
 | none=>
  exfalso;refine hs (z7B.2 λi x y hx hy=>?_);have:=qY hf i y (by rw[mK,rV];exact hy);rw[show 1+i - 1=i by omega,hx]at this;simp only at this;split at this
  ·cases this
  omega
def zf8 (l:TA)(h:l.length<=4096)(hw:∀w∈l,w.length<4611686018427387904):Vj l=some (decide (SW l)):=by
 unfold Vj;rw[bdT (z9b l (by omega) (step:=λs=>Y3 l s) (λi x=>match l[i - 1]? with|some y=>if 0<=Zt y x then some false else none|none=>none) ?_ ?_),zev]
 ·by_cases hs:SW l
  ·simp[hs,oS,Wu]
  simp[hs,oS]
 ·intro i x hi hx;have hil:i<l.length:=(pf.1 hx).1;have hy:l[i - 1]?=some l[i - 1]:=pe (by omega);have hq:decide ((i:Int)<(l.length:Int))=true:=by simpa using hil
  unfold Y3;rw[zJ (x:=(i:Int) - 1) (by omega) (by omega),show((i:Int) - 1)=((i - 1:Nat):Int) by omega];have hE:=Va l[i - 1] x (hw _ (pL (by omega)));simp only[hq,cond_true,zw hx,zw hy,oB,hy,hE];by_cases hc:0<=Zt l[i - 1] x
  ·simp[hc,nS]
  simp[hc,nS]
 intro k hk;unfold Y3;have:decide ((k:Int)<(l.length:Int))=false:=by simp;omega
 simp only[this,cond_false]
def chE (n:Int)(l:TA):Int:=if loE n l≠0 then loE n l else if SW l then(if 65536<qn l then 3 else 0) else 1
def z8C:chE n l=0↔loE n l=0/\SW l/\qn l<=65536:=by
 unfold chE;by_cases h:loE n l=0
 ·rw[if_neg (by simp[h])];by_cases h2:SW l
  ·rw[if_pos h2];by_cases h3:65536<qn l
   ·rw[if_pos h3];exact⟨λq=>by simp at q,λq=>by omega⟩
   rw[if_neg h3];exact⟨λ_=>⟨h,h2,by omega⟩,λ_=>rfl⟩
  rw[if_neg h2];exact⟨λq=>by simp at q,λq=>absurd q.2.1 h2⟩
 rw[if_pos h];exact⟨λq=>absurd q h,λq=>absurd q.1 h⟩
def z5Y (h:loE n l=0):l.length<=4096/\(∀w∈l,w.length<=256)/\qn l<=1048576:=by obtain⟨_,h1,h2⟩:=Ki.1 h;refine⟨h1,λw hw=>(h2 w hw).1,?_⟩;have:=z49 (m:=256) λw hw=>(h2 w hw).1;omega
def z1w (l:TA)(n:Int):ZG l n=some (chE n l):=by
 unfold ZG chE;rw[z4z];simp only[oB];by_cases h:loE n l=0
 ·obtain⟨h1,h2,h3⟩:=z5Y h;rw[zf8 l h1 λw hw=>by have:=h2 w hw;omega,z7D l (by omega),zfm (by omega)];simp only[h,bne_self_eq_false,cond_false,oB,ne_eq,not_true,if_false];by_cases hs:SW l
  ·by_cases hq:65536<qn l
   ·have:(65536:Int)<(qn l:Int):=by omega
    simp[hs,hq,this]
   have:¬(65536:Int)<(qn l:Int):=by omega
   simp[hs,hq,this]
  simp[hs]
 have hb:(loE n l != 0)=true:=by simpa using h
 simp[h,hb]
def z0U (x:zC α)(i:Nat)(v:α):(zC.setI x (i:Int) v).toL=x.toL.set i v:=by unfold zC.setI;rw[zC.toL_ofL _ _ (by simp[zC.toL]),ph]
def zg6 {x y:zC α}(h:x.toL=y.toL):x=y:=by cases x;cases y;simp only[zC.toL,List.cons.injEq,and_true]at h;simp only[zC.mk.injEq];exact h
instance:LawfulBEq (zC (jD Int)):={
 eq_of_beq:=by
  intro a b h;cases a;cases b;simp only[BEq.beq,pE,decide_eq_true_eq]at h;simp only[zC.mk.injEq];obtain⟨⟨⟨⟨⟨⟨⟨⟨⟨⟨⟨⟨⟨⟨⟨h0,h1⟩,h2⟩,h3⟩,h4⟩,h5⟩,h6⟩,h7⟩,h8⟩,h9⟩,h10⟩,h11⟩,h12⟩,h13⟩,h14⟩,h15⟩:=h;have e:∀{p q:jD Int},(p.e0=q.e0/\p.e1=q.e1)->p=q:=by rintro⟨a0,a1⟩ ⟨b0,b1⟩ ⟨rfl,rfl⟩;rfl
  exact⟨e h0,e h1,e h2,e h3,e h4,e h5,e h6,e h7,e h8,e h9,e h10,e h11,e h12,e h13,e h14,e h15⟩
 rfl:=by intro a;cases a;simp[BEq.beq] }
instance:LawfulBEq zO:={
 eq_of_beq:=by intro a b h;have h:(a.block_==b.block_&&a.signature_==b.signature_)=true:=h;rw[pE,beq_iff_eq,beq_iff_eq]at h;obtain⟨a0,a1⟩:=a;obtain⟨b0,b1⟩:=b;obtain⟨h0,h1⟩:=h;have h0:a0=b0:=h0;have h1:a1=b1:=h1;rw[h0,h1]
 rfl:=by intro a;show(a.block_==a.block_&&a.signature_==a.signature_)=true;rw[beq_self_eq_true,beq_self_eq_true];rfl }
def sgN (m:z6)(p:TB)(s j:Nat):jD Int:=if j<kk m then⟨(E m s j).Out,if(E m s j).To=-1 then -1 else(p[(E m s j).To.toNat]?).getD 0⟩ else⟨0,0⟩
def zah (f g:Nat->α){n i:Nat}(v:α)(h:∀j,j<n->g j=if j=i then v else f j):((List.range n).map f).set i v=(List.range n).map g:=by
 apply gV;intro j;by_cases hj:j<n
 ·have e1:((List.range n).map g)[j]?=some (g j):=by simp[hj]
  have e2:((List.range n).map f)[j]?=some (f j):=by simp[hj]
  rw[e1,h j hj];by_cases e:j=i
  ·subst e;rw[gA (by simpa using hj),if_pos rfl]
  rw[pW (λq=>e q.symm),e2,if_neg e]
 rw[pM (by simp;omega),pM (by simp;omega)]
variable {p:TB}
section
variable {m:z6}(h:VM m)
include h
theorem zdt (hp:p.length=m.Rows.length){s:Nat}(hs:s<m.Rows.length):Ret (kE m p (s:Int)) λa=>a.toL=(List.range 16).map (sgN m p s):=by
 obtain⟨r,r1,r2,r3⟩:=h.rowAt hs;have hk:=h.kk_le;unfold kE XB;rw[bdT (zw r1),zp];refine Ret.mono ?_ λa ha=>z7.2 ha;refine zM (λst=>∃i:Nat,st.2=(i:Int)/\i<=kk m/\st.1.toL=(List.range 16).map λj=>if j<i then sgN m p s j else⟨0,0⟩) (λst=>20 - st.2.toNat) ⟨0,rfl,by omega,by simp[zC.toL,ru]⟩ (by show 20 - _<_;omega) ?_;rintro⟨a,_⟩ ⟨i,rfl,hi,ha⟩;simp only at ha;show Ret (XA p r a (i:Int)) _;unfold XA kW;rw[zD];refine⟨λhc=>?_,λhc=>?_⟩
 ·have hc:(i:Int)<((r.length:Nat):Int):=of_decide_eq_true hc;have hik:i<kk m:=by omega
  have e1:a.toL[i]?=some ⟨0,0⟩:=by rw[ha];simp[show i<16 by omega]
  have w2:w64 ((i:Int)+1)=((i+1:Nat):Int):=by rw[zJ (by omega) (by omega)];rfl
  have hed:=h.edgeAt hs hik;have step:∀v:jD Int,sgN m p s i=v->∀b:zC (jD Int),b.toL=((List.range 16).map λj=>if j<i then sgN m p s j else⟨0,0⟩).set i v->b.toL=(List.range 16).map λj=>if j<i+1 then sgN m p s j else⟨0,0⟩:=by
   intro v hv b hb;rw[hb];refine zah _ _ v λj hj=>?_;by_cases e:j=i
   ·subst e;rw[if_pos (by omega),if_pos rfl,hv]
   rw[if_neg e];by_cases e2:j<i
   ·rw[if_pos e2,if_pos (by omega)]
   rw[if_neg e2,if_neg (by omega)]
  rw[bdT (zw (r3 i hik)),bdT (zw e1),oB,zD];refine⟨λht=>?_,λht=>?_⟩
  ·have ht:(E m s i).To≠-1:=by simpa using ht
   obtain⟨t,htn⟩:∃t:Nat,(E m s i).To=t:=⟨(E m s i).To.toNat,by omega⟩;have hpt:p[t]?=some p[t]:=pe (by omega);have e2:(zC.setI a (i:Int) ⟨(E m s i).Out,-1⟩).toL[i]?=some ⟨(E m s i).Out,-1⟩:=by rw[z0U,gA (by rw[ha];simp;omega)]
   rw[htn,bdT (zw hpt),bdT (zw e2),oB,z7,w2];refine⟨⟨i+1,rfl,by omega,step _ ?_ _ (by rw[z0U,z0U,ha,List.set_set])⟩,by simp only[ph];omega⟩;unfold sgN;rw[if_pos hik,if_neg ht,htn,ph,hpt,pV]
  have ht:(E m s i).To=-1:=by simpa using ht
  rw[z7,w2];refine⟨⟨i+1,rfl,by omega,step _ ?_ _ (by rw[z0U,ha])⟩,by simp only[ph];omega⟩;unfold sgN;rw[if_pos hik,if_pos ht]
 have hc:=of_decide_eq_false hc;have:i=kk m:=by omega
 subst this;refine z7.2 ?_;show a.toL=_;rw[ha];refine nF λj hj=>?_;unfold sgN;by_cases e:j<kk m
 ·rw[if_pos e,if_pos e]
 rw[if_neg e,if_neg e]
end
def Rgf (l:TB):Prop:=∀(s:Nat) (x:Int),l[s]?=some x->∃v:Nat,x=(v:Int)/\∀w:Nat,w<v->∃t,t<s/\l[t]?=some (w:Int)
def z7T {l r:TB}(hl:Rgf l)(hr:Rgf r)(hlen:l.length=r.length)(h:∀s t:Nat,s<l.length->t<l.length->(l[s]?=l[t]?↔r[s]?=r[t]?)):l=r:=by
 have gen:∀n s,s<n->s<l.length->l[s]?=r[s]?:=by
  intro n;induction n with
  | zero=>intro s q;omega
  | succ n ih=>
   intro s hs hsl;have hx:l[s]?=some l[s]:=pe hsl;have hy:r[s]?=some r[s]:=pe (by omega);by_cases old:∃t,t<s/\l[t]?=l[s]?
   ·obtain⟨t,t1,t2⟩:=old;rw[<-t2,ih t (by omega) (by omega)];exact(h t s (by omega) hsl).1 t2
   obtain⟨v,v1,v2⟩:=hl s _ hx;obtain⟨u,u1,u2⟩:=hr s _ hy;rw[hx,hy,v1,u1];rcases mT v u with q|q|q
   ·exfalso;obtain⟨t,t1,t2⟩:=u2 v q;exact old ⟨t,t1,by rw[ih t (by omega) (by omega),t2,hx,v1]⟩
   ·rw[q]
   exfalso;obtain⟨t,t1,t2⟩:=v2 u q;have:r[t]?=r[s]?:=by rw[<-ih t (by omega) (by omega),t2,hy,u1]
   exact old ⟨t,t1,(h t s (by omega) hsl).2 this⟩
 apply gV;intro s;by_cases hs:s<l.length
 ·exact gen (s+1) s (by omega) hs
 rw[pM (by omega),pM (by omega)]
def z86 {K V:Type}[BEq K](x:K)(v:V):∀l:List (K×V),Vb l x=none->(z1Y l x v).length=l.length+1
 | [],_=>rfl
 | p::l,hg=>by
  simp only[Vb]at hg;split at hg
  ·cases hg
  rename_i q;simp only[z1Y,q];show((p::z1Y l x v).length)=_;rw[pZ,z86 x v l hg,pZ]
section
variable {m:z6}(h:VM m)
include h
def zff (m:z6)(p:TB)(s t:Nat):Prop:=p[s]?=p[t]?/\∀j,j<kk m->sgN m p s j=sgN m p t j
theorem z6U (hp:p.length=m.Rows.length):Ret (kZ m p) λq=>q.length=m.Rows.length/\Rgf q/\∀s t:Nat,s<m.Rows.length->t<m.Rows.length->(q[s]?=q[t]?↔zff m p s t):=by
 have hN:=h.len64;have hk:=h.kk_le;have hkey:∀s,s<m.Rows.length->∃key:zO,key.block_=(p[s]?).getD 0/\key.signature_.toL=(List.range 16).map (sgN m p s)/\kE m p (s:Int)=some key.signature_:=by intro s hs;obtain⟨a,a1,a2⟩:=zdt h hp hs;exact⟨⟨(p[s]?).getD 0,a⟩,rfl,a2,a1⟩
 have:∃key:Nat->zO,∀s,s<m.Rows.length->(key s).block_=(p[s]?).getD 0/\(key s).signature_.toL=(List.range 16).map (sgN m p s)/\kE m p (s:Int)=some (key s).signature_:=by
  classical
  refine⟨λs=>if q:s<m.Rows.length then(hkey s q).choose else⟨0,zC.mk ⟨0,0⟩ ⟨0,0⟩ ⟨0,0⟩ ⟨0,0⟩ ⟨0,0⟩ ⟨0,0⟩ ⟨0,0⟩ ⟨0,0⟩ ⟨0,0⟩ ⟨0,0⟩ ⟨0,0⟩ ⟨0,0⟩ ⟨0,0⟩ ⟨0,0⟩ ⟨0,0⟩ ⟨0,0⟩⟩,λs hs=>?_⟩;simp only[hs,dif_pos];exact(hkey s hs).choose_spec
 obtain⟨key,hkey⟩:=this;have alike:∀s t,s<m.Rows.length->t<m.Rows.length->(key s=key t↔zff m p s t):=by
  intro s t hs ht;obtain⟨a1,a2,_⟩:=hkey s hs;obtain⟨b1,b2,_⟩:=hkey t ht;have xs:p[s]?=some p[s]:=pe (by omega);have xt:p[t]?=some p[t]:=pe (by omega);rw[xs,pV]at a1;rw[xt,pV]at b1;constructor
  ·intro e;refine⟨by rw[xs,xt,<-a1,<-b1,e],λj hj=>?_⟩;have e2:(List.range 16).map (sgN m p s)=(List.range 16).map (sgN m p t):=by rw[<-a2,<-b2,e]
   have:=congrArg (λl=>l[j]?) e2;simpa[show j<16 by omega] using this
  rintro⟨e1,e2⟩;have e3:(key s).signature_=(key t).signature_:=zg6 (by
   rw[a2,b2];refine nF λj hj=>?_;by_cases q:j<kk m
   ·exact e2 j q
   unfold sgN;rw[if_neg q,if_neg q])
  have e4:(key s).block_=(key t).block_:=by rw[a1,b1];rw[xs,xt]at e1;exact Option.some.inj e1
  revert e3 e4;generalize key s=u;generalize key t=v;intro e3 e4;obtain⟨u0,u1⟩:=u;obtain⟨v0,v1⟩:=v;simp only at e3 e4;rw[e3,e4]
 unfold kZ kY;rw[gdT (by omega),zp];refine Ret.mono ?_ λq hq=>z7.2 hq;refine zM (λst=>∃i:Nat,st.2.2=(i:Int)/\i<=m.Rows.length/\st.2.1.length=m.Rows.length/\(∀s,s<i->∃v:Nat,st.2.1[s]?=some (v:Int)/\v<st.1.length/\Vb st.1 (key s)=some (v:Int)/\∀w:Nat,w<v->∃t,t<s/\st.2.1[t]?=some (w:Int))/\(∀w:Nat,w<st.1.length->∃t,t<i/\st.2.1[t]?=some (w:Int)) /\
   (∀k v,Vb st.1 k=some v->∃t,t<i/\key t=k)/\∀s t:Nat,s<i->t<i->st.2.1[s]?=st.2.1[t]?->key s=key t) (λst=>100 - st.2.2.toNat) ⟨0,rfl,by omega,by simp[hp],λs q=>by omega,λw q=>by simp at q,λk v q=>by simp[Vb]at q,λs t q=>by omega⟩ (by show 100 - _<_;omega) ?_
 rintro⟨names,out,_⟩ ⟨i,rfl,hi,ho,h1,h2,h3,h4⟩;simp only at ho h1 h2 h3 h4;show Ret (kX m p names out (i:Int)) _;unfold kX;rw[zD];refine⟨λhc=>?_,λhc=>?_⟩
 ·have hc:(i:Int)<((p.length:Nat):Int):=of_decide_eq_true hc;have hiN:i<m.Rows.length:=by omega
  obtain⟨a1,a2,a3⟩:=hkey i hiN;have xi:p[i]?=some p[i]:=pe (by omega);rw[xi,pV]at a1;have hmk:zO.mk p[i] (key i).signature_=key i:=by rw[<-a1]
  have w2:w64 ((i:Int)+1)=((i+1:Nat):Int):=by rw[zJ (by omega) (by omega)];rfl
  have hoi:out[i]?=some out[i]:=pe (by omega);rw[bdT (zw xi),bdT a3,oB,hmk];cases hg:Vb names (key i) with
  | none=>
   rw[Option.isSome_none,mE,cond_true];unfold ve;have hfresh:∀t,t<i->key t≠key i:=λt ht e=>by obtain⟨v,_,_,v3,_⟩:=h1 t ht;rw[e,hg]at v3;cases v3
   have hlen:=z86 (key i) ((names.length:Nat):Int) names hg;rw[hmk,z0Y,if_pos (by simp),pV,oB,bdT (zw hoi),z7,w2,ph];have keep:∀t:Nat,t<i->(out.set i ((names.length:Nat):Int))[t]?=out[t]?:=λt ht=>pW (by omega);have new:(out.set i ((names.length:Nat):Int))[i]?=some ((names.length:Nat):Int):=gA (by omega);refine⟨⟨i+1,rfl,by omega,by simp[ho],λs hs=>?_,λw hw=>?_,λk v q=>?_,λs t hs ht q=>?_⟩,by simp only[ph];omega⟩
   ·simp only
    by_cases e:s=i
    ·subst e;refine⟨names.length,new,by omega,by rw[z0Y,if_pos (by simp)],λw hw=>?_⟩;obtain⟨t,t1,t2⟩:=h2 w hw;exact⟨t,t1,by rw[keep t t1];exact t2⟩
    obtain⟨v,v1,v2,v3,v4⟩:=h1 s (by omega);refine⟨v,by rw[keep s (by omega)];exact v1,by omega,?_,λw hw=>?_⟩
    ·rw[z0Y,if_neg (by simpa using λq=>hfresh s (by omega) q.symm)];exact v3
    obtain⟨t,t1,t2⟩:=v4 w hw;exact⟨t,t1,by rw[keep t (by omega)];exact t2⟩
   ·simp only at hw ⊢;by_cases e:w<names.length
    ·obtain⟨t,t1,t2⟩:=h2 w e;exact⟨t,by omega,by rw[keep t t1];exact t2⟩
    have:w=names.length:=by omega
    subst this;exact⟨i,by omega,new⟩
   ·simp only at q;rw[z0Y]at q;by_cases e:key i=k
    ·exact⟨i,by omega,e⟩
    rw[if_neg (by simpa using e)]at q;obtain⟨t,t1,t2⟩:=h3 k v q;exact⟨t,by omega,t2⟩
   simp only at q;have low:∀t,t<i->out[t]?≠some ((names.length:Nat):Int):=λt ht g=>by obtain⟨v,v1,v2,_⟩:=h1 t ht;rw[v1]at g;have:=Option.some.inj g;omega
   by_cases es:s=i
   ·by_cases et:t=i
    ·rw[es,et]
    exfalso;rw[es,new,keep t (by omega)]at q;exact low t (by omega) q.symm
   by_cases et:t=i
   ·exfalso;rw[et,new,keep s (by omega)]at q;exact low s (by omega) q
   rw[keep s (by omega),keep t (by omega)]at q;exact h4 s t (by omega) (by omega) q
  | some v=>
   rw[Option.isSome_some,gU,cond_false];unfold ve;obtain⟨t0,t1,t2⟩:=h3 _ _ hg;obtain⟨u,u1,u2,u3,u4⟩:=h1 t0 t1;rw[t2,hg]at u3;have hvu:v=(u:Int):=Option.some.inj u3;rw[hmk,hg,pV,oB,bdT (zw hoi),z7,w2,ph];have keep:∀t:Nat,t<i->(out.set i v)[t]?=out[t]?:=λt ht=>pW (by omega);have new:(out.set i v)[i]?=some v:=gA (by omega);refine⟨⟨i+1,rfl,by omega,by simp[ho],λs hs=>?_,λw hw=>?_,λk v q=>?_,λs t hs ht q=>?_⟩,by simp only[ph];omega⟩
   ·simp only
    by_cases e:s=i
    ·subst e;refine⟨u,by rw[new,hvu],u2,by rw[hg,hvu],λw hw=>?_⟩;obtain⟨t,g1,g2⟩:=u4 w hw;exact⟨t,by omega,by rw[keep t (by omega)];exact g2⟩
    obtain⟨v',v1,v2,v3,v4⟩:=h1 s (by omega);refine⟨v',by rw[keep s (by omega)];exact v1,v2,v3,λw hw=>?_⟩;obtain⟨t,g1,g2⟩:=v4 w hw;exact⟨t,g1,by rw[keep t (by omega)];exact g2⟩
   ·simp only at hw ⊢;obtain⟨t,g1,g2⟩:=h2 w hw;exact⟨t,by omega,by rw[keep t g1];exact g2⟩
   ·obtain⟨t,g1,g2⟩:=h3 k v q;exact⟨t,by omega,g2⟩
   simp only at q;have like:∀t,t<i->out[t]?=some v->key t=key i:=λt ht g=>by rw[<-t2];exact h4 t t0 ht t1 (by rw[g,u1,hvu])
   by_cases es:s=i
   ·by_cases et:t=i
    ·rw[es,et]
    rw[es,new,keep t (by omega)]at q;rw[es];exact(like t (by omega) q.symm).symm
   by_cases et:t=i
   ·rw[et,new,keep s (by omega)]at q;rw[et];exact like s (by omega) q
   rw[keep s (by omega),keep t (by omega)]at q;exact h4 s t (by omega) (by omega) q
 have hc:=of_decide_eq_false hc;have:i=m.Rows.length:=by omega
 subst this;refine z7.2 ⟨ho,λs x hx=>?_,λs t hs ht=>?_⟩
 ·have hs:s<m.Rows.length:=by have:=(pf.1 hx).1;omega
  obtain⟨v,v1,_,_,v4⟩:=h1 s hs;rw[hx]at v1;exact⟨v,Option.some.inj v1,v4⟩
 rw[<-alike s t hs ht];refine⟨h4 s t hs ht,λe=>?_⟩;obtain⟨v,v1,_,v3,_⟩:=h1 s hs;obtain⟨u,u1,_,u3,_⟩:=h1 t ht;rw[e,u3]at v3;rw[v1,u1,<-Option.some.inj v3]
end
def zbp (a b:TB)(ha:a.length<4611686018427387904):vF a b=some (decide (a=b)):=by
 unfold vF ue;by_cases hl:a.length=b.length
 ·have e:(((a.length:Nat):Int) !=((b.length:Nat):Int))=false:=by simp[hl]
  rw[e,cond_false,wR a ha (step:=λs=>ww a b s) (λi x=>if b[i]?=some x then none else some false) ?_ ?_]
  ·by_cases q:a=b
   ·rw[VN λi x hx=>by rw[gJ,<-q,if_pos hx]];simp[oS,q]
   cases hf:yj (λi x=>if b[i]?=some x then none else some false) a 0 with
   | none=>
    exfalso;refine q (gV λi=>?_);by_cases hi:i<a.length
    ·have hx:a[i]?=some a[i]:=pe hi;have:=qY hf i _ hx;rw[gJ]at this;split at this
     ·rename_i g;rw[hx,g]
     cases this
    rw[pM (by omega),pM (by omega)]
   | some r=>
    obtain⟨i,x,_,h2⟩:=uo hf;split at h2
    ·cases h2
    cases h2;simp[oS,q]
  ·intro i x hx;have hi:=(pf.1 hx).1;have hy:b[i]?=some b[i]:=pe (by omega);unfold ww;rw[decide_eq_true (by omega),cond_true,bdT (zw hx),bdT (zw hy),hy];by_cases e2:x=b[i]
   ·rw[e2,bne_self_eq_false,cond_false,if_pos rfl];rfl
   have e3:(x != b[i])=true:=by simpa using e2
   rw[e3,cond_true,if_neg λg=>e2 (Option.some.inj g).symm];rfl
  unfold ww;rw[decide_eq_false (by omega),cond_false]
 have e:(((a.length:Nat):Int) !=((b.length:Nat):Int))=true:=by simpa using λg:(a.length:Int)=b.length=>hl (by omega)
 rw[e,cond_true,decide_eq_false λq=>hl (by rw[q])]
section
variable {m:z6}(h:VM m)
include h
omit h in theorem seq_out {s t:Nat} (q:SEq m s t) {j:Nat} (hj:j<kk m):(E m s j).Out=(E m t j).Out/\∀w:TC,(∀i∈w,i<kk m)->rsp m (E m s j).To w=rsp m (E m t j).To w:=by
 have gen:∀w:TC,(∀i∈w,i<kk m)->(E m s j).Out=(E m t j).Out/\rsp m (E m s j).To w=rsp m (E m t j).To w:=by intro w hw;have:=q (j::w) (λi hi=>by rcases pm.1 hi with rfl|g;exact hj;exact hw i g);simp only[rsp,jY,List.cons.injEq]at this;exact this
 exact⟨(gen [] (by simp)).1,λw hw=>(gen w hw).2⟩
theorem z9V (hp:p.length=m.Rows.length)(hq:∀s t,s<m.Rows.length->t<m.Rows.length->SEq m s t->p[s]?=p[t]?){s t:Nat}(hs:s<m.Rows.length)(ht:t<m.Rows.length)(q:SEq m s t):zff m p s t:=by
 refine⟨hq s t hs ht q,λj hj=>?_⟩;obtain⟨o1,o2⟩:=seq_out q hj;have hes:=h.edgeAt hs hj;have het:=h.edgeAt ht hj;unfold sgN;rw[if_pos hj,if_pos hj,o1];rcases hes with⟨a1,a2⟩|⟨a1,a2,a3,a4⟩
 ·rcases het with⟨b1,b2⟩|⟨b1,b2,b3,b4⟩
  ·rw[if_pos a1,if_pos b1]
  omega
 rcases het with⟨b1,b2⟩|⟨b1,b2,b3,b4⟩
 ·omega
 rw[if_neg (by omega),if_neg (by omega)];have e1:(((E m s j).To.toNat:Nat):Int)=(E m s j).To:=by omega
 have e2:(((E m t j).To.toNat:Nat):Int)=(E m t j).To:=by omega
 have:=hq _ _ (by omega) (by omega) (show SEq m (E m s j).To.toNat (E m t j).To.toNat from λw hw=>by rw[e1,e2];exact o2 w hw);rw[this]
theorem zbk (hp:p.length=m.Rows.length)(hr:Rgf p)(hf:∀s t,s<m.Rows.length->t<m.Rows.length->p[s]?=p[t]?->zff m p s t):∀(w:TC) (s t:Nat),s<m.Rows.length->t<m.Rows.length->p[s]?=p[t]?->(∀i∈w,i<kk m)->rsp m (s:Int) w=rsp m (t:Int) w
 | [],_,_,_,_,_,_=>rfl
 | j::w,s,t,hs,ht,e,hw=>by
  have hj:j<kk m:=hw j (by simp);have hw':∀i∈w,i<kk m:=λi hi=>hw i (by simp[hi]);have hal:=(hf s t hs ht e).2 j hj;have hes:=h.edgeAt hs hj;have het:=h.edgeAt ht hj;have pos:∀u:Nat,u<m.Rows.length->0<=(p[u]?).getD 0:=λu hu=>by have hx:p[u]?=some p[u]:=pe (by omega);obtain⟨v,v1,_⟩:=hr u _ hx;rw[hx,pV,v1];omega
  unfold sgN at hal;rw[if_pos hj,if_pos hj]at hal;have a0:=congrArg jD.e0 hal;have a1:=congrArg jD.e1 hal;simp only at a0 a1;simp only[rsp,jY,a0,List.cons.injEq,true_and];rcases hes with⟨b1,b2⟩|⟨b1,b2,b3,b4⟩
  ·rcases het with⟨c1,c2⟩|⟨c1,c2,c3,c4⟩
   ·rw[b1,c1]
   rw[if_pos b1,if_neg (by omega)]at a1;have:=pos (E m t j).To.toNat (by omega);omega
  rcases het with⟨c1,c2⟩|⟨c1,c2,c3,c4⟩
  ·rw[if_neg (by omega),if_pos c1]at a1;have:=pos (E m s j).To.toNat (by omega);omega
  rw[if_neg (by omega),if_neg (by omega)]at a1;have x1:p[(E m s j).To.toNat]?=some p[(E m s j).To.toNat]:=pe (by omega);have x2:p[(E m t j).To.toNat]?=some p[(E m t j).To.toNat]:=pe (by omega);have:=zbk hp hr hf w (E m s j).To.toNat (E m t j).To.toNat (by omega) (by omega) (by rw[x1,x2]at a1 ⊢;exact congrArg some a1) hw';have e1:(((E m s j).To.toNat:Nat):Int)=(E m s j).To:=by omega
  have e2:(((E m t j).To.toNat:Nat):Int)=(E m t j).To:=by omega
  rw[e1,e2]at this;exact this
def Qo (N:Nat)(p:TB):Nat:=((List.range N).flatMap λs=>(List.range N).map λt=>(s,t)).countP λx=>decide (p[x.1]?=p[x.2]?)
omit h in
theorem z5W {N s t:Nat}:(s,t)∈((List.range N).flatMap λs=>(List.range N).map λt=>(s,t))↔s<N/\t<N:=by
 simp only[mA,pX,gO,Prod.mk.injEq];constructor
 ·rintro⟨a,ha,b,hb,rfl,rfl⟩;exact⟨ha,hb⟩
 rintro⟨a,b⟩;exact⟨s,a,t,b,rfl,rfl⟩
theorem z9m:Ret (Z9 m) λr=>r.2.2=0/\r.1.length=m.Rows.length/\Rgf r.1/\∀s t:Nat,s<m.Rows.length->t<m.Rows.length->(r.1[s]?=r.1[t]?↔SEq m s t):=by
 have hN:=h.len64;have hN1:=h.len1;unfold Z9 Wv;rw[VT,z2q h,oB,bne_self_eq_false,cond_false,oB];unfold jS;rw[gdT (by omega),zp,zp];have e0:((m.Rows.length:Nat):Int).toNat=m.Rows.length:=by simp
 rw[e0];refine(zM (R:=λy:LR (TB×Int) Empty=>∃p n,y=.next (p,n)/\p.length=m.Rows.length/\Rgf p/\∀s t:Nat,s<m.Rows.length->t<m.Rows.length->(p[s]?=p[t]?↔SEq m s t))
  (λst:LR (TB×Int) Empty×TB=>(∃x,st.1=.next x)/\st.2.length=m.Rows.length/\Rgf st.2/\∀s t:Nat,s<m.Rows.length->t<m.Rows.length->SEq m s t->st.2[s]?=st.2[t]?) (λst=>Qo m.Rows.length st.2) ⟨⟨_,rfl⟩,by simp,?_,?_⟩ ?_ ?_).mono ?_
 ·intro s x hx;simp only[gN]at hx;split at hx
  ·cases hx;exact⟨0,rfl,λw q=>by omega⟩
  cases hx
 ·intro s t hs ht _;simp only[gN];rw[if_pos hs,if_pos ht]
 ·have:Qo m.Rows.length (List.replicate m.Rows.length (0:Int))<=((List.range m.Rows.length).flatMap λs=>(List.range m.Rows.length).map λt=>(s,t)).length:=rF;have e:((List.range m.Rows.length).flatMap λs=>(List.range m.Rows.length).map λt=>(s,t)).length=m.Rows.length*m.Rows.length:=by rw[List.length_flatMap];simp only[gC,List.length_range,List.map_const',List.sum_replicate_nat]
  rw[e]at this;have:=mV hN hN;show Qo m.Rows.length (List.replicate m.Rows.length (0:Int))<18446744073709551616;omega
 ·rintro⟨y,p⟩ ⟨⟨⟨x,n⟩,rfl⟩,hp,hr,hq⟩;simp only at hp hr hq;show Ret (ug m (yOf λs x=>vg s.1 s.2 x) (.next (x,n)) p) _;unfold ug;simp only[yOf,vg,oB,cond_true];rw[zp];refine(z6U h hp).mono ?_;rintro q ⟨q1,q2,q3⟩;rw[zbp p q (by omega),oB,zD];refine⟨λhc=>?_,λhc=>?_⟩
  ·have hc:p=q:=of_decide_eq_true hc;rw[z7];refine⟨p,w64 (n+1),rfl,hp,hr,λs t hs ht=>⟨λe w hw=>?_,hq s t hs ht⟩⟩;exact zbk h hp hr (λs t hs ht e=>(q3 s t hs ht).1 (by rw[<-hc];exact e)) w s t hs ht e hw
  have hc:¬p=q:=of_decide_eq_false hc;rw[z7];refine⟨⟨⟨_,rfl⟩,q1,q2,λs t hs ht e=>(q3 s t hs ht).2 (z9V h hp hq hs ht e)⟩,?_⟩;show Qo m.Rows.length q<Qo m.Rows.length p;unfold Qo;refine z2n (λz hz hd=>?_) ?_
  ·obtain⟨s,t⟩:=z;obtain⟨hs,ht⟩:=z5W.1 hz;simp only[decide_eq_true_eq]at hd ⊢;exact((q3 s t hs ht).1 hd).1
  refine gM λg=>hc (z7T hr q2 (by omega) λs t hs ht=>⟨λe=>?_,λe=>((q3 s t (by omega) (by omega)).1 e).1⟩);refine gM λg2=>g ⟨(s,t),z5W.2 ⟨by omega,by omega⟩,by simpa using e,by simpa using g2⟩
 rintro y ⟨p,n,rfl,g1,g2,g3⟩;rw[z7];unfold Z8;simp only;rw[z7];exact⟨rfl,g1,g2,g3⟩
end
def Qg (w:TB):zP w=some w:=by unfold zP;rw[gdT (by omega)];simp
def zeK (l:TA):xC l=some l:=by unfold xC;rw[gdT (by omega)];simp
def z4L (w:TB)(h:w.length<=4294967296):y8 w=some w:=by unfold y8;rw[gdT (by simpa using h)]
def z7M (a b:TB)(h:a.length<4611686018427387904):jF a b=some (decide (a=b)):=by
 unfold jF;rw[Va a b h];simp only[oB];by_cases e:a=b
 ·subst e;simp[Qe]
 have:Zt a b≠0:=λq=>e (z2o q);simp[e,this]
def QW (l:TA):Prop:=l.Pairwise λa b=>¬Zt b a<0
def Wj {l:List α}{n:Nat}{x:α}:x∈l.take n↔∃i,i<n/\l[i]?=some x:=by
 rw[gI];constructor
 ·rintro⟨i,h⟩;rw[pQ]at h;split at h
  ·exact⟨i,by omega,h⟩
  cases h
 rintro⟨i,h1,h2⟩;exact⟨i,by rw[pQ,if_pos h1];exact h2⟩
def z9I (h:SW l)(hx:∀y∈l,Zt y x<0):SW (l++[x]):=by unfold SW;rw[nC];exact⟨h,by simp,λa ha b hb=>by simp at hb;subst hb;exact hx a ha⟩
section
variable {s:TA}(hq:QW s)(hl:s.length<=4294967296)(hw:∀w∈s,w.length<4611686018427387904)
include hq hl hw
omit hl hw in
theorem zdN {i j:Nat}{x y:TB}(hi:s[i]?=some x)(hj:s[j]?=some y)(h:i<=j):Zt x y<0\/x=y:=by
 rcases pF i j with h|h
 ·have:=(mH.1 hq) i j (pf.1 hi).1 (pf.1 hj).1 h;rw[(pf.1 hi).2,(pf.1 hj).2]at this;rcases z7l.1 this with q|q
  ·exact .inl q
  exact .inr q.symm
 have:i=j:=by omega
 subst this;rw[hi]at hj;exact .inr (by simpa using hj)
theorem z6m (h1:1<=k)(hk:k<s.length)(hd:s[k - 1]?=s[k]?)(hs:SW (s.take k)) :
  Ret (Option.bind (loop (λq=>yU (k:Int) q.1 q.2.1 q.2.2) (s,(k:Int),1)) λt=>yi t.1 t.2) λr=>r=.done (.inr (srt s)):=by
 rw[zp];refine Ret.mono (zM (λq=>∃kk k2:Nat,q.2.1=(kk:Int)/\q.2.2=(k2:Int)/\1<=k2/\k+k2<=s.length/\kk<k+k2/\q.1.length=s.length/\(∀i,kk<=i->q.1[i]?=s[i]?)/\SW (q.1.take kk)/\∀x,x∈q.1.take kk↔x∈s.take (k+k2)) (λq=>s.length - q.2.2.toNat) (R:=λt=>∃kk:Nat,t.2=(kk:Int)/\kk<=s.length/\t.1.length=s.length/\t.1.take kk=srt s) ?_ ?_ ?_) ?_
 ·refine⟨k,1,rfl,rfl,pi _,hk,by omega,rfl,λ_ _=>rfl,hs,λx=>?_⟩;rw[Wj,Wj];constructor
  ·rintro⟨i,h2,h3⟩;exact⟨i,by omega,h3⟩
  rintro⟨i,h2,h3⟩;rcases pF i k with h|h
  ·exact⟨i,h,h3⟩
  have:i=k:=by omega
  subst this;exact⟨i - 1,by omega,by rw[hd];exact h3⟩
 ·show s.length - _<_;omega
 ·rintro⟨S,a,b⟩ ⟨kk,k2,rfl,rfl,g1,g2,g3,g4,g5,g6,g7⟩;simp only at g4 g5 g6 g7;show Ret (yU (k:Int) S (kk:Int) (k2:Int)) _;unfold yU;rw[zD];refine⟨λhc=>?_,λhc=>?_⟩
  ·have hlt:k2<s.length - k:=by rw[g4]at hc;simpa using hc
   have e1:s[k+k2]?=some s[k+k2]:=pe (by omega);have e2:s[k+k2 - 1]?=some s[k+k2 - 1]:=pe (by omega);have f1:idx S ((k:Int)+(k2:Int))=some s[k+k2]:=by rw[<-Int.natCast_add,zS,g5 _ (by omega),e1]
   have f2:idx S ((k:Int)+w64 ((k2:Int) - 1))=some s[k+k2 - 1]:=by rw[zJ (by omega) (by omega),show(k:Int)+((k2:Int) - 1)=((k+k2 - 1:Nat):Int) by omega,zS,g5 _ (by omega),e2]
   rw[gdT (by omega),f1];simp only[oB];rw[gdT (by rw[zJ (by omega) (by omega)];omega),f2];simp only[oB];rw[z7M _ _ (hw _ (pL (by omega)))];simp only[oB];have hk2:w64 ((k2:Int)+1)=((k2+1:Nat):Int):=by rw[zJ (by omega) (by omega)];omega
   by_cases he:s[k+k2]=s[k+k2 - 1]
   ·simp only[he,decide_true,gU,cond_false];unfold yh;rw[hk2,z7];refine⟨⟨kk,k2+1,rfl,rfl,by omega,by omega,by omega,g4,g5,g6,λx=>?_⟩,by simp only[ph];omega⟩;rw[g7,Wj,Wj];constructor
    ·rintro⟨i,h2,h3⟩;exact⟨i,by omega,h3⟩
    rintro⟨i,h2,h3⟩;rcases pF i (k+k2) with h|h
    ·exact⟨i,h,h3⟩
    have:i=k+k2:=by omega
    subst this;exact⟨k+k2 - 1,by omega,by rw[e2,<-he,<-e1];exact h3⟩
   simp only[he,decide_false,mE,cond_true];rw[gdT (by omega)];have e3:idx S (kk:Int)=some s[kk]:=by rw[zS,g5 _ (pi _),pe (by omega)]
   rw[e3];simp only[oB];unfold yh;rw[hk2,zJ (x:=(kk:Int)+1) (by omega) (by omega),z7];have hset:(S.set ((kk:Int).toNat) s[k+k2]).take (kk+1)=S.take kk++[s[k+k2]]:=by rw[ph,gt,List.take_set_of_le (pi _),gA (by omega)];rfl
   refine⟨⟨kk+1,k2+1,rfl,rfl,by omega,by omega,by omega,by simp[g4],λi hi=>?_,?_,λx=>?_⟩,by simp only[ph];omega⟩
   ·simp only
    rw[pW (by omega),g5 _ (by omega)]
   ·simp only
    rw[hset];refine z9I g6 λy hy=>?_;obtain⟨i,h2,h3⟩:=Wj.1 ((g7 y).1 hy);have hlast:Zt s[k+k2 - 1] s[k+k2]<0:=by
     rcases zdN hq e2 e1 (by omega) with q|q
     ·exact q
     exact absurd q.symm he
    rcases zdN hq h3 e2 (by omega) with q|q
    ·exact ZY q hlast
    rw[q];exact hlast
   simp only
   rw[hset,pg,g7,Wj,Wj];constructor
   ·rintro(⟨i,h2,h3⟩|h)
    ·exact⟨i,by omega,h3⟩
    simp at h;subst h;exact⟨k+k2,by omega,e1⟩
   rintro⟨i,h2,h3⟩;rcases pF i (k+k2) with h|h
   ·exact .inl ⟨i,h,h3⟩
   have:i=k+k2:=by omega
   subst this;rw[e1]at h3;exact .inr (by simpa using h3.symm)
  have hge:s.length - k<=k2:=by rw[g4]at hc;simpa using hc
  have hkk:k+k2=s.length:=by omega
  rw[z7];refine⟨kk,rfl,by omega,g4,z9O g6 λx=>?_⟩;rw[g7,hkk,gL]
 rintro⟨S,a⟩ ⟨kk,rfl,h1,h2,h3⟩;simp only at h2 h3;show Ret (yi S (kk:Int)) _;unfold yi;have hlen:(S.take (kk:Int).toNat++List.replicate (S.length - (kk:Int).toNat) ([]:TB)).length=S.length:=by simp[pP];omega
 rw[gdT (by omega),gdT (by omega),gdT (by rw[hlen];omega),z7];simp only[ph];rw[List.take_left' (by rw[pP];omega),h3]
theorem z9l:xA s ()=some (srt s):=by
 unfold xA;by_cases h2:s.length<2
 ·have hd:decide (((s.length:Nat):Int)<2)=true:=by simp;omega
  simp only[hd,cond_true];rw[K4];match s,h2 with
  | [],_=>exact SW.nil
  | [x],_=>simp[SW]
 have hd:decide (((s.length:Nat):Int)<2)=false:=by simp;omega
 simp only[hd,cond_false];apply Ret.eq;rw[zp];refine Ret.mono (zM (λq:Int=>∃j:Nat,q=(j:Int)/\1<=j/\j<=s.length/\SW (s.take j)) (λq=>s.length - q.toNat) (R:=λt:Unit⊕TA=>match t with|.inl _=>srt s=s|.inr p=>p=srt s) ?_ ?_ ?_) ?_
 ·refine⟨1,rfl,pi _,by omega,?_⟩;match s,h2 with
  | [],h2=>simp at h2
  | x::l,_=>simp[SW]
 ·show s.length - _<_;omega
 ·rintro _ ⟨j,rfl,g1,g2,g3⟩;show Ret (xZ s (j:Int)) _;unfold xZ;rw[zD];refine⟨λhc=>?_,λhc=>?_⟩
  ·have hj:j<s.length:=by simpa using hc
   have e1:s[j]?=some s[j]:=pe hj;have e2:s[j - 1]?=some s[j - 1]:=pe (by omega);rw[zJ (x:=(j:Int) - 1) (by omega) (by omega),show(j:Int) - 1=((j - 1:Nat):Int) by omega,zw e1,zw e2];simp only[oB];rw[z7M _ _ (hw _ (pL hj))];simp only[oB];by_cases he:s[j]=s[j - 1]
   ·simp only[he,decide_true,cond_true];rw[gdT (by omega)];refine(z6m hq hl hw g1 hj (by rw[e1,e2,he]) g3).mono ?_;rintro _ rfl;rfl
   simp only[he,decide_false,cond_false];unfold w7;rw[zJ (by omega) (by omega),z7];refine⟨⟨j+1,rfl,by omega,hj,?_⟩,by simp only[ph];omega⟩;have:s.take (j+1)=s.take j++[s[j]]:=by rw[gt,e1];rfl
   rw[this];refine z9I g3 λy hy=>?_;obtain⟨i,h3,h4⟩:=Wj.1 hy;have hlast:Zt s[j - 1] s[j]<0:=by
    rcases zdN hq e2 e1 (by omega) with q|q
    ·exact q
    exact absurd q.symm he
   rcases zdN hq h4 e2 (by omega) with q|q
   ·exact ZY q hlast
   rw[q];exact hlast
  have hj:j=s.length:=by
   have:¬j<s.length:=by simpa using hc
   omega
  rw[z7];show srt s=s;rw[hj,gL]at g3;exact K4 g3
 rintro(u|p) h
 ·show Ret (some s) _;rw[z7];exact h.symm
 show Ret (some p) _;rw[z7];exact h
end
def z5u (l:TA):SOk Zt l :=
 ⟨λx _=>QI x,λx _ y _ z _ h1 h2=>ZY h1 h2,λx _ y _ h1 h2=>by
  rcases z7l.1 h1 with q|q
  ·exact absurd q h2
  exact q⟩
def zdp {l m:TA}(h:l.Perm m):srt l=srt m:=z5t λx=>h.mem_iff
def z2a {c d:TB->TB->Int}:∀{l:TA},(∀x∈l,∀y∈l,c x y=d x y)->JG c l=JG d l
 | [],_=>rfl
 | x::l,h=>by
  have ih:=z2a (c:=c) (d:=d) (l:=l) λa ha b hb=>h a (by simp[ha]) b (by simp[hb]);show z9t c x (JG c l)=z9t d x (JG d l);rw[ih];have gen:∀m:TA,(∀y∈m,y∈l)->z9t c x m=z9t d x m:=by
   intro m;induction m with
   | nil=>intro _;rfl
   | cons y m ih2=>intro hm;simp only[z9t];rw[h y (by simp[hm y (by simp)]) x (by simp),ih2 λz hz=>hm z (by simp[hz])]
  exact gen _ λy hy=>(ZT d l).mem_iff.1 hy
def soR (l:TA):TA×Int:=if 4096<(srt l).length\/65536<qn (srt l) then([],3) else(srt l,0)
def Qp (hl:l.length<=100000)(hw:∀w∈l,w.length<=4294967296):xh l=some (soR l):=by
 unfold xh yx;rw[gdT (by simp;omega)];simp only[oB];have hc:∀x∈l,∀y,yQ x y=some (Zt x y):=λx hx y=>Va x y (by have:=hw x hx;omega);have hso:z9R (λx y=>yQ x y) l=some (JG Zt l):=by
  unfold z9R;rw[gdT ⟨by omega,λx hx y hy=>by simp only[hc x hx y];rfl⟩];have hcc:∀x∈l,∀y∈l,(yQ x y).getD 0=Zt x y:=λx hx y _=>by rw[hc x hx y];rfl
  rw[gdT,z2a (c:=λx y=>(yQ x y).getD 0) (d:=Zt) hcc];have q:=z5u l;refine⟨λx hx=>by show ¬(yQ x x).getD 0<0;rw[hcc x hx x hx];exact q.1 x hx,λx hx y hy z hz h1 h2=>?_,λx hx y hy h1 h2=>?_⟩
  ·simp only[hcc x hx y hy,hcc y hy z hz,hcc x hx z hz]at h1 h2 ⊢;exact q.2.1 x hx y hy z hz h1 h2
  simp only[hcc x hx y hy,hcc y hy x hx]at h1 h2;exact q.2.2 x hx y hy h1 h2
 rw[hso];simp only[oB];have hp:=ZT Zt l;have hq:QW (JG Zt l):=Q9 (z5u l) (λy hy=>hy);rw[z9l hq (by rw[hp.length_eq];omega) (λw h=>by have:=hw w (hp.mem_iff.1 h);omega)];simp only[oB];unfold wx;simp only[oB];rw[zdp hp];have hlen:(srt l).length<=100000:=pC (Vn l) hl;have hws:∀w∈srt l,w.length<=4294967296:=λw h=>hw w (yu.1 h);unfold soR;generalize srt l=r at hlen hws;have hsy:qn r<=100000*4294967296:=pC (z49 hws) (gH _ hlen);by_cases h1:4096<r.length
 ·have:(4096:Int)<(r.length:Int):=by omega
  simp[h1,this]
 have d1:decide (((r.length:Nat):Int) > 4096)=false:=by simp;omega
 simp only[d1,cond_false];rw[z7D r (by omega),zfm (by omega)];simp only[oB];by_cases h2:65536<qn r
 ·have:(65536:Int)<(qn r:Int):=by omega
  simp[h2,this]
 have d2:decide (((qn r:Nat):Int) > 65536)=false:=by simp;omega
 simp only[d2,cond_false];rw[if_neg (by omega)];have hloop:=uk (step:=λs=>wJ r s.1 s.2) (λi=>((r.take i).map (λq=>(q,true))++(r.drop i).map (λq=>(q,false)),(i:Int))) r.length (t:=r.map λq=>(q,true)) (by omega) (by
  intro i hi;have hA:((r.take i).map (λq=>(q,true))).length=i:=by rw[gC,pP];omega
  have hd:r.drop i=r[i]::r.drop (i+1):=mI hi;have hx:((r.take i).map (λq=>(q,true))++(r.drop i).map (λq=>(q,false)))[i]?=some (r[i],false):=by rw[pA (by omega),hA,hd];simp
  show wJ r _ (i:Int)=_;unfold wJ;have hq:decide ((i:Int)<((r.length - (0:Int).toNat:Nat):Int))=true:=by simpa using hi
  simp only[hq,cond_true];rw[gdT (by omega),Int.zero_add,zw hx];simp only[oB];rw[z4L _ (hws _ (pL hi))];simp only[oB,Qg,ph];rw[zJ (by omega) (by omega)];congr 3;rw[List.set_append_right _ _ (by omega),hA,hd,gt,pe hi];simp only[nR,gB,nP,gY,Option.toList_some,nG,pK,gK,pN]) (by
  show wJ r _ (r.length:Int)=_;unfold wJ;simp)
 have h0:((r.take 0).map (λq=>(q,true))++(r.drop 0).map (λq=>(q,false)),((0:Nat):Int))=(r.map (λq=>(q,false)),(0:Int)):=by simp
 rw[h0]at hloop;rw[hloop];simp only[oB];unfold Xs;rw[gdT (by intro q hq;obtain⟨_,_,rfl⟩:=pX.1 hq;rfl)];simp[mw,Function.comp_def]
def z0a (a:Nat)(w:TB):TA:=(List.range a).map λs:Nat=>w++[(s:Int)]
def exW (a:Nat):Nat->TA
 | 0=>[[]]
 | k+1=>(exW a k).flatMap (z0a a)
def zeC (a:Nat)(w:TB):(z0a a w).length=a:=by simp[z0a]
def z8u (a:Nat)(l:TA):(l.flatMap (z0a a)).length=l.length*a:=by
 induction l with
 | nil=>simp
 | cons w l ih=>rw[mU,pJ,ih,zeC,pZ,rD];omega
def Qc (a:Nat):∀k,(exW a k).length=a ^ k
 | 0=>rfl
 | k+1=>by rw[exW,z8u,Qc,rX]
def Zn (a:Nat):∀k,∀w∈exW a k,w.length=k
 | 0,w,h=>by simp[exW]at h;subst h;rfl
 | k+1,w,h=>by rw[exW,mA]at h;obtain⟨v,h1,h2⟩:=h;simp only[z0a,pX]at h2;obtain⟨s,_,rfl⟩:=h2;simp[Zn a k v h1]
def zkR {a:Nat}(ha:a<=16){w:TB}(hw:w.length<=1000){nx:TA}(hn:nx.length<=10000000) :
  loop (λs=>q9 (a:Int) w s.1 s.2) (nx,0)=some (nx++z0a a w):=by
 have h:=uk (step:=λs=>q9 (a:Int) w s.1 s.2) (λi=>(nx++(List.range i).map (λs:Nat=>w++[(s:Int)]),(i:Int))) a (t:=nx++z0a a w) (by omega) (by
  intro i hi;show q9 (a:Int) w _ (i:Int)=_;unfold q9;have hq:decide ((i:Int)<(a:Int))=true:=by simpa using hi
  simp only[hq,cond_true,Qg,oB];rw[gdT (by simp;omega),gdT (by simp;omega),zJ (by omega) (by omega),ru,gY,pK];rfl) (by
  show q9 (a:Int) w _ (a:Int)=_;unfold q9;simp[z0a])
 have h0:((nx++(List.range 0).map (λs:Nat=>w++[(s:Int)])),((0:Nat):Int))=(nx,(0:Int)):=by simp
 rw[h0]at h;exact h
def zkj {a:Nat}(ha:a<=16)  (hw:∀w∈l,w.length<=1000)(hl:l.length<=100000) :
  loop (λs=>qb (a:Int) l s.1 s.2) (([]:TA),0)=some (l.flatMap (z0a a)):=by
 have h:=uk (step:=λs=>qb (a:Int) l s.1 s.2) (λi=>((l.take i).flatMap (z0a a),(i:Int))) l.length (t:=l.flatMap (z0a a)) (by omega) (by
  intro i hi;show qb (a:Int) l _ (i:Int)=_;unfold qb;have hq:decide ((i:Int)<(l.length:Int))=true:=by simpa using hi
  have hx:l[i]?=some l[i]:=pe hi;have hlen:((l.take i).flatMap (z0a a)).length<=10000000:=by rw[z8u,pP];have:min i l.length*a<=100000*16:=mV (by omega) ha;omega
  simp only[hq,cond_true,zw hx,oB];rw[bdT (zkR ha (hw _ (pL hi)) hlen)];unfold UO;rw[zJ (by omega) (by omega),gt,hx,List.flatMap_append];simp) (by
  show qb (a:Int) l _ (l.length:Int)=_;unfold qb;simp)
 simpa using h
def vP (a f:Nat):Nat->TA
 | 0=>[]
 | k+1=>if f<=k then vP a f k++exW a k else vP a f k
def syW (a f:Nat):Nat->Nat
 | 0=>0
 | k+1=>if f<=k then syW a f k+k*a ^ k else syW a f k
def XZ (a f t k:Nat):Prop:=4096<(vP a f (k+1)).length\/65536<syW a f (k+1)\/k<t/\4096<a ^ k*a
instance (a f t k:Nat):Decidable (XZ a f t k):=by unfold XZ;infer_instance
def zc0 {a f t k:Nat}(ha:1<=a/\a<=16)(hf:f<=256)(ht:t<=256)(hk:k<=t)(ho:(vP a f k).length<=4096)(hs:syW a f k<=65536)(hl:a ^ k<=4096) :
  kB (a:Int) (f:Int) (t:Int) (vP a f k) (exW a k) (syW a f k:Int) (k:Int)=if XZ a f t k then some (.done ([],3)) else if k=t then Option.bind (xh (vP a f (k+1))) (λr=>some (.done (r.1,r.2))) else some (.next (vP a f (k+1),exW a (k+1),(syW a f (k+1):Int),((k+1:Nat):Int))):=by
 have hmul:k*a ^ k<=256*4096:=mV (by omega) hl;have hma:a ^ k*a<=4096*16:=mV hl ha.2;have e:kB (a:Int) (f:Int) (t:Int) (vP a f k) (exW a k) (syW a f k:Int) (k:Int)=Yi (a:Int) (t:Int) (exW a k) (k:Int) (vP a f (k+1)) (syW a f (k+1):Int):=by
  unfold kB;by_cases h:f<=k
  ·have hd:decide ((k:Int)>=(f:Int))=true:=by simpa using h
   simp only[hd,cond_true];have hm:w64 ((k:Int)*((exW a k).length:Int))=((k*a ^ k:Nat):Int):=by rw[Qc,<-mW,zJ (by omega) (by omega)]
   rw[gdT (by rw[Qc];omega),hm,zJ (by omega) (by omega)];simp only[vP,syW,if_pos h];congr 1
  have hd:decide ((k:Int)>=(f:Int))=false:=by simp;omega
  simp only[hd,cond_false,vP,syW,if_neg h]
 rw[e];unfold Yi;by_cases h1:4096<(vP a f (k+1)).length
 ·have:decide (((vP a f (k+1)).length:Int) > 4096)=true:=by simp only[decide_eq_true_eq];omega
  simp only[this,cond_true];rw[if_pos (show XZ a f t k from .inl h1)]
 have d1:decide (((vP a f (k+1)).length:Int) > 4096)=false:=by simp;omega
 simp only[d1,cond_false];by_cases h2:65536<syW a f (k+1)
 ·have:decide ((syW a f (k+1):Int) > 65536)=true:=by simp only[decide_eq_true_eq];omega
  simp only[this,cond_true];rw[if_pos (show XZ a f t k from .inr (.inl h2))]
 have d2:decide ((syW a f (k+1):Int) > 65536)=false:=by simp;omega
 simp only[d2,cond_false];have hm:w64 (((exW a k).length:Int)*(a:Int))=((a ^ k*a:Nat):Int):=by rw[Qc,<-mW,zJ (by omega) (by omega)]
 rw[hm];have J4:∀(hns:¬(k<t/\4096<a ^ k*a)) (b:Bool),Yh (a:Int) (t:Int) (exW a k) (k:Int) (vP a f (k+1)) (syW a f (k+1):Int) b=if k=t then Option.bind (xh (vP a f (k+1))) (λr=>some (.done (r.1,r.2))) else some (.next (vP a f (k+1),exW a (k+1),(syW a f (k+1):Int),((k+1:Nat):Int))):=by
  intro hns b;unfold Yh;by_cases hkt:k=t
  ·subst hkt;simp
  have hd:((k:Int)==(t:Int))=false:=by simp;omega
  simp only[hd,cond_false,if_neg hkt];rw[bdT (zkj ha.2 (λw hw=>by rw[Zn a k w hw];omega) (by rw[Qc];omega))];unfold UP UQ;rw[zJ (by omega) (by omega)];rfl
 by_cases hkt:k<t
 ·have hd:decide ((k:Int)<(t:Int))=true:=by simpa using hkt
  simp only[hd,cond_true];by_cases h3:4096<a ^ k*a
  ·have:decide (((a ^ k*a:Nat):Int) > 4096)=true:=by simp only[decide_eq_true_eq];omega
   simp only[this,cond_true];rw[if_pos (show XZ a f t k from .inr (.inr ⟨hkt,h3⟩))]
  have:decide (((a ^ k*a:Nat):Int) > 4096)=false:=by simp only[decide_eq_false_iff_not];omega
  simp only[this,cond_false];rw[J4 (by omega),if_neg (show ¬XZ a f t k by unfold XZ;omega)]
 have hd:decide ((k:Int)<(t:Int))=false:=by simp;omega
 simp only[hd,cond_false];rw[J4 (by omega),if_neg (show ¬XZ a f t k by unfold XZ;omega)]
def z4u {a f t k:Nat}(ha:1<=a)(hs:¬XZ a f t k)(hk:k<t):(vP a f (k+1)).length<=4096/\syW a f (k+1)<=65536/\a ^ (k+1)<=4096:=by unfold XZ at hs;rw[rX];omega
variable {r:Option (TA×Int)}
def zc2 {a f t:Nat}(ha:1<=a/\a<=16)(hf:f<=256)(ht:t<=256){r:Option (TA×Int)}
  (hr:(∃j,j<=t/\XZ a f t j)->r=some ([],3)) (hr2:(∀j,j<=t->¬XZ a f t j)->r=Option.bind (xh (vP a f (t+1))) λr=>some (r.1,r.2)) :
  ∀(m k:Nat),k<=t->t - k<m->(∀j,j<k->¬XZ a f t j)->(vP a f k).length<=4096->syW a f k<=65536->a ^ k<=4096->QX (λs=>kB (a:Int) (f:Int) (t:Int) s.1 s.2.1 s.2.2.1 s.2.2.2) m (vP a f k,exW a k,(syW a f k:Int),(k:Int))=r
 | 0,k,_,h,_,_,_,_=>by omega
 | m+1,k,hk,hm,hns,h1,h2,h3=>by
  rw[qV];dsimp only
  rw[zc0 ha hf ht hk h1 h2 h3];by_cases hst:XZ a f t k
  ·rw[if_pos hst,hr ⟨k,hk,hst⟩]
  rw[if_neg hst];by_cases hkt:k=t
  ·subst hkt;rw[if_pos rfl,hr2 λj hj=>by
    rcases pF j k with q|q
    ·exact hns j q
    rw[show j=k by omega];exact hst]
   cases xh (vP a f (k+1)) <;> rfl
  rw[if_neg hkt];obtain⟨q1,q2,q3⟩:=z4u ha.1 hst (by omega);exact zc2 ha hf ht hr hr2 m (k+1) (by omega) (by omega) (λj hj=>by
   rcases pF j k with q|q
   ·exact hns j q
   rw[show j=k by omega];exact hst) q1 q2 q3
def zl7 {a f t:Nat}(ha:1<=a/\a<=16)(hf:f<=256)(ht:t<=256){r:Option (TA×Int)}
  (hr:(∃j,j<=t/\XZ a f t j)->r=some ([],3)) (hr2:(∀j,j<=t->¬XZ a f t j)->r=Option.bind (xh (vP a f (t+1))) λr=>some (r.1,r.2)) :
  WO (a:Int) (f:Int) (t:Int)=r:=by
 unfold WO;have d1:decide ((a:Int) > 16)=false:=by simp;omega
 have d2:decide ((a:Int)<1)=false:=by simp;omega
 have d3:decide ((t:Int)<0)=false:=by simp
 have d4:decide ((t:Int) > 256)=false:=by simp;omega
 simp only[d1,d2,d3,d4,cond_false];have h:=zc2 ha hf ht hr hr2 VL 0 (pO _) (by show t - 0<18446744073709551616;omega) (λj hj=>by omega) (by simp[vP]) (by simp[syW]) (by simp);have h':loop (λs=>kB (a:Int) (f:Int) (t:Int) s.1 s.2.1 s.2.2.1 s.2.2.2) (([]:TA),([[]]:TA),0,0)=r:=h;rw[h'];cases r <;> rfl
def ziz {x:Int}(h1:0<=x)(h2:x<=9223372036854775807):IntKind.u64.wrap x=x:=by simp only[IntKind.wrap,IntKind.bits,IntKind.signed];simp;omega
def zp3 (hs:SW l)(hl:l.length<=1000000)(hw:∀x∈l,x.length<4611686018427387904)(w:TB):z0T l w=some (decide (w∈l)):=by
 unfold z0T yV;apply Ret.eq;rw[zp,zp];refine Ret.mono (zM (λq:Int×Int=>∃i j:Nat,q=((i:Int),(j:Int))/\i<=j/\j<=l.length/\(∀m x,m<i->l[m]?=some x->Zt x w<0)/\∀m x,j<=m->l[m]?=some x->¬Zt x w<0) (λq=>(q.2 - q.1).toNat) (R:=λt=>∃i:Nat,t=(i:Int)/\i<=l.length/\(∀m x,m<i->l[m]?=some x->Zt x w<0)/\∀m x,i<=m->l[m]?=some x->¬Zt x w<0) ?_ ?_ ?_) ?_
 ·exact⟨0,l.length,rfl,pO _,pi _,λm x h=>by omega,λm x h hx=>by have:=(pf.1 hx).1;omega⟩
 ·simp only;omega
 ·rintro _ ⟨i,j,rfl,g1,g2,g3,g4⟩;show Ret (yz l w (i:Int) (j:Int)) _;unfold yz;rw[zD];refine⟨λhc=>?_,λhc=>?_⟩
  ·have hij:i<j:=by simpa using hc
   have hh:w64 (Int.fdiv (IntKind.u64.wrap (w64 ((i:Int)+(j:Int)))) (2 ^ 1))=(((i+j) / 2:Nat):Int):=by
    rw[zJ (x:=(i:Int)+(j:Int)) (by omega) (by omega),ziz (by omega) (by omega)];have:Int.fdiv ((i:Int)+(j:Int)) (2 ^ 1)=(((i+j) / 2:Nat):Int):=by rw[show((i:Int)+(j:Int))=((i+j:Nat):Int) by omega,show((2:Int) ^ 1)=((2:Nat):Int) by rfl];rw[Int.fdiv_eq_ediv_of_nonneg _ (by omega)];rfl
    rw[this,zJ (by omega) (by omega)]
   rw[hh];have hm:(i+j) / 2<l.length:=by omega
   have hx:l[(i+j) / 2]?=some l[(i+j) / 2]:=pe hm;rw[zw hx];simp only[oB];rw[Va _ _ (hw _ (pL hm))];simp only[oB];by_cases hc2:Zt l[(i+j) / 2] w<0
   ·simp only[hc2,decide_true,cond_true];rw[zJ (by omega) (by omega),z7];refine⟨⟨(i+j) / 2+1,j,by simp,by omega,g2,λm x h hmx=>?_,g4⟩,by simp only;omega⟩;rcases pF m ((i+j) / 2) with q|q
    ·have h1:=(mH.1 hs) m ((i+j) / 2) (pf.1 hmx).1 hm q;rw[(pf.1 hmx).2]at h1;exact ZY h1 hc2
    rw[show m=(i+j) / 2 by omega,hx]at hmx;cases hmx;exact hc2
   simp only[hc2,decide_false,cond_false];rw[z7];refine⟨⟨i,(i+j) / 2,rfl,by omega,by omega,g3,λm x h hmx hlt=>?_⟩,by simp only;omega⟩;rcases pF ((i+j) / 2) m with q|q
   ·have h1:=(mH.1 hs) ((i+j) / 2) m hm (pf.1 hmx).1 q;rw[(pf.1 hmx).2]at h1;exact hc2 (ZY h1 hlt)
   rw[show m=(i+j) / 2 by omega,hx]at hmx;cases hmx;exact hc2 hlt
  have hij:i=j:=by
   have:¬i<j:=by simpa using hc
   omega
  subst hij;rw[z7];exact⟨i,rfl,g2,g3,g4⟩
 rintro _ ⟨i,rfl,h1,h2,h3⟩;unfold yG;rw[zD];refine⟨λhc=>?_,λhc=>?_⟩
 ·have hi:i<l.length:=by simpa using hc
  have hx:l[i]?=some l[i]:=pe hi;rw[zw hx];simp only[oB];rw[Va _ _ (hw _ (pL hi))];simp only[oB,z7];by_cases he:l[i]=w
  ·rw[he,Qe];have:w∈l:=he ▸ pL hi;simp[this]
  have hne:(Zt l[i] w==0)=false:=by simp;exact λq=>he (z2o q)
  rw[hne];have:w∉l:=by
   intro hm;obtain⟨m,hm⟩:=gI.1 hm;rcases pF m i with q|q
   ·exact QI _ (h2 m w q hm)
   rcases pF i m with q2|q2
   ·have h4:=(mH.1 hs) i m hi (pf.1 hm).1 q2;rw[(pf.1 hm).2]at h4;exact h3 i _ (pi _) hx h4
   rw[show m=i by omega,hx]at hm;cases hm;exact he rfl
  simp[this]
 have hi:i=l.length:=by
  have:¬i<l.length:=by simpa using hc
  omega
 rw[z7,z7];have:w∉l:=by intro hm;obtain⟨m,hm⟩:=gI.1 hm;exact QI _ (h2 m w (by rw[hi];exact(pf.1 hm).1) hm)
 simp[this]
def zdM (a b:TA)(hl:a.length<4611686018427387904)(hw:∀x∈a,x.length<4611686018427387904):WW a b=some (decide (a=b)):=by
 unfold WW;by_cases he:a.length=b.length
 ·have hb:(((a.length:Nat):Int) !=((b.length:Nat):Int))=false:=by simp;omega
  simp only[hb,cond_false];rw[bdT (wR a hl (step:=λs=>X2 a b s) (λi x=>if b[i]?=some x then none else some false) ?_ ?_)]
  ·cases hf:yj (λi x=>if b[i]?=some x then none else some false) a 0 with
   | some r=>
    obtain⟨i,x,h1,h2⟩:=uo hf;rw[gJ]at h2;split at h2
    ·cases h2
    rename_i h3;have:a≠b:=λe=>h3 (by rw[<-e];exact h1);cases h2;simp[oS,this]
   | none=>
    have hab:a=b:=by
     refine gV λi=>?_;rcases pF i a.length with q|q
     ·have hx:a[i]?=some a[i]:=pe q;have:=qY hf i _ hx;rw[gJ]at this;split at this
      ·rename_i h3;rw[h3,hx]
      cases this
     rw[pM q,pM (by omega)]
    simp[oS,Vt,hab]
  ·intro i x hx;have hi:i<a.length:=(pf.1 hx).1;have hq:decide ((i:Int)<(a.length:Int))=true:=by simpa using hi
   have hy:b[i]?=some b[i]:=pe (by omega);have hxm:x∈a:=(pf.1 hx).2 ▸ pL hi;unfold X2;simp only[hq,cond_true,zw hx,zw hy,oB,zby x b[i] (λ_=>hw x hxm),hy];by_cases h:b[i]=x
   ·rw[if_pos (by rw[h]),h,Qe];rfl
   have:(Zt x b[i] != 0)=true:=by simp;exact λq=>h (z2o q).symm
   rw[this,if_neg (by simpa using h)];rfl
  unfold X2;simp
 have hb:(((a.length:Nat):Int) !=((b.length:Nat):Int))=true:=by simp;omega
 have:a≠b:=λe=>he (by rw[e]);simp[hb,this]
def K2 {m:Nat}{L:Nat}(hl:l.length<=L)(h:∀w∈l,w.length<=m):qn l<=L*m:=pC (z49 h) (gH _ hl)
def jU (h:chE n l=0):l.length<=4096/\(∀w∈l,w.length<=256)/\qn l<=65536/\SW l/\(1<=n/\n<=16)/\∀w∈l,∀c∈w,0<=c/\c<n:=by obtain⟨h1,h2,h3⟩:=z8C.1 h;obtain⟨q1,q2,_⟩:=z5Y h1;obtain⟨r1,_,r3⟩:=Ki.1 h1;exact⟨q1,q2,h3,h2,r1,λw hw=>(r3 w hw).2⟩
def z7A {l m:TA}(h:List.Sublist l m):qn l<=qn m:=by
 induction h with
 | slnil=>exact pi _
 | cons a _ ih=>simp only[qn,gB,List.sum_cons]at *;omega
 | cons_cons a _ ih=>simp only[qn,gB,List.sum_cons]at *;omega
def Jx (l m:TA):qn (l++m)=qn l+qn m:=by simp[qn]
def Wq (n:Int)(L k:Nat)(l:TA):Prop:=SW l/\l.length<=L/\∀w∈l,w.length<=k/\∀c∈w,0<=c/\c<n
def Wq.ch {L k:Nat}  (h:Wq n L k l)(hn:1<=n/\n<=16)(hL:L<=4096)(hk:k<=256)(hLk:L*k<=65536):chE n l=0:=by obtain⟨h1,h2,h3⟩:=h;refine z8C.2 ⟨Ki.2 ⟨hn,by omega,λw hw=>⟨by have:=(h3 w hw).1;omega,(h3 w hw).2⟩⟩,h1,?_⟩;exact pC (K2 h2 λw hw=>(h3 w hw).1) hLk
def z71 {l:TB}(h:∀c∈l,0<=c):(l.map Int.toNat).map Int.ofNat=l:=by
 rw[mw]
 conv=>rhs;rw[<-List.map_id l]
 exact nF λc hc=>by have:=h c hc;show((c.toNat:Nat):Int)=c;omega
end Go.Own
end
