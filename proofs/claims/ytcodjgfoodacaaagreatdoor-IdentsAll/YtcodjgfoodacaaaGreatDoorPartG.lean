/- Walks, further. -/
import Derived.Test.YtcodjgfoodacaaaGreatDoorPartF
import Derived.Test.YtcodjgfoodacaaaGreatDoorPartC
import Derived.Test.YtcodjgfoodacaaaGreatDoorPartE
noncomputable section
set_option linter.unusedVariables false
set_option linter.unusedSimpArgs false
namespace Go.Own
open Go.Proofs
set_option maxRecDepth 100000
set_option maxHeartbeats 8000000
def zW:Code:=(Tryz.f120.body).getD .skip
def wh:zJ:=spF (α:=List (List Int)×Unit) (ρ:=List (List Int)) 120 (fun x=>[zaY x.1,(z9Q 121) x.2]) (fun r=>zaY r) (fun x=>yI x.1 x.2) [true,false] (by
 rintro⟨a0,a1⟩ ⟨b0,b1⟩ h;have e0:=ZZ.inj (f:=zaY) _ _ (List.cons.inj h).1;replace h:=(List.cons.inj h).2;have e1:=ZZ.inj (f:=(z9Q 121)) _ _ (List.cons.inj h).1;subst e0 e1;rfl)
abbrev YR (s_:List (List Int)):List (Nat×T):=[(0,.own (eOs 1 false F6_ s_))]
abbrev YQ (s_:List (List Int))(k_:Int):List (Nat×T):=[(0,.own (eOs 1 false F6_ s_)),(1,.d (.fn 121 [])),(5,.d (I k_))]
abbrev YP (az:List (List Int))(a8:Int):List (Nat×T):=[(0,.own (eOs 1 false F6_ az)),(5,.d (I a8))]
abbrev YO (ba:Value)(k_:Int)(k2:Int)(kq:List (List Int))(kr:Int):List (Nat×T):=[(0,.own (eOs 1 false F6_ kq)),(1,.d (.fn 121 [])),(5,.d (I kr)),(6,.d (.atom (UK 1 ba k_))),(7,.d (I k2))]
abbrev YM (ba:Value)(k_:Int)(bg:List (List Int))(ee:Int)(k2:Int):List (Nat×T):=[(0,.own (eOs 1 false F6_ bg)),(1,.d (.fn 121 [])),(5,.d (I ee)),(6,.d (.atom (UK 1 ba k_))),(7,.d (I k2))]
abbrev YN (s_:List (List Int))(k_:Int):List (Nat×T):=[(0,.own (eOs 1 false F6_ s_)),(1,.d (.fn 121 [])),(5,.d (I k_))]
def zn:XH Tryz.prog:=((zpj zy 64).or X0)
theorem XZ {ctr:Ctr}(hC:zx Tryz.prog ctr)(h0H:ctr.Has X1):wh.Ok Tryz.prog:=by
 refine zw ?_;rintro⟨s_,eq⟩ r0 aa;try unfold yI at aa;refine yO true [(4,none)] zW 66 Tryz.func120 fun E hE=>?_;refine zdr (y:=eOs 1 false F6_ s_) rfl 0 (by kernel_rfl) (by kernel_rfl) fun ba hv0=>?_
 let Z0:List HO:=[Ha (lnM F6_ s_)];rcases zF aa with⟨c0,aa⟩|⟨c0,aa⟩
 ·obtain rfl := za aa
  exact yE zn hC hE (Z0++[Hq c0])
 ·refine yJ zn hC zW [1,1] [] [0] (fun z : Unit => wl s_ = some r0) (fun z => YR s_) [(0, .own (eOs 1 false F6_ s_)), (1, .d (.fn 121 []))] (Z0 ++ [Hq c0, Hh (.cut 0)]) ?_ fun J1 aq => ?_
  ·rintro ⟨⟩ aa
   unfold wl at aa;obtain rfl:=za aa;exact yE zn hC hE []
  ·obtain ⟨t2, ht2, aa⟩ := zb aa
   refine yL zn hC zW [1,1,2,1,0] [J1] (fun s=>yi s_ s) (fun x=>YN s_ x) 1 ht2  [] ?_;rintro k_ m2 au ae hl1 J2 av;try unfold yi at ae
   let Z1:List HO:=[Ha (lnM F6_ s_)];rcases zF ae with⟨c1,ae⟩|⟨c1,ae⟩
   ·refine yJ zn hC zW [1,1,2,1,0,0,1] [J1, J2] [0,1,5] (fun z : Unit => xe k_ = some au) (fun z => YQ s_ k_) [(0, .own (eOs 1 false F6_ s_)), (1, .d (.fn 121 [])), (5, .d (I k_))] (Z1 ++ [Hq c1, Hh (.cut 0)]) ?_ fun J3 bf => ?_
    ·rintro ⟨⟩ ae
     unfold xe at ae;obtain rfl:=za ae;exact yB zn hC av (w64 (k_+1)) hl1 []
    ·obtain ⟨cp, h0, ae⟩ := zb ae
     obtain⟨jl,h1,ae⟩:=zb ae;obtain⟨r_,h2,ae⟩:=zb ae
     let Z2:List HO:=[Hn (iL F6_ h0),Hs (iM F6_ h0),Hn (iL F6_ h1),Hs (iM F6_ h1),Hc h0H (x:=(cp,jl)) h2 (loC F6_ cp <| loC F6_ jl <| loN)];rcases zF ae with⟨c2,ae⟩|⟨c2,ae⟩
     ·obtain ⟨g0, ae⟩ := gdE ae
      refine yJ ((xAs Tryz.prog 6 (UK 1 ba k_)).or ((xVw zy 31 0 ba).or zn)) hC zW [1,1,2,1,0,0,1,2,0,1,0,1] [J1,J2,J3] [0,5] (fun z:List (List Int)×Int=>y7 z.1 z.2=some au) (fun z=>YP z.1 z.2) [(0,.own (eOs 1 false F6_ s_)),(1,.d (.fn 121 [])),(5,.d (I k_)),(6,.d (.atom (UK 1 ba k_)))] (Z2++[Hq c2,Hn (⟨.inl rfl,rfl⟩:(T.als 0 [] 0 0=T.als 0 [] 0 0\/T.als 0 [] 0 0=T.d (.atom ba))/\some ba=some ba),Hn (⟨g0.1,cuB F6_ g0⟩:(0:Int)<=k_/\k_.toNat<=(s_.map F6_).length),Hn (rfl:T.d (.atom (UK 1 ba k_))=T.d (.atom (UK 1 ba k_))),Hh (.cut 1)]) ?_ fun J4 bw=>?_
      ·rintro ⟨az, a8⟩ ae
       unfold y7 at ae;obtain⟨g1,ae⟩:=gdE ae;obtain⟨g2,ae⟩:=gdE ae;obtain⟨g3,ae⟩:=gdE ae;obtain rfl:=za ae;obtain rfl:=hl1;obtain rfl:=za aa;exact yE ((xVc zy 61 1 0 ba a8).or ((xVw zy 61 0 ba).or zn)) hC hE [Hn (⟨.inl rfl,rfl⟩:(T.als 0 [] 0 0=T.als 0 [] 0 0\/T.als 0 [] 0 0=T.d (.atom ba))/\some ba=some ba),Hn (⟨g1.1,cuB F6_ g1⟩:(0:Int)<=a8/\a8.toNat<=(az.map F6_).length),Hn (⟨rfl,rfl⟩:T.d (.atom (UK 1 ba a8))=T.d (.atom (UK 1 ba a8))/\some ba=some ba),Hn (⟨g2.1,cuB F6_ g2,dM F6_ az⟩:(0:Int)<=a8/\a8.toNat<=(az.map F6_).length/\A.areD (az.map F6_)=true),Hx (.l ((az.take a8.toNat++List.replicate (az.length - a8.toNat) []).map F6_)) (vcM F6_ az a8.toNat ([]:List Int)),Hn g3.1,Hn (cuB F6_ g3),Hl (cuM F6_ (az.take a8.toNat++List.replicate (az.length - a8.toNat) []) a8)]
      ·obtain ⟨t5, ht5, ae⟩ := zb ae
       refine yL zn hC zW [1,1,2,1,0,0,1,2,0,1,0,1,2,1,0] [J1,J2,J3,J4] (fun s=>y5 k_ s.1 s.2.1 s.2.2) (fun x=>YM ba k_ x.1 x.2.1 x.2.2) (s_,k_,1) ht5  [] ?_;rintro⟨bg,ee,k2⟩ m5 co aj hl2 J5 cd;try unfold y5 at aj
       let Z3:List HO:=[Hn (⟨rfl,rfl⟩:T.d (.atom (UK 1 ba k_))=T.d (.atom (UK 1 ba k_))/\some ba=some ba),Hx (.a (.atom (.int .i64 ((bg.length - k_.toNat:Nat):Int)))) (vlM F6_ bg k_.toNat)];rcases zF aj with⟨c3,aj⟩|⟨c3,aj⟩
       ·refine yJ ((xVl zy 34 32 1 0 ba k_ (by kernel_rfl)).or zn) hC zW [1,1,2,1,0,0,1,2,0,1,0,1,2,1,0,0,1] [J1, J2, J3, J4, J5] [0,1,5,6,7] (fun z : List (List Int) × Int => y6 k2 z.1 z.2 = some co) (fun z => YO ba k_ k2 z.1 z.2) [(0, .own (eOs 1 false F6_ bg)), (1, .d (.fn 121 [])), (5, .d (I ee)), (6, .d (.atom (UK 1 ba k_))), (7, .d (I k2))] (Z3 ++ [Hq c3, Hh (.cut 0)]) ?_ fun J6 cu => ?_
        ·rintro ⟨kq, kr⟩ aj
         unfold y6 at aj;obtain rfl:=za aj;exact yB zn hC cd (kq,kr,w64 (k2+1)) hl2 []
        ·obtain ⟨g4, aj⟩ := gdE aj
         obtain⟨ji,h3,aj⟩:=zb aj;obtain⟨g5,aj⟩:=gdE aj;obtain⟨jj,h4,aj⟩:=zb aj;obtain⟨ah,h5,aj⟩:=zb aj
         let Z4:List HO:=[Hn (⟨rfl,rfl⟩:T.d (.atom (UK 1 ba k_))=T.d (.atom (UK 1 ba k_))/\some ba=some ba),Hn (⟨g4.1,g4.2,(iL F6_ h3).2⟩:(0:Int)<=k_/\(0:Int)<=k2/\(k_+k2).toNat<(bg.map F6_).length),Hs (iM F6_ h3),Hn (⟨rfl,rfl⟩:T.d (.atom (UK 1 ba k_))=T.d (.atom (UK 1 ba k_))/\some ba=some ba),Hn (⟨g5.1,g5.2,(iL F6_ h4).2⟩:(0:Int)<=k_/\(0:Int)<=w64 (k2 - 1)/\(k_+(w64 (k2 - 1))).toNat<(bg.map F6_).length),Hs (iM F6_ h4),Hc h0H (x:=(ji,jj)) h5 (loC F6_ ji <| loC F6_ jj <| loN)];rcases zF aj with⟨c4,aj⟩|⟨c4,aj⟩
         ·obtain ⟨g6, aj⟩ := gdE aj
          obtain⟨jk,h6,aj⟩:=zb aj;obtain⟨l7,h7,aj⟩:=zb aj;exact yB ((xVi zy 54 1 0 ba k_).or ((xVi zy 46 1 0 ba k_).or ((xVi zy 41 1 0 ba k_).or zn))) hC cu ((bg.set ee.toNat jk),w64 (ee+1)) aj (Z4++[Hq c4,Hn (⟨rfl,rfl⟩:T.d (.atom (UK 1 ba k_))=T.d (.atom (UK 1 ba k_))/\some ba=some ba),Hn (⟨g6.1,g6.2,(iL F6_ h6).2⟩:(0:Int)<=k_/\(0:Int)<=k2/\(k_+k2).toNat<(bg.map F6_).length),Hs (iM F6_ h6),Hn (iL F6_ h7),Hs (iM F6_ h7),Hs (iM F6_ h7),Hl (sM F6_ bg ee jk)])
         ·exact yB ((xVi zy 46 1 0 ba k_).or ((xVi zy 41 1 0 ba k_).or zn)) hC cu (bg,ee) aj (Z4++[Hq c4])
       ·obtain rfl := za aj
        obtain rfl:=hl2;exact yB ((xVl zy 34 32 1 0 ba k_ (by kernel_rfl)).or zn) hC bw (bg,ee) ae (Z3++[Hq c3])
     ·exact yB zn hC bf () ae (Z2++[Hq c2])
   ·obtain rfl := za ae
    obtain rfl:=hl1;exact yB zn hC aq () aa (Z1++[Hq c1])
def VU:Code:=(Tryz.f48.body).getD .skip
def yX:zJ:=spR (α:=List (List Int)) (ρ:=List (List Int)) 48 (fun x=>[zaY x]) (fun r=>(eOs 1 true F6_) r) (fun x=>xL x) [true] (Vo)
theorem VQ:∀x r,(fun x=>xL x) x=some r->(KC.add yX).run 48 ((KC.add yX).norm 48 ((fun x=>[zaY x]) x))=some ((fun r=>(eOs 1 true F6_) r) r):=fun x r h=>znc h rfl
theorem VS:(KC.add yX).lend 48=none/\(KC.add yX).gives 48=[true]:=zhS
theorem vS {ctr:Ctr}(hC:zx Tryz.prog ctr):yX.Ok Tryz.prog:=by
 refine zbR ?_;rintro s_ r0 aa;try unfold xL at aa;refine yO true [(2,none)] VU 9 Tryz.func48 fun E hE=>?_;obtain rfl:=za aa;exact yE ((xCl zy 8).or X0) hC hE [Ha (lnM F6_ s_),Ha (lnM F6_ s_),Hn (Int.natCast_nonneg _:(0:Int)<=((s_.length:Nat):Int)),Hn (Int.natCast_nonneg _:(0:Int)<=((s_.length:Nat):Int)),Hn (clB F6_ s_),Ha (clE 1 F6_ s_)]
def UL:Code:=(Tryz.f111.body).getD .skip
def Xk:zJ:=spF (α:=List (List Int)) (ρ:=Int) 111 (fun x=>[wI x]) (fun r=>(eI .i64) r) (fun x=>YW x) [] (Vo)
abbrev z2z (n_:Int):List (Nat×T):=[(2,.d (I n_))]
abbrev z2y (l_:List (List Int))(cw:Int)(x7:Int):List (Nat×T):=[(2,.d (I cw)),(5,.d (eSl 1 false F6_ l_)),(6,.d (I ((l_.length:Nat):Int))),(7,.d (I x7))]
theorem z6M {ctr:Ctr}(hC:zx Tryz.prog ctr):Xk.Ok Tryz.prog:=by
 refine zw ?_;rintro l_ r0 aa;try unfold YW at aa;refine yO true [(2,none)] UL 17 Tryz.func111 fun E hE=>?_;refine yJ X0 hC UL [1] [] [2] (fun z:Int=>Uv z=some r0) (fun z=>z2z z) [(0,.d (eSl 1 false F6_ l_)),(2,.d (I 0))] [Hh (.cut 1)] ?_ fun J1 aq=>?_
 ·rintro n_ aa
  unfold Uv at aa;obtain rfl:=za aa;exact yE X0 hC hE []
 ·obtain ⟨t2, ht2, aa⟩ := zb aa
  refine yL X0 hC UL [1,2,1,0] [J1] (fun s=>qA l_ s.1 s.2) (fun x=>z2y l_ x.1 x.2) (0,0) ht2  [Ha (lnM F6_ l_)] ?_;rintro⟨cw,x7⟩ m2 au ae hl1 J2 av;try unfold qA at ae;rcases zF ae with⟨c0,ae⟩|⟨c0,ae⟩
  ·obtain ⟨bq, h0, ae⟩ := zb ae
   obtain rfl:=za ae;exact yB X0 hC av (w64 (cw+((bq.length:Nat):Int)),w64 (x7+1)) hl1 [Hq c0,Hi F6_ h0,Ha (lnM (eI .i64) bq)]
  ·obtain rfl := za ae
   obtain rfl:=hl1;exact yB X0 hC aq cw aa [Hq c0]
def vg:Code:=(Tryz.f90.body).getD .skip
def WU:zJ:=spF (α:=List (List Int)) (ρ:=List (List Int)×Int) 90 (fun x=>[wI x]) (fun r=>.tup [F9_ r.1,(eI .i64) r.2]) (fun x=>XC x) [] (Vo)
abbrev z1x (out:List (List Int×Bool)):List (Nat×T):=[(4,.own (eOs 1 true (eFl 1 (eI .i64)) out))]
abbrev z1w (dh:Value)(al:List (List Int))(ay:List (List Int×Bool))(bc:Int):List (Nat×T):=[(4,.own (eOs 1 true (eFl 1 (eI .i64)) ay)),(22,.d (.atom (UK 1 dh (0:Int)))),(23,.d (I ((al.length - (0:Int).toNat:Nat):Int))),(24,.d (I bc))]
theorem z5I {ctr:Ctr}(hC:zx Tryz.prog ctr)(h1A:ctr.Has ui)(h0e:ctr.Has qj)(h1B:ctr.Has wh)(h0l:ctr.Has Xk)(h0t:ctr.Has wL)(h01:ctr.Has yw):WU.Ok Tryz.prog:=by
 refine zw ?_;rintro l_ r0 aa;try unfold XC at aa;refine yO false [(2,none),(3,none)] vg 37 Tryz.func90 fun E hE=>?_;obtain⟨r_,h0,aa⟩:=zb aa;refine yA X0 hC vg [1,1] [] [(4,.own (eOs 1 false F6_ r_))] [Hc h1A (x:=l_) h0 (loC wI l_ <| loN),Hh (.cut 0)] ?_;obtain⟨sorted,h1,aa⟩:=zb aa;refine zdp (by kernel_rfl) (x:=(sub [1,1,0] vg)) (y:=(sub [1,1,1] vg)) 4 (fun st1=>Own.canon [4] st1=ofL [(4,.own (eOs 1 false F6_ sorted))]) (fun dh=>yF ((uc (P:=Tryz.prog) yo [4] (zbU zjr (f:=F6_) (t:=false) (v:=dh) (fun _=>rfl) (fun _=>rfl) (fun x y c h=>yk hC h0e (x:=(x,y)) h) h1) 10).or X0) hC .normal [(4,.own (eOs 1 false F6_ sorted))] [Hn (Y6 (f:=.fn 118 []) (xs:=[.atom dh,.fn 119 []]) (ls:=[(dh,eOs 1 false F6_ r_)]) (r:=.tup []) (ys:=[eOs 1 false F6_ sorted]) [.atom dh,.fn 119 []] (show z0U [.atom dh,.fn 119 []] [.atom dh,.fn 119 []] from inferInstance))] fun st0 h0=>⟨rfl,h0⟩) fun st1 h1=>z7G h1 ?_
 obtain⟨ah,h2,aa⟩:=zb aa;obtain⟨al,h3,aa⟩:=zb aa
 let Z0:List HO:=[Hc h1B (x:=(sorted,())) h2 (loC zaY sorted <| loC (z9Q 121) () <| loN),Hh (.g [true]),Hn VS,Hx (.a ((eOs 1 true F6_) al)) (VQ ah _ h3),Ha (lnM F6_ al)];rcases zF aa with⟨c0,aa⟩|⟨c0,aa⟩
 ·obtain rfl := za aa
  exact yEx ((z3i zy (vS hC) 13).or X0) hC hE (Z0++(rpN 4 (Hq c0) [qT,Hm (shM F6_ F6_ [])])) (.tup [eSl 1 true F2_ [],I 3]) (show LeV (.tup [eSl 1 true F2_ [],I 3]) (.tup [eSl 1 true F2_ ([]:List (List Int)),I 3]) from inferInstance)
 ·obtain ⟨aw, h4, aa⟩ := zb aa
  let Z1:List HO:=(Z0++[Hq c0,Hq c0,Hg (z1Y h0l),Hm (shM F6_ F6_ al),Hs (z1Z h0l (x:=al) h4 (loC ziJ al <| loN)),Hq c0,Hq c0]);rcases zF aa with⟨c1,aa⟩|⟨c1,aa⟩
  ·obtain rfl := za aa
   exact yEx ((z3i zy (vS hC) 13).or X0) hC hE (Z1++[Hq c1,Hm (shM F6_ F6_ [])]) (.tup [eSl 1 true F2_ [],I 3]) (show LeV (.tup [eSl 1 true F2_ [],I 3]) (.tup [eSl 1 true F2_ ([]:List (List Int)),I 3]) from inferInstance)
  ·refine yA ((z3i zy (vS hC) 13).or X0) hC vg [1,1,1,1,1] [] [(4, .own (eOs 1 true F6_ al))] (Z1 ++ [Hq c1, Hh (.cut 0)]) ?_
   refine zdr (y:=eOs 1 true F6_ al) (by kernel_rfl) 4 (by kernel_rfl) (by kernel_rfl) fun dh hv4=>?_
   refine yJ X0 hC vg [1,1,1,1,1] [] [4] (fun z:List (List Int×Bool)=>Y5 z=some r0) (fun z=>z1x z) [(4,.own (eOs 1 true F6_ al))] [Hh (.cut 0)] ?_ fun J1 aq=>?_
   ·rintro out aa
    unfold Y5 at aa;obtain⟨hfl0,aa⟩:=gdE aa;obtain rfl:=za aa;exact yEx X0 hC hE [Hm (shM (eFl 1 (eI .i64)) (eFl 1 (eI .i64)) out)] (.tup [eSl 1 true (eFl 1 (eI .i64)) out,I 0]) (haveI:=flA (s:=1) (t:=1) (b:=true) (f:=(eI .i64)) hfl0;show LeV (.tup [eSl 1 true (eFl 1 (eI .i64)) out,I 0]) (.tup [eSl 1 true F2_ (out.map (·.1)),I 0]) from inferInstance)
   ·obtain ⟨t2, ht2, aa⟩ := zb aa
    refine yLx ((xVl zy 23 32 1 4 dh (0:Int) (by kernel_rfl)).or ((xMw Tryz.prog 22 4 1 dh).or X0)) hC vg [1,1,1,1,1,2,1,0] [J1] (fun s=>we al s.1 s.2) (fun x=>z1w dh al x.1 x.2) ((al.map fun q=>(q,false)),0) ht2 [(4,.own (eOs 1 true F6_ al)),(22,.d (.atom (UK 1 dh (0:Int)))),(23,.d (I ((al.length - (0:Int).toNat:Nat):Int))),(24,.d (I 0))] inferInstance [Hn (rfl:some dh=some dh),Hn (⟨rfl,rfl⟩:T.d (.atom (UK 1 dh (0:Int)))=T.d (.atom (UK 1 dh (0:Int)))/\some dh=some dh),Hx (.a (.atom (.int .i64 ((al.length - (0:Int).toNat:Nat):Int)))) (vlM F6_ al (0:Int).toNat)] ?_
    rintro⟨ay,bc⟩ m2 au ae hl1 J2 av;try unfold we at ae;rcases zF ae with⟨c2,ae⟩|⟨c2,ae⟩
    ·obtain ⟨g0, ae⟩ := gdE ae
     obtain⟨bp,h5,ae⟩:=zb ae;obtain⟨bk,h6,ae⟩:=zb ae;obtain⟨dg,h7,ae⟩:=zb ae;obtain⟨dm,h8,ae⟩:=zb ae;obtain rfl:=za ae;exact yB ((xVi zy 27 1 4 dh (0:Int)).or X0) hC av ((ay.set bc.toNat (dg,true)),w64 (bc+1)) hl1 [Hq c2,Hn (⟨rfl,rfl⟩:T.d (.atom (UK 1 dh (0:Int)))=T.d (.atom (UK 1 dh (0:Int)))/\some dh=some dh),Hn (⟨g0.1,g0.2,(iL (eFl 1 (eI .i64)) h5).2⟩:(0:Int)<=0/\(0:Int)<=bc/\(0+bc).toNat<(ay.map (eFl 1 (eI .i64))).length),Hs (iM (eFl 1 (eI .i64)) h5),Hc h0t (x:=bp.1) h6 (loC (eSl 1 bp.2 (eI .i64)) bp.1 <| loN),Hg (z1Y h01),Hm (shM (eI .i64) (eI .i64) bk),Hs (z1Z h01 (x:=bk) h7 (loC F6_ bk <| loN)),Hm (shM (eI .i64) (eI .i64) bk),Hn (iL (eFl 1 (eI .i64)) h8),Hs (iM (eFl 1 (eI .i64)) h8),Hs (iM (eFl 1 (eI .i64)) h8),Hl (sM (eFl 1 (eI .i64)) ay bc (dg,true))]
    ·obtain rfl := za ae
     obtain rfl:=hl1;exact yB X0 hC aq ay aa [Hq c2]
def z7y:Code:=(Tryz.f73.body).getD .skip
def Y7:zJ:=spF (α:=List (List Int)×Int) (ρ:=List (List Int)×Int) 73 (fun x=>[wI x.1,(eI .i64) x.2]) (fun r=>.tup [F9_ r.1,(eI .i64) r.2]) (fun x=>WL x.1 x.2) [] (VO)
theorem z7R {ctr:Ctr}(hC:zx Tryz.prog ctr)(h0w:ctr.Has Xl)(h1C:ctr.Has WU):Y7.Ok Tryz.prog:=by
 refine zw ?_;rintro⟨l_,inputs⟩ r0 aa;try unfold WL at aa;refine yO false [(4,none),(5,none)] z7y 17 Tryz.func73 fun E hE=>?_;obtain⟨r_,h0,aa⟩:=zb aa
 let Z0:List HO:=[Hc h0w (x:=(l_,inputs)) h0 (loC wI l_ <| loC (eI .i64) inputs <| loN)];rcases zF aa with⟨c0,aa⟩|⟨c0,aa⟩
 ·obtain rfl := za aa
  exact yEx X0 hC hE (Z0++[Hq c0,Hm (shM F6_ F6_ [])]) (.tup [eSl 1 true F2_ [],I r_]) (show LeV (.tup [eSl 1 true F2_ [],I r_]) (.tup [eSl 1 true F2_ ([]:List (List Int)),I r_]) from inferInstance)
 ·obtain ⟨ah, h1, aa⟩ := zb aa
  obtain rfl:=za aa;exact yE X0 hC hE (Z0++[Hq c0,Hc h1C (x:=l_) h1 (loC wI l_ <| loN)])
def uD:Code:=(Tryz.f37.body).getD .skip
def V6:zJ:=spF (α:=z6×Unit) (ρ:=List (List Int)×Int) 37 (fun x=>[zH x.1,(z9Q 38) x.2]) (fun r=>.tup [F9_ r.1,(eI .i64) r.2]) (fun x=>XN x.1 x.2) [] (by
 rintro⟨a0,a1⟩ ⟨b0,b1⟩ h;have e0:=ZZ.inj (f:=zH) _ _ (List.cons.inj h).1;replace h:=(List.cons.inj h).2;have e1:=ZZ.inj (f:=(z9Q 38)) _ _ (List.cons.inj h).1;subst e0 e1;rfl)
abbrev z1T (m_:z6)(x5:Int)(out:List (List Int)):List (Nat×T):=[(2,.own (.box (zH m_))),(4,.own (.box (eOs 1 true F6_ []))),(5,.own (.box (I x5))),(6,.own (.box (eOs 1 false F2_ out)))]
abbrev vR (m_:z6)(ah:Int)(br:Int)(ai:List (List Int)):List (Nat×T):=[(2,.own (.box (zH m_))),(3,.own (.box (.fn 38 []))),(4,.own (.box (eOs 1 true F6_ []))),(5,.own (.box (I br))),(6,.own (.box (eOs 1 false F2_ ai))),(15,.d (.fn 80 [.sptr (I ah)]))]
theorem z5U {ctr:Ctr}(hC:zx Tryz.prog ctr)(h04:ctr.Has wY)(h1D:ctr.Has V9)(h0f:ctr.Has vE)(h06:ctr.Has Y7):V6.Ok Tryz.prog:=by
 refine zw ?_;rintro⟨m_,is⟩ r0 aa;try unfold XN at aa;refine yO false [(4,some 32),(5,some 33)] uD 44 Tryz.func37 fun E hE=>?_;refine yJ X0 hC uD [1,1] [] [2,4,5,6] (fun z:Int×List (List Int)=>YC m_ z.1 z.2=some r0) (fun z=>z1T m_ z.1 z.2) [(2,.own (.box (zH m_))),(3,.own (.box (.fn 38 []))),(4,.own (.box (eOs 1 true F6_ []))),(5,.own (.box (I 0))),(6,.own (.box (eOs 1 true F6_ [])))] [Hh (.cut 2)] ?_ fun J1 aq=>?_
 ·rintro ⟨x5, out⟩ aa
  unfold YC at aa;obtain⟨r_,h0,aa⟩:=zb aa;obtain rfl:=za aa;exact yE X0 hC hE [Hg (z1Y h06),Hm (shM F2_ F2_ out),Hs (z1Z h06 (x:=(out,m_.Inputs)) h0 (loC (eSl 1 false F2_) out <| loC (eI .i64) m_.Inputs <| loN)),Hm (shM F2_ F2_ out)]
 ·obtain ⟨ah, h1, aa⟩ := zb aa
  obtain⟨t2,ht2,aa⟩:=zb aa;refine yAt X0 hC (sub [1,1,2,1,0] uD) (frs [1,1,2,1,0] [J1] uD []) [(2,.own (.box (zH m_))),(3,.own (.box (.fn 38 []))),(4,.own (.box (eOs 1 true F6_ []))),(5,.own (.box (I 0))),(6,.own (.box (eOs 1 true F2_ []))),(15,.d (.fn 80 [.sptr (I ah)]))] [Ha (lnM yM m_.Rows),Hc h04 (x:=((m_.Rows.length:Nat):Int)) h1 (loC (eI .i64) ((m_.Rows.length:Nat):Int) <| loN)] fun st0 h0=>?_;refine z0q (g:=.tmp 15) (ps:=[16,17]) (assign:=(sub [1,1,2,1,0,0] uD)) (body:=(sub [1,1,2,1,0,1] uD)) (K:=80) (caps:=[.sptr (I ah)]) (by kernel_rfl) [2,3,4,5,6,15] (fun s=>vR m_ ah s.1 s.2) (fun s=>vR m_ ah s.1 s.2) (fun s=>Code.ret) ((fun(x:Int×Int) (_:Bool) (_:Value)=>[(eI .i64) x.1,(eI .i64) x.2])) (F:=@yN ah) (fun s x=>uw m_ s.1 s.2 x.1 x.2) (0,([]:List (List Int))) t2 _ h0 inferInstance (by kernel_rfl) (by decide) (fun _=>rfl) (fun _=>rfl) (by kernel_rfl) (fun _ _ _=>rfl) (Zq hC ah) ht2 ?_ ?_
  ·rintro ln ⟨br, ai⟩ ⟨bo, ap⟩ vr au ae
   replace ae:uw m_ br ai bo ap=some au:=ae;unfold uw at ae;refine yF X0 hC .normal [(2,.own (.box (zH m_))),(3,.own (.box (.fn 38 []))),(4,.own (.box (eOs 1 true F6_ []))),(5,.own (.box (I br))),(6,.own (.box (eOs 1 false F2_ ai))),(7,.d (I bo)),(8,.d (I ap)),(15,.d (.fn 80 [.sptr (I ah)]))] [] fun st0 h0=>⟨rfl,z7G h0 ?_⟩;obtain⟨al,h2,ae⟩:=zb ae
   let Z0:List HO:=[Hc h1D (x:=(bo,ap)) h2 (loC (eI .i64) bo <| loC (eI .i64) ap <| loN)];rcases zF ae with⟨c0,ae⟩|⟨c0,ae⟩
   ·obtain rfl := za ae
    exact yF X0 hC .normal (vR m_ ah br ai) (Z0++[Hq c0]) fun st0 h0=>⟨rfl,_,h0,LeL.refl _⟩
   ·obtain ⟨aw, h3, ae⟩ := zb ae
    let Z1:List HO:=(Z0++[Hq c0,Hc h0f (x:=(m_,bo,ap)) h3 (loC zH m_ <| loC (eI .i64) bo <| loC (eI .i64) ap <| loN)]);rcases zF ae with⟨c1,ae⟩|⟨c1,ae⟩
    ·obtain rfl := za ae
     exact yF X0 hC .ret (vR m_ ah aw.2.2 ai) (Z1++[Hq c1]) fun st0 h0=>⟨rfl,_,h0,LeL.refl _⟩
    ·obtain ⟨g0, ae⟩ := gdE ae
     obtain rfl:=za ae;exact yF X0 hC .normal (vR m_ ah br (ai++([aw.1]:List (List Int)))) (Z1++[Hq c1,Hq (dM F2_ ([aw.1]:List (List Int))),Hn (dM F2_ ([aw.1]:List (List Int))),Hn (aL F2_ F2_ g0),Hl (aM F2_ ai ([aw.1]:List (List Int)))]) fun st0 h0=>⟨rfl,_,h0,LeL.refl _⟩
  ·rcases t2 with ⟨br, ai⟩ | z
   ·dsimp only at aa
    exact XU (by kernel_rfl) (aq _ [(2,.own (.box (zH m_))),(4,.own (.box (eOs 1 true F6_ []))),(5,.own (.box (I br))),(6,.own (.box (eOs 1 false F2_ ai)))] (br,ai) aa (show Own.canon [2,4,5,6] _=ofL _ by kernel_rfl) inferInstance)
   ·obtain ⟨br, ai⟩ := z
    dsimp only at aa
    show AWP _ _ (Code.ret) _ _
    obtain rfl:=za aa;exact yEx X0 hC hE [Hm (shM F6_ F6_ [])] (.tup [eSl 1 true F2_ [],I br]) (show LeV (.tup [eSl 1 true F2_ [],I br]) (.tup [eSl 1 true F2_ ([]:List (List Int)),I br]) from inferInstance)
def z7F:Code:=(Tryz.f10.body).getD .skip
def Yf:zJ:=spF (α:=z6) (ρ:=List (List Int)×Int) 10 (fun x=>[zH x]) (fun r=>.tup [F9_ r.1,(eI .i64) r.2]) (fun x=>Xe x) [] (Vo)
theorem z84 {ctr:Ctr}(hC:zx Tryz.prog ctr)(h0g:ctr.Has wX)(h1E:ctr.Has V6):Yf.Ok Tryz.prog:=by
 refine zw ?_;rintro m_ r0 aa;try unfold Xe at aa;refine yO false [(2,none),(3,none)] z7F 14 Tryz.func10 fun E hE=>?_;obtain⟨r_,h0,aa⟩:=zb aa
 let Z0:List HO:=[Hc h0g (x:=m_) h0 (loC zH m_ <| loN)];rcases zF aa with⟨c0,aa⟩|⟨c0,aa⟩
 ·obtain rfl := za aa
  exact yEx X0 hC hE (Z0++[Hq c0,Hm (shM F6_ F6_ [])]) (.tup [eSl 1 true F2_ [],I r_]) (show LeV (.tup [eSl 1 true F2_ [],I r_]) (.tup [eSl 1 true F2_ ([]:List (List Int)),I r_]) from inferInstance)
 ·obtain ⟨ah, h1, aa⟩ := zb aa
  obtain rfl:=za aa;exact yE X0 hC hE (Z0++[Hq c0,Hc h1E (x:=(m_,())) h1 (loC zH m_ <| loC (z9Q 38) () <| loN)])
def JU:Code:=(Tryz.f55.body).getD .skip
def Jw:zJ:=spF (α:=z6×Int×List Int) (ρ:=List Int) 55 (fun x=>[zH x.1,(eI .i64) x.2.1,F6_ x.2.2]) (fun r=>F5_ r) (fun x=>UT x.1 x.2.1 x.2.2) [] (zbg)
abbrev z5C (out:List Int):List (Nat×T):=[(7,.own (eOs 1 false (eI .i64) out))]
abbrev z5B (m_:z6)(w_:List Int)(az:Int)(ai:List Int)(k_:Int):List (Nat×T):=[(1,.d (I az)),(2,.d (eSl 1 false (eI .i64) w_)),(3,.own (.box (zH m_))),(7,.own (eOs 1 false (eI .i64) ai)),(8,.d (I k_))]
theorem z9i {ctr:Ctr}(hC:zx Tryz.prog ctr)(h0b:ctr.Has Yb):Jw.Ok Tryz.prog:=by
 refine zw ?_;rintro⟨m_,s_,w_⟩ r0 aa;try unfold UT at aa;refine yO true [(6,none)] JU 31 Tryz.func55 fun E hE=>?_;refine yJ X0 hC JU [1,1] [] [7] (fun z:List Int=>Uj z=some r0) (fun z=>z5C z) [(1,.d (I s_)),(2,.d (eSl 1 false (eI .i64) w_)),(3,.own (.box (zH m_))),(7,.own (eOs 1 true (eI .i64) []))] [Hh (.cut 2)] ?_ fun J1 aq=>?_
 ·rintro out aa
  unfold Uj at aa;obtain rfl:=za aa;exact yE X0 hC hE []
 ·obtain ⟨t2, ht2, aa⟩ := zb aa
  refine yLx X0 hC JU [1,1,2,1,0] [J1] (fun s=>XM m_ w_ s.1 s.2.1 s.2.2) (fun x=>z5B m_ w_ x.1 x.2.1 x.2.2) (s_,([]:List Int),0) ht2 [(1,.d (I s_)),(2,.d (eSl 1 false (eI .i64) w_)),(3,.own (.box (zH m_))),(7,.own (eOs 1 true (eI .i64) [])),(8,.d (I 0))] inferInstance [] ?_;rintro⟨az,ai,k_⟩ m2 au ae hl1 J2 av;try unfold XM at ae;rcases zF ae with⟨c0,ae⟩|⟨c0,ae⟩
  ·obtain ⟨fe, h0, ae⟩ := zb ae
   obtain⟨r_,h1,ae⟩:=zb ae;obtain⟨g0,ae⟩:=gdE ae;obtain rfl:=za ae;exact yB X0 hC av (r_.To,(ai++([r_.Out]:List Int)),w64 (k_+1)) hl1 [Ha (lnM (eI .i64) w_),Hq c0,Hi (eI .i64) h0,Hc h0b (x:=(m_,az,fe)) h1 (loC zH m_ <| loC (eI .i64) az <| loC (eI .i64) fe <| loN),Hq (dM (eI .i64) ([r_.Out]:List Int)),Hn (dM (eI .i64) ([r_.Out]:List Int)),Hn (aL (eI .i64) (eI .i64) g0),Hl (aM (eI .i64) ai ([r_.Out]:List Int))]
  ·obtain rfl := za ae
   obtain rfl:=hl1;exact yB X0 hC aq ai aa [Ha (lnM (eI .i64) w_),Hq c0]
def Wk:Code:=(Tryz.f152.body).getD .skip
def W4:zJ:=spF (α:=List Int×List Int) (ρ:=Int) 152 (fun x=>[F6_ x.1,F6_ x.2]) (fun r=>(eI .i64) r) (fun x=>Wu x.1 x.2) [] (VO)
abbrev z0K:List (Nat×T):=[]
abbrev z0J (a_:List Int)(b_:List Int)(i_:Int):List (Nat×T):=[(0,.d (eSl 1 false (eI .i64) a_)),(1,.d (eSl 1 false (eI .i64) b_)),(5,.d (I i_))]
theorem z4f {ctr:Ctr}(hC:zx Tryz.prog ctr):W4.Ok Tryz.prog:=by
 refine zw ?_;rintro⟨a_,b_⟩ r0 aa;try unfold Wu at aa;refine yO true [(4,none)] Wk 40 Tryz.func152 fun E hE=>?_
 let Z0:List HO:=[Ha (lnM (eI .i64) a_),Ha (lnM (eI .i64) b_)];rcases zF aa with⟨c0,aa⟩|⟨c0,aa⟩
 ·obtain rfl := za aa
  exact yE X0 hC hE (Z0++[Hq c0])
 ·let Z1 : List HO := (Z0 ++ [Hq c0, Ha (lnM (eI .i64) a_), Ha (lnM (eI .i64) b_)])
  rcases zF aa with⟨c1,aa⟩|⟨c1,aa⟩
  ·obtain rfl := za aa
   exact yE X0 hC hE (Z1++[Hq c1])
  ·refine yJ X0 hC Wk [1,1,1] [] [] (fun z : Unit => ZB = some r0) (fun z => z0K) [(0, .d (eSl 1 false (eI .i64) a_)), (1, .d (eSl 1 false (eI .i64) b_))] (Z1 ++ [Hq c1, Hh (.cut 0)]) ?_ fun J1 aq => ?_
   ·rintro ⟨⟩ aa
    unfold ZB at aa;obtain rfl:=za aa;exact yE X0 hC hE []
   ·obtain ⟨t2, ht2, aa⟩ := zb aa
    refine yL X0 hC Wk [1,1,1,2,1,0] [J1] (fun s=>vA a_ b_ s) (fun x=>z0J a_ b_ x) 0 ht2  [] ?_;rintro i_ m2 au ae hl1 J2 av;try unfold vA at ae;rcases zF ae with⟨c2,ae⟩|⟨c2,ae⟩
    ·obtain ⟨ff, h0, ae⟩ := zb ae
     obtain⟨fg,h1,ae⟩:=zb ae
     let Z2:List HO:=[Ha (lnM (eI .i64) a_),Hq c2,Hi (eI .i64) h0,Hi (eI .i64) h1];rcases zF ae with⟨c3,ae⟩|⟨c3,ae⟩
     ·obtain rfl := za ae
      obtain rfl:=hl1;obtain rfl:=za aa;exact yE X0 hC hE (Z2++[Hq c3])
     ·obtain ⟨gk, h2, ae⟩ := zb ae
      obtain⟨gl,h3,ae⟩:=zb ae
      let Z3:List HO:=(Z2++[Hq c3,Hi (eI .i64) h2,Hi (eI .i64) h3]);rcases zF ae with⟨c4,ae⟩|⟨c4,ae⟩
      ·obtain rfl := za ae
       obtain rfl:=hl1;obtain rfl:=za aa;exact yE X0 hC hE (Z3++[Hq c4])
      ·obtain rfl := za ae
       exact yB X0 hC av (w64 (i_+1)) hl1 (Z3++[Hq c4])
    ·obtain rfl := za ae
     obtain rfl:=hl1;exact yB X0 hC aq () aa [Ha (lnM (eI .i64) a_),Hq c2]
def z7A:Code:=(Tryz.f135.body).getD .skip
def Qi:zJ:=spF (α:=List Int×List Int) (ρ:=Bool) 135 (fun x=>[F6_ x.1,F6_ x.2]) (fun r=>eB r) (fun x=>UU x.1 x.2) [] (VO)
theorem z7Y {ctr:Ctr}(hC:zx Tryz.prog ctr)(h1F:ctr.Has W4):Qi.Ok Tryz.prog:=by
 refine zw ?_;rintro⟨a_,b_⟩ r0 aa;try unfold UU at aa;refine yO true [(4,none)] z7A 9 Tryz.func135 fun E hE=>?_;obtain⟨r_,h0,aa⟩:=zb aa;obtain rfl:=za aa;exact yE X0 hC hE [Hc h1F (x:=(a_,b_)) h0 (loC F6_ a_ <| loC F6_ b_ <| loN)]
def z5f:Code:=(Tryz.f107.body).getD .skip
def WY:zJ:=spF (α:=z6×List Int×Int×Int) (ρ:=Int) 107 (fun x=>[zH x.1,F6_ x.2.1,(eI .i64) x.2.2.1,(eI .i64) x.2.2.2]) (fun r=>(eI .i64) r) (fun x=>XJ x.1 x.2.1 x.2.2.1 x.2.2.2) [] (zoN)
theorem z5N {ctr:Ctr}(hC:zx Tryz.prog ctr)(h0I:ctr.Has Jw)(h0J:ctr.Has Qi):WY.Ok Tryz.prog:=by
 refine zw ?_;rintro⟨m_,w_,s_,t_⟩ r0 aa;try unfold XJ at aa;refine yO true [(8,none)] z5f 18 Tryz.func107 fun E hE=>?_;obtain⟨r_,h0,aa⟩:=zb aa;obtain⟨ah,h1,aa⟩:=zb aa;obtain⟨al,h2,aa⟩:=zb aa
 let Z0:List HO:=[Hc h0I (x:=(m_,s_,w_)) h0 (loC zH m_ <| loC (eI .i64) s_ <| loC F6_ w_ <| loN),Hc h0I (x:=(m_,t_,w_)) h1 (loC zH m_ <| loC (eI .i64) t_ <| loC F6_ w_ <| loN),Hg (z1Y h0J),Hm (shM (eI .i64) (eI .i64) r_),Hm (shM (eI .i64) (eI .i64) ah),Hs (z1Z h0J (x:=(r_,ah)) h2 (loC F6_ r_ <| loC F6_ ah <| loN))];rcases zF aa with⟨c0,aa⟩|⟨c0,aa⟩
 ·obtain rfl := za aa
  exact yE X0 hC hE (Z0++[Hq c0])
 ·obtain rfl := za aa
  exact yE X0 hC hE (Z0++[Hq c0])
def QI:Code:=(Tryz.f106.body).getD .skip
def Qe:zJ:=spF (α:=List Int×Int) (ρ:=List Int) 106 (fun x=>[F6_ x.1,(eI .i64) x.2]) (fun r=>F5_ r) (fun x=>Kj x.1 x.2) [] (VO)
abbrev z3E (out:List Int):List (Nat×T):=[(5,.own (eOs 1 false (eI .i64) out))]
abbrev z3D (inputs:Int)(ai:List Int)(k_:Int):List (Nat×T):=[(1,.d (I inputs)),(5,.own (eOs 1 false (eI .i64) ai)),(6,.d (I k_))]
theorem z7U {ctr:Ctr}(hC:zx Tryz.prog ctr):Qe.Ok Tryz.prog:=by
 refine zw ?_;rintro⟨w_,inputs⟩ r0 aa;try unfold Kj at aa;refine yO true [(4,none)] QI 37 Tryz.func106 fun E hE=>?_;obtain⟨g0,aa⟩:=gdE aa;refine yJ X0 hC QI [1,1] [] [5] (fun z:List Int=>Qr z=some r0) (fun z=>z3E z) [(1,.d (I inputs)),(5,.own (eOs 1 false (eI .i64) w_))] [Hn (dM (eI .i64) w_),Hn (aL (eI .i64) (eI .i64) g0),Hl (aM0 (eI .i64) w_),Hh (.cut 0)] ?_ fun J1 aq=>?_
 ·rintro out aa
  unfold Qr at aa;obtain⟨g1,aa⟩:=gdE aa;obtain rfl:=za aa;exact yE X0 hC hE [Hq (dM (eI .i64) ([0]:List Int)),Hn (dM (eI .i64) ([0]:List Int)),Hn (aL (eI .i64) (eI .i64) g1),Hl (aM (eI .i64) out ([0]:List Int))]
 ·obtain ⟨t2, ht2, aa⟩ := zb aa
  refine yL X0 hC QI [1,1,2,1,0] [J1] (fun s=>Qq inputs s.1 s.2) (fun x=>z3D inputs x.1 x.2) (w_,w64 (((w_.length:Nat):Int) - 1)) ht2  [Ha (lnM (eI .i64) w_)] ?_;rintro⟨ai,k_⟩ m2 au ae hl1 J2 av;try unfold Qq at ae;rcases zF ae with⟨c0,ae⟩|⟨c0,ae⟩
  ·obtain ⟨bp, h0, ae⟩ := zb ae
   let Z0:List HO:=[Hq c0,Hn (iL (eI .i64) h0),Hs (iM (eI .i64) h0)];rcases zF ae with⟨c1,ae⟩|⟨c1,ae⟩
   ·obtain ⟨dm, h1, ae⟩ := zb ae
    obtain⟨jr,h2,ae⟩:=zb ae;obtain rfl:=za ae;obtain rfl:=hl1;obtain rfl:=za aa;exact yE X0 hC hE (Z0++[Hq c1,Hn (iL (eI .i64) h1),Hs (iM (eI .i64) h1),Hn (iL (eI .i64) h2),Hs (iM (eI .i64) h2),Hs (iM (eI .i64) h2),Hl (sM (eI .i64) ai k_ (w64 (dm+1)))])
   ·obtain ⟨js, h3, ae⟩ := zb ae
    obtain rfl:=za ae;exact yB X0 hC av ((ai.set k_.toNat 0),w64 (k_ - 1)) hl1 (Z0++[Hq c1,Hn (iL (eI .i64) h3),Hs (iM (eI .i64) h3),Hs (iM (eI .i64) h3),Hl (sM (eI .i64) ai k_ 0)])
  ·obtain rfl := za ae
   obtain rfl:=hl1;exact yB X0 hC aq ai aa [Hq c0]
def Xh:Code:=(Tryz.f74.body).getD .skip
def X3:zJ:=spF (α:=z6×Int×Int) (ρ:=List Int×Bool) 74 (fun x=>[zH x.1,(eI .i64) x.2.1,(eI .i64) x.2.2]) (fun r=>.tup [F6_ r.1,eB r.2]) (fun x=>wb x.1 x.2.1 x.2.2) [] (zbg)
abbrev KO:List (Nat×T):=[]
abbrev KN (m_:z6)(s_:Int)(t_:Int)(w_:List Int):List (Nat×T):=[(1,.d (I s_)),(2,.d (I t_)),(3,.own (.box (zH m_))),(8,.own (eOs 1 false (eI .i64) w_))]
theorem z3n {ctr:Ctr}(hC:zx Tryz.prog ctr)(h0K:ctr.Has WY)(h0L:ctr.Has Qe):X3.Ok Tryz.prog:=by
 refine zw ?_;rintro⟨m_,s_,t_⟩ r0 aa;try unfold wb at aa;refine yO false [(6,none),(7,none)] Xh 28 Tryz.func74 fun E hE=>?_;refine yJ X0 hC Xh [1] [] [] (fun z:Unit=>X8=some r0) (fun z=>KO) [(1,.d (I s_)),(2,.d (I t_)),(3,.own (.box (zH m_)))] [Hh (.cut 1)] ?_ fun J1 aq=>?_
 ·rintro ⟨⟩ aa
  unfold X8 at aa;obtain rfl:=za aa;exact yEx X0 hC hE [Hm (shM (eI .i64) (eI .i64) [])] (.tup [eSl 1 true (eI .i64) [],B false]) (show LeV (.tup [eSl 1 true (eI .i64) [],B false]) (.tup [eSl 1 false (eI .i64) ([]:List Int),B false]) from inferInstance)
 ·obtain ⟨t2, ht2, aa⟩ := zb aa
  refine yLx X0 hC Xh [1,2,1,0] [J1] (fun s=>kI m_ s_ t_ s) (fun x=>KN m_ s_ t_ x) ([]:List Int) ht2 [(1,.d (I s_)),(2,.d (I t_)),(3,.own (.box (zH m_))),(8,.own (eOs 1 true (eI .i64) []))] inferInstance [] ?_;rintro w_ m2 au ae hl1 J2 av;try unfold kI at ae
  let Z0:List HO:=[Ha (lnM (eI .i64) w_),Ha (lnM yM m_.Rows)];rcases zF ae with⟨c0,ae⟩|⟨c0,ae⟩
  ·obtain ⟨r_, h0, ae⟩ := zb ae
   let Z1:List HO:=(Z0++[Hq c0,Hg (z1Y h0K),Hm (shM (eI .i64) (eI .i64) w_),Hs (z1Z h0K (x:=(m_,w_,s_,t_)) h0 (loC zH m_ <| loC F6_ w_ <| loC (eI .i64) s_ <| loC (eI .i64) t_ <| loN))]);rcases zF ae with⟨c1,ae⟩|⟨c1,ae⟩
   ·obtain rfl := za ae
    obtain rfl:=hl1;obtain rfl:=za aa;exact yE X0 hC hE (Z1++[Hq c1,Hm (shM (eI .i64) (eI .i64) w_)])
   ·obtain ⟨ah, h1, ae⟩ := zb ae
    obtain rfl:=za ae;exact yB X0 hC av ah hl1 (Z1++[Hq c1,Hg (z1Y h0L),Hm (shM (eI .i64) (eI .i64) w_),Hs (z1Z h0L (x:=(w_,m_.Inputs)) h1 (loC F6_ w_ <| loC (eI .i64) m_.Inputs <| loN)),Hm (shM (eI .i64) (eI .i64) w_)])
  ·obtain rfl := za ae
   obtain rfl:=hl1;exact yB X0 hC aq () aa (Z0++[Hq c0])
def Wj:Code:=(Tryz.f65.body).getD .skip
def Zr:zJ:=spF (α:=List Int×List Int) (ρ:=Int) 65 (fun x=>[F6_ x.1,F6_ x.2]) (fun r=>(eI .i64) r) (fun x=>uO x.1 x.2) [] (VO)
abbrev z0v:List (Nat×T):=[]
abbrev z0u (a_:List Int)(b_:List Int)(i_:Int):List (Nat×T):=[(0,.d (eSl 1 false (eI .i64) a_)),(1,.d (eSl 1 false (eI .i64) b_)),(5,.d (I i_))]
theorem z4a {ctr:Ctr}(hC:zx Tryz.prog ctr):Zr.Ok Tryz.prog:=by
 refine zw ?_;rintro⟨a_,b_⟩ r0 aa;try unfold uO at aa;refine yO true [(4,none)] Wj 40 Tryz.func65 fun E hE=>?_
 let Z0:List HO:=[Ha (lnM (eI .i64) a_),Ha (lnM (eI .i64) b_)];rcases zF aa with⟨c0,aa⟩|⟨c0,aa⟩
 ·let Z1 : List HO := (Z0 ++ [Hq c0, Ha (lnM (eI .i64) a_), Ha (lnM (eI .i64) b_)])
  rcases zF aa with⟨c1,aa⟩|⟨c1,aa⟩
  ·obtain rfl := za aa
   exact yE X0 hC hE (Z1++[Hq c1])
  ·obtain rfl := za aa
   exact yE X0 hC hE (Z1++[Hq c1])
 ·refine yJ X0 hC Wj [1,1] [] [] (fun z : Unit => W9 = some r0) (fun z => z0v) [(0, .d (eSl 1 false (eI .i64) a_)), (1, .d (eSl 1 false (eI .i64) b_))] (Z0 ++ [Hq c0, Hh (.cut 0)]) ?_ fun J1 aq => ?_
  ·rintro ⟨⟩ aa
   unfold W9 at aa;obtain rfl:=za aa;exact yE X0 hC hE []
  ·obtain ⟨t2, ht2, aa⟩ := zb aa
   refine yL X0 hC Wj [1,1,2,1,0] [J1] (fun s=>qo a_ b_ s) (fun x=>z0u a_ b_ x) 0 ht2  [] ?_;rintro i_ m2 au ae hl1 J2 av;try unfold qo at ae;rcases zF ae with⟨c2,ae⟩|⟨c2,ae⟩
   ·obtain ⟨ff, h0, ae⟩ := zb ae
    obtain⟨fg,h1,ae⟩:=zb ae
    let Z2:List HO:=[Ha (lnM (eI .i64) a_),Hq c2,Hi (eI .i64) h0,Hi (eI .i64) h1];rcases zF ae with⟨c3,ae⟩|⟨c3,ae⟩
    ·obtain rfl := za ae
     obtain rfl:=hl1;obtain rfl:=za aa;exact yE X0 hC hE (Z2++[Hq c3])
    ·obtain ⟨gk, h2, ae⟩ := zb ae
     obtain⟨gl,h3,ae⟩:=zb ae
     let Z3:List HO:=(Z2++[Hq c3,Hi (eI .i64) h2,Hi (eI .i64) h3]);rcases zF ae with⟨c4,ae⟩|⟨c4,ae⟩
     ·obtain rfl := za ae
      obtain rfl:=hl1;obtain rfl:=za aa;exact yE X0 hC hE (Z3++[Hq c4])
     ·obtain rfl := za ae
      exact yB X0 hC av (w64 (i_+1)) hl1 (Z3++[Hq c4])
   ·obtain rfl := za ae
    obtain rfl:=hl1;exact yB X0 hC aq () aa [Ha (lnM (eI .i64) a_),Hq c2]
def ZY:Code:=(Tryz.f42.body).getD .skip
def Ju:zJ:=spF (α:=List (List Int)×List Int) (ρ:=List (List Int)) 42 (fun x=>[zaY x.1,F6_ x.2]) (fun r=>zaY r) (fun x=>JC x.1 x.2) [true,false] (VO)
abbrev z5s (w_:List Int)(cn:Int)(dw:List (List Int)):List (Nat×T):=[(0,.own (eOs 1 false F6_ dw)),(1,.d (eSl 1 false (eI .i64) w_)),(5,.d (I cn))]
abbrev z5r (w_:List Int)(cn:Int)(fy:List (List Int))(i_:Int):List (Nat×T):=[(0,.own (eOs 1 false F6_ fy)),(1,.d (eSl 1 false (eI .i64) w_)),(5,.d (I cn)),(8,.d (I i_))]
abbrev z5t (l_:List (List Int))(w_:List Int)(cn:Int):List (Nat×T):=[(0,.own (eOs 1 false F6_ l_)),(1,.d (eSl 1 false (eI .i64) w_)),(5,.d (I cn))]
abbrev z5u (l_:List (List Int))(w_:List Int)(cn:Int):List (Nat×T):=[(0,.own (eOs 1 false F6_ l_)),(1,.d (eSl 1 false (eI .i64) w_)),(5,.d (I cn))]
abbrev z5q (l_:List (List Int))(w_:List Int)(fj:Int)(gj:Int):List (Nat×T):=[(0,.own (eOs 1 false F6_ l_)),(1,.d (eSl 1 false (eI .i64) w_)),(5,.d (I fj)),(6,.d (I gj))]
def xN:XH Tryz.prog:=((Q7 zy (.inr 66) [65]).or ((Q7 zy (.inl 44) [43]).or X0))
theorem z9g {ctr:Ctr}(hC:zx Tryz.prog ctr)(h0m:ctr.Has Zr):Ju.Ok Tryz.prog:=by
 refine zw ?_;rintro⟨l_,w_⟩ r0 aa;try unfold JC at aa;refine yO true [(4,none)] ZY 68 Tryz.func42 fun E hE=>?_;refine yJ xN hC ZY [1,1,1] [] [0,1,5] (fun z:Int=>Ud l_ w_ z=some r0) (fun z=>z5u l_ w_ z) [(0,.own (eOs 1 false F6_ l_)),(1,.d (eSl 1 false (eI .i64) w_)),(5,.d (I 0)),(6,.d (I ((l_.length:Nat):Int)))] [Ha (lnM F6_ l_),Hh (.cut 0)] ?_ fun J1 aq=>?_
 ·rintro cn aa
  unfold Ud at aa;refine yJ xN hC ZY [1,1,1,1] [] [0,1,5] (fun z:Unit=>ZU l_ w_ cn=some r0) (fun z=>z5t l_ w_ cn) [(0,.own (eOs 1 false F6_ l_)),(1,.d (eSl 1 false (eI .i64) w_)),(5,.d (I cn))] [Hh (.cut 0)] ?_ fun J2 av=>?_
  ·rintro ⟨⟩ aa
   unfold ZU at aa;obtain⟨g0,aa⟩:=gdE aa;refine yJ ((xNb zy 43).or xN) hC ZY [1,1,1,1,1,1] [] [0,1,5] (fun z:List (List Int)=>Uc w_ cn z=some r0) (fun z=>z5s w_ cn z) [(0,.own (eOs 1 false F6_ (l_++([[]]:List (List Int))))),(1,.d (eSl 1 false (eI .i64) w_)),(5,.d (I cn))] [Hm (shM F5_ F6_ ([[]])),Hn (dM F6_ ([[]]:List (List Int))),Hn (aL F6_ F6_ g0),Hl (aM F6_ l_ ([[]]:List (List Int))),Hh (.cut 0)] ?_ fun J3 bf=>?_
   ·rintro dw aa
    unfold Uc at aa;obtain⟨g1,aa⟩:=gdE aa;obtain⟨bq,h0,aa⟩:=zb aa;obtain rfl:=za aa;exact yE xN hC hE [Hn (dM (eI .i64) w_),Hn (aL (eI .i64) (eI .i64) g1),Hl (aM0 (eI .i64) w_),Hn (iL F6_ h0),Hm (shM (eI .i64) (eI .i64) w_),Hs (iM F6_ h0),Hs (iM F6_ h0),Hl (sM F6_ dw cn w_)]
   ·obtain ⟨t4, ht4, aa⟩ := zb aa
    refine yL xN hC ZY [1,1,1,1,1,1,2,1,0] [J3] (fun s=>XG cn s.1 s.2) (fun x=>z5r w_ cn x.1 x.2) ((l_++([[]]:List (List Int))),w64 ((((l_++([[]]:List (List Int))).length:Nat):Int) - 1)) ht4  [Ha (lnM F6_ (l_++([[]]:List (List Int))))] ?_;rintro⟨fy,i_⟩ m4 au ae hl1 J4 bw;try unfold XG at ae;rcases zF ae with⟨c0,ae⟩|⟨c0,ae⟩
    ·obtain ⟨ga, h1, ae⟩ := zb ae
     obtain⟨l8,h2,ae⟩:=zb ae;obtain rfl:=za ae;exact yB xN hC bw ((fy.set i_.toNat ga),w64 (i_ - 1)) hl1 [Hq c0,Hn (iL F6_ h1),Hs (iM F6_ h1),Hn (iL F6_ h2),Hs (iM F6_ h2),Hs (iM F6_ h2),Hl (sM F6_ fy i_ ga)]
    ·obtain rfl := za ae
     obtain rfl:=hl1;exact yB xN hC bf fy aa [Hq c0]
  ·let Z0 : List HO := [Ha (lnM F6_ l_)]
   rcases zF aa with⟨c1,aa⟩|⟨c1,aa⟩
   ·obtain ⟨jn, h3, aa⟩ := zb aa
    obtain⟨r_,h4,aa⟩:=zb aa
    let Z1:List HO:=(Z0++[Hq c1,Hq c1,Hq c1,Hn (iL F6_ h3),Hq c1,Hs (iM F6_ h3),Hq c1,Hq c1,Hc h0m (x:=(jn,w_)) h4 (loC F6_ jn <| loC F6_ w_ <| loN),Hq c1,Hq c1]);rcases zF aa with⟨c2,aa⟩|⟨c2,aa⟩
    ·obtain rfl := za aa
     exact yE xN hC hE (Z1++[Hq c2])
    ·exact yB xN hC av () aa (Z1++[Hq c2])
   ·exact yB xN hC av () aa (Z0++(rpN 8 (Hq c1) [qF]))
 ·obtain ⟨t5, ht5, aa⟩ := zb aa
  refine yL xN hC ZY [1,1,1,2,0] [J1] (fun s=>XF l_ w_ s.1 s.2) (fun x=>z5q l_ w_ x.1 x.2) (0,((l_.length:Nat):Int)) ht5  [] ?_;rintro⟨fj,gj⟩ m5 au ae hl1 J5 cd;try unfold XF at ae;rcases zF ae with⟨c3,ae⟩|⟨c3,ae⟩
  ·obtain ⟨g2, ae⟩ := gdE ae
   obtain⟨jo,h5,ae⟩:=zb ae;obtain⟨ah,h6,ae⟩:=zb ae
   let Z2:List HO:=[Hq c3,Hn g2,Hn (iL F6_ h5),Hs (iM F6_ h5),Hc h0m (x:=(jo,w_)) h6 (loC F6_ jo <| loC F6_ w_ <| loN)];rcases zF ae with⟨c4,ae⟩|⟨c4,ae⟩
   ·obtain rfl := za ae
    exact yB xN hC cd (w64 ((w64 (Int.tdiv (w64 (fj+gj)) 2))+1),gj) hl1 (Z2++[Hq c4])
   ·obtain rfl := za ae
    exact yB xN hC cd (fj,w64 (Int.tdiv (w64 (fj+gj)) 2)) hl1 (Z2++[Hq c4])
  ·obtain rfl := za ae
   obtain rfl:=hl1;exact yB xN hC aq fj aa [Hq c3]
def QG:Code:=(Tryz.f15.body).getD .skip
def Wq:zJ:=spF (α:=List (List Int)) (ρ:=List (List Int)) 15 (fun x=>[wI x]) (fun r=>zaY r) (fun x=>WN x) [] (Vo)
abbrev z3A (out:List (List Int)):List (Nat×T):=[(3,.own (eOs 1 false F6_ out))]
abbrev z3z (l_:List (List Int))(ai:List (List Int))(i_:Int):List (Nat×T):=[(0,.d (eSl 1 false F6_ l_)),(3,.own (eOs 1 false F6_ ai)),(4,.d (I i_))]
theorem z7S {ctr:Ctr}(hC:zx Tryz.prog ctr)(h1G:ctr.Has Ju):Wq.Ok Tryz.prog:=by
 refine zw ?_;rintro l_ r0 aa;try unfold WN at aa;refine yO true [(2,none)] QG 18 Tryz.func15 fun E hE=>?_;refine yJ X0 hC QG [1,1] [] [3] (fun z:List (List Int)=>Qp z=some r0) (fun z=>z3A z) [(0,.d (eSl 1 false F6_ l_)),(3,.own (eOs 1 true F6_ []))] [Hh (.cut 2)] ?_ fun J1 aq=>?_
 ·rintro out aa
  unfold Qp at aa;obtain rfl:=za aa;exact yE X0 hC hE []
 ·obtain ⟨t2, ht2, aa⟩ := zb aa
  refine yLx X0 hC QG [1,1,2,1,0] [J1] (fun s=>vJ l_ s.1 s.2) (fun x=>z3z l_ x.1 x.2) (([]:List (List Int)),0) ht2 [(0,.d (eSl 1 false F6_ l_)),(3,.own (eOs 1 true F6_ [])),(4,.d (I 0))] inferInstance [] ?_;rintro⟨ai,i_⟩ m2 au ae hl1 J2 av;try unfold vJ at ae
  let Z0:List HO:=[Ha (lnM F6_ l_)];rcases zF ae with⟨c0,ae⟩|⟨c0,ae⟩
  ·obtain ⟨bq, h0, ae⟩ := zb ae
   obtain⟨r_,h1,ae⟩:=zb ae;obtain rfl:=za ae;exact yB X0 hC av (r_,w64 (i_+1)) hl1 (Z0++[Hq c0,Hi F6_ h0,Hc h1G (x:=(ai,bq)) h1 (loC zaY ai <| loC F6_ bq <| loN)])
  ·obtain rfl := za ae
   obtain rfl:=hl1;exact yB X0 hC aq ai aa (Z0++[Hq c0])
def qK:Code:=(Tryz.f40.body).getD .skip
def Xm:zJ:=spF (α:=z6×Int) (ρ:=List (List Int)) 40 (fun x=>[zH x.1,(eI .i64) x.2]) (fun r=>zaY r) (fun x=>X7 x.1 x.2) [] (VO)
abbrev z2I (out:List (List Int)):List (Nat×T):=[(5,.own (eOs 1 false F6_ out))]
abbrev z2H (m_:z6)(s_:Int)(a_:Int)(ay:List (List Int)):List (Nat×T):=[(1,.d (I s_)),(2,.own (.box (zH m_))),(5,.own (eOs 1 false F6_ ay)),(6,.d (I a_))]
abbrev z2G (m_:z6)(s_:Int)(a_:Int)(b_:Int)(gg:List (List Int)):List (Nat×T):=[(1,.d (I s_)),(2,.own (.box (zH m_))),(5,.own (eOs 1 false F6_ gg)),(6,.d (I a_)),(7,.d (I b_))]
abbrev z2E (m_:z6)(s_:Int)(a_:Int)(bv:List (List Int))(b_:Int):List (Nat×T):=[(1,.d (I s_)),(2,.own (.box (zH m_))),(5,.own (eOs 1 false F6_ bv)),(6,.d (I a_)),(7,.d (I b_))]
abbrev z2F (m_:z6)(s_:Int)(ai:List (List Int))(a_:Int):List (Nat×T):=[(1,.d (I s_)),(2,.own (.box (zH m_))),(5,.own (eOs 1 false F6_ ai)),(6,.d (I a_))]
theorem z6Q {ctr:Ctr}(hC:zx Tryz.prog ctr)(h0x:ctr.Has X3)(h0h:ctr.Has Wq):Xm.Ok Tryz.prog:=by
 refine zw ?_;rintro⟨m_,s_⟩ r0 aa;try unfold X7 at aa;refine yO true [(4,none)] qK 51 Tryz.func40 fun E hE=>?_;refine yJ X0 hC qK [1,1] [] [5] (fun z:List (List Int)=>Xr z=some r0) (fun z=>z2I z) [(1,.d (I s_)),(2,.own (.box (zH m_))),(5,.own (eOs 1 true F6_ []))] [Hh (.cut 2)] ?_ fun J1 aq=>?_
 ·rintro out aa
  unfold Xr at aa;obtain⟨r_,h0,aa⟩:=zb aa;obtain rfl:=za aa;exact yE X0 hC hE [Hg (z1Y h0h),Hm (shM F6_ F6_ out),Hs (z1Z h0h (x:=out) h0 (loC wI out <| loN)),Hm (shM F6_ F6_ out)]
 ·obtain ⟨t2, ht2, aa⟩ := zb aa
  refine yLx X0 hC qK [1,1,2,1,0] [J1] (fun s=>Xp m_ s_ s.1 s.2) (fun x=>z2F m_ s_ x.1 x.2) (([]:List (List Int)),0) ht2 [(1,.d (I s_)),(2,.own (.box (zH m_))),(5,.own (eOs 1 true F6_ [])),(6,.d (I 0))] inferInstance [] ?_;rintro⟨ai,a_⟩ m2 au ae hl1 J2 av;try unfold Xp at ae
  let Z0:List HO:=[Ha (lnM yM m_.Rows)];rcases zF ae with⟨c0,ae⟩|⟨c0,ae⟩
  ·refine yJ X0 hC qK [1,1,2,1,0,0,1] [J1, J2] [1,2,5,6] (fun z : List (List Int) => Xq a_ z = some au) (fun z => z2H m_ s_ a_ z) [(1, .d (I s_)), (2, .own (.box (zH m_))), (5, .own (eOs 1 false F6_ ai)), (6, .d (I a_))] (Z0 ++ [Hq c0, Hh (.cut 0)]) ?_ fun J3 bf => ?_
   ·rintro ay ae
    unfold Xq at ae;obtain rfl:=za ae;exact yB X0 hC av (ay,w64 (a_+1)) hl1 []
   ·obtain ⟨t4, ht4, ae⟩ := zb ae
    refine yL X0 hC qK [1,1,2,1,0,0,1,2,0,1,0] [J1,J2,J3] (fun s=>Zi m_ s_ a_ s.1 s.2) (fun x=>z2E m_ s_ a_ x.1 x.2) (ai,w64 (a_+1)) ht4  [] ?_;rintro⟨bv,b_⟩ m4 co aj hl2 J4 bw;try unfold Zi at aj
    let Z1:List HO:=[Ha (lnM yM m_.Rows)];rcases zF aj with⟨c1,aj⟩|⟨c1,aj⟩
    ·refine yJ X0 hC qK [1,1,2,1,0,0,1,2,0,1,0,0,1] [J1, J2, J3, J4] [1,2,5,6,7] (fun z : List (List Int) => wa b_ z = some co) (fun z => z2G m_ s_ a_ b_ z) [(1, .d (I s_)), (2, .own (.box (zH m_))), (5, .own (eOs 1 false F6_ bv)), (6, .d (I a_)), (7, .d (I b_))] (Z1 ++ [Hq c1, Hh (.cut 0)]) ?_ fun J5 cd => ?_
     ·rintro gg aj
      unfold wa at aj;obtain rfl:=za aj;exact yB X0 hC bw (gg,w64 (b_+1)) hl2 []
     ·rcases zF aj with ⟨c2, aj⟩ | ⟨c2, aj⟩
      ·obtain ⟨ah, h1, aj⟩ := zb aj
       obtain⟨g0,aj⟩:=gdE aj;exact yB X0 hC cd (bv++([ah.1]:List (List Int))) aj (rpN 4 (Hq c2) (rpN 5 qT [Hc h0x (x:=(m_,a_,b_)) h1 (loC zH m_ <| loC (eI .i64) a_ <| loC (eI .i64) b_ <| loN),Hq (dM F6_ ([ah.1]:List (List Int))),Hn (dM F6_ ([ah.1]:List (List Int))),Hn (aL F6_ F6_ g0),Hl (aM F6_ bv ([ah.1]:List (List Int)))]))
      ·let Z2 : List HO := (rpN 4 (Hq c2) [])
       rcases zF aj with⟨c3,aj⟩|⟨c3,aj⟩
       ·obtain ⟨al, h2, aj⟩ := zb aj
        obtain⟨g1,aj⟩:=gdE aj;exact yB X0 hC cd (bv++([al.1]:List (List Int))) aj (Z2++(rpN 4 (Hq c3) [qT,Hc h0x (x:=(m_,a_,b_)) h2 (loC zH m_ <| loC (eI .i64) a_ <| loC (eI .i64) b_ <| loN),Hq (dM F6_ ([al.1]:List (List Int))),Hn (dM F6_ ([al.1]:List (List Int))),Hn (aL F6_ F6_ g1),Hl (aM F6_ bv ([al.1]:List (List Int)))]))
       ·let Z3 : List HO := (Z2 ++ (rpN 4 (Hq c3) []))
        rcases zF aj with⟨c4,aj⟩|⟨c4,aj⟩
        ·obtain ⟨aw, h3, aj⟩ := zb aj
         obtain⟨g2,aj⟩:=gdE aj;exact yB X0 hC cd (bv++([aw.1]:List (List Int))) aj (Z3++[Hq c4,Hc h0x (x:=(m_,a_,b_)) h3 (loC zH m_ <| loC (eI .i64) a_ <| loC (eI .i64) b_ <| loN),Hq (dM F6_ ([aw.1]:List (List Int))),Hn (dM F6_ ([aw.1]:List (List Int))),Hn (aL F6_ F6_ g2),Hl (aM F6_ bv ([aw.1]:List (List Int)))])
        ·exact yB X0 hC cd bv aj (Z3++[Hq c4])
    ·obtain rfl := za aj
     obtain rfl:=hl2;exact yB X0 hC bf bv ae (Z1++[Hq c1])
  ·obtain rfl := za ae
   obtain rfl:=hl1;exact yB X0 hC aq ai aa (Z0++[Hq c0])
def z97:Code:=(Tryz.f12.body).getD .skip
def Jt:zJ:=spF (α:=z6) (ρ:=List (List Int)) 12 (fun x=>[zH x]) (fun r=>zaY r) (fun x=>z1h x) [] (Vo)
theorem z9f {ctr:Ctr}(hC:zx Tryz.prog ctr)(h0y:ctr.Has Xm):Jt.Ok Tryz.prog:=by
 refine zw ?_;rintro m_ r0 aa;try unfold z1h at aa;refine yO true [(2,none)] z97 5 Tryz.func12 fun E hE=>?_;obtain⟨r_,h0,aa⟩:=zb aa;obtain rfl:=za aa;exact yE X0 hC hE [Hc h0y (x:=(m_,(-1))) h0 (loC zH m_ <| loC (eI .i64) (-1) <| loN)]
def QH:Code:=(Tryz.f39.body).getD .skip
def Wr:zJ:=spF (α:=List (List Int)×List (List Int)) (ρ:=Bool) 39 (fun x=>[wI x.1,wI x.2]) (fun r=>eB r) (fun x=>WO x.1 x.2) [] (VO)
abbrev z3C:List (Nat×T):=[]
abbrev z3B (a_:List (List Int))(b_:List (List Int))(i_:Int):List (Nat×T):=[(0,.d (eSl 1 false F6_ a_)),(1,.d (eSl 1 false F6_ b_)),(5,.d (I i_))]
theorem z7T {ctr:Ctr}(hC:zx Tryz.prog ctr)(h0m:ctr.Has Zr):Wr.Ok Tryz.prog:=by
 refine zw ?_;rintro⟨a_,b_⟩ r0 aa;try unfold WO at aa;refine yO true [(4,none)] QH 27 Tryz.func39 fun E hE=>?_
 let Z0:List HO:=[Ha (lnM F6_ a_),Ha (lnM F6_ b_)];rcases zF aa with⟨c0,aa⟩|⟨c0,aa⟩
 ·obtain rfl := za aa
  exact yE X0 hC hE (Z0++[Hq c0])
 ·refine yJ X0 hC QH [1,1] [] [] (fun z : Unit => Wt = some r0) (fun z => z3C) [(0, .d (eSl 1 false F6_ a_)), (1, .d (eSl 1 false F6_ b_))] (Z0 ++ [Hq c0, Hh (.cut 0)]) ?_ fun J1 aq => ?_
  ·rintro ⟨⟩ aa
   unfold Wt at aa;obtain rfl:=za aa;exact yE X0 hC hE []
  ·obtain ⟨t2, ht2, aa⟩ := zb aa
   refine yL X0 hC QH [1,1,2,1,0] [J1] (fun s=>kH a_ b_ s) (fun x=>z3B a_ b_ x) 0 ht2  [] ?_;rintro i_ m2 au ae hl1 J2 av;try unfold kH at ae
   let Z1:List HO:=[Ha (lnM F6_ a_)];rcases zF ae with⟨c1,ae⟩|⟨c1,ae⟩
   ·obtain ⟨ff, h0, ae⟩ := zb ae
    obtain⟨fg,h1,ae⟩:=zb ae;obtain⟨r_,h2,ae⟩:=zb ae
    let Z2:List HO:=(Z1++[Hq c1,Hi F6_ h0,Hi F6_ h1,Hc h0m (x:=(ff,fg)) h2 (loC F6_ ff <| loC F6_ fg <| loN)]);rcases zF ae with⟨c2,ae⟩|⟨c2,ae⟩
    ·obtain rfl := za ae
     obtain rfl:=hl1;obtain rfl:=za aa;exact yE X0 hC hE (Z2++[Hq c2])
    ·obtain rfl := za ae
     exact yB X0 hC av (w64 (i_+1)) hl1 (Z2++[Hq c2])
   ·obtain rfl := za ae
    obtain rfl:=hl1;exact yB X0 hC aq () aa (Z1++[Hq c1])
def z7B:Code:=(Tryz.f11.body).getD .skip
def Ws:zJ:=spF (α:=List (List Int)×List (List Int)) (ρ:=Bool) 11 (fun x=>[F9_ x.1,wI x.2]) (fun r=>eB r) (fun x=>wU x.1 x.2) [] (VO)
theorem z7Z {ctr:Ctr}(hC:zx Tryz.prog ctr)(h0n:ctr.Has Wr):Ws.Ok Tryz.prog:=by
 refine zw ?_;rintro⟨a_,b_⟩ r0 aa;try unfold wU at aa;refine yO true [(4,none)] z7B 15 Tryz.func11 fun E hE=>?_;obtain⟨r_,h0,aa⟩:=zb aa
 let Z0:List HO:=[Hc h0n (x:=(a_,b_)) h0 (loC F9_ a_ <| loC wI b_ <| loN)];rcases zF aa with⟨c0,aa⟩|⟨c0,aa⟩
 ·obtain rfl := za aa
  exact yE X0 hC hE (Z0++[Hq c0,Hq c0,Ha (lnM F2_ a_),Hq c0,Hq c0,Ha (lnM F2_ a_),Hq c0,Hq c0])
 ·obtain rfl := za aa
  exact yE X0 hC hE (Z0++(rpN 6 (Hq c0) []))
def z65:Code:=(Tryz.f41.body).getD .skip
def Xn:zJ:=spF (α:=Int×Int×Int) (ρ:=Bool) 41 (fun x=>[(eI .i64) x.1,(eI .i64) x.2.1,(eSp (eI .i64)) x.2.2]) (fun r=>eB r) (fun x=>Vp x.1 x.2.1 x.2.2) [] (zbg)
theorem z6W {ctr:Ctr}(hC:zx Tryz.prog ctr):Xn.Ok Tryz.prog:=by
 refine zw ?_;rintro⟨a_,b_,x2⟩ r0 aa;try unfold Vp at aa;refine yO true [(5,none)] z65 14 Tryz.func41 fun E hE=>?_;rcases zF aa with⟨c0,aa⟩|⟨c0,aa⟩
 ·obtain rfl := za aa
  exact yE X0 hC hE (rpN 4 (Hq c0) [])
 ·obtain rfl := za aa
  exact yE X0 hC hE (rpN 4 (Hq c0) [])
def w6:Code:=(Tryz.f37.body).getD .skip
def V5:zJ:=spF (α:=z6×Int) (ρ:=List (List Int)×Int) 37 (fun x=>[zH x.1,(KB 41 (eSp (eI .i64))) x.2]) (fun r=>.tup [F9_ r.1,(eI .i64) r.2]) (fun x=>qw x.1 x.2) [] (by
 rintro⟨a0,a1⟩ ⟨b0,b1⟩ h;have e0:=ZZ.inj (f:=zH) _ _ (List.cons.inj h).1;replace h:=(List.cons.inj h).2;have e1:=ZZ.inj (f:=(KB 41 (eSp (eI .i64)))) _ _ (List.cons.inj h).1;subst e0 e1;rfl)
abbrev Ji (m_:z6)(x5:Int)(out:List (List Int)):List (Nat×T):=[(2,.own (.box (zH m_))),(4,.own (.box (eOs 1 true F6_ []))),(5,.own (.box (I x5))),(6,.own (.box (eOs 1 false F2_ out)))]
abbrev xV (m_:z6)(is:Int)(ah:Int)(br:Int)(ai:List (List Int)):List (Nat×T):=[(2,.own (.box (zH m_))),(3,.own (.box (.fn 41 [.sptr (I is)]))),(4,.own (.box (eOs 1 true F6_ []))),(5,.own (.box (I br))),(6,.own (.box (eOs 1 false F2_ ai))),(15,.d (.fn 80 [.sptr (I ah)]))]
theorem z12 {ctr:Ctr}(hC:zx Tryz.prog ctr)(h04:ctr.Has wY)(h0z:ctr.Has Xn)(h0f:ctr.Has vE)(h06:ctr.Has Y7):V5.Ok Tryz.prog:=by
 refine zw ?_;rintro⟨m_,is⟩ r0 aa;try unfold qw at aa;refine yO false [(4,some 32),(5,some 33)] w6 44 Tryz.func37 fun E hE=>?_;refine yJ X0 hC w6 [1,1] [] [2,4,5,6] (fun z:Int×List (List Int)=>uV m_ z.1 z.2=some r0) (fun z=>Ji m_ z.1 z.2) [(2,.own (.box (zH m_))),(3,.own (.box (.fn 41 [.sptr (I is)]))),(4,.own (.box (eOs 1 true F6_ []))),(5,.own (.box (I 0))),(6,.own (.box (eOs 1 true F6_ [])))] [Hh (.cut 2)] ?_ fun J1 aq=>?_
 ·rintro ⟨x5, out⟩ aa
  unfold uV at aa;obtain⟨r_,h0,aa⟩:=zb aa;obtain rfl:=za aa;exact yE X0 hC hE [Hg (z1Y h06),Hm (shM F2_ F2_ out),Hs (z1Z h06 (x:=(out,m_.Inputs)) h0 (loC (eSl 1 false F2_) out <| loC (eI .i64) m_.Inputs <| loN)),Hm (shM F2_ F2_ out)]
 ·obtain ⟨ah, h1, aa⟩ := zb aa
  obtain⟨t2,ht2,aa⟩:=zb aa;refine yAt X0 hC (sub [1,1,2,1,0] w6) (frs [1,1,2,1,0] [J1] w6 []) [(2,.own (.box (zH m_))),(3,.own (.box (.fn 41 [.sptr (I is)]))),(4,.own (.box (eOs 1 true F6_ []))),(5,.own (.box (I 0))),(6,.own (.box (eOs 1 true F2_ []))),(15,.d (.fn 80 [.sptr (I ah)]))] [Ha (lnM yM m_.Rows),Hc h04 (x:=((m_.Rows.length:Nat):Int)) h1 (loC (eI .i64) ((m_.Rows.length:Nat):Int) <| loN)] fun st0 h0=>?_;refine z0q (g:=.tmp 15) (ps:=[16,17]) (assign:=(sub [1,1,2,1,0,0] w6)) (body:=(sub [1,1,2,1,0,1] w6)) (K:=80) (caps:=[.sptr (I ah)]) (by kernel_rfl) [2,3,4,5,6,15] (fun s=>xV m_ is ah s.1 s.2) (fun s=>xV m_ is ah s.1 s.2) (fun s=>Code.ret) ((fun(x:Int×Int) (_:Bool) (_:Value)=>[(eI .i64) x.1,(eI .i64) x.2])) (F:=@yN ah) (fun s x=>yK m_ is s.1 s.2 x.1 x.2) (0,([]:List (List Int))) t2 _ h0 inferInstance (by kernel_rfl) (by decide) (fun _=>rfl) (fun _=>rfl) (by kernel_rfl) (fun _ _ _=>rfl) (Zq hC ah) ht2 ?_ ?_
  ·rintro ln ⟨br, ai⟩ ⟨bo, ap⟩ vr au ae
   replace ae:yK m_ is br ai bo ap=some au:=ae;unfold yK at ae;refine yF X0 hC .normal [(2,.own (.box (zH m_))),(3,.own (.box (.fn 41 [.sptr (I is)]))),(4,.own (.box (eOs 1 true F6_ []))),(5,.own (.box (I br))),(6,.own (.box (eOs 1 false F2_ ai))),(7,.d (I bo)),(8,.d (I ap)),(15,.d (.fn 80 [.sptr (I ah)]))] [] fun st0 h0=>⟨rfl,z7G h0 ?_⟩;obtain⟨al,h2,ae⟩:=zb ae
   let Z0:List HO:=[Hc h0z (x:=(bo,ap,is)) h2 (loC (eI .i64) bo <| loC (eI .i64) ap <| loC (eSp (eI .i64)) is <| loN)];rcases zF ae with⟨c0,ae⟩|⟨c0,ae⟩
   ·obtain rfl := za ae
    exact yF X0 hC .normal (xV m_ is ah br ai) (Z0++[Hq c0]) fun st0 h0=>⟨rfl,_,h0,LeL.refl _⟩
   ·obtain ⟨aw, h3, ae⟩ := zb ae
    let Z1:List HO:=(Z0++[Hq c0,Hc h0f (x:=(m_,bo,ap)) h3 (loC zH m_ <| loC (eI .i64) bo <| loC (eI .i64) ap <| loN)]);rcases zF ae with⟨c1,ae⟩|⟨c1,ae⟩
    ·obtain rfl := za ae
     exact yF X0 hC .ret (xV m_ is ah aw.2.2 ai) (Z1++[Hq c1]) fun st0 h0=>⟨rfl,_,h0,LeL.refl _⟩
    ·obtain ⟨g0, ae⟩ := gdE ae
     obtain rfl:=za ae;exact yF X0 hC .normal (xV m_ is ah br (ai++([aw.1]:List (List Int)))) (Z1++[Hq c1,Hq (dM F2_ ([aw.1]:List (List Int))),Hn (dM F2_ ([aw.1]:List (List Int))),Hn (aL F2_ F2_ g0),Hl (aM F2_ ai ([aw.1]:List (List Int)))]) fun st0 h0=>⟨rfl,_,h0,LeL.refl _⟩
  ·rcases t2 with ⟨br, ai⟩ | z
   ·dsimp only at aa
    exact XU (by kernel_rfl) (aq _ [(2,.own (.box (zH m_))),(4,.own (.box (eOs 1 true F6_ []))),(5,.own (.box (I br))),(6,.own (.box (eOs 1 false F2_ ai)))] (br,ai) aa (show Own.canon [2,4,5,6] _=ofL _ by kernel_rfl) inferInstance)
   ·obtain ⟨br, ai⟩ := z
    dsimp only at aa
    show AWP _ _ (Code.ret) _ _
    obtain rfl:=za aa;exact yEx X0 hC hE [Hm (shM F6_ F6_ [])] (.tup [eSl 1 true F2_ [],I br]) (show LeV (.tup [eSl 1 true F2_ [],I br]) (.tup [eSl 1 true F2_ ([]:List (List Int)),I br]) from inferInstance)
def z98:Code:=(Tryz.f13.body).getD .skip
def Ua:zJ:=spF (α:=z6×Int) (ρ:=List (List Int)×Int) 13 (fun x=>[zH x.1,(eI .i64) x.2]) (fun r=>.tup [F9_ r.1,(eI .i64) r.2]) (fun x=>XP x.1 x.2) [] (VO)
theorem z9j {ctr:Ctr}(hC:zx Tryz.prog ctr)(h0g:ctr.Has wX)(h04:ctr.Has wY)(h0z:ctr.Has Xn)(h0f:ctr.Has vE)(h06:ctr.Has Y7):Ua.Ok Tryz.prog:=by
 refine zw ?_;rintro⟨m_,s_⟩ r0 aa;try unfold XP at aa;refine yO false [(4,none),(5,none)] z98 26 Tryz.func13 fun E hE=>?_;obtain⟨r_,h0,aa⟩:=zb aa
 let Z0:List HO:=[Hc h0g (x:=m_) h0 (loC zH m_ <| loN)];rcases zF aa with⟨c0,aa⟩|⟨c0,aa⟩
 ·obtain rfl := za aa
  exact yEx X0 hC hE (Z0++[Hq c0,Hm (shM F6_ F6_ [])]) (.tup [eSl 1 true F2_ [],I r_]) (show LeV (.tup [eSl 1 true F2_ [],I r_]) (.tup [eSl 1 true F2_ ([]:List (List Int)),I r_]) from inferInstance)
 ·rcases zF aa with ⟨c1, aa⟩ | ⟨c1, aa⟩
  ·obtain rfl := za aa
   exact yEx X0 hC hE (Z0++(Hq c0::(rpN 6 (Hq c1) [qT,Hm (shM F6_ F6_ [])]))) (.tup [eSl 1 true F2_ [],I 1]) (show LeV (.tup [eSl 1 true F2_ [],I 1]) (.tup [eSl 1 true F2_ ([]:List (List Int)),I 1]) from inferInstance)
  ·let Z1 : List HO := (Z0 ++ (Hq c0 :: (rpN 4 (Hq c1) [Ha (lnM yM m_.Rows), Hq c1, Hq c1])))
   rcases zF aa with⟨c2,aa⟩|⟨c2,aa⟩
   ·obtain rfl := za aa
    exact yEx X0 hC hE (Z1++[Hq c2,Hm (shM F6_ F6_ [])]) (.tup [eSl 1 true F2_ [],I 1]) (show LeV (.tup [eSl 1 true F2_ [],I 1]) (.tup [eSl 1 true F2_ ([]:List (List Int)),I 1]) from inferInstance)
   ·obtain ⟨ah, h1, aa⟩ := zb aa
    obtain rfl:=za aa;exact yE ((z3i zy (z12 hC h04 h0z h0f h06) 23).or X0) hC hE (Z1++[Hq c2,Hc (Ctr.add_has KC V5) (x:=(m_,s_)) h1 (loC zH m_ <| loC (KB 41 (eSp (eI .i64))) s_ <| loN)])
def z9W:Code:=(Tryz.f14.body).getD .skip
def z07:zJ:=spF (α:=z6×Int) (ρ:=List (List Int)) 14 (fun x=>[zH x.1,(eI .i64) x.2]) (fun r=>zaY r) (fun x=>z3W x.1 x.2) [] (VO)
theorem zb1 {ctr:Ctr}(hC:zx Tryz.prog ctr)(h0y:ctr.Has Xm):z07.Ok Tryz.prog:=by
 refine zw ?_;rintro⟨m_,s_⟩ r0 aa;try unfold z3W at aa;refine yO true [(4,none)] z9W 8 Tryz.func14 fun E hE=>?_;obtain⟨r_,h0,aa⟩:=zb aa;obtain rfl:=za aa;exact yE X0 hC hE [Hc h0y (x:=(m_,s_)) h0 (loC zH m_ <| loC (eI .i64) s_ <| loN)]
def z3x:Code:=(Tryz.f43.body).getD .skip
def W6:zJ:=spF (α:=Unit) (ρ:=z6) 43 (fun x=>[]) (fun r=>zbr r) (fun x=>Qw) [] (fun _ _ _=>rfl)
theorem z4i {ctr:Ctr}(hC:zx Tryz.prog ctr):W6.Ok Tryz.prog:=by
 refine zw ?_;rintro⟨⟩ r0 aa;try unfold Qw at aa;refine yO false [(0,some 30)] z3x 12 Tryz.func43 fun E hE=>?_;obtain rfl:=za aa;exact yE X0 hC hE [Hm (shM (eOs 2 true F8_) zpb ([[(z8.mk 1 0),(z8.mk 0 0)],[(z8.mk 2 0),(z8.mk 1 1)],[(z8.mk 0 1),(z8.mk 2 0)]]))]
def z7C:Code:=(Tryz.f44.body).getD .skip
def Qj:zJ:=spF (α:=List (List Int)) (ρ:=List (List Int)) 44 (fun x=>[wI x]) (fun r=>wI r) (fun x=>Xb x) [] (Vo)
theorem z80 {ctr:Ctr}(hC:zx Tryz.prog ctr):Qj.Ok Tryz.prog:=by
 refine zw ?_;rintro l_ r0 aa;try unfold Xb at aa;refine yO true [(2,none)] z7C 4 Tryz.func44 fun E hE=>?_;obtain rfl:=za aa;exact yE X0 hC hE []
def z2w:Code:=(Tryz.f112.body).getD .skip
def X4:zJ:=spF (α:=z6×Int) (ρ:=Int) 112 (fun x=>[zH x.1,(eI .i64) x.2]) (fun r=>(eI .i64) r) (fun x=>UI x.1 x.2) [] (VO)
theorem z3o {ctr:Ctr}(hC:zx Tryz.prog ctr)(h02:ctr.Has xx):X4.Ok Tryz.prog:=by
 refine zw ?_;rintro⟨m_,s_⟩ r0 aa;try unfold UI at aa;refine yO true [(4,none)] z2w 20 Tryz.func112 fun E hE=>?_;obtain⟨r_,h0,aa⟩:=zb aa
 let Z0:List HO:=[Hc h02 (x:=m_) h0 (loC zH m_ <| loN)];rcases zF aa with⟨c0,aa⟩|⟨c0,aa⟩
 ·obtain rfl := za aa
  exact yE X0 hC hE (Z0++[Hq c0])
 ·rcases zF aa with ⟨c1, aa⟩ | ⟨c1, aa⟩
  ·obtain rfl := za aa
   exact yE X0 hC hE (Z0++(Hq c0::(rpN 6 (Hq c1) [qT])))
  ·let Z1 : List HO := (Z0 ++ (Hq c0 :: (rpN 4 (Hq c1) [Ha (lnM yM m_.Rows), Hq c1, Hq c1])))
   rcases zF aa with⟨c2,aa⟩|⟨c2,aa⟩
   ·obtain rfl := za aa
    exact yE X0 hC hE (Z1++[Hq c2])
   ·obtain rfl := za aa
    exact yE X0 hC hE (Z1++[Hq c2])
def YK:Code:=(Tryz.f114.body).getD .skip
def V2:zJ:=spF (α:=z6×Int×List Int) (ρ:=List Int×Int) 114 (fun x=>[zH x.1,(eI .i64) x.2.1,F6_ x.2.2]) (fun r=>.tup [F2_ r.1,(eI .i64) r.2]) (fun x=>JJ x.1 x.2.1 x.2.2) [] (zbg)
abbrev z1S (az:Int)(out:List Int):List (Nat×T):=[(1,.d (I az)),(8,.own (eOs 1 true (eI .i64) out))]
abbrev z1R (m_:z6)(w_:List Int)(ai:List Int)(ap:Int)(d8:Int)(ik:Int):List (Nat×T):=[(3,.own (.box (zH m_))),(8,.own (eOs 1 true (eI .i64) ai)),(9,.d (I ap)),(11,.own (.box (.agg [I d8,I ik]))),(15,.d (eSl 1 false (eI .i64) w_)),(16,.d (I ((w_.length:Nat):Int))),(17,.d (I ap))]
abbrev z1Q (m_:z6)(w_:List Int)(bg:Int)(ai:List Int)(ap:Int):List (Nat×T):=[(1,.d (I bg)),(3,.own (.box (zH m_))),(8,.own (eOs 1 true (eI .i64) ai)),(15,.d (eSl 1 false (eI .i64) w_)),(16,.d (I ((w_.length:Nat):Int))),(17,.d (I ap))]
theorem z5R {ctr:Ctr}(hC:zx Tryz.prog ctr)(h0c:ctr.Has qm):V2.Ok Tryz.prog:=by
 refine zw ?_;rintro⟨m_,s_,w_⟩ r0 aa;try unfold JJ at aa;refine yO false [(6,none),(7,none)] YK 43 Tryz.func114 fun E hE=>?_;obtain⟨g0,aa⟩:=gdE aa;refine yJ X0 hC YK [1,1] [] [1,8] (fun z:Int×List Int=>Vl z.1 z.2=some r0) (fun z=>z1S z.1 z.2) [(1,.d (I s_)),(2,.d (eSl 1 false (eI .i64) w_)),(3,.own (.box (zH m_))),(8,.own (eOs 1 true (eI .i64) (List.replicate ((w_.length:Nat):Int).toNat (0:Int))))] [Ha (lnM (eI .i64) w_),Hn (rL g0),Ha (rM 1 (eI .i64) ((w_.length:Nat):Int) (0:Int)),Hh (.cut 0)] ?_ fun J1 aq=>?_
 ·rintro ⟨az, out⟩ aa
  unfold Vl at aa;obtain rfl:=za aa;exact yE X0 hC hE [Hm (shM (eI .i64) (eI .i64) out)]
 ·obtain ⟨t2, ht2, aa⟩ := zb aa
  refine yL X0 hC YK [1,1,2,1,0] [J1] (fun s=>Vk m_ w_ s.1 s.2.1 s.2.2) (fun x=>z1Q m_ w_ x.1 x.2.1 x.2.2) (s_,(List.replicate ((w_.length:Nat):Int).toNat (0:Int)),0) ht2  [Ha (lnM (eI .i64) w_)] ?_;rintro⟨bg,ai,ap⟩ m2 au ae hl1 J2 av;try unfold Vk at ae;rcases zF ae with⟨c0,ae⟩|⟨c0,ae⟩
  ·obtain ⟨fe, h0, ae⟩ := zb ae
   obtain⟨r_,h1,ae⟩:=zb ae;refine yJ X0 hC YK [1,1,2,1,0,0,1,1,0,0,1,1] [J1,J2] [3,8,9,11,15,16,17] (fun z:Int×Int=>Yy ai ap z.1 z.2=some au) (fun z=>z1R m_ w_ ai ap z.1 z.2) [(1,.d (I bg)),(3,.own (.box (zH m_))),(8,.own (eOs 1 true (eI .i64) ai)),(9,.d (I ap)),(10,.d (I fe)),(11,.own (.box (F8_ r_))),(15,.d (eSl 1 false (eI .i64) w_)),(16,.d (I ((w_.length:Nat):Int))),(17,.d (I ap))] [Hq c0,Hi (eI .i64) h0,Hc h0c (x:=()) h1 (loN),Hh (.cut 0)] ?_ fun J3 bf=>?_
   ·rintro ⟨d8, ik⟩ ae
    unfold Yy at ae;obtain⟨bp,h2,ae⟩:=zb ae;obtain rfl:=za ae;exact yB X0 hC av (d8,(ai.set ap.toNat ik),w64 (ap+1)) hl1 [Hn (iL (eI .i64) h2),Hs (iM (eI .i64) h2),Hs (iM (eI .i64) h2),Hl (sM (eI .i64) ai ap ik)]
   ·rcases zF ae with ⟨c1, ae⟩ | ⟨c1, ae⟩
    ·obtain ⟨am, h3, ae⟩ := zb ae
     obtain⟨ak,h4,ae⟩:=zb ae;exact yB X0 hC bf (ak.To,ak.Out) ae [Hq c1,Hi yM h3,Hi F8_ h4]
    ·exact yB X0 hC bf (r_.To,r_.Out) ae [Hq c1]
  ·obtain rfl := za ae
   obtain rfl:=hl1;exact yB X0 hC aq (bg,ai) aa [Hq c0]
def z5i:Code:=(Tryz.f79.body).getD .skip
def V3:zJ:=spF (α:=z6×Int×List Int) (ρ:=List Int×Int) 79 (fun x=>[zH x.1,(eI .i64) x.2.1,F6_ x.2.2]) (fun r=>.tup [F2_ r.1,(eI .i64) r.2]) (fun x=>JK x.1 x.2.1 x.2.2) [] (zbg)
theorem z5S {ctr:Ctr}(hC:zx Tryz.prog ctr)(h1H:ctr.Has X4)(h0u:ctr.Has Xj)(h1I:ctr.Has V2):V3.Ok Tryz.prog:=by
 refine zw ?_;rintro⟨m_,s_,w_⟩ r0 aa;try unfold JK at aa;refine yO false [(6,none),(7,none)] z5i 33 Tryz.func79 fun E hE=>?_;obtain⟨r_,h0,aa⟩:=zb aa
 let Z0:List HO:=[Hc h1H (x:=(m_,s_)) h0 (loC zH m_ <| loC (eI .i64) s_ <| loN)];rcases zF aa with⟨c0,aa⟩|⟨c0,aa⟩
 ·obtain rfl := za aa
  exact yEx X0 hC hE (Z0++[Hq c0,Hm (shM (eI .i64) (eI .i64) [])]) (.tup [eSl 1 true (eI .i64) [],I r_]) (show LeV (.tup [eSl 1 true (eI .i64) [],I r_]) (.tup [eSl 1 true (eI .i64) ([]:List Int),I r_]) from inferInstance)
 ·obtain ⟨ah, h1, aa⟩ := zb aa
  let Z1:List HO:=(Z0++[Hq c0,Hc h0u (x:=(w_,m_.Inputs)) h1 (loC F6_ w_ <| loC (eI .i64) m_.Inputs <| loN)]);rcases zF aa with⟨c1,aa⟩|⟨c1,aa⟩
  ·obtain rfl := za aa
   exact yEx X0 hC hE (Z1++[Hq c1,Hm (shM (eI .i64) (eI .i64) [])]) (.tup [eSl 1 true (eI .i64) [],I ah]) (show LeV (.tup [eSl 1 true (eI .i64) [],I ah]) (.tup [eSl 1 true (eI .i64) ([]:List Int),I ah]) from inferInstance)
  ·obtain ⟨al, h2, aa⟩ := zb aa
   obtain rfl:=za aa;exact yE X0 hC hE (Z1++[Hq c1,Hc h1I (x:=(m_,s_,w_)) h2 (loC zH m_ <| loC (eI .i64) s_ <| loC F6_ w_ <| loN)])
def Vv:Code:=(Tryz.f48.body).getD .skip
def yH:zJ:=spR (α:=List (List Int)) (ρ:=List (List Int)) 48 (fun x=>[(eOs 1 false F2_) x]) (fun r=>zmn r) (fun x=>xy x) [true] (Vo)
theorem jY:∀x r,(fun x=>xy x) x=some r->(KC.add yH).run 48 ((KC.add yH).norm 48 ((fun x=>[(eOs 1 false F2_) x]) x))=some ((fun r=>zmn r) r):=fun x r h=>znc h rfl
theorem jZ:(KC.add yH).lend 48=none/\(KC.add yH).gives 48=[true]:=zhS
theorem kY {ctr:Ctr}(hC:zx Tryz.prog ctr):yH.Ok Tryz.prog:=by
 refine zbR ?_;rintro s_ r0 aa;try unfold xy at aa;refine yO true [(2,none)] Vv 9 Tryz.func48 fun E hE=>?_;obtain rfl:=za aa;exact yE ((xCl zy 8).or X0) hC hE [Ha (lnM F2_ s_),Ha (lnM F2_ s_),Hn (Int.natCast_nonneg _:(0:Int)<=((s_.length:Nat):Int)),Hn (Int.natCast_nonneg _:(0:Int)<=((s_.length:Nat):Int)),Hn (clB F2_ s_),Ha (clE 1 F2_ s_)]
def ZS:Code:=(Tryz.f50.body).getD .skip
def xX:zJ:=spF (α:=z6×List (List Int)×Int) (ρ:=List (List Int)) 50 (fun x=>[zH x.1,wI x.2.1,(eI .i64) x.2.2]) (fun r=>zmn r) (fun x=>wB x.1 x.2.1 x.2.2) [] (zbg)
abbrev Jk (out:List (List Int)):List (Nat×T):=[(7,.own (eOs 1 false F2_ out))]
abbrev Jj (m_:z6)(l_:List (List Int))(s_:Int)(ai:List (List Int))(ce:Int):List (Nat×T):=[(2,.d (I s_)),(3,.own (.box (zH m_))),(7,.own (eOs 1 false F2_ ai)),(12,.d (eSl 1 false F6_ l_)),(13,.d (I ((l_.length:Nat):Int))),(14,.d (I ce))]
theorem z13 {ctr:Ctr}(hC:zx Tryz.prog ctr)(h1J:ctr.Has V3):xX.Ok Tryz.prog:=by
 refine zw ?_;rintro⟨m_,l_,s_⟩ r0 aa;try unfold wB at aa;refine yO true [(6,none)] ZS 32 Tryz.func50 fun E hE=>?_;refine yJ X0 hC ZS [1,1] [] [7] (fun z:List (List Int)=>ZO z=some r0) (fun z=>Jk z) [(1,.d (eSl 1 false F6_ l_)),(2,.d (I s_)),(3,.own (.box (zH m_))),(7,.own (eOs 1 true F6_ []))] [Hh (.cut 2)] ?_ fun J1 aq=>?_
 ·rintro out aa
  unfold ZO at aa;obtain⟨r_,h0,aa⟩:=zb aa;obtain rfl:=za aa;exact yE ((z3i zy (kY hC) 31).or X0) hC hE [Hh (.g [true]),Hn jZ,Hx (.a (zmn r_)) (jY out _ h0)]
 ·obtain ⟨t2, ht2, aa⟩ := zb aa
  refine yLx X0 hC ZS [1,1,2,1,0] [J1] (fun s=>ZN m_ l_ s_ s.1 s.2) (fun x=>Jj m_ l_ s_ x.1 x.2) (([]:List (List Int)),0) ht2 [(2,.d (I s_)),(3,.own (.box (zH m_))),(7,.own (eOs 1 true F2_ [])),(12,.d (eSl 1 false F6_ l_)),(13,.d (I ((l_.length:Nat):Int))),(14,.d (I 0))] inferInstance [Ha (lnM F6_ l_)] ?_;rintro⟨ai,ce⟩ m2 au ae hl1 J2 av;try unfold ZN at ae;rcases zF ae with⟨c0,ae⟩|⟨c0,ae⟩
  ·obtain ⟨bq, h1, ae⟩ := zb ae
   obtain⟨ah,h2,ae⟩:=zb ae;obtain⟨g0,ae⟩:=gdE ae;obtain rfl:=za ae;exact yB X0 hC av ((ai++([ah.1]:List (List Int))),w64 (ce+1)) hl1 [Hq c0,Hi F6_ h1,Hc h1J (x:=(m_,s_,bq)) h2 (loC zH m_ <| loC (eI .i64) s_ <| loC F6_ bq <| loN),Hq (dM F2_ ([ah.1]:List (List Int))),Hn (dM F2_ ([ah.1]:List (List Int))),Hn (aL F2_ F2_ g0),Hl (aM F2_ ai ([ah.1]:List (List Int)))]
  ·obtain rfl := za ae
   obtain rfl:=hl1;exact yB X0 hC aq ai aa [Hq c0]
def JV:Code:=(Tryz.f81.body).getD .skip
def jM:zJ:=spF (α:=List Int×List Int) (ρ:=Bool) 81 (fun x=>[F6_ x.1,F6_ x.2]) (fun r=>eB r) (fun x=>YD x.1 x.2) [] (VO)
theorem Ky {ctr:Ctr}(hC:zx Tryz.prog ctr)(h09:ctr.Has xH):jM.Ok Tryz.prog:=by
 refine zw ?_;rintro⟨x_,y_⟩ r0 aa;try unfold YD at aa;refine yO true [(4,none)] JV 8 Tryz.func81 fun E hE=>?_;obtain⟨r_,h0,aa⟩:=zb aa;obtain rfl:=za aa;exact yE X0 hC hE [Hc h09 (x:=(x_,y_)) h0 (loC F6_ x_ <| loC F6_ y_ <| loN)]
def xq:Code:=(Tryz.f56.body).getD .skip
def xj:zJ:=spF (α:=List (List Int)×List (List Int)×Unit) (ρ:=Bool) 56 (fun x=>[wI x.1,wI x.2.1,(z9Q 81) x.2.2]) (fun r=>eB r) (fun x=>xJ x.1 x.2.1 x.2.2) [] (by
 rintro⟨a0,a1,a2⟩ ⟨b0,b1,b2⟩ h;have e0:=ZZ.inj (f:=wI) _ _ (List.cons.inj h).1;replace h:=(List.cons.inj h).2;have e1:=ZZ.inj (f:=wI) _ _ (List.cons.inj h).1;replace h:=(List.cons.inj h).2;have e2:=ZZ.inj (f:=(z9Q 81)) _ _ (List.cons.inj h).1;subst e0 e1 e2;rfl)
abbrev kD:List (Nat×T):=[]
abbrev kC (s1:List (List Int))(s2:List (List Int))(ap:Int):List (Nat×T):=[(1,.d (eSl 1 false F6_ s2)),(2,.d (.fn 81 [])),(15,.d (eSl 1 false F6_ s1)),(16,.d (I ((s1.length:Nat):Int))),(17,.d (I ap))]
theorem ZI {ctr:Ctr}(hC:zx Tryz.prog ctr)(h1K:ctr.Has jM):xj.Ok Tryz.prog:=by
 refine zw ?_;rintro⟨s1,s2,eq⟩ r0 aa;try unfold xJ at aa;refine yO true [(6,none)] xq 32 Tryz.func56 fun E hE=>?_
 let Z0:List HO:=[Ha (lnM F6_ s1),Ha (lnM F6_ s2)];rcases zF aa with⟨c0,aa⟩|⟨c0,aa⟩
 ·obtain rfl := za aa
  exact yE X0 hC hE (Z0++[Hq c0])
 ·refine yJ X0 hC xq [1,1] [] [] (fun z : Unit => xm = some r0) (fun z => kD) [(0, .d (eSl 1 false F6_ s1)), (1, .d (eSl 1 false F6_ s2)), (2, .d (.fn 81 []))] (Z0 ++ [Hq c0, Hh (.cut 0)]) ?_ fun J1 aq => ?_
  ·rintro ⟨⟩ aa
   unfold xm at aa;obtain rfl:=za aa;exact yE X0 hC hE []
  ·obtain ⟨t2, ht2, aa⟩ := zb aa
   refine yL X0 hC xq [1,1,2,1,0] [J1] (fun s=>xk s1 s2 s) (fun x=>kC s1 s2 x) 0 ht2  [Ha (lnM F6_ s1)] ?_;rintro ap m2 au ae hl1 J2 av;try unfold xk at ae;rcases zF ae with⟨c1,ae⟩|⟨c1,ae⟩
   ·obtain ⟨ft, h0, ae⟩ := zb ae
    obtain⟨dp,h1,ae⟩:=zb ae;obtain⟨r_,h2,ae⟩:=zb ae
    let Z1:List HO:=[Hq c1,Hi F6_ h0,Hi F6_ h1,Hc h1K (x:=(ft,dp)) h2 (loC F6_ ft <| loC F6_ dp <| loN)];rcases zF ae with⟨c2,ae⟩|⟨c2,ae⟩
    ·obtain rfl := za ae
     obtain rfl:=hl1;obtain rfl:=za aa;exact yE X0 hC hE (Z1++[Hq c2])
    ·obtain rfl := za ae
     exact yB X0 hC av (w64 (ap+1)) hl1 (Z1++[Hq c2])
   ·obtain rfl := za ae
    obtain rfl:=hl1;exact yB X0 hC aq () aa [Hq c1]
def z0o:Code:=(Tryz.f52.body).getD .skip
def wZ:zJ:=spF (α:=List (List Int)×List (List Int)) (ρ:=Bool) 52 (fun x=>[wI x.1,wI x.2]) (fun r=>eB r) (fun x=>qz x.1 x.2) [] (VO)
theorem z15 {ctr:Ctr}(hC:zx Tryz.prog ctr)(h1L:ctr.Has xj):wZ.Ok Tryz.prog:=by
 refine zw ?_;rintro⟨a_,b_⟩ r0 aa;try unfold qz at aa;refine yO true [(4,none)] z0o 8 Tryz.func52 fun E hE=>?_;obtain⟨r_,h0,aa⟩:=zb aa;obtain rfl:=za aa;exact yE X0 hC hE [Hc h1L (x:=(a_,b_,())) h0 (loC wI a_ <| loC wI b_ <| loC (z9Q 81) () <| loN)]
def yl:Code:=(Tryz.f45.body).getD .skip
def ZL:zJ:=spF (α:=z6×List (List Int)) (ρ:=List Int) 45 (fun x=>[zH x.1,wI x.2]) (fun r=>(eSl 1 false (eI .u64)) r) (fun x=>Wa x.1 x.2) [] (VO)
abbrev Jo (out:List Int):List (Nat×T):=[(4,.own (.box (eOs 1 false (eI .u64) out)))]
abbrev YV (m_:z6)(w_:List (List Int))(r_:Int)(ai:List Int):List (Nat×T):=[(2,.own (.box (zH m_))),(3,.own (.box (eSl 1 false F6_ w_))),(4,.own (.box (eOs 1 false (eI .u64) ai))),(12,.d (.fn 80 [.sptr (I r_)]))]
abbrev Jn (m_:z6)(w_:List (List Int))(r_:Int)(ai:List Int)(gz:Int):List (Nat×T):=[(2,.own (.box (zH m_))),(3,.own (.box (eSl 1 false F6_ w_))),(4,.own (.box (eOs 1 false (eI .u64) ai))),(7,.d (.atom (.int .u64 gz))),(12,.d (.fn 80 [.sptr (I r_)]))]
abbrev Jm (m_:z6)(w_:List (List Int))(r_:Int)(ai:List Int)(cq:Int)(ce:Int)(ap:Int)(i3:Int):List (Nat×T):=[(2,.own (.box (zH m_))),(3,.own (.box (eSl 1 false F6_ w_))),(4,.own (.box (eOs 1 false (eI .u64) ai))),(5,.d (I cq)),(6,.d (I ce)),(7,.d (.atom (.int .u64 i3))),(12,.d (.fn 80 [.sptr (I r_)])),(16,.d (I ((w_.length:Nat):Int))),(17,.d (I ap))]
abbrev Jl (m_:z6)(w_:List (List Int))(r_:Int)(ai:List Int)(cq:Int)(ce:Int)(fm:Int)(ap:Int):List (Nat×T):=[(2,.own (.box (zH m_))),(3,.own (.box (eSl 1 false F6_ w_))),(4,.own (.box (eOs 1 false (eI .u64) ai))),(5,.d (I cq)),(6,.d (I ce)),(7,.d (.atom (.int .u64 fm))),(12,.d (.fn 80 [.sptr (I r_)])),(16,.d (I ((w_.length:Nat):Int))),(17,.d (I ap))]
theorem z14 {ctr:Ctr}(hC:zx Tryz.prog ctr)(h04:ctr.Has wY)(h05:ctr.Has xX)(h07:ctr.Has wZ):ZL.Ok Tryz.prog:=by
 refine zw ?_;rintro⟨m_,w_⟩ r0 aa;try unfold Wa at aa;refine yO false [(4,some 76)] yl 48 Tryz.func45 fun E hE=>?_;refine yJ X0 hC yl [1] [] [4] (fun z:List Int=>ZR z=some r0) (fun z=>Jo z) [(2,.own (.box (zH m_))),(3,.own (.box (eSl 1 false F6_ w_))),(4,.own (.box (eOs 1 true (eI .u64) [])))] [Hh (.cut 1)] ?_ fun J1 aq=>?_
 ·rintro out aa
  unfold ZR at aa;obtain rfl:=za aa;exact yE X0 hC hE [Hh (.v 0 [4]),Hm (shM (eI .u64) (eI .u64) out),Hh (.v 1 [4])]
 ·obtain ⟨r_, h0, aa⟩ := zb aa
  obtain⟨t2,ht2,aa⟩:=zb aa;refine yAt X0 hC (sub [1,2,1,0] yl) (frs [1,2,1,0] [J1] yl []) [(2,.own (.box (zH m_))),(3,.own (.box (eSl 1 false F6_ w_))),(4,.own (.box (eOs 1 true (eI .u64) []))),(12,.d (.fn 80 [.sptr (I r_)]))] [Ha (lnM yM m_.Rows),Hc h04 (x:=((m_.Rows.length:Nat):Int)) h0 (loC (eI .i64) ((m_.Rows.length:Nat):Int) <| loN)] fun st0 h0=>?_;refine z0q (g:=.tmp 12) (ps:=[13,14]) (assign:=(sub [1,2,1,0,0] yl)) (body:=(sub [1,2,1,0,1] yl)) (K:=80) (caps:=[.sptr (I r_)]) (by kernel_rfl) [2,3,4,12] (fun s=>YV m_ w_ r_ s) (fun z=>nomatch z) (fun z=>nomatch z) ((fun(x:Int×Int) (_:Bool) (_:Value)=>[(eI .i64) x.1,(eI .i64) x.2])) (F:=@yN r_) (fun s x=>uX m_ w_ s x.1 x.2) ([]:List Int) t2 _ h0 inferInstance (by kernel_rfl) (by decide) (fun _=>rfl) (by rintro⟨⟩) (by kernel_rfl) (fun _ _ _=>rfl) (Zq hC r_) ht2 ?_ ?_
  ·rintro ln ai ⟨cq, ce⟩ vr au ae
   replace ae:uX m_ w_ ai cq ce=some au:=ae;unfold uX at ae;refine yF X0 hC .normal [(2,.own (.box (zH m_))),(3,.own (.box (eSl 1 false F6_ w_))),(4,.own (.box (eOs 1 false (eI .u64) ai))),(5,.d (I cq)),(6,.d (I ce)),(12,.d (.fn 80 [.sptr (I r_)]))] [] fun st0 h0=>⟨rfl,z7G h0 ?_⟩;refine yJ X0 hC yl [1,2,1,0,1,0,1] [J1] [2,3,4,7,12] (fun z:Int=>ZQ ai z=some au) (fun z=>Jn m_ w_ r_ ai z) [(2,.own (.box (zH m_))),(3,.own (.box (eSl 1 false F6_ w_))),(4,.own (.box (eOs 1 false (eI .u64) ai))),(5,.d (I cq)),(6,.d (I ce)),(7,.d (.atom (.int .u64 0))),(12,.d (.fn 80 [.sptr (I r_)]))] [Hh (.cut 1)] ?_ fun J3 bf=>?_
   ·rintro gz ae
    unfold ZQ at ae;obtain⟨g0,ae⟩:=gdE ae;obtain rfl:=za ae;exact yF X0 hC .normal (YV m_ w_ r_ (ai++([gz]:List Int))) [Hq (dM (eI .u64) ([gz]:List Int)),Hn (dM (eI .u64) ([gz]:List Int)),Hn (aL (eI .u64) (eI .u64) g0),Hl (aM (eI .u64) ai ([gz]:List Int))] fun st0 h0=>⟨rfl,_,h0,LeL.refl _⟩
   ·obtain ⟨t4, ht4, ae⟩ := zb ae
    refine yL X0 hC yl [1,2,1,0,1,0,1,2,1,0] [J1,J3] (fun s=>ZP m_ w_ cq ce s.1 s.2) (fun x=>Jl m_ w_ r_ ai cq ce x.1 x.2) (0,0) ht4  [Ha (lnM F6_ w_)] ?_;rintro⟨fm,ap⟩ m4 co aj hl2 J4 bw;try unfold ZP at aj;rcases zF aj with⟨c0,aj⟩|⟨c0,aj⟩
    ·refine yJ X0 hC yl [1,2,1,0,1,0,1,2,1,0,0,1,1] [J1, J3, J4] [2,3,4,5,6,7,12,16,17] (fun z : Int => uW ap z = some co) (fun z => Jm m_ w_ r_ ai cq ce ap z) [(2, .own (.box (zH m_))), (3, .own (.box (eSl 1 false F6_ w_))), (4, .own (.box (eOs 1 false (eI .u64) ai))), (5, .d (I cq)), (6, .d (I ce)), (7, .d (.atom (.int .u64 fm))), (12, .d (.fn 80 [.sptr (I r_)])), (16, .d (I ((w_.length : Nat) : Int))), (17, .d (I ap))] [Hq c0, Hh (.cut 0)] ?_ fun J5 cd => ?_
     ·rintro i3 aj
      unfold uW at aj;obtain rfl:=za aj;exact yB X0 hC bw (i3,w64 (ap+1)) hl2 []
     ·obtain ⟨g1, aj⟩ := gdE aj
      obtain⟨ah,h1,aj⟩:=zb aj;obtain⟨g2,aj⟩:=gdE aj;obtain⟨al,h2,aj⟩:=zb aj;obtain⟨aw,h3,aj⟩:=zb aj
      let Z0:List HO:=[Hn (slA g1),Hn (slB g1),Hn (zjt F6_ g1),Ha (slM 1 false F6_ w_ ap.toNat (w64 (ap+1)).toNat),Hc h05 (x:=(m_,((w_.drop ap.toNat).take ((w64 (ap+1)).toNat - ap.toNat)),cq)) h1 (loC zH m_ <| loC wI ((w_.drop ap.toNat).take ((w64 (ap+1)).toNat - ap.toNat)) <| loC (eI .i64) cq <| loN),Hn (slA g2),Hn (slB g2),Hn (zjt F6_ g2),Ha (slM 1 false F6_ w_ ap.toNat (w64 (ap+1)).toNat),Hc h05 (x:=(m_,((w_.drop ap.toNat).take ((w64 (ap+1)).toNat - ap.toNat)),ce)) h2 (loC zH m_ <| loC wI ((w_.drop ap.toNat).take ((w64 (ap+1)).toNat - ap.toNat)) <| loC (eI .i64) ce <| loN),Hg (z1Y h07),Hm (shM F2_ F2_ ah),Hm (shM F2_ F2_ al),Hs (z1Z h07 (x:=(ah,al)) h3 (loC F9_ ah <| loC F9_ al <| loN))];rcases zF aj with⟨c1,aj⟩|⟨c1,aj⟩
      ·obtain ⟨g3, aj⟩ := gdE aj
       exact yB ((za2 Tryz.prog).or ((zmy Tryz.prog).or X0)) hC cd (orK .u64 fm (z78 .u64 1 ap)) aj (Z0++[Hq c1,Hn g3])
      ·exact yB X0 hC cd fm aj (Z0++[Hq c1])
    ·obtain rfl := za aj
     obtain rfl:=hl2;exact yB X0 hC bf fm ae [Hq c0]
  ·rcases t2 with ai | z
   ·dsimp only at aa
    exact XU (by kernel_rfl) (aq _ [(4,.own (.box (eOs 1 false (eI .u64) ai)))] ai aa (show Own.canon [4] _=ofL _ by kernel_rfl) inferInstance)
   ·cases z
def yh:Code:=(Tryz.f76.body).getD .skip
def uj:zJ:=spF (α:=Int) (ρ:=Int) 76 (fun x=>[(eI .u64) x]) (fun r=>(eI .i64) r) (fun x=>jX x) [] (Vo)
abbrev VD (ll:Int):List (Nat×T):=[(0,.d (.atom (.int .u64 ll)))]
abbrev VE (jd:Int):List (Nat×T):=[(0,.d (.atom (.int .u64 jd)))]
abbrev VF (je:Int):List (Nat×T):=[(0,.d (.atom (.int .u64 je)))]
abbrev VG (jf:Int):List (Nat×T):=[(0,.d (.atom (.int .u64 jf)))]
abbrev VH (jg:Int):List (Nat×T):=[(0,.d (.atom (.int .u64 jg)))]
abbrev VI (jh:Int):List (Nat×T):=[(0,.d (.atom (.int .u64 jh)))]
theorem Qa {ctr:Ctr}(hC:zx Tryz.prog ctr):uj.Ok Tryz.prog:=by
 refine zw ?_;rintro x_ r0 aa;try unfold jX at aa;refine yO true [(2,none)] yh 35 Tryz.func76 fun E hE=>?_;refine yJ X0 hC yh [1] [] [0] (fun z:Int=>uu z=some r0) (fun z=>VI z) [(0,.d (.atom (.int .u64 x_)))] [Hh (.cut 1)] ?_ fun J1 aq=>?_
 ·rintro jh aa
  unfold uu at aa;refine yJ X0 hC yh [1,1] [] [0] (fun z:Int=>ut z=some r0) (fun z=>VH z) [(0,.d (.atom (.int .u64 jh)))] [Hh (.cut 0)] ?_ fun J2 av=>?_
  ·rintro jg aa
   unfold ut at aa;refine yJ X0 hC yh [1,1,1] [] [0] (fun z:Int=>ur z=some r0) (fun z=>VG z) [(0,.d (.atom (.int .u64 jg)))] [Hh (.cut 0)] ?_ fun J3 bf=>?_
   ·rintro jf aa
    unfold ur at aa;refine yJ X0 hC yh [1,1,1,1] [] [0] (fun z:Int=>uq z=some r0) (fun z=>VF z) [(0,.d (.atom (.int .u64 jf)))] [Hh (.cut 0)] ?_ fun J4 bw=>?_
    ·rintro je aa
     unfold uq at aa;refine yJ X0 hC yh [1,1,1,1,1] [] [0] (fun z:Int=>uo z=some r0) (fun z=>VE z) [(0,.d (.atom (.int .u64 je)))] [Hh (.cut 0)] ?_ fun J5 cd=>?_
     ·rintro jd aa
      unfold uo at aa;refine yJ X0 hC yh [1,1,1,1,1,1] [] [0] (fun z:Int=>um z=some r0) (fun z=>VD z) [(0,.d (.atom (.int .u64 jd)))] [Hh (.cut 0)] ?_ fun J6 cu=>?_
      ·rintro ll aa
       unfold um at aa;obtain rfl:=za aa;exact yE ((za2 Tryz.prog).or X0) hC hE []
      ·exact yB ((zgv Tryz.prog).or X0) hC cu (IntKind.u64.wrap (jd+(Int.fdiv jd (2 ^ 32)))) aa []
     ·exact yB ((zgv Tryz.prog).or X0) hC cd (IntKind.u64.wrap (je+(Int.fdiv je (2 ^ 16)))) aa []
    ·exact yB ((zgv Tryz.prog).or X0) hC bw (IntKind.u64.wrap (jf+(Int.fdiv jf (2 ^ 8)))) aa []
   ·exact yB ((za2 Tryz.prog).or ((zgv Tryz.prog).or X0)) hC bf (z7N .u64 (IntKind.u64.wrap ((Int.fdiv jg (2 ^ 4))+jg)) 1085102592571150095) aa []
  ·exact yB ((za2 Tryz.prog).or ((za2 Tryz.prog).or ((zgv Tryz.prog).or X0))) hC av (IntKind.u64.wrap ((z7N .u64 (Int.fdiv jh (2 ^ 2)) 3689348814741910323)+(z7N .u64 jh 3689348814741910323))) aa []
 ·exact yB ((za2 Tryz.prog).or ((za2 Tryz.prog).or ((zgv Tryz.prog).or X0))) hC aq (IntKind.u64.wrap ((z7N .u64 (Int.fdiv x_ (2 ^ 1)) 6148914691236517205)+(z7N .u64 x_ 6148914691236517205))) aa []
def QY:Code:=(Tryz.f46.body).getD .skip
def qM:zJ:=spF (α:=Int) (ρ:=Int) 46 (fun x=>[(eI .u64) x]) (fun r=>(eI .i64) r) (fun x=>uS x) [] (Vo)
theorem Jr {ctr:Ctr}(hC:zx Tryz.prog ctr)(h1M:ctr.Has uj):qM.Ok Tryz.prog:=by
 refine zw ?_;rintro x_ r0 aa;try unfold uS at aa;refine yO true [(2,none)] QY 8 Tryz.func46 fun E hE=>?_;obtain⟨r_,h0,aa⟩:=zb aa;obtain rfl:=za aa;exact yE X0 hC hE [qF,Hc h1M (x:=x_) h0 (loC (eI .u64) x_ <| loN)]
def WF:Code:=(Tryz.f109.body).getD .skip
def wM:zJ:=spF (α:=Int) (ρ:=Int) 109 (fun x=>[(eI .u64) x]) (fun r=>(eI .i64) r) (fun x=>vY x) [] (Vo)
theorem WS {ctr:Ctr}(hC:zx Tryz.prog ctr):wM.Ok Tryz.prog:=by
 refine zw ?_;rintro x_ r0 aa;try unfold vY at aa;refine yO true [(2,none)] WF 14 Tryz.func109 fun E hE=>?_;rcases zF aa with⟨c0,aa⟩|⟨c0,aa⟩
 ·obtain rfl := za aa
  exact yE X0 hC hE [Hq c0]
 ·obtain ⟨cell, h0, aa⟩ := zb aa
  obtain rfl:=za aa;exact yE ((zgv Tryz.prog).or ((za2 Tryz.prog).or X0)) hC hE [Hq c0,Hs (iM (eI .u8) h0),Hn (QR (by kernel_rfl) zhY (i0 h0):YU yo 162 ((zhY.l).map (eI .u8)) (Int.fdiv (IntKind.u64.wrap ((z7N .u64 x_ (IntKind.u64.wrap (0 - x_)))*285870213051353865)) (2 ^ 58))=true)]
def VV:Code:=(Tryz.f77.body).getD .skip
def vu:zJ:=spF (α:=Int) (ρ:=Int) 77 (fun x=>[(eI .u64) x]) (fun r=>(eI .i64) r) (fun x=>uR x) [] (Vo)
theorem Uu {ctr:Ctr}(hC:zx Tryz.prog ctr)(h1N:ctr.Has wM):vu.Ok Tryz.prog:=by
 refine zw ?_;rintro x_ r0 aa;try unfold uR at aa;refine yO true [(2,none)] VV 8 Tryz.func77 fun E hE=>?_;obtain⟨r_,h0,aa⟩:=zb aa;obtain rfl:=za aa;exact yE X0 hC hE [qF,Hc h1N (x:=x_) h0 (loC (eI .u64) x_ <| loN)]
def z5m:Code:=(Tryz.f47.body).getD .skip
def V7:zJ:=spF (α:=Int×Int) (ρ:=Bool) 47 (fun x=>[(eI .u64) x.1,(eI .u64) x.2]) (fun r=>eB r) (fun x=>JN x.1 x.2) [] (VO)
theorem z5X {ctr:Ctr}(hC:zx Tryz.prog ctr)(h1O:ctr.Has vu):V7.Ok Tryz.prog:=by
 refine zw ?_;rintro⟨a_,b_⟩ r0 aa;try unfold JN at aa;refine yO true [(4,none)] z5m 13 Tryz.func47 fun E hE=>?_;obtain⟨r_,h0,aa⟩:=zb aa;obtain⟨g0,aa⟩:=gdE aa;obtain rfl:=za aa;exact yE ((za2 Tryz.prog).or ((zmx Tryz.prog).or ((za2 Tryz.prog).or X0))) hC hE [Hc h1O (x:=ziL .u64 a_ b_) h0 (loC (eI .u64) (ziL .u64 a_ b_) <| loN),Hn g0]
def yf:Code:=(Tryz.f17.body).getD .skip
def W7:zJ:=spF (α:=z6) (ρ:=List (List Int)×Int) 17 (fun x=>[zH x]) (fun r=>.tup [F9_ r.1,(eI .i64) r.2]) (fun x=>Qx x) [] (Vo)
abbrev z0S (out:List (List Int)):List (Nat×T):=[(13,.own (eOs 1 false F2_ out))]
abbrev z0R (r_:List (List Int)×Int)(dv:Int)(fw:Int)(ay:List (List Int)):List (Nat×T):=[(7,.d (.atom (.int .u64 dv))),(13,.own (eOs 1 false F2_ ay)),(76,.d (eSl 1 true F2_ r_.1)),(77,.d (I ((r_.1.length:Nat):Int))),(78,.d (I fw))]
abbrev z0N (r_:List (List Int)×Int)(dv:Int)(ai:List (List Int))(fw:Int):List (Nat×T):=[(7,.d (.atom (.int .u64 dv))),(13,.own (eOs 1 false F2_ ai)),(76,.d (eSl 1 true F2_ r_.1)),(77,.d (I ((r_.1.length:Nat):Int))),(78,.d (I fw))]
abbrev z0T (r_:List (List Int)×Int)(dv:Int):List (Nat×T):=[(4,.d (eSl 1 true F2_ r_.1)),(7,.d (.atom (.int .u64 dv)))]
abbrev z0Q (r_:List (List Int)×Int)(ah:List Int)(bl:Int)(i4:Int):List (Nat×T):=[(4,.d (eSl 1 true F2_ r_.1)),(6,.d (eSl 1 false (eI .u64) ah)),(7,.d (.atom (.int .u64 i4))),(36,.d (.atom (.int .u64 (z78 .u64 1 ((r_.1.length:Nat):Int))))),(37,.d (.atom (.int .u64 bl)))]
abbrev z0O (r_:List (List Int)×Int)(ah:List Int)(bl:Int)(aw:Int)(bk:Int)(io:Bool):List (Nat×T):=[(4,.d (eSl 1 true F2_ r_.1)),(6,.d (eSl 1 false (eI .u64) ah)),(8,.d (.atom (.int .u64 bl))),(36,.d (.atom (.int .u64 (z78 .u64 1 ((r_.1.length:Nat):Int))))),(37,.d (.atom (.int .u64 bl))),(48,.d (I aw)),(49,.d (I bk)),(50,.d (B (aw==bk))),(51,.d (B (aw==bk))),(61,.d (B io))]
abbrev z0L (r_:List (List Int)×Int)(ah:List Int)(bh:Int)(bl:Int)(aw:Int)(bk:Int)(io:Bool)(jy:Int):List (Nat×T):=[(4,.d (eSl 1 true F2_ r_.1)),(6,.d (eSl 1 false (eI .u64) ah)),(7,.d (.atom (.int .u64 bh))),(8,.d (.atom (.int .u64 bl))),(36,.d (.atom (.int .u64 (z78 .u64 1 ((r_.1.length:Nat):Int))))),(37,.d (.atom (.int .u64 bl))),(48,.d (I aw)),(49,.d (I bk)),(50,.d (B (aw==bk))),(51,.d (B (aw==bk))),(61,.d (B io)),(63,.d (eSl 1 false (eI .u64) ah)),(64,.d (I ((ah.length:Nat):Int))),(65,.d (I jy))]
abbrev z0P (r_:List (List Int)×Int)(ah:List Int)(bh:Int)(bl:Int)(aw:Int)(bk:Int)(io:Bool):List (Nat×T):=[(4,.d (eSl 1 true F2_ r_.1)),(6,.d (eSl 1 false (eI .u64) ah)),(7,.d (.atom (.int .u64 bh))),(8,.d (.atom (.int .u64 bl))),(36,.d (.atom (.int .u64 (z78 .u64 1 ((r_.1.length:Nat):Int))))),(37,.d (.atom (.int .u64 bl))),(48,.d (I aw)),(49,.d (I bk)),(50,.d (B (aw==bk))),(51,.d (B (aw==bk))),(61,.d (B io))]
abbrev z0M (r_:List (List Int)×Int)(ah:List Int)(bh:Int)(bl:Int):List (Nat×T):=[(4,.d (eSl 1 true F2_ r_.1)),(6,.d (eSl 1 false (eI .u64) ah)),(7,.d (.atom (.int .u64 bh))),(36,.d (.atom (.int .u64 (z78 .u64 1 ((r_.1.length:Nat):Int))))),(37,.d (.atom (.int .u64 bl)))]
theorem z4j {ctr:Ctr}(hC:zx Tryz.prog ctr)(h0i:ctr.Has Yf)(h1P:ctr.Has ZL)(h0M:ctr.Has qM)(h1Q:ctr.Has V7):W7.Ok Tryz.prog:=by
 refine zw ?_;rintro m_ r0 aa;try unfold Qx at aa;refine yO false [(2,none),(3,none)] yf 95 Tryz.func17 fun E hE=>?_;refine yA X0 hC yf [1] [] [(1,.own (.box (zH m_)))] [] ?_;refine zaT (c':=(sub [1,0] yf)) (by kernel_rfl) (zhm _) ?_
 obtain⟨r_,h0,aa⟩:=zb aa
 let Z0:List HO:=[Hc h0i (x:=m_) h0 (loC zH m_ <| loN)];rcases zF aa with⟨c0,aa⟩|⟨c0,aa⟩
 ·obtain rfl := za aa
  exact yEx X0 hC hE (Z0++[Hq c0,Hm (shM F6_ F6_ [])]) (.tup [eSl 1 true F2_ [],I r_.2]) (show LeV (.tup [eSl 1 true F2_ [],I r_.2]) (.tup [eSl 1 true F2_ ([]:List (List Int)),I r_.2]) from inferInstance)
 ·let Z1 : List HO := (Z0 ++ [Hq c0, Ha (lnM F2_ r_.1)])
  rcases zF aa with⟨c1,aa⟩|⟨c1,aa⟩
  ·obtain rfl := za aa
   exact yEx X0 hC hE (Z1++[Hq c1,Hm (shM F6_ F6_ [])]) (.tup [eSl 1 true F2_ [],I 3]) (show LeV (.tup [eSl 1 true F2_ [],I 3]) (.tup [eSl 1 true F2_ ([]:List (List Int)),I 3]) from inferInstance)
  ·obtain ⟨ah, h1, aa⟩ := zb aa
   obtain⟨g0,aa⟩:=gdE aa;refine yJ ((zmy Tryz.prog).or X0) hC yf [1,0,1,1,1,1,1,1] [] [4,7] (fun z:Int=>Wi r_ z=some r0) (fun z=>z0T r_ z) [(4,.d (eSl 1 true F2_ r_.1)),(6,.d (eSl 1 false (eI .u64) ah)),(7,.d (.atom (.int .u64 (IntKind.u64.wrap ((z78 .u64 1 ((r_.1.length:Nat):Int)) - 1)))))] (Z1++[Hq c1,Hc h1P (x:=(m_,r_.1)) h1 (loC zH m_ <| loC F9_ r_.1 <| loN),Ha (lnM F2_ r_.1),Hn g0,Hh (.cut 1)]) ?_ fun J1 aq=>?_
   ·rintro dv aa
    unfold Wi at aa;refine yJ X0 hC yf [1,0,1,1,1,1,1,1,1,1] [] [13] (fun z:List (List Int)=>Wh z=some r0) (fun z=>z0S z) [(4,.d (eSl 1 true F2_ r_.1)),(7,.d (.atom (.int .u64 dv))),(13,.own (eOs 1 true F6_ []))] [Hh (.cut 1)] ?_ fun J2 av=>?_
    ·rintro out aa
     unfold Wh at aa;obtain⟨al,h2,aa⟩:=zb aa;obtain rfl:=za aa;exact yE ((z3i zy (kY hC) 94).or X0) hC hE [Hh (.g [true]),Hn jZ,Hx (.a (zmn al)) (jY out _ h2),Hm (shM F2_ F2_ al)]
    ·obtain ⟨t3, ht3, aa⟩ := zb aa
     refine yLx X0 hC yf [1,0,1,1,1,1,1,1,1,1,2,1,0] [J2] (fun s=>Wf r_ dv s.1 s.2) (fun x=>z0N r_ dv x.1 x.2) (([]:List (List Int)),0) ht3 [(7,.d (.atom (.int .u64 dv))),(13,.own (eOs 1 true F2_ [])),(76,.d (eSl 1 true F2_ r_.1)),(77,.d (I ((r_.1.length:Nat):Int))),(78,.d (I 0))] inferInstance [Ha (lnM F2_ r_.1)] ?_;rintro⟨ai,fw⟩ m3 au ae hl1 J3 bf;try unfold Wf at ae;rcases zF ae with⟨c2,ae⟩|⟨c2,ae⟩
     ·refine yJ X0 hC yf [1,0,1,1,1,1,1,1,1,1,2,1,0,0,1,1] [J2, J3] [7,13,76,77,78] (fun z : List (List Int) => ZG fw z = some au) (fun z => z0R r_ dv fw z) [(7, .d (.atom (.int .u64 dv))), (13, .own (eOs 1 false F2_ ai)), (76, .d (eSl 1 true F2_ r_.1)), (77, .d (I ((r_.1.length : Nat) : Int))), (78, .d (I fw))] [Hq c2, Hh (.cut 0)] ?_ fun J4 bw => ?_
      ·rintro ay ae
       unfold ZG at ae;obtain rfl:=za ae;exact yB X0 hC bf (ay,w64 (fw+1)) hl1 []
      ·obtain ⟨u_, h3, ae⟩ := zb ae
       obtain⟨g1,ae⟩:=gdE ae
       let Z2:List HO:=[Hi F2_ h3,Hn g1];rcases zF ae with⟨c3,ae⟩|⟨c3,ae⟩
       ·obtain ⟨g2, ae⟩ := gdE ae
        exact yB ((za2 Tryz.prog).or ((zmx Tryz.prog).or X0)) hC bw (ai++([u_]:List (List Int))) ae (Z2++[Hq c3,Hq (dM F2_ ([u_]:List (List Int))),Hn (dM F2_ ([u_]:List (List Int))),Hn (aL F2_ F2_ g2),Hl (aM F2_ ai ([u_]:List (List Int)))])
       ·exact yB ((za2 Tryz.prog).or ((zmx Tryz.prog).or X0)) hC bw ai ae (Z2++[Hq c3])
     ·obtain rfl := za ae
      obtain rfl:=hl1;exact yB X0 hC av ai aa [Hq c2]
   ·obtain ⟨g3, aa⟩ := gdE aa
    obtain⟨t5,ht5,aa⟩:=zb aa;refine yL ((zmy Tryz.prog).or X0) hC yf [1,0,1,1,1,1,1,1,2,1,0] [J1] (fun s=>We r_ ah s.1 s.2) (fun x=>z0M r_ ah x.1 x.2) (IntKind.u64.wrap ((z78 .u64 1 ((r_.1.length:Nat):Int)) - 1),0) ht5  [Ha (lnM F2_ r_.1),Hn g3] ?_;rintro⟨bh,bl⟩ m5 au ae hl1 J5 cd;try unfold We at ae;rcases zF ae with⟨c4,ae⟩|⟨c4,ae⟩
    ·refine yJ X0 hC yf [1,0,1,1,1,1,1,1,2,1,0,0,1,1] [J1, J5] [4,6,7,36,37] (fun z : Int => wC bl z = some au) (fun z => z0Q r_ ah bl z) [(4, .d (eSl 1 true F2_ r_.1)), (6, .d (eSl 1 false (eI .u64) ah)), (7, .d (.atom (.int .u64 bh))), (36, .d (.atom (.int .u64 (z78 .u64 1 ((r_.1.length : Nat) : Int))))), (37, .d (.atom (.int .u64 bl)))] [Hq c4, Hh (.cut 0)] ?_ fun J6 cu => ?_
     ·rintro i4 ae
      unfold wC at ae;obtain rfl:=za ae;exact yB X0 hC cd (i4,IntKind.u64.wrap (bl+1)) hl1 []
     ·obtain ⟨aw, h4, ae⟩ := zb ae
      obtain⟨bk,h5,ae⟩:=zb ae;refine yJ X0 hC yf [1,0,1,1,1,1,1,1,2,1,0,0,1,1,2,0,1,1] [J1,J5,J6] [4,6,7,8,36,37,48,49,50,51,61] (fun z:Bool=>ZF ah bh bl z=some au) (fun z=>z0P r_ ah bh bl aw bk z) [(4,.d (eSl 1 true F2_ r_.1)),(6,.d (eSl 1 false (eI .u64) ah)),(7,.d (.atom (.int .u64 bh))),(8,.d (.atom (.int .u64 bl))),(9,.d (I aw)),(10,.d (I bk)),(36,.d (.atom (.int .u64 (z78 .u64 1 ((r_.1.length:Nat):Int))))),(37,.d (.atom (.int .u64 bl)))] [Hc h0M (x:=bl) h4 (loC (eI .u64) bl <| loN),Hc h0M (x:=bh) h5 (loC (eI .u64) bh <| loN),Hh (.cut 0)] ?_ fun J7 hJ7=>?_
      ·rintro io ae
       unfold ZF at ae;refine yJ X0 hC yf [1,0,1,1,1,1,1,1,2,1,0,0,1,1,2,0,1,1,1] [J1,J5,J6] [4,6,8,36,37,48,49,50,51,61] (fun z:Unit=>Wg bl=some au) (fun z=>z0O r_ ah bl aw bk io) [(4,.d (eSl 1 true F2_ r_.1)),(6,.d (eSl 1 false (eI .u64) ah)),(7,.d (.atom (.int .u64 bh))),(8,.d (.atom (.int .u64 bl))),(36,.d (.atom (.int .u64 (z78 .u64 1 ((r_.1.length:Nat):Int))))),(37,.d (.atom (.int .u64 bl))),(48,.d (I aw)),(49,.d (I bk)),(50,.d (B (aw==bk))),(51,.d (B (aw==bk))),(61,.d (B io))] [Hh (.cut 0)] ?_ fun J8 j7=>?_
       ·rintro ⟨⟩ ae
        unfold Wg at ae;exact yB X0 hC cu bl ae []
       ·obtain ⟨t9, ht9, ae⟩ := zb ae
        refine yL X0 hC yf [1,0,1,1,1,1,1,1,2,1,0,0,1,1,2,0,1,1,1,2,1,0] [J1,J5,J6,J8] (fun s=>Wc ah bh bl s) (fun x=>z0L r_ ah bh bl aw bk io x) 0 ht9  [Ha (lnM (eI .u64) ah)] ?_;rintro jy m9 co aj hl2 J9 ku;try unfold Wc at aj;rcases zF aj with⟨c5,aj⟩|⟨c5,aj⟩
        ·obtain ⟨du, h6, aj⟩ := zb aj
         rcases zF aj with⟨c6,aj⟩|⟨c6,aj⟩
         ·obtain rfl := za aj
          obtain rfl:=hl2;exact yB ((za2 Tryz.prog).or X0) hC cu bh ae [Hq c5,Hi (eI .u64) h6,Hq c6]
         ·obtain rfl := za aj
          exact yB ((za2 Tryz.prog).or X0) hC ku (w64 (jy+1)) hl2 [Hq c5,Hi (eI .u64) h6,Hq c6]
        ·obtain rfl := za aj
         obtain rfl:=hl2;exact yB X0 hC j7 () ae [Hq c5]
      ·rcases zF ae with ⟨c7, ae⟩ | ⟨c7, ae⟩
       ·exact yB X0 hC cu bh ae (rpN 6 (Hq c7) [qT])
       ·let Z3 : List HO := (rpN 4 (Hq c7) [])
        rcases zF ae with⟨c8,ae⟩|⟨c8,ae⟩
        ·let Z4 : List HO := (Z3 ++ (rpN 4 (Hq c8) []))
         rcases zF ae with⟨c9,ae⟩|⟨c9,ae⟩
         ·exact yB X0 hC cu bh ae (Z4++(rpN 4 (Hq c9) [Hq c8,Hq c9,Hq c7,Hq c8,Hq c7,qT]))
         ·obtain ⟨dg, h7, ae⟩ := zb ae
          let Z5:List HO:=(Z4++[Hq c9,Hq c9,Hq c9,Hc h1Q (x:=(bl,bh)) h7 (loC (eI .u64) bl <| loC (eI .u64) bh <| loN),Hq c9,Hq c8,Hq c9,Hq c7,Hq c8,Hq c7]);rcases zF ae with⟨c10,ae⟩|⟨c10,ae⟩
          ·exact yB X0 hC cu bh ae (Z5++[Hq c10])
          ·exact yB X0 hC hJ7 (!dg) ae (Z5++[Hq c10])
        ·exact yB X0 hC hJ7 false ae (Z3++(rpN 5 (Hq c8) [Hq c7,Hq c8,Hq c7,qF]))
    ·obtain rfl := za ae
     obtain rfl:=hl1;exact yB X0 hC aq bh aa [Hq c4]
def UN:Code:=(Tryz.f110.body).getD .skip
def Uz:zJ:=spF (α:=List (List Int)) (ρ:=Bool) 110 (fun x=>[wI x]) (fun r=>eB r) (fun x=>z05 x) [] (Vo)
abbrev z2D:List (Nat×T):=[]
abbrev z2C (l_:List (List Int))(i_:Int):List (Nat×T):=[(0,.d (eSl 1 false F6_ l_)),(3,.d (I i_))]
theorem z6O {ctr:Ctr}(hC:zx Tryz.prog ctr)(h0e:ctr.Has qj):Uz.Ok Tryz.prog:=by
 refine zw ?_;rintro l_ r0 aa;try unfold z05 at aa;refine yO true [(2,none)] UN 21 Tryz.func110 fun E hE=>?_;refine yJ X0 hC UN [1] [] [] (fun z:Unit=>Uy=some r0) (fun z=>z2D) [(0,.d (eSl 1 false F6_ l_))] [Hh (.cut 1)] ?_ fun J1 aq=>?_
 ·rintro ⟨⟩ aa
  unfold Uy at aa;obtain rfl:=za aa;exact yE X0 hC hE []
 ·obtain ⟨t2, ht2, aa⟩ := zb aa
  refine yL X0 hC UN [1,2,1,0] [J1] (fun s=>Ux l_ s) (fun x=>z2C l_ x) 1 ht2  [] ?_;rintro i_ m2 au ae hl1 J2 av;try unfold Ux at ae
  let Z0:List HO:=[Ha (lnM F6_ l_)];rcases zF ae with⟨c0,ae⟩|⟨c0,ae⟩
  ·obtain ⟨bq, h0, ae⟩ := zb ae
   obtain⟨ga,h1,ae⟩:=zb ae;obtain⟨r_,h2,ae⟩:=zb ae
   let Z1:List HO:=(Z0++[Hq c0,Hi F6_ h0,Hi F6_ h1,Hc h0e (x:=(bq,ga)) h2 (loC F6_ bq <| loC F6_ ga <| loN)]);rcases zF ae with⟨c1,ae⟩|⟨c1,ae⟩
   ·obtain rfl := za ae
    obtain rfl:=hl1;obtain rfl:=za aa;exact yE X0 hC hE (Z1++[Hq c1])
   ·obtain rfl := za ae
    exact yB X0 hC av (w64 (i_+1)) hl1 (Z1++[Hq c1])
  ·obtain rfl := za ae
   obtain rfl:=hl1;exact yB X0 hC aq () aa (Z0++[Hq c0])
def z63:Code:=(Tryz.f78.body).getD .skip
def UA:zJ:=spF (α:=List (List Int)×Int) (ρ:=Int) 78 (fun x=>[wI x.1,(eI .i64) x.2]) (fun r=>(eI .i64) r) (fun x=>z06 x.1 x.2) [] (VO)
theorem z6P {ctr:Ctr}(hC:zx Tryz.prog ctr)(h0w:ctr.Has Xl)(h1R:ctr.Has Uz)(h0l:ctr.Has Xk):UA.Ok Tryz.prog:=by
 refine zw ?_;rintro⟨l_,inputs⟩ r0 aa;try unfold z06 at aa;refine yO true [(4,none)] z63 18 Tryz.func78 fun E hE=>?_;obtain⟨r_,h0,aa⟩:=zb aa
 let Z0:List HO:=[Hc h0w (x:=(l_,inputs)) h0 (loC wI l_ <| loC (eI .i64) inputs <| loN)];rcases zF aa with⟨c0,aa⟩|⟨c0,aa⟩
 ·obtain rfl := za aa
  exact yE X0 hC hE (Z0++[Hq c0])
 ·obtain ⟨ah, h1, aa⟩ := zb aa
  let Z1:List HO:=(Z0++[Hq c0,Hc h1R (x:=l_) h1 (loC wI l_ <| loN)]);rcases zF aa with⟨c1,aa⟩|⟨c1,aa⟩
  ·obtain rfl := za aa
   exact yE X0 hC hE (Z1++[Hq c1])
  ·obtain ⟨al, h2, aa⟩ := zb aa
   let Z2:List HO:=(Z1++[Hq c1,Hc h0l (x:=l_) h2 (loC wI l_ <| loN)]);rcases zF aa with⟨c2,aa⟩|⟨c2,aa⟩
   ·obtain rfl := za aa
    exact yE X0 hC hE (Z2++[Hq c2])
   ·obtain rfl := za aa
    exact yE X0 hC hE (Z2++[Hq c2])
def z5k:Code:=(Tryz.f49.body).getD .skip
def jL:zJ:=spF (α:=z6×List (List Int)) (ρ:=Int) 49 (fun x=>[zH x.1,wI x.2]) (fun r=>(eI .i64) r) (fun x=>XO x.1 x.2) [] (VO)
theorem z5V {ctr:Ctr}(hC:zx Tryz.prog ctr)(h0g:ctr.Has wX)(h1S:ctr.Has UA):jL.Ok Tryz.prog:=by
 refine zw ?_;rintro⟨m_,l_⟩ r0 aa;try unfold XO at aa;refine yO true [(4,none)] z5k 15 Tryz.func49 fun E hE=>?_;obtain⟨r_,h0,aa⟩:=zb aa
 let Z0:List HO:=[Hc h0g (x:=m_) h0 (loC zH m_ <| loN)];rcases zF aa with⟨c0,aa⟩|⟨c0,aa⟩
 ·obtain rfl := za aa
  exact yE X0 hC hE (Z0++[Hq c0])
 ·obtain ⟨ah, h1, aa⟩ := zb aa
  obtain rfl:=za aa;exact yE X0 hC hE (Z0++[Hq c0,Hc h1S (x:=(l_,m_.Inputs)) h1 (loC wI l_ <| loC (eI .i64) m_.Inputs <| loN)])
def wn:Code:=(Tryz.f18.body).getD .skip
def V8:zJ:=spF (α:=z6×List (List Int)) (ρ:=Bool×Int) 18 (fun x=>[zH x.1,wI x.2]) (fun r=>.tup [eB r.1,(eI .i64) r.2]) (fun x=>Um x.1 x.2) [] (VO)
abbrev z1V:List (Nat×T):=[(4,.own (.box (B false))),(5,.own (.box (I 0)))]
abbrev jD (all:List (List (List Int)))(ah:Int):List (Nat×T):=[(4,.own (.box (B false))),(5,.own (.box (I 0))),(7,.own (.box (eOs 1 false F9_ all))),(34,.d (.fn 80 [.sptr (I ah)]))]
abbrev z1W (m_:z6)(all:List (List (List Int))):List (Nat×T):=[(2,.own (.box (zH m_))),(4,.own (.box (B false))),(5,.own (.box (I 0))),(7,.own (.box (eOs 1 false F9_ all)))]
abbrev z1U (m_:z6)(l_:List (List Int))(ia:List (List (List Int)))(i6:Int):List (Nat×T):=[(1,.d (eSl 1 false F6_ l_)),(2,.own (.box (zH m_))),(4,.own (.box (B false))),(5,.own (.box (I 0))),(7,.own (.box (eOs 1 false F9_ ia))),(19,.d (I ((m_.Rows.length:Nat):Int))),(20,.d (I i6))]
def yP:XH Tryz.prog:=((Q7 zy (.inl 28) [27]).or X0)
theorem z5Y {ctr:Ctr}(hC:zx Tryz.prog ctr)(h0j:ctr.Has jL)(h05:ctr.Has xX)(h04:ctr.Has wY)(h07:ctr.Has wZ):V8.Ok Tryz.prog:=by
 refine zw ?_;rintro⟨m_,l_⟩ r0 aa;try unfold Um at aa;refine yO false [(4,some 4),(5,some 33)] wn 46 Tryz.func18 fun E hE=>?_;obtain⟨r_,h0,aa⟩:=zb aa
 let Z0:List HO:=[Hc h0j (x:=(m_,l_)) h0 (loC zH m_ <| loC wI l_ <| loN)];rcases zF aa with⟨c0,aa⟩|⟨c0,aa⟩
 ·obtain rfl := za aa
  exact yE yP hC hE (Z0++[Hq c0])
 ·refine yJ yP hC wn [1,1,1] [] [2,4,5,7] (fun z : List (List (List Int)) => Vs m_ z = some r0) (fun z => z1W m_ z) [(1, .d (eSl 1 false F6_ l_)), (2, .own (.box (zH m_))), (4, .own (.box (B false))), (5, .own (.box (I 0))), (7, .own (.box (eOs 1 true wI [])))] (Z0 ++ [Hq c0, Hh (.cut 1)]) ?_ fun J1 aq => ?_
  ·rintro all aa
   unfold Vs at aa;refine yJ yP hC wn [1,1,1,1] [] [4,5] (fun z:Unit=>Vr=some r0) (fun z=>z1V) [(2,.own (.box (zH m_))),(4,.own (.box (B false))),(5,.own (.box (I 0))),(7,.own (.box (eOs 1 false F9_ all)))] [Hh (.cut 0)] ?_ fun J2 av=>?_
   ·rintro ⟨⟩ aa
    unfold Vr at aa;obtain rfl:=za aa;exact yE yP hC hE []
   ·obtain ⟨ah, h1, aa⟩ := zb aa
    obtain⟨t3,ht3,aa⟩:=zb aa;refine yAt yP hC (sub [1,1,1,1,2,1,0] wn) (frs [1,1,1,1,2,1,0] [J2] wn []) [(4,.own (.box (B false))),(5,.own (.box (I 0))),(7,.own (.box (eOs 1 false F9_ all))),(34,.d (.fn 80 [.sptr (I ah)]))] [Ha (lnM yM m_.Rows),Hc h04 (x:=((m_.Rows.length:Nat):Int)) h1 (loC (eI .i64) ((m_.Rows.length:Nat):Int) <| loN)] fun st0 h0=>?_;refine z0q (g:=.tmp 34) (ps:=[35,36]) (assign:=(sub [1,1,1,1,2,1,0,0] wn)) (body:=(sub [1,1,1,1,2,1,0,1] wn)) (K:=80) (caps:=[.sptr (I ah)]) (by kernel_rfl) [4,5,7,34] (fun s=>jD all ah) (fun s=>jD all ah) (fun s=>Code.ret) ((fun(x:Int×Int) (_:Bool) (_:Value)=>[(eI .i64) x.1,(eI .i64) x.2])) (F:=@yN ah) (fun s x=>YE all x.1 x.2) () t3 _ h0 inferInstance (by kernel_rfl) (by decide) (fun _=>rfl) (fun _=>rfl) (by kernel_rfl) (fun _ _ _=>rfl) (Zq hC ah) ht3 ?_ ?_
    ·rintro mr ⟨⟩ ⟨lm, ic⟩ vr au ae
     replace ae:YE all lm ic=some au:=ae;unfold YE at ae;refine yF yP hC .normal [(4,.own (.box (B false))),(5,.own (.box (I 0))),(7,.own (.box (eOs 1 false F9_ all))),(9,.d (I lm)),(10,.d (I ic)),(34,.d (.fn 80 [.sptr (I ah)]))] [] fun st0 h0=>⟨rfl,z7G h0 ?_⟩;obtain⟨jp,h2,ae⟩:=zb ae;obtain⟨i5,h3,ae⟩:=zb ae;obtain⟨al,h4,ae⟩:=zb ae
     let Z1:List HO:=[Hn (iL F9_ h2),Hs (iM F9_ h2),Hn (iL F9_ h3),Hs (iM F9_ h3),Hc h07 (x:=(jp,i5)) h4 (loC F9_ jp <| loC F9_ i5 <| loN)];rcases zF ae with⟨c1,ae⟩|⟨c1,ae⟩
     ·obtain rfl := za ae
      exact yF yP hC .ret (jD all ah) (Z1++[Hq c1]) fun st0 h0=>⟨rfl,_,h0,LeL.refl _⟩
     ·obtain rfl := za ae
      exact yF yP hC .normal (jD all ah) (Z1++[Hq c1]) fun st0 h0=>⟨rfl,_,h0,LeL.refl _⟩
    ·rcases t3 with ⟨⟩ | z
     ·dsimp only at aa
      exact XU (by kernel_rfl) (av _ [(4,.own (.box (B false))),(5,.own (.box (I 0)))] () aa (show Own.canon [4,5] _=ofL _ by kernel_rfl) inferInstance)
     ·obtain ⟨⟩ := z
      dsimp only at aa
      show AWP _ _ (Code.ret) _ _
      obtain rfl:=za aa;exact yE yP hC hE []
  ·obtain ⟨t4, ht4, aa⟩ := zb aa
   refine yLx yP hC wn [1,1,1,2,1,0] [J1] (fun s=>Vq m_ l_ s.1 s.2) (fun x=>z1U m_ l_ x.1 x.2) (([]:List (List (List Int))),0) ht4 [(1,.d (eSl 1 false F6_ l_)),(2,.own (.box (zH m_))),(4,.own (.box (B false))),(5,.own (.box (I 0))),(7,.own (.box (eOs 1 true F9_ []))),(19,.d (I ((m_.Rows.length:Nat):Int))),(20,.d (I 0))] inferInstance [Ha (lnM yM m_.Rows)] ?_;rintro⟨ia,i6⟩ m4 au ae hl1 J4 bw;try unfold Vq at ae;rcases zF ae with⟨c2,ae⟩|⟨c2,ae⟩
   ·obtain ⟨aw, h5, ae⟩ := zb ae
    obtain⟨g0,ae⟩:=gdE ae;obtain rfl:=za ae;exact yB yP hC bw ((ia++([aw]:List (List (List Int)))),w64 (i6+1)) hl1 [Hq c2,Hc h05 (x:=(m_,l_,i6)) h5 (loC zH m_ <| loC wI l_ <| loC (eI .i64) i6 <| loN),Hm (shM F2_ F2_ aw),Hq (dM F9_ ([aw]:List (List (List Int)))),Hn (dM F9_ ([aw]:List (List (List Int)))),Hn (aL F9_ F9_ g0),Hl (aM F9_ ia ([aw]:List (List (List Int))))]
   ·obtain rfl := za ae
    obtain rfl:=hl1;exact yB yP hC aq ia aa [Hq c2]
def z0p:Code:=(Tryz.f22.body).getD .skip
def ZM:zJ:=spF (α:=z6×List (List Int)×Int) (ρ:=List (List Int)×Int) 22 (fun x=>[zH x.1,wI x.2.1,(eI .i64) x.2.2]) (fun r=>.tup [F9_ r.1,(eI .i64) r.2]) (fun x=>Wb x.1 x.2.1 x.2.2) [] (zbg)
theorem z16 {ctr:Ctr}(hC:zx Tryz.prog ctr)(h0j:ctr.Has jL)(h05:ctr.Has xX):ZM.Ok Tryz.prog:=by
 refine zw ?_;rintro⟨m_,l_,s_⟩ r0 aa;try unfold Wb at aa;refine yO false [(6,none),(7,none)] z0p 28 Tryz.func22 fun E hE=>?_;obtain⟨r_,h0,aa⟩:=zb aa
 let Z0:List HO:=[Hc h0j (x:=(m_,l_)) h0 (loC zH m_ <| loC wI l_ <| loN)];rcases zF aa with⟨c0,aa⟩|⟨c0,aa⟩
 ·obtain rfl := za aa
  exact yEx X0 hC hE (Z0++[Hq c0,Hm (shM F6_ F6_ [])]) (.tup [eSl 1 true F2_ [],I r_]) (show LeV (.tup [eSl 1 true F2_ [],I r_]) (.tup [eSl 1 true F2_ ([]:List (List Int)),I r_]) from inferInstance)
 ·rcases zF aa with ⟨c1, aa⟩ | ⟨c1, aa⟩
  ·obtain rfl := za aa
   exact yEx X0 hC hE (Z0++(Hq c0::(rpN 6 (Hq c1) [qT,Hm (shM F6_ F6_ [])]))) (.tup [eSl 1 true F2_ [],I 1]) (show LeV (.tup [eSl 1 true F2_ [],I 1]) (.tup [eSl 1 true F2_ ([]:List (List Int)),I 1]) from inferInstance)
  ·let Z1 : List HO := (Z0 ++ (Hq c0 :: (rpN 4 (Hq c1) [Ha (lnM yM m_.Rows), Hq c1, Hq c1])))
   rcases zF aa with⟨c2,aa⟩|⟨c2,aa⟩
   ·obtain rfl := za aa
    exact yEx X0 hC hE (Z1++[Hq c2,Hm (shM F6_ F6_ [])]) (.tup [eSl 1 true F2_ [],I 1]) (show LeV (.tup [eSl 1 true F2_ [],I 1]) (.tup [eSl 1 true F2_ ([]:List (List Int)),I 1]) from inferInstance)
   ·obtain ⟨ah, h1, aa⟩ := zb aa
    obtain rfl:=za aa;exact yE X0 hC hE (Z1++[Hq c2,Hc h05 (x:=(m_,l_,s_)) h1 (loC zH m_ <| loC wI l_ <| loC (eI .i64) s_ <| loN),Hm (shM F2_ F2_ ah)])
def KH:Code:=(Tryz.f57.body).getD .skip
def ub:zJ:=spF (α:=List Int×List Int) (ρ:=Bool) 57 (fun x=>[F6_ x.1,F6_ x.2]) (fun r=>eB r) (fun x=>Xd x.1 x.2) [] (VO)
theorem z03 {ctr:Ctr}(hC:zx Tryz.prog ctr):ub.Ok Tryz.prog:=by
 refine zw ?_;rintro⟨a_,b_⟩ r0 aa;try unfold Xd at aa;refine yO true [(4,none)] KH 10 Tryz.func57 fun E hE=>?_;obtain rfl:=za aa;exact yE X0 hC hE [Ha (lnM (eI .i64) a_),Ha (lnM (eI .i64) b_)]
def yG:Code:=(Tryz.f56.body).getD .skip
def w7:zJ:=spF (α:=List (List Int)×List (List Int)×Unit) (ρ:=Bool) 56 (fun x=>[wI x.1,wI x.2.1,(z9Q 57) x.2.2]) (fun r=>eB r) (fun x=>xa x.1 x.2.1 x.2.2) [] (by
 rintro⟨a0,a1,a2⟩ ⟨b0,b1,b2⟩ h;have e0:=ZZ.inj (f:=wI) _ _ (List.cons.inj h).1;replace h:=(List.cons.inj h).2;have e1:=ZZ.inj (f:=wI) _ _ (List.cons.inj h).1;replace h:=(List.cons.inj h).2;have e2:=ZZ.inj (f:=(z9Q 57)) _ _ (List.cons.inj h).1;subst e0 e1 e2;rfl)
abbrev qd:List (Nat×T):=[]
abbrev qb (s1:List (List Int))(s2:List (List Int))(ap:Int):List (Nat×T):=[(1,.d (eSl 1 false F6_ s2)),(2,.d (.fn 57 [])),(15,.d (eSl 1 false F6_ s1)),(16,.d (I ((s1.length:Nat):Int))),(17,.d (I ap))]
theorem wc {ctr:Ctr}(hC:zx Tryz.prog ctr)(h0o:ctr.Has ub):w7.Ok Tryz.prog:=by
 refine zw ?_;rintro⟨s1,s2,eq⟩ r0 aa;try unfold xa at aa;refine yO true [(6,none)] yG 32 Tryz.func56 fun E hE=>?_
 let Z0:List HO:=[Ha (lnM F6_ s1),Ha (lnM F6_ s2)];rcases zF aa with⟨c0,aa⟩|⟨c0,aa⟩
 ·obtain rfl := za aa
  exact yE X0 hC hE (Z0++[Hq c0])
 ·refine yJ X0 hC yG [1,1] [] [] (fun z : Unit => yD = some r0) (fun z => qd) [(0, .d (eSl 1 false F6_ s1)), (1, .d (eSl 1 false F6_ s2)), (2, .d (.fn 57 []))] (Z0 ++ [Hq c0, Hh (.cut 0)]) ?_ fun J1 aq => ?_
  ·rintro ⟨⟩ aa
   unfold yD at aa;obtain rfl:=za aa;exact yE X0 hC hE []
  ·obtain ⟨t2, ht2, aa⟩ := zb aa
   refine yL X0 hC yG [1,1,2,1,0] [J1] (fun s=>yC s1 s2 s) (fun x=>qb s1 s2 x) 0 ht2  [Ha (lnM F6_ s1)] ?_;rintro ap m2 au ae hl1 J2 av;try unfold yC at ae;rcases zF ae with⟨c1,ae⟩|⟨c1,ae⟩
   ·obtain ⟨ft, h0, ae⟩ := zb ae
    obtain⟨dp,h1,ae⟩:=zb ae;obtain⟨r_,h2,ae⟩:=zb ae
    let Z1:List HO:=[Hq c1,Hi F6_ h0,Hi F6_ h1,Hc h0o (x:=(ft,dp)) h2 (loC F6_ ft <| loC F6_ dp <| loN)];rcases zF ae with⟨c2,ae⟩|⟨c2,ae⟩
    ·obtain rfl := za ae
     obtain rfl:=hl1;obtain rfl:=za aa;exact yE X0 hC hE (Z1++[Hq c2])
    ·obtain rfl := za ae
     exact yB X0 hC av (w64 (ap+1)) hl1 (Z1++[Hq c2])
   ·obtain rfl := za ae
    obtain rfl:=hl1;exact yB X0 hC aq () aa [Hq c1]
def jC:Code:=(Tryz.f25.body).getD .skip
def Ye:zJ:=spF (α:=z6×List (List Int)×List (List Int)) (ρ:=List Int×Int) 25 (fun x=>[zH x.1,wI x.2.1,wI x.2.2]) (fun r=>.tup [F2_ r.1,(eI .i64) r.2]) (fun x=>uA x.1 x.2.1 x.2.2) [] (zbg)
abbrev Kd (out:List Int):List (Nat×T):=[(9,.own (eOs 1 false (eI .i64) out))]
abbrev Kc (m_:z6)(l_:List (List Int))(bi:List (List Int))(bc:Int)(ay:List Int):List (Nat×T):=[(1,.d (eSl 1 false F6_ l_)),(2,.d (eSl 1 false F6_ bi)),(3,.own (.box (zH m_))),(9,.own (eOs 1 false (eI .i64) ay)),(23,.d (I ((m_.Rows.length:Nat):Int))),(24,.d (I bc))]
abbrev Kb (m_:z6)(l_:List (List Int))(bi:List (List Int))(ai:List Int)(bc:Int):List (Nat×T):=[(1,.d (eSl 1 false F6_ l_)),(2,.d (eSl 1 false F6_ bi)),(3,.own (.box (zH m_))),(9,.own (eOs 1 false (eI .i64) ai)),(23,.d (I ((m_.Rows.length:Nat):Int))),(24,.d (I bc))]
theorem z2c {ctr:Ctr}(hC:zx Tryz.prog ctr)(h0j:ctr.Has jL)(h0o:ctr.Has ub)(h05:ctr.Has xX)(h07:ctr.Has wZ)(h01:ctr.Has yw):Ye.Ok Tryz.prog:=by
 refine zw ?_;rintro⟨m_,l_,bi⟩ r0 aa;try unfold uA at aa;refine yO false [(6,none),(7,none)] jC 40 Tryz.func25 fun E hE=>?_;obtain⟨r_,h0,aa⟩:=zb aa
 let Z0:List HO:=[Hc h0j (x:=(m_,l_)) h0 (loC zH m_ <| loC wI l_ <| loN)];rcases zF aa with⟨c0,aa⟩|⟨c0,aa⟩
 ·obtain rfl := za aa
  exact yEx X0 hC hE (Z0++[Hq c0,Hm (shM (eI .i64) (eI .i64) [])]) (.tup [eSl 1 true (eI .i64) [],I r_]) (show LeV (.tup [eSl 1 true (eI .i64) [],I r_]) (.tup [eSl 1 true (eI .i64) ([]:List Int),I r_]) from inferInstance)
 ·obtain ⟨ah, h1, aa⟩ := zb aa
  let Z1:List HO:=(Z0++[Hq c0,Hc (Ctr.add_has KC w7) (x:=(l_,bi,())) h1 (loC wI l_ <| loC wI bi <| loC (z9Q 57) () <| loN)]);rcases zF aa with⟨c1,aa⟩|⟨c1,aa⟩
  ·obtain rfl := za aa
   exact yEx ((z3i zy (wc hC h0o) 19).or X0) hC hE (Z1++[Hq c1,Hm (shM (eI .i64) (eI .i64) [])]) (.tup [eSl 1 true (eI .i64) [],I 16]) (show LeV (.tup [eSl 1 true (eI .i64) [],I 16]) (.tup [eSl 1 true (eI .i64) ([]:List Int),I 16]) from inferInstance)
  ·refine yJ ((z3i zy (wc hC h0o) 19).or X0) hC jC [1,1,1,1] [] [9] (fun z : List Int => YG z = some r0) (fun z => Kd z) [(1, .d (eSl 1 false F6_ l_)), (2, .d (eSl 1 false F6_ bi)), (3, .own (.box (zH m_))), (9, .own (eOs 1 true (eI .i64) []))] (Z1 ++ [Hq c1, Hh (.cut 1)]) ?_ fun J1 aq => ?_
   ·rintro out aa
    unfold YG at aa;obtain⟨al,h2,aa⟩:=zb aa;obtain rfl:=za aa;exact yE X0 hC hE [Hg (z1Y h01),Hm (shM (eI .i64) (eI .i64) out),Hs (z1Z h01 (x:=out) h2 (loC F6_ out <| loN)),Hm (shM (eI .i64) (eI .i64) out)]
   ·obtain ⟨t2, ht2, aa⟩ := zb aa
    refine yLx X0 hC jC [1,1,1,1,2,1,0] [J1] (fun s=>YF m_ l_ bi s.1 s.2) (fun x=>Kb m_ l_ bi x.1 x.2) (([]:List Int),0) ht2 [(1,.d (eSl 1 false F6_ l_)),(2,.d (eSl 1 false F6_ bi)),(3,.own (.box (zH m_))),(9,.own (eOs 1 true (eI .i64) [])),(23,.d (I ((m_.Rows.length:Nat):Int))),(24,.d (I 0))] inferInstance [Ha (lnM yM m_.Rows)] ?_;rintro⟨ai,bc⟩ m2 au ae hl1 J2 av;try unfold YF at ae;rcases zF ae with⟨c2,ae⟩|⟨c2,ae⟩
    ·refine yJ X0 hC jC [1,1,1,1,2,1,0,0,1,1] [J1, J2] [1,2,3,9,23,24] (fun z : List Int => jA bc z = some au) (fun z => Kc m_ l_ bi bc z) [(1, .d (eSl 1 false F6_ l_)), (2, .d (eSl 1 false F6_ bi)), (3, .own (.box (zH m_))), (9, .own (eOs 1 false (eI .i64) ai)), (23, .d (I ((m_.Rows.length : Nat) : Int))), (24, .d (I bc))] [Hq c2, Hh (.cut 0)] ?_ fun J3 bf => ?_
     ·rintro ay ae
      unfold jA at ae;obtain rfl:=za ae;exact yB X0 hC av (ay,w64 (bc+1)) hl1 []
     ·obtain ⟨aw, h3, ae⟩ := zb ae
      obtain⟨bk,h4,ae⟩:=zb ae
      let Z2:List HO:=[Hc h05 (x:=(m_,l_,bc)) h3 (loC zH m_ <| loC wI l_ <| loC (eI .i64) bc <| loN),Hg (z1Y h07),Hm (shM F2_ F2_ aw),Hs (z1Z h07 (x:=(aw,bi)) h4 (loC F9_ aw <| loC wI bi <| loN))];rcases zF ae with⟨c3,ae⟩|⟨c3,ae⟩
      ·obtain ⟨g0, ae⟩ := gdE ae
       exact yB X0 hC bf (ai++([bc]:List Int)) ae (Z2++[Hq c3,Hq (dM (eI .i64) ([bc]:List Int)),Hn (dM (eI .i64) ([bc]:List Int)),Hn (aL (eI .i64) (eI .i64) g0),Hl (aM (eI .i64) ai ([bc]:List Int))])
      ·exact yB X0 hC bf ai ae (Z2++[Hq c3])
    ·obtain rfl := za ae
     obtain rfl:=hl1;exact yB X0 hC aq ai aa [Hq c2]
def z7D:Code:=(Tryz.f26.body).getD .skip
def Qk:zJ:=spF (α:=List Int×List Int) (ρ:=Bool) 26 (fun x=>[F2_ x.1,F6_ x.2]) (fun r=>eB r) (fun x=>Kq x.1 x.2) [] (VO)
theorem z81 {ctr:Ctr}(hC:zx Tryz.prog ctr)(h0n:ctr.Has Wr):Qk.Ok Tryz.prog:=by
 refine zw ?_;rintro⟨a_,b_⟩ r0 aa;try unfold Kq at aa;refine yO true [(4,none)] z7D 17 Tryz.func26 fun E hE=>?_;obtain⟨r_,h0,aa⟩:=zb aa
 let Z0:List HO:=[Hg (z1Y h0n),Hm (shM F2_ F2_ ([a_])),Hm (shM F6_ F6_ ([b_])),Hs (z1Z h0n (x:=([a_],[b_])) h0 (loC F9_ ([a_]:List (List Int)) <| loC ziJ ([b_]:List (List Int)) <| loN))];rcases zF aa with⟨c0,aa⟩|⟨c0,aa⟩
 ·obtain rfl := za aa
  exact yE X0 hC hE (Z0++[Hq c0,Hq c0,Ha (lnM (eI .i64) a_),Hq c0,Hq c0,Ha (lnM (eI .i64) a_),Hq c0,Hq c0])
 ·obtain rfl := za aa
  exact yE X0 hC hE (Z0++(rpN 6 (Hq c0) []))
def KX:Code:=(Tryz.f16.body).getD .skip
def UF:zJ:=spF (α:=Unit) (ρ:=Bool) 16 (fun x=>[]) (fun r=>eB r) (fun x=>Qv) [] (fun _ _ _=>rfl)
theorem z6V {ctr:Ctr}(hC:zx Tryz.prog ctr)(h1T:ctr.Has W6)(h03:ctr.Has Qj)(h0i:ctr.Has Yf)(h0k:ctr.Has Ua)(h1U:ctr.Has W7)(h00:ctr.Has Ws)(h0N:ctr.Has V8)(h1V:ctr.Has ZM)(h0p:ctr.Has Ye)(h08:ctr.Has Qk):UF.Ok Tryz.prog:=by
 refine zw ?_;rintro⟨⟩ r0 aa;try unfold Qv at aa;refine yO true [(0,none)] KX 212 Tryz.func16 fun E hE=>?_;obtain⟨r_,h0,aa⟩:=zb aa;obtain⟨ah,h1,aa⟩:=zb aa;obtain⟨al,h2,aa⟩:=zb aa;obtain⟨aw,h3,aa⟩:=zb aa;obtain⟨bk,h4,aa⟩:=zb aa;obtain⟨dg,h5,aa⟩:=zb aa;obtain⟨ie,h6,aa⟩:=zb aa
 let Z0:List HO:=[Hc h1T (x:=()) h0 (loN),Hg (z1Y h03),Hm (shM F3_ F2_ ([[0],[1]])),Hs (z1Z h03 (x:=[[0],[1]]) h1 (loC F9_ ([[0],[1]]:List (List Int)) <| loN)),Hm (shM F3_ F2_ ([[0],[1]])),Hc h0i (x:=r_) h2 (loC zbr r_ <| loN),Hc h0k (x:=(r_,0)) h3 (loC zbr r_ <| loC (eI .i64) 0 <| loN),Hc h0k (x:=(r_,1)) h4 (loC zbr r_ <| loC (eI .i64) 1 <| loN),Hc h0k (x:=(r_,2)) h5 (loC zbr r_ <| loC (eI .i64) 2 <| loN),Hc h1U (x:=r_) h6 (loC zbr r_ <| loN)];rcases zF aa with⟨c0,aa⟩|⟨c0,aa⟩
 ·obtain rfl := za aa
  exact yE X0 hC hE (Z0++(Hq c0::Hq c0::Hq c0::(rpN 36 qT [])))
 ·rcases zF aa with ⟨c1, aa⟩ | ⟨c1, aa⟩
  ·obtain rfl := za aa
   exact yE X0 hC hE (Z0++(Hq c0::Hq c0::Hq c0::Hq c1::Hq c1::Hq c1::(rpN 33 qT [])))
  ·let Z1 : List HO := (Z0 ++ [Hq c0, Hq c0, Hq c0, Hq c1, Hq c1, Hq c1])
   rcases zF aa with⟨c2,aa⟩|⟨c2,aa⟩
   ·obtain rfl := za aa
    exact yE X0 hC hE (Z1++(Hq c2::Hq c2::Hq c2::(rpN 30 qT [])))
   ·rcases zF aa with ⟨c3, aa⟩ | ⟨c3, aa⟩
    ·obtain rfl := za aa
     exact yE X0 hC hE (Z1++(Hq c2::Hq c2::Hq c2::Hq c3::Hq c3::Hq c3::(rpN 27 qT [])))
    ·let Z2 : List HO := (Z1 ++ [Hq c2, Hq c2, Hq c2, Hq c3, Hq c3, Hq c3])
     rcases zF aa with⟨c4,aa⟩|⟨c4,aa⟩
     ·obtain rfl := za aa
      exact yE X0 hC hE (Z2++(rpN 5 (Hq c4) (rpN 22 qT [])))
     ·obtain ⟨ew, h7, aa⟩ := zb aa
      let Z3:List HO:=(Z2++[Hq c4,Hq c4,Hq c4,Hn (Y6 (f:=.fn 11 []) (xs:=[F9_ al.1,wI ah]) (ls:=[]) (r:=B ew) (ys:=[]) [F9_ al.1,wI ah] (show z0U [F9_ al.1,wI ah] [F9_ al.1,wI ah] from inferInstance)),Hq c4,Hq c4]);rcases zF aa with⟨c5,aa⟩|⟨c5,aa⟩
      ·obtain rfl := za aa
       exact yE ((uc (P:=Tryz.prog) yo [] (lentCall (yk hC h00 (x:=(al.1,ah)) h7)) 73).or X0) hC hE (Z3++(rpN 5 (Hq c5) (rpN 17 qT [])))
      ·obtain ⟨gx, h8, aa⟩ := zb aa
       let Z4:List HO:=(Z3++[Hq c5,Hq c5,Hq c5,Hn (Y6 (f:=.fn 11 []) (xs:=[F9_ aw.1,wI ah]) (ls:=[]) (r:=B gx) (ys:=[]) [F9_ aw.1,wI ah] (show z0U [F9_ aw.1,wI ah] [F9_ aw.1,wI ah] from inferInstance)),Hq c5,Hq c5]);rcases zF aa with⟨c6,aa⟩|⟨c6,aa⟩
       ·obtain rfl := za aa
        exact yE ((uc (P:=Tryz.prog) yo [] (lentCall (yk hC h00 (x:=(aw.1,ah)) h8)) 79).or ((uc (P:=Tryz.prog) yo [] (lentCall (yk hC h00 (x:=(al.1,ah)) h7)) 73).or X0)) hC hE (Z4++(rpN 5 (Hq c6) (rpN 12 qT [])))
       ·obtain ⟨jz, h9, aa⟩ := zb aa
        let Z5:List HO:=(Z4++[Hq c6,Hq c6,Hq c6,Hn (Y6 (f:=.fn 11 []) (xs:=[F9_ bk.1,wI ah]) (ls:=[]) (r:=B jz) (ys:=[]) [F9_ bk.1,wI ah] (show z0U [F9_ bk.1,wI ah] [F9_ bk.1,wI ah] from inferInstance)),Hq c6,Hq c6]);rcases zF aa with⟨c7,aa⟩|⟨c7,aa⟩
        ·obtain rfl := za aa
         exact yE ((uc (P:=Tryz.prog) yo [] (lentCall (yk hC h00 (x:=(bk.1,ah)) h9)) 85).or ((uc (P:=Tryz.prog) yo [] (lentCall (yk hC h00 (x:=(aw.1,ah)) h8)) 79).or ((uc (P:=Tryz.prog) yo [] (lentCall (yk hC h00 (x:=(al.1,ah)) h7)) 73).or X0))) hC hE (Z5++(rpN 6 (Hq c7) (rpN 6 qT [])))
        ·obtain ⟨g0, aa⟩ := gdE aa
         obtain⟨k0,h10,aa⟩:=zb aa
         let Z6:List HO:=(Z5++[Hq c7,Hq c7,Hq c7,Hn (slB g0),Hn (zb7 F6_ g0),Ha (slM 1 false F6_ ah 0 (1:Int).toNat),Hq c7,Hn (Y6 (f:=.fn 11 []) (xs:=[F9_ dg.1,wI ((ah.drop 0).take ((1:Int).toNat - 0))]) (ls:=[]) (r:=B k0) (ys:=[]) [F9_ dg.1,wI ((ah.drop 0).take ((1:Int).toNat - 0))] (show z0U [F9_ dg.1,wI ((ah.drop 0).take ((1:Int).toNat - 0))] [F9_ dg.1,wI ((ah.drop 0).take ((1:Int).toNat - 0))] from inferInstance)),Hq c7,Hq c7]);rcases zF aa with⟨c8,aa⟩|⟨c8,aa⟩
         ·obtain rfl := za aa
          exact yE ((uc (P:=Tryz.prog) yo [] (lentCall (yk hC h00 (x:=(dg.1,((ah.drop 0).take ((1:Int).toNat - 0)))) h10)) 92).or ((uc (P:=Tryz.prog) yo [] (lentCall (yk hC h00 (x:=(bk.1,ah)) h9)) 85).or ((uc (P:=Tryz.prog) yo [] (lentCall (yk hC h00 (x:=(aw.1,ah)) h8)) 79).or ((uc (P:=Tryz.prog) yo [] (lentCall (yk hC h00 (x:=(al.1,ah)) h7)) 73).or X0)))) hC hE (Z6++(rpN 5 (Hq c8) [qT]))
         ·obtain ⟨k9, h11, aa⟩ := zb aa
          let Z7:List HO:=(Z6++[Hq c8,Hq c8,Hq c8,Hn (Y6 (f:=.fn 11 []) (xs:=[F9_ ie.1,wI ah]) (ls:=[]) (r:=B k9) (ys:=[]) [F9_ ie.1,wI ah] (show z0U [F9_ ie.1,wI ah] [F9_ ie.1,wI ah] from inferInstance)),Hq c8,Hq c8]);rcases zF aa with⟨c9,aa⟩|⟨c9,aa⟩
          ·obtain rfl := za aa
           exact yE ((uc (P:=Tryz.prog) yo [] (lentCall (yk hC h00 (x:=(ie.1,ah)) h11)) 98).or ((uc (P:=Tryz.prog) yo [] (lentCall (yk hC h00 (x:=(dg.1,((ah.drop 0).take ((1:Int).toNat - 0)))) h10)) 92).or ((uc (P:=Tryz.prog) yo [] (lentCall (yk hC h00 (x:=(bk.1,ah)) h9)) 85).or ((uc (P:=Tryz.prog) yo [] (lentCall (yk hC h00 (x:=(aw.1,ah)) h8)) 79).or ((uc (P:=Tryz.prog) yo [] (lentCall (yk hC h00 (x:=(al.1,ah)) h7)) 73).or X0))))) hC hE (Z7++[Hq c9])
          ·obtain ⟨g1, aa⟩ := gdE aa
           obtain⟨j4,h12,aa⟩:=zb aa;obtain⟨kc,h13,aa⟩:=zb aa;obtain⟨j5,h14,aa⟩:=zb aa;obtain⟨ep,h15,aa⟩:=zb aa;obtain⟨ke,h16,aa⟩:=zb aa;obtain⟨fk,h17,aa⟩:=zb aa;obtain⟨g2,aa⟩:=gdE aa;obtain⟨kg,h18,aa⟩:=zb aa;obtain⟨fx,h19,aa⟩:=zb aa;obtain⟨g3,aa⟩:=gdE aa;obtain⟨kh,h20,aa⟩:=zb aa;obtain⟨i9,h21,aa⟩:=zb aa;obtain⟨g4,aa⟩:=gdE aa;obtain⟨la,h22,aa⟩:=zb aa;refine yA ((uc (P:=Tryz.prog) yo [] (lentCall (yk hC h00 (x:=(ie.1,ah)) h11)) 98).or ((uc (P:=Tryz.prog) yo [] (lentCall (yk hC h00 (x:=(dg.1,((ah.drop 0).take ((1:Int).toNat - 0)))) h10)) 92).or ((uc (P:=Tryz.prog) yo [] (lentCall (yk hC h00 (x:=(bk.1,ah)) h9)) 85).or ((uc (P:=Tryz.prog) yo [] (lentCall (yk hC h00 (x:=(aw.1,ah)) h8)) 79).or ((uc (P:=Tryz.prog) yo [] (lentCall (yk hC h00 (x:=(al.1,ah)) h7)) 73).or X0))))) hC KX [1,1,1,1,1,1,1,1,1,1,1,1,1,1,1,1] [] [(2,.d (eSl 1 false F6_ ah)),(4,.d (I j4.2)),(6,.d (I j5.2)),(8,.d (I ep.2)),(10,.d (I fk.2)),(12,.d (I fx.2)),(13,.d (B j4.1)),(14,.d (B j5.1)),(15,.d (eSl 1 true F2_ ep.1)),(16,.d (eSl 1 true (eI .i64) fk.1)),(17,.d (eSl 1 true (eI .i64) fx.1)),(18,.d (eSl 1 true (eI .i64) i9.1)),(19,.d (I i9.2)),(21,.d (I la.2))] (Z7++[Hq c9,Hn (slB g1),Hn (zb7 F6_ g1),Ha (slM 1 false F6_ ah 0 (1:Int).toNat),Hc h0N (x:=(r_,((ah.drop 0).take ((1:Int).toNat - 0)))) h12 (loC zbr r_ <| loC wI ((ah.drop 0).take ((1:Int).toNat - 0)) <| loN),Hg (z1Y h03),Hm (shM F3_ F2_ ([[0,0]])),Hs (z1Z h03 (x:=[[0,0]]) h13 (loC F9_ ([[0,0]]:List (List Int)) <| loN)),Hm (shM F3_ F2_ ([[0,0]])),Hc h0N (x:=(r_,kc)) h14 (loC zbr r_ <| loC wI kc <| loN),Hc h1V (x:=(r_,ah,1)) h15 (loC zbr r_ <| loC wI ah <| loC (eI .i64) 1 <| loN),Hg (z1Y h03),Hm (shM F3_ F2_ ([[0],[0]])),Hs (z1Z h03 (x:=[[0],[0]]) h16 (loC F9_ ([[0],[0]]:List (List Int)) <| loN)),Hm (shM F3_ F2_ ([[0],[0]])),Hc h0p (x:=(r_,ah,ke)) h17 (loC zbr r_ <| loC wI ah <| loC wI ke <| loN),Hn (slB g2),Hn (zb7 F6_ g2),Ha (slM 1 false F6_ ah 0 (1:Int).toNat),Hg (z1Y h03),Hm (shM F3_ F2_ ([[0]])),Hs (z1Z h03 (x:=[[0]]) h18 (loC F9_ ([[0]]:List (List Int)) <| loN)),Hm (shM F3_ F2_ ([[0]])),Hc h0p (x:=(r_,((ah.drop 0).take ((1:Int).toNat - 0)),kg)) h19 (loC zbr r_ <| loC wI ((ah.drop 0).take ((1:Int).toNat - 0)) <| loC wI kg <| loN),Hn (slB g3),Hn (zb7 F6_ g3),Ha (slM 1 false F6_ ah 0 (1:Int).toNat),Hg (z1Y h03),Hm (shM F3_ F2_ ([[7]])),Hs (z1Z h03 (x:=[[7]]) h20 (loC F9_ ([[7]]:List (List Int)) <| loN)),Hm (shM F3_ F2_ ([[7]])),Hc h0p (x:=(r_,((ah.drop 0).take ((1:Int).toNat - 0)),kh)) h21 (loC zbr r_ <| loC wI ((ah.drop 0).take ((1:Int).toNat - 0)) <| loC wI kh <| loN),Hn (slB g4),Hn (zb7 F6_ g4),Ha (slM 1 false F6_ ah 0 (1:Int).toNat),Hc h0p (x:=(r_,((ah.drop 0).take ((1:Int).toNat - 0)),[])) h22 (loC zbr r_ <| loC wI ((ah.drop 0).take ((1:Int).toNat - 0)) <| loC ziJ ([]:List (List Int)) <| loN),Hh (.cut 0)]) ?_;rcases zF aa with⟨c10,aa⟩|⟨c10,aa⟩
           ·rcases zF aa with ⟨c11, aa⟩ | ⟨c11, aa⟩
            ·let Z8 : List HO := [Hq c10, Hq c10, Hq c10, Hq c11, Hq c11, Hq c11]
             rcases zF aa with⟨c12,aa⟩|⟨c12,aa⟩
             ·rcases zF aa with ⟨c13, aa⟩ | ⟨c13, aa⟩
              ·let Z9 : List HO := (Z8 ++ [Hq c12, Hq c12, Hq c12, Hq c13, Hq c13, Hq c13])
               rcases zF aa with⟨c14,aa⟩|⟨c14,aa⟩
               ·rcases zF aa with ⟨c15, aa⟩ | ⟨c15, aa⟩
                ·let Z10 : List HO := (Z9 ++ [Hq c14, Hq c14, Hq c14, Hq c15, Hq c15, Hq c15])
                 rcases zF aa with⟨c16,aa⟩|⟨c16,aa⟩
                 ·rcases zF aa with ⟨c17, aa⟩ | ⟨c17, aa⟩
                  ·obtain ⟨lb, h23, aa⟩ := zb aa
                   let Z11:List HO:=(Z10++[Hq c16,Hq c16,Hq c17,Hq c17,Hq c17,Hn (Y6 (f:=.fn 11 []) (xs:=[F9_ ep.1,wI ah]) (ls:=[]) (r:=B lb) (ys:=[]) [F9_ ep.1,wI ah] (show z0U [F9_ ep.1,wI ah] [F9_ ep.1,wI ah] from inferInstance)),Hq c17]);rcases zF aa with⟨c18,aa⟩|⟨c18,aa⟩
                   ·obtain ⟨lc, h24, aa⟩ := zb aa
                    let Z12:List HO:=(Z11++[Hq c18,Hq c18,Hq c18,Hm (shM (eI .i64) (eI .i64) ([0])),Hn (Y6 (f:=.fn 26 []) (xs:=[F2_ fk.1,F6_ ([0]:List Int)]) (ls:=[]) (r:=B lc) (ys:=[]) [F2_ fk.1,F2_ ([0]:List Int)] (show z0U [F2_ fk.1,F2_ ([0]:List Int)] [F2_ fk.1,F6_ ([0]:List Int)] from inferInstance)),Hq c18]);rcases zF aa with⟨c19,aa⟩|⟨c19,aa⟩
                    ·obtain ⟨ld, h25, aa⟩ := zb aa
                     let Z13:List HO:=(Z12++[Hq c19,Hq c19,Hq c19,Hm (shM (eI .i64) (eI .i64) ([0,1])),Hn (Y6 (f:=.fn 26 []) (xs:=[F2_ fx.1,F6_ ([0,1]:List Int)]) (ls:=[]) (r:=B ld) (ys:=[]) [F2_ fx.1,F2_ ([0,1]:List Int)] (show z0U [F2_ fx.1,F2_ ([0,1]:List Int)] [F2_ fx.1,F6_ ([0,1]:List Int)] from inferInstance)),Hq c19]);rcases zF aa with⟨c20,aa⟩|⟨c20,aa⟩
                     ·let Z14 : List HO := (Z13 ++ [Hq c20, Hq c20, Ha (lnM (eI .i64) i9.1), Hq c20, Hq c20])
                      rcases zF aa with⟨c21,aa⟩|⟨c21,aa⟩
                      ·obtain rfl := za aa
                       exact yE ((uc (P:=Tryz.prog) yo [] (lentCall (yk hC h08 (x:=(fx.1,([0,1]:List Int))) h25)) 201).or ((uc (P:=Tryz.prog) yo [] (lentCall (yk hC h08 (x:=(fk.1,([0]:List Int))) h24)) 196).or ((uc (P:=Tryz.prog) yo [] (lentCall (yk hC h00 (x:=(ep.1,ah)) h23)) 191).or X0))) hC hE (Z14++[Hq c21,Hq c21,Hq c21])
                      ·obtain rfl := za aa
                       exact yE ((uc (P:=Tryz.prog) yo [] (lentCall (yk hC h08 (x:=(fx.1,([0,1]:List Int))) h25)) 201).or ((uc (P:=Tryz.prog) yo [] (lentCall (yk hC h08 (x:=(fk.1,([0]:List Int))) h24)) 196).or ((uc (P:=Tryz.prog) yo [] (lentCall (yk hC h00 (x:=(ep.1,ah)) h23)) 191).or X0))) hC hE (Z14++[Hq c21,Hq c21,Hq c21])
                     ·obtain rfl := za aa
                      exact yE ((uc (P:=Tryz.prog) yo [] (lentCall (yk hC h08 (x:=(fx.1,([0,1]:List Int))) h25)) 201).or ((uc (P:=Tryz.prog) yo [] (lentCall (yk hC h08 (x:=(fk.1,([0]:List Int))) h24)) 196).or ((uc (P:=Tryz.prog) yo [] (lentCall (yk hC h00 (x:=(ep.1,ah)) h23)) 191).or X0))) hC hE (Z13++(rpN 4 (Hq c20) [qF,qF,qF]))
                    ·obtain rfl := za aa
                     exact yE ((uc (P:=Tryz.prog) yo [] (lentCall (yk hC h08 (x:=(fk.1,([0]:List Int))) h24)) 196).or ((uc (P:=Tryz.prog) yo [] (lentCall (yk hC h00 (x:=(ep.1,ah)) h23)) 191).or X0)) hC hE (Z12++(rpN 4 (Hq c19) (rpN 7 qF [])))
                   ·obtain rfl := za aa
                    exact yE ((uc (P:=Tryz.prog) yo [] (lentCall (yk hC h00 (x:=(ep.1,ah)) h23)) 191).or X0) hC hE (Z11++(rpN 4 (Hq c18) (rpN 11 qF [])))
                  ·obtain rfl := za aa
                   exact yE X0 hC hE (Z10++(Hq c16::Hq c16::(rpN 4 (Hq c17) (rpN 15 qF []))))
                 ·obtain rfl := za aa
                  exact yE X0 hC hE (Z10++(Hq c16::Hq c16::(rpN 19 qF [])))
                ·obtain rfl := za aa
                 exact yE X0 hC hE (Z9++(Hq c14::Hq c14::Hq c14::Hq c15::Hq c15::Hq c15::(rpN 21 qF [])))
               ·obtain rfl := za aa
                exact yE X0 hC hE (Z9++(Hq c14::Hq c14::Hq c14::(rpN 24 qF [])))
              ·obtain rfl := za aa
               exact yE X0 hC hE (Z8++(Hq c12::Hq c12::Hq c12::Hq c13::Hq c13::Hq c13::(rpN 27 qF [])))
             ·obtain rfl := za aa
              exact yE X0 hC hE (Z8++(Hq c12::Hq c12::Hq c12::(rpN 30 qF [])))
            ·obtain rfl := za aa
             exact yE X0 hC hE (Hq c10::Hq c10::Hq c10::Hq c11::Hq c11::Hq c11::(rpN 33 qF []))
           ·obtain rfl := za aa
            exact yE X0 hC hE (Hq c10::Hq c10::Hq c10::(rpN 36 qF []))
def vQ:Code:=(Tryz.f3.body).getD .skip
def Yd:zJ:=spF (α:=uE) (ρ:=Bool) 3 (fun x=>[(Zn Ke) x]) (fun r=>eB r) (fun x=>YA x) [] (Vo)
abbrev K9 (ah:List (List Int)×Int)(cm:List (List Int)):List (Nat×T):=[(4,.d (eSl 1 true F2_ ah.1)),(6,.own (eOs 1 false F2_ cm))]
abbrev K8 (r_:z6)(ah:List (List Int)×Int)(cm:List (List Int))(i_:Int):List (Nat×T):=[(3,.own (.box (zH r_))),(4,.d (eSl 1 true F2_ ah.1)),(6,.own (eOs 1 false F2_ cm)),(10,.d (I i_))]
abbrev Ka (r_:z6)(ah:List (List Int)×Int)(cm:List (List Int)):List (Nat×T):=[(3,.own (.box (zH r_))),(4,.d (eSl 1 true F2_ ah.1)),(6,.own (eOs 1 false F2_ cm))]
abbrev K7 (r_:z6)(ah:List (List Int)×Int)(eu:List (List Int))(s_:Int):List (Nat×T):=[(3,.own (.box (zH r_))),(4,.d (eSl 1 true F2_ ah.1)),(6,.own (eOs 1 false F2_ eu)),(7,.d (I s_))]
theorem z2b {ctr:Ctr}(hC:zx Tryz.prog ctr)(h1W:ctr.Has Ql)(h0i:ctr.Has Yf)(h1X:ctr.Has Jt)(h00:ctr.Has Ws)(h0k:ctr.Has Ua)(h1Y:ctr.Has z07)(h0h:ctr.Has Wq)(h1Z:ctr.Has UF):Yd.Ok Tryz.prog:=by
 refine zw ?_;rintro x_ r0 aa;try unfold YA at aa;refine yO true [(2,none)] vQ 76 Tryz.func3 fun E hE=>?_;obtain⟨r_,h0,aa⟩:=zb aa;obtain⟨ah,h1,aa⟩:=zb aa
 let Z0:List HO:=[Hc h1W (x:=(uE.mk x_.C)) h0 (loC (Zn Ke) (uE.mk x_.C) <| loN),Hc h0i (x:=r_) h1 (loC zH r_ <| loN)];rcases zF aa with⟨c0,aa⟩|⟨c0,aa⟩
 ·obtain rfl := za aa
  exact yE X0 hC hE (Z0++(rpN 6 (Hq c0) [qT]))
 ·obtain ⟨al, h2, aa⟩ := zb aa
  obtain⟨aw,h3,aa⟩:=zb aa
  let Z1:List HO:=(Z0++[Hq c0,Hq c0,Hq c0,Hc h1X (x:=r_) h2 (loC zH r_ <| loN),Hq c0,Hm (shM F6_ F6_ al),Hn (Y6 (f:=.fn 11 []) (xs:=[F9_ ah.1,wI al]) (ls:=[]) (r:=B aw) (ys:=[]) [F9_ ah.1,wI al] (show z0U [F9_ ah.1,wI al] [F9_ ah.1,wI al] from inferInstance)),Hq c0,Hq c0]);rcases zF aa with⟨c1,aa⟩|⟨c1,aa⟩
  ·obtain rfl := za aa
   exact yE ((uc (P:=Tryz.prog) yo [] (lentCall (yk hC h00 (x:=(ah.1,al)) h3)) 24).or X0) hC hE (Z1++[Hq c1])
  ·refine yJ ((uc (P := Tryz.prog) yo [] (lentCall (yk hC h00 (x := (ah.1, al)) h3)) 24).or X0) hC vQ [1,1,1,1,1] [] [3,4,6] (fun z : List (List Int) => qZ r_ ah z = some r0) (fun z => Ka r_ ah z) [(3, .own (.box (zH r_))), (4, .d (eSl 1 true F2_ ah.1)), (6, .own (eOs 1 true F6_ []))] (Z1 ++ [Hq c1, Hh (.cut 1)]) ?_ fun J1 aq => ?_
   ·rintro cm aa
    unfold qZ at aa;refine yJ X0 hC vQ [1,1,1,1,1,1] [] [4,6] (fun z:Unit=>qY ah cm=some r0) (fun z=>K9 ah cm) [(3,.own (.box (zH r_))),(4,.d (eSl 1 true F2_ ah.1)),(6,.own (eOs 1 false F2_ cm))] [Hh (.cut 0)] ?_ fun J2 av=>?_
    ·rintro ⟨⟩ aa
     unfold qY at aa;obtain⟨bk,h4,aa⟩:=zb aa;obtain⟨dg,h5,aa⟩:=zb aa
     let Z2:List HO:=[Hg (z1Y h0h),Hm (shM F2_ F2_ cm),Hs (z1Z h0h (x:=cm) h4 (loC (eSl 1 false F2_) cm <| loN)),Hm (shM F2_ F2_ cm),Hm (shM F6_ F6_ bk),Hn (Y6 (f:=.fn 11 []) (xs:=[F9_ ah.1,wI bk]) (ls:=[]) (r:=B dg) (ys:=[]) [F9_ ah.1,wI bk] (show z0U [F9_ ah.1,wI bk] [F9_ ah.1,wI bk] from inferInstance))];rcases zF aa with⟨c2,aa⟩|⟨c2,aa⟩
     ·obtain ⟨ie, h6, aa⟩ := zb aa
      obtain rfl:=za aa;exact yE ((uc (P:=Tryz.prog) yo [] (lentCall (yk hC h00 (x:=(ah.1,bk)) h5)) 72).or X0) hC hE (Z2++[Hq c2,Hc h1Z (x:=()) h6 (loN),Hq c2])
     ·obtain rfl := za aa
      exact yE ((uc (P:=Tryz.prog) yo [] (lentCall (yk hC h00 (x:=(ah.1,bk)) h5)) 72).or X0) hC hE (Z2++[Hq c2,Hq c2])
    ·obtain ⟨t3, ht3, aa⟩ := zb aa
     refine yL X0 hC vQ [1,1,1,1,1,1,2,1,0] [J2] (fun s=>xM r_ ah s) (fun x=>K8 r_ ah cm x) 0 ht3  [] ?_;rintro i_ m3 au ae hl1 J3 bf;try unfold xM at ae
     let Z3:List HO:=[Ha (lnM F2_ ah.1)];rcases zF ae with⟨c3,ae⟩|⟨c3,ae⟩
     ·obtain ⟨u_, h7, ae⟩ := zb ae
      let Z4:List HO:=(Z3++[Hq c3,Hi F2_ h7,Ha (lnM (eI .i64) u_),Ha (lnM yM r_.Rows)]);rcases zF ae with⟨c4,ae⟩|⟨c4,ae⟩
      ·obtain rfl := za ae
       obtain rfl:=hl1;obtain rfl:=za aa;exact yE X0 hC hE (Z4++[Hq c4])
      ·obtain rfl := za ae
       exact yB X0 hC bf (w64 (i_+1)) hl1 (Z4++[Hq c4])
     ·obtain rfl := za ae
      obtain rfl:=hl1;exact yB X0 hC av () aa (Z3++[Hq c3])
   ·obtain ⟨t4, ht4, aa⟩ := zb aa
    refine yLx X0 hC vQ [1,1,1,1,1,2,1,0] [J1] (fun s=>vP r_ s.1 s.2) (fun x=>K7 r_ ah x.1 x.2) (([]:List (List Int)),0) ht4 [(3,.own (.box (zH r_))),(4,.d (eSl 1 true F2_ ah.1)),(6,.own (eOs 1 true F2_ [])),(7,.d (I 0))] inferInstance [] ?_;rintro⟨eu,s_⟩ m4 au ae hl1 J4 bw;try unfold vP at ae
    let Z5:List HO:=[Ha (lnM yM r_.Rows)];rcases zF ae with⟨c5,ae⟩|⟨c5,ae⟩
    ·obtain ⟨ew, h8, ae⟩ := zb ae
     let Z6:List HO:=(Z5++[Hq c5,Hc h0k (x:=(r_,s_)) h8 (loC zH r_ <| loC (eI .i64) s_ <| loN)]);rcases zF ae with⟨c6,ae⟩|⟨c6,ae⟩
     ·obtain rfl := za ae
      obtain rfl:=hl1;obtain rfl:=za aa;exact yE X0 hC hE (Z6++(rpN 7 (Hq c6) [qT]))
     ·obtain ⟨gx, h9, ae⟩ := zb ae
      obtain⟨jz,h10,ae⟩:=zb ae
      let Z7:List HO:=(Z6++(rpN 4 (Hq c6) [Hc h1Y (x:=(r_,s_)) h9 (loC zH r_ <| loC (eI .i64) s_ <| loN),Hq c6,Hm (shM F6_ F6_ gx),Hn (Y6 (f:=.fn 11 []) (xs:=[F9_ ew.1,wI gx]) (ls:=[]) (r:=B jz) (ys:=[]) [F9_ ew.1,wI gx] (show z0U [F9_ ew.1,wI gx] [F9_ ew.1,wI gx] from inferInstance)),Hq c6,Hq c6]));rcases zF ae with⟨c7,ae⟩|⟨c7,ae⟩
      ·obtain rfl := za ae
       obtain rfl:=hl1;obtain rfl:=za aa;exact yE ((uc (P:=Tryz.prog) yo [] (lentCall (yk hC h00 (x:=(ew.1,gx)) h10)) 47).or X0) hC hE (Z7++[Hq c7])
      ·obtain ⟨g0, ae⟩ := gdE ae
       obtain rfl:=za ae;exact yB ((uc (P:=Tryz.prog) yo [] (lentCall (yk hC h00 (x:=(ew.1,gx)) h10)) 47).or X0) hC bw ((eu++ew.1),w64 (s_+1)) hl1 (Z7++[Hq c7,Hn (dM F2_ ew.1),Hn (aL F2_ F2_ g0),Hl (aM F2_ eu ew.1)])
    ·obtain rfl := za ae
     obtain rfl:=hl1;exact yB X0 hC aq eu aa (Z5++[Hq c5])
theorem zU {l:List zJ}{s:zJ}(h:((l.map zJ.k).contains s.k)=false):∀t∈l,t.k≠s.k:=by
 intro t ht e;have:(l.map zJ.k).contains s.k=true:=by
  rw [List.contains_iff_mem,<-e];exact List.mem_map_of_mem ht
 rw [h]at this;cases this
theorem zk {l:List zJ}{c:Ctr}(H:∀t∈l,c.Has t)(i:Nat){s:zJ}(h:l[i]?=some s):c.Has s:=H _ (List.mem_of_getElem? h)
def L0:List zJ:=V4::[]
def L1:List zJ:=Qm::L0
def L2:List zJ:=UB::L1
def L3:List zJ:=V0::L2
def L4:List zJ:=Ya::L3
def L5:List zJ:=WZ::L4
def L6:List zJ:=Zs::L5
def L7:List zJ:=Yb::L6
def L8:List zJ:=UE::L7
def L9:List zJ:=Qg::L8
def L10:List zJ:=UC::L9
def L11:List zJ:=V1::L10
def L12:List zJ:=Qh::L11
def L13:List zJ:=UD::L12
def L14:List zJ:=Y9::L13
def L15:List zJ:=W2::L14
def L16:List zJ:=Jv::L15
def L17:List zJ:=W1::L16
def L18:List zJ:=Ql::L17
def L19:List zJ:=qm::L18
def L20:List zJ:=W5::L19
def L21:List zJ:=ZK::L20
def L22:List zJ:=yY::L21
def L23:List zJ:=yz::L22
def L24:List zJ:=xx::L23
def L25:List zJ:=Yc::L24
def L26:List zJ:=X5::L25
def L27:List zJ:=vt::L26
def L28:List zJ:=jJ::L27
def L29:List zJ:=Zd::L28
def L30:List zJ:=Zc::L29
def L31:List zJ:=vU::L30
def L32:List zJ:=wK::L31
def L33:List zJ:=jK::L32
def L34:List zJ:=Zb::L33
def L35:List zJ:=X2::L34
def L36:List zJ:=WX::L35
def L37:List zJ:=qO::L36
def L38:List zJ:=xH::L37
def L39:List zJ:=Y8::L38
def L40:List zJ:=jI::L39
def L41:List zJ:=Za::L40
def L42:List zJ:=wX::L41
def L43:List zJ:=wY::L42
def L44:List zJ:=V9::L43
def L45:List zJ:=ug::L44
def L46:List zJ:=WV::L45
def L47:List zJ:=WW::L46
def L48:List zJ:=wq::L47
def L49:List zJ:=yw::L48
def L50:List zJ:=ZJ::L49
def L51:List zJ:=wL::L50
def L52:List zJ:=vE::L51
def L53:List zJ:=W0::L52
def L54:List zJ:=wW::L53
def L55:List zJ:=wg::L54
def L56:List zJ:=Xj::L55
def L57:List zJ:=Xl::L56
def L58:List zJ:=ui::L57
def L59:List zJ:=W8::L58
def L60:List zJ:=qP::L59
def L61:List zJ:=vV::L60
def L62:List zJ:=Qn::L61
def L63:List zJ:=qj::L62
def L64:List zJ:=X1::L63
def L65:List zJ:=wh::L64
def L66:List zJ:=Xk::L65
def L67:List zJ:=WU::L66
def L68:List zJ:=Y7::L67
def L69:List zJ:=V6::L68
def L70:List zJ:=Yf::L69
def L71:List zJ:=Jw::L70
def L72:List zJ:=W4::L71
def L73:List zJ:=Qi::L72
def L74:List zJ:=WY::L73
def L75:List zJ:=Qe::L74
def L76:List zJ:=X3::L75
def L77:List zJ:=Zr::L76
def L78:List zJ:=Ju::L77
def L79:List zJ:=Wq::L78
def L80:List zJ:=Xm::L79
def L81:List zJ:=Jt::L80
def L82:List zJ:=Wr::L81
def L83:List zJ:=Ws::L82
def L84:List zJ:=Xn::L83
def L85:List zJ:=Ua::L84
def L86:List zJ:=z07::L85
def L87:List zJ:=W6::L86
def L88:List zJ:=Qj::L87
def L89:List zJ:=X4::L88
def L90:List zJ:=V2::L89
def L91:List zJ:=V3::L90
def L92:List zJ:=xX::L91
def L93:List zJ:=jM::L92
def L94:List zJ:=xj::L93
def L95:List zJ:=wZ::L94
def L96:List zJ:=ZL::L95
def L97:List zJ:=uj::L96
def L98:List zJ:=qM::L97
def L99:List zJ:=wM::L98
def zpa:List zJ:=vu::L99
def zp9:List zJ:=V7::zpa
def zp8:List zJ:=W7::zp9
def zp7:List zJ:=Uz::zp8
def zp6:List zJ:=UA::zp7
def zp5:List zJ:=jL::zp6
def zp4:List zJ:=V8::zp5
def zp3:List zJ:=ZM::zp4
def zp2:List zJ:=ub::zp3
def zp1:List zJ:=Ye::zp2
def zp0:List zJ:=Qk::zp1
def zoZ:List zJ:=UF::zp0
def zq1:List zJ:=Yd::zoZ
theorem znW:zl Tryz.prog L0:=⟨fun _ hC H=>z5T hC,zU (by kernel_rfl),trivial⟩
theorem znV:zl Tryz.prog L1:=⟨fun _ hC H=>z83 hC (zk H 0 rfl),zU (by kernel_rfl),znW⟩
theorem znU:zl Tryz.prog L2:=⟨fun _ hC H=>z6R hC,zU (by kernel_rfl),znV⟩
theorem znT:zl Tryz.prog L3:=⟨fun _ hC H=>z5P hC (zk H 0 rfl),zU (by kernel_rfl),znU⟩
theorem znS:zl Tryz.prog L4:=⟨fun _ hC H=>z29 hC,zU (by kernel_rfl),znT⟩
theorem znR:zl Tryz.prog L5:=⟨fun _ hC H=>z5O hC (zk H 1 rfl) (zk H 0 rfl),zU (by kernel_rfl),znS⟩
theorem znQ:zl Tryz.prog L6:=⟨fun _ hC H=>z4c hC (zk H 0 rfl),zU (by kernel_rfl),znR⟩
theorem znP:zl Tryz.prog L7:=⟨fun _ hC H=>z7X hC,zU (by kernel_rfl),znQ⟩
theorem znO:zl Tryz.prog L8:=⟨fun _ hC H=>z6U hC (zk H 0 rfl),zU (by kernel_rfl),znP⟩
theorem znN:zl Tryz.prog L9:=⟨fun _ hC H=>z7V hC,zU (by kernel_rfl),znO⟩
theorem zml:zl Tryz.prog L10:=⟨fun _ hC H=>z6S hC (zk H 1 rfl) (zk H 0 rfl),zU (by kernel_rfl),znN⟩
theorem zmk:zl Tryz.prog L11:=⟨fun _ hC H=>z5Q hC (zk H 0 rfl),zU (by kernel_rfl),zml⟩
theorem zmj:zl Tryz.prog L12:=⟨fun _ hC H=>z7W hC,zU (by kernel_rfl),zmk⟩
theorem zmi:zl Tryz.prog L13:=⟨fun _ hC H=>z6T hC (zk H 1 rfl) (zk H 0 rfl),zU (by kernel_rfl),zmj⟩
theorem zmh:zl Tryz.prog L14:=⟨fun _ hC H=>z5M hC (zk H 7 rfl) (zk H 0 rfl),zU (by kernel_rfl),zmi⟩
theorem zmg:zl Tryz.prog L15:=⟨fun _ hC H=>z4d hC,zU (by kernel_rfl),zmh⟩
theorem zmf:zl Tryz.prog L16:=⟨fun _ hC H=>z9h hC (zk H 9 rfl) (zk H 1 rfl) (zk H 0 rfl),zU (by kernel_rfl),zmg⟩
theorem zme:zl Tryz.prog L17:=⟨fun _ hC H=>z4b hC (zk H 2 rfl) (zk H 0 rfl),zU (by kernel_rfl),zmf⟩
theorem zmd:zl Tryz.prog L18:=⟨fun _ hC H=>z82 hC (zk H 16 rfl) (zk H 0 rfl),zU (by kernel_rfl),zme⟩
theorem zmc:zl Tryz.prog L19:=⟨fun _ hC H=>z4g hC,zU (by kernel_rfl),zmd⟩
theorem zmb:zl Tryz.prog L20:=⟨fun _ hC H=>z4h hC (zk H 0 rfl),zU (by kernel_rfl),zmc⟩
theorem zma:zl Tryz.prog L21:=⟨fun _ hC H=>z11 hC (zk H 0 rfl),zU (by kernel_rfl),zmb⟩
theorem zm9:zl Tryz.prog L22:=⟨fun _ hC H=>Zg hC (zk H 0 rfl),zU (by kernel_rfl),zma⟩
theorem zm8:zl Tryz.prog L23:=⟨fun _ hC H=>jH hC (zk H 0 rfl),zU (by kernel_rfl),zm9⟩
theorem zm7:zl Tryz.prog L24:=⟨fun _ hC H=>z3q hC (zk H 0 rfl),zU (by kernel_rfl),zm8⟩
theorem zm6:zl Tryz.prog L25:=⟨fun _ hC H=>z2a hC,zU (by kernel_rfl),zm7⟩
theorem zm5:zl Tryz.prog L26:=⟨fun _ hC H=>z3p hC,zU (by kernel_rfl),zm6⟩
theorem zm4:zl Tryz.prog L27:=⟨fun _ hC H=>Ut hC,zU (by kernel_rfl),zm5⟩
theorem zm3:zl Tryz.prog L28:=⟨fun _ hC H=>Kw hC (zk H 1 rfl) (zk H 8 rfl) (zk H 0 rfl),zU (by kernel_rfl),zm4⟩
theorem zm2:zl Tryz.prog L29:=⟨fun _ hC H=>z02 hC (zk H 4 rfl) (zk H 0 rfl),zU (by kernel_rfl),zm3⟩
theorem zm1:zl Tryz.prog L30:=⟨fun _ hC H=>z01 hC (zk H 0 rfl),zU (by kernel_rfl),zm2⟩
theorem zm0:zl Tryz.prog L31:=⟨fun _ hC H=>UO hC,zU (by kernel_rfl),zm1⟩
theorem zlZ:zl Tryz.prog L32:=⟨fun _ hC H=>WR hC (zk H 0 rfl),zU (by kernel_rfl),zm0⟩
theorem zlY:zl Tryz.prog L33:=⟨fun _ hC H=>Kx hC (zk H 8 rfl) (zk H 0 rfl),zU (by kernel_rfl),zlZ⟩
theorem zlX:zl Tryz.prog L34:=⟨fun _ hC H=>z00 hC (zk H 0 rfl),zU (by kernel_rfl),zlY⟩
theorem zlW:zl Tryz.prog L35:=⟨fun _ hC H=>z3m hC,zU (by kernel_rfl),zlX⟩
theorem zlV:zl Tryz.prog L36:=⟨fun _ hC H=>z5L hC,zU (by kernel_rfl),zlW⟩
theorem zlU:zl Tryz.prog L37:=⟨fun _ hC H=>z27 hC (zk H 0 rfl),zU (by kernel_rfl),zlV⟩
theorem zlT:zl Tryz.prog L38:=⟨fun _ hC H=>QS hC,zU (by kernel_rfl),zlU⟩
theorem zlS:zl Tryz.prog L39:=⟨fun _ hC H=>z28 hC (zk H 14 rfl) (zk H 3 rfl) (zk H 1 rfl) (zk H 0 rfl),zU (by kernel_rfl),zlT⟩
theorem zlR:zl Tryz.prog L40:=⟨fun _ hC H=>Kv hC,zU (by kernel_rfl),zlS⟩
theorem zlQ:zl Tryz.prog L41:=⟨fun _ hC H=>KZ hC (zk H 1 rfl) (zk H 0 rfl),zU (by kernel_rfl),zlR⟩
theorem zlP:zl Tryz.prog L42:=⟨fun _ hC H=>z0Z hC (zk H 17 rfl) (zk H 16 rfl) (zk H 11 rfl) (zk H 7 rfl) (zk H 0 rfl),zU (by kernel_rfl),zlQ⟩
theorem zlO:zl Tryz.prog L43:=⟨fun _ hC H=>z5W hC,zU (by kernel_rfl),zlP⟩
theorem zlN:zl Tryz.prog L44:=⟨fun _ hC H=>z5Z hC,zU (by kernel_rfl),zlO⟩
theorem zlM:zl Tryz.prog L45:=⟨fun _ hC H=>z3k hC,zU (by kernel_rfl),zlN⟩
theorem zlL:zl Tryz.prog L46:=⟨fun _ hC H=>z5J hC (zk H 21 rfl) (zk H 0 rfl),zU (by kernel_rfl),zlM⟩
theorem zlK:zl Tryz.prog L47:=⟨fun _ hC H=>z5K hC,zU (by kernel_rfl),zlL⟩
theorem zlJ:zl Tryz.prog L48:=⟨fun _ hC H=>Q8 hC,zU (by kernel_rfl),zlK⟩
theorem zlI:zl Tryz.prog L49:=⟨fun _ hC H=>Jq hC,zU (by kernel_rfl),zlJ⟩
theorem zlH:zl Tryz.prog L50:=⟨fun _ hC H=>z0W hC (zk H 2 rfl) (zk H 1 rfl) (zk H 0 rfl),zU (by kernel_rfl),zlI⟩
theorem zlG:zl Tryz.prog L51:=⟨fun _ hC H=>QT hC,zU (by kernel_rfl),zlH⟩
theorem zlF:zl Tryz.prog L52:=⟨fun _ hC H=>z26 hC (zk H 5 rfl) (zk H 1 rfl) (zk H 0 rfl) (zk H 2 rfl),zU (by kernel_rfl),zlG⟩
theorem zlE:zl Tryz.prog L53:=⟨fun _ hC H=>z49 hC,zU (by kernel_rfl),zlF⟩
theorem zlD:zl Tryz.prog L54:=⟨fun _ hC H=>VK hC (zk H 0 rfl),zU (by kernel_rfl),zlE⟩
theorem zlC:zl Tryz.prog L55:=⟨fun _ hC H=>XY hC (zk H 0 rfl),zU (by kernel_rfl),zlD⟩
theorem zlB:zl Tryz.prog L56:=⟨fun _ hC H=>z6L hC (zk H 0 rfl),zU (by kernel_rfl),zlC⟩
theorem zlA:zl Tryz.prog L57:=⟨fun _ hC H=>z6N hC (zk H 0 rfl),zU (by kernel_rfl),zlB⟩
theorem zlz:zl Tryz.prog L58:=⟨fun _ hC H=>Q9 hC,zU (by kernel_rfl),zlA⟩
theorem zly:zl Tryz.prog L59:=⟨fun _ hC H=>z4k hC,zU (by kernel_rfl),zlz⟩
theorem zlx:zl Tryz.prog L60:=⟨fun _ hC H=>z2d hC (zk H 0 rfl),zU (by kernel_rfl),zly⟩
theorem zlw:zl Tryz.prog L61:=⟨fun _ hC H=>UP hC (zk H 0 rfl),zU (by kernel_rfl),zlx⟩
theorem zlv:zl Tryz.prog L62:=⟨fun _ hC H=>z85 hC,zU (by kernel_rfl),zlw⟩
theorem zlu:zl Tryz.prog L63:=⟨fun _ hC H=>z48 hC (zk H 2 rfl) (zk H 1 rfl) (zk H 0 rfl),zU (by kernel_rfl),zlv⟩
theorem zlt:zl Tryz.prog L64:=⟨fun _ hC H=>z3j hC (zk H 0 rfl),zU (by kernel_rfl),zlu⟩
theorem zls:zl Tryz.prog L65:=⟨fun _ hC H=>XZ hC (zk H 0 rfl),zU (by kernel_rfl),zlt⟩
theorem zlr:zl Tryz.prog L66:=⟨fun _ hC H=>z6M hC,zU (by kernel_rfl),zls⟩
theorem zlq:zl Tryz.prog L67:=⟨fun _ hC H=>z5I hC (zk H 8 rfl) (zk H 3 rfl) (zk H 1 rfl) (zk H 0 rfl) (zk H 15 rfl) (zk H 17 rfl),zU (by kernel_rfl),zlr⟩
theorem zlp:zl Tryz.prog L68:=⟨fun _ hC H=>z7R hC (zk H 10 rfl) (zk H 0 rfl),zU (by kernel_rfl),zlq⟩
theorem zlo:zl Tryz.prog L69:=⟨fun _ hC H=>z5U hC (zk H 25 rfl) (zk H 24 rfl) (zk H 16 rfl) (zk H 0 rfl),zU (by kernel_rfl),zlp⟩
theorem zln:zl Tryz.prog L70:=⟨fun _ hC H=>z84 hC (zk H 27 rfl) (zk H 0 rfl),zU (by kernel_rfl),zlo⟩
theorem zlm:zl Tryz.prog L71:=⟨fun _ hC H=>z9i hC (zk H 63 rfl),zU (by kernel_rfl),zln⟩
theorem zll:zl Tryz.prog L72:=⟨fun _ hC H=>z4f hC,zU (by kernel_rfl),zlm⟩
theorem zlk:zl Tryz.prog L73:=⟨fun _ hC H=>z7Y hC (zk H 0 rfl),zU (by kernel_rfl),zll⟩
theorem zlj:zl Tryz.prog L74:=⟨fun _ hC H=>z5N hC (zk H 2 rfl) (zk H 0 rfl),zU (by kernel_rfl),zlk⟩
theorem zli:zl Tryz.prog L75:=⟨fun _ hC H=>z7U hC,zU (by kernel_rfl),zlj⟩
theorem zlh:zl Tryz.prog L76:=⟨fun _ hC H=>z3n hC (zk H 1 rfl) (zk H 0 rfl),zU (by kernel_rfl),zli⟩
theorem zlg:zl Tryz.prog L77:=⟨fun _ hC H=>z4a hC,zU (by kernel_rfl),zlh⟩
theorem zlf:zl Tryz.prog L78:=⟨fun _ hC H=>z9g hC (zk H 0 rfl),zU (by kernel_rfl),zlg⟩
theorem zle:zl Tryz.prog L79:=⟨fun _ hC H=>z7S hC (zk H 0 rfl),zU (by kernel_rfl),zlf⟩
theorem zld:zl Tryz.prog L80:=⟨fun _ hC H=>z6Q hC (zk H 3 rfl) (zk H 0 rfl),zU (by kernel_rfl),zle⟩
theorem zlc:zl Tryz.prog L81:=⟨fun _ hC H=>z9f hC (zk H 0 rfl),zU (by kernel_rfl),zld⟩
theorem zlb:zl Tryz.prog L82:=⟨fun _ hC H=>z7T hC (zk H 4 rfl),zU (by kernel_rfl),zlc⟩
theorem zla:zl Tryz.prog L83:=⟨fun _ hC H=>z7Z hC (zk H 0 rfl),zU (by kernel_rfl),zlb⟩
theorem zl9:zl Tryz.prog L84:=⟨fun _ hC H=>z6W hC,zU (by kernel_rfl),zla⟩
theorem zl8:zl Tryz.prog L85:=⟨fun _ hC H=>z9j hC (zk H 42 rfl) (zk H 41 rfl) (zk H 0 rfl) (zk H 32 rfl) (zk H 16 rfl),zU (by kernel_rfl),zl9⟩
theorem zl7:zl Tryz.prog L86:=⟨fun _ hC H=>zb1 hC (zk H 5 rfl),zU (by kernel_rfl),zl8⟩
theorem zl6:zl Tryz.prog L87:=⟨fun _ hC H=>z4i hC,zU (by kernel_rfl),zl7⟩
theorem zl5:zl Tryz.prog L88:=⟨fun _ hC H=>z80 hC,zU (by kernel_rfl),zl6⟩
theorem zl4:zl Tryz.prog L89:=⟨fun _ hC H=>z3o hC (zk H 64 rfl),zU (by kernel_rfl),zl5⟩
theorem zl3:zl Tryz.prog L90:=⟨fun _ hC H=>z5R hC (zk H 70 rfl),zU (by kernel_rfl),zl4⟩
theorem zl2:zl Tryz.prog L91:=⟨fun _ hC H=>z5S hC (zk H 1 rfl) (zk H 34 rfl) (zk H 0 rfl),zU (by kernel_rfl),zl3⟩
theorem zl1:zl Tryz.prog L92:=⟨fun _ hC H=>z13 hC (zk H 0 rfl),zU (by kernel_rfl),zl2⟩
theorem zl0:zl Tryz.prog L93:=⟨fun _ hC H=>Ky hC (zk H 54 rfl),zU (by kernel_rfl),zl1⟩
theorem zkZ:zl Tryz.prog L94:=⟨fun _ hC H=>ZI hC (zk H 0 rfl),zU (by kernel_rfl),zl0⟩
theorem zkY:zl Tryz.prog L95:=⟨fun _ hC H=>z15 hC (zk H 0 rfl),zU (by kernel_rfl),zkZ⟩
theorem zkX:zl Tryz.prog L96:=⟨fun _ hC H=>z14 hC (zk H 52 rfl) (zk H 3 rfl) (zk H 0 rfl),zU (by kernel_rfl),zkY⟩
theorem zkW:zl Tryz.prog L97:=⟨fun _ hC H=>Qa hC,zU (by kernel_rfl),zkX⟩
theorem zkV:zl Tryz.prog L98:=⟨fun _ hC H=>Jr hC (zk H 0 rfl),zU (by kernel_rfl),zkW⟩
theorem zkU:zl Tryz.prog L99:=⟨fun _ hC H=>WS hC,zU (by kernel_rfl),zkV⟩
theorem ziy:zl Tryz.prog zpa:=⟨fun _ hC H=>Uu hC (zk H 0 rfl),zU (by kernel_rfl),zkU⟩
theorem zix:zl Tryz.prog zp9:=⟨fun _ hC H=>z5X hC (zk H 0 rfl),zU (by kernel_rfl),ziy⟩
theorem ziw:zl Tryz.prog zp8:=⟨fun _ hC H=>z4j hC (zk H 31 rfl) (zk H 5 rfl) (zk H 3 rfl) (zk H 0 rfl),zU (by kernel_rfl),zix⟩
theorem ziv:zl Tryz.prog zp7:=⟨fun _ hC H=>z6O hC (zk H 39 rfl),zU (by kernel_rfl),ziw⟩
theorem ziu:zl Tryz.prog zp6:=⟨fun _ hC H=>z6P hC (zk H 46 rfl) (zk H 0 rfl) (zk H 37 rfl),zU (by kernel_rfl),ziv⟩
theorem zit:zl Tryz.prog zp5:=⟨fun _ hC H=>z5V hC (zk H 62 rfl) (zk H 0 rfl),zU (by kernel_rfl),ziu⟩
theorem zis:zl Tryz.prog zp4:=⟨fun _ hC H=>z5Y hC (zk H 0 rfl) (zk H 13 rfl) (zk H 62 rfl) (zk H 10 rfl),zU (by kernel_rfl),zit⟩
theorem zir:zl Tryz.prog zp3:=⟨fun _ hC H=>z16 hC (zk H 1 rfl) (zk H 14 rfl),zU (by kernel_rfl),zis⟩
theorem ziq:zl Tryz.prog zp2:=⟨fun _ hC H=>z03 hC,zU (by kernel_rfl),zir⟩
theorem zio:zl Tryz.prog zp1:=⟨fun _ hC H=>z2c hC (zk H 3 rfl) (zk H 0 rfl) (zk H 16 rfl) (zk H 13 rfl) (zk H 59 rfl),zU (by kernel_rfl),ziq⟩
theorem zin:zl Tryz.prog zp0:=⟨fun _ hC H=>z81 hC (zk H 27 rfl),zU (by kernel_rfl),zio⟩
theorem zim:zl Tryz.prog zoZ:=⟨fun _ hC H=>z6V hC (zk H 23 rfl) (zk H 22 rfl) (zk H 40 rfl) (zk H 25 rfl) (zk H 8 rfl) (zk H 27 rfl) (zk H 4 rfl) (zk H 3 rfl) (zk H 1 rfl) (zk H 0 rfl),zU (by kernel_rfl),zin⟩
theorem zil:zl Tryz.prog zq1:=⟨fun _ hC H=>z2b hC (zk H 93 rfl) (zk H 41 rfl) (zk H 30 rfl) (zk H 28 rfl) (zk H 26 rfl) (zk H 25 rfl) (zk H 32 rfl) (zk H 0 rfl),zU (by kernel_rfl),zim⟩
theorem zV {x:Int}(h1:-9223372036854775808<=x)(h2:x<=9223372036854775807):w64 x=x:=by
 simp only [w64,IntKind.wrap,IntKind.bits,IntKind.signed];simp;omega
section
variable {α β σ τ ρ:Type}
def Ret (x:Option α)(Q:α->Prop):Prop:=∃a,x=some a/\Q a
theorem Ret.mono {x:Option α}{Q R:α->Prop}(h:Ret x Q)(q:∀a,Q a->R a):Ret x R:=by
 obtain⟨a,e,h⟩:=h;exact⟨a,e,q a h⟩
theorem Ret.eq {x:Option α}{a:α}(h:Ret x fun b=>b=a):x=some a:=by
 obtain⟨b,e,rfl⟩:=h;exact e
theorem ze {a:α}{Q:α->Prop}:Ret (some a) Q↔Q a:=⟨fun⟨b,e,q⟩=>by cases e;exact q,fun q=>⟨a,rfl,q⟩⟩
theorem zu {x:Option α}{f:α->Option β}{Q:β->Prop}:Ret (Option.bind x f) Q↔Ret x fun a=>Ret (f a) Q:=by
 cases x with
 | none=>exact⟨fun⟨b,e,_⟩=>(by cases e),fun⟨b,e,_⟩=>(by cases e)⟩
 | some a=>exact⟨fun h=>⟨a,rfl,h⟩,fun⟨b,e,h⟩=>by cases e;exact h⟩
theorem XE {p:Prop}[Decidable p]{x:Option α}{Q:α->Prop}:Ret (gd p x) Q↔p/\Ret x Q:=by
 unfold gd;by_cases h:p
 ·rw [if_pos h];exact⟨fun q=>⟨h,q⟩,fun q=>q.2⟩
 ·rw [if_neg h];exact⟨fun⟨b,e,_⟩=>by(cases e),fun q=>(h q.1).elim⟩
theorem zz {c:Bool}{x y:Option α}{Q:α->Prop}:Ret (bif c then x else y) Q↔(c=true->Ret x Q)/\(c=false->Ret y Q):=by
 cases c <;> simp
theorem z9w {l:List α}{i:Int}{Q:α->Prop}:Ret (idx l i) Q↔0<=i/\∃x,l[i.toNat]?=some x/\Q x:=by
 cases i with
 | ofNat n=>
  show(∃a,l[n]?=some a/\Q a)↔_
  simp
 | negSucc n=>exact⟨fun⟨b,e,_⟩=>by(cases e),fun⟨h,_⟩=>by omega⟩
theorem zQ (l:List α)(i:Nat):idx l (i:Int)=l[i]?:=rfl
theorem gdT {p:Prop}[Decidable p]{x:Option α}(h:p):gd p x=x:=by unfold gd;rw [if_pos h]
theorem bdT {x:Option α}{u:α}{f:α->Option ρ}(h:x=some u):Option.bind x f=f u:=by rw [h];rfl
theorem Ko (step:σ->Option (LR σ τ))(n:Nat)(s:σ):z1k step (n+1) s=(match step s with|none=>none|some (.next s')=>z1k step n s'|some (.done t)=>some t):=rfl
def LRP (N:σ->Prop)(D:τ->Prop):LR σ τ->Prop
 | .next s=>N s
 | .done t=>D t
theorem zR {step:σ->Option (LR σ τ)}(I:σ->Prop)(m:σ->Nat){R:τ->Prop}{s:σ}(hs:I s)(hm:m s<18446744073709551616)
  (h:∀s,I s->Ret (step s) (LRP (fun s'=>I s'/\m s' < m s) R)):Ret (loop step s) R:=by
 have gen:∀(n:Nat) (s:σ),I s->m s<n->Ret (z1k step n s) R:=by
  intro n
  induction n with
  | zero=>intro s _ h;omega
  | succ n ih=>
   intro s hs hm;obtain⟨a,e,q⟩:=h s hs;rw [Ko,e];cases a with
   | next s'=>exact ih s' q.1 (by have:=q.2;omega)
   | done t=>exact⟨t,rfl,q⟩
 exact gen fuel s hs hm
theorem Ul {step:σ->Option (LR σ τ)}(st:Nat->σ)(n:Nat){t:τ}(hn:n<9223372036854775808)(h:∀i,i<n->step (st i)=some (.next (st (i+1))))(hd:step (st n)=some (.done t)):loop step (st 0)=some t:=by
 have gen:∀(k:Nat) (i:Nat),i<=n->n - i<k->z1k step k (st i)=some t:=by
  intro k
  induction k with
  | zero=>intro i _ h;omega
  | succ k ih=>
   intro i hi hk;rw [Ko];rcases Nat.lt_or_ge i n with q|q
   ·rw [h i q]
    exact ih (i+1) q (by omega)
   ·have : i = n := by omega
    subst this;rw [hd]
 exact gen fuel 0 (Nat.zero_le _) (by show n - 0<18446744073709551616;omega)
def xD (f:Nat->α->Option ρ):List α->Nat->Option ρ
 | [],_=>none
 | x::l,i=>match f i x with|some r=>some r|none=>xD f l (i+1)
theorem Qy {f:Nat->α->Option ρ}:∀{l:List α}{k:Nat},(∀i x,l[i]?=some x->f (k+i) x=none)->xD f l k=none
 | [],_,_=>rfl
 | x::l,k,h=>by
  have h0:=h 0 x rfl;simp only [Nat.add_zero]at h0;simp only [xD,h0];exact Qy fun i y hy=>by have:=h (i+1) y (by simpa using hy);rwa [show k+1+i=k+(i+1) by omega]
theorem k7 {f:Nat->α->Option ρ}{r:ρ}:∀{l:List α}{k:Nat},xD f l k=some r->∃i x,l[i]?=some x/\f (k+i) x=some r
 | [],_,h=>by cases h
 | x::l,k,h=>by
  simp only [xD]at h;cases hf:f k x with
  | some r'=>rw [hf]at h;exact⟨0,x,rfl,by rw [Nat.add_zero,hf];exact h⟩
  | none=>
   rw [hf]at h;obtain⟨i,y,h1,h2⟩:=k7 h;exact⟨i+1,y,by simpa using h1,by rw [<-h2];congr 1;omega⟩
theorem kU {f:Nat->α->Option ρ}{l:List α}{k:Nat}(h:xD f l k=none):∀i x,l[i]?=some x->f (k+i) x=none:=by
 induction l generalizing k with
 | nil=>intro i x h;simp at h
 | cons y l ih=>
  intro i x hx;simp only [xD]at h;cases hf:f k y with
  | some r'=>rw [hf]at h;cases h
  | none=>
   rw [hf]at h;cases i with
   | zero=>simp at hx;subst hx;simpa using hf
   | succ i=>have:=ih h i x (by simpa using hx);rwa [show k+(i+1)=k+1+i by omega]
def oS:Option ρ->Unit⊕ρ
 | some r=>.inr r
 | none=>.inl ()
def nS (i:Nat):Option ρ->LR Int (Unit⊕ρ)
 | some r=>.done (.inr r)
 | none=>.next (w64 ((i:Int)+1))
theorem vO (l:List α)(hl:l.length<4611686018427387904){step:Int->Option (LR Int (Unit⊕ρ))}(f:Nat->α->Option ρ)
  (h:∀(i:Nat) (x:α),l[i]?=some x->step (i:Int)=some (nS i (f i x))) (h2:step (l.length:Int)=some (.done (.inl ()))) :
  loop step 0=some (oS (xD f l 0)):=by
 have gen:∀(n:Nat) (k:Nat),k<=l.length->l.length - k<n->z1k step n (k:Int)=some (oS (xD f (l.drop k) k)):=by
  intro n
  induction n with
  | zero=>intro k _ h;omega
  | succ n ih=>
   intro k hk hn;rw [Ko];rcases Nat.lt_or_ge k l.length with hlt|hge
   ·have hx : l[k]? = some l[k] := List.getElem?_eq_getElem hlt
    rw [h k _ hx,List.drop_eq_getElem_cons hlt];simp only [xD];cases hf:f k l[k] with
    | some r=>rfl
    | none=>
     simp only [nS];rw [zV (by omega) (by omega)]
     exact ih (k+1) hlt (by omega)
   ·have : k = l.length := by omega
    subst this;rw [h2,List.drop_length];rfl
 exact gen fuel 0 (Nat.zero_le _) (by show l.length - 0<18446744073709551616;omega)
end
def z9M (m:z6)(x:z8):Bool:=(x.To == -1&&x.Out == -1) ||(decide (0<=x.To)&&decide (x.To<(m.Rows.length:Int))&&decide (0<=x.Out)&&decide (x.Out<m.Outputs))
def zba (m:z6)(r:List z8):Bool:=decide ((r.length:Int)=m.Inputs)&&r.all (z9M m)
def chk (m:z6):Int :=
 if m.Inputs > 16\/m.Outputs > 16\/(m.Rows.length:Int) > 64 then 3 else if m.Inputs<1\/m.Outputs<1\/m.Rows.length=0 then 1 else if m.Rows.all (zba m)=true then 0 else 1
theorem zhT (m:z6)(x:z8):Yz m x=some (z9M m x):=by
 unfold Yz uT;simp only [Option.bind_some,Bool.and_true];rcases Bool.eq_false_or_eq_true (x.To==(-1)&&x.Out==(-1)) with h|h
 ·simp [z9M,h]
 ·rw [h]
  simp only [z9M,h,Bool.false_or,cond_false];by_cases h1:(0:Int)<=x.To
  ·by_cases h2 : x.To < (m.Rows.length : Int)
   ·by_cases h3 : (0 : Int) ≤ x.Out
    ·simp [Bool.cond_eq_ite,h1,h2,h3]
    ·simp [Bool.cond_eq_ite,h1,h2,h3]
   ·simp [Bool.cond_eq_ite,h1,h2]
  ·simp [h1]
theorem z9T (m:z6)(r:List z8)(hl:r.length<4611686018427387904):zY r m=some (!r.all (z9M m)):=by
 have hloop:loop (fun s=>zP r m s) 0=some (oS (xD (fun i x=>if z9M m x=true then none else some (i:Int)) r 0)):=by
  refine vO r hl _ ?_ ?_
  ·intro i x hx
   have hi:=(List.getElem?_eq_some_iff.1 hx).1;unfold zP;have hd:decide ((i:Int)<((r.length:Nat):Int))=true:=by simpa using hi
   rw [hd,cond_true,zQ,bdT hx];unfold ZD;simp only [zhT,Option.bind_some];cases z9M m x <;> rfl
  ·unfold zP
   simp
 unfold zY yn;rw [hloop];simp only [Option.bind_some];cases hf:xD (fun i x=>if z9M m x=true then none else some (i:Int)) r 0 with
 | some q=>
  obtain⟨i,x,h1,h2⟩:=k7 hf;have hx:z9M m x≠true:=by
   intro h;rw [if_pos h]at h2;cases h2
  rw [if_neg hx]at h2;simp only [Option.some.injEq]at h2;have:r.all (z9M m)=false:=by
   rw [List.all_eq_false];exact⟨x,List.mem_of_getElem? h1,hx⟩
  rw [this];have:(q:Int)>=0:=by rw [<-h2];omega
  show some (decide (q>=0))=_
  simp [this]
 | none=>
  have:r.all (z9M m)=true:=by
   rw [List.all_eq_true];intro x hx;obtain⟨i,hi⟩:=List.getElem?_of_mem hx;have:=kU hf i x hi;by_cases h:z9M m x=true
   ·exact h
   ·rw [if_neg h]at this;cases this
  rw [this];rfl
theorem zbp {m:z6}(h0:(m.Rows.length:Int)<=64)(h1:m.Inputs<=16):loop (fun s=>wT m s) 0=some (oS (xD (fun _ r=>if zba m r=true then none else some (1:Int)) m.Rows 0)):=by
 refine vO m.Rows (by omega) _ ?_ ?_
 ·intro i r hr
  have hi:=(List.getElem?_eq_some_iff.1 hr).1;unfold wT;have hd:decide ((i:Int)<((m.Rows.length:Nat):Int))=true:=by simpa using hi
  rw [hd,cond_true,zQ,bdT hr];by_cases hlen:(r.length:Int)=m.Inputs
  ·have hne : (((r.length : Nat) : Int) != m.Inputs) = false := by simpa using hlen
   rw [hne,cond_false,bdT (z9T m r (by omega))]
   have:zba m r=r.all (z9M m):=by simp [zba,hlen]
   rw [this];cases r.all (z9M m) <;> rfl
  ·have hne : (((r.length : Nat) : Int) != m.Inputs) = true := by simpa using hlen
   rw [hne,cond_true];have:zba m r=false:=by simp [zba,hlen]
   rw [this];rfl
 ·unfold wT
  simp
theorem zb9 (m:z6):xD (fun _ r=>if zba m r=true then none else some (1:Int)) m.Rows 0=if m.Rows.all (zba m)=true then none else some 1:=by
 by_cases h:m.Rows.all (zba m)=true
 ·rw [if_pos h]
  refine Qy fun i r hr=>?_;rw [if_pos (List.all_eq_true.1 h r (List.mem_of_getElem? hr))]
 ·rw [if_neg h]
  cases hf:xD (fun _ r=>if zba m r=true then none else some (1:Int)) m.Rows 0 with
  | some q=>
   obtain⟨i,x,h1,h2⟩:=k7 hf;split at h2
   ·cases h2
   ·exact h2.symm ▸ rfl
  | none=>
   exfalso;apply h
   rw [List.all_eq_true];intro x hx;obtain⟨i,hi⟩:=List.getElem?_of_mem hx;have:=kU hf i x hi;by_cases h:zba m x=true
   ·exact h
   ·rw [if_neg h]at this;cases this
theorem z1q (m:z6):xF m=some (chk m):=by
 unfold xF chk;by_cases h1:m.Inputs > 16
 ·simp [h1]
 by_cases h2:m.Outputs > 16
 ·simp [Bool.cond_eq_ite,h1,h2]
 by_cases h3:(m.Rows.length:Int) > 64
 ·simp [Bool.cond_eq_ite,h1,h2,h3]
 rw [if_neg (by simp [Bool.cond_eq_ite,h1,h2,h3])]
 by_cases h4:m.Inputs<1
 ·simp [Bool.cond_eq_ite,h1,h2,h3,h4]
 by_cases h5:m.Outputs<1
 ·simp [Bool.cond_eq_ite,h1,h2,h3,h4,h5]
 by_cases h6:m.Rows.length=0
 ·simp [Bool.cond_eq_ite,h1,h2,h4,h5,h6]
 rw [if_neg (by simp [h4,h5,h6])]
 have h6':decide (((m.Rows.length:Nat):Int)<1)=false:=by simp;omega
 have e1:decide (m.Inputs > 16)=false:=by simpa using h1
 have e2:decide (m.Outputs > 16)=false:=by simpa using h2
 have e3:decide (((m.Rows.length:Nat):Int) > 64)=false:=by simpa using h3
 have e4:decide (m.Inputs<1)=false:=by simpa using h4
 have e5:decide (m.Outputs<1)=false:=by simpa using h5
 simp only [e1,e2,e3,e4,e5,h6',cond_false];rw [bdT (zbp (by omega) (by omega)),zb9]
 by_cases h:m.Rows.all (zba m)=true
 ·rw [if_pos h,if_pos h];rfl
 ·rw [if_neg h,if_neg h];rfl
structure VM (m:z6):Prop where
 in1:1<=m.Inputs
 in16:m.Inputs<=16
 out1:1<=m.Outputs
 out16:m.Outputs<=16
 len1:1<=m.Rows.length
 len64:m.Rows.length<=64
 row:∀r∈m.Rows,(r.length:Int)=m.Inputs
 edge:∀r∈m.Rows,∀x∈r,(x.To=-1/\x.Out=-1)\/(0<=x.To/\x.To<(m.Rows.length:Int)/\0<=x.Out/\x.Out<m.Outputs)
theorem z96 {m:z6}(h:VM m):chk m=0:=by
 unfold chk;have:=h.in1;have:=h.in16;have:=h.out1;have:=h.out16;have:=h.len1;have:=h.len64;rw [if_neg (by omega),if_neg (by omega),if_pos]
 rw [List.all_eq_true];intro r hr;simp only [zba,Bool.and_eq_true,decide_eq_true_eq,List.all_eq_true];refine⟨h.row r hr,fun x hx=>?_⟩;simp only [z9M,Bool.or_eq_true,Bool.and_eq_true,beq_iff_eq,decide_eq_true_eq];rcases h.edge r hr x hx with⟨a,b⟩|⟨a,b,c,d⟩
 ·exact .inl ⟨a,b⟩
 ·exact .inr ⟨⟨⟨a,b⟩,c⟩,d⟩
def kk (m:z6):Nat:=m.Inputs.toNat
def E (m:z6)(s i:Nat):z8:=((m.Rows[s]?.getD [])[i]?).getD ⟨-1,-1⟩
section
variable {m:z6}(h:VM m)
include h
theorem VM.kk_eq:((kk m:Nat):Int)=m.Inputs:=by have:=h.in1;unfold kk;omega
theorem VM.kk_pos:1<=kk m:=by have:=h.in1;unfold kk;omega
theorem VM.kk_le:kk m<=16:=by have:=h.in16;unfold kk;omega
theorem VM.rowAt {s:Nat}(hs:s<m.Rows.length):∃r,m.Rows[s]?=some r/\r.length=kk m/\∀i,i<kk m->r[i]?=some (E m s i):=by
 have hr:=List.getElem?_eq_getElem hs;have hl:=h.row _ (List.getElem_mem hs);have hl':m.Rows[s].length=kk m:=by unfold kk;omega
 refine⟨_,hr,hl',fun i hi=>?_⟩;have hi':i<m.Rows[s].length:=by omega
 unfold E;rw [hr];simp only [Option.getD_some];rw [List.getElem?_eq_getElem hi'];rfl
theorem VM.edgeAt {s i:Nat}(hs:s<m.Rows.length)(hi:i<kk m):((E m s i).To=-1/\(E m s i).Out=-1)\/(0<=(E m s i).To/\(E m s i).To<(m.Rows.length:Int)/\0<=(E m s i).Out/\(E m s i).Out<m.Outputs):=by
 obtain⟨r,h1,_,h2⟩:=h.rowAt hs;exact h.edge r (List.mem_of_getElem? h1) _ (List.mem_of_getElem? (h2 i hi))
theorem VM.edge_eq {s i:Nat}(hs:s<m.Rows.length)(hi:i<kk m){β:Type}{f:z8->Option β} :
  (Option.bind (idx m.Rows (s:Int)) fun r=>Option.bind (idx r (i:Int)) f)=f (E m s i):=by
 obtain⟨r,h1,_,h2⟩:=h.rowAt hs;rw [zQ,h1,Option.bind_some,zQ,h2 i hi,Option.bind_some]
end
section
variable {K V:Type}[BEq K][LawfulBEq K]
theorem z3Z (l:List (K×V))(x y:K)(v:V):z37 (zbd l x v) y=if(x==y)=true then some v else z37 l y:=by
 induction l with
 | nil=>simp only [zbd,z37]
 | cons p l ih=>
  simp only [zbd];by_cases h:p.1=x
  ·rw [if_pos (by simpa using h)]
   simp only [z37];by_cases q:x=y
   ·rw [if_pos (by simpa using q),if_pos (by simpa using q)]
   ·rw [if_neg (by simpa using q),if_neg (by simpa using q),if_neg (by rw [h];simpa using q)]
  ·rw [if_neg (by simpa using h)]
   simp only [z37,ih];by_cases q:p.1=y
   ·have q' : ¬ x = y := by rintro rfl; exact h q
    have e1:(p.1==y)=true:=by simpa using q
    have e2:(x==y)=false:=by simpa using q'
    simp [e1,e2]
   ·have e1 : (p.1 == y) = false := by simpa using q
    simp [e1]
end
section
variable {S:Type}
def z1v (k:Nat)(bad:S->Nat->Bool)(nx:S->Nat->Option S):S->List Nat->Prop
 | _,[]=>False
 | p,[i]=>i<k/\bad p i=true
 | p,i::w=>i<k/\bad p i=false/\∃q,nx p i=some q/\z1v k bad nx q w
variable {k:Nat}{bad:S->Nat->Bool}{nx:S->Nat->Option S}{p0:S}
def zbq:List Nat->List Nat->Prop
 | [],_=>True
 | i::u,j::v=>i<j\/i=j/\zbq u v
 | _::_,[]=>False
theorem z4o:∀{w:List Nat}{p:S},z1v k bad nx p w->∀x∈w,x<k
 | [],_,h=>h.elim
 | [i],_,h=>by simpa using h.1
 | i::j::w,_,⟨hi,_,q,_,h⟩=>by
  intro x hx;rcases List.mem_cons.1 hx with rfl|hx
  ·exact hi
  ·exact z4o h x hx
def Mk (k:Nat)(bad:S->Nat->Bool)(nx:S->Nat->Option S):Nat->S->Prop
 | 0,_=>False
 | n+1,p=>Mk k bad nx n p\/∃i,i<k/\(bad p i=true\/∃q,nx p i=some q/\Mk k bad nx n q)
theorem Mk.mono {n m:Nat}{p:S}(h:Mk k bad nx n p)(hm:n<=m):Mk k bad nx m p:=by
 induction hm with
 | refl=>exact h
 | step _ ih=>exact .inl ih
theorem Mk.tell:∀{n:Nat}{p:S},Mk k bad nx n p->∃w,z1v k bad nx p w/\w.length<=n
 | 0,_,h=>h.elim
 | n+1,p,.inl h=>by
  obtain⟨w,h1,h2⟩:=Mk.tell h;exact⟨w,h1,by omega⟩
 | n+1,p,.inr ⟨i,hi,h⟩=>by
  by_cases hb:bad p i=true
  ·exact⟨[i],⟨hi,hb⟩,by simp⟩
  ·rcases h with h | ⟨q, hq, h⟩
   ·exact(hb h).elim
   ·obtain ⟨w, h1, h2⟩ := Mk.tell h
    refine⟨i::w,?_,by simp;omega⟩
    cases w with
    | nil=>exact h1.elim
    | cons j w=>exact⟨hi,by simpa using hb,q,hq,h1⟩
theorem Qc:∀{w:List Nat}{p:S},z1v k bad nx p w->Mk k bad nx w.length p
 | [],_,h=>h.elim
 | [i],p,h=>.inr ⟨i,h.1,.inl h.2⟩
 | i::j::w,p,⟨hi,hb,q,hn,h⟩=>.inr ⟨i,hi,.inr ⟨q,hn,Qc h⟩⟩
end
theorem Vj:∀(n:Nat) (l:List Nat),l.Nodup->(∀x∈l,x<n)->l.length<=n
 | 0,l,_,h=>by
  cases l with
  | nil=>simp
  | cons x l=>have:=h x (by simp);omega
 | n+1,l,hd,h=>by
  by_cases hm:n∈l
  ·have h1 := List.length_erase_of_mem hm
   have h2:=Vj n (l.erase n) (hd.erase n) fun x hx=>by
    have h3:=(hd.mem_erase_iff).1 hx;have:=h x h3.2;have:=h3.1;omega
   have:0<l.length:=List.length_pos_of_mem hm;omega
  ·have:=Vj n l hd fun x hx=>by
    have:=h x hx;have:x≠n:=fun e=>hm (e ▸ hx);omega
   omega
def YT (a b:z6)(p:Nat×Nat)(i:Nat):Bool:=(E a p.1 i).Out !=(E b p.2 i).Out
def nxP (a b:z6)(p:Nat×Nat)(i:Nat):Option (Nat×Nat):=if 0<=(E a p.1 i).To/\0<=(E b p.2 i).To then some ((E a p.1 i).To.toNat,(E b p.2 i).To.toNat) else none
theorem z9D {a k:Int}(h0:0<=a)(hk:1<=k)(hk2:k<=1000000):1<=w64 (1+w64 (Int.tmod a k))/\w64 (1+w64 (Int.tmod a k))<=k:=by
 have h1:=Int.tmod_nonneg k h0;have h2:=Int.tmod_lt_of_pos a (show 0<k by omega)
 rw [zV (x:=Int.tmod a k) (by omega) (by omega),zV (by omega) (by omega)]
 omega
theorem z57 {α:Type}{p q:α->Bool}:∀{l:List α},(∀x∈l,p x=true->q x=true)->(∃x∈l,q x=true/\p x=false)->l.countP p<l.countP q
 | [],_,⟨x,hx,_⟩=>by cases hx
 | y::l,h,⟨x,hx,h1,h2⟩=>by
  have hm:l.countP p<=l.countP q:=List.countP_mono_left fun z hz=>h z (List.mem_cons_of_mem _ hz);simp only [List.countP_cons];rcases List.mem_cons.1 hx with rfl|hx
  ·simp only [h1, h2, if_true, Bool.false_eq_true, if_false]
   omega
  ·have := z57 (fun z hz => h z (List.mem_cons_of_mem _ hz)) ⟨x, hx, h1, h2⟩
   cases hp:p y with
   | true=>simp only [h y (by simp) hp,if_true];omega
   | false=>
    simp only [Bool.false_eq_true,if_false];split <;> omega
open Classical in
def zg5 (N:Nat)(R:Nat->Nat->Prop):Nat:=(List.range N).countP fun s=>decide (∀t,t<s->¬R s t)
theorem zpm {N:Nat}(hN:0<N)(R:Nat->Nat->Nat->Prop)(symm:∀k s t,s<N->t<N->R k s t->R k t s)(trans:∀k s t u,s<N->t<N->u<N->R k s t->R k t u->R k s u)
  (refl:∀k s,s<N->R k s s) (mono:∀k s t,s<N->t<N->R (k+1) s t->R k s t) (stat:∀k,(∀s t,s<N->t<N->R k s t->R (k+1) s t)->∀s t,s<N->t<N->R (k+1) s t->R (k+2) s t) :
  ∀s t,s<N->t<N->R (N - 1) s t->∀j,R j s t:=by
 classical
 have step:∀k,(¬∀s t,s<N->t<N->R k s t->R (k+1) s t)->zg5 N (R k)<zg5 N (R (k+1)):=by
  intro k hk;simp only [Classical.not_forall]at hk;obtain⟨s,t,hs,ht,h1,h2⟩:=hk;unfold zg5;refine z57 (fun x hx=>?_) ?_
  ·have hx := List.mem_range.1 hx
   simp only [decide_eq_true_eq];exact fun h t ht q=>h t ht (mono k x t hx (by omega) q)
  ·
   have hmin:∃z,z<N/\R k z s/\∀y,y<z->¬R k y s:=by
    have key:∀n,∀z,z<=n->z<N->R k z s->∃z,z<N/\R k z s/\∀y,y<z->¬R k y s:=by
     intro n
     induction n with
     | zero=>intro z hz hzN hr;exact⟨z,hzN,hr,fun y hy=>by omega⟩
     | succ n ih=>
      intro z hz hzN hr;by_cases q:∃y,y<z/\R k y s
      ·obtain ⟨y, y1, y2⟩ := q
       exact ih y (by omega) (by omega) y2
      ·exact⟨z,hzN,hr,fun y hy g=>q ⟨y,hy,g⟩⟩
    exact key s s (Nat.le_refl _) hs (refl k s hs)
   obtain⟨z,hz,hzs,hzm⟩:=hmin;have hzt:R k z t:=trans k z s t hz hs ht hzs h1;obtain⟨u,hu,hzu,hne⟩:∃u,u<N/\R k z u/\¬R (k+1) z u:=by
    by_cases q:R (k+1) z s
    ·by_cases g : R (k + 1) z t
     ·exact(h2 (trans (k+1) s z t hs hz ht (symm _ _ _ hz hs q) g)).elim
     ·exact⟨t,ht,hzt,g⟩
    ·exact⟨s,hs,hzs,q⟩
   have hmin:∃y,y<N/\R (k+1) y u/\∀x,x<y->¬R (k+1) x u:=by
    have key:∀n,∀z,z<=n->z<N->R (k+1) z u->∃z,z<N/\R (k+1) z u/\∀y,y<z->¬R (k+1) y u:=by
     intro n
     induction n with
     | zero=>intro z hz hzN hr;exact⟨z,hzN,hr,fun y hy=>by omega⟩
     | succ n ih=>
      intro z hz hzN hr;by_cases q:∃y,y<z/\R (k+1) y u
      ·obtain ⟨y, y1, y2⟩ := q
       exact ih y (by omega) (by omega) y2
      ·exact⟨z,hzN,hr,fun y hy g=>q ⟨y,hy,g⟩⟩
    exact key u u (Nat.le_refl _) hu (refl _ u hu)
   obtain⟨y,hy,hyu,hym⟩:=hmin;have hyk:R k y u:=mono k y u hy hu hyu;have hyz:R k y z:=trans k y u z hy hu hz hyk (symm _ _ _ hz hu hzu);have hzy:z<y:=by
    rcases Nat.lt_trichotomy z y with g|g|g
    ·exact g
    ·subst g;exact(hne hyu).elim
    ·exact(hzm y g (trans k y z s hy hz hs hyz hzs)).elim
   refine⟨y,List.mem_range.2 hy,?_,?_⟩
   ·simp only [decide_eq_true_eq]
    intro x hx q;exact hym x hx (trans (k+1) x y u (by omega) hy hu (symm _ _ _ hy (by omega) q) hyu)
   ·simp only [decide_eq_false_iff_not]
    intro q;exact q z hzy hyz
 have le:∀k,zg5 N (R k)<=N:=by
  intro k;unfold zg5;refine Nat.le_trans (List.countP_le_length) ?_;simp
 have one:∀k,1<=zg5 N (R k):=by
  intro k;unfold zg5;refine List.countP_pos_iff.2 ⟨0,List.mem_range.2 hN,?_⟩;simp
 have rest:∃k,k<N/\∀s t,s<N->t<N->R k s t->R (k+1) s t:=by
  refine Classical.byContradiction fun hno=>?_;have:∀k,k<=N->k+1<=zg5 N (R k):=by
   intro k
   induction k with
   | zero=>intro _;exact one 0
   | succ k ih=>
    intro hk;have:=step k fun h=>hno ⟨k,by omega,h⟩
    have:=ih (by omega)
    omega
  have:=this N (Nat.le_refl _);have:=le N;omega
 obtain⟨k,hk,hst⟩:=rest;have up:∀d,∀s t,s<N->t<N->R (k+d) s t->R (k+d+1) s t:=by
  intro d
  induction d with
  | zero=>exact hst
  | succ d ih=>exact stat (k+d) ih
 have down:∀d j s t,s<N->t<N->R (j+d) s t->R j s t:=by
  intro d
  induction d with
  | zero=>intro j s t _ _ h;exact h
  | succ d ih=>intro j s t hs ht h;exact ih j s t hs ht (mono _ s t hs ht h)
 intro s t hs ht h j;have hk':R k s t:=down (N - 1 - k) k s t hs ht (by rw [show k+(N - 1 - k)=N - 1 by omega];exact h)
 have far:∀d,R (k+d) s t:=by
  intro d
  induction d with
  | zero=>exact hk'
  | succ d ih=>exact up d s t hs ht ih
 exact down k j s t hs ht (by rw [Nat.add_comm];exact far j)
section
variable {S S':Type}{k:Nat}{bad:S->Nat->Bool}{nx:S->Nat->Option S}{bad':S'->Nat->Bool}{nx':S'->Nat->Option S'}(φ:S->S')(I:S->Prop)
 (hI:∀p i q,I p->i<k->nx p i=some q->I q) (hb:∀p i,I p->i<k->bad' (φ p) i=bad p i) (hn:∀p i,I p->i<k->nx' (φ p) i=(nx p i).map φ)
include hI hb hn
end
structure WM (m:z6):Prop where
 in1:1<=m.Inputs
 in16:m.Inputs<=16
 len1:1<=m.Rows.length
 len:m.Rows.length<=128
 row:∀r∈m.Rows,(r.length:Int)=m.Inputs
 edge:∀r∈m.Rows,∀x∈r,(x.To=-1/\x.Out=-1)\/(0<=x.To/\x.To<(m.Rows.length:Int)/\0<=x.Out)
theorem VM.wm {m:z6}(h:VM m):WM m:=⟨h.in1,h.in16,h.len1,by have:=h.len64;omega,h.row,fun r hr x hx=>by
 rcases h.edge r hr x hx with g|⟨g1,g2,g3,_⟩
 ·exact .inl g
 ·exact .inr ⟨g1,g2,g3⟩⟩
section
variable {m:z6}(h:WM m)
include h
theorem WM.kk_eq:((kk m:Nat):Int)=m.Inputs:=by have:=h.in1;unfold kk;omega
theorem WM.kk_le:kk m<=16:=by have:=h.in16;unfold kk;omega
theorem WM.rowAt {s:Nat}(hs:s<m.Rows.length):∃r,m.Rows[s]?=some r/\r.length=kk m/\∀i,i<kk m->r[i]?=some (E m s i):=by
 have hr:=List.getElem?_eq_getElem hs;have hl:=h.row _ (List.getElem_mem hs);have hl':m.Rows[s].length=kk m:=by unfold kk;omega
 refine⟨_,hr,hl',fun i hi=>?_⟩;have hi':i<m.Rows[s].length:=by omega
 unfold E;rw [hr];simp only [Option.getD_some];rw [List.getElem?_eq_getElem hi'];rfl
theorem WM.edgeAt {s i:Nat}(hs:s<m.Rows.length)(hi:i<kk m):((E m s i).To=-1/\(E m s i).Out=-1)\/(0<=(E m s i).To/\(E m s i).To<(m.Rows.length:Int)/\0<=(E m s i).Out):=by
 obtain⟨r,h1,_,h2⟩:=h.rowAt hs;exact h.edge r (List.mem_of_getElem? h1) _ (List.mem_of_getElem? (h2 i hi))
theorem WM.edge_eq {s i:Nat}(hs:s<m.Rows.length)(hi:i<kk m){β:Type}{f:z8->Option β} :
  (Option.bind (idx m.Rows (s:Int)) fun r=>Option.bind (idx r (i:Int)) f)=f (E m s i):=by
 obtain⟨r,h1,_,h2⟩:=h.rowAt hs;rw [zQ,h1,Option.bind_some,zQ,h2 i hi,Option.bind_some]
theorem WM.nx_in {p:Nat×Nat}{i:Nat}{q:Nat×Nat}(h1:p.1<m.Rows.length)(h2:p.2<m.Rows.length)(hi:i<kk m)(hq:nxP m m p i=some q):q.1<m.Rows.length/\q.2<m.Rows.length:=by
 unfold nxP at hq;split at hq
 ·rename_i hc
  cases hq;have a:=h.edgeAt h1 hi;have b:=h.edgeAt h2 hi;simp only;omega
 ·cases hq
end
def mkb (k:Nat)(bad:Nat×Nat->Nat->Bool)(nx:Nat×Nat->Nat->Option (Nat×Nat)):Nat->Nat×Nat->Bool
 | 0,_=>false
 | n+1,p=>mkb k bad nx n p ||(List.range k).any fun i=>bad p i ||(match nx p i with|some q=>mkb k bad nx n q|none=>false)
theorem z7l (k:Nat)(bad:Nat×Nat->Nat->Bool)(nx:Nat×Nat->Nat->Option (Nat×Nat)):∀(n:Nat) (p:Nat×Nat),mkb k bad nx n p=true↔Mk k bad nx n p
 | 0,p=>by simp [mkb,Mk]
 | n+1,p=>by
  simp only [mkb,Mk,Bool.or_eq_true,List.any_eq_true,List.mem_range,z7l k bad nx n p];constructor
  ·rintro (h | ⟨i, hi, h | h⟩)
   ·exact .inl h
   ·exact .inr ⟨i,hi,.inl h⟩
   ·cases hq : nx p i with
    | none=>rw [hq]at h;cases h
    | some q=>rw [hq]at h;exact .inr ⟨i,hi,.inr ⟨q,hq,(z7l k bad nx n q).1 h⟩⟩
  ·rintro (h | ⟨i, hi, h | ⟨q, hq, h⟩⟩)
   ·exact .inl h
   ·exact .inr ⟨i,hi,.inl h⟩
   ·exact .inr ⟨i,hi,.inr (by rw [hq];exact(z7l k bad nx n q).2 h)⟩
def tab (N:Nat)(f:Nat->Nat->Bool):List (List Bool):=(List.range N).map fun s=>(List.range N).map fun t=>f s t
theorem zbI {N s t:Nat}(f:Nat->Nat->Bool)(hs:s<N)(ht:t<N){β:Type}{g:Bool->Option β}:(Option.bind (idx (tab N f) (s:Int)) fun r=>Option.bind (idx r (t:Int)) g)=g (f s t):=by
 have e1:(tab N f)[s]?=some ((List.range N).map fun t=>f s t):=by simp [tab,hs]
 have e2:((List.range N).map fun t=>f s t)[t]?=some (f s t):=by simp [ht]
 rw [zQ,e1,Option.bind_some,zQ,e2,Option.bind_some]
theorem zbX {α:Type}(N t:Nat)(g:Nat->α)(v:α):((List.range N).map g).set t v=(List.range N).map fun x=>if x=t then v else g x:=by
 refine List.ext_getElem (by simp) fun n h1 h2=>?_
 simp only [List.getElem_set,List.getElem_map,List.getElem_range];by_cases e:t=n
 ·rw [if_pos e,if_pos e.symm]
 ·rw [if_neg e,if_neg (Ne.symm e)]
def z9l (m:z6)(f:Nat->Nat->Bool)(p:Nat×Nat)(i:Nat):Bool:=YT m m p i ||(match nxP m m p i with|some q=>f q.1 q.2|none=>false)
theorem zfO {m:z6}(h:WM m)(f:Nat->Nat->Bool){s t:Nat}(hs:s<m.Rows.length)(ht:t<m.Rows.length) :
  Ve m (tab m.Rows.length f) (s:Int) (t:Int)=some (if(List.range (kk m)).any (z9l m f (s,t))=true then 1 else 0):=by
 have hk:=h.kk_eq;have k16:=h.kk_le;have hl:loop (fun q=>qD m (tab m.Rows.length f) (s:Int) (t:Int) q) 0=some (oS (xD (fun _ i=>if z9l m f (s,t) i=true then some (1:Int) else none) (List.range (kk m)) 0)):=by
  refine vO (List.range (kk m)) (by simp;omega) _ ?_ ?_
  ·intro i x hx
   have hi:i<kk m:=by have:=(List.getElem?_eq_some_iff.1 hx).1;simpa using this
   have:x=i:=by rw [List.getElem?_range hi]at hx;exact(Option.some.inj hx).symm
   subst this;unfold qD qE;have hd:decide ((x:Int)<m.Inputs)=true:=by rw [<-hk];simpa using hi
   rw [hd,cond_true,h.edge_eq hs hi,h.edge_eq ht hi];have e1:=h.edgeAt hs hi;have e2:=h.edgeAt ht hi;by_cases hbad:(E m s x).Out=(E m t x).Out
   ·have n1 : ((E m s x).Out != (E m t x).Out) = false := by simpa using hbad
    rw [n1,cond_false];by_cases t1:(E m s x).To>=0
    ·by_cases t2 : (E m t x).To ≥ 0
     ·have hnx : nxP m m (s, t) x = some ((E m s x).To.toNat, (E m t x).To.toNat) := by unfold nxP; rw [if_pos ⟨t1, t2⟩]
      have hin:=h.nx_in hs ht hi hnx;have c1:(E m s x).To=(((E m s x).To.toNat:Nat):Int):=by omega
      have c2:(E m t x).To=(((E m t x).To.toNat:Nat):Int):=by omega
      have ht1:z9l m f (s,t) x=f (E m s x).To.toNat (E m t x).To.toNat:=by
       unfold z9l YT;rw [hnx];simp only [n1,Bool.false_or]
      rw [decide_eq_true t1,decide_eq_true t2];simp only [cond_true];have:=zbI f hin.1 hin.2 (g:=fun v=>bif v then some (LR.done (Sum.inr (1:Int)):LR Int (Unit⊕Int)) else some (LR.next (w64 ((x:Int)+1))))
      rw [<-c1,<-c2]at this;rw [this,ht1];cases f (E m s x).To.toNat (E m t x).To.toNat <;> rfl
     ·have ht1:z9l m f (s,t) x=false:=by
       unfold z9l YT nxP;rw [if_neg (by simp only;omega)]
       simp only [n1,Bool.false_or]
      rw [decide_eq_true t1,decide_eq_false t2,ht1];rfl
    ·have ht1:z9l m f (s,t) x=false:=by
      unfold z9l YT nxP;rw [if_neg (by simp only;omega)]
      simp only [n1,Bool.false_or]
     rw [decide_eq_false t1,ht1];rfl
   ·have n1 : ((E m s x).Out != (E m t x).Out) = true := by simpa using hbad
    have ht1:z9l m f (s,t) x=true:=by
     unfold z9l YT;simp only [n1,Bool.true_or]
    rw [n1,ht1];rfl
  ·unfold qD
   rw [List.length_range,hk];simp
 unfold Ve;rw [bdT hl];cases hf:xD (fun(_:Nat) i=>if z9l m f (s,t) i=true then some (1:Int) else none) (List.range (kk m)) 0 with
 | some q=>
  obtain⟨i,x,h1,h2⟩:=k7 hf;split at h2
  ·rename_i hx
   cases h2;have:(List.range (kk m)).any (z9l m f (s,t))=true:=List.any_eq_true.2 ⟨x,List.mem_of_getElem? h1,hx⟩;rw [if_pos this];rfl
  ·cases h2
 | none=>
  have:¬(List.range (kk m)).any (z9l m f (s,t))=true:=by
   rw [List.any_eq_true];rintro⟨x,hx,hx2⟩;obtain⟨i,hi⟩:=List.getElem?_of_mem hx;have:=kU hf i x hi;rw [if_pos hx2]at this;cases this
  rw [if_neg this];rfl
theorem zck (N:Nat):List.replicate ((N:Nat):Int).toNat false=(List.range N).map fun _=>false:=by
 refine List.ext_getElem (by simp) fun n h1 h2=>?_
 simp
def VN (m:z6)(f:Nat->Nat->Bool)(s t:Nat):Bool:=f s t ||(List.range (kk m)).any (z9l m f (s,t))
theorem zeJ {m:z6}(h:WM m)(f:Nat->Nat->Bool):loop (fun q=>vb m (tab m.Rows.length f) q.1 q.2) (([]:List (List Bool)),0)=some (tab m.Rows.length (VN m f)):=by
 have l128:=h.len;have row:∀(s:Nat),s<m.Rows.length->loop (fun q=>va m (tab m.Rows.length f) (s:Int) q.1 q.2) (((List.range s).map fun s=>(List.range m.Rows.length).map fun t=>VN m f s t)++[(List.range m.Rows.length).map fun _=>false],0)=some ((List.range (s+1)).map fun s=>(List.range m.Rows.length).map fun t=>VN m f s t):=by
  intro s hs;have hst:=Ul (step:=fun q=>va m (tab m.Rows.length f) (s:Int) q.1 q.2) (fun t:Nat=>(((List.range s).map fun s=>(List.range m.Rows.length).map fun t=>VN m f s t)++[(List.range m.Rows.length).map fun t'=>if t' < t then VN m f s t' else false],(t:Int))) m.Rows.length (t:=(List.range (s+1)).map fun s=>(List.range m.Rows.length).map fun t=>VN m f s t) (by omega) ?_ ?_
  ·simpa using hst
  ·intro t ht
   unfold va;have hd:decide ((t:Int)<((m.Rows.length:Nat):Int))=true:=by simpa using ht
   have hw:w64 ((t:Int)+1)=((t+1:Nat):Int):=by rw [zV (by omega) (by omega)];rfl
   simp only [hd,cond_true];have e1:(((List.range s).map fun s=>(List.range m.Rows.length).map fun t=>VN m f s t)++[(List.range m.Rows.length).map fun t'=>if t' < t then VN m f s t' else false])[s]?=some ((List.range m.Rows.length).map fun t'=>if t' < t then VN m f s t' else false):=by
    rw [List.getElem?_append_right (by simp)]
    simp
   have e2:∀x,((List.range m.Rows.length).map fun t'=>if t' < t then VN m f s t' else false)[t]?=some x↔x=false:=by
    intro x;simp [ht,eq_comm]
   have e2':=(e2 false).2 rfl;have fin:∀v:Bool,v=VN m f s t->(((List.range s).map fun s=>(List.range m.Rows.length).map fun t=>VN m f s t)++[(List.range m.Rows.length).map fun t'=>if t' < t then VN m f s t' else false]).set s (((List.range m.Rows.length).map fun t'=>if t' < t then VN m f s t' else false).set t v)=((List.range s).map fun s=>(List.range m.Rows.length).map fun t=>VN m f s t)++[(List.range m.Rows.length).map fun t'=>if t' < t+1 then VN m f s t' else false]:=by
    intro v hv;rw [List.set_append,if_neg (by simp),zbX]
    simp only [List.length_map,List.length_range,Nat.sub_self,List.set_cons_zero]
    congr 3
    funext x
    by_cases e:x=t
    ·subst e;rw [if_pos rfl,if_pos (by omega)];exact hv
    ·rw [if_neg e]
     by_cases g:x<t
     ·rw [if_pos g,if_pos (by omega)]
     ·rw [if_neg g,if_neg (by omega)]
   rw [zQ,bdT e1,zbI f hs ht];cases hf:f s t with
   | true=>
    simp only [cond_true];rw [zQ,bdT e2',hw,Int.toNat_natCast,Int.toNat_natCast,fin true (by simp [VN,hf])]
   | false=>
    simp only [cond_false];rw [bdT (zfO h f hs ht),zQ,bdT e2',hw,Int.toNat_natCast,Int.toNat_natCast,fin _ ?_];unfold VN;rw [hf,Bool.false_or];cases (List.range (kk m)).any (z9l m f (s,t)) <;> rfl
  ·unfold va
   simp only [Int.lt_irrefl,decide_false,cond_false]
   congr 3
   rw [List.range_succ,List.map_append]
   congr 1
   simp only [List.map_cons,List.map_nil]
   congr 1
   refine List.map_congr_left fun x hx=>?_;rw [if_pos (List.mem_range.1 hx)]
 have:=Ul (step:=fun q=>vb m (tab m.Rows.length f) q.1 q.2) (fun s:Nat=>((List.range s).map fun s=>(List.range m.Rows.length).map fun t=>VN m f s t,(s:Int))) m.Rows.length (t:=tab m.Rows.length (VN m f)) (by omega) ?_ ?_
 ·exact this
 ·intro s hs
  unfold vb Ym;have hd:decide ((s:Int)<((m.Rows.length:Nat):Int))=true:=by simpa using hs
  have hw:w64 ((s:Int)+1)=((s+1:Nat):Int):=by rw [zV (by omega) (by omega)];rfl
  simp only [hd,cond_true];rw [gdT (by omega),gdT (by simp;omega),zck,bdT (row s hs),hw]
 ·unfold vb
  simp only [Int.lt_irrefl,decide_false,cond_false];rfl
def mrk (m:z6)(n s t:Nat):Bool:=mkb (kk m) (YT m m) (nxP m m) n (s,t)
theorem zeV (m:z6)(n:Nat):VN m (mrk m n)=mrk m (n+1):=by
 funext s t
 unfold VN mrk;simp only [mkb]
 congr 1
theorem zcI {m:z6}(h:WM m)(n:Nat)(hn:n<=1000000):XK m (n:Int)=some (tab m.Rows.length (mrk m n)):=by
 have l128:=h.len;have l9:loop (fun q=>v8 m q.1 q.2) (([]:List (List Bool)),0)=some (tab m.Rows.length (mrk m 0)):=by
  have:=Ul (step:=fun q=>v8 m q.1 q.2) (fun s:Nat=>((List.range s).map fun _=>(List.range m.Rows.length).map fun _=>false,(s:Int))) m.Rows.length (t:=tab m.Rows.length (mrk m 0)) (by omega) ?_ ?_
  ·exact this
  ·intro s hs
   unfold v8;have hd:decide ((s:Int)<((m.Rows.length:Nat):Int))=true:=by simpa using hs
   have hw:w64 ((s:Int)+1)=((s+1:Nat):Int):=by rw [zV (by omega) (by omega)];rfl
   simp only [hd,cond_true];rw [gdT (by omega),gdT (by simp;omega),zck,hw,List.range_succ,List.map_append]
   rfl
  ·unfold v8
   simp only [Int.lt_irrefl,decide_false,cond_false];rfl
 have l3:=Ul (step:=fun q=>vd m (n:Int) q.1 q.2) (fun r:Nat=>(tab m.Rows.length (mrk m r),(r:Int))) n (t:=tab m.Rows.length (mrk m n)) (by omega) ?_ ?_
 ·unfold XK Yq Yp
  rw [bdT l9];have l3':loop (fun q=>vd m (n:Int) q.1 q.2) (tab m.Rows.length (mrk m 0),0)=some (tab m.Rows.length (mrk m n)):=l3;rw [bdT l3']
 ·intro r hr
  unfold vd Yn Yo;have hd:decide ((r:Int)<(n:Int))=true:=by simpa using hr
  have hw:w64 ((r:Int)+1)=((r+1:Nat):Int):=by rw [zV (by omega) (by omega)];rfl
  simp only [hd,cond_true];rw [bdT (zeJ h (mrk m r)),zeV,hw]
 ·unfold vd
  simp only [Int.lt_irrefl,decide_false,cond_false]
theorem z1i {m:z6}(h:WM m){s t:Nat}(hs:s<m.Rows.length)(ht:t<m.Rows.length){j:Nat}(hj:Mk (kk m) (YT m m) (nxP m m) j (s,t)):Mk (kk m) (YT m m) (nxP m m) (m.Rows.length - 1) (s,t):=by
 refine Classical.byContradiction fun hno=>?_;have same:∀{p:Nat×Nat}{i:Nat},p.1<m.Rows.length->p.2<m.Rows.length->i<kk m->YT m m p i=false->((E m p.1 i).To>=0↔(E m p.2 i).To>=0):=by
  intro p i h1 h2 hi hb;have e:(E m p.1 i).Out=(E m p.2 i).Out:=by simpa [YT] using hb
  have a:=h.edgeAt h1 hi;have b:=h.edgeAt h2 hi;omega
 have symm:∀k s t,Mk (kk m) (YT m m) (nxP m m) k (s,t)->Mk (kk m) (YT m m) (nxP m m) k (t,s):=by
  intro k
  induction k with
  | zero=>intro s t h;exact h
  | succ k ih=>
   rintro s t (h|⟨i,hi,h|⟨q,hq,h⟩⟩)
   ·exact .inl (ih _ _ h)
   ·exact .inr ⟨i,hi,.inl (by
     unfold YT at h ⊢;simp only [bne_iff_ne,ne_eq]at h ⊢;exact fun e=>h e.symm)⟩
   ·refine .inr ⟨i, hi, .inr ⟨(q.2, q.1), ?_, ih _ _ h⟩⟩
    unfold nxP at hq ⊢;split at hq
    ·rename_i hc
     cases hq;rw [if_pos ⟨hc.2,hc.1⟩]
    ·cases hq
 have trans:∀k s t u,s<m.Rows.length->t<m.Rows.length->u<m.Rows.length->Mk (kk m) (YT m m) (nxP m m) k (s,u)->Mk (kk m) (YT m m) (nxP m m) k (s,t)\/Mk (kk m) (YT m m) (nxP m m) k (t,u):=by
  intro k
  induction k with
  | zero=>intro s t u _ _ _ h;exact h.elim
  | succ k ih=>
   rintro s t u hs ht hu (g|⟨i,hi,g|⟨q,hq,g⟩⟩)
   ·rcases ih s t u hs ht hu g with g | g
    ·exact .inl (.inl g)
    ·exact .inr (.inl g)
   ·cases b1 : YT m m (s, t) i with
    | true=>exact .inl (.inr ⟨i,hi,.inl b1⟩)
    | false=>
     refine .inr (.inr ⟨i,hi,.inl ?_⟩);unfold YT at b1 g ⊢;simp only [bne_iff_ne,ne_eq,bne_eq_false_iff_eq]at b1 g ⊢;rw [<-b1];exact g
   ·cases b1 : YT m m (s, t) i with
    | true=>exact .inl (.inr ⟨i,hi,.inl b1⟩)
    | false=>
     cases b2:YT m m (t,u) i with
     | true=>exact .inr (.inr ⟨i,hi,.inl b2⟩)
     | false=>
      have c1:=same (p:=(s,t)) hs ht hi b1;have c2:=same (p:=(t,u)) ht hu hi b2;simp only at c1 c2;unfold nxP at hq;split at hq
      ·rename_i hc
       cases hq;simp only at hc g;have e1:=h.edgeAt hs hi;have e2:=h.edgeAt ht hi;have e3:=h.edgeAt hu hi;rcases ih (E m s i).To.toNat (E m t i).To.toNat (E m u i).To.toNat (by omega) (by omega) (by omega) g with g|g
       ·exact .inl (.inr ⟨i,hi,.inr ⟨_,by unfold nxP;rw [if_pos ⟨hc.1,by simp only;omega⟩],g⟩⟩)
       ·exact .inr (.inr ⟨i,hi,.inr ⟨_,by unfold nxP;rw [if_pos ⟨by simp only;omega,hc.2⟩],g⟩⟩)
      ·cases hq
 have refl:∀k s,¬Mk (kk m) (YT m m) (nxP m m) k (s,s):=by
  intro k
  induction k with
  | zero=>intro s h;exact h
  | succ k ih=>
   rintro s (g|⟨i,hi,g|⟨q,hq,g⟩⟩)
   ·exact ih s g
   ·simp [YT]at g
   ·unfold nxP at hq
    split at hq
    ·cases hq;exact ih _ g
    ·cases hq
 exact zpm (N:=m.Rows.length) h.len1 (fun k s t=>¬Mk (kk m) (YT m m) (nxP m m) k (s,t)) (fun k s t _ _ g q=>g (symm k t s q)) (fun k s t u hs ht hu g1 g2 q=>by
   rcases trans k s t u hs ht hu q with g|g
   ·exact g1 g
   ·exact g2 g) (fun k s _=>refl k s) (fun k s t _ _ g q=>g (.inl q)) (fun k hk s t hs ht g q=>by
   rcases q with q|⟨i,hi,q|⟨r,hr,q⟩⟩
   ·exact g q
   ·exact g (.inr ⟨i,hi,.inl q⟩)
   ·have hin := h.nx_in (p := (s, t)) hs ht hi hr
    have:Mk (kk m) (YT m m) (nxP m m) k r:=Classical.byContradiction fun c=>hk r.1 r.2 hin.1 hin.2 c q;exact g (.inr ⟨i,hi,.inr ⟨r,hr,this⟩⟩)) s t hs ht hno j hj
theorem zhk (s t:List Int)(hs:s.length<4611686018427387904)(ht:t.length<4611686018427387904):UU s t=some (decide (s=t)):=by
 unfold UU Wu;by_cases h1:s.length<t.length
 ·rw [decide_eq_true (show ((s.length : Nat) : Int) < ((t.length : Nat) : Int) by omega), cond_true, Option.bind_some]
  rw [decide_eq_false (fun e=>by rw [e]at h1;omega)]
  rfl
 by_cases h2:t.length<s.length
 ·rw [decide_eq_false (show ¬ ((s.length : Nat) : Int) < ((t.length : Nat) : Int) by omega), cond_false, decide_eq_true (show ((s.length : Nat) : Int) > ((t.length : Nat) : Int) by omega), cond_true, Option.bind_some]
  rw [decide_eq_false (fun e=>by rw [e]at h2;omega)]
  rfl
 rw [decide_eq_false (show ¬((s.length:Nat):Int)<((t.length:Nat):Int) by omega),cond_false,decide_eq_false (show ¬((s.length:Nat):Int) > ((t.length:Nat):Int) by omega),cond_false]
 have hlen:s.length=t.length:=by omega
 have hl:loop (fun q=>vA s t q) 0=some (oS (xD (fun i x=>match t[i]? with|none=>none|some y=>if x<y then some (-1) else if y<x then some (1:Int) else none) s 0)):=by
  refine vO s hs _ ?_ ?_
  ·intro i x hx
   have hi:=(List.getElem?_eq_some_iff.1 hx).1;have hit:i<t.length:=by omega
   have ht:=List.getElem?_eq_getElem hit;unfold vA;have hd:decide ((i:Int)<((s.length:Nat):Int))=true:=by simpa using hi
   rw [hd,cond_true];simp only [zQ,hx,ht,Option.bind_some];generalize t[i]=y;by_cases h1:x<y
   ·simp [Bool.cond_eq_ite,h1,nS]
   ·by_cases h2 : y < x
    ·simp [Bool.cond_eq_ite,h1,h2,nS]
    ·simp [Bool.cond_eq_ite,h1,h2,nS]
  ·unfold vA
   simp
 rw [hl,Option.bind_some];cases hf:xD (fun i x=>match t[i]? with|none=>none|some y=>if x<y then some (-1) else if y<x then some (1:Int) else none) s 0 with
 | some r=>
  obtain⟨i,x,h3,h4⟩:=k7 hf;have hne:s≠t:=by
   intro e;rw [Nat.zero_add,<-e,h3]at h4;simp at h4
  have hr:r≠0:=by
   rw [Nat.zero_add]at h4;cases ht:t[i]? with
   | none=>rw [ht]at h4;cases h4
   | some y=>
    rw [ht]at h4;simp only at h4;split at h4
    ·cases h4;decide
    ·split at h4
     ·cases h4;decide
     ·cases h4
  simp only [oS,Option.bind_some,decide_eq_false hne]
  congr 1
  simpa using hr
 | none=>
  have he:s=t:=by
   refine List.ext_getElem? fun n=>?_;rcases Nat.lt_or_ge n s.length with g|g
   ·have hx := List.getElem?_eq_getElem g
    have ht:=List.getElem?_eq_getElem (show n<t.length by omega)
    have:=kU hf n _ hx;rw [Nat.zero_add,ht]at this;simp only at this;rw [hx,ht];split at this
    ·cases this
    ·split at this
     ·cases this
     ·rename_i g1 g2
      congr 1
      omega
   ·rw [List.getElem?_eq_none_iff.2 g,List.getElem?_eq_none_iff.2 (by omega)]
  simp only [oS,ZB,Option.bind_some,decide_eq_true he];rfl
def nxE (m:z6)(s:Int)(i:Nat):z8:=if s<0 then⟨-1,-1⟩ else E m s.toNat i
def rsp (m:z6):Int->List Nat->List Int
 | _,[]=>[]
 | s,i::w=>(nxE m s i).Out::rsp m (nxE m s i).To w
def aft (m:z6):Int->List Nat->Int
 | s,[]=>s
 | s,i::w=>aft m (nxE m s i).To w
theorem z3V (m:z6):∀(w:List Nat) (s:Int) (i:Nat),rsp m s (w++[i])=rsp m s w++[(nxE m (aft m s w) i).Out]/\aft m s (w++[i])=(nxE m (aft m s w) i).To
 | [],s,i=>⟨rfl,rfl⟩
 | j::w,s,i=>by
  have:=z3V m w (nxE m s j).To i;simp only [List.cons_append,rsp,aft,this.1,this.2,and_self]
def z7P (m:z6)(s:Int):Prop:=-1<=s/\s<(m.Rows.length:Int)
theorem zmY {m:z6}(h:VM m){s:Int}(hs:z7P m s){i:Nat}(hi:i<kk m):z7P m (nxE m s i).To:=by
 unfold nxE;have:=h.len1;by_cases h0:s<0
 ·rw [if_pos h0]
  unfold z7P;simp only;omega
 ·rw [if_neg h0]
  have hl:s.toNat<m.Rows.length:=by have:=hs.2;omega
  have:=h.edgeAt hl hi;unfold z7P;omega
theorem zcE {m:z6}(h:VM m){s:Int}(hs:z7P m s){i:Nat}(hi:i<kk m):WP m s (i:Int)=some (nxE m s i)/\z7P m (nxE m s i).To:=by
 unfold WP nxE;have:=h.len1;by_cases h0:s<0
 ·rw [decide_eq_true h0, cond_true, if_pos h0]
  exact⟨rfl,by unfold z7P;simp only;omega⟩
 ·rw [decide_eq_false h0, cond_false, if_neg h0]
  have hl:s.toNat<m.Rows.length:=by have:=hs.2;omega
  have he:=h.edge_eq hl hi (f:=fun e=>some e);have hc:((s.toNat:Nat):Int)=s:=by omega
  rw [hc]at he;refine⟨he,?_⟩;have:=h.edgeAt hl hi;unfold z7P;omega
theorem zg3 {m:z6}(h:VM m){s:Int}(hs:z7P m s)(w:List Nat)(hw:∀i∈w,i<kk m)(hl:w.length<=100000):UT m s (w.map Int.ofNat)=some (rsp m s w):=by
 have hloop:loop (fun q=>XM m (w.map Int.ofNat) q.1 q.2.1 q.2.2) (s,([]:List Int),0)=some (rsp m s w):=by
  refine Ret.eq (zR (fun q=>∃k:Nat,q.2.2=(k:Int)/\k<=w.length/\z7P m q.1/\q.2.1.length=k/\q.2.1++rsp m q.1 (w.drop k)=rsp m s w) (fun q=>200000 - q.2.2.toNat) ⟨0,rfl,Nat.zero_le _,hs,rfl,rfl⟩ (by simp) ?_)
  rintro⟨s',out,k'⟩ ⟨k,hk,hkl,hst,hol,ho⟩;simp only at hk hst hol ho;subst hk;unfold XM;rw [zz];refine⟨fun hlt=>?_,fun hge=>?_⟩
  ·have hlt : k < w.length := by simpa using hlt
   have hx:(w.map Int.ofNat)[k]?=some ((w[k]:Nat):Int):=by simp [hlt]
   have hi:=hw _ (List.getElem_mem hlt);have hn:=zcE h hst hi;have hw1:w64 ((k:Int)+1)=((k+1:Nat):Int):=by rw [zV (by omega) (by omega)];rfl
   rw [zQ,bdT hx,bdT hn.1,gdT (by simp;omega),ze,hw1]
   refine⟨⟨k+1,rfl,hlt,hn.2,by simp [hol],?_⟩,by simp only;omega⟩
   rw [<-ho,List.drop_eq_getElem_cons hlt];simp [rsp]
  ·have : k = w.length := by simp at hge; omega
   subst this;rw [ze];rw [List.drop_length]at ho
   show out=rsp m s w
   simpa [rsp] using ho
 unfold UT Uj;rw [bdT hloop]
section
variable {N:Nat}{f:Nat->Nat->Bool}
structure zkS (N:Nat)(f:Nat->Nat->Bool)(out:List Int)(n:Int)(s:Nat):Prop where
 len:out.length=s
 sN:s<=N
 n0:0<=n
 nS:n<=(s:Int)
 lt:∀(i:Nat) (x:Int),out[i]?=some x->0<=x/\x<n
 cls:∀(i j:Nat),i<s->j<s->(out[i]?=out[j]?↔f i j=false)
theorem zeU (hN:N<=1000)(hr:∀s,s<N->f s s=false)(hs:∀s t,s<N->t<N->f s t=false->f t s=false)(ht:∀s t u,s<N->t<N->u<N->f s t=false->f t u=false->f s u=false) :
  Ret (jW (tab N f)) fun out=>out.length=N/\∀i j,i<N->j<N->(out[i]?=out[j]?↔f i j=false):=by
 have hl:(tab N f).length=N:=by simp [tab]
 unfold jW;rw [zu];refine Ret.mono (Q:=fun out=>out.length=N/\∀i j,i<N->j<N->(out[i]?=out[j]?↔f i j=false)) ?_ fun out h=>ze.2 h;refine zR (fun q=>zkS N f q.1 q.2.1 q.2.2.toNat/\0<=q.2.2) (fun q=>N - q.2.2.toNat) ⟨⟨rfl,Nat.zero_le _,Int.le_refl 0,Int.le_refl 0,fun i x h=>by simp at h,fun i j h=>by simp at h⟩,Int.le_refl 0⟩ (by show N - 0<_;omega) ?_
 rintro⟨out,n,s⟩ ⟨hI,h0⟩;obtain⟨s,rfl⟩:=Int.eq_ofNat_of_zero_le h0;simp only [Int.toNat_natCast]at hI ⊢;unfold qS;rw [zz];refine⟨fun hc=>?_,fun hc=>?_⟩
 ·rw [hl] at hc
  have hsN:s<N:=by simpa using hc
  rw [zu];have inner:Ret (loop (fun s_1=>vK (tab N f) out (s:Int) s_1.1 s_1.2) (-1,0)) fun b=>(b=-1/\∀t,t<s->f s t=true)\/∃t,t<s/\f s t=false/\out[t]?=some b:=by
   refine zR (fun q=>0<=q.2/\q.2<=(s:Int)/\((q.1=-1/\∀t:Nat,(t:Int)<q.2->f s t=true)\/∃t,t<s/\f s t=false/\out[t]?=some q.1)) (fun q=>s - q.2.toNat) ⟨by omega,by omega,.inl ⟨rfl,fun t ht=>by simp at ht;omega⟩⟩ (by show s - 0<_;omega) ?_
   rintro⟨b,t⟩ ⟨g0,g1,g2⟩;simp only at g0 g1 g2 ⊢;obtain⟨t,rfl⟩:=Int.eq_ofNat_of_zero_le g0;unfold vK vL;rw [zz];refine⟨fun hc=>?_,fun hc=>?_⟩
   ·have hts : t < s := by simpa using hc
    have hw:w64 ((t:Int)+1)=((t+1:Nat):Int):=by rw [zV (by omega) (by omega)];rfl
    rw [zbI f hsN (by omega),hw,zz]
    refine⟨fun hf=>?_,fun hf=>?_⟩
    ·rw [zu, z9w]
     have:∃x,out[t]?=some x:=⟨out[t]'(by rw [hI.len];exact hts),List.getElem?_eq_getElem _⟩
     obtain⟨x,hx⟩:=this;refine⟨by omega,x,by rw [Int.toNat_natCast];exact hx,ze.2 ⟨⟨by omega,by omega,.inr ⟨t,hts,by simpa using hf,hx⟩⟩,by simp only [Int.toNat_natCast];omega⟩⟩
    ·refine ze.2 ⟨⟨by omega, by omega, ?_⟩, by simp only [Int.toNat_natCast]; omega⟩
     rcases g2 with⟨e,g2⟩|g2
     ·refine .inl ⟨e, fun u hu => ?_⟩
      rcases Nat.lt_or_ge u t with q|q
      ·exact g2 u (by omega)
      ·have : u = t := by omega
       subst this;simpa using hf
     ·exact .inr g2
   ·have hts : ¬ t < s := by simpa using hc
    refine ze.2 ?_;rcases g2 with⟨e,g2⟩|g2
    ·exact .inl ⟨e,fun u hu=>g2 u (by omega)⟩
    ·exact .inr g2
  refine inner.mono fun b hb=>?_;have hw:w64 ((s:Int)+1)=((s+1:Nat):Int):=by rw [zV (by omega) (by omega)];rfl
  have hlen:=hI.len;have hnS:=hI.nS;have hn0:=hI.n0;have fin:∀(n' c:Int),0<=n'->n'<=((s+1:Nat):Int)->n<=n'->0<=c->c<n'->(∀t,t<s->(out[t]?=some c↔f s t=false)) ->
    Ret (wx out (s:Int) n' c) (LRP (fun s'=>(zkS N f s'.1 s'.2.1 s'.2.2.toNat/\0<=s'.2.2)/\N - s'.2.2.toNat<N - s) fun out=>out.length=N/\∀i j,i<N->j<N->(out[i]?=out[j]?↔f i j=false)):=by
   intro n' c a1 a2 a3 a4 a5 a6;unfold wx qV;rw [XE,hw];refine⟨by simp [hlen];omega,ze.2 ⟨⟨⟨by simp [hlen],by simp only [Int.toNat_natCast];omega,a1,by simp only [Int.toNat_natCast];exact a2,?_,?_⟩,Int.natCast_nonneg _⟩,by simp only [Int.toNat_natCast];omega⟩⟩
   ·intro i x hx
    rcases Nat.lt_or_ge i s with q|q
    ·rw [List.getElem?_append_left (by omega)] at hx
     have:=hI.lt i x hx;exact⟨this.1,by have:=this.2;simp only;omega⟩
    ·rw [List.getElem?_append_right (by omega)] at hx
     cases hh:i - out.length with
     | zero=>rw [hh]at hx;simp at hx;subst hx;exact⟨a4,a5⟩
     | succ k=>rw [hh]at hx;simp at hx
   ·intro i j hi hj
    simp only [Int.toNat_natCast]at hi hj;have at_:∀i,i<s->(out++[c])[i]?=out[i]?:=fun i h=>List.getElem?_append_left (by omega)
    have at_s:(out++[c])[s]?=some c:=by rw [<-hlen,List.getElem?_append_right (Nat.le_refl _)];simp
    rcases Nat.lt_or_ge i s with q|q <;> rcases Nat.lt_or_ge j s with q'|q'
    ·show (out ++ [c])[i]? = (out ++ [c])[j]? ↔ _
     rw [at_ i q,at_ j q'];exact hI.cls i j q q'
    ·have : j = s := by omega
     subst this
     show(out++[c])[i]?=(out++[c])[j]?↔_
     rw [at_ i q,at_s,a6 i q];exact⟨fun h=>hs _ _ (by omega) (by omega) h,fun h=>hs _ _ (by omega) (by omega) h⟩
    ·have : i = s := by omega
     subst this
     show(out++[c])[i]?=(out++[c])[j]?↔_
     rw [at_ j q',at_s,eq_comm,a6 j q']
    ·have e1 : i = s := by omega
     have e2:j=s:=by omega
     subst e1;subst e2;exact⟨fun _=>hr _ hsN,fun _=>rfl⟩
  unfold qU;rw [zz];rcases hb with⟨rfl,hb⟩|⟨t,ht1,ht2,ht3⟩
  ·refine ⟨fun _ => ?_, fun h => by simp at h⟩
   rw [zV (by omega) (by omega)]
   refine fin (n+1) n (by omega) (by omega) (by omega) hn0 (by omega) fun t hts=>?_
   rw [hb t hts];refine⟨fun h=>?_,fun h=>by cases h⟩
   have:=hI.lt t n h;omega
  ·have hb0 := hI.lt t b ht3
   refine⟨fun h=>by simp at h;omega,fun _=>fin n b hn0 (by omega) (by omega) hb0.1 hb0.2 fun u hu=>?_⟩
   rw [<-ht3,hI.cls u t hu ht1];exact⟨fun h=>ht _ _ _ (by omega) (by omega) (by omega) ht2 (hs _ _ (by omega) (by omega) h),fun h=>ht _ _ _ (by omega) (by omega) (by omega) (hs _ _ (by omega) (by omega) h) ht2⟩
 ·rw [hl] at hc
  have hsN:¬s<N:=by simpa using hc
  have:s=N:=by have:=hI.sN;omega
  subst this;exact ze.2 ⟨hI.len,hI.cls⟩
end
def SEq (m:z6)(s t:Nat):Prop:=∀w:List Nat,(∀i∈w,i<kk m)->rsp m (s:Int) w=rsp m (t:Int) w
theorem z9u (m:z6):∀(w:List Nat) (s:Int),s<0->rsp m s w=w.map fun _=>-1
 | [],_,_=>rfl
 | i::w,s,h=>by
  simp only [rsp,nxE,if_pos h,List.map_cons];rw [z9u m w (-1) (by omega)]
theorem Ze (m:z6)(s i:Nat):nxE m (s:Int) i=E m s i:=by
 unfold nxE;rw [if_neg (by omega),Int.toNat_natCast]
section
variable {m:z6}(h:WM m)
include h
theorem z9F:∀(n:Nat) (p:Nat×Nat),p.1<m.Rows.length->p.2<m.Rows.length->Mk (kk m) (YT m m) (nxP m m) n p->∃w:List Nat,(∀i∈w,i<kk m)/\rsp m (p.1:Int) w≠rsp m (p.2:Int) w
 | 0,p,_,_,q=>q.elim
 | n+1,p,h1,h2,q=>by
  rcases q with q|⟨i,hi,q|⟨r,hr,q⟩⟩
  ·exact z9F n p h1 h2 q
  ·refine ⟨[i], by simpa using hi, fun e => ?_⟩
   simp only [rsp,Ze,List.cons.injEq,and_true]at e;simp [YT,e]at q
  ·have hin := h.nx_in h1 h2 hi hr
   obtain⟨w,hw,hne⟩:=z9F n r hin.1 hin.2 q;refine⟨i::w,fun j hj=>by rcases List.mem_cons.1 hj with rfl|hj;exact hi;exact hw j hj,fun e=>hne ?_⟩
   simp only [rsp,Ze,List.cons.injEq]at e;unfold nxP at hr;split at hr
   ·rename_i hc
    cases hr;have e1:(((E m p.1 i).To.toNat:Nat):Int)=(E m p.1 i).To:=by omega
    have e2:(((E m p.2 i).To.toNat:Nat):Int)=(E m p.2 i).To:=by omega
    simp only [e1,e2];exact e.2
   ·cases hr
theorem zbA:∀(w:List Nat) (p:Nat×Nat),p.1<m.Rows.length->p.2<m.Rows.length->(∀i∈w,i<kk m)->rsp m (p.1:Int) w≠rsp m (p.2:Int) w->Mk (kk m) (YT m m) (nxP m m) w.length p
 | [],p,_,_,_,q=>(q rfl).elim
 | i::w,p,h1,h2,hw,q=>by
  have hi:=hw i (by simp)
  refine .inr ⟨i,hi,?_⟩;by_cases hb:YT m m p i=true
  ·exact .inl hb
  ·have he : (E m p.1 i).Out = (E m p.2 i).Out := by simpa [YT] using hb
   simp only [rsp,Ze,he,ne_eq,List.cons.injEq,true_and]at q;have a:=h.edgeAt h1 hi;have b:=h.edgeAt h2 hi;by_cases hc:0<=(E m p.1 i).To/\0<=(E m p.2 i).To
   ·have hr : nxP m m p i = some ((E m p.1 i).To.toNat, (E m p.2 i).To.toNat) := by unfold nxP; rw [if_pos hc]
    have hin:=h.nx_in h1 h2 hi hr;have e1:(((E m p.1 i).To.toNat:Nat):Int)=(E m p.1 i).To:=by omega
    have e2:(((E m p.2 i).To.toNat:Nat):Int)=(E m p.2 i).To:=by omega
    exact .inr ⟨_,hr,zbA w _ hin.1 hin.2 (fun j hj=>hw j (by simp [hj])) (by simpa only [e1,e2] using q)⟩
   ·exfalso
    refine q ?_;have e1:(E m p.1 i).To=-1:=by omega
    have e2:(E m p.2 i).To=-1:=by omega
    rw [e1,e2]
theorem z0f {s t:Nat}(hs:s<m.Rows.length)(ht:t<m.Rows.length):mrk m m.Rows.length s t=false↔SEq m s t:=by
 have e:mrk m m.Rows.length s t=true↔¬SEq m s t:=by
  unfold mrk;rw [z7l];constructor
  ·intro q g
   obtain⟨w,hw,hne⟩:=z9F h _ (s,t) hs ht q;exact hne (g w hw)
  ·intro q
   obtain⟨w,hw⟩:=Classical.not_forall.1 q;obtain⟨hw,hne⟩:=Classical.not_imp.1 hw;have:=z1i h hs ht (zbA h w (s,t) hs ht hw hne);exact this.mono (by omega)
 constructor
 ·intro q
  exact Classical.byContradiction fun g=>by rw [e.2 g]at q;cases q
 ·intro q
  cases hm:mrk m m.Rows.length s t with
  | false=>rfl
  | true=>exact(e.1 hm q).elim
theorem z5a:Ret (kJ m) fun l=>l.length=m.Rows.length/\∀s t,s<m.Rows.length->t<m.Rows.length->(l[s]?=l[t]?↔SEq m s t):=by
 have hl:=h.len;unfold kJ Ui;rw [zu,bdT (zcI h m.Rows.length (by omega)),zu]
 refine Ret.mono (zeU (by omega) (fun s hs=>(z0f h hs hs).2 fun w _=>rfl) (fun s t hs ht q=>(z0f h ht hs).2 fun w hw=>((z0f h hs ht).1 q w hw).symm) (fun s t u hs ht hu q r=>(z0f h hs hu).2 fun w hw=>((z0f h hs ht).1 q w hw).trans ((z0f h ht hu).1 r w hw))) ?_
 rintro l ⟨h1,h2⟩;exact ze.2 (ze.2 ⟨h1,fun s t hs ht=>(h2 s t hs ht).trans (z0f h hs ht)⟩)
end
end Go.Own
end
