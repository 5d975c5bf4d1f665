/- Walks, further. -/
import Derived.Test.YtedigoohmnbjfaaGreatPartG
import Derived.Test.YtedigoohmnbjfaaGreatPartC
import Derived.Test.YtedigoohmnbjfaaGreatPartF
noncomputable section
set_option linter.unusedVariables false
set_option linter.unusedSimpArgs false
namespace Go.Own
open Go.Proofs
set_option maxRecDepth 100000
set_option maxHeartbeats 8000000
def jF:Code:=(Tryz.f199.body).getD .skip
variable {σ:Type}
abbrev KN (x0:z6) (YY:σ → z3m) (x8:Int) (i8:σ):List (Nat × T):=[(0,.own (.opq (YY i8).q)),(1,.d (.sptr (zQ x0))),(7,.d (I ((x0.Rows.length:Nat):Int))),(8,.d (I x8))]
abbrev KL (x0:z6) (YY:σ → z3m) (x8:Int) (fk:σ) (t_:Int):List (Nat × T):=[(0,.own (.opq (YY fk).q)),(1,.d (.sptr (zQ x0))),(3,.d (I x8)),(4,.d (I t_)),(7,.d (I ((x0.Rows.length:Nat):Int))),(8,.d (I x8))]
abbrev KM (x0:z6) (YY:σ → z3m) (ct:σ) (x8:Int):List (Nat × T):=[(0,.own (.opq (YY ct).q)),(1,.d (.sptr (zQ x0))),(7,.d (I ((x0.Rows.length:Nat):Int))),(8,.d (I x8))]
variable {ctr:Ctr}
theorem z2A (hC:zB Tryz.prog ctr) (x0:z6):z8n Tryz.prog (.fn 199 [.sptr (.agg [I x0.Inputs,I x0.Outputs,eSl 1 false yQ x0.Rows])]) (fun (x:Int × Int) (_:Bool) (_:Value)=>[(eI .i64) x.1,(eI .i64) x.2]) (@YK x0):=by
 refine z4d (tt:=y9) (nt:=26) (body:=jF) zt Tryz.func199 rfl (by kernel_rfl) rfl rfl (by show (2:Nat) ≤ 26; decide) ?_
 intro σ yv YY yy hy sg r0 aa E hE
 unfold YK at aa
 obtain ⟨t1,ht1,aa⟩:=zf aa
 refine yL X0 hC jF [1,0] [] (fun s=>Yh x0 yy s.1 s.2) (fun x=>KM x0 YY x.1 x.2) (sg,0) ht1  [Ha (lnM yQ x0.Rows)] ?_
 rintro ⟨ct,x8⟩ m1 a8 ae hl1 J1 az
 try unfold Yh at ae
 rcases zL ae with ⟨c0,ae⟩ | ⟨c0,ae⟩
 ·refine yJ X0 hC jF [1,0,0,1,1] [J1] [0,1,7,8] (fun z:σ=>Yi x8 z=some a8) (fun z=>KN x0 YY x8 z) [(0,.own (.opq (YY ct).q)),(1,.d (.sptr (zQ x0))),(7,.d (I ((x0.Rows.length:Nat):Int))),(8,.d (I x8))] [Hq c0,Hh (.cut 0)] ?_ fun J2 a6=>?_
  ·rintro i8 ae
   unfold Yi at ae
   obtain rfl:=zb ae
   exact yB X0 hC az (i8,w64 (x8 + 1)) hl1 []
  ·obtain ⟨t3,ht3,ae⟩:=zf ae
   refine yL X0 hC jF [1,0,0,1,1,2,0,1,1,0] [J1,J2] (fun s=>Yg x0 yy x8 s.1 s.2) (fun x=>KL x0 YY x8 x.1 x.2) (ct,w64 (x8 + 1)) ht3  [] ?_
   rintro ⟨fk,t_⟩ m3 ez ai hl2 J3 bz
   try unfold Yg at ai
   let Z0:List HO:=[Ha (lnM yQ x0.Rows)]
   rcases zL ai with ⟨c1,ai⟩ | ⟨c1,ai⟩
   ·obtain ⟨yr,h0,ai⟩:=zf ai
    let Z1:List HO:=(Z0 ++ [Hq c1,Hn (z3E (yv:=yv) (Y:=YY) (enc:=(fun (x:Int × Int) (_:Bool) (_:Value)=>[(eI .i64) x.1,(eI .i64) x.2])) (s:=fk) (x:=(x8,t_)) (s':=yr.1) (b:=yr.2) (v:=.nilFunc) [(eI .i64) x8,(eI .i64) t_] (show z0s [(eI .i64) x8,(eI .i64) t_] [(eI .i64) x8,(eI .i64) t_] from inferInstance))])
    rcases zL ai with ⟨c2,ai⟩ | ⟨c2,ai⟩
    ·obtain rfl:=zb ai
     obtain rfl:=hl2
     obtain rfl:=zb ae
     obtain rfl:=hl1
     obtain rfl:=zb aa
     exact yF ((Jl (P:=Tryz.prog) y9 hy 23 (s:=fk) (x:=(x8,t_)) (s':=yr.1) (b:=yr.2) .nilFunc h0).or X0) hC .ret [(0,.own (.opq (YY yr.1).q))] (Z1 ++ [Hq c2]) fun st0 h0=>hE _ st0 (.inr rfl) h0
    ·obtain rfl:=zb ai
     exact yB ((Jl (P:=Tryz.prog) y9 hy 23 (s:=fk) (x:=(x8,t_)) (s':=yr.1) (b:=yr.2) .nilFunc h0).or X0) hC bz (yr.1,w64 (t_ + 1)) hl2 (Z1 ++ [Hq c2])
   ·obtain rfl:=zb ai
    obtain rfl:=hl2
    exact yB X0 hC a6 fk ae (Z0 ++ [Hq c1])
 ·obtain rfl:=zb ae
  obtain rfl:=hl1
  obtain rfl:=zb aa
  exact yF X0 hC .normal [(0,.own (.opq (YY ct).q))] [Hq c0] fun st0 h0=>hE _ st0 (.inl rfl) h0
def yK:zO:=spR (α:=List Int × Int) (ρ:=List Int) 202 (fun x:List Int × Int=>[F3_ x.1,(eI .i64) x.2]) (fun r:List Int=>F6_ r) (fun x:List Int × Int=>ww x.1 x.2) [] (QM)
theorem V5:∀ x r,(fun x:List Int × Int=>ww x.1 x.2) x=some r → (Kw.add yK).run 202 ((Kw.add yK).norm 202 ((fun x:List Int × Int=>[F3_ x.1,(eI .i64) x.2]) x))=some ((fun r:List Int=>F6_ r) r):=fun x r h=>zoK (F:=fun x:List Int × Int=>ww x.1 x.2) (x:=x) h rfl
theorem V7:(Kw.add yK).lend 202=none ∧ (Kw.add yK).gives 202=[]:=ziw
theorem Vz (hC:zB Tryz.prog ctr):yK.Ok Tryz.prog:=by
 refine zbj ?_
 rintro ⟨l,n⟩ r0 aa
 cases l with
 | cons a l=>cases aa
 | nil=>
  have h1:0 < n ∧ n ≤ 1000000:=by
   have h2:(decide (0 < n) && decide (n ≤ 1000000))=true:=by
    cases h:(decide (0 < n) && decide (n ≤ 1000000)) with
    | true=>rfl
    | false=>have h3:(bif (true && (decide (0 < n) && decide (n ≤ 1000000))) then some [] else none)=some r0:=aa; rw [h] at h3; cases h3
   simpa using h2
  have h3:(bif (true && (decide (0 < n) && decide (n ≤ 1000000))) then some ([]:List Int) else none)=some r0:=aa
  rw [decide_eq_true h1.1,decide_eq_true h1.2] at h3
  cases h3
  exact zcN n h1.1 h1.2
def xj:Code:=(Tryz.f200.body).getD .skip
def w9:zO:=spF (α:=List (List Int)) (ρ:=List Int) 200 (fun x=>[w8 x]) (fun r=>F6_ r) (fun x=>qE x) [] (UM)
abbrev WX (j8:List Int):List (Nat × T):=[(6,.own (eOs 1 false (eI .i64) j8))]
abbrev WW (slices:List (List Int)) (fm:List Int) (lz:Int):List (Nat × T):=[(6,.own (eOs 1 false (eI .i64) fm)),(25,.d (eSl 1 false F7_ slices)),(26,.d (I ((slices.length:Nat):Int))),(27,.d (I lz))]
abbrev WY (slices:List (List Int)) (size:Int):List (Nat × T):=[(0,.d (eSl 1 false F7_ slices)),(3,.d (I size))]
abbrev WV (slices:List (List Int)) (jt:Int) (ew:Int):List (Nat × T):=[(0,.d (eSl 1 false F7_ slices)),(3,.d (I jt)),(9,.d (eSl 1 false F7_ slices)),(10,.d (I ((slices.length:Nat):Int))),(11,.d (I ew))]
theorem UO (hC:zB Tryz.prog ctr):w9.Ok Tryz.prog:=by
 refine zD ?_
 rintro slices r0 aa
 try unfold qE at aa
 refine yO true [(2,none)] xj 36 Tryz.func200 fun E hE=>?_
 refine yJ X0 hC xj [1,1] [] [0,3] (fun z:Int=>vT slices z=some r0) (fun z=>WY slices z) [(0,.d (eSl 1 false F7_ slices)),(3,.d (I 0))] [Hh (.cut 2)] ?_ fun J1 az=>?_
 ·rintro size aa
  unfold vT at aa
  obtain ⟨r_,h0,aa⟩:=zf aa
  refine yJ ((z61 zt (Vz hC) 24).or X0) hC xj [1,1,1,1] [] [6] (fun z:List Int=>vS z=some r0) (fun z=>WX z) [(0,.d (eSl 1 false F7_ slices)),(6,.own (eOs 1 false (eI .i64) r_))] [Hh (.g []),Hn V7,Hx (.a (F6_ r_)) (V5 ([],size) _ h0),Hh (.cut 0)] ?_ fun J2 a6=>?_
  ·rintro j8 aa
   unfold vS at aa
   obtain rfl:=zb aa
   exact yE X0 hC hE []
  ·obtain ⟨t3,ht3,aa⟩:=zf aa
   refine yL X0 hC xj [1,1,1,1,2,1,0] [J2] (fun s=>vR slices s.1 s.2) (fun x=>WW slices x.1 x.2) (r_,0) ht3  [Ha (lnM F7_ slices)] ?_
   rintro ⟨fm,lz⟩ m3 a8 ae hl1 J3 bz
   try unfold vR at ae
   rcases zL ae with ⟨c0,ae⟩ | ⟨c0,ae⟩
   ·obtain ⟨jk,h1,ae⟩:=zf ae
    obtain ⟨g0,ae⟩:=gdE ae
    obtain rfl:=zb ae
    exact yB X0 hC bz ((fm ++ jk),w64 (lz + 1)) hl1 [Hq c0,Hi F7_ h1,Hn (dM (eI .i64) jk),Hn (aL (eI .i64) (eI .i64) g0),Hl (aM (eI .i64) fm jk)]
   ·obtain rfl:=zb ae
    obtain rfl:=hl1
    exact yB X0 hC a6 fm aa [Hq c0]
 ·obtain ⟨t4,ht4,aa⟩:=zf aa
  refine yL X0 hC xj [1,1,2,1,0] [J1] (fun s=>vQ slices s.1 s.2) (fun x=>WV slices x.1 x.2) (0,0) ht4  [Ha (lnM F7_ slices)] ?_
  rintro ⟨jt,ew⟩ m4 a8 ae hl1 J4 ep
  try unfold vQ at ae
  rcases zL ae with ⟨c1,ae⟩ | ⟨c1,ae⟩
  ·obtain ⟨jn,h2,ae⟩:=zf ae
   let Z0:List HO:=[Hq c1,Hi F7_ h2,Ha (lnM (eI .i64) jn)]
   rcases zL ae with ⟨c2,ae⟩ | ⟨c2,ae⟩
   ·cases ae
   ·obtain rfl:=zb ae
    exact yB X0 hC ep (w64 (jt + ((jn.length:Nat):Int)),w64 (ew + 1)) hl1 (Z0 ++ [Hq c2])
  ·obtain rfl:=zb ae
   obtain rfl:=hl1
   exact yB X0 hC az jt aa [Hq c1]
def xE:Code:=(Tryz.f189.body).getD .skip
abbrev Qv (n_:Int) (f_:ArN 64 (ArN 64 (List Int))) (out:List Int):List (Nat × T):=[(0,.own (.box (xu 64 (xu 64 (eNl 1 (eI .i64))) f_))),(4,.d (I n_)),(11,.own (eOs 1 false (eI .i64) out))]
abbrev Qu (m_:z6) (t_:Int) (n_:Int) (f_:ArN 64 (ArN 64 (List Int))) (am:List z8) (fx:Int):List (Nat × T):=[(0,.own (.box (xu 64 (xu 64 (eNl 1 (eI .i64))) f_))),(3,.d (I t_)),(4,.d (I n_)),(6,.own (.box (zQ m_))),(11,.own (eOs 1 true (eI .i64) [])),(19,.d (eSl 2 false u3 am)),(20,.d (I ((am.length:Nat):Int))),(21,.d (I fx))]
abbrev Qt (m_:z6) (t_:Int) (n_:Int) (f_:ArN 64 (ArN 64 (List Int))) (am:List z8) (fx:Int):List (Nat × T):=[(0,.own (.box (xu 64 (xu 64 (eNl 1 (eI .i64))) f_))),(3,.d (I t_)),(4,.d (I n_)),(6,.own (.box (zQ m_))),(11,.own (eOs 1 true (eI .i64) [])),(19,.d (eSl 2 false u3 am)),(20,.d (I ((am.length:Nat):Int))),(21,.d (I fx))]
theorem W0 (hC:zB Tryz.prog ctr) (h0g:ctr.Has w9) (h00:ctr.Has zZ) (bu:Value):∀ (m_:z6) (s_:Int) (t_:Int) (n_:Int) (f_:ArN 64 (ArN 64 (List Int))) (r0:List Int × ArN 64 (ArN 64 (List Int))),Yj m_ s_ t_ n_ f_=some r0 → qK Tryz.prog (.fn 189 []) [.atom bu,.agg [I m_.Inputs,I m_.Outputs,eSl 1 false yQ m_.Rows],I s_,I t_,I n_] ([bu].zip [.box (xu 64 (xu 64 (eNl 1 (eI .i64))) f_)]) (eNl 1 (eI .i64) r0.1) [.box (xu 64 (xu 64 (eNl 1 (eI .i64))) r0.2)]:=by
 intro m_ s_ t_ n_ f_ r0 aa
 refine zct (tt:=y9) (nt:=85) (body:=xE) [0] zt Tryz.func189 rfl (by kernel_rfl) rfl rfl (by show (5:Nat) ≤ 85; decide) (by decide) rfl rfl rfl rfl (fun E hG hE=>?_) rfl
 unfold Yj at aa
 refine yA ((xRe Tryz.prog 10 (.atom (.slice none 0 0)) (eNl 1 (eI .i64) ([]:List Int)) (zgz 1)).or ((UN zt (.inl 76) [66]).or X0)) hC xE [1] [] [(0,.own (.box (xu 64 (xu 64 (eNl 1 (eI .i64))) f_))),(2,.d (I s_)),(3,.d (I t_)),(4,.d (I n_)),(6,.own (.box (zQ m_)))] [Hn (rfl:T.d (.atom (.slice none 0 0))=T.d (.atom (.slice none 0 0)))] ?_
 refine zgg (c':=(sub [1,0] xE)) (by kernel_rfl) hG ?_
 refine yJ ((UN zt (.inl 76) [66]).or X0) hC xE [1,0,1,1] [] [0,4,11] (fun z:List Int=>jK n_ f_ z=some r0) (fun z=>Qv n_ f_ z) [(0,.own (.box (xu 64 (xu 64 (eNl 1 (eI .i64))) f_))),(2,.d (I s_)),(3,.d (I t_)),(4,.d (I n_)),(6,.own (.box (zQ m_))),(11,.own (eOs 1 true (eI .i64) []))] [Hh (.cut 2)] ?_ fun J1 az=>?_
 ·rintro out aa
  unfold jK at aa
  rcases zL aa with ⟨c0,aa⟩ | ⟨c0,aa⟩
  ·obtain rfl:=zb aa
   exact yF ((xRe Tryz.prog 10 (.atom (.slice none 0 0)) (eNl 1 (eI .i64) ([]:List Int)) (zgz 1)).or ((UN zt (.inl 76) [66]).or X0)) hC .ret [(0,.own (.box (xu 64 (xu 64 (eNl 1 (eI .i64))) f_))),(10,.d (eNl 1 (eI .i64) ([]:List Int)))] [Ha (lnM (eI .i64) out),Hq c0,Hn (rfl:T.d (.atom (.slice none 0 0))=T.d (.atom (.slice none 0 0)))] fun st0 h0=>hE _ st0 (.inr rfl) (Wy h0 ⟨⟨rfl,rfl⟩,trivial⟩) (zqF h0 rfl rfl)
  ·obtain ⟨r_,h0,aa⟩:=zf aa
   obtain ⟨g0,aa⟩:=gdE aa
   obtain rfl:=zb aa
   exact yF ((xRe Tryz.prog 10 (eSl 1 true (eI .i64) r_) (eNl 1 (eI .i64) r_) (fun S v q=>(LeA.slNl 1 true (eI .i64) g0).repV q)).or ((UN zt (.inl 76) [66]).or X0)) hC .ret [(0,.own (.box (xu 64 (xu 64 (eNl 1 (eI .i64))) f_))),(10,.d (eNl 1 (eI .i64) r_))] [Ha (lnM (eI .i64) out),Hq c0,Hg (z1L h00),Hm (shM (eI .i64) (eI .i64) out),Hs (z1M h00 (x:=out) h0 (loC F7_ out <| loN)),Hm (shM (eI .i64) (eI .i64) out),Hn (rfl:T.d (eSl 1 true (eI .i64) r_)=T.d (eSl 1 true (eI .i64) r_))] fun st0 h0=>hE _ st0 (.inr rfl) (Wy h0 ⟨⟨rfl,rfl⟩,trivial⟩) (zqF h0 rfl rfl)
 ·obtain ⟨am,h1,aa⟩:=zf aa
  obtain ⟨t2,ht2,aa⟩:=zf aa
  refine yL ((UN zt (.inl 76) [66]).or X0) hC xE [1,0,1,1,2,1,0] [J1] (fun s=>jJ m_ t_ n_ f_ am s) (fun x=>Qt m_ t_ n_ f_ am x) 0 ht2  [Hi yQ h1,Ha (lnM u3 am)] ?_
  rintro fx m2 a8 ae hl1 J2 a6
  try unfold jJ at ae
  rcases zL ae with ⟨c1,ae⟩ | ⟨c1,ae⟩
  ·refine yJ ((UN zt (.inl 76) [66]).or X0) hC xE [1,0,1,1,2,1,0,0,1,1] [J1,J2] [0,3,4,6,11,19,20,21] (fun z:Unit=>wn fx=some a8) (fun z=>Qu m_ t_ n_ f_ am fx) [(0,.own (.box (xu 64 (xu 64 (eNl 1 (eI .i64))) f_))),(3,.d (I t_)),(4,.d (I n_)),(6,.own (.box (zQ m_))),(11,.own (eOs 1 true (eI .i64) [])),(19,.d (eSl 2 false u3 am)),(20,.d (I ((am.length:Nat):Int))),(21,.d (I fx))] [Hq c1,Hh (.cut 0)] ?_ fun J3 bz=>?_
   ·rintro ⟨⟩ ae
    unfold wn at ae
    obtain rfl:=zb ae
    exact yB ((UN zt (.inl 76) [66]).or X0) hC a6 (w64 (fx + 1)) hl1 []
   ·obtain ⟨au,h2,ae⟩:=zf ae
    obtain ⟨gc,h3,ae⟩:=zf ae
    obtain ⟨gn,h4,ae⟩:=zf ae
    let Z0:List HO:=[Hi u3 h2,Hi yQ h3,Hi u3 h4]
    rcases zL ae with ⟨c2,ae⟩ | ⟨c2,ae⟩
    ·obtain rfl:=zb ae
     obtain rfl:=hl1
     exact yBx ((UN zt (.inl 76) [66]).or X0) hC az ([fx]:List Int) aa [(0,.own (.box (xu 64 (xu 64 (eNl 1 (eI .i64))) f_))),(4,.d (I n_)),(11,.own (eOs 1 true (eI .i64) ([fx])))] inferInstance (Z0 ++ [Hq c2])
    ·rcases zL ae with ⟨c3,ae⟩ | ⟨c3,ae⟩
     ·let Z1:List HO:=(Z0 ++ (Hq c2 :: (rpN 4 (Hq c3) [])))
      rcases zL ae with ⟨c4,ae⟩ | ⟨c4,ae⟩
      ·obtain ⟨cell,h5,ae⟩:=zf ae
       obtain ⟨bk,h6,ae⟩:=zf ae
       let Z2:List HO:=(Z1 ++ (rpN 7 (Hq c4) (Hn (⟨K3 (by kernel_rfl) f_ (i0 h5),(iL (xu 64 (eNl 1 (eI .i64))) h5).2⟩:Zb y9 246 ((f_.l).map (xu 64 (eNl 1 (eI .i64)))) au.To=true ∧ au.To.toNat < ((f_.l).map (xu 64 (eNl 1 (eI .i64)))).length) :: Hq c4 :: Hh (.f) :: Hs (iM (xu 64 (eNl 1 (eI .i64))) h5) :: Hn (⟨K3 (by kernel_rfl) cell (i0 h6),(iL (eNl 1 (eI .i64)) h6).2⟩:Zb y9 221 ((cell.l).map (eNl 1 (eI .i64))) gn.To=true ∧ gn.To.toNat < ((cell.l).map (eNl 1 (eI .i64))).length) :: Hq c4 :: Hh (.f) :: Hs (iM (xu 64 (eNl 1 (eI .i64))) h5) :: Hh (.f) :: Hs (iM (eNl 1 (eI .i64)) h6) :: Hn (rfl:T.d (eNl 1 (eI .i64) bk)=T.d (eNl 1 (eI .i64) bk)) :: Hq c4 :: Ha (lnM (eI .i64) bk) :: (rpN 4 (Hq c4) []))))
       rcases zL ae with ⟨c5,ae⟩ | ⟨c5,ae⟩
       ·obtain ⟨gu,h7,ae⟩:=zf ae
        obtain ⟨ia,h8,ae⟩:=zf ae
        obtain ⟨ah,h9,ae⟩:=zf ae
        obtain rfl:=zb ae
        obtain rfl:=hl1
        exact yB ((xLs zt 75 (eNl 1 (eI .i64) ia) (eSl 1 false (eI .i64) ia) inferInstance).or ((xBl zt 66).or ((xLs zt 59 (eNl 1 (eI .i64) bk) (eSl 1 false (eI .i64) bk) inferInstance).or ((UN zt (.inl 76) [66]).or X0)))) hC az ah aa (Z2 ++ [Hq c5,Hn (⟨K3 (by kernel_rfl) f_ (i0 h7),(iL (xu 64 (eNl 1 (eI .i64))) h7).2⟩:Zb y9 246 ((f_.l).map (xu 64 (eNl 1 (eI .i64)))) au.To=true ∧ au.To.toNat < ((f_.l).map (xu 64 (eNl 1 (eI .i64)))).length),Hh (.op 9),Hh (.f),Hs (iM (xu 64 (eNl 1 (eI .i64))) h7),Hn (⟨K3 (by kernel_rfl) gu (i0 h8),(iL (eNl 1 (eI .i64)) h8).2⟩:Zb y9 221 ((gu.l).map (eNl 1 (eI .i64))) gn.To=true ∧ gn.To.toNat < ((gu.l).map (eNl 1 (eI .i64))).length),Hh (.op 0),Hh (.f),Hs (iM (xu 64 (eNl 1 (eI .i64))) h7),Hh (.f),Hs (iM (eNl 1 (eI .i64)) h8),Hn (rfl:T.d (eNl 1 (eI .i64) ia)=T.d (eNl 1 (eI .i64) ia)),Hm (shM (eI .i64) (eI .i64) ([fx])),Hg (z1L h0g),Hm (shM F7_ F7_ ([[fx],ia])),Hs (z1M h0g (x:=[[fx],ia]) h9 (loC z8t ([[fx],ia]:List (List Int)) <| loN)),Hm (shM F7_ F7_ ([[fx],ia]))])
       ·exact yB ((xLs zt 59 (eNl 1 (eI .i64) bk) (eSl 1 false (eI .i64) bk) inferInstance).or ((UN zt (.inl 76) [66]).or X0)) hC bz () ae (Z2 ++ [Hq c5])
      ·exact yB ((UN zt (.inl 76) [66]).or X0) hC bz () ae (Z1 ++ (rpN 14 (Hq c4) [qF]))
     ·exact yB ((UN zt (.inl 76) [66]).or X0) hC bz () ae (Z0 ++ (Hq c2 :: (rpN 4 (Hq c3) (rpN 15 qF []))))
  ·obtain rfl:=zb ae
   obtain rfl:=hl1
   exact yBx ((UN zt (.inl 76) [66]).or X0) hC az ([]:List Int) aa [(0,.own (.box (xu 64 (xu 64 (eNl 1 (eI .i64))) f_))),(4,.d (I n_)),(11,.own (eOs 1 true (eI .i64) []))] inferInstance [Hq c1]
def z0l:Code:=(Tryz.f190.body).getD .skip
theorem z0z (hC:zB Tryz.prog ctr) (bu:Value):∀ (s_:Int) (t_:Int) (w_:List Int) (f_:ArN 64 (ArN 64 (List Int))) (r0:ArN 64 (ArN 64 (List Int))),Xh s_ t_ w_ f_=some r0 → qK Tryz.prog (.fn 190 []) [.atom bu,I s_,I t_,eNl 1 (eI .i64) w_] ([bu].zip [.box (xu 64 (xu 64 (eNl 1 (eI .i64))) f_)]) (.tup []) [.box (xu 64 (xu 64 (eNl 1 (eI .i64))) r0)]:=by
 intro s_ t_ w_ f_ r0 aa
 refine z6F (tt:=y9) (nt:=22) (body:=z0l) [0] zt Tryz.func190 rfl (by kernel_rfl) rfl rfl (by show (4:Nat) ≤ 22; decide) (by decide) rfl rfl (fun E hE=>?_) rfl
 unfold Xh at aa
 refine ziQ 0 (v:=bu) ⟨_,rfl⟩ (by kernel_rfl) fun b0 hb0=>?_
 subst hb0
 obtain ⟨cell,h0,aa⟩:=zf aa
 obtain ⟨bk,h1,aa⟩:=zf aa
 obtain ⟨arr,h2,aa⟩:=zf aa
 replace h2:=zb h2
 obtain ⟨arr1,h3,aa⟩:=zf aa
 replace h3:=zb h3
 obtain ⟨gu,h4,aa⟩:=zf aa
 obtain ⟨ia,h5,aa⟩:=zf aa
 obtain ⟨arr2,h6,aa⟩:=zf aa
 replace h6:=zb h6
 obtain ⟨mg,h7,aa⟩:=zf aa
 replace h7:=zb h7
 obtain rfl:=zb aa
 exact yF ((xIr zt 21 0 t_.toNat b0).or ((xRi zt 20 64 64 b0).or ((xNr Tryz.prog 19 b0).or ((xMv Tryz.prog 11 0 (z3Z b0) rfl).or X0)))) hC .normal [(0,.own (.box (xu 64 (xu 64 (eNl 1 (eI .i64))) mg)))] [Hn (rfl:some (z3Z b0)=some (z3Z b0)),Hn (⟨K3 (by kernel_rfl) f_ (i0 h0),(iL (xu 64 (eNl 1 (eI .i64))) h0).2⟩:Zb y9 246 ((f_.l).map (xu 64 (eNl 1 (eI .i64)))) s_=true ∧ s_.toNat < ((f_.l).map (xu 64 (eNl 1 (eI .i64)))).length),Hh (.op 10),Hh (.f),Hs (iM (xu 64 (eNl 1 (eI .i64))) h0),Hn (⟨K3 (by kernel_rfl) cell (i0 h1),(iL (eNl 1 (eI .i64)) h1).2⟩:Zb y9 221 ((cell.l).map (eNl 1 (eI .i64))) t_=true ∧ t_.toNat < ((cell.l).map (eNl 1 (eI .i64))).length),Hh (.op 0),Hh (.f),Hs (iM (xu 64 (eNl 1 (eI .i64))) h0),Hh (.f),Hs (iM (eNl 1 (eI .i64)) h1),Hh (.f),Hs (iM (xu 64 (eNl 1 (eI .i64))) h0),Hh (.f),Hs (iM (eNl 1 (eI .i64)) h1),Hx (.l ((arr.l).map (eNl 1 (eI .i64)))) ((ArN.setL (eNl 1 (eI .i64)) cell t_ w_).trans (congrArg (fun q=>(ArN.l q).map (eNl 1 (eI .i64))) h2)),Hx (.l ((arr1.l).map (xu 64 (eNl 1 (eI .i64))))) ((ArN.setL (xu 64 (eNl 1 (eI .i64))) f_ s_ arr).trans (congrArg (fun q=>(ArN.l q).map (xu 64 (eNl 1 (eI .i64)))) h3)),Hn (rfl:T.d (.atom (z3Z b0))=T.d (.atom (z3Z b0))),Hn (⟨rfl,i0 h4,zgS (x:=arr1) h4⟩:T.d (.atom (z3Z b0))=T.d (.atom (z3Z b0)) ∧ 0 ≤ t_ ∧ t_.toNat < 64),Hn (⟨⟨congrArg (fun k=>T.d (.atom (.pointer (some ⟨b0,k,none⟩)))) (ziS (f:=(xu 64 (eNl 1 (eI .i64)))) arr1 h4).symm,(iL (xu 64 (eNl 1 (eI .i64))) h4).2⟩,rfl⟩:(T.d (.atom (.pointer (some ⟨b0,t_.toNat * 64,none⟩)))=T.d (.atom (.pointer (some ⟨b0,A.sizes (((arr1.l).map (xu 64 (eNl 1 (eI .i64)))).take t_.toNat),none⟩))) ∧ t_.toNat < ((arr1.l).map (xu 64 (eNl 1 (eI .i64)))).length) ∧ some (z3Z b0)=some (z3Z b0)),Hh (.op 2),Hh (.f),Hs (iM (xu 64 (eNl 1 (eI .i64))) h4),Hn (⟨K3 (by kernel_rfl) gu (i0 h5),(iL (eNl 1 (eI .i64)) h5).2⟩:Zb y9 221 ((gu.l).map (eNl 1 (eI .i64))) s_=true ∧ s_.toNat < ((gu.l).map (eNl 1 (eI .i64))).length),Hh (.op 0),Hh (.f),Hs (iM (xu 64 (eNl 1 (eI .i64))) h4),Hh (.f),Hs (iM (eNl 1 (eI .i64)) h5),Hh (.f),Hs (iM (xu 64 (eNl 1 (eI .i64))) h4),Hh (.f),Hs (iM (eNl 1 (eI .i64)) h5),Hx (.l ((arr2.l).map (eNl 1 (eI .i64)))) ((ArN.setL (eNl 1 (eI .i64)) gu s_ w_).trans (congrArg (fun q=>(ArN.l q).map (eNl 1 (eI .i64))) h6)),Hx (.l ((mg.l).map (xu 64 (eNl 1 (eI .i64))))) ((ArN.setL (xu 64 (eNl 1 (eI .i64))) arr1 t_ arr2).trans (congrArg (fun q=>(ArN.l q).map (xu 64 (eNl 1 (eI .i64)))) h7))] fun st0 h0=>hE _ st0 (.inl rfl) (Wy h0 ⟨⟨rfl,rfl⟩,trivial⟩)
def yb:Code:=(Tryz.f169.body).getD .skip
def kS:zO:=spF (α:=z6) (ρ:=ArN 64 (ArN 64 (List Int))) 169 (fun x=>[zQ x]) (fun r=>(eBx (xu 64 (xu 64 (eNl 1 (eI .i64))))) r) (fun x=>Xg x) [] (UM)
abbrev Jd (f_:ArN 64 (ArN 64 (List Int))):List (Nat × T):=[(3,.own (.box (.box (xu 64 (xu 64 (eNl 1 (eI .i64))) f_))))]
abbrev Jc (m_:z6) (n_:Int) (mp:ArN 64 (ArN 64 (List Int))):List (Nat × T):=[(1,.own (.box (zQ m_))),(3,.own (.box (.box (xu 64 (xu 64 (eNl 1 (eI .i64))) mp)))),(4,.own (.box (I n_)))]
abbrev J0 (m_:z6) (n_:Int) (now:List zP) (kz:ArN 64 (ArN 64 (List Int))) (l4:Int):List (Nat × T):=[(1,.own (.box (zQ m_))),(3,.own (.box (.box (xu 64 (xu 64 (eNl 1 (eI .i64))) kz)))),(4,.own (.box (I n_))),(48,.d (eSl 4 false (zT (eI .i64) (eI .i64) (eNl 1 (eI .i64)) eB) now)),(49,.d (I ((now.length:Nat):Int))),(50,.d (I l4))]
abbrev Jb (m_:z6) (n_:Int) (mq:ArN 64 (ArN 64 (List Int))) (now:List zP):List (Nat × T):=[(1,.own (.box (zQ m_))),(3,.own (.box (.box (xu 64 (xu 64 (eNl 1 (eI .i64))) mq)))),(4,.own (.box (I n_))),(5,.own (.box (eOs 4 false (zT (eI .i64) (eI .i64) (eNl 1 (eI .i64)) eB) now)))]
abbrev wQ (m_:z6) (n_:Int) (ah:z6) (gx:ArN 64 (ArN 64 (List Int))) (gh:List zP):List (Nat × T):=[(1,.own (.box (zQ m_))),(3,.own (.box (.box (xu 64 (xu 64 (eNl 1 (eI .i64))) gx)))),(4,.own (.box (I n_))),(5,.own (.box (eOs 4 false (zT (eI .i64) (eI .i64) (eNl 1 (eI .i64)) eB) gh))),(22,.d (.fn 199 [.sptr (.agg [I ah.Inputs,I ah.Outputs,eSl 1 false yQ ah.Rows])]))]
abbrev Ja (m_:z6) (kp:ArN 64 (ArN 64 (List Int))) (n_:Int):List (Nat × T):=[(1,.own (.box (zQ m_))),(3,.own (.box (.box (xu 64 (xu 64 (eNl 1 (eI .i64))) kp)))),(4,.own (.box (I n_)))]
theorem z0y (hC:zB Tryz.prog ctr) (h1q:ctr.Has Wj) (h0g:ctr.Has w9) (h00:ctr.Has zZ):kS.Ok Tryz.prog:=by
 refine zD ?_
 rintro m_ r0 aa
 try unfold Xg at aa
 refine z6O (tt:=y9) (rs:=[(true,2,none)]) (n:=⟨65,[]⟩) (body:=yb) zt Tryz.func169 rfl (by kernel_rfl) rfl rfl (by show (1:Nat) ≤ 65; decide) fun E hE=>?_
 refine yJ X0 hC yb [1,1] [] [3] (fun z:ArN 64 (ArN 64 (List Int))=>kQ z=some r0) (fun z=>Jd z) [(1,.own (.box (zQ m_))),(3,.own (.box (.box (xu 64 (xu 64 (eNl 1 (eI .i64))) (ArN.rep 64 (ArN.rep 64 ([]:List Int)))))))] [Hh (.cut 2)] ?_ fun J1 az=>?_
 ·rintro f_ aa
  unfold kQ at aa
  obtain rfl:=zb aa
  let ZE:List HO:=[]
  exact z4B X0 zt hC WA hE 4000 (hs:=hoH ZE) (x:=(.box (xu 64 (xu 64 (eNl 1 (eI .i64))) f_))) (hoB ZE) (by kernel_rfl) (LeV.refl _)
 ·obtain ⟨t2,ht2,aa⟩:=zf aa
  refine yL X0 hC yb [1,1,2,1,0] [J1] (fun s=>kN m_ s.1 s.2) (fun x=>Ja m_ x.1 x.2) ((ArN.rep 64 (ArN.rep 64 ([]:List Int))),1) ht2  [] ?_
  rintro ⟨kp,n_⟩ m2 a8 ae hl1 J2 a6
  try unfold kN at ae
  let Z0:List HO:=[Ha (lnM yQ m_.Rows)]
  rcases zL ae with ⟨c0,ae⟩ | ⟨c0,ae⟩
  ·refine yJ X0 hC yb [1,1,2,1,0,0,1] [J1,J2] [1,3,4] (fun z:ArN 64 (ArN 64 (List Int))=>kP n_ z=some a8) (fun z=>Jc m_ n_ z) [(1,.own (.box (zQ m_))),(3,.own (.box (.box (xu 64 (xu 64 (eNl 1 (eI .i64))) kp)))),(4,.own (.box (I n_)))] (Z0 ++ [Hq c0,Hh (.cut 0)]) ?_ fun J3 bz=>?_
   ·rintro mp ae
    unfold kP at ae
    obtain rfl:=zb ae
    exact yB X0 hC a6 (mp,w64 (n_ + 1)) hl1 []
   ·refine yJ X0 hC yb [1,1,2,1,0,0,1,2,0,1] [J1,J2,J3] [1,3,4,5] (fun z:ArN 64 (ArN 64 (List Int)) × List zP=>kO n_ z.1 z.2=some a8) (fun z=>Jb m_ n_ z.1 z.2) [(1,.own (.box (zQ m_))),(3,.own (.box (.box (xu 64 (xu 64 (eNl 1 (eI .i64))) kp)))),(4,.own (.box (I n_))),(5,.own (.box (eOs 4 true (zT (eI .i64) (eI .i64) F7_ eB) [])))] [Hh (.cut 1)] ?_ fun J4 ep=>?_
    ·rintro ⟨mq,now⟩ ae
     unfold kO at ae
     obtain ⟨t5,ht5,ae⟩:=zf ae
     refine yL X0 hC yb [1,1,2,1,0,0,1,2,0,1,1,1,0] [J1,J2,J3] (fun s=>kM now s.1 s.2) (fun x=>J0 m_ n_ now x.1 x.2) (mq,0) ht5  [Hh (.v 0 [5]),Hm (shM (zT (eI .i64) (eI .i64) (eNl 1 (eI .i64)) eB) (zT (eI .i64) (eI .i64) (eNl 1 (eI .i64)) eB) now),Hh (.v 1 [5]),Ha (lnM (zT (eI .i64) (eI .i64) (eNl 1 (eI .i64)) eB) now)] ?_
     rintro ⟨kz,l4⟩ m5 ez ai hl2 J5 fc
     try unfold kM at ai
     rcases zL ai with ⟨c1,ai⟩ | ⟨c1,ai⟩
     ·obtain ⟨eu,h0,ai⟩:=zf ai
      obtain ⟨r_,h1,ai⟩:=zf ai
      obtain rfl:=zb ai
      exact yB ((zb2 (P:=Tryz.prog) y9 3 0 (fa:=.fn 190 []) (z:=.box (xu 64 (xu 64 (eNl 1 (eI .i64))) kz)) (z':=.box (xu 64 (xu 64 (eNl 1 (eI .i64))) r_)) (r:=.tup []) (xl:=[]) (xr:=[(eI .i64) eu.S,(eI .i64) eu.T,(eNl 1 (eI .i64)) eu.Word]) rfl rfl (fun v=>z0z hC v _ _ _ _ _ h1) 61).or X0) hC fc (r_,w64 (l4 + 1)) hl2 [Hq c1,Hi (zT (eI .i64) (eI .i64) (eNl 1 (eI .i64)) eB) h0,Hn (⟨rfl,leP (show z0s [] [] from inferInstance),leP (show z0s [(eI .i64) eu.S,(eI .i64) eu.T,(eNl 1 (eI .i64)) eu.Word] [(eI .i64) eu.S,(eI .i64) eu.T,(eNl 1 (eI .i64)) eu.Word] from inferInstance),rfl,rfl⟩:([.fn 190 []]:List A)=[.fn 190 []] ∧ LeP [] [] ∧ LeP [(eI .i64) eu.S,(eI .i64) eu.T,(eNl 1 (eI .i64)) eu.Word] [(eI .i64) eu.S,(eI .i64) eu.T,(eNl 1 (eI .i64)) eu.Word] ∧ T.als 3 [.deref] 0 0=T.als 3 [.deref] 0 0 ∧ T.own (.box (.box (xu 64 (xu 64 (eNl 1 (eI .i64))) kz)))=T.own (.box (.box (xu 64 (xu 64 (eNl 1 (eI .i64))) kz))))]
     ·obtain rfl:=zb ai
      obtain rfl:=hl2
      exact yB X0 hC bz kz ae [Hq c1]
    ·obtain ⟨ah,h2,ae⟩:=zf ae
     obtain ⟨t6,l7,ae⟩:=zf ae
     refine yAt X0 hC (sub [1,1,2,1,0,0,1,2,0,1,2,1,0] yb) (frs [1,1,2,1,0,0,1,2,0,1,2,1,0] [J1,J2,J3,J4] yb []) [(1,.own (.box (zQ m_))),(3,.own (.box (.box (xu 64 (xu 64 (eNl 1 (eI .i64))) kp)))),(4,.own (.box (I n_))),(5,.own (.box (eOs 4 true (zT (eI .i64) (eI .i64) (eNl 1 (eI .i64)) eB) []))),(22,.d (.fn 199 [.sptr (.agg [I ah.Inputs,I ah.Outputs,eSl 1 false yQ ah.Rows])]))] [Hc h1q (x:=m_) h2 (loC zQ m_ <| loN)] fun st0 h0=>?_
     refine z1V (g:=.tmp 22) (ps:=[23,24]) (assign:=(sub [1,1,2,1,0,0,1,2,0,1,2,1,0,0] yb)) (body:=(sub [1,1,2,1,0,0,1,2,0,1,2,1,0,1] yb)) (K:=199) (caps:=[.sptr (.agg [I ah.Inputs,I ah.Outputs,eSl 1 false yQ ah.Rows])]) (by kernel_rfl) [1,3,4,5,22] (fun s=>wQ m_ n_ ah s.1 s.2) (fun z=>nomatch z) (fun z=>nomatch z) ((fun (x:Int × Int) (_:Bool) (_:Value)=>[(eI .i64) x.1,(eI .i64) x.2])) (F:=@YK ah) (fun s x=>uh m_ n_ s.1 s.2 x.1 x.2) (kp,([]:List zP)) t6 _ h0 inferInstance (by kernel_rfl) (by decide) (fun _=>rfl) (by rintro ⟨⟩) (by kernel_rfl) (fun _ _ _=>rfl) (z2A hC ah) l7 ?_ ?_
     ·rintro nz ⟨gx,gh⟩ ⟨iq,dp⟩ vr ez ai
      replace ai:uh m_ n_ gx gh iq dp=some ez:=ai
      unfold uh at ai
      refine yF X0 hC .normal [(1,.own (.box (zQ m_))),(3,.own (.box (.box (xu 64 (xu 64 (eNl 1 (eI .i64))) gx)))),(4,.own (.box (I n_))),(5,.own (.box (eOs 4 false (zT (eI .i64) (eI .i64) (eNl 1 (eI .i64)) eB) gh))),(6,.d (I iq)),(7,.d (I dp)),(22,.d (.fn 199 [.sptr (.agg [I ah.Inputs,I ah.Outputs,eSl 1 false yQ ah.Rows])]))] [] fun st0 h0=>⟨rfl,z6Y h0 ?_⟩
      obtain ⟨cell,h3,ai⟩:=zf ai
      obtain ⟨bk,h4,ai⟩:=zf ai
      let Z1:List HO:=[Hn (⟨K3 (by kernel_rfl) gx (i0 h3),(iL (xu 64 (eNl 1 (eI .i64))) h3).2⟩:Zb y9 246 ((gx.l).map (xu 64 (eNl 1 (eI .i64)))) iq=true ∧ iq.toNat < ((gx.l).map (xu 64 (eNl 1 (eI .i64)))).length),Hh (.op 5),Hh (.f),Hs (iM (xu 64 (eNl 1 (eI .i64))) h3),Hn (⟨K3 (by kernel_rfl) cell (i0 h4),(iL (eNl 1 (eI .i64)) h4).2⟩:Zb y9 221 ((cell.l).map (eNl 1 (eI .i64))) dp=true ∧ dp.toNat < ((cell.l).map (eNl 1 (eI .i64))).length),Hh (.op 0),Hh (.f),Hs (iM (xu 64 (eNl 1 (eI .i64))) h3),Hh (.f),Hs (iM (eNl 1 (eI .i64)) h4),Hn (⟨rfl,rfl⟩:T.d (eNl 1 (eI .i64) bk)=T.d (eNl 1 (eI .i64) bk) ∧ T.d (.atom (.slice none 0 0))=T.d (.atom (.slice none 0 0)))]
      rcases zL ai with ⟨c2,ai⟩ | ⟨c2,ai⟩
      ·obtain rfl:=zb ai
       exact yF ((zjb zt 32 51 1 (bk.map (eI .i64)) true (!bk.isEmpty) (by kernel_rfl) (nlB true (eI .i64) bk)).or X0) hC .normal (wQ m_ n_ ah gx gh) (Z1 ++ [Hq c2]) fun st0 h0=>⟨rfl,_,h0,LeL.refl _⟩
      ·obtain ⟨aj,h5,ai⟩:=zf ai
       let Z2:List HO:=(Z1 ++ [Hq c2,Hn (⟨rfl,leP (show z0s [] [] from inferInstance),leP (show z0s [zQ m_,(eI .i64) iq,(eI .i64) dp,(eI .i64) n_] [zQ m_,(eI .i64) iq,(eI .i64) dp,(eI .i64) n_] from inferInstance),rfl,rfl⟩:([.fn 189 []]:List A)=[.fn 189 []] ∧ LeP [] [] ∧ LeP [zQ m_,(eI .i64) iq,(eI .i64) dp,(eI .i64) n_] [zQ m_,(eI .i64) iq,(eI .i64) dp,(eI .i64) n_] ∧ T.als 3 [.deref] 0 0=T.als 3 [.deref] 0 0 ∧ T.own (.box (.box (xu 64 (xu 64 (eNl 1 (eI .i64))) gx)))=T.own (.box (.box (xu 64 (xu 64 (eNl 1 (eI .i64))) gx)))),Hn (⟨rfl,rfl⟩:T.d (eNl 1 (eI .i64) aj.1)=T.d (eNl 1 (eI .i64) aj.1) ∧ T.d (.atom (.slice none 0 0))=T.d (.atom (.slice none 0 0)))])
       rcases zL ai with ⟨c3,ai⟩ | ⟨c3,ai⟩
       ·obtain ⟨g0,ai⟩:=gdE ai
        obtain rfl:=zb ai
        exact yF ((zjb zt 40 51 1 (aj.1.map (eI .i64)) true (!aj.1.isEmpty) (by kernel_rfl) (nlB true (eI .i64) aj.1)).or ((zb2 (P:=Tryz.prog) y9 3 0 (fa:=.fn 189 []) (z:=.box (xu 64 (xu 64 (eNl 1 (eI .i64))) gx)) (z':=.box (xu 64 (xu 64 (eNl 1 (eI .i64))) aj.2)) (r:=eNl 1 (eI .i64) aj.1) (xl:=[]) (xr:=[zQ m_,(eI .i64) iq,(eI .i64) dp,(eI .i64) n_]) rfl rfl (fun v=>W0 hC h0g h00 v _ _ _ _ _ _ h5) 38).or ((zjb zt 32 51 1 (bk.map (eI .i64)) true (!bk.isEmpty) (by kernel_rfl) (nlB true (eI .i64) bk)).or X0))) hC .normal (wQ m_ n_ ah aj.2 (gh ++ ([(zP.mk iq dp aj.1 false)]:List zP))) (Z2 ++ [Hq c3,Hq (dM (zT (eI .i64) (eI .i64) (eNl 1 (eI .i64)) eB) ([(zP.mk iq dp aj.1 false)]:List zP)),Hn (dM (zT (eI .i64) (eI .i64) (eNl 1 (eI .i64)) eB) ([(zP.mk iq dp aj.1 false)]:List zP)),Hn (aL (zT (eI .i64) (eI .i64) (eNl 1 (eI .i64)) eB) (zT (eI .i64) (eI .i64) (eNl 1 (eI .i64)) eB) g0),Hl (aM (zT (eI .i64) (eI .i64) (eNl 1 (eI .i64)) eB) gh ([(zP.mk iq dp aj.1 false)]:List zP))]) fun st0 h0=>⟨rfl,_,h0,LeL.refl _⟩
       ·obtain rfl:=zb ai
        exact yF ((zjb zt 40 51 1 (aj.1.map (eI .i64)) true (!aj.1.isEmpty) (by kernel_rfl) (nlB true (eI .i64) aj.1)).or ((zb2 (P:=Tryz.prog) y9 3 0 (fa:=.fn 189 []) (z:=.box (xu 64 (xu 64 (eNl 1 (eI .i64))) gx)) (z':=.box (xu 64 (xu 64 (eNl 1 (eI .i64))) aj.2)) (r:=eNl 1 (eI .i64) aj.1) (xl:=[]) (xr:=[zQ m_,(eI .i64) iq,(eI .i64) dp,(eI .i64) n_]) rfl rfl (fun v=>W0 hC h0g h00 v _ _ _ _ _ _ h5) 38).or ((zjb zt 32 51 1 (bk.map (eI .i64)) true (!bk.isEmpty) (by kernel_rfl) (nlB true (eI .i64) bk)).or X0))) hC .normal (wQ m_ n_ ah aj.2 gh) (Z2 ++ [Hq c3]) fun st0 h0=>⟨rfl,_,h0,LeL.refl _⟩
     ·rcases t6 with ⟨gx,gh⟩ | z
      ·dsimp only at ae
       exact WS (by kernel_rfl) (ep _ [(1,.own (.box (zQ m_))),(3,.own (.box (.box (xu 64 (xu 64 (eNl 1 (eI .i64))) gx)))),(4,.own (.box (I n_))),(5,.own (.box (eOs 4 false (zT (eI .i64) (eI .i64) (eNl 1 (eI .i64)) eB) gh)))] (gx,gh) ae (show Own.canon [1,3,4,5] _=ofL _ by kernel_rfl) inferInstance)
      ·cases z
  ·obtain rfl:=zb ae
   obtain rfl:=hl1
   exact yB X0 hC az kp aa (Z0 ++ [Hq c0])
def z0X:Code:=(Tryz.f149.body).getD .skip
def v7:zO:=spF (α:=z6 × Int × Int) (ρ:=List Int × Bool × Int) 149 (fun x=>[zQ x.1,(eI .i64) x.2.1,(eI .i64) x.2.2]) (fun r=>.tup [F3_ r.1,eB r.2.1,(eI .i64) r.2.2]) (fun x=>Zr x.1 x.2.1 x.2.2) [] (z6I)
theorem z1r (hC:zB Tryz.prog ctr) (h0L:ctr.Has Wi) (h1r:ctr.Has kS) (h0e:ctr.Has xx) (h00:ctr.Has zZ):v7.Ok Tryz.prog:=by
 refine zD ?_
 rintro ⟨m_,s_,t_⟩ r0 aa
 try unfold Zr at aa
 refine yO false [(6,none),(7,none),(8,none)] z0X 33 Tryz.func149 fun E hE=>?_
 obtain ⟨r_,h0,aa⟩:=zf aa
 let Z0:List HO:=[Hg (z1L h0L),Hm (shM (eI .i64) (eI .i64) ([s_,t_])),Hs (z1M h0L (x:=(m_,[s_,t_])) h0 (loC zQ m_ <| loC F3_ ([s_,t_]:List Int) <| loN))]
 rcases zL aa with ⟨c0,aa⟩ | ⟨c0,aa⟩
 ·obtain rfl:=zb aa
  exact yEx X0 hC hE (Z0 ++ [Hq c0,Hm (shM (eI .i64) (eI .i64) [])]) (.tup [eSl 1 true (eI .i64) [],B false,I r_]) (show LeV (.tup [eSl 1 true (eI .i64) [],B false,I r_]) (.tup [eSl 1 true (eI .i64) ([]:List Int),B false,I r_]) from inferInstance)
 ·obtain ⟨ah,h1,aa⟩:=zf aa
  obtain ⟨cell,h2,aa⟩:=zf aa
  obtain ⟨bk,h3,aa⟩:=zf aa
  obtain ⟨aj,h4,aa⟩:=zf aa
  obtain ⟨aw,h5,aa⟩:=zf aa
  obtain rfl:=zb aa
  exact yE ((xLs zt 26 (eNl 1 (eI .i64) bk) (eSl 1 false (eI .i64) bk) inferInstance).or X0) hC hE (Z0 ++ [Hq c0,Hc h1r (x:=m_) h1 (loC zQ m_ <| loN),Hn (⟨K3 (by kernel_rfl) ah (i0 h2),(iL (xu 64 (eNl 1 (eI .i64))) h2).2⟩:Zb y9 246 ((ah.l).map (xu 64 (eNl 1 (eI .i64)))) s_=true ∧ s_.toNat < ((ah.l).map (xu 64 (eNl 1 (eI .i64)))).length),Hh (.op 4),Hh (.f),Hs (iM (xu 64 (eNl 1 (eI .i64))) h2),Hn (⟨K3 (by kernel_rfl) cell (i0 h3),(iL (eNl 1 (eI .i64)) h3).2⟩:Zb y9 221 ((cell.l).map (eNl 1 (eI .i64))) t_=true ∧ t_.toNat < ((cell.l).map (eNl 1 (eI .i64))).length),Hh (.op 0),Hh (.f),Hs (iM (xu 64 (eNl 1 (eI .i64))) h2),Hh (.f),Hs (iM (eNl 1 (eI .i64)) h3),Hn (rfl:T.d (eNl 1 (eI .i64) bk)=T.d (eNl 1 (eI .i64) bk)),Hc h0e (x:=bk) h4 (loC F7_ bk <| loN),Hg (z1L h00),Hm (shM (eI .i64) (eI .i64) aj),Hs (z1M h00 (x:=aj) h5 (loC F7_ aj <| loN)),Hm (shM (eI .i64) (eI .i64) aj),Ha (lnM (eI .i64) aw)])
def vZ:Code:=(Tryz.f117.body).getD .skip
def Wn:zO:=spF (α:=z6 × Unit) (ρ:=List (List Int) × Int) 117 (fun x=>[zQ x.1,(zaY 118) x.2]) (fun r=>.tup [Uh r.1,(eI .i64) r.2]) (fun x=>JV x.1 x.2) [] (by
 rintro ⟨a0,a1⟩ ⟨b0,b1⟩ h
 have e0:=vL.inj (f:=zQ) _ _ (List.cons.inj h).1
 replace h:=(List.cons.inj h).2
 have e1:=vL.inj (f:=(zaY 118)) _ _ (List.cons.inj h).1
 subst e0 e1
 rfl)
abbrev z1l (m_:z6) (x5:Int) (out:List (List Int)):List (Nat × T):=[(2,.own (.box (zQ m_))),(4,.own (.box (eOs 1 true F7_ []))),(5,.own (.box (I x5))),(6,.own (.box (eOs 1 false F3_ out)))]
abbrev vj (m_:z6) (ah:Int) (dt:Int) (ak:List (List Int)):List (Nat × T):=[(2,.own (.box (zQ m_))),(3,.own (.box (.fn 118 []))),(4,.own (.box (eOs 1 true F7_ []))),(5,.own (.box (I dt))),(6,.own (.box (eOs 1 false F3_ ak))),(15,.d (.fn 167 [.sptr (I ah)]))]
theorem z5d (hC:zB Tryz.prog ctr) (h0h:ctr.Has qA) (h1s:ctr.Has Wo) (h0i:ctr.Has v7) (h04:ctr.Has qO):Wn.Ok Tryz.prog:=by
 refine zD ?_
 rintro ⟨m_,is⟩ r0 aa
 try unfold JV at aa
 refine yO false [(4,some 32),(5,some 33)] vZ 44 Tryz.func117 fun E hE=>?_
 refine yJ X0 hC vZ [1,1] [] [2,4,5,6] (fun z:Int × List (List Int)=>WE m_ z.1 z.2=some r0) (fun z=>z1l m_ z.1 z.2) [(2,.own (.box (zQ m_))),(3,.own (.box (.fn 118 []))),(4,.own (.box (eOs 1 true F7_ []))),(5,.own (.box (I 0))),(6,.own (.box (eOs 1 true F7_ [])))] [Hh (.cut 2)] ?_ fun J1 az=>?_
 ·rintro ⟨x5,out⟩ aa
  unfold WE at aa
  obtain ⟨r_,h0,aa⟩:=zf aa
  obtain rfl:=zb aa
  exact yE X0 hC hE [Hg (z1L h04),Hm (shM F3_ F3_ out),Hs (z1M h04 (x:=(out,m_.Inputs)) h0 (loC (eSl 1 false F3_) out <| loC (eI .i64) m_.Inputs <| loN)),Hm (shM F3_ F3_ out)]
 ·obtain ⟨ah,h1,aa⟩:=zf aa
  obtain ⟨t2,ht2,aa⟩:=zf aa
  refine yAt X0 hC (sub [1,1,2,1,0] vZ) (frs [1,1,2,1,0] [J1] vZ []) [(2,.own (.box (zQ m_))),(3,.own (.box (.fn 118 []))),(4,.own (.box (eOs 1 true F7_ []))),(5,.own (.box (I 0))),(6,.own (.box (eOs 1 true F3_ []))),(15,.d (.fn 167 [.sptr (I ah)]))] [Ha (lnM yQ m_.Rows),Hc h0h (x:=((m_.Rows.length:Nat):Int)) h1 (loC (eI .i64) ((m_.Rows.length:Nat):Int) <| loN)] fun st0 h0=>?_
  refine z1V (g:=.tmp 15) (ps:=[16,17]) (assign:=(sub [1,1,2,1,0,0] vZ)) (body:=(sub [1,1,2,1,0,1] vZ)) (K:=167) (caps:=[.sptr (I ah)]) (by kernel_rfl) [2,3,4,5,6,15] (fun s=>vj m_ ah s.1 s.2) (fun s=>vj m_ ah s.1 s.2) (fun s=>Code.ret) ((fun (x:Int × Int) (_:Bool) (_:Value)=>[(eI .i64) x.1,(eI .i64) x.2])) (F:=@uI ah) (fun s x=>ZL m_ s.1 s.2 x.1 x.2) (0,([]:List (List Int))) t2 _ h0 inferInstance (by kernel_rfl) (by decide) (fun _=>rfl) (fun _=>rfl) (by kernel_rfl) (fun _ _ _=>rfl) (QB hC ah) ht2 ?_ ?_
  ·rintro m0 ⟨dt,ak⟩ ⟨dh,ar⟩ vr a8 ae
   replace ae:ZL m_ dt ak dh ar=some a8:=ae
   unfold ZL at ae
   refine yF X0 hC .normal [(2,.own (.box (zQ m_))),(3,.own (.box (.fn 118 []))),(4,.own (.box (eOs 1 true F7_ []))),(5,.own (.box (I dt))),(6,.own (.box (eOs 1 false F3_ ak))),(7,.d (I dh)),(8,.d (I ar)),(15,.d (.fn 167 [.sptr (I ah)]))] [] fun st0 h0=>⟨rfl,z6Y h0 ?_⟩
   obtain ⟨aj,h2,ae⟩:=zf ae
   let Z0:List HO:=[Hc h1s (x:=(dh,ar)) h2 (loC (eI .i64) dh <| loC (eI .i64) ar <| loN)]
   rcases zL ae with ⟨c0,ae⟩ | ⟨c0,ae⟩
   ·obtain rfl:=zb ae
    exact yF X0 hC .normal (vj m_ ah dt ak) (Z0 ++ [Hq c0]) fun st0 h0=>⟨rfl,_,h0,LeL.refl _⟩
   ·obtain ⟨aw,h3,ae⟩:=zf ae
    let Z1:List HO:=(Z0 ++ [Hq c0,Hc h0i (x:=(m_,dh,ar)) h3 (loC zQ m_ <| loC (eI .i64) dh <| loC (eI .i64) ar <| loN)])
    rcases zL ae with ⟨c1,ae⟩ | ⟨c1,ae⟩
    ·obtain rfl:=zb ae
     exact yF X0 hC .ret (vj m_ ah aw.2.2 ak) (Z1 ++ [Hq c1]) fun st0 h0=>⟨rfl,_,h0,LeL.refl _⟩
    ·obtain ⟨g0,ae⟩:=gdE ae
     obtain rfl:=zb ae
     exact yF X0 hC .normal (vj m_ ah dt (ak ++ ([aw.1]:List (List Int)))) (Z1 ++ [Hq c1,Hq (dM F3_ ([aw.1]:List (List Int))),Hn (dM F3_ ([aw.1]:List (List Int))),Hn (aL F3_ F3_ g0),Hl (aM F3_ ak ([aw.1]:List (List Int)))]) fun st0 h0=>⟨rfl,_,h0,LeL.refl _⟩
  ·rcases t2 with ⟨dt,ak⟩ | z
   ·dsimp only at aa
    exact WS (by kernel_rfl) (az _ [(2,.own (.box (zQ m_))),(4,.own (.box (eOs 1 true F7_ []))),(5,.own (.box (I dt))),(6,.own (.box (eOs 1 false F3_ ak)))] (dt,ak) aa (show Own.canon [2,4,5,6] _=ofL _ by kernel_rfl) inferInstance)
   ·obtain ⟨dt,ak⟩:=z
    dsimp only at aa
    show AWP _ _ (Code.ret) _ _
    obtain rfl:=zb aa
    exact yEx X0 hC hE [Hm (shM F7_ F7_ [])] (.tup [eSl 1 true F3_ [],I dt]) (show LeV (.tup [eSl 1 true F3_ [],I dt]) (.tup [eSl 1 true F3_ ([]:List (List Int)),I dt]) from inferInstance)
def z6W:Code:=(Tryz.f72.body).getD .skip
def Q2:zO:=spF (α:=z6) (ρ:=List (List Int) × Int) 72 (fun x=>[zQ x]) (fun r=>.tup [Uh r.1,(eI .i64) r.2]) (fun x=>z1K x) [] (UM)
theorem z7j (hC:zB Tryz.prog ctr) (h0d:ctr.Has wJ) (h1t:ctr.Has Wn):Q2.Ok Tryz.prog:=by
 refine zD ?_
 rintro m_ r0 aa
 try unfold z1K at aa
 refine yO false [(2,none),(3,none)] z6W 14 Tryz.func72 fun E hE=>?_
 obtain ⟨r_,h0,aa⟩:=zf aa
 let Z0:List HO:=[Hc h0d (x:=m_) h0 (loC zQ m_ <| loN)]
 rcases zL aa with ⟨c0,aa⟩ | ⟨c0,aa⟩
 ·obtain rfl:=zb aa
  exact yEx X0 hC hE (Z0 ++ [Hq c0,Hm (shM F7_ F7_ [])]) (.tup [eSl 1 true F3_ [],I r_]) (show LeV (.tup [eSl 1 true F3_ [],I r_]) (.tup [eSl 1 true F3_ ([]:List (List Int)),I r_]) from inferInstance)
 ·obtain ⟨ah,h1,aa⟩:=zf aa
  obtain rfl:=zb aa
  exact yE X0 hC hE (Z0 ++ [Hq c0,Hc h1t (x:=(m_,())) h1 (loC zQ m_ <| loC (zaY 118) () <| loN)])
def z5s:Code:=(Tryz.f74.body).getD .skip
def VH:zO:=spF (α:=Int × Int) (ρ:=List (List Int) × Int) 74 (fun x=>[(eI .i64) x.1,(eI .i64) x.2]) (fun r=>.tup [Uh r.1,(eI .i64) r.2]) (fun x=>z05 x.1 x.2) [] (QM)
theorem z6a (hC:zB Tryz.prog ctr) (h0v:ctr.Has Vr):VH.Ok Tryz.prog:=by
 refine zD ?_
 rintro ⟨inputs,k_⟩ r0 aa
 try unfold z05 at aa
 refine yO false [(4,none),(5,none)] z5s 12 Tryz.func74 fun E hE=>?_
 obtain ⟨r_,h0,aa⟩:=zf aa
 obtain rfl:=zb aa
 exact yE X0 hC hE [Hc h0v (x:=(inputs,k_,k_)) h0 (loC (eI .i64) inputs <| loC (eI .i64) k_ <| loC (eI .i64) k_ <| loN)]
def z5u:Code:=(Tryz.f75.body).getD .skip
def VI:zO:=spF (α:=List (List Int)) (ρ:=List (List Int)) 75 (fun x=>[w8 x]) (fun r=>w8 r) (fun x=>UT x) [] (UM)
theorem z6c (hC:zB Tryz.prog ctr):VI.Ok Tryz.prog:=by
 refine zD ?_
 rintro l_ r0 aa
 try unfold UT at aa
 refine yO false [(2,none)] z5u 8 Tryz.func75 fun E hE=>?_
 let Z0:List HO:=[Ha (lnM F7_ l_)]
 rcases zL aa with ⟨c0,aa⟩ | ⟨c0,aa⟩
 ·obtain rfl:=zb aa
  exact yEx X0 hC hE (Z0 ++ [Hq c0,Hm (shM F4_ F3_ ([[]]))]) (eSl 1 true F3_ ([[]])) (show LeV (eSl 1 true F3_ ([[]])) (eSl 1 false F7_ ([[]]:List (List Int))) from inferInstance)
 ·obtain rfl:=zb aa
  exact yE X0 hC hE (Z0 ++ [Hq c0])
def z5w:Code:=(Tryz.f120.body).getD .skip
def YO:zO:=spF (α:=Int × Int × Int) (ρ:=Bool) 120 (fun x=>[(eI .i64) x.1,(eI .i64) x.2.1,(eSp (eI .i64)) x.2.2]) (fun r=>eB r) (fun x=>z0f x.1 x.2.1 x.2.2) [] (z6I)
theorem z6g (hC:zB Tryz.prog ctr):YO.Ok Tryz.prog:=by
 refine zD ?_
 rintro ⟨a_,b_,x2⟩ r0 aa
 try unfold z0f at aa
 refine yO true [(5,none)] z5w 14 Tryz.func120 fun E hE=>?_
 rcases zL aa with ⟨c0,aa⟩ | ⟨c0,aa⟩
 ·obtain rfl:=zb aa
  exact yE X0 hC hE (rpN 4 (Hq c0) [])
 ·obtain rfl:=zb aa
  exact yE X0 hC hE (rpN 4 (Hq c0) [])
def xQ:Code:=(Tryz.f117.body).getD .skip
def Wm:zO:=spF (α:=z6 × Int) (ρ:=List (List Int) × Int) 117 (fun x=>[zQ x.1,(Qk 120 (eSp (eI .i64))) x.2]) (fun r=>.tup [Uh r.1,(eI .i64) r.2]) (fun x=>Xn x.1 x.2) [] (by
 rintro ⟨a0,a1⟩ ⟨b0,b1⟩ h
 have e0:=vL.inj (f:=zQ) _ _ (List.cons.inj h).1
 replace h:=(List.cons.inj h).2
 have e1:=vL.inj (f:=(Qk 120 (eSp (eI .i64)))) _ _ (List.cons.inj h).1
 subst e0 e1
 rfl)
abbrev Jj (m_:z6) (x5:Int) (out:List (List Int)):List (Nat × T):=[(2,.own (.box (zQ m_))),(4,.own (.box (eOs 1 true F7_ []))),(5,.own (.box (I x5))),(6,.own (.box (eOs 1 false F3_ out)))]
abbrev xK (m_:z6) (is:Int) (ah:Int) (dt:Int) (ak:List (List Int)):List (Nat × T):=[(2,.own (.box (zQ m_))),(3,.own (.box (.fn 120 [.sptr (I is)]))),(4,.own (.box (eOs 1 true F7_ []))),(5,.own (.box (I dt))),(6,.own (.box (eOs 1 false F3_ ak))),(15,.d (.fn 167 [.sptr (I ah)]))]
theorem z0F (hC:zB Tryz.prog ctr) (h0h:ctr.Has qA) (h0y:ctr.Has YO) (h0i:ctr.Has v7) (h04:ctr.Has qO):Wm.Ok Tryz.prog:=by
 refine zD ?_
 rintro ⟨m_,is⟩ r0 aa
 try unfold Xn at aa
 refine yO false [(4,some 32),(5,some 33)] xQ 44 Tryz.func117 fun E hE=>?_
 refine yJ X0 hC xQ [1,1] [] [2,4,5,6] (fun z:Int × List (List Int)=>Z7 m_ z.1 z.2=some r0) (fun z=>Jj m_ z.1 z.2) [(2,.own (.box (zQ m_))),(3,.own (.box (.fn 120 [.sptr (I is)]))),(4,.own (.box (eOs 1 true F7_ []))),(5,.own (.box (I 0))),(6,.own (.box (eOs 1 true F7_ [])))] [Hh (.cut 2)] ?_ fun J1 az=>?_
 ·rintro ⟨x5,out⟩ aa
  unfold Z7 at aa
  obtain ⟨r_,h0,aa⟩:=zf aa
  obtain rfl:=zb aa
  exact yE X0 hC hE [Hg (z1L h04),Hm (shM F3_ F3_ out),Hs (z1M h04 (x:=(out,m_.Inputs)) h0 (loC (eSl 1 false F3_) out <| loC (eI .i64) m_.Inputs <| loN)),Hm (shM F3_ F3_ out)]
 ·obtain ⟨ah,h1,aa⟩:=zf aa
  obtain ⟨t2,ht2,aa⟩:=zf aa
  refine yAt X0 hC (sub [1,1,2,1,0] xQ) (frs [1,1,2,1,0] [J1] xQ []) [(2,.own (.box (zQ m_))),(3,.own (.box (.fn 120 [.sptr (I is)]))),(4,.own (.box (eOs 1 true F7_ []))),(5,.own (.box (I 0))),(6,.own (.box (eOs 1 true F3_ []))),(15,.d (.fn 167 [.sptr (I ah)]))] [Ha (lnM yQ m_.Rows),Hc h0h (x:=((m_.Rows.length:Nat):Int)) h1 (loC (eI .i64) ((m_.Rows.length:Nat):Int) <| loN)] fun st0 h0=>?_
  refine z1V (g:=.tmp 15) (ps:=[16,17]) (assign:=(sub [1,1,2,1,0,0] xQ)) (body:=(sub [1,1,2,1,0,1] xQ)) (K:=167) (caps:=[.sptr (I ah)]) (by kernel_rfl) [2,3,4,5,6,15] (fun s=>xK m_ is ah s.1 s.2) (fun s=>xK m_ is ah s.1 s.2) (fun s=>Code.ret) ((fun (x:Int × Int) (_:Bool) (_:Value)=>[(eI .i64) x.1,(eI .i64) x.2])) (F:=@uI ah) (fun s x=>uo m_ is s.1 s.2 x.1 x.2) (0,([]:List (List Int))) t2 _ h0 inferInstance (by kernel_rfl) (by decide) (fun _=>rfl) (fun _=>rfl) (by kernel_rfl) (fun _ _ _=>rfl) (QB hC ah) ht2 ?_ ?_
  ·rintro m0 ⟨dt,ak⟩ ⟨dh,ar⟩ vr a8 ae
   replace ae:uo m_ is dt ak dh ar=some a8:=ae
   unfold uo at ae
   refine yF X0 hC .normal [(2,.own (.box (zQ m_))),(3,.own (.box (.fn 120 [.sptr (I is)]))),(4,.own (.box (eOs 1 true F7_ []))),(5,.own (.box (I dt))),(6,.own (.box (eOs 1 false F3_ ak))),(7,.d (I dh)),(8,.d (I ar)),(15,.d (.fn 167 [.sptr (I ah)]))] [] fun st0 h0=>⟨rfl,z6Y h0 ?_⟩
   obtain ⟨aj,h2,ae⟩:=zf ae
   let Z0:List HO:=[Hc h0y (x:=(dh,ar,is)) h2 (loC (eI .i64) dh <| loC (eI .i64) ar <| loC (eSp (eI .i64)) is <| loN)]
   rcases zL ae with ⟨c0,ae⟩ | ⟨c0,ae⟩
   ·obtain rfl:=zb ae
    exact yF X0 hC .normal (xK m_ is ah dt ak) (Z0 ++ [Hq c0]) fun st0 h0=>⟨rfl,_,h0,LeL.refl _⟩
   ·obtain ⟨aw,h3,ae⟩:=zf ae
    let Z1:List HO:=(Z0 ++ [Hq c0,Hc h0i (x:=(m_,dh,ar)) h3 (loC zQ m_ <| loC (eI .i64) dh <| loC (eI .i64) ar <| loN)])
    rcases zL ae with ⟨c1,ae⟩ | ⟨c1,ae⟩
    ·obtain rfl:=zb ae
     exact yF X0 hC .ret (xK m_ is ah aw.2.2 ak) (Z1 ++ [Hq c1]) fun st0 h0=>⟨rfl,_,h0,LeL.refl _⟩
    ·obtain ⟨g0,ae⟩:=gdE ae
     obtain rfl:=zb ae
     exact yF X0 hC .normal (xK m_ is ah dt (ak ++ ([aw.1]:List (List Int)))) (Z1 ++ [Hq c1,Hq (dM F3_ ([aw.1]:List (List Int))),Hn (dM F3_ ([aw.1]:List (List Int))),Hn (aL F3_ F3_ g0),Hl (aM F3_ ak ([aw.1]:List (List Int)))]) fun st0 h0=>⟨rfl,_,h0,LeL.refl _⟩
  ·rcases t2 with ⟨dt,ak⟩ | z
   ·dsimp only at aa
    exact WS (by kernel_rfl) (az _ [(2,.own (.box (zQ m_))),(4,.own (.box (eOs 1 true F7_ []))),(5,.own (.box (I dt))),(6,.own (.box (eOs 1 false F3_ ak)))] (dt,ak) aa (show Own.canon [2,4,5,6] _=ofL _ by kernel_rfl) inferInstance)
   ·obtain ⟨dt,ak⟩:=z
    dsimp only at aa
    show AWP _ _ (Code.ret) _ _
    obtain rfl:=zb aa
    exact yEx X0 hC hE [Hm (shM F7_ F7_ [])] (.tup [eSl 1 true F3_ [],I dt]) (show LeV (.tup [eSl 1 true F3_ [],I dt]) (.tup [eSl 1 true F3_ ([]:List (List Int)),I dt]) from inferInstance)
def z8h:Code:=(Tryz.f76.body).getD .skip
def JH:zO:=spF (α:=z6 × Int) (ρ:=List (List Int) × Int) 76 (fun x=>[zQ x.1,(eI .i64) x.2]) (fun r=>.tup [Uh r.1,(eI .i64) r.2]) (fun x=>z4j x.1 x.2) [] (QM)
theorem z8C (hC:zB Tryz.prog ctr) (h0d:ctr.Has wJ) (h0h:ctr.Has qA) (h0y:ctr.Has YO) (h0i:ctr.Has v7) (h04:ctr.Has qO):JH.Ok Tryz.prog:=by
 refine zD ?_
 rintro ⟨m_,s_⟩ r0 aa
 try unfold z4j at aa
 refine yO false [(4,none),(5,none)] z8h 26 Tryz.func76 fun E hE=>?_
 obtain ⟨r_,h0,aa⟩:=zf aa
 let Z0:List HO:=[Hc h0d (x:=m_) h0 (loC zQ m_ <| loN)]
 rcases zL aa with ⟨c0,aa⟩ | ⟨c0,aa⟩
 ·obtain rfl:=zb aa
  exact yEx X0 hC hE (Z0 ++ [Hq c0,Hm (shM F7_ F7_ [])]) (.tup [eSl 1 true F3_ [],I r_]) (show LeV (.tup [eSl 1 true F3_ [],I r_]) (.tup [eSl 1 true F3_ ([]:List (List Int)),I r_]) from inferInstance)
 ·rcases zL aa with ⟨c1,aa⟩ | ⟨c1,aa⟩
  ·obtain rfl:=zb aa
   exact yEx X0 hC hE (Z0 ++ (Hq c0 :: (rpN 6 (Hq c1) [qT,Hm (shM F7_ F7_ [])]))) (.tup [eSl 1 true F3_ [],I 1]) (show LeV (.tup [eSl 1 true F3_ [],I 1]) (.tup [eSl 1 true F3_ ([]:List (List Int)),I 1]) from inferInstance)
  ·let Z1:List HO:=(Z0 ++ (Hq c0 :: (rpN 4 (Hq c1) [Ha (lnM yQ m_.Rows),Hq c1,Hq c1])))
   rcases zL aa with ⟨c2,aa⟩ | ⟨c2,aa⟩
   ·obtain rfl:=zb aa
    exact yEx X0 hC hE (Z1 ++ [Hq c2,Hm (shM F7_ F7_ [])]) (.tup [eSl 1 true F3_ [],I 1]) (show LeV (.tup [eSl 1 true F3_ [],I 1]) (.tup [eSl 1 true F3_ ([]:List (List Int)),I 1]) from inferInstance)
   ·obtain ⟨ah,h1,aa⟩:=zf aa
    obtain rfl:=zb aa
    exact yE ((z61 zt (z0F hC h0h h0y h0i h04) 23).or X0) hC hE (Z1 ++ [Hq c2,Hc (Ctr.add_has Kw Wm) (x:=(m_,s_)) h1 (loC zQ m_ <| loC (Qk 120 (eSp (eI .i64))) s_ <| loN)])
def vY:Code:=(Tryz.f36.body).getD .skip
def qP:zO:=spF (α:=z6 × Int) (ρ:=Option zj × Int) 36 (fun x=>[zQ x.1,(eI .i64) x.2]) (fun r=>.tup [(ePo jH) r.1,(eI .i64) r.2]) (fun x=>YJ x.1 x.2) [] (QM)
abbrev KD (m_:z6) (r_:List (List Int) × Int) (ah:List (List Int) × Int) (aw:List (List Int) × Int) (cd:List (List Int) × Int) (fq:List (List Int)) (jd:List (List (List Int))):List (Nat × T):=[(6,.own (.box (.agg [zQ m_,eSl 1 true F3_ r_.1,eSl 1 true F3_ ah.1,eSl 1 false F7_ fq,eOs 1 false w8 jd,eSl 1 true F3_ aw.1,eSl 1 true F3_ cd.1])))]
abbrev KC (m_:z6) (r_:List (List Int) × Int) (ah:List (List Int) × Int) (aw:List (List Int) × Int) (cd:List (List Int) × Int) (fq:List (List Int)) (gv:List (List (List Int))) (k0:Int):List (Nat × T):=[(2,.own (.box (zQ m_))),(6,.own (.box (.agg [zQ m_,eSl 1 true F3_ r_.1,eSl 1 true F3_ ah.1,eSl 1 false F7_ fq,eOs 1 false w8 gv,eSl 1 true F3_ aw.1,eSl 1 true F3_ cd.1]))),(91,.d (I ((m_.Rows.length:Nat):Int))),(92,.d (I k0))]
abbrev KE (m_:z6) (r_:List (List Int) × Int) (ah:List (List Int) × Int) (aj:List (List Int) × Int) (aw:List (List Int) × Int) (cd:List (List Int) × Int):List (Nat × T):=[(2,.own (.box (zQ m_))),(6,.own (.box (.agg [zQ m_,eSl 1 true F3_ r_.1,eSl 1 true F3_ ah.1,eSl 1 true F3_ aj.1,eOs 1 true w8 [],eSl 1 true F3_ aw.1,eSl 1 true F3_ cd.1])))]
theorem z2y (hC:zB Tryz.prog ctr) (h0w:ctr.Has k8) (h1u:ctr.Has qB) (h1v:ctr.Has Q2) (h0x:ctr.Has Xx) (h1w:ctr.Has VH) (h0M:ctr.Has VI) (h1x:ctr.Has JH):qP.Ok Tryz.prog:=by
 refine zD ?_
 rintro ⟨m_,bound⟩ r0 aa
 try unfold YJ at aa
 refine yO false [(4,none),(5,none)] vY 117 Tryz.func36 fun E hE=>?_
 refine yA X0 hC vY [1,1] [] [(1,.d (I bound)),(2,.own (.box (zQ m_))),(6,.own (.box (.agg [zQ m_,eOs 1 true F7_ [],eOs 1 true F7_ [],eOs 1 true F7_ [],eOs 1 true w8 [],eOs 1 true F7_ [],eOs 1 true F7_ []])))] [Hh (.cut 2)] ?_
 refine z6X (y:=.box (.agg [.agg [I m_.Inputs,I m_.Outputs,eSl 1 false yQ m_.Rows],eOs 1 true F7_ [],eOs 1 true F7_ [],eOs 1 true F7_ [],eOs 1 true w8 [],eOs 1 true F7_ [],eOs 1 true F7_ []])) (by kernel_rfl) 6 (by kernel_rfl) (by kernel_rfl) fun jy hv6=>?_
 obtain ⟨r_,h0,aa⟩:=zf aa
 obtain ⟨ah,h1,aa⟩:=zf aa
 obtain ⟨aj,h2,aa⟩:=zf aa
 obtain ⟨aw,h3,aa⟩:=zf aa
 obtain ⟨cd,h4,aa⟩:=zf aa
 refine yJ X0 hC vY [1,1,1,1,1,1,1,1] [] [2,6] (fun z:Unit=>Ya m_ r_ ah aj aw cd=some r0) (fun z=>KE m_ r_ ah aj aw cd) [(2,.own (.box (zQ m_))),(6,.own (.box (.agg [zQ m_,eSl 1 true F3_ r_.1,eSl 1 true F3_ ah.1,eSl 1 true F3_ aj.1,eOs 1 true w8 [],eSl 1 true F3_ aw.1,eSl 1 true F3_ cd.1]))),(7,.own (.box (.agg [I r_.2,I ah.2,I aj.2,I aw.2,I cd.2])))] [Hc h0w (x:=m_) h0 (loC zQ m_ <| loN),Hn (⟨rfl,by decide⟩:true=true ∧ 0 < 5),Hc h1u (x:=m_) h1 (loC zQ m_ <| loN),Hn (⟨rfl,by decide⟩:true=true ∧ 1 < 5),Hc h1v (x:=m_) h2 (loC zQ m_ <| loN),Hn (⟨rfl,by decide⟩:true=true ∧ 2 < 5),Ha (lnM yQ m_.Rows),Hc h0x (x:=(m_.Inputs,w64 (bound - ((m_.Rows.length:Nat):Int)))) h3 (loC (eI .i64) m_.Inputs <| loC (eI .i64) (w64 (bound - ((m_.Rows.length:Nat):Int))) <| loN),Hn (⟨rfl,by decide⟩:true=true ∧ 3 < 5),Ha (lnM yQ m_.Rows),Hc h1w (x:=(m_.Inputs,w64 (bound - ((m_.Rows.length:Nat):Int)))) h4 (loC (eI .i64) m_.Inputs <| loC (eI .i64) (w64 (bound - ((m_.Rows.length:Nat):Int))) <| loN),Hn (⟨rfl,by decide⟩:true=true ∧ 4 < 5),Hh (.cut 0)] ?_ fun J1 az=>?_
 ·rintro ⟨⟩ aa
  unfold Ya at aa
  obtain ⟨fq,h5,aa⟩:=zf aa
  refine yJ X0 hC vY [1,1,1,1,1,1,1,1,1,1] [] [6] (fun z:List (List (List Int))=>Y9 m_ r_ ah aw cd fq z=some r0) (fun z=>KD m_ r_ ah aw cd fq z) [(2,.own (.box (zQ m_))),(6,.own (.box (.agg [zQ m_,eSl 1 true F3_ r_.1,eSl 1 true F3_ ah.1,eSl 1 false F7_ fq,eOs 1 true w8 [],eSl 1 true F3_ aw.1,eSl 1 true F3_ cd.1])))] [Hc h0M (x:=aj.1) h5 (loC Uh aj.1 <| loN),Hh (.cut 0)] ?_ fun J2 a6=>?_
  ·rintro jd aa
   unfold Y9 at aa
   obtain rfl:=zb aa
   exact yEx X0 hC hE [Hm (shM w8 w8 jd)] (.tup [.sptr (.agg [.agg [I m_.Inputs,I m_.Outputs,eSl 1 false yQ m_.Rows],eSl 1 true F3_ r_.1,eSl 1 true F3_ ah.1,eSl 1 false F7_ fq,eSl 1 false w8 jd,eSl 1 true F3_ aw.1,eSl 1 true F3_ cd.1]),I 0]) (show LeV (.tup [.sptr (.agg [.agg [I m_.Inputs,I m_.Outputs,eSl 1 false yQ m_.Rows],eSl 1 true F3_ r_.1,eSl 1 true F3_ ah.1,eSl 1 false F7_ fq,eSl 1 false w8 jd,eSl 1 true F3_ aw.1,eSl 1 true F3_ cd.1]),I 0]) (.tup [.dop (poQ (some (.agg [.agg [I m_.Inputs,I m_.Outputs,eSl 1 false yQ m_.Rows],eSl 1 false F7_ r_.1,eSl 1 false F7_ ah.1,eSl 1 false F7_ fq,eSl 1 false w8 jd,eSl 1 false F7_ aw.1,eSl 1 false F7_ cd.1]))),I 0]) from inferInstance)
  ·obtain ⟨t3,ht3,aa⟩:=zf aa
   refine yLx X0 hC vY [1,1,1,1,1,1,1,1,1,1,2,1,0] [J2] (fun s=>Y8 m_ s.1 s.2) (fun x=>KC m_ r_ ah aw cd fq x.1 x.2) (([]:List (List (List Int))),0) ht3 [(2,.own (.box (zQ m_))),(6,.own (.box (.agg [zQ m_,eSl 1 true F3_ r_.1,eSl 1 true F3_ ah.1,eSl 1 false F7_ fq,eOs 1 true w8 [],eSl 1 true F3_ aw.1,eSl 1 true F3_ cd.1]))),(91,.d (I ((m_.Rows.length:Nat):Int))),(92,.d (I 0))] inferInstance [Ha (lnM yQ m_.Rows)] ?_
   rintro ⟨gv,k0⟩ m3 a8 ae hl1 J3 bz
   try unfold Y8 at ae
   rcases zL ae with ⟨c0,ae⟩ | ⟨c0,ae⟩
   ·obtain ⟨ji,h6,ae⟩:=zf ae
    let Z0:List HO:=[Hq c0,Hc h1x (x:=(m_,k0)) h6 (loC zQ m_ <| loC (eI .i64) k0 <| loN)]
    rcases zL ae with ⟨c1,ae⟩ | ⟨c1,ae⟩
    ·obtain rfl:=zb ae
     obtain rfl:=hl1
     obtain rfl:=zb aa
     exact yEx X0 hC hE (Z0 ++ [Hq c1]) (.tup [.atom (.pointer none),I ji.2]) (show LeV (.tup [.atom (.pointer none),I ji.2]) (.tup [.dop (poQ none),I ji.2]) from inferInstance)
    ·obtain ⟨kq,h7,ae⟩:=zf ae
     obtain ⟨g0,ae⟩:=gdE ae
     obtain rfl:=zb ae
     exact yB ((xNc Tryz.prog 113 6 jy).or ((xMv Tryz.prog 104 6 jy hv6).or X0)) hC bz ((gv ++ ([kq]:List (List (List Int)))),w64 (k0 + 1)) hl1 (Z0 ++ [Hq c1,Hn (rfl:some jy=some jy),Hc h0M (x:=ji.1) h7 (loC Uh ji.1 <| loN),Hq (dM w8 ([kq]:List (List (List Int)))),Hn (dM w8 ([kq]:List (List (List Int)))),Hn (aL w8 w8 g0),Hl (aM w8 gv ([kq]:List (List (List Int)))),Hn (⟨rfl,rfl⟩:T.d (.atom jy)=T.d (.atom jy) ∧ some jy=some jy)])
   ·obtain rfl:=zb ae
    obtain rfl:=hl1
    exact yB X0 hC a6 gv aa [Hq c0]
 ·rcases zL aa with ⟨c2,aa⟩ | ⟨c2,aa⟩
  ·obtain rfl:=zb aa
   exact yEx X0 hC hE [Hh (.u 70),qT,Hq c2] (.tup [.atom (.pointer none),I r_.2]) (show LeV (.tup [.atom (.pointer none),I r_.2]) (.tup [.dop (poQ none),I r_.2]) from inferInstance)
  ·let Z1:List HO:=[Hh (.u 70),qT,Hq c2,qT]
   rcases zL aa with ⟨c3,aa⟩ | ⟨c3,aa⟩
   ·obtain rfl:=zb aa
    exact yEx X0 hC hE (Z1 ++ [Hq c3]) (.tup [.atom (.pointer none),I ah.2]) (show LeV (.tup [.atom (.pointer none),I ah.2]) (.tup [.dop (poQ none),I ah.2]) from inferInstance)
   ·rcases zL aa with ⟨c4,aa⟩ | ⟨c4,aa⟩
    ·obtain rfl:=zb aa
     exact yEx X0 hC hE (Z1 ++ [Hq c3,qT,Hq c4]) (.tup [.atom (.pointer none),I aj.2]) (show LeV (.tup [.atom (.pointer none),I aj.2]) (.tup [.dop (poQ none),I aj.2]) from inferInstance)
    ·rcases zL aa with ⟨c5,aa⟩ | ⟨c5,aa⟩
     ·obtain rfl:=zb aa
      exact yEx X0 hC hE (Z1 ++ [Hq c3,qT,Hq c4,qT,Hq c5]) (.tup [.atom (.pointer none),I aw.2]) (show LeV (.tup [.atom (.pointer none),I aw.2]) (.tup [.dop (poQ none),I aw.2]) from inferInstance)
     ·let Z2:List HO:=(Z1 ++ [Hq c3,qT,Hq c4,qT,Hq c5,qT])
      rcases zL aa with ⟨c6,aa⟩ | ⟨c6,aa⟩
      ·obtain rfl:=zb aa
       exact yEx X0 hC hE (Z2 ++ [Hq c6]) (.tup [.atom (.pointer none),I cd.2]) (show LeV (.tup [.atom (.pointer none),I cd.2]) (.tup [.dop (poQ none),I cd.2]) from inferInstance)
      ·exact yB X0 hC az () aa (Z2 ++ [Hq c6,qF])
def xi:Code:=(Tryz.f219.body).getD .skip
abbrev KK (b_:zg) (bq:List (zz Int)) (bj:Int):List (Nat × T):=[(0,.own (.box (.agg [eOs 16 false F1_ bq,I bj,I b_.most_])))]
abbrev KJ (parts:List (List Int)) (b_:zg) (dw:Int) (bl:List (zz Int)) (bf:Int) (l5:Int) (ki:Bool):List (Nat × T):=[(0,.own (.box (.agg [eOs 16 false F1_ bl,I bf,I b_.most_]))),(4,.d (.atom (.int .i32 l5))),(5,.d (B ki)),(11,.d (eSl 1 false F7_ parts)),(12,.d (I ((parts.length:Nat):Int))),(13,.d (I dw))]
abbrev KI (parts:List (List Int)) (b_:zg) (dw:Int) (db:List Int) (d9:Int) (bm:List (zz Int)) (bg:Int) (kj:Bool) (next:Int):List (Nat × T):=[(0,.own (.box (.agg [eOs 16 false F1_ bm,I bg,I b_.most_]))),(5,.d (B kj)),(10,.d (.atom (.int .i32 next))),(11,.d (eSl 1 false F7_ parts)),(12,.d (I ((parts.length:Nat):Int))),(13,.d (I dw)),(17,.d (eSl 1 false (eI .i64) db)),(18,.d (I ((db.length:Nat):Int))),(19,.d (I d9))]
abbrev KH (parts:List (List Int)) (b_:zg) (dw:Int) (db:List Int) (al:List (zz Int)) (dr:Int) (d9:Int) (ca:Int) (ck:Int):List (Nat × T):=[(0,.own (.box (.agg [eOs 16 false F1_ al,I ck,I b_.most_]))),(4,.d (.atom (.int .i32 dr))),(9,.d (I ca)),(10,.d (.atom (.int .i32 (IntKind.i32.wrap (((al.length:Nat):Int)))))),(11,.d (eSl 1 false F7_ parts)),(12,.d (I ((parts.length:Nat):Int))),(13,.d (I dw)),(17,.d (eSl 1 false (eI .i64) db)),(18,.d (I ((db.length:Nat):Int))),(19,.d (I d9))]
abbrev KF (parts:List (List Int)) (b_:zg) (dw:Int) (db:List Int) (al:List (zz Int)) (av:Int) (dr:Int) (gy:Bool) (d9:Int):List (Nat × T):=[(0,.own (.box (.agg [eOs 16 false F1_ al,I av,I b_.most_]))),(4,.d (.atom (.int .i32 dr))),(5,.d (B gy)),(11,.d (eSl 1 false F7_ parts)),(12,.d (I ((parts.length:Nat):Int))),(13,.d (I dw)),(17,.d (eSl 1 false (eI .i64) db)),(18,.d (I ((db.length:Nat):Int))),(19,.d (I d9))]
abbrev KG (parts:List (List Int)) (b_:zg) (bn:List (zz Int)) (bh:Int) (at_:Int) (kn:Bool) (dw:Int):List (Nat × T):=[(0,.own (.box (.agg [eOs 16 false F1_ bn,I bh,I b_.most_]))),(4,.d (.atom (.int .i32 at_))),(5,.d (B kn)),(11,.d (eSl 1 false F7_ parts)),(12,.d (I ((parts.length:Nat):Int))),(13,.d (I dw))]
theorem xG (hC:zB Tryz.prog ctr) (bu:Value):∀ (parts:List (List Int)) (b_:zg) (r0:zg × Bool),uF parts b_=some r0 → z9i Tryz.prog 219 [.atom bu,eSl 1 false F7_ parts] ([bu].zip [.box (.agg [eOs 16 false F1_ b_.nodes_,I b_.leaves_,I b_.most_])]) r0.2 (.iface 124 (.agg #[])) (.tup []) [.box (.agg [eOs 16 false F1_ r0.1.nodes_,I r0.1.leaves_,I r0.1.most_])]:=by
 intro parts b_ r0 aa
 refine z6E (tt:=y9) (nt:=105) (body:=xi) [0] zt Tryz.func219 rfl (by kernel_rfl) rfl rfl (by show (2:Nat) ≤ 105; decide) (by decide) rfl rfl rfl (fun E hE hD=>?_)
 unfold uF at aa
 refine yJ X0 hC xi [1,1] [] [0] (fun z:List (zz Int) × Int=>Ye b_ z.1 z.2=some r0) (fun z=>KK b_ z.1 z.2) [(0,.own (.box ((yg znZ (eI .i64) (eI .i64)) b_))),(1,.d (eSl 1 false F7_ parts)),(4,.d (.atom (.int .i32 0))),(5,.d (B false))] [Hh (.cut 2)] ?_ fun J1 az=>?_
 ·rintro ⟨bq,bj⟩ aa
  unfold Ye at aa
  rcases zL aa with ⟨c0,aa⟩ | ⟨c0,aa⟩
  ·refine yA X0 hC xi [1,1,1,1,0] [] [(0,.own (.box (.agg [eOs 16 false F1_ bq,I bj,I b_.most_])))] [Hq c0,Hh (.stp 0)] ?_
   obtain rfl:=zb aa
   exact yP ((zgY Tryz.prog 104 124 Tryz.underlying124).or X0) hC 2 [] fun st0=>hD rfl st0
  ·obtain rfl:=zb aa
   exact yF X0 hC .normal [(0,.own (.box (.agg [eOs 16 false F1_ bq,I bj,I b_.most_])))] [Hq c0] fun st0 h0=>hE rfl _ st0 (.inl rfl) (Wy h0 ⟨⟨rfl,rfl⟩,trivial⟩)
 ·obtain ⟨t2,ht2,aa⟩:=zf aa
  refine yL X0 hC xi [1,1,2,1,0] [J1] (fun s=>Yc parts s.1 s.2.1 s.2.2.1 s.2.2.2.1 s.2.2.2.2) (fun x=>KG parts b_ x.1 x.2.1 x.2.2.1 x.2.2.2.1 x.2.2.2.2) (b_.nodes_,b_.leaves_,0,false,0) ht2  [Ha (lnM F7_ parts)] ?_
  rintro ⟨bn,bh,at_,kn,dw⟩ m2 a8 ae hl1 J2 a6
  try unfold Yc at ae
  rcases zL ae with ⟨c1,ae⟩ | ⟨c1,ae⟩
  ·refine yJ X0 hC xi [1,1,2,1,0,0,1,1] [J1,J2] [0,4,5,11,12,13] (fun z:List (zz Int) × Int × Int × Bool=>Yd dw z.1 z.2.1 z.2.2.1 z.2.2.2=some a8) (fun z=>KJ parts b_ dw z.1 z.2.1 z.2.2.1 z.2.2.2) [(0,.own (.box (.agg [eOs 16 false F1_ bn,I bh,I b_.most_]))),(4,.d (.atom (.int .i32 at_))),(5,.d (B kn)),(11,.d (eSl 1 false F7_ parts)),(12,.d (I ((parts.length:Nat):Int))),(13,.d (I dw))] [Hq c1,Hh (.cut 0)] ?_ fun J3 bz=>?_
   ·rintro ⟨bl,bf,l5,ki⟩ ae
    unfold Yd at ae
    obtain rfl:=zb ae
    exact yB X0 hC a6 (bl,bf,l5,ki,w64 (dw + 1)) hl1 []
   ·obtain ⟨db,h0,ae⟩:=zf ae
    obtain ⟨t4,ht4,ae⟩:=zf ae
    refine yL X0 hC xi [1,1,2,1,0,0,1,1,2,0,1,1,0] [J1,J2,J3] (fun s=>Yb db s.1 s.2.1 s.2.2.1 s.2.2.2.1 s.2.2.2.2) (fun x=>KF parts b_ dw db x.1 x.2.1 x.2.2.1 x.2.2.2.1 x.2.2.2.2) (bn,bh,at_,kn,0) ht4  [Hi F7_ h0,Ha (lnM (eI .i64) db)] ?_
    rintro ⟨al,av,dr,gy,d9⟩ m4 ez ai hl2 J4 ep
    try unfold Yb at ai
    rcases zL ai with ⟨c2,ai⟩ | ⟨c2,ai⟩
    ·obtain ⟨ca,h1,ai⟩:=zf ai
     obtain ⟨j9,h2,ai⟩:=zf ai
     obtain ⟨cell,h3,ai⟩:=zf ai
     refine yJ X0 hC xi [1,1,2,1,0,0,1,1,2,0,1,1,0,0,1,1,0,0,1,1] [J1,J2,J3,J4] [0,5,10,11,12,13,17,18,19] (fun z:List (zz Int) × Int × Bool × Int=>qN d9 z.1 z.2.1 z.2.2.1 z.2.2.2=some ez) (fun z=>KI parts b_ dw db d9 z.1 z.2.1 z.2.2.1 z.2.2.2) [(0,.own (.box (.agg [eOs 16 false F1_ al,I av,I b_.most_]))),(4,.d (.atom (.int .i32 dr))),(5,.d (B gy)),(9,.d (I ca)),(10,.d (.atom (.int .i32 cell))),(11,.d (eSl 1 false F7_ parts)),(12,.d (I ((parts.length:Nat):Int))),(13,.d (I dw)),(17,.d (eSl 1 false (eI .i64) db)),(18,.d (I ((db.length:Nat):Int))),(19,.d (I d9))] [Hq c2,Hi (eI .i64) h1,Hn (iL F1_ h2),Hs (iM F1_ h2),Hn (⟨arJ (by kernel_rfl) (i0 h3),(iL (eI .i32) h3).2⟩:Zb y9 162 ((zz.toL j9).map (eI .i32)) ca=true ∧ ca.toNat < ((zz.toL j9).map (eI .i32)).length),Hh (.op 0),Hh (.f),Hx (.a (eOs 16 false F1_ al)) (rfl:some (eOs 16 false F1_ al:A)=some (eOs 16 false F1_ al)),Hs (iM F1_ h2),Hh (.f),Hs (iM (eI .i32) h3),Hh (.cut 0)] ?_ fun J5 fc=>?_
     ·rintro ⟨bm,bg,kj,next⟩ ai
      unfold qN at ai
      obtain rfl:=zb ai
      exact yB X0 hC ep (bm,bg,next,kj,w64 (d9 + 1)) hl2 []
     ·rcases zL ai with ⟨c3,ai⟩ | ⟨c3,ai⟩
      ·refine yJ X0 hC xi [1,1,2,1,0,0,1,1,2,0,1,1,0,0,1,1,0,0,1,1,2,1,0,1] [J1,J2,J3,J4,J5] [0,4,9,10,11,12,13,17,18,19] (fun z:Int=>xg al dr d9 ca z=some ez) (fun z=>KH parts b_ dw db al dr d9 ca z) [(0,.own (.box (.agg [eOs 16 false F1_ al,I av,I b_.most_]))),(4,.d (.atom (.int .i32 dr))),(5,.d (B gy)),(9,.d (I ca)),(10,.d (.atom (.int .i32 (IntKind.i32.wrap (((al.length:Nat):Int)))))),(11,.d (eSl 1 false F7_ parts)),(12,.d (I ((parts.length:Nat):Int))),(13,.d (I dw)),(17,.d (eSl 1 false (eI .i64) db)),(18,.d (I ((db.length:Nat):Int))),(19,.d (I d9))] [Hq c3,Ha (lnM F1_ al),Hh (.cut 0)] ?_ fun J6 gz=>?_
       ·rintro ck ai
        unfold xg at ai
        obtain ⟨ik,h4,ai⟩:=zf ai
        obtain ⟨bk,h5,ai⟩:=zf ai
        obtain ⟨arr,h6,ai⟩:=zf ai
        replace h6:=zb h6
        obtain ⟨g0,ai⟩:=gdE ai
        exact yB X0 hC fc (((al.set dr.toNat arr) ++ ([(zz.mk 0 0 0 0 0 0 0 0 0 0 0 0 0 0 0 0)]:List (zz Int))),ck,true,IntKind.i32.wrap (((al.length:Nat):Int))) ai [Hn (iL F1_ h4),Hs (iM F1_ h4),Hn (⟨arJ (by kernel_rfl) (i0 h5),(iL (eI .i32) h5).2⟩:Zb y9 162 ((zz.toL ik).map (eI .i32)) ca=true ∧ ca.toNat < ((zz.toL ik).map (eI .i32)).length),Hh (.op 0),Hh (.f),Hx (.a (eOs 16 false F1_ al)) (rfl:some (eOs 16 false F1_ al:A)=some (eOs 16 false F1_ al)),Hs (iM F1_ h4),Hh (.f),Hs (iM (eI .i32) h5),Hh (.f),Hx (.a (eOs 16 false F1_ al)) (rfl:some (eOs 16 false F1_ al:A)=some (eOs 16 false F1_ al)),Hs (iM F1_ h4),Hh (.f),Hs (iM (eI .i32) h5),Hx (.l ((zz.toL arr).map (eI .i32))) ((zz.setL (eI .i32) ik ca (IntKind.i32.wrap (((al.length:Nat):Int)))).trans (congrArg (fun q=>(zz.toL q).map (eI .i32)) h6)),Hl (sM F1_ al dr arr),Hx (.l [eOs 16 false F1_ (al.set dr.toNat arr),I ck,I b_.most_]) (rfl:([eOs 16 false F1_ (al.set dr.toNat arr),I ck,I b_.most_]:List A)=[eOs 16 false F1_ (al.set dr.toNat arr),I ck,I b_.most_]),Hq (dM F1_ ([(zz.mk 0 0 0 0 0 0 0 0 0 0 0 0 0 0 0 0)]:List (zz Int))),Hn (dM F1_ ([(zz.mk 0 0 0 0 0 0 0 0 0 0 0 0 0 0 0 0)]:List (zz Int))),Hn (aL F1_ F1_ g0),Hl (aM F1_ (al.set dr.toNat arr) ([(zz.mk 0 0 0 0 0 0 0 0 0 0 0 0 0 0 0 0)]:List (zz Int)))]
       ·rcases zL ai with ⟨c4,ai⟩ | ⟨c4,ai⟩
        ·rcases zL ai with ⟨c5,ai⟩ | ⟨c5,ai⟩
         ·let Z0:List HO:=(Hq c4 :: Hq c4 :: Hq c4 :: (rpN 5 (Hq c5) [Ha (lnM F1_ al),Hq c5,Hq c4,Hq c5,Hq c4]))
          rcases zL ai with ⟨c6,ai⟩ | ⟨c6,ai⟩
          ·exact yB X0 hC gz (w64 (av + 1)) ai (Z0 ++ (rpN 9 (Hq c6) [Hq c4,Hq c6,Hq c4,qT]))
          ·obtain ⟨cm,h7,ai⟩:=zf ai
           let Z1:List HO:=(Z0 ++ (rpN 6 (Hq c6) [Hn (iL F1_ h7),Hq c6,Hs (iM F1_ h7),Hq c6,Hq c6,Hq c4,Hq c6,Hq c4]))
           rcases zL ai with ⟨c7,ai⟩ | ⟨c7,ai⟩
           ·exact yB X0 hC gz (w64 (av + 1)) ai (Z1 ++ [Hq c7])
           ·exact yB X0 hC gz av ai (Z1 ++ [Hq c7])
         ·obtain ⟨cn,h8,ai⟩:=zf ai
          let Z2:List HO:=(Hq c4 :: Hq c4 :: Hq c4 :: (rpN 6 (Hq c5) (Hq c4 :: Hq c5 :: Hq c4 :: (rpN 6 qF [Hn (iL F1_ h8),qF,Hs (iM F1_ h8),qF,qF,Hq c4,qF,Hq c4]))))
          rcases zL ai with ⟨c8,ai⟩ | ⟨c8,ai⟩
          ·exact yB X0 hC gz (w64 (av + 1)) ai (Z2 ++ [Hq c8])
          ·exact yB X0 hC gz av ai (Z2 ++ [Hq c8])
        ·exact yB X0 hC gz av ai (rpN 7 (Hq c4) [qF])
      ·exact yB X0 hC fc (al,av,gy,cell) ai [Hq c3]
    ·obtain rfl:=zb ai
     obtain rfl:=hl2
     exact yB X0 hC bz (al,av,dr,gy) ae [Hq c2]
  ·obtain rfl:=zb ae
   obtain rfl:=hl1
   exact yB X0 hC az (bn,bh) aa [Hq c1]
def yz:Code:=(Tryz.f218.body).getD .skip
abbrev UI (x_:zj) (ar:Int) (bn:List (zz Int)) (bh:Int) (cw:Int):List (Nat × T):=[(1,.d (.sptr (jH x_))),(2,.own (.box (.agg [eOs 16 false F1_ bn,I bh,I cw]))),(15,.d (eSl 1 false F7_ x_.p_)),(16,.d (I ((x_.p_.length:Nat):Int))),(17,.d (I ar))]
abbrev UH (x_:zj) (ar:Int) (ax:List Int) (dy:Int) (al:List (zz Int)) (av:Int) (cx:Int):List (Nat × T):=[(1,.d (.sptr (jH x_))),(2,.own (.box (.agg [eOs 16 false F1_ al,I av,I cx]))),(7,.d (eSl 1 false (eI .i64) ax)),(15,.d (eSl 1 false F7_ x_.p_)),(16,.d (I ((x_.p_.length:Nat):Int))),(17,.d (I ar)),(24,.d (eSl 1 false F7_ x_.short_)),(25,.d (I ((x_.short_.length:Nat):Int))),(26,.d (I dy))]
abbrev UE (x_:zj) (ar:Int) (ax:List Int) (dy:Int) (aq:List Int) (bm:List (zz Int)) (bg:Int) (ce:Int) (em:Int):List (Nat × T):=[(1,.d (.sptr (jH x_))),(2,.own (.box (.agg [eOs 16 false F1_ bm,I bg,I ce]))),(7,.d (eSl 1 false (eI .i64) ax)),(9,.d (eSl 1 false (eI .i64) aq)),(15,.d (eSl 1 false F7_ x_.p_)),(16,.d (I ((x_.p_.length:Nat):Int))),(17,.d (I ar)),(24,.d (eSl 1 false F7_ x_.short_)),(25,.d (I ((x_.short_.length:Nat):Int))),(26,.d (I dy)),(33,.d (eSl 1 false F7_ x_.all_)),(34,.d (I ((x_.all_.length:Nat):Int))),(35,.d (I em))]
abbrev UF (x_:zj) (ar:Int) (ax:List Int) (bl:List (zz Int)) (bf:Int) (cg:Int) (dy:Int):List (Nat × T):=[(1,.d (.sptr (jH x_))),(2,.own (.box (.agg [eOs 16 false F1_ bl,I bf,I cg]))),(7,.d (eSl 1 false (eI .i64) ax)),(15,.d (eSl 1 false F7_ x_.p_)),(16,.d (I ((x_.p_.length:Nat):Int))),(17,.d (I ar)),(24,.d (eSl 1 false F7_ x_.short_)),(25,.d (I ((x_.short_.length:Nat):Int))),(26,.d (I dy))]
abbrev UG (x_:zj) (bq:List (zz Int)) (bj:Int) (dc:Int) (ar:Int):List (Nat × T):=[(1,.d (.sptr (jH x_))),(2,.own (.box (.agg [eOs 16 false F1_ bq,I bj,I dc]))),(15,.d (eSl 1 false F7_ x_.p_)),(16,.d (I ((x_.p_.length:Nat):Int))),(17,.d (I ar))]
theorem Ko (hC:zB Tryz.prog ctr) (bu:Value):∀ (x0:K4) (x_:zj) (b_:zg) (r0:zg × Bool),Zq x0 x_ b_=some r0 → z9i Tryz.prog 218 [.agg [],.sptr (.agg [.agg [I x_.m_.Inputs,I x_.m_.Outputs,eSl 1 false yQ x_.m_.Rows],eSl 1 false F7_ x_.q_,eSl 1 false F7_ x_.p_,eSl 1 false F7_ x_.all_,eSl 1 false w8 x_.each_,eSl 1 false F7_ x_.short_,eSl 1 false F7_ x_.exact_]),.atom bu] ([bu].zip [.box (.agg [eOs 16 false F1_ b_.nodes_,I b_.leaves_,I b_.most_])]) r0.2 (.iface 124 (.agg #[])) (.tup []) [.box (.agg [eOs 16 false F1_ r0.1.nodes_,I r0.1.leaves_,I r0.1.most_])]:=by
 intro x0 x_ b_ r0 aa
 refine z6E (tt:=y9) (nt:=48) (body:=yz) [2] zt Tryz.func218 rfl (by kernel_rfl) rfl rfl (by show (3:Nat) ≤ 48; decide) (by decide) rfl rfl rfl (fun E hE hD=>?_)
 unfold Zq at aa
 obtain ⟨t1,ht1,aa⟩:=zf aa
 refine yL X0 hC yz [1,1,0] [] (fun s=>qp x_ b_ s.1 s.2.1 s.2.2.1 s.2.2.2) (fun x=>UG x_ x.1 x.2.1 x.2.2.1 x.2.2.2) (b_.nodes_,b_.leaves_,b_.most_,0) ht1  [Ha (lnM F7_ x_.p_)] ?_
 rintro ⟨bq,bj,dc,ar⟩ m1 a8 ae hl1 J1 az
 try unfold qp at ae
 rcases zL ae with ⟨c0,ae⟩ | ⟨c0,ae⟩
 ·refine yJ X0 hC yz [1,1,0,0,1,1] [J1] [1,2,15,16,17] (fun z:List (zz Int) × Int × Int=>qr ar z.1 z.2.1 z.2.2=some a8) (fun z=>UI x_ ar z.1 z.2.1 z.2.2) [(1,.d (.sptr (jH x_))),(2,.own (.box (.agg [eOs 16 false F1_ bq,I bj,I dc]))),(15,.d (eSl 1 false F7_ x_.p_)),(16,.d (I ((x_.p_.length:Nat):Int))),(17,.d (I ar))] [Hq c0,Hh (.cut 0)] ?_ fun J2 a6=>?_
  ·rintro ⟨bn,bh,cw⟩ ae
   unfold qr at ae
   obtain rfl:=zb ae
   exact yB X0 hC az (bn,bh,cw,w64 (ar + 1)) hl1 []
  ·obtain ⟨ax,h0,ae⟩:=zf ae
   obtain ⟨t3,ht3,ae⟩:=zf ae
   refine yL X0 hC yz [1,1,0,0,1,1,2,0,1,1,0] [J1,J2] (fun s=>qo x_ b_ ax s.1 s.2.1 s.2.2.1 s.2.2.2) (fun x=>UF x_ ar ax x.1 x.2.1 x.2.2.1 x.2.2.2) (bq,bj,dc,0) ht3  [Hi F7_ h0,Ha (lnM F7_ x_.short_)] ?_
   rintro ⟨bl,bf,cg,dy⟩ m3 ez ai hl2 J3 bz
   try unfold qo at ai
   rcases zL ai with ⟨c1,ai⟩ | ⟨c1,ai⟩
   ·refine yJ X0 hC yz [1,1,0,0,1,1,2,0,1,1,0,0,1,1] [J1,J2,J3] [1,2,7,15,16,17,24,25,26] (fun z:List (zz Int) × Int × Int=>qq dy z.1 z.2.1 z.2.2=some ez) (fun z=>UH x_ ar ax dy z.1 z.2.1 z.2.2) [(1,.d (.sptr (jH x_))),(2,.own (.box (.agg [eOs 16 false F1_ bl,I bf,I cg]))),(7,.d (eSl 1 false (eI .i64) ax)),(15,.d (eSl 1 false F7_ x_.p_)),(16,.d (I ((x_.p_.length:Nat):Int))),(17,.d (I ar)),(24,.d (eSl 1 false F7_ x_.short_)),(25,.d (I ((x_.short_.length:Nat):Int))),(26,.d (I dy))] [Hq c1,Hh (.cut 0)] ?_ fun J4 ep=>?_
    ·rintro ⟨al,av,cx⟩ ai
     unfold qq at ai
     obtain rfl:=zb ai
     exact yB X0 hC bz (al,av,cx,w64 (dy + 1)) hl2 []
    ·obtain ⟨aq,h1,ai⟩:=zf ai
     obtain ⟨t5,ht5,ai⟩:=zf ai
     refine yL X0 hC yz [1,1,0,0,1,1,2,0,1,1,0,0,1,1,2,0,1,1,0] [J1,J2,J3,J4] (fun s=>qn x_ b_ ax aq s.1 s.2.1 s.2.2.1 s.2.2.2) (fun x=>UE x_ ar ax dy aq x.1 x.2.1 x.2.2.1 x.2.2.2) (bl,bf,cg,0) ht5  [Hi F7_ h1,Ha (lnM F7_ x_.all_)] ?_
     rintro ⟨bm,bg,ce,em⟩ m5 md ba hl3 J5 fc
     try unfold qn at ba
     rcases zL ba with ⟨c2,ba⟩ | ⟨c2,ba⟩
     ·obtain ⟨dm,h2,ba⟩:=zf ba
      refine yA X0 hC yz [1,1,0,0,1,1,2,0,1,1,0,0,1,1,2,0,1,1,0,0,1,1,0,0,1] [J1,J2,J3,J4,J5] [(1,.d (.sptr (jH x_))),(2,.own (.box (.agg [eOs 16 false F1_ bm,I bg,I ce]))),(7,.d (eSl 1 false (eI .i64) ax)),(9,.d (eSl 1 false (eI .i64) aq)),(11,.d (eSl 1 false (eI .i64) dm)),(15,.d (eSl 1 false F7_ x_.p_)),(16,.d (I ((x_.p_.length:Nat):Int))),(17,.d (I ar)),(24,.d (eSl 1 false F7_ x_.short_)),(25,.d (I ((x_.short_.length:Nat):Int))),(26,.d (I dy)),(33,.d (eSl 1 false F7_ x_.all_)),(34,.d (I ((x_.all_.length:Nat):Int))),(35,.d (I em))] [Hq c2,Hi F7_ h2,Hh (.stp 0)] ?_
      obtain ⟨r_,h3,ba⟩:=zf ba
      rcases zL ba with ⟨c3,ba⟩ | ⟨c3,ba⟩
      ·obtain rfl:=zb ba
       obtain rfl:=hl3
       obtain rfl:=zb ai
       obtain rfl:=hl2
       obtain rfl:=zb ae
       obtain rfl:=hl1
       obtain rfl:=zb aa
       exact yD X0 hC 5 [2] ((xG hC bu _ _ _ h3).2 c3) [.atom bu,z8t ([ax,aq,dm]:List (List Int))] inferInstance [Hm (shM F7_ F7_ ([ax,aq,dm]))] fun st0=>hD rfl st0
      ·obtain rfl:=zb ba
       exact yB ((Y1 (P:=Tryz.prog) y9 [2] ((xG hC bu _ _ _ h3).1 c3) 44).or X0) hC fc (r_.1.nodes_,r_.1.leaves_,r_.1.most_,w64 (em + 1)) hl3 [Hm (shM F7_ F7_ ([ax,aq,dm])),Hn (VD (f:=.fn 219 []) (xs:=[.atom bu,w8 ([ax,aq,dm]:List (List Int))]) (ls:=[(bu,.box (.agg [eOs 16 false F1_ bm,I bg,I ce]))]) (r:=.tup []) (ys:=[.box (.agg [eOs 16 false F1_ r_.1.nodes_,I r_.1.leaves_,I r_.1.most_])]) [.atom bu,z8t ([ax,aq,dm]:List (List Int))] (show z0s [.atom bu,z8t ([ax,aq,dm]:List (List Int))] [.atom bu,w8 ([ax,aq,dm]:List (List Int))] from inferInstance))]
     ·obtain rfl:=zb ba
      obtain rfl:=hl3
      exact yB X0 hC ep (bm,bg,ce) ai [Hq c2]
   ·obtain rfl:=zb ai
    obtain rfl:=hl2
    exact yB X0 hC a6 (bl,bf,cg) ae [Hq c1]
 ·obtain rfl:=zb ae
  obtain rfl:=hl1
  obtain rfl:=zb aa
  exact yF X0 hC .normal [(2,.own (.box (.agg [eOs 16 false F1_ bq,I bj,I dc])))] [Hq c0] fun st0 h0=>hE rfl _ st0 (.inl rfl) (Wy h0 ⟨⟨rfl,rfl⟩,trivial⟩)
def yC:Code:=(Tryz.f228.body).getD .skip
def yu:zO:=spF (α:=List (List Int) × List Int × Unit) (ρ:=Int × Bool) 228 (fun x=>[w8 x.1,F7_ x.2.1,(zaY 125) x.2.2]) (fun r=>.tup [(eI .i64) r.1,eB r.2]) (fun x=>yV x.1 x.2.1 x.2.2) [] (by
 rintro ⟨a0,a1,a2⟩ ⟨b0,b1,b2⟩ h
 have e0:=vL.inj (f:=w8) _ _ (List.cons.inj h).1
 replace h:=(List.cons.inj h).2
 have e1:=vL.inj (f:=F7_) _ _ (List.cons.inj h).1
 replace h:=(List.cons.inj h).2
 have e2:=vL.inj (f:=(zaY 125)) _ _ (List.cons.inj h).1
 subst e0 e1 e2
 rfl)
abbrev uB (x_:List (List Int)) (target:List Int) (i_:Int):List (Nat × T):=[(0,.d (eSl 1 false F7_ x_)),(1,.d (eSl 1 false (eI .i64) target)),(2,.d (.fn 125 [])),(8,.d (I ((x_.length:Nat):Int))),(9,.d (I i_))]
abbrev uA (x_:List (List Int)) (target:List Int) (dx:Int) (j_:Int):List (Nat × T):=[(0,.d (eSl 1 false F7_ x_)),(1,.d (eSl 1 false (eI .i64) target)),(2,.d (.fn 125 [])),(8,.d (I ((x_.length:Nat):Int))),(9,.d (I dx)),(10,.d (I j_))]
theorem qL (hC:zB Tryz.prog ctr) (h05:ctr.Has wY):yu.Ok Tryz.prog:=by
 refine zD ?_
 rintro ⟨x_,target,cmp⟩ r0 aa
 try unfold yV at aa
 refine yO false [(6,none),(7,none)] yC 49 Tryz.func228 fun E hE=>?_
 refine yJ X0 hC yC [1,1,1] [] [0,1,2,8,9] (fun z:Int=>yx x_ target z=some r0) (fun z=>uB x_ target z) [(0,.d (eSl 1 false F7_ x_)),(1,.d (eSl 1 false (eI .i64) target)),(2,.d (.fn 125 [])),(8,.d (I ((x_.length:Nat):Int))),(9,.d (I 0)),(10,.d (I ((x_.length:Nat):Int)))] [Ha (lnM F7_ x_),Hh (.cut 1)] ?_ fun J1 az=>?_
 ·rintro i_ aa
  unfold yx at aa
  rcases zL aa with ⟨c0,aa⟩ | ⟨c0,aa⟩
  ·obtain ⟨j7,h0,aa⟩:=zf aa
   obtain ⟨r_,h1,aa⟩:=zf aa
   obtain rfl:=zb aa
   exact yE X0 hC hE (rpN 4 (Hq c0) [Hi F7_ h0,Hq c0,Hq c0,Hq c0,Hc h05 (x:=(j7,target)) h1 (loC F7_ j7 <| loC F7_ target <| loN),Hq c0,Hq c0])
  ·obtain rfl:=zb aa
   exact yE X0 hC hE (rpN 9 (Hq c0) [])
 ·obtain ⟨t2,ht2,aa⟩:=zf aa
  refine yL X0 hC yC [1,1,1,2,0] [J1] (fun s=>yw x_ target s.1 s.2) (fun x=>uA x_ target x.1 x.2) (0,((x_.length:Nat):Int)) ht2  [] ?_
  rintro ⟨dx,j_⟩ m2 a8 ae hl1 J2 a6
  try unfold yw at ae
  rcases zL ae with ⟨c1,ae⟩ | ⟨c1,ae⟩
  ·obtain ⟨jr,h2,ae⟩:=zf ae
   obtain ⟨ah,h3,ae⟩:=zf ae
   let Z0:List HO:=[Hq c1,Hi F7_ h2,Hc h05 (x:=(jr,target)) h3 (loC F7_ jr <| loC F7_ target <| loN)]
   rcases zL ae with ⟨c2,ae⟩ | ⟨c2,ae⟩
   ·obtain rfl:=zb ae
    exact yB ((zpG Tryz.prog).or X0) hC a6 (w64 ((w64 (Int.fdiv (IntKind.u64.wrap (w64 (dx + j_))) (2 ^ 1))) + 1),j_) hl1 (Z0 ++ [Hq c2])
   ·obtain rfl:=zb ae
    exact yB ((zpG Tryz.prog).or X0) hC a6 (dx,w64 (Int.fdiv (IntKind.u64.wrap (w64 (dx + j_))) (2 ^ 1))) hl1 (Z0 ++ [Hq c2])
  ·obtain rfl:=zb ae
   obtain rfl:=hl1
   exact yB X0 hC az dx aa [Hq c1]
def z9e:Code:=(Tryz.f225.body).getD .skip
def z06:zO:=spF (α:=List (List Int) × List Int) (ρ:=Bool) 225 (fun x=>[w8 x.1,F7_ x.2]) (fun r=>eB r) (fun x=>z6h x.1 x.2) [] (QM)
theorem zaa (hC:zB Tryz.prog ctr) (h1y:ctr.Has yu):z06.Ok Tryz.prog:=by
 refine zD ?_
 rintro ⟨l_,w_⟩ r0 aa
 try unfold z6h at aa
 refine yO true [(4,none)] z9e 14 Tryz.func225 fun E hE=>?_
 obtain ⟨r_,h0,aa⟩:=zf aa
 obtain rfl:=zb aa
 exact yE X0 hC hE [Hc h1y (x:=(l_,w_,())) h0 (loC w8 l_ <| loC F7_ w_ <| loC (zaY 125) () <| loN)]
def z2M:Code:=(Tryz.f224.body).getD .skip
def jY:zO:=spF (α:=List Int × List (List Int)) (ρ:=Bool) 224 (fun x=>[F7_ x.1,zgp x.2]) (fun r=>eB r) (fun x=>Xv x.1 x.2) [] (QM)
theorem z3r (hC:zB Tryz.prog ctr) (h1z:ctr.Has z06):jY.Ok Tryz.prog:=by
 refine zD ?_
 rintro ⟨w_,x1⟩ r0 aa
 try unfold Xv at aa
 refine yO true [(3,none)] z2M 7 Tryz.func224 fun E hE=>?_
 obtain ⟨r_,h0,aa⟩:=zf aa
 obtain rfl:=zb aa
 exact yE X0 hC hE [Hc h1z (x:=(x1,w_)) h0 (loC w8 x1 <| loC F7_ w_ <| loN)]
def wC:Code:=(Tryz.f227.body).getD .skip
def wr:zO:=spF (α:=List (List Int) × List (List Int)) (ρ:=Int) 227 (fun x=>[w8 x.1,(Qk 224 zgp) x.2]) (fun r=>(eI .i64) r) (fun x=>vu x.1 x.2) [] (by
 rintro ⟨a0,a1⟩ ⟨b0,b1⟩ h
 have e0:=vL.inj (f:=w8) _ _ (List.cons.inj h).1
 replace h:=(List.cons.inj h).2
 have e1:=vL.inj (f:=(Qk 224 zgp)) _ _ (List.cons.inj h).1
 subst e0 e1
 rfl)
abbrev YF:List (Nat × T):=[]
abbrev YE (s_:List (List Int)) (f_:List (List Int)) (x8:Int):List (Nat × T):=[(0,.d (eSl 1 false F7_ s_)),(1,.d (.fn 224 [.sptr (eSl 1 false F7_ f_)])),(7,.d (I ((s_.length:Nat):Int))),(8,.d (I x8))]
theorem W1 (hC:zB Tryz.prog ctr) (h0z:ctr.Has jY):wr.Ok Tryz.prog:=by
 refine zD ?_
 rintro ⟨s_,f_⟩ r0 aa
 try unfold vu at aa
 refine yO true [(4,none)] wC 19 Tryz.func227 fun E hE=>?_
 refine yJ X0 hC wC [1] [] [] (fun z:Unit=>wv=some r0) (fun z=>YF) [(0,.d (eSl 1 false F7_ s_)),(1,.d (.fn 224 [.sptr (eSl 1 false F7_ f_)]))] [Hh (.cut 1)] ?_ fun J1 az=>?_
 ·rintro ⟨⟩ aa
  unfold wv at aa
  obtain rfl:=zb aa
  exact yE X0 hC hE []
 ·obtain ⟨t2,ht2,aa⟩:=zf aa
  refine yL X0 hC wC [1,2,1,0] [J1] (fun s=>wu s_ f_ s) (fun x=>YE s_ f_ x) 0 ht2  [Ha (lnM F7_ s_)] ?_
  rintro x8 m2 a8 ae hl1 J2 a6
  try unfold wu at ae
  rcases zL ae with ⟨c0,ae⟩ | ⟨c0,ae⟩
  ·obtain ⟨da,h0,ae⟩:=zf ae
   obtain ⟨r_,h1,ae⟩:=zf ae
   let Z0:List HO:=[Hq c0,Hi F7_ h0,Hc h0z (x:=(da,f_)) h1 (loC F7_ da <| loC zgp f_ <| loN)]
   rcases zL ae with ⟨c1,ae⟩ | ⟨c1,ae⟩
   ·obtain rfl:=zb ae
    obtain rfl:=hl1
    obtain rfl:=zb aa
    exact yE X0 hC hE (Z0 ++ [Hq c1])
   ·obtain rfl:=zb ae
    exact yB X0 hC a6 (w64 (x8 + 1)) hl1 (Z0 ++ [Hq c1])
  ·obtain rfl:=zb ae
   obtain rfl:=hl1
   exact yB X0 hC az () aa [Hq c0]
def xa:Code:=(Tryz.f223.body).getD .skip
def wh:zO:=spF (α:=List (List Int) × List (List Int)) (ρ:=List (List Int)) 223 (fun x=>[z8s x.1,(Qk 224 zgp) x.2]) (fun r=>z8s r) (fun x=>wV x.1 x.2) [true,false] (by
 rintro ⟨a0,a1⟩ ⟨b0,b1⟩ h
 have e0:=vL.inj (f:=z8s) _ _ (List.cons.inj h).1
 replace h:=(List.cons.inj h).2
 have e1:=vL.inj (f:=(Qk 224 zgp)) _ _ (List.cons.inj h).1
 subst e0 e1
 rfl)
abbrev Y4 (cr:List (List Int)) (i_:Int):List (Nat × T):=[(0,.own (eOs 1 false F7_ cr)),(5,.d (I i_))]
abbrev Y3 (ir:List (List Int)) (j_:Int) (kg:List (List Int)) (mr:Int):List (Nat × T):=[(0,.own (eOs 1 false F7_ kg)),(1,.d (.fn 224 [.sptr (eSl 1 false F7_ ir)])),(5,.d (I mr)),(6,.d (I j_))]
abbrev Y2 (ir:List (List Int)) (dg:List (List Int)) (dx:Int) (j_:Int):List (Nat × T):=[(0,.own (eOs 1 false F7_ dg)),(1,.d (.fn 224 [.sptr (eSl 1 false F7_ ir)])),(5,.d (I dx)),(6,.d (I j_))]
def zN:XH Tryz.prog:=((zpI zt 41).or X0)
theorem Xu (hC:zB Tryz.prog ctr) (h0N:ctr.Has wr) (h0z:ctr.Has jY):wh.Ok Tryz.prog:=by
 refine zD ?_
 rintro ⟨s_,ir⟩ r0 aa
 try unfold wV at aa
 refine yO true [(4,none)] xa 42 Tryz.func223 fun E hE=>?_
 refine z6X (y:=eOs 1 false F7_ s_) rfl 0 (by kernel_rfl) (by kernel_rfl) fun bo hv0=>?_
 obtain ⟨r_,h0,aa⟩:=zf aa
 let Z0:List HO:=[Hg (z1L h0N),Hm (shM F7_ F7_ s_),Hs (z1M h0N (x:=(s_,ir)) h0 (loC w8 s_ <| loC (Qk 224 zgp) ir <| loN))]
 rcases zL aa with ⟨c0,aa⟩ | ⟨c0,aa⟩
 ·obtain rfl:=zb aa
  exact yE zN hC hE (Z0 ++ [Hq c0])
 ·refine yJ zN hC xa [1,1,1] [] [0,5] (fun z:List (List Int) × Int=>wj z.1 z.2=some r0) (fun z=>Y4 z.1 z.2) [(0,.own (eOs 1 false F7_ s_)),(1,.d (.fn 224 [.sptr (eSl 1 false F7_ ir)])),(5,.d (I r_))] (Z0 ++ [Hq c0,Hh (.cut 0)]) ?_ fun J1 az=>?_
  ·rintro ⟨cr,i_⟩ aa
   unfold wj at aa
   obtain ⟨g0,aa⟩:=gdE aa
   obtain ⟨g1,aa⟩:=gdE aa
   obtain ⟨g2,aa⟩:=gdE aa
   obtain rfl:=zb aa
   exact yE ((xVc zt 38 1 0 bo i_).or ((xVw zt 38 0 bo).or zN)) hC hE [Hn (⟨.inl rfl,rfl⟩:(T.als 0 [] 0 0=T.als 0 [] 0 0 ∨ T.als 0 [] 0 0=T.d (.atom bo)) ∧ some bo=some bo),Hn (⟨g0.1,cuB F7_ g0⟩:(0:Int) ≤ i_ ∧ i_.toNat ≤ (cr.map F7_).length),Hn (⟨rfl,rfl⟩:T.d (.atom (V9 1 bo i_))=T.d (.atom (V9 1 bo i_)) ∧ some bo=some bo),Hn (⟨g1.1,cuB F7_ g1,dM F7_ cr⟩:(0:Int) ≤ i_ ∧ i_.toNat ≤ (cr.map F7_).length ∧ A.areD (cr.map F7_)=true),Hx (.l ((cr.take i_.toNat ++ List.replicate (cr.length - i_.toNat) []).map F7_)) (vcM F7_ cr i_.toNat ([]:List Int)),Hn g2.1,Hn (cuB F7_ g2),Hl (cuM F7_ (cr.take i_.toNat ++ List.replicate (cr.length - i_.toNat) []) i_)]
  ·obtain ⟨t2,ht2,aa⟩:=zf aa
   refine yL zN hC xa [1,1,1,2,1,0] [J1] (fun s=>wi ir s.1 s.2.1 s.2.2) (fun x=>Y2 ir x.1 x.2.1 x.2.2) (s_,r_,w64 (r_ + 1)) ht2  [] ?_
   rintro ⟨dg,dx,j_⟩ m2 a8 ae hl1 J2 a6
   try unfold wi at ae
   let Z1:List HO:=[Ha (lnM F7_ dg)]
   rcases zL ae with ⟨c1,ae⟩ | ⟨c1,ae⟩
   ·refine yJ zN hC xa [1,1,1,2,1,0,0,1] [J1,J2] [0,1,5,6] (fun z:List (List Int) × Int=>yZ j_ z.1 z.2=some a8) (fun z=>Y3 ir j_ z.1 z.2) [(0,.own (eOs 1 false F7_ dg)),(1,.d (.fn 224 [.sptr (eSl 1 false F7_ ir)])),(5,.d (I dx)),(6,.d (I j_))] (Z1 ++ [Hq c1,Hh (.cut 0)]) ?_ fun J3 bz=>?_
    ·rintro ⟨kg,mr⟩ ae
     unfold yZ at ae
     obtain rfl:=zb ae
     exact yB zN hC a6 (kg,mr,w64 (j_ + 1)) hl1 []
    ·obtain ⟨da,h1,ae⟩:=zf ae
     obtain ⟨ah,h2,ae⟩:=zf ae
     let Z2:List HO:=[Hn (iL F7_ h1),Hs (iM F7_ h1),Hc h0z (x:=(da,ir)) h2 (loC F7_ da <| loC zgp ir <| loN)]
     rcases zL ae with ⟨c2,ae⟩ | ⟨c2,ae⟩
     ·obtain ⟨km,h3,ae⟩:=zf ae
      exact yB zN hC bz ((dg.set dx.toNat da),w64 (dx + 1)) ae (Z2 ++ [Hq c2,Hn (iL F7_ h3),Hs (iM F7_ h3),Hs (iM F7_ h3),Hl (sM F7_ dg dx da)])
     ·exact yB zN hC bz (dg,dx) ae (Z2 ++ [Hq c2])
   ·obtain rfl:=zb ae
    obtain rfl:=hl1
    exact yB zN hC az (dg,dx) aa (Z1 ++ [Hq c1])
def z5r:Code:=(Tryz.f221.body).getD .skip
def YN:zO:=spF (α:=List (List Int) × List (List Int) × Int) (ρ:=List (List Int) × Int) 221 (fun x=>[w8 x.1,w8 x.2.1,(eI .i64) x.2.2]) (fun r=>.tup [Uh r.1,(eI .i64) r.2]) (fun x=>z04 x.1 x.2.1 x.2.2) [] (z6I)
theorem z69 (hC:zB Tryz.prog ctr) (h0f:ctr.Has Xw) (h0u:ctr.Has wa) (h1A:ctr.Has wh) (h03:ctr.Has vN):YN.Ok Tryz.prog:=by
 refine zD ?_
 rintro ⟨a_,b_,inputs⟩ r0 aa
 try unfold z04 at aa
 refine yO false [(6,none),(7,none)] z5r 24 Tryz.func221 fun E hE=>?_
 obtain ⟨r_,h0,aa⟩:=zf aa
 let Z0:List HO:=[Hg (z1L h0f),Hm (shM w8 w8 ([a_,b_])),Hs (z1M h0f (x:=(inputs,[a_,b_])) h0 (loC (eI .i64) inputs <| loC (eSl 1 true w8) ([a_,b_]:List (List (List Int))) <| loN))]
 rcases zL aa with ⟨c0,aa⟩ | ⟨c0,aa⟩
 ·obtain rfl:=zb aa
  exact yEx X0 hC hE (Z0 ++ [Hq c0,Hm (shM F7_ F7_ [])]) (.tup [eSl 1 true F3_ [],I r_]) (show LeV (.tup [eSl 1 true F3_ [],I r_]) (.tup [eSl 1 true F3_ ([]:List (List Int)),I r_]) from inferInstance)
 ·obtain ⟨ah,h1,aa⟩:=zf aa
  obtain ⟨aj,h2,aa⟩:=zf aa
  obtain ⟨aw,h3,aa⟩:=zf aa
  obtain rfl:=zb aa
  exact yE X0 hC hE (Z0 ++ [Hq c0,Hc h0u (x:=a_) h1 (loC w8 a_ <| loN),Hc h1A (x:=(ah,b_)) h2 (loC z8s ah <| loC (Qk 224 zgp) b_ <| loN),Hg (z1L h03),Hm (shM F7_ F7_ aj),Hs (z1M h03 (x:=aj) h3 (loC w8 aj <| loN)),Hm (shM F7_ F7_ aj)])
def z1U:Code:=(Tryz.f226.body).getD .skip
def Yo:zO:=spF (α:=z6 × Int × List Int) (ρ:=Int × Int) 226 (fun x=>[zQ x.1,(eI .i64) x.2.1,F7_ x.2.2]) (fun r=>.tup [(eI .i64) r.1,(eI .i64) r.2]) (fun x=>YQ x.1 x.2.1 x.2.2) [] (z6I)
theorem z2F (hC:zB Tryz.prog ctr) (h0q:ctr.Has qQ) (h0c:ctr.Has jS) (h0r:ctr.Has Zv):Yo.Ok Tryz.prog:=by
 refine zD ?_
 rintro ⟨m_,s_,w_⟩ r0 aa
 try unfold YQ at aa
 refine yO false [(6,none),(7,none)] z1U 33 Tryz.func226 fun E hE=>?_
 obtain ⟨r_,h0,aa⟩:=zf aa
 let Z0:List HO:=[Hc h0q (x:=(m_,s_)) h0 (loC zQ m_ <| loC (eI .i64) s_ <| loN)]
 rcases zL aa with ⟨c0,aa⟩ | ⟨c0,aa⟩
 ·obtain rfl:=zb aa
  exact yE X0 hC hE (Z0 ++ [Hq c0])
 ·obtain ⟨ah,h1,aa⟩:=zf aa
  let Z1:List HO:=(Z0 ++ [Hq c0,Hc h0c (x:=(w_,m_.Inputs)) h1 (loC F7_ w_ <| loC (eI .i64) m_.Inputs <| loN)])
  rcases zL aa with ⟨c1,aa⟩ | ⟨c1,aa⟩
  ·obtain rfl:=zb aa
   exact yE X0 hC hE (Z1 ++ [Hq c1])
  ·obtain ⟨aj,h2,aa⟩:=zf aa
   obtain rfl:=zb aa
   exact yE ((z2v Tryz.prog 31 [none,some (I aj.2)]).or ((z2v Tryz.prog 30 [some (eOs 1 true (eI .i64) aj.1),some (I aj.2)]).or X0)) hC hE (Z1 ++ [Hq c1,Hc h0r (x:=(m_,s_,w_)) h2 (loC zQ m_ <| loC (eI .i64) s_ <| loC F7_ w_ <| loN),Hn (⟨rfl,rfl⟩:T.own (.opq (K9 [some (eOs 1 true (eI .i64) aj.1),some (I aj.2)]))=T.own (.opq (K9 [some (eOs 1 true (eI .i64) aj.1),some (I aj.2)])) ∧ 1=1),Hn (⟨rfl,rfl⟩:T.own (.opq (K9 [none,some (I aj.2)]))=T.own (.opq (K9 [none,some (I aj.2)])) ∧ 1=1)])
def Kx:Code:=(Tryz.f222.body).getD .skip
def wo:zO:=spF (α:=zj × List Int × List Int) (ρ:=List (List Int)) 222 (fun x=>[zgU x.1,F7_ x.2.1,F7_ x.2.2]) (fun r=>w8 r) (fun x=>qM x.1 x.2.1 x.2.2) [] (z6I)
theorem KY (hC:zB Tryz.prog ctr) (h0O:ctr.Has Yo):wo.Ok Tryz.prog:=by
 refine zD ?_
 rintro ⟨x_,u_,v_⟩ r0 aa
 try unfold qM at aa
 refine yO true [(6,none)] Kx 37 Tryz.func222 fun E hE=>?_
 obtain ⟨r_,h0,aa⟩:=zf aa
 obtain ⟨ah,h1,aa⟩:=zf aa
 obtain ⟨mc,h2,aa⟩:=zf aa
 obtain rfl:=zb aa
 exact yE X0 hC hE [Hc h0O (x:=(x_.m_,0,u_)) h0 (loC zQ x_.m_ <| loC (eI .i64) 0 <| loC F7_ u_ <| loN),Hc h0O (x:=(x_.m_,r_.1,v_)) h1 (loC zQ x_.m_ <| loC (eI .i64) r_.1 <| loC F7_ v_ <| loN),Hi w8 h2]
def zH:Code:=(Tryz.f220.body).getD .skip
abbrev Ue (x_:zj) (r_:List (List Int) × Int) (gf:Int) (bl:List (zz Int)) (bf:Int) (cg:Int):List (Nat × T):=[(1,.d (.sptr (jH x_))),(2,.own (.box (.agg [eOs 16 false F1_ bl,I bf,I cg]))),(73,.d (eSl 1 true F3_ r_.1)),(74,.d (I ((r_.1.length:Nat):Int))),(75,.d (I gf))]
abbrev Ud (x_:zj) (r_:List (List Int) × Int) (gf:Int) (u_:List Int) (iu:Int) (bm:List (zz Int)) (bg:Int) (ce:Int):List (Nat × T):=[(1,.d (.sptr (jH x_))),(2,.own (.box (.agg [eOs 16 false F1_ bm,I bg,I ce]))),(15,.d (eSl 1 false (eI .i64) u_)),(73,.d (eSl 1 true F3_ r_.1)),(74,.d (I ((r_.1.length:Nat):Int))),(75,.d (I gf)),(82,.d (eSl 1 false F7_ x_.exact_)),(83,.d (I ((x_.exact_.length:Nat):Int))),(84,.d (I iu))]
abbrev U0 (x_:zj) (r_:List (List Int) × Int) (gf:Int) (u_:List Int) (iu:Int) (cq:List Int) (ah:List (List Int)) (gp:List (zz Int)) (ck:Int) (il:Int) (lc:Int):List (Nat × T):=[(1,.d (.sptr (jH x_))),(2,.own (.box (.agg [eOs 16 false F1_ gp,I ck,I il]))),(15,.d (eSl 1 false (eI .i64) u_)),(17,.d (eSl 1 false (eI .i64) cq)),(73,.d (eSl 1 true F3_ r_.1)),(74,.d (I ((r_.1.length:Nat):Int))),(75,.d (I gf)),(82,.d (eSl 1 false F7_ x_.exact_)),(83,.d (I ((x_.exact_.length:Nat):Int))),(84,.d (I iu)),(91,.d (eSl 1 false F7_ ah)),(92,.d (I ((ah.length:Nat):Int))),(93,.d (I lc))]
abbrev Ua (x_:zj) (r_:List (List Int) × Int) (gf:Int) (u_:List Int) (al:List (zz Int)) (av:Int) (cx:Int) (iu:Int):List (Nat × T):=[(1,.d (.sptr (jH x_))),(2,.own (.box (.agg [eOs 16 false F1_ al,I av,I cx]))),(15,.d (eSl 1 false (eI .i64) u_)),(73,.d (eSl 1 true F3_ r_.1)),(74,.d (I ((r_.1.length:Nat):Int))),(75,.d (I gf)),(82,.d (eSl 1 false F7_ x_.exact_)),(83,.d (I ((x_.exact_.length:Nat):Int))),(84,.d (I iu))]
abbrev Ub (x_:zj) (r_:List (List Int) × Int) (bn:List (zz Int)) (bh:Int) (cw:Int) (gf:Int):List (Nat × T):=[(1,.d (.sptr (jH x_))),(2,.own (.box (.agg [eOs 16 false F1_ bn,I bh,I cw]))),(73,.d (eSl 1 true F3_ r_.1)),(74,.d (I ((r_.1.length:Nat):Int))),(75,.d (I gf))]
abbrev Uf (x_:zj) (bq:List (zz Int)) (bj:Int) (dc:Int):List (Nat × T):=[(1,.d (.sptr (jH x_))),(2,.own (.box (.agg [eOs 16 false F1_ bq,I bj,I dc])))]
abbrev Uc (x_:zj) (gg:Int) (jo:List (zz Int)) (je:Int) (j4:Int):List (Nat × T):=[(1,.d (.sptr (jH x_))),(2,.own (.box (.agg [eOs 16 false F1_ jo,I je,I j4]))),(23,.d (eSl 1 false F7_ x_.q_)),(24,.d (I ((x_.q_.length:Nat):Int))),(25,.d (I gg))]
abbrev Ve (x_:zj) (gg:Int) (eb:List Int) (iv:Int) (jp:List (zz Int)) (jf:Int) (j5:Int):List (Nat × T):=[(1,.d (.sptr (jH x_))),(2,.own (.box (.agg [eOs 16 false F1_ jp,I jf,I j5]))),(7,.d (eSl 1 false (eI .i64) eb)),(23,.d (eSl 1 false F7_ x_.q_)),(24,.d (I ((x_.q_.length:Nat):Int))),(25,.d (I gg)),(32,.d (eSl 1 false F7_ x_.short_)),(33,.d (I ((x_.short_.length:Nat):Int))),(34,.d (I iv))]
abbrev Vd (x_:zj) (gg:Int) (eb:List Int) (iv:Int) (aq:List Int) (fy:List (zz Int)) (fp:Int) (gq:Int) (ld:Int):List (Nat × T):=[(1,.d (.sptr (jH x_))),(2,.own (.box (.agg [eOs 16 false F1_ fy,I fp,I gq]))),(7,.d (eSl 1 false (eI .i64) eb)),(9,.d (eSl 1 false (eI .i64) aq)),(23,.d (eSl 1 false F7_ x_.q_)),(24,.d (I ((x_.q_.length:Nat):Int))),(25,.d (I gg)),(32,.d (eSl 1 false F7_ x_.short_)),(33,.d (I ((x_.short_.length:Nat):Int))),(34,.d (I iv)),(41,.d (eSl 1 false F7_ x_.all_)),(42,.d (I ((x_.all_.length:Nat):Int))),(43,.d (I ld))]
abbrev VY (x_:zj) (gg:Int) (eb:List Int) (gr:List (zz Int)) (fz:Int) (im:Int) (iv:Int):List (Nat × T):=[(1,.d (.sptr (jH x_))),(2,.own (.box (.agg [eOs 16 false F1_ gr,I fz,I im]))),(7,.d (eSl 1 false (eI .i64) eb)),(23,.d (eSl 1 false F7_ x_.q_)),(24,.d (I ((x_.q_.length:Nat):Int))),(25,.d (I gg)),(32,.d (eSl 1 false F7_ x_.short_)),(33,.d (I ((x_.short_.length:Nat):Int))),(34,.d (I iv))]
abbrev VZ (x_:zj) (gt:List (zz Int)) (ga:Int) (io:Int) (gg:Int):List (Nat × T):=[(1,.d (.sptr (jH x_))),(2,.own (.box (.agg [eOs 16 false F1_ gt,I ga,I io]))),(23,.d (eSl 1 false F7_ x_.q_)),(24,.d (I ((x_.q_.length:Nat):Int))),(25,.d (I gg))]
theorem Jn (hC:zB Tryz.prog ctr) (h0A:ctr.Has YN) (h09:ctr.Has wo) (bu:Value):∀ (x0:QH) (x_:zj) (b_:zg) (r0:zg × Bool),kF x0 x_ b_=some r0 → z9i Tryz.prog 220 [.agg [],.sptr (.agg [.agg [I x_.m_.Inputs,I x_.m_.Outputs,eSl 1 false yQ x_.m_.Rows],eSl 1 false F7_ x_.q_,eSl 1 false F7_ x_.p_,eSl 1 false F7_ x_.all_,eSl 1 false w8 x_.each_,eSl 1 false F7_ x_.short_,eSl 1 false F7_ x_.exact_]),.atom bu] ([bu].zip [.box (.agg [eOs 16 false F1_ b_.nodes_,I b_.leaves_,I b_.most_])]) r0.2 (.iface 124 (.agg #[])) (.tup []) [.box (.agg [eOs 16 false F1_ r0.1.nodes_,I r0.1.leaves_,I r0.1.most_])]:=by
 intro x0 x_ b_ r0 aa
 refine z6E (tt:=y9) (nt:=106) (body:=zH) [2] zt Tryz.func220 rfl (by kernel_rfl) rfl rfl (by show (3:Nat) ≤ 106; decide) (by decide) rfl rfl rfl (fun E hE hD=>?_)
 unfold kF at aa
 refine yJ X0 hC zH [1] [] [1,2] (fun z:List (zz Int) × Int × Int=>uT x_ b_ z.1 z.2.1 z.2.2=some r0) (fun z=>Uf x_ z.1 z.2.1 z.2.2) [(1,.d (.sptr (jH x_))),(2,.own (.box ((yg znZ (eI .i64) (eI .i64)) b_)))] [Hh (.cut 1)] ?_ fun J1 az=>?_
 ·rintro ⟨bq,bj,dc⟩ aa
  unfold uT at aa
  obtain ⟨r_,h0,aa⟩:=zf aa
  obtain ⟨t2,ht2,aa⟩:=zf aa
  refine yL X0 hC zH [1,1,1,1,0] [] (fun s=>uP x_ b_ r_ s.1 s.2.1 s.2.2.1 s.2.2.2) (fun x=>Ub x_ r_ x.1 x.2.1 x.2.2.1 x.2.2.2) (bq,bj,dc,0) ht2  [Hc h0A (x:=(x_.p_,x_.q_,x_.m_.Inputs)) h0 (loC w8 x_.p_ <| loC w8 x_.q_ <| loC (eI .i64) x_.m_.Inputs <| loN),Ha (lnM F3_ r_.1)] ?_
  rintro ⟨bn,bh,cw,gf⟩ m2 a8 ae hl1 J2 a6
  try unfold uP at ae
  rcases zL ae with ⟨c0,ae⟩ | ⟨c0,ae⟩
  ·refine yJ X0 hC zH [1,1,1,1,0,0,1,1] [J2] [1,2,73,74,75] (fun z:List (zz Int) × Int × Int=>uS gf z.1 z.2.1 z.2.2=some a8) (fun z=>Ue x_ r_ gf z.1 z.2.1 z.2.2) [(1,.d (.sptr (jH x_))),(2,.own (.box (.agg [eOs 16 false F1_ bn,I bh,I cw]))),(73,.d (eSl 1 true F3_ r_.1)),(74,.d (I ((r_.1.length:Nat):Int))),(75,.d (I gf))] [Hq c0,Hh (.cut 0)] ?_ fun J3 bz=>?_
   ·rintro ⟨bl,bf,cg⟩ ae
    unfold uS at ae
    obtain rfl:=zb ae
    exact yB X0 hC a6 (bl,bf,cg,w64 (gf + 1)) hl1 []
   ·obtain ⟨u_,h1,ae⟩:=zf ae
    obtain ⟨t4,ht4,ae⟩:=zf ae
    refine yL ((xLs zt 78 (eSl 1 true (eI .i64) u_) (eSl 1 false (eI .i64) u_) inferInstance).or X0) hC zH [1,1,1,1,0,0,1,1,2,0,1,1,0] [J2,J3] (fun s=>uO x_ b_ u_ s.1 s.2.1 s.2.2.1 s.2.2.2) (fun x=>Ua x_ r_ gf u_ x.1 x.2.1 x.2.2.1 x.2.2.2) (bn,bh,cw,0) ht4  [Hi F3_ h1,Hn (rfl:T.d (eSl 1 true (eI .i64) u_)=T.d (eSl 1 true (eI .i64) u_)),Ha (lnM F7_ x_.exact_)] ?_
    rintro ⟨al,av,cx,iu⟩ m4 ez ai hl2 J4 ep
    try unfold uO at ai
    rcases zL ai with ⟨c1,ai⟩ | ⟨c1,ai⟩
    ·refine yJ X0 hC zH [1,1,1,1,0,0,1,1,2,0,1,1,0,0,1,1] [J2,J3,J4] [1,2,15,73,74,75,82,83,84] (fun z:List (zz Int) × Int × Int=>uR iu z.1 z.2.1 z.2.2=some ez) (fun z=>Ud x_ r_ gf u_ iu z.1 z.2.1 z.2.2) [(1,.d (.sptr (jH x_))),(2,.own (.box (.agg [eOs 16 false F1_ al,I av,I cx]))),(15,.d (eSl 1 false (eI .i64) u_)),(73,.d (eSl 1 true F3_ r_.1)),(74,.d (I ((r_.1.length:Nat):Int))),(75,.d (I gf)),(82,.d (eSl 1 false F7_ x_.exact_)),(83,.d (I ((x_.exact_.length:Nat):Int))),(84,.d (I iu))] [Hq c1,Hh (.cut 0)] ?_ fun J5 fc=>?_
     ·rintro ⟨bm,bg,ce⟩ ai
      unfold uR at ai
      obtain rfl:=zb ai
      exact yB X0 hC ep (bm,bg,ce,w64 (iu + 1)) hl2 []
     ·obtain ⟨cq,h2,ai⟩:=zf ai
      obtain ⟨ah,h3,ai⟩:=zf ai
      obtain ⟨t6,l7,ai⟩:=zf ai
      refine yL X0 hC zH [1,1,1,1,0,0,1,1,2,0,1,1,0,0,1,1,2,0,1,1,0] [J2,J3,J4,J5] (fun s=>uN b_ u_ cq ah s.1 s.2.1 s.2.2.1 s.2.2.2) (fun x=>U0 x_ r_ gf u_ iu cq ah x.1 x.2.1 x.2.2.1 x.2.2.2) (al,av,cx,0) l7  [Hi F7_ h2,Hc h09 (x:=(x_,u_,cq)) h3 (loC zgU x_ <| loC F7_ u_ <| loC F7_ cq <| loN),Ha (lnM F7_ ah)] ?_
      rintro ⟨gp,ck,il,lc⟩ m6 md ba hl3 J6 gz
      try unfold uN at ba
      rcases zL ba with ⟨c2,ba⟩ | ⟨c2,ba⟩
      ·obtain ⟨eg,h4,ba⟩:=zf ba
       refine yA X0 hC zH [1,1,1,1,0,0,1,1,2,0,1,1,0,0,1,1,2,0,1,1,0,0,1,1,0,0,1] [J2,J3,J4,J5,J6] [(1,.d (.sptr (jH x_))),(2,.own (.box (.agg [eOs 16 false F1_ gp,I ck,I il]))),(15,.d (eSl 1 false (eI .i64) u_)),(17,.d (eSl 1 false (eI .i64) cq)),(19,.d (eSl 1 false (eI .i64) eg)),(73,.d (eSl 1 true F3_ r_.1)),(74,.d (I ((r_.1.length:Nat):Int))),(75,.d (I gf)),(82,.d (eSl 1 false F7_ x_.exact_)),(83,.d (I ((x_.exact_.length:Nat):Int))),(84,.d (I iu)),(91,.d (eSl 1 false F7_ ah)),(92,.d (I ((ah.length:Nat):Int))),(93,.d (I lc))] [Hq c2,Hi F7_ h4,Hh (.stp 0)] ?_
       obtain ⟨aj,h5,ba⟩:=zf ba
       rcases zL ba with ⟨c3,ba⟩ | ⟨c3,ba⟩
       ·obtain rfl:=zb ba
        obtain rfl:=hl3
        obtain rfl:=zb ai
        obtain rfl:=hl2
        obtain rfl:=zb ae
        obtain rfl:=hl1
        obtain rfl:=zb aa
        exact yD X0 hC 5 [2] ((xG hC bu _ _ _ h5).2 c3) [.atom bu,z8t ([u_,cq,eg]:List (List Int))] inferInstance [Hm (shM F7_ F7_ ([u_,cq,eg]))] fun st0=>hD rfl st0
       ·obtain rfl:=zb ba
        exact yB ((Y1 (P:=Tryz.prog) y9 [2] ((xG hC bu _ _ _ h5).1 c3) 102).or X0) hC gz (aj.1.nodes_,aj.1.leaves_,aj.1.most_,w64 (lc + 1)) hl3 [Hm (shM F7_ F7_ ([u_,cq,eg])),Hn (VD (f:=.fn 219 []) (xs:=[.atom bu,w8 ([u_,cq,eg]:List (List Int))]) (ls:=[(bu,.box (.agg [eOs 16 false F1_ gp,I ck,I il]))]) (r:=.tup []) (ys:=[.box (.agg [eOs 16 false F1_ aj.1.nodes_,I aj.1.leaves_,I aj.1.most_])]) [.atom bu,z8t ([u_,cq,eg]:List (List Int))] (show z0s [.atom bu,z8t ([u_,cq,eg]:List (List Int))] [.atom bu,w8 ([u_,cq,eg]:List (List Int))] from inferInstance))]
      ·obtain rfl:=zb ba
       obtain rfl:=hl3
       exact yB X0 hC fc (gp,ck,il) ai [Hq c2]
    ·obtain rfl:=zb ai
     obtain rfl:=hl2
     exact yB X0 hC bz (al,av,cx) ae [Hq c1]
  ·obtain rfl:=zb ae
   obtain rfl:=hl1
   obtain rfl:=zb aa
   exact yF X0 hC .normal [(2,.own (.box (.agg [eOs 16 false F1_ bn,I bh,I cw])))] [Hq c0] fun st0 h0=>hE rfl _ st0 (.inl rfl) (Wy h0 ⟨⟨rfl,rfl⟩,trivial⟩)
 ·obtain ⟨t7,ht7,aa⟩:=zf aa
  refine yL X0 hC zH [1,2,1,0] [J1] (fun s=>uM x_ b_ s.1 s.2.1 s.2.2.1 s.2.2.2) (fun x=>VZ x_ x.1 x.2.1 x.2.2.1 x.2.2.2) (b_.nodes_,b_.leaves_,b_.most_,0) ht7  [Ha (lnM F7_ x_.q_)] ?_
  rintro ⟨gt,ga,io,gg⟩ m7 a8 ae hl1 J7 kr
  try unfold uM at ae
  rcases zL ae with ⟨c4,ae⟩ | ⟨c4,ae⟩
  ·refine yJ X0 hC zH [1,2,1,0,0,1,1] [J1,J7] [1,2,23,24,25] (fun z:List (zz Int) × Int × Int=>uQ gg z.1 z.2.1 z.2.2=some a8) (fun z=>Uc x_ gg z.1 z.2.1 z.2.2) [(1,.d (.sptr (jH x_))),(2,.own (.box (.agg [eOs 16 false F1_ gt,I ga,I io]))),(23,.d (eSl 1 false F7_ x_.q_)),(24,.d (I ((x_.q_.length:Nat):Int))),(25,.d (I gg))] [Hq c4,Hh (.cut 0)] ?_ fun J8 me=>?_
   ·rintro ⟨jo,je,j4⟩ ae
    unfold uQ at ae
    obtain rfl:=zb ae
    exact yB X0 hC kr (jo,je,j4,w64 (gg + 1)) hl1 []
   ·obtain ⟨eb,h6,ae⟩:=zf ae
    obtain ⟨t9,ht9,ae⟩:=zf ae
    refine yL X0 hC zH [1,2,1,0,0,1,1,2,0,1,1,0] [J1,J7,J8] (fun s=>uL x_ b_ eb s.1 s.2.1 s.2.2.1 s.2.2.2) (fun x=>VY x_ gg eb x.1 x.2.1 x.2.2.1 x.2.2.2) (gt,ga,io,0) ht9  [Hi F7_ h6,Ha (lnM F7_ x_.short_)] ?_
    rintro ⟨gr,fz,im,iv⟩ m9 ez ai hl2 J9 nw
    try unfold uL at ai
    rcases zL ai with ⟨c5,ai⟩ | ⟨c5,ai⟩
    ·refine yJ X0 hC zH [1,2,1,0,0,1,1,2,0,1,1,0,0,1,1] [J1,J7,J8,J9] [1,2,7,23,24,25,32,33,34] (fun z:List (zz Int) × Int × Int=>u9 iv z.1 z.2.1 z.2.2=some ez) (fun z=>Ve x_ gg eb iv z.1 z.2.1 z.2.2) [(1,.d (.sptr (jH x_))),(2,.own (.box (.agg [eOs 16 false F1_ gr,I fz,I im]))),(7,.d (eSl 1 false (eI .i64) eb)),(23,.d (eSl 1 false F7_ x_.q_)),(24,.d (I ((x_.q_.length:Nat):Int))),(25,.d (I gg)),(32,.d (eSl 1 false F7_ x_.short_)),(33,.d (I ((x_.short_.length:Nat):Int))),(34,.d (I iv))] [Hq c5,Hh (.cut 0)] ?_ fun J10 hJ10=>?_
     ·rintro ⟨jp,jf,j5⟩ ai
      unfold u9 at ai
      obtain rfl:=zb ai
      exact yB X0 hC nw (jp,jf,j5,w64 (iv + 1)) hl2 []
     ·obtain ⟨aq,h7,ai⟩:=zf ai
      obtain ⟨nl,ht11,ai⟩:=zf ai
      refine yL X0 hC zH [1,2,1,0,0,1,1,2,0,1,1,0,0,1,1,2,0,1,1,0] [J1,J7,J8,J9,J10] (fun s=>u7 x_ b_ eb aq s.1 s.2.1 s.2.2.1 s.2.2.2) (fun x=>Vd x_ gg eb iv aq x.1 x.2.1 x.2.2.1 x.2.2.2) (gr,fz,im,0) ht11  [Hi F7_ h7,Ha (lnM F7_ x_.all_)] ?_
      rintro ⟨fy,fp,gq,ld⟩ n7 md ba hl3 ny nv
      try unfold u7 at ba
      rcases zL ba with ⟨c6,ba⟩ | ⟨c6,ba⟩
      ·obtain ⟨dm,h8,ba⟩:=zf ba
       refine yA X0 hC zH [1,2,1,0,0,1,1,2,0,1,1,0,0,1,1,2,0,1,1,0,0,1,1,0,0,1] [J1,J7,J8,J9,J10,ny] [(1,.d (.sptr (jH x_))),(2,.own (.box (.agg [eOs 16 false F1_ fy,I fp,I gq]))),(7,.d (eSl 1 false (eI .i64) eb)),(9,.d (eSl 1 false (eI .i64) aq)),(11,.d (eSl 1 false (eI .i64) dm)),(23,.d (eSl 1 false F7_ x_.q_)),(24,.d (I ((x_.q_.length:Nat):Int))),(25,.d (I gg)),(32,.d (eSl 1 false F7_ x_.short_)),(33,.d (I ((x_.short_.length:Nat):Int))),(34,.d (I iv)),(41,.d (eSl 1 false F7_ x_.all_)),(42,.d (I ((x_.all_.length:Nat):Int))),(43,.d (I ld))] [Hq c6,Hi F7_ h8,Hh (.stp 0)] ?_
       obtain ⟨aw,h9,ba⟩:=zf ba
       rcases zL ba with ⟨c7,ba⟩ | ⟨c7,ba⟩
       ·obtain rfl:=zb ba
        obtain rfl:=hl3
        obtain rfl:=zb ai
        obtain rfl:=hl2
        obtain rfl:=zb ae
        obtain rfl:=hl1
        obtain rfl:=zb aa
        exact yD X0 hC 5 [2] ((xG hC bu _ _ _ h9).2 c7) [.atom bu,z8t ([eb,aq,dm]:List (List Int))] inferInstance [Hm (shM F7_ F7_ ([eb,aq,dm]))] fun st0=>hD rfl st0
       ·obtain rfl:=zb ba
        exact yB ((Y1 (P:=Tryz.prog) y9 [2] ((xG hC bu _ _ _ h9).1 c7) 52).or X0) hC nv (aw.1.nodes_,aw.1.leaves_,aw.1.most_,w64 (ld + 1)) hl3 [Hm (shM F7_ F7_ ([eb,aq,dm])),Hn (VD (f:=.fn 219 []) (xs:=[.atom bu,w8 ([eb,aq,dm]:List (List Int))]) (ls:=[(bu,.box (.agg [eOs 16 false F1_ fy,I fp,I gq]))]) (r:=.tup []) (ys:=[.box (.agg [eOs 16 false F1_ aw.1.nodes_,I aw.1.leaves_,I aw.1.most_])]) [.atom bu,z8t ([eb,aq,dm]:List (List Int))] (show z0s [.atom bu,z8t ([eb,aq,dm]:List (List Int))] [.atom bu,w8 ([eb,aq,dm]:List (List Int))] from inferInstance))]
      ·obtain rfl:=zb ba
       obtain rfl:=hl3
       exact yB X0 hC hJ10 (fy,fp,gq) ai [Hq c6]
    ·obtain rfl:=zb ai
     obtain rfl:=hl2
     exact yB X0 hC me (gr,fz,im) ae [Hq c5]
  ·obtain rfl:=zb ae
   obtain rfl:=hl1
   exact yB X0 hC az (gt,ga,io) aa [Hq c4]
def yh:Code:=(Tryz.f229.body).getD .skip
abbrev Vj (x_:zj) (ar:Int) (bn:List (zz Int)) (bh:Int) (cw:Int):List (Nat × T):=[(1,.d (.sptr (jH x_))),(2,.own (.box (.agg [eOs 16 false F1_ bn,I bh,I cw]))),(15,.d (eSl 1 false F7_ x_.p_)),(16,.d (I ((x_.p_.length:Nat):Int))),(17,.d (I ar))]
abbrev Vi (x_:zj) (ar:Int) (ax:List Int) (dy:Int) (al:List (zz Int)) (av:Int) (cx:Int):List (Nat × T):=[(1,.d (.sptr (jH x_))),(2,.own (.box (.agg [eOs 16 false F1_ al,I av,I cx]))),(7,.d (eSl 1 false (eI .i64) ax)),(15,.d (eSl 1 false F7_ x_.p_)),(16,.d (I ((x_.p_.length:Nat):Int))),(17,.d (I ar)),(24,.d (eSl 1 false F7_ x_.short_)),(25,.d (I ((x_.short_.length:Nat):Int))),(26,.d (I dy))]
abbrev Vf (x_:zj) (ar:Int) (ax:List Int) (dy:Int) (aq:List Int) (r_:List (List Int)) (bm:List (zz Int)) (bg:Int) (ce:Int) (em:Int):List (Nat × T):=[(1,.d (.sptr (jH x_))),(2,.own (.box (.agg [eOs 16 false F1_ bm,I bg,I ce]))),(7,.d (eSl 1 false (eI .i64) ax)),(9,.d (eSl 1 false (eI .i64) aq)),(15,.d (eSl 1 false F7_ x_.p_)),(16,.d (I ((x_.p_.length:Nat):Int))),(17,.d (I ar)),(24,.d (eSl 1 false F7_ x_.short_)),(25,.d (I ((x_.short_.length:Nat):Int))),(26,.d (I dy)),(33,.d (eSl 1 false F7_ r_)),(34,.d (I ((r_.length:Nat):Int))),(35,.d (I em))]
abbrev Vg (x_:zj) (ar:Int) (ax:List Int) (bl:List (zz Int)) (bf:Int) (cg:Int) (dy:Int):List (Nat × T):=[(1,.d (.sptr (jH x_))),(2,.own (.box (.agg [eOs 16 false F1_ bl,I bf,I cg]))),(7,.d (eSl 1 false (eI .i64) ax)),(15,.d (eSl 1 false F7_ x_.p_)),(16,.d (I ((x_.p_.length:Nat):Int))),(17,.d (I ar)),(24,.d (eSl 1 false F7_ x_.short_)),(25,.d (I ((x_.short_.length:Nat):Int))),(26,.d (I dy))]
abbrev Vh (x_:zj) (bq:List (zz Int)) (bj:Int) (dc:Int) (ar:Int):List (Nat × T):=[(1,.d (.sptr (jH x_))),(2,.own (.box (.agg [eOs 16 false F1_ bq,I bj,I dc]))),(15,.d (eSl 1 false F7_ x_.p_)),(16,.d (I ((x_.p_.length:Nat):Int))),(17,.d (I ar))]
theorem QI (hC:zB Tryz.prog ctr) (h09:ctr.Has wo) (bu:Value):∀ (x0:UD) (x_:zj) (b_:zg) (r0:zg × Bool),jI x0 x_ b_=some r0 → z9i Tryz.prog 229 [.agg [],.sptr (.agg [.agg [I x_.m_.Inputs,I x_.m_.Outputs,eSl 1 false yQ x_.m_.Rows],eSl 1 false F7_ x_.q_,eSl 1 false F7_ x_.p_,eSl 1 false F7_ x_.all_,eSl 1 false w8 x_.each_,eSl 1 false F7_ x_.short_,eSl 1 false F7_ x_.exact_]),.atom bu] ([bu].zip [.box (.agg [eOs 16 false F1_ b_.nodes_,I b_.leaves_,I b_.most_])]) r0.2 (.iface 124 (.agg #[])) (.tup []) [.box (.agg [eOs 16 false F1_ r0.1.nodes_,I r0.1.leaves_,I r0.1.most_])]:=by
 intro x0 x_ b_ r0 aa
 refine z6E (tt:=y9) (nt:=48) (body:=yh) [2] zt Tryz.func229 rfl (by kernel_rfl) rfl rfl (by show (3:Nat) ≤ 48; decide) (by decide) rfl rfl rfl (fun E hE hD=>?_)
 unfold jI at aa
 obtain ⟨t1,ht1,aa⟩:=zf aa
 refine yL X0 hC yh [1,1,0] [] (fun s=>uc x_ b_ s.1 s.2.1 s.2.2.1 s.2.2.2) (fun x=>Vh x_ x.1 x.2.1 x.2.2.1 x.2.2.2) (b_.nodes_,b_.leaves_,b_.most_,0) ht1  [Ha (lnM F7_ x_.p_)] ?_
 rintro ⟨bq,bj,dc,ar⟩ m1 a8 ae hl1 J1 az
 try unfold uc at ae
 rcases zL ae with ⟨c0,ae⟩ | ⟨c0,ae⟩
 ·refine yJ X0 hC yh [1,1,0,0,1,1] [J1] [1,2,15,16,17] (fun z:List (zz Int) × Int × Int=>ue ar z.1 z.2.1 z.2.2=some a8) (fun z=>Vj x_ ar z.1 z.2.1 z.2.2) [(1,.d (.sptr (jH x_))),(2,.own (.box (.agg [eOs 16 false F1_ bq,I bj,I dc]))),(15,.d (eSl 1 false F7_ x_.p_)),(16,.d (I ((x_.p_.length:Nat):Int))),(17,.d (I ar))] [Hq c0,Hh (.cut 0)] ?_ fun J2 a6=>?_
  ·rintro ⟨bn,bh,cw⟩ ae
   unfold ue at ae
   obtain rfl:=zb ae
   exact yB X0 hC az (bn,bh,cw,w64 (ar + 1)) hl1 []
  ·obtain ⟨ax,h0,ae⟩:=zf ae
   obtain ⟨t3,ht3,ae⟩:=zf ae
   refine yL X0 hC yh [1,1,0,0,1,1,2,0,1,1,0] [J1,J2] (fun s=>ub x_ b_ ax s.1 s.2.1 s.2.2.1 s.2.2.2) (fun x=>Vg x_ ar ax x.1 x.2.1 x.2.2.1 x.2.2.2) (bq,bj,dc,0) ht3  [Hi F7_ h0,Ha (lnM F7_ x_.short_)] ?_
   rintro ⟨bl,bf,cg,dy⟩ m3 ez ai hl2 J3 bz
   try unfold ub at ai
   rcases zL ai with ⟨c1,ai⟩ | ⟨c1,ai⟩
   ·refine yJ X0 hC yh [1,1,0,0,1,1,2,0,1,1,0,0,1,1] [J1,J2,J3] [1,2,7,15,16,17,24,25,26] (fun z:List (zz Int) × Int × Int=>ud dy z.1 z.2.1 z.2.2=some ez) (fun z=>Vi x_ ar ax dy z.1 z.2.1 z.2.2) [(1,.d (.sptr (jH x_))),(2,.own (.box (.agg [eOs 16 false F1_ bl,I bf,I cg]))),(7,.d (eSl 1 false (eI .i64) ax)),(15,.d (eSl 1 false F7_ x_.p_)),(16,.d (I ((x_.p_.length:Nat):Int))),(17,.d (I ar)),(24,.d (eSl 1 false F7_ x_.short_)),(25,.d (I ((x_.short_.length:Nat):Int))),(26,.d (I dy))] [Hq c1,Hh (.cut 0)] ?_ fun J4 ep=>?_
    ·rintro ⟨al,av,cx⟩ ai
     unfold ud at ai
     obtain rfl:=zb ai
     exact yB X0 hC bz (al,av,cx,w64 (dy + 1)) hl2 []
    ·obtain ⟨aq,h1,ai⟩:=zf ai
     obtain ⟨r_,h2,ai⟩:=zf ai
     obtain ⟨t5,ht5,ai⟩:=zf ai
     refine yL X0 hC yh [1,1,0,0,1,1,2,0,1,1,0,0,1,1,2,0,1,1,0] [J1,J2,J3,J4] (fun s=>ua b_ ax aq r_ s.1 s.2.1 s.2.2.1 s.2.2.2) (fun x=>Vf x_ ar ax dy aq r_ x.1 x.2.1 x.2.2.1 x.2.2.2) (bl,bf,cg,0) ht5  [Hi F7_ h1,Hc h09 (x:=(x_,ax,aq)) h2 (loC zgU x_ <| loC F7_ ax <| loC F7_ aq <| loN),Ha (lnM F7_ r_)] ?_
     rintro ⟨bm,bg,ce,em⟩ m5 md ba hl3 J5 fc
     try unfold ua at ba
     rcases zL ba with ⟨c2,ba⟩ | ⟨c2,ba⟩
     ·obtain ⟨eg,h3,ba⟩:=zf ba
      refine yA X0 hC yh [1,1,0,0,1,1,2,0,1,1,0,0,1,1,2,0,1,1,0,0,1,1,0,0,1] [J1,J2,J3,J4,J5] [(1,.d (.sptr (jH x_))),(2,.own (.box (.agg [eOs 16 false F1_ bm,I bg,I ce]))),(7,.d (eSl 1 false (eI .i64) ax)),(9,.d (eSl 1 false (eI .i64) aq)),(11,.d (eSl 1 false (eI .i64) eg)),(15,.d (eSl 1 false F7_ x_.p_)),(16,.d (I ((x_.p_.length:Nat):Int))),(17,.d (I ar)),(24,.d (eSl 1 false F7_ x_.short_)),(25,.d (I ((x_.short_.length:Nat):Int))),(26,.d (I dy)),(33,.d (eSl 1 false F7_ r_)),(34,.d (I ((r_.length:Nat):Int))),(35,.d (I em))] [Hq c2,Hi F7_ h3,Hh (.stp 0)] ?_
      obtain ⟨ah,h4,ba⟩:=zf ba
      rcases zL ba with ⟨c3,ba⟩ | ⟨c3,ba⟩
      ·obtain rfl:=zb ba
       obtain rfl:=hl3
       obtain rfl:=zb ai
       obtain rfl:=hl2
       obtain rfl:=zb ae
       obtain rfl:=hl1
       obtain rfl:=zb aa
       exact yD X0 hC 5 [2] ((xG hC bu _ _ _ h4).2 c3) [.atom bu,z8t ([ax,aq,eg]:List (List Int))] inferInstance [Hm (shM F7_ F7_ ([ax,aq,eg]))] fun st0=>hD rfl st0
      ·obtain rfl:=zb ba
       exact yB ((Y1 (P:=Tryz.prog) y9 [2] ((xG hC bu _ _ _ h4).1 c3) 44).or X0) hC fc (ah.1.nodes_,ah.1.leaves_,ah.1.most_,w64 (em + 1)) hl3 [Hm (shM F7_ F7_ ([ax,aq,eg])),Hn (VD (f:=.fn 219 []) (xs:=[.atom bu,w8 ([ax,aq,eg]:List (List Int))]) (ls:=[(bu,.box (.agg [eOs 16 false F1_ bm,I bg,I ce]))]) (r:=.tup []) (ys:=[.box (.agg [eOs 16 false F1_ ah.1.nodes_,I ah.1.leaves_,I ah.1.most_])]) [.atom bu,z8t ([ax,aq,eg]:List (List Int))] (show z0s [.atom bu,z8t ([ax,aq,eg]:List (List Int))] [.atom bu,w8 ([ax,aq,eg]:List (List Int))] from inferInstance))]
     ·obtain rfl:=zb ba
      obtain rfl:=hl3
      exact yB X0 hC ep (bm,bg,ce) ai [Hq c2]
   ·obtain rfl:=zb ai
    obtain rfl:=hl2
    exact yB X0 hC a6 (bl,bf,cg) ae [Hq c1]
 ·obtain rfl:=zb ae
  obtain rfl:=hl1
  obtain rfl:=zb aa
  exact yF X0 hC .normal [(2,.own (.box (.agg [eOs 16 false F1_ bq,I bj,I dc])))] [Hq c0] fun st0 h0=>hE rfl _ st0 (.inl rfl) (Wy h0 ⟨⟨rfl,rfl⟩,trivial⟩)
def jZ:zO:=spF (α:=zj × Nat × Int) (ρ:=Option zg × Bool) 37 (fun x:zj × Nat × Int=>[zgU x.1,(eIf 77) x.2.1,(eI .i64) x.2.2]) (fun r:Option zg × Bool=>.tup [(ePo Ug) r.1,eB r.2]) (fun x:zj × Nat × Int=>UU x.1 x.2.1 x.2.2) [] (z6I)
theorem z3s (hC:zB Tryz.prog ctr) (h0A:ctr.Has YN) (h09:ctr.Has wo):jZ.Ok Tryz.prog:=by
 have hE:∀ b:zg,(A.agg [eOs 16 false F1_ b.nodes_,eI .i64 b.leaves_,eI .i64 b.most_]).live=true ∧ (A.agg [eOs 16 false F1_ b.nodes_,eI .i64 b.leaves_,eI .i64 b.most_]).shut=yg znY (eI .i64) (eI .i64) b:=fun b=>⟨z2u.live (f:=yg znZ (eI .i64) (eI .i64)) b,z2u.sh (f:=yg znZ (eI .i64) (eI .i64)) b⟩
 refine zD ?_
 rintro ⟨x,s,most⟩ r0 aa
 obtain ⟨r,hr,aa⟩:=zf aa
 obtain rfl:=zb aa
 have key:∀ (T kf:Nat),(∀ w,(method 392 T (.agg #[]) "gauntlet/suites.fill").run Tryz.prog w=.ok (kf,.agg #[]) w) → (∀ args w,(callFunc kf args).run Tryz.prog w=.ok (.enter kf args) w) →
   (∀ bv,z9i Tryz.prog kf [.agg [],zgU x,.atom bv] [(bv,.box (.agg [.osl 16 false [.agg (List.replicate 16 (.atom (.int .i32 0)))],.atom (.int .i64 0),.atom (.int .i64 most)]))] r.2 (.iface 124 (.agg #[])) (.tup []) [.box (.agg [eOs 16 false F1_ r.1.nodes_,eI .i64 r.1.leaves_,eI .i64 r.1.most_])]) →
   Y5 Tryz.prog 37 [zgU x,.atom (.iface T (.agg #[])),.atom (.int .i64 most)] (.tup [ePo Ug (bif r.2 then none else some r.1),eB (!r.2)]):=by
  intro T kf h1 h2 h3
  have q:=z97 h1 h2 rfl (hE r.1).1 (hE r.1).2 h3
  refine q.le ?_
  cases r.2
  ·exact (show LeV (.tup [.sptr (yg znY (eI .i64) (eI .i64) r.1),.atom (.bool true)]) (.tup [.dop (poQ (some (yg znY (eI .i64) (eI .i64) r.1))),.atom (.bool true)]) from inferInstance)
  ·exact (show LeV (.tup [.atom (.pointer none),.atom (.bool false)]) (.tup [.dop (poQ none),.atom (.bool false)]) from inferInstance)
 match s,hr with
 | 0,hr=>exact key 77 218 Tryz.meth77 (fun _ _=>by kernel_rfl) fun bv=>Ko hC bv ⟨⟩ x _ r hr
 | 1,hr=>exact key 78 220 Tryz.meth78 (fun _ _=>by kernel_rfl) fun bv=>Jn hC h0A h09 bv ⟨⟩ x _ r hr
 | 2,hr=>exact key 79 229 Tryz.meth79 (fun _ _=>by kernel_rfl) fun bv=>QI hC h09 bv ⟨⟩ x _ r hr
 | n + 3,hr=>cases hr
def WP:Code:=(Tryz.f112.body).getD .skip
def yq:zO:=spR (α:=List (List Int)) (ρ:=List (List Int)) 112 (fun x=>[(eOs 1 false F3_) x]) (fun r=>znX r) (fun x=>wc x) [true] (UM)
theorem WF:∀ x r,(fun x=>wc x) x=some r → (Kw.add yq).run 112 ((Kw.add yq).norm 112 ((fun x=>[(eOs 1 false F3_) x]) x))=some ((fun r=>znX r) r):=fun x r h=>zoK h rfl
theorem WG:(Kw.add yq).lend 112=none ∧ (Kw.add yq).gives 112=[true]:=ziw
theorem V4 (hC:zB Tryz.prog ctr):yq.Ok Tryz.prog:=by
 refine zbj ?_
 rintro s_ r0 aa
 try unfold wc at aa
 refine yO true [(2,none)] WP 9 Tryz.func112 fun E hE=>?_
 obtain rfl:=zb aa
 exact yE ((xCl zt 8).or X0) hC hE [Ha (lnM F3_ s_),Ha (lnM F3_ s_),Hn (Int.natCast_nonneg _:(0:Int) ≤ ((s_.length:Nat):Int)),Hn (Int.natCast_nonneg _:(0:Int) ≤ ((s_.length:Nat):Int)),Hn (clB F3_ s_),Ha (clE 1 F3_ s_)]
def yi:Code:=(Tryz.f69.body).getD .skip
def kR:zO:=spF (α:=zg) (ρ:=List (List Int)) 69 (fun x=>[(eSp Ug) x]) (fun r=>znX r) (fun x=>Xf x) [] (UM)
abbrev QZ (out:List (List Int)):List (Nat × T):=[(2,.own (eOs 1 false F3_ out))]
abbrev QY (b_:zg) (a7:List (List Int)) (next:List zi):List (Nat × T):=[(0,.d (.sptr (Ug b_))),(2,.own (eOs 1 false F3_ a7)),(4,.own (eOs 2 false Jk next))]
abbrev QX (b_:zg) (ap:List zi) (ar:Int) (i6:List (List Int)) (ip:List zi):List (Nat × T):=[(0,.d (.sptr (Ug b_))),(2,.own (eOs 1 false F3_ i6)),(3,.own (eOs 2 false Jk ap)),(4,.own (eOs 2 false Jk ip)),(15,.als 3 [] 0 0),(16,.d (I ((ap.length:Nat):Int))),(17,.d (I ar))]
abbrev QV (b_:zg) (ap:List zi) (cp:List (List Int)) (ar:Int) (bi:zi) (fl:List zi) (mh:Bool):List (Nat × T):=[(0,.d (.sptr (Ug b_))),(2,.own (eOs 1 false F3_ cp)),(3,.own (eOs 2 false Jk ap)),(4,.own (eOs 2 false Jk fl)),(6,.own (.box (Jk bi))),(7,.d (B mh)),(15,.als 3 [] 0 0),(16,.d (I ((ap.length:Nat):Int))),(17,.d (I ar))]
abbrev QU (b_:zg) (ap:List zi) (cp:List (List Int)) (ar:Int) (bi:zi) (ay:zz Int) (cu:Int) (k9:List zi) (la:Bool):List (Nat × T):=[(0,.d (.sptr (Ug b_))),(2,.own (eOs 1 false F3_ cp)),(3,.own (eOs 2 false Jk ap)),(4,.own (eOs 2 false Jk k9)),(6,.own (.box (Jk bi))),(7,.d (B la)),(15,.als 3 [] 0 0),(16,.d (I ((ap.length:Nat):Int))),(17,.d (I ar)),(28,.d (F1_ ay)),(29,.d (I cu))]
abbrev QR (b_:zg) (ap:List zi) (cp:List (List Int)) (ar:Int) (bi:zi) (ay:zz Int) (ib:List zi) (ju:Bool) (cu:Int):List (Nat × T):=[(0,.d (.sptr (Ug b_))),(2,.own (eOs 1 false F3_ cp)),(3,.own (eOs 2 false Jk ap)),(4,.own (eOs 2 false Jk ib)),(6,.own (.box (Jk bi))),(7,.d (B ju)),(15,.als 3 [] 0 0),(16,.d (I ((ap.length:Nat):Int))),(17,.d (I ar)),(28,.d (F1_ ay)),(29,.d (I cu))]
abbrev QS (b_:zg) (ap:List zi) (cp:List (List Int)) (ff:List zi) (ar:Int):List (Nat × T):=[(0,.d (.sptr (Ug b_))),(2,.own (eOs 1 false F3_ cp)),(3,.own (eOs 2 false Jk ap)),(4,.own (eOs 2 false Jk ff)),(15,.als 3 [] 0 0),(16,.d (I ((ap.length:Nat):Int))),(17,.d (I ar))]
abbrev QT (b_:zg) (ak:List (List Int)) (ap:List zi):List (Nat × T):=[(0,.d (.sptr (Ug b_))),(2,.own (eOs 1 false F3_ ak)),(3,.own (eOs 2 false Jk ap))]
def zG:XH Tryz.prog:=((UN zt (.inl 52) [51]).or ((UN zt (.inl 43) [42]).or ((UN zt (.inl 11) [10]).or X0)))
theorem z0x (hC:zB Tryz.prog ctr) (h00:ctr.Has zZ):kR.Ok Tryz.prog:=by
 refine zD ?_
 rintro b_ r0 aa
 try unfold Xf at aa
 refine yO true [(2,none)] yi 58 Tryz.func69 fun E hE=>?_
 refine yJ zG hC yi [1,1] [] [2] (fun z:List (List Int)=>kL z=some r0) (fun z=>QZ z) [(0,.d (.sptr (Ug b_))),(2,.own (eOs 1 true F7_ [])),(3,.own (eOs 2 true (yY (eI .i32) F3_) ([(zi.mk 0 [])])))] [Hm (shM (eI .i64) (eI .i64) []),Hh (.cut 0)] ?_ fun J1 az=>?_
 ·rintro out aa
  unfold kL at aa
  obtain ⟨r_,h0,aa⟩:=zf aa
  obtain rfl:=zb aa
  exact yE ((z61 zt (V4 hC) 57).or zG) hC hE [Hh (.g [true]),Hn WG,Hx (.a (znX r_)) (WF out _ h0)]
 ·obtain ⟨t2,ht2,aa⟩:=zf aa
  refine yLx zG hC yi [1,1,2,0] [J1] (fun s=>kI b_ s.1 s.2) (fun x=>QT b_ x.1 x.2) (([]:List (List Int)),([(zi.mk 0 [])]:List zi)) ht2 [(0,.d (.sptr (Ug b_))),(2,.own (eOs 1 true F3_ [])),(3,.own (eOs 2 true (yY (eI .i32) F3_) ([(zi.mk 0 [])])))] inferInstance [] ?_
  rintro ⟨ak,ap⟩ m2 a8 ae hl1 J2 a6
  try unfold kI at ae
  let Z0:List HO:=[Ha (lnM Jk ap)]
  rcases zL ae with ⟨c0,ae⟩ | ⟨c0,ae⟩
  ·refine yJ zG hC yi [1,1,2,0,0,1,0,1] [J1,J2] [0,2,4] (fun z:List (List Int) × List zi=>kK z.1 z.2=some a8) (fun z=>QY b_ z.1 z.2) [(0,.d (.sptr (Ug b_))),(2,.own (eOs 1 false F3_ ak)),(3,.own (eOs 2 false Jk ap)),(4,.own (eOs 2 true Jk []))] (Z0 ++ [Hq c0,Hh (.cut 1)]) ?_ fun J3 bz=>?_
   ·rintro ⟨a7,next⟩ ae
    unfold kK at ae
    obtain rfl:=zb ae
    exact yB zG hC a6 (a7,next) hl1 []
   ·obtain ⟨t4,ht4,ae⟩:=zf ae
    refine yLx zG hC yi [1,1,2,0,0,1,0,1,2,1,0] [J1,J2,J3] (fun s=>kH b_ ap s.1 s.2.1 s.2.2) (fun x=>QS b_ ap x.1 x.2.1 x.2.2) (ak,([]:List zi),0) ht4 [(0,.d (.sptr (Ug b_))),(2,.own (eOs 1 false F3_ ak)),(3,.own (eOs 2 false Jk ap)),(4,.own (eOs 2 true Jk [])),(15,.als 3 [] 0 0),(16,.d (I ((ap.length:Nat):Int))),(17,.d (I 0))] inferInstance [Ha (lnM Jk ap)] ?_
    rintro ⟨cp,ff,ar⟩ m4 ez ai hl2 J4 ep
    try unfold kH at ai
    rcases zL ai with ⟨c1,ai⟩ | ⟨c1,ai⟩
    ·refine yJ zG hC yi [1,1,2,0,0,1,0,1,2,1,0,0,1,1] [J1,J2,J3,J4] [0,2,3,4,15,16,17] (fun z:List (List Int) × List zi=>ug ar z.1 z.2=some ez) (fun z=>QX b_ ap ar z.1 z.2) [(0,.d (.sptr (Ug b_))),(2,.own (eOs 1 false F3_ cp)),(3,.own (eOs 2 false Jk ap)),(4,.own (eOs 2 false Jk ff)),(15,.als 3 [] 0 0),(16,.d (I ((ap.length:Nat):Int))),(17,.d (I ar))] [Hq c1,Hh (.cut 0)] ?_ fun J5 fc=>?_
     ·rintro ⟨i6,ip⟩ ai
      unfold ug at ai
      obtain rfl:=zb ai
      exact yB zG hC ep (i6,ip,w64 (ar + 1)) hl2 []
     ·obtain ⟨bi,h1,ai⟩:=zf ai
      refine yJ zG hC yi [1,1,2,0,0,1,0,1,2,1,0,0,1,1,2,0,1,1] [J1,J2,J3,J4,J5] [0,2,3,4,6,7,15,16,17] (fun z:List zi × Bool=>kJ cp ar bi z.1 z.2=some ez) (fun z=>QV b_ ap cp ar bi z.1 z.2) [(0,.d (.sptr (Ug b_))),(2,.own (eOs 1 false F3_ cp)),(3,.own (eOs 2 false Jk ap)),(4,.own (eOs 2 false Jk ff)),(6,.own (.box (Jk bi))),(7,.d (B true)),(15,.als 3 [] 0 0),(16,.d (I ((ap.length:Nat):Int))),(17,.d (I ar))] [Hn (iL Jk h1),Hs (iM Jk h1),Hh (.cut 1)] ?_ fun J6 gz=>?_
      ·rintro ⟨fl,mh⟩ ai
       unfold kJ at ai
       rcases zL ai with ⟨c2,ai⟩ | ⟨c2,ai⟩
       ·obtain ⟨ah,h2,ai⟩:=zf ai
        obtain ⟨g0,ai⟩:=gdE ai
        exact yB zG hC fc ((cp ++ ([ah]:List (List Int))),fl) ai [Hq c2,Hc h00 (x:=bi.w_) h2 (loC F7_ bi.w_ <| loN),Hq (dM F3_ ([ah]:List (List Int))),Hn (dM F3_ ([ah]:List (List Int))),Hn (aL F3_ F3_ g0),Hl (aM F3_ cp ([ah]:List (List Int)))]
       ·exact yB zG hC fc (cp,fl) ai [Hq c2]
      ·obtain ⟨ay,h3,ai⟩:=zf ai
       obtain ⟨t7,ht7,ai⟩:=zf ai
       refine yL zG hC yi [1,1,2,0,0,1,0,1,2,1,0,0,1,1,2,0,1,1,2,1,0] [J1,J2,J3,J4,J5,J6] (fun s=>kG bi ay s.1 s.2.1 s.2.2) (fun x=>QR b_ ap cp ar bi ay x.1 x.2.1 x.2.2) (ff,true,0) ht7  [Hi F1_ h3] ?_
       rintro ⟨ib,ju,cu⟩ m7 md ba hl3 J7 kr
       try unfold kG at ba
       rcases zL ba with ⟨c3,ba⟩ | ⟨c3,ba⟩
       ·refine yJ zG hC yi [1,1,2,0,0,1,0,1,2,1,0,0,1,1,2,0,1,1,2,1,0,0,1,1] [J1,J2,J3,J4,J5,J6,J7] [0,2,3,4,6,7,15,16,17,28,29] (fun z:List zi × Bool=>uf cu z.1 z.2=some md) (fun z=>QU b_ ap cp ar bi ay cu z.1 z.2) [(0,.d (.sptr (Ug b_))),(2,.own (eOs 1 false F3_ cp)),(3,.own (eOs 2 false Jk ap)),(4,.own (eOs 2 false Jk ib)),(6,.own (.box (Jk bi))),(7,.d (B ju)),(15,.als 3 [] 0 0),(16,.d (I ((ap.length:Nat):Int))),(17,.d (I ar)),(28,.d (F1_ ay)),(29,.d (I cu))] [Hq c3,Hh (.cut 0)] ?_ fun J8 me=>?_
        ·rintro ⟨k9,la⟩ ba
         unfold uf at ba
         obtain rfl:=zb ba
         exact yB zG hC kr (k9,la,w64 (cu + 1)) hl3 []
        ·obtain ⟨cell,h4,ba⟩:=zf ba
         let Z1:List HO:=[Hs (iM (eI .i32) h4),Hn (ixV (k:=.i32) (tt:=y9) (e:=21) (l:=([ay.e0,ay.e1,ay.e2,ay.e3,ay.e4,ay.e5,ay.e6,ay.e7,ay.e8,ay.e9,ay.e10,ay.e11,ay.e12,ay.e13,ay.e14,ay.e15]:List Int)) (fun _=>by kernel_rfl) h4 (m:=16) rfl)]
         rcases zL ba with ⟨c4,ba⟩ | ⟨c4,ba⟩
         ·obtain ⟨aj,h5,ba⟩:=zf ba
          obtain ⟨g1,ba⟩:=gdE ba
          obtain ⟨g2,ba⟩:=gdE ba
          exact yB ((zpH zt 32).or zG) hC me ((ib ++ ([(zi.mk cell (aj ++ ([cu]:List Int)))]:List zi)),false) ba (Z1 ++ [Hq c4,Hc h00 (x:=bi.w_) h5 (loC F7_ bi.w_ <| loN),Hq (dM (eI .i64) ([cu]:List Int)),Hn (dM (eI .i64) ([cu]:List Int)),Hn (aN (eI .i64) (eI .i64) g1 (by simp)),Hl (aM (eI .i64) aj ([cu]:List Int)),Hm (shM (eI .i64) (eI .i64) (aj ++ ([cu]:List Int))),Hq (dM Jk ([(zi.mk cell (aj ++ ([cu]:List Int)))]:List zi)),Hn (dM Jk ([(zi.mk cell (aj ++ ([cu]:List Int)))]:List zi)),Hn (aL Jk Jk g2),Hl (aM Jk ib ([(zi.mk cell (aj ++ ([cu]:List Int)))]:List zi))])
         ·exact yB ((zpH zt 32).or zG) hC me (ib,ju) ba (Z1 ++ [Hq c4])
       ·obtain rfl:=zb ba
        obtain rfl:=hl3
        exact yB zG hC gz (ib,ju) ai [Hq c3]
    ·obtain rfl:=zb ai
     obtain rfl:=hl2
     exact yB zG hC bz (cp,ff) ae [Hq c1]
  ·obtain rfl:=zb ae
   obtain rfl:=hl1
   exact yB zG hC az ak aa (Z0 ++ [Hq c0])
def z4u:Code:=(Tryz.f35.body).getD .skip
def qu:zO:=spF (α:=Nat × z6 × Int × Int) (ρ:=List (List Int) × Int) 35 (fun x=>[(eIf 77) x.1,zQ x.2.1,(eI .i64) x.2.2.1,(eI .i64) x.2.2.2]) (fun r=>.tup [Uh r.1,(eI .i64) r.2]) (fun x=>YU x.1 x.2.1 x.2.2.1 x.2.2.2) [] (zrC)
theorem z52 (hC:zB Tryz.prog ctr) (h0B:ctr.Has Zs) (h0C:ctr.Has qP) (h0D:ctr.Has jZ) (h1B:ctr.Has kR) (h07:ctr.Has jT):qu.Ok Tryz.prog:=by
 refine zD ?_
 rintro ⟨s_,m_,bound,dn⟩ r0 aa
 try unfold YU at aa
 refine yO false [(8,none),(9,none)] z4u 56 Tryz.func35 fun E hE=>?_
 obtain ⟨r_,h0,aa⟩:=zf aa
 let Z0:List HO:=[Hc h0B (x:=(m_,bound)) h0 (loC zQ m_ <| loC (eI .i64) bound <| loN)]
 rcases zL aa with ⟨c0,aa⟩ | ⟨c0,aa⟩
 ·obtain rfl:=zb aa
  exact yEx X0 hC hE (Z0 ++ [Hq c0,Hm (shM F7_ F7_ [])]) (.tup [eSl 1 true F3_ [],I r_]) (show LeV (.tup [eSl 1 true F3_ [],I r_]) (.tup [eSl 1 true F3_ ([]:List (List Int)),I r_]) from inferInstance)
 ·rcases zL aa with ⟨c1,aa⟩ | ⟨c1,aa⟩
  ·obtain rfl:=zb aa
   exact yEx X0 hC hE (Z0 ++ [Hq c0,Hq c1,Hq c1,Hq c1,qT,Hm (shM F7_ F7_ [])]) (.tup [eSl 1 true F3_ [],I 1]) (show LeV (.tup [eSl 1 true F3_ [],I 1]) (.tup [eSl 1 true F3_ ([]:List (List Int)),I 1]) from inferInstance)
  ·let Z1:List HO:=(Z0 ++ [Hq c0,Hq c1,Hq c1,Hq c1])
   rcases zL aa with ⟨c2,aa⟩ | ⟨c2,aa⟩
   ·obtain rfl:=zb aa
    exact yEx X0 hC hE (Z1 ++ [Hq c2,Hm (shM F7_ F7_ [])]) (.tup [eSl 1 true F3_ [],I 1]) (show LeV (.tup [eSl 1 true F3_ [],I 1]) (.tup [eSl 1 true F3_ ([]:List (List Int)),I 1]) from inferInstance)
   ·obtain ⟨ah,h1,aa⟩:=zf aa
    let Z2:List HO:=(Z1 ++ [Hq c2,Hc h0C (x:=(m_,bound)) h1 (loC zQ m_ <| loC (eI .i64) bound <| loN),Hn (rfl:T.d (ePo jH ah.1)=T.d (ePo jH ah.1))])
    rcases zL aa with ⟨c3,aa⟩ | ⟨c3,aa⟩
    ·obtain rfl:=zb aa
     exact yEx ((xRe Tryz.prog 11 (ePo jH ah.1) (ePo jH ah.1) (fun _ _ q=>q)).or X0) hC hE (Z2 ++ [Hq c3,Hm (shM F7_ F7_ [])]) (.tup [eSl 1 true F3_ [],I 13]) (show LeV (.tup [eSl 1 true F3_ [],I 13]) (.tup [eSl 1 true F3_ ([]:List (List Int)),I 13]) from inferInstance)
    ·obtain ⟨there,h2,aa⟩:=zf aa
     obtain ⟨aj,h3,aa⟩:=zf aa
     let Z3:List HO:=(Z2 ++ [Hq c3,Hn (rfl:T.d (ePo jH ah.1)=T.d (ePo jH ah.1)),Hc h0D (x:=(there,s_,dn)) h3 (loC zgU there <| loC (eIf 77) s_ <| loC (eI .i64) dn <| loN),Hn (rfl:T.d (ePo Ug aj.1)=T.d (ePo Ug aj.1))])
     rcases zL aa with ⟨c4,aa⟩ | ⟨c4,aa⟩
     ·obtain rfl:=zb aa
      exact yEx ((xRe Tryz.prog 13 (ePo Ug aj.1) (ePo Ug aj.1) (fun _ _ q=>q)).or ((xRe Tryz.prog 38 (ePo jH ah.1) (.sptr (.agg [.agg [I there.m_.Inputs,I there.m_.Outputs,eSl 1 false yQ there.m_.Rows],eSl 1 false F7_ there.q_,eSl 1 false F7_ there.p_,eSl 1 false F7_ there.all_,eSl 1 false w8 there.each_,eSl 1 false F7_ there.short_,eSl 1 false F7_ there.exact_])) (poM (f:=jH) h2)).or ((xRe Tryz.prog 11 (ePo jH ah.1) (ePo jH ah.1) (fun _ _ q=>q)).or X0))) hC hE (Z3 ++ [Hq c4,Hm (shM F7_ F7_ [])]) (.tup [eSl 1 true F3_ [],I 13]) (show LeV (.tup [eSl 1 true F3_ [],I 13]) (.tup [eSl 1 true F3_ ([]:List (List Int)),I 13]) from inferInstance)
     ·obtain ⟨ee,h4,aa⟩:=zf aa
      obtain ⟨aw,h5,aa⟩:=zf aa
      obtain ⟨cd,h6,aa⟩:=zf aa
      let Z4:List HO:=(Z3 ++ [Hq c4,Hn (rfl:T.d (ePo Ug aj.1)=T.d (ePo Ug aj.1)),Hc h1B (x:=ee) h5 (loC (eSp Ug) ee <| loN),Hg (z1L h07),Hm (shM F3_ F3_ aw),Hs (z1M h07 (x:=(aw,m_.Inputs)) h6 (loC Uh aw <| loC (eI .i64) m_.Inputs <| loN))])
      rcases zL aa with ⟨c5,aa⟩ | ⟨c5,aa⟩
      ·obtain rfl:=zb aa
       exact yEx ((xRe Tryz.prog 46 (ePo Ug aj.1) (.sptr (.agg [eSl 16 false F1_ ee.nodes_,I ee.leaves_,I ee.most_])) (poM (f:=Ug) h4)).or ((xRe Tryz.prog 13 (ePo Ug aj.1) (ePo Ug aj.1) (fun _ _ q=>q)).or ((xRe Tryz.prog 38 (ePo jH ah.1) (.sptr (.agg [.agg [I there.m_.Inputs,I there.m_.Outputs,eSl 1 false yQ there.m_.Rows],eSl 1 false F7_ there.q_,eSl 1 false F7_ there.p_,eSl 1 false F7_ there.all_,eSl 1 false w8 there.each_,eSl 1 false F7_ there.short_,eSl 1 false F7_ there.exact_])) (poM (f:=jH) h2)).or ((xRe Tryz.prog 11 (ePo jH ah.1) (ePo jH ah.1) (fun _ _ q=>q)).or X0)))) hC hE (Z4 ++ [Hq c5,Hm (shM F7_ F7_ [])]) (.tup [eSl 1 true F3_ [],I cd]) (show LeV (.tup [eSl 1 true F3_ [],I cd]) (.tup [eSl 1 true F3_ ([]:List (List Int)),I cd]) from inferInstance)
      ·obtain rfl:=zb aa
       exact yE ((xRe Tryz.prog 46 (ePo Ug aj.1) (.sptr (.agg [eSl 16 false F1_ ee.nodes_,I ee.leaves_,I ee.most_])) (poM (f:=Ug) h4)).or ((xRe Tryz.prog 13 (ePo Ug aj.1) (ePo Ug aj.1) (fun _ _ q=>q)).or ((xRe Tryz.prog 38 (ePo jH ah.1) (.sptr (.agg [.agg [I there.m_.Inputs,I there.m_.Outputs,eSl 1 false yQ there.m_.Rows],eSl 1 false F7_ there.q_,eSl 1 false F7_ there.p_,eSl 1 false F7_ there.all_,eSl 1 false w8 there.each_,eSl 1 false F7_ there.short_,eSl 1 false F7_ there.exact_])) (poM (f:=jH) h2)).or ((xRe Tryz.prog 11 (ePo jH ah.1) (ePo jH ah.1) (fun _ _ q=>q)).or X0)))) hC hE (Z4 ++ [Hq c5,Hm (shM F3_ F3_ aw)])
def z9f:Code:=(Tryz.f10.body).getD .skip
def z07:zO:=spF (α:=z6 × Int × Int) (ρ:=List (List Int) × Int) 10 (fun x=>[zQ x.1,(eI .i64) x.2.1,(eI .i64) x.2.2]) (fun r=>.tup [Uh r.1,(eI .i64) r.2]) (fun x=>Kc x.1 x.2.1 x.2.2) [] (z6I)
theorem zab (hC:zB Tryz.prog ctr) (h0j:ctr.Has qu):z07.Ok Tryz.prog:=by
 refine zD ?_
 rintro ⟨m_,bound,dn⟩ r0 aa
 try unfold Kc at aa
 refine yO false [(6,none),(7,none)] z9f 16 Tryz.func10 fun E hE=>?_
 obtain ⟨r_,h0,aa⟩:=zf aa
 obtain rfl:=zb aa
 exact yE ((zgY Tryz.prog 9 77 Tryz.underlying77).or X0) hC hE [Hc h0j (x:=(0,m_,bound,dn)) h0 (loC (eIf 77) 0 <| loC zQ m_ <| loC (eI .i64) bound <| loC (eI .i64) dn <| loN)]
def z8g:Code:=(Tryz.f11.body).getD .skip
def JE:zO:=spF (α:=z6 × Int × Int) (ρ:=List (List Int) × Int) 11 (fun x=>[zQ x.1,(eI .i64) x.2.1,(eI .i64) x.2.2]) (fun r=>.tup [Uh r.1,(eI .i64) r.2]) (fun x=>z3F x.1 x.2.1 x.2.2) [] (z6I)
theorem z8z (hC:zB Tryz.prog ctr) (h0j:ctr.Has qu):JE.Ok Tryz.prog:=by
 refine zD ?_
 rintro ⟨m_,bound,dn⟩ r0 aa
 try unfold z3F at aa
 refine yO false [(6,none),(7,none)] z8g 16 Tryz.func11 fun E hE=>?_
 obtain ⟨r_,h0,aa⟩:=zf aa
 obtain rfl:=zb aa
 exact yE ((zgY Tryz.prog 9 78 Tryz.underlying78).or X0) hC hE [Hc h0j (x:=(1,m_,bound,dn)) h0 (loC (eIf 77) 1 <| loC zQ m_ <| loC (eI .i64) bound <| loC (eI .i64) dn <| loN)]
def z6S:Code:=(Tryz.f12.body).getD .skip
def UW:zO:=spF (α:=z6 × Int × Int) (ρ:=List (List Int) × Int) 12 (fun x=>[zQ x.1,(eI .i64) x.2.1,(eI .i64) x.2.2]) (fun r=>.tup [Uh r.1,(eI .i64) r.2]) (fun x=>z1z x.1 x.2.1 x.2.2) [] (z6I)
theorem z7b (hC:zB Tryz.prog ctr) (h0j:ctr.Has qu):UW.Ok Tryz.prog:=by
 refine zD ?_
 rintro ⟨m_,bound,dn⟩ r0 aa
 try unfold z1z at aa
 refine yO false [(6,none),(7,none)] z6S 16 Tryz.func12 fun E hE=>?_
 obtain ⟨r_,h0,aa⟩:=zf aa
 obtain rfl:=zb aa
 exact yE ((zgY Tryz.prog 9 79 Tryz.underlying79).or X0) hC hE [Hc h0j (x:=(2,m_,bound,dn)) h0 (loC (eIf 77) 2 <| loC zQ m_ <| loC (eI .i64) bound <| loC (eI .i64) dn <| loN)]
def z6U:Code:=(Tryz.f14.body).getD .skip
def UY:zO:=spF (α:=List (List Int) × List (List Int)) (ρ:=Bool) 14 (fun x=>[Uh x.1,w8 x.2]) (fun r=>eB r) (fun x=>Us x.1 x.2) [] (QM)
theorem z7f (hC:zB Tryz.prog ctr) (h0m:ctr.Has Xz):UY.Ok Tryz.prog:=by
 refine zD ?_
 rintro ⟨a_,b_⟩ r0 aa
 try unfold Us at aa
 refine yO true [(4,none)] z6U 15 Tryz.func14 fun E hE=>?_
 obtain ⟨r_,h0,aa⟩:=zf aa
 let Z0:List HO:=[Hc h0m (x:=(a_,b_)) h0 (loC Uh a_ <| loC w8 b_ <| loN)]
 rcases zL aa with ⟨c0,aa⟩ | ⟨c0,aa⟩
 ·obtain rfl:=zb aa
  exact yE X0 hC hE (Z0 ++ [Hq c0,Hq c0,Ha (lnM F3_ a_),Hq c0,Hq c0,Ha (lnM F3_ a_),Hq c0,Hq c0])
 ·obtain rfl:=zb aa
  exact yE X0 hC hE (Z0 ++ (rpN 6 (Hq c0) []))
def WO:Code:=(Tryz.f13.body).getD .skip
def Wg:zO:=spF (α:=z6 × Int) (ρ:=Ui Int × Int) 13 (fun x=>[zQ x.1,(eI .i64) x.2]) (fun r=>.tup [(ziC (eI .i64)) r.1,(eI .i64) r.2]) (fun x=>JA x.1 x.2) [] (QM)
abbrev z1a (n_:Ui Int):List (Nat × T):=[(4,.own (.box ((ziC (eI .i64)) n_)))]
abbrev z19 (ah:Option zj × Int) (dj:Ui Int) (ij:Int):List (Nat × T):=[(4,.own (.box ((ziC (eI .i64)) dj))),(7,.d (ePo jH ah.1)),(34,.own (eOs 1 true (eIf 77) ([0,1,2]))),(35,.d (I ((([0,1,2]:List Nat).length:Nat):Int))),(36,.d (I ij))]
theorem z54 (hC:zB Tryz.prog ctr) (h0B:ctr.Has Zs) (h0C:ctr.Has qP) (h0D:ctr.Has jZ):Wg.Ok Tryz.prog:=by
 refine zD ?_
 rintro ⟨m_,bound⟩ r0 aa
 try unfold JA at aa
 refine yO false [(4,some 36),(5,none)] WO 59 Tryz.func13 fun E hE=>?_
 obtain ⟨r_,h0,aa⟩:=zf aa
 let Z0:List HO:=[Hc h0B (x:=(m_,bound)) h0 (loC zQ m_ <| loC (eI .i64) bound <| loN)]
 rcases zL aa with ⟨c0,aa⟩ | ⟨c0,aa⟩
 ·obtain rfl:=zb aa
  exact yE X0 hC hE (Z0 ++ [Hq c0])
 ·obtain ⟨ah,h1,aa⟩:=zf aa
  let Z1:List HO:=(Z0 ++ [Hq c0,Hc h0C (x:=(m_,bound)) h1 (loC zQ m_ <| loC (eI .i64) bound <| loN),Hn (rfl:T.d (ePo jH ah.1)=T.d (ePo jH ah.1))])
  rcases zL aa with ⟨c1,aa⟩ | ⟨c1,aa⟩
  ·obtain rfl:=zb aa
   exact yE ((xRe Tryz.prog 7 (ePo jH ah.1) (ePo jH ah.1) (fun _ _ q=>q)).or X0) hC hE (Z1 ++ [Hq c1])
  ·refine yJ ((xRe Tryz.prog 7 (ePo jH ah.1) (ePo jH ah.1) (fun _ _ q=>q)).or X0) hC WO [1,1,1,1] [] [4] (fun z:Ui Int=>Wb z=some r0) (fun z=>z1a z) [(4,.own (.box (.agg [I 0,I 0,I 0]))),(7,.d (ePo jH ah.1))] (Z1 ++ [Hq c1,Hh (.cut 0)]) ?_ fun J1 az=>?_
   ·rintro n_ aa
    unfold Wb at aa
    obtain rfl:=zb aa
    exact yE X0 hC hE []
   ·obtain ⟨t2,ht2,aa⟩:=zf aa
    refine yL ((zgY Tryz.prog 33 79 Tryz.underlying79).or ((zgY Tryz.prog 31 78 Tryz.underlying78).or ((zgY Tryz.prog 29 77 Tryz.underlying77).or X0))) hC WO [1,1,1,1,2,1,0] [J1] (fun s=>Wa ah s.1 s.2) (fun x=>z19 ah x.1 x.2) ((Ui.mk 0 0 0),0) ht2  [Ha (lnM (eIf 77) ([0,1,2]:List Nat))] ?_
    rintro ⟨dj,ij⟩ m2 a8 ae hl1 J2 a6
    try unfold Wa at ae
    rcases zL ae with ⟨c2,ae⟩ | ⟨c2,ae⟩
    ·obtain ⟨kc,h2,ae⟩:=zf ae
     obtain ⟨there,h3,ae⟩:=zf ae
     obtain ⟨aj,h4,ae⟩:=zf ae
     let Z2:List HO:=[Hq c2,Hn (iL (eIf 77) h2),Hs (iM (eIf 77) h2),Hn (rfl:T.d (ePo jH ah.1)=T.d (ePo jH ah.1)),Hc h0D (x:=(there,kc,4096)) h4 (loC zgU there <| loC (eIf 77) kc <| loC (eI .i64) 4096 <| loN),Hn (rfl:T.d (ePo Ug aj.1)=T.d (ePo Ug aj.1))]
     rcases zL ae with ⟨c3,ae⟩ | ⟨c3,ae⟩
     ·obtain rfl:=zb ae
      obtain rfl:=hl1
      obtain rfl:=zb aa
      exact yE ((xRe Tryz.prog 10 (ePo Ug aj.1) (ePo Ug aj.1) (fun _ _ q=>q)).or ((xRe Tryz.prog 42 (ePo jH ah.1) (.sptr (.agg [.agg [I there.m_.Inputs,I there.m_.Outputs,eSl 1 false yQ there.m_.Rows],eSl 1 false F7_ there.q_,eSl 1 false F7_ there.p_,eSl 1 false F7_ there.all_,eSl 1 false w8 there.each_,eSl 1 false F7_ there.short_,eSl 1 false F7_ there.exact_])) (poM (f:=jH) h3)).or X0)) hC hE (Z2 ++ [Hq c3])
     ·obtain ⟨ee,h5,ae⟩:=zf ae
      obtain ⟨cell,h6,ae⟩:=zf ae
      obtain ⟨arr,h7,ae⟩:=zf ae
      replace h7:=zb h7
      obtain rfl:=zb ae
      exact yB ((xRe Tryz.prog 51 (ePo Ug aj.1) (.sptr (.agg [eSl 16 false F1_ ee.nodes_,I ee.leaves_,I ee.most_])) (poM (f:=Ug) h5)).or ((xRe Tryz.prog 10 (ePo Ug aj.1) (ePo Ug aj.1) (fun _ _ q=>q)).or ((xRe Tryz.prog 42 (ePo jH ah.1) (.sptr (.agg [.agg [I there.m_.Inputs,I there.m_.Outputs,eSl 1 false yQ there.m_.Rows],eSl 1 false F7_ there.q_,eSl 1 false F7_ there.p_,eSl 1 false F7_ there.all_,eSl 1 false w8 there.each_,eSl 1 false F7_ there.short_,eSl 1 false F7_ there.exact_])) (poM (f:=jH) h3)).or X0))) hC a6 (arr,w64 (ij + 1)) hl1 (Z2 ++ [Hq c3,Hn (rfl:T.d (ePo Ug aj.1)=T.d (ePo Ug aj.1)),Hn (⟨arJ (by kernel_rfl) (i0 h6),(iL (eI .i64) h6).2⟩:Zb y9 36 ((Ui.toL dj).map (eI .i64)) ij=true ∧ ij.toNat < ((Ui.toL dj).map (eI .i64)).length),Hh (.op 7),Hh (.f),Hs (iM (eI .i64) h6),Hh (.f),Hs (iM (eI .i64) h6),Hx (.l ((Ui.toL arr).map (eI .i64))) ((Ui.setL (eI .i64) dj ij (mx ee.leaves_ 1)).trans (congrArg (fun q=>(Ui.toL q).map (eI .i64)) h7))])
    ·obtain rfl:=zb ae
     obtain rfl:=hl1
     exact yB X0 hC az dj aa [Hq c2]
def z5v:Code:=(Tryz.f18.body).getD .skip
def VK:zO:=spF (α:=Unit) (ρ:=Bool) 18 (fun x=>[]) (fun r=>eB r) (fun x=>Qc) [] (fun _ _ _=>rfl)
theorem z6e (hC:zB Tryz.prog ctr) (h1C:ctr.Has Xk) (h0n:ctr.Has z07) (h1D:ctr.Has JE) (h1E:ctr.Has UW) (h01:ctr.Has UY) (h1F:ctr.Has Wg):VK.Ok Tryz.prog:=by
 refine zD ?_
 rintro ⟨⟩ r0 aa
 try unfold Qc at aa
 refine yO true [(0,none)] z5v 105 Tryz.func18 fun E hE=>?_
 obtain ⟨r_,h0,aa⟩:=zf aa
 obtain ⟨ah,h1,aa⟩:=zf aa
 obtain ⟨aj,h2,aa⟩:=zf aa
 obtain ⟨aw,h3,aa⟩:=zf aa
 let Z0:List HO:=[Hc h1C (x:=()) h0 (loN),Hc h0n (x:=(r_,3,8)) h1 (loC zgV r_ <| loC (eI .i64) 3 <| loC (eI .i64) 8 <| loN),Hc h1D (x:=(r_,3,4096)) h2 (loC zgV r_ <| loC (eI .i64) 3 <| loC (eI .i64) 4096 <| loN),Hc h1E (x:=(r_,3,4096)) h3 (loC zgV r_ <| loC (eI .i64) 3 <| loC (eI .i64) 4096 <| loN)]
 rcases zL aa with ⟨c0,aa⟩ | ⟨c0,aa⟩
 ·obtain rfl:=zb aa
  exact yE X0 hC hE (Z0 ++ (Hq c0 :: Hq c0 :: Hq c0 :: (rpN 21 qT [])))
 ·rcases zL aa with ⟨c1,aa⟩ | ⟨c1,aa⟩
  ·obtain rfl:=zb aa
   exact yE X0 hC hE (Z0 ++ (Hq c0 :: Hq c0 :: Hq c0 :: Hq c1 :: Hq c1 :: Hq c1 :: (rpN 18 qT [])))
  ·let Z1:List HO:=(Z0 ++ [Hq c0,Hq c0,Hq c0,Hq c1,Hq c1,Hq c1])
   rcases zL aa with ⟨c2,aa⟩ | ⟨c2,aa⟩
   ·obtain rfl:=zb aa
    exact yE X0 hC hE (Z1 ++ (rpN 5 (Hq c2) (rpN 13 qT [])))
   ·obtain ⟨cd,h4,aa⟩:=zf aa
    let Z2:List HO:=(Z1 ++ [Hq c2,Hq c2,Hq c2,Hm (shM F4_ F3_ ([[1,0],[1,1],[0,1,0],[0,1,1],[0,0,0,0],[0,0,0,1],[0,0,1,0],[0,0,1,1]])),Hn (VD (f:=.fn 14 []) (xs:=[Uh ah.1,w8 ([[1,0],[1,1],[0,1,0],[0,1,1],[0,0,0,0],[0,0,0,1],[0,0,1,0],[0,0,1,1]]:List (List Int))]) (ls:=[]) (r:=B cd) (ys:=[]) [Uh ah.1,Uh ([[1,0],[1,1],[0,1,0],[0,1,1],[0,0,0,0],[0,0,0,1],[0,0,1,0],[0,0,1,1]]:List (List Int))] (show z0s [Uh ah.1,Uh ([[1,0],[1,1],[0,1,0],[0,1,1],[0,0,0,0],[0,0,0,1],[0,0,1,0],[0,0,1,1]]:List (List Int))] [Uh ah.1,w8 ([[1,0],[1,1],[0,1,0],[0,1,1],[0,0,0,0],[0,0,0,1],[0,0,1,0],[0,0,1,1]]:List (List Int))] from inferInstance)),Hq c2,Hq c2])
    rcases zL aa with ⟨c3,aa⟩ | ⟨c3,aa⟩
    ·obtain rfl:=zb aa
     exact yE ((Y1 (P:=Tryz.prog) y9 [] (lentCall (wW hC h01 (x:=(ah.1,([[1,0],[1,1],[0,1,0],[0,1,1],[0,0,0,0],[0,0,0,1],[0,0,1,0],[0,0,1,1]]:List (List Int)))) h4)) 49).or X0) hC hE (Z2 ++ (rpN 6 (Hq c3) (rpN 7 qT [])))
    ·obtain ⟨g0,aa⟩:=gdE aa
     obtain ⟨fq,h5,aa⟩:=zf aa
     let Z3:List HO:=(Z2 ++ [Hq c3,Hq c3,Hq c3,Hn (slB g0),Hn (zkf F3_ g0),Ha (slM 1 (true && (7:Int).toNat == (([[1,0],[1,1],[0,1,0],[0,1,1],[0,0,0,0],[0,0,0,1],[0,0,1,0],[0,0,1,1]]:List (List Int)).map F3_).length) F3_ ([[1,0],[1,1],[0,1,0],[0,1,1],[0,0,0,0],[0,0,0,1],[0,0,1,0],[0,0,1,1]]:List (List Int)) 0 (7:Int).toNat),Hq c3,Hn (VD (f:=.fn 14 []) (xs:=[Uh aj.1,w8 ((([[1,0],[1,1],[0,1,0],[0,1,1],[0,0,0,0],[0,0,0,1],[0,0,1,0],[0,0,1,1]]:List (List Int)).drop 0).take ((7:Int).toNat - 0))]) (ls:=[]) (r:=B fq) (ys:=[]) [Uh aj.1,(eSl 1 (true && (7:Int).toNat == (([[1,0],[1,1],[0,1,0],[0,1,1],[0,0,0,0],[0,0,0,1],[0,0,1,0],[0,0,1,1]]:List (List Int)).map F3_).length) F3_) ((([[1,0],[1,1],[0,1,0],[0,1,1],[0,0,0,0],[0,0,0,1],[0,0,1,0],[0,0,1,1]]:List (List Int)).drop 0).take ((7:Int).toNat - 0))] (show z0s [Uh aj.1,(eSl 1 (true && (7:Int).toNat == (([[1,0],[1,1],[0,1,0],[0,1,1],[0,0,0,0],[0,0,0,1],[0,0,1,0],[0,0,1,1]]:List (List Int)).map F3_).length) F3_) ((([[1,0],[1,1],[0,1,0],[0,1,1],[0,0,0,0],[0,0,0,1],[0,0,1,0],[0,0,1,1]]:List (List Int)).drop 0).take ((7:Int).toNat - 0))] [Uh aj.1,w8 ((([[1,0],[1,1],[0,1,0],[0,1,1],[0,0,0,0],[0,0,0,1],[0,0,1,0],[0,0,1,1]]:List (List Int)).drop 0).take ((7:Int).toNat - 0))] from inferInstance)),Hq c3,Hq c3])
     rcases zL aa with ⟨c4,aa⟩ | ⟨c4,aa⟩
     ·obtain rfl:=zb aa
      exact yE ((Y1 (P:=Tryz.prog) y9 [] (lentCall (wW hC h01 (x:=(aj.1,((([[1,0],[1,1],[0,1,0],[0,1,1],[0,0,0,0],[0,0,0,1],[0,0,1,0],[0,0,1,1]]:List (List Int)).drop 0).take ((7:Int).toNat - 0)))) h5)) 56).or ((Y1 (P:=Tryz.prog) y9 [] (lentCall (wW hC h01 (x:=(ah.1,([[1,0],[1,1],[0,1,0],[0,1,1],[0,0,0,0],[0,0,0,1],[0,0,1,0],[0,0,1,1]]:List (List Int)))) h4)) 49).or X0)) hC hE (Z3 ++ (rpN 6 (Hq c4) [qT]))
     ·obtain ⟨g1,aa⟩:=gdE aa
      obtain ⟨ji,h6,aa⟩:=zf aa
      let Z4:List HO:=(Z3 ++ [Hq c4,Hq c4,Hq c4,Hn (slB g1),Hn (zkf F3_ g1),Ha (slM 1 (true && (7:Int).toNat == (([[1,0],[1,1],[0,1,0],[0,1,1],[0,0,0,0],[0,0,0,1],[0,0,1,0],[0,0,1,1]]:List (List Int)).map F3_).length) F3_ ([[1,0],[1,1],[0,1,0],[0,1,1],[0,0,0,0],[0,0,0,1],[0,0,1,0],[0,0,1,1]]:List (List Int)) 0 (7:Int).toNat),Hq c4,Hn (VD (f:=.fn 14 []) (xs:=[Uh aw.1,w8 ((([[1,0],[1,1],[0,1,0],[0,1,1],[0,0,0,0],[0,0,0,1],[0,0,1,0],[0,0,1,1]]:List (List Int)).drop 0).take ((7:Int).toNat - 0))]) (ls:=[]) (r:=B ji) (ys:=[]) [Uh aw.1,(eSl 1 (true && (7:Int).toNat == (([[1,0],[1,1],[0,1,0],[0,1,1],[0,0,0,0],[0,0,0,1],[0,0,1,0],[0,0,1,1]]:List (List Int)).map F3_).length) F3_) ((([[1,0],[1,1],[0,1,0],[0,1,1],[0,0,0,0],[0,0,0,1],[0,0,1,0],[0,0,1,1]]:List (List Int)).drop 0).take ((7:Int).toNat - 0))] (show z0s [Uh aw.1,(eSl 1 (true && (7:Int).toNat == (([[1,0],[1,1],[0,1,0],[0,1,1],[0,0,0,0],[0,0,0,1],[0,0,1,0],[0,0,1,1]]:List (List Int)).map F3_).length) F3_) ((([[1,0],[1,1],[0,1,0],[0,1,1],[0,0,0,0],[0,0,0,1],[0,0,1,0],[0,0,1,1]]:List (List Int)).drop 0).take ((7:Int).toNat - 0))] [Uh aw.1,w8 ((([[1,0],[1,1],[0,1,0],[0,1,1],[0,0,0,0],[0,0,0,1],[0,0,1,0],[0,0,1,1]]:List (List Int)).drop 0).take ((7:Int).toNat - 0))] from inferInstance)),Hq c4,Hq c4])
      rcases zL aa with ⟨c5,aa⟩ | ⟨c5,aa⟩
      ·obtain rfl:=zb aa
       exact yE ((Y1 (P:=Tryz.prog) y9 [] (lentCall (wW hC h01 (x:=(aw.1,((([[1,0],[1,1],[0,1,0],[0,1,1],[0,0,0,0],[0,0,0,1],[0,0,1,0],[0,0,1,1]]:List (List Int)).drop 0).take ((7:Int).toNat - 0)))) h6)) 63).or ((Y1 (P:=Tryz.prog) y9 [] (lentCall (wW hC h01 (x:=(aj.1,((([[1,0],[1,1],[0,1,0],[0,1,1],[0,0,0,0],[0,0,0,1],[0,0,1,0],[0,0,1,1]]:List (List Int)).drop 0).take ((7:Int).toNat - 0)))) h5)) 56).or ((Y1 (P:=Tryz.prog) y9 [] (lentCall (wW hC h01 (x:=(ah.1,([[1,0],[1,1],[0,1,0],[0,1,1],[0,0,0,0],[0,0,0,1],[0,0,1,0],[0,0,1,1]]:List (List Int)))) h4)) 49).or X0))) hC hE (Z4 ++ [Hq c5])
      ·obtain ⟨kq,h7,aa⟩:=zf aa
       obtain ⟨nn,h8,aa⟩:=zf aa
       obtain ⟨nq,h9,aa⟩:=zf aa
       obtain ⟨l6,h10,aa⟩:=zf aa
       let Z5:List HO:=(Z4 ++ [Hq c5,Hc h0n (x:=(r_,2,9)) h7 (loC zgV r_ <| loC (eI .i64) 2 <| loC (eI .i64) 9 <| loN),Hc h0n (x:=(r_,8,9)) h8 (loC zgV r_ <| loC (eI .i64) 8 <| loC (eI .i64) 9 <| loN),Hc h0n (x:=(r_,3,7)) h9 (loC zgV r_ <| loC (eI .i64) 3 <| loC (eI .i64) 7 <| loN),Hc h1F (x:=(r_,3)) h10 (loC zgV r_ <| loC (eI .i64) 3 <| loN)])
       rcases zL aa with ⟨c6,aa⟩ | ⟨c6,aa⟩
       ·rcases zL aa with ⟨c7,aa⟩ | ⟨c7,aa⟩
        ·let Z6:List HO:=(Z5 ++ [Hq c6,Hq c6,Hq c6,Hq c7,Hq c7,Hq c7])
         rcases zL aa with ⟨c8,aa⟩ | ⟨c8,aa⟩
         ·rcases zL aa with ⟨c9,aa⟩ | ⟨c9,aa⟩
          ·obtain rfl:=zb aa
           exact yE ((Y1 (P:=Tryz.prog) y9 [] (lentCall (wW hC h01 (x:=(aw.1,((([[1,0],[1,1],[0,1,0],[0,1,1],[0,0,0,0],[0,0,0,1],[0,0,1,0],[0,0,1,1]]:List (List Int)).drop 0).take ((7:Int).toNat - 0)))) h6)) 63).or ((Y1 (P:=Tryz.prog) y9 [] (lentCall (wW hC h01 (x:=(aj.1,((([[1,0],[1,1],[0,1,0],[0,1,1],[0,0,0,0],[0,0,0,1],[0,0,1,0],[0,0,1,1]]:List (List Int)).drop 0).take ((7:Int).toNat - 0)))) h5)) 56).or ((Y1 (P:=Tryz.prog) y9 [] (lentCall (wW hC h01 (x:=(ah.1,([[1,0],[1,1],[0,1,0],[0,1,1],[0,0,0,0],[0,0,0,1],[0,0,1,0],[0,0,1,1]]:List (List Int)))) h4)) 49).or X0))) hC hE (Z6 ++ (Hq c8 :: Hq c8 :: Hq c8 :: (rpN 4 (Hq c9) [])))
          ·obtain rfl:=zb aa
           exact yE ((Y1 (P:=Tryz.prog) y9 [] (lentCall (wW hC h01 (x:=(aw.1,((([[1,0],[1,1],[0,1,0],[0,1,1],[0,0,0,0],[0,0,0,1],[0,0,1,0],[0,0,1,1]]:List (List Int)).drop 0).take ((7:Int).toNat - 0)))) h6)) 63).or ((Y1 (P:=Tryz.prog) y9 [] (lentCall (wW hC h01 (x:=(aj.1,((([[1,0],[1,1],[0,1,0],[0,1,1],[0,0,0,0],[0,0,0,1],[0,0,1,0],[0,0,1,1]]:List (List Int)).drop 0).take ((7:Int).toNat - 0)))) h5)) 56).or ((Y1 (P:=Tryz.prog) y9 [] (lentCall (wW hC h01 (x:=(ah.1,([[1,0],[1,1],[0,1,0],[0,1,1],[0,0,0,0],[0,0,0,1],[0,0,1,0],[0,0,1,1]]:List (List Int)))) h4)) 49).or X0))) hC hE (Z6 ++ (Hq c8 :: Hq c8 :: Hq c8 :: (rpN 4 (Hq c9) [])))
         ·obtain rfl:=zb aa
          exact yE ((Y1 (P:=Tryz.prog) y9 [] (lentCall (wW hC h01 (x:=(aw.1,((([[1,0],[1,1],[0,1,0],[0,1,1],[0,0,0,0],[0,0,0,1],[0,0,1,0],[0,0,1,1]]:List (List Int)).drop 0).take ((7:Int).toNat - 0)))) h6)) 63).or ((Y1 (P:=Tryz.prog) y9 [] (lentCall (wW hC h01 (x:=(aj.1,((([[1,0],[1,1],[0,1,0],[0,1,1],[0,0,0,0],[0,0,0,1],[0,0,1,0],[0,0,1,1]]:List (List Int)).drop 0).take ((7:Int).toNat - 0)))) h5)) 56).or ((Y1 (P:=Tryz.prog) y9 [] (lentCall (wW hC h01 (x:=(ah.1,([[1,0],[1,1],[0,1,0],[0,1,1],[0,0,0,0],[0,0,0,1],[0,0,1,0],[0,0,1,1]]:List (List Int)))) h4)) 49).or X0))) hC hE (Z6 ++ (Hq c8 :: Hq c8 :: Hq c8 :: (rpN 4 qF [])))
        ·obtain rfl:=zb aa
         exact yE ((Y1 (P:=Tryz.prog) y9 [] (lentCall (wW hC h01 (x:=(aw.1,((([[1,0],[1,1],[0,1,0],[0,1,1],[0,0,0,0],[0,0,0,1],[0,0,1,0],[0,0,1,1]]:List (List Int)).drop 0).take ((7:Int).toNat - 0)))) h6)) 63).or ((Y1 (P:=Tryz.prog) y9 [] (lentCall (wW hC h01 (x:=(aj.1,((([[1,0],[1,1],[0,1,0],[0,1,1],[0,0,0,0],[0,0,0,1],[0,0,1,0],[0,0,1,1]]:List (List Int)).drop 0).take ((7:Int).toNat - 0)))) h5)) 56).or ((Y1 (P:=Tryz.prog) y9 [] (lentCall (wW hC h01 (x:=(ah.1,([[1,0],[1,1],[0,1,0],[0,1,1],[0,0,0,0],[0,0,0,1],[0,0,1,0],[0,0,1,1]]:List (List Int)))) h4)) 49).or X0))) hC hE (Z5 ++ (Hq c6 :: Hq c6 :: Hq c6 :: Hq c7 :: Hq c7 :: Hq c7 :: (rpN 7 qF [])))
       ·obtain rfl:=zb aa
        exact yE ((Y1 (P:=Tryz.prog) y9 [] (lentCall (wW hC h01 (x:=(aw.1,((([[1,0],[1,1],[0,1,0],[0,1,1],[0,0,0,0],[0,0,0,1],[0,0,1,0],[0,0,1,1]]:List (List Int)).drop 0).take ((7:Int).toNat - 0)))) h6)) 63).or ((Y1 (P:=Tryz.prog) y9 [] (lentCall (wW hC h01 (x:=(aj.1,((([[1,0],[1,1],[0,1,0],[0,1,1],[0,0,0,0],[0,0,0,1],[0,0,1,0],[0,0,1,1]]:List (List Int)).drop 0).take ((7:Int).toNat - 0)))) h5)) 56).or ((Y1 (P:=Tryz.prog) y9 [] (lentCall (wW hC h01 (x:=(ah.1,([[1,0],[1,1],[0,1,0],[0,1,1],[0,0,0,0],[0,0,0,1],[0,0,1,0],[0,0,1,1]]:List (List Int)))) h4)) 49).or X0))) hC hE (Z5 ++ (Hq c6 :: Hq c6 :: Hq c6 :: (rpN 10 qF [])))
def xF:Code:=(Tryz.f7.body).getD .skip
def jP:zO:=spF (α:=yf × yG × yN) (ρ:=Bool) 7 (fun x=>[z8q x.1,za5 x.2.1,z8r x.2.2]) (fun r=>eB r) (fun x=>jC x.1 x.2.1 x.2.2) [] (z6I)
abbrev QA (r_:z6) (ah:z6) (l_:List (List Int)):List (Nat × T):=[(7,.own (.box (zQ r_))),(8,.own (.box (zQ ah))),(9,.own (eOs 1 false F6_ l_))]
abbrev Qz (r_:z6) (ah:z6) (aj:List (List Int)) (i_:Int) (jg:List (List Int)):List (Nat × T):=[(7,.own (.box (zQ r_))),(8,.own (.box (zQ ah))),(9,.own (eOs 1 false F6_ jg)),(10,.own (eOs 1 false F7_ aj)),(11,.d (I i_))]
abbrev Qy (r_:z6) (ah:z6) (aj:List (List Int)) (de:List (List Int)) (i_:Int) (w_:List Int):List (Nat × T):=[(7,.own (.box (zQ r_))),(8,.own (.box (zQ ah))),(9,.own (eOs 1 false F6_ de)),(10,.own (eOs 1 false F7_ aj)),(11,.d (I i_)),(12,.own (eOs 1 false (eI .i64) w_))]
abbrev Qw (r_:z6) (ah:z6) (aj:List (List Int)) (de:List (List Int)) (i_:Int) (gw:List Int) (k_:Int):List (Nat × T):=[(7,.own (.box (zQ r_))),(8,.own (.box (zQ ah))),(9,.own (eOs 1 false F6_ de)),(10,.own (eOs 1 false F7_ aj)),(11,.d (I i_)),(12,.own (eOs 1 false (eI .i64) gw)),(13,.d (I k_))]
abbrev Qx (r_:z6) (ah:z6) (aj:List (List Int)) (de:List (List Int)) (i_:Int):List (Nat × T):=[(7,.own (.box (zQ r_))),(8,.own (.box (zQ ah))),(9,.own (eOs 1 false F6_ de)),(10,.own (eOs 1 false F7_ aj)),(11,.d (I i_))]
theorem z03 (hC:zB Tryz.prog ctr) (h1G:ctr.Has Q1) (h1H:ctr.Has UZ) (h1I:ctr.Has Q0) (h0a:ctr.Has Xy) (h0P:ctr.Has Wh) (h0Q:ctr.Has VJ) (h1J:ctr.Has VK):jP.Ok Tryz.prog:=by
 refine zD ?_
 rintro ⟨x_,y_,z_⟩ r0 aa
 try unfold jC at aa
 refine yO true [(6,none)] xF 77 Tryz.func7 fun E hE=>?_
 obtain ⟨r_,h0,aa⟩:=zf aa
 obtain ⟨ah,h1,aa⟩:=zf aa
 obtain ⟨aj,h2,aa⟩:=zf aa
 refine yJ X0 hC xF [1,1,1,1,1] [] [7,8,9] (fun z:List (List Int)=>vJ r_ ah z=some r0) (fun z=>QA r_ ah z) [(7,.own (.box (zQ r_))),(8,.own (.box (zQ ah))),(9,.own (eOs 1 true F7_ [])),(10,.own (eOs 1 false F7_ aj))] [Hc h1G (x:=(yf.mk x_.States x_.Inputs x_.Outputs x_.Partial x_.Edges)) h0 (loC z8q (yf.mk x_.States x_.Inputs x_.Outputs x_.Partial x_.Edges) <| loN),Hc h1H (x:=(y_,r_)) h1 (loC za5 y_ <| loC zQ r_ <| loN),Hc h1I (x:=z_) h2 (loC z8r z_ <| loN),Hh (.cut 0)] ?_ fun J1 az=>?_
 ·rintro l_ aa
  unfold vJ at aa
  obtain ⟨aw,h3,aa⟩:=zf aa
  obtain ⟨cd,h4,aa⟩:=zf aa
  let Z0:List HO:=[Hg (z1L h0a),Hm (shM F6_ F7_ l_),Hs (z1M h0a (x:=l_) h3 (loC w8 l_ <| loN)),Hm (shM F6_ F7_ l_),Hg (z1L h0P),Hm (shM F7_ F7_ aw),Hs (z1M h0P (x:=(r_,ah,aw)) h4 (loC zQ r_ <| loC zQ ah <| loC w8 aw <| loN))]
  rcases zL aa with ⟨c0,aa⟩ | ⟨c0,aa⟩
  ·obtain ⟨fq,h5,aa⟩:=zf aa
   let Z1:List HO:=(Z0 ++ (rpN 5 (Hq c0) [Hg (z1L h0Q),Hm (shM F7_ F7_ aw),Hs (z1M h0Q (x:=(r_,ah,aw)) h5 (loC zQ r_ <| loC zQ ah <| loC w8 aw <| loN)),Hq c0,Hq c0]))
   rcases zL aa with ⟨c1,aa⟩ | ⟨c1,aa⟩
   ·obtain ⟨ji,h6,aa⟩:=zf aa
    obtain rfl:=zb aa
    exact yE X0 hC hE (Z1 ++ [Hq c1,Hc h1J (x:=()) h6 (loN),Hq c1])
   ·obtain rfl:=zb aa
    exact yE X0 hC hE (Z1 ++ [Hq c1,Hq c1])
  ·obtain rfl:=zb aa
   exact yE X0 hC hE (Z0 ++ (rpN 7 (Hq c0) [qF,qF]))
 ·obtain ⟨t2,ht2,aa⟩:=zf aa
  refine yLx X0 hC xF [1,1,1,1,1,2,1,0] [J1] (fun s=>xD r_ aj s.1 s.2) (fun x=>Qx r_ ah aj x.1 x.2) (([]:List (List Int)),0) ht2 [(7,.own (.box (zQ r_))),(8,.own (.box (zQ ah))),(9,.own (eOs 1 true F6_ [])),(10,.own (eOs 1 false F7_ aj)),(11,.d (I 0))] inferInstance [] ?_
  rintro ⟨de,i_⟩ m2 a8 ae hl1 J2 a6
  try unfold xD at ae
  let Z2:List HO:=[Ha (lnM F7_ aj)]
  rcases zL ae with ⟨c2,ae⟩ | ⟨c2,ae⟩
  ·refine yJ X0 hC xF [1,1,1,1,1,2,1,0,0,1] [J1,J2] [7,8,9,10,11] (fun z:List (List Int)=>vI i_ z=some a8) (fun z=>Qz r_ ah aj i_ z) [(7,.own (.box (zQ r_))),(8,.own (.box (zQ ah))),(9,.own (eOs 1 false F6_ de)),(10,.own (eOs 1 false F7_ aj)),(11,.d (I i_))] (Z2 ++ [Hq c2,Hh (.cut 0)]) ?_ fun J3 bz=>?_
   ·rintro jg ae
    unfold vI at ae
    obtain rfl:=zb ae
    exact yB X0 hC a6 (jg,w64 (i_ + 1)) hl1 []
   ·refine yJ X0 hC xF [1,1,1,1,1,2,1,0,0,1,2,0,1] [J1,J2,J3] [7,8,9,10,11,12] (fun z:List Int=>vH de i_ z=some a8) (fun z=>Qy r_ ah aj de i_ z) [(7,.own (.box (zQ r_))),(8,.own (.box (zQ ah))),(9,.own (eOs 1 false F6_ de)),(10,.own (eOs 1 false F7_ aj)),(11,.d (I i_)),(12,.own (eOs 1 true (eI .i64) []))] [Hh (.cut 1)] ?_ fun J4 ep=>?_
    ·rintro w_ ae
     unfold vH at ae
     obtain ⟨g0,ae⟩:=gdE ae
     exact yB X0 hC bz (de ++ ([w_]:List (List Int))) ae [Hq (oC F6_ w_ []),Hn (aL F6_ F6_ g0),Hl (aM F6_ de ([w_]:List (List Int)))]
    ·obtain ⟨t5,ht5,ae⟩:=zf ae
     refine yLx X0 hC xF [1,1,1,1,1,2,1,0,0,1,2,0,1,2,1,0] [J1,J2,J3,J4] (fun s=>xC r_ aj i_ s.1 s.2) (fun x=>Qw r_ ah aj de i_ x.1 x.2) (([]:List Int),0) ht5 [(7,.own (.box (zQ r_))),(8,.own (.box (zQ ah))),(9,.own (eOs 1 false F6_ de)),(10,.own (eOs 1 false F7_ aj)),(11,.d (I i_)),(12,.own (eOs 1 true (eI .i64) [])),(13,.d (I 0))] inferInstance [] ?_
     rintro ⟨gw,k_⟩ m5 ez ai hl2 J5 fc
     try unfold xC at ai
     obtain ⟨eg,h7,ai⟩:=zf ai
     let Z3:List HO:=[Hn (iL F7_ h7),Hs (iM F7_ h7),Ha (lnM (eI .i64) eg)]
     rcases zL ai with ⟨c3,ai⟩ | ⟨c3,ai⟩
     ·obtain ⟨mz,h8,ai⟩:=zf ai
      obtain ⟨jq,h9,ai⟩:=zf ai
      obtain ⟨g1,ai⟩:=gdE ai
      obtain ⟨g2,ai⟩:=gdE ai
      obtain rfl:=zb ai
      exact yB X0 hC fc ((gw ++ ([Int.tmod jq r_.Inputs]:List Int)),w64 (k_ + 1)) hl2 (Z3 ++ [Hq c3,Hn (iL F7_ h8),Hs (iM F7_ h8),Hi (eI .i64) h9,Hn g1,Hq (dM (eI .i64) ([Int.tmod jq r_.Inputs]:List Int)),Hn (dM (eI .i64) ([Int.tmod jq r_.Inputs]:List Int)),Hn (aL (eI .i64) (eI .i64) g2),Hl (aM (eI .i64) gw ([Int.tmod jq r_.Inputs]:List Int))])
     ·obtain rfl:=zb ai
      obtain rfl:=hl2
      exact yB X0 hC ep gw ae (Z3 ++ [Hq c3])
  ·obtain rfl:=zb ae
   obtain rfl:=hl1
   exact yB X0 hC az de aa (Z2 ++ [Hq c2])
theorem zW {l:List zO} {s:zO} (h:((l.map zO.k).contains s.k)=false):∀ t ∈ l,t.k ≠ s.k:=by
 intro t ht e
 have:(l.map zO.k).contains s.k=true:=by
  rw [List.contains_iff_mem,← e]
  exact List.mem_map_of_mem ht
 rw [h] at this
 cases this
theorem zo {l:List zO} {c:Ctr} (H:∀ t ∈ l,c.Has t) (i:Nat) {s:zO} (h:l[i]?=some s):c.Has s:=H _ (List.mem_of_getElem? h)
def L0:List zO:=Q1 :: []
def L1:List zO:=UZ :: L0
def L2:List zO:=kU :: L1
def L3:List zO:=VL :: L2
def L4:List zO:=k7 :: L3
def L5:List zO:=JF :: L4
def L6:List zO:=Xy :: L5
def L7:List zO:=Q0 :: L6
def L8:List zO:=ut :: L7
def L9:List zO:=Xj :: L8
def L10:List zO:=kT :: L9
def L11:List zO:=yR :: L10
def L12:List zO:=ym :: L11
def L13:List zO:=yk :: L12
def L14:List zO:=Xi :: L13
def L15:List zO:=wI :: L14
def L16:List zO:=xS :: L15
def L17:List zO:=jS :: L16
def L18:List zO:=YM :: L17
def L19:List zO:=Xl :: L18
def L20:List zO:=uY :: L19
def L21:List zO:=vp :: L20
def L22:List zO:=Q3 :: L21
def L23:List zO:=wY :: L22
def L24:List zO:=VG :: L23
def L25:List zO:=YL :: L24
def L26:List zO:=jT :: L25
def L27:List zO:=qQ :: L26
def L28:List zO:=Zv :: L27
def L29:List zO:=Wl :: L28
def L30:List zO:=xw :: L29
def L31:List zO:=Wh :: L30
def L32:List zO:=UX :: L31
def L33:List zO:=JG :: L32
def L34:List zO:=Xz :: L33
def L35:List zO:=VJ :: L34
def L36:List zO:=Xk :: L35
def L37:List zO:=Zu :: L36
def L38:List zO:=Yn :: L37
def L39:List zO:=wU :: L38
def L40:List zO:=qz :: L39
def L41:List zO:=jO :: L40
def L42:List zO:=jN :: L41
def L43:List zO:=vn :: L42
def L44:List zO:=ws :: L43
def L45:List zO:=v8 :: L44
def L46:List zO:=jM :: L45
def L47:List zO:=Ym :: L46
def L48:List zO:=Wk :: L47
def L49:List zO:=uX :: L48
def L50:List zO:=Zt :: L49
def L51:List zO:=qw :: L50
def L52:List zO:=jL :: L51
def L53:List zO:=wJ :: L52
def L54:List zO:=Zs :: L53
def L55:List zO:=Yk :: L54
def L56:List zO:=xx :: L55
def L57:List zO:=zZ :: L56
def L58:List zO:=VF :: L57
def L59:List zO:=We :: L58
def L60:List zO:=wa :: L59
def L61:List zO:=Yl :: L60
def L62:List zO:=xT :: L61
def L63:List zO:=vN :: L62
def L64:List zO:=qO :: L63
def L65:List zO:=k8 :: L64
def L66:List zO:=Vr :: L65
def L67:List zO:=Xx :: L66
def L68:List zO:=Xw :: L67
def L69:List zO:=JD :: L68
def L70:List zO:=Wf :: L69
def L71:List zO:=Zw :: L70
def L72:List zO:=qB :: L71
def L73:List zO:=qA :: L72
def L74:List zO:=Wo :: L73
def L75:List zO:=vO :: L74
def L76:List zO:=Wi :: L75
def L77:List zO:=Wj :: L76
def L78:List zO:=w9 :: L77
def L79:List zO:=kS :: L78
def L80:List zO:=v7 :: L79
def L81:List zO:=Wn :: L80
def L82:List zO:=Q2 :: L81
def L83:List zO:=VH :: L82
def L84:List zO:=VI :: L83
def L85:List zO:=YO :: L84
def L86:List zO:=JH :: L85
def L87:List zO:=qP :: L86
def L88:List zO:=yu :: L87
def L89:List zO:=z06 :: L88
def L90:List zO:=jY :: L89
def L91:List zO:=wr :: L90
def L92:List zO:=wh :: L91
def L93:List zO:=YN :: L92
def L94:List zO:=Yo :: L93
def L95:List zO:=wo :: L94
def L96:List zO:=jZ :: L95
def L97:List zO:=kR :: L96
def L98:List zO:=qu :: L97
def L99:List zO:=z07 :: L98
def zqR:List zO:=JE :: L99
def zqQ:List zO:=UW :: zqR
def zqP:List zO:=UY :: zqQ
def zqO:List zO:=Wg :: zqP
def zqN:List zO:=VK :: zqO
def zrW:List zO:=jP :: zqN
theorem zpB:zx Tryz.prog L0:=⟨fun _ hC H=>z7i hC,zW (by kernel_rfl),trivial⟩
theorem zpA:zx Tryz.prog L1:=⟨fun _ hC H=>z7g hC,zW (by kernel_rfl),zpB⟩
theorem zpz:zx Tryz.prog L2:=⟨fun _ hC H=>z0E hC,zW (by kernel_rfl),zpA⟩
theorem zpy:zx Tryz.prog L3:=⟨fun _ hC H=>z6f hC (zo H 0 rfl),zW (by kernel_rfl),zpz⟩
theorem zpx:zx Tryz.prog L4:=⟨fun _ hC H=>z3t hC,zW (by kernel_rfl),zpy⟩
theorem zpw:zx Tryz.prog L5:=⟨fun _ hC H=>z8A hC (zo H 0 rfl),zW (by kernel_rfl),zpx⟩
theorem zpv:zx Tryz.prog L6:=⟨fun _ hC H=>z7c hC (zo H 0 rfl),zW (by kernel_rfl),zpw⟩
theorem zpu:zx Tryz.prog L7:=⟨fun _ hC H=>z7h hC (zo H 3 rfl) (zo H 0 rfl),zW (by kernel_rfl),zpv⟩
theorem zpt:zx Tryz.prog L8:=⟨fun _ hC H=>z3u hC,zW (by kernel_rfl),zpu⟩
theorem zps:zx Tryz.prog L9:=⟨fun _ hC H=>z3v hC (zo H 0 rfl),zW (by kernel_rfl),zpt⟩
theorem znH:zx Tryz.prog L10:=⟨fun _ hC H=>z0D hC (zo H 0 rfl),zW (by kernel_rfl),zps⟩
theorem znG:zx Tryz.prog L11:=⟨fun _ hC H=>jR hC (zo H 0 rfl),zW (by kernel_rfl),znH⟩
theorem znF:zx Tryz.prog L12:=⟨fun _ hC H=>qm hC (zo H 0 rfl),zW (by kernel_rfl),znG⟩
theorem znE:zx Tryz.prog L13:=⟨fun _ hC H=>z2E hC (zo H 0 rfl),zW (by kernel_rfl),znF⟩
theorem znD:zx Tryz.prog L14:=⟨fun _ hC H=>z3q hC,zW (by kernel_rfl),znE⟩
theorem znC:zx Tryz.prog L15:=⟨fun _ hC H=>V3 hC (zo H 0 rfl),zW (by kernel_rfl),znD⟩
theorem znB:zx Tryz.prog L16:=⟨fun _ hC H=>Xd hC (zo H 0 rfl),zW (by kernel_rfl),znC⟩
theorem znA:zx Tryz.prog L17:=⟨fun _ hC H=>z63 hC (zo H 0 rfl),zW (by kernel_rfl),znB⟩
theorem znz:zx Tryz.prog L18:=⟨fun _ hC H=>z67 hC (zo H 0 rfl),zW (by kernel_rfl),znA⟩
theorem zny:zx Tryz.prog L19:=⟨fun _ hC H=>z3y hC,zW (by kernel_rfl),znz⟩
theorem znx:zx Tryz.prog L20:=⟨fun _ hC H=>z1w hC (zo H 0 rfl),zW (by kernel_rfl),zny⟩
theorem znw:zx Tryz.prog L21:=⟨fun _ hC H=>Uk hC (zo H 0 rfl),zW (by kernel_rfl),znx⟩
theorem znv:zx Tryz.prog L22:=⟨fun _ hC H=>z7k hC,zW (by kernel_rfl),znw⟩
theorem znu:zx Tryz.prog L23:=⟨fun _ hC H=>z3p hC (zo H 2 rfl) (zo H 1 rfl) (zo H 0 rfl),zW (by kernel_rfl),znv⟩
theorem znt:zx Tryz.prog L24:=⟨fun _ hC H=>z68 hC (zo H 0 rfl),zW (by kernel_rfl),znu⟩
theorem zns:zx Tryz.prog L25:=⟨fun _ hC H=>z65 hC,zW (by kernel_rfl),znt⟩
theorem znr:zx Tryz.prog L26:=⟨fun _ hC H=>z6b hC (zo H 7 rfl) (zo H 1 rfl) (zo H 0 rfl),zW (by kernel_rfl),zns⟩
theorem znq:zx Tryz.prog L27:=⟨fun _ hC H=>z2C hC (zo H 13 rfl),zW (by kernel_rfl),znr⟩
theorem znp:zx Tryz.prog L28:=⟨fun _ hC H=>z5b hC (zo H 19 rfl),zW (by kernel_rfl),znq⟩
theorem zno:zx Tryz.prog L29:=⟨fun _ hC H=>z5c hC (zo H 1 rfl) (zo H 11 rfl) (zo H 0 rfl),zW (by kernel_rfl),znp⟩
theorem znn:zx Tryz.prog L30:=⟨fun _ hC H=>QJ hC,zW (by kernel_rfl),zno⟩
theorem znm:zx Tryz.prog L31:=⟨fun _ hC H=>z57 hC (zo H 17 rfl) (zo H 4 rfl) (zo H 1 rfl) (zo H 0 rfl),zW (by kernel_rfl),znn⟩
theorem znl:zx Tryz.prog L32:=⟨fun _ hC H=>z7e hC,zW (by kernel_rfl),znm⟩
theorem znk:zx Tryz.prog L33:=⟨fun _ hC H=>z8B hC (zo H 0 rfl),zW (by kernel_rfl),znl⟩
theorem znj:zx Tryz.prog L34:=⟨fun _ hC H=>z7d hC (zo H 29 rfl),zW (by kernel_rfl),znk⟩
theorem zni:zx Tryz.prog L35:=⟨fun _ hC H=>z6d hC (zo H 1 rfl) (zo H 0 rfl),zW (by kernel_rfl),znj⟩
theorem znh:zx Tryz.prog L36:=⟨fun _ hC H=>z3w hC,zW (by kernel_rfl),zni⟩
theorem zng:zx Tryz.prog L37:=⟨fun _ hC H=>z1u hC,zW (by kernel_rfl),znh⟩
theorem znf:zx Tryz.prog L38:=⟨fun _ hC H=>z2D hC,zW (by kernel_rfl),zng⟩
theorem zne:zx Tryz.prog L39:=⟨fun _ hC H=>VA hC,zW (by kernel_rfl),znf⟩
theorem znd:zx Tryz.prog L40:=⟨fun _ hC H=>Kq hC (zo H 1 rfl) (zo H 31 rfl) (zo H 0 rfl),zW (by kernel_rfl),zne⟩
theorem znc:zx Tryz.prog L41:=⟨fun _ hC H=>z02 hC (zo H 27 rfl) (zo H 0 rfl),zW (by kernel_rfl),znd⟩
theorem znb:zx Tryz.prog L42:=⟨fun _ hC H=>z01 hC (zo H 0 rfl),zW (by kernel_rfl),znc⟩
theorem zna:zx Tryz.prog L43:=⟨fun _ hC H=>Uj hC,zW (by kernel_rfl),znb⟩
theorem zn9:zx Tryz.prog L44:=⟨fun _ hC H=>W2 hC (zo H 0 rfl),zW (by kernel_rfl),zna⟩
theorem zn8:zx Tryz.prog L45:=⟨fun _ hC H=>Kr hC (zo H 31 rfl) (zo H 0 rfl),zW (by kernel_rfl),zn9⟩
theorem zn7:zx Tryz.prog L46:=⟨fun _ hC H=>z00 hC (zo H 0 rfl),zW (by kernel_rfl),zn8⟩
theorem zn6:zx Tryz.prog L47:=⟨fun _ hC H=>z2B hC,zW (by kernel_rfl),zn7⟩
theorem zn5:zx Tryz.prog L48:=⟨fun _ hC H=>z5a hC,zW (by kernel_rfl),zn6⟩
theorem zn4:zx Tryz.prog L49:=⟨fun _ hC H=>z1s hC (zo H 0 rfl),zW (by kernel_rfl),zn5⟩
theorem zn3:zx Tryz.prog L50:=⟨fun _ hC H=>z1t hC (zo H 36 rfl) (zo H 2 rfl) (zo H 0 rfl) (zo H 19 rfl),zW (by kernel_rfl),zn4⟩
theorem zn2:zx Tryz.prog L51:=⟨fun _ hC H=>Kp hC,zW (by kernel_rfl),zn3⟩
theorem zn1:zx Tryz.prog L52:=⟨fun _ hC H=>KZ hC (zo H 1 rfl) (zo H 0 rfl),zW (by kernel_rfl),zn2⟩
theorem zn0:zx Tryz.prog L53:=⟨fun _ hC H=>z0B hC (zo H 39 rfl) (zo H 15 rfl) (zo H 10 rfl) (zo H 6 rfl) (zo H 0 rfl),zW (by kernel_rfl),zn1⟩
theorem zmZ:zx Tryz.prog L54:=⟨fun _ hC H=>z56 hC (zo H 0 rfl),zW (by kernel_rfl),zn0⟩
theorem zmY:zx Tryz.prog L55:=⟨fun _ hC H=>z2w hC,zW (by kernel_rfl),zmZ⟩
theorem zmX:zx Tryz.prog L56:=⟨fun _ hC H=>QK hC,zW (by kernel_rfl),zmY⟩
theorem zmW:zx Tryz.prog L57:=⟨fun _ hC H=>Jo hC,zW (by kernel_rfl),zmX⟩
theorem zmV:zx Tryz.prog L58:=⟨fun _ hC H=>z64 hC (zo H 2 rfl) (zo H 1 rfl) (zo H 0 rfl),zW (by kernel_rfl),zmW⟩
theorem zmU:zx Tryz.prog L59:=⟨fun _ hC H=>z4Y hC (zo H 45 rfl) (zo H 0 rfl),zW (by kernel_rfl),zmV⟩
theorem zmT:zx Tryz.prog L60:=⟨fun _ hC H=>UP hC,zW (by kernel_rfl),zmU⟩
theorem zmS:zx Tryz.prog L61:=⟨fun _ hC H=>z2x hC (zo H 37 rfl),zW (by kernel_rfl),zmT⟩
theorem zmR:zx Tryz.prog L62:=⟨fun _ hC H=>Xe hC (zo H 0 rfl),zW (by kernel_rfl),zmS⟩
theorem zmQ:zx Tryz.prog L63:=⟨fun _ hC H=>z4Z hC (zo H 2 rfl) (zo H 39 rfl) (zo H 0 rfl) (zo H 37 rfl) (zo H 6 rfl) (zo H 5 rfl),zW (by kernel_rfl),zmR⟩
theorem zmP:zx Tryz.prog L64:=⟨fun _ hC H=>z7a hC (zo H 45 rfl) (zo H 0 rfl),zW (by kernel_rfl),zmQ⟩
theorem zmO:zx Tryz.prog L65:=⟨fun _ hC H=>z3x hC (zo H 19 rfl) (zo H 5 rfl) (zo H 0 rfl),zW (by kernel_rfl),zmP⟩
theorem zmN:zx Tryz.prog L66:=⟨fun _ hC H=>z8y hC (zo H 2 rfl) (zo H 8 rfl),zW (by kernel_rfl),zmO⟩
theorem zmM:zx Tryz.prog L67:=⟨fun _ hC H=>z79 hC (zo H 0 rfl),zW (by kernel_rfl),zmN⟩
theorem zmL:zx Tryz.prog L68:=⟨fun _ hC H=>z78 hC (zo H 41 rfl),zW (by kernel_rfl),zmM⟩
theorem zmK:zx Tryz.prog L69:=⟨fun _ hC H=>z8x hC,zW (by kernel_rfl),zmL⟩
theorem zmJ:zx Tryz.prog L70:=⟨fun _ hC H=>z51 hC (zo H 1 rfl) (zo H 12 rfl) (zo H 0 rfl) (zo H 6 rfl),zW (by kernel_rfl),zmK⟩
theorem zmI:zx Tryz.prog L71:=⟨fun _ hC H=>z1v hC (zo H 5 rfl) (zo H 3 rfl) (zo H 0 rfl),zW (by kernel_rfl),zmJ⟩
theorem zmH:zx Tryz.prog L72:=⟨fun _ hC H=>Ks hC (zo H 0 rfl),zW (by kernel_rfl),zmI⟩
theorem zmG:zx Tryz.prog L73:=⟨fun _ hC H=>z5e hC,zW (by kernel_rfl),zmH⟩
theorem zmF:zx Tryz.prog L74:=⟨fun _ hC H=>z5f hC,zW (by kernel_rfl),zmG⟩
theorem zmE:zx Tryz.prog L75:=⟨fun _ hC H=>z2z hC,zW (by kernel_rfl),zmF⟩
theorem zmD:zx Tryz.prog L76:=⟨fun _ hC H=>z58 hC (zo H 62 rfl) (zo H 0 rfl),zW (by kernel_rfl),zmE⟩
theorem zmC:zx Tryz.prog L77:=⟨fun _ hC H=>z59 hC,zW (by kernel_rfl),zmD⟩
theorem zmB:zx Tryz.prog L78:=⟨fun _ hC H=>UO hC,zW (by kernel_rfl),zmC⟩
theorem zmA:zx Tryz.prog L79:=⟨fun _ hC H=>z0y hC (zo H 1 rfl) (zo H 0 rfl) (zo H 21 rfl),zW (by kernel_rfl),zmB⟩
theorem zmz:zx Tryz.prog L80:=⟨fun _ hC H=>z1r hC (zo H 3 rfl) (zo H 0 rfl) (zo H 23 rfl) (zo H 22 rfl),zW (by kernel_rfl),zmA⟩
theorem zmy:zx Tryz.prog L81:=⟨fun _ hC H=>z5d hC (zo H 7 rfl) (zo H 6 rfl) (zo H 0 rfl) (zo H 16 rfl),zW (by kernel_rfl),zmz⟩
theorem zmx:zx Tryz.prog L82:=⟨fun _ hC H=>z7j hC (zo H 28 rfl) (zo H 0 rfl),zW (by kernel_rfl),zmy⟩
theorem zmw:zx Tryz.prog L83:=⟨fun _ hC H=>z6a hC (zo H 16 rfl),zW (by kernel_rfl),zmx⟩
theorem zmv:zx Tryz.prog L84:=⟨fun _ hC H=>z6c hC,zW (by kernel_rfl),zmw⟩
theorem zmu:zx Tryz.prog L85:=⟨fun _ hC H=>z6g hC,zW (by kernel_rfl),zmv⟩
theorem zmt:zx Tryz.prog L86:=⟨fun _ hC H=>z8C hC (zo H 32 rfl) (zo H 12 rfl) (zo H 0 rfl) (zo H 5 rfl) (zo H 21 rfl),zW (by kernel_rfl),zmu⟩
theorem zms:zx Tryz.prog L87:=⟨fun _ hC H=>z2y hC (zo H 21 rfl) (zo H 14 rfl) (zo H 4 rfl) (zo H 19 rfl) (zo H 3 rfl) (zo H 2 rfl) (zo H 0 rfl),zW (by kernel_rfl),zmt⟩
theorem zmr:zx Tryz.prog L88:=⟨fun _ hC H=>qL hC (zo H 64 rfl),zW (by kernel_rfl),zms⟩
theorem zmq:zx Tryz.prog L89:=⟨fun _ hC H=>zaa hC (zo H 0 rfl),zW (by kernel_rfl),zmr⟩
theorem zmp:zx Tryz.prog L90:=⟨fun _ hC H=>z3r hC (zo H 0 rfl),zW (by kernel_rfl),zmq⟩
theorem zmo:zx Tryz.prog L91:=⟨fun _ hC H=>W1 hC (zo H 0 rfl),zW (by kernel_rfl),zmp⟩
theorem zmn:zx Tryz.prog L92:=⟨fun _ hC H=>Xu hC (zo H 0 rfl) (zo H 1 rfl),zW (by kernel_rfl),zmo⟩
theorem zmm:zx Tryz.prog L93:=⟨fun _ hC H=>z69 hC (zo H 24 rfl) (zo H 32 rfl) (zo H 0 rfl) (zo H 29 rfl),zW (by kernel_rfl),zmn⟩
theorem zml:zx Tryz.prog L94:=⟨fun _ hC H=>z2F hC (zo H 66 rfl) (zo H 76 rfl) (zo H 65 rfl),zW (by kernel_rfl),zmm⟩
theorem zmk:zx Tryz.prog L95:=⟨fun _ hC H=>KY hC (zo H 0 rfl),zW (by kernel_rfl),zml⟩
theorem zmj:zx Tryz.prog L96:=⟨fun _ hC H=>z3s hC (zo H 2 rfl) (zo H 0 rfl),zW (by kernel_rfl),zmk⟩
theorem zmi:zx Tryz.prog L97:=⟨fun _ hC H=>z0x hC (zo H 39 rfl),zW (by kernel_rfl),zmj⟩
theorem zmh:zx Tryz.prog L98:=⟨fun _ hC H=>z52 hC (zo H 43 rfl) (zo H 10 rfl) (zo H 1 rfl) (zo H 0 rfl) (zo H 71 rfl),zW (by kernel_rfl),zmi⟩
theorem zmg:zx Tryz.prog L99:=⟨fun _ hC H=>zab hC (zo H 0 rfl),zW (by kernel_rfl),zmh⟩
theorem zj1:zx Tryz.prog zqR:=⟨fun _ hC H=>z8z hC (zo H 1 rfl),zW (by kernel_rfl),zmg⟩
theorem zj0:zx Tryz.prog zqQ:=⟨fun _ hC H=>z7b hC (zo H 2 rfl),zW (by kernel_rfl),zj1⟩
theorem ziZ:zx Tryz.prog zqP:=⟨fun _ hC H=>z7f hC (zo H 67 rfl),zW (by kernel_rfl),zj0⟩
theorem ziY:zx Tryz.prog zqO:=⟨fun _ hC H=>z54 hC (zo H 48 rfl) (zo H 15 rfl) (zo H 6 rfl),zW (by kernel_rfl),ziZ⟩
theorem ziX:zx Tryz.prog zqN:=⟨fun _ hC H=>z6e hC (zo H 67 rfl) (zo H 4 rfl) (zo H 3 rfl) (zo H 2 rfl) (zo H 1 rfl) (zo H 0 rfl),zW (by kernel_rfl),ziY⟩
theorem ziW:zx Tryz.prog zrW:=⟨fun _ hC H=>z03 hC (zo H 104 rfl) (zo H 103 rfl) (zo H 97 rfl) (zo H 98 rfl) (zo H 73 rfl) (zo H 69 rfl) (zo H 0 rfl),zW (by kernel_rfl),ziX⟩
theorem xp {x:Int} (h1:-9223372036854775808 ≤ x) (h2:x ≤ 9223372036854775807):w64 x=x:=by
 simp only [w64,IntKind.wrap,IntKind.bits,IntKind.signed]
 simp
 omega
section
variable {α β σ τ ρ:Type}
def Ret (x:Option α) (Q:α → Prop):Prop:=∃ a,x=some a ∧ Q a
theorem Ret.mono {x:Option α} {Q R:α → Prop} (h:Ret x Q) (q:∀ a,Q a → R a):Ret x R:=by
 obtain ⟨a,e,h⟩:=h
 exact ⟨a,e,q a h⟩
theorem Ret.eq {x:Option α} {a:α} (h:Ret x fun b=>b=a):x=some a:=by
 obtain ⟨b,e,rfl⟩:=h
 exact e
theorem y6 {a:α} {Q:α → Prop}:Ret (some a) Q ↔ Q a:=⟨fun ⟨b,e,q⟩=>by cases e; exact q,fun q=>⟨a,rfl,q⟩⟩
theorem qU {x:Option α} {f:α → Option β} {Q:β → Prop}:Ret (Option.bind x f) Q ↔ Ret x fun a=>Ret (f a) Q:=by
 cases x with
 | none=>exact ⟨fun ⟨b,e,_⟩=>(by cases e),fun ⟨b,e,_⟩=>(by cases e)⟩
 | some a=>exact ⟨fun h=>⟨a,rfl,h⟩,fun ⟨b,e,h⟩=>by cases e; exact h⟩
theorem zbH {p:Prop} [Decidable p] {x:Option α} {Q:α → Prop}:Ret (gd p x) Q ↔ p ∧ Ret x Q:=by
 unfold gd
 by_cases h:p
 ·rw [if_pos h]; exact ⟨fun q=>⟨h,q⟩,fun q=>q.2⟩
 ·rw [if_neg h]; exact ⟨fun ⟨b,e,_⟩=>by (cases e),fun q=>(h q.1).elim⟩
theorem vz {c:Bool} {x y:Option α} {Q:α → Prop}:Ret (bif c then x else y) Q ↔ (c=true → Ret x Q) ∧ (c=false → Ret y Q):=by
 cases c <;> simp
theorem zhU {l:List α} {i:Int} {Q:α → Prop}:Ret (idx l i) Q ↔ 0 ≤ i ∧ ∃ x,l[i.toNat]?=some x ∧ Q x:=by
 cases i with
 | ofNat n=>
  show (∃ a,l[n]?=some a ∧ Q a) ↔ _
  simp
 | negSucc n=>exact ⟨fun ⟨b,e,_⟩=>by (cases e),fun ⟨h,_⟩=>by omega⟩
theorem uW (l:List α) (i:Nat):idx l (i:Int)=l[i]?:=rfl
theorem gdT {p:Prop} [Decidable p] {x:Option α} (h:p):gd p x=x:=by unfold gd; rw [if_pos h]
theorem bdT {x:Option α} {u:α} {f:α → Option ρ} (h:x=some u):Option.bind x f=f u:=by rw [h]; rfl
theorem Uq (step:σ → Option (LR σ τ)) (n:Nat) (s:σ):z0d step (n + 1) s=(match step s with | none=>none | some (.next s')=>z0d step n s' | some (.done t)=>some t):=rfl
def LRP (N:σ → Prop) (D:τ → Prop):LR σ τ → Prop
 | .next s=>N s
 | .done t=>D t
theorem qS {step:σ → Option (LR σ τ)} (I:σ → Prop) (m:σ → Nat) {R:τ → Prop} {s:σ} (hs:I s) (hm:m s < 18446744073709551616)
  (h:∀ s,I s → Ret (step s) (LRP (fun s'=>I s' ∧ m s' < m s) R)):Ret (loop step s) R:=by
 have gen:∀ (n:Nat) (s:σ),I s → m s < n → Ret (z0d step n s) R:=by
  intro n
  induction n with
  | zero=>intro s _ h; omega
  | succ n ih=>
   intro s hs hm
   obtain ⟨a,e,q⟩:=h s hs
   rw [Uq,e]
   cases a with
   | next s'=>exact ih s' q.1 (by have:=q.2; omega)
   | done t=>exact ⟨t,rfl,q⟩
 exact gen V1 s hs hm
theorem zft {step:σ → Option (LR σ τ)} (st:Nat → σ) (n:Nat) {t:τ} (hn:n < 9223372036854775808) (h:∀ i,i < n → step (st i)=some (.next (st (i + 1)))) (hd:step (st n)=some (.done t)):loop step (st 0)=some t:=by
 have gen:∀ (k:Nat) (i:Nat),i ≤ n → n - i < k → z0d step k (st i)=some t:=by
  intro k
  induction k with
  | zero=>intro i _ h; omega
  | succ k ih=>
   intro i hi hk
   rw [Uq]
   rcases Nat.lt_or_ge i n with q | q
   ·rw [h i q]
    exact ih (i + 1) q (by omega)
   ·have:i=n:=by omega
    subst this
    rw [hd]
 exact gen V1 0 (Nat.zero_le _) (by show n - 0 < 18446744073709551616; omega)
def xh (f:Nat → α → Option ρ):List α → Nat → Option ρ
 | [],_=>none
 | x :: l,i=>match f i x with | some r=>some r | none=>xh f l (i + 1)
theorem WH {f:Nat → α → Option ρ}:∀ {l:List α} {k:Nat},(∀ i x,l[i]?=some x → f (k + i) x=none) → xh f l k=none
 | [],_,_=>rfl
 | x :: l,k,h=>by
  have h0:=h 0 x rfl
  simp only [Nat.add_zero] at h0
  simp only [xh,h0]
  exact WH fun i y hy=>by have:=h (i + 1) y (by simpa using hy); rwa [show k + 1 + i=k + (i + 1) by omega]
theorem Z8 {f:Nat → α → Option ρ} {r:ρ}:∀ {l:List α} {k:Nat},xh f l k=some r → ∃ i x,l[i]?=some x ∧ f (k + i) x=some r
 | [],_,h=>by cases h
 | x :: l,k,h=>by
  simp only [xh] at h
  cases hf:f k x with
  | some r'=>rw [hf] at h; exact ⟨0,x,rfl,by rw [Nat.add_zero,hf]; exact h⟩
  | none=>
   rw [hf] at h
   obtain ⟨i,y,h1,h2⟩:=Z8 h
   exact ⟨i + 1,y,by simpa using h1,by rw [← h2]; congr 1; omega⟩
theorem ZN {f:Nat → α → Option ρ} {l:List α} {k:Nat} (h:xh f l k=none):∀ i x,l[i]?=some x → f (k + i) x=none:=by
 induction l generalizing k with
 | nil=>intro i x h; simp at h
 | cons y l ih=>
  intro i x hx
  simp only [xh] at h
  cases hf:f k y with
  | some r'=>rw [hf] at h; cases h
  | none=>
   rw [hf] at h
   cases i with
   | zero=>simp at hx; subst hx; simpa using hf
   | succ i=>have:=ih h i x (by simpa using hx); rwa [show k + (i + 1)=k + 1 + i by omega]
def oS:Option ρ → Unit ⊕ ρ
 | some r=>.inr r
 | none=>.inl ()
def nS (i:Nat):Option ρ → LR Int (Unit ⊕ ρ)
 | some r=>.done (.inr r)
 | none=>.next (w64 ((i:Int) + 1))
theorem uz (l:List α) (hl:l.length < 4611686018427387904) {step:Int → Option (LR Int (Unit ⊕ ρ))} (f:Nat → α → Option ρ)
  (h:∀ (i:Nat) (x:α),l[i]?=some x → step (i:Int)=some (nS i (f i x))) (h2:step (l.length:Int)=some (.done (.inl ()))) :
  loop step 0=some (oS (xh f l 0)):=by
 have gen:∀ (n:Nat) (k:Nat),k ≤ l.length → l.length - k < n → z0d step n (k:Int)=some (oS (xh f (l.drop k) k)):=by
  intro n
  induction n with
  | zero=>intro k _ h; omega
  | succ n ih=>
   intro k hk hn
   rw [Uq]
   rcases Nat.lt_or_ge k l.length with hlt | hge
   ·have hx:l[k]?=some l[k]:=List.getElem?_eq_getElem hlt
    rw [h k _ hx,List.drop_eq_getElem_cons hlt]
    simp only [xh]
    cases hf:f k l[k] with
    | some r=>rfl
    | none=>
     simp only [nS]
     rw [xp (by omega) (by omega)]
     exact ih (k + 1) hlt (by omega)
   ·have:k=l.length:=by omega
    subst this
    rw [h2,List.drop_length]
    rfl
 exact gen V1 0 (Nat.zero_le _) (by show l.length - 0 < 18446744073709551616; omega)
end
def z98 (m:z6) (x:z8):Bool:=(x.To == -1 && x.Out == -1) || (decide (0 ≤ x.To) && decide (x.To < (m.Rows.length:Int)) && decide (0 ≤ x.Out) && decide (x.Out < m.Outputs))
def zat (m:z6) (r:List z8):Bool:=decide ((r.length:Int)=m.Inputs) && r.all (z98 m)
def chk (m:z6):Int :=
 if m.Inputs > 16 ∨ m.Outputs > 16 ∨ (m.Rows.length:Int) > 64 then 3 else if m.Inputs < 1 ∨ m.Outputs < 1 ∨ m.Rows.length=0 then 1 else if m.Rows.all (zat m)=true then 0 else 1
theorem ziz (m:z6) (x:z8):ZI m x=some (z98 m x):=by
 unfold ZI ul
 simp only [Option.bind_some,Bool.and_true]
 rcases Bool.eq_false_or_eq_true (x.To == (-1) && x.Out == (-1)) with h | h
 ·simp [z98,h]
 ·rw [h]
  simp only [z98,h,Bool.false_or,cond_false]
  by_cases h1:(0:Int) ≤ x.To
  ·by_cases h2:x.To < (m.Rows.length:Int)
   ·by_cases h3:(0:Int) ≤ x.Out
    ·simp [Bool.cond_eq_ite,h1,h2,h3]
    ·simp [Bool.cond_eq_ite,h1,h2,h3]
   ·simp [Bool.cond_eq_ite,h1,h2]
  ·simp [h1]
theorem z9c (m:z6) (r:List z8) (hl:r.length < 4611686018427387904):y4 r m=some (!r.all (z98 m)):=by
 have hloop:loop (fun s=>zR r m s) 0=some (oS (xh (fun i x=>if z98 m x=true then none else some (i:Int)) r 0)):=by
  refine uz r hl _ ?_ ?_
  ·intro i x hx
   have hi:=(List.getElem?_eq_some_iff.1 hx).1
   unfold zR
   have hd:decide ((i:Int) < ((r.length:Nat):Int))=true:=by simpa using hi
   rw [hd,cond_true,uW,bdT hx]
   unfold kC
   simp only [ziz,Option.bind_some]
   cases z98 m x <;> rfl
  ·unfold zR
   simp
 unfold y4 yj
 rw [hloop]
 simp only [Option.bind_some]
 cases hf:xh (fun i x=>if z98 m x=true then none else some (i:Int)) r 0 with
 | some q=>
  obtain ⟨i,x,h1,h2⟩:=Z8 hf
  have hx:z98 m x ≠ true:=by
   intro h; rw [if_pos h] at h2; cases h2
  rw [if_neg hx] at h2
  simp only [Option.some.injEq] at h2
  have:r.all (z98 m)=false:=by
   rw [List.all_eq_false]
   exact ⟨x,List.mem_of_getElem? h1,hx⟩
  rw [this]
  have:(q:Int) ≥ 0:=by rw [← h2]; omega
  show some (decide (q ≥ 0))=_
  simp [this]
 | none=>
  have:r.all (z98 m)=true:=by
   rw [List.all_eq_true]
   intro x hx
   obtain ⟨i,hi⟩:=List.getElem?_of_mem hx
   have:=ZN hf i x hi
   by_cases h:z98 m x=true
   ·exact h
   ·rw [if_neg h] at this; cases this
  rw [this]
  rfl
variable {m:z6}
theorem zaP (h0:(m.Rows.length:Int) ≤ 64) (h1:m.Inputs ≤ 16):loop (fun s=>wD m s) 0=some (oS (xh (fun _ r=>if zat m r=true then none else some (1:Int)) m.Rows 0)):=by
 refine uz m.Rows (by omega) _ ?_ ?_
 ·intro i r hr
  have hi:=(List.getElem?_eq_some_iff.1 hr).1
  unfold wD
  have hd:decide ((i:Int) < ((m.Rows.length:Nat):Int))=true:=by simpa using hi
  rw [hd,cond_true,uW,bdT hr]
  by_cases hlen:(r.length:Int)=m.Inputs
  ·have hne:(((r.length:Nat):Int) != m.Inputs)=false:=by simpa using hlen
   rw [hne,cond_false,bdT (z9c m r (by omega))]
   have:zat m r=r.all (z98 m):=by simp [zat,hlen]
   rw [this]
   cases r.all (z98 m) <;> rfl
  ·have hne:(((r.length:Nat):Int) != m.Inputs)=true:=by simpa using hlen
   rw [hne,cond_true]
   have:zat m r=false:=by simp [zat,hlen]
   rw [this]; rfl
 ·unfold wD
  simp
theorem zas (m:z6):xh (fun _ r=>if zat m r=true then none else some (1:Int)) m.Rows 0=if m.Rows.all (zat m)=true then none else some 1:=by
 by_cases h:m.Rows.all (zat m)=true
 ·rw [if_pos h]
  refine WH fun i r hr=>?_
  rw [if_pos (List.all_eq_true.1 h r (List.mem_of_getElem? hr))]
 ·rw [if_neg h]
  cases hf:xh (fun _ r=>if zat m r=true then none else some (1:Int)) m.Rows 0 with
  | some q=>
   obtain ⟨i,x,h1,h2⟩:=Z8 hf
   split at h2
   ·cases h2
   ·exact h2.symm ▸ rfl
  | none=>
   exfalso
   apply h
   rw [List.all_eq_true]
   intro x hx
   obtain ⟨i,hi⟩:=List.getElem?_of_mem hx
   have:=ZN hf i x hi
   by_cases h:zat m x=true
   ·exact h
   ·rw [if_neg h] at this; cases this
theorem za2 (m:z6):yH m=some (chk m):=by
 unfold yH chk
 by_cases h1:m.Inputs > 16
 ·simp [h1]
 by_cases h2:m.Outputs > 16
 ·simp [Bool.cond_eq_ite,h1,h2]
 by_cases h3:(m.Rows.length:Int) > 64
 ·simp [Bool.cond_eq_ite,h1,h2,h3]
 rw [if_neg (by simp [Bool.cond_eq_ite,h1,h2,h3])]
 by_cases h4:m.Inputs < 1
 ·simp [Bool.cond_eq_ite,h1,h2,h3,h4]
 by_cases h5:m.Outputs < 1
 ·simp [Bool.cond_eq_ite,h1,h2,h3,h4,h5]
 by_cases h6:m.Rows.length=0
 ·simp [Bool.cond_eq_ite,h1,h2,h4,h5,h6]
 rw [if_neg (by simp [h4,h5,h6])]
 have h6':decide (((m.Rows.length:Nat):Int) < 1)=false:=by simp; omega
 have e1:decide (m.Inputs > 16)=false:=by simpa using h1
 have e2:decide (m.Outputs > 16)=false:=by simpa using h2
 have e3:decide (((m.Rows.length:Nat):Int) > 64)=false:=by simpa using h3
 have e4:decide (m.Inputs < 1)=false:=by simpa using h4
 have e5:decide (m.Outputs < 1)=false:=by simpa using h5
 simp only [e1,e2,e3,e4,e5,h6',cond_false]
 rw [bdT (zaP (by omega) (by omega)),zas]
 by_cases h:m.Rows.all (zat m)=true
 ·rw [if_pos h,if_pos h]; rfl
 ·rw [if_neg h,if_neg h]; rfl
structure VM (m:z6):Prop where
 in1:1 ≤ m.Inputs
 in16:m.Inputs ≤ 16
 out1:1 ≤ m.Outputs
 out16:m.Outputs ≤ 16
 len1:1 ≤ m.Rows.length
 len64:m.Rows.length ≤ 64
 row:∀ r ∈ m.Rows,(r.length:Int)=m.Inputs
 edge:∀ r ∈ m.Rows,∀ x ∈ r,(x.To=-1 ∧ x.Out=-1) ∨ (0 ≤ x.To ∧ x.To < (m.Rows.length:Int) ∧ 0 ≤ x.Out ∧ x.Out < m.Outputs)
theorem zgN (h:VM m):chk m=0:=by
 unfold chk
 have:=h.in1; have:=h.in16; have:=h.out1; have:=h.out16; have:=h.len1; have:=h.len64
 rw [if_neg (by omega),if_neg (by omega),if_pos]
 rw [List.all_eq_true]
 intro r hr
 simp only [zat,Bool.and_eq_true,decide_eq_true_eq,List.all_eq_true]
 refine ⟨h.row r hr,fun x hx=>?_⟩
 simp only [z98,Bool.or_eq_true,Bool.and_eq_true,beq_iff_eq,decide_eq_true_eq]
 rcases h.edge r hr x hx with ⟨a,b⟩ | ⟨a,b,c,d⟩
 ·exact .inl ⟨a,b⟩
 ·exact .inr ⟨⟨⟨a,b⟩,c⟩,d⟩
def kk (m:z6):Nat:=m.Inputs.toNat
def E (m:z6) (s i:Nat):z8:=((m.Rows[s]?.getD [])[i]?).getD ⟨-1,-1⟩
section
variable {m:z6} (h:VM m)
include h
theorem VM.kk_eq:((kk m:Nat):Int)=m.Inputs:=by have:=h.in1; unfold kk; omega
theorem VM.kk_le:kk m ≤ 16:=by have:=h.in16; unfold kk; omega
theorem VM.rowAt {s:Nat} (hs:s < m.Rows.length):∃ r,m.Rows[s]?=some r ∧ r.length=kk m ∧ ∀ i,i < kk m → r[i]?=some (E m s i):=by
 have hr:=List.getElem?_eq_getElem hs
 have hl:=h.row _ (List.getElem_mem hs)
 have hl':m.Rows[s].length=kk m:=by unfold kk; omega
 refine ⟨_,hr,hl',fun i hi=>?_⟩
 have hi':i < m.Rows[s].length:=by omega
 unfold E
 rw [hr]
 simp only [Option.getD_some]
 rw [List.getElem?_eq_getElem hi']
 rfl
theorem VM.edgeAt {s i:Nat} (hs:s < m.Rows.length) (hi:i < kk m):((E m s i).To=-1 ∧ (E m s i).Out=-1) ∨ (0 ≤ (E m s i).To ∧ (E m s i).To < (m.Rows.length:Int) ∧ 0 ≤ (E m s i).Out ∧ (E m s i).Out < m.Outputs):=by
 obtain ⟨r,h1,_,h2⟩:=h.rowAt hs
 exact h.edge r (List.mem_of_getElem? h1) _ (List.mem_of_getElem? (h2 i hi))
theorem VM.edge_eq {s i:Nat} (hs:s < m.Rows.length) (hi:i < kk m) {β:Type} {f:z8 → Option β} :
  (Option.bind (idx m.Rows (s:Int)) fun r=>Option.bind (idx r (i:Int)) f)=f (E m s i):=by
 obtain ⟨r,h1,_,h2⟩:=h.rowAt hs
 rw [uW,h1,Option.bind_some,uW,h2 i hi,Option.bind_some]
end
theorem zcx {a b:z6} (hab:a.Inputs=b.Inputs):kk a=kk b:=by unfold kk; rw [hab]
structure WM (m:z6):Prop where
 in1:1 ≤ m.Inputs
 in16:m.Inputs ≤ 16
 len1:1 ≤ m.Rows.length
 len:m.Rows.length ≤ 128
 row:∀ r ∈ m.Rows,(r.length:Int)=m.Inputs
 edge:∀ r ∈ m.Rows,∀ x ∈ r,(x.To=-1 ∧ x.Out=-1) ∨ (0 ≤ x.To ∧ x.To < (m.Rows.length:Int) ∧ 0 ≤ x.Out)
theorem z8X {a k:Int} (h0:0 ≤ a) (hk:1 ≤ k) (hk2:k ≤ 1000000):1 ≤ w64 (1 + w64 (Int.tmod a k)) ∧ w64 (1 + w64 (Int.tmod a k)) ≤ k:=by
 have h1:=Int.tmod_nonneg k h0
 have h2:=Int.tmod_lt_of_pos a (show 0 < k by omega)
 rw [xp (x:=Int.tmod a k) (by omega) (by omega),xp (by omega) (by omega)]
 omega
structure MOk (x:yf):Prop where
 s0:0 ≤ x.States
 i0:0 ≤ x.Inputs
 o0:0 ≤ x.Outputs
 e0:∀ v ∈ x.Edges,0 ≤ v ∧ v ≤ 65535
theorem zo5 {x:yf} {n o:Int} (hn:n=w64 (1 + w64 (Int.tmod x.States 6))) (ho:o=w64 (1 + w64 (Int.tmod x.Outputs 3))) (n1:1 ≤ n) (n2:n ≤ 6) (o1:1 ≤ o) (o2:o ≤ 3) (row:List z8) (i v:Int) (hl:row.length ≤ 1000) (v0:0 ≤ v) (v1:v ≤ 65535) :
  ∃ e:z8,un x row i v=some (.next (row ++ [e],w64 (i + 1))) ∧ ((e.To=-1 ∧ e.Out=-1) ∨ (0 ≤ e.To ∧ e.To < n ∧ 0 ≤ e.Out ∧ e.Out < o)):=by
 have hv4:Int.tdiv v 4=v / 4:=Int.tdiv_eq_ediv_of_nonneg v0
 have w4:w64 (Int.tdiv v 4)=v / 4:=by rw [hv4]; exact xp (by omega) (by omega)
 have d0:0 ≤ v / 4:=by omega
 have hd:Int.tdiv (v / 4) n=v / 4 / n:=Int.tdiv_eq_ediv_of_nonneg d0
 have d1:0 ≤ v / 4 / n:=Int.ediv_nonneg d0 (by omega)
 have d2:v / 4 / n ≤ v / 4:=Int.ediv_le_self _ d0
 have w5:w64 (Int.tdiv (v / 4) n)=v / 4 / n:=by rw [hd]; exact xp (by omega) (by omega)
 have fit:(0:Int) ≤ Int.tmod (v / 4) n ∧ Int.tmod (v / 4) n < n ∧ 0 ≤ Int.tmod (v / 4 / n) o ∧ Int.tmod (v / 4 / n) o < o :=
  ⟨Int.tmod_nonneg _ d0,Int.tmod_lt_of_pos _ (by omega),Int.tmod_nonneg _ d1,Int.tmod_lt_of_pos _ (by omega)⟩
 unfold un
 rw [← hn,← ho,w4,w5]
 have g4:(4:Int) ≠ 0:=by decide
 have gn:(n:Int) ≠ 0:=by omega
 have go:(o:Int) ≠ 0:=by omega
 have gl:∀ e:z8,row.length + ([e]:List z8).length ≤ 4294967296:=fun e=>by simp; omega
 simp only [gdT g4,gdT gn,gdT go,gdT (gl _)]
 cases x.Partial
 ·exact ⟨_,rfl,.inr fit⟩
 ·cases hc:(Int.tmod v 4 == 3)
  ·exact ⟨_,rfl,.inr fit⟩
  ·exact ⟨_,rfl,.inl ⟨rfl,rfl⟩⟩
theorem zkH {x:yf} (h:MOk x):Ret (XV x) fun m=>VM m ∧ m.Inputs=w64 (1 + w64 (Int.tmod x.Inputs 3)) ∧ m.Inputs ≤ 3 ∧ m.Outputs ≤ 3 ∧ m.Rows.length ≤ 6:=by
 have hn':=z8X h.s0 (k:=6) (by omega) (by omega)
 have hi':=z8X h.i0 (k:=3) (by omega) (by omega)
 have ho':=z8X h.o0 (k:=3) (by omega) (by omega)
 obtain ⟨n,hn⟩:∃ n,n=w64 (1 + w64 (Int.tmod x.States 6)):=⟨_,rfl⟩
 obtain ⟨k,hk⟩:∃ n,n=w64 (1 + w64 (Int.tmod x.Inputs 3)):=⟨_,rfl⟩
 obtain ⟨o,ho⟩:∃ n,n=w64 (1 + w64 (Int.tmod x.Outputs 3)):=⟨_,rfl⟩
 rw [← hn] at hn'
 rw [← hk] at hi'
 rw [← ho] at ho'
 have inner:∀ s:Int,0 ≤ s → s < n → Ret (loop (fun st=>ZJ x s st.1 st.2) (([]:List z8),0)) (fun r=>(r.length:Int)=k ∧ ∀ e ∈ r,(e.To=-1 ∧ e.Out=-1) ∨ (0 ≤ e.To ∧ e.To < n ∧ 0 ≤ e.Out ∧ e.Out < o)):=by
  intro s s0 s1
  refine qS (fun st=>(st.1.length:Int)=st.2 ∧ st.2 ≤ k ∧ ∀ e ∈ st.1,(e.To=-1 ∧ e.Out=-1) ∨ (0 ≤ e.To ∧ e.To < n ∧ 0 ≤ e.Out ∧ e.Out < o)) (fun st=>10 - st.2.toNat) ⟨by simp,by omega,by simp⟩ (by simp) ?_
  rintro ⟨row,i⟩ ⟨h1,h2,h3⟩
  simp only at h1 h2 h3
  unfold ZJ
  rw [← hk,vz]
  have hsk:s * k ≤ 5 * k:=Int.mul_le_mul_of_nonneg_right (by omega) (by omega)
  have hsk0:0 ≤ s * k:=Int.mul_nonneg s0 (by omega)
  have w1:w64 (s * k)=s * k:=xp (by omega) (by omega)
  have w2:w64 (s * k + i)=s * k + i:=xp (by omega) (by omega)
  rw [w1,w2]
  refine ⟨fun hlt=>?_,fun hge=>?_⟩
  ·have hlt:i < k:=of_decide_eq_true hlt
   have hw:w64 (i + 1)=i + 1:=xp (by omega) (by omega)
   have fin:∀ v:Int,0 ≤ v → v ≤ 65535 → Ret (un x row i v) (LRP (fun s'=>(((s'.1.length:Nat):Int)=s'.2 ∧ s'.2 ≤ k ∧ ∀ e ∈ s'.1,(e.To=-1 ∧ e.Out=-1) ∨ (0 ≤ e.To ∧ e.To < n ∧ 0 ≤ e.Out ∧ e.Out < o)) ∧ 10 - s'.2.toNat < 10 - i.toNat) (fun r=>(r.length:Int)=k ∧ ∀ e ∈ r,(e.To=-1 ∧ e.Out=-1) ∨ (0 ≤ e.To ∧ e.To < n ∧ 0 ≤ e.Out ∧ e.Out < o))):=by
    intro v v0 v1
    obtain ⟨e,g1,g2⟩:=zo5 hn ho hn'.1 hn'.2 ho'.1 ho'.2 row i v (by omega) v0 v1
    rw [g1,hw,y6]
    refine ⟨⟨by simp; omega,by simp only; omega,fun e' he=>?_⟩,by simp only; omega⟩
    rcases List.mem_append.1 he with q | q
    ·exact h3 e' q
    ·simp only [List.mem_cons,List.not_mem_nil,or_false] at q; subst q; exact g2
   rw [vz]
   refine ⟨fun hc=>?_,fun _=>fin 0 (by omega) (by omega)⟩
   have hc:s * k + i < ((x.Edges.length:Nat):Int):=of_decide_eq_true hc
   rw [qU,zhU]
   have hlt':(s * k + i).toNat < x.Edges.length:=by omega
   refine ⟨by omega,_,List.getElem?_eq_getElem hlt',?_⟩
   have:=h.e0 _ (List.getElem_mem hlt')
   rw [xp (by omega) (by omega)]
   exact fin _ this.1 this.2
  ·have hge:¬ i < k:=of_decide_eq_false hge
   rw [y6]
   exact ⟨by simp only; omega,h3⟩
 unfold XV
 simp only [zbH,qU]
 refine ⟨by decide,by decide,by decide,?_⟩
 refine (qS (R:=fun r=>(r.length:Int)=n ∧ ∀ r' ∈ r,(r'.length:Int)=k ∧ ∀ e ∈ r',(e.To=-1 ∧ e.Out=-1) ∨ (0 ≤ e.To ∧ e.To < n ∧ 0 ≤ e.Out ∧ e.Out < o)) (fun st=>(st.1.length:Int)=st.2 ∧ st.2 ≤ n ∧ ∀ r' ∈ st.1,(r'.length:Int)=k ∧ ∀ e ∈ r',(e.To=-1 ∧ e.Out=-1) ∨ (0 ≤ e.To ∧ e.To < n ∧ 0 ≤ e.Out ∧ e.Out < o)) (fun st=>10 - st.2.toNat) ⟨by simp,by omega,by simp⟩ (by simp) ?_).mono ?_
 ·rintro ⟨rows,s⟩ ⟨h1,h2,h3⟩
  simp only at h1 h2 h3
  unfold XF
  rw [← hn,vz]
  refine ⟨fun hlt=>?_,fun hge=>?_⟩
  ·have hlt:s < n:=of_decide_eq_true hlt
   rw [qU]
   refine (inner s (by omega) hlt).mono fun row hrow=>?_
   unfold XG XI
   rw [zbH,y6,xp (by omega) (by omega)]
   refine ⟨by simp; omega,⟨by simp; omega,by simp only; omega,fun r' hr=>?_⟩,by simp only; omega⟩
   rcases List.mem_append.1 hr with q | q
   ·exact h3 r' q
   ·simp only [List.mem_cons,List.not_mem_nil,or_false] at q; subst q; exact hrow
  ·have hge:¬ s < n:=of_decide_eq_false hge
   rw [y6]
   exact ⟨by simp only; omega,h3⟩
 ·rintro rows ⟨h1,h2⟩
  unfold XJ
  rw [y6,← hk,← ho]
  refine ⟨⟨hi'.1,by simp only; omega,ho'.1,by simp only; omega,by simp only; omega,by simp only; omega,fun r hr=>(h2 r hr).1,fun r hr e he=>?_⟩,rfl,hi'.2,ho'.2,by simp only; omega⟩
  simp only [h1]
  exact (h2 r hr).2 e he
def nxE (m:z6) (s:Int) (i:Nat):z8:=if s < 0 then ⟨-1,-1⟩ else E m s.toNat i
def rsp (m:z6):Int → List Nat → List Int
 | _,[]=>[]
 | s,i :: w=>(nxE m s i).Out :: rsp m (nxE m s i).To w
def aft (m:z6):Int → List Nat → Int
 | s,[]=>s
 | s,i :: w=>aft m (nxE m s i).To w
theorem z9y (m:z6):∀ (w:List Nat) (s:Int) (i:Nat),rsp m s (w ++ [i])=rsp m s w ++ [(nxE m (aft m s w) i).Out] ∧ aft m s (w ++ [i])=(nxE m (aft m s w) i).To
 | [],s,i=>⟨rfl,rfl⟩
 | j :: w,s,i=>by
  have:=z9y m w (nxE m s j).To i
  simp only [List.cons_append,rsp,aft,this.1,this.2,and_self]
theorem z6u (m:z6):∀ (w:List Nat) (s:Int),(rsp m s w).length=w.length
 | [],_=>rfl
 | i :: w,s=>by simp [rsp,z6u m w]
def zaS (m:z6) (s:Int):Prop:=-1 ≤ s ∧ s < (m.Rows.length:Int)
variable {s:Int}
theorem zou (h:VM m)  (hs:zaS m s) {i:Nat} (hi:i < kk m):zaS m (nxE m s i).To:=by
 unfold nxE
 have:=h.len1
 by_cases h0:s < 0
 ·rw [if_pos h0]
  unfold zaS
  simp only
  omega
 ·rw [if_neg h0]
  have hl:s.toNat < m.Rows.length:=by have:=hs.2; omega
  have:=h.edgeAt hl hi
  unfold zaS
  omega
theorem zi5 (h:VM m)  (hs:zaS m s) {i:Nat} (hi:i < kk m):Un m s (i:Int)=some (nxE m s i) ∧ zaS m (nxE m s i).To:=by
 unfold Un nxE
 have:=h.len1
 by_cases h0:s < 0
 ·rw [decide_eq_true h0,cond_true,if_pos h0]
  exact ⟨rfl,by unfold zaS; simp only; omega⟩
 ·rw [decide_eq_false h0,cond_false,if_neg h0]
  have hl:s.toNat < m.Rows.length:=by have:=hs.2; omega
  have he:=h.edge_eq hl hi (f:=fun e=>some e)
  have hc:((s.toNat:Nat):Int)=s:=by omega
  rw [hc] at he
  refine ⟨he,?_⟩
  have:=h.edgeAt hl hi
  unfold zaS
  omega
theorem zgx (h:VM m)  (hs:zaS m s) (w:List Nat) (hw:∀ i ∈ w,i < kk m) (hl:w.length ≤ 100000):Um m s (w.map Int.ofNat)=some (rsp m s w):=by
 have hloop:loop (fun q=>X1 m (w.map Int.ofNat) q.1 q.2.1 q.2.2) (s,([]:List Int),0)=some (rsp m s w):=by
  refine Ret.eq (qS (fun q=>∃ k:Nat,q.2.2=(k:Int) ∧ k ≤ w.length ∧ zaS m q.1 ∧ q.2.1.length=k ∧ q.2.1 ++ rsp m q.1 (w.drop k)=rsp m s w) (fun q=>200000 - q.2.2.toNat) ⟨0,rfl,Nat.zero_le _,hs,rfl,rfl⟩ (by simp) ?_)
  rintro ⟨s',out,k'⟩ ⟨k,hk,hkl,hst,hol,ho⟩
  simp only at hk hst hol ho
  subst hk
  unfold X1
  rw [vz]
  refine ⟨fun hlt=>?_,fun hge=>?_⟩
  ·have hlt:k < w.length:=by simpa using hlt
   have hx:(w.map Int.ofNat)[k]?=some ((w[k]:Nat):Int):=by simp [hlt]
   have hi:=hw _ (List.getElem_mem hlt)
   have hn:=zi5 h hst hi
   have hw1:w64 ((k:Int) + 1)=((k + 1:Nat):Int):=by rw [xp (by omega) (by omega)]; rfl
   rw [uW,bdT hx,bdT hn.1,gdT (by simp; omega),y6,hw1]
   refine ⟨⟨k + 1,rfl,hlt,hn.2,by simp [hol],?_⟩,by simp only; omega⟩
   rw [← ho,List.drop_eq_getElem_cons hlt]
   simp [rsp]
  ·have:k=w.length:=by simp at hge; omega
   subst this
   rw [y6]
   rw [List.drop_length] at ho
   show out=rsp m s w
   simpa [rsp] using ho
 unfold Um Vu
 rw [bdT hloop]
def SEq (m:z6) (s t:Nat):Prop:=∀ w:List Nat,(∀ i ∈ w,i < kk m) → rsp m (s:Int) w=rsp m (t:Int) w
theorem zi4 (m:z6) (s i:Nat):nxE m (s:Int) i=E m s i:=by
 unfold nxE
 rw [if_neg (by omega),Int.toNat_natCast]
def Wd (k:Nat) (w:List Nat):Prop:=∀ i ∈ w,i < k
def qd:List Int → List Int → Int
 | [],[]=>0
 | [],_ :: _=>-1
 | _ :: _,[]=>1
 | x :: a,y :: b=>if x < y then -1 else if y < x then 1 else qd a b
def XY (a b:List Int):Int:=if a.length < b.length then -1 else if b.length < a.length then 1 else qd a b
theorem zcs:∀ {a b:List Int},qd a b=0 → a=b
 | [],[],_=>rfl
 | [],_ :: _,h=>by simp [qd] at h
 | _ :: _,[],h=>by simp [qd] at h
 | x :: a,y :: b,h=>by
  simp only [qd] at h
  split at h
  ·simp at h
  ·split at h
   ·simp at h
   ·rw [show x=y by omega,zcs h]
theorem z7X:∀ a:List Int,qd a a=0
 | []=>rfl
 | x :: a=>by simp [qd,z7X a]
theorem z9J:∀ a b:List Int,qd b a=- qd a b
 | [],[]=>rfl
 | [],_ :: _=>rfl
 | _ :: _,[]=>rfl
 | x :: a,y :: b=>by
  simp only [qd]
  split
  ·rw [if_neg (by omega)]
  ·split
   ·rfl
   ·exact z9J a b
theorem z5P:∀ {a b c:List Int},qd a b < 0 → qd b c < 0 → qd a c < 0
 | [],[],_,h,_=>by simp [qd] at h
 | [],_ :: _,[],_,h=>by simp [qd] at h
 | [],_ :: _,_ :: _,_,_=>by simp [qd]
 | _ :: _,[],_,h,_=>by simp [qd] at h
 | _ :: _,_ :: _,[],_,h=>by simp [qd] at h
 | x :: a,y :: b,z :: c,h1,h2=>by
  simp only [qd] at h1 h2 ⊢
  by_cases e1:x < y
  ·by_cases e2:y < z
   ·rw [if_pos (by omega)]; omega
   ·rw [if_neg e2] at h2
    by_cases e3:z < y
    ·rw [if_pos e3] at h2; omega
    ·rw [if_pos (by omega)]; omega
  ·rw [if_neg e1] at h1
   by_cases e3:y < x
   ·rw [if_pos e3] at h1; omega
   ·rw [if_neg e3] at h1
    have:x=y:=by omega
    subst this
    by_cases e2:x < z
    ·rw [if_pos e2]; omega
    ·rw [if_neg e2] at h2 ⊢
     by_cases e4:z < x
     ·rw [if_pos e4] at h2; omega
     ·rw [if_neg e4] at h2 ⊢
      exact z5P h1 h2
variable {a b:List Int}
theorem z6N (h:XY a b=0):a=b:=by
 unfold XY at h
 split at h
 ·simp at h
 ·split at h
  ·simp at h
  ·exact zcs h
theorem z0V (a:List Int):XY a a=0:=by simp [XY,z7X]
theorem za1:XY a b=0 ↔ a=b:=⟨z6N,fun h=>h ▸ z0V a⟩
theorem z9Z (a b:List Int):XY b a=- XY a b:=by
 unfold XY
 by_cases h1:a.length < b.length
 ·rw [if_pos h1,if_neg (by omega),if_pos h1]; rfl
 ·by_cases h2:b.length < a.length
  ·rw [if_pos h2,if_neg h1,if_pos h2]
  ·rw [if_neg h1,if_neg h2,if_neg h2,if_neg h1,z9J]
theorem XX {a b c:List Int} (h1:XY a b < 0) (h2:XY b c < 0):XY a c < 0:=by
 unfold XY at *
 by_cases e1:a.length < b.length
 ·by_cases e2:b.length < c.length
  ·rw [if_pos (by omega)]; omega
  ·rw [if_neg e2] at h2
   by_cases e3:c.length < b.length
   ·rw [if_pos e3] at h2; omega
   ·rw [if_pos (by omega)]; omega
 ·rw [if_neg e1] at h1
  by_cases e3:b.length < a.length
  ·rw [if_pos e3] at h1; omega
  ·rw [if_neg e3] at h1
   have e:a.length=b.length:=by omega
   rw [e]
   by_cases e2:b.length < c.length
   ·rw [if_pos e2]; omega
   ·rw [if_neg e2] at h2 ⊢
    by_cases e4:c.length < b.length
    ·rw [if_pos e4] at h2; omega
    ·rw [if_neg e4] at h2 ⊢
     exact z5P h1 h2
theorem za0 (a:List Int):¬ XY a a < 0:=by rw [z0V]; omega
theorem zd5 (h:XY a b < 0):¬ XY b a < 0:=by rw [z9Z a b]; omega
theorem zd4:¬ XY a b < 0 ↔ XY b a < 0 ∨ a=b:=by
 rw [← za1,z9Z a b]; omega
def SW (l:List (List Int)):Prop:=l.Pairwise fun a b=>XY a b < 0
theorem SW.nil:SW []:=List.Pairwise.nil
variable {l:List (List Int)}{x:List Int}
theorem SW.tail (h:SW (x :: l)):SW l:=(List.pairwise_cons.1 h).2
theorem SW.head (h:SW (x :: l)):∀ y ∈ l,XY x y < 0:=(List.pairwise_cons.1 h).1
theorem SW.unique:∀ {l m:List (List Int)},SW l → SW m → (∀ x,x ∈ l ↔ x ∈ m) → l=m
 | [],[],_,_,_=>rfl
 | [],y :: m,_,_,h=>by have:=(h y).2 (by simp); simp at this
 | x :: l,[],_,_,h=>by have:=(h x).1 (by simp); simp at this
 | x :: l,y :: m,h1,h2,h=>by
  have hxy:x=y:=by
   rcases List.mem_cons.1 ((h x).1 (by simp)) with e | e
   ·exact e
   ·rcases List.mem_cons.1 ((h y).2 (by simp)) with e' | e'
    ·exact e'.symm
    ·exact absurd (h2.head x e) (zd5 (h1.head y e'))
  subst hxy
  rw [SW.unique h1.tail h2.tail fun z=>?_]
  constructor
  ·intro hz
   rcases List.mem_cons.1 ((h z).1 (by simp [hz])) with e | e
   ·subst e; exact absurd (h1.head _ hz) (za0 _)
   ·exact e
  ·intro hz
   rcases List.mem_cons.1 ((h z).2 (by simp [hz])) with e | e
   ·subst e; exact absurd (h2.head _ hz) (za0 _)
   ·exact e
theorem SW.sub {l m:List (List Int)} (h:SW l) (hs:List.Sublist m l):SW m:=List.Pairwise.sublist hs h
def z5H (w:List Int):List (List Int) → List (List Int)
 | []=>[w]
 | x :: l=>if XY x w < 0 then x :: z5H w l else if XY x w=0 then x :: l else w :: x :: l
theorem z0Q {w x:List Int}:∀ {l:List (List Int)},x ∈ z5H w l ↔ x=w ∨ x ∈ l
 | []=>by simp [z5H]
 | y :: l=>by
  simp only [z5H]
  split
  ·simp only [List.mem_cons,z0Q]
   constructor
   ·rintro (h | h | h) <;> simp [h]
   ·rintro (h | h | h) <;> simp [h]
  ·split
   ·rename_i h1 h2
    have:=z6N h2
    subst this
    simp
   ·simp
theorem SW.put {w:List Int}:∀ {l:List (List Int)},SW l → SW (z5H w l)
 | [],_=>by simp [z5H,SW]
 | y :: l,h=>by
  simp only [z5H]
  split
  ·rename_i h1
   refine List.pairwise_cons.2 ⟨fun z hz=>?_,SW.put h.tail⟩
   rcases z0Q.1 hz with rfl | hz
   ·exact h1
   ·exact h.head z hz
  ·split
   ·exact h
   ·rename_i h1 h2
    have hw:XY w y < 0:=by
     rcases zd4.1 h1 with q | q
     ·exact q
     ·exact absurd (za1.2 q) h2
    refine List.pairwise_cons.2 ⟨fun z hz=>?_,h⟩
    rcases List.mem_cons.1 hz with rfl | hz
    ·exact hw
    ·exact XX hw (h.head z hz)
theorem z9E (w:List Int):∀ l,(z5H w l).length ≤ l.length + 1
 | []=>by simp [z5H]
 | y :: l=>by
  simp only [z5H]
  split
  ·have:=z9E w l; simp; omega
  ·split <;> simp
def srt (l:List (List Int)):List (List Int):=l.foldl (fun m w=>z5H w m) []
theorem z8O:∀ (l m:List (List Int)),SW m → SW (l.foldl (fun m w=>z5H w m) m) ∧ ∀ x,x ∈ l.foldl (fun m w=>z5H w m) m ↔ x ∈ m ∨ x ∈ l
 | [],m,h=>⟨h,by simp⟩
 | w :: l,m,h=>by
  obtain ⟨h1,h2⟩:=z8O l (z5H w m) h.put
  refine ⟨h1,fun x=>?_⟩
  rw [List.foldl_cons,h2,z0Q]
  simp only [List.mem_cons]
  constructor
  ·rintro ((h | h) | h) <;> simp [h]
  ·rintro (h | h | h) <;> simp [h]
theorem zbi (l:List (List Int)):SW (srt l):=(z8O l [] .nil).1
theorem z90:x ∈ srt l ↔ x ∈ l:=by rw [srt,(z8O l [] .nil).2]; simp
theorem zeC (l:List (List Int)) (w:List Int):srt (l ++ [w])=z5H w (srt l):=by simp [srt]
theorem z8N (l:List (List Int)):(srt l).length ≤ l.length:=by
 have:∀ (l m:List (List Int)),(l.foldl (fun m w=>z5H w m) m).length ≤ m.length + l.length:=by
  intro l
  induction l with
  | nil=>intro m; simp
  | cons w l ih=>intro m; have:=ih (z5H w m); have:=z9E w m; simp only [List.foldl_cons,List.length_cons]; omega
 have q:=this l []
 simp only [List.length_nil,Nat.zero_add] at q
 exact q
end Go.Own
end
