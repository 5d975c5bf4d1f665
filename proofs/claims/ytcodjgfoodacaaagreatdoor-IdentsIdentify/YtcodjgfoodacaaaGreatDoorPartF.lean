/- -/
import Derived.Test.YtcodjgfoodacaaaGreatDoorPartE
noncomputable section
set_option linter.unusedVariables false
set_option linter.unusedSimpArgs false
namespace Go.Own
open Go.Proofs
set_option maxRecDepth 100000
set_option maxHeartbeats 8000000
def X0:XH Tryz.prog:=xB zt
theorem Zp:Tryz.prog.follows .mixedOrders=true:=by kernel_rfl
variable {σ:Type}{rs:List (Nat×Option Nat)}{J:St->Prop}{keep:Bool}{r:A}{τ:Type}
section
variable {ctr:Ctr}{n:Fr}{Q:Exit->St->Prop}{c:Code}{fs:List Fm}{st:St}
theorem yE (X:XH Tryz.prog)(hC:zx Tryz.prog ctr){E:St->Prop}    (hE:∀st x R U,zcG yb keep rs st=some (x,R,U)->LeV x r->E st)(L:List HO)(e:zj6 X yb ctr n keep rs 4000 c fs st (hoH L)=some (r,hoO L):=by kernel_rfl):AWP Tryz.prog n c st (Qf Tryz.prog n fs (zbC E)):=yE6 X zt hC Zp hE L e
theorem yEx (X:XH Tryz.prog)(hC:zx Tryz.prog ctr){E:St->Prop}    (hE:∀st x R U,zcG yb keep rs st=some (x,R,U)->LeV x r->E st)(L:List HO)(x:A)(hle:LeV x r)(e:zj6 X yb ctr n keep rs 4000 c fs st (hoH L)=some (x,hoO L):=by kernel_rfl):AWP Tryz.prog n c st (Qf Tryz.prog n fs (zbC E)):=zpQ X zt hC Zp hE L x hle e
theorem yB (X:XH Tryz.prog)(hC:zx Tryz.prog ctr)   {live:List Nat}{S:τ->List (Nat×T)}{Inv:τ->Prop}(hJ:∀st' l' z,Inv z->Own.canon live st'=ofL l'->LeL l' (S z)->J st')(z:τ)(hz:Inv z)(L:List HO)(e:z6J X yb ctr n live 4000 c fs st (hoH L)=some (.back J,ofL (S z),hoO L):=by kernel_rfl):AWP Tryz.prog n c st (Qf Tryz.prog n fs Q):=yB6 X zt hC Zp hJ z hz L e
theorem yBx (X:XH Tryz.prog)(hC:zx Tryz.prog ctr)   {live:List Nat}{S:τ->List (Nat×T)}{Inv:τ->Prop}(hJ:∀st' l' z,Inv z->Own.canon live st'=ofL l'->LeL l' (S z)->J st')(z:τ)(hz:Inv z)(l:List (Nat×T))(hl:LeL l (S z))(L:List HO)(e:z6J X yb ctr n live 4000 c fs st (hoH L)=some (.back J,ofL l,hoO L):=by kernel_rfl):AWP Tryz.prog n c st (Qf Tryz.prog n fs Q):=zpR X zt hC Zp hJ z hz l hl L e
theorem yA (X:XH Tryz.prog)(hC:zx Tryz.prog ctr)(bd:Code)(path:List Nat)(Js:List (St->Prop))(l:List (Nat×T))(L:List HO)(h:AWP Tryz.prog n (sub path bd) (ofL l) (Qf Tryz.prog n (frs path Js bd []) Q))(e:z6J X yb ctr n (z0K l) 4000 c fs st (hoH L)=some (.at (sub path bd) (frs path Js bd []),ofL l,hoO L):=by kernel_rfl):AWP Tryz.prog n c st (Qf Tryz.prog n fs Q):=yA6 X zt hC Zp bd path Js l L e h
theorem yAt (X:XH Tryz.prog)(hC:zx Tryz.prog ctr)(c':Code)(fs':List Fm)(l:List (Nat×T))(L:List HO)(h:∀st0,Own.canon (z0K l) st0=ofL l->AWP Tryz.prog n c' st0 (Qf Tryz.prog n fs' Q))(e:z6J X yb ctr n (z0K l) 4000 c fs st (hoH L)=some (.at c' fs',ofL l,hoO L):=by kernel_rfl):AWP Tryz.prog n c st (Qf Tryz.prog n fs Q):=zpS X zt hC Zp c' fs' l L e h
theorem yLx (X:XH Tryz.prog)(hC:zx Tryz.prog ctr)(bd:Code)(path:List Nat)(Js:List (St->Prop)){σ τ:Type}(f:σ->Option (LR σ τ))(S:σ->List (Nat×T))(x0:σ){t:τ}(ht:loop f x0=some t)(l:List (Nat×T))(hl:LeL l (S x0))(L:List HO)(round:∀x m lr,f x=some lr->zn2 f m t lr->∀J:St->Prop,(∀st' l' x',z0J f m x'=some t->Own.canon (z0K l) st'=ofL l'->LeL l' (S x')->J st')->AWP Tryz.prog n (sub (path++[0]) bd) (ofL (S x)) (Qf Tryz.prog n (.pre J::frs path Js bd []) Q))(e:z6J X yb ctr n (z0K l) 4000 c fs st (hoH L)=some (.at (sub path bd) (frs path Js bd []),ofL l,hoO L):=by kernel_rfl)(e2:sub path bd=.loop (sub (path++[0]) bd):=by kernel_rfl)(hk:∀x,z0K (S x)=z0K l:=by exact fun _=>rfl):AWP Tryz.prog n c st (Qf Tryz.prog n fs Q):=yL6 X zt hC Zp bd path Js f S x0 ht l hl L hk e e2 round
theorem yL (X:XH Tryz.prog)(hC:zx Tryz.prog ctr)(bd:Code)(path:List Nat)(Js:List (St->Prop)){σ τ:Type}(f:σ->Option (LR σ τ))(S:σ->List (Nat×T))(x0:σ){t:τ}(ht:loop f x0=some t)(L:List HO)(round:∀x m lr,f x=some lr->zn2 f m t lr->∀J:St->Prop,(∀st' l' x',z0J f m x'=some t->Own.canon (z0K (S x0)) st'=ofL l'->LeL l' (S x')->J st')->AWP Tryz.prog n (sub (path++[0]) bd) (ofL (S x)) (Qf Tryz.prog n (.pre J::frs path Js bd []) Q))(e:z6J X yb ctr n (z0K (S x0)) 4000 c fs st (hoH L)=some (.at (sub path bd) (frs path Js bd []),ofL (S x0),hoO L):=by kernel_rfl)(e2:sub path bd=.loop (sub (path++[0]) bd):=by kernel_rfl)(hk:∀x,z0K (S x)=z0K (S x0):=by exact fun _=>rfl):AWP Tryz.prog n c st (Qf Tryz.prog n fs Q):=yL6 X zt hC Zp bd path Js f S x0 ht _ (LeL.refl _) L hk e e2 round
theorem yJ (X:XH Tryz.prog)(hC:zx Tryz.prog ctr)(bd:Code)(path:List Nat)(Js:List (St->Prop))  (live:List Nat)(Inv:σ->Prop)(S:σ->List (Nat×T))(l:List (Nat×T))(L:List HO)(h1:∀z,Inv z->AWP Tryz.prog n (sub (path++[1]) bd) (ofL (S z)) (Qf Tryz.prog n (frs path Js bd []) Q))(h2:∀J:St->Prop,(∀st' l' z,Inv z->Own.canon live st'=ofL l'->LeL l' (S z)->J st')->AWP Tryz.prog n (sub (path++[2]) bd) (ofL l) (Qf Tryz.prog n (.pre J::frs path Js bd []) Q))(e:z6J X yb ctr n (z0K l) 4000 c fs st (hoH L)=some (.at (sub path bd) (frs path Js bd []),ofL l,hoO L):=by kernel_rfl)(e2:sub path bd=.seq (sub (path++[2]) bd) (sub (path++[1]) bd):=by kernel_rfl):AWP Tryz.prog n c st (Qf Tryz.prog n fs Q):=yJ6 X zt hC Zp bd path Js live Inv S l L e e2 h1 h2
theorem yF (X:XH Tryz.prog)(hC:zx Tryz.prog ctr)(ex:Exit)(l:List (Nat×T))(L:List HO)(h:∀st0,Own.canon (z0K l) st0=ofL l->Q ex st0)(e:z6J X yb ctr n (z0K l) 4000 c fs st (hoH L)=some (.fin ex,ofL l,hoO L):=by kernel_rfl):AWP Tryz.prog n c st (Qf Tryz.prog n fs Q):=yF6 X zt hC Zp ex l L e h
theorem yO {k:Nat}{fn:Func}  {ls:List A}(keep:Bool)(rs:List (Nat×Option Nat))(body:Code)(nt:Nat)(hf:Tryz.prog.funcs[k]?=some fn)(h:∀E:St->Prop,(∀st x R U,zcG yb keep rs st=some (x,R,U)->LeV x r->E st)->AWP Tryz.prog ⟨nt,[]⟩ body (ofL (zbL 0 ls)) (Qf Tryz.prog ⟨nt,[]⟩ [] (zbC E)))(hb:fn.body=some body:=by kernel_rfl)(hn:nt=fn.ntmps:=by exact rfl)(hr:fn.results=(rs.map z8y).toArray:=by exact rfl)(hnm:(fn.name == "runtime.NumGoroutine")=false:=by exact rfl)(ha:Nat.ble ls.length nt=true:=by kernel_rfl):UV Tryz.prog k ls r:=yO6 zt keep rs body nt hf hb hn hr hnm ha h
end
theorem z8Y:zgk Tryz.prog 188 193 3 (z5n [.i64,.i64,.i64,.i64,.i64,.i64,.i64,.i64,.i64,.i64,.i64,.i64,.i64,.i64,.i64,.i64,.i64,.i64,.i64,.i64,.i64,.i64,.i64,.i64,.i64,.i64,.i64,.i64,.i64,.i64,.i64,.i64,.i64]) (.atom (.int .i64 0)):=zfp Tryz.underlying188 _ Tryz.underlying193 (Go.Ex.zdl.eqn rfl) (zau.eqn rfl) rfl ⟨.int .i64 0,fun w=>zef (f:=Tryz.t3) (by kernel_rfl) rfl w,fun S=>ur.2 ⟨rfl,rfl⟩⟩ rfl
theorem zil:zbr Tryz.prog 67 0 3 0:=zdw Tryz.underlying67 _ rfl rfl rfl
theorem zjU:ziM Tryz.prog 118 1 false:=zeU zt (t:=40) Tryz.so118 rfl rfl (by kernel_rfl) (by decide)
def z5L:Code:=(Tryz.f69.body).getD .skip
def Vw:zK:=spF (α:=List Int×Int) (ρ:=Int) 69 (fun x=>[F4_ x.1,(eI .i64) x.2]) (fun r=>(eI .i64) r) (fun x=>Yj x.1 x.2) [] (Qm)
variable {ctr:Ctr}
theorem z6m (hC:zx Tryz.prog ctr):Vw.Ok Tryz.prog:=by
 refine zw ?_
 rintro⟨l_,k_⟩ r0 aa
 try unfold Yj at aa
 refine yO true [(4,none)] z5L 14 Tryz.func69 fun E hE=>?_
 rcases zH aa with⟨c0,aa⟩|⟨c0,aa⟩
 ·obtain⟨bk,h0,aa⟩:=zb aa
  obtain rfl:=za aa
  exact yE X0 hC hE [Ha (lnM (eI .u16) l_),Hq c0,Hi (eI .u16) h0]
 ·obtain rfl:=za aa
  exact yE X0 hC hE [Ha (lnM (eI .u16) l_),Hq c0]
def y6:Code:=(Tryz.f35.body).getD .skip
def QR:zK:=spF (α:=zC) (ρ:=z6) 35 (fun x=>[KK x]) (fun r=>zD r) (fun x=>Qw x) [] (WL)
abbrev z4n (x_:zC)(gx:List (List z8)):List (Nat×T):=[(2,.own (.box (.agg [I 0,I 0,eOs 1 true yI []]))),(4,.own (.box (.agg [I (w64 (1+(w64 (Int.tmod x_.Inputs 3)))),I (w64 (1+(w64 (Int.tmod x_.Outputs 3)))),eOs 1 false qW gx])))]
abbrev z4m (x_:zC)(s_:Int)(gy:List (List z8)):List (Nat×T):=[(1,.own (.box (KK x_))),(2,.own (.box (.agg [I 0,I 0,eOs 1 true yI []]))),(3,.d (I (w64 (1+(w64 (Int.tmod x_.States 6)))))),(4,.own (.box (.agg [I (w64 (1+(w64 (Int.tmod x_.Inputs 3)))),I (w64 (1+(w64 (Int.tmod x_.Outputs 3)))),eOs 1 false qW gy]))),(13,.d (I s_))]
abbrev z4l (x_:zC)(s_:Int)(i_:Int)(gz:List (List z8)):List (Nat×T):=[(1,.own (.box (KK x_))),(2,.own (.box (.agg [I 0,I 0,eOs 1 true yI []]))),(3,.d (I (w64 (1+(w64 (Int.tmod x_.States 6)))))),(4,.own (.box (.agg [I (w64 (1+(w64 (Int.tmod x_.Inputs 3)))),I (w64 (1+(w64 (Int.tmod x_.Outputs 3)))),eOs 1 false qW gz]))),(13,.d (I s_)),(14,.d (I i_))]
abbrev z4i (x_:zC)(s_:Int)(cn:List (List z8))(i_:Int):List (Nat×T):=[(1,.own (.box (KK x_))),(2,.own (.box (.agg [I 0,I 0,eOs 1 true yI []]))),(3,.d (I (w64 (1+(w64 (Int.tmod x_.States 6)))))),(4,.own (.box (.agg [I (w64 (1+(w64 (Int.tmod x_.Inputs 3)))),I (w64 (1+(w64 (Int.tmod x_.Outputs 3)))),eOs 1 false qW cn]))),(13,.d (I s_)),(14,.d (I i_))]
abbrev z4j (x_:zC)(ez:List (List z8))(s_:Int):List (Nat×T):=[(1,.own (.box (KK x_))),(2,.own (.box (.agg [I 0,I 0,eOs 1 true yI []]))),(3,.d (I (w64 (1+(w64 (Int.tmod x_.States 6)))))),(4,.own (.box (.agg [I (w64 (1+(w64 (Int.tmod x_.Inputs 3)))),I (w64 (1+(w64 (Int.tmod x_.Outputs 3)))),eOs 1 false qW ez]))),(13,.d (I s_))]
abbrev z4o (x_:zC)(gg:List (List z8)):List (Nat×T):=[(1,.own (.box (KK x_))),(2,.own (.box (.agg [I 0,I 0,eOs 1 true yI []]))),(3,.d (I (w64 (1+(w64 (Int.tmod x_.States 6)))))),(4,.own (.box (.agg [I (w64 (1+(w64 (Int.tmod x_.Inputs 3)))),I (w64 (1+(w64 (Int.tmod x_.Outputs 3)))),eOs 1 false qW gg])))]
abbrev z4k (x_:zC)(a6:Int)(ia:List (List z8)):List (Nat×T):=[(1,.own (.box (KK x_))),(2,.own (.box (.agg [I 0,I 0,eOs 1 true yI []]))),(3,.d (I (w64 (1+(w64 (Int.tmod x_.States 6)))))),(4,.own (.box (.agg [I (w64 (1+(w64 (Int.tmod x_.Inputs 3)))),I (w64 (1+(w64 (Int.tmod x_.Outputs 3)))),eOs 1 false qW ia]))),(9,.d (I a6))]
abbrev z3y (x_:zC)(az:List (List z8))(a6:Int)(k_:Int):List (Nat×T):=[(1,.own (.box (KK x_))),(2,.own (.box (.agg [I 0,I 0,eOs 1 true yI []]))),(3,.d (I (w64 (1+(w64 (Int.tmod x_.States 6)))))),(4,.own (.box (.agg [I (w64 (1+(w64 (Int.tmod x_.Inputs 3)))),I (w64 (1+(w64 (Int.tmod x_.Outputs 3)))),eOs 1 false qW az]))),(9,.d (I a6)),(12,.d (I k_))]
abbrev z3z (x_:zC)(az:List (List z8))(a6:Int)(free:List Int):List (Nat×T):=[(1,.own (.box (KK x_))),(2,.own (.box (.agg [I 0,I 0,eOs 1 true yI []]))),(3,.d (I (w64 (1+(w64 (Int.tmod x_.States 6)))))),(4,.own (.box (.agg [I (w64 (1+(w64 (Int.tmod x_.Inputs 3)))),I (w64 (1+(w64 (Int.tmod x_.Outputs 3)))),eOs 1 false qW az]))),(9,.d (I a6)),(10,.own (eOs 1 false (eI .i64) free))]
abbrev z3x (x_:zC)(az:List (List z8))(a6:Int)(a9:Int)(i6:List Int):List (Nat×T):=[(1,.own (.box (KK x_))),(2,.own (.box (.agg [I 0,I 0,eOs 1 true yI []]))),(3,.d (I (w64 (1+(w64 (Int.tmod x_.States 6)))))),(4,.own (.box (.agg [I (w64 (1+(w64 (Int.tmod x_.Inputs 3)))),I (w64 (1+(w64 (Int.tmod x_.Outputs 3)))),eOs 1 false qW az]))),(9,.d (I a6)),(10,.own (eOs 1 false (eI .i64) i6)),(11,.d (I a9))]
abbrev z3u (x_:zC)(az:List (List z8))(a6:Int)(d9:List Int)(a9:Int):List (Nat×T):=[(1,.own (.box (KK x_))),(2,.own (.box (.agg [I 0,I 0,eOs 1 true yI []]))),(3,.d (I (w64 (1+(w64 (Int.tmod x_.States 6)))))),(4,.own (.box (.agg [I (w64 (1+(w64 (Int.tmod x_.Inputs 3)))),I (w64 (1+(w64 (Int.tmod x_.Outputs 3)))),eOs 1 false qW az]))),(9,.d (I a6)),(10,.own (eOs 1 false (eI .i64) d9)),(11,.d (I a9))]
abbrev z4h (x_:zC)(az:List (List z8))(a6:Int):List (Nat×T):=[(1,.own (.box (KK x_))),(2,.own (.box (.agg [I 0,I 0,eOs 1 true yI []]))),(3,.d (I (w64 (1+(w64 (Int.tmod x_.States 6)))))),(4,.own (.box (.agg [I (w64 (1+(w64 (Int.tmod x_.Inputs 3)))),I (w64 (1+(w64 (Int.tmod x_.Outputs 3)))),eOs 1 false qW az]))),(9,.d (I a6))]
abbrev z4p (x_:zC)(ib:List (List z8)):List (Nat×T):=[(1,.own (.box (KK x_))),(2,.own (.box (.agg [I 0,I 0,eOs 1 true yI []]))),(3,.d (I (w64 (1+(w64 (Int.tmod x_.States 6)))))),(4,.own (.box (.agg [I (w64 (1+(w64 (Int.tmod x_.Inputs 3)))),I (w64 (1+(w64 (Int.tmod x_.Outputs 3)))),eOs 1 false qW ib])))]
abbrev z3w (x_:zC)(bh:Int)(gi:List (List z8)):List (Nat×T):=[(1,.own (.box (KK x_))),(2,.own (.box (.agg [I 0,I 0,eOs 1 true yI []]))),(3,.d (I (w64 (1+(w64 (Int.tmod x_.States 6)))))),(4,.own (.box (.agg [I (w64 (1+(w64 (Int.tmod x_.Inputs 3)))),I (w64 (1+(w64 (Int.tmod x_.Outputs 3)))),eOs 1 false qW gi]))),(5,.d (I bh))]
abbrev z3v (x_:zC)(bn:List (List z8))(bh:Int)(row:List z8):List (Nat×T):=[(1,.own (.box (KK x_))),(2,.own (.box (.agg [I 0,I 0,eOs 1 true yI []]))),(3,.d (I (w64 (1+(w64 (Int.tmod x_.States 6)))))),(4,.own (.box (.agg [I (w64 (1+(w64 (Int.tmod x_.Inputs 3)))),I (w64 (1+(w64 (Int.tmod x_.Outputs 3)))),eOs 1 false qW bn]))),(5,.d (I bh)),(6,.own (eOs 2 false F8_ row))]
abbrev z3s (x_:zC)(bn:List (List z8))(bh:Int)(ca:List z8)(i8:Int):List (Nat×T):=[(1,.own (.box (KK x_))),(2,.own (.box (.agg [I 0,I 0,eOs 1 true yI []]))),(3,.d (I (w64 (1+(w64 (Int.tmod x_.States 6)))))),(4,.own (.box (.agg [I (w64 (1+(w64 (Int.tmod x_.Inputs 3)))),I (w64 (1+(w64 (Int.tmod x_.Outputs 3)))),eOs 1 false qW bn]))),(5,.d (I bh)),(6,.own (eOs 2 false F8_ ca)),(7,.d (I i8))]
abbrev z3t (x_:zC)(bn:List (List z8))(bh:Int):List (Nat×T):=[(1,.own (.box (KK x_))),(2,.own (.box (.agg [I 0,I 0,eOs 1 true yI []]))),(3,.d (I (w64 (1+(w64 (Int.tmod x_.States 6)))))),(4,.own (.box (.agg [I (w64 (1+(w64 (Int.tmod x_.Inputs 3)))),I (w64 (1+(w64 (Int.tmod x_.Outputs 3)))),eOs 1 false qW bn]))),(5,.d (I bh))]
theorem z8s (hC:zx Tryz.prog ctr)(h0C:ctr.Has Vw):QR.Ok Tryz.prog:=by
 refine zw ?_
 rintro x_ r0 aa
 try unfold Qw at aa
 refine yO false [(2,some 30)] y6 178 Tryz.func35 fun E hE=>?_
 obtain⟨g0,aa⟩:=gdE aa
 obtain⟨g1,aa⟩:=gdE aa
 obtain⟨g2,aa⟩:=gdE aa
 refine yJ X0 hC y6 [1,1,1] [] [1,2,3,4] (fun z:List (List z8)=>WY x_ z=some r0) (fun z=>z4p x_ z) [(1,.own (.box (KK x_))),(2,.own (.box (.agg [I 0,I 0,eOs 1 true yI []]))),(3,.d (I (w64 (1+(w64 (Int.tmod x_.States 6)))))),(4,.own (.box (.agg [I (w64 (1+(w64 (Int.tmod x_.Inputs 3)))),I (w64 (1+(w64 (Int.tmod x_.Outputs 3)))),eOs 1 true yI []])))] [Hn g0,Hn g1,Hn g2,Hh (.cut 3)] ?_ fun J1 aq=>?_
 ·rintro ib aa
  unfold WY at aa
  refine yJ X0 hC y6 [1,1,1,1] [] [1,2,3,4] (fun z:List (List z8)=>WX x_ z=some r0) (fun z=>z4o x_ z) [(1,.own (.box (KK x_))),(2,.own (.box (.agg [I 0,I 0,eOs 1 true yI []]))),(3,.d (I (w64 (1+(w64 (Int.tmod x_.States 6)))))),(4,.own (.box (.agg [I (w64 (1+(w64 (Int.tmod x_.Inputs 3)))),I (w64 (1+(w64 (Int.tmod x_.Outputs 3)))),eOs 1 false qW ib])))] [Hh (.cut 0)] ?_ fun J2 ax=>?_
  ·rintro gg aa
   unfold WX at aa
   refine yJ X0 hC y6 [1,1,1,1,1] [] [2,4] (fun z:List (List z8)=>WW x_ z=some r0) (fun z=>z4n x_ z) [(1,.own (.box (KK x_))),(2,.own (.box (.agg [I 0,I 0,eOs 1 true yI []]))),(3,.d (I (w64 (1+(w64 (Int.tmod x_.States 6)))))),(4,.own (.box (.agg [I (w64 (1+(w64 (Int.tmod x_.Inputs 3)))),I (w64 (1+(w64 (Int.tmod x_.Outputs 3)))),eOs 1 false qW gg])))] [Hh (.cut 0)] ?_ fun J3 ba=>?_
   ·rintro gx aa
    unfold WW at aa
    obtain rfl:=za aa
    exact yE X0 hC hE [Hm (shM qW yI gx)]
   ·obtain⟨t4,ht4,aa⟩:=zb aa
    refine yL X0 hC y6 [1,1,1,1,1,2,1,0] [J3] (fun s=>Zf x_ s.1 s.2) (fun x=>z4j x_ x.1 x.2) (gg,0) ht4  [] ?_
    rintro⟨ez,s_⟩ m4 au ae hl1 J4 bv
    try unfold Zf at ae
    rcases zH ae with⟨c0,ae⟩|⟨c0,ae⟩
    ·refine yJ X0 hC y6 [1,1,1,1,1,2,1,0,0,1] [J3,J4] [1,2,3,4,13] (fun z:List (List z8)=>WV s_ z=some au) (fun z=>z4m x_ s_ z) [(1,.own (.box (KK x_))),(2,.own (.box (.agg [I 0,I 0,eOs 1 true yI []]))),(3,.d (I (w64 (1+(w64 (Int.tmod x_.States 6)))))),(4,.own (.box (.agg [I (w64 (1+(w64 (Int.tmod x_.Inputs 3)))),I (w64 (1+(w64 (Int.tmod x_.Outputs 3)))),eOs 1 false qW ez]))),(13,.d (I s_))] [Hq c0,Hh (.cut 0)] ?_ fun J5 cj=>?_
     ·rintro gy ae
      unfold WV at ae
      obtain rfl:=za ae
      exact yB X0 hC bv (gy,w64 (s_+1)) hl1 []
     ·obtain⟨t6,jl,ae⟩:=zb ae
      refine yL X0 hC y6 [1,1,1,1,1,2,1,0,0,1,2,0,1,0] [J3,J4,J5] (fun s=>Ze x_ s_ s.1 s.2) (fun x=>z4i x_ s_ x.1 x.2) (ez,0) jl  [] ?_
      rintro⟨cn,i_⟩ m6 cq aj hl2 J6 db
      try unfold Ze at aj
      rcases zH aj with⟨c1,aj⟩|⟨c1,aj⟩
      ·refine yJ X0 hC y6 [1,1,1,1,1,2,1,0,0,1,2,0,1,0,0,1] [J3,J4,J5,J6] [1,2,3,4,13,14] (fun z:List (List z8)=>YX i_ z=some cq) (fun z=>z4l x_ s_ i_ z) [(1,.own (.box (KK x_))),(2,.own (.box (.agg [I 0,I 0,eOs 1 true yI []]))),(3,.d (I (w64 (1+(w64 (Int.tmod x_.States 6)))))),(4,.own (.box (.agg [I (w64 (1+(w64 (Int.tmod x_.Inputs 3)))),I (w64 (1+(w64 (Int.tmod x_.Outputs 3)))),eOs 1 false qW cn]))),(13,.d (I s_)),(14,.d (I i_))] [Hq c1,Hh (.cut 0)] ?_ fun J7 hJ7=>?_
       ·rintro gz aj
        unfold YX at aj
        obtain rfl:=za aj
        exact yB X0 hC db (gz,w64 (i_+1)) hl2 []
       ·obtain⟨ki,h0,aj⟩:=zb aj
        obtain⟨jo,h1,aj⟩:=zb aj
        let Z0:List HO:=[Hn (iL qW h0),Hs (iM qW h0),Hs (iM qW h0),Hn (iL F8_ h1),Hs (iM qW h0),Hs (iM F8_ h1),Hs (iM qW h0),Hs (iM F8_ h1)]
        rcases zH aj with⟨c2,aj⟩|⟨c2,aj⟩
        ·obtain⟨fk,h2,aj⟩:=zb aj
         obtain⟨r_,h3,aj⟩:=zb aj
         obtain⟨g3,aj⟩:=gdE aj
         obtain⟨fe,h4,aj⟩:=zb aj
         exact yB X0 hC hJ7 (cn.set s_.toNat (fk.set i_.toNat (z8.mk (Int.tmod r_ (w64 (1+(w64 (Int.tmod x_.States 6))))) fe.Out))) aj (Z0++[Hq c2,Hn (iL qW h2),Hs (iM qW h2),Hc h0C (x:=(x_.Edges,w64 ((w64 (s_*(w64 (1+(w64 (Int.tmod x_.Inputs 3))))))+i_))) h3 (loC F4_ x_.Edges <| loC (eI .i64) (w64 ((w64 (s_*(w64 (1+(w64 (Int.tmod x_.Inputs 3))))))+i_)) <| loN),Hn g3,Hs (iM qW h2),Hn (iL F8_ h4),Hs (iM qW h2),Hs (iM F8_ h4),Hs (iM qW h2),Hs (iM F8_ h4),Hs (iM qW h2),Hs (iM F8_ h4),Hl (sM F8_ fk i_ (z8.mk (Int.tmod r_ (w64 (1+(w64 (Int.tmod x_.States 6))))) fe.Out)),Hl (sM qW cn s_ (fk.set i_.toNat (z8.mk (Int.tmod r_ (w64 (1+(w64 (Int.tmod x_.States 6))))) fe.Out)))])
        ·exact yB X0 hC hJ7 cn aj (Z0++[Hq c2])
      ·obtain rfl:=za aj
       obtain rfl:=hl2
       exact yB X0 hC cj cn ae [Hq c1]
    ·obtain rfl:=za ae
     obtain rfl:=hl1
     exact yB X0 hC ba ez aa [Hq c0]
  ·obtain⟨t8,ht8,aa⟩:=zb aa
   refine yL X0 hC y6 [1,1,1,1,2,1,0] [J2] (fun s=>Zd x_ s.1 s.2) (fun x=>z4h x_ x.1 x.2) (ib,1) ht8  [] ?_
   rintro⟨az,a6⟩ m8 au ae hl1 J8 km
   try unfold Zd at ae
   rcases zH ae with⟨c3,ae⟩|⟨c3,ae⟩
   ·refine yJ X0 hC y6 [1,1,1,1,2,1,0,0,1] [J2,J8] [1,2,3,4,9] (fun z:List (List z8)=>WU a6 z=some au) (fun z=>z4k x_ a6 z) [(1,.own (.box (KK x_))),(2,.own (.box (.agg [I 0,I 0,eOs 1 true yI []]))),(3,.d (I (w64 (1+(w64 (Int.tmod x_.States 6)))))),(4,.own (.box (.agg [I (w64 (1+(w64 (Int.tmod x_.Inputs 3)))),I (w64 (1+(w64 (Int.tmod x_.Outputs 3)))),eOs 1 false qW az]))),(9,.d (I a6))] [Hq c3,Hh (.cut 0)] ?_ fun J9 lb=>?_
    ·rintro ia ae
     unfold WU at ae
     obtain rfl:=za ae
     exact yB X0 hC km (ia,w64 (a6+1)) hl1 []
    ·refine yJ X0 hC y6 [1,1,1,1,2,1,0,0,1,2,0,1] [J2,J8,J9] [1,2,3,4,9,10] (fun z:List Int=>XW x_ az a6 z=some au) (fun z=>z3z x_ az a6 z) [(1,.own (.box (KK x_))),(2,.own (.box (.agg [I 0,I 0,eOs 1 true yI []]))),(3,.d (I (w64 (1+(w64 (Int.tmod x_.States 6)))))),(4,.own (.box (.agg [I (w64 (1+(w64 (Int.tmod x_.Inputs 3)))),I (w64 (1+(w64 (Int.tmod x_.Outputs 3)))),eOs 1 false qW az]))),(9,.d (I a6)),(10,.own (eOs 1 true (eI .i64) []))] [Hh (.cut 1)] ?_ fun J10 hJ10=>?_
     ·rintro free ae
      unfold XW at ae
      obtain⟨i5,h5,ae⟩:=zb ae
      refine yJ X0 hC y6 [1,1,1,1,2,1,0,0,1,2,0,1,1,1] [J2,J8,J9] [1,2,3,4,9,12] (fun z:Int=>u9 x_ az a6 z=some au) (fun z=>z3y x_ az a6 z) [(1,.own (.box (KK x_))),(2,.own (.box (.agg [I 0,I 0,eOs 1 true yI []]))),(3,.d (I (w64 (1+(w64 (Int.tmod x_.States 6)))))),(4,.own (.box (.agg [I (w64 (1+(w64 (Int.tmod x_.Inputs 3)))),I (w64 (1+(w64 (Int.tmod x_.Outputs 3)))),eOs 1 false qW az]))),(9,.d (I a6)),(10,.own (eOs 1 false (eI .i64) free)),(12,.d (I i5))] [Hn (iL (eI .i64) h5),Hs (iM (eI .i64) h5),Hh (.cut 0)] ?_ fun J11 hJ11=>?_
      ·rintro k_ ae
       unfold u9 at ae
       obtain⟨g4,ae⟩:=gdE ae
       obtain⟨fl,h6,ae⟩:=zb ae
       obtain⟨g5,ae⟩:=gdE ae
       obtain⟨ff,h7,ae⟩:=zb ae
       exact yB X0 hC lb (az.set (w64 (Int.tdiv k_ (w64 (1+(w64 (Int.tmod x_.Inputs 3)))))).toNat (fl.set (Int.tmod k_ (w64 (1+(w64 (Int.tmod x_.Inputs 3))))).toNat (z8.mk a6 ff.Out))) ae [Hn g4,Hn (iL qW h6),Hs (iM qW h6),Hn g5,Hs (iM qW h6),Hn (iL F8_ h7),Hs (iM qW h6),Hs (iM F8_ h7),Hs (iM qW h6),Hs (iM F8_ h7),Hs (iM qW h6),Hs (iM F8_ h7),Hl (sM F8_ fl (Int.tmod k_ (w64 (1+(w64 (Int.tmod x_.Inputs 3))))) (z8.mk a6 ff.Out)),Hl (sM qW az (w64 (Int.tdiv k_ (w64 (1+(w64 (Int.tmod x_.Inputs 3)))))) (fl.set (Int.tmod k_ (w64 (1+(w64 (Int.tmod x_.Inputs 3))))).toNat (z8.mk a6 ff.Out)))]
      ·let Z1:List HO:=[Ha (lnM (eI .u8) x_.Tree)]
       rcases zH ae with⟨c4,ae⟩|⟨c4,ae⟩
       ·obtain⟨kr,h8,ae⟩:=zb ae
        obtain⟨g6,ae⟩:=gdE ae
        obtain⟨jn,h9,ae⟩:=zb ae
        exact yB X0 hC hJ11 jn ae (Z1++[Hq c4,Hi (eI .u8) h8,Ha (lnM (eI .i64) free),Hn g6,Hn (iL (eI .i64) h9),Hs (iM (eI .i64) h9)])
       ·exact yB X0 hC hJ11 i5 ae (Z1++[Hq c4])
     ·obtain⟨t12,ht12,ae⟩:=zb ae
      refine yLx X0 hC y6 [1,1,1,1,2,1,0,0,1,2,0,1,2,1,0] [J2,J8,J9,J10] (fun s=>qR x_ az a6 s.1 s.2) (fun x=>z3u x_ az a6 x.1 x.2) (([]:List Int),0) ht12 [(1,.own (.box (KK x_))),(2,.own (.box (.agg [I 0,I 0,eOs 1 true yI []]))),(3,.d (I (w64 (1+(w64 (Int.tmod x_.States 6)))))),(4,.own (.box (.agg [I (w64 (1+(w64 (Int.tmod x_.Inputs 3)))),I (w64 (1+(w64 (Int.tmod x_.Outputs 3)))),eOs 1 false qW az]))),(9,.d (I a6)),(10,.own (eOs 1 true (eI .i64) [])),(11,.d (I 0))] inferInstance [] ?_
      rintro⟨d9,a9⟩ mv cq aj hl2 mr mj
      try unfold qR at aj
      rcases zH aj with⟨c5,aj⟩|⟨c5,aj⟩
      ·refine yJ X0 hC y6 [1,1,1,1,2,1,0,0,1,2,0,1,2,1,0,0,1] [J2,J8,J9,J10,mr] [1,2,3,4,9,10,11] (fun z:List Int=>ZG a9 z=some cq) (fun z=>z3x x_ az a6 a9 z) [(1,.own (.box (KK x_))),(2,.own (.box (.agg [I 0,I 0,eOs 1 true yI []]))),(3,.d (I (w64 (1+(w64 (Int.tmod x_.States 6)))))),(4,.own (.box (.agg [I (w64 (1+(w64 (Int.tmod x_.Inputs 3)))),I (w64 (1+(w64 (Int.tmod x_.Outputs 3)))),eOs 1 false qW az]))),(9,.d (I a6)),(10,.own (eOs 1 false (eI .i64) d9)),(11,.d (I a9))] [Hq c5,Hh (.cut 0)] ?_ fun J13 hJ13=>?_
       ·rintro i6 aj
        unfold ZG at aj
        obtain rfl:=za aj
        exact yB X0 hC mj (i6,w64 (a9+1)) hl2 []
       ·obtain⟨g7,aj⟩:=gdE aj
        obtain⟨j6,h10,aj⟩:=zb aj
        obtain⟨g8,aj⟩:=gdE aj
        obtain⟨i7,h11,aj⟩:=zb aj
        let Z2:List HO:=[Hn g7,Hn (iL qW h10),Hs (iM qW h10),Hn g8,Hs (iM qW h10),Hn (iL F8_ h11),Hs (iM qW h10),Hs (iM F8_ h11),Hs (iM qW h10),Hs (iM F8_ h11)]
        rcases zH aj with⟨c6,aj⟩|⟨c6,aj⟩
        ·obtain⟨g9,aj⟩:=gdE aj
         exact yB X0 hC hJ13 (d9++([a9]:List Int)) aj (Z2++[Hq c6,Hq (dM (eI .i64) ([a9]:List Int)),Hn (dM (eI .i64) ([a9]:List Int)),Hn (aL (eI .i64) (eI .i64) g9),Hl (aM (eI .i64) d9 ([a9]:List Int))])
        ·exact yB X0 hC hJ13 d9 aj (Z2++[Hq c6])
      ·obtain rfl:=za aj
       obtain rfl:=hl2
       exact yB X0 hC hJ10 d9 ae [Hq c5]
   ·obtain rfl:=za ae
    obtain rfl:=hl1
    exact yB X0 hC ax az aa [Hq c3]
 ·obtain⟨mf,ht14,aa⟩:=zb aa
  refine yLx X0 hC y6 [1,1,1,2,1,0] [J1] (fun s=>qQ x_ s.1 s.2) (fun x=>z3t x_ x.1 x.2) (([]:List (List z8)),0) ht14 [(1,.own (.box (KK x_))),(2,.own (.box (.agg [I 0,I 0,eOs 1 true yI []]))),(3,.d (I (w64 (1+(w64 (Int.tmod x_.States 6)))))),(4,.own (.box (.agg [I (w64 (1+(w64 (Int.tmod x_.Inputs 3)))),I (w64 (1+(w64 (Int.tmod x_.Outputs 3)))),eOs 1 true qW []]))),(5,.d (I 0))] inferInstance [] ?_
  rintro⟨bn,bh⟩ mw au ae hl1 ma ml
  try unfold qQ at ae
  rcases zH ae with⟨c7,ae⟩|⟨c7,ae⟩
  ·refine yJ X0 hC y6 [1,1,1,2,1,0,0,1] [J1,ma] [1,2,3,4,5] (fun z:List (List z8)=>XV bh z=some au) (fun z=>z3w x_ bh z) [(1,.own (.box (KK x_))),(2,.own (.box (.agg [I 0,I 0,eOs 1 true yI []]))),(3,.d (I (w64 (1+(w64 (Int.tmod x_.States 6)))))),(4,.own (.box (.agg [I (w64 (1+(w64 (Int.tmod x_.Inputs 3)))),I (w64 (1+(w64 (Int.tmod x_.Outputs 3)))),eOs 1 false qW bn]))),(5,.d (I bh))] [Hq c7,Hh (.cut 0)] ?_ fun J15 hJ15=>?_
   ·rintro gi ae
    unfold XV at ae
    obtain rfl:=za ae
    exact yB X0 hC ml (gi,w64 (bh+1)) hl1 []
   ·refine yJ X0 hC y6 [1,1,1,2,1,0,0,1,2,0,1] [J1,ma,J15] [1,2,3,4,5,6] (fun z:List z8=>XU bn bh z=some au) (fun z=>z3v x_ bn bh z) [(1,.own (.box (KK x_))),(2,.own (.box (.agg [I 0,I 0,eOs 1 true yI []]))),(3,.d (I (w64 (1+(w64 (Int.tmod x_.States 6)))))),(4,.own (.box (.agg [I (w64 (1+(w64 (Int.tmod x_.Inputs 3)))),I (w64 (1+(w64 (Int.tmod x_.Outputs 3)))),eOs 1 false qW bn]))),(5,.d (I bh)),(6,.own (eOs 2 true F8_ []))] [Hh (.cut 1)] ?_ fun J16 hJ16=>?_
    ·rintro row ae
     unfold XU at ae
     obtain⟨g10,ae⟩:=gdE ae
     exact yB X0 hC hJ15 (bn++([row]:List (List z8))) ae [Hq (oC qW row []),Hn (aL qW qW g10),Hl (aM qW bn ([row]:List (List z8)))]
    ·obtain⟨t17,ht17,ae⟩:=zb ae
     refine yLx X0 hC y6 [1,1,1,2,1,0,0,1,2,0,1,2,1,0] [J1,ma,J15,J16] (fun s=>qP x_ bh s.1 s.2) (fun x=>z3s x_ bn bh x.1 x.2) (([]:List z8),0) ht17 [(1,.own (.box (KK x_))),(2,.own (.box (.agg [I 0,I 0,eOs 1 true yI []]))),(3,.d (I (w64 (1+(w64 (Int.tmod x_.States 6)))))),(4,.own (.box (.agg [I (w64 (1+(w64 (Int.tmod x_.Inputs 3)))),I (w64 (1+(w64 (Int.tmod x_.Outputs 3)))),eOs 1 false qW bn]))),(5,.d (I bh)),(6,.own (eOs 2 true F8_ [])),(7,.d (I 0))] inferInstance [] ?_
     rintro⟨ca,i8⟩ my cq aj hl2 mz mp
     try unfold qP at aj
     rcases zH aj with⟨c8,aj⟩|⟨c8,aj⟩
     ·obtain⟨ai,h12,aj⟩:=zb aj
      obtain⟨g11,aj⟩:=gdE aj
      obtain⟨g12,aj⟩:=gdE aj
      obtain⟨g13,aj⟩:=gdE aj
      obtain rfl:=za aj
      exact yB X0 hC mp ((ca++([(z8.mk (-1) (Int.tmod (w64 (Int.tdiv ai (w64 (1+(w64 (Int.tmod x_.States 6)))))) (w64 (1+(w64 (Int.tmod x_.Outputs 3))))))]:List z8)),w64 (i8+1)) hl2 [Hq c8,Hc h0C (x:=(x_.Edges,w64 ((w64 (bh*(w64 (1+(w64 (Int.tmod x_.Inputs 3))))))+i8))) h12 (loC F4_ x_.Edges <| loC (eI .i64) (w64 ((w64 (bh*(w64 (1+(w64 (Int.tmod x_.Inputs 3))))))+i8)) <| loN),Hn g11,Hn g12,Hq (dM F8_ ([(z8.mk (-1) (Int.tmod (w64 (Int.tdiv ai (w64 (1+(w64 (Int.tmod x_.States 6)))))) (w64 (1+(w64 (Int.tmod x_.Outputs 3))))))]:List z8)),Hn (dM F8_ ([(z8.mk (-1) (Int.tmod (w64 (Int.tdiv ai (w64 (1+(w64 (Int.tmod x_.States 6)))))) (w64 (1+(w64 (Int.tmod x_.Outputs 3))))))]:List z8)),Hn (aL F8_ F8_ g13),Hl (aM F8_ ca ([(z8.mk (-1) (Int.tmod (w64 (Int.tdiv ai (w64 (1+(w64 (Int.tmod x_.States 6)))))) (w64 (1+(w64 (Int.tmod x_.Outputs 3))))))]:List z8))]
     ·obtain rfl:=za aj
      obtain rfl:=hl2
      exact yB X0 hC hJ16 ca ae [Hq c8]
  ·obtain rfl:=za ae
   obtain rfl:=hl1
   exact yB X0 hC aq bn aa [Hq c7]
def XX:Code:=(Tryz.f137.body).getD .skip
def Q6:zK:=spF (α:=z6×List (List Bool)×Int×Int) (ρ:=Int) 137 (fun x=>[zD x.1,(eSl 1 false (eSl 1 false eB)) x.2.1,(eI .i64) x.2.2.1,(eI .i64) x.2.2.2]) (fun r=>(eI .i64) r) (fun x=>VG x.1 x.2.1 x.2.2.1 x.2.2.2) [] (zqr)
abbrev z3e:List (Nat×T):=[]
abbrev z3d (m_:z6)(av:List (List Bool))(s_:Int)(t_:Int)(i_:Int)(lv:Int)(lw:Bool)(ly:Bool)(lz:Bool)(l4:Bool)(l5:Bool):List (Nat×T):=[(1,.d (eSl 1 false (eSl 1 false eB) av)),(2,.d (I s_)),(3,.d (I t_)),(4,.own (.box (zD m_))),(9,.d (I i_)),(41,.d (I lv)),(42,.d (B lw)),(43,.d (B ly)),(47,.d (B lz)),(48,.d (B l4)),(58,.d (B l5))]
abbrev z3c (m_:z6)(av:List (List Bool))(s_:Int)(t_:Int)(i_:Int):List (Nat×T):=[(1,.d (eSl 1 false (eSl 1 false eB) av)),(2,.d (I s_)),(3,.d (I t_)),(4,.own (.box (zD m_))),(9,.d (I i_))]
theorem z7j (hC:zx Tryz.prog ctr):Q6.Ok Tryz.prog:=by
 refine zw ?_
 rintro⟨m_,av,s_,t_⟩ r0 aa
 try unfold VG at aa
 refine yO true [(8,none)] XX 60 Tryz.func137 fun E hE=>?_
 refine yJ X0 hC XX [1] [] [] (fun z:Unit=>Qd=some r0) (fun z=>z3e) [(1,.d (eSl 1 false (eSl 1 false eB) av)),(2,.d (I s_)),(3,.d (I t_)),(4,.own (.box (zD m_)))] [Hh (.cut 1)] ?_ fun J1 aq=>?_
 ·rintro⟨⟩ aa
  unfold Qd at aa
  obtain rfl:=za aa
  exact yE X0 hC hE []
 ·obtain⟨t2,ht2,aa⟩:=zb aa
  refine yL X0 hC XX [1,2,1,0] [J1] (fun s=>qL m_ av s_ t_ s) (fun x=>z3c m_ av s_ t_ x) 0 ht2  [] ?_
  rintro i_ m2 au ae hl1 J2 ax
  try unfold qL at ae
  rcases zH ae with⟨c0,ae⟩|⟨c0,ae⟩
  ·refine yJ X0 hC XX [1,2,1,0,0,1] [J1,J2] [1,2,3,4,9,41,42,43,47,48,58] (fun z:Int×Bool×Bool×Bool×Bool×Bool=>qM i_ z.1 z.2.1 z.2.2.1 z.2.2.2.1 z.2.2.2.2.1 z.2.2.2.2.2=some au) (fun z=>z3d m_ av s_ t_ i_ z.1 z.2.1 z.2.2.1 z.2.2.2.1 z.2.2.2.2.1 z.2.2.2.2.2) [(1,.d (eSl 1 false (eSl 1 false eB) av)),(2,.d (I s_)),(3,.d (I t_)),(4,.own (.box (zD m_))),(9,.d (I i_))] [Hq c0,Hh (.cut 0)] ?_ fun J3 ba=>?_
   ·rintro⟨lv,lw,ly,lz,l4,l5⟩ ae
    unfold qM at ae
    obtain rfl:=za ae
    exact yB X0 hC ax (w64 (i_+1)) hl1 []
   ·obtain⟨ap,h0,ae⟩:=zb ae
    obtain⟨ak,h1,ae⟩:=zb ae
    obtain⟨io,h2,ae⟩:=zb ae
    obtain⟨bj,h3,ae⟩:=zb ae
    let Z0:List HO:=[Hi yI h0,Hi F8_ h1,Hi yI h2,Hi F8_ h3]
    rcases zH ae with⟨c1,ae⟩|⟨c1,ae⟩
    ·obtain rfl:=za ae
     obtain rfl:=hl1
     obtain rfl:=za aa
     exact yE X0 hC hE (Z0++(rpN 8 (Hq c1) [qT]))
    ·let Z1:List HO:=(Z0++(rpN 4 (Hq c1) []))
     rcases zH ae with⟨c2,ae⟩|⟨c2,ae⟩
     ·let Z2:List HO:=(Z1++[Hq c2,Hq c2,Hq c2,Hq c1,Hq c2,Hq c1])
      rcases zH ae with⟨c3,ae⟩|⟨c3,ae⟩
      ·obtain⟨dn,h4,ae⟩:=zb ae
       obtain⟨cd,h5,ae⟩:=zb ae
       let Z3:List HO:=(Z2++(rpN 4 (Hq c3) (Hi (eSl 1 false eB) h4::(rpN 4 (Hq c3) [Hi eB h5,Hq c3,Hq c1,Hq c3,Hq c1]))))
       rcases zH ae with⟨c4,ae⟩|⟨c4,ae⟩
       ·obtain rfl:=za ae
        obtain rfl:=hl1
        obtain rfl:=za aa
        exact yE X0 hC hE (Z3++[Hq c4])
       ·exact yB X0 hC ba (ak.To,decide (ak.To>=0),decide (ak.To>=0),decide (bj.To>=0),decide (bj.To>=0),cd) ae (Z3++[Hq c4])
      ·exact yB X0 hC ba (ak.To,decide (ak.To>=0),decide (ak.To>=0),decide (bj.To>=0),decide (bj.To>=0),false) ae (Z2++(rpN 9 (Hq c3) [Hq c1,Hq c3,Hq c1,qF]))
     ·exact yB X0 hC ba (ak.To,decide (ak.To>=0),decide (ak.To>=0),false,false,false) ae (Z1++(Hq c2::Hq c2::Hq c2::Hq c1::Hq c2::Hq c1::(rpN 9 qF [Hq c1,qF,Hq c1,qF])))
  ·obtain rfl:=za ae
   obtain rfl:=hl1
   exact yB X0 hC aq () aa [Hq c0]
def xu:Code:=(Tryz.f116.body).getD .skip
def Vr:zK:=spF (α:=z6×Int) (ρ:=List (List Bool)) 116 (fun x=>[zD x.1,(eI .i64) x.2]) (fun r=>(eOs 1 false (eOs 1 true eB)) r) (fun x=>W3 x.1 x.2) [] (Qm)
abbrev z2i (ir:List (List Bool)):List (Nat×T):=[(6,.own (eOs 1 false (eOs 1 true eB) ir))]
abbrev z2h (m_:z6)(k_:Int)(round:Int)(ic:List (List Bool)):List (Nat×T):=[(1,.d (I k_)),(2,.own (.box (zD m_))),(5,.d (I ((m_.Rows.length:Nat):Int))),(6,.own (eOs 1 false (eOs 1 true eB) ic)),(8,.d (I round))]
abbrev z2g (m_:z6)(k_:Int)(round:Int)(next:List (List Bool)):List (Nat×T):=[(1,.d (I k_)),(2,.own (.box (zD m_))),(5,.d (I ((m_.Rows.length:Nat):Int))),(8,.d (I round)),(9,.own (eOs 1 false (eOs 1 true eB) next))]
abbrev z2f (m_:z6)(k_:Int)(bc:List (List Bool))(round:Int)(s_:Int)(i9:List (List Bool)):List (Nat×T):=[(1,.d (I k_)),(2,.own (.box (zD m_))),(5,.d (I ((m_.Rows.length:Nat):Int))),(6,.d (eSl 1 false (eSl 1 true eB) bc)),(8,.d (I round)),(9,.own (eOs 1 false (eOs 1 true eB) i9)),(10,.d (I s_))]
abbrev z2c (m_:z6)(k_:Int)(bc:List (List Bool))(round:Int)(s_:Int)(eb:List (List Bool))(t_:Int):List (Nat×T):=[(1,.d (I k_)),(2,.own (.box (zD m_))),(5,.d (I ((m_.Rows.length:Nat):Int))),(6,.d (eSl 1 false (eSl 1 true eB) bc)),(8,.d (I round)),(9,.own (eOs 1 false (eOs 1 true eB) eb)),(10,.d (I s_)),(11,.d (I t_))]
abbrev z2d (m_:z6)(k_:Int)(bc:List (List Bool))(round:Int)(fw:List (List Bool))(s_:Int):List (Nat×T):=[(1,.d (I k_)),(2,.own (.box (zD m_))),(5,.d (I ((m_.Rows.length:Nat):Int))),(6,.d (eSl 1 false (eSl 1 true eB) bc)),(8,.d (I round)),(9,.own (eOs 1 false (eOs 1 true eB) fw)),(10,.d (I s_))]
abbrev z2e (m_:z6)(k_:Int)(bc:List (List Bool))(round:Int):List (Nat×T):=[(1,.d (I k_)),(2,.own (.box (zD m_))),(5,.d (I ((m_.Rows.length:Nat):Int))),(6,.own (eOs 1 false (eOs 1 true eB) bc)),(8,.d (I round))]
abbrev z2j (m_:z6)(k_:Int)(av:List (List Bool)):List (Nat×T):=[(1,.d (I k_)),(2,.own (.box (zD m_))),(5,.d (I ((m_.Rows.length:Nat):Int))),(6,.own (eOs 1 false (eOs 1 true eB) av))]
abbrev z2b (m_:z6)(k_:Int)(dv:List (List Bool))(a6:Int):List (Nat×T):=[(1,.d (I k_)),(2,.own (.box (zD m_))),(5,.d (I ((m_.Rows.length:Nat):Int))),(6,.own (eOs 1 false (eOs 1 true eB) dv)),(7,.d (I a6))]
theorem z6h (hC:zx Tryz.prog ctr)(h0M:ctr.Has Q6):Vr.Ok Tryz.prog:=by
 refine zw ?_
 rintro⟨m_,k_⟩ r0 aa
 try unfold W3 at aa
 refine yO true [(4,none)] xu 68 Tryz.func116 fun E hE=>?_
 refine yJ X0 hC xu [1,1,1] [] [1,2,5,6] (fun z:List (List Bool)=>YI m_ k_ z=some r0) (fun z=>z2j m_ k_ z) [(1,.d (I k_)),(2,.own (.box (zD m_))),(5,.d (I ((m_.Rows.length:Nat):Int))),(6,.own (eOs 1 true (eSl 1 false eB) []))] [Ha (lnM yI m_.Rows),Hh (.cut 1)] ?_ fun J1 aq=>?_
 ·rintro av aa
  unfold YI at aa
  refine yJ X0 hC xu [1,1,1,1] [] [6] (fun z:List (List Bool)=>YH z=some r0) (fun z=>z2i z) [(1,.d (I k_)),(2,.own (.box (zD m_))),(5,.d (I ((m_.Rows.length:Nat):Int))),(6,.own (eOs 1 false (eOs 1 true eB) av))] [Hh (.cut 0)] ?_ fun J2 ax=>?_
  ·rintro ir aa
   unfold YH at aa
   obtain rfl:=za aa
   exact yE X0 hC hE []
  ·obtain⟨t3,ht3,aa⟩:=zb aa
   refine yL X0 hC xu [1,1,1,1,2,1,0] [J2] (fun s=>vh m_ k_ s.1 s.2) (fun x=>z2e m_ k_ x.1 x.2) (av,0) ht3  [] ?_
   rintro⟨bc,round⟩ m3 au ae hl1 J3 ba
   try unfold vh at ae
   rcases zH ae with⟨c0,ae⟩|⟨c0,ae⟩
   ·refine yJ X0 hC xu [1,1,1,1,2,1,0,0,1] [J2,J3] [1,2,5,6,8] (fun z:List (List Bool)=>YG round z=some au) (fun z=>z2h m_ k_ round z) [(1,.d (I k_)),(2,.own (.box (zD m_))),(5,.d (I ((m_.Rows.length:Nat):Int))),(6,.own (eOs 1 false (eOs 1 true eB) bc)),(8,.d (I round))] [Hq c0,Hh (.cut 0)] ?_ fun J4 bv=>?_
    ·rintro ic ae
     unfold YG at ae
     obtain rfl:=za ae
     exact yB X0 hC ba (ic,w64 (round+1)) hl1 []
    ·refine yJ X0 hC xu [1,1,1,1,2,1,0,0,1,2,0,1] [J2,J3,J4] [1,2,5,8,9] (fun z:List (List Bool)=>YF round z=some au) (fun z=>z2g m_ k_ round z) [(1,.d (I k_)),(2,.own (.box (zD m_))),(5,.d (I ((m_.Rows.length:Nat):Int))),(6,.own (eOs 1 false (eOs 1 true eB) bc)),(8,.d (I round)),(9,.own (eOs 1 true (eSl 1 false eB) []))] [Hh (.cut 1)] ?_ fun J5 cj=>?_
     ·rintro next ae
      unfold YF at ae
      exact yB X0 hC bv next ae []
     ·obtain⟨t6,jl,ae⟩:=zb ae
      refine yLx X0 hC xu [1,1,1,1,2,1,0,0,1,2,0,1,2,1,0] [J2,J3,J4,J5] (fun s=>vg m_ bc s.1 s.2) (fun x=>z2d m_ k_ bc round x.1 x.2) (([]:List (List Bool)),0) jl [(1,.d (I k_)),(2,.own (.box (zD m_))),(5,.d (I ((m_.Rows.length:Nat):Int))),(6,.d (eSl 1 false (eSl 1 true eB) bc)),(8,.d (I round)),(9,.own (eOs 1 true (eOs 1 true eB) [])),(10,.d (I 0))] inferInstance [Hh (.n 3 [6]),Hm (shM (eOs 1 true eB) (eSl 1 true eB) bc)] ?_
      rintro⟨fw,s_⟩ m6 cq aj hl2 J6 db
      try unfold vg at aj
      rcases zH aj with⟨c1,aj⟩|⟨c1,aj⟩
      ·refine yJ X0 hC xu [1,1,1,1,2,1,0,0,1,2,0,1,2,1,0,0,1] [J2,J3,J4,J5,J6] [1,2,5,6,8,9,10] (fun z:List (List Bool)=>YE s_ z=some cq) (fun z=>z2f m_ k_ bc round s_ z) [(1,.d (I k_)),(2,.own (.box (zD m_))),(5,.d (I ((m_.Rows.length:Nat):Int))),(6,.d (eSl 1 false (eSl 1 true eB) bc)),(8,.d (I round)),(9,.own (eOs 1 false (eOs 1 true eB) fw)),(10,.d (I s_))] [Hq c1,Hh (.cut 0)] ?_ fun J7 hJ7=>?_
       ·rintro i9 aj
        unfold YE at aj
        obtain rfl:=za aj
        exact yB X0 hC db (i9,w64 (s_+1)) hl2 []
       ·obtain⟨g0,aj⟩:=gdE aj
        obtain⟨g1,aj⟩:=gdE aj
        obtain⟨t8,ht8,aj⟩:=zb aj
        refine yL X0 hC xu [1,1,1,1,2,1,0,0,1,2,0,1,2,1,0,0,1,2,0,1,1,0] [J2,J3,J4,J5,J6,J7] (fun s=>ve m_ bc s_ s.1 s.2) (fun x=>z2c m_ k_ bc round s_ x.1 x.2) ((fw++([(List.replicate ((m_.Rows.length:Nat):Int).toNat false)]:List (List Bool))),0) ht8  [Hn (rL g0),Ha (rM 1 eB ((m_.Rows.length:Nat):Int) false),Hq (oC (eOs 1 true eB) (List.replicate ((m_.Rows.length:Nat):Int).toNat false) []),Hn (aL (eOs 1 true eB) (eOs 1 true eB) g1),Hl (aM (eOs 1 true eB) fw ([(List.replicate ((m_.Rows.length:Nat):Int).toNat false)]:List (List Bool)))] ?_
        rintro⟨eb,t_⟩ m8 mh bp hl3 J8 km
        try unfold ve at bp
        rcases zH bp with⟨c2,bp⟩|⟨c2,bp⟩
        ·obtain⟨dp,h0,bp⟩:=zb bp
         obtain⟨dn,h1,bp⟩:=zb bp
         obtain⟨cd,h2,bp⟩:=zb bp
         let Z0:List HO:=[Hq c2,Hn (iL (eOs 1 true eB) h0),Hs (iM (eOs 1 true eB) h0),Hi (eSl 1 true eB) h1,Hi eB h2]
         rcases zH bp with⟨c3,bp⟩|⟨c3,bp⟩
         ·obtain⟨lh,h3,bp⟩:=zb bp
          obtain rfl:=za bp
          exact yB X0 hC km ((eb.set s_.toNat (dp.set t_.toNat true)),w64 (t_+1)) hl3 (Z0++(rpN 7 (Hq c3) [Hs (iM (eOs 1 true eB) h0),Hn (iL eB h3),Hs (iM (eOs 1 true eB) h0),Hs (iM eB h3),Hs (iM (eOs 1 true eB) h0),Hs (iM eB h3),Hl (sM eB dp t_ true),Hl (sM (eOs 1 true eB) eb s_ (dp.set t_.toNat true))]))
         ·obtain⟨r_,h4,bp⟩:=zb bp
          obtain⟨ku,h5,bp⟩:=zb bp
          obtain rfl:=za bp
          exact yB X0 hC km ((eb.set s_.toNat (dp.set t_.toNat (r_==1))),w64 (t_+1)) hl3 (Z0++(rpN 5 (Hq c3) [Hc h0M (x:=(m_,bc,s_,t_)) h4 (loC zD m_ <| loC (eSl 1 false (eSl 1 true eB)) bc <| loC (eI .i64) s_ <| loC (eI .i64) t_ <| loN),Hq c3,Hq c3,Hs (iM (eOs 1 true eB) h0),Hn (iL eB h5),Hs (iM (eOs 1 true eB) h0),Hs (iM eB h5),Hs (iM (eOs 1 true eB) h0),Hs (iM eB h5),Hl (sM eB dp t_ (r_==1)),Hl (sM (eOs 1 true eB) eb s_ (dp.set t_.toNat (r_==1)))]))
        ·obtain rfl:=za bp
         obtain rfl:=hl3
         exact yB X0 hC hJ7 eb aj [Hq c2]
      ·obtain rfl:=za aj
       obtain rfl:=hl2
       exact yB X0 hC cj fw ae [Hq c1]
   ·obtain rfl:=za ae
    obtain rfl:=hl1
    exact yB X0 hC ax bc aa [Hq c0]
 ·obtain⟨t9,ht9,aa⟩:=zb aa
  refine yLx X0 hC xu [1,1,1,2,1,0] [J1] (fun s=>vd m_ s.1 s.2) (fun x=>z2b m_ k_ x.1 x.2) (([]:List (List Bool)),0) ht9 [(1,.d (I k_)),(2,.own (.box (zD m_))),(5,.d (I ((m_.Rows.length:Nat):Int))),(6,.own (eOs 1 true (eOs 1 true eB) [])),(7,.d (I 0))] inferInstance [] ?_
  rintro⟨dv,a6⟩ m9 au ae hl1 J9 lb
  try unfold vd at ae
  rcases zH ae with⟨c4,ae⟩|⟨c4,ae⟩
  ·obtain⟨g2,ae⟩:=gdE ae
   obtain⟨g3,ae⟩:=gdE ae
   obtain rfl:=za ae
   exact yB X0 hC lb ((dv++([(List.replicate ((m_.Rows.length:Nat):Int).toNat false)]:List (List Bool))),w64 (a6+1)) hl1 [Hq c4,Hn (rL g2),Ha (rM 1 eB ((m_.Rows.length:Nat):Int) false),Hq (oC (eOs 1 true eB) (List.replicate ((m_.Rows.length:Nat):Int).toNat false) []),Hn (aL (eOs 1 true eB) (eOs 1 true eB) g3),Hl (aM (eOs 1 true eB) dv ([(List.replicate ((m_.Rows.length:Nat):Int).toNat false)]:List (List Bool)))]
  ·obtain rfl:=za ae
   obtain rfl:=hl1
   exact yB X0 hC aq dv aa [Hq c4]
def xe:Code:=(Tryz.f115.body).getD .skip
def Yu:zK:=spF (α:=List (List Bool)) (ρ:=List Int) 115 (fun x=>[(eSl 1 false (eSl 1 false eB)) x]) (fun r=>F5_ r) (fun x=>kH x) [] (WL)
abbrev KG (out:List Int):List (Nat×T):=[(3,.own (eOs 1 false (eI .i64) out))]
abbrev KF (av:List (List Bool))(s_:Int)(ay:List Int)(dc:Int):List (Nat×T):=[(0,.d (eSl 1 false (eSl 1 false eB) av)),(3,.own (eOs 1 false (eI .i64) ay)),(4,.d (I dc)),(5,.d (I s_))]
abbrev KD (av:List (List Bool))(ah:List Int)(s_:Int)(kw:Int)(ja:Int):List (Nat×T):=[(0,.d (eSl 1 false (eSl 1 false eB) av)),(3,.own (eOs 1 false (eI .i64) ah)),(4,.d (I kw)),(5,.d (I s_)),(6,.d (I ja))]
abbrev KE (av:List (List Bool))(ah:List Int)(n_:Int)(s_:Int)(b_:Int):List (Nat×T):=[(0,.d (eSl 1 false (eSl 1 false eB) av)),(3,.own (eOs 1 false (eI .i64) ah)),(4,.d (I n_)),(5,.d (I s_)),(6,.d (I b_))]
abbrev KC (av:List (List Bool))(ah:List Int)(n_:Int)(s_:Int)(t_:Int)(kx:Int):List (Nat×T):=[(0,.d (eSl 1 false (eSl 1 false eB) av)),(3,.own (eOs 1 false (eI .i64) ah)),(4,.d (I n_)),(5,.d (I s_)),(6,.d (I kx)),(7,.d (I t_))]
abbrev KA (av:List (List Bool))(ah:List Int)(n_:Int)(s_:Int)(jp:Int)(t_:Int):List (Nat×T):=[(0,.d (eSl 1 false (eSl 1 false eB) av)),(3,.own (eOs 1 false (eI .i64) ah)),(4,.d (I n_)),(5,.d (I s_)),(6,.d (I jp)),(7,.d (I t_))]
abbrev KB (av:List (List Bool))(ah:List Int)(n_:Int)(s_:Int):List (Nat×T):=[(0,.d (eSl 1 false (eSl 1 false eB) av)),(3,.own (eOs 1 false (eI .i64) ah)),(4,.d (I n_)),(5,.d (I s_))]
theorem z2E (hC:zx Tryz.prog ctr):Yu.Ok Tryz.prog:=by
 refine zw ?_
 rintro av r0 aa
 try unfold kH at aa
 refine yO true [(2,none)] xe 41 Tryz.func115 fun E hE=>?_
 refine yJ X0 hC xe [1,1,1] [] [3] (fun z:List Int=>YD z=some r0) (fun z=>KG z) [(0,.d (eSl 1 false (eSl 1 false eB) av)),(3,.own (eOs 1 true (eI .i64) [])),(4,.d (I 0))] [Hh (.cut 3)] ?_ fun J1 aq=>?_
 ·rintro out aa
  unfold YD at aa
  obtain rfl:=za aa
  exact yE X0 hC hE []
 ·obtain⟨t2,ht2,aa⟩:=zb aa
  refine yLx X0 hC xe [1,1,1,2,1,0] [J1] (fun s=>jD av s.1 s.2.1 s.2.2) (fun x=>KB av x.1 x.2.1 x.2.2) (([]:List Int),0,0) ht2 [(0,.d (eSl 1 false (eSl 1 false eB) av)),(3,.own (eOs 1 true (eI .i64) [])),(4,.d (I 0)),(5,.d (I 0))] inferInstance [] ?_
  rintro⟨ah,n_,s_⟩ m2 au ae hl1 J2 ax
  try unfold jD at ae
  let Z0:List HO:=[Ha (lnM (eSl 1 false eB) av)]
  rcases zH ae with⟨c0,ae⟩|⟨c0,ae⟩
  ·refine yJ X0 hC xe [1,1,1,2,1,0,0,1] [J1,J2] [0,3,4,5] (fun z:List Int×Int=>jF s_ z.1 z.2=some au) (fun z=>KF av s_ z.1 z.2) [(0,.d (eSl 1 false (eSl 1 false eB) av)),(3,.own (eOs 1 false (eI .i64) ah)),(4,.d (I n_)),(5,.d (I s_))] (Z0++[Hq c0,Hh (.cut 0)]) ?_ fun J3 ba=>?_
   ·rintro⟨ay,dc⟩ ae
    unfold jF at ae
    obtain rfl:=za ae
    exact yB X0 hC ax (ay,dc,w64 (s_+1)) hl1 []
   ·refine yJ X0 hC xe [1,1,1,2,1,0,0,1,2,0,1] [J1,J2,J3] [0,3,4,5,6] (fun z:Int=>jE ah n_ s_ z=some au) (fun z=>KE av ah n_ s_ z) [(0,.d (eSl 1 false (eSl 1 false eB) av)),(3,.own (eOs 1 false (eI .i64) ah)),(4,.d (I n_)),(5,.d (I s_)),(6,.d (I (-1)))] [Hh (.cut 1)] ?_ fun J4 bv=>?_
    ·rintro b_ ae
     unfold jE at ae
     refine yJ X0 hC xe [1,1,1,2,1,0,0,1,2,0,1,1] [J1,J2,J3] [0,3,4,5,6] (fun z:Int×Int=>wx ah s_ z.1 z.2=some au) (fun z=>KD av ah s_ z.1 z.2) [(0,.d (eSl 1 false (eSl 1 false eB) av)),(3,.own (eOs 1 false (eI .i64) ah)),(4,.d (I n_)),(5,.d (I s_)),(6,.d (I b_))] [Hh (.cut 0)] ?_ fun J5 cj=>?_
     ·rintro⟨kw,ja⟩ ae
      unfold wx at ae
      obtain⟨g0,ae⟩:=gdE ae
      exact yB X0 hC ba ((ah++([ja]:List Int)),kw) ae [Hq (dM (eI .i64) ([ja]:List Int)),Hn (dM (eI .i64) ([ja]:List Int)),Hn (aL (eI .i64) (eI .i64) g0),Hl (aM (eI .i64) ah ([ja]:List Int))]
     ·rcases zH ae with⟨c1,ae⟩|⟨c1,ae⟩
      ·exact yB X0 hC cj (w64 (n_+1),n_) ae [Hq c1]
      ·exact yB X0 hC cj (n_,b_) ae [Hq c1]
    ·obtain⟨t6,jl,ae⟩:=zb ae
     refine yL X0 hC xe [1,1,1,2,1,0,0,1,2,0,1,2,1,0] [J1,J2,J3,J4] (fun s=>vN av ah s_ s.1 s.2) (fun x=>KA av ah n_ s_ x.1 x.2) ((-1),0) jl  [] ?_
     rintro⟨jp,t_⟩ m6 cq aj hl2 J6 db
     try unfold vN at aj
     rcases zH aj with⟨c2,aj⟩|⟨c2,aj⟩
     ·refine yJ X0 hC xe [1,1,1,2,1,0,0,1,2,0,1,2,1,0,0,1] [J1,J2,J3,J4,J6] [0,3,4,5,6,7] (fun z:Int=>vO t_ z=some cq) (fun z=>KC av ah n_ s_ t_ z) [(0,.d (eSl 1 false (eSl 1 false eB) av)),(3,.own (eOs 1 false (eI .i64) ah)),(4,.d (I n_)),(5,.d (I s_)),(6,.d (I jp)),(7,.d (I t_))] [Hq c2,Hh (.cut 0)] ?_ fun J7 hJ7=>?_
      ·rintro kx aj
       unfold vO at aj
       obtain rfl:=za aj
       exact yB X0 hC db (kx,w64 (t_+1)) hl2 []
      ·obtain⟨dn,h0,aj⟩:=zb aj
       obtain⟨cd,h1,aj⟩:=zb aj
       let Z1:List HO:=[Hi (eSl 1 false eB) h0,Hi eB h1]
       rcases zH aj with⟨c3,aj⟩|⟨c3,aj⟩
       ·obtain⟨bz,h2,aj⟩:=zb aj
        exact yB X0 hC hJ7 bz aj (Z1++[Hq c3,Hn (iL (eI .i64) h2),Hs (iM (eI .i64) h2)])
       ·exact yB X0 hC hJ7 jp aj (Z1++[Hq c3])
     ·obtain rfl:=za aj
      obtain rfl:=hl2
      exact yB X0 hC bv jp ae [Hq c2]
  ·obtain rfl:=za ae
   obtain rfl:=hl1
   exact yB X0 hC aq ah aa (Z0++[Hq c0])
def z5I:Code:=(Tryz.f87.body).getD .skip
def Vq:zK:=spF (α:=z6×Int) (ρ:=List Int) 87 (fun x=>[zD x.1,(eI .i64) x.2]) (fun r=>F5_ r) (fun x=>UR x.1 x.2) [] (Qm)
theorem z6g (hC:zx Tryz.prog ctr)(h0N:ctr.Has Vr)(h0D:ctr.Has Yu):Vq.Ok Tryz.prog:=by
 refine zw ?_
 rintro⟨m_,k_⟩ r0 aa
 try unfold UR at aa
 refine yO true [(4,none)] z5I 9 Tryz.func87 fun E hE=>?_
 obtain⟨r_,h0,aa⟩:=zb aa
 obtain⟨ai,h1,aa⟩:=zb aa
 obtain rfl:=za aa
 exact yE X0 hC hE [Hc h0N (x:=(m_,k_)) h0 (loC zD m_ <| loC (eI .i64) k_ <| loN),Hg (z1K h0D),Hm (shM (eOs 1 true eB) (eSl 1 true eB) r_),Hs (z1L h0D (x:=r_) h1 (loC (eSl 1 false (eSl 1 true eB)) r_ <| loN)),Hm (shM (eOs 1 true eB) (eSl 1 true eB) r_)]
def z42:Code:=(Tryz.f63.body).getD .skip
def ZN:zK:=spF (α:=z6) (ρ:=List Int) 63 (fun x=>[zD x]) (fun r=>F5_ r) (fun x=>kY x) [] (WL)
theorem z4H (hC:zx Tryz.prog ctr)(h0O:ctr.Has Vq):ZN.Ok Tryz.prog:=by
 refine zw ?_
 rintro m_ r0 aa
 try unfold kY at aa
 refine yO true [(2,none)] z42 8 Tryz.func63 fun E hE=>?_
 obtain⟨r_,h0,aa⟩:=zb aa
 obtain rfl:=za aa
 exact yE X0 hC hE [Ha (lnM yI m_.Rows),Hc h0O (x:=(m_,((m_.Rows.length:Nat):Int))) h0 (loC zD m_ <| loC (eI .i64) ((m_.Rows.length:Nat):Int) <| loN)]
def z80:Code:=(Tryz.f84.body).getD .skip
def Yv:zK:=spF (α:=z6×Int×Int) (ρ:=z8) 84 (fun x=>[zD x.1,(eI .i64) x.2.1,(eI .i64) x.2.2]) (fun r=>F8_ r) (fun x=>Vb x.1 x.2.1 x.2.2) [] (zad)
theorem z8m (hC:zx Tryz.prog ctr):Yv.Ok Tryz.prog:=by
 refine zw ?_
 rintro⟨m_,s_,i_⟩ r0 aa
 try unfold Vb at aa
 refine yO false [(6,some 67)] z80 18 Tryz.func84 fun E hE=>?_
 rcases zH aa with⟨c0,aa⟩|⟨c0,aa⟩
 ·obtain rfl:=za aa
  exact yE X0 hC hE [Hq c0]
 ·obtain⟨ap,h0,aa⟩:=zb aa
  obtain⟨ak,h1,aa⟩:=zb aa
  obtain rfl:=za aa
  exact yE X0 hC hE [Hq c0,Hi yI h0,Hi F8_ h1]
def z6y:Code:=(Tryz.f165.body).getD .skip
def Q9:zK:=spF (α:=z6×Int×List Int) (ρ:=Int) 165 (fun x=>[zD x.1,(eI .i64) x.2.1,F6_ x.2.2]) (fun r=>(eI .i64) r) (fun x=>QX x.1 x.2.1 x.2.2) [] (zad)
theorem z1A:∀(x y:z6×Int×List Int),(fun x=>[zD x.1,(eI .i64) x.2.1,F6_ x.2.2]) x=(fun x=>[zD x.1,(eI .i64) x.2.1,F6_ x.2.2]) y->x=y:=zad
def Wt (ik:z6->Int->(List Int)->Option Int):zK:=spF (α:=z6×Int×List Int) (ρ:=Int) 165 (fun x=>[zD x.1,(eI .i64) x.2.1,F6_ x.2.2]) (fun r=>(eI .i64) r) (fun x=>ik x.1 x.2.1 x.2.2) [] (by
 intro x y h
 exact(congrArg (fun(p:z6×Int×List Int)=>p) (show x=y from z1A x y h)))
theorem z4J (hC:zx Tryz.prog ctr)(h0e:ctr.Has Yv)(ik:z6->Int->(List Int)->Option Int)(h0P:ctr.Has (Wt ik)):(Wt (kZ ik)).Ok Tryz.prog:=by
 refine zw ?_
 rintro⟨m_,s_,w_⟩ r0 aa
 try unfold kZ at aa
 refine yO true [(6,none)] z6y 22 Tryz.func165 fun E hE=>?_
 rcases zH aa with⟨c0,aa⟩|⟨c0,aa⟩
 ·obtain rfl:=za aa
  exact yE X0 hC hE [Ha (lnM (eI .i64) w_),Hq c0]
 ·obtain⟨fm,h0,aa⟩:=zb aa
  obtain⟨r_,h1,aa⟩:=zb aa
  obtain⟨g0,aa⟩:=gdE aa
  obtain⟨ai,h2,aa⟩:=zb aa
  obtain rfl:=za aa
  exact yE ((zpU zt zil).or X0) hC hE [Ha (lnM (eI .i64) w_),Hq c0,Hi (eI .i64) h0,Hc h0e (x:=(m_,s_,fm)) h1 (loC zD m_ <| loC (eI .i64) s_ <| loC (eI .i64) fm <| loN),Hn (slA g0),Hn (zjX (eI .i64) g0),Ha (slE 1 false (eI .i64) w_ (1:Int).toNat),Hc h0P (x:=(m_,r_.To,(w_.drop (1:Int).toNat))) h2 (loC zD m_ <| loC (eI .i64) r_.To <| loC F6_ (w_.drop (1:Int).toNat) <| loN)]
theorem z7m (hC:zx Tryz.prog ctr)(h0e:ctr.Has Yv):Q9.Ok Tryz.prog:=by
 have H:∀n,(Wt (YN n)).Ok Tryz.prog:=by
  intro n
  induction n with
  | zero=>exact zw fun _ _ h=>nomatch (show none=some _ from h)
  | succ n ih=>exact z4J (Ctr.add_ok hC ih) (h0e.add (by show(84:Nat)≠165;decide)) _ (Ctr.add_has _ _)
 exact zw fun x r h=>zch (H _) h
def Jk:Code:=(Tryz.f164.body).getD .skip
def QM:zK:=spF (α:=List Int×Int) (ρ:=List Int) 164 (fun x=>[F6_ x.1,(eI .i64) x.2]) (fun r=>F5_ r) (fun x=>Va x.1 x.2) [] (Qm)
abbrev z4e (out:List Int):List (Nat×T):=[(5,.own (eOs 1 false (eI .i64) out))]
abbrev z4d (inputs:Int)(ah:List Int)(k_:Int):List (Nat×T):=[(1,.d (I inputs)),(5,.own (eOs 1 false (eI .i64) ah)),(6,.d (I k_))]
theorem z8k (hC:zx Tryz.prog ctr):QM.Ok Tryz.prog:=by
 refine zw ?_
 rintro⟨w_,inputs⟩ r0 aa
 try unfold Va at aa
 refine yO true [(4,none)] Jk 37 Tryz.func164 fun E hE=>?_
 obtain⟨g0,aa⟩:=gdE aa
 refine yJ X0 hC Jk [1,1] [] [5] (fun z:List Int=>YK z=some r0) (fun z=>z4e z) [(1,.d (I inputs)),(5,.own (eOs 1 false (eI .i64) w_))] [Hn (dM (eI .i64) w_),Hn (aL (eI .i64) (eI .i64) g0),Hl (aM0 (eI .i64) w_),Hh (.cut 0)] ?_ fun J1 aq=>?_
 ·rintro out aa
  unfold YK at aa
  obtain⟨g1,aa⟩:=gdE aa
  obtain rfl:=za aa
  exact yE X0 hC hE [Hq (dM (eI .i64) ([0]:List Int)),Hn (dM (eI .i64) ([0]:List Int)),Hn (aL (eI .i64) (eI .i64) g1),Hl (aM (eI .i64) out ([0]:List Int))]
 ·obtain⟨t2,ht2,aa⟩:=zb aa
  refine yL X0 hC Jk [1,1,2,1,0] [J1] (fun s=>YJ inputs s.1 s.2) (fun x=>z4d inputs x.1 x.2) (w_,w64 (((w_.length:Nat):Int) - 1)) ht2  [Ha (lnM (eI .i64) w_)] ?_
  rintro⟨ah,k_⟩ m2 au ae hl1 J2 ax
  try unfold YJ at ae
  rcases zH ae with⟨c0,ae⟩|⟨c0,ae⟩
  ·obtain⟨bz,h0,ae⟩:=zb ae
   let Z0:List HO:=[Hq c0,Hn (iL (eI .i64) h0),Hs (iM (eI .i64) h0)]
   rcases zH ae with⟨c1,ae⟩|⟨c1,ae⟩
   ·obtain⟨gj,h1,ae⟩:=zb ae
    obtain⟨l6,h2,ae⟩:=zb ae
    obtain rfl:=za ae
    obtain rfl:=hl1
    obtain rfl:=za aa
    exact yE X0 hC hE (Z0++[Hq c1,Hn (iL (eI .i64) h1),Hs (iM (eI .i64) h1),Hn (iL (eI .i64) h2),Hs (iM (eI .i64) h2),Hs (iM (eI .i64) h2),Hl (sM (eI .i64) ah k_ (w64 (gj+1)))])
   ·obtain⟨l7,h3,ae⟩:=zb ae
    obtain rfl:=za ae
    exact yB X0 hC ax ((ah.set k_.toNat 0),w64 (k_ - 1)) hl1 (Z0++[Hq c1,Hn (iL (eI .i64) h3),Hs (iM (eI .i64) h3),Hs (iM (eI .i64) h3),Hl (sM (eI .i64) ah k_ 0)])
  ·obtain rfl:=za ae
   obtain rfl:=hl1
   exact yB X0 hC aq ah aa [Hq c0]
def XY:Code:=(Tryz.f143.body).getD .skip
def Q7:zK:=spF (α:=z6×Int) (ρ:=List (List Int)×List Bool) 143 (fun x=>[zD x.1,(eI .i64) x.2]) (fun r=>.tup [zj0 r.1,(eSl 1 true eB) r.2]) (fun x=>VH x.1 x.2) [] (Qm)
abbrev z3h (l_:List (List Int))(is:List Bool):List (Nat×T):=[(6,.own (eOs 1 true F6_ l_)),(7,.own (eOs 1 true eB is))]
abbrev z3g (m_:z6)(bw:Int)(w_:List Int)(ge:List (List Int))(ky:List Bool):List (Nat×T):=[(1,.d (I bw)),(2,.own (.box (zD m_))),(6,.own (eOs 1 true F6_ ge)),(7,.own (eOs 1 true eB ky)),(8,.d (eSl 1 false (eI .i64) w_))]
abbrev z3f (m_:z6)(bw:Int)(d0:List (List Int))(gk:List Bool)(w_:List Int):List (Nat×T):=[(1,.d (I bw)),(2,.own (.box (zD m_))),(6,.own (eOs 1 true F6_ d0)),(7,.own (eOs 1 true eB gk)),(8,.own (eOs 1 false (eI .i64) w_))]
def wU:XH Tryz.prog:=((QG zt (.inr 48) [8]).or X0)
theorem z7k (hC:zx Tryz.prog ctr)(h0Q:ctr.Has Q9)(h0R:ctr.Has QM):Q7.Ok Tryz.prog:=by
 refine zw ?_
 rintro⟨m_,bw⟩ r0 aa
 try unfold VH at aa
 refine yO false [(4,none),(5,none)] XY 51 Tryz.func143 fun E hE=>?_
 obtain⟨g0,aa⟩:=gdE aa
 obtain⟨g1,aa⟩:=gdE aa
 refine yJ wU hC XY [1,1,1] [] [6,7] (fun z:List (List Int)×List Bool=>XO z.1 z.2=some r0) (fun z=>z3h z.1 z.2) [(1,.d (I bw)),(2,.own (.box (zD m_))),(6,.own (eOs 1 true F2_ (List.replicate ((m_.Rows.length:Nat):Int).toNat ([]:List Int)))),(7,.own (eOs 1 true eB (List.replicate ((m_.Rows.length:Nat):Int).toNat false)))] [Ha (lnM yI m_.Rows),Hn (rL g0),Ha (rM 1 F3_ ((m_.Rows.length:Nat):Int) ([]:List Int)),Hh (.v 0 [6]),Hm (shM F3_ F2_ (List.replicate ((m_.Rows.length:Nat):Int).toNat ([]:List Int))),Ha (lnM yI m_.Rows),Hn (rL g1),Ha (rM 1 eB ((m_.Rows.length:Nat):Int) false),Hh (.cut 0)] ?_ fun J1 aq=>?_
 ·rintro⟨l_,is⟩ aa
  unfold XO at aa
  obtain rfl:=za aa
  exact yE wU hC hE [Hm (shM F6_ F6_ l_),Hm (shM eB eB is)]
 ·obtain⟨t2,ht2,aa⟩:=zb aa
  refine yLx wU hC XY [1,1,1,2,1,0] [J1] (fun s=>XN m_ bw s.1 s.2.1 s.2.2) (fun x=>z3f m_ bw x.1 x.2.1 x.2.2) ((List.replicate ((m_.Rows.length:Nat):Int).toNat ([]:List Int)),(List.replicate ((m_.Rows.length:Nat):Int).toNat false),([]:List Int)) ht2 [(1,.d (I bw)),(2,.own (.box (zD m_))),(6,.own (eOs 1 true F2_ (List.replicate ((m_.Rows.length:Nat):Int).toNat ([]:List Int)))),(7,.own (eOs 1 true eB (List.replicate ((m_.Rows.length:Nat):Int).toNat false))),(8,.own (eOs 1 true (eI .i64) []))] inferInstance [] ?_
  rintro⟨d0,gk,w_⟩ m2 au ae hl1 J2 ax
  try unfold XN at ae
  let Z0:List HO:=[Ha (lnM (eI .i64) w_),Ha (lnM yI m_.Rows)]
  rcases zH ae with⟨c0,ae⟩|⟨c0,ae⟩
  ·refine yJ wU hC XY [1,1,1,2,1,0,0,1] [J1,J2] [1,2,6,7,8] (fun z:List (List Int)×List Bool=>u6 m_ w_ z.1 z.2=some au) (fun z=>z3g m_ bw w_ z.1 z.2) [(1,.d (I bw)),(2,.own (.box (zD m_))),(6,.own (eOs 1 true F6_ d0)),(7,.own (eOs 1 true eB gk)),(8,.d (eSl 1 false (eI .i64) w_))] (Z0++[Hq c0,Hh (.n 1 [8]),Hm (shM (eI .i64) (eI .i64) w_),Hh (.cut 0)]) ?_ fun J3 ba=>?_
   ·rintro⟨ge,ky⟩ ae
    unfold u6 at ae
    obtain⟨r_,h0,ae⟩:=zb ae
    obtain rfl:=za ae
    exact yB wU hC ax (ge,ky,r_) hl1 [Hc h0R (x:=(w_,m_.Inputs)) h0 (loC F6_ w_ <| loC (eI .i64) m_.Inputs <| loN)]
   ·obtain⟨ai,h1,ae⟩:=zb ae
    let Z1:List HO:=[Hc h0Q (x:=(m_,bw,w_)) h1 (loC zD m_ <| loC (eI .i64) bw <| loC F6_ w_ <| loN)]
    rcases zH ae with⟨c1,ae⟩|⟨c1,ae⟩
    ·obtain⟨l8,h2,ae⟩:=zb ae
     let Z2:List HO:=(Z1++[Hq c1,Hq c1,Hq c1,Hn (iL eB h2),Hq c1,Hs (iM eB h2),Hq c1,Hq c1])
     rcases zH ae with⟨c2,ae⟩|⟨c2,ae⟩
     ·obtain⟨mb,h3,ae⟩:=zb ae
      obtain⟨bk,h4,ae⟩:=zb ae
      exact yB wU hC ba ((d0.set ai.toNat w_),(gk.set ai.toNat true)) ae (Z2++[Hq c2,Hn (iL eB h3),Hs (iM eB h3),Hs (iM eB h3),Hl (sM eB gk ai true),Hn (iL F6_ h4),Hs (iM F6_ h4),Hs (iM F6_ h4),Hl (sM F6_ d0 ai w_)])
     ·exact yB wU hC ba (d0,gk) ae (Z2++[Hq c2])
    ·exact yB wU hC ba (d0,gk) ae (Z1++(rpN 6 (Hq c1) [qF]))
  ·obtain rfl:=za ae
   obtain rfl:=hl1
   exact yB wU hC aq (d0,gk) aa (Z0++[Hq c0])
def z5J:Code:=(Tryz.f122.body).getD .skip
def Vs:zK:=spF (α:=z6) (ρ:=List (List Int)×List Bool) 122 (fun x=>[zD x]) (fun r=>.tup [zj0 r.1,(eSl 1 true eB) r.2]) (fun x=>W4 x) [] (WL)
theorem z6i (hC:zx Tryz.prog ctr)(h0S:ctr.Has Q7):Vs.Ok Tryz.prog:=by
 refine zw ?_
 rintro m_ r0 aa
 try unfold W4 at aa
 refine yO false [(2,none),(3,none)] z5J 8 Tryz.func122 fun E hE=>?_
 obtain⟨r_,h0,aa⟩:=zb aa
 obtain rfl:=za aa
 exact yE X0 hC hE [Hc h0S (x:=(m_,0)) h0 (loC zD m_ <| loC (eI .i64) 0 <| loN)]
def Jl:Code:=(Tryz.f123.body).getD .skip
def QN:zK:=spF (α:=List Int×List Int) (ρ:=Int) 123 (fun x=>[F6_ x.1,F6_ x.2]) (fun r=>(eI .i64) r) (fun x=>Qp x.1 x.2) [] (Qm)
abbrev z4g:List (Nat×T):=[]
abbrev z4f (a_:List Int)(b_:List Int)(i_:Int):List (Nat×T):=[(0,.d (eSl 1 false (eI .i64) a_)),(1,.d (eSl 1 false (eI .i64) b_)),(5,.d (I i_))]
theorem z8l (hC:zx Tryz.prog ctr):QN.Ok Tryz.prog:=by
 refine zw ?_
 rintro⟨a_,b_⟩ r0 aa
 try unfold Qp at aa
 refine yO true [(4,none)] Jl 40 Tryz.func123 fun E hE=>?_
 let Z0:List HO:=[Ha (lnM (eI .i64) a_),Ha (lnM (eI .i64) b_)]
 rcases zH aa with⟨c0,aa⟩|⟨c0,aa⟩
 ·let Z1:List HO:=(Z0++[Hq c0,Ha (lnM (eI .i64) a_),Ha (lnM (eI .i64) b_)])
  rcases zH aa with⟨c1,aa⟩|⟨c1,aa⟩
  ·obtain rfl:=za aa
   exact yE X0 hC hE (Z1++[Hq c1])
  ·obtain rfl:=za aa
   exact yE X0 hC hE (Z1++[Hq c1])
 ·refine yJ X0 hC Jl [1,1] [] [] (fun z:Unit=>QV=some r0) (fun z=>z4g) [(0,.d (eSl 1 false (eI .i64) a_)),(1,.d (eSl 1 false (eI .i64) b_))] (Z0++[Hq c0,Hh (.cut 0)]) ?_ fun J1 aq=>?_
  ·rintro⟨⟩ aa
   unfold QV at aa
   obtain rfl:=za aa
   exact yE X0 hC hE []
  ·obtain⟨t2,ht2,aa⟩:=zb aa
   refine yL X0 hC Jl [1,1,2,1,0] [J1] (fun s=>YL a_ b_ s) (fun x=>z4f a_ b_ x) 0 ht2  [] ?_
   rintro i_ m2 au ae hl1 J2 ax
   try unfold YL at ae
   rcases zH ae with⟨c2,ae⟩|⟨c2,ae⟩
   ·obtain⟨gv,h0,ae⟩:=zb ae
    obtain⟨gw,h1,ae⟩:=zb ae
    let Z2:List HO:=[Ha (lnM (eI .i64) a_),Hq c2,Hi (eI .i64) h0,Hi (eI .i64) h1]
    rcases zH ae with⟨c3,ae⟩|⟨c3,ae⟩
    ·obtain⟨jb,h2,ae⟩:=zb ae
     obtain⟨jd,h3,ae⟩:=zb ae
     let Z3:List HO:=(Z2++[Hq c3,Hi (eI .i64) h2,Hi (eI .i64) h3])
     rcases zH ae with⟨c4,ae⟩|⟨c4,ae⟩
     ·obtain rfl:=za ae
      obtain rfl:=hl1
      obtain rfl:=za aa
      exact yE X0 hC hE (Z3++[Hq c4])
     ·obtain rfl:=za ae
      obtain rfl:=hl1
      obtain rfl:=za aa
      exact yE X0 hC hE (Z3++[Hq c4])
    ·obtain rfl:=za ae
     exact yB X0 hC ax (w64 (i_+1)) hl1 (Z2++[Hq c3])
   ·obtain rfl:=za ae
    obtain rfl:=hl1
    exact yB X0 hC aq () aa [Ha (lnM (eI .i64) a_),Hq c2]
def qS:Code:=(Tryz.f91.body).getD .skip
def Q8:zK:=spF (α:=z6) (ρ:=List Int) 91 (fun x=>[zD x]) (fun r=>F5_ r) (fun x=>VI x) [] (WL)
abbrev z3m (out:List Int):List (Nat×T):=[(5,.own (eOs 1 false (eI .i64) out))]
abbrev z3l (r_:List (List Int)×List Bool)(s_:Int)(ay:List Int):List (Nat×T):=[(3,.d (eSl 1 true F6_ r_.1)),(4,.d (eSl 1 true eB r_.2)),(5,.own (eOs 1 false (eI .i64) ay)),(6,.d (I s_))]
abbrev z3k (r_:List (List Int)×List Bool)(ah:List Int)(s_:Int)(k_:Int):List (Nat×T):=[(3,.d (eSl 1 true F6_ r_.1)),(4,.d (eSl 1 true eB r_.2)),(5,.own (eOs 1 false (eI .i64) ah)),(6,.d (I s_)),(7,.d (I k_))]
abbrev z3i (r_:List (List Int)×List Bool)(ah:List Int)(s_:Int)(a9:Int):List (Nat×T):=[(3,.d (eSl 1 true F6_ r_.1)),(4,.d (eSl 1 true eB r_.2)),(5,.own (eOs 1 false (eI .i64) ah)),(6,.d (I s_)),(7,.d (I a9))]
abbrev z3j (r_:List (List Int)×List Bool)(ah:List Int)(s_:Int):List (Nat×T):=[(3,.d (eSl 1 true F6_ r_.1)),(4,.d (eSl 1 true eB r_.2)),(5,.own (eOs 1 false (eI .i64) ah)),(6,.d (I s_))]
def yN:XH Tryz.prog:=((QG zt (.inl 49) []).or ((QG zt (.inl 47) [5]).or X0))
theorem z7l (hC:zx Tryz.prog ctr)(h0T:ctr.Has Vs)(h0U:ctr.Has QN):Q8.Ok Tryz.prog:=by
 refine zw ?_
 rintro m_ r0 aa
 try unfold VI at aa
 refine yO true [(2,none)] qS 61 Tryz.func91 fun E hE=>?_
 obtain⟨r_,h0,aa⟩:=zb aa
 refine yJ yN hC qS [1,1,1] [] [5] (fun z:List Int=>Qe z=some r0) (fun z=>z3m z) [(3,.d (eSl 1 true F6_ r_.1)),(4,.d (eSl 1 true eB r_.2)),(5,.own (eOs 1 true (eI .i64) []))] [Hc h0T (x:=m_) h0 (loC zD m_ <| loN),Hh (.cut 1)] ?_ fun J1 aq=>?_
 ·rintro out aa
  unfold Qe at aa
  obtain rfl:=za aa
  exact yE yN hC hE []
 ·obtain⟨t2,ht2,aa⟩:=zb aa
  refine yLx yN hC qS [1,1,1,2,1,0] [J1] (fun s=>ZB r_ s.1 s.2) (fun x=>z3j r_ x.1 x.2) (([]:List Int),0) ht2 [(3,.d (eSl 1 true F6_ r_.1)),(4,.d (eSl 1 true eB r_.2)),(5,.own (eOs 1 true (eI .i64) [])),(6,.d (I 0))] inferInstance [] ?_
  rintro⟨ah,s_⟩ m2 au ae hl1 J2 ax
  try unfold ZB at ae
  let Z0:List HO:=[Ha (lnM F6_ r_.1)]
  rcases zH ae with⟨c0,ae⟩|⟨c0,ae⟩
  ·refine yJ yN hC qS [1,1,1,2,1,0,0,1] [J1,J2] [3,4,5,6] (fun z:List Int=>qN s_ z=some au) (fun z=>z3l r_ s_ z) [(3,.d (eSl 1 true F6_ r_.1)),(4,.d (eSl 1 true eB r_.2)),(5,.own (eOs 1 false (eI .i64) ah)),(6,.d (I s_))] (Z0++[Hq c0,Hh (.cut 0)]) ?_ fun J3 ba=>?_
   ·rintro ay ae
    unfold qN at ae
    obtain rfl:=za ae
    exact yB yN hC ax (ay,w64 (s_+1)) hl1 []
   ·obtain⟨u_,h1,ae⟩:=zb ae
    rcases zH ae with⟨c1,ae⟩|⟨c1,ae⟩
    ·exact yB yN hC ba ah ae [Hi eB h1,Hq c1]
    ·refine yJ yN hC qS [1,1,1,2,1,0,0,1,2,0,1,1] [J1,J2,J3] [3,4,5,6,7] (fun z:Int=>XP ah s_ z=some au) (fun z=>z3k r_ ah s_ z) [(3,.d (eSl 1 true F6_ r_.1)),(4,.d (eSl 1 true eB r_.2)),(5,.own (eOs 1 false (eI .i64) ah)),(6,.d (I s_)),(7,.d (I 0))] [Hi eB h1,Hq c1,Hh (.cut 1)] ?_ fun J4 bv=>?_
     ·rintro k_ ae
      unfold XP at ae
      obtain⟨g0,ae⟩:=gdE ae
      obtain⟨g1,ae⟩:=gdE ae
      obtain⟨g2,ae⟩:=gdE ae
      obtain⟨g3,ae⟩:=gdE ae
      obtain⟨g4,ae⟩:=gdE ae
      exact yB yN hC ba ((((ah.drop 0).take (k_.toNat - 0))++([s_]:List Int))++(ah.drop k_.toNat)) ae [Hm (shM (eI .i64) (eI .i64) ah),Hn (slB g0),Hn (zby (eI .i64) g0),Ha (slM 1 false (eI .i64) ah 0 k_.toNat),Hn (dM (eI .i64) ((ah.drop 0).take (k_.toNat - 0))),Hn (aL (eI .i64) (eI .i64) g1),Hl (aM0 (eI .i64) ((ah.drop 0).take (k_.toNat - 0))),Hq (dM (eI .i64) ([s_]:List Int)),Hn (dM (eI .i64) ([s_]:List Int)),Hn (aL (eI .i64) (eI .i64) g2),Hl (aM (eI .i64) ((ah.drop 0).take (k_.toNat - 0)) ([s_]:List Int)),Hn (slA g3),Hn (zjX (eI .i64) g3),Ha (slE 1 false (eI .i64) ah k_.toNat),Hn (dM (eI .i64) (ah.drop k_.toNat)),Hn (aL (eI .i64) (eI .i64) g4),Hl (aM (eI .i64) (((ah.drop 0).take (k_.toNat - 0))++([s_]:List Int)) (ah.drop k_.toNat))]
     ·obtain⟨t5,ht5,ae⟩:=zb ae
      refine yL yN hC qS [1,1,1,2,1,0,0,1,2,0,1,1,2,0] [J1,J2,J3,J4] (fun s=>ZA r_ ah s_ s) (fun x=>z3i r_ ah s_ x) 0 ht5  [] ?_
      rintro a9 m5 cq aj hl2 J5 cj
      try unfold ZA at aj
      rcases zH aj with⟨c2,aj⟩|⟨c2,aj⟩
      ·obtain⟨bz,h2,aj⟩:=zb aj
       obtain⟨il,h3,aj⟩:=zb aj
       obtain⟨gq,h4,aj⟩:=zb aj
       obtain⟨ai,h5,aj⟩:=zb aj
       let Z1:List HO:=(Ha (lnM (eI .i64) ah)::(rpN 4 (Hq c2) (Hn (iL (eI .i64) h2)::Hq c2::Hs (iM (eI .i64) h2)::Hq c2::Hi F6_ h3::(rpN 4 (Hq c2) [Hi F6_ h4,Hq c2,Hq c2,Hc h0U (x:=(il,gq)) h5 (loC F6_ il <| loC F6_ gq <| loN),Hq c2,Hq c2]))))
       rcases zH aj with⟨c3,aj⟩|⟨c3,aj⟩
       ·obtain rfl:=za aj
        exact yB yN hC cj (w64 (a9+1)) hl2 (Z1++[Hq c3])
       ·obtain rfl:=za aj
        obtain rfl:=hl2
        exact yB yN hC bv a9 ae (Z1++[Hq c3])
      ·obtain rfl:=za aj
       obtain rfl:=hl2
       exact yB yN hC bv a9 ae (Ha (lnM (eI .i64) ah)::(rpN 14 (Hq c2) [qF]))
  ·obtain rfl:=za ae
   obtain rfl:=hl1
   exact yB yN hC aq ah aa (Z0++[Hq c0])
def vp:Code:=(Tryz.f67.body).getD .skip
def Yt:zK:=spF (α:=z6) (ρ:=List Int) 67 (fun x=>[zD x]) (fun r=>F5_ r) (fun x=>kG x) [] (WL)
abbrev z2a (out:List Int):List (Nat×T):=[(5,.own (eOs 1 false (eI .i64) out))]
abbrev z29 (r_:List Int)(ai:List Int)(k_:Int)(ay:List Int):List (Nat×T):=[(3,.own (eOs 1 false (eI .i64) r_)),(4,.own (eOs 1 false (eI .i64) ai)),(5,.own (eOs 1 false (eI .i64) ay)),(6,.d (I k_))]
abbrev z28 (r_:List Int)(ai:List Int)(ah:List Int)(k_:Int)(there:Int):List (Nat×T):=[(3,.own (eOs 1 false (eI .i64) r_)),(4,.own (eOs 1 false (eI .i64) ai)),(5,.own (eOs 1 false (eI .i64) ah)),(6,.d (I k_)),(7,.d (I there))]
abbrev z27 (r_:List Int)(ai:List Int)(ah:List Int)(k_:Int)(n_:Int)(ip:Int):List (Nat×T):=[(3,.own (eOs 1 false (eI .i64) r_)),(4,.own (eOs 1 false (eI .i64) ai)),(5,.own (eOs 1 false (eI .i64) ah)),(6,.d (I k_)),(7,.d (I ip)),(8,.d (I n_))]
abbrev z23 (r_:List Int)(ai:List Int)(ah:List Int)(k_:Int)(fy:Int)(n_:Int):List (Nat×T):=[(3,.own (eOs 1 false (eI .i64) r_)),(4,.own (eOs 1 false (eI .i64) ai)),(5,.own (eOs 1 false (eI .i64) ah)),(6,.d (I k_)),(7,.d (I fy)),(8,.d (I n_))]
abbrev z26 (r_:List Int)(ai:List Int)(ah:List Int)(k_:Int):List (Nat×T):=[(3,.own (eOs 1 false (eI .i64) r_)),(4,.own (eOs 1 false (eI .i64) ai)),(5,.own (eOs 1 false (eI .i64) ah)),(6,.d (I k_))]
theorem z6f (hC:zx Tryz.prog ctr)(h0r:ctr.Has ZN)(h0V:ctr.Has Q8):Yt.Ok Tryz.prog:=by
 refine zw ?_
 rintro m_ r0 aa
 try unfold kG at aa
 refine yO true [(2,none)] vp 49 Tryz.func67 fun E hE=>?_
 obtain⟨r_,h0,aa⟩:=zb aa
 obtain⟨ai,h1,aa⟩:=zb aa
 refine yJ X0 hC vp [1,1,1,1] [] [5] (fun z:List Int=>YC z=some r0) (fun z=>z2a z) [(3,.own (eOs 1 false (eI .i64) r_)),(4,.own (eOs 1 false (eI .i64) ai)),(5,.own (eOs 1 true (eI .i64) []))] [Hc h0r (x:=m_) h0 (loC zD m_ <| loN),Hc h0V (x:=m_) h1 (loC zD m_ <| loN),Hh (.cut 1)] ?_ fun J1 aq=>?_
 ·rintro out aa
  unfold YC at aa
  obtain rfl:=za aa
  exact yE X0 hC hE []
 ·obtain⟨t2,ht2,aa⟩:=zb aa
  refine yLx X0 hC vp [1,1,1,1,2,1,0] [J1] (fun s=>YA r_ ai s.1 s.2) (fun x=>z26 r_ ai x.1 x.2) (([]:List Int),0) ht2 [(3,.own (eOs 1 false (eI .i64) r_)),(4,.own (eOs 1 false (eI .i64) ai)),(5,.own (eOs 1 true (eI .i64) [])),(6,.d (I 0))] inferInstance [] ?_
  rintro⟨ah,k_⟩ m2 au ae hl1 J2 ax
  try unfold YA at ae
  rcases zH ae with⟨c0,ae⟩|⟨c0,ae⟩
  ·refine yJ X0 hC vp [1,1,1,1,2,1,0,0,1] [J1,J2] [3,4,5,6] (fun z:List Int=>uu k_ z=some au) (fun z=>z29 r_ ai k_ z) [(3,.own (eOs 1 false (eI .i64) r_)),(4,.own (eOs 1 false (eI .i64) ai)),(5,.own (eOs 1 false (eI .i64) ah)),(6,.d (I k_))] [Ha (lnM (eI .i64) ai),Hq c0,Hh (.cut 0)] ?_ fun J3 ba=>?_
   ·rintro ay ae
    unfold uu at ae
    obtain rfl:=za ae
    exact yB X0 hC ax (ay,w64 (k_+1)) hl1 []
   ·refine yJ X0 hC vp [1,1,1,1,2,1,0,0,1,2,0,1] [J1,J2,J3] [3,4,5,6,7] (fun z:Int=>YB ai ah k_ z=some au) (fun z=>z28 r_ ai ah k_ z) [(3,.own (eOs 1 false (eI .i64) r_)),(4,.own (eOs 1 false (eI .i64) ai)),(5,.own (eOs 1 false (eI .i64) ah)),(6,.d (I k_)),(7,.d (I 0))] [Hh (.cut 1)] ?_ fun J4 bv=>?_
    ·rintro there ae
     unfold YB at ae
     rcases zH ae with⟨c1,ae⟩|⟨c1,ae⟩
     ·obtain⟨dx,h2,ae⟩:=zb ae
      obtain⟨g0,ae⟩:=gdE ae
      exact yB X0 hC ba (ah++([dx]:List Int)) ae [Hq c1,Hn (iL (eI .i64) h2),Hs (iM (eI .i64) h2),Hq (dM (eI .i64) ([dx]:List Int)),Hn (dM (eI .i64) ([dx]:List Int)),Hn (aL (eI .i64) (eI .i64) g0),Hl (aM (eI .i64) ah ([dx]:List Int))]
     ·exact yB X0 hC ba ah ae [Hq c1]
    ·obtain⟨t5,ht5,ae⟩:=zb ae
     refine yL X0 hC vp [1,1,1,1,2,1,0,0,1,2,0,1,2,1,0] [J1,J2,J3,J4] (fun s=>kE r_ ai k_ s.1 s.2) (fun x=>z23 r_ ai ah k_ x.1 x.2) (0,0) ht5  [] ?_
     rintro⟨fy,n_⟩ m5 cq aj hl2 J5 cj
     try unfold kE at aj
     rcases zH aj with⟨c2,aj⟩|⟨c2,aj⟩
     ·refine yJ X0 hC vp [1,1,1,1,2,1,0,0,1,2,0,1,2,1,0,0,1] [J1,J2,J3,J4,J5] [3,4,5,6,7,8] (fun z:Int=>kF n_ z=some cq) (fun z=>z27 r_ ai ah k_ n_ z) [(3,.own (eOs 1 false (eI .i64) r_)),(4,.own (eOs 1 false (eI .i64) ai)),(5,.own (eOs 1 false (eI .i64) ah)),(6,.d (I k_)),(7,.d (I fy)),(8,.d (I n_))] [Hq c2,Hh (.cut 0)] ?_ fun J6 db=>?_
      ·rintro ip aj
       unfold kF at aj
       obtain rfl:=za aj
       exact yB X0 hC cj (ip,w64 (n_+1)) hl2 []
      ·obtain⟨gf,h3,aj⟩:=zb aj
       obtain⟨je,h4,aj⟩:=zb aj
       obtain⟨jf,h5,aj⟩:=zb aj
       obtain⟨ln,h6,aj⟩:=zb aj
       let Z0:List HO:=[Hn (iL (eI .i64) h3),Hs (iM (eI .i64) h3),Hn (iL (eI .i64) h4),Hs (iM (eI .i64) h4),Hn (iL (eI .i64) h5),Hs (iM (eI .i64) h5),Hn (iL (eI .i64) h6),Hs (iM (eI .i64) h6)]
       rcases zH aj with⟨c3,aj⟩|⟨c3,aj⟩
       ·exact yB X0 hC db 1 aj (Z0++[Hq c3])
       ·exact yB X0 hC db fy aj (Z0++[Hq c3])
     ·obtain rfl:=za aj
      obtain rfl:=hl2
      exact yB X0 hC bv fy ae [Hq c2]
  ·obtain rfl:=za ae
   obtain rfl:=hl1
   exact yB X0 hC aq ah aa [Ha (lnM (eI .i64) ai),Hq c0]
def xN:Code:=(Tryz.f86.body).getD .skip
def Ws:zK:=spF (α:=z6×Int) (ρ:=List Bool) 86 (fun x=>[zD x.1,(eI .i64) x.2]) (fun r=>(eOs 1 true eB) r) (fun x=>YM x.1 x.2) [] (Qm)
abbrev z1c (out:List Bool):List (Nat×T):=[(5,.own (eOs 1 true eB out))]
abbrev z1b (m_:z6)(round:Int)(ay:List Bool):List (Nat×T):=[(2,.own (.box (zD m_))),(5,.own (eOs 1 true eB ay)),(6,.d (I round))]
abbrev z1a (m_:z6)(round:Int)(s_:Int)(j7:List Bool):List (Nat×T):=[(2,.own (.box (zD m_))),(5,.own (eOs 1 true eB j7)),(6,.d (I round)),(7,.d (I s_))]
abbrev z19 (m_:z6)(round:Int)(s_:Int)(i_:Int)(j8:List Bool):List (Nat×T):=[(2,.own (.box (zD m_))),(5,.own (eOs 1 true eB j8)),(6,.d (I round)),(7,.d (I s_)),(8,.d (I i_))]
abbrev z16 (m_:z6)(round:Int)(s_:Int)(eh:List Bool)(i_:Int):List (Nat×T):=[(2,.own (.box (zD m_))),(5,.own (eOs 1 true eB eh)),(6,.d (I round)),(7,.d (I s_)),(8,.d (I i_))]
abbrev z17 (m_:z6)(round:Int)(iq:List Bool)(s_:Int):List (Nat×T):=[(2,.own (.box (zD m_))),(5,.own (eOs 1 true eB iq)),(6,.d (I round)),(7,.d (I s_))]
abbrev z18 (m_:z6)(ah:List Bool)(round:Int):List (Nat×T):=[(2,.own (.box (zD m_))),(5,.own (eOs 1 true eB ah)),(6,.d (I round))]
theorem z4I (hC:zx Tryz.prog ctr):Ws.Ok Tryz.prog:=by
 refine zw ?_
 rintro⟨m_,bw⟩ r0 aa
 try unfold YM at aa
 refine yO true [(4,none)] xN 58 Tryz.func86 fun E hE=>?_
 obtain⟨g0,aa⟩:=gdE aa
 obtain⟨mq,h0,aa⟩:=zb aa
 refine yJ X0 hC xN [1,1,1] [] [5] (fun z:List Bool=>ZV z=some r0) (fun z=>z1c z) [(2,.own (.box (zD m_))),(5,.own (eOs 1 true eB ((List.replicate ((m_.Rows.length:Nat):Int).toNat false).set bw.toNat true)))] [Ha (lnM yI m_.Rows),Hn (rL g0),Ha (rM 1 eB ((m_.Rows.length:Nat):Int) false),Hn (iL eB h0),Hs (iM eB h0),Hs (iM eB h0),Hl (sM eB (List.replicate ((m_.Rows.length:Nat):Int).toNat false) bw true),Hh (.cut 0)] ?_ fun J1 aq=>?_
 ·rintro out aa
  unfold ZV at aa
  obtain rfl:=za aa
  exact yE X0 hC hE []
 ·obtain⟨t2,ht2,aa⟩:=zb aa
  refine yL X0 hC xN [1,1,1,2,1,0] [J1] (fun s=>ZS m_ s.1 s.2) (fun x=>z18 m_ x.1 x.2) (((List.replicate ((m_.Rows.length:Nat):Int).toNat false).set bw.toNat true),0) ht2  [] ?_
  rintro⟨ah,round⟩ m2 au ae hl1 J2 ax
  try unfold ZS at ae
  let Z0:List HO:=[Ha (lnM yI m_.Rows)]
  rcases zH ae with⟨c0,ae⟩|⟨c0,ae⟩
  ·refine yJ X0 hC xN [1,1,1,2,1,0,0,1] [J1,J2] [2,5,6] (fun z:List Bool=>ZU round z=some au) (fun z=>z1b m_ round z) [(2,.own (.box (zD m_))),(5,.own (eOs 1 true eB ah)),(6,.d (I round))] (Z0++[Hq c0,Hh (.cut 0)]) ?_ fun J3 ba=>?_
   ·rintro ay ae
    unfold ZU at ae
    obtain rfl:=za ae
    exact yB X0 hC ax (ay,w64 (round+1)) hl1 []
   ·obtain⟨t4,ht4,ae⟩:=zb ae
    refine yL X0 hC xN [1,1,1,2,1,0,0,1,2,0,1,0] [J1,J2,J3] (fun s=>qE m_ s.1 s.2) (fun x=>z17 m_ round x.1 x.2) (ah,0) ht4  [] ?_
    rintro⟨iq,s_⟩ m4 cq aj hl2 J4 bv
    try unfold qE at aj
    let Z1:List HO:=[Ha (lnM yI m_.Rows)]
    rcases zH aj with⟨c1,aj⟩|⟨c1,aj⟩
    ·refine yJ X0 hC xN [1,1,1,2,1,0,0,1,2,0,1,0,0,1] [J1,J2,J3,J4] [2,5,6,7] (fun z:List Bool=>ZT s_ z=some cq) (fun z=>z1a m_ round s_ z) [(2,.own (.box (zD m_))),(5,.own (eOs 1 true eB iq)),(6,.d (I round)),(7,.d (I s_))] (Z1++[Hq c1,Hh (.cut 0)]) ?_ fun J5 cj=>?_
     ·rintro j7 aj
      unfold ZT at aj
      obtain rfl:=za aj
      exact yB X0 hC bv (j7,w64 (s_+1)) hl2 []
     ·obtain⟨t6,jl,aj⟩:=zb aj
      refine yL X0 hC xN [1,1,1,2,1,0,0,1,2,0,1,0,0,1,2,0,1,0] [J1,J2,J3,J4,J5] (fun s=>qD m_ s_ s.1 s.2) (fun x=>z16 m_ round s_ x.1 x.2) (iq,0) jl  [] ?_
      rintro⟨eh,i_⟩ m6 mh bp hl3 J6 db
      try unfold qD at bp
      rcases zH bp with⟨c2,bp⟩|⟨c2,bp⟩
      ·refine yJ X0 hC xN [1,1,1,2,1,0,0,1,2,0,1,0,0,1,2,0,1,0,0,1] [J1,J2,J3,J4,J5,J6] [2,5,6,7,8] (fun z:List Bool=>vC i_ z=some mh) (fun z=>z19 m_ round s_ i_ z) [(2,.own (.box (zD m_))),(5,.own (eOs 1 true eB eh)),(6,.d (I round)),(7,.d (I s_)),(8,.d (I i_))] [Hq c2,Hh (.cut 0)] ?_ fun J7 hJ7=>?_
       ·rintro j8 bp
        unfold vC at bp
        obtain rfl:=za bp
        exact yB X0 hC db (j8,w64 (i_+1)) hl3 []
       ·obtain⟨ap,h1,bp⟩:=zb bp
        obtain⟨ak,h2,bp⟩:=zb bp
        obtain⟨bz,h3,bp⟩:=zb bp
        let Z2:List HO:=[Hi yI h1,Hi F8_ h2,Hn (iL eB h3),Hs (iM eB h3)]
        rcases zH bp with⟨c3,bp⟩|⟨c3,bp⟩
        ·rcases zH bp with⟨c4,bp⟩|⟨c4,bp⟩
         ·obtain⟨gj,h4,bp⟩:=zb bp
          exact yB X0 hC hJ7 (eh.set ak.To.toNat true) bp (Z2++[Hq c3,Hq c3,Hq c3,Hq c4,Hn (iL eB h4),Hs (iM eB h4),Hs (iM eB h4),Hl (sM eB eh ak.To true)])
         ·exact yB X0 hC hJ7 eh bp (Z2++[Hq c3,Hq c3,Hq c3,Hq c4])
        ·exact yB X0 hC hJ7 eh bp (Z2++[Hq c3,Hq c3,Hq c3,qF])
      ·obtain rfl:=za bp
       obtain rfl:=hl3
       exact yB X0 hC cj eh aj [Hq c2]
    ·obtain rfl:=za aj
     obtain rfl:=hl2
     exact yB X0 hC ba iq ae (Z1++[Hq c1])
  ·obtain rfl:=za ae
   obtain rfl:=hl1
   exact yB X0 hC aq ah aa (Z0++[Hq c0])
def kP:Code:=(Tryz.f68.body).getD .skip
def K3:zK:=spF (α:=z6) (ρ:=List Int) 68 (fun x=>[zD x]) (fun r=>F5_ r) (fun x=>Kc x) [] (WL)
abbrev z62 (out:List Int):List (Nat×T):=[(6,.own (eOs 1 false (eI .i64) out))]
abbrev z61 (r_:List Int)(ai:List Int)(al:List Bool)(s_:Int)(ay:List Int):List (Nat×T):=[(3,.own (eOs 1 false (eI .i64) r_)),(4,.own (eOs 1 false (eI .i64) ai)),(5,.own (eOs 1 true eB al)),(6,.own (eOs 1 false (eI .i64) ay)),(7,.d (I s_))]
abbrev z60 (r_:List Int)(ai:List Int)(al:List Bool)(ah:List Int)(s_:Int)(k_:Int):List (Nat×T):=[(3,.own (eOs 1 false (eI .i64) r_)),(4,.own (eOs 1 false (eI .i64) ai)),(5,.own (eOs 1 true eB al)),(6,.own (eOs 1 false (eI .i64) ah)),(7,.d (I s_)),(8,.d (I k_))]
abbrev z5Z (r_:List Int)(ai:List Int)(al:List Bool)(ah:List Int)(s_:Int)(n_:Int)(fc:Int):List (Nat×T):=[(3,.own (eOs 1 false (eI .i64) r_)),(4,.own (eOs 1 false (eI .i64) ai)),(5,.own (eOs 1 true eB al)),(6,.own (eOs 1 false (eI .i64) ah)),(7,.d (I s_)),(8,.d (I fc)),(9,.d (I n_))]
abbrev z5X (r_:List Int)(ai:List Int)(al:List Bool)(ah:List Int)(s_:Int)(a9:Int)(n_:Int):List (Nat×T):=[(3,.own (eOs 1 false (eI .i64) r_)),(4,.own (eOs 1 false (eI .i64) ai)),(5,.own (eOs 1 true eB al)),(6,.own (eOs 1 false (eI .i64) ah)),(7,.d (I s_)),(8,.d (I a9)),(9,.d (I n_))]
abbrev z5Y (r_:List Int)(ai:List Int)(al:List Bool)(ah:List Int)(s_:Int):List (Nat×T):=[(3,.own (eOs 1 false (eI .i64) r_)),(4,.own (eOs 1 false (eI .i64) ai)),(5,.own (eOs 1 true eB al)),(6,.own (eOs 1 false (eI .i64) ah)),(7,.d (I s_))]
theorem z9D (hC:zx Tryz.prog ctr)(h0r:ctr.Has ZN)(h0s:ctr.Has Yt)(h0W:ctr.Has Ws):K3.Ok Tryz.prog:=by
 refine zw ?_
 rintro m_ r0 aa
 try unfold Kc at aa
 refine yO true [(2,none)] kP 52 Tryz.func68 fun E hE=>?_
 obtain⟨r_,h0,aa⟩:=zb aa
 obtain⟨ai,h1,aa⟩:=zb aa
 obtain⟨al,h2,aa⟩:=zb aa
 refine yJ X0 hC kP [1,1,1,1,1] [] [6] (fun z:List Int=>UQ z=some r0) (fun z=>z62 z) [(3,.own (eOs 1 false (eI .i64) r_)),(4,.own (eOs 1 false (eI .i64) ai)),(5,.own (eOs 1 true eB al)),(6,.own (eOs 1 true (eI .i64) []))] [Hc h0r (x:=m_) h0 (loC zD m_ <| loN),Hc h0s (x:=m_) h1 (loC zD m_ <| loN),Hc h0W (x:=(m_,0)) h2 (loC zD m_ <| loC (eI .i64) 0 <| loN),Hh (.cut 1)] ?_ fun J1 aq=>?_
 ·rintro out aa
  unfold UQ at aa
  obtain rfl:=za aa
  exact yE X0 hC hE []
 ·obtain⟨t2,ht2,aa⟩:=zb aa
  refine yLx X0 hC kP [1,1,1,1,1,2,1,0] [J1] (fun s=>UN r_ ai al s.1 s.2) (fun x=>z5Y r_ ai al x.1 x.2) (([]:List Int),0) ht2 [(3,.own (eOs 1 false (eI .i64) r_)),(4,.own (eOs 1 false (eI .i64) ai)),(5,.own (eOs 1 true eB al)),(6,.own (eOs 1 true (eI .i64) [])),(7,.d (I 0))] inferInstance [] ?_
  rintro⟨ah,s_⟩ m2 au ae hl1 J2 ax
  try unfold UN at ae
  rcases zH ae with⟨c0,ae⟩|⟨c0,ae⟩
  ·refine yJ X0 hC kP [1,1,1,1,1,2,1,0,0,1] [J1,J2] [3,4,5,6,7] (fun z:List Int=>UP s_ z=some au) (fun z=>z61 r_ ai al s_ z) [(3,.own (eOs 1 false (eI .i64) r_)),(4,.own (eOs 1 false (eI .i64) ai)),(5,.own (eOs 1 true eB al)),(6,.own (eOs 1 false (eI .i64) ah)),(7,.d (I s_))] [Ha (lnM (eI .i64) r_),Hq c0,Hh (.cut 0)] ?_ fun J3 ba=>?_
   ·rintro ay ae
    unfold UP at ae
    obtain rfl:=za ae
    exact yB X0 hC ax (ay,w64 (s_+1)) hl1 []
   ·refine yJ X0 hC kP [1,1,1,1,1,2,1,0,0,1,2,0,1] [J1,J2,J3] [3,4,5,6,7,8] (fun z:Int=>UO ah s_ z=some au) (fun z=>z60 r_ ai al ah s_ z) [(3,.own (eOs 1 false (eI .i64) r_)),(4,.own (eOs 1 false (eI .i64) ai)),(5,.own (eOs 1 true eB al)),(6,.own (eOs 1 false (eI .i64) ah)),(7,.d (I s_)),(8,.d (I (-1)))] [Hh (.cut 1)] ?_ fun J4 bv=>?_
    ·rintro k_ ae
     unfold UO at ae
     obtain⟨g0,ae⟩:=gdE ae
     exact yB X0 hC ba (ah++([k_]:List Int)) ae [Hq (dM (eI .i64) ([k_]:List Int)),Hn (dM (eI .i64) ([k_]:List Int)),Hn (aL (eI .i64) (eI .i64) g0),Hl (aM (eI .i64) ah ([k_]:List Int))]
    ·obtain⟨t5,ht5,ae⟩:=zb ae
     refine yL X0 hC kP [1,1,1,1,1,2,1,0,0,1,2,0,1,2,1,0] [J1,J2,J3,J4] (fun s=>W2 r_ ai al s_ s.1 s.2) (fun x=>z5X r_ ai al ah s_ x.1 x.2) ((-1),0) ht5  [] ?_
     rintro⟨a9,n_⟩ m5 cq aj hl2 J5 cj
     try unfold W2 at aj
     rcases zH aj with⟨c1,aj⟩|⟨c1,aj⟩
     ·refine yJ X0 hC kP [1,1,1,1,1,2,1,0,0,1,2,0,1,2,1,0,0,1] [J1,J2,J3,J4,J5] [3,4,5,6,7,8,9] (fun z:Int=>Yh n_ z=some cq) (fun z=>z5Z r_ ai al ah s_ n_ z) [(3,.own (eOs 1 false (eI .i64) r_)),(4,.own (eOs 1 false (eI .i64) ai)),(5,.own (eOs 1 true eB al)),(6,.own (eOs 1 false (eI .i64) ah)),(7,.d (I s_)),(8,.d (I a9)),(9,.d (I n_))] [Ha (lnM (eI .i64) ai),Hq c1,Hh (.cut 0)] ?_ fun J6 db=>?_
      ·rintro fc aj
       unfold Yh at aj
       obtain rfl:=za aj
       exact yB X0 hC cj (fc,w64 (n_+1)) hl2 []
      ·obtain⟨dx,h3,aj⟩:=zb aj
       let Z0:List HO:=[Hn (iL eB h3),Hs (iM eB h3)]
       rcases zH aj with⟨c2,aj⟩|⟨c2,aj⟩
       ·obtain⟨gf,h4,aj⟩:=zb aj
        obtain⟨je,h5,aj⟩:=zb aj
        obtain⟨jf,h6,aj⟩:=zb aj
        let Z1:List HO:=(Z0++(rpN 4 (Hq c2) [Hn (iL (eI .i64) h4),Hq c2,Hs (iM (eI .i64) h4),Hq c2,Hn (iL (eI .i64) h5),Hq c2,Hs (iM (eI .i64) h5),Hq c2,Hq c2,Hq c2,Hn (iL (eI .i64) h6),Hq c2,Hs (iM (eI .i64) h6),Hq c2,Hq c2]))
        rcases zH aj with⟨c3,aj⟩|⟨c3,aj⟩
        ·exact yB X0 hC db n_ aj (Z1++[Hq c3])
        ·exact yB X0 hC db a9 aj (Z1++[Hq c3])
       ·exact yB X0 hC db a9 aj (Z0++(rpN 13 (Hq c2) [qF]))
     ·obtain rfl:=za aj
      obtain rfl:=hl2
      exact yB X0 hC bv a9 ae [Ha (lnM (eI .i64) ai),Hq c1]
  ·obtain rfl:=za ae
   obtain rfl:=hl1
   exact yB X0 hC aq ah aa [Ha (lnM (eI .i64) r_),Hq c0]
def wG:Code:=(Tryz.f34.body).getD .skip
def Wr:zK:=spF (α:=z6) (ρ:=z6) 34 (fun x=>[zD x]) (fun r=>zD r) (fun x=>Yz x) [] (WL)
abbrev z15 (m_:z6)(gl:List (List z8)):List (Nat×T):=[(2,.own (.box (.agg [I 0,I 0,eOs 1 true yI []]))),(5,.own (.box (.agg [I m_.Inputs,I m_.Outputs,eOs 1 false qW gl])))]
abbrev z14 (m_:z6)(r_:List Int)(ai:List Int)(k_:Int)(fz:List (List z8)):List (Nat×T):=[(1,.own (.box (zD m_))),(2,.own (.box (.agg [I 0,I 0,eOs 1 true yI []]))),(3,.own (eOs 1 false (eI .i64) r_)),(4,.own (eOs 1 false (eI .i64) ai)),(5,.own (.box (.agg [I m_.Inputs,I m_.Outputs,eOs 1 false qW fz]))),(6,.d (I k_))]
abbrev z13 (m_:z6)(r_:List Int)(ai:List Int)(a8:List (List z8))(k_:Int)(row:List z8):List (Nat×T):=[(1,.own (.box (zD m_))),(2,.own (.box (.agg [I 0,I 0,eOs 1 true yI []]))),(3,.own (eOs 1 false (eI .i64) r_)),(4,.own (eOs 1 false (eI .i64) ai)),(5,.own (.box (.agg [I m_.Inputs,I m_.Outputs,eOs 1 false qW a8]))),(6,.d (I k_)),(7,.own (eOs 2 false F8_ row))]
abbrev z12 (m_:z6)(r_:List Int)(ai:List Int)(a8:List (List z8))(k_:Int)(ca:List z8)(i_:Int)(ak:z8)(em:Int):List (Nat×T):=[(1,.own (.box (zD m_))),(2,.own (.box (.agg [I 0,I 0,eOs 1 true yI []]))),(3,.own (eOs 1 false (eI .i64) r_)),(4,.own (eOs 1 false (eI .i64) ai)),(5,.own (.box (.agg [I m_.Inputs,I m_.Outputs,eOs 1 false qW a8]))),(6,.d (I k_)),(7,.own (eOs 2 false F8_ ca)),(8,.d (I i_)),(9,.own (.box (.agg [I em,I ak.Out])))]
abbrev z10 (m_:z6)(r_:List Int)(ai:List Int)(a8:List (List z8))(k_:Int)(ca:List z8)(i_:Int):List (Nat×T):=[(1,.own (.box (zD m_))),(2,.own (.box (.agg [I 0,I 0,eOs 1 true yI []]))),(3,.own (eOs 1 false (eI .i64) r_)),(4,.own (eOs 1 false (eI .i64) ai)),(5,.own (.box (.agg [I m_.Inputs,I m_.Outputs,eOs 1 false qW a8]))),(6,.d (I k_)),(7,.own (eOs 2 false F8_ ca)),(8,.d (I i_))]
abbrev z11 (m_:z6)(r_:List Int)(ai:List Int)(a8:List (List z8))(k_:Int):List (Nat×T):=[(1,.own (.box (zD m_))),(2,.own (.box (.agg [I 0,I 0,eOs 1 true yI []]))),(3,.own (eOs 1 false (eI .i64) r_)),(4,.own (eOs 1 false (eI .i64) ai)),(5,.own (.box (.agg [I m_.Inputs,I m_.Outputs,eOs 1 false qW a8]))),(6,.d (I k_))]
theorem z4G (hC:zx Tryz.prog ctr)(h0s:ctr.Has Yt)(h0X:ctr.Has K3):Wr.Ok Tryz.prog:=by
 refine zw ?_
 rintro m_ r0 aa
 try unfold Yz at aa
 refine yO false [(2,some 30)] wG 62 Tryz.func34 fun E hE=>?_
 obtain⟨r_,h0,aa⟩:=zb aa
 obtain⟨ai,h1,aa⟩:=zb aa
 refine yJ X0 hC wG [1,1,1,1] [] [2,5] (fun z:List (List z8)=>ZR m_ z=some r0) (fun z=>z15 m_ z) [(1,.own (.box (zD m_))),(2,.own (.box (.agg [I 0,I 0,eOs 1 true yI []]))),(3,.own (eOs 1 false (eI .i64) r_)),(4,.own (eOs 1 false (eI .i64) ai)),(5,.own (.box (.agg [I m_.Inputs,I m_.Outputs,eOs 1 true yI []])))] [Hc h0s (x:=m_) h0 (loC zD m_ <| loN),Hc h0X (x:=m_) h1 (loC zD m_ <| loN),Hh (.cut 1)] ?_ fun J1 aq=>?_
 ·rintro gl aa
  unfold ZR at aa
  obtain rfl:=za aa
  exact yE X0 hC hE [Hm (shM qW yI gl)]
 ·obtain⟨t2,ht2,aa⟩:=zb aa
  refine yLx X0 hC wG [1,1,1,1,2,1,0] [J1] (fun s=>qC m_ r_ ai s.1 s.2) (fun x=>z11 m_ r_ ai x.1 x.2) (([]:List (List z8)),0) ht2 [(1,.own (.box (zD m_))),(2,.own (.box (.agg [I 0,I 0,eOs 1 true yI []]))),(3,.own (eOs 1 false (eI .i64) r_)),(4,.own (eOs 1 false (eI .i64) ai)),(5,.own (.box (.agg [I m_.Inputs,I m_.Outputs,eOs 1 true qW []]))),(6,.d (I 0))] inferInstance [] ?_
  rintro⟨a8,k_⟩ m2 au ae hl1 J2 ax
  try unfold qC at ae
  rcases zH ae with⟨c0,ae⟩|⟨c0,ae⟩
  ·refine yJ X0 hC wG [1,1,1,1,2,1,0,0,1] [J1,J2] [1,2,3,4,5,6] (fun z:List (List z8)=>ZQ k_ z=some au) (fun z=>z14 m_ r_ ai k_ z) [(1,.own (.box (zD m_))),(2,.own (.box (.agg [I 0,I 0,eOs 1 true yI []]))),(3,.own (eOs 1 false (eI .i64) r_)),(4,.own (eOs 1 false (eI .i64) ai)),(5,.own (.box (.agg [I m_.Inputs,I m_.Outputs,eOs 1 false qW a8]))),(6,.d (I k_))] [Ha (lnM (eI .i64) r_),Hq c0,Hh (.cut 0)] ?_ fun J3 ba=>?_
   ·rintro fz ae
    unfold ZQ at ae
    obtain rfl:=za ae
    exact yB X0 hC ax (fz,w64 (k_+1)) hl1 []
   ·refine yJ X0 hC wG [1,1,1,1,2,1,0,0,1,2,0,1] [J1,J2,J3] [1,2,3,4,5,6,7] (fun z:List z8=>ZP a8 k_ z=some au) (fun z=>z13 m_ r_ ai a8 k_ z) [(1,.own (.box (zD m_))),(2,.own (.box (.agg [I 0,I 0,eOs 1 true yI []]))),(3,.own (eOs 1 false (eI .i64) r_)),(4,.own (eOs 1 false (eI .i64) ai)),(5,.own (.box (.agg [I m_.Inputs,I m_.Outputs,eOs 1 false qW a8]))),(6,.d (I k_)),(7,.own (eOs 2 true F8_ []))] [Hh (.cut 1)] ?_ fun J4 bv=>?_
    ·rintro row ae
     unfold ZP at ae
     obtain⟨g0,ae⟩:=gdE ae
     exact yB X0 hC ba (a8++([row]:List (List z8))) ae [Hq (oC qW row []),Hn (aL qW qW g0),Hl (aM qW a8 ([row]:List (List z8)))]
    ·obtain⟨t5,ht5,ae⟩:=zb ae
     refine yLx X0 hC wG [1,1,1,1,2,1,0,0,1,2,0,1,2,1,0] [J1,J2,J3,J4] (fun s=>qB m_ r_ ai k_ s.1 s.2) (fun x=>z10 m_ r_ ai a8 k_ x.1 x.2) (([]:List z8),0) ht5 [(1,.own (.box (zD m_))),(2,.own (.box (.agg [I 0,I 0,eOs 1 true yI []]))),(3,.own (eOs 1 false (eI .i64) r_)),(4,.own (eOs 1 false (eI .i64) ai)),(5,.own (.box (.agg [I m_.Inputs,I m_.Outputs,eOs 1 false qW a8]))),(6,.d (I k_)),(7,.own (eOs 2 true F8_ [])),(8,.d (I 0))] inferInstance [] ?_
     rintro⟨ca,i_⟩ m5 cq aj hl2 J5 cj
     try unfold qB at aj
     rcases zH aj with⟨c1,aj⟩|⟨c1,aj⟩
     ·obtain⟨dx,h2,aj⟩:=zb aj
      obtain⟨ap,h3,aj⟩:=zb aj
      obtain⟨ak,h4,aj⟩:=zb aj
      refine yJ X0 hC wG [1,1,1,1,2,1,0,0,1,2,0,1,2,1,0,0,1,0,0,1] [J1,J2,J3,J4,J5] [1,2,3,4,5,6,7,8,9] (fun z:Int=>vB ca i_ ak z=some cq) (fun z=>z12 m_ r_ ai a8 k_ ca i_ ak z) [(1,.own (.box (zD m_))),(2,.own (.box (.agg [I 0,I 0,eOs 1 true yI []]))),(3,.own (eOs 1 false (eI .i64) r_)),(4,.own (eOs 1 false (eI .i64) ai)),(5,.own (.box (.agg [I m_.Inputs,I m_.Outputs,eOs 1 false qW a8]))),(6,.d (I k_)),(7,.own (eOs 2 false F8_ ca)),(8,.d (I i_)),(9,.own (.box (F8_ ak)))] [Hq c1,Hn (iL (eI .i64) h2),Hs (iM (eI .i64) h2),Hi yI h3,Hi F8_ h4,Hh (.cut 0)] ?_ fun J6 db=>?_
      ·rintro em aj
       unfold vB at aj
       obtain⟨g1,aj⟩:=gdE aj
       obtain rfl:=za aj
       exact yB X0 hC cj ((ca++([(z8.mk em ak.Out)]:List z8)),w64 (i_+1)) hl2 [Hq (dM F8_ ([(z8.mk em ak.Out)]:List z8)),Hn (dM F8_ ([(z8.mk em ak.Out)]:List z8)),Hn (aL F8_ F8_ g1),Hl (aM F8_ ca ([(z8.mk em ak.Out)]:List z8))]
      ·rcases zH aj with⟨c2,aj⟩|⟨c2,aj⟩
       ·obtain⟨gf,h5,aj⟩:=zb aj
        exact yB X0 hC db gf aj [Hq c2,Hn (iL (eI .i64) h5),Hs (iM (eI .i64) h5)]
       ·exact yB X0 hC db ak.To aj [Hq c2]
     ·obtain rfl:=za aj
      obtain rfl:=hl2
      exact yB X0 hC bv ca ae [Hq c1]
  ·obtain rfl:=za ae
   obtain rfl:=hl1
   exact yB X0 hC aq a8 aa [Ha (lnM (eI .i64) r_),Hq c0]
def z85:Code:=(Tryz.f9.body).getD .skip
def QQ:zK:=spF (α:=vT) (ρ:=z6) 9 (fun x=>[(ZH KK) x]) (fun r=>zD r) (fun x=>Qv x) [] (WL)
theorem z8r (hC:zx Tryz.prog ctr)(h0Y:ctr.Has QR)(h0Z:ctr.Has Wr):QQ.Ok Tryz.prog:=by
 refine zw ?_
 rintro x_ r0 aa
 try unfold Qv at aa
 refine yO false [(2,some 30)] z85 13 Tryz.func9 fun E hE=>?_
 obtain⟨g0,aa⟩:=gdE aa
 obtain⟨r_,h0,aa⟩:=zb aa
 obtain⟨ai,h1,aa⟩:=zb aa
 obtain rfl:=za aa
 exact yE X0 hC hE [Hn g0,Hc h0Y (x:=(zC.mk (Int.tmod x_.C.States 5) x_.C.Inputs x_.C.Outputs x_.C.Tree x_.C.Edges)) h0 (loC KK (zC.mk (Int.tmod x_.C.States 5) x_.C.Inputs x_.C.Outputs x_.C.Tree x_.C.Edges) <| loN),Hc h0Z (x:=r_) h1 (loC zD r_ <| loN)]
def z0R:Code:=(Tryz.f83.body).getD .skip
def Y8:zK:=spF (α:=yU) (ρ:=Int) 83 (fun x=>[z9y x]) (fun r=>(eI .i64) r) (fun x=>wB x) [] (WL)
theorem z1t (hC:zx Tryz.prog ctr):Y8.Ok Tryz.prog:=by
 refine zw ?_
 rintro x_ r0 aa
 try unfold wB at aa
 refine yO true [(2,none)] z0R 8 Tryz.func83 fun E hE=>?_
 obtain⟨g0,aa⟩:=gdE aa
 obtain rfl:=za aa
 exact yE X0 hC hE [Hn g0]
def qU:Code:=(Tryz.f54.body).getD .skip
def Qb:zK:=spF (α:=yU) (ρ:=List (List Int)) 54 (fun x=>[z9y x]) (fun r=>(eOs 1 false F5_) r) (fun x=>VO x) [] (WL)
abbrev z3r (out:List (List Int)):List (Nat×T):=[(3,.own (eOs 1 false F5_ out))]
abbrev z3q (x_:yU)(i_:Int)(ay:List (List Int)):List (Nat×T):=[(1,.own (.box (z9y x_))),(3,.own (eOs 1 false F5_ ay)),(4,.d (I i_)),(13,.d (I i_)),(14,.d (B (decide (i_<40))))]
abbrev z3p (x_:yU)(ah:List (List Int))(i_:Int)(w_:List Int):List (Nat×T):=[(1,.own (.box (z9y x_))),(3,.own (eOs 1 false F5_ ah)),(4,.d (I i_)),(5,.own (eOs 1 false (eI .i64) w_)),(13,.d (I i_)),(14,.d (B (decide (i_<40))))]
abbrev z3n (x_:yU)(ah:List (List Int))(i_:Int)(d6:List Int)(k_:Int):List (Nat×T):=[(1,.own (.box (z9y x_))),(3,.own (eOs 1 false F5_ ah)),(4,.d (I i_)),(5,.own (eOs 1 false (eI .i64) d6)),(6,.d (I k_)),(13,.d (I i_)),(14,.d (B (decide (i_<40))))]
abbrev z3o (x_:yU)(ah:List (List Int))(i_:Int):List (Nat×T):=[(1,.own (.box (z9y x_))),(3,.own (eOs 1 false F5_ ah)),(4,.d (I i_))]
theorem z7o (hC:zx Tryz.prog ctr)(h1a:ctr.Has Y8):Qb.Ok Tryz.prog:=by
 refine zw ?_
 rintro x_ r0 aa
 try unfold VO at aa
 refine yO true [(2,none)] qU 53 Tryz.func54 fun E hE=>?_
 refine yJ X0 hC qU [1,1] [] [3] (fun z:List (List Int)=>Qh z=some r0) (fun z=>z3r z) [(1,.own (.box (z9y x_))),(3,.own (eOs 1 true F6_ []))] [Hh (.cut 2)] ?_ fun J1 aq=>?_
 ·rintro out aa
  unfold Qh at aa
  obtain rfl:=za aa
  exact yE X0 hC hE []
 ·obtain⟨t2,ht2,aa⟩:=zb aa
  refine yLx X0 hC qU [1,1,2,1,0] [J1] (fun s=>ZF x_ s.1 s.2) (fun x=>z3o x_ x.1 x.2) (([]:List (List Int)),0) ht2 [(1,.own (.box (z9y x_))),(3,.own (eOs 1 true F5_ [])),(4,.d (I 0))] inferInstance [] ?_
  rintro⟨ah,i_⟩ m2 au ae hl1 J2 ax
  try unfold ZF at ae
  let Z0:List HO:=[Ha (lnM F1_ x_.Words)]
  rcases zH ae with⟨c0,ae⟩|⟨c0,ae⟩
  ·rcases zH ae with⟨c1,ae⟩|⟨c1,ae⟩
   ·refine yJ X0 hC qU [1,1,2,1,0,0,1] [J1,J2] [1,3,4,13,14] (fun z:List (List Int)=>XT i_ z=some au) (fun z=>z3q x_ i_ z) [(1,.own (.box (z9y x_))),(3,.own (eOs 1 false F5_ ah)),(4,.d (I i_)),(13,.d (I i_)),(14,.d (B (decide (i_<40))))] (Z0++[Hq c0,Hq c0,Hq c0,Hq c1,Hh (.cut 0)]) ?_ fun J3 ba=>?_
    ·rintro ay ae
     unfold XT at ae
     obtain rfl:=za ae
     exact yB X0 hC ax (ay,w64 (i_+1)) hl1 []
    ·refine yJ X0 hC qU [1,1,2,1,0,0,1,2,0,1] [J1,J2,J3] [1,3,4,5,13,14] (fun z:List Int=>XS ah i_ z=some au) (fun z=>z3p x_ ah i_ z) [(1,.own (.box (z9y x_))),(3,.own (eOs 1 false F5_ ah)),(4,.d (I i_)),(5,.own (eOs 1 true (eI .i64) [])),(13,.d (I i_)),(14,.d (B (decide (i_<40))))] [Hh (.cut 1)] ?_ fun J4 bv=>?_
     ·rintro w_ ae
      unfold XS at ae
      obtain⟨g0,ae⟩:=gdE ae
      exact yB X0 hC ba (ah++([w_]:List (List Int))) ae [Hq (oC F5_ w_ []),Hn (aL F5_ F5_ g0),Hl (aM F5_ ah ([w_]:List (List Int)))]
     ·obtain⟨t5,ht5,ae⟩:=zb ae
      refine yLx X0 hC qU [1,1,2,1,0,0,1,2,0,1,2,1,0] [J1,J2,J3,J4] (fun s=>qO x_ i_ s.1 s.2) (fun x=>z3n x_ ah i_ x.1 x.2) (([]:List Int),0) ht5 [(1,.own (.box (z9y x_))),(3,.own (eOs 1 false F5_ ah)),(4,.d (I i_)),(5,.own (eOs 1 true (eI .i64) [])),(6,.d (I 0)),(13,.d (I i_)),(14,.d (B (decide (i_<40))))] inferInstance [] ?_
      rintro⟨d6,k_⟩ m5 cq aj hl2 J5 cj
      try unfold qO at aj
      obtain⟨j9,h0,aj⟩:=zb aj
      let Z1:List HO:=[Hi F1_ h0,Ha (lnM (eI .u8) j9)]
      rcases zH aj with⟨c2,aj⟩|⟨c2,aj⟩
      ·rcases zH aj with⟨c3,aj⟩|⟨c3,aj⟩
       ·obtain⟨kj,h1,aj⟩:=zb aj
        obtain⟨ep,h2,aj⟩:=zb aj
        obtain⟨r_,h3,aj⟩:=zb aj
        obtain⟨g1,aj⟩:=gdE aj
        obtain⟨g2,aj⟩:=gdE aj
        obtain rfl:=za aj
        exact yB X0 hC cj ((d6++([Int.tmod (w64 (ep)) r_]:List Int)),w64 (k_+1)) hl2 (Z1++[Hq c2,Hq c2,Hq c2,Hq c3,Hi F1_ h1,Hi (eI .u8) h2,Hc h1a (x:=x_) h3 (loC z9y x_ <| loN),Hn g1,Hq (dM (eI .i64) ([Int.tmod (w64 (ep)) r_]:List Int)),Hn (dM (eI .i64) ([Int.tmod (w64 (ep)) r_]:List Int)),Hn (aL (eI .i64) (eI .i64) g2),Hl (aM (eI .i64) d6 ([Int.tmod (w64 (ep)) r_]:List Int))])
       ·obtain rfl:=za aj
        obtain rfl:=hl2
        exact yB X0 hC bv d6 ae (Z1++[Hq c2,Hq c2,Hq c2,Hq c3])
      ·obtain rfl:=za aj
       obtain rfl:=hl2
       exact yB X0 hC bv d6 ae (Z1++[Hq c2,Hq c2,Hq c2,qF])
   ·obtain rfl:=za ae
    obtain rfl:=hl1
    exact yB X0 hC aq ah aa (Z0++[Hq c0,Hq c0,Hq c0,Hq c1])
  ·obtain rfl:=za ae
   obtain rfl:=hl1
   exact yB X0 hC aq ah aa (Z0++[Hq c0,Hq c0,Hq c0,qF])
def WI:Code:=(Tryz.f65.body).getD .skip
def ZM:zK:=spF (α:=List Int×List Int) (ρ:=Int) 65 (fun x=>[F6_ x.1,F6_ x.2]) (fun r=>(eI .i64) r) (fun x=>uX x.1 x.2) [] (Qm)
abbrev z0Z:List (Nat×T):=[]
abbrev z0Y (a_:List Int)(b_:List Int)(i_:Int):List (Nat×T):=[(0,.d (eSl 1 false (eI .i64) a_)),(1,.d (eSl 1 false (eI .i64) b_)),(5,.d (I i_))]
theorem z4F (hC:zx Tryz.prog ctr):ZM.Ok Tryz.prog:=by
 refine zw ?_
 rintro⟨a_,b_⟩ r0 aa
 try unfold uX at aa
 refine yO true [(4,none)] WI 40 Tryz.func65 fun E hE=>?_
 let Z0:List HO:=[Ha (lnM (eI .i64) a_),Ha (lnM (eI .i64) b_)]
 rcases zH aa with⟨c0,aa⟩|⟨c0,aa⟩
 ·let Z1:List HO:=(Z0++[Hq c0,Ha (lnM (eI .i64) a_),Ha (lnM (eI .i64) b_)])
  rcases zH aa with⟨c1,aa⟩|⟨c1,aa⟩
  ·obtain rfl:=za aa
   exact yE X0 hC hE (Z1++[Hq c1])
  ·obtain rfl:=za aa
   exact yE X0 hC hE (Z1++[Hq c1])
 ·refine yJ X0 hC WI [1,1] [] [] (fun z:Unit=>Wy=some r0) (fun z=>z0Z) [(0,.d (eSl 1 false (eI .i64) a_)),(1,.d (eSl 1 false (eI .i64) b_))] (Z0++[Hq c0,Hh (.cut 0)]) ?_ fun J1 aq=>?_
  ·rintro⟨⟩ aa
   unfold Wy at aa
   obtain rfl:=za aa
   exact yE X0 hC hE []
  ·obtain⟨t2,ht2,aa⟩:=zb aa
   refine yL X0 hC WI [1,1,2,1,0] [J1] (fun s=>qA a_ b_ s) (fun x=>z0Y a_ b_ x) 0 ht2  [] ?_
   rintro i_ m2 au ae hl1 J2 ax
   try unfold qA at ae
   rcases zH ae with⟨c2,ae⟩|⟨c2,ae⟩
   ·obtain⟨gv,h0,ae⟩:=zb ae
    obtain⟨gw,h1,ae⟩:=zb ae
    let Z2:List HO:=[Ha (lnM (eI .i64) a_),Hq c2,Hi (eI .i64) h0,Hi (eI .i64) h1]
    rcases zH ae with⟨c3,ae⟩|⟨c3,ae⟩
    ·obtain rfl:=za ae
     obtain rfl:=hl1
     obtain rfl:=za aa
     exact yE X0 hC hE (Z2++[Hq c3])
    ·obtain⟨jb,h2,ae⟩:=zb ae
     obtain⟨jd,h3,ae⟩:=zb ae
     let Z3:List HO:=(Z2++[Hq c3,Hi (eI .i64) h2,Hi (eI .i64) h3])
     rcases zH ae with⟨c4,ae⟩|⟨c4,ae⟩
     ·obtain rfl:=za ae
      obtain rfl:=hl1
      obtain rfl:=za aa
      exact yE X0 hC hE (Z3++[Hq c4])
     ·obtain rfl:=za ae
      exact yB X0 hC ax (w64 (i_+1)) hl1 (Z3++[Hq c4])
   ·obtain rfl:=za ae
    obtain rfl:=hl1
    exact yB X0 hC aq () aa [Ha (lnM (eI .i64) a_),Hq c2]
def Yk:Code:=(Tryz.f42.body).getD .skip
def K2:zK:=spF (α:=List (List Int)×List Int) (ρ:=List (List Int)) 42 (fun x=>[zbU x.1,F6_ x.2]) (fun r=>zbU r) (fun x=>Kb x.1 x.2) [true,false] (Qm)
abbrev z5U (w_:List Int)(cr:Int)(d0:List (List Int)):List (Nat×T):=[(0,.own (eOs 1 false F6_ d0)),(1,.d (eSl 1 false (eI .i64) w_)),(5,.d (I cr))]
abbrev z5T (w_:List Int)(cr:Int)(ge:List (List Int))(i_:Int):List (Nat×T):=[(0,.own (eOs 1 false F6_ ge)),(1,.d (eSl 1 false (eI .i64) w_)),(5,.d (I cr)),(8,.d (I i_))]
abbrev z5V (l_:List (List Int))(w_:List Int)(cr:Int):List (Nat×T):=[(0,.own (eOs 1 false F6_ l_)),(1,.d (eSl 1 false (eI .i64) w_)),(5,.d (I cr))]
abbrev z5W (l_:List (List Int))(w_:List Int)(cr:Int):List (Nat×T):=[(0,.own (eOs 1 false F6_ l_)),(1,.d (eSl 1 false (eI .i64) w_)),(5,.d (I cr))]
abbrev z5S (l_:List (List Int))(w_:List Int)(fp:Int)(gm:Int):List (Nat×T):=[(0,.own (eOs 1 false F6_ l_)),(1,.d (eSl 1 false (eI .i64) w_)),(5,.d (I fp)),(6,.d (I gm))]
def xJ:XH Tryz.prog:=((QG zt (.inr 66) [65]).or ((QG zt (.inl 44) [43]).or X0))
theorem z9C (hC:zx Tryz.prog ctr)(h0m:ctr.Has ZM):K2.Ok Tryz.prog:=by
 refine zw ?_
 rintro⟨l_,w_⟩ r0 aa
 try unfold Kb at aa
 refine yO true [(4,none)] Yk 68 Tryz.func42 fun E hE=>?_
 refine yJ xJ hC Yk [1,1,1] [] [0,1,5] (fun z:Int=>UM l_ w_ z=some r0) (fun z=>z5W l_ w_ z) [(0,.own (eOs 1 false F6_ l_)),(1,.d (eSl 1 false (eI .i64) w_)),(5,.d (I 0)),(6,.d (I ((l_.length:Nat):Int)))] [Ha (lnM F6_ l_),Hh (.cut 0)] ?_ fun J1 aq=>?_
 ·rintro cr aa
  unfold UM at aa
  refine yJ xJ hC Yk [1,1,1,1] [] [0,1,5] (fun z:Unit=>Yf l_ w_ cr=some r0) (fun z=>z5V l_ w_ cr) [(0,.own (eOs 1 false F6_ l_)),(1,.d (eSl 1 false (eI .i64) w_)),(5,.d (I cr))] [Hh (.cut 0)] ?_ fun J2 ax=>?_
  ·rintro⟨⟩ aa
   unfold Yf at aa
   obtain⟨g0,aa⟩:=gdE aa
   refine yJ ((xNb zt 43).or xJ) hC Yk [1,1,1,1,1,1] [] [0,1,5] (fun z:List (List Int)=>UL w_ cr z=some r0) (fun z=>z5U w_ cr z) [(0,.own (eOs 1 false F6_ (l_++([[]]:List (List Int))))),(1,.d (eSl 1 false (eI .i64) w_)),(5,.d (I cr))] [Hm (shM F5_ F6_ ([[]])),Hn (dM F6_ ([[]]:List (List Int))),Hn (aL F6_ F6_ g0),Hl (aM F6_ l_ ([[]]:List (List Int))),Hh (.cut 0)] ?_ fun J3 ba=>?_
   ·rintro d0 aa
    unfold UL at aa
    obtain⟨g1,aa⟩:=gdE aa
    obtain⟨bk,h0,aa⟩:=zb aa
    obtain rfl:=za aa
    exact yE xJ hC hE [Hn (dM (eI .i64) w_),Hn (aL (eI .i64) (eI .i64) g1),Hl (aM0 (eI .i64) w_),Hn (iL F6_ h0),Hm (shM (eI .i64) (eI .i64) w_),Hs (iM F6_ h0),Hs (iM F6_ h0),Hl (sM F6_ d0 cr w_)]
   ·obtain⟨t4,ht4,aa⟩:=zb aa
    refine yL xJ hC Yk [1,1,1,1,1,1,2,1,0] [J3] (fun s=>W1 cr s.1 s.2) (fun x=>z5T w_ cr x.1 x.2) ((l_++([[]]:List (List Int))),w64 ((((l_++([[]]:List (List Int))).length:Nat):Int) - 1)) ht4  [Ha (lnM F6_ (l_++([[]]:List (List Int))))] ?_
    rintro⟨ge,i_⟩ m4 au ae hl1 J4 bv
    try unfold W1 at ae
    rcases zH ae with⟨c0,ae⟩|⟨c0,ae⟩
    ·obtain⟨ee,h1,ae⟩:=zb ae
     obtain⟨mc,h2,ae⟩:=zb ae
     obtain rfl:=za ae
     exact yB xJ hC bv ((ge.set i_.toNat ee),w64 (i_ - 1)) hl1 [Hq c0,Hn (iL F6_ h1),Hs (iM F6_ h1),Hn (iL F6_ h2),Hs (iM F6_ h2),Hs (iM F6_ h2),Hl (sM F6_ ge i_ ee)]
    ·obtain rfl:=za ae
     obtain rfl:=hl1
     exact yB xJ hC ba ge aa [Hq c0]
  ·let Z0:List HO:=[Ha (lnM F6_ l_)]
   rcases zH aa with⟨c1,aa⟩|⟨c1,aa⟩
   ·obtain⟨jv,h3,aa⟩:=zb aa
    obtain⟨r_,h4,aa⟩:=zb aa
    let Z1:List HO:=(Z0++[Hq c1,Hq c1,Hq c1,Hn (iL F6_ h3),Hq c1,Hs (iM F6_ h3),Hq c1,Hq c1,Hc h0m (x:=(jv,w_)) h4 (loC F6_ jv <| loC F6_ w_ <| loN),Hq c1,Hq c1])
    rcases zH aa with⟨c2,aa⟩|⟨c2,aa⟩
    ·obtain rfl:=za aa
     exact yE xJ hC hE (Z1++[Hq c2])
    ·exact yB xJ hC ax () aa (Z1++[Hq c2])
   ·exact yB xJ hC ax () aa (Z0++(rpN 8 (Hq c1) [qF]))
 ·obtain⟨t5,ht5,aa⟩:=zb aa
  refine yL xJ hC Yk [1,1,1,2,0] [J1] (fun s=>W0 l_ w_ s.1 s.2) (fun x=>z5S l_ w_ x.1 x.2) (0,((l_.length:Nat):Int)) ht5  [] ?_
  rintro⟨fp,gm⟩ m5 au ae hl1 J5 cj
  try unfold W0 at ae
  rcases zH ae with⟨c3,ae⟩|⟨c3,ae⟩
  ·obtain⟨g2,ae⟩:=gdE ae
   obtain⟨jw,h5,ae⟩:=zb ae
   obtain⟨ai,h6,ae⟩:=zb ae
   let Z2:List HO:=[Hq c3,Hn g2,Hn (iL F6_ h5),Hs (iM F6_ h5),Hc h0m (x:=(jw,w_)) h6 (loC F6_ jw <| loC F6_ w_ <| loN)]
   rcases zH ae with⟨c4,ae⟩|⟨c4,ae⟩
   ·obtain rfl:=za ae
    exact yB xJ hC cj (w64 ((w64 (Int.tdiv (w64 (fp+gm)) 2))+1),gm) hl1 (Z2++[Hq c4])
   ·obtain rfl:=za ae
    exact yB xJ hC cj (fp,w64 (Int.tdiv (w64 (fp+gm)) 2)) hl1 (Z2++[Hq c4])
  ·obtain rfl:=za ae
   obtain rfl:=hl1
   exact yB xJ hC aq fp aa [Hq c3]
def Ji:Code:=(Tryz.f15.body).getD .skip
def WP:zK:=spF (α:=List (List Int)) (ρ:=List (List Int)) 15 (fun x=>[yx x]) (fun r=>zbU r) (fun x=>V9 x) [] (WL)
abbrev z4a (out:List (List Int)):List (Nat×T):=[(3,.own (eOs 1 false F6_ out))]
abbrev z49 (l_:List (List Int))(ah:List (List Int))(i_:Int):List (Nat×T):=[(0,.d (eSl 1 false F6_ l_)),(3,.own (eOs 1 false F6_ ah)),(4,.d (I i_))]
theorem z8i (hC:zx Tryz.prog ctr)(h1b:ctr.Has K2):WP.Ok Tryz.prog:=by
 refine zw ?_
 rintro l_ r0 aa
 try unfold V9 at aa
 refine yO true [(2,none)] Ji 18 Tryz.func15 fun E hE=>?_
 refine yJ X0 hC Ji [1,1] [] [3] (fun z:List (List Int)=>QU z=some r0) (fun z=>z4a z) [(0,.d (eSl 1 false F6_ l_)),(3,.own (eOs 1 true F6_ []))] [Hh (.cut 2)] ?_ fun J1 aq=>?_
 ·rintro out aa
  unfold QU at aa
  obtain rfl:=za aa
  exact yE X0 hC hE []
 ·obtain⟨t2,ht2,aa⟩:=zb aa
  refine yLx X0 hC Ji [1,1,2,1,0] [J1] (fun s=>vM l_ s.1 s.2) (fun x=>z49 l_ x.1 x.2) (([]:List (List Int)),0) ht2 [(0,.d (eSl 1 false F6_ l_)),(3,.own (eOs 1 true F6_ [])),(4,.d (I 0))] inferInstance [] ?_
  rintro⟨ah,i_⟩ m2 au ae hl1 J2 ax
  try unfold vM at ae
  let Z0:List HO:=[Ha (lnM F6_ l_)]
  rcases zH ae with⟨c0,ae⟩|⟨c0,ae⟩
  ·obtain⟨bk,h0,ae⟩:=zb ae
   obtain⟨r_,h1,ae⟩:=zb ae
   obtain rfl:=za ae
   exact yB X0 hC ax (r_,w64 (i_+1)) hl1 (Z0++[Hq c0,Hi F6_ h0,Hc h1b (x:=(ah,bk)) h1 (loC zbU ah <| loC F6_ bk <| loN)])
  ·obtain rfl:=za ae
   obtain rfl:=hl1
   exact yB X0 hC aq ah aa (Z0++[Hq c0])
def z84:Code:=(Tryz.f21.body).getD .skip
def QP:zK:=spF (α:=yU) (ρ:=List (List Int)) 21 (fun x=>[z9y x]) (fun r=>zbU r) (fun x=>Qu x) [] (WL)
theorem z8q (hC:zx Tryz.prog ctr)(h1d:ctr.Has Qb)(h0f:ctr.Has WP):QP.Ok Tryz.prog:=by
 refine zw ?_
 rintro x_ r0 aa
 try unfold Qu at aa
 refine yO true [(2,none)] z84 6 Tryz.func21 fun E hE=>?_
 obtain⟨r_,h0,aa⟩:=zb aa
 obtain⟨ai,h1,aa⟩:=zb aa
 obtain rfl:=za aa
 exact yE X0 hC hE [Hc h1d (x:=x_) h0 (loC z9y x_ <| loN),Hg (z1K h0f),Hm (shM F5_ F6_ r_),Hs (z1L h0f (x:=r_) h1 (loC yx r_ <| loN)),Hm (shM F5_ F6_ r_)]
def uN:Code:=(Tryz.f20.body).getD .skip
def Vv:zK:=spF (α:=List (List Int)×Int) (ρ:=List (List Int)) 20 (fun x=>[yx x.1,(eI .i64) x.2]) (fun r=>zbU r) (fun x=>W8 x.1 x.2) [] (Qm)
abbrev z2r (out:List (List Int)):List (Nat×T):=[(5,.own (eOs 1 false F5_ out))]
abbrev z2q (l_:List (List Int))(inputs:Int)(i_:Int)(ay:List (List Int)):List (Nat×T):=[(0,.d (eSl 1 false F6_ l_)),(1,.d (I inputs)),(5,.own (eOs 1 false F5_ ay)),(6,.d (I i_))]
abbrev z2p (l_:List (List Int))(inputs:Int)(ah:List (List Int))(i_:Int)(w_:List Int):List (Nat×T):=[(0,.d (eSl 1 false F6_ l_)),(1,.d (I inputs)),(5,.own (eOs 1 false F5_ ah)),(6,.d (I i_)),(7,.own (eOs 1 false (eI .i64) w_))]
abbrev z2n (l_:List (List Int))(inputs:Int)(ah:List (List Int))(i_:Int)(d6:List Int)(k_:Int):List (Nat×T):=[(0,.d (eSl 1 false F6_ l_)),(1,.d (I inputs)),(5,.own (eOs 1 false F5_ ah)),(6,.d (I i_)),(7,.own (eOs 1 false (eI .i64) d6)),(8,.d (I k_))]
abbrev z2o (l_:List (List Int))(inputs:Int)(ah:List (List Int))(i_:Int):List (Nat×T):=[(0,.d (eSl 1 false F6_ l_)),(1,.d (I inputs)),(5,.own (eOs 1 false F5_ ah)),(6,.d (I i_))]
theorem z6l (hC:zx Tryz.prog ctr)(h0f:ctr.Has WP):Vv.Ok Tryz.prog:=by
 refine zw ?_
 rintro⟨l_,inputs⟩ r0 aa
 try unfold W8 at aa
 refine yO true [(4,none)] uN 42 Tryz.func20 fun E hE=>?_
 refine yJ X0 hC uN [1,1] [] [5] (fun z:List (List Int)=>YW z=some r0) (fun z=>z2r z) [(0,.d (eSl 1 false F6_ l_)),(1,.d (I inputs)),(5,.own (eOs 1 true F6_ []))] [Hh (.cut 2)] ?_ fun J1 aq=>?_
 ·rintro out aa
  unfold YW at aa
  obtain⟨r_,h0,aa⟩:=zb aa
  obtain rfl:=za aa
  exact yE X0 hC hE [Hg (z1K h0f),Hm (shM F5_ F6_ out),Hs (z1L h0f (x:=out) h0 (loC yx out <| loN)),Hm (shM F5_ F6_ out)]
 ·obtain⟨t2,ht2,aa⟩:=zb aa
  refine yLx X0 hC uN [1,1,2,1,0] [J1] (fun s=>uG l_ inputs s.1 s.2) (fun x=>z2o l_ inputs x.1 x.2) (([]:List (List Int)),0) ht2 [(0,.d (eSl 1 false F6_ l_)),(1,.d (I inputs)),(5,.own (eOs 1 true F5_ [])),(6,.d (I 0))] inferInstance [] ?_
  rintro⟨ah,i_⟩ m2 au ae hl1 J2 ax
  try unfold uG at ae
  let Z0:List HO:=[Ha (lnM F6_ l_)]
  rcases zH ae with⟨c0,ae⟩|⟨c0,ae⟩
  ·refine yJ X0 hC uN [1,1,2,1,0,0,1] [J1,J2] [0,1,5,6] (fun z:List (List Int)=>YV i_ z=some au) (fun z=>z2q l_ inputs i_ z) [(0,.d (eSl 1 false F6_ l_)),(1,.d (I inputs)),(5,.own (eOs 1 false F5_ ah)),(6,.d (I i_))] (Z0++[Hq c0,Hh (.cut 0)]) ?_ fun J3 ba=>?_
   ·rintro ay ae
    unfold YV at ae
    obtain rfl:=za ae
    exact yB X0 hC ax (ay,w64 (i_+1)) hl1 []
   ·refine yJ X0 hC uN [1,1,2,1,0,0,1,2,0,1] [J1,J2,J3] [0,1,5,6,7] (fun z:List Int=>YU ah i_ z=some au) (fun z=>z2p l_ inputs ah i_ z) [(0,.d (eSl 1 false F6_ l_)),(1,.d (I inputs)),(5,.own (eOs 1 false F5_ ah)),(6,.d (I i_)),(7,.own (eOs 1 true (eI .i64) []))] [Hh (.cut 1)] ?_ fun J4 bv=>?_
    ·rintro w_ ae
     unfold YU at ae
     obtain⟨g0,ae⟩:=gdE ae
     exact yB X0 hC ba (ah++([w_]:List (List Int))) ae [Hq (oC F5_ w_ []),Hn (aL F5_ F5_ g0),Hl (aM F5_ ah ([w_]:List (List Int)))]
    ·obtain⟨t5,ht5,ae⟩:=zb ae
     refine yLx X0 hC uN [1,1,2,1,0,0,1,2,0,1,2,1,0] [J1,J2,J3,J4] (fun s=>uF l_ inputs i_ s.1 s.2) (fun x=>z2n l_ inputs ah i_ x.1 x.2) (([]:List Int),0) ht5 [(0,.d (eSl 1 false F6_ l_)),(1,.d (I inputs)),(5,.own (eOs 1 false F5_ ah)),(6,.d (I i_)),(7,.own (eOs 1 true (eI .i64) [])),(8,.d (I 0))] inferInstance [] ?_
     rintro⟨d6,k_⟩ m5 cq aj hl2 J5 cj
     try unfold uF at aj
     obtain⟨bk,h1,aj⟩:=zb aj
     let Z1:List HO:=[Hi F6_ h1,Ha (lnM (eI .i64) bk)]
     rcases zH aj with⟨c1,aj⟩|⟨c1,aj⟩
     ·obtain⟨ee,h2,aj⟩:=zb aj
      obtain⟨gn,h3,aj⟩:=zb aj
      obtain⟨g1,aj⟩:=gdE aj
      obtain⟨g2,aj⟩:=gdE aj
      obtain rfl:=za aj
      exact yB X0 hC cj ((d6++([Int.tmod gn inputs]:List Int)),w64 (k_+1)) hl2 (Z1++[Hq c1,Hi F6_ h2,Hi (eI .i64) h3,Hn g1,Hq (dM (eI .i64) ([Int.tmod gn inputs]:List Int)),Hn (dM (eI .i64) ([Int.tmod gn inputs]:List Int)),Hn (aL (eI .i64) (eI .i64) g2),Hl (aM (eI .i64) d6 ([Int.tmod gn inputs]:List Int))])
     ·obtain rfl:=za aj
      obtain rfl:=hl2
      exact yB X0 hC bv d6 ae (Z1++[Hq c1])
  ·obtain rfl:=za ae
   obtain rfl:=hl1
   exact yB X0 hC aq ah aa (Z0++[Hq c0])
def z43:Code:=(Tryz.f125.body).getD .skip
def qu:zK:=spF (α:=Unit) (ρ:=z8) 125 (fun x=>[]) (fun r=>F8_ r) (fun x=>vQ) [] (fun _ _ _=>rfl)
theorem z4K (hC:zx Tryz.prog ctr):qu.Ok Tryz.prog:=by
 refine zw ?_
 rintro⟨⟩ r0 aa
 try unfold vQ at aa
 refine yO false [(0,some 67)] z43 2 Tryz.func125 fun E hE=>?_
 obtain rfl:=za aa
 exact yE X0 hC hE []
def z44:Code:=(Tryz.f94.body).getD .skip
def Wu:zK:=spF (α:=z6×z8) (ρ:=Bool) 94 (fun x=>[zD x.1,F8_ x.2]) (fun r=>eB r) (fun x=>YT x.1 x.2) [] (Qm)
theorem z4L (hC:zx Tryz.prog ctr)(h0g:ctr.Has qu):Wu.Ok Tryz.prog:=by
 refine zw ?_
 rintro⟨m_,x_⟩ r0 aa
 try unfold YT at aa
 refine yO true [(4,none)] z44 33 Tryz.func94 fun E hE=>?_
 obtain⟨r_,h0,aa⟩:=zb aa
 let Z0:List HO:=[Hc h0g (x:=()) h0 (loN)]
 rcases zH aa with⟨c0,aa⟩|⟨c0,aa⟩
 ·obtain rfl:=za aa
  exact yE X0 hC hE (Z0++(rpN 10 (Hq c0) []))
 ·let Z1:List HO:=(Z0++(rpN 4 (Hq c0) []))
  rcases zH aa with⟨c1,aa⟩|⟨c1,aa⟩
  ·let Z2:List HO:=(Z1++(rpN 5 (Hq c1) [Ha (lnM yI m_.Rows),Hq c1,Hq c0,Hq c1,Hq c0]))
   rcases zH aa with⟨c2,aa⟩|⟨c2,aa⟩
   ·let Z3:List HO:=(Z2++[Hq c2,Hq c2,Hq c2,Hq c0,Hq c2,Hq c0])
    rcases zH aa with⟨c3,aa⟩|⟨c3,aa⟩
    ·obtain rfl:=za aa
     exact yE X0 hC hE (Z3++(rpN 5 (Hq c3) [Hq c0,Hq c3,Hq c0]))
    ·obtain rfl:=za aa
     exact yE X0 hC hE (Z3++(rpN 5 (Hq c3) [Hq c0,Hq c3,Hq c0]))
   ·obtain rfl:=za aa
    exact yE X0 hC hE (Z2++(Hq c2::Hq c2::Hq c2::Hq c0::Hq c2::Hq c0::(rpN 5 qF [Hq c0,qF,Hq c0])))
  ·obtain rfl:=za aa
   exact yE X0 hC hE (Z1++(rpN 6 (Hq c1) (Hq c0::Hq c1::Hq c0::qF::qF::qF::Hq c0::qF::Hq c0::(rpN 5 qF [Hq c0,qF,Hq c0]))))
def z0Q:Code:=(Tryz.f93.body).getD .skip
def Y7:zK:=spF (α:=z8×z6) (ρ:=Bool) 93 (fun x=>[F8_ x.1,z2x x.2]) (fun r=>eB r) (fun x=>ZX x.1 x.2) [] (Qm)
theorem z1s (hC:zx Tryz.prog ctr)(h1e:ctr.Has Wu):Y7.Ok Tryz.prog:=by
 refine zw ?_
 rintro⟨x_,x1⟩ r0 aa
 try unfold ZX at aa
 refine yO true [(3,none)] z0Q 8 Tryz.func93 fun E hE=>?_
 obtain⟨r_,h0,aa⟩:=zb aa
 obtain rfl:=za aa
 exact yE X0 hC hE [Hc h1e (x:=(x1,x_)) h0 (loC zD x1 <| loC F8_ x_ <| loN)]
def yX:Code:=(Tryz.f124.body).getD .skip
def yV:zK:=spF (α:=List z8×z6) (ρ:=Int) 124 (fun x=>[yI x.1,(z07 93 z2x) x.2]) (fun r=>(eI .i64) r) (fun x=>yl x.1 x.2) [] (by
 rintro⟨a0,a1⟩ ⟨b0,b1⟩ h
 have e0:=Zw.inj (f:=yI) _ _ (List.cons.inj h).1
 replace h:=(List.cons.inj h).2
 have e1:=Zw.inj (f:=(z07 93 z2x)) _ _ (List.cons.inj h).1
 subst e0 e1
 rfl)
abbrev jP:List (Nat×T):=[]
abbrev jO (s_:List z8)(f_:z6)(x8:Int):List (Nat×T):=[(0,.d (eSl 2 false F8_ s_)),(1,.d (.fn 93 [.sptr (.agg [I f_.Inputs,I f_.Outputs,eSl 1 false yI f_.Rows])])),(7,.d (I ((s_.length:Nat):Int))),(8,.d (I x8))]
theorem Zy (hC:zx Tryz.prog ctr)(h1f:ctr.Has Y7):yV.Ok Tryz.prog:=by
 refine zw ?_
 rintro⟨s_,f_⟩ r0 aa
 try unfold yl at aa
 refine yO true [(4,none)] yX 19 Tryz.func124 fun E hE=>?_
 refine yJ X0 hC yX [1] [] [] (fun z:Unit=>yW=some r0) (fun z=>jP) [(0,.d (eSl 2 false F8_ s_)),(1,.d (.fn 93 [.sptr (.agg [I f_.Inputs,I f_.Outputs,eSl 1 false yI f_.Rows])]))] [Hh (.cut 1)] ?_ fun J1 aq=>?_
 ·rintro⟨⟩ aa
  unfold yW at aa
  obtain rfl:=za aa
  exact yE X0 hC hE []
 ·obtain⟨t2,ht2,aa⟩:=zb aa
  refine yL X0 hC yX [1,2,1,0] [J1] (fun s=>zP s_ f_ s) (fun x=>jO s_ f_ x) 0 ht2  [Ha (lnM F8_ s_)] ?_
  rintro x8 m2 au ae hl1 J2 ax
  try unfold zP at ae
  rcases zH ae with⟨c0,ae⟩|⟨c0,ae⟩
  ·obtain⟨ct,h0,ae⟩:=zb ae
   obtain⟨r_,h1,ae⟩:=zb ae
   let Z0:List HO:=[Hq c0,Hi F8_ h0,Hc h1f (x:=(ct,f_)) h1 (loC F8_ ct <| loC z2x f_ <| loN)]
   rcases zH ae with⟨c1,ae⟩|⟨c1,ae⟩
   ·obtain rfl:=za ae
    obtain rfl:=hl1
    obtain rfl:=za aa
    exact yE X0 hC hE (Z0++[Hq c1])
   ·obtain rfl:=za ae
    exact yB X0 hC ax (w64 (x8+1)) hl1 (Z0++[Hq c1])
  ·obtain rfl:=za ae
   obtain rfl:=hl1
   exact yB X0 hC aq () aa [Hq c0]
def jN:Code:=(Tryz.f92.body).getD .skip
def yq:zK:=spF (α:=List z8×z6) (ρ:=Bool) 92 (fun x=>[yI x.1,(z07 93 z2x) x.2]) (fun r=>eB r) (fun x=>zZ x.1 x.2) [] (by
 rintro⟨a0,a1⟩ ⟨b0,b1⟩ h
 have e0:=Zw.inj (f:=yI) _ _ (List.cons.inj h).1
 replace h:=(List.cons.inj h).2
 have e1:=Zw.inj (f:=(z07 93 z2x)) _ _ (List.cons.inj h).1
 subst e0 e1
 rfl)
theorem jR (hC:zx Tryz.prog ctr)(h1g:ctr.Has yV):yq.Ok Tryz.prog:=by
 refine zw ?_
 rintro⟨s_,f_⟩ r0 aa
 try unfold zZ at aa
 refine yO true [(4,none)] jN 9 Tryz.func92 fun E hE=>?_
 obtain⟨r_,h0,aa⟩:=zb aa
 obtain rfl:=za aa
 exact yE X0 hC hE [Hc h1g (x:=(s_,f_)) h0 (loC yI s_ <| loC (z07 93 z2x) f_ <| loN)]
def XB:Code:=(Tryz.f70.body).getD .skip
def xw:zK:=spF (α:=z6) (ρ:=Int) 70 (fun x=>[zD x]) (fun r=>(eI .i64) r) (fun x=>xD x) [] (WL)
abbrev z0k:List (Nat×T):=[]
abbrev z0j (m_:z6)(im:Int):List (Nat×T):=[(1,.d (.sptr (zD m_))),(34,.d (eSl 1 false yI m_.Rows)),(35,.d (I ((m_.Rows.length:Nat):Int))),(36,.d (I im))]
theorem z3Y (hC:zx Tryz.prog ctr)(h1h:ctr.Has yq):xw.Ok Tryz.prog:=by
 refine zw ?_
 rintro m_ r0 aa
 try unfold xD at aa
 refine yO true [(2,none)] XB 51 Tryz.func70 fun E hE=>?_
 rcases zH aa with⟨c0,aa⟩|⟨c0,aa⟩
 ·obtain rfl:=za aa
  exact yE X0 hC hE (rpN 4 (Hq c0) (rpN 6 qT []))
 ·let Z0:List HO:=(rpN 4 (Hq c0) [])
  rcases zH aa with⟨c1,aa⟩|⟨c1,aa⟩
  ·obtain rfl:=za aa
   exact yE X0 hC hE (Z0++(rpN 5 (Hq c1) [qT]))
  ·let Z1:List HO:=(Z0++[Hq c1,Hq c1,Hq c1,Ha (lnM yI m_.Rows),Hq c1,Hq c1])
   rcases zH aa with⟨c2,aa⟩|⟨c2,aa⟩
   ·obtain rfl:=za aa
    exact yE X0 hC hE (Z1++[Hq c2])
   ·rcases zH aa with⟨c3,aa⟩|⟨c3,aa⟩
    ·obtain rfl:=za aa
     exact yE X0 hC hE (Z1++(Hq c2::(rpN 4 (Hq c3) (rpN 6 qT []))))
    ·let Z2:List HO:=(Z1++(Hq c2::(rpN 4 (Hq c3) [])))
     rcases zH aa with⟨c4,aa⟩|⟨c4,aa⟩
     ·obtain rfl:=za aa
      exact yE X0 hC hE (Z2++(rpN 5 (Hq c4) [qT]))
     ·let Z3:List HO:=(Z2++[Hq c4,Hq c4,Hq c4,Ha (lnM yI m_.Rows),Hq c4,Hq c4])
      rcases zH aa with⟨c5,aa⟩|⟨c5,aa⟩
      ·obtain rfl:=za aa
       exact yE X0 hC hE (Z3++[Hq c5])
      ·refine yJ X0 hC XB [1,1,1] [] [] (fun z:Unit=>Xx=some r0) (fun z=>z0k) [(1,.own (.box (zD m_)))] (Z3++[Hq c5,Hh (.cut 0)]) ?_ fun J1 aq=>?_
       ·rintro⟨⟩ aa
        unfold Xx at aa
        obtain rfl:=za aa
        exact yE X0 hC hE []
       ·obtain⟨t2,ht2,aa⟩:=zb aa
        refine yL X0 hC XB [1,1,1,2,1,0] [J1] (fun s=>wW m_ s) (fun x=>z0j m_ x) 0 ht2  [Ha (lnM yI m_.Rows),Hh (.n 1 [1])] ?_
        rintro im m2 au ae hl1 J2 ax
        try unfold wW at ae
        rcases zH ae with⟨c6,ae⟩|⟨c6,ae⟩
        ·obtain⟨ap,h0,ae⟩:=zb ae
         let Z4:List HO:=[Hq c6,Hi yI h0,Ha (lnM F8_ ap)]
         rcases zH ae with⟨c7,ae⟩|⟨c7,ae⟩
         ·obtain rfl:=za ae
          obtain rfl:=hl1
          obtain rfl:=za aa
          exact yE X0 hC hE (Z4++(rpN 4 (Hq c7) [qT]))
         ·obtain⟨r_,h1,ae⟩:=zb ae
          let Z5:List HO:=(Z4++[Hq c7,Hq c7,Hq c7,Hc h1h (x:=(ap,m_)) h1 (loC yI ap <| loC (z07 93 z2x) m_ <| loN),Hq c7])
          rcases zH ae with⟨c8,ae⟩|⟨c8,ae⟩
          ·obtain rfl:=za ae
           obtain rfl:=hl1
           obtain rfl:=za aa
           exact yE X0 hC hE (Z5++[Hq c8])
          ·obtain rfl:=za ae
           exact yB X0 hC ax (w64 (im+1)) hl1 (Z5++[Hq c8])
        ·obtain rfl:=za ae
         obtain rfl:=hl1
         exact yB X0 hC aq () aa [Hq c6]
def z1T:Code:=(Tryz.f71.body).getD .skip
def Yw:zK:=spF (α:=z6) (ρ:=(Int×z6)×(Int×z6)×(Int×z6)) 71 (fun x=>[zD x]) (fun r=>(zqz (znJ (eI .i64) (z07 95 z2x)) (znJ (eI .i64) (z07 97 z2x)) (znJ (eI .i64) (z07 99 z2x))) r) (fun x=>YO x) [] (WL)
theorem z2F (hC:zx Tryz.prog ctr):Yw.Ok Tryz.prog:=by
 refine zw ?_
 rintro m_ r0 aa
 try unfold YO at aa
 refine yO false [(2,some 96)] z1T 10 Tryz.func71 fun E hE=>?_
 obtain rfl:=za aa
 exact yEx X0 hC hE [] (.agg [.agg [I 9,.fn 95 [.sptr (.agg [I m_.Inputs,I m_.Outputs,eSl 1 false yI m_.Rows])]],.agg [I 11,.fn 97 [.sptr (.agg [I m_.Inputs,I m_.Outputs,eSl 1 false yI m_.Rows])]],.agg [I 12,.fn 99 [.sptr (.agg [I m_.Inputs,I m_.Outputs,eSl 1 false yI m_.Rows])]]]) (show LeV (.agg [.agg [I 9,.fn 95 [.sptr (.agg [I m_.Inputs,I m_.Outputs,eSl 1 false yI m_.Rows])]],.agg [I 11,.fn 97 [.sptr (.agg [I m_.Inputs,I m_.Outputs,eSl 1 false yI m_.Rows])]],.agg [I 12,.fn 99 [.sptr (.agg [I m_.Inputs,I m_.Outputs,eSl 1 false yI m_.Rows])]]]) (.agg [.agg [I ((((9,m_),(11,m_),(12,m_)).1).1),.fn 95 [.sptr (.agg [I (((((9,m_),(11,m_),(12,m_)).1).2).Inputs),I (((((9,m_),(11,m_),(12,m_)).1).2).Outputs),eSl 1 false yI (((((9,m_),(11,m_),(12,m_)).1).2).Rows)])]],.agg [I ((((9,m_),(11,m_),(12,m_)).2.1).1),.fn 97 [.sptr (.agg [I (((((9,m_),(11,m_),(12,m_)).2.1).2).Inputs),I (((((9,m_),(11,m_),(12,m_)).2.1).2).Outputs),eSl 1 false yI (((((9,m_),(11,m_),(12,m_)).2.1).2).Rows)])]],.agg [I ((((9,m_),(11,m_),(12,m_)).2.2).1),.fn 99 [.sptr (.agg [I (((((9,m_),(11,m_),(12,m_)).2.2).2).Inputs),I (((((9,m_),(11,m_),(12,m_)).2.2).2).Outputs),eSl 1 false yI (((((9,m_),(11,m_),(12,m_)).2.2).2).Rows)])]]]) from inferInstance)
def z30:Code:=(Tryz.f144.body).getD .skip
def Xu:zK:=spF (α:=z6) (ρ:=z6) 144 (fun x=>[zD x]) (fun r=>(z07 166 z2x) r) (fun x=>XQ x) [] (WL)
theorem z3X (hC:zx Tryz.prog ctr):Xu.Ok Tryz.prog:=by
 refine zw ?_
 rintro m_ r0 aa
 try unfold XQ at aa
 refine yO true [(2,none)] z30 4 Tryz.func144 fun E hE=>?_
 obtain rfl:=za aa
 exact yE X0 hC hE []
def qp:Code:=(Tryz.f166.body).getD .skip
abbrev JM (x0:z6)(YY:σ->z79)(co:Int)(ga:σ):List (Nat×T):=[(0,.own (.opq (YY ga).q)),(8,.d (eSl 1 false yI x0.Rows)),(9,.d (I ((x0.Rows.length:Nat):Int))),(10,.d (I co))]
abbrev JK (x0:z6)(YY:σ->z79)(co:Int)(ap:List z8)(cx:σ)(ar:Int):List (Nat×T):=[(0,.own (.opq (YY cx).q)),(3,.d (I co)),(8,.d (eSl 1 false yI x0.Rows)),(9,.d (I ((x0.Rows.length:Nat):Int))),(10,.d (I co)),(15,.d (eSl 2 false F8_ ap)),(16,.d (I ((ap.length:Nat):Int))),(17,.d (I ar))]
abbrev JL (x0:z6)(YY:σ->z79)(ce:σ)(co:Int):List (Nat×T):=[(0,.own (.opq (YY ce).q)),(8,.d (eSl 1 false yI x0.Rows)),(9,.d (I ((x0.Rows.length:Nat):Int))),(10,.d (I co))]
theorem z1r (hC:zx Tryz.prog ctr)(x0:z6):zar Tryz.prog (.fn 166 [.sptr (.agg [I x0.Inputs,I x0.Outputs,eSl 1 false yI x0.Rows])]) (fun(x:wq Int×z8) (_:Bool) (_:Value)=>[F0_ x.1,F8_ x.2]) (@qG x0):=by
 refine z7Q (tt:=yb) (nt:=31) (body:=qp) zt Tryz.func166 rfl (by kernel_rfl) rfl rfl (by show(2:Nat)<=31;decide) ?_
 intro σ yv YY yy hy sg r0 aa E hE
 unfold qG at aa
 obtain⟨t1,ht1,aa⟩:=zb aa
 refine yL X0 hC qp [1,0] [] (fun s=>vj x0 yy s.1 s.2) (fun x=>JL x0 YY x.1 x.2) (sg,0) ht1  [Ha (lnM yI x0.Rows)] ?_
 rintro⟨ce,co⟩ m1 au ae hl1 J1 aq
 try unfold vj at ae
 rcases zH ae with⟨c0,ae⟩|⟨c0,ae⟩
 ·refine yJ X0 hC qp [1,0,0,1,1] [J1] [0,8,9,10] (fun z:σ=>qb co z=some au) (fun z=>JM x0 YY co z) [(0,.own (.opq (YY ce).q)),(8,.d (eSl 1 false yI x0.Rows)),(9,.d (I ((x0.Rows.length:Nat):Int))),(10,.d (I co))] [Hq c0,Hh (.cut 0)] ?_ fun J2 ax=>?_
  ·rintro ga ae
   unfold qb at ae
   obtain rfl:=za ae
   exact yB X0 hC aq (ga,w64 (co+1)) hl1 []
  ·obtain⟨ap,h0,ae⟩:=zb ae
   obtain⟨t3,ht3,ae⟩:=zb ae
   refine yL X0 hC qp [1,0,0,1,1,2,0,1,1,0] [J1,J2] (fun s=>xY yy co ap s.1 s.2) (fun x=>JK x0 YY co ap x.1 x.2) (ce,0) ht3  [Hi yI h0,Ha (lnM F8_ ap)] ?_
   rintro⟨cx,ar⟩ m3 cq aj hl2 J3 ba
   try unfold xY at aj
   rcases zH aj with⟨c1,aj⟩|⟨c1,aj⟩
   ·obtain⟨ak,h1,aj⟩:=zb aj
    obtain⟨yr,h2,aj⟩:=zb aj
    let Z0:List HO:=[Hq c1,Hi F8_ h1,Hn (z7t (yv:=yv) (Y:=YY) (enc:=(fun(x:wq Int×z8) (_:Bool) (_:Value)=>[F0_ x.1,F8_ x.2])) (s:=cx) (x:=((wq.mk co ar),ak)) (s':=yr.1) (b:=yr.2) (v:=.nilFunc) [F0_ (wq.mk co ar),F8_ ak] (show Jv [F0_ (wq.mk co ar),F8_ ak] [F0_ (wq.mk co ar),F8_ ak] from inferInstance))]
    rcases zH aj with⟨c2,aj⟩|⟨c2,aj⟩
    ·obtain rfl:=za aj
     obtain rfl:=hl2
     obtain rfl:=za ae
     obtain rfl:=hl1
     obtain rfl:=za aa
     exact yF ((z1m (P:=Tryz.prog) yb hy 27 (s:=cx) (x:=((wq.mk co ar),ak)) (s':=yr.1) (b:=yr.2) .nilFunc h2).or X0) hC .ret [(0,.own (.opq (YY yr.1).q))] (Z0++[Hq c2]) fun st0 h0=>hE _ st0 (.inr rfl) h0
    ·obtain rfl:=za aj
     exact yB ((z1m (P:=Tryz.prog) yb hy 27 (s:=cx) (x:=((wq.mk co ar),ak)) (s':=yr.1) (b:=yr.2) .nilFunc h2).or X0) hC ba (yr.1,w64 (ar+1)) hl2 (Z0++[Hq c2])
   ·obtain rfl:=za aj
    obtain rfl:=hl2
    exact yB X0 hC ax cx ae [Hq c1]
 ·obtain rfl:=za ae
  obtain rfl:=hl1
  obtain rfl:=za aa
  exact yF X0 hC .normal [(0,.own (.opq (YY ce).q))] [Hq c0] fun st0 h0=>hE _ st0 (.inl rfl) h0
def UB:Code:=(Tryz.f145.body).getD .skip
def vw:zK:=spF (α:=List (wq Int)) (ρ:=List (wq Int)) 145 (fun x=>[(eSl 2 false F0_) x]) (fun r=>(eSl 2 true F0_) r) (fun x=>wQ x) [] (WL)
theorem UY (hC:zx Tryz.prog ctr):vw.Ok Tryz.prog:=by
 refine zw ?_
 rintro s_ r0 aa
 try unfold wQ at aa
 refine yO true [(2,none)] UB 9 Tryz.func145 fun E hE=>?_
 obtain⟨g0,aa⟩:=gdE aa
 obtain rfl:=za aa
 exact yE X0 hC hE [Ha (lnM F0_ s_),Ha (lnM F0_ s_),Hn (slB g0),Hn (slC g0),Hn (zjY F0_ g0),Ha (zp5 2 F0_ s_ 0 ((s_.length:Nat):Int).toNat)]
def xA:Code:=(Tryz.f126.body).getD .skip
def jU:zK:=spF (α:=z6) (ρ:=List (wq Int)) 126 (fun x=>[zD x]) (fun r=>(eSl 2 true F0_) r) (fun x=>jG x) [] (WL)
abbrev QF (out:List (wq Int)):List (Nat×T):=[(3,.own (.box (eOs 2 false F0_ out)))]
abbrev uP (ai:z6)(ah:List (wq Int)):List (Nat×T):=[(3,.own (.box (eOs 2 false F0_ ah))),(7,.d (.fn 166 [.sptr (.agg [I ai.Inputs,I ai.Outputs,eSl 1 false yI ai.Rows])]))]
theorem z02 (hC:zx Tryz.prog ctr)(h1i:ctr.Has Xu)(h0g:ctr.Has qu)(h0E:ctr.Has vw):jU.Ok Tryz.prog:=by
 refine zw ?_
 rintro m_ r0 aa
 try unfold jG at aa
 refine yO true [(2,none)] xA 19 Tryz.func126 fun E hE=>?_
 refine yJ X0 hC xA [1,1] [] [3] (fun z:List (wq Int)=>vP z=some r0) (fun z=>QF z) [(1,.own (.box (zD m_))),(3,.own (.box (eOs 2 true F0_ [])))] [Hh (.cut 2)] ?_ fun J1 aq=>?_
 ·rintro out aa
  unfold vP at aa
  obtain⟨r_,h0,aa⟩:=zb aa
  obtain rfl:=za aa
  exact yE X0 hC hE [Hg (z1K h0E),Hm (shM F0_ F0_ out),Hs (z1L h0E (x:=out) h0 (loC (eSl 2 false F0_) out <| loN)),Hm (shM F0_ F0_ out)]
 ·obtain⟨ai,h1,aa⟩:=zb aa
  obtain⟨t2,ht2,aa⟩:=zb aa
  refine yAt X0 hC (sub [1,1,2,1,0] xA) (frs [1,1,2,1,0] [J1] xA []) [(3,.own (.box (eOs 2 true F0_ []))),(7,.d (.fn 166 [.sptr (.agg [I ai.Inputs,I ai.Outputs,eSl 1 false yI ai.Rows])]))] [Hc h1i (x:=m_) h1 (loC zD m_ <| loN)] fun st0 h0=>?_
  refine z0U (g:=.tmp 7) (ps:=[8,9]) (assign:=(sub [1,1,2,1,0,0] xA)) (body:=(sub [1,1,2,1,0,1] xA)) (K:=166) (caps:=[.sptr (.agg [I ai.Inputs,I ai.Outputs,eSl 1 false yI ai.Rows])]) (by kernel_rfl) [3,7] (fun s=>uP ai s) (fun z=>nomatch z) (fun z=>nomatch z) ((fun(x:wq Int×z8) (_:Bool) (_:Value)=>[F0_ x.1,F8_ x.2])) (F:=@qG ai) (fun s x=>yi s x.1 x.2) ([]:List (wq Int)) t2 _ h0 inferInstance (by kernel_rfl) (by decide) (fun _=>rfl) (by rintro⟨⟩) (by kernel_rfl) (fun _ _ _=>rfl) (z1r hC ai) ht2 ?_ ?_
  ·rintro lu ah ⟨x8,x9⟩ vr au ae
   replace ae:yi ah x8 x9=some au:=ae
   unfold yi at ae
   refine yF X0 hC .normal [(3,.own (.box (eOs 2 false F0_ ah))),(4,.own (.box (F0_ x8))),(5,.own (.box (F8_ x9))),(7,.d (.fn 166 [.sptr (.agg [I ai.Inputs,I ai.Outputs,eSl 1 false yI ai.Rows])]))] [] fun st0 h0=>⟨rfl,z87 h0 ?_⟩
   obtain⟨al,h2,ae⟩:=zb ae
   let Z0:List HO:=[Hc h0g (x:=()) h2 (loN)]
   rcases zH ae with⟨c0,ae⟩|⟨c0,ae⟩
   ·obtain⟨g0,ae⟩:=gdE ae
    obtain rfl:=za ae
    exact yF X0 hC .normal (uP ai (ah++([x8]:List (wq Int)))) (Z0++[Hq c0,Hq (dM F0_ ([x8]:List (wq Int))),Hn (dM F0_ ([x8]:List (wq Int))),Hn (aL F0_ F0_ g0),Hl (aM F0_ ah ([x8]:List (wq Int)))]) fun st0 h0=>⟨rfl,_,h0,LeL.refl _⟩
   ·obtain rfl:=za ae
    exact yF X0 hC .normal (uP ai ah) (Z0++[Hq c0]) fun st0 h0=>⟨rfl,_,h0,LeL.refl _⟩
  ·rcases t2 with ah|z
   ·dsimp only at aa
    exact Wf (by kernel_rfl) (aq _ [(3,.own (.box (eOs 2 false F0_ ah)))] ah aa (show Own.canon [3] _=ofL _ by kernel_rfl) inferInstance)
   ·cases z
def z0b:Code:=(Tryz.f96.body).getD .skip
def Zv:zK:=spF (α:=z6) (ρ:=Bool×Int) 96 (fun x=>[zD x]) (fun r=>.tup [eB r.1,(eI .i64) r.2]) (fun x=>uD x) [] (WL)
theorem z0x (hC:zx Tryz.prog ctr)(h02:ctr.Has xw)(h1j:ctr.Has jU):Zv.Ok Tryz.prog:=by
 refine zw ?_
 rintro m_ r0 aa
 try unfold uD at aa
 refine yO false [(2,none),(3,none)] z0b 14 Tryz.func96 fun E hE=>?_
 obtain⟨r_,h0,aa⟩:=zb aa
 let Z0:List HO:=[Hc h02 (x:=m_) h0 (loC zD m_ <| loN)]
 rcases zH aa with⟨c0,aa⟩|⟨c0,aa⟩
 ·obtain rfl:=za aa
  exact yE X0 hC hE (Z0++[Hq c0])
 ·obtain⟨ai,h1,aa⟩:=zb aa
  obtain rfl:=za aa
  exact yE X0 hC hE (Z0++[Hq c0,Hc h1j (x:=m_) h1 (loC zD m_ <| loN),Ha (lnM F0_ ai)])
def z0a:Code:=(Tryz.f95.body).getD .skip
def Zu:zK:=spF (α:=z6) (ρ:=Bool) 95 (fun x=>[z2x x]) (fun r=>eB r) (fun x=>Zc x) [] (WL)
theorem z0w (hC:zx Tryz.prog ctr)(h1k:ctr.Has Zv):Zu.Ok Tryz.prog:=by
 refine zw ?_
 rintro x0 r0 aa
 try unfold Zc at aa
 refine yO true [(1,none)] z0a 10 Tryz.func95 fun E hE=>?_
 obtain⟨r_,h0,aa⟩:=zb aa
 obtain rfl:=za aa
 exact yE X0 hC hE [Hc h1k (x:=x0) h0 (loC zD x0 <| loN)]
def X8:Code:=(Tryz.f127.body).getD .skip
abbrev UH (d8:Value)(gt:Value)(gu:Value)(ap:List z8)(x1:List Bool)(dr:Int)(dg:Int)(fq:List (List z8))(bg:Int):List (Nat×T):=[(1,.own (.box (eOs 1 true eB x1))),(2,.own (.box (.agg [I dr,I dg,eSl 1 false yI fq]))),(3,.own (.box (.fn 127 [.atom d8,.atom gt,.atom gu]))),(22,.d (eSl 2 false F8_ ap)),(23,.d (I ((ap.length:Nat):Int))),(24,.d (I bg))]
theorem Jy (hC:zx Tryz.prog ctr)(d8:Value)(gt:Value)(gu:Value):∀(fu:Nat) (s_:Int) (y0:List Bool) (y1:z6) (r0:List Bool×z6),yc fu s_ y0 y1=some r0->uQ Tryz.prog (.fn 127 [.atom d8,.atom gt,.atom gu]) [I s_] ([d8,gt,gu].zip [.box (eOs 1 true eB y0),.box (.agg [I y1.Inputs,I y1.Outputs,eSl 1 false yI y1.Rows]),.box (.fn 127 [.atom d8,.atom gt,.atom gu])]) (.tup []) [.box (eOs 1 true eB r0.1),.box (.agg [I r0.2.Inputs,I r0.2.Outputs,eSl 1 false yI r0.2.Rows]),.box (.fn 127 [.atom d8,.atom gt,.atom gu])]:=by
 intro fu
 induction fu with
 | zero=>intro s_ y0 y1 r0 aa;exact nomatch (show none=some r0 from aa)
 | succ fu ih=>
  intro s_ y0 y1 r0 aa
  replace aa:xR (yc fu) s_ y0 y1=some r0:=aa
  generalize yc fu=ik at ih aa
  refine zb4 (tt:=yb) (nt:=33) (body:=X8) [1,2,3] zt Tryz.func127 rfl (by kernel_rfl) rfl rfl (by show(4:Nat)<=33;decide) (by decide) rfl rfl (fun E hE=>?_) rfl
  unfold xR at aa
  rcases zH aa with⟨c0,aa⟩|⟨c0,aa⟩
  ·obtain rfl:=za aa
   exact yF X0 hC .ret [(1,.own (.box (eOs 1 true eB y0))),(2,.own (.box (.agg [I y1.Inputs,I y1.Outputs,eSl 1 false yI y1.Rows]))),(3,.own (.box (.fn 127 [.atom d8,.atom gt,.atom gu])))] (rpN 5 (Hq c0) [qT]) fun st0 h0=>hE _ st0 (.inr rfl) (z0F h0 ⟨⟨rfl,rfl⟩,⟨⟨rfl,rfl⟩,⟨⟨rfl,rfl⟩,trivial⟩⟩⟩)
  ·obtain⟨mg,h0,aa⟩:=zb aa
   let Z0:List HO:=[Hq c0,Hq c0,Hq c0,Hn (iL eB h0),Hq c0,Hs (iM eB h0),Hq c0]
   rcases zH aa with⟨c1,aa⟩|⟨c1,aa⟩
   ·obtain rfl:=za aa
    exact yF X0 hC .ret [(1,.own (.box (eOs 1 true eB y0))),(2,.own (.box (.agg [I y1.Inputs,I y1.Outputs,eSl 1 false yI y1.Rows]))),(3,.own (.box (.fn 127 [.atom d8,.atom gt,.atom gu])))] (Z0++[Hq c1]) fun st0 h0=>hE _ st0 (.inr rfl) (z0F h0 ⟨⟨rfl,rfl⟩,⟨⟨rfl,rfl⟩,⟨⟨rfl,rfl⟩,trivial⟩⟩⟩)
   ·obtain⟨mi,h1,aa⟩:=zb aa
    obtain⟨ap,h2,aa⟩:=zb aa
    obtain⟨t1,ht1,aa⟩:=zb aa
    refine yL X0 hC X8 [1,1,1,0] [] (fun s=>yM ik ap s.1 s.2.1 s.2.2.1 s.2.2.2.1 s.2.2.2.2) (fun x=>UH d8 gt gu ap x.1 x.2.1 x.2.2.1 x.2.2.2.1 x.2.2.2.2) ((y0.set s_.toNat true),y1.Inputs,y1.Outputs,y1.Rows,0) ht1  (Z0++[Hq c1,Hn (iL eB h1),Hs (iM eB h1),Hs (iM eB h1),Hl (sM eB y0 s_ true),Hi yI h2,Ha (lnM F8_ ap)]) ?_
    rintro⟨x1,dr,dg,fq,bg⟩ m1 au ae hl1 J1 aq
    try unfold yM at ae
    rcases zH ae with⟨c2,ae⟩|⟨c2,ae⟩
    ·obtain⟨ak,h3,ae⟩:=zb ae
     obtain⟨r_,h4,ae⟩:=zb ae
     obtain rfl:=za ae
     exact yB ((vV (P:=Tryz.prog) yb [1,2,3] (ih _ _ _ _ h4) 31).or X0) hC aq (r_.1,r_.2.Inputs,r_.2.Outputs,r_.2.Rows,w64 (bg+1)) hl1 [Hq c2,Hi F8_ h3,Hn (jS (f:=.fn 127 [.atom d8,.atom gt,.atom gu]) (xs:=[(eI .i64) ak.To]) (ls:=[(d8,.box (eOs 1 true eB x1)),(gt,.box (.agg [I dr,I dg,eSl 1 false yI fq])),(gu,.box (.fn 127 [.atom d8,.atom gt,.atom gu]))]) (r:=.tup []) (ys:=[.box (eOs 1 true eB r_.1),.box (.agg [I r_.2.Inputs,I r_.2.Outputs,eSl 1 false yI r_.2.Rows]),.box (.fn 127 [.atom d8,.atom gt,.atom gu])]) [(eI .i64) ak.To] (show Jv [(eI .i64) ak.To] [(eI .i64) ak.To] from inferInstance))]
    ·obtain rfl:=za ae
     obtain rfl:=hl1
     obtain rfl:=za aa
     exact yF X0 hC .normal [(1,.own (.box (eOs 1 true eB x1))),(2,.own (.box (.agg [I dr,I dg,eSl 1 false yI fq]))),(3,.own (.box (.fn 127 [.atom d8,.atom gt,.atom gu])))] [Hq c2] fun st0 h0=>hE _ st0 (.inl rfl) (z0F h0 ⟨⟨rfl,rfl⟩,⟨⟨rfl,rfl⟩,⟨⟨rfl,rfl⟩,trivial⟩⟩⟩)
def ua:Code:=(Tryz.f146.body).getD .skip
def vX:zK:=spF (α:=List Bool×Bool) (ρ:=Int) 146 (fun x=>[(eSl 1 false eB) x.1,eB x.2]) (fun r=>(eI .i64) r) (fun x=>vq x.1 x.2) [] (Qm)
abbrev V5:List (Nat×T):=[]
abbrev V4 (s_:List Bool)(v_:Bool)(x8:Int):List (Nat×T):=[(0,.d (eSl 1 false eB s_)),(1,.d (B v_)),(7,.d (I ((s_.length:Nat):Int))),(8,.d (I x8))]
theorem Qn (hC:zx Tryz.prog ctr):vX.Ok Tryz.prog:=by
 refine zw ?_
 rintro⟨s_,v_⟩ r0 aa
 try unfold vq at aa
 refine yO true [(4,none)] ua 19 Tryz.func146 fun E hE=>?_
 refine yJ X0 hC ua [1] [] [] (fun z:Unit=>vZ=some r0) (fun z=>V5) [(0,.d (eSl 1 false eB s_)),(1,.d (B v_))] [Hh (.cut 1)] ?_ fun J1 aq=>?_
 ·rintro⟨⟩ aa
  unfold vZ at aa
  obtain rfl:=za aa
  exact yE X0 hC hE []
 ·obtain⟨t2,ht2,aa⟩:=zb aa
  refine yL X0 hC ua [1,2,1,0] [J1] (fun s=>ym s_ v_ s) (fun x=>V4 s_ v_ x) 0 ht2  [Ha (lnM eB s_)] ?_
  rintro x8 m2 au ae hl1 J2 ax
  try unfold ym at ae
  rcases zH ae with⟨c0,ae⟩|⟨c0,ae⟩
  ·obtain⟨ct,h0,ae⟩:=zb ae
   rcases zH ae with⟨c1,ae⟩|⟨c1,ae⟩
   ·obtain rfl:=za ae
    obtain rfl:=hl1
    obtain rfl:=za aa
    exact yE X0 hC hE [Hq c0,Hi eB h0,Hq c1]
   ·obtain rfl:=za ae
    exact yB X0 hC ax (w64 (x8+1)) hl1 [Hq c0,Hi eB h0,Hq c1]
  ·obtain rfl:=za ae
   obtain rfl:=hl1
   exact yB X0 hC aq () aa [Hq c0]
def V1:Code:=(Tryz.f128.body).getD .skip
def wK:zK:=spF (α:=List Bool×Bool) (ρ:=Bool) 128 (fun x=>[(eSl 1 false eB) x.1,eB x.2]) (fun r=>eB r) (fun x=>xm x.1 x.2) [] (Qm)
theorem Vf (hC:zx Tryz.prog ctr)(h1l:ctr.Has vX):wK.Ok Tryz.prog:=by
 refine zw ?_
 rintro⟨s_,v_⟩ r0 aa
 try unfold xm at aa
 refine yO true [(4,none)] V1 9 Tryz.func128 fun E hE=>?_
 obtain⟨r_,h0,aa⟩:=zb aa
 obtain rfl:=za aa
 exact yE X0 hC hE [Hc h1l (x:=(s_,v_)) h0 (loC (eSl 1 false eB) s_ <| loC eB v_ <| loN)]
def We:Code:=(Tryz.f98.body).getD .skip
def jV:zK:=spF (α:=z6) (ρ:=Bool×Int) 98 (fun x=>[zD x]) (fun r=>.tup [eB r.1,(eI .i64) r.2]) (fun x=>vR x) [] (WL)
theorem z03 (hC:zx Tryz.prog ctr)(h02:ctr.Has xw)(h0F:ctr.Has wK):jV.Ok Tryz.prog:=by
 refine zw ?_
 rintro m_ r0 aa
 try unfold vR at aa
 refine yO false [(2,none),(3,none)] We 22 Tryz.func98 fun E hE=>?_
 obtain⟨r_,h0,aa⟩:=zb aa
 let Z0:List HO:=[Hc h02 (x:=m_) h0 (loC zD m_ <| loN)]
 rcases zH aa with⟨c0,aa⟩|⟨c0,aa⟩
 ·obtain rfl:=za aa
  exact yE X0 hC hE (Z0++[Hq c0])
 ·obtain⟨g0,aa⟩:=gdE aa
  refine yA X0 hC We [1,1,1,1] [] [(1,.own (.box (zD m_))),(5,.own (.box (eOs 1 true eB (List.replicate ((m_.Rows.length:Nat):Int).toNat false)))),(6,.own (.box (.atom .nilFunc)))] (Z0++[Hq c0,Ha (lnM yI m_.Rows),Hn (rL g0),Ha (rM 1 eB ((m_.Rows.length:Nat):Int) false),Hh (.cut 1)]) ?_
  refine zdT (by kernel_rfl) 5 fun lc=>?_
  refine zdT (by kernel_rfl) 1 fun ld=>?_
  refine zdT (by kernel_rfl) 6 fun lf=>?_
  obtain⟨ai,h1,aa⟩:=zb aa
  obtain⟨al,h2,aa⟩:=zb aa
  obtain rfl:=za aa
  exact yE ((vV (P:=Tryz.prog) yb [5,1,6] (Jy hC lc ld lf fuel _ _ _ _ h1) 18).or ((xMk Tryz.prog yb).or X0)) hC hE [Hn (jS (f:=.fn 127 [.atom lc,.atom ld,.atom lf]) (xs:=[(eI .i64) 0]) (ls:=[(lc,.box (eOs 1 true eB (List.replicate ((m_.Rows.length:Nat):Int).toNat false))),(ld,.box (.agg [I m_.Inputs,I m_.Outputs,eSl 1 false yI m_.Rows])),(lf,.box (.fn 127 [.atom lc,.atom ld,.atom lf]))]) (r:=.tup []) (ys:=[.box (eOs 1 true eB ai.1),.box (.agg [I ai.2.Inputs,I ai.2.Outputs,eSl 1 false yI ai.2.Rows]),.box (.fn 127 [.atom lc,.atom ld,.atom lf])]) [(eI .i64) 0] (show Jv [(eI .i64) 0] [(eI .i64) 0] from inferInstance)),Hg (z1K h0F),Hm (shM eB eB ai.1),Hs (z1L h0F (x:=(ai.1,false)) h2 (loC (eSl 1 true eB) ai.1 <| loC eB false <| loN))]
def z09:Code:=(Tryz.f97.body).getD .skip
def Zt:zK:=spF (α:=z6) (ρ:=Bool) 97 (fun x=>[z2x x]) (fun r=>eB r) (fun x=>Zb x) [] (WL)
theorem z0v (hC:zx Tryz.prog ctr)(h1m:ctr.Has jV):Zt.Ok Tryz.prog:=by
 refine zw ?_
 rintro x0 r0 aa
 try unfold Zb at aa
 refine yO true [(1,none)] z09 10 Tryz.func97 fun E hE=>?_
 obtain⟨r_,h0,aa⟩:=zb aa
 obtain rfl:=za aa
 exact yE X0 hC hE [Hc h1m (x:=x0) h0 (loC zD x0 <| loN)]
def z2Y:Code:=(Tryz.f129.body).getD .skip
def Xr:zK:=spF (α:=z6) (ρ:=z6) 129 (fun x=>[zD x]) (fun r=>(z07 147 z2x) r) (fun x=>XK x) [] (WL)
theorem z3U (hC:zx Tryz.prog ctr):Xr.Ok Tryz.prog:=by
 refine zw ?_
 rintro m_ r0 aa
 try unfold XK at aa
 refine yO true [(2,none)] z2Y 4 Tryz.func129 fun E hE=>?_
 obtain rfl:=za aa
 exact yE X0 hC hE []
def X5:Code:=(Tryz.f167.body).getD .skip
def Vp:zK:=spF (α:=z6×List Int×Int) (ρ:=yQ (wq Int)) 167 (fun x=>[zD x.1,F6_ x.2.1,(eI .i64) x.2.2]) (fun r=>F7_ r) (fun x=>kB x.1 x.2.1 x.2.2) [] (zad)
abbrev z21 (out:yQ (wq Int)):List (Nat×T):=[(6,.own (.box (.agg [.agg [I 0,I 0],.agg [I 0,I 0],.agg [I 0,I 0],.agg [I 0,I 0],.agg [I 0,I 0],.agg [I 0,I 0],.agg [I 0,I 0],.agg [I 0,I 0],.agg [I 0,I 0],.agg [I 0,I 0],.agg [I 0,I 0],.agg [I 0,I 0],.agg [I 0,I 0],.agg [I 0,I 0],.agg [I 0,I 0],.agg [I 0,I 0]]))),(7,.own (.box (F7_ out)))]
abbrev z20 (p_:List Int)(ap:List z8)(bq:Int)(ay:yQ (wq Int)):List (Nat×T):=[(1,.d (eSl 1 false (eI .i64) p_)),(6,.own (.box (.agg [.agg [I 0,I 0],.agg [I 0,I 0],.agg [I 0,I 0],.agg [I 0,I 0],.agg [I 0,I 0],.agg [I 0,I 0],.agg [I 0,I 0],.agg [I 0,I 0],.agg [I 0,I 0],.agg [I 0,I 0],.agg [I 0,I 0],.agg [I 0,I 0],.agg [I 0,I 0],.agg [I 0,I 0],.agg [I 0,I 0],.agg [I 0,I 0]]))),(7,.own (.box (F7_ ay))),(14,.d (eSl 2 false F8_ ap)),(15,.d (I ((ap.length:Nat):Int))),(16,.d (I bq))]
abbrev z1Z (p_:List Int)(ap:List z8)(ah:yQ (wq Int))(bq:Int):List (Nat×T):=[(1,.d (eSl 1 false (eI .i64) p_)),(6,.own (.box (.agg [.agg [I 0,I 0],.agg [I 0,I 0],.agg [I 0,I 0],.agg [I 0,I 0],.agg [I 0,I 0],.agg [I 0,I 0],.agg [I 0,I 0],.agg [I 0,I 0],.agg [I 0,I 0],.agg [I 0,I 0],.agg [I 0,I 0],.agg [I 0,I 0],.agg [I 0,I 0],.agg [I 0,I 0],.agg [I 0,I 0],.agg [I 0,I 0]]))),(7,.own (.box (F7_ ah))),(14,.d (eSl 2 false F8_ ap)),(15,.d (I ((ap.length:Nat):Int))),(16,.d (I bq))]
theorem z6e (hC:zx Tryz.prog ctr):Vp.Ok Tryz.prog:=by
 refine zw ?_
 rintro⟨m_,p_,s_⟩ r0 aa
 try unfold kB at aa
 refine yO false [(6,some 190)] X5 39 Tryz.func167 fun E hE=>?_
 refine yJ X0 hC X5 [1,1] [] [6,7] (fun z:yQ (wq Int)=>Yy z=some r0) (fun z=>z21 z) [(1,.d (eSl 1 false (eI .i64) p_)),(2,.d (I s_)),(3,.own (.box (zD m_))),(6,.own (.box (.agg [.agg [I 0,I 0],.agg [I 0,I 0],.agg [I 0,I 0],.agg [I 0,I 0],.agg [I 0,I 0],.agg [I 0,I 0],.agg [I 0,I 0],.agg [I 0,I 0],.agg [I 0,I 0],.agg [I 0,I 0],.agg [I 0,I 0],.agg [I 0,I 0],.agg [I 0,I 0],.agg [I 0,I 0],.agg [I 0,I 0],.agg [I 0,I 0]]))),(7,.own (.box (.agg [.agg [I 0,I 0],.agg [I 0,I 0],.agg [I 0,I 0],.agg [I 0,I 0],.agg [I 0,I 0],.agg [I 0,I 0],.agg [I 0,I 0],.agg [I 0,I 0],.agg [I 0,I 0],.agg [I 0,I 0],.agg [I 0,I 0],.agg [I 0,I 0],.agg [I 0,I 0],.agg [I 0,I 0],.agg [I 0,I 0],.agg [I 0,I 0]])))] [Hh (.cut 2)] ?_ fun J1 aq=>?_
 ·rintro out aa
  unfold Yy at aa
  obtain rfl:=za aa
  exact yE X0 hC hE []
 ·obtain⟨ap,h0,aa⟩:=zb aa
  obtain⟨t2,ht2,aa⟩:=zb aa
  refine yL X0 hC X5 [1,1,2,1,0] [J1] (fun s=>k8 p_ ap s.1 s.2) (fun x=>z1Z p_ ap x.1 x.2) ((yQ.mk (wq.mk 0 0) (wq.mk 0 0) (wq.mk 0 0) (wq.mk 0 0) (wq.mk 0 0) (wq.mk 0 0) (wq.mk 0 0) (wq.mk 0 0) (wq.mk 0 0) (wq.mk 0 0) (wq.mk 0 0) (wq.mk 0 0) (wq.mk 0 0) (wq.mk 0 0) (wq.mk 0 0) (wq.mk 0 0)),0) ht2  [Hi yI h0,Ha (lnM F8_ ap)] ?_
  rintro⟨ah,bq⟩ m2 au ae hl1 J2 ax
  try unfold k8 at ae
  rcases zH ae with⟨c0,ae⟩|⟨c0,ae⟩
  ·refine yJ X0 hC X5 [1,1,2,1,0,0,1,1] [J1,J2] [1,6,7,14,15,16] (fun z:yQ (wq Int)=>kA bq z=some au) (fun z=>z20 p_ ap bq z) [(1,.d (eSl 1 false (eI .i64) p_)),(6,.own (.box (.agg [.agg [I 0,I 0],.agg [I 0,I 0],.agg [I 0,I 0],.agg [I 0,I 0],.agg [I 0,I 0],.agg [I 0,I 0],.agg [I 0,I 0],.agg [I 0,I 0],.agg [I 0,I 0],.agg [I 0,I 0],.agg [I 0,I 0],.agg [I 0,I 0],.agg [I 0,I 0],.agg [I 0,I 0],.agg [I 0,I 0],.agg [I 0,I 0]]))),(7,.own (.box (F7_ ah))),(14,.d (eSl 2 false F8_ ap)),(15,.d (I ((ap.length:Nat):Int))),(16,.d (I bq))] [Hq c0,Hh (.cut 0)] ?_ fun J3 ba=>?_
   ·rintro ay ae
    unfold kA at ae
    obtain rfl:=za ae
    exact yB X0 hC ax (ay,w64 (bq+1)) hl1 []
   ·obtain⟨ak,h1,ae⟩:=zb ae
    obtain⟨cell,h2,ae⟩:=zb ae
    obtain⟨arr,h3,ae⟩:=zb ae
    replace h3:=za h3
    let Z0:List HO:=[Hi F8_ h1,Hn (⟨arJ (by kernel_rfl) (i0 h2),(iL F0_ h2).2⟩:Xh yb 190 ((yQ.toL ah).map F0_) bq=true/\bq.toNat<((yQ.toL ah).map F0_).length),Hh (.op 9),Hh (.f),Hs (iM F0_ h2),Hh (.f),Hs (iM F0_ h2),Hx (.l ((yQ.toL arr).map F0_)) ((yQ.setL F0_ ah bq (wq.mk ak.Out (-1))).trans (congrArg (fun q=>(yQ.toL q).map F0_) h3))]
    rcases zH ae with⟨c1,ae⟩|⟨c1,ae⟩
    ·obtain⟨bu,h4,ae⟩:=zb ae
     obtain⟨a7,h5,ae⟩:=zb ae
     obtain⟨arr1,h6,ae⟩:=zb ae
     replace h6:=za h6
     exact yB X0 hC ba arr1 ae (Z0++[Hq c1,Hi (eI .i64) h4,Hn (⟨arJ (by kernel_rfl) (i0 h5),(iL F0_ h5).2⟩:Xh yb 190 ((yQ.toL arr).map F0_) bq=true/\bq.toNat<((yQ.toL arr).map F0_).length),Hh (.op 2),Hh (.f),Hs (iM F0_ h5),Hn (⟨rfl,by decide⟩:true=true/\1<2),Hh (.op 0),Hh (.f),Hs (iM F0_ h5),Hh (.f),Hx (.a (I a7.e1)) (rfl:some (I a7.e1:A)=some (I a7.e1)),Hh (.f),Hs (iM F0_ h5),Hh (.f),Hx (.a (I a7.e1)) (rfl:some (I a7.e1:A)=some (I a7.e1)),Hx (.l [I a7.e0,I bu]) (rfl:([I a7.e0,I bu]:List A)=[I a7.e0,I bu]),Hx (.l ((yQ.toL arr1).map F0_)) ((yQ.setL F0_ arr bq (wq.mk a7.e0 bu)).trans (congrArg (fun q=>(yQ.toL q).map F0_) h6))])
    ·exact yB X0 hC ba arr ae (Z0++[Hq c1])
  ·obtain rfl:=za ae
   obtain rfl:=hl1
   exact yB X0 hC aq ah aa [Hq c0]
def jK:Code:=(Tryz.f148.body).getD .skip
def qX:zK:=spF (α:=z6×List Int) (ρ:=List Int) 148 (fun x=>[zD x.1,F6_ x.2]) (fun r=>F3_ r) (fun x=>kC x.1 x.2) [] (Qm)
abbrev Kw (out:List Int):List (Nat×T):=[(6,.own (eOs 1 true (eI .i64) out))]
abbrev Kv (m_:z6)(p_:List Int)(ah:List Int)(dl:Int)(bu:Int)(r_:yQ (wq Int))(dh:List (zz×Int)):List (Nat×T):=[(1,.d (eSl 1 false (eI .i64) p_)),(2,.own (.box (zD m_))),(5,.own (.opq (z3G (Qz z2y (eI .i64) dh)))),(6,.own (eOs 1 true (eI .i64) ah)),(7,.d (I dl)),(9,.own (.box (.agg [I bu,F7_ r_]))),(16,.d (eSl 1 false (eI .i64) p_)),(17,.d (I ((p_.length:Nat):Int))),(18,.d (I dl))]
abbrev Ku (m_:z6)(p_:List Int)(names:List (zz×Int))(ah:List Int)(dl:Int):List (Nat×T):=[(1,.d (eSl 1 false (eI .i64) p_)),(2,.own (.box (zD m_))),(5,.own (.opq (z3G (Qz z2y (eI .i64) names)))),(6,.own (eOs 1 true (eI .i64) ah)),(16,.d (eSl 1 false (eI .i64) p_)),(17,.d (I ((p_.length:Nat):Int))),(18,.d (I dl))]
theorem z2B (hC:zx Tryz.prog ctr)(h1n:ctr.Has Vp):qX.Ok Tryz.prog:=by
 refine zw ?_
 rintro⟨m_,p_⟩ r0 aa
 try unfold kC at aa
 refine yO true [(4,none)] jK 49 Tryz.func148 fun E hE=>?_
 obtain⟨g0,aa⟩:=gdE aa
 refine yJ ((zn6 Tryz.prog 12).or X0) hC jK [1,1,1] [] [6] (fun z:List Int=>jA z=some r0) (fun z=>Kw z) [(1,.d (eSl 1 false (eI .i64) p_)),(2,.own (.box (zD m_))),(5,.own (.opq (z3G (Qz z2y (eI .i64) ([]:List (zz×Int)))))),(6,.own (eOs 1 true (eI .i64) (List.replicate ((p_.length:Nat):Int).toNat (0:Int))))] [Ha (lnM (eI .i64) p_),Hn (rL g0),Ha (rM 1 (eI .i64) ((p_.length:Nat):Int) (0:Int)),Hh (.cut 0)] ?_ fun J1 aq=>?_
 ·rintro out aa
  unfold jA at aa
  obtain rfl:=za aa
  exact yE X0 hC hE []
 ·obtain⟨t2,ht2,aa⟩:=zb aa
  refine yL X0 hC jK [1,1,1,2,1,0] [J1] (fun s=>vL m_ p_ s.1 s.2.1 s.2.2) (fun x=>Ku m_ p_ x.1 x.2.1 x.2.2) (([]:List (zz×Int)),(List.replicate ((p_.length:Nat):Int).toNat (0:Int)),0) ht2  [Ha (lnM (eI .i64) p_)] ?_
  rintro⟨names,ah,dl⟩ m2 au ae hl1 J2 ax
  try unfold vL at ae
  rcases zH ae with⟨c0,ae⟩|⟨c0,ae⟩
  ·obtain⟨bu,h0,ae⟩:=zb ae
   obtain⟨r_,h1,ae⟩:=zb ae
   refine yJ X0 hC jK [1,1,1,2,1,0,0,1,1,0,0,1,1] [J1,J2] [1,2,5,6,7,9,16,17,18] (fun z:List (zz×Int)=>wv ah dl bu r_ z=some au) (fun z=>Kv m_ p_ ah dl bu r_ z) [(1,.d (eSl 1 false (eI .i64) p_)),(2,.own (.box (zD m_))),(5,.own (.opq (z3G (Qz z2y (eI .i64) names)))),(6,.own (eOs 1 true (eI .i64) ah)),(7,.d (I dl)),(9,.own (.box (.agg [I bu,F7_ r_]))),(16,.d (eSl 1 false (eI .i64) p_)),(17,.d (I ((p_.length:Nat):Int))),(18,.d (I dl))] [Hq c0,Hi (eI .i64) h0,Hc h1n (x:=(m_,p_,dl)) h1 (loC zD m_ <| loC F6_ p_ <| loC (eI .i64) dl <| loN),Hh (.cut 0)] ?_ fun J3 ba=>?_
   ·rintro dh ae
    unfold wv at ae
    obtain⟨val,h2,ae⟩:=zb ae
    replace h2:=za h2
    obtain⟨bz,h3,ae⟩:=zb ae
    obtain rfl:=za ae
    exact yB ((zgW z8Y 45 (Qz z2y (eI .i64) dh)).or X0) hC ax (dh,(ah.set dl.toNat val),w64 (dl+1)) hl1 [Hn (⟨rfl,rfl,zdA (fun _=>rfl) dh⟩:A.opq (z3G (Qz z2y (eI .i64) dh))=A.opq (z3G (Qz z2y (eI .i64) dh))/\(z5n [.i64,.i64,.i64,.i64,.i64,.i64,.i64,.i64,.i64,.i64,.i64,.i64,.i64,.i64,.i64,.i64,.i64,.i64,.i64,.i64,.i64,.i64,.i64,.i64,.i64,.i64,.i64,.i64,.i64,.i64,.i64,.i64,.i64]) (z2y (zz.mk bu r_))=true/\∀p∈Qz z2y (eI .i64) dh,(z5n [.i64,.i64,.i64,.i64,.i64,.i64,.i64,.i64,.i64,.i64,.i64,.i64,.i64,.i64,.i64,.i64,.i64,.i64,.i64,.i64,.i64,.i64,.i64,.i64,.i64,.i64,.i64,.i64,.i64,.i64,.i64,.i64,.i64]) p.1=true),Hx (.a ((eI .i64) val)) ((zqy (f:=z2y) (g:=(eI .i64)) (z0:=0) (z:=.atom (.int .i64 0)) rfl (zz.mk bu r_) dh).trans (congrArg (eI .i64) h2)),Hn (iL (eI .i64) h3),Hs (iM (eI .i64) h3),Hs (iM (eI .i64) h3),Hl (sM (eI .i64) ah dl val)]
   ·obtain⟨l9,h4,ae⟩:=zb ae
    replace h4:=za h4
    let Z0:List HO:=[Hn (⟨rfl,rfl,zdA (fun _=>rfl) names⟩:A.opq (z3G (Qz z2y (eI .i64) names))=A.opq (z3G (Qz z2y (eI .i64) names))/\(z5n [.i64,.i64,.i64,.i64,.i64,.i64,.i64,.i64,.i64,.i64,.i64,.i64,.i64,.i64,.i64,.i64,.i64,.i64,.i64,.i64,.i64,.i64,.i64,.i64,.i64,.i64,.i64,.i64,.i64,.i64,.i64,.i64,.i64]) (z2y (zz.mk bu r_))=true/\∀p∈Qz z2y (eI .i64) names,(z5n [.i64,.i64,.i64,.i64,.i64,.i64,.i64,.i64,.i64,.i64,.i64,.i64,.i64,.i64,.i64,.i64,.i64,.i64,.i64,.i64,.i64,.i64,.i64,.i64,.i64,.i64,.i64,.i64,.i64,.i64,.i64,.i64,.i64]) p.1=true),Hx (.a (.tup [I l9,B ((z3F names (zz.mk bu r_)).isSome)])) ((zqx (f:=z2y) (g:=(eI .i64)) (z0:=0) (z:=.atom (.int .i64 0)) rfl (zz.mk bu r_) names).trans (congrArg (fun x=>A.tup [(eI .i64) x,.atom (.bool (z3F names (zz.mk bu r_)).isSome)]) h4))]
    rcases zH ae with⟨c1,ae⟩|⟨c1,ae⟩
    ·exact yB ((zpT z8Y 37 (Qz z2y (eI .i64) names) (Qz z2y (eI .i64) (zbG names (zz.mk bu r_) ((names.length:Nat):Int)))).or ((zn7 z8Y 40 (Qz z2y (eI .i64) names)).or ((zgW z8Y 32 (Qz z2y (eI .i64) names)).or X0))) hC ba (zbG names (zz.mk bu r_) ((names.length:Nat):Int)) ae (Z0++[Hq c1,Hn (rfl:A.opq (z3G (Qz z2y (eI .i64) names))=A.opq (z3G (Qz z2y (eI .i64) names))),Hx (aLn names.length) (zin z2y (eI .i64) names),Hn (⟨rfl,rfl,rfl,rfl,zdA (fun _=>rfl) names⟩:T.own (.opq (z3G (Qz z2y (eI .i64) names)))=T.own (.opq (z3G (Qz z2y (eI .i64) names)))/\0=0/\(z5n [.i64,.i64,.i64,.i64,.i64,.i64,.i64,.i64,.i64,.i64,.i64,.i64,.i64,.i64,.i64,.i64,.i64,.i64,.i64,.i64,.i64,.i64,.i64,.i64,.i64,.i64,.i64,.i64,.i64,.i64,.i64,.i64,.i64]) (z2y (zz.mk bu r_))=true/\((eI .i64) ((names.length:Nat):Int)).isD=true/\∀p∈Qz z2y (eI .i64) names,(z5n [.i64,.i64,.i64,.i64,.i64,.i64,.i64,.i64,.i64,.i64,.i64,.i64,.i64,.i64,.i64,.i64,.i64,.i64,.i64,.i64,.i64,.i64,.i64,.i64,.i64,.i64,.i64,.i64,.i64,.i64,.i64,.i64,.i64]) p.1=true),Hn (zhX (f:=z2y) (g:=(eI .i64)) (zz.mk bu r_) ((names.length:Nat):Int) names)])
    ·exact yB ((zgW z8Y 32 (Qz z2y (eI .i64) names)).or X0) hC ba names ae (Z0++[Hq c1])
  ·obtain rfl:=za ae
   obtain rfl:=hl1
   exact yB X0 hC aq ah aa [Hq c0]
def qo:Code:=(Tryz.f82.body).getD .skip
def xG:zK:=spF (α:=List Int×List Int) (ρ:=Bool) 82 (fun x=>[F6_ x.1,F6_ x.2]) (fun r=>eB r) (fun x=>xK x.1 x.2) [] (Qm)
abbrev UG:List (Nat×T):=[]
abbrev UF (s1:List Int)(s2:List Int)(cw:Int):List (Nat×T):=[(0,.d (eSl 1 false (eI .i64) s1)),(1,.d (eSl 1 false (eI .i64) s2)),(12,.d (I ((s1.length:Nat):Int))),(13,.d (I cw))]
theorem Jw (hC:zx Tryz.prog ctr):xG.Ok Tryz.prog:=by
 refine zw ?_
 rintro⟨s1,s2⟩ r0 aa
 try unfold xK at aa
 refine yO true [(4,none)] qo 26 Tryz.func82 fun E hE=>?_
 let Z0:List HO:=[Ha (lnM (eI .i64) s1),Ha (lnM (eI .i64) s2)]
 rcases zH aa with⟨c0,aa⟩|⟨c0,aa⟩
 ·obtain rfl:=za aa
  exact yE X0 hC hE (Z0++[Hq c0])
 ·refine yJ X0 hC qo [1,1] [] [] (fun z:Unit=>wP=some r0) (fun z=>UG) [(0,.d (eSl 1 false (eI .i64) s1)),(1,.d (eSl 1 false (eI .i64) s2))] (Z0++[Hq c0,Hh (.cut 0)]) ?_ fun J1 aq=>?_
  ·rintro⟨⟩ aa
   unfold wP at aa
   obtain rfl:=za aa
   exact yE X0 hC hE []
  ·obtain⟨t2,ht2,aa⟩:=zb aa
   refine yL X0 hC qo [1,1,2,1,0] [J1] (fun s=>yK s1 s2 s) (fun x=>UF s1 s2 x) 0 ht2  [Ha (lnM (eI .i64) s1)] ?_
   rintro cw m2 au ae hl1 J2 ax
   try unfold yK at ae
   rcases zH ae with⟨c1,ae⟩|⟨c1,ae⟩
   ·obtain⟨gb,h0,ae⟩:=zb ae
    obtain⟨dt,h1,ae⟩:=zb ae
    let Z1:List HO:=[Hq c1,Hi (eI .i64) h0,Hi (eI .i64) h1]
    rcases zH ae with⟨c2,ae⟩|⟨c2,ae⟩
    ·obtain rfl:=za ae
     obtain rfl:=hl1
     obtain rfl:=za aa
     exact yE X0 hC hE (Z1++[Hq c2])
    ·obtain rfl:=za ae
     exact yB X0 hC ax (w64 (cw+1)) hl1 (Z1++[Hq c2])
   ·obtain rfl:=za ae
    obtain rfl:=hl1
    exact yB X0 hC aq () aa [Hq c1]
def U0:Code:=(Tryz.f147.body).getD .skip
abbrev JI (x0:z6)(YY:σ->z79)(ce:σ)(p_:List Int):List (Nat×T):=[(0,.own (.opq (YY ce).q)),(1,.d (.sptr (zD x0))),(3,.own (eOs 1 true (eI .i64) p_))]
theorem z1p (hC:zx Tryz.prog ctr)(h0t:ctr.Has qX)(h0b:ctr.Has xG)(x0:z6):zar Tryz.prog (.fn 147 [.sptr (.agg [I x0.Inputs,I x0.Outputs,eSl 1 false yI x0.Rows])]) (fun(x:List Int) (_:Bool) (_:Value)=>[F6_ x]) (@qz x0):=by
 refine z7Q (tt:=yb) (nt:=19) (body:=U0) zt Tryz.func147 rfl (by kernel_rfl) rfl rfl (by show(2:Nat)<=19;decide) ?_
 intro σ yv YY yy hy sg r0 aa E hE
 unfold qz at aa
 obtain⟨g0,aa⟩:=gdE aa
 obtain⟨t1,ht1,aa⟩:=zb aa
 refine yL X0 hC U0 [1,0] [] (fun s=>vb x0 yy s.1 s.2) (fun x=>JI x0 YY x.1 x.2) (sg,(List.replicate ((x0.Rows.length:Nat):Int).toNat (0:Int))) ht1  [Ha (lnM yI x0.Rows),Hn (rL g0),Ha (rM 1 (eI .i64) ((x0.Rows.length:Nat):Int) (0:Int))] ?_
 rintro⟨ce,p_⟩ m1 au ae hl1 J1 aq
 try unfold vb at ae
 obtain⟨yr,h0,ae⟩:=zb ae
 let Z0:List HO:=[Hm (shM (eI .i64) (eI .i64) p_),Hn (z7t (yv:=yv) (Y:=YY) (enc:=(fun(x:List Int) (_:Bool) (_:Value)=>[F6_ x])) (s:=ce) (x:=p_) (s':=yr.1) (b:=yr.2) (v:=.nilFunc) [F2_ p_] (show Jv [F2_ p_] [F6_ p_] from inferInstance))]
 rcases zH ae with⟨c0,ae⟩|⟨c0,ae⟩
 ·obtain⟨r_,h1,ae⟩:=zb ae
  obtain⟨ai,h2,ae⟩:=zb ae
  let Z1:List HO:=(Z0++[Hq c0,Hc h0t (x:=(x0,p_)) h1 (loC zD x0 <| loC F2_ p_ <| loN),Hg (z1K h0b),Hm (shM (eI .i64) (eI .i64) r_),Hs (z1L h0b (x:=(p_,r_)) h2 (loC F2_ p_ <| loC F2_ r_ <| loN))])
  rcases zH ae with⟨c1,ae⟩|⟨c1,ae⟩
  ·obtain rfl:=za ae
   obtain rfl:=hl1
   obtain rfl:=za aa
   exact yF ((z1m (P:=Tryz.prog) yb hy 11 (s:=ce) (x:=p_) (s':=yr.1) (b:=yr.2) .nilFunc h0).or X0) hC .ret [(0,.own (.opq (YY yr.1).q))] (Z1++[Hq c1]) fun st0 h0=>hE _ st0 (.inr rfl) h0
  ·obtain rfl:=za ae
   exact yB ((z1m (P:=Tryz.prog) yb hy 11 (s:=ce) (x:=p_) (s':=yr.1) (b:=yr.2) .nilFunc h0).or X0) hC aq (yr.1,r_) hl1 (Z1++[Hq c1])
 ·obtain rfl:=za ae
  obtain rfl:=hl1
  obtain rfl:=za aa
  exact yF ((z1m (P:=Tryz.prog) yb hy 11 (s:=ce) (x:=p_) (s':=yr.1) (b:=yr.2) .nilFunc h0).or X0) hC .normal [(0,.own (.opq (YY yr.1).q))] (Z0++[Hq c0]) fun st0 h0=>hE _ st0 (.inl rfl) h0
def wz:Code:=(Tryz.f100.body).getD .skip
def Ys:zK:=spF (α:=z6) (ρ:=List Int×Int×Int) 100 (fun x=>[zD x]) (fun r=>.tup [F6_ r.1,(eI .i64) r.2.1,(eI .i64) r.2.2]) (fun x=>kD x) [] (WL)
abbrev Kx (p_:List Int)(n_:Int):List (Nat×T):=[(2,.own (.box (eSl 1 false (eI .i64) p_))),(3,.own (.box (I n_)))]
abbrev Wi (ai:z6)(iv:List Int)(dc:Int):List (Nat×T):=[(2,.own (.box (eSl 1 false (eI .i64) iv))),(3,.own (.box (I dc))),(13,.d (.fn 147 [.sptr (.agg [I ai.Inputs,I ai.Outputs,eSl 1 false yI ai.Rows])]))]
theorem z2C (hC:zx Tryz.prog ctr)(h02:ctr.Has xw)(h1o:ctr.Has Xr)(h0t:ctr.Has qX)(h0b:ctr.Has xG):Ys.Ok Tryz.prog:=by
 refine zw ?_
 rintro m_ r0 aa
 try unfold kD at aa
 refine yO false [(2,some 40),(3,some 3),(4,none)] wz 20 Tryz.func100 fun E hE=>?_
 obtain⟨r_,h0,aa⟩:=zb aa
 let Z0:List HO:=[Hh (.v 2 [2]),Hm (shM (eI .i64) (eI .i64) []),Hc h02 (x:=m_) h0 (loC zD m_ <| loN)]
 rcases zH aa with⟨c0,aa⟩|⟨c0,aa⟩
 ·obtain rfl:=za aa
  exact yEx X0 hC hE (Z0++[Hq c0,Hm (shM (eI .i64) (eI .i64) [])]) (.tup [eSl 1 true (eI .i64) [],I 0,I r_]) (show LeV (.tup [eSl 1 true (eI .i64) [],I 0,I r_]) (.tup [eSl 1 false (eI .i64) ([]:List Int),I 0,I r_]) from inferInstance)
 ·refine yJ X0 hC wz [1,1,1] [] [2,3] (fun z:List Int×Int=>jB z.1 z.2=some r0) (fun z=>Kx z.1 z.2) [(1,.own (.box (zD m_))),(2,.own (.box (eSl 1 true (eI .i64) []))),(3,.own (.box (I (-1))))] (Z0++[Hq c0,Hh (.cut 1)]) ?_ fun J1 aq=>?_
  ·rintro⟨p_,n_⟩ aa
   unfold jB at aa
   obtain rfl:=za aa
   exact yE X0 hC hE []
  ·obtain⟨ai,h1,aa⟩:=zb aa
   obtain⟨t2,ht2,aa⟩:=zb aa
   refine yAt X0 hC (sub [1,1,1,2,1,0] wz) (frs [1,1,1,2,1,0] [J1] wz []) [(2,.own (.box (eSl 1 true (eI .i64) []))),(3,.own (.box (I (-1)))),(13,.d (.fn 147 [.sptr (.agg [I ai.Inputs,I ai.Outputs,eSl 1 false yI ai.Rows])]))] [Hc h1o (x:=m_) h1 (loC zD m_ <| loN)] fun st0 h0=>?_
   refine z0U (g:=.tmp 13) (ps:=[14]) (assign:=(sub [1,1,1,2,1,0,0] wz)) (body:=(sub [1,1,1,2,1,0,1] wz)) (K:=147) (caps:=[.sptr (.agg [I ai.Inputs,I ai.Outputs,eSl 1 false yI ai.Rows])]) (by kernel_rfl) [2,3,13] (fun s=>Wi ai s.1 s.2) (fun z=>nomatch z) (fun z=>nomatch z) ((fun(x:List Int) (_:Bool) (_:Value)=>[F6_ x])) (F:=@qz ai) (fun s x=>ww s.1 s.2 x) (([]:List Int),(-1)) t2 _ h0 inferInstance (by kernel_rfl) (by decide) (fun _=>rfl) (by rintro⟨⟩) (by kernel_rfl) (fun _ _ _=>rfl) (z1p hC h0t h0b ai) ht2 ?_ ?_
   ·rintro lu ⟨iv,dc⟩ cg vr au ae
    replace ae:ww iv dc cg=some au:=ae
    unfold ww at ae
    refine yF X0 hC .normal [(2,.own (.box (eSl 1 false (eI .i64) iv))),(3,.own (.box (I dc))),(6,.d (eSl 1 false (eI .i64) cg)),(13,.d (.fn 147 [.sptr (.agg [I ai.Inputs,I ai.Outputs,eSl 1 false yI ai.Rows])]))] [] fun st0 h0=>⟨rfl,z87 h0 ?_⟩
    obtain rfl:=za ae
    exact yF X0 hC .normal (Wi ai cg (w64 (dc+1))) [] fun st0 h0=>⟨rfl,_,h0,LeL.refl _⟩
   ·rcases t2 with⟨iv,dc⟩|z
    ·dsimp only at aa
     exact Wf (by kernel_rfl) (aq _ [(2,.own (.box (eSl 1 false (eI .i64) iv))),(3,.own (.box (I dc)))] (iv,dc) aa (show Own.canon [2,3] _=ofL _ by kernel_rfl) inferInstance)
    ·cases z
def kO:Code:=(Tryz.f101.body).getD .skip
def jT:zK:=spF (α:=List Int) (ρ:=Int) 101 (fun x=>[F6_ x]) (fun r=>(eI .i64) r) (fun x=>vK x) [] (WL)
abbrev QE (m_:Int):List (Nat×T):=[(3,.d (I m_))]
abbrev QD (x_:List Int)(ka:Int)(i_:Int):List (Nat×T):=[(0,.d (eSl 1 false (eI .i64) x_)),(3,.d (I ka)),(4,.d (I i_))]
theorem z01 (hC:zx Tryz.prog ctr):jT.Ok Tryz.prog:=by
 refine zw ?_
 rintro x_ r0 aa
 try unfold vK at aa
 refine yO true [(2,none)] kO 25 Tryz.func101 fun E hE=>?_
 rcases zH aa with⟨c0,aa⟩|⟨c0,aa⟩
 ·cases aa
 ·obtain⟨ko,h0,aa⟩:=zb aa
  refine yJ X0 hC kO [1,1,1] [] [3] (fun z:Int=>vJ z=some r0) (fun z=>QE z) [(0,.d (eSl 1 false (eI .i64) x_)),(3,.d (I ko))] [Ha (lnM (eI .i64) x_),Hq c0,Hi (eI .i64) h0,Hh (.cut 0)] ?_ fun J1 aq=>?_
  ·rintro m_ aa
   unfold vJ at aa
   obtain rfl:=za aa
   exact yE X0 hC hE []
  ·obtain⟨t2,ht2,aa⟩:=zb aa
   refine yL X0 hC kO [1,1,1,2,1,0] [J1] (fun s=>wc x_ s.1 s.2) (fun x=>QD x_ x.1 x.2) (ko,1) ht2  [] ?_
   rintro⟨ka,i_⟩ m2 au ae hl1 J2 ax
   try unfold wc at ae
   rcases zH ae with⟨c1,ae⟩|⟨c1,ae⟩
   ·obtain⟨kn,h1,ae⟩:=zb ae
    obtain rfl:=za ae
    exact yB X0 hC ax ((mx ka kn),w64 (i_+1)) hl1 [Ha (lnM (eI .i64) x_),Hq c1,Hi (eI .i64) h1]
   ·obtain rfl:=za ae
    obtain rfl:=hl1
    exact yB X0 hC aq ka aa [Ha (lnM (eI .i64) x_),Hq c1]
def z08:Code:=(Tryz.f99.body).getD .skip
def Zs:zK:=spF (α:=z6) (ρ:=Bool) 99 (fun x=>[z2x x]) (fun r=>eB r) (fun x=>Za x) [] (WL)
theorem z0u (hC:zx Tryz.prog ctr)(h1p:ctr.Has Ys)(h1q:ctr.Has jT):Zs.Ok Tryz.prog:=by
 refine zw ?_
 rintro x0 r0 aa
 try unfold Za at aa
 refine yO true [(1,none)] z08 17 Tryz.func99 fun E hE=>?_
 obtain⟨r_,h0,aa⟩:=zb aa
 obtain⟨ai,h1,aa⟩:=zb aa
 obtain rfl:=za aa
 exact yE X0 hC hE [Hc h1p (x:=x0) h0 (loC zD x0 <| loN),Hc h1q (x:=r_.1) h1 (loC F6_ r_.1 <| loN),Ha (lnM (eI .i64) r_.1)]
def Ua:Code:=(Tryz.f36.body).getD .skip
def wY:zK:=spF (α:=z6) (ρ:=Int) 36 (fun x=>[zD x]) (fun r=>(eI .i64) r) (fun x=>xM x) [] (WL)
abbrev JJ:List (Nat×T):=[]
theorem z1q (hC:zx Tryz.prog ctr)(h02:ctr.Has xw)(h1r:ctr.Has Yw)(h1s:ctr.Has Zu)(h1t:ctr.Has Zt)(h1u:ctr.Has Zs):wY.Ok Tryz.prog:=by
 refine zw ?_
 rintro m_ r0 aa
 try unfold xM at aa
 refine yO true [(2,none)] Ua 23 Tryz.func36 fun E hE=>?_
 obtain⟨r_,h0,aa⟩:=zb aa
 let Z0:List HO:=[Hc h02 (x:=m_) h0 (loC zD m_ <| loN)]
 rcases zH aa with⟨c0,aa⟩|⟨c0,aa⟩
 ·obtain rfl:=za aa
  exact yE X0 hC hE (Z0++[Hq c0])
 ·refine yJ X0 hC Ua [1,1] [] [] (fun z:Unit=>uY=some r0) (fun z=>JJ) [(1,.own (.box (zD m_)))] (Z0++[Hq c0,Hh (.cut 0)]) ?_ fun J1 aq=>?_
  ·rintro⟨⟩ aa
   unfold uY at aa
   obtain rfl:=za aa
   exact yE X0 hC hE []
  ·obtain⟨ai,h1,aa⟩:=zb aa
   obtain⟨al,h2,aa⟩:=zb aa
   let Z1:List HO:=[Hc h1r (x:=m_) h1 (loC zD m_ <| loN),Hh (.u 70),qT,Hc h1s (x:=ai.1.2) h2 (loC z2x ai.1.2 <| loN)]
   rcases zH aa with⟨c1,aa⟩|⟨c1,aa⟩
   ·obtain rfl:=za aa
    exact yE X0 hC hE (Z1++[Hq c1])
   ·obtain⟨am,h3,aa⟩:=zb aa
    let Z2:List HO:=(Z1++[Hq c1,qT,Hc h1t (x:=ai.2.1.2) h3 (loC z2x ai.2.1.2 <| loN)])
    rcases zH aa with⟨c2,aa⟩|⟨c2,aa⟩
    ·obtain rfl:=za aa
     exact yE X0 hC hE (Z2++[Hq c2])
    ·obtain⟨bm,h4,aa⟩:=zb aa
     let Z3:List HO:=(Z2++[Hq c2,qT,Hc h1u (x:=ai.2.2.2) h4 (loC z2x ai.2.2.2 <| loN)])
     rcases zH aa with⟨c3,aa⟩|⟨c3,aa⟩
     ·obtain rfl:=za aa
      exact yE X0 hC hE (Z3++[Hq c3])
     ·exact yB X0 hC aq () aa (Z3++[Hq c3,qF])
def z41:Code:=(Tryz.f136.body).getD .skip
def Wp:zK:=spF (α:=Int×Int) (ρ:=Bool) 136 (fun x=>[(eI .i64) x.1,(eSp (eI .i64)) x.2]) (fun r=>eB r) (fun x=>WO x.1 x.2) [] (Qm)
theorem z4E (hC:zx Tryz.prog ctr):Wp.Ok Tryz.prog:=by
 refine zw ?_
 rintro⟨c_,x1⟩ r0 aa
 try unfold WO at aa
 refine yO true [(3,none)] z41 11 Tryz.func136 fun E hE=>?_
 rcases zH aa with⟨c0,aa⟩|⟨c0,aa⟩
 ·obtain rfl:=za aa
  exact yE X0 hC hE (rpN 4 (Hq c0) [])
 ·obtain rfl:=za aa
  exact yE X0 hC hE (rpN 4 (Hq c0) [])
def vo:Code:=(Tryz.f149.body).getD .skip
def wX:zK:=spF (α:=List Int×Int) (ρ:=Int) 149 (fun x=>[F6_ x.1,(z07 136 (eSp (eI .i64))) x.2]) (fun r=>(eI .i64) r) (fun x=>ws x.1 x.2) [] (by
 rintro⟨a0,a1⟩ ⟨b0,b1⟩ h
 have e0:=Zw.inj (f:=F6_) _ _ (List.cons.inj h).1
 replace h:=(List.cons.inj h).2
 have e1:=Zw.inj (f:=(z07 136 (eSp (eI .i64)))) _ _ (List.cons.inj h).1
 subst e0 e1
 rfl)
abbrev Wh:List (Nat×T):=[]
abbrev Wg (s_:List Int)(f_:Int)(x8:Int):List (Nat×T):=[(0,.d (eSl 1 false (eI .i64) s_)),(1,.d (.fn 136 [.sptr (I f_)])),(7,.d (I ((s_.length:Nat):Int))),(8,.d (I x8))]
theorem Up (hC:zx Tryz.prog ctr)(h1v:ctr.Has Wp):wX.Ok Tryz.prog:=by
 refine zw ?_
 rintro⟨s_,f_⟩ r0 aa
 try unfold ws at aa
 refine yO true [(4,none)] vo 19 Tryz.func149 fun E hE=>?_
 refine yJ X0 hC vo [1] [] [] (fun z:Unit=>v7=some r0) (fun z=>Wh) [(0,.d (eSl 1 false (eI .i64) s_)),(1,.d (.fn 136 [.sptr (I f_)]))] [Hh (.cut 1)] ?_ fun J1 aq=>?_
 ·rintro⟨⟩ aa
  unfold v7 at aa
  obtain rfl:=za aa
  exact yE X0 hC hE []
 ·obtain⟨t2,ht2,aa⟩:=zb aa
  refine yL X0 hC vo [1,2,1,0] [J1] (fun s=>ye s_ f_ s) (fun x=>Wg s_ f_ x) 0 ht2  [Ha (lnM (eI .i64) s_)] ?_
  rintro x8 m2 au ae hl1 J2 ax
  try unfold ye at ae
  rcases zH ae with⟨c0,ae⟩|⟨c0,ae⟩
  ·obtain⟨ct,h0,ae⟩:=zb ae
   obtain⟨r_,h1,ae⟩:=zb ae
   let Z0:List HO:=[Hq c0,Hi (eI .i64) h0,Hc h1v (x:=(ct,f_)) h1 (loC (eI .i64) ct <| loC (eSp (eI .i64)) f_ <| loN)]
   rcases zH ae with⟨c1,ae⟩|⟨c1,ae⟩
   ·obtain rfl:=za ae
    obtain rfl:=hl1
    obtain rfl:=za aa
    exact yE X0 hC hE (Z0++[Hq c1])
   ·obtain rfl:=za ae
    exact yB X0 hC ax (w64 (x8+1)) hl1 (Z0++[Hq c1])
  ·obtain rfl:=za ae
   obtain rfl:=hl1
   exact yB X0 hC aq () aa [Hq c0]
def Wc:Code:=(Tryz.f130.body).getD .skip
def wa:zK:=spF (α:=List Int×Int) (ρ:=Bool) 130 (fun x=>[F6_ x.1,(z07 136 (eSp (eI .i64))) x.2]) (fun r=>eB r) (fun x=>xH x.1 x.2) [] (by
 rintro⟨a0,a1⟩ ⟨b0,b1⟩ h
 have e0:=Zw.inj (f:=F6_) _ _ (List.cons.inj h).1
 replace h:=(List.cons.inj h).2
 have e1:=Zw.inj (f:=(z07 136 (eSp (eI .i64)))) _ _ (List.cons.inj h).1
 subst e0 e1
 rfl)
theorem Wl (hC:zx Tryz.prog ctr)(h1w:ctr.Has wX):wa.Ok Tryz.prog:=by
 refine zw ?_
 rintro⟨s_,f_⟩ r0 aa
 try unfold xH at aa
 refine yO true [(4,none)] Wc 9 Tryz.func130 fun E hE=>?_
 obtain⟨r_,h0,aa⟩:=zb aa
 obtain rfl:=za aa
 exact yE X0 hC hE [Hc h1w (x:=(s_,f_)) h0 (loC F6_ s_ <| loC (z07 136 (eSp (eI .i64))) f_ <| loN)]
def z6w:Code:=(Tryz.f113.body).getD .skip
def XF:zK:=spF (α:=List Int×Int) (ρ:=Int) 113 (fun x=>[F6_ x.1,(eI .i64) x.2]) (fun r=>(eI .i64) r) (fun x=>jQ x.1 x.2) [] (Qm)
theorem z7d (hC:zx Tryz.prog ctr)(h1x:ctr.Has wa):XF.Ok Tryz.prog:=by
 refine zw ?_
 rintro⟨w_,inputs⟩ r0 aa
 try unfold jQ at aa
 refine yO true [(4,none)] z6w 19 Tryz.func113 fun E hE=>?_
 rcases zH aa with⟨c0,aa⟩|⟨c0,aa⟩
 ·obtain rfl:=za aa
  exact yE X0 hC hE (rpN 4 (Hq c0) [qT])
 ·let Z0:List HO:=[Hq c0,Hq c0,Ha (lnM (eI .i64) w_),Hq c0,Hq c0]
  rcases zH aa with⟨c1,aa⟩|⟨c1,aa⟩
  ·obtain rfl:=za aa
   exact yE X0 hC hE (Z0++[Hq c1])
  ·rcases zH aa with⟨c2,aa⟩|⟨c2,aa⟩
   ·obtain rfl:=za aa
    exact yE X0 hC hE (Z0++(Hq c1::(rpN 4 (Hq c2) [qT])))
   ·obtain⟨r_,h0,aa⟩:=zb aa
    let Z1:List HO:=(Z0++[Hq c1,Hq c2,Hq c2,Hq c2,Hc h1x (x:=(w_,inputs)) h0 (loC F6_ w_ <| loC (z07 136 (eSp (eI .i64))) inputs <| loN),Hq c2])
    rcases zH aa with⟨c3,aa⟩|⟨c3,aa⟩
    ·obtain rfl:=za aa
     exact yE X0 hC hE (Z1++[Hq c3])
    ·obtain rfl:=za aa
     exact yE X0 hC hE (Z1++[Hq c3])
def Qk:Code:=(Tryz.f105.body).getD .skip
def XI:zK:=spF (α:=List (List Int)×Int) (ρ:=Int) 105 (fun x=>[yx x.1,(eI .i64) x.2]) (fun r=>(eI .i64) r) (fun x=>Xk x.1 x.2) [] (Qm)
abbrev z34:List (Nat×T):=[]
abbrev z33 (l_:List (List Int))(inputs:Int)(kb:Int):List (Nat×T):=[(1,.d (I inputs)),(17,.d (eSl 1 false F6_ l_)),(18,.d (I ((l_.length:Nat):Int))),(19,.d (I kb))]
theorem z7f (hC:zx Tryz.prog ctr)(h0u:ctr.Has XF):XI.Ok Tryz.prog:=by
 refine zw ?_
 rintro⟨l_,inputs⟩ r0 aa
 try unfold Xk at aa
 refine yO true [(4,none)] Qk 30 Tryz.func105 fun E hE=>?_
 rcases zH aa with⟨c0,aa⟩|⟨c0,aa⟩
 ·obtain rfl:=za aa
  exact yE X0 hC hE (rpN 4 (Hq c0) [qT])
 ·let Z0:List HO:=[Hq c0,Hq c0,Ha (lnM F6_ l_),Hq c0,Hq c0]
  rcases zH aa with⟨c1,aa⟩|⟨c1,aa⟩
  ·obtain rfl:=za aa
   exact yE X0 hC hE (Z0++[Hq c1])
  ·rcases zH aa with⟨c2,aa⟩|⟨c2,aa⟩
   ·obtain rfl:=za aa
    exact yE X0 hC hE (Z0++[Hq c1,Hq c2])
   ·refine yJ X0 hC Qk [1,1,1] [] [] (fun z:Unit=>Q1=some r0) (fun z=>z34) [(0,.d (eSl 1 false F6_ l_)),(1,.d (I inputs))] (Z0++[Hq c1,Hq c2,Hh (.cut 0)]) ?_ fun J1 aq=>?_
    ·rintro⟨⟩ aa
     unfold Q1 at aa
     obtain rfl:=za aa
     exact yE X0 hC hE []
    ·obtain⟨t2,ht2,aa⟩:=zb aa
     refine yL X0 hC Qk [1,1,1,2,1,0] [J1] (fun s=>qI l_ inputs s) (fun x=>z33 l_ inputs x) 0 ht2  [Ha (lnM F6_ l_)] ?_
     rintro kb m2 au ae hl1 J2 ax
     try unfold qI at ae
     rcases zH ae with⟨c3,ae⟩|⟨c3,ae⟩
     ·obtain⟨bk,h0,ae⟩:=zb ae
      obtain⟨r_,h1,ae⟩:=zb ae
      let Z1:List HO:=[Hq c3,Hi F6_ h0,Hc h0u (x:=(bk,inputs)) h1 (loC F6_ bk <| loC (eI .i64) inputs <| loN)]
      rcases zH ae with⟨c4,ae⟩|⟨c4,ae⟩
      ·obtain rfl:=za ae
       obtain rfl:=hl1
       obtain rfl:=za aa
       exact yE X0 hC hE (Z1++[Hq c4])
      ·obtain rfl:=za ae
       exact yB X0 hC ax (w64 (kb+1)) hl1 (Z1++[Hq c4])
     ·obtain rfl:=za ae
      obtain rfl:=hl1
      exact yB X0 hC aq () aa [Hq c3]
def z48:Code:=(Tryz.f163.body).getD .skip
def Wx:zK:=spF (α:=Int) (ρ:=Bool) 163 (fun x=>[(eI .i64) x]) (fun r=>eB r) (fun x=>X4 x) [] (WL)
theorem z4O (hC:zx Tryz.prog ctr):Wx.Ok Tryz.prog:=by
 refine zw ?_
 rintro x_ r0 aa
 try unfold X4 at aa
 refine yO true [(2,none)] z48 6 Tryz.func163 fun E hE=>?_
 obtain rfl:=za aa
 exact yE X0 hC hE []
def z1U:Code:=(Tryz.f141.body).getD .skip
def qZ:zK:=spF (α:=Int×Int) (ρ:=Int) 141 (fun x=>[(eI .i64) x.1,(eI .i64) x.2]) (fun r=>(eI .i64) r) (fun x=>uM x.1 x.2) [] (Qm)
theorem z2H (hC:zx Tryz.prog ctr)(h0G:ctr.Has Wx):qZ.Ok Tryz.prog:=by
 refine zw ?_
 rintro⟨x_,y_⟩ r0 aa
 try unfold uM at aa
 refine yO true [(4,none)] z1U 20 Tryz.func141 fun E hE=>?_
 obtain⟨r_,h0,aa⟩:=zb aa
 obtain⟨ai,h1,aa⟩:=zb aa
 let Z0:List HO:=[Hc h0G (x:=x_) h0 (loC (eI .i64) x_ <| loN),Hc h0G (x:=y_) h1 (loC (eI .i64) y_ <| loN)]
 rcases zH aa with⟨c0,aa⟩|⟨c0,aa⟩
 ·rcases zH aa with⟨c1,aa⟩|⟨c1,aa⟩
  ·obtain rfl:=za aa
   exact yE X0 hC hE (Z0++[Hq c0,Hq c1])
  ·obtain rfl:=za aa
   exact yE X0 hC hE (Z0++[Hq c0,Hq c1])
 ·rcases zH aa with⟨c2,aa⟩|⟨c2,aa⟩
  ·obtain rfl:=za aa
   exact yE X0 hC hE (Z0++[Hq c0,Hq c2])
  ·rcases zH aa with⟨c3,aa⟩|⟨c3,aa⟩
   ·obtain rfl:=za aa
    exact yE X0 hC hE (Z0++[Hq c0,Hq c2,Hq c3])
   ·rcases zH aa with⟨c4,aa⟩|⟨c4,aa⟩
    ·obtain rfl:=za aa
     exact yE X0 hC hE (Z0++[Hq c0,Hq c2,Hq c3,Hq c4])
    ·obtain rfl:=za aa
     exact yE X0 hC hE (Z0++[Hq c0,Hq c2,Hq c3,Hq c4])
def ub:Code:=(Tryz.f142.body).getD .skip
def vY:zK:=spF (α:=List Int×List Int) (ρ:=Int) 142 (fun x=>[F6_ x.1,F6_ x.2]) (fun r=>(eI .i64) r) (fun x=>xQ x.1 x.2) [] (Qm)
abbrev V7 (s1:List Int)(s2:List Int):List (Nat×T):=[(0,.d (eSl 1 false (eI .i64) s1)),(1,.d (eSl 1 false (eI .i64) s2))]
abbrev V6 (s1:List Int)(s2:List Int)(ew:Int):List (Nat×T):=[(0,.d (eSl 1 false (eI .i64) s1)),(1,.d (eSl 1 false (eI .i64) s2)),(9,.d (eSl 1 false (eI .i64) s1)),(10,.d (I ((s1.length:Nat):Int))),(11,.d (I ew))]
theorem Qo (hC:zx Tryz.prog ctr)(h0v:ctr.Has qZ):vY.Ok Tryz.prog:=by
 refine zw ?_
 rintro⟨s1,s2⟩ r0 aa
 try unfold xQ at aa
 refine yO true [(4,none)] ub 36 Tryz.func142 fun E hE=>?_
 refine yJ X0 hC ub [1] [] [0,1] (fun z:Unit=>w7 s1 s2=some r0) (fun z=>V7 s1 s2) [(0,.d (eSl 1 false (eI .i64) s1)),(1,.d (eSl 1 false (eI .i64) s2))] [Hh (.cut 1)] ?_ fun J1 aq=>?_
 ·rintro⟨⟩ aa
  unfold w7 at aa
  let Z0:List HO:=[Ha (lnM (eI .i64) s1),Ha (lnM (eI .i64) s2)]
  rcases zH aa with⟨c0,aa⟩|⟨c0,aa⟩
  ·obtain rfl:=za aa
   exact yE X0 hC hE (Z0++[Hq c0])
  ·obtain rfl:=za aa
   exact yE X0 hC hE (Z0++[Hq c0])
 ·obtain⟨t2,ht2,aa⟩:=zb aa
  refine yL X0 hC ub [1,2,1,0] [J1] (fun s=>yn s1 s2 s) (fun x=>V6 s1 s2 x) 0 ht2  [Ha (lnM (eI .i64) s1)] ?_
  rintro ew m2 au ae hl1 J2 ax
  try unfold yn at ae
  rcases zH ae with⟨c1,ae⟩|⟨c1,ae⟩
  ·obtain⟨gb,h0,ae⟩:=zb ae
   let Z1:List HO:=[Hq c1,Hi (eI .i64) h0,Ha (lnM (eI .i64) s2)]
   rcases zH ae with⟨c2,ae⟩|⟨c2,ae⟩
   ·obtain rfl:=za ae
    obtain rfl:=hl1
    obtain rfl:=za aa
    exact yE X0 hC hE (Z1++[Hq c2])
   ·obtain⟨dt,h1,ae⟩:=zb ae
    obtain⟨r_,h2,ae⟩:=zb ae
    let Z2:List HO:=(Z1++[Hq c2,Hi (eI .i64) h1,Hc h0v (x:=(gb,dt)) h2 (loC (eI .i64) gb <| loC (eI .i64) dt <| loN)])
    rcases zH ae with⟨c3,ae⟩|⟨c3,ae⟩
    ·obtain rfl:=za ae
     obtain rfl:=hl1
     obtain rfl:=za aa
     exact yE X0 hC hE (Z2++[Hq c3])
    ·obtain rfl:=za ae
     exact yB X0 hC ax (w64 (ew+1)) hl1 (Z2++[Hq c3])
  ·obtain rfl:=za ae
   obtain rfl:=hl1
   exact yB X0 hC aq () aa [Hq c1]
def Jm:Code:=(Tryz.f140.body).getD .skip
def QS:zK:=spF (α:=List Int) (ρ:=Int) 140 (fun x=>[F6_ x]) (fun r=>(eI .i64) r) (fun x=>QB x) [] (WL)
abbrev z4r:List (Nat×T):=[(3,.d (I 0))]
abbrev z4q (vals:List Int)(x8:Int):List (Nat×T):=[(3,.d (I 0)),(6,.d (eSl 1 false (eI .i64) vals)),(7,.d (I ((vals.length:Nat):Int))),(8,.d (I x8))]
theorem z8u (hC:zx Tryz.prog ctr):QS.Ok Tryz.prog:=by
 refine zw ?_
 rintro vals r0 aa
 try unfold QB at aa
 refine yO true [(2,none)] Jm 18 Tryz.func140 fun E hE=>?_
 refine yJ X0 hC Jm [1,1] [] [3] (fun z:Unit=>WZ=some r0) (fun z=>z4r) [(0,.d (eSl 1 false (eI .i64) vals)),(3,.d (I 0))] [Hh (.cut 2)] ?_ fun J1 aq=>?_
 ·rintro⟨⟩ aa
  unfold WZ at aa
  obtain rfl:=za aa
  exact yE X0 hC hE []
 ·obtain⟨t2,ht2,aa⟩:=zb aa
  refine yL X0 hC Jm [1,1,2,1,0] [J1] (fun s=>Zk vals s) (fun x=>z4q vals x) 0 ht2  [Ha (lnM (eI .i64) vals)] ?_
  rintro x8 m2 au ae hl1 J2 ax
  try unfold Zk at ae
  rcases zH ae with⟨c0,ae⟩|⟨c0,ae⟩
  ·obtain⟨kp,h0,ae⟩:=zb ae
   rcases zH ae with⟨c1,ae⟩|⟨c1,ae⟩
   ·obtain rfl:=za ae
    obtain rfl:=hl1
    obtain rfl:=za aa
    exact yE X0 hC hE [Hq c0,Hi (eI .i64) h0,Hq c1]
   ·obtain rfl:=za ae
    exact yB X0 hC ax (w64 (x8+1)) hl1 [Hq c0,Hi (eI .i64) h0,Hq c1]
  ·obtain rfl:=za ae
   obtain rfl:=hl1
   exact yB X0 hC aq () aa [Hq c0]
def z40:Code:=(Tryz.f119.body).getD .skip
def qt:zK:=spF (α:=List Int×List Int) (ρ:=Int) 119 (fun x=>[F6_ x.1,F6_ x.2]) (fun r=>(eI .i64) r) (fun x=>uT x.1 x.2) [] (Qm)
theorem z4D (hC:zx Tryz.prog ctr)(h0v:ctr.Has qZ)(h1y:ctr.Has vY)(h0H:ctr.Has QS):qt.Ok Tryz.prog:=by
 refine zw ?_
 rintro⟨a_,b_⟩ r0 aa
 try unfold uT at aa
 refine yO true [(4,none)] z40 15 Tryz.func119 fun E hE=>?_
 obtain⟨r_,h0,aa⟩:=zb aa
 obtain⟨ai,h1,aa⟩:=zb aa
 obtain⟨al,h2,aa⟩:=zb aa
 obtain rfl:=za aa
 exact yE X0 hC hE [Ha (lnM (eI .i64) a_),Ha (lnM (eI .i64) b_),Hc h0v (x:=(((a_.length:Nat):Int),((b_.length:Nat):Int))) h0 (loC (eI .i64) ((a_.length:Nat):Int) <| loC (eI .i64) ((b_.length:Nat):Int) <| loN),Hc h1y (x:=(a_,b_)) h1 (loC F6_ a_ <| loC F6_ b_ <| loN),Hg (z1K h0H),Hm (shM (eI .i64) (eI .i64) ([r_,ai])),Hs (z1L h0H (x:=[r_,ai]) h2 (loC F2_ ([r_,ai]:List Int) <| loN))]
def Ql:Code:=(Tryz.f110.body).getD .skip
def Q3:zK:=spF (α:=List (List Int)) (ρ:=Bool) 110 (fun x=>[yx x]) (fun r=>eB r) (fun x=>Vk x) [] (WL)
abbrev z36:List (Nat×T):=[]
abbrev z35 (l_:List (List Int))(i_:Int):List (Nat×T):=[(0,.d (eSl 1 false F6_ l_)),(3,.d (I i_))]
theorem z7g (hC:zx Tryz.prog ctr)(h0h:ctr.Has qt):Q3.Ok Tryz.prog:=by
 refine zw ?_
 rintro l_ r0 aa
 try unfold Vk at aa
 refine yO true [(2,none)] Ql 21 Tryz.func110 fun E hE=>?_
 refine yJ X0 hC Ql [1] [] [] (fun z:Unit=>XD=some r0) (fun z=>z36) [(0,.d (eSl 1 false F6_ l_))] [Hh (.cut 1)] ?_ fun J1 aq=>?_
 ·rintro⟨⟩ aa
  unfold XD at aa
  obtain rfl:=za aa
  exact yE X0 hC hE []
 ·obtain⟨t2,ht2,aa⟩:=zb aa
  refine yL X0 hC Ql [1,2,1,0] [J1] (fun s=>qJ l_ s) (fun x=>z35 l_ x) 1 ht2  [] ?_
  rintro i_ m2 au ae hl1 J2 ax
  try unfold qJ at ae
  let Z0:List HO:=[Ha (lnM F6_ l_)]
  rcases zH ae with⟨c0,ae⟩|⟨c0,ae⟩
  ·obtain⟨bk,h0,ae⟩:=zb ae
   obtain⟨ee,h1,ae⟩:=zb ae
   obtain⟨r_,h2,ae⟩:=zb ae
   let Z1:List HO:=(Z0++[Hq c0,Hi F6_ h0,Hi F6_ h1,Hc h0h (x:=(bk,ee)) h2 (loC F6_ bk <| loC F6_ ee <| loN)])
   rcases zH ae with⟨c1,ae⟩|⟨c1,ae⟩
   ·obtain rfl:=za ae
    obtain rfl:=hl1
    obtain rfl:=za aa
    exact yE X0 hC hE (Z1++[Hq c1])
   ·obtain rfl:=za ae
    exact yB X0 hC ax (w64 (i_+1)) hl1 (Z1++[Hq c1])
  ·obtain rfl:=za ae
   obtain rfl:=hl1
   exact yB X0 hC aq () aa (Z0++[Hq c0])
def Qj:Code:=(Tryz.f111.body).getD .skip
def XG:zK:=spF (α:=List (List Int)) (ρ:=Int) 111 (fun x=>[yx x]) (fun r=>(eI .i64) r) (fun x=>Xj x) [] (WL)
abbrev z32 (n_:Int):List (Nat×T):=[(2,.d (I n_))]
abbrev z31 (l_:List (List Int))(dc:Int)(x7:Int):List (Nat×T):=[(2,.d (I dc)),(5,.d (eSl 1 false F6_ l_)),(6,.d (I ((l_.length:Nat):Int))),(7,.d (I x7))]
theorem z7e (hC:zx Tryz.prog ctr):XG.Ok Tryz.prog:=by
 refine zw ?_
 rintro l_ r0 aa
 try unfold Xj at aa
 refine yO true [(2,none)] Qj 17 Tryz.func111 fun E hE=>?_
 refine yJ X0 hC Qj [1] [] [2] (fun z:Int=>Q0 z=some r0) (fun z=>z32 z) [(0,.d (eSl 1 false F6_ l_)),(2,.d (I 0))] [Hh (.cut 1)] ?_ fun J1 aq=>?_
 ·rintro n_ aa
  unfold Q0 at aa
  obtain rfl:=za aa
  exact yE X0 hC hE []
 ·obtain⟨t2,ht2,aa⟩:=zb aa
  refine yL X0 hC Qj [1,2,1,0] [J1] (fun s=>qH l_ s.1 s.2) (fun x=>z31 l_ x.1 x.2) (0,0) ht2  [Ha (lnM F6_ l_)] ?_
  rintro⟨dc,x7⟩ m2 au ae hl1 J2 ax
  try unfold qH at ae
  rcases zH ae with⟨c0,ae⟩|⟨c0,ae⟩
  ·obtain⟨bk,h0,ae⟩:=zb ae
   obtain rfl:=za ae
   exact yB X0 hC ax (w64 (dc+((bk.length:Nat):Int)),w64 (x7+1)) hl1 [Hq c0,Hi F6_ h0,Ha (lnM (eI .i64) bk)]
  ·obtain rfl:=za ae
   obtain rfl:=hl1
   exact yB X0 hC aq dc aa [Hq c0]
def z6x:Code:=(Tryz.f78.body).getD .skip
def Q4:zK:=spF (α:=List (List Int)×Int) (ρ:=Int) 78 (fun x=>[yx x.1,(eI .i64) x.2]) (fun r=>(eI .i64) r) (fun x=>Vl x.1 x.2) [] (Qm)
theorem z7h (hC:zx Tryz.prog ctr)(h0w:ctr.Has XI)(h1z:ctr.Has Q3)(h0n:ctr.Has XG):Q4.Ok Tryz.prog:=by
 refine zw ?_
 rintro⟨l_,inputs⟩ r0 aa
 try unfold Vl at aa
 refine yO true [(4,none)] z6x 18 Tryz.func78 fun E hE=>?_
 obtain⟨r_,h0,aa⟩:=zb aa
 let Z0:List HO:=[Hc h0w (x:=(l_,inputs)) h0 (loC yx l_ <| loC (eI .i64) inputs <| loN)]
 rcases zH aa with⟨c0,aa⟩|⟨c0,aa⟩
 ·obtain rfl:=za aa
  exact yE X0 hC hE (Z0++[Hq c0])
 ·obtain⟨ai,h1,aa⟩:=zb aa
  let Z1:List HO:=(Z0++[Hq c0,Hc h1z (x:=l_) h1 (loC yx l_ <| loN)])
  rcases zH aa with⟨c1,aa⟩|⟨c1,aa⟩
  ·obtain rfl:=za aa
   exact yE X0 hC hE (Z1++[Hq c1])
  ·obtain⟨al,h2,aa⟩:=zb aa
   let Z2:List HO:=(Z1++[Hq c1,Hc h0n (x:=l_) h2 (loC yx l_ <| loN)])
   rcases zH aa with⟨c2,aa⟩|⟨c2,aa⟩
   ·obtain rfl:=za aa
    exact yE X0 hC hE (Z2++[Hq c2])
   ·obtain rfl:=za aa
    exact yE X0 hC hE (Z2++[Hq c2])
def z5M:Code:=(Tryz.f49.body).getD .skip
def jW:zK:=spF (α:=z6×List (List Int)) (ρ:=Int) 49 (fun x=>[zD x.1,yx x.2]) (fun r=>(eI .i64) r) (fun x=>kK x.1 x.2) [] (Qm)
theorem z6o (hC:zx Tryz.prog ctr)(h0i:ctr.Has wY)(h1A:ctr.Has Q4):jW.Ok Tryz.prog:=by
 refine zw ?_
 rintro⟨m_,l_⟩ r0 aa
 try unfold kK at aa
 refine yO true [(4,none)] z5M 15 Tryz.func49 fun E hE=>?_
 obtain⟨r_,h0,aa⟩:=zb aa
 let Z0:List HO:=[Hc h0i (x:=m_) h0 (loC zD m_ <| loN)]
 rcases zH aa with⟨c0,aa⟩|⟨c0,aa⟩
 ·obtain rfl:=za aa
  exact yE X0 hC hE (Z0++[Hq c0])
 ·obtain⟨ai,h1,aa⟩:=zb aa
  obtain rfl:=za aa
  exact yE X0 hC hE (Z0++[Hq c0,Hc h1A (x:=(l_,m_.Inputs)) h1 (loC yx l_ <| loC (eI .i64) m_.Inputs <| loN)])
def z2Z:Code:=(Tryz.f112.body).getD .skip
def Xt:zK:=spF (α:=z6×Int) (ρ:=Int) 112 (fun x=>[zD x.1,(eI .i64) x.2]) (fun r=>(eI .i64) r) (fun x=>ZD x.1 x.2) [] (Qm)
theorem z3W (hC:zx Tryz.prog ctr)(h02:ctr.Has xw):Xt.Ok Tryz.prog:=by
 refine zw ?_
 rintro⟨m_,s_⟩ r0 aa
 try unfold ZD at aa
 refine yO true [(4,none)] z2Z 20 Tryz.func112 fun E hE=>?_
 obtain⟨r_,h0,aa⟩:=zb aa
 let Z0:List HO:=[Hc h02 (x:=m_) h0 (loC zD m_ <| loN)]
 rcases zH aa with⟨c0,aa⟩|⟨c0,aa⟩
 ·obtain rfl:=za aa
  exact yE X0 hC hE (Z0++[Hq c0])
 ·rcases zH aa with⟨c1,aa⟩|⟨c1,aa⟩
  ·obtain rfl:=za aa
   exact yE X0 hC hE (Z0++(Hq c0::(rpN 6 (Hq c1) [qT])))
  ·let Z1:List HO:=(Z0++(Hq c0::(rpN 4 (Hq c1) [Ha (lnM yI m_.Rows),Hq c1,Hq c1])))
   rcases zH aa with⟨c2,aa⟩|⟨c2,aa⟩
   ·obtain rfl:=za aa
    exact yE X0 hC hE (Z1++[Hq c2])
   ·obtain rfl:=za aa
    exact yE X0 hC hE (Z1++[Hq c2])
def X7:Code:=(Tryz.f114.body).getD .skip
def Vt:zK:=spF (α:=z6×Int×List Int) (ρ:=List Int×Int) 114 (fun x=>[zD x.1,(eI .i64) x.2.1,F6_ x.2.2]) (fun r=>.opq (kT [some (F3_ r.1),some ((eI .i64) r.2)])) (fun x=>W6 x.1 x.2.1 x.2.2) [] (zad)
abbrev z2m (a6:Int)(out:List Int):List (Nat×T):=[(1,.d (I a6)),(8,.own (eOs 1 true (eI .i64) out))]
abbrev z2l (m_:z6)(w_:List Int)(ah:List Int)(ar:Int)(em:Int)(iu:Int):List (Nat×T):=[(3,.own (.box (zD m_))),(8,.own (eOs 1 true (eI .i64) ah)),(9,.d (I ar)),(11,.own (.box (.agg [I em,I iu]))),(15,.d (eSl 1 false (eI .i64) w_)),(16,.d (I ((w_.length:Nat):Int))),(17,.d (I ar))]
abbrev z2k (m_:z6)(w_:List Int)(bh:Int)(ah:List Int)(ar:Int):List (Nat×T):=[(1,.d (I bh)),(3,.own (.box (zD m_))),(8,.own (eOs 1 true (eI .i64) ah)),(15,.d (eSl 1 false (eI .i64) w_)),(16,.d (I ((w_.length:Nat):Int))),(17,.d (I ar))]
theorem z6j (hC:zx Tryz.prog ctr)(h0g:ctr.Has qu):Vt.Ok Tryz.prog:=by
 refine zw ?_
 rintro⟨m_,s_,w_⟩ r0 aa
 try unfold W6 at aa
 refine z1R (tt:=yb) (rs:=[(true,6,none),(false,7,none)]) (n:=⟨43,[]⟩) (body:=X7) zt Tryz.func114 rfl (by kernel_rfl) rfl rfl (by show(3:Nat)<=43;decide) fun E hE=>?_
 obtain⟨g0,aa⟩:=gdE aa
 refine yJ X0 hC X7 [1,1] [] [1,8] (fun z:Int×List Int=>YS z.1 z.2=some r0) (fun z=>z2m z.1 z.2) [(1,.d (I s_)),(2,.d (eSl 1 false (eI .i64) w_)),(3,.own (.box (zD m_))),(8,.own (eOs 1 true (eI .i64) (List.replicate ((w_.length:Nat):Int).toNat (0:Int))))] [Ha (lnM (eI .i64) w_),Hn (rL g0),Ha (rM 1 (eI .i64) ((w_.length:Nat):Int) (0:Int)),Hh (.cut 0)] ?_ fun J1 aq=>?_
 ·rintro⟨a6,out⟩ aa
  unfold YS at aa
  obtain rfl:=za aa
  let ZE:List HO:=[]
  exact WJ X0 zt hC Zp hE 4000 (hs:=hoH ZE) (x:=(.opq (kT [some (eOs 1 true (eI .i64) out),some (I a6)]))) (hoB ZE) (by kernel_rfl) (LeV.refl _)
 ·obtain⟨t2,ht2,aa⟩:=zb aa
  refine yL X0 hC X7 [1,1,2,1,0] [J1] (fun s=>YR m_ w_ s.1 s.2.1 s.2.2) (fun x=>z2k m_ w_ x.1 x.2.1 x.2.2) (s_,(List.replicate ((w_.length:Nat):Int).toNat (0:Int)),0) ht2  [Ha (lnM (eI .i64) w_)] ?_
  rintro⟨bh,ah,ar⟩ m2 au ae hl1 J2 ax
  try unfold YR at ae
  rcases zH ae with⟨c0,ae⟩|⟨c0,ae⟩
  ·obtain⟨fm,h0,ae⟩:=zb ae
   obtain⟨r_,h1,ae⟩:=zb ae
   refine yJ X0 hC X7 [1,1,2,1,0,0,1,1,0,0,1,1] [J1,J2] [3,8,9,11,15,16,17] (fun z:Int×Int=>kJ ah ar z.1 z.2=some au) (fun z=>z2l m_ w_ ah ar z.1 z.2) [(1,.d (I bh)),(3,.own (.box (zD m_))),(8,.own (eOs 1 true (eI .i64) ah)),(9,.d (I ar)),(10,.d (I fm)),(11,.own (.box (F8_ r_))),(15,.d (eSl 1 false (eI .i64) w_)),(16,.d (I ((w_.length:Nat):Int))),(17,.d (I ar))] [Hq c0,Hi (eI .i64) h0,Hc h0g (x:=()) h1 (loN),Hh (.cut 0)] ?_ fun J3 ba=>?_
   ·rintro⟨em,iu⟩ ae
    unfold kJ at ae
    obtain⟨bz,h2,ae⟩:=zb ae
    obtain rfl:=za ae
    exact yB X0 hC ax (em,(ah.set ar.toNat iu),w64 (ar+1)) hl1 [Hn (iL (eI .i64) h2),Hs (iM (eI .i64) h2),Hs (iM (eI .i64) h2),Hl (sM (eI .i64) ah ar iu)]
   ·rcases zH ae with⟨c1,ae⟩|⟨c1,ae⟩
    ·obtain⟨ap,h3,ae⟩:=zb ae
     obtain⟨ak,h4,ae⟩:=zb ae
     exact yB X0 hC ba (ak.To,ak.Out) ae [Hq c1,Hi yI h3,Hi F8_ h4]
    ·exact yB X0 hC ba (r_.To,r_.Out) ae [Hq c1]
  ·obtain rfl:=za ae
   obtain rfl:=hl1
   exact yB X0 hC aq (bh,ah) aa [Hq c0]
def z5K:Code:=(Tryz.f79.body).getD .skip
def Vu:zK:=spF (α:=z6×Int×List Int) (ρ:=List Int×Int) 79 (fun x=>[zD x.1,(eI .i64) x.2.1,F6_ x.2.2]) (fun r=>.opq (kT [some (F3_ r.1),some ((eI .i64) r.2)])) (fun x=>W7 x.1 x.2.1 x.2.2) [] (zad)
theorem z6k (hC:zx Tryz.prog ctr)(h1B:ctr.Has Xt)(h0u:ctr.Has XF)(h1C:ctr.Has Vt):Vu.Ok Tryz.prog:=by
 refine zw ?_
 rintro⟨m_,s_,w_⟩ r0 aa
 try unfold W7 at aa
 refine z1R (tt:=yb) (rs:=[(true,6,none),(false,7,none)]) (n:=⟨33,[]⟩) (body:=z5K) zt Tryz.func79 rfl (by kernel_rfl) rfl rfl (by show(3:Nat)<=33;decide) fun E hE=>?_
 obtain⟨r_,h0,aa⟩:=zb aa
 let Z0:List HO:=[Hc h1B (x:=(m_,s_)) h0 (loC zD m_ <| loC (eI .i64) s_ <| loN)]
 rcases zH aa with⟨c0,aa⟩|⟨c0,aa⟩
 ·obtain rfl:=za aa
  let ZE:List HO:=(Z0++[Hq c0])
  exact WJ X0 zt hC Zp hE 4000 (hs:=hoH ZE) (x:=(.opq (kT [some (eOs 1 true (eI .i64) []),some (I r_)]))) (hoB ZE) (by kernel_rfl) (show LeV (.opq (kT [some (eOs 1 true (eI .i64) []),some (I r_)])) (.opq (kT [some (eOs 1 true (eI .i64) ([]:List Int)),some (I r_)])) from inferInstance)
 ·obtain⟨ai,h1,aa⟩:=zb aa
  let Z1:List HO:=(Z0++[Hq c0,Hc h0u (x:=(w_,m_.Inputs)) h1 (loC F6_ w_ <| loC (eI .i64) m_.Inputs <| loN)])
  rcases zH aa with⟨c1,aa⟩|⟨c1,aa⟩
  ·obtain rfl:=za aa
   let ZE:List HO:=(Z1++[Hq c1])
   exact WJ X0 zt hC Zp hE 4000 (hs:=hoH ZE) (x:=(.opq (kT [some (eOs 1 true (eI .i64) []),some (I ai)]))) (hoB ZE) (by kernel_rfl) (show LeV (.opq (kT [some (eOs 1 true (eI .i64) []),some (I ai)])) (.opq (kT [some (eOs 1 true (eI .i64) ([]:List Int)),some (I ai)])) from inferInstance)
  ·obtain⟨al,h2,aa⟩:=zb aa
   obtain rfl:=za aa
   let ZE:List HO:=(Z1++[Hq c1,Hc h1C (x:=(m_,s_,w_)) h2 (loC zD m_ <| loC (eI .i64) s_ <| loC F6_ w_ <| loN),Hn (⟨rfl,rfl⟩:T.own (.opq (kT [some (eOs 1 true (eI .i64) al.1),some (I al.2)]))=T.own (.opq (kT [some (eOs 1 true (eI .i64) al.1),some (I al.2)]))/\1=1),Hn (⟨rfl,rfl⟩:T.own (.opq (kT [none,some (I al.2)]))=T.own (.opq (kT [none,some (I al.2)]))/\1=1)])
   exact WJ ((Zx Tryz.prog 31 [none,some (I al.2)]).or ((Zx Tryz.prog 30 [some (eOs 1 true (eI .i64) al.1),some (I al.2)]).or X0)) zt hC Zp hE 4000 (hs:=hoH ZE) (x:=(.opq (kT [some (eOs 1 true (eI .i64) al.1),some (I 0)]))) (hoB ZE) (by kernel_rfl) (LeV.refl _)
def VY:Code:=(Tryz.f48.body).getD .skip
def yz:zK:=spR (α:=List (List Int)) (ρ:=List (List Int)) 48 (fun x=>[(eOs 1 false F3_) x]) (fun r=>F9_ r) (fun x=>xx x) [true] (WL)
theorem VR:∀x r,(fun x=>xx x) x=some r->(QA.add yz).run 48 ((QA.add yz).norm 48 ((fun x=>[(eOs 1 false F3_) x]) x))=some ((fun r=>F9_ r) r):=fun x r h=>zkB h rfl
theorem VT:(QA.add yz).lend 48=none/\(QA.add yz).gives 48=[true]:=zdo
theorem Uq (hC:zx Tryz.prog ctr):yz.Ok Tryz.prog:=by
 refine z8A ?_
 rintro s_ r0 aa
 try unfold xx at aa
 refine yO true [(2,none)] VY 9 Tryz.func48 fun E hE=>?_
 obtain rfl:=za aa
 exact yE ((xCl zt 8).or X0) hC hE [Ha (lnM F3_ s_),Ha (lnM F3_ s_),Hn (Int.natCast_nonneg _:(0:Int)<=((s_.length:Nat):Int)),Hn (Int.natCast_nonneg _:(0:Int)<=((s_.length:Nat):Int)),Hn (clB F3_ s_),Ha (clE 1 F3_ s_)]
def Ye:Code:=(Tryz.f50.body).getD .skip
def xT:zK:=spF (α:=z6×List (List Int)×Int) (ρ:=List (List Int)) 50 (fun x=>[zD x.1,yx x.2.1,(eI .i64) x.2.2]) (fun r=>F9_ r) (fun x=>xv x.1 x.2.1 x.2.2) [] (zad)
abbrev JP (out:List (List Int)):List (Nat×T):=[(7,.own (eOs 1 false F3_ out))]
abbrev JO (m_:z6)(l_:List (List Int))(s_:Int)(ah:List (List Int))(cg:Int):List (Nat×T):=[(2,.d (I s_)),(3,.own (.box (zD m_))),(7,.own (eOs 1 false F3_ ah)),(12,.d (eSl 1 false F6_ l_)),(13,.d (I ((l_.length:Nat):Int))),(14,.d (I cg))]
theorem z1v (hC:zx Tryz.prog ctr)(h1D:ctr.Has Vu):xT.Ok Tryz.prog:=by
 refine zw ?_
 rintro⟨m_,l_,s_⟩ r0 aa
 try unfold xv at aa
 refine yO true [(6,none)] Ye 32 Tryz.func50 fun E hE=>?_
 refine yJ X0 hC Ye [1,1] [] [7] (fun z:List (List Int)=>qe z=some r0) (fun z=>JP z) [(1,.d (eSl 1 false F6_ l_)),(2,.d (I s_)),(3,.own (.box (zD m_))),(7,.own (eOs 1 true F6_ []))] [Hh (.cut 2)] ?_ fun J1 aq=>?_
 ·rintro out aa
  unfold qe at aa
  obtain⟨r_,h0,aa⟩:=zb aa
  obtain rfl:=za aa
  exact yE ((z2z zt (Uq hC) 31).or X0) hC hE [Hh (.g [true]),Hn VT,Hx (.a (F9_ r_)) (VR out _ h0)]
 ·obtain⟨t2,ht2,aa⟩:=zb aa
  refine yLx X0 hC Ye [1,1,2,1,0] [J1] (fun s=>yD m_ l_ s_ s.1 s.2) (fun x=>JO m_ l_ s_ x.1 x.2) (([]:List (List Int)),0) ht2 [(2,.d (I s_)),(3,.own (.box (zD m_))),(7,.own (eOs 1 true F3_ [])),(12,.d (eSl 1 false F6_ l_)),(13,.d (I ((l_.length:Nat):Int))),(14,.d (I 0))] inferInstance [Ha (lnM F6_ l_)] ?_
  rintro⟨ah,cg⟩ m2 au ae hl1 J2 ax
  try unfold yD at ae
  rcases zH ae with⟨c0,ae⟩|⟨c0,ae⟩
  ·obtain⟨bk,h1,ae⟩:=zb ae
   obtain⟨ai,h2,ae⟩:=zb ae
   obtain⟨g0,ae⟩:=gdE ae
   obtain rfl:=za ae
   exact yB ((Zx Tryz.prog 24 [none,some (I ai.2)]).or ((Zx Tryz.prog 23 [some (eOs 1 true (eI .i64) ai.1),some (I ai.2)]).or X0)) hC ax ((ah++([ai.1]:List (List Int))),w64 (cg+1)) hl1 [Hq c0,Hi F6_ h1,Hc h1D (x:=(m_,s_,bk)) h2 (loC zD m_ <| loC (eI .i64) s_ <| loC F6_ bk <| loN),Hn (⟨rfl,rfl⟩:T.own (.opq (kT [some (eOs 1 true (eI .i64) ai.1),some (I ai.2)]))=T.own (.opq (kT [some (eOs 1 true (eI .i64) ai.1),some (I ai.2)]))/\1=1),Hn (⟨rfl,rfl⟩:T.own (.opq (kT [none,some (I ai.2)]))=T.own (.opq (kT [none,some (I ai.2)]))/\1=1),Hq (oC F3_ ai.1 []),Hn (aL F3_ F3_ g0),Hl (aM F3_ ah ([ai.1]:List (List Int)))]
  ·obtain rfl:=za ae
   obtain rfl:=hl1
   exact yB X0 hC aq ah aa [Hq c0]
def z0T:Code:=(Tryz.f22.body).getD .skip
def uW:zK:=spF (α:=z6×List (List Int)×Int) (ρ:=List (List Int)×Int) 22 (fun x=>[zD x.1,yx x.2.1,(eI .i64) x.2.2]) (fun r=>.opq (kT [some (F9_ r.1),some ((eI .i64) r.2)])) (fun x=>vD x.1 x.2.1 x.2.2) [] (zad)
theorem z1y (hC:zx Tryz.prog ctr)(h0j:ctr.Has jW)(h08:ctr.Has xT):uW.Ok Tryz.prog:=by
 refine zw ?_
 rintro⟨m_,l_,s_⟩ r0 aa
 try unfold vD at aa
 refine z1R (tt:=yb) (rs:=[(true,6,none),(false,7,none)]) (n:=⟨28,[]⟩) (body:=z0T) zt Tryz.func22 rfl (by kernel_rfl) rfl rfl (by show(3:Nat)<=28;decide) fun E hE=>?_
 obtain⟨r_,h0,aa⟩:=zb aa
 let Z0:List HO:=[Hc h0j (x:=(m_,l_)) h0 (loC zD m_ <| loC yx l_ <| loN)]
 rcases zH aa with⟨c0,aa⟩|⟨c0,aa⟩
 ·obtain rfl:=za aa
  let ZE:List HO:=(Z0++[Hq c0])
  exact WJ X0 zt hC Zp hE 4000 (hs:=hoH ZE) (x:=(.opq (kT [some (eOs 1 true F3_ []),some (I r_)]))) (hoB ZE) (by kernel_rfl) (show LeV (.opq (kT [some (eOs 1 true F3_ []),some (I r_)])) (.opq (kT [some (eOs 1 true F3_ ([]:List (List Int))),some (I r_)])) from inferInstance)
 ·rcases zH aa with⟨c1,aa⟩|⟨c1,aa⟩
  ·obtain rfl:=za aa
   let ZE:List HO:=(Z0++(Hq c0::(rpN 6 (Hq c1) [qT])))
   exact WJ X0 zt hC Zp hE 4000 (hs:=hoH ZE) (x:=(.opq (kT [some (eOs 1 true F3_ []),some (I 1)]))) (hoB ZE) (by kernel_rfl) (show LeV (.opq (kT [some (eOs 1 true F3_ []),some (I 1)])) (.opq (kT [some (eOs 1 true F3_ ([]:List (List Int))),some (I 1)])) from inferInstance)
  ·let Z1:List HO:=(Z0++(Hq c0::(rpN 4 (Hq c1) [Ha (lnM yI m_.Rows),Hq c1,Hq c1])))
   rcases zH aa with⟨c2,aa⟩|⟨c2,aa⟩
   ·obtain rfl:=za aa
    let ZE:List HO:=(Z1++[Hq c2])
    exact WJ X0 zt hC Zp hE 4000 (hs:=hoH ZE) (x:=(.opq (kT [some (eOs 1 true F3_ []),some (I 1)]))) (hoB ZE) (by kernel_rfl) (show LeV (.opq (kT [some (eOs 1 true F3_ []),some (I 1)])) (.opq (kT [some (eOs 1 true F3_ ([]:List (List Int))),some (I 1)])) from inferInstance)
   ·obtain⟨ai,h1,aa⟩:=zb aa
    obtain rfl:=za aa
    let ZE:List HO:=(Z1++[Hq c2,Hc h08 (x:=(m_,l_,s_)) h1 (loC zD m_ <| loC yx l_ <| loC (eI .i64) s_ <| loN)])
    exact WJ X0 zt hC Zp hE 4000 (hs:=hoH ZE) (x:=(.opq (kT [some (eOs 1 true F3_ ai),some (I 0)]))) (hoB ZE) (by kernel_rfl) (LeV.refl _)
def z5N:Code:=(Tryz.f51.body).getD .skip
def wZ:zK:=spF (α:=Int) (ρ:=Int) 51 (fun x=>[(eI .i64) x]) (fun r=>(z07 80 (eSp (eI .i64))) r) (fun x=>kL x) [] (WL)
theorem z6p (hC:zx Tryz.prog ctr):wZ.Ok Tryz.prog:=by
 refine zw ?_
 rintro n_ r0 aa
 try unfold kL at aa
 refine yO true [(2,none)] z5N 4 Tryz.func51 fun E hE=>?_
 obtain rfl:=za aa
 exact yE X0 hC hE []
def Zn:Code:=(Tryz.f80.body).getD .skip
abbrev z0n (x0:Int)(YY:σ->z79)(x6:Int)(ga:σ):List (Nat×T):=[(0,.own (.opq (YY ga).q)),(1,.d (.sptr (I x0))),(5,.d (I x0)),(6,.d (I x6))]
abbrev z0l (x0:Int)(YY:σ->z79)(x6:Int)(cx:σ)(b_:Int):List (Nat×T):=[(0,.own (.opq (YY cx).q)),(1,.d (.sptr (I x0))),(3,.d (I x6)),(4,.d (I b_)),(5,.d (I x0)),(6,.d (I x6))]
abbrev z0m (x0:Int)(YY:σ->z79)(ce:σ)(x6:Int):List (Nat×T):=[(0,.own (.opq (YY ce).q)),(1,.d (.sptr (I x0))),(5,.d (I x0)),(6,.d (I x6))]
theorem ZL (hC:zx Tryz.prog ctr)(x0:Int):zar Tryz.prog (.fn 80 [.sptr (I x0)]) (fun(x:Int×Int) (_:Bool) (_:Value)=>[(eI .i64) x.1,(eI .i64) x.2]) (@yG x0):=by
 refine z7Q (tt:=yb) (nt:=22) (body:=Zn) zt Tryz.func80 rfl (by kernel_rfl) rfl rfl (by show(2:Nat)<=22;decide) ?_
 intro σ yv YY yy hy sg r0 aa E hE
 unfold yG at aa
 obtain⟨t1,ht1,aa⟩:=zb aa
 refine yL X0 hC Zn [1,0] [] (fun s=>Zh x0 yy s.1 s.2) (fun x=>z0m x0 YY x.1 x.2) (sg,0) ht1  [] ?_
 rintro⟨ce,x6⟩ m1 au ae hl1 J1 aq
 try unfold Zh at ae
 rcases zH ae with⟨c0,ae⟩|⟨c0,ae⟩
 ·refine yJ X0 hC Zn [1,0,0,1,1] [J1] [0,1,5,6] (fun z:σ=>Zi x6 z=some au) (fun z=>z0n x0 YY x6 z) [(0,.own (.opq (YY ce).q)),(1,.d (.sptr (I x0))),(5,.d (I x0)),(6,.d (I x6))] [Hq c0,Hh (.cut 0)] ?_ fun J2 ax=>?_
  ·rintro ga ae
   unfold Zi at ae
   obtain rfl:=za ae
   exact yB X0 hC aq (ga,w64 (x6+1)) hl1 []
  ·obtain⟨t3,ht3,ae⟩:=zb ae
   refine yL X0 hC Zn [1,0,0,1,1,2,0,1,1,0] [J1,J2] (fun s=>uJ x0 yy x6 s.1 s.2) (fun x=>z0l x0 YY x6 x.1 x.2) (ce,w64 (x6+1)) ht3  [] ?_
   rintro⟨cx,b_⟩ m3 cq aj hl2 J3 ba
   try unfold uJ at aj
   rcases zH aj with⟨c1,aj⟩|⟨c1,aj⟩
   ·obtain⟨yr,h0,aj⟩:=zb aj
    let Z0:List HO:=[Hq c1,Hn (z7t (yv:=yv) (Y:=YY) (enc:=(fun(x:Int×Int) (_:Bool) (_:Value)=>[(eI .i64) x.1,(eI .i64) x.2])) (s:=cx) (x:=(x6,b_)) (s':=yr.1) (b:=yr.2) (v:=.nilFunc) [(eI .i64) x6,(eI .i64) b_] (show Jv [(eI .i64) x6,(eI .i64) b_] [(eI .i64) x6,(eI .i64) b_] from inferInstance))]
    rcases zH aj with⟨c2,aj⟩|⟨c2,aj⟩
    ·obtain rfl:=za aj
     obtain rfl:=hl2
     obtain rfl:=za ae
     obtain rfl:=hl1
     obtain rfl:=za aa
     exact yF ((z1m (P:=Tryz.prog) yb hy 19 (s:=cx) (x:=(x6,b_)) (s':=yr.1) (b:=yr.2) .nilFunc h0).or X0) hC .ret [(0,.own (.opq (YY yr.1).q))] (Z0++[Hq c2]) fun st0 h0=>hE _ st0 (.inr rfl) h0
    ·obtain rfl:=za aj
     exact yB ((z1m (P:=Tryz.prog) yb hy 19 (s:=cx) (x:=(x6,b_)) (s':=yr.1) (b:=yr.2) .nilFunc h0).or X0) hC ba (yr.1,w64 (b_+1)) hl2 (Z0++[Hq c2])
   ·obtain rfl:=za aj
    obtain rfl:=hl2
    exact yB X0 hC ax cx ae [Hq c1]
 ·obtain rfl:=za ae
  obtain rfl:=hl1
  obtain rfl:=za aa
  exact yF X0 hC .normal [(0,.own (.opq (YY ce).q))] [Hq c0] fun st0 h0=>hE _ st0 (.inl rfl) h0
def Kt:Code:=(Tryz.f81.body).getD .skip
def jX:zK:=spF (α:=List Int×List Int) (ρ:=Bool) 81 (fun x=>[F6_ x.1,F6_ x.2]) (fun r=>eB r) (fun x=>jI x.1 x.2) [] (Qm)
theorem z04 (hC:zx Tryz.prog ctr)(h0b:ctr.Has xG):jX.Ok Tryz.prog:=by
 refine zw ?_
 rintro⟨x_,y_⟩ r0 aa
 try unfold jI at aa
 refine yO true [(4,none)] Kt 8 Tryz.func81 fun E hE=>?_
 obtain⟨r_,h0,aa⟩:=zb aa
 obtain rfl:=za aa
 exact yE X0 hC hE [Hc h0b (x:=(x_,y_)) h0 (loC F6_ x_ <| loC F6_ y_ <| loN)]
def xq:Code:=(Tryz.f56.body).getD .skip
def xj:zK:=spF (α:=List (List Int)×List (List Int)×Unit) (ρ:=Bool) 56 (fun x=>[yx x.1,yx x.2.1,(zai 81) x.2.2]) (fun r=>eB r) (fun x=>yp x.1 x.2.1 x.2.2) [] (by
 rintro⟨a0,a1,a2⟩ ⟨b0,b1,b2⟩ h
 have e0:=Zw.inj (f:=yx) _ _ (List.cons.inj h).1
 replace h:=(List.cons.inj h).2
 have e1:=Zw.inj (f:=yx) _ _ (List.cons.inj h).1
 replace h:=(List.cons.inj h).2
 have e2:=Zw.inj (f:=(zai 81)) _ _ (List.cons.inj h).1
 subst e0 e1 e2
 rfl)
abbrev kR:List (Nat×T):=[]
abbrev kQ (s1:List (List Int))(s2:List (List Int))(ar:Int):List (Nat×T):=[(1,.d (eSl 1 false F6_ s2)),(2,.d (.fn 81 [])),(15,.d (eSl 1 false F6_ s1)),(16,.d (I ((s1.length:Nat):Int))),(17,.d (I ar))]
theorem Y0 (hC:zx Tryz.prog ctr)(h1E:ctr.Has jX):xj.Ok Tryz.prog:=by
 refine zw ?_
 rintro⟨s1,s2,eq⟩ r0 aa
 try unfold yp at aa
 refine yO true [(6,none)] xq 32 Tryz.func56 fun E hE=>?_
 let Z0:List HO:=[Ha (lnM F6_ s1),Ha (lnM F6_ s2)]
 rcases zH aa with⟨c0,aa⟩|⟨c0,aa⟩
 ·obtain rfl:=za aa
  exact yE X0 hC hE (Z0++[Hq c0])
 ·refine yJ X0 hC xq [1,1] [] [] (fun z:Unit=>xk=some r0) (fun z=>kR) [(0,.d (eSl 1 false F6_ s1)),(1,.d (eSl 1 false F6_ s2)),(2,.d (.fn 81 []))] (Z0++[Hq c0,Hh (.cut 0)]) ?_ fun J1 aq=>?_
  ·rintro⟨⟩ aa
   unfold xk at aa
   obtain rfl:=za aa
   exact yE X0 hC hE []
  ·obtain⟨t2,ht2,aa⟩:=zb aa
   refine yL X0 hC xq [1,1,2,1,0] [J1] (fun s=>zQ s1 s2 s) (fun x=>kQ s1 s2 x) 0 ht2  [Ha (lnM F6_ s1)] ?_
   rintro ar m2 au ae hl1 J2 ax
   try unfold zQ at ae
   rcases zH ae with⟨c1,ae⟩|⟨c1,ae⟩
   ·obtain⟨gb,h0,ae⟩:=zb ae
    obtain⟨dt,h1,ae⟩:=zb ae
    obtain⟨r_,h2,ae⟩:=zb ae
    let Z1:List HO:=[Hq c1,Hi F6_ h0,Hi F6_ h1,Hc h1E (x:=(gb,dt)) h2 (loC F6_ gb <| loC F6_ dt <| loN)]
    rcases zH ae with⟨c2,ae⟩|⟨c2,ae⟩
    ·obtain rfl:=za ae
     obtain rfl:=hl1
     obtain rfl:=za aa
     exact yE X0 hC hE (Z1++[Hq c2])
    ·obtain rfl:=za ae
     exact yB X0 hC ax (w64 (ar+1)) hl1 (Z1++[Hq c2])
   ·obtain rfl:=za ae
    obtain rfl:=hl1
    exact yB X0 hC aq () aa [Hq c1]
def z0S:Code:=(Tryz.f52.body).getD .skip
def v6:zK:=spF (α:=List (List Int)×List (List Int)) (ρ:=Bool) 52 (fun x=>[yx x.1,yx x.2]) (fun r=>eB r) (fun x=>wC x.1 x.2) [] (Qm)
theorem z1x (hC:zx Tryz.prog ctr)(h1F:ctr.Has xj):v6.Ok Tryz.prog:=by
 refine zw ?_
 rintro⟨a_,b_⟩ r0 aa
 try unfold wC at aa
 refine yO true [(4,none)] z0S 8 Tryz.func52 fun E hE=>?_
 obtain⟨r_,h0,aa⟩:=zb aa
 obtain rfl:=za aa
 exact yE X0 hC hE [Hc h1F (x:=(a_,b_,())) h0 (loC yx a_ <| loC yx b_ <| loC (zai 81) () <| loN)]
def wp:Code:=(Tryz.f18.body).getD .skip
def Yx:zK:=spF (α:=z6×List (List Int)) (ρ:=Bool×Int) 18 (fun x=>[zD x.1,yx x.2]) (fun r=>.tup [eB r.1,(eI .i64) r.2]) (fun x=>kM x.1 x.2) [] (Qm)
abbrev z2u:List (Nat×T):=[(4,.own (.box (B false))),(5,.own (.box (I 0)))]
abbrev jM (all:List (List (List Int)))(ai:Int):List (Nat×T):=[(4,.own (.box (B false))),(5,.own (.box (I 0))),(7,.own (.box (eOs 1 false kS all))),(34,.d (.fn 80 [.sptr (I ai)]))]
abbrev z2v (m_:z6)(all:List (List (List Int))):List (Nat×T):=[(2,.own (.box (zD m_))),(4,.own (.box (B false))),(5,.own (.box (I 0))),(7,.own (.box (eOs 1 false kS all)))]
abbrev z2t (m_:z6)(l_:List (List Int))(ie:List (List (List Int)))(jh:Int):List (Nat×T):=[(1,.d (eSl 1 false F6_ l_)),(2,.own (.box (zD m_))),(4,.own (.box (B false))),(5,.own (.box (I 0))),(7,.own (.box (eOs 1 false kS ie))),(19,.d (I ((m_.Rows.length:Nat):Int))),(20,.d (I jh))]
def yH:XH Tryz.prog:=((QG zt (.inl 28) [27]).or X0)
theorem z6r (hC:zx Tryz.prog ctr)(h0j:ctr.Has jW)(h08:ctr.Has xT)(h07:ctr.Has wZ)(h09:ctr.Has v6):Yx.Ok Tryz.prog:=by
 refine zw ?_
 rintro⟨m_,l_⟩ r0 aa
 try unfold kM at aa
 refine yO false [(4,some 4),(5,some 33)] wp 46 Tryz.func18 fun E hE=>?_
 obtain⟨r_,h0,aa⟩:=zb aa
 let Z0:List HO:=[Hc h0j (x:=(m_,l_)) h0 (loC zD m_ <| loC yx l_ <| loN)]
 rcases zH aa with⟨c0,aa⟩|⟨c0,aa⟩
 ·obtain rfl:=za aa
  exact yE yH hC hE (Z0++[Hq c0])
 ·refine yJ yH hC wp [1,1,1] [] [2,4,5,7] (fun z:List (List (List Int))=>X2 m_ z=some r0) (fun z=>z2v m_ z) [(1,.d (eSl 1 false F6_ l_)),(2,.own (.box (zD m_))),(4,.own (.box (B false))),(5,.own (.box (I 0))),(7,.own (.box (eOs 1 true yx [])))] (Z0++[Hq c0,Hh (.cut 1)]) ?_ fun J1 aq=>?_
  ·rintro all aa
   unfold X2 at aa
   refine yJ yH hC wp [1,1,1,1] [] [4,5] (fun z:Unit=>X1=some r0) (fun z=>z2u) [(2,.own (.box (zD m_))),(4,.own (.box (B false))),(5,.own (.box (I 0))),(7,.own (.box (eOs 1 false kS all)))] [Hh (.cut 0)] ?_ fun J2 ax=>?_
   ·rintro⟨⟩ aa
    unfold X1 at aa
    obtain rfl:=za aa
    exact yE yH hC hE []
   ·obtain⟨ai,h1,aa⟩:=zb aa
    obtain⟨t3,ht3,aa⟩:=zb aa
    refine yAt yH hC (sub [1,1,1,1,2,1,0] wp) (frs [1,1,1,1,2,1,0] [J2] wp []) [(4,.own (.box (B false))),(5,.own (.box (I 0))),(7,.own (.box (eOs 1 false kS all))),(34,.d (.fn 80 [.sptr (I ai)]))] [Ha (lnM yI m_.Rows),Hc h07 (x:=((m_.Rows.length:Nat):Int)) h1 (loC (eI .i64) ((m_.Rows.length:Nat):Int) <| loN)] fun st0 h0=>?_
    refine z0U (g:=.tmp 34) (ps:=[35,36]) (assign:=(sub [1,1,1,1,2,1,0,0] wp)) (body:=(sub [1,1,1,1,2,1,0,1] wp)) (K:=80) (caps:=[.sptr (I ai)]) (by kernel_rfl) [4,5,7,34] (fun s=>jM all ai) (fun s=>jM all ai) (fun s=>Code.ret) ((fun(x:Int×Int) (_:Bool) (_:Value)=>[(eI .i64) x.1,(eI .i64) x.2])) (F:=@yG ai) (fun s x=>uK all x.1 x.2) () t3 _ h0 inferInstance (by kernel_rfl) (by decide) (fun _=>rfl) (fun _=>rfl) (by kernel_rfl) (fun _ _ _=>rfl) (ZL hC ai) ht3 ?_ ?_
    ·rintro m0 ⟨⟩ ⟨lp,im⟩ vr au ae
     replace ae:uK all lp im=some au:=ae
     unfold uK at ae
     refine yF yH hC .normal [(4,.own (.box (B false))),(5,.own (.box (I 0))),(7,.own (.box (eOs 1 false kS all))),(9,.d (I lp)),(10,.d (I im)),(34,.d (.fn 80 [.sptr (I ai)]))] [] fun st0 h0=>⟨rfl,z87 h0 ?_⟩
     obtain⟨jx,h2,ae⟩:=zb ae
     obtain⟨jg,h3,ae⟩:=zb ae
     obtain⟨al,h4,ae⟩:=zb ae
     let Z1:List HO:=[Hn (iL kS h2),Hs (iM kS h2),Hn (iL kS h3),Hs (iM kS h3),Hc h09 (x:=(jx,jg)) h4 (loC kS jx <| loC kS jg <| loN)]
     rcases zH ae with⟨c1,ae⟩|⟨c1,ae⟩
     ·obtain rfl:=za ae
      exact yF yH hC .ret (jM all ai) (Z1++[Hq c1]) fun st0 h0=>⟨rfl,_,h0,LeL.refl _⟩
     ·obtain rfl:=za ae
      exact yF yH hC .normal (jM all ai) (Z1++[Hq c1]) fun st0 h0=>⟨rfl,_,h0,LeL.refl _⟩
    ·rcases t3 with⟨⟩|z
     ·dsimp only at aa
      exact Wf (by kernel_rfl) (ax _ [(4,.own (.box (B false))),(5,.own (.box (I 0)))] () aa (show Own.canon [4,5] _=ofL _ by kernel_rfl) inferInstance)
     ·obtain⟨⟩:=z
      dsimp only at aa
      show AWP _ _ (Code.ret) _ _
      obtain rfl:=za aa
      exact yE yH hC hE []
  ·obtain⟨t4,ht4,aa⟩:=zb aa
   refine yLx yH hC wp [1,1,1,2,1,0] [J1] (fun s=>wo m_ l_ s.1 s.2) (fun x=>z2t m_ l_ x.1 x.2) (([]:List (List (List Int))),0) ht4 [(1,.d (eSl 1 false F6_ l_)),(2,.own (.box (zD m_))),(4,.own (.box (B false))),(5,.own (.box (I 0))),(7,.own (.box (eOs 1 true kS []))),(19,.d (I ((m_.Rows.length:Nat):Int))),(20,.d (I 0))] inferInstance [Ha (lnM yI m_.Rows)] ?_
   rintro⟨ie,jh⟩ m4 au ae hl1 J4 bv
   try unfold wo at ae
   rcases zH ae with⟨c2,ae⟩|⟨c2,ae⟩
   ·obtain⟨am,h5,ae⟩:=zb ae
    obtain⟨g0,ae⟩:=gdE ae
    obtain rfl:=za ae
    exact yB yH hC bv ((ie++([am]:List (List (List Int)))),w64 (jh+1)) hl1 [Hq c2,Hc h08 (x:=(m_,l_,jh)) h5 (loC zD m_ <| loC yx l_ <| loC (eI .i64) jh <| loN),Hm (shM F3_ F2_ am),Hq (dM kS ([am]:List (List (List Int)))),Hn (dM kS ([am]:List (List (List Int)))),Hn (aL kS kS g0),Hl (aM kS ie ([am]:List (List (List Int))))]
   ·obtain rfl:=za ae
    obtain rfl:=hl1
    exact yB yH hC aq ie aa [Hq c2]
end Go.Own
end
