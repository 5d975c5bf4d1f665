/- -/
import Derived.Test.YtcodjgfoodacaaaGreatDoorPartE
noncomputable section
set_option linter.unusedVariables false
set_option linter.unusedSimpArgs false
namespace Go.Own
open Go.Proofs
set_option maxRecDepth 100000
set_option maxHeartbeats 8000000
def X0:XH Tryz.prog:=xB zt
theorem Zr:Tryz.prog.follows .mixedOrders=true:=by kernel_rfl
variable {σ:Type}{rs:List (Nat×Option Nat)}{J:St->Prop}{keep:Bool}{r:A}{τ:Type}
section
variable {ctr:Ctr}{n:Fr}{Q:Exit->St->Prop}{c:Code}{fs:List Fm}{st:St}
theorem yE (X:XH Tryz.prog)(hC:zx Tryz.prog ctr){E:St->Prop}    (hE:∀st x R U,zch yu keep rs st=some (x,R,U)->LeV x r->E st)(L:List HO)(e:ziK X yu ctr n keep rs 4000 c fs st (hoH L)=some (r,hoO L):=by kernel_rfl):AWP Tryz.prog n c st (Qf Tryz.prog n fs (zbc E)):=yE6 X zt hC Zr hE L e
theorem yEx (X:XH Tryz.prog)(hC:zx Tryz.prog ctr){E:St->Prop}    (hE:∀st x R U,zch yu keep rs st=some (x,R,U)->LeV x r->E st)(L:List HO)(x:A)(hle:LeV x r)(e:ziK X yu ctr n keep rs 4000 c fs st (hoH L)=some (x,hoO L):=by kernel_rfl):AWP Tryz.prog n c st (Qf Tryz.prog n fs (zbc E)):=zpm X zt hC Zr hE L x hle e
theorem yB (X:XH Tryz.prog)(hC:zx Tryz.prog ctr)   {live:List Nat}{S:τ->List (Nat×T)}{Inv:τ->Prop}(hJ:∀st' l' z,Inv z->Own.canon live st'=ofL l'->LeL l' (S z)->J st')(z:τ)(hz:Inv z)(L:List HO)(e:z5V X yu ctr n live 4000 c fs st (hoH L)=some (.back J,ofL (S z),hoO L):=by kernel_rfl):AWP Tryz.prog n c st (Qf Tryz.prog n fs Q):=yB6 X zt hC Zr hJ z hz L e
theorem yBx (X:XH Tryz.prog)(hC:zx Tryz.prog ctr)   {live:List Nat}{S:τ->List (Nat×T)}{Inv:τ->Prop}(hJ:∀st' l' z,Inv z->Own.canon live st'=ofL l'->LeL l' (S z)->J st')(z:τ)(hz:Inv z)(l:List (Nat×T))(hl:LeL l (S z))(L:List HO)(e:z5V X yu ctr n live 4000 c fs st (hoH L)=some (.back J,ofL l,hoO L):=by kernel_rfl):AWP Tryz.prog n c st (Qf Tryz.prog n fs Q):=zpn X zt hC Zr hJ z hz l hl L e
theorem yA (X:XH Tryz.prog)(hC:zx Tryz.prog ctr)(bd:Code)(path:List Nat)(Js:List (St->Prop))(l:List (Nat×T))(L:List HO)(h:AWP Tryz.prog n (sub path bd) (ofL l) (Qf Tryz.prog n (frs path Js bd []) Q))(e:z5V X yu ctr n (z0c l) 4000 c fs st (hoH L)=some (.at (sub path bd) (frs path Js bd []),ofL l,hoO L):=by kernel_rfl):AWP Tryz.prog n c st (Qf Tryz.prog n fs Q):=yA6 X zt hC Zr bd path Js l L e h
theorem yAt (X:XH Tryz.prog)(hC:zx Tryz.prog ctr)(c':Code)(fs':List Fm)(l:List (Nat×T))(L:List HO)(h:∀st0,Own.canon (z0c l) st0=ofL l->AWP Tryz.prog n c' st0 (Qf Tryz.prog n fs' Q))(e:z5V X yu ctr n (z0c l) 4000 c fs st (hoH L)=some (.at c' fs',ofL l,hoO L):=by kernel_rfl):AWP Tryz.prog n c st (Qf Tryz.prog n fs Q):=zpo X zt hC Zr c' fs' l L e h
theorem yLx (X:XH Tryz.prog)(hC:zx Tryz.prog ctr)(bd:Code)(path:List Nat)(Js:List (St->Prop)){σ τ:Type}(f:σ->Option (LR σ τ))(S:σ->List (Nat×T))(x0:σ){t:τ}(ht:loop f x0=some t)(l:List (Nat×T))(hl:LeL l (S x0))(L:List HO)(round:∀x m lr,f x=some lr->zmO f m t lr->∀J:St->Prop,(∀st' l' x',KC f m x'=some t->Own.canon (z0c l) st'=ofL l'->LeL l' (S x')->J st')->AWP Tryz.prog n (sub (path++[0]) bd) (ofL (S x)) (Qf Tryz.prog n (.pre J::frs path Js bd []) Q))(e:z5V X yu ctr n (z0c l) 4000 c fs st (hoH L)=some (.at (sub path bd) (frs path Js bd []),ofL l,hoO L):=by kernel_rfl)(e2:sub path bd=.loop (sub (path++[0]) bd):=by kernel_rfl)(hk:∀x,z0c (S x)=z0c l:=by exact fun _=>rfl):AWP Tryz.prog n c st (Qf Tryz.prog n fs Q):=yL6 X zt hC Zr bd path Js f S x0 ht l hl L hk e e2 round
theorem yL (X:XH Tryz.prog)(hC:zx Tryz.prog ctr)(bd:Code)(path:List Nat)(Js:List (St->Prop)){σ τ:Type}(f:σ->Option (LR σ τ))(S:σ->List (Nat×T))(x0:σ){t:τ}(ht:loop f x0=some t)(L:List HO)(round:∀x m lr,f x=some lr->zmO f m t lr->∀J:St->Prop,(∀st' l' x',KC f m x'=some t->Own.canon (z0c (S x0)) st'=ofL l'->LeL l' (S x')->J st')->AWP Tryz.prog n (sub (path++[0]) bd) (ofL (S x)) (Qf Tryz.prog n (.pre J::frs path Js bd []) Q))(e:z5V X yu ctr n (z0c (S x0)) 4000 c fs st (hoH L)=some (.at (sub path bd) (frs path Js bd []),ofL (S x0),hoO L):=by kernel_rfl)(e2:sub path bd=.loop (sub (path++[0]) bd):=by kernel_rfl)(hk:∀x,z0c (S x)=z0c (S x0):=by exact fun _=>rfl):AWP Tryz.prog n c st (Qf Tryz.prog n fs Q):=yL6 X zt hC Zr bd path Js f S x0 ht _ (LeL.refl _) L hk e e2 round
theorem yJ (X:XH Tryz.prog)(hC:zx Tryz.prog ctr)(bd:Code)(path:List Nat)(Js:List (St->Prop))  (live:List Nat)(Inv:σ->Prop)(S:σ->List (Nat×T))(l:List (Nat×T))(L:List HO)(h1:∀z,Inv z->AWP Tryz.prog n (sub (path++[1]) bd) (ofL (S z)) (Qf Tryz.prog n (frs path Js bd []) Q))(h2:∀J:St->Prop,(∀st' l' z,Inv z->Own.canon live st'=ofL l'->LeL l' (S z)->J st')->AWP Tryz.prog n (sub (path++[2]) bd) (ofL l) (Qf Tryz.prog n (.pre J::frs path Js bd []) Q))(e:z5V X yu ctr n (z0c l) 4000 c fs st (hoH L)=some (.at (sub path bd) (frs path Js bd []),ofL l,hoO L):=by kernel_rfl)(e2:sub path bd=.seq (sub (path++[2]) bd) (sub (path++[1]) bd):=by kernel_rfl):AWP Tryz.prog n c st (Qf Tryz.prog n fs Q):=yJ6 X zt hC Zr bd path Js live Inv S l L e e2 h1 h2
theorem yF (X:XH Tryz.prog)(hC:zx Tryz.prog ctr)(ex:Exit)(l:List (Nat×T))(L:List HO)(h:∀st0,Own.canon (z0c l) st0=ofL l->Q ex st0)(e:z5V X yu ctr n (z0c l) 4000 c fs st (hoH L)=some (.fin ex,ofL l,hoO L):=by kernel_rfl):AWP Tryz.prog n c st (Qf Tryz.prog n fs Q):=yF6 X zt hC Zr ex l L e h
theorem yO {k:Nat}{fn:Func}  {ls:List A}(keep:Bool)(rs:List (Nat×Option Nat))(body:Code)(nt:Nat)(hf:Tryz.prog.funcs[k]?=some fn)(h:∀E:St->Prop,(∀st x R U,zch yu keep rs st=some (x,R,U)->LeV x r->E st)->AWP Tryz.prog ⟨nt,[]⟩ body (ofL (zbi 0 ls)) (Qf Tryz.prog ⟨nt,[]⟩ [] (zbc E)))(hb:fn.body=some body:=by kernel_rfl)(hn:nt=fn.ntmps:=by exact rfl)(hr:fn.results=(rs.map z7U).toArray:=by exact rfl)(hnm:(fn.name == "runtime.NumGoroutine")=false:=by exact rfl)(ha:Nat.ble ls.length nt=true:=by kernel_rfl):UB Tryz.prog k ls r:=yO6 zt keep rs body nt hf hb hn hr hnm ha h
end
theorem z8o:zfY Tryz.prog 188 193 3 (z4v [.i64,.i64,.i64,.i64,.i64,.i64,.i64,.i64,.i64,.i64,.i64,.i64,.i64,.i64,.i64,.i64,.i64,.i64,.i64,.i64,.i64,.i64,.i64,.i64,.i64,.i64,.i64,.i64,.i64,.i64,.i64,.i64,.i64]) (.atom (.int .i64 0)):=zf0 Tryz.underlying188 _ Tryz.underlying193 (Go.Ex.zcU.eqn rfl) (z9T.eqn rfl) rfl ⟨.int .i64 0,fun w=>zdQ (f:=Tryz.t3) (by kernel_rfl) rfl w,fun S=>uE.2 ⟨rfl,rfl⟩⟩ rfl
theorem zi5:zb0 Tryz.prog 67 0 3 0:=zd7 Tryz.underlying67 _ rfl rfl rfl
theorem zjA:ziw Tryz.prog 118 1 false:=zex zt (t:=40) Tryz.so118 rfl rfl (by kernel_rfl) (by decide)
def z4S:Code:=(Tryz.f69.body).getD .skip
def Va:zP:=spF (α:=List Int×Int) (ρ:=Int) 69 (fun x=>[F4_ x.1,(eI .i64) x.2]) (fun r=>(eI .i64) r) (fun x=>Yb x.1 x.2) [] (Qh)
variable {ctr:Ctr}
theorem z5x (hC:zx Tryz.prog ctr):Va.Ok Tryz.prog:=by
 refine zy ?_;rintro⟨l_,k_⟩ r0 aa;try unfold Yb at aa;refine yO true [(4,none)] z4S 14 Tryz.func69 fun E hE=>?_;rcases zG aa with⟨c0,aa⟩|⟨c0,aa⟩
 ·obtain⟨bw,h0,aa⟩:=zc aa
  obtain rfl:=za aa;exact yE X0 hC hE [Ha (lnM (eI .u16) l_),Hq c0,Hi (eI .u16) h0]
 ·obtain rfl:=za aa
  exact yE X0 hC hE [Ha (lnM (eI .u16) l_),Hq c0]
def y8:Code:=(Tryz.f35.body).getD .skip
def Qr:zP:=spF (α:=zD) (ρ:=z6) 35 (fun x=>[Kg x]) (fun r=>zL r) (fun x=>Q6 x) [] (Vr)
abbrev z3w (x_:zD)(gr:List (List z8)):List (Nat×T):=[(2,.own (.box (.agg [I 0,I 0,eOs 1 true yW []]))),(4,.own (.box (.agg [I (w64 (1+(w64 (Int.tmod x_.Inputs 3)))),I (w64 (1+(w64 (Int.tmod x_.Outputs 3)))),eOs 1 false jD gr])))]
abbrev z3v (x_:zD)(s_:Int)(gt:List (List z8)):List (Nat×T):=[(1,.own (.box (Kg x_))),(2,.own (.box (.agg [I 0,I 0,eOs 1 true yW []]))),(3,.d (I (w64 (1+(w64 (Int.tmod x_.States 6)))))),(4,.own (.box (.agg [I (w64 (1+(w64 (Int.tmod x_.Inputs 3)))),I (w64 (1+(w64 (Int.tmod x_.Outputs 3)))),eOs 1 false jD gt]))),(13,.d (I s_))]
abbrev z3u (x_:zD)(s_:Int)(i_:Int)(gu:List (List z8)):List (Nat×T):=[(1,.own (.box (Kg x_))),(2,.own (.box (.agg [I 0,I 0,eOs 1 true yW []]))),(3,.d (I (w64 (1+(w64 (Int.tmod x_.States 6)))))),(4,.own (.box (.agg [I (w64 (1+(w64 (Int.tmod x_.Inputs 3)))),I (w64 (1+(w64 (Int.tmod x_.Outputs 3)))),eOs 1 false jD gu]))),(13,.d (I s_)),(14,.d (I i_))]
abbrev z3r (x_:zD)(s_:Int)(cq:List (List z8))(i_:Int):List (Nat×T):=[(1,.own (.box (Kg x_))),(2,.own (.box (.agg [I 0,I 0,eOs 1 true yW []]))),(3,.d (I (w64 (1+(w64 (Int.tmod x_.States 6)))))),(4,.own (.box (.agg [I (w64 (1+(w64 (Int.tmod x_.Inputs 3)))),I (w64 (1+(w64 (Int.tmod x_.Outputs 3)))),eOs 1 false jD cq]))),(13,.d (I s_)),(14,.d (I i_))]
abbrev z3s (x_:zD)(eu:List (List z8))(s_:Int):List (Nat×T):=[(1,.own (.box (Kg x_))),(2,.own (.box (.agg [I 0,I 0,eOs 1 true yW []]))),(3,.d (I (w64 (1+(w64 (Int.tmod x_.States 6)))))),(4,.own (.box (.agg [I (w64 (1+(w64 (Int.tmod x_.Inputs 3)))),I (w64 (1+(w64 (Int.tmod x_.Outputs 3)))),eOs 1 false jD eu]))),(13,.d (I s_))]
abbrev z3x (x_:zD)(gb:List (List z8)):List (Nat×T):=[(1,.own (.box (Kg x_))),(2,.own (.box (.agg [I 0,I 0,eOs 1 true yW []]))),(3,.d (I (w64 (1+(w64 (Int.tmod x_.States 6)))))),(4,.own (.box (.agg [I (w64 (1+(w64 (Int.tmod x_.Inputs 3)))),I (w64 (1+(w64 (Int.tmod x_.Outputs 3)))),eOs 1 false jD gb])))]
abbrev z3t (x_:zD)(a7:Int)(gv:List (List z8)):List (Nat×T):=[(1,.own (.box (Kg x_))),(2,.own (.box (.agg [I 0,I 0,eOs 1 true yW []]))),(3,.d (I (w64 (1+(w64 (Int.tmod x_.States 6)))))),(4,.own (.box (.agg [I (w64 (1+(w64 (Int.tmod x_.Inputs 3)))),I (w64 (1+(w64 (Int.tmod x_.Outputs 3)))),eOs 1 false jD gv]))),(9,.d (I a7))]
abbrev z2M (x_:zD)(a6:List (List z8))(a7:Int)(k_:Int):List (Nat×T):=[(1,.own (.box (Kg x_))),(2,.own (.box (.agg [I 0,I 0,eOs 1 true yW []]))),(3,.d (I (w64 (1+(w64 (Int.tmod x_.States 6)))))),(4,.own (.box (.agg [I (w64 (1+(w64 (Int.tmod x_.Inputs 3)))),I (w64 (1+(w64 (Int.tmod x_.Outputs 3)))),eOs 1 false jD a6]))),(9,.d (I a7)),(12,.d (I k_))]
abbrev z2N (x_:zD)(a6:List (List z8))(a7:Int)(free:List Int):List (Nat×T):=[(1,.own (.box (Kg x_))),(2,.own (.box (.agg [I 0,I 0,eOs 1 true yW []]))),(3,.d (I (w64 (1+(w64 (Int.tmod x_.States 6)))))),(4,.own (.box (.agg [I (w64 (1+(w64 (Int.tmod x_.Inputs 3)))),I (w64 (1+(w64 (Int.tmod x_.Outputs 3)))),eOs 1 false jD a6]))),(9,.d (I a7)),(10,.own (eOs 1 false (eI .i64) free))]
abbrev z2L (x_:zD)(a6:List (List z8))(a7:Int)(ba:Int)(iy:List Int):List (Nat×T):=[(1,.own (.box (Kg x_))),(2,.own (.box (.agg [I 0,I 0,eOs 1 true yW []]))),(3,.d (I (w64 (1+(w64 (Int.tmod x_.States 6)))))),(4,.own (.box (.agg [I (w64 (1+(w64 (Int.tmod x_.Inputs 3)))),I (w64 (1+(w64 (Int.tmod x_.Outputs 3)))),eOs 1 false jD a6]))),(9,.d (I a7)),(10,.own (eOs 1 false (eI .i64) iy)),(11,.d (I ba))]
abbrev z2I (x_:zD)(a6:List (List z8))(a7:Int)(ee:List Int)(ba:Int):List (Nat×T):=[(1,.own (.box (Kg x_))),(2,.own (.box (.agg [I 0,I 0,eOs 1 true yW []]))),(3,.d (I (w64 (1+(w64 (Int.tmod x_.States 6)))))),(4,.own (.box (.agg [I (w64 (1+(w64 (Int.tmod x_.Inputs 3)))),I (w64 (1+(w64 (Int.tmod x_.Outputs 3)))),eOs 1 false jD a6]))),(9,.d (I a7)),(10,.own (eOs 1 false (eI .i64) ee)),(11,.d (I ba))]
abbrev z3q (x_:zD)(a6:List (List z8))(a7:Int):List (Nat×T):=[(1,.own (.box (Kg x_))),(2,.own (.box (.agg [I 0,I 0,eOs 1 true yW []]))),(3,.d (I (w64 (1+(w64 (Int.tmod x_.States 6)))))),(4,.own (.box (.agg [I (w64 (1+(w64 (Int.tmod x_.Inputs 3)))),I (w64 (1+(w64 (Int.tmod x_.Outputs 3)))),eOs 1 false jD a6]))),(9,.d (I a7))]
abbrev z3y (x_:zD)(gw:List (List z8)):List (Nat×T):=[(1,.own (.box (Kg x_))),(2,.own (.box (.agg [I 0,I 0,eOs 1 true yW []]))),(3,.d (I (w64 (1+(w64 (Int.tmod x_.States 6)))))),(4,.own (.box (.agg [I (w64 (1+(w64 (Int.tmod x_.Inputs 3)))),I (w64 (1+(w64 (Int.tmod x_.Outputs 3)))),eOs 1 false jD gw])))]
abbrev z2K (x_:zD)(bi:Int)(ge:List (List z8)):List (Nat×T):=[(1,.own (.box (Kg x_))),(2,.own (.box (.agg [I 0,I 0,eOs 1 true yW []]))),(3,.d (I (w64 (1+(w64 (Int.tmod x_.States 6)))))),(4,.own (.box (.agg [I (w64 (1+(w64 (Int.tmod x_.Inputs 3)))),I (w64 (1+(w64 (Int.tmod x_.Outputs 3)))),eOs 1 false jD ge]))),(5,.d (I bi))]
abbrev z2J (x_:zD)(bq:List (List z8))(bi:Int)(row:List z8):List (Nat×T):=[(1,.own (.box (Kg x_))),(2,.own (.box (.agg [I 0,I 0,eOs 1 true yW []]))),(3,.d (I (w64 (1+(w64 (Int.tmod x_.States 6)))))),(4,.own (.box (.agg [I (w64 (1+(w64 (Int.tmod x_.Inputs 3)))),I (w64 (1+(w64 (Int.tmod x_.Outputs 3)))),eOs 1 false jD bq]))),(5,.d (I bi)),(6,.own (eOs 2 false F8_ row))]
abbrev z2G (x_:zD)(bq:List (List z8))(bi:Int)(cb:List z8)(i3:Int):List (Nat×T):=[(1,.own (.box (Kg x_))),(2,.own (.box (.agg [I 0,I 0,eOs 1 true yW []]))),(3,.d (I (w64 (1+(w64 (Int.tmod x_.States 6)))))),(4,.own (.box (.agg [I (w64 (1+(w64 (Int.tmod x_.Inputs 3)))),I (w64 (1+(w64 (Int.tmod x_.Outputs 3)))),eOs 1 false jD bq]))),(5,.d (I bi)),(6,.own (eOs 2 false F8_ cb)),(7,.d (I i3))]
abbrev z2H (x_:zD)(bq:List (List z8))(bi:Int):List (Nat×T):=[(1,.own (.box (Kg x_))),(2,.own (.box (.agg [I 0,I 0,eOs 1 true yW []]))),(3,.d (I (w64 (1+(w64 (Int.tmod x_.States 6)))))),(4,.own (.box (.agg [I (w64 (1+(w64 (Int.tmod x_.Inputs 3)))),I (w64 (1+(w64 (Int.tmod x_.Outputs 3)))),eOs 1 false jD bq]))),(5,.d (I bi))]
theorem z7O (hC:zx Tryz.prog ctr)(h0z:ctr.Has Va):Qr.Ok Tryz.prog:=by
 refine zy ?_;rintro x_ r0 aa;try unfold Q6 at aa;refine yO false [(2,some 30)] y8 178 Tryz.func35 fun E hE=>?_;obtain⟨g0,aa⟩:=gdE aa;obtain⟨g1,aa⟩:=gdE aa;obtain⟨g2,aa⟩:=gdE aa;refine yJ X0 hC y8 [1,1,1] [] [1,2,3,4] (fun z:List (List z8)=>WF x_ z=some r0) (fun z=>z3y x_ z) [(1,.own (.box (Kg x_))),(2,.own (.box (.agg [I 0,I 0,eOs 1 true yW []]))),(3,.d (I (w64 (1+(w64 (Int.tmod x_.States 6)))))),(4,.own (.box (.agg [I (w64 (1+(w64 (Int.tmod x_.Inputs 3)))),I (w64 (1+(w64 (Int.tmod x_.Outputs 3)))),eOs 1 true yW []])))] [Hn g0,Hn g1,Hn g2,Hh (.cut 3)] ?_ fun J1 ar=>?_
 ·rintro gw aa
  unfold WF at aa;refine yJ X0 hC y8 [1,1,1,1] [] [1,2,3,4] (fun z:List (List z8)=>WE x_ z=some r0) (fun z=>z3x x_ z) [(1,.own (.box (Kg x_))),(2,.own (.box (.agg [I 0,I 0,eOs 1 true yW []]))),(3,.d (I (w64 (1+(w64 (Int.tmod x_.States 6)))))),(4,.own (.box (.agg [I (w64 (1+(w64 (Int.tmod x_.Inputs 3)))),I (w64 (1+(w64 (Int.tmod x_.Outputs 3)))),eOs 1 false jD gw])))] [Hh (.cut 0)] ?_ fun J2 ax=>?_
  ·rintro gb aa
   unfold WE at aa;refine yJ X0 hC y8 [1,1,1,1,1] [] [2,4] (fun z:List (List z8)=>WD x_ z=some r0) (fun z=>z3w x_ z) [(1,.own (.box (Kg x_))),(2,.own (.box (.agg [I 0,I 0,eOs 1 true yW []]))),(3,.d (I (w64 (1+(w64 (Int.tmod x_.States 6)))))),(4,.own (.box (.agg [I (w64 (1+(w64 (Int.tmod x_.Inputs 3)))),I (w64 (1+(w64 (Int.tmod x_.Outputs 3)))),eOs 1 false jD gb])))] [Hh (.cut 0)] ?_ fun J3 bh=>?_
   ·rintro gr aa
    unfold WD at aa;obtain rfl:=za aa;exact yE X0 hC hE [Hm (shM jD yW gr)]
   ·obtain⟨t4,ht4,aa⟩:=zc aa
    refine yL X0 hC y8 [1,1,1,1,1,2,1,0] [J3] (fun s=>Zj x_ s.1 s.2) (fun x=>z3s x_ x.1 x.2) (gb,0) ht4  [] ?_;rintro⟨eu,s_⟩ m4 av ae hl1 J4 ck;try unfold Zj at ae;rcases zG ae with⟨c0,ae⟩|⟨c0,ae⟩
    ·refine yJ X0 hC y8 [1,1,1,1,1,2,1,0,0,1] [J3,J4] [1,2,3,4,13] (fun z:List (List z8)=>WC s_ z=some av) (fun z=>z3v x_ s_ z) [(1,.own (.box (Kg x_))),(2,.own (.box (.agg [I 0,I 0,eOs 1 true yW []]))),(3,.d (I (w64 (1+(w64 (Int.tmod x_.States 6)))))),(4,.own (.box (.agg [I (w64 (1+(w64 (Int.tmod x_.Inputs 3)))),I (w64 (1+(w64 (Int.tmod x_.Outputs 3)))),eOs 1 false jD eu]))),(13,.d (I s_))] [Hq c0,Hh (.cut 0)] ?_ fun J5 dh=>?_
     ·rintro gt ae
      unfold WC at ae;obtain rfl:=za ae;exact yB X0 hC ck (gt,w64 (s_+1)) hl1 []
     ·obtain⟨t6,ik,ae⟩:=zc ae
      refine yL X0 hC y8 [1,1,1,1,1,2,1,0,0,1,2,0,1,0] [J3,J4,J5] (fun s=>Zi x_ s_ s.1 s.2) (fun x=>z3r x_ s_ x.1 x.2) (eu,0) ik  [] ?_;rintro⟨cq,i_⟩ m6 cw aj hl2 J6 cx;try unfold Zi at aj;rcases zG aj with⟨c1,aj⟩|⟨c1,aj⟩
      ·refine yJ X0 hC y8 [1,1,1,1,1,2,1,0,0,1,2,0,1,0,0,1] [J3,J4,J5,J6] [1,2,3,4,13,14] (fun z:List (List z8)=>YS i_ z=some cw) (fun z=>z3u x_ s_ i_ z) [(1,.own (.box (Kg x_))),(2,.own (.box (.agg [I 0,I 0,eOs 1 true yW []]))),(3,.d (I (w64 (1+(w64 (Int.tmod x_.States 6)))))),(4,.own (.box (.agg [I (w64 (1+(w64 (Int.tmod x_.Inputs 3)))),I (w64 (1+(w64 (Int.tmod x_.Outputs 3)))),eOs 1 false jD cq]))),(13,.d (I s_)),(14,.d (I i_))] [Hq c1,Hh (.cut 0)] ?_ fun J7 hJ7=>?_
       ·rintro gu aj
        unfold YS at aj;obtain rfl:=za aj;exact yB X0 hC cx (gu,w64 (i_+1)) hl2 []
       ·obtain⟨kb,h0,aj⟩:=zc aj
        obtain⟨jg,h1,aj⟩:=zc aj
        let Z0:List HO:=[Hn (iL jD h0),Hs (iM jD h0),Hs (iM jD h0),Hn (iL F8_ h1),Hs (iM jD h0),Hs (iM F8_ h1),Hs (iM jD h0),Hs (iM F8_ h1)];rcases zG aj with⟨c2,aj⟩|⟨c2,aj⟩
        ·obtain⟨fg,h2,aj⟩:=zc aj
         obtain⟨r_,h3,aj⟩:=zc aj;obtain⟨g3,aj⟩:=gdE aj;obtain⟨ez,h4,aj⟩:=zc aj;exact yB X0 hC hJ7 (cq.set s_.toNat (fg.set i_.toNat (z8.mk (Int.tmod r_ (w64 (1+(w64 (Int.tmod x_.States 6))))) ez.Out))) aj (Z0++[Hq c2,Hn (iL jD h2),Hs (iM jD h2),Hc h0z (x:=(x_.Edges,w64 ((w64 (s_*(w64 (1+(w64 (Int.tmod x_.Inputs 3))))))+i_))) h3 (loC F4_ x_.Edges <| loC (eI .i64) (w64 ((w64 (s_*(w64 (1+(w64 (Int.tmod x_.Inputs 3))))))+i_)) <| loN),Hn g3,Hs (iM jD h2),Hn (iL F8_ h4),Hs (iM jD h2),Hs (iM F8_ h4),Hs (iM jD h2),Hs (iM F8_ h4),Hs (iM jD h2),Hs (iM F8_ h4),Hl (sM F8_ fg i_ (z8.mk (Int.tmod r_ (w64 (1+(w64 (Int.tmod x_.States 6))))) ez.Out)),Hl (sM jD cq s_ (fg.set i_.toNat (z8.mk (Int.tmod r_ (w64 (1+(w64 (Int.tmod x_.States 6))))) ez.Out)))])
        ·exact yB X0 hC hJ7 cq aj (Z0++[Hq c2])
      ·obtain rfl:=za aj
       obtain rfl:=hl2;exact yB X0 hC dh cq ae [Hq c1]
    ·obtain rfl:=za ae
     obtain rfl:=hl1;exact yB X0 hC bh eu aa [Hq c0]
  ·obtain⟨t8,ht8,aa⟩:=zc aa
   refine yL X0 hC y8 [1,1,1,1,2,1,0] [J2] (fun s=>Zh x_ s.1 s.2) (fun x=>z3q x_ x.1 x.2) (gw,1) ht8  [] ?_;rintro⟨a6,a7⟩ m8 av ae hl1 J8 jo;try unfold Zh at ae;rcases zG ae with⟨c3,ae⟩|⟨c3,ae⟩
   ·refine yJ X0 hC y8 [1,1,1,1,2,1,0,0,1] [J2,J8] [1,2,3,4,9] (fun z:List (List z8)=>WB a7 z=some av) (fun z=>z3t x_ a7 z) [(1,.own (.box (Kg x_))),(2,.own (.box (.agg [I 0,I 0,eOs 1 true yW []]))),(3,.d (I (w64 (1+(w64 (Int.tmod x_.States 6)))))),(4,.own (.box (.agg [I (w64 (1+(w64 (Int.tmod x_.Inputs 3)))),I (w64 (1+(w64 (Int.tmod x_.Outputs 3)))),eOs 1 false jD a6]))),(9,.d (I a7))] [Hq c3,Hh (.cut 0)] ?_ fun J9 kw=>?_
    ·rintro gv ae
     unfold WB at ae;obtain rfl:=za ae;exact yB X0 hC jo (gv,w64 (a7+1)) hl1 []
    ·refine yJ X0 hC y8 [1,1,1,1,2,1,0,0,1,2,0,1] [J2,J8,J9] [1,2,3,4,9,10] (fun z:List Int=>XG x_ a6 a7 z=some av) (fun z=>z2N x_ a6 a7 z) [(1,.own (.box (Kg x_))),(2,.own (.box (.agg [I 0,I 0,eOs 1 true yW []]))),(3,.d (I (w64 (1+(w64 (Int.tmod x_.States 6)))))),(4,.own (.box (.agg [I (w64 (1+(w64 (Int.tmod x_.Inputs 3)))),I (w64 (1+(w64 (Int.tmod x_.Outputs 3)))),eOs 1 false jD a6]))),(9,.d (I a7)),(10,.own (eOs 1 true (eI .i64) []))] [Hh (.cut 1)] ?_ fun J10 hJ10=>?_
     ·rintro free ae
      unfold XG at ae;obtain⟨ix,h5,ae⟩:=zc ae;refine yJ X0 hC y8 [1,1,1,1,2,1,0,0,1,2,0,1,1,1] [J2,J8,J9] [1,2,3,4,9,12] (fun z:Int=>uk x_ a6 a7 z=some av) (fun z=>z2M x_ a6 a7 z) [(1,.own (.box (Kg x_))),(2,.own (.box (.agg [I 0,I 0,eOs 1 true yW []]))),(3,.d (I (w64 (1+(w64 (Int.tmod x_.States 6)))))),(4,.own (.box (.agg [I (w64 (1+(w64 (Int.tmod x_.Inputs 3)))),I (w64 (1+(w64 (Int.tmod x_.Outputs 3)))),eOs 1 false jD a6]))),(9,.d (I a7)),(10,.own (eOs 1 false (eI .i64) free)),(12,.d (I ix))] [Hn (iL (eI .i64) h5),Hs (iM (eI .i64) h5),Hh (.cut 0)] ?_ fun J11 hJ11=>?_
      ·rintro k_ ae
       unfold uk at ae;obtain⟨g4,ae⟩:=gdE ae;obtain⟨fh,h6,ae⟩:=zc ae;obtain⟨g5,ae⟩:=gdE ae;obtain⟨fc,h7,ae⟩:=zc ae;exact yB X0 hC kw (a6.set (w64 (Int.tdiv k_ (w64 (1+(w64 (Int.tmod x_.Inputs 3)))))).toNat (fh.set (Int.tmod k_ (w64 (1+(w64 (Int.tmod x_.Inputs 3))))).toNat (z8.mk a7 fc.Out))) ae [Hn g4,Hn (iL jD h6),Hs (iM jD h6),Hn g5,Hs (iM jD h6),Hn (iL F8_ h7),Hs (iM jD h6),Hs (iM F8_ h7),Hs (iM jD h6),Hs (iM F8_ h7),Hs (iM jD h6),Hs (iM F8_ h7),Hl (sM F8_ fh (Int.tmod k_ (w64 (1+(w64 (Int.tmod x_.Inputs 3))))) (z8.mk a7 fc.Out)),Hl (sM jD a6 (w64 (Int.tdiv k_ (w64 (1+(w64 (Int.tmod x_.Inputs 3)))))) (fh.set (Int.tmod k_ (w64 (1+(w64 (Int.tmod x_.Inputs 3))))).toNat (z8.mk a7 fc.Out)))]
      ·let Z1:List HO:=[Ha (lnM (eI .u8) x_.Tree)]
       rcases zG ae with⟨c4,ae⟩|⟨c4,ae⟩
       ·obtain⟨kj,h8,ae⟩:=zc ae
        obtain⟨g6,ae⟩:=gdE ae;obtain⟨jf,h9,ae⟩:=zc ae;exact yB X0 hC hJ11 jf ae (Z1++[Hq c4,Hi (eI .u8) h8,Ha (lnM (eI .i64) free),Hn g6,Hn (iL (eI .i64) h9),Hs (iM (eI .i64) h9)])
       ·exact yB X0 hC hJ11 ix ae (Z1++[Hq c4])
     ·obtain⟨t12,ht12,ae⟩:=zc ae
      refine yLx X0 hC y8 [1,1,1,1,2,1,0,0,1,2,0,1,2,1,0] [J2,J8,J9,J10] (fun s=>qZ x_ a6 a7 s.1 s.2) (fun x=>z2I x_ a6 a7 x.1 x.2) (([]:List Int),0) ht12 [(1,.own (.box (Kg x_))),(2,.own (.box (.agg [I 0,I 0,eOs 1 true yW []]))),(3,.d (I (w64 (1+(w64 (Int.tmod x_.States 6)))))),(4,.own (.box (.agg [I (w64 (1+(w64 (Int.tmod x_.Inputs 3)))),I (w64 (1+(w64 (Int.tmod x_.Outputs 3)))),eOs 1 false jD a6]))),(9,.d (I a7)),(10,.own (eOs 1 true (eI .i64) [])),(11,.d (I 0))] inferInstance [] ?_;rintro⟨ee,ba⟩ mj cw aj hl2 mi me;try unfold qZ at aj;rcases zG aj with⟨c5,aj⟩|⟨c5,aj⟩
      ·refine yJ X0 hC y8 [1,1,1,1,2,1,0,0,1,2,0,1,2,1,0,0,1] [J2,J8,J9,J10,mi] [1,2,3,4,9,10,11] (fun z:List Int=>ZD ba z=some cw) (fun z=>z2L x_ a6 a7 ba z) [(1,.own (.box (Kg x_))),(2,.own (.box (.agg [I 0,I 0,eOs 1 true yW []]))),(3,.d (I (w64 (1+(w64 (Int.tmod x_.States 6)))))),(4,.own (.box (.agg [I (w64 (1+(w64 (Int.tmod x_.Inputs 3)))),I (w64 (1+(w64 (Int.tmod x_.Outputs 3)))),eOs 1 false jD a6]))),(9,.d (I a7)),(10,.own (eOs 1 false (eI .i64) ee)),(11,.d (I ba))] [Hq c5,Hh (.cut 0)] ?_ fun J13 hJ13=>?_
       ·rintro iy aj
        unfold ZD at aj;obtain rfl:=za aj;exact yB X0 hC me (iy,w64 (ba+1)) hl2 []
       ·obtain⟨g7,aj⟩:=gdE aj
        obtain⟨jv,h10,aj⟩:=zc aj;obtain⟨g8,aj⟩:=gdE aj;obtain⟨iz,h11,aj⟩:=zc aj
        let Z2:List HO:=[Hn g7,Hn (iL jD h10),Hs (iM jD h10),Hn g8,Hs (iM jD h10),Hn (iL F8_ h11),Hs (iM jD h10),Hs (iM F8_ h11),Hs (iM jD h10),Hs (iM F8_ h11)];rcases zG aj with⟨c6,aj⟩|⟨c6,aj⟩
        ·obtain⟨g9,aj⟩:=gdE aj
         exact yB X0 hC hJ13 (ee++([ba]:List Int)) aj (Z2++[Hq c6,Hq (dM (eI .i64) ([ba]:List Int)),Hn (dM (eI .i64) ([ba]:List Int)),Hn (aL (eI .i64) (eI .i64) g9),Hl (aM (eI .i64) ee ([ba]:List Int))])
        ·exact yB X0 hC hJ13 ee aj (Z2++[Hq c6])
      ·obtain rfl:=za aj
       obtain rfl:=hl2;exact yB X0 hC hJ10 ee ae [Hq c5]
   ·obtain rfl:=za ae
    obtain rfl:=hl1;exact yB X0 hC ax a6 aa [Hq c3]
 ·obtain⟨mb,ht14,aa⟩:=zc aa
  refine yLx X0 hC y8 [1,1,1,2,1,0] [J1] (fun s=>qY x_ s.1 s.2) (fun x=>z2H x_ x.1 x.2) (([]:List (List z8)),0) ht14 [(1,.own (.box (Kg x_))),(2,.own (.box (.agg [I 0,I 0,eOs 1 true yW []]))),(3,.d (I (w64 (1+(w64 (Int.tmod x_.States 6)))))),(4,.own (.box (.agg [I (w64 (1+(w64 (Int.tmod x_.Inputs 3)))),I (w64 (1+(w64 (Int.tmod x_.Outputs 3)))),eOs 1 true jD []]))),(5,.d (I 0))] inferInstance [] ?_;rintro⟨bq,bi⟩ ml av ae hl1 l7 mf;try unfold qY at ae;rcases zG ae with⟨c7,ae⟩|⟨c7,ae⟩
  ·refine yJ X0 hC y8 [1,1,1,2,1,0,0,1] [J1,l7] [1,2,3,4,5] (fun z:List (List z8)=>XF bi z=some av) (fun z=>z2K x_ bi z) [(1,.own (.box (Kg x_))),(2,.own (.box (.agg [I 0,I 0,eOs 1 true yW []]))),(3,.d (I (w64 (1+(w64 (Int.tmod x_.States 6)))))),(4,.own (.box (.agg [I (w64 (1+(w64 (Int.tmod x_.Inputs 3)))),I (w64 (1+(w64 (Int.tmod x_.Outputs 3)))),eOs 1 false jD bq]))),(5,.d (I bi))] [Hq c7,Hh (.cut 0)] ?_ fun J15 hJ15=>?_
   ·rintro ge ae
    unfold XF at ae;obtain rfl:=za ae;exact yB X0 hC mf (ge,w64 (bi+1)) hl1 []
   ·refine yJ X0 hC y8 [1,1,1,2,1,0,0,1,2,0,1] [J1,l7,J15] [1,2,3,4,5,6] (fun z:List z8=>XE bq bi z=some av) (fun z=>z2J x_ bq bi z) [(1,.own (.box (Kg x_))),(2,.own (.box (.agg [I 0,I 0,eOs 1 true yW []]))),(3,.d (I (w64 (1+(w64 (Int.tmod x_.States 6)))))),(4,.own (.box (.agg [I (w64 (1+(w64 (Int.tmod x_.Inputs 3)))),I (w64 (1+(w64 (Int.tmod x_.Outputs 3)))),eOs 1 false jD bq]))),(5,.d (I bi)),(6,.own (eOs 2 true F8_ []))] [Hh (.cut 1)] ?_ fun J16 hJ16=>?_
    ·rintro row ae
     unfold XE at ae;obtain⟨g10,ae⟩:=gdE ae;exact yB X0 hC hJ15 (bq++([row]:List (List z8))) ae [Hq (oC jD row []),Hn (aL jD jD g10),Hl (aM jD bq ([row]:List (List z8)))]
    ·obtain⟨t17,ht17,ae⟩:=zc ae
     refine yLx X0 hC y8 [1,1,1,2,1,0,0,1,2,0,1,2,1,0] [J1,l7,J15,J16] (fun s=>qX x_ bi s.1 s.2) (fun x=>z2G x_ bq bi x.1 x.2) (([]:List z8),0) ht17 [(1,.own (.box (Kg x_))),(2,.own (.box (.agg [I 0,I 0,eOs 1 true yW []]))),(3,.d (I (w64 (1+(w64 (Int.tmod x_.States 6)))))),(4,.own (.box (.agg [I (w64 (1+(w64 (Int.tmod x_.Inputs 3)))),I (w64 (1+(w64 (Int.tmod x_.Outputs 3)))),eOs 1 false jD bq]))),(5,.d (I bi)),(6,.own (eOs 2 true F8_ [])),(7,.d (I 0))] inferInstance [] ?_;rintro⟨cb,i3⟩ mp cw aj hl2 mq mg;try unfold qX at aj;rcases zG aj with⟨c8,aj⟩|⟨c8,aj⟩
     ·obtain⟨ah,h12,aj⟩:=zc aj
      obtain⟨g11,aj⟩:=gdE aj;obtain⟨g12,aj⟩:=gdE aj;obtain⟨g13,aj⟩:=gdE aj;obtain rfl:=za aj;exact yB X0 hC mg ((cb++([(z8.mk (-1) (Int.tmod (w64 (Int.tdiv ah (w64 (1+(w64 (Int.tmod x_.States 6)))))) (w64 (1+(w64 (Int.tmod x_.Outputs 3))))))]:List z8)),w64 (i3+1)) hl2 [Hq c8,Hc h0z (x:=(x_.Edges,w64 ((w64 (bi*(w64 (1+(w64 (Int.tmod x_.Inputs 3))))))+i3))) h12 (loC F4_ x_.Edges <| loC (eI .i64) (w64 ((w64 (bi*(w64 (1+(w64 (Int.tmod x_.Inputs 3))))))+i3)) <| loN),Hn g11,Hn g12,Hq (dM F8_ ([(z8.mk (-1) (Int.tmod (w64 (Int.tdiv ah (w64 (1+(w64 (Int.tmod x_.States 6)))))) (w64 (1+(w64 (Int.tmod x_.Outputs 3))))))]:List z8)),Hn (dM F8_ ([(z8.mk (-1) (Int.tmod (w64 (Int.tdiv ah (w64 (1+(w64 (Int.tmod x_.States 6)))))) (w64 (1+(w64 (Int.tmod x_.Outputs 3))))))]:List z8)),Hn (aL F8_ F8_ g13),Hl (aM F8_ cb ([(z8.mk (-1) (Int.tmod (w64 (Int.tdiv ah (w64 (1+(w64 (Int.tmod x_.States 6)))))) (w64 (1+(w64 (Int.tmod x_.Outputs 3))))))]:List z8))]
     ·obtain rfl:=za aj
      obtain rfl:=hl2;exact yB X0 hC hJ16 cb ae [Hq c8]
  ·obtain rfl:=za ae
   obtain rfl:=hl1;exact yB X0 hC ar bq aa [Hq c7]
def XI:Code:=(Tryz.f137.body).getD .skip
def UL:zP:=spF (α:=z6×List (List Bool)×Int×Int) (ρ:=Int) 137 (fun x=>[zL x.1,(eSl 1 false (eSl 1 false eB)) x.2.1,(eI .i64) x.2.2.1,(eI .i64) x.2.2.2]) (fun r=>(eI .i64) r) (fun x=>Vj x.1 x.2.1 x.2.2.1 x.2.2.2) [] (zpU)
abbrev z2x:List (Nat×T):=[]
abbrev z2w (m_:z6)(au:List (List Bool))(s_:Int)(t_:Int)(i_:Int)(ln:Int)(lp:Bool)(lq:Bool)(lu:Bool)(lv:Bool)(jw:Bool):List (Nat×T):=[(1,.d (eSl 1 false (eSl 1 false eB) au)),(2,.d (I s_)),(3,.d (I t_)),(4,.own (.box (zL m_))),(9,.d (I i_)),(41,.d (I ln)),(42,.d (B lp)),(43,.d (B lq)),(47,.d (B lu)),(48,.d (B lv)),(58,.d (B jw))]
abbrev z2v (m_:z6)(au:List (List Bool))(s_:Int)(t_:Int)(i_:Int):List (Nat×T):=[(1,.d (eSl 1 false (eSl 1 false eB) au)),(2,.d (I s_)),(3,.d (I t_)),(4,.own (.box (zL m_))),(9,.d (I i_))]
theorem z6u (hC:zx Tryz.prog ctr):UL.Ok Tryz.prog:=by
 refine zy ?_;rintro⟨m_,au,s_,t_⟩ r0 aa;try unfold Vj at aa;refine yO true [(8,none)] XI 60 Tryz.func137 fun E hE=>?_;refine yJ X0 hC XI [1] [] [] (fun z:Unit=>UQ=some r0) (fun z=>z2x) [(1,.d (eSl 1 false (eSl 1 false eB) au)),(2,.d (I s_)),(3,.d (I t_)),(4,.own (.box (zL m_)))] [Hh (.cut 1)] ?_ fun J1 ar=>?_
 ·rintro⟨⟩ aa
  unfold UQ at aa;obtain rfl:=za aa;exact yE X0 hC hE []
 ·obtain⟨t2,ht2,aa⟩:=zc aa
  refine yL X0 hC XI [1,2,1,0] [J1] (fun s=>qU m_ au s_ t_ s) (fun x=>z2v m_ au s_ t_ x) 0 ht2  [] ?_;rintro i_ m2 av ae hl1 J2 ax;try unfold qU at ae;rcases zG ae with⟨c0,ae⟩|⟨c0,ae⟩
  ·refine yJ X0 hC XI [1,2,1,0,0,1] [J1,J2] [1,2,3,4,9,41,42,43,47,48,58] (fun z:Int×Bool×Bool×Bool×Bool×Bool=>qV i_ z.1 z.2.1 z.2.2.1 z.2.2.2.1 z.2.2.2.2.1 z.2.2.2.2.2=some av) (fun z=>z2w m_ au s_ t_ i_ z.1 z.2.1 z.2.2.1 z.2.2.2.1 z.2.2.2.2.1 z.2.2.2.2.2) [(1,.d (eSl 1 false (eSl 1 false eB) au)),(2,.d (I s_)),(3,.d (I t_)),(4,.own (.box (zL m_))),(9,.d (I i_))] [Hq c0,Hh (.cut 0)] ?_ fun J3 bh=>?_
   ·rintro⟨ln,lp,lq,lu,lv,jw⟩ ae
    unfold qV at ae;obtain rfl:=za ae;exact yB X0 hC ax (w64 (i_+1)) hl1 []
   ·obtain⟨am,h0,ae⟩:=zc ae
    obtain⟨ak,h1,ae⟩:=zc ae;obtain⟨ie,h2,ae⟩:=zc ae;obtain⟨bn,h3,ae⟩:=zc ae
    let Z0:List HO:=[Hi yW h0,Hi F8_ h1,Hi yW h2,Hi F8_ h3];rcases zG ae with⟨c1,ae⟩|⟨c1,ae⟩
    ·obtain rfl:=za ae
     obtain rfl:=hl1;obtain rfl:=za aa;exact yE X0 hC hE (Z0++(rpN 8 (Hq c1) [qT]))
    ·let Z1:List HO:=(Z0++(rpN 4 (Hq c1) []))
     rcases zG ae with⟨c2,ae⟩|⟨c2,ae⟩
     ·let Z2:List HO:=(Z1++[Hq c2,Hq c2,Hq c2,Hq c1,Hq c2,Hq c1])
      rcases zG ae with⟨c3,ae⟩|⟨c3,ae⟩
      ·obtain⟨du,h4,ae⟩:=zc ae
       obtain⟨cd,h5,ae⟩:=zc ae
       let Z3:List HO:=(Z2++(rpN 4 (Hq c3) (Hi (eSl 1 false eB) h4::(rpN 4 (Hq c3) [Hi eB h5,Hq c3,Hq c1,Hq c3,Hq c1]))));rcases zG ae with⟨c4,ae⟩|⟨c4,ae⟩
       ·obtain rfl:=za ae
        obtain rfl:=hl1;obtain rfl:=za aa;exact yE X0 hC hE (Z3++[Hq c4])
       ·exact yB X0 hC bh (ak.To,decide (ak.To>=0),decide (ak.To>=0),decide (bn.To>=0),decide (bn.To>=0),cd) ae (Z3++[Hq c4])
      ·exact yB X0 hC bh (ak.To,decide (ak.To>=0),decide (ak.To>=0),decide (bn.To>=0),decide (bn.To>=0),false) ae (Z2++(rpN 9 (Hq c3) [Hq c1,Hq c3,Hq c1,qF]))
     ·exact yB X0 hC bh (ak.To,decide (ak.To>=0),decide (ak.To>=0),false,false,false) ae (Z1++(Hq c2::Hq c2::Hq c2::Hq c1::Hq c2::Hq c1::(rpN 9 qF [Hq c1,qF,Hq c1,qF])))
  ·obtain rfl:=za ae
   obtain rfl:=hl1;exact yB X0 hC ar () aa [Hq c0]
def xE:Code:=(Tryz.f116.body).getD .skip
def V6:zP:=spF (α:=z6×Int) (ρ:=List (List Bool)) 116 (fun x=>[zL x.1,(eI .i64) x.2]) (fun r=>(eOs 1 false (eOs 1 true eB)) r) (fun x=>XO x.1 x.2) [] (Qh)
abbrev z1E (il:List (List Bool)):List (Nat×T):=[(6,.own (eOs 1 false (eOs 1 true eB) il))]
abbrev z1D (m_:z6)(k_:Int)(round:Int)(gx:List (List Bool)):List (Nat×T):=[(1,.d (I k_)),(2,.own (.box (zL m_))),(5,.d (I ((m_.Rows.length:Nat):Int))),(6,.own (eOs 1 false (eOs 1 true eB) gx)),(8,.d (I round))]
abbrev z1C (m_:z6)(k_:Int)(round:Int)(next:List (List Bool)):List (Nat×T):=[(1,.d (I k_)),(2,.own (.box (zL m_))),(5,.d (I ((m_.Rows.length:Nat):Int))),(8,.d (I round)),(9,.own (eOs 1 false (eOs 1 true eB) next))]
abbrev z1B (m_:z6)(k_:Int)(bc:List (List Bool))(round:Int)(s_:Int)(fe:List (List Bool)):List (Nat×T):=[(1,.d (I k_)),(2,.own (.box (zL m_))),(5,.d (I ((m_.Rows.length:Nat):Int))),(6,.d (eSl 1 false (eSl 1 true eB) bc)),(8,.d (I round)),(9,.own (eOs 1 false (eOs 1 true eB) fe)),(10,.d (I s_))]
abbrev z1y (m_:z6)(k_:Int)(bc:List (List Bool))(round:Int)(s_:Int)(bz:List (List Bool))(t_:Int):List (Nat×T):=[(1,.d (I k_)),(2,.own (.box (zL m_))),(5,.d (I ((m_.Rows.length:Nat):Int))),(6,.d (eSl 1 false (eSl 1 true eB) bc)),(8,.d (I round)),(9,.own (eOs 1 false (eOs 1 true eB) bz)),(10,.d (I s_)),(11,.d (I t_))]
abbrev z1z (m_:z6)(k_:Int)(bc:List (List Bool))(round:Int)(cm:List (List Bool))(s_:Int):List (Nat×T):=[(1,.d (I k_)),(2,.own (.box (zL m_))),(5,.d (I ((m_.Rows.length:Nat):Int))),(6,.d (eSl 1 false (eSl 1 true eB) bc)),(8,.d (I round)),(9,.own (eOs 1 false (eOs 1 true eB) cm)),(10,.d (I s_))]
abbrev z1A (m_:z6)(k_:Int)(bc:List (List Bool))(round:Int):List (Nat×T):=[(1,.d (I k_)),(2,.own (.box (zL m_))),(5,.d (I ((m_.Rows.length:Nat):Int))),(6,.own (eOs 1 false (eOs 1 true eB) bc)),(8,.d (I round))]
abbrev z1F (m_:z6)(k_:Int)(au:List (List Bool)):List (Nat×T):=[(1,.d (I k_)),(2,.own (.box (zL m_))),(5,.d (I ((m_.Rows.length:Nat):Int))),(6,.own (eOs 1 false (eOs 1 true eB) au))]
abbrev z1x (m_:z6)(k_:Int)(dz:List (List Bool))(a7:Int):List (Nat×T):=[(1,.d (I k_)),(2,.own (.box (zL m_))),(5,.d (I ((m_.Rows.length:Nat):Int))),(6,.own (eOs 1 false (eOs 1 true eB) dz)),(7,.d (I a7))]
theorem z5t (hC:zx Tryz.prog ctr)(h0I:ctr.Has UL):V6.Ok Tryz.prog:=by
 refine zy ?_;rintro⟨m_,k_⟩ r0 aa;try unfold XO at aa;refine yO true [(4,none)] xE 68 Tryz.func116 fun E hE=>?_;refine yJ X0 hC xE [1,1,1] [] [1,2,5,6] (fun z:List (List Bool)=>YG m_ k_ z=some r0) (fun z=>z1F m_ k_ z) [(1,.d (I k_)),(2,.own (.box (zL m_))),(5,.d (I ((m_.Rows.length:Nat):Int))),(6,.own (eOs 1 true (eSl 1 false eB) []))] [Ha (lnM yW m_.Rows),Hh (.cut 1)] ?_ fun J1 ar=>?_
 ·rintro au aa
  unfold YG at aa;refine yJ X0 hC xE [1,1,1,1] [] [6] (fun z:List (List Bool)=>YF z=some r0) (fun z=>z1E z) [(1,.d (I k_)),(2,.own (.box (zL m_))),(5,.d (I ((m_.Rows.length:Nat):Int))),(6,.own (eOs 1 false (eOs 1 true eB) au))] [Hh (.cut 0)] ?_ fun J2 ax=>?_
  ·rintro il aa
   unfold YF at aa;obtain rfl:=za aa;exact yE X0 hC hE []
  ·obtain⟨t3,ht3,aa⟩:=zc aa
   refine yL X0 hC xE [1,1,1,1,2,1,0] [J2] (fun s=>vu m_ k_ s.1 s.2) (fun x=>z1A m_ k_ x.1 x.2) (au,0) ht3  [] ?_;rintro⟨bc,round⟩ m3 av ae hl1 J3 bh;try unfold vu at ae;rcases zG ae with⟨c0,ae⟩|⟨c0,ae⟩
   ·refine yJ X0 hC xE [1,1,1,1,2,1,0,0,1] [J2,J3] [1,2,5,6,8] (fun z:List (List Bool)=>YE round z=some av) (fun z=>z1D m_ k_ round z) [(1,.d (I k_)),(2,.own (.box (zL m_))),(5,.d (I ((m_.Rows.length:Nat):Int))),(6,.own (eOs 1 false (eOs 1 true eB) bc)),(8,.d (I round))] [Hq c0,Hh (.cut 0)] ?_ fun J4 ck=>?_
    ·rintro gx ae
     unfold YE at ae;obtain rfl:=za ae;exact yB X0 hC bh (gx,w64 (round+1)) hl1 []
    ·refine yJ X0 hC xE [1,1,1,1,2,1,0,0,1,2,0,1] [J2,J3,J4] [1,2,5,8,9] (fun z:List (List Bool)=>YD round z=some av) (fun z=>z1C m_ k_ round z) [(1,.d (I k_)),(2,.own (.box (zL m_))),(5,.d (I ((m_.Rows.length:Nat):Int))),(6,.own (eOs 1 false (eOs 1 true eB) bc)),(8,.d (I round)),(9,.own (eOs 1 true (eSl 1 false eB) []))] [Hh (.cut 1)] ?_ fun J5 dh=>?_
     ·rintro next ae
      unfold YD at ae;exact yB X0 hC ck next ae []
     ·obtain⟨t6,ik,ae⟩:=zc ae
      refine yLx X0 hC xE [1,1,1,1,2,1,0,0,1,2,0,1,2,1,0] [J2,J3,J4,J5] (fun s=>vt m_ bc s.1 s.2) (fun x=>z1z m_ k_ bc round x.1 x.2) (([]:List (List Bool)),0) ik [(1,.d (I k_)),(2,.own (.box (zL m_))),(5,.d (I ((m_.Rows.length:Nat):Int))),(6,.d (eSl 1 false (eSl 1 true eB) bc)),(8,.d (I round)),(9,.own (eOs 1 true (eOs 1 true eB) [])),(10,.d (I 0))] inferInstance [Hh (.n 3 [6]),Hm (shM (eOs 1 true eB) (eSl 1 true eB) bc)] ?_;rintro⟨cm,s_⟩ m6 cw aj hl2 J6 cx;try unfold vt at aj;rcases zG aj with⟨c1,aj⟩|⟨c1,aj⟩
      ·refine yJ X0 hC xE [1,1,1,1,2,1,0,0,1,2,0,1,2,1,0,0,1] [J2,J3,J4,J5,J6] [1,2,5,6,8,9,10] (fun z:List (List Bool)=>YC s_ z=some cw) (fun z=>z1B m_ k_ bc round s_ z) [(1,.d (I k_)),(2,.own (.box (zL m_))),(5,.d (I ((m_.Rows.length:Nat):Int))),(6,.d (eSl 1 false (eSl 1 true eB) bc)),(8,.d (I round)),(9,.own (eOs 1 false (eOs 1 true eB) cm)),(10,.d (I s_))] [Hq c1,Hh (.cut 0)] ?_ fun J7 hJ7=>?_
       ·rintro fe aj
        unfold YC at aj;obtain rfl:=za aj;exact yB X0 hC cx (fe,w64 (s_+1)) hl2 []
       ·obtain⟨g0,aj⟩:=gdE aj
        obtain⟨g1,aj⟩:=gdE aj;obtain⟨t8,ht8,aj⟩:=zc aj;refine yL X0 hC xE [1,1,1,1,2,1,0,0,1,2,0,1,2,1,0,0,1,2,0,1,1,0] [J2,J3,J4,J5,J6,J7] (fun s=>vq m_ bc s_ s.1 s.2) (fun x=>z1y m_ k_ bc round s_ x.1 x.2) ((cm++([(List.replicate ((m_.Rows.length:Nat):Int).toNat false)]:List (List Bool))),0) ht8  [Hn (rL g0),Ha (rM 1 eB ((m_.Rows.length:Nat):Int) false),Hq (oC (eOs 1 true eB) (List.replicate ((m_.Rows.length:Nat):Int).toNat false) []),Hn (aL (eOs 1 true eB) (eOs 1 true eB) g1),Hl (aM (eOs 1 true eB) cm ([(List.replicate ((m_.Rows.length:Nat):Int).toNat false)]:List (List Bool)))] ?_;rintro⟨bz,t_⟩ m8 l8 bj hl3 J8 jo;try unfold vq at bj;rcases zG bj with⟨c2,bj⟩|⟨c2,bj⟩
        ·obtain⟨dv,h0,bj⟩:=zc bj
         obtain⟨du,h1,bj⟩:=zc bj;obtain⟨cd,h2,bj⟩:=zc bj
         let Z0:List HO:=[Hq c2,Hn (iL (eOs 1 true eB) h0),Hs (iM (eOs 1 true eB) h0),Hi (eSl 1 true eB) h1,Hi eB h2];rcases zG bj with⟨c3,bj⟩|⟨c3,bj⟩
         ·obtain⟨k0,h3,bj⟩:=zc bj
          obtain rfl:=za bj;exact yB X0 hC jo ((bz.set s_.toNat (dv.set t_.toNat true)),w64 (t_+1)) hl3 (Z0++(rpN 7 (Hq c3) [Hs (iM (eOs 1 true eB) h0),Hn (iL eB h3),Hs (iM (eOs 1 true eB) h0),Hs (iM eB h3),Hs (iM (eOs 1 true eB) h0),Hs (iM eB h3),Hl (sM eB dv t_ true),Hl (sM (eOs 1 true eB) bz s_ (dv.set t_.toNat true))]))
         ·obtain⟨r_,h4,bj⟩:=zc bj
          obtain⟨kl,h5,bj⟩:=zc bj;obtain rfl:=za bj;exact yB X0 hC jo ((bz.set s_.toNat (dv.set t_.toNat (r_==1))),w64 (t_+1)) hl3 (Z0++(rpN 5 (Hq c3) [Hc h0I (x:=(m_,bc,s_,t_)) h4 (loC zL m_ <| loC (eSl 1 false (eSl 1 true eB)) bc <| loC (eI .i64) s_ <| loC (eI .i64) t_ <| loN),Hq c3,Hq c3,Hs (iM (eOs 1 true eB) h0),Hn (iL eB h5),Hs (iM (eOs 1 true eB) h0),Hs (iM eB h5),Hs (iM (eOs 1 true eB) h0),Hs (iM eB h5),Hl (sM eB dv t_ (r_==1)),Hl (sM (eOs 1 true eB) bz s_ (dv.set t_.toNat (r_==1)))]))
        ·obtain rfl:=za bj
         obtain rfl:=hl3;exact yB X0 hC hJ7 bz aj [Hq c2]
      ·obtain rfl:=za aj
       obtain rfl:=hl2;exact yB X0 hC dh cm ae [Hq c1]
   ·obtain rfl:=za ae
    obtain rfl:=hl1;exact yB X0 hC ax bc aa [Hq c0]
 ·obtain⟨t9,ht9,aa⟩:=zc aa
  refine yLx X0 hC xE [1,1,1,2,1,0] [J1] (fun s=>vp m_ s.1 s.2) (fun x=>z1x m_ k_ x.1 x.2) (([]:List (List Bool)),0) ht9 [(1,.d (I k_)),(2,.own (.box (zL m_))),(5,.d (I ((m_.Rows.length:Nat):Int))),(6,.own (eOs 1 true (eOs 1 true eB) [])),(7,.d (I 0))] inferInstance [] ?_;rintro⟨dz,a7⟩ m9 av ae hl1 J9 kw;try unfold vp at ae;rcases zG ae with⟨c4,ae⟩|⟨c4,ae⟩
  ·obtain⟨g2,ae⟩:=gdE ae
   obtain⟨g3,ae⟩:=gdE ae;obtain rfl:=za ae;exact yB X0 hC kw ((dz++([(List.replicate ((m_.Rows.length:Nat):Int).toNat false)]:List (List Bool))),w64 (a7+1)) hl1 [Hq c4,Hn (rL g2),Ha (rM 1 eB ((m_.Rows.length:Nat):Int) false),Hq (oC (eOs 1 true eB) (List.replicate ((m_.Rows.length:Nat):Int).toNat false) []),Hn (aL (eOs 1 true eB) (eOs 1 true eB) g3),Hl (aM (eOs 1 true eB) dz ([(List.replicate ((m_.Rows.length:Nat):Int).toNat false)]:List (List Bool)))]
  ·obtain rfl:=za ae
   obtain rfl:=hl1;exact yB X0 hC ar dz aa [Hq c4]
def xw:Code:=(Tryz.f115.body).getD .skip
def Yp:zP:=spF (α:=List (List Bool)) (ρ:=List Int) 115 (fun x=>[(eSl 1 false (eSl 1 false eB)) x]) (fun r=>F5_ r) (fun x=>kP x) [] (Vr)
abbrev Ka (out:List Int):List (Nat×T):=[(3,.own (eOs 1 false (eI .i64) out))]
abbrev K9 (au:List (List Bool))(s_:Int)(ap:List Int)(cp:Int):List (Nat×T):=[(0,.d (eSl 1 false (eSl 1 false eB) au)),(3,.own (eOs 1 false (eI .i64) ap)),(4,.d (I cp)),(5,.d (I s_))]
abbrev K7 (au:List (List Bool))(ai:List Int)(s_:Int)(bm:Int)(i4:Int):List (Nat×T):=[(0,.d (eSl 1 false (eSl 1 false eB) au)),(3,.own (eOs 1 false (eI .i64) ai)),(4,.d (I bm)),(5,.d (I s_)),(6,.d (I i4))]
abbrev K8 (au:List (List Bool))(ai:List Int)(n_:Int)(s_:Int)(b_:Int):List (Nat×T):=[(0,.d (eSl 1 false (eSl 1 false eB) au)),(3,.own (eOs 1 false (eI .i64) ai)),(4,.d (I n_)),(5,.d (I s_)),(6,.d (I b_))]
abbrev K6 (au:List (List Bool))(ai:List Int)(n_:Int)(s_:Int)(t_:Int)(km:Int):List (Nat×T):=[(0,.d (eSl 1 false (eSl 1 false eB) au)),(3,.own (eOs 1 false (eI .i64) ai)),(4,.d (I n_)),(5,.d (I s_)),(6,.d (I km)),(7,.d (I t_))]
abbrev K4 (au:List (List Bool))(ai:List Int)(n_:Int)(s_:Int)(jh:Int)(t_:Int):List (Nat×T):=[(0,.d (eSl 1 false (eSl 1 false eB) au)),(3,.own (eOs 1 false (eI .i64) ai)),(4,.d (I n_)),(5,.d (I s_)),(6,.d (I jh)),(7,.d (I t_))]
abbrev K5 (au:List (List Bool))(ai:List Int)(n_:Int)(s_:Int):List (Nat×T):=[(0,.d (eSl 1 false (eSl 1 false eB) au)),(3,.own (eOs 1 false (eI .i64) ai)),(4,.d (I n_)),(5,.d (I s_))]
theorem z1W (hC:zx Tryz.prog ctr):Yp.Ok Tryz.prog:=by
 refine zy ?_;rintro au r0 aa;try unfold kP at aa;refine yO true [(2,none)] xw 41 Tryz.func115 fun E hE=>?_;refine yJ X0 hC xw [1,1,1] [] [3] (fun z:List Int=>YB z=some r0) (fun z=>Ka z) [(0,.d (eSl 1 false (eSl 1 false eB) au)),(3,.own (eOs 1 true (eI .i64) [])),(4,.d (I 0))] [Hh (.cut 3)] ?_ fun J1 ar=>?_
 ·rintro out aa
  unfold YB at aa;obtain rfl:=za aa;exact yE X0 hC hE []
 ·obtain⟨t2,ht2,aa⟩:=zc aa
  refine yLx X0 hC xw [1,1,1,2,1,0] [J1] (fun s=>jK au s.1 s.2.1 s.2.2) (fun x=>K5 au x.1 x.2.1 x.2.2) (([]:List Int),0,0) ht2 [(0,.d (eSl 1 false (eSl 1 false eB) au)),(3,.own (eOs 1 true (eI .i64) [])),(4,.d (I 0)),(5,.d (I 0))] inferInstance [] ?_;rintro⟨ai,n_,s_⟩ m2 av ae hl1 J2 ax;try unfold jK at ae
  let Z0:List HO:=[Ha (lnM (eSl 1 false eB) au)];rcases zG ae with⟨c0,ae⟩|⟨c0,ae⟩
  ·refine yJ X0 hC xw [1,1,1,2,1,0,0,1] [J1,J2] [0,3,4,5] (fun z:List Int×Int=>jM s_ z.1 z.2=some av) (fun z=>K9 au s_ z.1 z.2) [(0,.d (eSl 1 false (eSl 1 false eB) au)),(3,.own (eOs 1 false (eI .i64) ai)),(4,.d (I n_)),(5,.d (I s_))] (Z0++[Hq c0,Hh (.cut 0)]) ?_ fun J3 bh=>?_
   ·rintro⟨ap,cp⟩ ae
    unfold jM at ae;obtain rfl:=za ae;exact yB X0 hC ax (ap,cp,w64 (s_+1)) hl1 []
   ·refine yJ X0 hC xw [1,1,1,2,1,0,0,1,2,0,1] [J1,J2,J3] [0,3,4,5,6] (fun z:Int=>jL ai n_ s_ z=some av) (fun z=>K8 au ai n_ s_ z) [(0,.d (eSl 1 false (eSl 1 false eB) au)),(3,.own (eOs 1 false (eI .i64) ai)),(4,.d (I n_)),(5,.d (I s_)),(6,.d (I (-1)))] [Hh (.cut 1)] ?_ fun J4 ck=>?_
    ·rintro b_ ae
     unfold jL at ae;refine yJ X0 hC xw [1,1,1,2,1,0,0,1,2,0,1,1] [J1,J2,J3] [0,3,4,5,6] (fun z:Int×Int=>wK ai s_ z.1 z.2=some av) (fun z=>K7 au ai s_ z.1 z.2) [(0,.d (eSl 1 false (eSl 1 false eB) au)),(3,.own (eOs 1 false (eI .i64) ai)),(4,.d (I n_)),(5,.d (I s_)),(6,.d (I b_))] [Hh (.cut 0)] ?_ fun J5 dh=>?_
     ·rintro⟨bm,i4⟩ ae
      unfold wK at ae;obtain⟨g0,ae⟩:=gdE ae;exact yB X0 hC bh ((ai++([i4]:List Int)),bm) ae [Hq (dM (eI .i64) ([i4]:List Int)),Hn (dM (eI .i64) ([i4]:List Int)),Hn (aL (eI .i64) (eI .i64) g0),Hl (aM (eI .i64) ai ([i4]:List Int))]
     ·rcases zG ae with⟨c1,ae⟩|⟨c1,ae⟩
      ·exact yB X0 hC dh (w64 (n_+1),n_) ae [Hq c1]
      ·exact yB X0 hC dh (n_,b_) ae [Hq c1]
    ·obtain⟨t6,ik,ae⟩:=zc ae
     refine yL X0 hC xw [1,1,1,2,1,0,0,1,2,0,1,2,1,0] [J1,J2,J3,J4] (fun s=>vX au ai s_ s.1 s.2) (fun x=>K4 au ai n_ s_ x.1 x.2) ((-1),0) ik  [] ?_;rintro⟨jh,t_⟩ m6 cw aj hl2 J6 cx;try unfold vX at aj;rcases zG aj with⟨c2,aj⟩|⟨c2,aj⟩
     ·refine yJ X0 hC xw [1,1,1,2,1,0,0,1,2,0,1,2,1,0,0,1] [J1,J2,J3,J4,J6] [0,3,4,5,6,7] (fun z:Int=>vY t_ z=some cw) (fun z=>K6 au ai n_ s_ t_ z) [(0,.d (eSl 1 false (eSl 1 false eB) au)),(3,.own (eOs 1 false (eI .i64) ai)),(4,.d (I n_)),(5,.d (I s_)),(6,.d (I jh)),(7,.d (I t_))] [Hq c2,Hh (.cut 0)] ?_ fun J7 hJ7=>?_
      ·rintro km aj
       unfold vY at aj;obtain rfl:=za aj;exact yB X0 hC cx (km,w64 (t_+1)) hl2 []
      ·obtain⟨du,h0,aj⟩:=zc aj
       obtain⟨cd,h1,aj⟩:=zc aj
       let Z1:List HO:=[Hi (eSl 1 false eB) h0,Hi eB h1];rcases zG aj with⟨c3,aj⟩|⟨c3,aj⟩
       ·obtain⟨ca,h2,aj⟩:=zc aj
        exact yB X0 hC hJ7 ca aj (Z1++[Hq c3,Hn (iL (eI .i64) h2),Hs (iM (eI .i64) h2)])
       ·exact yB X0 hC hJ7 jh aj (Z1++[Hq c3])
     ·obtain rfl:=za aj
      obtain rfl:=hl2;exact yB X0 hC ck jh ae [Hq c2]
  ·obtain rfl:=za ae
   obtain rfl:=hl1;exact yB X0 hC ar ai aa (Z0++[Hq c0])
def z4P:Code:=(Tryz.f87.body).getD .skip
def V5:zP:=spF (α:=z6×Int) (ρ:=List Int) 87 (fun x=>[zL x.1,(eI .i64) x.2]) (fun r=>F5_ r) (fun x=>Uu x.1 x.2) [] (Qh)
theorem z5s (hC:zx Tryz.prog ctr)(h0J:ctr.Has V6)(h0A:ctr.Has Yp):V5.Ok Tryz.prog:=by
 refine zy ?_;rintro⟨m_,k_⟩ r0 aa;try unfold Uu at aa;refine yO true [(4,none)] z4P 9 Tryz.func87 fun E hE=>?_;obtain⟨r_,h0,aa⟩:=zc aa;obtain⟨ah,h1,aa⟩:=zc aa;obtain rfl:=za aa;exact yE X0 hC hE [Hc h0J (x:=(m_,k_)) h0 (loC zL m_ <| loC (eI .i64) k_ <| loN),Hg (z3H h0A),Hm (shM (eOs 1 true eB) (eSl 1 true eB) r_),Hs (z3I h0A (x:=r_) h1 (loC (eSl 1 false (eSl 1 true eB)) r_ <| loN)),Hm (shM (eOs 1 true eB) (eSl 1 true eB) r_)]
def z3f:Code:=(Tryz.f63.body).getD .skip
def ZJ:zP:=spF (α:=z6) (ρ:=List Int) 63 (fun x=>[zL x]) (fun r=>F5_ r) (fun x=>Zb x) [] (Vr)
theorem z3S (hC:zx Tryz.prog ctr)(h0K:ctr.Has V5):ZJ.Ok Tryz.prog:=by
 refine zy ?_;rintro m_ r0 aa;try unfold Zb at aa;refine yO true [(2,none)] z3f 8 Tryz.func63 fun E hE=>?_;obtain⟨r_,h0,aa⟩:=zc aa;obtain rfl:=za aa;exact yE X0 hC hE [Ha (lnM yW m_.Rows),Hc h0K (x:=(m_,((m_.Rows.length:Nat):Int))) h0 (loC zL m_ <| loC (eI .i64) ((m_.Rows.length:Nat):Int) <| loN)]
def z7l:Code:=(Tryz.f84.body).getD .skip
def Yq:zP:=spF (α:=z6×Int×Int) (ρ:=z8) 84 (fun x=>[zL x.1,(eI .i64) x.2.1,(eI .i64) x.2.2]) (fun r=>F8_ r) (fun x=>WT x.1 x.2.1 x.2.2) [] (zaG)
theorem z7J (hC:zx Tryz.prog ctr):Yq.Ok Tryz.prog:=by
 refine zy ?_;rintro⟨m_,s_,i_⟩ r0 aa;try unfold WT at aa;refine yO false [(6,some 67)] z7l 18 Tryz.func84 fun E hE=>?_;rcases zG aa with⟨c0,aa⟩|⟨c0,aa⟩
 ·obtain rfl:=za aa
  exact yE X0 hC hE [Hq c0]
 ·obtain⟨am,h0,aa⟩:=zc aa
  obtain⟨ak,h1,aa⟩:=zc aa;obtain rfl:=za aa;exact yE X0 hC hE [Hq c0,Hi yW h0,Hi F8_ h1]
def z5K:Code:=(Tryz.f165.body).getD .skip
def UO:zP:=spF (α:=z6×Int×List Int) (ρ:=Int) 165 (fun x=>[zL x.1,(eI .i64) x.2.1,F6_ x.2.2]) (fun r=>(eI .i64) r) (fun x=>Qv x.1 x.2.1 x.2.2) [] (zaG)
theorem z12:∀(x y:z6×Int×List Int),(fun x=>[zL x.1,(eI .i64) x.2.1,F6_ x.2.2]) x=(fun x=>[zL x.1,(eI .i64) x.2.1,F6_ x.2.2]) y->x=y:=zaG
def W8 (ib:z6->Int->(List Int)->Option Int):zP:=spF (α:=z6×Int×List Int) (ρ:=Int) 165 (fun x=>[zL x.1,(eI .i64) x.2.1,F6_ x.2.2]) (fun r=>(eI .i64) r) (fun x=>ib x.1 x.2.1 x.2.2) [] (by
 intro x y h;exact(congrArg (fun(p:z6×Int×List Int)=>p) (show x=y from z12 x y h)))
theorem z3U (hC:zx Tryz.prog ctr)(h0c:ctr.Has Yq)(ib:z6->Int->(List Int)->Option Int)(h0L:ctr.Has (W8 ib)):(W8 (Zc ib)).Ok Tryz.prog:=by
 refine zy ?_;rintro⟨m_,s_,w_⟩ r0 aa;try unfold Zc at aa;refine yO true [(6,none)] z5K 22 Tryz.func165 fun E hE=>?_;rcases zG aa with⟨c0,aa⟩|⟨c0,aa⟩
 ·obtain rfl:=za aa
  exact yE X0 hC hE [Ha (lnM (eI .i64) w_),Hq c0]
 ·obtain⟨fj,h0,aa⟩:=zc aa
  obtain⟨r_,h1,aa⟩:=zc aa;obtain⟨g0,aa⟩:=gdE aa;obtain⟨ah,h2,aa⟩:=zc aa;obtain rfl:=za aa;exact yE ((zpq zt zi5).or X0) hC hE [Ha (lnM (eI .i64) w_),Hq c0,Hi (eI .i64) h0,Hc h0c (x:=(m_,s_,fj)) h1 (loC zL m_ <| loC (eI .i64) s_ <| loC (eI .i64) fj <| loN),Hn (slA g0),Hn (zjD (eI .i64) g0),Ha (slE 1 false (eI .i64) w_ (1:Int).toNat),Hc h0L (x:=(m_,r_.To,(w_.drop (1:Int).toNat))) h2 (loC zL m_ <| loC (eI .i64) r_.To <| loC F6_ (w_.drop (1:Int).toNat) <| loN)]
theorem z6x (hC:zx Tryz.prog ctr)(h0c:ctr.Has Yq):UO.Ok Tryz.prog:=by
 have H:∀n,(W8 (YL n)).Ok Tryz.prog:=by
  intro n
  induction n with
  | zero=>exact zy fun _ _ h=>nomatch (show none=some _ from h)
  | succ n ih=>exact z3U (Ctr.add_ok hC ih) (h0c.add (by show(84:Nat)≠165;decide)) _ (Ctr.add_has _ _)
 exact zy fun x r h=>zbR (H _) h
def QI:Code:=(Tryz.f164.body).getD .skip
def Qn:zP:=spF (α:=List Int×Int) (ρ:=List Int) 164 (fun x=>[F6_ x.1,(eI .i64) x.2]) (fun r=>F5_ r) (fun x=>WS x.1 x.2) [] (Qh)
abbrev z3n (out:List Int):List (Nat×T):=[(5,.own (eOs 1 false (eI .i64) out))]
abbrev z3m (inputs:Int)(ai:List Int)(k_:Int):List (Nat×T):=[(1,.d (I inputs)),(5,.own (eOs 1 false (eI .i64) ai)),(6,.d (I k_))]
theorem z7H (hC:zx Tryz.prog ctr):Qn.Ok Tryz.prog:=by
 refine zy ?_;rintro⟨w_,inputs⟩ r0 aa;try unfold WS at aa;refine yO true [(4,none)] QI 37 Tryz.func164 fun E hE=>?_;obtain⟨g0,aa⟩:=gdE aa;refine yJ X0 hC QI [1,1] [] [5] (fun z:List Int=>YI z=some r0) (fun z=>z3n z) [(1,.d (I inputs)),(5,.own (eOs 1 false (eI .i64) w_))] [Hn (dM (eI .i64) w_),Hn (aL (eI .i64) (eI .i64) g0),Hl (aM0 (eI .i64) w_),Hh (.cut 0)] ?_ fun J1 ar=>?_
 ·rintro out aa
  unfold YI at aa;obtain⟨g1,aa⟩:=gdE aa;obtain rfl:=za aa;exact yE X0 hC hE [Hq (dM (eI .i64) ([0]:List Int)),Hn (dM (eI .i64) ([0]:List Int)),Hn (aL (eI .i64) (eI .i64) g1),Hl (aM (eI .i64) out ([0]:List Int))]
 ·obtain⟨t2,ht2,aa⟩:=zc aa
  refine yL X0 hC QI [1,1,2,1,0] [J1] (fun s=>YH inputs s.1 s.2) (fun x=>z3m inputs x.1 x.2) (w_,w64 (((w_.length:Nat):Int) - 1)) ht2  [Ha (lnM (eI .i64) w_)] ?_;rintro⟨ai,k_⟩ m2 av ae hl1 J2 ax;try unfold YH at ae;rcases zG ae with⟨c0,ae⟩|⟨c0,ae⟩
  ·obtain⟨ca,h0,ae⟩:=zc ae
   let Z0:List HO:=[Hq c0,Hn (iL (eI .i64) h0),Hs (iM (eI .i64) h0)];rcases zG ae with⟨c1,ae⟩|⟨c1,ae⟩
   ·obtain⟨gf,h1,ae⟩:=zc ae
    obtain⟨lw,h2,ae⟩:=zc ae;obtain rfl:=za ae;obtain rfl:=hl1;obtain rfl:=za aa;exact yE X0 hC hE (Z0++[Hq c1,Hn (iL (eI .i64) h1),Hs (iM (eI .i64) h1),Hn (iL (eI .i64) h2),Hs (iM (eI .i64) h2),Hs (iM (eI .i64) h2),Hl (sM (eI .i64) ai k_ (w64 (gf+1)))])
   ·obtain⟨ly,h3,ae⟩:=zc ae
    obtain rfl:=za ae;exact yB X0 hC ax ((ai.set k_.toNat 0),w64 (k_ - 1)) hl1 (Z0++[Hq c1,Hn (iL (eI .i64) h3),Hs (iM (eI .i64) h3),Hs (iM (eI .i64) h3),Hl (sM (eI .i64) ai k_ 0)])
  ·obtain rfl:=za ae
   obtain rfl:=hl1;exact yB X0 hC ar ai aa [Hq c0]
def XJ:Code:=(Tryz.f143.body).getD .skip
def UM:zP:=spF (α:=z6×Int) (ρ:=List (List Int)×List Bool) 143 (fun x=>[zL x.1,(eI .i64) x.2]) (fun r=>.tup [ziF r.1,(eSl 1 true eB) r.2]) (fun x=>Vk x.1 x.2) [] (Qh)
abbrev z2A (l_:List (List Int))(is:List Bool):List (Nat×T):=[(6,.own (eOs 1 true F6_ l_)),(7,.own (eOs 1 true eB is))]
abbrev z2z (m_:z6)(aw:Int)(w_:List Int)(kn:List (List Int))(ko:List Bool):List (Nat×T):=[(1,.d (I aw)),(2,.own (.box (zL m_))),(6,.own (eOs 1 true F6_ kn)),(7,.own (eOs 1 true eB ko)),(8,.d (eSl 1 false (eI .i64) w_))]
abbrev z2y (m_:z6)(aw:Int)(gj:List (List Int))(gg:List Bool)(w_:List Int):List (Nat×T):=[(1,.d (I aw)),(2,.own (.box (zL m_))),(6,.own (eOs 1 true F6_ gj)),(7,.own (eOs 1 true eB gg)),(8,.own (eOs 1 false (eI .i64) w_))]
def v7:XH Tryz.prog:=((QT zt (.inr 48) [8]).or X0)
theorem z6v (hC:zx Tryz.prog ctr)(h0M:ctr.Has UO)(h0N:ctr.Has Qn):UM.Ok Tryz.prog:=by
 refine zy ?_;rintro⟨m_,aw⟩ r0 aa;try unfold Vk at aa;refine yO false [(4,none),(5,none)] XJ 51 Tryz.func143 fun E hE=>?_;obtain⟨g0,aa⟩:=gdE aa;obtain⟨g1,aa⟩:=gdE aa;refine yJ v7 hC XJ [1,1,1] [] [6,7] (fun z:List (List Int)×List Bool=>XB z.1 z.2=some r0) (fun z=>z2A z.1 z.2) [(1,.d (I aw)),(2,.own (.box (zL m_))),(6,.own (eOs 1 true F2_ (List.replicate ((m_.Rows.length:Nat):Int).toNat ([]:List Int)))),(7,.own (eOs 1 true eB (List.replicate ((m_.Rows.length:Nat):Int).toNat false)))] [Ha (lnM yW m_.Rows),Hn (rL g0),Ha (rM 1 F3_ ((m_.Rows.length:Nat):Int) ([]:List Int)),Hh (.v 0 [6]),Hm (shM F3_ F2_ (List.replicate ((m_.Rows.length:Nat):Int).toNat ([]:List Int))),Ha (lnM yW m_.Rows),Hn (rL g1),Ha (rM 1 eB ((m_.Rows.length:Nat):Int) false),Hh (.cut 0)] ?_ fun J1 ar=>?_
 ·rintro⟨l_,is⟩ aa
  unfold XB at aa;obtain rfl:=za aa;exact yE v7 hC hE [Hm (shM F6_ F6_ l_),Hm (shM eB eB is)]
 ·obtain⟨t2,ht2,aa⟩:=zc aa
  refine yLx v7 hC XJ [1,1,1,2,1,0] [J1] (fun s=>XA m_ aw s.1 s.2.1 s.2.2) (fun x=>z2y m_ aw x.1 x.2.1 x.2.2) ((List.replicate ((m_.Rows.length:Nat):Int).toNat ([]:List Int)),(List.replicate ((m_.Rows.length:Nat):Int).toNat false),([]:List Int)) ht2 [(1,.d (I aw)),(2,.own (.box (zL m_))),(6,.own (eOs 1 true F2_ (List.replicate ((m_.Rows.length:Nat):Int).toNat ([]:List Int)))),(7,.own (eOs 1 true eB (List.replicate ((m_.Rows.length:Nat):Int).toNat false))),(8,.own (eOs 1 true (eI .i64) []))] inferInstance [] ?_;rintro⟨gj,gg,w_⟩ m2 av ae hl1 J2 ax;try unfold XA at ae
  let Z0:List HO:=[Ha (lnM (eI .i64) w_),Ha (lnM yW m_.Rows)];rcases zG ae with⟨c0,ae⟩|⟨c0,ae⟩
  ·refine yJ v7 hC XJ [1,1,1,2,1,0,0,1] [J1,J2] [1,2,6,7,8] (fun z:List (List Int)×List Bool=>ui m_ w_ z.1 z.2=some av) (fun z=>z2z m_ aw w_ z.1 z.2) [(1,.d (I aw)),(2,.own (.box (zL m_))),(6,.own (eOs 1 true F6_ gj)),(7,.own (eOs 1 true eB gg)),(8,.d (eSl 1 false (eI .i64) w_))] (Z0++[Hq c0,Hh (.n 1 [8]),Hm (shM (eI .i64) (eI .i64) w_),Hh (.cut 0)]) ?_ fun J3 bh=>?_
   ·rintro⟨kn,ko⟩ ae
    unfold ui at ae;obtain⟨r_,h0,ae⟩:=zc ae;obtain rfl:=za ae;exact yB v7 hC ax (kn,ko,r_) hl1 [Hc h0N (x:=(w_,m_.Inputs)) h0 (loC F6_ w_ <| loC (eI .i64) m_.Inputs <| loN)]
   ·obtain⟨ah,h1,ae⟩:=zc ae
    let Z1:List HO:=[Hc h0M (x:=(m_,aw,w_)) h1 (loC zL m_ <| loC (eI .i64) aw <| loC F6_ w_ <| loN)];rcases zG ae with⟨c1,ae⟩|⟨c1,ae⟩
    ·obtain⟨lz,h2,ae⟩:=zc ae
     let Z2:List HO:=(Z1++[Hq c1,Hq c1,Hq c1,Hn (iL eB h2),Hq c1,Hs (iM eB h2),Hq c1,Hq c1]);rcases zG ae with⟨c2,ae⟩|⟨c2,ae⟩
     ·obtain⟨l9,h3,ae⟩:=zc ae
      obtain⟨bw,h4,ae⟩:=zc ae;exact yB v7 hC bh ((gj.set ah.toNat w_),(gg.set ah.toNat true)) ae (Z2++[Hq c2,Hn (iL eB h3),Hs (iM eB h3),Hs (iM eB h3),Hl (sM eB gg ah true),Hn (iL F6_ h4),Hs (iM F6_ h4),Hs (iM F6_ h4),Hl (sM F6_ gj ah w_)])
     ·exact yB v7 hC bh (gj,gg) ae (Z2++[Hq c2])
    ·exact yB v7 hC bh (gj,gg) ae (Z1++(rpN 6 (Hq c1) [qF]))
  ·obtain rfl:=za ae
   obtain rfl:=hl1;exact yB v7 hC ar (gj,gg) aa (Z0++[Hq c0])
def z4Q:Code:=(Tryz.f122.body).getD .skip
def V7:zP:=spF (α:=z6) (ρ:=List (List Int)×List Bool) 122 (fun x=>[zL x]) (fun r=>.tup [ziF r.1,(eSl 1 true eB) r.2]) (fun x=>XP x) [] (Vr)
theorem z5u (hC:zx Tryz.prog ctr)(h0O:ctr.Has UM):V7.Ok Tryz.prog:=by
 refine zy ?_;rintro m_ r0 aa;try unfold XP at aa;refine yO false [(2,none),(3,none)] z4Q 8 Tryz.func122 fun E hE=>?_;obtain⟨r_,h0,aa⟩:=zc aa;obtain rfl:=za aa;exact yE X0 hC hE [Hc h0O (x:=(m_,0)) h0 (loC zL m_ <| loC (eI .i64) 0 <| loN)]
def QJ:Code:=(Tryz.f123.body).getD .skip
def Qo:zP:=spF (α:=List Int×List Int) (ρ:=Int) 123 (fun x=>[F6_ x.1,F6_ x.2]) (fun r=>(eI .i64) r) (fun x=>Q1 x.1 x.2) [] (Qh)
abbrev z3p:List (Nat×T):=[]
abbrev z3o (a_:List Int)(b_:List Int)(i_:Int):List (Nat×T):=[(0,.d (eSl 1 false (eI .i64) a_)),(1,.d (eSl 1 false (eI .i64) b_)),(5,.d (I i_))]
theorem z7I (hC:zx Tryz.prog ctr):Qo.Ok Tryz.prog:=by
 refine zy ?_;rintro⟨a_,b_⟩ r0 aa;try unfold Q1 at aa;refine yO true [(4,none)] QJ 40 Tryz.func123 fun E hE=>?_
 let Z0:List HO:=[Ha (lnM (eI .i64) a_),Ha (lnM (eI .i64) b_)];rcases zG aa with⟨c0,aa⟩|⟨c0,aa⟩
 ·let Z1:List HO:=(Z0++[Hq c0,Ha (lnM (eI .i64) a_),Ha (lnM (eI .i64) b_)])
  rcases zG aa with⟨c1,aa⟩|⟨c1,aa⟩
  ·obtain rfl:=za aa
   exact yE X0 hC hE (Z1++[Hq c1])
  ·obtain rfl:=za aa
   exact yE X0 hC hE (Z1++[Hq c1])
 ·refine yJ X0 hC QJ [1,1] [] [] (fun z:Unit=>Qu=some r0) (fun z=>z3p) [(0,.d (eSl 1 false (eI .i64) a_)),(1,.d (eSl 1 false (eI .i64) b_))] (Z0++[Hq c0,Hh (.cut 0)]) ?_ fun J1 ar=>?_
  ·rintro⟨⟩ aa
   unfold Qu at aa;obtain rfl:=za aa;exact yE X0 hC hE []
  ·obtain⟨t2,ht2,aa⟩:=zc aa
   refine yL X0 hC QJ [1,1,2,1,0] [J1] (fun s=>YJ a_ b_ s) (fun x=>z3o a_ b_ x) 0 ht2  [] ?_;rintro i_ m2 av ae hl1 J2 ax;try unfold YJ at ae;rcases zG ae with⟨c2,ae⟩|⟨c2,ae⟩
   ·obtain⟨gp,h0,ae⟩:=zc ae
    obtain⟨gq,h1,ae⟩:=zc ae
    let Z2:List HO:=[Ha (lnM (eI .i64) a_),Hq c2,Hi (eI .i64) h0,Hi (eI .i64) h1];rcases zG ae with⟨c3,ae⟩|⟨c3,ae⟩
    ·obtain⟨i5,h2,ae⟩:=zc ae
     obtain⟨i6,h3,ae⟩:=zc ae
     let Z3:List HO:=(Z2++[Hq c3,Hi (eI .i64) h2,Hi (eI .i64) h3]);rcases zG ae with⟨c4,ae⟩|⟨c4,ae⟩
     ·obtain rfl:=za ae
      obtain rfl:=hl1;obtain rfl:=za aa;exact yE X0 hC hE (Z3++[Hq c4])
     ·obtain rfl:=za ae
      obtain rfl:=hl1;obtain rfl:=za aa;exact yE X0 hC hE (Z3++[Hq c4])
    ·obtain rfl:=za ae
     exact yB X0 hC ax (w64 (i_+1)) hl1 (Z2++[Hq c3])
   ·obtain rfl:=za ae
    obtain rfl:=hl1;exact yB X0 hC ar () aa [Ha (lnM (eI .i64) a_),Hq c2]
def jA:Code:=(Tryz.f91.body).getD .skip
def UN:zP:=spF (α:=z6) (ρ:=List Int) 91 (fun x=>[zL x]) (fun r=>F5_ r) (fun x=>Vl x) [] (Vr)
abbrev z2F (out:List Int):List (Nat×T):=[(5,.own (eOs 1 false (eI .i64) out))]
abbrev z2E (r_:List (List Int)×List Bool)(s_:Int)(ap:List Int):List (Nat×T):=[(3,.d (eSl 1 true F6_ r_.1)),(4,.d (eSl 1 true eB r_.2)),(5,.own (eOs 1 false (eI .i64) ap)),(6,.d (I s_))]
abbrev z2D (r_:List (List Int)×List Bool)(ai:List Int)(s_:Int)(k_:Int):List (Nat×T):=[(3,.d (eSl 1 true F6_ r_.1)),(4,.d (eSl 1 true eB r_.2)),(5,.own (eOs 1 false (eI .i64) ai)),(6,.d (I s_)),(7,.d (I k_))]
abbrev z2B (r_:List (List Int)×List Bool)(ai:List Int)(s_:Int)(ba:Int):List (Nat×T):=[(3,.d (eSl 1 true F6_ r_.1)),(4,.d (eSl 1 true eB r_.2)),(5,.own (eOs 1 false (eI .i64) ai)),(6,.d (I s_)),(7,.d (I ba))]
abbrev z2C (r_:List (List Int)×List Bool)(ai:List Int)(s_:Int):List (Nat×T):=[(3,.d (eSl 1 true F6_ r_.1)),(4,.d (eSl 1 true eB r_.2)),(5,.own (eOs 1 false (eI .i64) ai)),(6,.d (I s_))]
def xa:XH Tryz.prog:=((QT zt (.inl 49) []).or ((QT zt (.inl 47) [5]).or X0))
theorem z6w (hC:zx Tryz.prog ctr)(h0P:ctr.Has V7)(h0Q:ctr.Has Qo):UN.Ok Tryz.prog:=by
 refine zy ?_;rintro m_ r0 aa;try unfold Vl at aa;refine yO true [(2,none)] jA 61 Tryz.func91 fun E hE=>?_;obtain⟨r_,h0,aa⟩:=zc aa;refine yJ xa hC jA [1,1,1] [] [5] (fun z:List Int=>UR z=some r0) (fun z=>z2F z) [(3,.d (eSl 1 true F6_ r_.1)),(4,.d (eSl 1 true eB r_.2)),(5,.own (eOs 1 true (eI .i64) []))] [Hc h0P (x:=m_) h0 (loC zL m_ <| loN),Hh (.cut 1)] ?_ fun J1 ar=>?_
 ·rintro out aa
  unfold UR at aa;obtain rfl:=za aa;exact yE xa hC hE []
 ·obtain⟨t2,ht2,aa⟩:=zc aa
  refine yLx xa hC jA [1,1,1,2,1,0] [J1] (fun s=>ZA r_ s.1 s.2) (fun x=>z2C r_ x.1 x.2) (([]:List Int),0) ht2 [(3,.d (eSl 1 true F6_ r_.1)),(4,.d (eSl 1 true eB r_.2)),(5,.own (eOs 1 true (eI .i64) [])),(6,.d (I 0))] inferInstance [] ?_;rintro⟨ai,s_⟩ m2 av ae hl1 J2 ax;try unfold ZA at ae
  let Z0:List HO:=[Ha (lnM F6_ r_.1)];rcases zG ae with⟨c0,ae⟩|⟨c0,ae⟩
  ·refine yJ xa hC jA [1,1,1,2,1,0,0,1] [J1,J2] [3,4,5,6] (fun z:List Int=>qW s_ z=some av) (fun z=>z2E r_ s_ z) [(3,.d (eSl 1 true F6_ r_.1)),(4,.d (eSl 1 true eB r_.2)),(5,.own (eOs 1 false (eI .i64) ai)),(6,.d (I s_))] (Z0++[Hq c0,Hh (.cut 0)]) ?_ fun J3 bh=>?_
   ·rintro ap ae
    unfold qW at ae;obtain rfl:=za ae;exact yB xa hC ax (ap,w64 (s_+1)) hl1 []
   ·obtain⟨u_,h1,ae⟩:=zc ae
    rcases zG ae with⟨c1,ae⟩|⟨c1,ae⟩
    ·exact yB xa hC bh ai ae [Hi eB h1,Hq c1]
    ·refine yJ xa hC jA [1,1,1,2,1,0,0,1,2,0,1,1] [J1,J2,J3] [3,4,5,6,7] (fun z:Int=>XC ai s_ z=some av) (fun z=>z2D r_ ai s_ z) [(3,.d (eSl 1 true F6_ r_.1)),(4,.d (eSl 1 true eB r_.2)),(5,.own (eOs 1 false (eI .i64) ai)),(6,.d (I s_)),(7,.d (I 0))] [Hi eB h1,Hq c1,Hh (.cut 1)] ?_ fun J4 ck=>?_
     ·rintro k_ ae
      unfold XC at ae;obtain⟨g0,ae⟩:=gdE ae;obtain⟨g1,ae⟩:=gdE ae;obtain⟨g2,ae⟩:=gdE ae;obtain⟨g3,ae⟩:=gdE ae;obtain⟨g4,ae⟩:=gdE ae;exact yB xa hC bh ((((ai.drop 0).take (k_.toNat - 0))++([s_]:List Int))++(ai.drop k_.toNat)) ae [Hm (shM (eI .i64) (eI .i64) ai),Hn (slB g0),Hn (zb8 (eI .i64) g0),Ha (slM 1 false (eI .i64) ai 0 k_.toNat),Hn (dM (eI .i64) ((ai.drop 0).take (k_.toNat - 0))),Hn (aL (eI .i64) (eI .i64) g1),Hl (aM0 (eI .i64) ((ai.drop 0).take (k_.toNat - 0))),Hq (dM (eI .i64) ([s_]:List Int)),Hn (dM (eI .i64) ([s_]:List Int)),Hn (aL (eI .i64) (eI .i64) g2),Hl (aM (eI .i64) ((ai.drop 0).take (k_.toNat - 0)) ([s_]:List Int)),Hn (slA g3),Hn (zjD (eI .i64) g3),Ha (slE 1 false (eI .i64) ai k_.toNat),Hn (dM (eI .i64) (ai.drop k_.toNat)),Hn (aL (eI .i64) (eI .i64) g4),Hl (aM (eI .i64) (((ai.drop 0).take (k_.toNat - 0))++([s_]:List Int)) (ai.drop k_.toNat))]
     ·obtain⟨t5,ht5,ae⟩:=zc ae
      refine yL xa hC jA [1,1,1,2,1,0,0,1,2,0,1,1,2,0] [J1,J2,J3,J4] (fun s=>Zz r_ ai s_ s) (fun x=>z2B r_ ai s_ x) 0 ht5  [] ?_;rintro ba m5 cw aj hl2 J5 dh;try unfold Zz at aj;rcases zG aj with⟨c2,aj⟩|⟨c2,aj⟩
      ·obtain⟨ca,h2,aj⟩:=zc aj
       obtain⟨ld,h3,aj⟩:=zc aj;obtain⟨lf,h4,aj⟩:=zc aj;obtain⟨ah,h5,aj⟩:=zc aj
       let Z1:List HO:=(Ha (lnM (eI .i64) ai)::(rpN 4 (Hq c2) (Hn (iL (eI .i64) h2)::Hq c2::Hs (iM (eI .i64) h2)::Hq c2::Hi F6_ h3::(rpN 4 (Hq c2) [Hi F6_ h4,Hq c2,Hq c2,Hc h0Q (x:=(ld,lf)) h5 (loC F6_ ld <| loC F6_ lf <| loN),Hq c2,Hq c2]))));rcases zG aj with⟨c3,aj⟩|⟨c3,aj⟩
       ·obtain rfl:=za aj
        exact yB xa hC dh (w64 (ba+1)) hl2 (Z1++[Hq c3])
       ·obtain rfl:=za aj
        obtain rfl:=hl2;exact yB xa hC ck ba ae (Z1++[Hq c3])
      ·obtain rfl:=za aj
       obtain rfl:=hl2;exact yB xa hC ck ba ae (Ha (lnM (eI .i64) ai)::(rpN 14 (Hq c2) [qF]))
  ·obtain rfl:=za ae
   obtain rfl:=hl1;exact yB xa hC ar ai aa (Z0++[Hq c0])
def vC:Code:=(Tryz.f67.body).getD .skip
def Yo:zP:=spF (α:=z6) (ρ:=List Int) 67 (fun x=>[zL x]) (fun r=>F5_ r) (fun x=>kO x) [] (Vr)
abbrev z1w (out:List Int):List (Nat×T):=[(5,.own (eOs 1 false (eI .i64) out))]
abbrev z1v (r_:List Int)(ah:List Int)(k_:Int)(ap:List Int):List (Nat×T):=[(3,.own (eOs 1 false (eI .i64) r_)),(4,.own (eOs 1 false (eI .i64) ah)),(5,.own (eOs 1 false (eI .i64) ap)),(6,.d (I k_))]
abbrev z1u (r_:List Int)(ah:List Int)(ai:List Int)(k_:Int)(there:Int):List (Nat×T):=[(3,.own (eOs 1 false (eI .i64) r_)),(4,.own (eOs 1 false (eI .i64) ah)),(5,.own (eOs 1 false (eI .i64) ai)),(6,.d (I k_)),(7,.d (I there))]
abbrev z1t (r_:List Int)(ah:List Int)(ai:List Int)(k_:Int)(n_:Int)(ig:Int):List (Nat×T):=[(3,.own (eOs 1 false (eI .i64) r_)),(4,.own (eOs 1 false (eI .i64) ah)),(5,.own (eOs 1 false (eI .i64) ai)),(6,.d (I k_)),(7,.d (I ig)),(8,.d (I n_))]
abbrev z1r (r_:List Int)(ah:List Int)(ai:List Int)(k_:Int)(fp:Int)(n_:Int):List (Nat×T):=[(3,.own (eOs 1 false (eI .i64) r_)),(4,.own (eOs 1 false (eI .i64) ah)),(5,.own (eOs 1 false (eI .i64) ai)),(6,.d (I k_)),(7,.d (I fp)),(8,.d (I n_))]
abbrev z1s (r_:List Int)(ah:List Int)(ai:List Int)(k_:Int):List (Nat×T):=[(3,.own (eOs 1 false (eI .i64) r_)),(4,.own (eOs 1 false (eI .i64) ah)),(5,.own (eOs 1 false (eI .i64) ai)),(6,.d (I k_))]
theorem z5r (hC:zx Tryz.prog ctr)(h0p:ctr.Has ZJ)(h0R:ctr.Has UN):Yo.Ok Tryz.prog:=by
 refine zy ?_;rintro m_ r0 aa;try unfold kO at aa;refine yO true [(2,none)] vC 49 Tryz.func67 fun E hE=>?_;obtain⟨r_,h0,aa⟩:=zc aa;obtain⟨ah,h1,aa⟩:=zc aa;refine yJ X0 hC vC [1,1,1,1] [] [5] (fun z:List Int=>YA z=some r0) (fun z=>z1w z) [(3,.own (eOs 1 false (eI .i64) r_)),(4,.own (eOs 1 false (eI .i64) ah)),(5,.own (eOs 1 true (eI .i64) []))] [Hc h0p (x:=m_) h0 (loC zL m_ <| loN),Hc h0R (x:=m_) h1 (loC zL m_ <| loN),Hh (.cut 1)] ?_ fun J1 ar=>?_
 ·rintro out aa
  unfold YA at aa;obtain rfl:=za aa;exact yE X0 hC hE []
 ·obtain⟨t2,ht2,aa⟩:=zc aa
  refine yLx X0 hC vC [1,1,1,1,2,1,0] [J1] (fun s=>Yy r_ ah s.1 s.2) (fun x=>z1s r_ ah x.1 x.2) (([]:List Int),0) ht2 [(3,.own (eOs 1 false (eI .i64) r_)),(4,.own (eOs 1 false (eI .i64) ah)),(5,.own (eOs 1 true (eI .i64) [])),(6,.d (I 0))] inferInstance [] ?_;rintro⟨ai,k_⟩ m2 av ae hl1 J2 ax;try unfold Yy at ae;rcases zG ae with⟨c0,ae⟩|⟨c0,ae⟩
  ·refine yJ X0 hC vC [1,1,1,1,2,1,0,0,1] [J1,J2] [3,4,5,6] (fun z:List Int=>uF k_ z=some av) (fun z=>z1v r_ ah k_ z) [(3,.own (eOs 1 false (eI .i64) r_)),(4,.own (eOs 1 false (eI .i64) ah)),(5,.own (eOs 1 false (eI .i64) ai)),(6,.d (I k_))] [Ha (lnM (eI .i64) ah),Hq c0,Hh (.cut 0)] ?_ fun J3 bh=>?_
   ·rintro ap ae
    unfold uF at ae;obtain rfl:=za ae;exact yB X0 hC ax (ap,w64 (k_+1)) hl1 []
   ·refine yJ X0 hC vC [1,1,1,1,2,1,0,0,1,2,0,1] [J1,J2,J3] [3,4,5,6,7] (fun z:Int=>Yz ah ai k_ z=some av) (fun z=>z1u r_ ah ai k_ z) [(3,.own (eOs 1 false (eI .i64) r_)),(4,.own (eOs 1 false (eI .i64) ah)),(5,.own (eOs 1 false (eI .i64) ai)),(6,.d (I k_)),(7,.d (I 0))] [Hh (.cut 1)] ?_ fun J4 ck=>?_
    ·rintro there ae
     unfold Yz at ae;rcases zG ae with⟨c1,ae⟩|⟨c1,ae⟩
     ·obtain⟨d6,h2,ae⟩:=zc ae
      obtain⟨g0,ae⟩:=gdE ae;exact yB X0 hC bh (ai++([d6]:List Int)) ae [Hq c1,Hn (iL (eI .i64) h2),Hs (iM (eI .i64) h2),Hq (dM (eI .i64) ([d6]:List Int)),Hn (dM (eI .i64) ([d6]:List Int)),Hn (aL (eI .i64) (eI .i64) g0),Hl (aM (eI .i64) ai ([d6]:List Int))]
     ·exact yB X0 hC bh ai ae [Hq c1]
    ·obtain⟨t5,ht5,ae⟩:=zc ae
     refine yL X0 hC vC [1,1,1,1,2,1,0,0,1,2,0,1,2,1,0] [J1,J2,J3,J4] (fun s=>kM r_ ah k_ s.1 s.2) (fun x=>z1r r_ ah ai k_ x.1 x.2) (0,0) ht5  [] ?_;rintro⟨fp,n_⟩ m5 cw aj hl2 J5 dh;try unfold kM at aj;rcases zG aj with⟨c2,aj⟩|⟨c2,aj⟩
     ·refine yJ X0 hC vC [1,1,1,1,2,1,0,0,1,2,0,1,2,1,0,0,1] [J1,J2,J3,J4,J5] [3,4,5,6,7,8] (fun z:Int=>kN n_ z=some cw) (fun z=>z1t r_ ah ai k_ n_ z) [(3,.own (eOs 1 false (eI .i64) r_)),(4,.own (eOs 1 false (eI .i64) ah)),(5,.own (eOs 1 false (eI .i64) ai)),(6,.d (I k_)),(7,.d (I fp)),(8,.d (I n_))] [Hq c2,Hh (.cut 0)] ?_ fun J6 cx=>?_
      ·rintro ig aj
       unfold kN at aj;obtain rfl:=za aj;exact yB X0 hC dh (ig,w64 (n_+1)) hl2 []
      ·obtain⟨ga,h3,aj⟩:=zc aj
       obtain⟨i7,h4,aj⟩:=zc aj;obtain⟨i8,h5,aj⟩:=zc aj;obtain⟨lh,h6,aj⟩:=zc aj
       let Z0:List HO:=[Hn (iL (eI .i64) h3),Hs (iM (eI .i64) h3),Hn (iL (eI .i64) h4),Hs (iM (eI .i64) h4),Hn (iL (eI .i64) h5),Hs (iM (eI .i64) h5),Hn (iL (eI .i64) h6),Hs (iM (eI .i64) h6)];rcases zG aj with⟨c3,aj⟩|⟨c3,aj⟩
       ·exact yB X0 hC cx 1 aj (Z0++[Hq c3])
       ·exact yB X0 hC cx fp aj (Z0++[Hq c3])
     ·obtain rfl:=za aj
      obtain rfl:=hl2;exact yB X0 hC ck fp ae [Hq c2]
  ·obtain rfl:=za ae
   obtain rfl:=hl1;exact yB X0 hC ar ai aa [Ha (lnM (eI .i64) ah),Hq c0]
def w5:Code:=(Tryz.f86.body).getD .skip
def W7:zP:=spF (α:=z6×Int) (ρ:=List Bool) 86 (fun x=>[zL x.1,(eI .i64) x.2]) (fun r=>(eOs 1 true eB) r) (fun x=>YK x.1 x.2) [] (Qh)
abbrev z0E (out:List Bool):List (Nat×T):=[(5,.own (eOs 1 true eB out))]
abbrev z0D (m_:z6)(round:Int)(ap:List Bool):List (Nat×T):=[(2,.own (.box (zL m_))),(5,.own (eOs 1 true eB ap)),(6,.d (I round))]
abbrev z0C (m_:z6)(round:Int)(s_:Int)(jx:List Bool):List (Nat×T):=[(2,.own (.box (zL m_))),(5,.own (eOs 1 true eB jx)),(6,.d (I round)),(7,.d (I s_))]
abbrev z0B (m_:z6)(round:Int)(s_:Int)(i_:Int)(jy:List Bool):List (Nat×T):=[(2,.own (.box (zL m_))),(5,.own (eOs 1 true eB jy)),(6,.d (I round)),(7,.d (I s_)),(8,.d (I i_))]
abbrev z0y (m_:z6)(round:Int)(s_:Int)(eh:List Bool)(i_:Int):List (Nat×T):=[(2,.own (.box (zL m_))),(5,.own (eOs 1 true eB eh)),(6,.d (I round)),(7,.d (I s_)),(8,.d (I i_))]
abbrev z0z (m_:z6)(round:Int)(ii:List Bool)(s_:Int):List (Nat×T):=[(2,.own (.box (zL m_))),(5,.own (eOs 1 true eB ii)),(6,.d (I round)),(7,.d (I s_))]
abbrev z0A (m_:z6)(ai:List Bool)(round:Int):List (Nat×T):=[(2,.own (.box (zL m_))),(5,.own (eOs 1 true eB ai)),(6,.d (I round))]
theorem z3T (hC:zx Tryz.prog ctr):W7.Ok Tryz.prog:=by
 refine zy ?_;rintro⟨m_,aw⟩ r0 aa;try unfold YK at aa;refine yO true [(4,none)] w5 58 Tryz.func86 fun E hE=>?_;obtain⟨g0,aa⟩:=gdE aa;obtain⟨mh,h0,aa⟩:=zc aa;refine yJ X0 hC w5 [1,1,1] [] [5] (fun z:List Bool=>ZR z=some r0) (fun z=>z0E z) [(2,.own (.box (zL m_))),(5,.own (eOs 1 true eB ((List.replicate ((m_.Rows.length:Nat):Int).toNat false).set aw.toNat true)))] [Ha (lnM yW m_.Rows),Hn (rL g0),Ha (rM 1 eB ((m_.Rows.length:Nat):Int) false),Hn (iL eB h0),Hs (iM eB h0),Hs (iM eB h0),Hl (sM eB (List.replicate ((m_.Rows.length:Nat):Int).toNat false) aw true),Hh (.cut 0)] ?_ fun J1 ar=>?_
 ·rintro out aa
  unfold ZR at aa;obtain rfl:=za aa;exact yE X0 hC hE []
 ·obtain⟨t2,ht2,aa⟩:=zc aa
  refine yL X0 hC w5 [1,1,1,2,1,0] [J1] (fun s=>ZO m_ s.1 s.2) (fun x=>z0A m_ x.1 x.2) (((List.replicate ((m_.Rows.length:Nat):Int).toNat false).set aw.toNat true),0) ht2  [] ?_;rintro⟨ai,round⟩ m2 av ae hl1 J2 ax;try unfold ZO at ae
  let Z0:List HO:=[Ha (lnM yW m_.Rows)];rcases zG ae with⟨c0,ae⟩|⟨c0,ae⟩
  ·refine yJ X0 hC w5 [1,1,1,2,1,0,0,1] [J1,J2] [2,5,6] (fun z:List Bool=>ZQ round z=some av) (fun z=>z0D m_ round z) [(2,.own (.box (zL m_))),(5,.own (eOs 1 true eB ai)),(6,.d (I round))] (Z0++[Hq c0,Hh (.cut 0)]) ?_ fun J3 bh=>?_
   ·rintro ap ae
    unfold ZQ at ae;obtain rfl:=za ae;exact yB X0 hC ax (ap,w64 (round+1)) hl1 []
   ·obtain⟨t4,ht4,ae⟩:=zc ae
    refine yL X0 hC w5 [1,1,1,2,1,0,0,1,2,0,1,0] [J1,J2,J3] (fun s=>qN m_ s.1 s.2) (fun x=>z0z m_ round x.1 x.2) (ai,0) ht4  [] ?_;rintro⟨ii,s_⟩ m4 cw aj hl2 J4 ck;try unfold qN at aj
    let Z1:List HO:=[Ha (lnM yW m_.Rows)];rcases zG aj with⟨c1,aj⟩|⟨c1,aj⟩
    ·refine yJ X0 hC w5 [1,1,1,2,1,0,0,1,2,0,1,0,0,1] [J1,J2,J3,J4] [2,5,6,7] (fun z:List Bool=>ZP s_ z=some cw) (fun z=>z0C m_ round s_ z) [(2,.own (.box (zL m_))),(5,.own (eOs 1 true eB ii)),(6,.d (I round)),(7,.d (I s_))] (Z1++[Hq c1,Hh (.cut 0)]) ?_ fun J5 dh=>?_
     ·rintro jx aj
      unfold ZP at aj;obtain rfl:=za aj;exact yB X0 hC ck (jx,w64 (s_+1)) hl2 []
     ·obtain⟨t6,ik,aj⟩:=zc aj
      refine yL X0 hC w5 [1,1,1,2,1,0,0,1,2,0,1,0,0,1,2,0,1,0] [J1,J2,J3,J4,J5] (fun s=>qM m_ s_ s.1 s.2) (fun x=>z0y m_ round s_ x.1 x.2) (ii,0) ik  [] ?_;rintro⟨eh,i_⟩ m6 l8 bj hl3 J6 cx;try unfold qM at bj;rcases zG bj with⟨c2,bj⟩|⟨c2,bj⟩
      ·refine yJ X0 hC w5 [1,1,1,2,1,0,0,1,2,0,1,0,0,1,2,0,1,0,0,1] [J1,J2,J3,J4,J5,J6] [2,5,6,7,8] (fun z:List Bool=>vK i_ z=some l8) (fun z=>z0B m_ round s_ i_ z) [(2,.own (.box (zL m_))),(5,.own (eOs 1 true eB eh)),(6,.d (I round)),(7,.d (I s_)),(8,.d (I i_))] [Hq c2,Hh (.cut 0)] ?_ fun J7 hJ7=>?_
       ·rintro jy bj
        unfold vK at bj;obtain rfl:=za bj;exact yB X0 hC cx (jy,w64 (i_+1)) hl3 []
       ·obtain⟨am,h1,bj⟩:=zc bj
        obtain⟨ak,h2,bj⟩:=zc bj;obtain⟨ca,h3,bj⟩:=zc bj
        let Z2:List HO:=[Hi yW h1,Hi F8_ h2,Hn (iL eB h3),Hs (iM eB h3)];rcases zG bj with⟨c3,bj⟩|⟨c3,bj⟩
        ·rcases zG bj with⟨c4,bj⟩|⟨c4,bj⟩
         ·obtain⟨gf,h4,bj⟩:=zc bj
          exact yB X0 hC hJ7 (eh.set ak.To.toNat true) bj (Z2++[Hq c3,Hq c3,Hq c3,Hq c4,Hn (iL eB h4),Hs (iM eB h4),Hs (iM eB h4),Hl (sM eB eh ak.To true)])
         ·exact yB X0 hC hJ7 eh bj (Z2++[Hq c3,Hq c3,Hq c3,Hq c4])
        ·exact yB X0 hC hJ7 eh bj (Z2++[Hq c3,Hq c3,Hq c3,qF])
      ·obtain rfl:=za bj
       obtain rfl:=hl3;exact yB X0 hC dh eh aj [Hq c2]
    ·obtain rfl:=za aj
     obtain rfl:=hl2;exact yB X0 hC bh ii ae (Z1++[Hq c1])
  ·obtain rfl:=za ae
   obtain rfl:=hl1;exact yB X0 hC ar ai aa (Z0++[Hq c0])
def kU:Code:=(Tryz.f68.body).getD .skip
def Jz:zP:=spF (α:=z6) (ρ:=List Int) 68 (fun x=>[zL x]) (fun r=>F5_ r) (fun x=>JG x) [] (Vr)
abbrev z5f (out:List Int):List (Nat×T):=[(6,.own (eOs 1 false (eI .i64) out))]
abbrev z5e (r_:List Int)(ah:List Int)(al:List Bool)(s_:Int)(ap:List Int):List (Nat×T):=[(3,.own (eOs 1 false (eI .i64) r_)),(4,.own (eOs 1 false (eI .i64) ah)),(5,.own (eOs 1 true eB al)),(6,.own (eOs 1 false (eI .i64) ap)),(7,.d (I s_))]
abbrev z5d (r_:List Int)(ah:List Int)(al:List Bool)(ai:List Int)(s_:Int)(k_:Int):List (Nat×T):=[(3,.own (eOs 1 false (eI .i64) r_)),(4,.own (eOs 1 false (eI .i64) ah)),(5,.own (eOs 1 true eB al)),(6,.own (eOs 1 false (eI .i64) ai)),(7,.d (I s_)),(8,.d (I k_))]
abbrev z5c (r_:List Int)(ah:List Int)(al:List Bool)(ai:List Int)(s_:Int)(n_:Int)(ew:Int):List (Nat×T):=[(3,.own (eOs 1 false (eI .i64) r_)),(4,.own (eOs 1 false (eI .i64) ah)),(5,.own (eOs 1 true eB al)),(6,.own (eOs 1 false (eI .i64) ai)),(7,.d (I s_)),(8,.d (I ew)),(9,.d (I n_))]
abbrev z5a (r_:List Int)(ah:List Int)(al:List Bool)(ai:List Int)(s_:Int)(ba:Int)(n_:Int):List (Nat×T):=[(3,.own (eOs 1 false (eI .i64) r_)),(4,.own (eOs 1 false (eI .i64) ah)),(5,.own (eOs 1 true eB al)),(6,.own (eOs 1 false (eI .i64) ai)),(7,.d (I s_)),(8,.d (I ba)),(9,.d (I n_))]
abbrev z5b (r_:List Int)(ah:List Int)(al:List Bool)(ai:List Int)(s_:Int):List (Nat×T):=[(3,.own (eOs 1 false (eI .i64) r_)),(4,.own (eOs 1 false (eI .i64) ah)),(5,.own (eOs 1 true eB al)),(6,.own (eOs 1 false (eI .i64) ai)),(7,.d (I s_))]
theorem z91 (hC:zx Tryz.prog ctr)(h0p:ctr.Has ZJ)(h0q:ctr.Has Yo)(h0S:ctr.Has W7):Jz.Ok Tryz.prog:=by
 refine zy ?_;rintro m_ r0 aa;try unfold JG at aa;refine yO true [(2,none)] kU 52 Tryz.func68 fun E hE=>?_;obtain⟨r_,h0,aa⟩:=zc aa;obtain⟨ah,h1,aa⟩:=zc aa;obtain⟨al,h2,aa⟩:=zc aa;refine yJ X0 hC kU [1,1,1,1,1] [] [6] (fun z:List Int=>Ut z=some r0) (fun z=>z5f z) [(3,.own (eOs 1 false (eI .i64) r_)),(4,.own (eOs 1 false (eI .i64) ah)),(5,.own (eOs 1 true eB al)),(6,.own (eOs 1 true (eI .i64) []))] [Hc h0p (x:=m_) h0 (loC zL m_ <| loN),Hc h0q (x:=m_) h1 (loC zL m_ <| loN),Hc h0S (x:=(m_,0)) h2 (loC zL m_ <| loC (eI .i64) 0 <| loN),Hh (.cut 1)] ?_ fun J1 ar=>?_
 ·rintro out aa
  unfold Ut at aa;obtain rfl:=za aa;exact yE X0 hC hE []
 ·obtain⟨t2,ht2,aa⟩:=zc aa
  refine yLx X0 hC kU [1,1,1,1,1,2,1,0] [J1] (fun s=>Uq r_ ah al s.1 s.2) (fun x=>z5b r_ ah al x.1 x.2) (([]:List Int),0) ht2 [(3,.own (eOs 1 false (eI .i64) r_)),(4,.own (eOs 1 false (eI .i64) ah)),(5,.own (eOs 1 true eB al)),(6,.own (eOs 1 true (eI .i64) [])),(7,.d (I 0))] inferInstance [] ?_;rintro⟨ai,s_⟩ m2 av ae hl1 J2 ax;try unfold Uq at ae;rcases zG ae with⟨c0,ae⟩|⟨c0,ae⟩
  ·refine yJ X0 hC kU [1,1,1,1,1,2,1,0,0,1] [J1,J2] [3,4,5,6,7] (fun z:List Int=>Us s_ z=some av) (fun z=>z5e r_ ah al s_ z) [(3,.own (eOs 1 false (eI .i64) r_)),(4,.own (eOs 1 false (eI .i64) ah)),(5,.own (eOs 1 true eB al)),(6,.own (eOs 1 false (eI .i64) ai)),(7,.d (I s_))] [Ha (lnM (eI .i64) r_),Hq c0,Hh (.cut 0)] ?_ fun J3 bh=>?_
   ·rintro ap ae
    unfold Us at ae;obtain rfl:=za ae;exact yB X0 hC ax (ap,w64 (s_+1)) hl1 []
   ·refine yJ X0 hC kU [1,1,1,1,1,2,1,0,0,1,2,0,1] [J1,J2,J3] [3,4,5,6,7,8] (fun z:Int=>Ur ai s_ z=some av) (fun z=>z5d r_ ah al ai s_ z) [(3,.own (eOs 1 false (eI .i64) r_)),(4,.own (eOs 1 false (eI .i64) ah)),(5,.own (eOs 1 true eB al)),(6,.own (eOs 1 false (eI .i64) ai)),(7,.d (I s_)),(8,.d (I (-1)))] [Hh (.cut 1)] ?_ fun J4 ck=>?_
    ·rintro k_ ae
     unfold Ur at ae;obtain⟨g0,ae⟩:=gdE ae;exact yB X0 hC bh (ai++([k_]:List Int)) ae [Hq (dM (eI .i64) ([k_]:List Int)),Hn (dM (eI .i64) ([k_]:List Int)),Hn (aL (eI .i64) (eI .i64) g0),Hl (aM (eI .i64) ai ([k_]:List Int))]
    ·obtain⟨t5,ht5,ae⟩:=zc ae
     refine yL X0 hC kU [1,1,1,1,1,2,1,0,0,1,2,0,1,2,1,0] [J1,J2,J3,J4] (fun s=>XN r_ ah al s_ s.1 s.2) (fun x=>z5a r_ ah al ai s_ x.1 x.2) ((-1),0) ht5  [] ?_;rintro⟨ba,n_⟩ m5 cw aj hl2 J5 dh;try unfold XN at aj;rcases zG aj with⟨c1,aj⟩|⟨c1,aj⟩
     ·refine yJ X0 hC kU [1,1,1,1,1,2,1,0,0,1,2,0,1,2,1,0,0,1] [J1,J2,J3,J4,J5] [3,4,5,6,7,8,9] (fun z:Int=>Ya n_ z=some cw) (fun z=>z5c r_ ah al ai s_ n_ z) [(3,.own (eOs 1 false (eI .i64) r_)),(4,.own (eOs 1 false (eI .i64) ah)),(5,.own (eOs 1 true eB al)),(6,.own (eOs 1 false (eI .i64) ai)),(7,.d (I s_)),(8,.d (I ba)),(9,.d (I n_))] [Ha (lnM (eI .i64) ah),Hq c1,Hh (.cut 0)] ?_ fun J6 cx=>?_
      ·rintro ew aj
       unfold Ya at aj;obtain rfl:=za aj;exact yB X0 hC dh (ew,w64 (n_+1)) hl2 []
      ·obtain⟨d6,h3,aj⟩:=zc aj
       let Z0:List HO:=[Hn (iL eB h3),Hs (iM eB h3)];rcases zG aj with⟨c2,aj⟩|⟨c2,aj⟩
       ·obtain⟨ga,h4,aj⟩:=zc aj
        obtain⟨i7,h5,aj⟩:=zc aj;obtain⟨i8,h6,aj⟩:=zc aj
        let Z1:List HO:=(Z0++(rpN 4 (Hq c2) [Hn (iL (eI .i64) h4),Hq c2,Hs (iM (eI .i64) h4),Hq c2,Hn (iL (eI .i64) h5),Hq c2,Hs (iM (eI .i64) h5),Hq c2,Hq c2,Hq c2,Hn (iL (eI .i64) h6),Hq c2,Hs (iM (eI .i64) h6),Hq c2,Hq c2]));rcases zG aj with⟨c3,aj⟩|⟨c3,aj⟩
        ·exact yB X0 hC cx n_ aj (Z1++[Hq c3])
        ·exact yB X0 hC cx ba aj (Z1++[Hq c3])
       ·exact yB X0 hC cx ba aj (Z0++(rpN 13 (Hq c2) [qF]))
     ·obtain rfl:=za aj
      obtain rfl:=hl2;exact yB X0 hC ck ba ae [Ha (lnM (eI .i64) ah),Hq c1]
  ·obtain rfl:=za ae
   obtain rfl:=hl1;exact yB X0 hC ar ai aa [Ha (lnM (eI .i64) r_),Hq c0]
def wQ:Code:=(Tryz.f34.body).getD .skip
def W6:zP:=spF (α:=z6) (ρ:=z6) 34 (fun x=>[zL x]) (fun r=>zL r) (fun x=>Yx x) [] (Vr)
abbrev z0x (m_:z6)(gh:List (List z8)):List (Nat×T):=[(2,.own (.box (.agg [I 0,I 0,eOs 1 true yW []]))),(5,.own (.box (.agg [I m_.Inputs,I m_.Outputs,eOs 1 false jD gh])))]
abbrev z0w (m_:z6)(r_:List Int)(ah:List Int)(k_:Int)(fq:List (List z8)):List (Nat×T):=[(1,.own (.box (zL m_))),(2,.own (.box (.agg [I 0,I 0,eOs 1 true yW []]))),(3,.own (eOs 1 false (eI .i64) r_)),(4,.own (eOs 1 false (eI .i64) ah)),(5,.own (.box (.agg [I m_.Inputs,I m_.Outputs,eOs 1 false jD fq]))),(6,.d (I k_))]
abbrev z0v (m_:z6)(r_:List Int)(ah:List Int)(a9:List (List z8))(k_:Int)(row:List z8):List (Nat×T):=[(1,.own (.box (zL m_))),(2,.own (.box (.agg [I 0,I 0,eOs 1 true yW []]))),(3,.own (eOs 1 false (eI .i64) r_)),(4,.own (eOs 1 false (eI .i64) ah)),(5,.own (.box (.agg [I m_.Inputs,I m_.Outputs,eOs 1 false jD a9]))),(6,.d (I k_)),(7,.own (eOs 2 false F8_ row))]
abbrev z0u (m_:z6)(r_:List Int)(ah:List Int)(a9:List (List z8))(k_:Int)(cb:List z8)(i_:Int)(ak:z8)(em:Int):List (Nat×T):=[(1,.own (.box (zL m_))),(2,.own (.box (.agg [I 0,I 0,eOs 1 true yW []]))),(3,.own (eOs 1 false (eI .i64) r_)),(4,.own (eOs 1 false (eI .i64) ah)),(5,.own (.box (.agg [I m_.Inputs,I m_.Outputs,eOs 1 false jD a9]))),(6,.d (I k_)),(7,.own (eOs 2 false F8_ cb)),(8,.d (I i_)),(9,.own (.box (.agg [I em,I ak.Out])))]
abbrev z0s (m_:z6)(r_:List Int)(ah:List Int)(a9:List (List z8))(k_:Int)(cb:List z8)(i_:Int):List (Nat×T):=[(1,.own (.box (zL m_))),(2,.own (.box (.agg [I 0,I 0,eOs 1 true yW []]))),(3,.own (eOs 1 false (eI .i64) r_)),(4,.own (eOs 1 false (eI .i64) ah)),(5,.own (.box (.agg [I m_.Inputs,I m_.Outputs,eOs 1 false jD a9]))),(6,.d (I k_)),(7,.own (eOs 2 false F8_ cb)),(8,.d (I i_))]
abbrev z0t (m_:z6)(r_:List Int)(ah:List Int)(a9:List (List z8))(k_:Int):List (Nat×T):=[(1,.own (.box (zL m_))),(2,.own (.box (.agg [I 0,I 0,eOs 1 true yW []]))),(3,.own (eOs 1 false (eI .i64) r_)),(4,.own (eOs 1 false (eI .i64) ah)),(5,.own (.box (.agg [I m_.Inputs,I m_.Outputs,eOs 1 false jD a9]))),(6,.d (I k_))]
theorem z3R (hC:zx Tryz.prog ctr)(h0q:ctr.Has Yo)(h0T:ctr.Has Jz):W6.Ok Tryz.prog:=by
 refine zy ?_;rintro m_ r0 aa;try unfold Yx at aa;refine yO false [(2,some 30)] wQ 62 Tryz.func34 fun E hE=>?_;obtain⟨r_,h0,aa⟩:=zc aa;obtain⟨ah,h1,aa⟩:=zc aa;refine yJ X0 hC wQ [1,1,1,1] [] [2,5] (fun z:List (List z8)=>ZN m_ z=some r0) (fun z=>z0x m_ z) [(1,.own (.box (zL m_))),(2,.own (.box (.agg [I 0,I 0,eOs 1 true yW []]))),(3,.own (eOs 1 false (eI .i64) r_)),(4,.own (eOs 1 false (eI .i64) ah)),(5,.own (.box (.agg [I m_.Inputs,I m_.Outputs,eOs 1 true yW []])))] [Hc h0q (x:=m_) h0 (loC zL m_ <| loN),Hc h0T (x:=m_) h1 (loC zL m_ <| loN),Hh (.cut 1)] ?_ fun J1 ar=>?_
 ·rintro gh aa
  unfold ZN at aa;obtain rfl:=za aa;exact yE X0 hC hE [Hm (shM jD yW gh)]
 ·obtain⟨t2,ht2,aa⟩:=zc aa
  refine yLx X0 hC wQ [1,1,1,1,2,1,0] [J1] (fun s=>qL m_ r_ ah s.1 s.2) (fun x=>z0t m_ r_ ah x.1 x.2) (([]:List (List z8)),0) ht2 [(1,.own (.box (zL m_))),(2,.own (.box (.agg [I 0,I 0,eOs 1 true yW []]))),(3,.own (eOs 1 false (eI .i64) r_)),(4,.own (eOs 1 false (eI .i64) ah)),(5,.own (.box (.agg [I m_.Inputs,I m_.Outputs,eOs 1 true jD []]))),(6,.d (I 0))] inferInstance [] ?_;rintro⟨a9,k_⟩ m2 av ae hl1 J2 ax;try unfold qL at ae;rcases zG ae with⟨c0,ae⟩|⟨c0,ae⟩
  ·refine yJ X0 hC wQ [1,1,1,1,2,1,0,0,1] [J1,J2] [1,2,3,4,5,6] (fun z:List (List z8)=>ZM k_ z=some av) (fun z=>z0w m_ r_ ah k_ z) [(1,.own (.box (zL m_))),(2,.own (.box (.agg [I 0,I 0,eOs 1 true yW []]))),(3,.own (eOs 1 false (eI .i64) r_)),(4,.own (eOs 1 false (eI .i64) ah)),(5,.own (.box (.agg [I m_.Inputs,I m_.Outputs,eOs 1 false jD a9]))),(6,.d (I k_))] [Ha (lnM (eI .i64) r_),Hq c0,Hh (.cut 0)] ?_ fun J3 bh=>?_
   ·rintro fq ae
    unfold ZM at ae;obtain rfl:=za ae;exact yB X0 hC ax (fq,w64 (k_+1)) hl1 []
   ·refine yJ X0 hC wQ [1,1,1,1,2,1,0,0,1,2,0,1] [J1,J2,J3] [1,2,3,4,5,6,7] (fun z:List z8=>ZL a9 k_ z=some av) (fun z=>z0v m_ r_ ah a9 k_ z) [(1,.own (.box (zL m_))),(2,.own (.box (.agg [I 0,I 0,eOs 1 true yW []]))),(3,.own (eOs 1 false (eI .i64) r_)),(4,.own (eOs 1 false (eI .i64) ah)),(5,.own (.box (.agg [I m_.Inputs,I m_.Outputs,eOs 1 false jD a9]))),(6,.d (I k_)),(7,.own (eOs 2 true F8_ []))] [Hh (.cut 1)] ?_ fun J4 ck=>?_
    ·rintro row ae
     unfold ZL at ae;obtain⟨g0,ae⟩:=gdE ae;exact yB X0 hC bh (a9++([row]:List (List z8))) ae [Hq (oC jD row []),Hn (aL jD jD g0),Hl (aM jD a9 ([row]:List (List z8)))]
    ·obtain⟨t5,ht5,ae⟩:=zc ae
     refine yLx X0 hC wQ [1,1,1,1,2,1,0,0,1,2,0,1,2,1,0] [J1,J2,J3,J4] (fun s=>qK m_ r_ ah k_ s.1 s.2) (fun x=>z0s m_ r_ ah a9 k_ x.1 x.2) (([]:List z8),0) ht5 [(1,.own (.box (zL m_))),(2,.own (.box (.agg [I 0,I 0,eOs 1 true yW []]))),(3,.own (eOs 1 false (eI .i64) r_)),(4,.own (eOs 1 false (eI .i64) ah)),(5,.own (.box (.agg [I m_.Inputs,I m_.Outputs,eOs 1 false jD a9]))),(6,.d (I k_)),(7,.own (eOs 2 true F8_ [])),(8,.d (I 0))] inferInstance [] ?_;rintro⟨cb,i_⟩ m5 cw aj hl2 J5 dh;try unfold qK at aj;rcases zG aj with⟨c1,aj⟩|⟨c1,aj⟩
     ·obtain⟨d6,h2,aj⟩:=zc aj
      obtain⟨am,h3,aj⟩:=zc aj;obtain⟨ak,h4,aj⟩:=zc aj;refine yJ X0 hC wQ [1,1,1,1,2,1,0,0,1,2,0,1,2,1,0,0,1,0,0,1] [J1,J2,J3,J4,J5] [1,2,3,4,5,6,7,8,9] (fun z:Int=>vJ cb i_ ak z=some cw) (fun z=>z0u m_ r_ ah a9 k_ cb i_ ak z) [(1,.own (.box (zL m_))),(2,.own (.box (.agg [I 0,I 0,eOs 1 true yW []]))),(3,.own (eOs 1 false (eI .i64) r_)),(4,.own (eOs 1 false (eI .i64) ah)),(5,.own (.box (.agg [I m_.Inputs,I m_.Outputs,eOs 1 false jD a9]))),(6,.d (I k_)),(7,.own (eOs 2 false F8_ cb)),(8,.d (I i_)),(9,.own (.box (F8_ ak)))] [Hq c1,Hn (iL (eI .i64) h2),Hs (iM (eI .i64) h2),Hi yW h3,Hi F8_ h4,Hh (.cut 0)] ?_ fun J6 cx=>?_
      ·rintro em aj
       unfold vJ at aj;obtain⟨g1,aj⟩:=gdE aj;obtain rfl:=za aj;exact yB X0 hC dh ((cb++([(z8.mk em ak.Out)]:List z8)),w64 (i_+1)) hl2 [Hq (dM F8_ ([(z8.mk em ak.Out)]:List z8)),Hn (dM F8_ ([(z8.mk em ak.Out)]:List z8)),Hn (aL F8_ F8_ g1),Hl (aM F8_ cb ([(z8.mk em ak.Out)]:List z8))]
      ·rcases zG aj with⟨c2,aj⟩|⟨c2,aj⟩
       ·obtain⟨ga,h5,aj⟩:=zc aj
        exact yB X0 hC cx ga aj [Hq c2,Hn (iL (eI .i64) h5),Hs (iM (eI .i64) h5)]
       ·exact yB X0 hC cx ak.To aj [Hq c2]
     ·obtain rfl:=za aj
      obtain rfl:=hl2;exact yB X0 hC ck cb ae [Hq c1]
  ·obtain rfl:=za ae
   obtain rfl:=hl1;exact yB X0 hC ar a9 aa [Ha (lnM (eI .i64) r_),Hq c0]
def z7p:Code:=(Tryz.f9.body).getD .skip
def Qq:zP:=spF (α:=ub) (ρ:=z6) 9 (fun x=>[(ZF Kg) x]) (fun r=>zL r) (fun x=>Q5 x) [] (Vr)
theorem z7N (hC:zx Tryz.prog ctr)(h0U:ctr.Has Qr)(h0V:ctr.Has W6):Qq.Ok Tryz.prog:=by
 refine zy ?_;rintro x_ r0 aa;try unfold Q5 at aa;refine yO false [(2,some 30)] z7p 13 Tryz.func9 fun E hE=>?_;obtain⟨g0,aa⟩:=gdE aa;obtain⟨r_,h0,aa⟩:=zc aa;obtain⟨ah,h1,aa⟩:=zc aa;obtain rfl:=za aa;exact yE X0 hC hE [Hn g0,Hc h0U (x:=(zD.mk (Int.tmod x_.C.States 5) x_.C.Inputs x_.C.Outputs x_.C.Tree x_.C.Edges)) h0 (loC Kg (zD.mk (Int.tmod x_.C.States 5) x_.C.Inputs x_.C.Outputs x_.C.Tree x_.C.Edges) <| loN),Hc h0V (x:=r_) h1 (loC zL r_ <| loN)]
def z3g:Code:=(Tryz.f125.body).getD .skip
def qH:zP:=spF (α:=Unit) (ρ:=z8) 125 (fun x=>[]) (fun r=>F8_ r) (fun x=>u6) [] (fun _ _ _=>rfl)
theorem z3V (hC:zx Tryz.prog ctr):qH.Ok Tryz.prog:=by
 refine zy ?_;rintro⟨⟩ r0 aa;try unfold u6 at aa;refine yO false [(0,some 67)] z3g 2 Tryz.func125 fun E hE=>?_;obtain rfl:=za aa;exact yE X0 hC hE []
def z3h:Code:=(Tryz.f94.body).getD .skip
def W9:zP:=spF (α:=z6×z8) (ρ:=Bool) 94 (fun x=>[zL x.1,F8_ x.2]) (fun r=>eB r) (fun x=>YQ x.1 x.2) [] (Qh)
theorem z3W (hC:zx Tryz.prog ctr)(h0d:ctr.Has qH):W9.Ok Tryz.prog:=by
 refine zy ?_;rintro⟨m_,x_⟩ r0 aa;try unfold YQ at aa;refine yO true [(4,none)] z3h 33 Tryz.func94 fun E hE=>?_;obtain⟨r_,h0,aa⟩:=zc aa
 let Z0:List HO:=[Hc h0d (x:=()) h0 (loN)];rcases zG aa with⟨c0,aa⟩|⟨c0,aa⟩
 ·obtain rfl:=za aa
  exact yE X0 hC hE (Z0++(rpN 10 (Hq c0) []))
 ·let Z1:List HO:=(Z0++(rpN 4 (Hq c0) []))
  rcases zG aa with⟨c1,aa⟩|⟨c1,aa⟩
  ·let Z2:List HO:=(Z1++(rpN 5 (Hq c1) [Ha (lnM yW m_.Rows),Hq c1,Hq c0,Hq c1,Hq c0]))
   rcases zG aa with⟨c2,aa⟩|⟨c2,aa⟩
   ·let Z3:List HO:=(Z2++[Hq c2,Hq c2,Hq c2,Hq c0,Hq c2,Hq c0])
    rcases zG aa with⟨c3,aa⟩|⟨c3,aa⟩
    ·obtain rfl:=za aa
     exact yE X0 hC hE (Z3++(rpN 5 (Hq c3) [Hq c0,Hq c3,Hq c0]))
    ·obtain rfl:=za aa
     exact yE X0 hC hE (Z3++(rpN 5 (Hq c3) [Hq c0,Hq c3,Hq c0]))
   ·obtain rfl:=za aa
    exact yE X0 hC hE (Z2++(Hq c2::Hq c2::Hq c2::Hq c0::Hq c2::Hq c0::(rpN 5 qF [Hq c0,qF,Hq c0])))
  ·obtain rfl:=za aa
   exact yE X0 hC hE (Z1++(rpN 6 (Hq c1) (Hq c0::Hq c1::Hq c0::qF::qF::qF::Hq c0::qF::Hq c0::(rpN 5 qF [Hq c0,qF,Hq c0]))))
def z0j:Code:=(Tryz.f93.body).getD .skip
def ZY:zP:=spF (α:=z8×z6) (ρ:=Bool) 93 (fun x=>[F8_ x.1,z1P x.2]) (fun r=>eB r) (fun x=>ZT x.1 x.2) [] (Qh)
theorem z0U (hC:zx Tryz.prog ctr)(h0W:ctr.Has W9):ZY.Ok Tryz.prog:=by
 refine zy ?_;rintro⟨x_,x1⟩ r0 aa;try unfold ZT at aa;refine yO true [(3,none)] z0j 8 Tryz.func93 fun E hE=>?_;obtain⟨r_,h0,aa⟩:=zc aa;obtain rfl:=za aa;exact yE X0 hC hE [Hc h0W (x:=(x1,x_)) h0 (loC zL x1 <| loC F8_ x_ <| loN)]
def xo:Code:=(Tryz.f124.body).getD .skip
def xk:zP:=spF (α:=List z8×z6) (ρ:=Int) 124 (fun x=>[yW x.1,(KD 93 z1P) x.2]) (fun r=>(eI .i64) r) (fun x=>yz x.1 x.2) [] (by
 rintro⟨a0,a1⟩ ⟨b0,b1⟩ h;have e0:=Yc.inj (f:=yW) _ _ (List.cons.inj h).1;replace h:=(List.cons.inj h).2;have e1:=Yc.inj (f:=(KD 93 z1P)) _ _ (List.cons.inj h).1;subst e0 e1;rfl)
abbrev jY:List (Nat×T):=[]
abbrev jX (s_:List z8)(f_:z6)(x8:Int):List (Nat×T):=[(0,.d (eSl 2 false F8_ s_)),(1,.d (.fn 93 [.sptr (.agg [I f_.Inputs,I f_.Outputs,eSl 1 false yW f_.Rows])])),(7,.d (I ((s_.length:Nat):Int))),(8,.d (I x8))]
theorem Zx (hC:zx Tryz.prog ctr)(h0X:ctr.Has ZY):xk.Ok Tryz.prog:=by
 refine zy ?_;rintro⟨s_,f_⟩ r0 aa;try unfold yz at aa;refine yO true [(4,none)] xo 19 Tryz.func124 fun E hE=>?_;refine yJ X0 hC xo [1] [] [] (fun z:Unit=>xm=some r0) (fun z=>jY) [(0,.d (eSl 2 false F8_ s_)),(1,.d (.fn 93 [.sptr (.agg [I f_.Inputs,I f_.Outputs,eSl 1 false yW f_.Rows])]))] [Hh (.cut 1)] ?_ fun J1 ar=>?_
 ·rintro⟨⟩ aa
  unfold xm at aa;obtain rfl:=za aa;exact yE X0 hC hE []
 ·obtain⟨t2,ht2,aa⟩:=zc aa
  refine yL X0 hC xo [1,2,1,0] [J1] (fun s=>zR s_ f_ s) (fun x=>jX s_ f_ x) 0 ht2  [Ha (lnM F8_ s_)] ?_;rintro x8 m2 av ae hl1 J2 ax;try unfold zR at ae;rcases zG ae with⟨c0,ae⟩|⟨c0,ae⟩
  ·obtain⟨da,h0,ae⟩:=zc ae
   obtain⟨r_,h1,ae⟩:=zc ae
   let Z0:List HO:=[Hq c0,Hi F8_ h0,Hc h0X (x:=(da,f_)) h1 (loC F8_ da <| loC z1P f_ <| loN)];rcases zG ae with⟨c1,ae⟩|⟨c1,ae⟩
   ·obtain rfl:=za ae
    obtain rfl:=hl1;obtain rfl:=za aa;exact yE X0 hC hE (Z0++[Hq c1])
   ·obtain rfl:=za ae
    exact yB X0 hC ax (w64 (x8+1)) hl1 (Z0++[Hq c1])
  ·obtain rfl:=za ae
   obtain rfl:=hl1;exact yB X0 hC ar () aa [Hq c0]
def jW:Code:=(Tryz.f92.body).getD .skip
def yM:zP:=spF (α:=List z8×z6) (ρ:=Bool) 92 (fun x=>[yW x.1,(KD 93 z1P) x.2]) (fun r=>eB r) (fun x=>y6 x.1 x.2) [] (by
 rintro⟨a0,a1⟩ ⟨b0,b1⟩ h;have e0:=Yc.inj (f:=yW) _ _ (List.cons.inj h).1;replace h:=(List.cons.inj h).2;have e1:=Yc.inj (f:=(KD 93 z1P)) _ _ (List.cons.inj h).1;subst e0 e1;rfl)
theorem k7 (hC:zx Tryz.prog ctr)(h0Y:ctr.Has xk):yM.Ok Tryz.prog:=by
 refine zy ?_;rintro⟨s_,f_⟩ r0 aa;try unfold y6 at aa;refine yO true [(4,none)] jW 9 Tryz.func92 fun E hE=>?_;obtain⟨r_,h0,aa⟩:=zc aa;obtain rfl:=za aa;exact yE X0 hC hE [Hc h0Y (x:=(s_,f_)) h0 (loC yW s_ <| loC (KD 93 z1P) f_ <| loN)]
def Xt:Code:=(Tryz.f70.body).getD .skip
def xI:zP:=spF (α:=z6) (ρ:=Int) 70 (fun x=>[zL x]) (fun r=>(eI .i64) r) (fun x=>xN x) [] (Vr)
abbrev KO:List (Nat×T):=[]
abbrev KN (m_:z6)(ic:Int):List (Nat×T):=[(1,.d (.sptr (zL m_))),(34,.d (eSl 1 false yW m_.Rows)),(35,.d (I ((m_.Rows.length:Nat):Int))),(36,.d (I ic))]
theorem z3b (hC:zx Tryz.prog ctr)(h0Z:ctr.Has yM):xI.Ok Tryz.prog:=by
 refine zy ?_;rintro m_ r0 aa;try unfold xN at aa;refine yO true [(2,none)] Xt 51 Tryz.func70 fun E hE=>?_;rcases zG aa with⟨c0,aa⟩|⟨c0,aa⟩
 ·obtain rfl:=za aa
  exact yE X0 hC hE (rpN 4 (Hq c0) (rpN 6 qT []))
 ·let Z0:List HO:=(rpN 4 (Hq c0) [])
  rcases zG aa with⟨c1,aa⟩|⟨c1,aa⟩
  ·obtain rfl:=za aa
   exact yE X0 hC hE (Z0++(rpN 5 (Hq c1) [qT]))
  ·let Z1:List HO:=(Z0++[Hq c1,Hq c1,Hq c1,Ha (lnM yW m_.Rows),Hq c1,Hq c1])
   rcases zG aa with⟨c2,aa⟩|⟨c2,aa⟩
   ·obtain rfl:=za aa
    exact yE X0 hC hE (Z1++[Hq c2])
   ·rcases zG aa with⟨c3,aa⟩|⟨c3,aa⟩
    ·obtain rfl:=za aa
     exact yE X0 hC hE (Z1++(Hq c2::(rpN 4 (Hq c3) (rpN 6 qT []))))
    ·let Z2:List HO:=(Z1++(Hq c2::(rpN 4 (Hq c3) [])))
     rcases zG aa with⟨c4,aa⟩|⟨c4,aa⟩
     ·obtain rfl:=za aa
      exact yE X0 hC hE (Z2++(rpN 5 (Hq c4) [qT]))
     ·let Z3:List HO:=(Z2++[Hq c4,Hq c4,Hq c4,Ha (lnM yW m_.Rows),Hq c4,Hq c4])
      rcases zG aa with⟨c5,aa⟩|⟨c5,aa⟩
      ·obtain rfl:=za aa
       exact yE X0 hC hE (Z3++[Hq c5])
      ·refine yJ X0 hC Xt [1,1,1] [] [] (fun z:Unit=>Xn=some r0) (fun z=>KO) [(1,.own (.box (zL m_)))] (Z3++[Hq c5,Hh (.cut 0)]) ?_ fun J1 ar=>?_
       ·rintro⟨⟩ aa
        unfold Xn at aa;obtain rfl:=za aa;exact yE X0 hC hE []
       ·obtain⟨t2,ht2,aa⟩:=zc aa
        refine yL X0 hC Xt [1,1,1,2,1,0] [J1] (fun s=>vb m_ s) (fun x=>KN m_ x) 0 ht2  [Ha (lnM yW m_.Rows),Hh (.n 1 [1])] ?_;rintro ic m2 av ae hl1 J2 ax;try unfold vb at ae;rcases zG ae with⟨c6,ae⟩|⟨c6,ae⟩
        ·obtain⟨am,h0,ae⟩:=zc ae
         let Z4:List HO:=[Hq c6,Hi yW h0,Ha (lnM F8_ am)];rcases zG ae with⟨c7,ae⟩|⟨c7,ae⟩
         ·obtain rfl:=za ae
          obtain rfl:=hl1;obtain rfl:=za aa;exact yE X0 hC hE (Z4++(rpN 4 (Hq c7) [qT]))
         ·obtain⟨r_,h1,ae⟩:=zc ae
          let Z5:List HO:=(Z4++[Hq c7,Hq c7,Hq c7,Hc h0Z (x:=(am,m_)) h1 (loC yW am <| loC (KD 93 z1P) m_ <| loN),Hq c7]);rcases zG ae with⟨c8,ae⟩|⟨c8,ae⟩
          ·obtain rfl:=za ae
           obtain rfl:=hl1;obtain rfl:=za aa;exact yE X0 hC hE (Z5++[Hq c8])
          ·obtain rfl:=za ae
           exact yB X0 hC ax (w64 (ic+1)) hl1 (Z5++[Hq c8])
        ·obtain rfl:=za ae
         obtain rfl:=hl1;exact yB X0 hC ar () aa [Hq c6]
def z1j:Code:=(Tryz.f71.body).getD .skip
def Yr:zP:=spF (α:=z6) (ρ:=(Int×z6)×(Int×z6)×(Int×z6)) 71 (fun x=>[zL x]) (fun r=>(zq2 (znu (eI .i64) (KD 95 z1P)) (znu (eI .i64) (KD 97 z1P)) (znu (eI .i64) (KD 99 z1P))) r) (fun x=>YM x) [] (Vr)
theorem z1X (hC:zx Tryz.prog ctr):Yr.Ok Tryz.prog:=by
 refine zy ?_;rintro m_ r0 aa;try unfold YM at aa;refine yO false [(2,some 96)] z1j 10 Tryz.func71 fun E hE=>?_;obtain rfl:=za aa;exact yEx X0 hC hE [] (.agg [.agg [I 9,.fn 95 [.sptr (.agg [I m_.Inputs,I m_.Outputs,eSl 1 false yW m_.Rows])]],.agg [I 11,.fn 97 [.sptr (.agg [I m_.Inputs,I m_.Outputs,eSl 1 false yW m_.Rows])]],.agg [I 12,.fn 99 [.sptr (.agg [I m_.Inputs,I m_.Outputs,eSl 1 false yW m_.Rows])]]]) (show LeV (.agg [.agg [I 9,.fn 95 [.sptr (.agg [I m_.Inputs,I m_.Outputs,eSl 1 false yW m_.Rows])]],.agg [I 11,.fn 97 [.sptr (.agg [I m_.Inputs,I m_.Outputs,eSl 1 false yW m_.Rows])]],.agg [I 12,.fn 99 [.sptr (.agg [I m_.Inputs,I m_.Outputs,eSl 1 false yW m_.Rows])]]]) (.agg [.agg [I ((((9,m_),(11,m_),(12,m_)).1).1),.fn 95 [.sptr (.agg [I (((((9,m_),(11,m_),(12,m_)).1).2).Inputs),I (((((9,m_),(11,m_),(12,m_)).1).2).Outputs),eSl 1 false yW (((((9,m_),(11,m_),(12,m_)).1).2).Rows)])]],.agg [I ((((9,m_),(11,m_),(12,m_)).2.1).1),.fn 97 [.sptr (.agg [I (((((9,m_),(11,m_),(12,m_)).2.1).2).Inputs),I (((((9,m_),(11,m_),(12,m_)).2.1).2).Outputs),eSl 1 false yW (((((9,m_),(11,m_),(12,m_)).2.1).2).Rows)])]],.agg [I ((((9,m_),(11,m_),(12,m_)).2.2).1),.fn 99 [.sptr (.agg [I (((((9,m_),(11,m_),(12,m_)).2.2).2).Inputs),I (((((9,m_),(11,m_),(12,m_)).2.2).2).Outputs),eSl 1 false yW (((((9,m_),(11,m_),(12,m_)).2.2).2).Rows)])]]]) from inferInstance)
def z2n:Code:=(Tryz.f144.body).getD .skip
def Xl:zP:=spF (α:=z6) (ρ:=z6) 144 (fun x=>[zL x]) (fun r=>(KD 166 z1P) r) (fun x=>XD x) [] (Vr)
theorem z3a (hC:zx Tryz.prog ctr):Xl.Ok Tryz.prog:=by
 refine zy ?_;rintro m_ r0 aa;try unfold XD at aa;refine yO true [(2,none)] z2n 4 Tryz.func144 fun E hE=>?_;obtain rfl:=za aa;exact yE X0 hC hE []
def qz:Code:=(Tryz.f166.body).getD .skip
abbrev Jj (x0:z6)(YY:σ->z6l)(cr:Int)(ft:σ):List (Nat×T):=[(0,.own (.opq (YY ft).q)),(8,.d (eSl 1 false yW x0.Rows)),(9,.d (I ((x0.Rows.length:Nat):Int))),(10,.d (I cr))]
abbrev Jh (x0:z6)(YY:σ->z6l)(cr:Int)(am:List z8)(de:σ)(aq:Int):List (Nat×T):=[(0,.own (.opq (YY de).q)),(3,.d (I cr)),(8,.d (eSl 1 false yW x0.Rows)),(9,.d (I ((x0.Rows.length:Nat):Int))),(10,.d (I cr)),(15,.d (eSl 2 false F8_ am)),(16,.d (I ((am.length:Nat):Int))),(17,.d (I aq))]
abbrev Ji (x0:z6)(YY:σ->z6l)(ce:σ)(cr:Int):List (Nat×T):=[(0,.own (.opq (YY ce).q)),(8,.d (eSl 1 false yW x0.Rows)),(9,.d (I ((x0.Rows.length:Nat):Int))),(10,.d (I cr))]
theorem z0T (hC:zx Tryz.prog ctr)(x0:z6):z9Q Tryz.prog (.fn 166 [.sptr (.agg [I x0.Inputs,I x0.Outputs,eSl 1 false yW x0.Rows])]) (fun(x:wz Int×z8) (_:Bool) (_:Value)=>[F0_ x.1,F8_ x.2]) (@qO x0):=by
 refine z75 (tt:=yu) (nt:=31) (body:=qz) zt Tryz.func166 rfl (by kernel_rfl) rfl rfl (by show(2:Nat)<=31;decide) ?_
 intro σ yv YY yy hy sg r0 aa E hE;unfold qO at aa;obtain⟨t1,ht1,aa⟩:=zc aa;refine yL X0 hC qz [1,0] [] (fun s=>vw x0 yy s.1 s.2) (fun x=>Ji x0 YY x.1 x.2) (sg,0) ht1  [Ha (lnM yW x0.Rows)] ?_;rintro⟨ce,cr⟩ m1 av ae hl1 J1 ar;try unfold vw at ae;rcases zG ae with⟨c0,ae⟩|⟨c0,ae⟩
 ·refine yJ X0 hC qz [1,0,0,1,1] [J1] [0,8,9,10] (fun z:σ=>qm cr z=some av) (fun z=>Jj x0 YY cr z) [(0,.own (.opq (YY ce).q)),(8,.d (eSl 1 false yW x0.Rows)),(9,.d (I ((x0.Rows.length:Nat):Int))),(10,.d (I cr))] [Hq c0,Hh (.cut 0)] ?_ fun J2 ax=>?_
  ·rintro ft ae
   unfold qm at ae;obtain rfl:=za ae;exact yB X0 hC ar (ft,w64 (cr+1)) hl1 []
  ·obtain⟨am,h0,ae⟩:=zc ae
   obtain⟨t3,ht3,ae⟩:=zc ae;refine yL X0 hC qz [1,0,0,1,1,2,0,1,1,0] [J1,J2] (fun s=>wg yy cr am s.1 s.2) (fun x=>Jh x0 YY cr am x.1 x.2) (ce,0) ht3  [Hi yW h0,Ha (lnM F8_ am)] ?_;rintro⟨de,aq⟩ m3 cw aj hl2 J3 bh;try unfold wg at aj;rcases zG aj with⟨c1,aj⟩|⟨c1,aj⟩
   ·obtain⟨ak,h1,aj⟩:=zc aj
    obtain⟨yr,h2,aj⟩:=zc aj
    let Z0:List HO:=[Hq c1,Hi F8_ h1,Hn (z6C (yv:=yv) (Y:=YY) (enc:=(fun(x:wz Int×z8) (_:Bool) (_:Value)=>[F0_ x.1,F8_ x.2])) (s:=de) (x:=((wz.mk cr aq),ak)) (s':=yr.1) (b:=yr.2) (v:=.nilFunc) [F0_ (wz.mk cr aq),F8_ ak] (show Ku [F0_ (wz.mk cr aq),F8_ ak] [F0_ (wz.mk cr aq),F8_ ak] from inferInstance))];rcases zG aj with⟨c2,aj⟩|⟨c2,aj⟩
    ·obtain rfl:=za aj
     obtain rfl:=hl2;obtain rfl:=za ae;obtain rfl:=hl1;obtain rfl:=za aa;exact yF ((z0O (P:=Tryz.prog) yu hy 27 (s:=de) (x:=((wz.mk cr aq),ak)) (s':=yr.1) (b:=yr.2) .nilFunc h2).or X0) hC .ret [(0,.own (.opq (YY yr.1).q))] (Z0++[Hq c2]) fun st0 h0=>hE _ st0 (.inr rfl) h0
    ·obtain rfl:=za aj
     exact yB ((z0O (P:=Tryz.prog) yu hy 27 (s:=de) (x:=((wz.mk cr aq),ak)) (s':=yr.1) (b:=yr.2) .nilFunc h2).or X0) hC bh (yr.1,w64 (aq+1)) hl2 (Z0++[Hq c2])
   ·obtain rfl:=za aj
    obtain rfl:=hl2;exact yB X0 hC ax de ae [Hq c1]
 ·obtain rfl:=za ae
  obtain rfl:=hl1;obtain rfl:=za aa;exact yF X0 hC .normal [(0,.own (.opq (YY ce).q))] [Hq c0] fun st0 h0=>hE _ st0 (.inl rfl) h0
def Ud:Code:=(Tryz.f145.body).getD .skip
def vH:zP:=spF (α:=List (wz Int)) (ρ:=List (wz Int)) 145 (fun x=>[(eSl 2 false F0_) x]) (fun r=>(eSl 2 true F0_) r) (fun x=>wY x) [] (Vr)
theorem UE (hC:zx Tryz.prog ctr):vH.Ok Tryz.prog:=by
 refine zy ?_;rintro s_ r0 aa;try unfold wY at aa;refine yO true [(2,none)] Ud 9 Tryz.func145 fun E hE=>?_;obtain⟨g0,aa⟩:=gdE aa;obtain rfl:=za aa;exact yE X0 hC hE [Ha (lnM F0_ s_),Ha (lnM F0_ s_),Hn (slB g0),Hn (slC g0),Hn (zjE F0_ g0),Ha (zoI 2 F0_ s_ 0 ((s_.length:Nat):Int).toNat)]
def xL:Code:=(Tryz.f126.body).getD .skip
def kB:zP:=spF (α:=z6) (ρ:=List (wz Int)) 126 (fun x=>[zL x]) (fun r=>(eSl 2 true F0_) r) (fun x=>jO x) [] (Vr)
abbrev Qe (out:List (wz Int)):List (Nat×T):=[(3,.own (.box (eOs 2 false F0_ out)))]
abbrev uV (ah:z6)(ai:List (wz Int)):List (Nat×T):=[(3,.own (.box (eOs 2 false F0_ ai))),(7,.d (.fn 166 [.sptr (.agg [I ah.Inputs,I ah.Outputs,eSl 1 false yW ah.Rows])]))]
theorem Kx (hC:zx Tryz.prog ctr)(h1a:ctr.Has Xl)(h0d:ctr.Has qH)(h0B:ctr.Has vH):kB.Ok Tryz.prog:=by
 refine zy ?_;rintro m_ r0 aa;try unfold jO at aa;refine yO true [(2,none)] xL 19 Tryz.func126 fun E hE=>?_;refine yJ X0 hC xL [1,1] [] [3] (fun z:List (wz Int)=>vZ z=some r0) (fun z=>Qe z) [(1,.own (.box (zL m_))),(3,.own (.box (eOs 2 true F0_ [])))] [Hh (.cut 2)] ?_ fun J1 ar=>?_
 ·rintro out aa
  unfold vZ at aa;obtain⟨r_,h0,aa⟩:=zc aa;obtain rfl:=za aa;exact yE X0 hC hE [Hg (z3H h0B),Hm (shM F0_ F0_ out),Hs (z3I h0B (x:=out) h0 (loC (eSl 2 false F0_) out <| loN)),Hm (shM F0_ F0_ out)]
 ·obtain⟨ah,h1,aa⟩:=zc aa
  obtain⟨t2,ht2,aa⟩:=zc aa;refine yAt X0 hC (sub [1,1,2,1,0] xL) (frs [1,1,2,1,0] [J1] xL []) [(3,.own (.box (eOs 2 true F0_ []))),(7,.d (.fn 166 [.sptr (.agg [I ah.Inputs,I ah.Outputs,eSl 1 false yW ah.Rows])]))] [Hc h1a (x:=m_) h1 (loC zL m_ <| loN)] fun st0 h0=>?_;refine z0m (g:=.tmp 7) (ps:=[8,9]) (assign:=(sub [1,1,2,1,0,0] xL)) (body:=(sub [1,1,2,1,0,1] xL)) (K:=166) (caps:=[.sptr (.agg [I ah.Inputs,I ah.Outputs,eSl 1 false yW ah.Rows])]) (by kernel_rfl) [3,7] (fun s=>uV ah s) (fun z=>nomatch z) (fun z=>nomatch z) ((fun(x:wz Int×z8) (_:Bool) (_:Value)=>[F0_ x.1,F8_ x.2])) (F:=@qO ah) (fun s x=>yq s x.1 x.2) ([]:List (wz Int)) t2 _ h0 inferInstance (by kernel_rfl) (by decide) (fun _=>rfl) (by rintro⟨⟩) (by kernel_rfl) (fun _ _ _=>rfl) (z0T hC ah) ht2 ?_ ?_
  ·rintro lm ai ⟨x8,x9⟩ vr av ae
   replace ae:yq ai x8 x9=some av:=ae;unfold yq at ae;refine yF X0 hC .normal [(3,.own (.box (eOs 2 false F0_ ai))),(4,.own (.box (F0_ x8))),(5,.own (.box (F8_ x9))),(7,.d (.fn 166 [.sptr (.agg [I ah.Inputs,I ah.Outputs,eSl 1 false yW ah.Rows])]))] [] fun st0 h0=>⟨rfl,z7r h0 ?_⟩;obtain⟨al,h2,ae⟩:=zc ae
   let Z0:List HO:=[Hc h0d (x:=()) h2 (loN)];rcases zG ae with⟨c0,ae⟩|⟨c0,ae⟩
   ·obtain⟨g0,ae⟩:=gdE ae
    obtain rfl:=za ae;exact yF X0 hC .normal (uV ah (ai++([x8]:List (wz Int)))) (Z0++[Hq c0,Hq (dM F0_ ([x8]:List (wz Int))),Hn (dM F0_ ([x8]:List (wz Int))),Hn (aL F0_ F0_ g0),Hl (aM F0_ ai ([x8]:List (wz Int)))]) fun st0 h0=>⟨rfl,_,h0,LeL.refl _⟩
   ·obtain rfl:=za ae
    exact yF X0 hC .normal (uV ah ai) (Z0++[Hq c0]) fun st0 h0=>⟨rfl,_,h0,LeL.refl _⟩
  ·rcases t2 with ai|z
   ·dsimp only at aa
    exact XY (by kernel_rfl) (ar _ [(3,.own (.box (eOs 2 false F0_ ai)))] ai aa (show Own.canon [3] _=ofL _ by kernel_rfl) inferInstance)
   ·cases z
def KH:Code:=(Tryz.f96.body).getD .skip
def Zv:zP:=spF (α:=z6) (ρ:=Bool×Int) 96 (fun x=>[zL x]) (fun r=>.tup [eB r.1,(eI .i64) r.2]) (fun x=>uN x) [] (Vr)
theorem z00 (hC:zx Tryz.prog ctr)(h02:ctr.Has xI)(h1b:ctr.Has kB):Zv.Ok Tryz.prog:=by
 refine zy ?_;rintro m_ r0 aa;try unfold uN at aa;refine yO false [(2,none),(3,none)] KH 14 Tryz.func96 fun E hE=>?_;obtain⟨r_,h0,aa⟩:=zc aa
 let Z0:List HO:=[Hc h02 (x:=m_) h0 (loC zL m_ <| loN)];rcases zG aa with⟨c0,aa⟩|⟨c0,aa⟩
 ·obtain rfl:=za aa
  exact yE X0 hC hE (Z0++[Hq c0])
 ·obtain⟨ah,h1,aa⟩:=zc aa
  obtain rfl:=za aa;exact yE X0 hC hE (Z0++[Hq c0,Hc h1b (x:=m_) h1 (loC zL m_ <| loN),Ha (lnM F0_ ah)])
def KG:Code:=(Tryz.f95.body).getD .skip
def Zu:zP:=spF (α:=z6) (ρ:=Bool) 95 (fun x=>[z1P x]) (fun r=>eB r) (fun x=>Zf x) [] (Vr)
theorem KZ (hC:zx Tryz.prog ctr)(h1d:ctr.Has Zv):Zu.Ok Tryz.prog:=by
 refine zy ?_;rintro x0 r0 aa;try unfold Zf at aa;refine yO true [(1,none)] KG 10 Tryz.func95 fun E hE=>?_;obtain⟨r_,h0,aa⟩:=zc aa;obtain rfl:=za aa;exact yE X0 hC hE [Hc h1d (x:=x0) h0 (loC zL x0 <| loN)]
def X3:Code:=(Tryz.f127.body).getD .skip
abbrev Uk (eb:Value)(gm:Value)(gn:Value)(am:List z8)(x1:List Bool)(dw:Int)(dl:Int)(fk:List (List z8))(bg:Int):List (Nat×T):=[(1,.own (.box (eOs 1 true eB x1))),(2,.own (.box (.agg [I dw,I dl,eSl 1 false yW fk]))),(3,.own (.box (.fn 127 [.atom eb,.atom gm,.atom gn]))),(22,.d (eSl 2 false F8_ am)),(23,.d (I ((am.length:Nat):Int))),(24,.d (I bg))]
theorem QX (hC:zx Tryz.prog ctr)(eb:Value)(gm:Value)(gn:Value):∀(fu:Nat) (s_:Int) (y0:List Bool) (y1:z6) (r0:List Bool×z6),yj fu s_ y0 y1=some r0->jV Tryz.prog (.fn 127 [.atom eb,.atom gm,.atom gn]) [I s_] ([eb,gm,gn].zip [.box (eOs 1 true eB y0),.box (.agg [I y1.Inputs,I y1.Outputs,eSl 1 false yW y1.Rows]),.box (.fn 127 [.atom eb,.atom gm,.atom gn])]) (.tup []) [.box (eOs 1 true eB r0.1),.box (.agg [I r0.2.Inputs,I r0.2.Outputs,eSl 1 false yW r0.2.Rows]),.box (.fn 127 [.atom eb,.atom gm,.atom gn])]:=by
 intro fu
 induction fu with
 | zero=>intro s_ y0 y1 r0 aa;exact nomatch (show none=some r0 from aa)
 | succ fu ih=>
  intro s_ y0 y1 r0 aa;replace aa:wa (yj fu) s_ y0 y1=some r0:=aa;generalize yj fu=ib at ih aa;refine zaB (tt:=yu) (nt:=33) (body:=X3) [1,2,3] zt Tryz.func127 rfl (by kernel_rfl) rfl rfl (by show(4:Nat)<=33;decide) (by decide) rfl rfl (fun E hE=>?_) rfl
  unfold wa at aa;rcases zG aa with⟨c0,aa⟩|⟨c0,aa⟩
  ·obtain rfl:=za aa
   exact yF X0 hC .ret [(1,.own (.box (eOs 1 true eB y0))),(2,.own (.box (.agg [I y1.Inputs,I y1.Outputs,eSl 1 false yW y1.Rows]))),(3,.own (.box (.fn 127 [.atom eb,.atom gm,.atom gn])))] (rpN 5 (Hq c0) [qT]) fun st0 h0=>hE _ st0 (.inr rfl) (z08 h0 ⟨⟨rfl,rfl⟩,⟨⟨rfl,rfl⟩,⟨⟨rfl,rfl⟩,trivial⟩⟩⟩)
  ·obtain⟨mc,h0,aa⟩:=zc aa
   let Z0:List HO:=[Hq c0,Hq c0,Hq c0,Hn (iL eB h0),Hq c0,Hs (iM eB h0),Hq c0];rcases zG aa with⟨c1,aa⟩|⟨c1,aa⟩
   ·obtain rfl:=za aa
    exact yF X0 hC .ret [(1,.own (.box (eOs 1 true eB y0))),(2,.own (.box (.agg [I y1.Inputs,I y1.Outputs,eSl 1 false yW y1.Rows]))),(3,.own (.box (.fn 127 [.atom eb,.atom gm,.atom gn])))] (Z0++[Hq c1]) fun st0 h0=>hE _ st0 (.inr rfl) (z08 h0 ⟨⟨rfl,rfl⟩,⟨⟨rfl,rfl⟩,⟨⟨rfl,rfl⟩,trivial⟩⟩⟩)
   ·obtain⟨md,h1,aa⟩:=zc aa
    obtain⟨am,h2,aa⟩:=zc aa;obtain⟨t1,ht1,aa⟩:=zc aa;refine yL X0 hC X3 [1,1,1,0] [] (fun s=>yZ ib am s.1 s.2.1 s.2.2.1 s.2.2.2.1 s.2.2.2.2) (fun x=>Uk eb gm gn am x.1 x.2.1 x.2.2.1 x.2.2.2.1 x.2.2.2.2) ((y0.set s_.toNat true),y1.Inputs,y1.Outputs,y1.Rows,0) ht1  (Z0++[Hq c1,Hn (iL eB h1),Hs (iM eB h1),Hs (iM eB h1),Hl (sM eB y0 s_ true),Hi yW h2,Ha (lnM F8_ am)]) ?_;rintro⟨x1,dw,dl,fk,bg⟩ m1 av ae hl1 J1 ar;try unfold yZ at ae;rcases zG ae with⟨c2,ae⟩|⟨c2,ae⟩
    ·obtain⟨ak,h3,ae⟩:=zc ae
     obtain⟨r_,h4,ae⟩:=zc ae;obtain rfl:=za ae;exact yB ((vN (P:=Tryz.prog) yu [1,2,3] (ih _ _ _ _ h4) 31).or X0) hC ar (r_.1,r_.2.Inputs,r_.2.Outputs,r_.2.Rows,w64 (bg+1)) hl1 [Hq c2,Hi F8_ h3,Hn (k8 (f:=.fn 127 [.atom eb,.atom gm,.atom gn]) (xs:=[(eI .i64) ak.To]) (ls:=[(eb,.box (eOs 1 true eB x1)),(gm,.box (.agg [I dw,I dl,eSl 1 false yW fk])),(gn,.box (.fn 127 [.atom eb,.atom gm,.atom gn]))]) (r:=.tup []) (ys:=[.box (eOs 1 true eB r_.1),.box (.agg [I r_.2.Inputs,I r_.2.Outputs,eSl 1 false yW r_.2.Rows]),.box (.fn 127 [.atom eb,.atom gm,.atom gn])]) [(eI .i64) ak.To] (show Ku [(eI .i64) ak.To] [(eI .i64) ak.To] from inferInstance))]
    ·obtain rfl:=za ae
     obtain rfl:=hl1;obtain rfl:=za aa;exact yF X0 hC .normal [(1,.own (.box (eOs 1 true eB x1))),(2,.own (.box (.agg [I dw,I dl,eSl 1 false yW fk]))),(3,.own (.box (.fn 127 [.atom eb,.atom gm,.atom gn])))] [Hq c2] fun st0 h0=>hE _ st0 (.inl rfl) (z08 h0 ⟨⟨rfl,rfl⟩,⟨⟨rfl,rfl⟩,⟨⟨rfl,rfl⟩,trivial⟩⟩⟩)
def ul:Code:=(Tryz.f146.body).getD .skip
def uf:zP:=spF (α:=List Bool×Bool) (ρ:=Int) 146 (fun x=>[(eSl 1 false eB) x.1,eB x.2]) (fun r=>(eI .i64) r) (fun x=>vD x.1 x.2) [] (Qh)
abbrev WL:List (Nat×T):=[]
abbrev WK (s_:List Bool)(v_:Bool)(x8:Int):List (Nat×T):=[(0,.d (eSl 1 false eB s_)),(1,.d (B v_)),(7,.d (I ((s_.length:Nat):Int))),(8,.d (I x8))]
theorem UX (hC:zx Tryz.prog ctr):uf.Ok Tryz.prog:=by
 refine zy ?_;rintro⟨s_,v_⟩ r0 aa;try unfold vD at aa;refine yO true [(4,none)] ul 19 Tryz.func146 fun E hE=>?_;refine yJ X0 hC ul [1] [] [] (fun z:Unit=>uh=some r0) (fun z=>WL) [(0,.d (eSl 1 false eB s_)),(1,.d (B v_))] [Hh (.cut 1)] ?_ fun J1 ar=>?_
 ·rintro⟨⟩ aa
  unfold uh at aa;obtain rfl:=za aa;exact yE X0 hC hE []
 ·obtain⟨t2,ht2,aa⟩:=zc aa
  refine yL X0 hC ul [1,2,1,0] [J1] (fun s=>yC s_ v_ s) (fun x=>WK s_ v_ x) 0 ht2  [Ha (lnM eB s_)] ?_;rintro x8 m2 av ae hl1 J2 ax;try unfold yC at ae;rcases zG ae with⟨c0,ae⟩|⟨c0,ae⟩
  ·obtain⟨da,h0,ae⟩:=zc ae
   rcases zG ae with⟨c1,ae⟩|⟨c1,ae⟩
   ·obtain rfl:=za ae
    obtain rfl:=hl1;obtain rfl:=za aa;exact yE X0 hC hE [Hq c0,Hi eB h0,Hq c1]
   ·obtain rfl:=za ae
    exact yB X0 hC ax (w64 (x8+1)) hl1 [Hq c0,Hi eB h0,Hq c1]
  ·obtain rfl:=za ae
   obtain rfl:=hl1;exact yB X0 hC ar () aa [Hq c0]
def WI:Code:=(Tryz.f128.body).getD .skip
def wU:zP:=spF (α:=List Bool×Bool) (ρ:=Bool) 128 (fun x=>[(eSl 1 false eB) x.1,eB x.2]) (fun r=>eB r) (fun x=>xA x.1 x.2) [] (Qh)
theorem WW (hC:zx Tryz.prog ctr)(h1e:ctr.Has uf):wU.Ok Tryz.prog:=by
 refine zy ?_;rintro⟨s_,v_⟩ r0 aa;try unfold xA at aa;refine yO true [(4,none)] WI 9 Tryz.func128 fun E hE=>?_;obtain⟨r_,h0,aa⟩:=zc aa;obtain rfl:=za aa;exact yE X0 hC hE [Hc h1e (x:=(s_,v_)) h0 (loC (eSl 1 false eB) s_ <| loC eB v_ <| loN)]
def XX:Code:=(Tryz.f98.body).getD .skip
def kC:zP:=spF (α:=z6) (ρ:=Bool×Int) 98 (fun x=>[zL x]) (fun r=>.tup [eB r.1,(eI .i64) r.2]) (fun x=>u7 x) [] (Vr)
theorem Ky (hC:zx Tryz.prog ctr)(h02:ctr.Has xI)(h0C:ctr.Has wU):kC.Ok Tryz.prog:=by
 refine zy ?_;rintro m_ r0 aa;try unfold u7 at aa;refine yO false [(2,none),(3,none)] XX 22 Tryz.func98 fun E hE=>?_;obtain⟨r_,h0,aa⟩:=zc aa
 let Z0:List HO:=[Hc h02 (x:=m_) h0 (loC zL m_ <| loN)];rcases zG aa with⟨c0,aa⟩|⟨c0,aa⟩
 ·obtain rfl:=za aa
  exact yE X0 hC hE (Z0++[Hq c0])
 ·obtain⟨g0,aa⟩:=gdE aa
  refine yA X0 hC XX [1,1,1,1] [] [(1,.own (.box (zL m_))),(5,.own (.box (eOs 1 true eB (List.replicate ((m_.Rows.length:Nat):Int).toNat false)))),(6,.own (.box (.atom .nilFunc)))] (Z0++[Hq c0,Ha (lnM yW m_.Rows),Hn (rL g0),Ha (rM 1 eB ((m_.Rows.length:Nat):Int) false),Hh (.cut 1)]) ?_;refine zdu (by kernel_rfl) 5 fun kx=>?_
  refine zdu (by kernel_rfl) 1 fun ky=>?_
  refine zdu (by kernel_rfl) 6 fun kz=>?_
  obtain⟨ah,h1,aa⟩:=zc aa;obtain⟨al,h2,aa⟩:=zc aa;obtain rfl:=za aa;exact yE ((vN (P:=Tryz.prog) yu [5,1,6] (QX hC kx ky kz fuel _ _ _ _ h1) 18).or ((xMk Tryz.prog yu).or X0)) hC hE [Hn (k8 (f:=.fn 127 [.atom kx,.atom ky,.atom kz]) (xs:=[(eI .i64) 0]) (ls:=[(kx,.box (eOs 1 true eB (List.replicate ((m_.Rows.length:Nat):Int).toNat false))),(ky,.box (.agg [I m_.Inputs,I m_.Outputs,eSl 1 false yW m_.Rows])),(kz,.box (.fn 127 [.atom kx,.atom ky,.atom kz]))]) (r:=.tup []) (ys:=[.box (eOs 1 true eB ah.1),.box (.agg [I ah.2.Inputs,I ah.2.Outputs,eSl 1 false yW ah.2.Rows]),.box (.fn 127 [.atom kx,.atom ky,.atom kz])]) [(eI .i64) 0] (show Ku [(eI .i64) 0] [(eI .i64) 0] from inferInstance)),Hg (z3H h0C),Hm (shM eB eB ah.1),Hs (z3I h0C (x:=(ah.1,false)) h2 (loC (eSl 1 true eB) ah.1 <| loC eB false <| loN))]
def KF:Code:=(Tryz.f97.body).getD .skip
def Zt:zP:=spF (α:=z6) (ρ:=Bool) 97 (fun x=>[z1P x]) (fun r=>eB r) (fun x=>Ze x) [] (Vr)
theorem KY (hC:zx Tryz.prog ctr)(h1f:ctr.Has kC):Zt.Ok Tryz.prog:=by
 refine zy ?_;rintro x0 r0 aa;try unfold Ze at aa;refine yO true [(1,none)] KF 10 Tryz.func97 fun E hE=>?_;obtain⟨r_,h0,aa⟩:=zc aa;obtain rfl:=za aa;exact yE X0 hC hE [Hc h1f (x:=x0) h0 (loC zL x0 <| loN)]
def z2l:Code:=(Tryz.f129.body).getD .skip
def Xj:zP:=spF (α:=z6) (ρ:=z6) 129 (fun x=>[zL x]) (fun r=>(KD 147 z1P) r) (fun x=>Xz x) [] (Vr)
theorem z37 (hC:zx Tryz.prog ctr):Xj.Ok Tryz.prog:=by
 refine zy ?_;rintro m_ r0 aa;try unfold Xz at aa;refine yO true [(2,none)] z2l 4 Tryz.func129 fun E hE=>?_;obtain rfl:=za aa;exact yE X0 hC hE []
def YZ:Code:=(Tryz.f167.body).getD .skip
def V4:zP:=spF (α:=z6×List Int×Int) (ρ:=xe (wz Int)) 167 (fun x=>[zL x.1,F6_ x.2.1,(eI .i64) x.2.2]) (fun r=>F7_ r) (fun x=>kI x.1 x.2.1 x.2.2) [] (zaG)
abbrev z1q (out:xe (wz Int)):List (Nat×T):=[(6,.own (.box (.agg [.agg [I 0,I 0],.agg [I 0,I 0],.agg [I 0,I 0],.agg [I 0,I 0],.agg [I 0,I 0],.agg [I 0,I 0],.agg [I 0,I 0],.agg [I 0,I 0],.agg [I 0,I 0],.agg [I 0,I 0],.agg [I 0,I 0],.agg [I 0,I 0],.agg [I 0,I 0],.agg [I 0,I 0],.agg [I 0,I 0],.agg [I 0,I 0]]))),(7,.own (.box (F7_ out)))]
abbrev z1p (p_:List Int)(am:List z8)(bt:Int)(ap:xe (wz Int)):List (Nat×T):=[(1,.d (eSl 1 false (eI .i64) p_)),(6,.own (.box (.agg [.agg [I 0,I 0],.agg [I 0,I 0],.agg [I 0,I 0],.agg [I 0,I 0],.agg [I 0,I 0],.agg [I 0,I 0],.agg [I 0,I 0],.agg [I 0,I 0],.agg [I 0,I 0],.agg [I 0,I 0],.agg [I 0,I 0],.agg [I 0,I 0],.agg [I 0,I 0],.agg [I 0,I 0],.agg [I 0,I 0],.agg [I 0,I 0]]))),(7,.own (.box (F7_ ap))),(14,.d (eSl 2 false F8_ am)),(15,.d (I ((am.length:Nat):Int))),(16,.d (I bt))]
abbrev z1o (p_:List Int)(am:List z8)(ai:xe (wz Int))(bt:Int):List (Nat×T):=[(1,.d (eSl 1 false (eI .i64) p_)),(6,.own (.box (.agg [.agg [I 0,I 0],.agg [I 0,I 0],.agg [I 0,I 0],.agg [I 0,I 0],.agg [I 0,I 0],.agg [I 0,I 0],.agg [I 0,I 0],.agg [I 0,I 0],.agg [I 0,I 0],.agg [I 0,I 0],.agg [I 0,I 0],.agg [I 0,I 0],.agg [I 0,I 0],.agg [I 0,I 0],.agg [I 0,I 0],.agg [I 0,I 0]]))),(7,.own (.box (F7_ ai))),(14,.d (eSl 2 false F8_ am)),(15,.d (I ((am.length:Nat):Int))),(16,.d (I bt))]
theorem z5q (hC:zx Tryz.prog ctr):V4.Ok Tryz.prog:=by
 refine zy ?_;rintro⟨m_,p_,s_⟩ r0 aa;try unfold kI at aa;refine yO false [(6,some 190)] YZ 39 Tryz.func167 fun E hE=>?_;refine yJ X0 hC YZ [1,1] [] [6,7] (fun z:xe (wz Int)=>Yv z=some r0) (fun z=>z1q z) [(1,.d (eSl 1 false (eI .i64) p_)),(2,.d (I s_)),(3,.own (.box (zL m_))),(6,.own (.box (.agg [.agg [I 0,I 0],.agg [I 0,I 0],.agg [I 0,I 0],.agg [I 0,I 0],.agg [I 0,I 0],.agg [I 0,I 0],.agg [I 0,I 0],.agg [I 0,I 0],.agg [I 0,I 0],.agg [I 0,I 0],.agg [I 0,I 0],.agg [I 0,I 0],.agg [I 0,I 0],.agg [I 0,I 0],.agg [I 0,I 0],.agg [I 0,I 0]]))),(7,.own (.box (.agg [.agg [I 0,I 0],.agg [I 0,I 0],.agg [I 0,I 0],.agg [I 0,I 0],.agg [I 0,I 0],.agg [I 0,I 0],.agg [I 0,I 0],.agg [I 0,I 0],.agg [I 0,I 0],.agg [I 0,I 0],.agg [I 0,I 0],.agg [I 0,I 0],.agg [I 0,I 0],.agg [I 0,I 0],.agg [I 0,I 0],.agg [I 0,I 0]])))] [Hh (.cut 2)] ?_ fun J1 ar=>?_
 ·rintro out aa
  unfold Yv at aa;obtain rfl:=za aa;exact yE X0 hC hE []
 ·obtain⟨am,h0,aa⟩:=zc aa
  obtain⟨t2,ht2,aa⟩:=zc aa;refine yL X0 hC YZ [1,1,2,1,0] [J1] (fun s=>kG p_ am s.1 s.2) (fun x=>z1o p_ am x.1 x.2) ((xe.mk (wz.mk 0 0) (wz.mk 0 0) (wz.mk 0 0) (wz.mk 0 0) (wz.mk 0 0) (wz.mk 0 0) (wz.mk 0 0) (wz.mk 0 0) (wz.mk 0 0) (wz.mk 0 0) (wz.mk 0 0) (wz.mk 0 0) (wz.mk 0 0) (wz.mk 0 0) (wz.mk 0 0) (wz.mk 0 0)),0) ht2  [Hi yW h0,Ha (lnM F8_ am)] ?_;rintro⟨ai,bt⟩ m2 av ae hl1 J2 ax;try unfold kG at ae;rcases zG ae with⟨c0,ae⟩|⟨c0,ae⟩
  ·refine yJ X0 hC YZ [1,1,2,1,0,0,1,1] [J1,J2] [1,6,7,14,15,16] (fun z:xe (wz Int)=>kH bt z=some av) (fun z=>z1p p_ am bt z) [(1,.d (eSl 1 false (eI .i64) p_)),(6,.own (.box (.agg [.agg [I 0,I 0],.agg [I 0,I 0],.agg [I 0,I 0],.agg [I 0,I 0],.agg [I 0,I 0],.agg [I 0,I 0],.agg [I 0,I 0],.agg [I 0,I 0],.agg [I 0,I 0],.agg [I 0,I 0],.agg [I 0,I 0],.agg [I 0,I 0],.agg [I 0,I 0],.agg [I 0,I 0],.agg [I 0,I 0],.agg [I 0,I 0]]))),(7,.own (.box (F7_ ai))),(14,.d (eSl 2 false F8_ am)),(15,.d (I ((am.length:Nat):Int))),(16,.d (I bt))] [Hq c0,Hh (.cut 0)] ?_ fun J3 bh=>?_
   ·rintro ap ae
    unfold kH at ae;obtain rfl:=za ae;exact yB X0 hC ax (ap,w64 (bt+1)) hl1 []
   ·obtain⟨ak,h1,ae⟩:=zc ae
    obtain⟨cell,h2,ae⟩:=zc ae;obtain⟨arr,h3,ae⟩:=zc ae;replace h3:=za h3
    let Z0:List HO:=[Hi F8_ h1,Hn (⟨arJ (by kernel_rfl) (i0 h2),(iL F0_ h2).2⟩:Xc yu 190 ((xe.toL ai).map F0_) bt=true/\bt.toNat<((xe.toL ai).map F0_).length),Hh (.op 9),Hh (.f),Hs (iM F0_ h2),Hh (.f),Hs (iM F0_ h2),Hx (.l ((xe.toL arr).map F0_)) ((xe.setL F0_ ai bt (wz.mk ak.Out (-1))).trans (congrArg (fun q=>(xe.toL q).map F0_) h3))]
    rcases zG ae with⟨c1,ae⟩|⟨c1,ae⟩
    ·obtain⟨bv,h4,ae⟩:=zc ae
     obtain⟨a8,h5,ae⟩:=zc ae;obtain⟨arr1,h6,ae⟩:=zc ae;replace h6:=za h6;exact yB X0 hC bh arr1 ae (Z0++[Hq c1,Hi (eI .i64) h4,Hn (⟨arJ (by kernel_rfl) (i0 h5),(iL F0_ h5).2⟩:Xc yu 190 ((xe.toL arr).map F0_) bt=true/\bt.toNat<((xe.toL arr).map F0_).length),Hh (.op 2),Hh (.f),Hs (iM F0_ h5),Hn (⟨rfl,by decide⟩:true=true/\1<2),Hh (.op 0),Hh (.f),Hs (iM F0_ h5),Hh (.f),Hx (.a (I a8.e1)) (rfl:some (I a8.e1:A)=some (I a8.e1)),Hh (.f),Hs (iM F0_ h5),Hh (.f),Hx (.a (I a8.e1)) (rfl:some (I a8.e1:A)=some (I a8.e1)),Hx (.l [I a8.e0,I bv]) (rfl:([I a8.e0,I bv]:List A)=[I a8.e0,I bv]),Hx (.l ((xe.toL arr1).map F0_)) ((xe.setL F0_ arr bt (wz.mk a8.e0 bv)).trans (congrArg (fun q=>(xe.toL q).map F0_) h6))])
    ·exact yB X0 hC bh arr ae (Z0++[Hq c1])
  ·obtain rfl:=za ae
   obtain rfl:=hl1;exact yB X0 hC ar ai aa [Hq c0]
def jS:Code:=(Tryz.f148.body).getD .skip
def jE:zP:=spF (α:=z6×List Int) (ρ:=List Int) 148 (fun x=>[zL x.1,F6_ x.2]) (fun r=>F3_ r) (fun x=>kJ x.1 x.2) [] (Qh)
abbrev K0 (out:List Int):List (Nat×T):=[(6,.own (eOs 1 true (eI .i64) out))]
abbrev JZ (m_:z6)(p_:List Int)(ai:List Int)(dr:Int)(bv:Int)(r_:xe (wz Int))(dm:List (zz×Int)):List (Nat×T):=[(1,.d (eSl 1 false (eI .i64) p_)),(2,.own (.box (zL m_))),(5,.own (.opq (z2V (Q8 z1Q (eI .i64) dm)))),(6,.own (eOs 1 true (eI .i64) ai)),(7,.d (I dr)),(9,.own (.box (.agg [I bv,F7_ r_]))),(16,.d (eSl 1 false (eI .i64) p_)),(17,.d (I ((p_.length:Nat):Int))),(18,.d (I dr))]
abbrev JY (m_:z6)(p_:List Int)(names:List (zz×Int))(ai:List Int)(dr:Int):List (Nat×T):=[(1,.d (eSl 1 false (eI .i64) p_)),(2,.own (.box (zL m_))),(5,.own (.opq (z2V (Q8 z1Q (eI .i64) names)))),(6,.own (eOs 1 true (eI .i64) ai)),(16,.d (eSl 1 false (eI .i64) p_)),(17,.d (I ((p_.length:Nat):Int))),(18,.d (I dr))]
theorem z1T (hC:zx Tryz.prog ctr)(h1g:ctr.Has V4):jE.Ok Tryz.prog:=by
 refine zy ?_;rintro⟨m_,p_⟩ r0 aa;try unfold kJ at aa;refine yO true [(4,none)] jS 49 Tryz.func148 fun E hE=>?_;obtain⟨g0,aa⟩:=gdE aa;refine yJ ((zmS Tryz.prog 12).or X0) hC jS [1,1,1] [] [6] (fun z:List Int=>jH z=some r0) (fun z=>K0 z) [(1,.d (eSl 1 false (eI .i64) p_)),(2,.own (.box (zL m_))),(5,.own (.opq (z2V (Q8 z1Q (eI .i64) ([]:List (zz×Int)))))),(6,.own (eOs 1 true (eI .i64) (List.replicate ((p_.length:Nat):Int).toNat (0:Int))))] [Ha (lnM (eI .i64) p_),Hn (rL g0),Ha (rM 1 (eI .i64) ((p_.length:Nat):Int) (0:Int)),Hh (.cut 0)] ?_ fun J1 ar=>?_
 ·rintro out aa
  unfold jH at aa;obtain rfl:=za aa;exact yE X0 hC hE []
 ·obtain⟨t2,ht2,aa⟩:=zc aa
  refine yL X0 hC jS [1,1,1,2,1,0] [J1] (fun s=>vW m_ p_ s.1 s.2.1 s.2.2) (fun x=>JY m_ p_ x.1 x.2.1 x.2.2) (([]:List (zz×Int)),(List.replicate ((p_.length:Nat):Int).toNat (0:Int)),0) ht2  [Ha (lnM (eI .i64) p_)] ?_;rintro⟨names,ai,dr⟩ m2 av ae hl1 J2 ax;try unfold vW at ae;rcases zG ae with⟨c0,ae⟩|⟨c0,ae⟩
  ·obtain⟨bv,h0,ae⟩:=zc ae
   obtain⟨r_,h1,ae⟩:=zc ae;refine yJ X0 hC jS [1,1,1,2,1,0,0,1,1,0,0,1,1] [J1,J2] [1,2,5,6,7,9,16,17,18] (fun z:List (zz×Int)=>wI ai dr bv r_ z=some av) (fun z=>JZ m_ p_ ai dr bv r_ z) [(1,.d (eSl 1 false (eI .i64) p_)),(2,.own (.box (zL m_))),(5,.own (.opq (z2V (Q8 z1Q (eI .i64) names)))),(6,.own (eOs 1 true (eI .i64) ai)),(7,.d (I dr)),(9,.own (.box (.agg [I bv,F7_ r_]))),(16,.d (eSl 1 false (eI .i64) p_)),(17,.d (I ((p_.length:Nat):Int))),(18,.d (I dr))] [Hq c0,Hi (eI .i64) h0,Hc h1g (x:=(m_,p_,dr)) h1 (loC zL m_ <| loC F6_ p_ <| loC (eI .i64) dr <| loN),Hh (.cut 0)] ?_ fun J3 bh=>?_
   ·rintro dm ae
    unfold wI at ae;obtain⟨val,h2,ae⟩:=zc ae;replace h2:=za h2;obtain⟨ca,h3,ae⟩:=zc ae;obtain rfl:=za ae;exact yB ((zgE z8o 45 (Q8 z1Q (eI .i64) dm)).or X0) hC ax (dm,(ai.set dr.toNat val),w64 (dr+1)) hl1 [Hn (⟨rfl,rfl,zdb (fun _=>rfl) dm⟩:A.opq (z2V (Q8 z1Q (eI .i64) dm))=A.opq (z2V (Q8 z1Q (eI .i64) dm))/\(z4v [.i64,.i64,.i64,.i64,.i64,.i64,.i64,.i64,.i64,.i64,.i64,.i64,.i64,.i64,.i64,.i64,.i64,.i64,.i64,.i64,.i64,.i64,.i64,.i64,.i64,.i64,.i64,.i64,.i64,.i64,.i64,.i64,.i64]) (z1Q (zz.mk bv r_))=true/\∀p∈Q8 z1Q (eI .i64) dm,(z4v [.i64,.i64,.i64,.i64,.i64,.i64,.i64,.i64,.i64,.i64,.i64,.i64,.i64,.i64,.i64,.i64,.i64,.i64,.i64,.i64,.i64,.i64,.i64,.i64,.i64,.i64,.i64,.i64,.i64,.i64,.i64,.i64,.i64]) p.1=true),Hx (.a ((eI .i64) val)) ((zq1 (f:=z1Q) (g:=(eI .i64)) (z0:=0) (z:=.atom (.int .i64 0)) rfl (zz.mk bv r_) dm).trans (congrArg (eI .i64) h2)),Hn (iL (eI .i64) h3),Hs (iM (eI .i64) h3),Hs (iM (eI .i64) h3),Hl (sM (eI .i64) ai dr val)]
   ·obtain⟨l4,h4,ae⟩:=zc ae
    replace h4:=za h4
    let Z0:List HO:=[Hn (⟨rfl,rfl,zdb (fun _=>rfl) names⟩:A.opq (z2V (Q8 z1Q (eI .i64) names))=A.opq (z2V (Q8 z1Q (eI .i64) names))/\(z4v [.i64,.i64,.i64,.i64,.i64,.i64,.i64,.i64,.i64,.i64,.i64,.i64,.i64,.i64,.i64,.i64,.i64,.i64,.i64,.i64,.i64,.i64,.i64,.i64,.i64,.i64,.i64,.i64,.i64,.i64,.i64,.i64,.i64]) (z1Q (zz.mk bv r_))=true/\∀p∈Q8 z1Q (eI .i64) names,(z4v [.i64,.i64,.i64,.i64,.i64,.i64,.i64,.i64,.i64,.i64,.i64,.i64,.i64,.i64,.i64,.i64,.i64,.i64,.i64,.i64,.i64,.i64,.i64,.i64,.i64,.i64,.i64,.i64,.i64,.i64,.i64,.i64,.i64]) p.1=true),Hx (.a (.tup [I l4,B ((z2U names (zz.mk bv r_)).isSome)])) ((zq0 (f:=z1Q) (g:=(eI .i64)) (z0:=0) (z:=.atom (.int .i64 0)) rfl (zz.mk bv r_) names).trans (congrArg (fun x=>A.tup [(eI .i64) x,.atom (.bool (z2U names (zz.mk bv r_)).isSome)]) h4))];rcases zG ae with⟨c1,ae⟩|⟨c1,ae⟩
    ·exact yB ((zpp z8o 37 (Q8 z1Q (eI .i64) names) (Q8 z1Q (eI .i64) (zbe names (zz.mk bv r_) ((names.length:Nat):Int)))).or ((zmT z8o 40 (Q8 z1Q (eI .i64) names)).or ((zgE z8o 32 (Q8 z1Q (eI .i64) names)).or X0))) hC bh (zbe names (zz.mk bv r_) ((names.length:Nat):Int)) ae (Z0++[Hq c1,Hn (rfl:A.opq (z2V (Q8 z1Q (eI .i64) names))=A.opq (z2V (Q8 z1Q (eI .i64) names))),Hx (aLn names.length) (zi8 z1Q (eI .i64) names),Hn (⟨rfl,rfl,rfl,rfl,zdb (fun _=>rfl) names⟩:T.own (.opq (z2V (Q8 z1Q (eI .i64) names)))=T.own (.opq (z2V (Q8 z1Q (eI .i64) names)))/\0=0/\(z4v [.i64,.i64,.i64,.i64,.i64,.i64,.i64,.i64,.i64,.i64,.i64,.i64,.i64,.i64,.i64,.i64,.i64,.i64,.i64,.i64,.i64,.i64,.i64,.i64,.i64,.i64,.i64,.i64,.i64,.i64,.i64,.i64,.i64]) (z1Q (zz.mk bv r_))=true/\((eI .i64) ((names.length:Nat):Int)).isD=true/\∀p∈Q8 z1Q (eI .i64) names,(z4v [.i64,.i64,.i64,.i64,.i64,.i64,.i64,.i64,.i64,.i64,.i64,.i64,.i64,.i64,.i64,.i64,.i64,.i64,.i64,.i64,.i64,.i64,.i64,.i64,.i64,.i64,.i64,.i64,.i64,.i64,.i64,.i64,.i64]) p.1=true),Hn (zhF (f:=z1Q) (g:=(eI .i64)) (zz.mk bv r_) ((names.length:Nat):Int) names)])
    ·exact yB ((zgE z8o 32 (Q8 z1Q (eI .i64) names)).or X0) hC bh names ae (Z0++[Hq c1])
  ·obtain rfl:=za ae
   obtain rfl:=hl1;exact yB X0 hC ar ai aa [Hq c0]
def qw:Code:=(Tryz.f82.body).getD .skip
def xP:zP:=spF (α:=List Int×List Int) (ρ:=Bool) 82 (fun x=>[F6_ x.1,F6_ x.2]) (fun r=>eB r) (fun x=>xX x.1 x.2) [] (Qh)
abbrev Uj:List (Nat×T):=[]
abbrev Ui (s1:List Int)(s2:List Int)(dc:Int):List (Nat×T):=[(0,.d (eSl 1 false (eI .i64) s1)),(1,.d (eSl 1 false (eI .i64) s2)),(12,.d (I ((s1.length:Nat):Int))),(13,.d (I dc))]
theorem QU (hC:zx Tryz.prog ctr):xP.Ok Tryz.prog:=by
 refine zy ?_;rintro⟨s1,s2⟩ r0 aa;try unfold xX at aa;refine yO true [(4,none)] qw 26 Tryz.func82 fun E hE=>?_
 let Z0:List HO:=[Ha (lnM (eI .i64) s1),Ha (lnM (eI .i64) s2)];rcases zG aa with⟨c0,aa⟩|⟨c0,aa⟩
 ·obtain rfl:=za aa
  exact yE X0 hC hE (Z0++[Hq c0])
 ·refine yJ X0 hC qw [1,1] [] [] (fun z:Unit=>wX=some r0) (fun z=>Uj) [(0,.d (eSl 1 false (eI .i64) s1)),(1,.d (eSl 1 false (eI .i64) s2))] (Z0++[Hq c0,Hh (.cut 0)]) ?_ fun J1 ar=>?_
  ·rintro⟨⟩ aa
   unfold wX at aa;obtain rfl:=za aa;exact yE X0 hC hE []
  ·obtain⟨t2,ht2,aa⟩:=zc aa
   refine yL X0 hC qw [1,1,2,1,0] [J1] (fun s=>yX s1 s2 s) (fun x=>Ui s1 s2 x) 0 ht2  [Ha (lnM (eI .i64) s1)] ?_;rintro dc m2 av ae hl1 J2 ax;try unfold yX at ae;rcases zG ae with⟨c1,ae⟩|⟨c1,ae⟩
   ·obtain⟨fw,h0,ae⟩:=zc ae
    obtain⟨dx,h1,ae⟩:=zc ae
    let Z1:List HO:=[Hq c1,Hi (eI .i64) h0,Hi (eI .i64) h1];rcases zG ae with⟨c2,ae⟩|⟨c2,ae⟩
    ·obtain rfl:=za ae
     obtain rfl:=hl1;obtain rfl:=za aa;exact yE X0 hC hE (Z1++[Hq c2])
    ·obtain rfl:=za ae
     exact yB X0 hC ax (w64 (dc+1)) hl1 (Z1++[Hq c2])
   ·obtain rfl:=za ae
    obtain rfl:=hl1;exact yB X0 hC ar () aa [Hq c1]
def Vz:Code:=(Tryz.f147.body).getD .skip
abbrev Jf (x0:z6)(YY:σ->z6l)(ce:σ)(p_:List Int):List (Nat×T):=[(0,.own (.opq (YY ce).q)),(1,.d (.sptr (zL x0))),(3,.own (eOs 1 true (eI .i64) p_))]
theorem z0R (hC:zx Tryz.prog ctr)(h0r:ctr.Has jE)(h0a:ctr.Has xP)(x0:z6):z9Q Tryz.prog (.fn 147 [.sptr (.agg [I x0.Inputs,I x0.Outputs,eSl 1 false yW x0.Rows])]) (fun(x:List Int) (_:Bool) (_:Value)=>[F6_ x]) (@qI x0):=by
 refine z75 (tt:=yu) (nt:=19) (body:=Vz) zt Tryz.func147 rfl (by kernel_rfl) rfl rfl (by show(2:Nat)<=19;decide) ?_
 intro σ yv YY yy hy sg r0 aa E hE;unfold qI at aa;obtain⟨g0,aa⟩:=gdE aa;obtain⟨t1,ht1,aa⟩:=zc aa;refine yL X0 hC Vz [1,0] [] (fun s=>vo x0 yy s.1 s.2) (fun x=>Jf x0 YY x.1 x.2) (sg,(List.replicate ((x0.Rows.length:Nat):Int).toNat (0:Int))) ht1  [Ha (lnM yW x0.Rows),Hn (rL g0),Ha (rM 1 (eI .i64) ((x0.Rows.length:Nat):Int) (0:Int))] ?_;rintro⟨ce,p_⟩ m1 av ae hl1 J1 ar;try unfold vo at ae;obtain⟨yr,h0,ae⟩:=zc ae
 let Z0:List HO:=[Hm (shM (eI .i64) (eI .i64) p_),Hn (z6C (yv:=yv) (Y:=YY) (enc:=(fun(x:List Int) (_:Bool) (_:Value)=>[F6_ x])) (s:=ce) (x:=p_) (s':=yr.1) (b:=yr.2) (v:=.nilFunc) [F2_ p_] (show Ku [F2_ p_] [F6_ p_] from inferInstance))];rcases zG ae with⟨c0,ae⟩|⟨c0,ae⟩
 ·obtain⟨r_,h1,ae⟩:=zc ae
  obtain⟨ah,h2,ae⟩:=zc ae
  let Z1:List HO:=(Z0++[Hq c0,Hc h0r (x:=(x0,p_)) h1 (loC zL x0 <| loC F2_ p_ <| loN),Hg (z3H h0a),Hm (shM (eI .i64) (eI .i64) r_),Hs (z3I h0a (x:=(p_,r_)) h2 (loC F2_ p_ <| loC F2_ r_ <| loN))]);rcases zG ae with⟨c1,ae⟩|⟨c1,ae⟩
  ·obtain rfl:=za ae
   obtain rfl:=hl1;obtain rfl:=za aa;exact yF ((z0O (P:=Tryz.prog) yu hy 11 (s:=ce) (x:=p_) (s':=yr.1) (b:=yr.2) .nilFunc h0).or X0) hC .ret [(0,.own (.opq (YY yr.1).q))] (Z1++[Hq c1]) fun st0 h0=>hE _ st0 (.inr rfl) h0
  ·obtain rfl:=za ae
   exact yB ((z0O (P:=Tryz.prog) yu hy 11 (s:=ce) (x:=p_) (s':=yr.1) (b:=yr.2) .nilFunc h0).or X0) hC ar (yr.1,r_) hl1 (Z1++[Hq c1])
 ·obtain rfl:=za ae
  obtain rfl:=hl1;obtain rfl:=za aa;exact yF ((z0O (P:=Tryz.prog) yu hy 11 (s:=ce) (x:=p_) (s':=yr.1) (b:=yr.2) .nilFunc h0).or X0) hC .normal [(0,.own (.opq (YY yr.1).q))] (Z0++[Hq c0]) fun st0 h0=>hE _ st0 (.inl rfl) h0
def wL:Code:=(Tryz.f100.body).getD .skip
def Ym:zP:=spF (α:=z6) (ρ:=List Int×Int×Int) 100 (fun x=>[zL x]) (fun r=>.tup [F6_ r.1,(eI .i64) r.2.1,(eI .i64) r.2.2]) (fun x=>kK x) [] (Vr)
abbrev K1 (p_:List Int)(n_:Int):List (Nat×T):=[(2,.own (.box (eSl 1 false (eI .i64) p_))),(3,.own (.box (I n_)))]
abbrev W1 (ah:z6)(io:List Int)(cp:Int):List (Nat×T):=[(2,.own (.box (eSl 1 false (eI .i64) io))),(3,.own (.box (I cp))),(13,.d (.fn 147 [.sptr (.agg [I ah.Inputs,I ah.Outputs,eSl 1 false yW ah.Rows])]))]
theorem z1U (hC:zx Tryz.prog ctr)(h02:ctr.Has xI)(h1h:ctr.Has Xj)(h0r:ctr.Has jE)(h0a:ctr.Has xP):Ym.Ok Tryz.prog:=by
 refine zy ?_;rintro m_ r0 aa;try unfold kK at aa;refine yO false [(2,some 40),(3,some 3),(4,none)] wL 20 Tryz.func100 fun E hE=>?_;obtain⟨r_,h0,aa⟩:=zc aa
 let Z0:List HO:=[Hh (.v 2 [2]),Hm (shM (eI .i64) (eI .i64) []),Hc h02 (x:=m_) h0 (loC zL m_ <| loN)];rcases zG aa with⟨c0,aa⟩|⟨c0,aa⟩
 ·obtain rfl:=za aa
  exact yEx X0 hC hE (Z0++[Hq c0,Hm (shM (eI .i64) (eI .i64) [])]) (.tup [eSl 1 true (eI .i64) [],I 0,I r_]) (show LeV (.tup [eSl 1 true (eI .i64) [],I 0,I r_]) (.tup [eSl 1 false (eI .i64) ([]:List Int),I 0,I r_]) from inferInstance)
 ·refine yJ X0 hC wL [1,1,1] [] [2,3] (fun z:List Int×Int=>jI z.1 z.2=some r0) (fun z=>K1 z.1 z.2) [(1,.own (.box (zL m_))),(2,.own (.box (eSl 1 true (eI .i64) []))),(3,.own (.box (I (-1))))] (Z0++[Hq c0,Hh (.cut 1)]) ?_ fun J1 ar=>?_
  ·rintro⟨p_,n_⟩ aa
   unfold jI at aa;obtain rfl:=za aa;exact yE X0 hC hE []
  ·obtain⟨ah,h1,aa⟩:=zc aa
   obtain⟨t2,ht2,aa⟩:=zc aa;refine yAt X0 hC (sub [1,1,1,2,1,0] wL) (frs [1,1,1,2,1,0] [J1] wL []) [(2,.own (.box (eSl 1 true (eI .i64) []))),(3,.own (.box (I (-1)))),(13,.d (.fn 147 [.sptr (.agg [I ah.Inputs,I ah.Outputs,eSl 1 false yW ah.Rows])]))] [Hc h1h (x:=m_) h1 (loC zL m_ <| loN)] fun st0 h0=>?_;refine z0m (g:=.tmp 13) (ps:=[14]) (assign:=(sub [1,1,1,2,1,0,0] wL)) (body:=(sub [1,1,1,2,1,0,1] wL)) (K:=147) (caps:=[.sptr (.agg [I ah.Inputs,I ah.Outputs,eSl 1 false yW ah.Rows])]) (by kernel_rfl) [2,3,13] (fun s=>W1 ah s.1 s.2) (fun z=>nomatch z) (fun z=>nomatch z) ((fun(x:List Int) (_:Bool) (_:Value)=>[F6_ x])) (F:=@qI ah) (fun s x=>wJ s.1 s.2 x) (([]:List Int),(-1)) t2 _ h0 inferInstance (by kernel_rfl) (by decide) (fun _=>rfl) (by rintro⟨⟩) (by kernel_rfl) (fun _ _ _=>rfl) (z0R hC h0r h0a ah) ht2 ?_ ?_
   ·rintro lm ⟨io,cp⟩ cj vr av ae
    replace ae:wJ io cp cj=some av:=ae;unfold wJ at ae;refine yF X0 hC .normal [(2,.own (.box (eSl 1 false (eI .i64) io))),(3,.own (.box (I cp))),(6,.d (eSl 1 false (eI .i64) cj)),(13,.d (.fn 147 [.sptr (.agg [I ah.Inputs,I ah.Outputs,eSl 1 false yW ah.Rows])]))] [] fun st0 h0=>⟨rfl,z7r h0 ?_⟩;obtain rfl:=za ae;exact yF X0 hC .normal (W1 ah cj (w64 (cp+1))) [] fun st0 h0=>⟨rfl,_,h0,LeL.refl _⟩
   ·rcases t2 with⟨io,cp⟩|z
    ·dsimp only at aa
     exact XY (by kernel_rfl) (ar _ [(2,.own (.box (eSl 1 false (eI .i64) io))),(3,.own (.box (I cp)))] (io,cp) aa (show Own.canon [2,3] _=ofL _ by kernel_rfl) inferInstance)
    ·cases z
def kT:Code:=(Tryz.f101.body).getD .skip
def kA:zP:=spF (α:=List Int) (ρ:=Int) 101 (fun x=>[F6_ x]) (fun r=>(eI .i64) r) (fun x=>vU x) [] (Vr)
abbrev Qd (m_:Int):List (Nat×T):=[(3,.d (I m_))]
abbrev Qc (x_:List Int)(jz:Int)(i_:Int):List (Nat×T):=[(0,.d (eSl 1 false (eI .i64) x_)),(3,.d (I jz)),(4,.d (I i_))]
theorem Kw (hC:zx Tryz.prog ctr):kA.Ok Tryz.prog:=by
 refine zy ?_;rintro x_ r0 aa;try unfold vU at aa;refine yO true [(2,none)] kT 25 Tryz.func101 fun E hE=>?_;rcases zG aa with⟨c0,aa⟩|⟨c0,aa⟩
 ·cases aa
 ·obtain⟨ke,h0,aa⟩:=zc aa
  refine yJ X0 hC kT [1,1,1] [] [3] (fun z:Int=>vT z=some r0) (fun z=>Qd z) [(0,.d (eSl 1 false (eI .i64) x_)),(3,.d (I ke))] [Ha (lnM (eI .i64) x_),Hq c0,Hi (eI .i64) h0,Hh (.cut 0)] ?_ fun J1 ar=>?_
  ·rintro m_ aa
   unfold vT at aa;obtain rfl:=za aa;exact yE X0 hC hE []
  ·obtain⟨t2,ht2,aa⟩:=zc aa
   refine yL X0 hC kT [1,1,1,2,1,0] [J1] (fun s=>wu x_ s.1 s.2) (fun x=>Qc x_ x.1 x.2) (ke,1) ht2  [] ?_;rintro⟨jz,i_⟩ m2 av ae hl1 J2 ax;try unfold wu at ae;rcases zG ae with⟨c1,ae⟩|⟨c1,ae⟩
   ·obtain⟨kc,h1,ae⟩:=zc ae
    obtain rfl:=za ae;exact yB X0 hC ax ((mx jz kc),w64 (i_+1)) hl1 [Ha (lnM (eI .i64) x_),Hq c1,Hi (eI .i64) h1]
   ·obtain rfl:=za ae
    obtain rfl:=hl1;exact yB X0 hC ar jz aa [Ha (lnM (eI .i64) x_),Hq c1]
def KE:Code:=(Tryz.f99.body).getD .skip
def Zs:zP:=spF (α:=z6) (ρ:=Bool) 99 (fun x=>[z1P x]) (fun r=>eB r) (fun x=>Zd x) [] (Vr)
theorem KX (hC:zx Tryz.prog ctr)(h1i:ctr.Has Ym)(h1j:ctr.Has kA):Zs.Ok Tryz.prog:=by
 refine zy ?_;rintro x0 r0 aa;try unfold Zd at aa;refine yO true [(1,none)] KE 17 Tryz.func99 fun E hE=>?_;obtain⟨r_,h0,aa⟩:=zc aa;obtain⟨ah,h1,aa⟩:=zc aa;obtain rfl:=za aa;exact yE X0 hC hE [Hc h1i (x:=x0) h0 (loC zL x0 <| loN),Hc h1j (x:=r_.1) h1 (loC F6_ r_.1 <| loN),Ha (lnM (eI .i64) r_.1)]
def VA:Code:=(Tryz.f36.body).getD .skip
def vg:zP:=spF (α:=z6) (ρ:=Int) 36 (fun x=>[zL x]) (fun r=>(eI .i64) r) (fun x=>xZ x) [] (Vr)
abbrev Jg:List (Nat×T):=[]
theorem z0S (hC:zx Tryz.prog ctr)(h02:ctr.Has xI)(h1k:ctr.Has Yr)(h1l:ctr.Has Zu)(h1m:ctr.Has Zt)(h1n:ctr.Has Zs):vg.Ok Tryz.prog:=by
 refine zy ?_;rintro m_ r0 aa;try unfold xZ at aa;refine yO true [(2,none)] VA 23 Tryz.func36 fun E hE=>?_;obtain⟨r_,h0,aa⟩:=zc aa
 let Z0:List HO:=[Hc h02 (x:=m_) h0 (loC zL m_ <| loN)];rcases zG aa with⟨c0,aa⟩|⟨c0,aa⟩
 ·obtain rfl:=za aa
  exact yE X0 hC hE (Z0++[Hq c0])
 ·refine yJ X0 hC VA [1,1] [] [] (fun z:Unit=>qg=some r0) (fun z=>Jg) [(1,.own (.box (zL m_)))] (Z0++[Hq c0,Hh (.cut 0)]) ?_ fun J1 ar=>?_
  ·rintro⟨⟩ aa
   unfold qg at aa;obtain rfl:=za aa;exact yE X0 hC hE []
  ·obtain⟨ah,h1,aa⟩:=zc aa
   obtain⟨al,h2,aa⟩:=zc aa
   let Z1:List HO:=[Hc h1k (x:=m_) h1 (loC zL m_ <| loN),Hh (.u 70),qT,Hc h1l (x:=ah.1.2) h2 (loC z1P ah.1.2 <| loN)];rcases zG aa with⟨c1,aa⟩|⟨c1,aa⟩
   ·obtain rfl:=za aa
    exact yE X0 hC hE (Z1++[Hq c1])
   ·obtain⟨az,h3,aa⟩:=zc aa
    let Z2:List HO:=(Z1++[Hq c1,qT,Hc h1m (x:=ah.2.1.2) h3 (loC z1P ah.2.1.2 <| loN)]);rcases zG aa with⟨c2,aa⟩|⟨c2,aa⟩
    ·obtain rfl:=za aa
     exact yE X0 hC hE (Z2++[Hq c2])
    ·obtain⟨bp,h4,aa⟩:=zc aa
     let Z3:List HO:=(Z2++[Hq c2,qT,Hc h1n (x:=ah.2.2.2) h4 (loC z1P ah.2.2.2 <| loN)]);rcases zG aa with⟨c3,aa⟩|⟨c3,aa⟩
     ·obtain rfl:=za aa
      exact yE X0 hC hE (Z3++[Hq c3])
     ·exact yB X0 hC ar () aa (Z3++[Hq c3,qF])
def z4U:Code:=(Tryz.f51.body).getD .skip
def vh:zP:=spF (α:=Int) (ρ:=Int) 51 (fun x=>[(eI .i64) x]) (fun r=>(KD 80 (eSp (eI .i64))) r) (fun x=>uY x) [] (Vr)
theorem z5A (hC:zx Tryz.prog ctr):vh.Ok Tryz.prog:=by
 refine zy ?_;rintro n_ r0 aa;try unfold uY at aa;refine yO true [(2,none)] z4U 4 Tryz.func51 fun E hE=>?_;obtain rfl:=za aa;exact yE X0 hC hE []
def Zq:Code:=(Tryz.f80.body).getD .skip
abbrev KR (x0:Int)(YY:σ->z6l)(x6:Int)(ft:σ):List (Nat×T):=[(0,.own (.opq (YY ft).q)),(1,.d (.sptr (I x0))),(5,.d (I x0)),(6,.d (I x6))]
abbrev KP (x0:Int)(YY:σ->z6l)(x6:Int)(de:σ)(b_:Int):List (Nat×T):=[(0,.own (.opq (YY de).q)),(1,.d (.sptr (I x0))),(3,.d (I x6)),(4,.d (I b_)),(5,.d (I x0)),(6,.d (I x6))]
abbrev KQ (x0:Int)(YY:σ->z6l)(ce:σ)(x6:Int):List (Nat×T):=[(0,.own (.opq (YY ce).q)),(1,.d (.sptr (I x0))),(5,.d (I x0)),(6,.d (I x6))]
theorem ZI (hC:zx Tryz.prog ctr)(x0:Int):z9Q Tryz.prog (.fn 80 [.sptr (I x0)]) (fun(x:Int×Int) (_:Bool) (_:Value)=>[(eI .i64) x.1,(eI .i64) x.2]) (@yU x0):=by
 refine z75 (tt:=yu) (nt:=22) (body:=Zq) zt Tryz.func80 rfl (by kernel_rfl) rfl rfl (by show(2:Nat)<=22;decide) ?_
 intro σ yv YY yy hy sg r0 aa E hE;unfold yU at aa;obtain⟨t1,ht1,aa⟩:=zc aa;refine yL X0 hC Zq [1,0] [] (fun s=>Zl x0 yy s.1 s.2) (fun x=>KQ x0 YY x.1 x.2) (sg,0) ht1  [] ?_;rintro⟨ce,x6⟩ m1 av ae hl1 J1 ar;try unfold Zl at ae;rcases zG ae with⟨c0,ae⟩|⟨c0,ae⟩
 ·refine yJ X0 hC Zq [1,0,0,1,1] [J1] [0,1,5,6] (fun z:σ=>Zm x6 z=some av) (fun z=>KR x0 YY x6 z) [(0,.own (.opq (YY ce).q)),(1,.d (.sptr (I x0))),(5,.d (I x0)),(6,.d (I x6))] [Hq c0,Hh (.cut 0)] ?_ fun J2 ax=>?_
  ·rintro ft ae
   unfold Zm at ae;obtain rfl:=za ae;exact yB X0 hC ar (ft,w64 (x6+1)) hl1 []
  ·obtain⟨t3,ht3,ae⟩:=zc ae
   refine yL X0 hC Zq [1,0,0,1,1,2,0,1,1,0] [J1,J2] (fun s=>uQ x0 yy x6 s.1 s.2) (fun x=>KP x0 YY x6 x.1 x.2) (ce,w64 (x6+1)) ht3  [] ?_;rintro⟨de,b_⟩ m3 cw aj hl2 J3 bh;try unfold uQ at aj;rcases zG aj with⟨c1,aj⟩|⟨c1,aj⟩
   ·obtain⟨yr,h0,aj⟩:=zc aj
    let Z0:List HO:=[Hq c1,Hn (z6C (yv:=yv) (Y:=YY) (enc:=(fun(x:Int×Int) (_:Bool) (_:Value)=>[(eI .i64) x.1,(eI .i64) x.2])) (s:=de) (x:=(x6,b_)) (s':=yr.1) (b:=yr.2) (v:=.nilFunc) [(eI .i64) x6,(eI .i64) b_] (show Ku [(eI .i64) x6,(eI .i64) b_] [(eI .i64) x6,(eI .i64) b_] from inferInstance))];rcases zG aj with⟨c2,aj⟩|⟨c2,aj⟩
    ·obtain rfl:=za aj
     obtain rfl:=hl2;obtain rfl:=za ae;obtain rfl:=hl1;obtain rfl:=za aa;exact yF ((z0O (P:=Tryz.prog) yu hy 19 (s:=de) (x:=(x6,b_)) (s':=yr.1) (b:=yr.2) .nilFunc h0).or X0) hC .ret [(0,.own (.opq (YY yr.1).q))] (Z0++[Hq c2]) fun st0 h0=>hE _ st0 (.inr rfl) h0
    ·obtain rfl:=za aj
     exact yB ((z0O (P:=Tryz.prog) yu hy 19 (s:=de) (x:=(x6,b_)) (s':=yr.1) (b:=yr.2) .nilFunc h0).or X0) hC bh (yr.1,w64 (b_+1)) hl2 (Z0++[Hq c2])
   ·obtain rfl:=za aj
    obtain rfl:=hl2;exact yB X0 hC ax de ae [Hq c1]
 ·obtain rfl:=za ae
  obtain rfl:=hl1;obtain rfl:=za aa;exact yF X0 hC .normal [(0,.own (.opq (YY ce).q))] [Hq c0] fun st0 h0=>hE _ st0 (.inl rfl) h0
def z4W:Code:=(Tryz.f38.body).getD .skip
def Ve:zP:=spF (α:=Int×Int) (ρ:=Bool) 38 (fun x=>[(eI .i64) x.1,(eI .i64) x.2]) (fun r=>eB r) (fun x=>Uy x.1 x.2) [] (Qh)
theorem z5D (hC:zx Tryz.prog ctr):Ve.Ok Tryz.prog:=by
 refine zy ?_;rintro⟨a_,b_⟩ r0 aa;try unfold Uy at aa;refine yO true [(4,none)] z4W 5 Tryz.func38 fun E hE=>?_;obtain rfl:=za aa;exact yE X0 hC hE []
def z2k:Code:=(Tryz.f131.body).getD .skip
def uz:zP:=spF (α:=Int×z6) (ρ:=Bool) 131 (fun x=>[(eI .i64) x.1,z1P x.2]) (fun r=>eB r) (fun x=>Zy x.1 x.2) [] (Qh)
theorem z35 (hC:zx Tryz.prog ctr):uz.Ok Tryz.prog:=by
 refine zy ?_;rintro⟨s_,x1⟩ r0 aa;try unfold Zy at aa;refine yO true [(3,none)] z2k 13 Tryz.func131 fun E hE=>?_;rcases zG aa with⟨c0,aa⟩|⟨c0,aa⟩
 ·obtain rfl:=za aa
  exact yE X0 hC hE (rpN 6 (Hq c0) [])
 ·obtain rfl:=za aa
  exact yE X0 hC hE (rpN 4 (Hq c0) [Ha (lnM yW x1.Rows),Hq c0,Hq c0])
def wh:Code:=(Tryz.f149.body).getD .skip
def uA:zP:=spF (α:=List Int×z6) (ρ:=Int) 149 (fun x=>[F6_ x.1,(KD 131 z1P) x.2]) (fun r=>(eI .i64) r) (fun x=>yI x.1 x.2) [] (by
 rintro⟨a0,a1⟩ ⟨b0,b1⟩ h;have e0:=Yc.inj (f:=F6_) _ _ (List.cons.inj h).1;replace h:=(List.cons.inj h).2;have e1:=Yc.inj (f:=(KD 131 z1P)) _ _ (List.cons.inj h).1;subst e0 e1;rfl)
abbrev Yg:List (Nat×T):=[]
abbrev Yf (s_:List Int)(f_:z6)(x8:Int):List (Nat×T):=[(0,.d (eSl 1 false (eI .i64) s_)),(1,.d (.fn 131 [.sptr (.agg [I f_.Inputs,I f_.Outputs,eSl 1 false yW f_.Rows])])),(7,.d (I ((s_.length:Nat):Int))),(8,.d (I x8))]
theorem XL (hC:zx Tryz.prog ctr)(h0b:ctr.Has uz):uA.Ok Tryz.prog:=by
 refine zy ?_;rintro⟨s_,f_⟩ r0 aa;try unfold yI at aa;refine yO true [(4,none)] wh 19 Tryz.func149 fun E hE=>?_;refine yJ X0 hC wh [1] [] [] (fun z:Unit=>we=some r0) (fun z=>Yg) [(0,.d (eSl 1 false (eI .i64) s_)),(1,.d (.fn 131 [.sptr (.agg [I f_.Inputs,I f_.Outputs,eSl 1 false yW f_.Rows])]))] [Hh (.cut 1)] ?_ fun J1 ar=>?_
 ·rintro⟨⟩ aa
  unfold we at aa;obtain rfl:=za aa;exact yE X0 hC hE []
 ·obtain⟨t2,ht2,aa⟩:=zc aa
  refine yL X0 hC wh [1,2,1,0] [J1] (fun s=>y7 s_ f_ s) (fun x=>Yf s_ f_ x) 0 ht2  [Ha (lnM (eI .i64) s_)] ?_;rintro x8 m2 av ae hl1 J2 ax;try unfold y7 at ae;rcases zG ae with⟨c0,ae⟩|⟨c0,ae⟩
  ·obtain⟨da,h0,ae⟩:=zc ae
   obtain⟨r_,h1,ae⟩:=zc ae
   let Z0:List HO:=[Hq c0,Hi (eI .i64) h0,Hc h0b (x:=(da,f_)) h1 (loC (eI .i64) da <| loC z1P f_ <| loN)];rcases zG ae with⟨c1,ae⟩|⟨c1,ae⟩
   ·obtain rfl:=za ae
    obtain rfl:=hl1;obtain rfl:=za aa;exact yE X0 hC hE (Z0++[Hq c1])
   ·obtain rfl:=za ae
    exact yB X0 hC ax (w64 (x8+1)) hl1 (Z0++[Hq c1])
  ·obtain rfl:=za ae
   obtain rfl:=hl1;exact yB X0 hC ar () aa [Hq c0]
def Ye:Code:=(Tryz.f130.body).getD .skip
def vG:zP:=spF (α:=List Int×z6) (ρ:=Bool) 130 (fun x=>[F6_ x.1,(KD 131 z1P) x.2]) (fun r=>eB r) (fun x=>yY x.1 x.2) [] (by
 rintro⟨a0,a1⟩ ⟨b0,b1⟩ h;have e0:=Yc.inj (f:=F6_) _ _ (List.cons.inj h).1;replace h:=(List.cons.inj h).2;have e1:=Yc.inj (f:=(KD 131 z1P)) _ _ (List.cons.inj h).1;subst e0 e1;rfl)
theorem vO (hC:zx Tryz.prog ctr)(h0b:ctr.Has uz):vG.Ok Tryz.prog:=by
 refine zy ?_;rintro⟨s_,f_⟩ r0 aa;try unfold yY at aa;refine yO true [(4,none)] Ye 9 Tryz.func130 fun E hE=>?_;obtain⟨r_,h0,aa⟩:=zc aa;obtain rfl:=za aa;exact yE ((z1R zt (XL hC h0b) 7).or X0) hC hE [Hc (Ctr.add_has Qi uA) (x:=(s_,f_)) h0 (loC F6_ s_ <| loC (KD 131 z1P) f_ <| loN)]
def z4N:Code:=(Tryz.f102.body).getD .skip
def V2:zP:=spF (α:=z6×List Int) (ρ:=Int) 102 (fun x=>[zL x.1,F6_ x.2]) (fun r=>(eI .i64) r) (fun x=>XM x.1 x.2) [] (Qh)
theorem z5o (hC:zx Tryz.prog ctr)(h02:ctr.Has xI)(h0b:ctr.Has uz):V2.Ok Tryz.prog:=by
 refine zy ?_;rintro⟨m_,l_⟩ r0 aa;try unfold XM at aa;refine yO true [(4,none)] z4N 14 Tryz.func102 fun E hE=>?_;obtain⟨r_,h0,aa⟩:=zc aa
 let Z0:List HO:=[Hc h02 (x:=m_) h0 (loC zL m_ <| loN)];rcases zG aa with⟨c0,aa⟩|⟨c0,aa⟩
 ·obtain rfl:=za aa
  exact yE X0 hC hE (Z0++[Hq c0])
 ·obtain⟨ah,h1,aa⟩:=zc aa
  let Z1:List HO:=(Z0++[Hq c0,Hc (Ctr.add_has Qi vG) (x:=(l_,m_)) h1 (loC F6_ l_ <| loC (KD 131 z1P) m_ <| loN)]);rcases zG aa with⟨c1,aa⟩|⟨c1,aa⟩
  ·obtain rfl:=za aa
   exact yE ((z1R zt (vO hC h0b) 13).or X0) hC hE (Z1++[Hq c1])
  ·obtain rfl:=za aa
   exact yE ((z1R zt (vO hC h0b) 13).or X0) hC hE (Z1++[Hq c1])
def z4O:Code:=(Tryz.f132.body).getD .skip
def V3:zP:=spF (α:=z6) (ρ:=z6) 132 (fun x=>[zL x]) (fun r=>(KD 150 z1P) r) (fun x=>Uo x) [] (Vr)
theorem z5p (hC:zx Tryz.prog ctr):V3.Ok Tryz.prog:=by
 refine zy ?_;rintro m_ r0 aa;try unfold Uo at aa;refine yO true [(2,none)] z4O 4 Tryz.func132 fun E hE=>?_;obtain rfl:=za aa;exact yE X0 hC hE []
def Zp:Code:=(Tryz.f150.body).getD .skip
abbrev KL (x0:z6)(YY:σ->z6l)(x8:Int)(ft:σ):List (Nat×T):=[(0,.own (.opq (YY ft).q)),(1,.d (.sptr (zL x0))),(7,.d (I ((x0.Rows.length:Nat):Int))),(8,.d (I x8))]
abbrev KJ (x0:z6)(YY:σ->z6l)(x8:Int)(de:σ)(t_:Int):List (Nat×T):=[(0,.own (.opq (YY de).q)),(1,.d (.sptr (zL x0))),(3,.d (I x8)),(4,.d (I t_)),(7,.d (I ((x0.Rows.length:Nat):Int))),(8,.d (I x8))]
abbrev KK (x0:z6)(YY:σ->z6l)(ce:σ)(x8:Int):List (Nat×T):=[(0,.own (.opq (YY ce).q)),(1,.d (.sptr (zL x0))),(7,.d (I ((x0.Rows.length:Nat):Int))),(8,.d (I x8))]
theorem z36 (hC:zx Tryz.prog ctr)(x0:z6):z9Q Tryz.prog (.fn 150 [.sptr (.agg [I x0.Inputs,I x0.Outputs,eSl 1 false yW x0.Rows])]) (fun(x:Int×Int) (_:Bool) (_:Value)=>[(eI .i64) x.1,(eI .i64) x.2]) (@ue x0):=by
 refine z75 (tt:=yu) (nt:=26) (body:=Zp) zt Tryz.func150 rfl (by kernel_rfl) rfl rfl (by show(2:Nat)<=26;decide) ?_
 intro σ yv YY yy hy sg r0 aa E hE;unfold ue at aa;obtain⟨t1,ht1,aa⟩:=zc aa;refine yL X0 hC Zp [1,0] [] (fun s=>kX x0 yy s.1 s.2) (fun x=>KK x0 YY x.1 x.2) (sg,0) ht1  [Ha (lnM yW x0.Rows)] ?_;rintro⟨ce,x8⟩ m1 av ae hl1 J1 ar;try unfold kX at ae;rcases zG ae with⟨c0,ae⟩|⟨c0,ae⟩
 ·refine yJ X0 hC Zp [1,0,0,1,1] [J1] [0,1,7,8] (fun z:σ=>kY x8 z=some av) (fun z=>KL x0 YY x8 z) [(0,.own (.opq (YY ce).q)),(1,.d (.sptr (zL x0))),(7,.d (I ((x0.Rows.length:Nat):Int))),(8,.d (I x8))] [Hq c0,Hh (.cut 0)] ?_ fun J2 ax=>?_
  ·rintro ft ae
   unfold kY at ae;obtain rfl:=za ae;exact yB X0 hC ar (ft,w64 (x8+1)) hl1 []
  ·obtain⟨t3,ht3,ae⟩:=zc ae
   refine yL X0 hC Zp [1,0,0,1,1,2,0,1,1,0] [J1,J2] (fun s=>uu x0 yy x8 s.1 s.2) (fun x=>KJ x0 YY x8 x.1 x.2) (ce,w64 (x8+1)) ht3  [] ?_;rintro⟨de,t_⟩ m3 cw aj hl2 J3 bh;try unfold uu at aj
   let Z0:List HO:=[Ha (lnM yW x0.Rows)];rcases zG aj with⟨c1,aj⟩|⟨c1,aj⟩
   ·obtain⟨yr,h0,aj⟩:=zc aj
    let Z1:List HO:=(Z0++[Hq c1,Hn (z6C (yv:=yv) (Y:=YY) (enc:=(fun(x:Int×Int) (_:Bool) (_:Value)=>[(eI .i64) x.1,(eI .i64) x.2])) (s:=de) (x:=(x8,t_)) (s':=yr.1) (b:=yr.2) (v:=.nilFunc) [(eI .i64) x8,(eI .i64) t_] (show Ku [(eI .i64) x8,(eI .i64) t_] [(eI .i64) x8,(eI .i64) t_] from inferInstance))]);rcases zG aj with⟨c2,aj⟩|⟨c2,aj⟩
    ·obtain rfl:=za aj
     obtain rfl:=hl2;obtain rfl:=za ae;obtain rfl:=hl1;obtain rfl:=za aa;exact yF ((z0O (P:=Tryz.prog) yu hy 23 (s:=de) (x:=(x8,t_)) (s':=yr.1) (b:=yr.2) .nilFunc h0).or X0) hC .ret [(0,.own (.opq (YY yr.1).q))] (Z1++[Hq c2]) fun st0 h0=>hE _ st0 (.inr rfl) h0
    ·obtain rfl:=za aj
     exact yB ((z0O (P:=Tryz.prog) yu hy 23 (s:=de) (x:=(x8,t_)) (s':=yr.1) (b:=yr.2) .nilFunc h0).or X0) hC bh (yr.1,w64 (t_+1)) hl2 (Z1++[Hq c2])
   ·obtain rfl:=za aj
    obtain rfl:=hl2;exact yB X0 hC ax de ae (Z0++[Hq c1])
 ·obtain rfl:=za ae
  obtain rfl:=hl1;obtain rfl:=za aa;exact yF X0 hC .normal [(0,.own (.opq (YY ce).q))] [Hq c0] fun st0 h0=>hE _ st0 (.inl rfl) h0
def xg:zP:=spR (α:=List Int×Int) (ρ:=List Int) 168 (fun x:List Int×Int=>[F2_ x.1,(eI .i64) x.2]) (fun r:List Int=>F5_ r) (fun x:List Int×Int=>xQ x.1 x.2) [] (Qh)
theorem VX:∀x r,(fun x:List Int×Int=>xQ x.1 x.2) x=some r->(Qi.add xg).run 168 ((Qi.add xg).norm 168 ((fun x:List Int×Int=>[F2_ x.1,(eI .i64) x.2]) x))=some ((fun r:List Int=>F5_ r) r):=fun x r h=>zkj (F:=fun x:List Int×Int=>xQ x.1 x.2) (x:=x) h rfl
theorem U0:(Qi.add xg).lend 168=none/\(Qi.add xg).gives 168=[]:=zcX
theorem UC (hC:zx Tryz.prog ctr):xg.Ok Tryz.prog:=by
 refine z7Y ?_;rintro⟨l,n⟩ r0 aa;cases l with
 | cons a l=>cases aa
 | nil=>
  have h1:0<n/\n<=1000000:=by
   have h2:(decide (0<n)&&decide (n<=1000000))=true:=by
    cases h:(decide (0<n)&&decide (n<=1000000)) with
    | true=>rfl
    | false=>have h3:(bif (true&&(decide (0<n)&&decide (n<=1000000))) then some [] else none)=some r0:=aa;rw [h]at h3;cases h3
   simpa using h2
  have h3:(bif (true&&(decide (0<n)&&decide (n<=1000000))) then some ([]:List Int) else none)=some r0:=aa;rw [decide_eq_true h1.1,decide_eq_true h1.2]at h3;cases h3;exact zcY n h1.1 h1.2
def xK:Code:=(Tryz.f151.body).getD .skip
def wB:zP:=spF (α:=List (List Int)) (ρ:=List Int) 151 (fun x=>[w8 x]) (fun r=>F5_ r) (fun x=>wv x) [] (Vr)
abbrev VE (gy:List Int):List (Nat×T):=[(6,.own (eOs 1 false (eI .i64) gy))]
abbrev VD (slices:List (List Int))(dg:List Int)(j4:Int):List (Nat×T):=[(6,.own (eOs 1 false (eI .i64) dg)),(25,.d (eSl 1 false F6_ slices)),(26,.d (I ((slices.length:Nat):Int))),(27,.d (I j4))]
abbrev VF (slices:List (List Int))(size:Int):List (Nat×T):=[(0,.d (eSl 1 false F6_ slices)),(3,.d (I size))]
abbrev VC (slices:List (List Int))(gk:Int)(ep:Int):List (Nat×T):=[(0,.d (eSl 1 false F6_ slices)),(3,.d (I gk)),(9,.d (eSl 1 false F6_ slices)),(10,.d (I ((slices.length:Nat):Int))),(11,.d (I ep))]
theorem Qj (hC:zx Tryz.prog ctr):wB.Ok Tryz.prog:=by
 refine zy ?_;rintro slices r0 aa;try unfold wv at aa;refine yO true [(2,none)] xK 36 Tryz.func151 fun E hE=>?_;refine yJ X0 hC xK [1,1] [] [0,3] (fun z:Int=>wF slices z=some r0) (fun z=>VF slices z) [(0,.d (eSl 1 false F6_ slices)),(3,.d (I 0))] [Hh (.cut 2)] ?_ fun J1 ar=>?_
 ·rintro size aa
  unfold wF at aa;obtain⟨r_,h0,aa⟩:=zc aa;refine yJ ((z1R zt (UC hC) 24).or X0) hC xK [1,1,1,1] [] [6] (fun z:List Int=>wD z=some r0) (fun z=>VE z) [(0,.d (eSl 1 false F6_ slices)),(6,.own (eOs 1 false (eI .i64) r_))] [Hh (.g []),Hn U0,Hx (.a (F5_ r_)) (VX ([],size) _ h0),Hh (.cut 0)] ?_ fun J2 ax=>?_
  ·rintro gy aa
   unfold wD at aa;obtain rfl:=za aa;exact yE X0 hC hE []
  ·obtain⟨t3,ht3,aa⟩:=zc aa
   refine yL X0 hC xK [1,1,1,1,2,1,0] [J2] (fun s=>zO slices s.1 s.2) (fun x=>VD slices x.1 x.2) (r_,0) ht3  [Ha (lnM F6_ slices)] ?_;rintro⟨dg,j4⟩ m3 av ae hl1 J3 bh;try unfold zO at ae;rcases zG ae with⟨c0,ae⟩|⟨c0,ae⟩
   ·obtain⟨gc,h1,ae⟩:=zc ae
    obtain⟨g0,ae⟩:=gdE ae;obtain rfl:=za ae;exact yB X0 hC bh ((dg++gc),w64 (j4+1)) hl1 [Hq c0,Hi F6_ h1,Hn (dM (eI .i64) gc),Hn (aL (eI .i64) (eI .i64) g0),Hl (aM (eI .i64) dg gc)]
   ·obtain rfl:=za ae
    obtain rfl:=hl1;exact yB X0 hC ax dg aa [Hq c0]
 ·obtain⟨t4,ht4,aa⟩:=zc aa
  refine yL X0 hC xK [1,1,2,1,0] [J1] (fun s=>zN slices s.1 s.2) (fun x=>VC slices x.1 x.2) (0,0) ht4  [Ha (lnM F6_ slices)] ?_;rintro⟨gk,ep⟩ m4 av ae hl1 J4 ck;try unfold zN at ae;rcases zG ae with⟨c1,ae⟩|⟨c1,ae⟩
  ·obtain⟨gi,h2,ae⟩:=zc ae
   let Z0:List HO:=[Hq c1,Hi F6_ h2,Ha (lnM (eI .i64) gi)];rcases zG ae with⟨c2,ae⟩|⟨c2,ae⟩
   ·cases ae
   ·obtain rfl:=za ae
    exact yB X0 hC ck (w64 (gk+((gi.length:Nat):Int)),w64 (ep+1)) hl1 (Z0++[Hq c2])
  ·obtain rfl:=za ae
   obtain rfl:=hl1;exact yB X0 hC ar gk aa [Hq c1]
def QZ:Code:=(Tryz.f58.body).getD .skip
def yH:zP:=spF (α:=List Int) (ρ:=List Int) 58 (fun x=>[F6_ x]) (fun r=>F2_ r) (fun x=>yf x) [] (Vr)
theorem Jt (hC:zx Tryz.prog ctr):yH.Ok Tryz.prog:=by
 refine zy ?_;rintro s_ r0 aa;try unfold yf at aa;refine yO true [(2,none)] QZ 9 Tryz.func58 fun E hE=>?_;obtain⟨g0,aa⟩:=gdE aa;obtain rfl:=za aa;exact yE X0 hC hE [Ha (lnM (eI .i64) s_),Ha (lnM (eI .i64) s_),Hn (slB g0),Hn (slC g0),Hn (zjE (eI .i64) g0),Ha (zoI 1 (eI .i64) s_ 0 ((s_.length:Nat):Int).toNat)]
def xY:Code:=(Tryz.f133.body).getD .skip
abbrev QO (n_:Int)(f_:ArN 64 (ArN 64 (List Int)))(out:List Int):List (Nat×T):=[(0,.own (.box (xO 64 (xO 64 (eNl 1 (eI .i64))) f_))),(4,.d (I n_)),(11,.own (eOs 1 false (eI .i64) out))]
abbrev QN (m_:z6)(t_:Int)(n_:Int)(f_:ArN 64 (ArN 64 (List Int)))(am:List z8)(dj:Int):List (Nat×T):=[(0,.own (.box (xO 64 (xO 64 (eNl 1 (eI .i64))) f_))),(3,.d (I t_)),(4,.d (I n_)),(6,.own (.box (zL m_))),(11,.own (eOs 1 true (eI .i64) [])),(19,.d (eSl 2 false F8_ am)),(20,.d (I ((am.length:Nat):Int))),(21,.d (I dj))]
abbrev QM (m_:z6)(t_:Int)(n_:Int)(f_:ArN 64 (ArN 64 (List Int)))(am:List z8)(dj:Int):List (Nat×T):=[(0,.own (.box (xO 64 (xO 64 (eNl 1 (eI .i64))) f_))),(3,.d (I t_)),(4,.d (I n_)),(6,.own (.box (zL m_))),(11,.own (eOs 1 true (eI .i64) [])),(19,.d (eSl 2 false F8_ am)),(20,.d (I ((am.length:Nat):Int))),(21,.d (I dj))]
theorem WV (hC:zx Tryz.prog ctr)(h0e:ctr.Has wB)(h01:ctr.Has yH)(eb:Value):∀(m_:z6) (s_:Int) (t_:Int) (n_:Int) (f_:ArN 64 (ArN 64 (List Int))) (r0:List Int×ArN 64 (ArN 64 (List Int))),uv m_ s_ t_ n_ f_=some r0->jV Tryz.prog (.fn 133 []) [.atom eb,.agg [I m_.Inputs,I m_.Outputs,eSl 1 false yW m_.Rows],I s_,I t_,I n_] ([eb].zip [.box (xO 64 (xO 64 (eNl 1 (eI .i64))) f_)]) (eNl 1 (eI .i64) r0.1) [.box (xO 64 (xO 64 (eNl 1 (eI .i64))) r0.2)]:=by
 intro m_ s_ t_ n_ f_ r0 aa;refine zcN (tt:=yu) (nt:=85) (body:=xY) [0] zt Tryz.func133 rfl (by kernel_rfl) rfl rfl (by show(5:Nat)<=85;decide) (by decide) rfl rfl rfl rfl (fun E hG hE=>?_) rfl
 unfold uv at aa;refine yA ((xRe Tryz.prog 10 (.atom (.slice none 0 0)) (eNl 1 (eI .i64) ([]:List Int)) (zgd 1)).or ((QT zt (.inl 76) [66]).or X0)) hC xY [1] [] [(0,.own (.box (xO 64 (xO 64 (eNl 1 (eI .i64))) f_))),(2,.d (I s_)),(3,.d (I t_)),(4,.d (I n_)),(6,.own (.box (zL m_)))] [Hn (rfl:T.d (.atom (.slice none 0 0))=T.d (.atom (.slice none 0 0)))] ?_;refine zaU (c':=(sub [1,0] xY)) (by kernel_rfl) hG ?_
 refine yJ ((QT zt (.inl 76) [66]).or X0) hC xY [1,0,1,1] [] [0,4,11] (fun z:List Int=>uq n_ f_ z=some r0) (fun z=>QO n_ f_ z) [(0,.own (.box (xO 64 (xO 64 (eNl 1 (eI .i64))) f_))),(2,.d (I s_)),(3,.d (I t_)),(4,.d (I n_)),(6,.own (.box (zL m_))),(11,.own (eOs 1 true (eI .i64) []))] [Hh (.cut 2)] ?_ fun J1 ar=>?_
 ·rintro out aa
  unfold uq at aa;rcases zG aa with⟨c0,aa⟩|⟨c0,aa⟩
  ·obtain rfl:=za aa
   exact yF ((xRe Tryz.prog 10 (.atom (.slice none 0 0)) (eNl 1 (eI .i64) ([]:List Int)) (zgd 1)).or ((QT zt (.inl 76) [66]).or X0)) hC .ret [(0,.own (.box (xO 64 (xO 64 (eNl 1 (eI .i64))) f_))),(10,.d (eNl 1 (eI .i64) ([]:List Int)))] [Ha (lnM (eI .i64) out),Hq c0,Hn (rfl:T.d (.atom (.slice none 0 0))=T.d (.atom (.slice none 0 0)))] fun st0 h0=>hE _ st0 (.inr rfl) (z08 h0 ⟨⟨rfl,rfl⟩,trivial⟩) (zp7 h0 rfl rfl)
  ·obtain⟨r_,h0,aa⟩:=zc aa
   obtain⟨g0,aa⟩:=gdE aa;obtain rfl:=za aa;exact yF ((xRe Tryz.prog 10 (eSl 1 true (eI .i64) r_) (eNl 1 (eI .i64) r_) (fun S v q=>(LeA.slNl 1 true (eI .i64) g0).repV q)).or ((QT zt (.inl 76) [66]).or X0)) hC .ret [(0,.own (.box (xO 64 (xO 64 (eNl 1 (eI .i64))) f_))),(10,.d (eNl 1 (eI .i64) r_))] [Ha (lnM (eI .i64) out),Hq c0,Hg (z3H h01),Hm (shM (eI .i64) (eI .i64) out),Hs (z3I h01 (x:=out) h0 (loC F6_ out <| loN)),Hm (shM (eI .i64) (eI .i64) out),Hn (rfl:T.d (eSl 1 true (eI .i64) r_)=T.d (eSl 1 true (eI .i64) r_))] fun st0 h0=>hE _ st0 (.inr rfl) (z08 h0 ⟨⟨rfl,rfl⟩,trivial⟩) (zp7 h0 rfl rfl)
 ·obtain⟨am,h1,aa⟩:=zc aa
  obtain⟨t2,ht2,aa⟩:=zc aa;refine yL ((QT zt (.inl 76) [66]).or X0) hC xY [1,0,1,1,2,1,0] [J1] (fun s=>wS m_ t_ n_ f_ am s) (fun x=>QM m_ t_ n_ f_ am x) 0 ht2  [Hi yW h1,Ha (lnM F8_ am)] ?_;rintro dj m2 av ae hl1 J2 ax;try unfold wS at ae;rcases zG ae with⟨c1,ae⟩|⟨c1,ae⟩
  ·refine yJ ((QT zt (.inl 76) [66]).or X0) hC xY [1,0,1,1,2,1,0,0,1,1] [J1,J2] [0,3,4,6,11,19,20,21] (fun z:Unit=>xW dj=some av) (fun z=>QN m_ t_ n_ f_ am dj) [(0,.own (.box (xO 64 (xO 64 (eNl 1 (eI .i64))) f_))),(3,.d (I t_)),(4,.d (I n_)),(6,.own (.box (zL m_))),(11,.own (eOs 1 true (eI .i64) [])),(19,.d (eSl 2 false F8_ am)),(20,.d (I ((am.length:Nat):Int))),(21,.d (I dj))] [Hq c1,Hh (.cut 0)] ?_ fun J3 bh=>?_
   ·rintro⟨⟩ ae
    unfold xW at ae;obtain rfl:=za ae;exact yB ((QT zt (.inl 76) [66]).or X0) hC ax (w64 (dj+1)) hl1 []
   ·obtain⟨ak,h2,ae⟩:=zc ae
    obtain⟨ie,h3,ae⟩:=zc ae;obtain⟨bn,h4,ae⟩:=zc ae
    let Z0:List HO:=[Hi F8_ h2,Hi yW h3,Hi F8_ h4];rcases zG ae with⟨c2,ae⟩|⟨c2,ae⟩
    ·obtain rfl:=za ae
     obtain rfl:=hl1;exact yBx ((QT zt (.inl 76) [66]).or X0) hC ar ([dj]:List Int) aa [(0,.own (.box (xO 64 (xO 64 (eNl 1 (eI .i64))) f_))),(4,.d (I n_)),(11,.own (eOs 1 true (eI .i64) ([dj])))] inferInstance (Z0++[Hq c2])
    ·rcases zG ae with⟨c3,ae⟩|⟨c3,ae⟩
     ·let Z1:List HO:=(Z0++(Hq c2::(rpN 4 (Hq c3) [])))
      rcases zG ae with⟨c4,ae⟩|⟨c4,ae⟩
      ·obtain⟨cell,h5,ae⟩:=zc ae
       obtain⟨a8,h6,ae⟩:=zc ae
       let Z2:List HO:=(Z1++(rpN 7 (Hq c4) (Hn (⟨QS (by kernel_rfl) f_ (i0 h5),(iL (xO 64 (eNl 1 (eI .i64))) h5).2⟩:Xc yu 154 ((f_.l).map (xO 64 (eNl 1 (eI .i64)))) ak.To=true/\ak.To.toNat<((f_.l).map (xO 64 (eNl 1 (eI .i64)))).length)::Hq c4::Hh (.f)::Hs (iM (xO 64 (eNl 1 (eI .i64))) h5)::Hn (⟨QS (by kernel_rfl) cell (i0 h6),(iL (eNl 1 (eI .i64)) h6).2⟩:Xc yu 125 ((cell.l).map (eNl 1 (eI .i64))) bn.To=true/\bn.To.toNat<((cell.l).map (eNl 1 (eI .i64))).length)::Hq c4::Hh (.f)::Hs (iM (xO 64 (eNl 1 (eI .i64))) h5)::Hh (.f)::Hs (iM (eNl 1 (eI .i64)) h6)::Hn (rfl:T.d (eNl 1 (eI .i64) a8)=T.d (eNl 1 (eI .i64) a8))::Hq c4::Ha (lnM (eI .i64) a8)::(rpN 4 (Hq c4) []))))
       rcases zG ae with⟨c5,ae⟩|⟨c5,ae⟩
       ·obtain⟨d0,h7,ae⟩:=zc ae
        obtain⟨eg,h8,ae⟩:=zc ae;obtain⟨ah,h9,ae⟩:=zc ae;obtain rfl:=za ae;obtain rfl:=hl1;exact yB ((xLs zt 75 (eNl 1 (eI .i64) eg) (eSl 1 false (eI .i64) eg) inferInstance).or ((xBl zt 66).or ((xLs zt 59 (eNl 1 (eI .i64) a8) (eSl 1 false (eI .i64) a8) inferInstance).or ((QT zt (.inl 76) [66]).or X0)))) hC ar ah aa (Z2++[Hq c5,Hn (⟨QS (by kernel_rfl) f_ (i0 h7),(iL (xO 64 (eNl 1 (eI .i64))) h7).2⟩:Xc yu 154 ((f_.l).map (xO 64 (eNl 1 (eI .i64)))) ak.To=true/\ak.To.toNat<((f_.l).map (xO 64 (eNl 1 (eI .i64)))).length),Hh (.op 9),Hh (.f),Hs (iM (xO 64 (eNl 1 (eI .i64))) h7),Hn (⟨QS (by kernel_rfl) d0 (i0 h8),(iL (eNl 1 (eI .i64)) h8).2⟩:Xc yu 125 ((d0.l).map (eNl 1 (eI .i64))) bn.To=true/\bn.To.toNat<((d0.l).map (eNl 1 (eI .i64))).length),Hh (.op 0),Hh (.f),Hs (iM (xO 64 (eNl 1 (eI .i64))) h7),Hh (.f),Hs (iM (eNl 1 (eI .i64)) h8),Hn (rfl:T.d (eNl 1 (eI .i64) eg)=T.d (eNl 1 (eI .i64) eg)),Hm (shM (eI .i64) (eI .i64) ([dj])),Hg (z3H h0e),Hm (shM F6_ F6_ ([[dj],eg])),Hs (z3I h0e (x:=[[dj],eg]) h9 (loC ziF ([[dj],eg]:List (List Int)) <| loN)),Hm (shM F6_ F6_ ([[dj],eg]))])
       ·exact yB ((xLs zt 59 (eNl 1 (eI .i64) a8) (eSl 1 false (eI .i64) a8) inferInstance).or ((QT zt (.inl 76) [66]).or X0)) hC bh () ae (Z2++[Hq c5])
      ·exact yB ((QT zt (.inl 76) [66]).or X0) hC bh () ae (Z1++(rpN 14 (Hq c4) [qF]))
     ·exact yB ((QT zt (.inl 76) [66]).or X0) hC bh () ae (Z0++(Hq c2::(rpN 4 (Hq c3) (rpN 15 qF []))))
  ·obtain rfl:=za ae
   obtain rfl:=hl1;exact yBx ((QT zt (.inl 76) [66]).or X0) hC ar ([]:List Int) aa [(0,.own (.box (xO 64 (xO 64 (eNl 1 (eI .i64))) f_))),(4,.d (I n_)),(11,.own (eOs 1 true (eI .i64) []))] inferInstance [Hq c1]
def z0i:Code:=(Tryz.f134.body).getD .skip
theorem z0Q (hC:zx Tryz.prog ctr)(eb:Value):∀(s_:Int) (t_:Int) (w_:List Int) (f_:ArN 64 (ArN 64 (List Int))) (r0:ArN 64 (ArN 64 (List Int))),qE s_ t_ w_ f_=some r0->jV Tryz.prog (.fn 134 []) [.atom eb,I s_,I t_,eNl 1 (eI .i64) w_] ([eb].zip [.box (xO 64 (xO 64 (eNl 1 (eI .i64))) f_)]) (.tup []) [.box (xO 64 (xO 64 (eNl 1 (eI .i64))) r0)]:=by
 intro s_ t_ w_ f_ r0 aa;refine zaB (tt:=yu) (nt:=22) (body:=z0i) [0] zt Tryz.func134 rfl (by kernel_rfl) rfl rfl (by show(4:Nat)<=22;decide) (by decide) rfl rfl (fun E hE=>?_) rfl
 unfold qE at aa;refine zio 0 (v:=eb) ⟨_,rfl⟩ (by kernel_rfl) fun b0 hb0=>?_
 subst hb0;obtain⟨cell,h0,aa⟩:=zc aa;obtain⟨a8,h1,aa⟩:=zc aa;obtain⟨arr,h2,aa⟩:=zc aa;replace h2:=za h2;obtain⟨arr1,h3,aa⟩:=zc aa;replace h3:=za h3;obtain⟨d0,h4,aa⟩:=zc aa;obtain⟨eg,h5,aa⟩:=zc aa;obtain⟨arr2,h6,aa⟩:=zc aa;replace h6:=za h6;obtain⟨kg,h7,aa⟩:=zc aa;replace h7:=za h7;obtain rfl:=za aa;exact yF ((xIr zt 21 0 t_.toNat b0).or ((xRi zt 20 64 64 b0).or ((xNr Tryz.prog 19 b0).or ((xMv Tryz.prog 11 0 (z4m b0) rfl).or X0)))) hC .normal [(0,.own (.box (xO 64 (xO 64 (eNl 1 (eI .i64))) kg)))] [Hn (rfl:some (z4m b0)=some (z4m b0)),Hn (⟨QS (by kernel_rfl) f_ (i0 h0),(iL (xO 64 (eNl 1 (eI .i64))) h0).2⟩:Xc yu 154 ((f_.l).map (xO 64 (eNl 1 (eI .i64)))) s_=true/\s_.toNat<((f_.l).map (xO 64 (eNl 1 (eI .i64)))).length),Hh (.op 10),Hh (.f),Hs (iM (xO 64 (eNl 1 (eI .i64))) h0),Hn (⟨QS (by kernel_rfl) cell (i0 h1),(iL (eNl 1 (eI .i64)) h1).2⟩:Xc yu 125 ((cell.l).map (eNl 1 (eI .i64))) t_=true/\t_.toNat<((cell.l).map (eNl 1 (eI .i64))).length),Hh (.op 0),Hh (.f),Hs (iM (xO 64 (eNl 1 (eI .i64))) h0),Hh (.f),Hs (iM (eNl 1 (eI .i64)) h1),Hh (.f),Hs (iM (xO 64 (eNl 1 (eI .i64))) h0),Hh (.f),Hs (iM (eNl 1 (eI .i64)) h1),Hx (.l ((arr.l).map (eNl 1 (eI .i64)))) ((ArN.setL (eNl 1 (eI .i64)) cell t_ w_).trans (congrArg (fun q=>(ArN.l q).map (eNl 1 (eI .i64))) h2)),Hx (.l ((arr1.l).map (xO 64 (eNl 1 (eI .i64))))) ((ArN.setL (xO 64 (eNl 1 (eI .i64))) f_ s_ arr).trans (congrArg (fun q=>(ArN.l q).map (xO 64 (eNl 1 (eI .i64)))) h3)),Hn (rfl:T.d (.atom (z4m b0))=T.d (.atom (z4m b0))),Hn (⟨rfl,i0 h4,zgy (x:=arr1) h4⟩:T.d (.atom (z4m b0))=T.d (.atom (z4m b0))/\0<=t_/\t_.toNat<64),Hn (⟨⟨congrArg (fun k=>T.d (.atom (.pointer (some ⟨b0,k,none⟩)))) (zir (f:=(xO 64 (eNl 1 (eI .i64)))) arr1 h4).symm,(iL (xO 64 (eNl 1 (eI .i64))) h4).2⟩,rfl⟩:(T.d (.atom (.pointer (some ⟨b0,t_.toNat*64,none⟩)))=T.d (.atom (.pointer (some ⟨b0,A.sizes (((arr1.l).map (xO 64 (eNl 1 (eI .i64)))).take t_.toNat),none⟩)))/\t_.toNat<((arr1.l).map (xO 64 (eNl 1 (eI .i64)))).length)/\some (z4m b0)=some (z4m b0)),Hh (.op 2),Hh (.f),Hs (iM (xO 64 (eNl 1 (eI .i64))) h4),Hn (⟨QS (by kernel_rfl) d0 (i0 h5),(iL (eNl 1 (eI .i64)) h5).2⟩:Xc yu 125 ((d0.l).map (eNl 1 (eI .i64))) s_=true/\s_.toNat<((d0.l).map (eNl 1 (eI .i64))).length),Hh (.op 0),Hh (.f),Hs (iM (xO 64 (eNl 1 (eI .i64))) h4),Hh (.f),Hs (iM (eNl 1 (eI .i64)) h5),Hh (.f),Hs (iM (xO 64 (eNl 1 (eI .i64))) h4),Hh (.f),Hs (iM (eNl 1 (eI .i64)) h5),Hx (.l ((arr2.l).map (eNl 1 (eI .i64)))) ((ArN.setL (eNl 1 (eI .i64)) d0 s_ w_).trans (congrArg (fun q=>(ArN.l q).map (eNl 1 (eI .i64))) h6)),Hx (.l ((kg.l).map (xO 64 (eNl 1 (eI .i64))))) ((ArN.setL (xO 64 (eNl 1 (eI .i64))) arr1 t_ arr2).trans (congrArg (fun q=>(ArN.l q).map (xO 64 (eNl 1 (eI .i64)))) h7))] fun st0 h0=>hE _ st0 (.inl rfl) (z08 h0 ⟨⟨rfl,rfl⟩,trivial⟩)
def yg:Code:=(Tryz.f104.body).getD .skip
def ZX:zP:=spF (α:=z6) (ρ:=ArN 64 (ArN 64 (List Int))) 104 (fun x=>[zL x]) (fun r=>(eBx (xO 64 (xO 64 (eNl 1 (eI .i64))))) r) (fun x=>qD x) [] (Vr)
abbrev Je (f_:ArN 64 (ArN 64 (List Int))):List (Nat×T):=[(3,.own (.box (.box (xO 64 (xO 64 (eNl 1 (eI .i64))) f_))))]
abbrev Jd (m_:z6)(n_:Int)(kp:ArN 64 (ArN 64 (List Int))):List (Nat×T):=[(1,.own (.box (zL m_))),(3,.own (.box (.box (xO 64 (xO 64 (eNl 1 (eI .i64))) kp)))),(4,.own (.box (I n_)))]
abbrev Ja (m_:z6)(n_:Int)(now:List zF)(i9:ArN 64 (ArN 64 (List Int)))(j5:Int):List (Nat×T):=[(1,.own (.box (zL m_))),(3,.own (.box (.box (xO 64 (xO 64 (eNl 1 (eI .i64))) i9)))),(4,.own (.box (I n_))),(48,.d (eSl 4 false (zU (eI .i64) (eI .i64) (eNl 1 (eI .i64)) eB) now)),(49,.d (I ((now.length:Nat):Int))),(50,.d (I j5))]
abbrev Jc (m_:z6)(n_:Int)(kq:ArN 64 (ArN 64 (List Int)))(now:List zF):List (Nat×T):=[(1,.own (.box (zL m_))),(3,.own (.box (.box (xO 64 (xO 64 (eNl 1 (eI .i64))) kq)))),(4,.own (.box (I n_))),(5,.own (.box (eOs 4 false (zU (eI .i64) (eI .i64) (eNl 1 (eI .i64)) eB) now)))]
abbrev vF (m_:z6)(n_:Int)(ah:z6)(d9:ArN 64 (ArN 64 (List Int)))(dp:List zF):List (Nat×T):=[(1,.own (.box (zL m_))),(3,.own (.box (.box (xO 64 (xO 64 (eNl 1 (eI .i64))) d9)))),(4,.own (.box (I n_))),(5,.own (.box (eOs 4 false (zU (eI .i64) (eI .i64) (eNl 1 (eI .i64)) eB) dp))),(22,.d (.fn 150 [.sptr (.agg [I ah.Inputs,I ah.Outputs,eSl 1 false yW ah.Rows])]))]
abbrev Jb (m_:z6)(ip:ArN 64 (ArN 64 (List Int)))(n_:Int):List (Nat×T):=[(1,.own (.box (zL m_))),(3,.own (.box (.box (xO 64 (xO 64 (eNl 1 (eI .i64))) ip)))),(4,.own (.box (I n_)))]
theorem z0P (hC:zx Tryz.prog ctr)(h1o:ctr.Has V3)(h0e:ctr.Has wB)(h01:ctr.Has yH):ZX.Ok Tryz.prog:=by
 refine zy ?_;rintro m_ r0 aa;try unfold qD at aa;refine z1g (tt:=yu) (rs:=[(true,2,none)]) (n:=⟨65,[]⟩) (body:=yg) zt Tryz.func104 rfl (by kernel_rfl) rfl rfl (by show(1:Nat)<=65;decide) fun E hE=>?_
 refine yJ X0 hC yg [1,1] [] [3] (fun z:ArN 64 (ArN 64 (List Int))=>qd z=some r0) (fun z=>Je z) [(1,.own (.box (zL m_))),(3,.own (.box (.box (xO 64 (xO 64 (eNl 1 (eI .i64))) (ArN.rep 64 (ArN.rep 64 ([]:List Int)))))))] [Hh (.cut 2)] ?_ fun J1 ar=>?_
 ·rintro f_ aa
  unfold qd at aa;obtain rfl:=za aa
  let ZE:List HO:=[];exact Wp X0 zt hC Zr hE 4000 (hs:=hoH ZE) (x:=(.box (xO 64 (xO 64 (eNl 1 (eI .i64))) f_))) (hoB ZE) (by kernel_rfl) (LeV.refl _)
 ·obtain⟨t2,ht2,aa⟩:=zc aa
  refine yL X0 hC yg [1,1,2,1,0] [J1] (fun s=>q9 m_ s.1 s.2) (fun x=>Jb m_ x.1 x.2) ((ArN.rep 64 (ArN.rep 64 ([]:List Int))),1) ht2  [] ?_;rintro⟨ip,n_⟩ m2 av ae hl1 J2 ax;try unfold q9 at ae
  let Z0:List HO:=[Ha (lnM yW m_.Rows)];rcases zG ae with⟨c0,ae⟩|⟨c0,ae⟩
  ·refine yJ X0 hC yg [1,1,2,1,0,0,1] [J1,J2] [1,3,4] (fun z:ArN 64 (ArN 64 (List Int))=>qb n_ z=some av) (fun z=>Jd m_ n_ z) [(1,.own (.box (zL m_))),(3,.own (.box (.box (xO 64 (xO 64 (eNl 1 (eI .i64))) ip)))),(4,.own (.box (I n_)))] (Z0++[Hq c0,Hh (.cut 0)]) ?_ fun J3 bh=>?_
   ·rintro kp ae
    unfold qb at ae;obtain rfl:=za ae;exact yB X0 hC ax (kp,w64 (n_+1)) hl1 []
   ·refine yJ X0 hC yg [1,1,2,1,0,0,1,2,0,1] [J1,J2,J3] [1,3,4,5] (fun z:ArN 64 (ArN 64 (List Int))×List zF=>qa n_ z.1 z.2=some av) (fun z=>Jc m_ n_ z.1 z.2) [(1,.own (.box (zL m_))),(3,.own (.box (.box (xO 64 (xO 64 (eNl 1 (eI .i64))) ip)))),(4,.own (.box (I n_))),(5,.own (.box (eOs 4 true (zU (eI .i64) (eI .i64) F6_ eB) [])))] [Hh (.cut 1)] ?_ fun J4 ck=>?_
    ·rintro⟨kq,now⟩ ae
     unfold qa at ae;obtain⟨t5,ht5,ae⟩:=zc ae;refine yL X0 hC yg [1,1,2,1,0,0,1,2,0,1,1,1,0] [J1,J2,J3] (fun s=>vd now s.1 s.2) (fun x=>Ja m_ n_ now x.1 x.2) (kq,0) ht5  [Hh (.v 0 [5]),Hm (shM (zU (eI .i64) (eI .i64) (eNl 1 (eI .i64)) eB) (zU (eI .i64) (eI .i64) (eNl 1 (eI .i64)) eB) now),Hh (.v 1 [5]),Ha (lnM (zU (eI .i64) (eI .i64) (eNl 1 (eI .i64)) eB) now)] ?_;rintro⟨i9,j5⟩ m5 cw aj hl2 J5 dh;try unfold vd at aj;rcases zG aj with⟨c1,aj⟩|⟨c1,aj⟩
     ·obtain⟨cn,h0,aj⟩:=zc aj
      obtain⟨r_,h1,aj⟩:=zc aj;obtain rfl:=za aj;exact yB ((zbz (P:=Tryz.prog) yu 3 0 (fa:=.fn 134 []) (z:=.box (xO 64 (xO 64 (eNl 1 (eI .i64))) i9)) (z':=.box (xO 64 (xO 64 (eNl 1 (eI .i64))) r_)) (r:=.tup []) (xl:=[]) (xr:=[(eI .i64) cn.S,(eI .i64) cn.T,(eNl 1 (eI .i64)) cn.Word]) rfl rfl (fun v=>z0Q hC v _ _ _ _ _ h1) 61).or X0) hC dh (r_,w64 (j5+1)) hl2 [Hq c1,Hi (zU (eI .i64) (eI .i64) (eNl 1 (eI .i64)) eB) h0,Hn (⟨rfl,leP (show Ku [] [] from inferInstance),leP (show Ku [(eI .i64) cn.S,(eI .i64) cn.T,(eNl 1 (eI .i64)) cn.Word] [(eI .i64) cn.S,(eI .i64) cn.T,(eNl 1 (eI .i64)) cn.Word] from inferInstance),rfl,rfl⟩:([.fn 134 []]:List A)=[.fn 134 []]/\LeP [] []/\LeP [(eI .i64) cn.S,(eI .i64) cn.T,(eNl 1 (eI .i64)) cn.Word] [(eI .i64) cn.S,(eI .i64) cn.T,(eNl 1 (eI .i64)) cn.Word]/\T.als 3 [.deref] 0 0=T.als 3 [.deref] 0 0/\T.own (.box (.box (xO 64 (xO 64 (eNl 1 (eI .i64))) i9)))=T.own (.box (.box (xO 64 (xO 64 (eNl 1 (eI .i64))) i9))))]
     ·obtain rfl:=za aj
      obtain rfl:=hl2;exact yB X0 hC bh i9 ae [Hq c1]
    ·obtain⟨ah,h2,ae⟩:=zc ae
     obtain⟨t6,ik,ae⟩:=zc ae;refine yAt X0 hC (sub [1,1,2,1,0,0,1,2,0,1,2,1,0] yg) (frs [1,1,2,1,0,0,1,2,0,1,2,1,0] [J1,J2,J3,J4] yg []) [(1,.own (.box (zL m_))),(3,.own (.box (.box (xO 64 (xO 64 (eNl 1 (eI .i64))) ip)))),(4,.own (.box (I n_))),(5,.own (.box (eOs 4 true (zU (eI .i64) (eI .i64) (eNl 1 (eI .i64)) eB) []))),(22,.d (.fn 150 [.sptr (.agg [I ah.Inputs,I ah.Outputs,eSl 1 false yW ah.Rows])]))] [Hc h1o (x:=m_) h2 (loC zL m_ <| loN)] fun st0 h0=>?_;refine z0m (g:=.tmp 22) (ps:=[23,24]) (assign:=(sub [1,1,2,1,0,0,1,2,0,1,2,1,0,0] yg)) (body:=(sub [1,1,2,1,0,0,1,2,0,1,2,1,0,1] yg)) (K:=150) (caps:=[.sptr (.agg [I ah.Inputs,I ah.Outputs,eSl 1 false yW ah.Rows])]) (by kernel_rfl) [1,3,4,5,22] (fun s=>vF m_ n_ ah s.1 s.2) (fun z=>nomatch z) (fun z=>nomatch z) ((fun(x:Int×Int) (_:Bool) (_:Value)=>[(eI .i64) x.1,(eI .i64) x.2])) (F:=@ue ah) (fun s x=>xH m_ n_ s.1 s.2 x.1 x.2) (ip,([]:List zF)) t6 _ h0 inferInstance (by kernel_rfl) (by decide) (fun _=>rfl) (by rintro⟨⟩) (by kernel_rfl) (fun _ _ _=>rfl) (z36 hC ah) ik ?_ ?_
     ·rintro mr ⟨d9,dp⟩ ⟨ff,bg⟩ vr cw aj
      replace aj:xH m_ n_ d9 dp ff bg=some cw:=aj;unfold xH at aj;refine yF X0 hC .normal [(1,.own (.box (zL m_))),(3,.own (.box (.box (xO 64 (xO 64 (eNl 1 (eI .i64))) d9)))),(4,.own (.box (I n_))),(5,.own (.box (eOs 4 false (zU (eI .i64) (eI .i64) (eNl 1 (eI .i64)) eB) dp))),(6,.d (I ff)),(7,.d (I bg)),(22,.d (.fn 150 [.sptr (.agg [I ah.Inputs,I ah.Outputs,eSl 1 false yW ah.Rows])]))] [] fun st0 h0=>⟨rfl,z7r h0 ?_⟩;obtain⟨cell,h3,aj⟩:=zc aj;obtain⟨a8,h4,aj⟩:=zc aj
      let Z1:List HO:=[Hn (⟨QS (by kernel_rfl) d9 (i0 h3),(iL (xO 64 (eNl 1 (eI .i64))) h3).2⟩:Xc yu 154 ((d9.l).map (xO 64 (eNl 1 (eI .i64)))) ff=true/\ff.toNat<((d9.l).map (xO 64 (eNl 1 (eI .i64)))).length),Hh (.op 5),Hh (.f),Hs (iM (xO 64 (eNl 1 (eI .i64))) h3),Hn (⟨QS (by kernel_rfl) cell (i0 h4),(iL (eNl 1 (eI .i64)) h4).2⟩:Xc yu 125 ((cell.l).map (eNl 1 (eI .i64))) bg=true/\bg.toNat<((cell.l).map (eNl 1 (eI .i64))).length),Hh (.op 0),Hh (.f),Hs (iM (xO 64 (eNl 1 (eI .i64))) h3),Hh (.f),Hs (iM (eNl 1 (eI .i64)) h4),Hn (⟨rfl,rfl⟩:T.d (eNl 1 (eI .i64) a8)=T.d (eNl 1 (eI .i64) a8)/\T.d (.atom (.slice none 0 0))=T.d (.atom (.slice none 0 0)))]
      rcases zG aj with⟨c2,aj⟩|⟨c2,aj⟩
      ·obtain rfl:=za aj
       exact yF ((ziT zt 32 40 1 (a8.map (eI .i64)) true (!a8.isEmpty) (by kernel_rfl) (nlB true (eI .i64) a8)).or X0) hC .normal (vF m_ n_ ah d9 dp) (Z1++[Hq c2]) fun st0 h0=>⟨rfl,_,h0,LeL.refl _⟩
      ·obtain⟨al,h5,aj⟩:=zc aj
       let Z2:List HO:=(Z1++[Hq c2,Hn (⟨rfl,leP (show Ku [] [] from inferInstance),leP (show Ku [zL m_,(eI .i64) ff,(eI .i64) bg,(eI .i64) n_] [zL m_,(eI .i64) ff,(eI .i64) bg,(eI .i64) n_] from inferInstance),rfl,rfl⟩:([.fn 133 []]:List A)=[.fn 133 []]/\LeP [] []/\LeP [zL m_,(eI .i64) ff,(eI .i64) bg,(eI .i64) n_] [zL m_,(eI .i64) ff,(eI .i64) bg,(eI .i64) n_]/\T.als 3 [.deref] 0 0=T.als 3 [.deref] 0 0/\T.own (.box (.box (xO 64 (xO 64 (eNl 1 (eI .i64))) d9)))=T.own (.box (.box (xO 64 (xO 64 (eNl 1 (eI .i64))) d9)))),Hn (⟨rfl,rfl⟩:T.d (eNl 1 (eI .i64) al.1)=T.d (eNl 1 (eI .i64) al.1)/\T.d (.atom (.slice none 0 0))=T.d (.atom (.slice none 0 0)))]);rcases zG aj with⟨c3,aj⟩|⟨c3,aj⟩
       ·obtain⟨g0,aj⟩:=gdE aj
        obtain rfl:=za aj;exact yF ((ziT zt 40 40 1 (al.1.map (eI .i64)) true (!al.1.isEmpty) (by kernel_rfl) (nlB true (eI .i64) al.1)).or ((zbz (P:=Tryz.prog) yu 3 0 (fa:=.fn 133 []) (z:=.box (xO 64 (xO 64 (eNl 1 (eI .i64))) d9)) (z':=.box (xO 64 (xO 64 (eNl 1 (eI .i64))) al.2)) (r:=eNl 1 (eI .i64) al.1) (xl:=[]) (xr:=[zL m_,(eI .i64) ff,(eI .i64) bg,(eI .i64) n_]) rfl rfl (fun v=>WV hC h0e h01 v _ _ _ _ _ _ h5) 38).or ((ziT zt 32 40 1 (a8.map (eI .i64)) true (!a8.isEmpty) (by kernel_rfl) (nlB true (eI .i64) a8)).or X0))) hC .normal (vF m_ n_ ah al.2 (dp++([(zF.mk ff bg al.1 false)]:List zF))) (Z2++[Hq c3,Hq (dM (zU (eI .i64) (eI .i64) (eNl 1 (eI .i64)) eB) ([(zF.mk ff bg al.1 false)]:List zF)),Hn (dM (zU (eI .i64) (eI .i64) (eNl 1 (eI .i64)) eB) ([(zF.mk ff bg al.1 false)]:List zF)),Hn (aL (zU (eI .i64) (eI .i64) (eNl 1 (eI .i64)) eB) (zU (eI .i64) (eI .i64) (eNl 1 (eI .i64)) eB) g0),Hl (aM (zU (eI .i64) (eI .i64) (eNl 1 (eI .i64)) eB) dp ([(zF.mk ff bg al.1 false)]:List zF))]) fun st0 h0=>⟨rfl,_,h0,LeL.refl _⟩
       ·obtain rfl:=za aj
        exact yF ((ziT zt 40 40 1 (al.1.map (eI .i64)) true (!al.1.isEmpty) (by kernel_rfl) (nlB true (eI .i64) al.1)).or ((zbz (P:=Tryz.prog) yu 3 0 (fa:=.fn 133 []) (z:=.box (xO 64 (xO 64 (eNl 1 (eI .i64))) d9)) (z':=.box (xO 64 (xO 64 (eNl 1 (eI .i64))) al.2)) (r:=eNl 1 (eI .i64) al.1) (xl:=[]) (xr:=[zL m_,(eI .i64) ff,(eI .i64) bg,(eI .i64) n_]) rfl rfl (fun v=>WV hC h0e h01 v _ _ _ _ _ _ h5) 38).or ((ziT zt 32 40 1 (a8.map (eI .i64)) true (!a8.isEmpty) (by kernel_rfl) (nlB true (eI .i64) a8)).or X0))) hC .normal (vF m_ n_ ah al.2 dp) (Z2++[Hq c3]) fun st0 h0=>⟨rfl,_,h0,LeL.refl _⟩
     ·rcases t6 with⟨d9,dp⟩|z
      ·dsimp only at ae
       exact XY (by kernel_rfl) (ck _ [(1,.own (.box (zL m_))),(3,.own (.box (.box (xO 64 (xO 64 (eNl 1 (eI .i64))) d9)))),(4,.own (.box (I n_))),(5,.own (.box (eOs 4 false (zU (eI .i64) (eI .i64) (eNl 1 (eI .i64)) eB) dp)))] (d9,dp) ae (show Own.canon [1,3,4,5] _=ofL _ by kernel_rfl) inferInstance)
      ·cases z
  ·obtain rfl:=za ae
   obtain rfl:=hl1;exact yB X0 hC ar ip aa (Z0++[Hq c0])
def QG:Code:=(Tryz.f103.body).getD .skip
def wV:zP:=spF (α:=List Int) (ρ:=List Int) 103 (fun x=>[F6_ x]) (fun r=>F5_ r) (fun x=>yG x) [] (Vr)
theorem QV (hC:zx Tryz.prog ctr):wV.Ok Tryz.prog:=by
 refine zy ?_;rintro s_ r0 aa;try unfold yG at aa;refine yO true [(2,none)] QG 8 Tryz.func103 fun E hE=>?_;refine zds rfl 0 (sz:=1) (t:=false) (es:=s_.map (eI .i64)) (by kernel_rfl) fun bf hv0 hn=>?_
 rcases hn with⟨hn0,he0⟩|hn0
 ·obtain⟨_,aa⟩:=gdE aa
  rw [show s_=[] from List.map_eq_nil_iff.1 he0]at aa;obtain rfl:=za aa;exact yEx ((zmI zt 4 40 (by kernel_rfl) hn0).or ((xMv Tryz.prog 3 0 bf hv0).or X0)) hC hE [Hn (rfl:some bf=some bf),Hn (⟨rfl,rfl⟩:T.d (.atom bf)=T.d (.atom bf)/\T.d (.atom (.slice none 0 0))=T.d (.atom (.slice none 0 0))),qT] (eOs 1 true (eI .i64) []) (show LeV (eOs 1 true (eI .i64) []) (eOs 1 false (eI .i64) ([]:List Int)) from inferInstance)
 ·obtain⟨g0,aa⟩:=gdE aa
  obtain rfl:=za aa;exact yE ((zmI zt 4 40 (by kernel_rfl) hn0).or ((xMv Tryz.prog 3 0 bf hv0).or X0)) hC hE [Hn (rfl:some bf=some bf),Hn (⟨rfl,rfl⟩:T.d (.atom bf)=T.d (.atom bf)/\T.d (.atom (.slice none 0 0))=T.d (.atom (.slice none 0 0))),qF,Hn (dM (eI .i64) s_),Hn (aL (eI .i64) (eI .i64) g0),Hl (aM0 (eI .i64) s_)]
def z1i:Code:=(Tryz.f72.body).getD .skip
def vS:zP:=spF (α:=z6×Int×Int) (ρ:=List Int×Bool×Int) 72 (fun x=>[zL x.1,(eI .i64) x.2.1,(eI .i64) x.2.2]) (fun r=>.tup [F2_ r.1,eB r.2.1,(eI .i64) r.2.2]) (fun x=>uw x.1 x.2.1 x.2.2) [] (zaG)
theorem z1S (hC:zx Tryz.prog ctr)(h0D:ctr.Has V2)(h1p:ctr.Has ZX)(h0s:ctr.Has wV)(h01:ctr.Has yH):vS.Ok Tryz.prog:=by
 refine zy ?_;rintro⟨m_,s_,t_⟩ r0 aa;try unfold uw at aa;refine yO false [(6,none),(7,none),(8,none)] z1i 33 Tryz.func72 fun E hE=>?_;obtain⟨r_,h0,aa⟩:=zc aa
 let Z0:List HO:=[Hg (z3H h0D),Hm (shM (eI .i64) (eI .i64) ([s_,t_])),Hs (z3I h0D (x:=(m_,[s_,t_])) h0 (loC zL m_ <| loC F2_ ([s_,t_]:List Int) <| loN))];rcases zG aa with⟨c0,aa⟩|⟨c0,aa⟩
 ·obtain rfl:=za aa
  exact yEx X0 hC hE (Z0++[Hq c0,Hm (shM (eI .i64) (eI .i64) [])]) (.tup [eSl 1 true (eI .i64) [],B false,I r_]) (show LeV (.tup [eSl 1 true (eI .i64) [],B false,I r_]) (.tup [eSl 1 true (eI .i64) ([]:List Int),B false,I r_]) from inferInstance)
 ·obtain⟨ah,h1,aa⟩:=zc aa
  obtain⟨cell,h2,aa⟩:=zc aa;obtain⟨a8,h3,aa⟩:=zc aa;obtain⟨al,h4,aa⟩:=zc aa;obtain⟨az,h5,aa⟩:=zc aa;obtain rfl:=za aa;exact yE ((xLs zt 26 (eNl 1 (eI .i64) a8) (eSl 1 false (eI .i64) a8) inferInstance).or X0) hC hE (Z0++[Hq c0,Hc h1p (x:=m_) h1 (loC zL m_ <| loN),Hn (⟨QS (by kernel_rfl) ah (i0 h2),(iL (xO 64 (eNl 1 (eI .i64))) h2).2⟩:Xc yu 154 ((ah.l).map (xO 64 (eNl 1 (eI .i64)))) s_=true/\s_.toNat<((ah.l).map (xO 64 (eNl 1 (eI .i64)))).length),Hh (.op 4),Hh (.f),Hs (iM (xO 64 (eNl 1 (eI .i64))) h2),Hn (⟨QS (by kernel_rfl) cell (i0 h3),(iL (eNl 1 (eI .i64)) h3).2⟩:Xc yu 125 ((cell.l).map (eNl 1 (eI .i64))) t_=true/\t_.toNat<((cell.l).map (eNl 1 (eI .i64))).length),Hh (.op 0),Hh (.f),Hs (iM (xO 64 (eNl 1 (eI .i64))) h2),Hh (.f),Hs (iM (eNl 1 (eI .i64)) h3),Hn (rfl:T.d (eNl 1 (eI .i64) a8)=T.d (eNl 1 (eI .i64) a8)),Hc h0s (x:=a8) h4 (loC F6_ a8 <| loN),Hg (z3H h01),Hm (shM (eI .i64) (eI .i64) al),Hs (z3I h01 (x:=al) h5 (loC F6_ al <| loN)),Hm (shM (eI .i64) (eI .i64) al),Ha (lnM (eI .i64) az)])
def z3e:Code:=(Tryz.f136.body).getD .skip
def W4:zP:=spF (α:=Int×Int) (ρ:=Bool) 136 (fun x=>[(eI .i64) x.1,(eSp (eI .i64)) x.2]) (fun r=>eB r) (fun x=>Wv x.1 x.2) [] (Qh)
theorem z3P (hC:zx Tryz.prog ctr):W4.Ok Tryz.prog:=by
 refine zy ?_;rintro⟨c_,x1⟩ r0 aa;try unfold Wv at aa;refine yO true [(3,none)] z3e 11 Tryz.func136 fun E hE=>?_;rcases zG aa with⟨c0,aa⟩|⟨c0,aa⟩
 ·obtain rfl:=za aa
  exact yE X0 hC hE (rpN 4 (Hq c0) [])
 ·obtain rfl:=za aa
  exact yE X0 hC hE (rpN 4 (Hq c0) [])
def vB:Code:=(Tryz.f149.body).getD .skip
def ve:zP:=spF (α:=List Int×Int) (ρ:=Int) 149 (fun x=>[F6_ x.1,(KD 136 (eSp (eI .i64))) x.2]) (fun r=>(eI .i64) r) (fun x=>wC x.1 x.2) [] (by
 rintro⟨a0,a1⟩ ⟨b0,b1⟩ h;have e0:=Yc.inj (f:=F6_) _ _ (List.cons.inj h).1;replace h:=(List.cons.inj h).2;have e1:=Yc.inj (f:=(KD 136 (eSp (eI .i64)))) _ _ (List.cons.inj h).1;subst e0 e1;rfl)
abbrev W0:List (Nat×T):=[]
abbrev XZ (s_:List Int)(f_:Int)(x8:Int):List (Nat×T):=[(0,.d (eSl 1 false (eI .i64) s_)),(1,.d (.fn 136 [.sptr (I f_)])),(7,.d (I ((s_.length:Nat):Int))),(8,.d (I x8))]
theorem VQ (hC:zx Tryz.prog ctr)(h1q:ctr.Has W4):ve.Ok Tryz.prog:=by
 refine zy ?_;rintro⟨s_,f_⟩ r0 aa;try unfold wC at aa;refine yO true [(4,none)] vB 19 Tryz.func149 fun E hE=>?_;refine yJ X0 hC vB [1] [] [] (fun z:Unit=>vn=some r0) (fun z=>W0) [(0,.d (eSl 1 false (eI .i64) s_)),(1,.d (.fn 136 [.sptr (I f_)]))] [Hh (.cut 1)] ?_ fun J1 ar=>?_
 ·rintro⟨⟩ aa
  unfold vn at aa;obtain rfl:=za aa;exact yE X0 hC hE []
 ·obtain⟨t2,ht2,aa⟩:=zc aa
  refine yL X0 hC vB [1,2,1,0] [J1] (fun s=>yl s_ f_ s) (fun x=>XZ s_ f_ x) 0 ht2  [Ha (lnM (eI .i64) s_)] ?_;rintro x8 m2 av ae hl1 J2 ax;try unfold yl at ae;rcases zG ae with⟨c0,ae⟩|⟨c0,ae⟩
  ·obtain⟨da,h0,ae⟩:=zc ae
   obtain⟨r_,h1,ae⟩:=zc ae
   let Z0:List HO:=[Hq c0,Hi (eI .i64) h0,Hc h1q (x:=(da,f_)) h1 (loC (eI .i64) da <| loC (eSp (eI .i64)) f_ <| loN)];rcases zG ae with⟨c1,ae⟩|⟨c1,ae⟩
   ·obtain rfl:=za ae
    obtain rfl:=hl1;obtain rfl:=za aa;exact yE X0 hC hE (Z0++[Hq c1])
   ·obtain rfl:=za ae
    exact yB X0 hC ax (w64 (x8+1)) hl1 (Z0++[Hq c1])
  ·obtain rfl:=za ae
   obtain rfl:=hl1;exact yB X0 hC ar () aa [Hq c0]
def XW:Code:=(Tryz.f130.body).getD .skip
def ws:zP:=spF (α:=List Int×Int) (ρ:=Bool) 130 (fun x=>[F6_ x.1,(KD 136 (eSp (eI .i64))) x.2]) (fun r=>eB r) (fun x=>xR x.1 x.2) [] (by
 rintro⟨a0,a1⟩ ⟨b0,b1⟩ h;have e0:=Yc.inj (f:=F6_) _ _ (List.cons.inj h).1;replace h:=(List.cons.inj h).2;have e1:=Yc.inj (f:=(KD 136 (eSp (eI .i64)))) _ _ (List.cons.inj h).1;subst e0 e1;rfl)
theorem W2 (hC:zx Tryz.prog ctr)(h1r:ctr.Has ve):ws.Ok Tryz.prog:=by
 refine zy ?_;rintro⟨s_,f_⟩ r0 aa;try unfold xR at aa;refine yO true [(4,none)] XW 9 Tryz.func130 fun E hE=>?_;obtain⟨r_,h0,aa⟩:=zc aa;obtain rfl:=za aa;exact yE X0 hC hE [Hc h1r (x:=(s_,f_)) h0 (loC F6_ s_ <| loC (KD 136 (eSp (eI .i64))) f_ <| loN)]
def z5H:Code:=(Tryz.f113.body).getD .skip
def Xv:zP:=spF (α:=List Int×Int) (ρ:=Int) 113 (fun x=>[F6_ x.1,(eI .i64) x.2]) (fun r=>(eI .i64) r) (fun x=>jZ x.1 x.2) [] (Qh)
theorem z6o (hC:zx Tryz.prog ctr)(h1s:ctr.Has ws):Xv.Ok Tryz.prog:=by
 refine zy ?_;rintro⟨w_,inputs⟩ r0 aa;try unfold jZ at aa;refine yO true [(4,none)] z5H 19 Tryz.func113 fun E hE=>?_;rcases zG aa with⟨c0,aa⟩|⟨c0,aa⟩
 ·obtain rfl:=za aa
  exact yE X0 hC hE (rpN 4 (Hq c0) [qT])
 ·let Z0:List HO:=[Hq c0,Hq c0,Ha (lnM (eI .i64) w_),Hq c0,Hq c0]
  rcases zG aa with⟨c1,aa⟩|⟨c1,aa⟩
  ·obtain rfl:=za aa
   exact yE X0 hC hE (Z0++[Hq c1])
  ·rcases zG aa with⟨c2,aa⟩|⟨c2,aa⟩
   ·obtain rfl:=za aa
    exact yE X0 hC hE (Z0++(Hq c1::(rpN 4 (Hq c2) [qT])))
   ·obtain⟨r_,h0,aa⟩:=zc aa
    let Z1:List HO:=(Z0++[Hq c1,Hq c2,Hq c2,Hq c2,Hc h1s (x:=(w_,inputs)) h0 (loC F6_ w_ <| loC (KD 136 (eSp (eI .i64))) inputs <| loN),Hq c2]);rcases zG aa with⟨c3,aa⟩|⟨c3,aa⟩
    ·obtain rfl:=za aa
     exact yE X0 hC hE (Z1++[Hq c3])
    ·obtain rfl:=za aa
     exact yE X0 hC hE (Z1++[Hq c3])
def UV:Code:=(Tryz.f105.body).getD .skip
def Xx:zP:=spF (α:=List (List Int)×Int) (ρ:=Int) 105 (fun x=>[w8 x.1,(eI .i64) x.2]) (fun r=>(eI .i64) r) (fun x=>Xg x.1 x.2) [] (Qh)
abbrev z2s:List (Nat×T):=[]
abbrev z2r (l_:List (List Int))(inputs:Int)(j6:Int):List (Nat×T):=[(1,.d (I inputs)),(17,.d (eSl 1 false F6_ l_)),(18,.d (I ((l_.length:Nat):Int))),(19,.d (I j6))]
theorem z6q (hC:zx Tryz.prog ctr)(h0t:ctr.Has Xv):Xx.Ok Tryz.prog:=by
 refine zy ?_;rintro⟨l_,inputs⟩ r0 aa;try unfold Xg at aa;refine yO true [(4,none)] UV 30 Tryz.func105 fun E hE=>?_;rcases zG aa with⟨c0,aa⟩|⟨c0,aa⟩
 ·obtain rfl:=za aa
  exact yE X0 hC hE (rpN 4 (Hq c0) [qT])
 ·let Z0:List HO:=[Hq c0,Hq c0,Ha (lnM F6_ l_),Hq c0,Hq c0]
  rcases zG aa with⟨c1,aa⟩|⟨c1,aa⟩
  ·obtain rfl:=za aa
   exact yE X0 hC hE (Z0++[Hq c1])
  ·rcases zG aa with⟨c2,aa⟩|⟨c2,aa⟩
   ·obtain rfl:=za aa
    exact yE X0 hC hE (Z0++[Hq c1,Hq c2])
   ·refine yJ X0 hC UV [1,1,1] [] [] (fun z:Unit=>UH=some r0) (fun z=>z2s) [(0,.d (eSl 1 false F6_ l_)),(1,.d (I inputs))] (Z0++[Hq c1,Hq c2,Hh (.cut 0)]) ?_ fun J1 ar=>?_
    ·rintro⟨⟩ aa
     unfold UH at aa;obtain rfl:=za aa;exact yE X0 hC hE []
    ·obtain⟨t2,ht2,aa⟩:=zc aa
     refine yL X0 hC UV [1,1,1,2,1,0] [J1] (fun s=>qR l_ inputs s) (fun x=>z2r l_ inputs x) 0 ht2  [Ha (lnM F6_ l_)] ?_;rintro j6 m2 av ae hl1 J2 ax;try unfold qR at ae;rcases zG ae with⟨c3,ae⟩|⟨c3,ae⟩
     ·obtain⟨bw,h0,ae⟩:=zc ae
      obtain⟨r_,h1,ae⟩:=zc ae
      let Z1:List HO:=[Hq c3,Hi F6_ h0,Hc h0t (x:=(bw,inputs)) h1 (loC F6_ bw <| loC (eI .i64) inputs <| loN)];rcases zG ae with⟨c4,ae⟩|⟨c4,ae⟩
      ·obtain rfl:=za ae
       obtain rfl:=hl1;obtain rfl:=za aa;exact yE X0 hC hE (Z1++[Hq c4])
      ·obtain rfl:=za ae
       exact yB X0 hC ax (w64 (j6+1)) hl1 (Z1++[Hq c4])
     ·obtain rfl:=za ae
      obtain rfl:=hl1;exact yB X0 hC ar () aa [Hq c3]
def Qb:Code:=(Tryz.f117.body).getD .skip
def uB:zP:=spF (α:=List (List Int)) (ρ:=List (List Int)) 117 (fun x=>[w8 x]) (fun r=>ziE r) (fun x=>vV x) [] (Vr)
theorem Qk (hC:zx Tryz.prog ctr):uB.Ok Tryz.prog:=by
 refine zy ?_;rintro s_ r0 aa;try unfold vV at aa;refine yO true [(2,none)] Qb 8 Tryz.func117 fun E hE=>?_;refine zds rfl 0 (sz:=1) (t:=false) (es:=s_.map F6_) (by kernel_rfl) fun bf hv0 hn=>?_
 rcases hn with⟨hn0,he0⟩|hn0
 ·obtain⟨_,aa⟩:=gdE aa
  rw [show s_=[] from List.map_eq_nil_iff.1 he0]at aa;obtain rfl:=za aa;exact yEx ((zmI zt 4 32 (by kernel_rfl) hn0).or ((xMv Tryz.prog 3 0 bf hv0).or X0)) hC hE [Hn (rfl:some bf=some bf),Hn (⟨rfl,rfl⟩:T.d (.atom bf)=T.d (.atom bf)/\T.d (.atom (.slice none 0 0))=T.d (.atom (.slice none 0 0))),qT] (eOs 1 true F6_ []) (show LeV (eOs 1 true F6_ []) (eOs 1 false F6_ ([]:List (List Int))) from inferInstance)
 ·obtain⟨g0,aa⟩:=gdE aa
  obtain rfl:=za aa;exact yE ((zmI zt 4 32 (by kernel_rfl) hn0).or ((xMv Tryz.prog 3 0 bf hv0).or X0)) hC hE [Hn (rfl:some bf=some bf),Hn (⟨rfl,rfl⟩:T.d (.atom bf)=T.d (.atom bf)/\T.d (.atom (.slice none 0 0))=T.d (.atom (.slice none 0 0))),qF,Hn (dM F6_ s_),Hn (aL F6_ F6_ g0),Hl (aM0 F6_ s_)]
def z3j:Code:=(Tryz.f163.body).getD .skip
def Wc:zP:=spF (α:=Int) (ρ:=Bool) 163 (fun x=>[(eI .i64) x]) (fun r=>eB r) (fun x=>YX x) [] (Vr)
theorem z3Z (hC:zx Tryz.prog ctr):Wc.Ok Tryz.prog:=by
 refine zy ?_;rintro x_ r0 aa;try unfold YX at aa;refine yO true [(2,none)] z3j 6 Tryz.func163 fun E hE=>?_;obtain rfl:=za aa;exact yE X0 hC hE []
def z1k:Code:=(Tryz.f141.body).getD .skip
def jG:zP:=spF (α:=Int×Int) (ρ:=Int) 141 (fun x=>[(eI .i64) x.1,(eI .i64) x.2]) (fun r=>(eI .i64) r) (fun x=>uT x.1 x.2) [] (Qh)
theorem z20 (hC:zx Tryz.prog ctr)(h0E:ctr.Has Wc):jG.Ok Tryz.prog:=by
 refine zy ?_;rintro⟨x_,y_⟩ r0 aa;try unfold uT at aa;refine yO true [(4,none)] z1k 20 Tryz.func141 fun E hE=>?_;obtain⟨r_,h0,aa⟩:=zc aa;obtain⟨ah,h1,aa⟩:=zc aa
 let Z0:List HO:=[Hc h0E (x:=x_) h0 (loC (eI .i64) x_ <| loN),Hc h0E (x:=y_) h1 (loC (eI .i64) y_ <| loN)];rcases zG aa with⟨c0,aa⟩|⟨c0,aa⟩
 ·rcases zG aa with⟨c1,aa⟩|⟨c1,aa⟩
  ·obtain rfl:=za aa
   exact yE X0 hC hE (Z0++[Hq c0,Hq c1])
  ·obtain rfl:=za aa
   exact yE X0 hC hE (Z0++[Hq c0,Hq c1])
 ·rcases zG aa with⟨c2,aa⟩|⟨c2,aa⟩
  ·obtain rfl:=za aa
   exact yE X0 hC hE (Z0++[Hq c0,Hq c2])
  ·rcases zG aa with⟨c3,aa⟩|⟨c3,aa⟩
   ·obtain rfl:=za aa
    exact yE X0 hC hE (Z0++[Hq c0,Hq c2,Hq c3])
   ·rcases zG aa with⟨c4,aa⟩|⟨c4,aa⟩
    ·obtain rfl:=za aa
     exact yE X0 hC hE (Z0++[Hq c0,Hq c2,Hq c3,Hq c4])
    ·obtain rfl:=za aa
     exact yE X0 hC hE (Z0++[Hq c0,Hq c2,Hq c3,Hq c4])
def um:Code:=(Tryz.f142.body).getD .skip
def ug:zP:=spF (α:=List Int×List Int) (ρ:=Int) 142 (fun x=>[F6_ x.1,F6_ x.2]) (fun r=>(eI .i64) r) (fun x=>w9 x.1 x.2) [] (Qh)
abbrev WO (s1:List Int)(s2:List Int):List (Nat×T):=[(0,.d (eSl 1 false (eI .i64) s1)),(1,.d (eSl 1 false (eI .i64) s2))]
abbrev WN (s1:List Int)(s2:List Int)(ep:Int):List (Nat×T):=[(0,.d (eSl 1 false (eI .i64) s1)),(1,.d (eSl 1 false (eI .i64) s2)),(9,.d (eSl 1 false (eI .i64) s1)),(10,.d (I ((s1.length:Nat):Int))),(11,.d (I ep))]
theorem UY (hC:zx Tryz.prog ctr)(h0u:ctr.Has jG):ug.Ok Tryz.prog:=by
 refine zy ?_;rintro⟨s1,s2⟩ r0 aa;try unfold w9 at aa;refine yO true [(4,none)] um 36 Tryz.func142 fun E hE=>?_;refine yJ X0 hC um [1] [] [0,1] (fun z:Unit=>wn s1 s2=some r0) (fun z=>WO s1 s2) [(0,.d (eSl 1 false (eI .i64) s1)),(1,.d (eSl 1 false (eI .i64) s2))] [Hh (.cut 1)] ?_ fun J1 ar=>?_
 ·rintro⟨⟩ aa
  unfold wn at aa
  let Z0:List HO:=[Ha (lnM (eI .i64) s1),Ha (lnM (eI .i64) s2)];rcases zG aa with⟨c0,aa⟩|⟨c0,aa⟩
  ·obtain rfl:=za aa
   exact yE X0 hC hE (Z0++[Hq c0])
  ·obtain rfl:=za aa
   exact yE X0 hC hE (Z0++[Hq c0])
 ·obtain⟨t2,ht2,aa⟩:=zc aa
  refine yL X0 hC um [1,2,1,0] [J1] (fun s=>yD s1 s2 s) (fun x=>WN s1 s2 x) 0 ht2  [Ha (lnM (eI .i64) s1)] ?_;rintro ep m2 av ae hl1 J2 ax;try unfold yD at ae;rcases zG ae with⟨c1,ae⟩|⟨c1,ae⟩
  ·obtain⟨fw,h0,ae⟩:=zc ae
   let Z1:List HO:=[Hq c1,Hi (eI .i64) h0,Ha (lnM (eI .i64) s2)];rcases zG ae with⟨c2,ae⟩|⟨c2,ae⟩
   ·obtain rfl:=za ae
    obtain rfl:=hl1;obtain rfl:=za aa;exact yE X0 hC hE (Z1++[Hq c2])
   ·obtain⟨dx,h1,ae⟩:=zc ae
    obtain⟨r_,h2,ae⟩:=zc ae
    let Z2:List HO:=(Z1++[Hq c2,Hi (eI .i64) h1,Hc h0u (x:=(fw,dx)) h2 (loC (eI .i64) fw <| loC (eI .i64) dx <| loN)]);rcases zG ae with⟨c3,ae⟩|⟨c3,ae⟩
    ·obtain rfl:=za ae
     obtain rfl:=hl1;obtain rfl:=za aa;exact yE X0 hC hE (Z2++[Hq c3])
    ·obtain rfl:=za ae
     exact yB X0 hC ax (w64 (ep+1)) hl1 (Z2++[Hq c3])
  ·obtain rfl:=za ae
   obtain rfl:=hl1;exact yB X0 hC ar () aa [Hq c1]
def QK:Code:=(Tryz.f140.body).getD .skip
def Qs:zP:=spF (α:=List Int) (ρ:=Int) 140 (fun x=>[F6_ x]) (fun r=>(eI .i64) r) (fun x=>Q9 x) [] (Vr)
abbrev z3A:List (Nat×T):=[(3,.d (I 0))]
abbrev z3z (vals:List Int)(x8:Int):List (Nat×T):=[(3,.d (I 0)),(6,.d (eSl 1 false (eI .i64) vals)),(7,.d (I ((vals.length:Nat):Int))),(8,.d (I x8))]
theorem z7Q (hC:zx Tryz.prog ctr):Qs.Ok Tryz.prog:=by
 refine zy ?_;rintro vals r0 aa;try unfold Q9 at aa;refine yO true [(2,none)] QK 18 Tryz.func140 fun E hE=>?_;refine yJ X0 hC QK [1,1] [] [3] (fun z:Unit=>WG=some r0) (fun z=>z3A) [(0,.d (eSl 1 false (eI .i64) vals)),(3,.d (I 0))] [Hh (.cut 2)] ?_ fun J1 ar=>?_
 ·rintro⟨⟩ aa
  unfold WG at aa;obtain rfl:=za aa;exact yE X0 hC hE []
 ·obtain⟨t2,ht2,aa⟩:=zc aa
  refine yL X0 hC QK [1,1,2,1,0] [J1] (fun s=>Zo vals s) (fun x=>z3z vals x) 0 ht2  [Ha (lnM (eI .i64) vals)] ?_;rintro x8 m2 av ae hl1 J2 ax;try unfold Zo at ae;rcases zG ae with⟨c0,ae⟩|⟨c0,ae⟩
  ·obtain⟨kh,h0,ae⟩:=zc ae
   rcases zG ae with⟨c1,ae⟩|⟨c1,ae⟩
   ·obtain rfl:=za ae
    obtain rfl:=hl1;obtain rfl:=za aa;exact yE X0 hC hE [Hq c0,Hi (eI .i64) h0,Hq c1]
   ·obtain rfl:=za ae
    exact yB X0 hC ax (w64 (x8+1)) hl1 [Hq c0,Hi (eI .i64) h0,Hq c1]
  ·obtain rfl:=za ae
   obtain rfl:=hl1;exact yB X0 hC ar () aa [Hq c0]
def z3d:Code:=(Tryz.f119.body).getD .skip
def qG:zP:=spF (α:=List Int×List Int) (ρ:=Int) 119 (fun x=>[F6_ x.1,F6_ x.2]) (fun r=>(eI .i64) r) (fun x=>xF x.1 x.2) [] (Qh)
theorem z3O (hC:zx Tryz.prog ctr)(h0u:ctr.Has jG)(h1t:ctr.Has ug)(h0F:ctr.Has Qs):qG.Ok Tryz.prog:=by
 refine zy ?_;rintro⟨a_,b_⟩ r0 aa;try unfold xF at aa;refine yO true [(4,none)] z3d 15 Tryz.func119 fun E hE=>?_;obtain⟨r_,h0,aa⟩:=zc aa;obtain⟨ah,h1,aa⟩:=zc aa;obtain⟨al,h2,aa⟩:=zc aa;obtain rfl:=za aa;exact yE X0 hC hE [Ha (lnM (eI .i64) a_),Ha (lnM (eI .i64) b_),Hc h0u (x:=(((a_.length:Nat):Int),((b_.length:Nat):Int))) h0 (loC (eI .i64) ((a_.length:Nat):Int) <| loC (eI .i64) ((b_.length:Nat):Int) <| loN),Hc h1t (x:=(a_,b_)) h1 (loC F6_ a_ <| loC F6_ b_ <| loN),Hg (z3H h0F),Hm (shM (eI .i64) (eI .i64) ([r_,ah])),Hs (z3I h0F (x:=[r_,ah]) h2 (loC F2_ ([r_,ah]:List Int) <| loN))]
def z2j:Code:=(Tryz.f121.body).getD .skip
def Xi:zP:=spF (α:=List Int×List Int) (ρ:=Bool) 121 (fun x=>[F6_ x.1,F6_ x.2]) (fun r=>eB r) (fun x=>qQ x.1 x.2) [] (Qh)
theorem z34 (hC:zx Tryz.prog ctr)(h0f:ctr.Has qG):Xi.Ok Tryz.prog:=by
 refine zy ?_;rintro⟨a_,b_⟩ r0 aa;try unfold qQ at aa;refine yO true [(4,none)] z2j 9 Tryz.func121 fun E hE=>?_;obtain⟨r_,h0,aa⟩:=zc aa;obtain rfl:=za aa;exact yE X0 hC hE [Hc h0f (x:=(a_,b_)) h0 (loC F6_ a_ <| loC F6_ b_ <| loN)]
end Go.Own
end
