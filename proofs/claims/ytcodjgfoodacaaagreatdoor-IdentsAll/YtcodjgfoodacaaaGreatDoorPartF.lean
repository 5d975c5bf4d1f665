/- -/
import Derived.Test.YtcodjgfoodacaaaGreatDoorPartE
noncomputable section
set_option linter.unusedVariables false
set_option linter.unusedSimpArgs false
namespace Go.Own
open Go.Proofs
set_option maxRecDepth 100000
set_option maxHeartbeats 8000000
def X0:XH Tryz.prog:=xB zy
theorem JF:Tryz.prog.follows .mixedOrders=true:=by kernel_rfl
section
variable {ctr:Ctr}{n:Fr}{Q:Exit->St->Prop}{c:Code}{fs:List Fm}{st:St}
theorem yE (X:XH Tryz.prog)(hC:zx Tryz.prog ctr){E:St->Prop}{r:A}{keep:Bool}{rs:List (Nat×Option Nat)}(hE:∀st x R U,zcj yo keep rs st=some (x,R,U)->LeV x r->E st)(L:List HO)(e:ziE X yo ctr n keep rs 4000 c fs st (hoH L)=some (r,hoO L):=by kernel_rfl):AWP Tryz.prog n c st (Qf Tryz.prog n fs (zbb E)):=yE6 X zy hC JF hE L e
theorem yEx (X:XH Tryz.prog)(hC:zx Tryz.prog ctr){E:St->Prop}{r:A}{keep:Bool}{rs:List (Nat×Option Nat)}(hE:∀st x R U,zcj yo keep rs st=some (x,R,U)->LeV x r->E st)(L:List HO)(x:A)(hle:LeV x r)(e:ziE X yo ctr n keep rs 4000 c fs st (hoH L)=some (x,hoO L):=by kernel_rfl):AWP Tryz.prog n c st (Qf Tryz.prog n fs (zbb E)):=zpe X zy hC JF hE L x hle e
theorem yB (X:XH Tryz.prog)(hC:zx Tryz.prog ctr){τ:Type}{J:St->Prop}{live:List Nat}{S:τ->List (Nat×T)}{Inv:τ->Prop}(hJ:∀st' l' z,Inv z->Own.canon live st'=ofL l'->LeL l' (S z)->J st')(z:τ)(hz:Inv z)(L:List HO)(e:z6g X yo ctr n live 4000 c fs st (hoH L)=some (.back J,ofL (S z),hoO L):=by kernel_rfl):AWP Tryz.prog n c st (Qf Tryz.prog n fs Q):=yB6 X zy hC JF hJ z hz L e
theorem yBx (X:XH Tryz.prog)(hC:zx Tryz.prog ctr){τ:Type}{J:St->Prop}{live:List Nat}{S:τ->List (Nat×T)}{Inv:τ->Prop}(hJ:∀st' l' z,Inv z->Own.canon live st'=ofL l'->LeL l' (S z)->J st')(z:τ)(hz:Inv z)(l:List (Nat×T))(hl:LeL l (S z))(L:List HO)(e:z6g X yo ctr n live 4000 c fs st (hoH L)=some (.back J,ofL l,hoO L):=by kernel_rfl):AWP Tryz.prog n c st (Qf Tryz.prog n fs Q):=zpf X zy hC JF hJ z hz l hl L e
theorem yA (X:XH Tryz.prog)(hC:zx Tryz.prog ctr)(bd:Code)(path:List Nat)(Js:List (St->Prop))(l:List (Nat×T))(L:List HO)(h:AWP Tryz.prog n (sub path bd) (ofL l) (Qf Tryz.prog n (frs path Js bd []) Q))(e:z6g X yo ctr n (z0h l) 4000 c fs st (hoH L)=some (.at (sub path bd) (frs path Js bd []),ofL l,hoO L):=by kernel_rfl):AWP Tryz.prog n c st (Qf Tryz.prog n fs Q):=yA6 X zy hC JF bd path Js l L e h
theorem yAt (X:XH Tryz.prog)(hC:zx Tryz.prog ctr)(c':Code)(fs':List Fm)(l:List (Nat×T))(L:List HO)(h:∀st0,Own.canon (z0h l) st0=ofL l->AWP Tryz.prog n c' st0 (Qf Tryz.prog n fs' Q))(e:z6g X yo ctr n (z0h l) 4000 c fs st (hoH L)=some (.at c' fs',ofL l,hoO L):=by kernel_rfl):AWP Tryz.prog n c st (Qf Tryz.prog n fs Q):=zpg X zy hC JF c' fs' l L e h
theorem yLx (X:XH Tryz.prog)(hC:zx Tryz.prog ctr)(bd:Code)(path:List Nat)(Js:List (St->Prop)){σ τ:Type}(f:σ->Option (LR σ τ))(S:σ->List (Nat×T))(x0:σ){t:τ}(ht:loop f x0=some t)(l:List (Nat×T))(hl:LeL l (S x0))(L:List HO)(round:∀x m lr,f x=some lr->zmv f m t lr->∀J:St->Prop,(∀st' l' x',z1k f m x'=some t->Own.canon (z0h l) st'=ofL l'->LeL l' (S x')->J st')->AWP Tryz.prog n (sub (path++[0]) bd) (ofL (S x)) (Qf Tryz.prog n (.pre J::frs path Js bd []) Q))(e:z6g X yo ctr n (z0h l) 4000 c fs st (hoH L)=some (.at (sub path bd) (frs path Js bd []),ofL l,hoO L):=by kernel_rfl)(e2:sub path bd=.loop (sub (path++[0]) bd):=by kernel_rfl)(hk:∀x,z0h (S x)=z0h l:=by exact fun _=>rfl):AWP Tryz.prog n c st (Qf Tryz.prog n fs Q):=yL6 X zy hC JF bd path Js f S x0 ht l hl L hk e e2 round
theorem yL (X:XH Tryz.prog)(hC:zx Tryz.prog ctr)(bd:Code)(path:List Nat)(Js:List (St->Prop)){σ τ:Type}(f:σ->Option (LR σ τ))(S:σ->List (Nat×T))(x0:σ){t:τ}(ht:loop f x0=some t)(L:List HO)(round:∀x m lr,f x=some lr->zmv f m t lr->∀J:St->Prop,(∀st' l' x',z1k f m x'=some t->Own.canon (z0h (S x0)) st'=ofL l'->LeL l' (S x')->J st')->AWP Tryz.prog n (sub (path++[0]) bd) (ofL (S x)) (Qf Tryz.prog n (.pre J::frs path Js bd []) Q))(e:z6g X yo ctr n (z0h (S x0)) 4000 c fs st (hoH L)=some (.at (sub path bd) (frs path Js bd []),ofL (S x0),hoO L):=by kernel_rfl)(e2:sub path bd=.loop (sub (path++[0]) bd):=by kernel_rfl)(hk:∀x,z0h (S x)=z0h (S x0):=by exact fun _=>rfl):AWP Tryz.prog n c st (Qf Tryz.prog n fs Q):=yL6 X zy hC JF bd path Js f S x0 ht _ (LeL.refl _) L hk e e2 round
theorem yJ (X:XH Tryz.prog)(hC:zx Tryz.prog ctr)(bd:Code)(path:List Nat)(Js:List (St->Prop)){σ:Type}(live:List Nat)(Inv:σ->Prop)(S:σ->List (Nat×T))(l:List (Nat×T))(L:List HO)(h1:∀z,Inv z->AWP Tryz.prog n (sub (path++[1]) bd) (ofL (S z)) (Qf Tryz.prog n (frs path Js bd []) Q))(h2:∀J:St->Prop,(∀st' l' z,Inv z->Own.canon live st'=ofL l'->LeL l' (S z)->J st')->AWP Tryz.prog n (sub (path++[2]) bd) (ofL l) (Qf Tryz.prog n (.pre J::frs path Js bd []) Q))(e:z6g X yo ctr n (z0h l) 4000 c fs st (hoH L)=some (.at (sub path bd) (frs path Js bd []),ofL l,hoO L):=by kernel_rfl)(e2:sub path bd=.seq (sub (path++[2]) bd) (sub (path++[1]) bd):=by kernel_rfl):AWP Tryz.prog n c st (Qf Tryz.prog n fs Q):=yJ6 X zy hC JF bd path Js live Inv S l L e e2 h1 h2
theorem yF (X:XH Tryz.prog)(hC:zx Tryz.prog ctr)(ex:Exit)(l:List (Nat×T))(L:List HO)(h:∀st0,Own.canon (z0h l) st0=ofL l->Q ex st0)(e:z6g X yo ctr n (z0h l) 4000 c fs st (hoH L)=some (.fin ex,ofL l,hoO L):=by kernel_rfl):AWP Tryz.prog n c st (Qf Tryz.prog n fs Q):=yF6 X zy hC JF ex l L e h
theorem yO {k:Nat}{fn:Func}{r:A}{ls:List A}(keep:Bool)(rs:List (Nat×Option Nat))(body:Code)(nt:Nat)(hf:Tryz.prog.funcs[k]?=some fn)(h:∀E:St->Prop,(∀st x R U,zcj yo keep rs st=some (x,R,U)->LeV x r->E st)->AWP Tryz.prog ⟨nt,[]⟩ body (ofL (zbh 0 ls)) (Qf Tryz.prog ⟨nt,[]⟩ [] (zbb E)))(hb:fn.body=some body:=by kernel_rfl)(hn:nt=fn.ntmps:=by exact rfl)(hr:fn.results=(rs.map z88).toArray:=by exact rfl)(hnm:(fn.name == "runtime.NumGoroutine")=false:=by exact rfl)(ha:Nat.ble ls.length nt=true:=by kernel_rfl):Ur Tryz.prog k ls r:=yO6 zy keep rs body nt hf hb hn hr hnm ha h
end
theorem z8E:zfS Tryz.prog 188 193 3 (z4Q [.i64,.i64,.i64,.i64,.i64,.i64,.i64,.i64,.i64,.i64,.i64,.i64,.i64,.i64,.i64,.i64,.i64,.i64,.i64,.i64,.i64,.i64,.i64,.i64,.i64,.i64,.i64,.i64,.i64,.i64,.i64,.i64,.i64]) (.atom (.int .i64 0)):=zeY Tryz.underlying188 _ Tryz.underlying193 (Go.Ex.zcV.eqn rfl) (za4.eqn rfl) rfl ⟨.int .i64 0,fun w=>zdL (f:=Tryz.t3) (by kernel_rfl) rfl w,fun S=>uk.2 ⟨rfl,rfl⟩⟩ rfl
theorem zhU:zaX Tryz.prog 67 0 3 0:=zd7 Tryz.underlying67 _ rfl rfl rfl
theorem zjr:zij Tryz.prog 118 1 false:=zet zy (t:=40) Tryz.so118 rfl rfl (by kernel_rfl) (by decide)
def z5j:Code:=(Tryz.f69.body).getD .skip
def V4:zJ:=spF (α:=List Int×Int) (ρ:=Int) 69 (fun x=>[F4_ x.1,(eI .i64) x.2]) (fun r=>(eI .i64) r) (fun x=>ZW x.1 x.2) [] (VO)
theorem z5T {ctr:Ctr}(hC:zx Tryz.prog ctr):V4.Ok Tryz.prog:=by
 refine zw ?_;rintro⟨l_,k_⟩ r0 aa;try unfold ZW at aa;refine yO true [(4,none)] z5j 14 Tryz.func69 fun E hE=>?_;rcases zF aa with⟨c0,aa⟩|⟨c0,aa⟩
 ·obtain ⟨bq, h0, aa⟩ := zb aa
  obtain rfl:=za aa;exact yE X0 hC hE [Ha (lnM (eI .u16) l_),Hq c0,Hi (eI .u16) h0]
 ·obtain rfl := za aa
  exact yE X0 hC hE [Ha (lnM (eI .u16) l_),Hq c0]
def y4:Code:=(Tryz.f35.body).getD .skip
def Qm:zJ:=spF (α:=zD) (ρ:=z6) 35 (fun x=>[Ke x]) (fun r=>zH r) (fun x=>UZ x) [] (Vo)
abbrev z3P (x_:zD)(gq:List (List z8)):List (Nat×T):=[(2,.own (.box (.agg [I 0,I 0,eOs 1 true yM []]))),(4,.own (.box (.agg [I (w64 (1+(w64 (Int.tmod x_.Inputs 3)))),I (w64 (1+(w64 (Int.tmod x_.Outputs 3)))),eOs 1 false qN gq])))]
abbrev z3O (x_:zD)(s_:Int)(gr:List (List z8)):List (Nat×T):=[(1,.own (.box (Ke x_))),(2,.own (.box (.agg [I 0,I 0,eOs 1 true yM []]))),(3,.d (I (w64 (1+(w64 (Int.tmod x_.States 6)))))),(4,.own (.box (.agg [I (w64 (1+(w64 (Int.tmod x_.Inputs 3)))),I (w64 (1+(w64 (Int.tmod x_.Outputs 3)))),eOs 1 false qN gr]))),(13,.d (I s_))]
abbrev z3N (x_:zD)(s_:Int)(i_:Int)(gt:List (List z8)):List (Nat×T):=[(1,.own (.box (Ke x_))),(2,.own (.box (.agg [I 0,I 0,eOs 1 true yM []]))),(3,.d (I (w64 (1+(w64 (Int.tmod x_.States 6)))))),(4,.own (.box (.agg [I (w64 (1+(w64 (Int.tmod x_.Inputs 3)))),I (w64 (1+(w64 (Int.tmod x_.Outputs 3)))),eOs 1 false qN gt]))),(13,.d (I s_)),(14,.d (I i_))]
abbrev z3K (x_:zD)(s_:Int)(cj:List (List z8))(i_:Int):List (Nat×T):=[(1,.own (.box (Ke x_))),(2,.own (.box (.agg [I 0,I 0,eOs 1 true yM []]))),(3,.d (I (w64 (1+(w64 (Int.tmod x_.States 6)))))),(4,.own (.box (.agg [I (w64 (1+(w64 (Int.tmod x_.Inputs 3)))),I (w64 (1+(w64 (Int.tmod x_.Outputs 3)))),eOs 1 false qN cj]))),(13,.d (I s_)),(14,.d (I i_))]
abbrev z3L (x_:zD)(eb:List (List z8))(s_:Int):List (Nat×T):=[(1,.own (.box (Ke x_))),(2,.own (.box (.agg [I 0,I 0,eOs 1 true yM []]))),(3,.d (I (w64 (1+(w64 (Int.tmod x_.States 6)))))),(4,.own (.box (.agg [I (w64 (1+(w64 (Int.tmod x_.Inputs 3)))),I (w64 (1+(w64 (Int.tmod x_.Outputs 3)))),eOs 1 false qN eb]))),(13,.d (I s_))]
abbrev z3Q (x_:zD)(gb:List (List z8)):List (Nat×T):=[(1,.own (.box (Ke x_))),(2,.own (.box (.agg [I 0,I 0,eOs 1 true yM []]))),(3,.d (I (w64 (1+(w64 (Int.tmod x_.States 6)))))),(4,.own (.box (.agg [I (w64 (1+(w64 (Int.tmod x_.Inputs 3)))),I (w64 (1+(w64 (Int.tmod x_.Outputs 3)))),eOs 1 false qN gb])))]
abbrev z3M (x_:zD)(az:Int)(gu:List (List z8)):List (Nat×T):=[(1,.own (.box (Ke x_))),(2,.own (.box (.agg [I 0,I 0,eOs 1 true yM []]))),(3,.d (I (w64 (1+(w64 (Int.tmod x_.States 6)))))),(4,.own (.box (.agg [I (w64 (1+(w64 (Int.tmod x_.Inputs 3)))),I (w64 (1+(w64 (Int.tmod x_.Outputs 3)))),eOs 1 false qN gu]))),(9,.d (I az))]
abbrev z30 (x_:zD)(ax:List (List z8))(az:Int)(k_:Int):List (Nat×T):=[(1,.own (.box (Ke x_))),(2,.own (.box (.agg [I 0,I 0,eOs 1 true yM []]))),(3,.d (I (w64 (1+(w64 (Int.tmod x_.States 6)))))),(4,.own (.box (.agg [I (w64 (1+(w64 (Int.tmod x_.Inputs 3)))),I (w64 (1+(w64 (Int.tmod x_.Outputs 3)))),eOs 1 false qN ax]))),(9,.d (I az)),(12,.d (I k_))]
abbrev z31 (x_:zD)(ax:List (List z8))(az:Int)(free:List Int):List (Nat×T):=[(1,.own (.box (Ke x_))),(2,.own (.box (.agg [I 0,I 0,eOs 1 true yM []]))),(3,.d (I (w64 (1+(w64 (Int.tmod x_.States 6)))))),(4,.own (.box (.agg [I (w64 (1+(w64 (Int.tmod x_.Inputs 3)))),I (w64 (1+(w64 (Int.tmod x_.Outputs 3)))),eOs 1 false qN ax]))),(9,.d (I az)),(10,.own (eOs 1 false (eI .i64) free))]
abbrev z2Z (x_:zD)(ax:List (List z8))(az:Int)(a8:Int)(iq:List Int):List (Nat×T):=[(1,.own (.box (Ke x_))),(2,.own (.box (.agg [I 0,I 0,eOs 1 true yM []]))),(3,.d (I (w64 (1+(w64 (Int.tmod x_.States 6)))))),(4,.own (.box (.agg [I (w64 (1+(w64 (Int.tmod x_.Inputs 3)))),I (w64 (1+(w64 (Int.tmod x_.Outputs 3)))),eOs 1 false qN ax]))),(9,.d (I az)),(10,.own (eOs 1 false (eI .i64) iq)),(11,.d (I a8))]
abbrev z2W (x_:zD)(ax:List (List z8))(az:Int)(dz:List Int)(a8:Int):List (Nat×T):=[(1,.own (.box (Ke x_))),(2,.own (.box (.agg [I 0,I 0,eOs 1 true yM []]))),(3,.d (I (w64 (1+(w64 (Int.tmod x_.States 6)))))),(4,.own (.box (.agg [I (w64 (1+(w64 (Int.tmod x_.Inputs 3)))),I (w64 (1+(w64 (Int.tmod x_.Outputs 3)))),eOs 1 false qN ax]))),(9,.d (I az)),(10,.own (eOs 1 false (eI .i64) dz)),(11,.d (I a8))]
abbrev z3J (x_:zD)(ax:List (List z8))(az:Int):List (Nat×T):=[(1,.own (.box (Ke x_))),(2,.own (.box (.agg [I 0,I 0,eOs 1 true yM []]))),(3,.d (I (w64 (1+(w64 (Int.tmod x_.States 6)))))),(4,.own (.box (.agg [I (w64 (1+(w64 (Int.tmod x_.Inputs 3)))),I (w64 (1+(w64 (Int.tmod x_.Outputs 3)))),eOs 1 false qN ax]))),(9,.d (I az))]
abbrev z3R (x_:zD)(gv:List (List z8)):List (Nat×T):=[(1,.own (.box (Ke x_))),(2,.own (.box (.agg [I 0,I 0,eOs 1 true yM []]))),(3,.d (I (w64 (1+(w64 (Int.tmod x_.States 6)))))),(4,.own (.box (.agg [I (w64 (1+(w64 (Int.tmod x_.Inputs 3)))),I (w64 (1+(w64 (Int.tmod x_.Outputs 3)))),eOs 1 false qN gv])))]
abbrev z2Y (x_:zD)(bg:Int)(ge:List (List z8)):List (Nat×T):=[(1,.own (.box (Ke x_))),(2,.own (.box (.agg [I 0,I 0,eOs 1 true yM []]))),(3,.d (I (w64 (1+(w64 (Int.tmod x_.States 6)))))),(4,.own (.box (.agg [I (w64 (1+(w64 (Int.tmod x_.Inputs 3)))),I (w64 (1+(w64 (Int.tmod x_.Outputs 3)))),eOs 1 false qN ge]))),(5,.d (I bg))]
abbrev z2X (x_:zD)(bm:List (List z8))(bg:Int)(row:List z8):List (Nat×T):=[(1,.own (.box (Ke x_))),(2,.own (.box (.agg [I 0,I 0,eOs 1 true yM []]))),(3,.d (I (w64 (1+(w64 (Int.tmod x_.States 6)))))),(4,.own (.box (.agg [I (w64 (1+(w64 (Int.tmod x_.Inputs 3)))),I (w64 (1+(w64 (Int.tmod x_.Outputs 3)))),eOs 1 false qN bm]))),(5,.d (I bg)),(6,.own (eOs 2 false F8_ row))]
abbrev z2U (x_:zD)(bm:List (List z8))(bg:Int)(bz:List z8)(iu:Int):List (Nat×T):=[(1,.own (.box (Ke x_))),(2,.own (.box (.agg [I 0,I 0,eOs 1 true yM []]))),(3,.d (I (w64 (1+(w64 (Int.tmod x_.States 6)))))),(4,.own (.box (.agg [I (w64 (1+(w64 (Int.tmod x_.Inputs 3)))),I (w64 (1+(w64 (Int.tmod x_.Outputs 3)))),eOs 1 false qN bm]))),(5,.d (I bg)),(6,.own (eOs 2 false F8_ bz)),(7,.d (I iu))]
abbrev z2V (x_:zD)(bm:List (List z8))(bg:Int):List (Nat×T):=[(1,.own (.box (Ke x_))),(2,.own (.box (.agg [I 0,I 0,eOs 1 true yM []]))),(3,.d (I (w64 (1+(w64 (Int.tmod x_.States 6)))))),(4,.own (.box (.agg [I (w64 (1+(w64 (Int.tmod x_.Inputs 3)))),I (w64 (1+(w64 (Int.tmod x_.Outputs 3)))),eOs 1 false qN bm]))),(5,.d (I bg))]
theorem z83 {ctr:Ctr}(hC:zx Tryz.prog ctr)(h0A:ctr.Has V4):Qm.Ok Tryz.prog:=by
 refine zw ?_;rintro x_ r0 aa;try unfold UZ at aa;refine yO false [(2,some 30)] y4 178 Tryz.func35 fun E hE=>?_;obtain⟨g0,aa⟩:=gdE aa;obtain⟨g1,aa⟩:=gdE aa;obtain⟨g2,aa⟩:=gdE aa;refine yJ X0 hC y4 [1,1,1] [] [1,2,3,4] (fun z:List (List z8)=>WB x_ z=some r0) (fun z=>z3R x_ z) [(1,.own (.box (Ke x_))),(2,.own (.box (.agg [I 0,I 0,eOs 1 true yM []]))),(3,.d (I (w64 (1+(w64 (Int.tmod x_.States 6)))))),(4,.own (.box (.agg [I (w64 (1+(w64 (Int.tmod x_.Inputs 3)))),I (w64 (1+(w64 (Int.tmod x_.Outputs 3)))),eOs 1 true yM []])))] [Hn g0,Hn g1,Hn g2,Hh (.cut 3)] ?_ fun J1 aq=>?_
 ·rintro gv aa
  unfold WB at aa;refine yJ X0 hC y4 [1,1,1,1] [] [1,2,3,4] (fun z:List (List z8)=>WA x_ z=some r0) (fun z=>z3Q x_ z) [(1,.own (.box (Ke x_))),(2,.own (.box (.agg [I 0,I 0,eOs 1 true yM []]))),(3,.d (I (w64 (1+(w64 (Int.tmod x_.States 6)))))),(4,.own (.box (.agg [I (w64 (1+(w64 (Int.tmod x_.Inputs 3)))),I (w64 (1+(w64 (Int.tmod x_.Outputs 3)))),eOs 1 false qN gv])))] [Hh (.cut 0)] ?_ fun J2 av=>?_
  ·rintro gb aa
   unfold WA at aa;refine yJ X0 hC y4 [1,1,1,1,1] [] [2,4] (fun z:List (List z8)=>Wz x_ z=some r0) (fun z=>z3P x_ z) [(1,.own (.box (Ke x_))),(2,.own (.box (.agg [I 0,I 0,eOs 1 true yM []]))),(3,.d (I (w64 (1+(w64 (Int.tmod x_.States 6)))))),(4,.own (.box (.agg [I (w64 (1+(w64 (Int.tmod x_.Inputs 3)))),I (w64 (1+(w64 (Int.tmod x_.Outputs 3)))),eOs 1 false qN gb])))] [Hh (.cut 0)] ?_ fun J3 bf=>?_
   ·rintro gq aa
    unfold Wz at aa;obtain rfl:=za aa;exact yE X0 hC hE [Hm (shM qN yM gq)]
   ·obtain ⟨t4, ht4, aa⟩ := zb aa
    refine yL X0 hC y4 [1,1,1,1,1,2,1,0] [J3] (fun s=>kQ x_ s.1 s.2) (fun x=>z3L x_ x.1 x.2) (gb,0) ht4  [] ?_;rintro⟨eb,s_⟩ m4 au ae hl1 J4 bw;try unfold kQ at ae;rcases zF ae with⟨c0,ae⟩|⟨c0,ae⟩
    ·refine yJ X0 hC y4 [1,1,1,1,1,2,1,0,0,1] [J3, J4] [1,2,3,4,13] (fun z : List (List z8) => Wy s_ z = some au) (fun z => z3O x_ s_ z) [(1, .own (.box (Ke x_))), (2, .own (.box (.agg [I 0, I 0, eOs 1 true yM []]))), (3, .d (I (w64 (1 + (w64 (Int.tmod x_.States 6)))))), (4, .own (.box (.agg [I (w64 (1 + (w64 (Int.tmod x_.Inputs 3)))), I (w64 (1 + (w64 (Int.tmod x_.Outputs 3)))), eOs 1 false qN eb]))), (13, .d (I s_))] [Hq c0, Hh (.cut 0)] ?_ fun J5 cd => ?_
     ·rintro gr ae
      unfold Wy at ae;obtain rfl:=za ae;exact yB X0 hC bw (gr,w64 (s_+1)) hl1 []
     ·obtain ⟨t6, i7, ae⟩ := zb ae
      refine yL X0 hC y4 [1,1,1,1,1,2,1,0,0,1,2,0,1,0] [J3,J4,J5] (fun s=>kP x_ s_ s.1 s.2) (fun x=>z3K x_ s_ x.1 x.2) (eb,0) i7  [] ?_;rintro⟨cj,i_⟩ m6 co aj hl2 J6 cu;try unfold kP at aj;rcases zF aj with⟨c1,aj⟩|⟨c1,aj⟩
      ·refine yJ X0 hC y4 [1,1,1,1,1,2,1,0,0,1,2,0,1,0,0,1] [J3, J4, J5, J6] [1,2,3,4,13,14] (fun z : List (List z8) => YB i_ z = some co) (fun z => z3N x_ s_ i_ z) [(1, .own (.box (Ke x_))), (2, .own (.box (.agg [I 0, I 0, eOs 1 true yM []]))), (3, .d (I (w64 (1 + (w64 (Int.tmod x_.States 6)))))), (4, .own (.box (.agg [I (w64 (1 + (w64 (Int.tmod x_.Inputs 3)))), I (w64 (1 + (w64 (Int.tmod x_.Outputs 3)))), eOs 1 false qN cj]))), (13, .d (I s_)), (14, .d (I i_))] [Hq c1, Hh (.cut 0)] ?_ fun J7 hJ7 => ?_
       ·rintro gt aj
        unfold YB at aj;obtain rfl:=za aj;exact yB X0 hC cu (gt,w64 (i_+1)) hl2 []
       ·obtain ⟨j6, h0, aj⟩ := zb aj
        obtain⟨ja,h1,aj⟩:=zb aj
        let Z0:List HO:=[Hn (iL qN h0),Hs (iM qN h0),Hs (iM qN h0),Hn (iL F8_ h1),Hs (iM qN h0),Hs (iM F8_ h1),Hs (iM qN h0),Hs (iM F8_ h1)];rcases zF aj with⟨c2,aj⟩|⟨c2,aj⟩
        ·obtain ⟨ez, h2, aj⟩ := zb aj
         obtain⟨r_,h3,aj⟩:=zb aj;obtain⟨g3,aj⟩:=gdE aj;obtain⟨eg,h4,aj⟩:=zb aj;exact yB X0 hC hJ7 (cj.set s_.toNat (ez.set i_.toNat (z8.mk (Int.tmod r_ (w64 (1+(w64 (Int.tmod x_.States 6))))) eg.Out))) aj (Z0++[Hq c2,Hn (iL qN h2),Hs (iM qN h2),Hc h0A (x:=(x_.Edges,w64 ((w64 (s_*(w64 (1+(w64 (Int.tmod x_.Inputs 3))))))+i_))) h3 (loC F4_ x_.Edges <| loC (eI .i64) (w64 ((w64 (s_*(w64 (1+(w64 (Int.tmod x_.Inputs 3))))))+i_)) <| loN),Hn g3,Hs (iM qN h2),Hn (iL F8_ h4),Hs (iM qN h2),Hs (iM F8_ h4),Hs (iM qN h2),Hs (iM F8_ h4),Hs (iM qN h2),Hs (iM F8_ h4),Hl (sM F8_ ez i_ (z8.mk (Int.tmod r_ (w64 (1+(w64 (Int.tmod x_.States 6))))) eg.Out)),Hl (sM qN cj s_ (ez.set i_.toNat (z8.mk (Int.tmod r_ (w64 (1+(w64 (Int.tmod x_.States 6))))) eg.Out)))])
        ·exact yB X0 hC hJ7 cj aj (Z0++[Hq c2])
      ·obtain rfl := za aj
       obtain rfl:=hl2;exact yB X0 hC cd cj ae [Hq c1]
    ·obtain rfl := za ae
     obtain rfl:=hl1;exact yB X0 hC bf eb aa [Hq c0]
  ·obtain ⟨t8, ht8, aa⟩ := zb aa
   refine yL X0 hC y4 [1,1,1,1,2,1,0] [J2] (fun s=>kO x_ s.1 s.2) (fun x=>z3J x_ x.1 x.2) (gv,1) ht8  [] ?_;rintro⟨ax,az⟩ m8 au ae hl1 J8 j7;try unfold kO at ae;rcases zF ae with⟨c3,ae⟩|⟨c3,ae⟩
   ·refine yJ X0 hC y4 [1,1,1,1,2,1,0,0,1] [J2, J8] [1,2,3,4,9] (fun z : List (List z8) => Ww az z = some au) (fun z => z3M x_ az z) [(1, .own (.box (Ke x_))), (2, .own (.box (.agg [I 0, I 0, eOs 1 true yM []]))), (3, .d (I (w64 (1 + (w64 (Int.tmod x_.States 6)))))), (4, .own (.box (.agg [I (w64 (1 + (w64 (Int.tmod x_.Inputs 3)))), I (w64 (1 + (w64 (Int.tmod x_.Outputs 3)))), eOs 1 false qN ax]))), (9, .d (I az))] [Hq c3, Hh (.cut 0)] ?_ fun J9 ku => ?_
    ·rintro gu ae
     unfold Ww at ae;obtain rfl:=za ae;exact yB X0 hC j7 (gu,w64 (az+1)) hl1 []
    ·refine yJ X0 hC y4 [1,1,1,1,2,1,0,0,1,2,0,1] [J2, J8, J9] [1,2,3,4,9,10] (fun z : List Int => Xy x_ ax az z = some au) (fun z => z31 x_ ax az z) [(1, .own (.box (Ke x_))), (2, .own (.box (.agg [I 0, I 0, eOs 1 true yM []]))), (3, .d (I (w64 (1 + (w64 (Int.tmod x_.States 6)))))), (4, .own (.box (.agg [I (w64 (1 + (w64 (Int.tmod x_.Inputs 3)))), I (w64 (1 + (w64 (Int.tmod x_.Outputs 3)))), eOs 1 false qN ax]))), (9, .d (I az)), (10, .own (eOs 1 true (eI .i64) []))] [Hh (.cut 1)] ?_ fun J10 hJ10 => ?_
     ·rintro free ae
      unfold Xy at ae;obtain⟨ip,h5,ae⟩:=zb ae;refine yJ X0 hC y4 [1,1,1,1,2,1,0,0,1,2,0,1,1,1] [J2,J8,J9] [1,2,3,4,9,12] (fun z:Int=>vZ x_ ax az z=some au) (fun z=>z30 x_ ax az z) [(1,.own (.box (Ke x_))),(2,.own (.box (.agg [I 0,I 0,eOs 1 true yM []]))),(3,.d (I (w64 (1+(w64 (Int.tmod x_.States 6)))))),(4,.own (.box (.agg [I (w64 (1+(w64 (Int.tmod x_.Inputs 3)))),I (w64 (1+(w64 (Int.tmod x_.Outputs 3)))),eOs 1 false qN ax]))),(9,.d (I az)),(10,.own (eOs 1 false (eI .i64) free)),(12,.d (I ip))] [Hn (iL (eI .i64) h5),Hs (iM (eI .i64) h5),Hh (.cut 0)] ?_ fun J11 hJ11=>?_
      ·rintro k_ ae
       unfold vZ at ae;obtain⟨g4,ae⟩:=gdE ae;obtain⟨fc,h6,ae⟩:=zb ae;obtain⟨g5,ae⟩:=gdE ae;obtain⟨eh,h7,ae⟩:=zb ae;exact yB X0 hC ku (ax.set (w64 (Int.tdiv k_ (w64 (1+(w64 (Int.tmod x_.Inputs 3)))))).toNat (fc.set (Int.tmod k_ (w64 (1+(w64 (Int.tmod x_.Inputs 3))))).toNat (z8.mk az eh.Out))) ae [Hn g4,Hn (iL qN h6),Hs (iM qN h6),Hn g5,Hs (iM qN h6),Hn (iL F8_ h7),Hs (iM qN h6),Hs (iM F8_ h7),Hs (iM qN h6),Hs (iM F8_ h7),Hs (iM qN h6),Hs (iM F8_ h7),Hl (sM F8_ fc (Int.tmod k_ (w64 (1+(w64 (Int.tmod x_.Inputs 3))))) (z8.mk az eh.Out)),Hl (sM qN ax (w64 (Int.tdiv k_ (w64 (1+(w64 (Int.tmod x_.Inputs 3)))))) (fc.set (Int.tmod k_ (w64 (1+(w64 (Int.tmod x_.Inputs 3))))).toNat (z8.mk az eh.Out)))]
      ·let Z1 : List HO := [Ha (lnM (eI .u8) x_.Tree)]
       rcases zF ae with⟨c4,ae⟩|⟨c4,ae⟩
       ·obtain ⟨ki, h8, ae⟩ := zb ae
        obtain⟨g6,ae⟩:=gdE ae;obtain⟨i8,h9,ae⟩:=zb ae;exact yB X0 hC hJ11 i8 ae (Z1++[Hq c4,Hi (eI .u8) h8,Ha (lnM (eI .i64) free),Hn g6,Hn (iL (eI .i64) h9),Hs (iM (eI .i64) h9)])
       ·exact yB X0 hC hJ11 ip ae (Z1++[Hq c4])
     ·obtain ⟨t12, ht12, ae⟩ := zb ae
      refine yLx X0 hC y4 [1,1,1,1,2,1,0,0,1,2,0,1,2,1,0] [J2,J8,J9,J10] (fun s=>qJ x_ ax az s.1 s.2) (fun x=>z2W x_ ax az x.1 x.2) (([]:List Int),0) ht12 [(1,.own (.box (Ke x_))),(2,.own (.box (.agg [I 0,I 0,eOs 1 true yM []]))),(3,.d (I (w64 (1+(w64 (Int.tmod x_.States 6)))))),(4,.own (.box (.agg [I (w64 (1+(w64 (Int.tmod x_.Inputs 3)))),I (w64 (1+(w64 (Int.tmod x_.Outputs 3)))),eOs 1 false qN ax]))),(9,.d (I az)),(10,.own (eOs 1 true (eI .i64) [])),(11,.d (I 0))] inferInstance [] ?_;rintro⟨dz,a8⟩ mi co aj hl2 mh md;try unfold qJ at aj;rcases zF aj with⟨c5,aj⟩|⟨c5,aj⟩
      ·refine yJ X0 hC y4 [1,1,1,1,2,1,0,0,1,2,0,1,2,1,0,0,1] [J2, J8, J9, J10, mh] [1,2,3,4,9,10,11] (fun z : List Int => Zm a8 z = some co) (fun z => z2Z x_ ax az a8 z) [(1, .own (.box (Ke x_))), (2, .own (.box (.agg [I 0, I 0, eOs 1 true yM []]))), (3, .d (I (w64 (1 + (w64 (Int.tmod x_.States 6)))))), (4, .own (.box (.agg [I (w64 (1 + (w64 (Int.tmod x_.Inputs 3)))), I (w64 (1 + (w64 (Int.tmod x_.Outputs 3)))), eOs 1 false qN ax]))), (9, .d (I az)), (10, .own (eOs 1 false (eI .i64) dz)), (11, .d (I a8))] [Hq c5, Hh (.cut 0)] ?_ fun J13 hJ13 => ?_
       ·rintro iq aj
        unfold Zm at aj;obtain rfl:=za aj;exact yB X0 hC md (iq,w64 (a8+1)) hl2 []
       ·obtain ⟨g7, aj⟩ := gdE aj
        obtain⟨jq,h10,aj⟩:=zb aj;obtain⟨g8,aj⟩:=gdE aj;obtain⟨ir,h11,aj⟩:=zb aj
        let Z2:List HO:=[Hn g7,Hn (iL qN h10),Hs (iM qN h10),Hn g8,Hs (iM qN h10),Hn (iL F8_ h11),Hs (iM qN h10),Hs (iM F8_ h11),Hs (iM qN h10),Hs (iM F8_ h11)];rcases zF aj with⟨c6,aj⟩|⟨c6,aj⟩
        ·obtain ⟨g9, aj⟩ := gdE aj
         exact yB X0 hC hJ13 (dz++([a8]:List Int)) aj (Z2++[Hq c6,Hq (dM (eI .i64) ([a8]:List Int)),Hn (dM (eI .i64) ([a8]:List Int)),Hn (aL (eI .i64) (eI .i64) g9),Hl (aM (eI .i64) dz ([a8]:List Int))])
        ·exact yB X0 hC hJ13 dz aj (Z2++[Hq c6])
      ·obtain rfl := za aj
       obtain rfl:=hl2;exact yB X0 hC hJ10 dz ae [Hq c5]
   ·obtain rfl := za ae
    obtain rfl:=hl1;exact yB X0 hC av ax aa [Hq c3]
 ·obtain ⟨l9, ht14, aa⟩ := zb aa
  refine yLx X0 hC y4 [1,1,1,2,1,0] [J1] (fun s=>qI x_ s.1 s.2) (fun x=>z2V x_ x.1 x.2) (([]:List (List z8)),0) ht14 [(1,.own (.box (Ke x_))),(2,.own (.box (.agg [I 0,I 0,eOs 1 true yM []]))),(3,.d (I (w64 (1+(w64 (Int.tmod x_.States 6)))))),(4,.own (.box (.agg [I (w64 (1+(w64 (Int.tmod x_.Inputs 3)))),I (w64 (1+(w64 (Int.tmod x_.Outputs 3)))),eOs 1 true qN []]))),(5,.d (I 0))] inferInstance [] ?_;rintro⟨bm,bg⟩ mj au ae hl1 l5 me;try unfold qI at ae;rcases zF ae with⟨c7,ae⟩|⟨c7,ae⟩
  ·refine yJ X0 hC y4 [1,1,1,2,1,0,0,1] [J1, l5] [1,2,3,4,5] (fun z : List (List z8) => Xx bg z = some au) (fun z => z2Y x_ bg z) [(1, .own (.box (Ke x_))), (2, .own (.box (.agg [I 0, I 0, eOs 1 true yM []]))), (3, .d (I (w64 (1 + (w64 (Int.tmod x_.States 6)))))), (4, .own (.box (.agg [I (w64 (1 + (w64 (Int.tmod x_.Inputs 3)))), I (w64 (1 + (w64 (Int.tmod x_.Outputs 3)))), eOs 1 false qN bm]))), (5, .d (I bg))] [Hq c7, Hh (.cut 0)] ?_ fun J15 hJ15 => ?_
   ·rintro ge ae
    unfold Xx at ae;obtain rfl:=za ae;exact yB X0 hC me (ge,w64 (bg+1)) hl1 []
   ·refine yJ X0 hC y4 [1,1,1,2,1,0,0,1,2,0,1] [J1, l5, J15] [1,2,3,4,5,6] (fun z : List z8 => Xw bm bg z = some au) (fun z => z2X x_ bm bg z) [(1, .own (.box (Ke x_))), (2, .own (.box (.agg [I 0, I 0, eOs 1 true yM []]))), (3, .d (I (w64 (1 + (w64 (Int.tmod x_.States 6)))))), (4, .own (.box (.agg [I (w64 (1 + (w64 (Int.tmod x_.Inputs 3)))), I (w64 (1 + (w64 (Int.tmod x_.Outputs 3)))), eOs 1 false qN bm]))), (5, .d (I bg)), (6, .own (eOs 2 true F8_ []))] [Hh (.cut 1)] ?_ fun J16 hJ16 => ?_
    ·rintro row ae
     unfold Xw at ae;obtain⟨g10,ae⟩:=gdE ae;exact yB X0 hC hJ15 (bm++([row]:List (List z8))) ae [Hq (oC qN row []),Hn (aL qN qN g10),Hl (aM qN bm ([row]:List (List z8)))]
    ·obtain ⟨t17, ht17, ae⟩ := zb ae
     refine yLx X0 hC y4 [1,1,1,2,1,0,0,1,2,0,1,2,1,0] [J1,l5,J15,J16] (fun s=>qH x_ bg s.1 s.2) (fun x=>z2U x_ bm bg x.1 x.2) (([]:List z8),0) ht17 [(1,.own (.box (Ke x_))),(2,.own (.box (.agg [I 0,I 0,eOs 1 true yM []]))),(3,.d (I (w64 (1+(w64 (Int.tmod x_.States 6)))))),(4,.own (.box (.agg [I (w64 (1+(w64 (Int.tmod x_.Inputs 3)))),I (w64 (1+(w64 (Int.tmod x_.Outputs 3)))),eOs 1 false qN bm]))),(5,.d (I bg)),(6,.own (eOs 2 true F8_ [])),(7,.d (I 0))] inferInstance [] ?_;rintro⟨bz,iu⟩ ml co aj hl2 mp mf;try unfold qH at aj;rcases zF aj with⟨c8,aj⟩|⟨c8,aj⟩
     ·obtain ⟨ah, h12, aj⟩ := zb aj
      obtain⟨g11,aj⟩:=gdE aj;obtain⟨g12,aj⟩:=gdE aj;obtain⟨g13,aj⟩:=gdE aj;obtain rfl:=za aj;exact yB X0 hC mf ((bz++([(z8.mk (-1) (Int.tmod (w64 (Int.tdiv ah (w64 (1+(w64 (Int.tmod x_.States 6)))))) (w64 (1+(w64 (Int.tmod x_.Outputs 3))))))]:List z8)),w64 (iu+1)) hl2 [Hq c8,Hc h0A (x:=(x_.Edges,w64 ((w64 (bg*(w64 (1+(w64 (Int.tmod x_.Inputs 3))))))+iu))) h12 (loC F4_ x_.Edges <| loC (eI .i64) (w64 ((w64 (bg*(w64 (1+(w64 (Int.tmod x_.Inputs 3))))))+iu)) <| loN),Hn g11,Hn g12,Hq (dM F8_ ([(z8.mk (-1) (Int.tmod (w64 (Int.tdiv ah (w64 (1+(w64 (Int.tmod x_.States 6)))))) (w64 (1+(w64 (Int.tmod x_.Outputs 3))))))]:List z8)),Hn (dM F8_ ([(z8.mk (-1) (Int.tmod (w64 (Int.tdiv ah (w64 (1+(w64 (Int.tmod x_.States 6)))))) (w64 (1+(w64 (Int.tmod x_.Outputs 3))))))]:List z8)),Hn (aL F8_ F8_ g13),Hl (aM F8_ bz ([(z8.mk (-1) (Int.tmod (w64 (Int.tdiv ah (w64 (1+(w64 (Int.tmod x_.States 6)))))) (w64 (1+(w64 (Int.tmod x_.Outputs 3))))))]:List z8))]
     ·obtain rfl := za aj
      obtain rfl:=hl2;exact yB X0 hC hJ16 bz ae [Hq c8]
  ·obtain rfl := za ae
   obtain rfl:=hl1;exact yB X0 hC aq bm aa [Hq c7]
def Xz:Code:=(Tryz.f137.body).getD .skip
def UB:zJ:=spF (α:=z6×List (List Bool)×Int×Int) (ρ:=Int) 137 (fun x=>[zH x.1,(eSl 1 false (eSl 1 false eB)) x.2.1,(eI .i64) x.2.2.1,(eI .i64) x.2.2.2]) (fun r=>(eI .i64) r) (fun x=>Ve x.1 x.2.1 x.2.2.1 x.2.2.2) [] (zoN)
abbrev z2L:List (Nat×T):=[]
abbrev z2K (m_:z6)(ar:List (List Bool))(s_:Int)(t_:Int)(i_:Int)(lp:Int)(lq:Bool)(lu:Bool)(lv:Bool)(lw:Bool)(ly:Bool):List (Nat×T):=[(1,.d (eSl 1 false (eSl 1 false eB) ar)),(2,.d (I s_)),(3,.d (I t_)),(4,.own (.box (zH m_))),(9,.d (I i_)),(41,.d (I lp)),(42,.d (B lq)),(43,.d (B lu)),(47,.d (B lv)),(48,.d (B lw)),(58,.d (B ly))]
abbrev z2J (m_:z6)(ar:List (List Bool))(s_:Int)(t_:Int)(i_:Int):List (Nat×T):=[(1,.d (eSl 1 false (eSl 1 false eB) ar)),(2,.d (I s_)),(3,.d (I t_)),(4,.own (.box (zH m_))),(9,.d (I i_))]
theorem z6R {ctr:Ctr}(hC:zx Tryz.prog ctr):UB.Ok Tryz.prog:=by
 refine zw ?_;rintro⟨m_,ar,s_,t_⟩ r0 aa;try unfold Ve at aa;refine yO true [(8,none)] Xz 60 Tryz.func137 fun E hE=>?_;refine yJ X0 hC Xz [1] [] [] (fun z:Unit=>UG=some r0) (fun z=>z2L) [(1,.d (eSl 1 false (eSl 1 false eB) ar)),(2,.d (I s_)),(3,.d (I t_)),(4,.own (.box (zH m_)))] [Hh (.cut 1)] ?_ fun J1 aq=>?_
 ·rintro ⟨⟩ aa
  unfold UG at aa;obtain rfl:=za aa;exact yE X0 hC hE []
 ·obtain ⟨t2, ht2, aa⟩ := zb aa
  refine yL X0 hC Xz [1,2,1,0] [J1] (fun s=>qD m_ ar s_ t_ s) (fun x=>z2J m_ ar s_ t_ x) 0 ht2  [] ?_;rintro i_ m2 au ae hl1 J2 av;try unfold qD at ae;rcases zF ae with⟨c0,ae⟩|⟨c0,ae⟩
  ·refine yJ X0 hC Xz [1,2,1,0,0,1] [J1, J2] [1,2,3,4,9,41,42,43,47,48,58] (fun z : Int × Bool × Bool × Bool × Bool × Bool => qE i_ z.1 z.2.1 z.2.2.1 z.2.2.2.1 z.2.2.2.2.1 z.2.2.2.2.2 = some au) (fun z => z2K m_ ar s_ t_ i_ z.1 z.2.1 z.2.2.1 z.2.2.2.1 z.2.2.2.2.1 z.2.2.2.2.2) [(1, .d (eSl 1 false (eSl 1 false eB) ar)), (2, .d (I s_)), (3, .d (I t_)), (4, .own (.box (zH m_))), (9, .d (I i_))] [Hq c0, Hh (.cut 0)] ?_ fun J3 bf => ?_
   ·rintro ⟨lp, lq, lu, lv, lw, ly⟩ ae
    unfold qE at ae;obtain rfl:=za ae;exact yB X0 hC av (w64 (i_+1)) hl1 []
   ·obtain ⟨am, h0, ae⟩ := zb ae
    obtain⟨ak,h1,ae⟩:=zb ae;obtain⟨ig,h2,ae⟩:=zb ae;obtain⟨bj,h3,ae⟩:=zb ae
    let Z0:List HO:=[Hi yM h0,Hi F8_ h1,Hi yM h2,Hi F8_ h3];rcases zF ae with⟨c1,ae⟩|⟨c1,ae⟩
    ·obtain rfl := za ae
     obtain rfl:=hl1;obtain rfl:=za aa;exact yE X0 hC hE (Z0++(rpN 8 (Hq c1) [qT]))
    ·let Z1 : List HO := (Z0 ++ (rpN 4 (Hq c1) []))
     rcases zF ae with⟨c2,ae⟩|⟨c2,ae⟩
     ·let Z2 : List HO := (Z1 ++ [Hq c2, Hq c2, Hq c2, Hq c1, Hq c2, Hq c1])
      rcases zF ae with⟨c3,ae⟩|⟨c3,ae⟩
      ·obtain ⟨dj, h4, ae⟩ := zb ae
       obtain⟨ca,h5,ae⟩:=zb ae
       let Z3:List HO:=(Z2++(rpN 4 (Hq c3) (Hi (eSl 1 false eB) h4::(rpN 4 (Hq c3) [Hi eB h5,Hq c3,Hq c1,Hq c3,Hq c1]))));rcases zF ae with⟨c4,ae⟩|⟨c4,ae⟩
       ·obtain rfl := za ae
        obtain rfl:=hl1;obtain rfl:=za aa;exact yE X0 hC hE (Z3++[Hq c4])
       ·exact yB X0 hC bf (ak.To,decide (ak.To>=0),decide (ak.To>=0),decide (bj.To>=0),decide (bj.To>=0),ca) ae (Z3++[Hq c4])
      ·exact yB X0 hC bf (ak.To,decide (ak.To>=0),decide (ak.To>=0),decide (bj.To>=0),decide (bj.To>=0),false) ae (Z2++(rpN 9 (Hq c3) [Hq c1,Hq c3,Hq c1,qF]))
     ·exact yB X0 hC bf (ak.To,decide (ak.To>=0),decide (ak.To>=0),false,false,false) ae (Z1++(Hq c2::Hq c2::Hq c2::Hq c1::Hq c2::Hq c1::(rpN 9 qF [Hq c1,qF,Hq c1,qF])))
  ·obtain rfl := za ae
   obtain rfl:=hl1;exact yB X0 hC aq () aa [Hq c0]
def xu:Code:=(Tryz.f116.body).getD .skip
def V0:zJ:=spF (α:=z6×Int) (ρ:=List (List Bool)) 116 (fun x=>[zH x.1,(eI .i64) x.2]) (fun r=>(eOs 1 false (eOs 1 true eB)) r) (fun x=>XK x.1 x.2) [] (VO)
abbrev z1O (ij:List (List Bool)):List (Nat×T):=[(6,.own (eOs 1 false (eOs 1 true eB) ij))]
abbrev z1N (m_:z6)(k_:Int)(round:Int)(gw:List (List Bool)):List (Nat×T):=[(1,.d (I k_)),(2,.own (.box (zH m_))),(5,.d (I ((m_.Rows.length:Nat):Int))),(6,.own (eOs 1 false (eOs 1 true eB) gw)),(8,.d (I round))]
abbrev z1M (m_:z6)(k_:Int)(round:Int)(next:List (List Bool)):List (Nat×T):=[(1,.d (I k_)),(2,.own (.box (zH m_))),(5,.d (I ((m_.Rows.length:Nat):Int))),(8,.d (I round)),(9,.own (eOs 1 false (eOs 1 true eB) next))]
abbrev z1L (m_:z6)(k_:Int)(a9:List (List Bool))(round:Int)(s_:Int)(iv:List (List Bool)):List (Nat×T):=[(1,.d (I k_)),(2,.own (.box (zH m_))),(5,.d (I ((m_.Rows.length:Nat):Int))),(6,.d (eSl 1 false (eSl 1 true eB) a9)),(8,.d (I round)),(9,.own (eOs 1 false (eOs 1 true eB) iv)),(10,.d (I s_))]
abbrev z1I (m_:z6)(k_:Int)(a9:List (List Bool))(round:Int)(s_:Int)(d0:List (List Bool))(t_:Int):List (Nat×T):=[(1,.d (I k_)),(2,.own (.box (zH m_))),(5,.d (I ((m_.Rows.length:Nat):Int))),(6,.d (eSl 1 false (eSl 1 true eB) a9)),(8,.d (I round)),(9,.own (eOs 1 false (eOs 1 true eB) d0)),(10,.d (I s_)),(11,.d (I t_))]
abbrev z1J (m_:z6)(k_:Int)(a9:List (List Bool))(round:Int)(fl:List (List Bool))(s_:Int):List (Nat×T):=[(1,.d (I k_)),(2,.own (.box (zH m_))),(5,.d (I ((m_.Rows.length:Nat):Int))),(6,.d (eSl 1 false (eSl 1 true eB) a9)),(8,.d (I round)),(9,.own (eOs 1 false (eOs 1 true eB) fl)),(10,.d (I s_))]
abbrev z1K (m_:z6)(k_:Int)(a9:List (List Bool))(round:Int):List (Nat×T):=[(1,.d (I k_)),(2,.own (.box (zH m_))),(5,.d (I ((m_.Rows.length:Nat):Int))),(6,.own (eOs 1 false (eOs 1 true eB) a9)),(8,.d (I round))]
abbrev z1P (m_:z6)(k_:Int)(ar:List (List Bool)):List (Nat×T):=[(1,.d (I k_)),(2,.own (.box (zH m_))),(5,.d (I ((m_.Rows.length:Nat):Int))),(6,.own (eOs 1 false (eOs 1 true eB) ar))]
abbrev z1H (m_:z6)(k_:Int)(dr:List (List Bool))(az:Int):List (Nat×T):=[(1,.d (I k_)),(2,.own (.box (zH m_))),(5,.d (I ((m_.Rows.length:Nat):Int))),(6,.own (eOs 1 false (eOs 1 true eB) dr)),(7,.d (I az))]
theorem z5P {ctr:Ctr}(hC:zx Tryz.prog ctr)(h0O:ctr.Has UB):V0.Ok Tryz.prog:=by
 refine zw ?_;rintro⟨m_,k_⟩ r0 aa;try unfold XK at aa;refine yO true [(4,none)] xu 68 Tryz.func116 fun E hE=>?_;refine yJ X0 hC xu [1,1,1] [] [1,2,5,6] (fun z:List (List Bool)=>Yq m_ k_ z=some r0) (fun z=>z1P m_ k_ z) [(1,.d (I k_)),(2,.own (.box (zH m_))),(5,.d (I ((m_.Rows.length:Nat):Int))),(6,.own (eOs 1 true (eSl 1 false eB) []))] [Ha (lnM yM m_.Rows),Hh (.cut 1)] ?_ fun J1 aq=>?_
 ·rintro ar aa
  unfold Yq at aa;refine yJ X0 hC xu [1,1,1,1] [] [6] (fun z:List (List Bool)=>Yp z=some r0) (fun z=>z1O z) [(1,.d (I k_)),(2,.own (.box (zH m_))),(5,.d (I ((m_.Rows.length:Nat):Int))),(6,.own (eOs 1 false (eOs 1 true eB) ar))] [Hh (.cut 0)] ?_ fun J2 av=>?_
  ·rintro ij aa
   unfold Yp at aa;obtain rfl:=za aa;exact yE X0 hC hE []
  ·obtain ⟨t3, ht3, aa⟩ := zb aa
   refine yL X0 hC xu [1,1,1,1,2,1,0] [J2] (fun s=>vd m_ k_ s.1 s.2) (fun x=>z1K m_ k_ x.1 x.2) (ar,0) ht3  [] ?_;rintro⟨a9,round⟩ m3 au ae hl1 J3 bf;try unfold vd at ae;rcases zF ae with⟨c0,ae⟩|⟨c0,ae⟩
   ·refine yJ X0 hC xu [1,1,1,1,2,1,0,0,1] [J2, J3] [1,2,5,6,8] (fun z : List (List Bool) => Yo round z = some au) (fun z => z1N m_ k_ round z) [(1, .d (I k_)), (2, .own (.box (zH m_))), (5, .d (I ((m_.Rows.length : Nat) : Int))), (6, .own (eOs 1 false (eOs 1 true eB) a9)), (8, .d (I round))] [Hq c0, Hh (.cut 0)] ?_ fun J4 bw => ?_
    ·rintro gw ae
     unfold Yo at ae;obtain rfl:=za ae;exact yB X0 hC bf (gw,w64 (round+1)) hl1 []
    ·refine yJ X0 hC xu [1,1,1,1,2,1,0,0,1,2,0,1] [J2, J3, J4] [1,2,5,8,9] (fun z : List (List Bool) => Yn round z = some au) (fun z => z1M m_ k_ round z) [(1, .d (I k_)), (2, .own (.box (zH m_))), (5, .d (I ((m_.Rows.length : Nat) : Int))), (6, .own (eOs 1 false (eOs 1 true eB) a9)), (8, .d (I round)), (9, .own (eOs 1 true (eSl 1 false eB) []))] [Hh (.cut 1)] ?_ fun J5 cd => ?_
     ·rintro next ae
      unfold Yn at ae;exact yB X0 hC bw next ae []
     ·obtain ⟨t6, i7, ae⟩ := zb ae
      refine yLx X0 hC xu [1,1,1,1,2,1,0,0,1,2,0,1,2,1,0] [J2,J3,J4,J5] (fun s=>vb m_ a9 s.1 s.2) (fun x=>z1J m_ k_ a9 round x.1 x.2) (([]:List (List Bool)),0) i7 [(1,.d (I k_)),(2,.own (.box (zH m_))),(5,.d (I ((m_.Rows.length:Nat):Int))),(6,.d (eSl 1 false (eSl 1 true eB) a9)),(8,.d (I round)),(9,.own (eOs 1 true (eOs 1 true eB) [])),(10,.d (I 0))] inferInstance [Hh (.n 3 [6]),Hm (shM (eOs 1 true eB) (eSl 1 true eB) a9)] ?_;rintro⟨fl,s_⟩ m6 co aj hl2 J6 cu;try unfold vb at aj;rcases zF aj with⟨c1,aj⟩|⟨c1,aj⟩
      ·refine yJ X0 hC xu [1,1,1,1,2,1,0,0,1,2,0,1,2,1,0,0,1] [J2, J3, J4, J5, J6] [1,2,5,6,8,9,10] (fun z : List (List Bool) => Ym s_ z = some co) (fun z => z1L m_ k_ a9 round s_ z) [(1, .d (I k_)), (2, .own (.box (zH m_))), (5, .d (I ((m_.Rows.length : Nat) : Int))), (6, .d (eSl 1 false (eSl 1 true eB) a9)), (8, .d (I round)), (9, .own (eOs 1 false (eOs 1 true eB) fl)), (10, .d (I s_))] [Hq c1, Hh (.cut 0)] ?_ fun J7 hJ7 => ?_
       ·rintro iv aj
        unfold Ym at aj;obtain rfl:=za aj;exact yB X0 hC cu (iv,w64 (s_+1)) hl2 []
       ·obtain ⟨g0, aj⟩ := gdE aj
        obtain⟨g1,aj⟩:=gdE aj;obtain⟨t8,ht8,aj⟩:=zb aj;refine yL X0 hC xu [1,1,1,1,2,1,0,0,1,2,0,1,2,1,0,0,1,2,0,1,1,0] [J2,J3,J4,J5,J6,J7] (fun s=>va m_ a9 s_ s.1 s.2) (fun x=>z1I m_ k_ a9 round s_ x.1 x.2) ((fl++([(List.replicate ((m_.Rows.length:Nat):Int).toNat false)]:List (List Bool))),0) ht8  [Hn (rL g0),Ha (rM 1 eB ((m_.Rows.length:Nat):Int) false),Hq (oC (eOs 1 true eB) (List.replicate ((m_.Rows.length:Nat):Int).toNat false) []),Hn (aL (eOs 1 true eB) (eOs 1 true eB) g1),Hl (aM (eOs 1 true eB) fl ([(List.replicate ((m_.Rows.length:Nat):Int).toNat false)]:List (List Bool)))] ?_;rintro⟨d0,t_⟩ m8 mb bn hl3 J8 j7;try unfold va at bn;rcases zF bn with⟨c2,bn⟩|⟨c2,bn⟩
        ·obtain ⟨dl, h0, bn⟩ := zb bn
         obtain⟨dj,h1,bn⟩:=zb bn;obtain⟨ca,h2,bn⟩:=zb bn
         let Z0:List HO:=[Hq c2,Hn (iL (eOs 1 true eB) h0),Hs (iM (eOs 1 true eB) h0),Hi (eSl 1 true eB) h1,Hi eB h2];rcases zF bn with⟨c3,bn⟩|⟨c3,bn⟩
         ·obtain ⟨kz, h3, bn⟩ := zb bn
          obtain rfl:=za bn;exact yB X0 hC j7 ((d0.set s_.toNat (dl.set t_.toNat true)),w64 (t_+1)) hl3 (Z0++(rpN 7 (Hq c3) [Hs (iM (eOs 1 true eB) h0),Hn (iL eB h3),Hs (iM (eOs 1 true eB) h0),Hs (iM eB h3),Hs (iM (eOs 1 true eB) h0),Hs (iM eB h3),Hl (sM eB dl t_ true),Hl (sM (eOs 1 true eB) d0 s_ (dl.set t_.toNat true))]))
         ·obtain ⟨r_, h4, bn⟩ := zb bn
          obtain⟨kj,h5,bn⟩:=zb bn;obtain rfl:=za bn;exact yB X0 hC j7 ((d0.set s_.toNat (dl.set t_.toNat (r_==1))),w64 (t_+1)) hl3 (Z0++(rpN 5 (Hq c3) [Hc h0O (x:=(m_,a9,s_,t_)) h4 (loC zH m_ <| loC (eSl 1 false (eSl 1 true eB)) a9 <| loC (eI .i64) s_ <| loC (eI .i64) t_ <| loN),Hq c3,Hq c3,Hs (iM (eOs 1 true eB) h0),Hn (iL eB h5),Hs (iM (eOs 1 true eB) h0),Hs (iM eB h5),Hs (iM (eOs 1 true eB) h0),Hs (iM eB h5),Hl (sM eB dl t_ (r_==1)),Hl (sM (eOs 1 true eB) d0 s_ (dl.set t_.toNat (r_==1)))]))
        ·obtain rfl := za bn
         obtain rfl:=hl3;exact yB X0 hC hJ7 d0 aj [Hq c2]
      ·obtain rfl := za aj
       obtain rfl:=hl2;exact yB X0 hC cd fl ae [Hq c1]
   ·obtain rfl := za ae
    obtain rfl:=hl1;exact yB X0 hC av a9 aa [Hq c0]
 ·obtain ⟨t9, ht9, aa⟩ := zb aa
  refine yLx X0 hC xu [1,1,1,2,1,0] [J1] (fun s=>v8 m_ s.1 s.2) (fun x=>z1H m_ k_ x.1 x.2) (([]:List (List Bool)),0) ht9 [(1,.d (I k_)),(2,.own (.box (zH m_))),(5,.d (I ((m_.Rows.length:Nat):Int))),(6,.own (eOs 1 true (eOs 1 true eB) [])),(7,.d (I 0))] inferInstance [] ?_;rintro⟨dr,az⟩ m9 au ae hl1 J9 ku;try unfold v8 at ae;rcases zF ae with⟨c4,ae⟩|⟨c4,ae⟩
  ·obtain ⟨g2, ae⟩ := gdE ae
   obtain⟨g3,ae⟩:=gdE ae;obtain rfl:=za ae;exact yB X0 hC ku ((dr++([(List.replicate ((m_.Rows.length:Nat):Int).toNat false)]:List (List Bool))),w64 (az+1)) hl1 [Hq c4,Hn (rL g2),Ha (rM 1 eB ((m_.Rows.length:Nat):Int) false),Hq (oC (eOs 1 true eB) (List.replicate ((m_.Rows.length:Nat):Int).toNat false) []),Hn (aL (eOs 1 true eB) (eOs 1 true eB) g3),Hl (aM (eOs 1 true eB) dr ([(List.replicate ((m_.Rows.length:Nat):Int).toNat false)]:List (List Bool)))]
  ·obtain rfl := za ae
   obtain rfl:=hl1;exact yB X0 hC aq dr aa [Hq c4]
def xg:Code:=(Tryz.f115.body).getD .skip
def Ya:zJ:=spF (α:=List (List Bool)) (ρ:=List Int) 115 (fun x=>[(eSl 1 false (eSl 1 false eB)) x]) (fun r=>F5_ r) (fun x=>jW x) [] (Vo)
abbrev K6 (out:List Int):List (Nat×T):=[(3,.own (eOs 1 false (eI .i64) out))]
abbrev K5 (ar:List (List Bool))(s_:Int)(ay:List Int)(cw:Int):List (Nat×T):=[(0,.d (eSl 1 false (eSl 1 false eB) ar)),(3,.own (eOs 1 false (eI .i64) ay)),(4,.d (I cw)),(5,.d (I s_))]
abbrev K3 (ar:List (List Bool))(ai:List Int)(s_:Int)(kl:Int)(iw:Int):List (Nat×T):=[(0,.d (eSl 1 false (eSl 1 false eB) ar)),(3,.own (eOs 1 false (eI .i64) ai)),(4,.d (I kl)),(5,.d (I s_)),(6,.d (I iw))]
abbrev K4 (ar:List (List Bool))(ai:List Int)(n_:Int)(s_:Int)(b_:Int):List (Nat×T):=[(0,.d (eSl 1 false (eSl 1 false eB) ar)),(3,.own (eOs 1 false (eI .i64) ai)),(4,.d (I n_)),(5,.d (I s_)),(6,.d (I b_))]
abbrev K2 (ar:List (List Bool))(ai:List Int)(n_:Int)(s_:Int)(t_:Int)(km:Int):List (Nat×T):=[(0,.d (eSl 1 false (eSl 1 false eB) ar)),(3,.own (eOs 1 false (eI .i64) ai)),(4,.d (I n_)),(5,.d (I s_)),(6,.d (I km)),(7,.d (I t_))]
abbrev K0 (ar:List (List Bool))(ai:List Int)(n_:Int)(s_:Int)(jb:Int)(t_:Int):List (Nat×T):=[(0,.d (eSl 1 false (eSl 1 false eB) ar)),(3,.own (eOs 1 false (eI .i64) ai)),(4,.d (I n_)),(5,.d (I s_)),(6,.d (I jb)),(7,.d (I t_))]
abbrev K1 (ar:List (List Bool))(ai:List Int)(n_:Int)(s_:Int):List (Nat×T):=[(0,.d (eSl 1 false (eSl 1 false eB) ar)),(3,.own (eOs 1 false (eI .i64) ai)),(4,.d (I n_)),(5,.d (I s_))]
theorem z29 {ctr:Ctr}(hC:zx Tryz.prog ctr):Ya.Ok Tryz.prog:=by
 refine zw ?_;rintro ar r0 aa;try unfold jW at aa;refine yO true [(2,none)] xg 41 Tryz.func115 fun E hE=>?_;refine yJ X0 hC xg [1,1,1] [] [3] (fun z:List Int=>Yl z=some r0) (fun z=>K6 z) [(0,.d (eSl 1 false (eSl 1 false eB) ar)),(3,.own (eOs 1 true (eI .i64) [])),(4,.d (I 0))] [Hh (.cut 3)] ?_ fun J1 aq=>?_
 ·rintro out aa
  unfold Yl at aa;obtain rfl:=za aa;exact yE X0 hC hE []
 ·obtain ⟨t2, ht2, aa⟩ := zb aa
  refine yLx X0 hC xg [1,1,1,2,1,0] [J1] (fun s=>qS ar s.1 s.2.1 s.2.2) (fun x=>K1 ar x.1 x.2.1 x.2.2) (([]:List Int),0,0) ht2 [(0,.d (eSl 1 false (eSl 1 false eB) ar)),(3,.own (eOs 1 true (eI .i64) [])),(4,.d (I 0)),(5,.d (I 0))] inferInstance [] ?_;rintro⟨ai,n_,s_⟩ m2 au ae hl1 J2 av;try unfold qS at ae
  let Z0:List HO:=[Ha (lnM (eSl 1 false eB) ar)];rcases zF ae with⟨c0,ae⟩|⟨c0,ae⟩
  ·refine yJ X0 hC xg [1,1,1,2,1,0,0,1] [J1, J2] [0,3,4,5] (fun z : List Int × Int => qV s_ z.1 z.2 = some au) (fun z => K5 ar s_ z.1 z.2) [(0, .d (eSl 1 false (eSl 1 false eB) ar)), (3, .own (eOs 1 false (eI .i64) ai)), (4, .d (I n_)), (5, .d (I s_))] (Z0 ++ [Hq c0, Hh (.cut 0)]) ?_ fun J3 bf => ?_
   ·rintro ⟨ay, cw⟩ ae
    unfold qV at ae;obtain rfl:=za ae;exact yB X0 hC av (ay,cw,w64 (s_+1)) hl1 []
   ·refine yJ X0 hC xg [1,1,1,2,1,0,0,1,2,0,1] [J1, J2, J3] [0,3,4,5,6] (fun z : Int => qU ai n_ s_ z = some au) (fun z => K4 ar ai n_ s_ z) [(0, .d (eSl 1 false (eSl 1 false eB) ar)), (3, .own (eOs 1 false (eI .i64) ai)), (4, .d (I n_)), (5, .d (I s_)), (6, .d (I (-1)))] [Hh (.cut 1)] ?_ fun J4 bw => ?_
    ·rintro b_ ae
     unfold qU at ae;refine yJ X0 hC xg [1,1,1,2,1,0,0,1,2,0,1,1] [J1,J2,J3] [0,3,4,5,6] (fun z:Int×Int=>wx ai s_ z.1 z.2=some au) (fun z=>K3 ar ai s_ z.1 z.2) [(0,.d (eSl 1 false (eSl 1 false eB) ar)),(3,.own (eOs 1 false (eI .i64) ai)),(4,.d (I n_)),(5,.d (I s_)),(6,.d (I b_))] [Hh (.cut 0)] ?_ fun J5 cd=>?_
     ·rintro ⟨kl, iw⟩ ae
      unfold wx at ae;obtain⟨g0,ae⟩:=gdE ae;exact yB X0 hC bf ((ai++([iw]:List Int)),kl) ae [Hq (dM (eI .i64) ([iw]:List Int)),Hn (dM (eI .i64) ([iw]:List Int)),Hn (aL (eI .i64) (eI .i64) g0),Hl (aM (eI .i64) ai ([iw]:List Int))]
     ·rcases zF ae with ⟨c1, ae⟩ | ⟨c1, ae⟩
      ·exact yB X0 hC cd (w64 (n_+1),n_) ae [Hq c1]
      ·exact yB X0 hC cd (n_,b_) ae [Hq c1]
    ·obtain ⟨t6, i7, ae⟩ := zb ae
     refine yL X0 hC xg [1,1,1,2,1,0,0,1,2,0,1,2,1,0] [J1,J2,J3,J4] (fun s=>vK ar ai s_ s.1 s.2) (fun x=>K0 ar ai n_ s_ x.1 x.2) ((-1),0) i7  [] ?_;rintro⟨jb,t_⟩ m6 co aj hl2 J6 cu;try unfold vK at aj;rcases zF aj with⟨c2,aj⟩|⟨c2,aj⟩
     ·refine yJ X0 hC xg [1,1,1,2,1,0,0,1,2,0,1,2,1,0,0,1] [J1, J2, J3, J4, J6] [0,3,4,5,6,7] (fun z : Int => vL t_ z = some co) (fun z => K2 ar ai n_ s_ t_ z) [(0, .d (eSl 1 false (eSl 1 false eB) ar)), (3, .own (eOs 1 false (eI .i64) ai)), (4, .d (I n_)), (5, .d (I s_)), (6, .d (I jb)), (7, .d (I t_))] [Hq c2, Hh (.cut 0)] ?_ fun J7 hJ7 => ?_
      ·rintro km aj
       unfold vL at aj;obtain rfl:=za aj;exact yB X0 hC cu (km,w64 (t_+1)) hl2 []
      ·obtain ⟨dj, h0, aj⟩ := zb aj
       obtain⟨ca,h1,aj⟩:=zb aj
       let Z1:List HO:=[Hi (eSl 1 false eB) h0,Hi eB h1];rcases zF aj with⟨c3,aj⟩|⟨c3,aj⟩
       ·obtain ⟨bp, h2, aj⟩ := zb aj
        exact yB X0 hC hJ7 bp aj (Z1++[Hq c3,Hn (iL (eI .i64) h2),Hs (iM (eI .i64) h2)])
       ·exact yB X0 hC hJ7 jb aj (Z1++[Hq c3])
     ·obtain rfl := za aj
      obtain rfl:=hl2;exact yB X0 hC bw jb ae [Hq c2]
  ·obtain rfl := za ae
   obtain rfl:=hl1;exact yB X0 hC aq ai aa (Z0++[Hq c0])
def z5g:Code:=(Tryz.f87.body).getD .skip
def WZ:zJ:=spF (α:=z6×Int) (ρ:=List Int) 87 (fun x=>[zH x.1,(eI .i64) x.2]) (fun r=>F5_ r) (fun x=>Ui x.1 x.2) [] (VO)
theorem z5O {ctr:Ctr}(hC:zx Tryz.prog ctr)(h0P:ctr.Has V0)(h0B:ctr.Has Ya):WZ.Ok Tryz.prog:=by
 refine zw ?_;rintro⟨m_,k_⟩ r0 aa;try unfold Ui at aa;refine yO true [(4,none)] z5g 9 Tryz.func87 fun E hE=>?_;obtain⟨r_,h0,aa⟩:=zb aa;obtain⟨ah,h1,aa⟩:=zb aa;obtain rfl:=za aa;exact yE X0 hC hE [Hc h0P (x:=(m_,k_)) h0 (loC zH m_ <| loC (eI .i64) k_ <| loN),Hg (z1Y h0B),Hm (shM (eOs 1 true eB) (eSl 1 true eB) r_),Hs (z1Z h0B (x:=r_) h1 (loC (eSl 1 false (eSl 1 true eB)) r_ <| loN)),Hm (shM (eOs 1 true eB) (eSl 1 true eB) r_)]
def z3u:Code:=(Tryz.f63.body).getD .skip
def Zs:zJ:=spF (α:=z6) (ρ:=List Int) 63 (fun x=>[zH x]) (fun r=>F5_ r) (fun x=>kJ x) [] (Vo)
theorem z4c {ctr:Ctr}(hC:zx Tryz.prog ctr)(h0Q:ctr.Has WZ):Zs.Ok Tryz.prog:=by
 refine zw ?_;rintro m_ r0 aa;try unfold kJ at aa;refine yO true [(2,none)] z3u 8 Tryz.func63 fun E hE=>?_;obtain⟨r_,h0,aa⟩:=zb aa;obtain rfl:=za aa;exact yE X0 hC hE [Ha (lnM yM m_.Rows),Hc h0Q (x:=(m_,((m_.Rows.length:Nat):Int))) h0 (loC zH m_ <| loC (eI .i64) ((m_.Rows.length:Nat):Int) <| loN)]
def z7z:Code:=(Tryz.f84.body).getD .skip
def Yb:zJ:=spF (α:=z6×Int×Int) (ρ:=z8) 84 (fun x=>[zH x.1,(eI .i64) x.2.1,(eI .i64) x.2.2]) (fun r=>F8_ r) (fun x=>WP x.1 x.2.1 x.2.2) [] (zbg)
theorem z7X {ctr:Ctr}(hC:zx Tryz.prog ctr):Yb.Ok Tryz.prog:=by
 refine zw ?_;rintro⟨m_,s_,i_⟩ r0 aa;try unfold WP at aa;refine yO false [(6,some 67)] z7z 18 Tryz.func84 fun E hE=>?_;rcases zF aa with⟨c0,aa⟩|⟨c0,aa⟩
 ·obtain rfl := za aa
  exact yE X0 hC hE [Hq c0]
 ·obtain ⟨am, h0, aa⟩ := zb aa
  obtain⟨ak,h1,aa⟩:=zb aa;obtain rfl:=za aa;exact yE X0 hC hE [Hq c0,Hi yM h0,Hi F8_ h1]
def z64:Code:=(Tryz.f165.body).getD .skip
def UE:zJ:=spF (α:=z6×Int×List Int) (ρ:=Int) 165 (fun x=>[zH x.1,(eI .i64) x.2.1,F6_ x.2.2]) (fun r=>(eI .i64) r) (fun x=>Qt x.1 x.2.1 x.2.2) [] (zbg)
theorem z1b:∀(x y:z6×Int×List Int),(fun x=>[zH x.1,(eI .i64) x.2.1,F6_ x.2.2]) x=(fun x=>[zH x.1,(eI .i64) x.2.1,F6_ x.2.2]) y->x=y:=zbg
def W3 (ib:z6->Int->(List Int)->Option Int):zJ:=spF (α:=z6×Int×List Int) (ρ:=Int) 165 (fun x=>[zH x.1,(eI .i64) x.2.1,F6_ x.2.2]) (fun r=>(eI .i64) r) (fun x=>ib x.1 x.2.1 x.2.2) [] (by
 intro x y h;exact(congrArg (fun(p:z6×Int×List Int)=>p) (show x=y from z1b x y h)))
theorem z4e {ctr:Ctr}(hC:zx Tryz.prog ctr)(h0b:ctr.Has Yb)(ib:z6->Int->(List Int)->Option Int)(h0R:ctr.Has (W3 ib)):(W3 (kK ib)).Ok Tryz.prog:=by
 refine zw ?_;rintro⟨m_,s_,w_⟩ r0 aa;try unfold kK at aa;refine yO true [(6,none)] z64 22 Tryz.func165 fun E hE=>?_;rcases zF aa with⟨c0,aa⟩|⟨c0,aa⟩
 ·obtain rfl := za aa
  exact yE X0 hC hE [Ha (lnM (eI .i64) w_),Hq c0]
 ·obtain ⟨fe, h0, aa⟩ := zb aa
  obtain⟨r_,h1,aa⟩:=zb aa;obtain⟨g0,aa⟩:=gdE aa;obtain⟨ah,h2,aa⟩:=zb aa;obtain rfl:=za aa;exact yE ((zpi zy zhU).or X0) hC hE [Ha (lnM (eI .i64) w_),Hq c0,Hi (eI .i64) h0,Hc h0b (x:=(m_,s_,fe)) h1 (loC zH m_ <| loC (eI .i64) s_ <| loC (eI .i64) fe <| loN),Hn (slA g0),Hn (zju (eI .i64) g0),Ha (slE 1 false (eI .i64) w_ (1:Int).toNat),Hc h0R (x:=(m_,r_.To,(w_.drop (1:Int).toNat))) h2 (loC zH m_ <| loC (eI .i64) r_.To <| loC F6_ (w_.drop (1:Int).toNat) <| loN)]
theorem z6U {ctr:Ctr}(hC:zx Tryz.prog ctr)(h0b:ctr.Has Yb):UE.Ok Tryz.prog:=by
 have H:∀n,(W3 (Yv n)).Ok Tryz.prog:=by
  intro n
  induction n with
  | zero=>exact zw fun _ _ h=>nomatch (show none=some _ from h)
  | succ n ih=>exact z4e (Ctr.add_ok hC ih) (h0b.add (by show(84:Nat)≠165;decide)) _ (Ctr.add_has _ _)
 exact zw fun x r h=>zbS (H _) h
def QJ:Code:=(Tryz.f164.body).getD .skip
def Qg:zJ:=spF (α:=List Int×Int) (ρ:=List Int) 164 (fun x=>[F6_ x.1,(eI .i64) x.2]) (fun r=>F5_ r) (fun x=>X9 x.1 x.2) [] (VO)
abbrev z3G (out:List Int):List (Nat×T):=[(5,.own (eOs 1 false (eI .i64) out))]
abbrev z3F (inputs:Int)(ai:List Int)(k_:Int):List (Nat×T):=[(1,.d (I inputs)),(5,.own (eOs 1 false (eI .i64) ai)),(6,.d (I k_))]
theorem z7V {ctr:Ctr}(hC:zx Tryz.prog ctr):Qg.Ok Tryz.prog:=by
 refine zw ?_;rintro⟨w_,inputs⟩ r0 aa;try unfold X9 at aa;refine yO true [(4,none)] QJ 37 Tryz.func164 fun E hE=>?_;obtain⟨g0,aa⟩:=gdE aa;refine yJ X0 hC QJ [1,1] [] [5] (fun z:List Int=>Ys z=some r0) (fun z=>z3G z) [(1,.d (I inputs)),(5,.own (eOs 1 false (eI .i64) w_))] [Hn (dM (eI .i64) w_),Hn (aL (eI .i64) (eI .i64) g0),Hl (aM0 (eI .i64) w_),Hh (.cut 0)] ?_ fun J1 aq=>?_
 ·rintro out aa
  unfold Ys at aa;obtain⟨g1,aa⟩:=gdE aa;obtain rfl:=za aa;exact yE X0 hC hE [Hq (dM (eI .i64) ([0]:List Int)),Hn (dM (eI .i64) ([0]:List Int)),Hn (aL (eI .i64) (eI .i64) g1),Hl (aM (eI .i64) out ([0]:List Int))]
 ·obtain ⟨t2, ht2, aa⟩ := zb aa
  refine yL X0 hC QJ [1,1,2,1,0] [J1] (fun s=>Yr inputs s.1 s.2) (fun x=>z3F inputs x.1 x.2) (w_,w64 (((w_.length:Nat):Int) - 1)) ht2  [Ha (lnM (eI .i64) w_)] ?_;rintro⟨ai,k_⟩ m2 au ae hl1 J2 av;try unfold Yr at ae;rcases zF ae with⟨c0,ae⟩|⟨c0,ae⟩
  ·obtain ⟨bp, h0, ae⟩ := zb ae
   let Z0:List HO:=[Hq c0,Hn (iL (eI .i64) h0),Hs (iM (eI .i64) h0)];rcases zF ae with⟨c1,ae⟩|⟨c1,ae⟩
   ·obtain ⟨dm, h1, ae⟩ := zb ae
    obtain⟨jr,h2,ae⟩:=zb ae;obtain rfl:=za ae;obtain rfl:=hl1;obtain rfl:=za aa;exact yE X0 hC hE (Z0++[Hq c1,Hn (iL (eI .i64) h1),Hs (iM (eI .i64) h1),Hn (iL (eI .i64) h2),Hs (iM (eI .i64) h2),Hs (iM (eI .i64) h2),Hl (sM (eI .i64) ai k_ (w64 (dm+1)))])
   ·obtain ⟨js, h3, ae⟩ := zb ae
    obtain rfl:=za ae;exact yB X0 hC av ((ai.set k_.toNat 0),w64 (k_ - 1)) hl1 (Z0++[Hq c1,Hn (iL (eI .i64) h3),Hs (iM (eI .i64) h3),Hs (iM (eI .i64) h3),Hl (sM (eI .i64) ai k_ 0)])
  ·obtain rfl := za ae
   obtain rfl:=hl1;exact yB X0 hC aq ai aa [Hq c0]
def XA:Code:=(Tryz.f143.body).getD .skip
def UC:zJ:=spF (α:=z6×Int) (ρ:=List (List Int)×List Bool) 143 (fun x=>[zH x.1,(eI .i64) x.2]) (fun r=>.tup [ziJ r.1,(eSl 1 true eB) r.2]) (fun x=>Vf x.1 x.2) [] (VO)
abbrev z2O (l_:List (List Int))(is:List Bool):List (Nat×T):=[(6,.own (eOs 1 true F6_ l_)),(7,.own (eOs 1 true eB is))]
abbrev z2N (m_:z6)(bu:Int)(w_:List Int)(fy:List (List Int))(kn:List Bool):List (Nat×T):=[(1,.d (I bu)),(2,.own (.box (zH m_))),(6,.own (eOs 1 true F6_ fy)),(7,.own (eOs 1 true eB kn)),(8,.d (eSl 1 false (eI .i64) w_))]
abbrev z2M (m_:z6)(bu:Int)(dw:List (List Int))(gf:List Bool)(w_:List Int):List (Nat×T):=[(1,.d (I bu)),(2,.own (.box (zH m_))),(6,.own (eOs 1 true F6_ dw)),(7,.own (eOs 1 true eB gf)),(8,.own (eOs 1 false (eI .i64) w_))]
def wR:XH Tryz.prog:=((Q7 zy (.inr 48) [8]).or X0)
theorem z6S {ctr:Ctr}(hC:zx Tryz.prog ctr)(h0S:ctr.Has UE)(h0T:ctr.Has Qg):UC.Ok Tryz.prog:=by
 refine zw ?_;rintro⟨m_,bu⟩ r0 aa;try unfold Vf at aa;refine yO false [(4,none),(5,none)] XA 51 Tryz.func143 fun E hE=>?_;obtain⟨g0,aa⟩:=gdE aa;obtain⟨g1,aa⟩:=gdE aa;refine yJ wR hC XA [1,1,1] [] [6,7] (fun z:List (List Int)×List Bool=>Xt z.1 z.2=some r0) (fun z=>z2O z.1 z.2) [(1,.d (I bu)),(2,.own (.box (zH m_))),(6,.own (eOs 1 true F2_ (List.replicate ((m_.Rows.length:Nat):Int).toNat ([]:List Int)))),(7,.own (eOs 1 true eB (List.replicate ((m_.Rows.length:Nat):Int).toNat false)))] [Ha (lnM yM m_.Rows),Hn (rL g0),Ha (rM 1 F3_ ((m_.Rows.length:Nat):Int) ([]:List Int)),Hh (.v 0 [6]),Hm (shM F3_ F2_ (List.replicate ((m_.Rows.length:Nat):Int).toNat ([]:List Int))),Ha (lnM yM m_.Rows),Hn (rL g1),Ha (rM 1 eB ((m_.Rows.length:Nat):Int) false),Hh (.cut 0)] ?_ fun J1 aq=>?_
 ·rintro ⟨l_, is⟩ aa
  unfold Xt at aa;obtain rfl:=za aa;exact yE wR hC hE [Hm (shM F6_ F6_ l_),Hm (shM eB eB is)]
 ·obtain ⟨t2, ht2, aa⟩ := zb aa
  refine yLx wR hC XA [1,1,1,2,1,0] [J1] (fun s=>Xs m_ bu s.1 s.2.1 s.2.2) (fun x=>z2M m_ bu x.1 x.2.1 x.2.2) ((List.replicate ((m_.Rows.length:Nat):Int).toNat ([]:List Int)),(List.replicate ((m_.Rows.length:Nat):Int).toNat false),([]:List Int)) ht2 [(1,.d (I bu)),(2,.own (.box (zH m_))),(6,.own (eOs 1 true F2_ (List.replicate ((m_.Rows.length:Nat):Int).toNat ([]:List Int)))),(7,.own (eOs 1 true eB (List.replicate ((m_.Rows.length:Nat):Int).toNat false))),(8,.own (eOs 1 true (eI .i64) []))] inferInstance [] ?_;rintro⟨dw,gf,w_⟩ m2 au ae hl1 J2 av;try unfold Xs at ae
  let Z0:List HO:=[Ha (lnM (eI .i64) w_),Ha (lnM yM m_.Rows)];rcases zF ae with⟨c0,ae⟩|⟨c0,ae⟩
  ·refine yJ wR hC XA [1,1,1,2,1,0,0,1] [J1, J2] [1,2,6,7,8] (fun z : List (List Int) × List Bool => vX m_ w_ z.1 z.2 = some au) (fun z => z2N m_ bu w_ z.1 z.2) [(1, .d (I bu)), (2, .own (.box (zH m_))), (6, .own (eOs 1 true F6_ dw)), (7, .own (eOs 1 true eB gf)), (8, .d (eSl 1 false (eI .i64) w_))] (Z0 ++ [Hq c0, Hh (.n 1 [8]), Hm (shM (eI .i64) (eI .i64) w_), Hh (.cut 0)]) ?_ fun J3 bf => ?_
   ·rintro ⟨fy, kn⟩ ae
    unfold vX at ae;obtain⟨r_,h0,ae⟩:=zb ae;obtain rfl:=za ae;exact yB wR hC av (fy,kn,r_) hl1 [Hc h0T (x:=(w_,m_.Inputs)) h0 (loC F6_ w_ <| loC (eI .i64) m_.Inputs <| loN)]
   ·obtain ⟨ah, h1, ae⟩ := zb ae
    let Z1:List HO:=[Hc h0S (x:=(m_,bu,w_)) h1 (loC zH m_ <| loC (eI .i64) bu <| loC F6_ w_ <| loN)];rcases zF ae with⟨c1,ae⟩|⟨c1,ae⟩
    ·obtain ⟨lz, h2, ae⟩ := zb ae
     let Z2:List HO:=(Z1++[Hq c1,Hq c1,Hq c1,Hn (iL eB h2),Hq c1,Hs (iM eB h2),Hq c1,Hq c1]);rcases zF ae with⟨c2,ae⟩|⟨c2,ae⟩
     ·obtain ⟨l6, h3, ae⟩ := zb ae
      obtain⟨bq,h4,ae⟩:=zb ae;exact yB wR hC bf ((dw.set ah.toNat w_),(gf.set ah.toNat true)) ae (Z2++[Hq c2,Hn (iL eB h3),Hs (iM eB h3),Hs (iM eB h3),Hl (sM eB gf ah true),Hn (iL F6_ h4),Hs (iM F6_ h4),Hs (iM F6_ h4),Hl (sM F6_ dw ah w_)])
     ·exact yB wR hC bf (dw,gf) ae (Z2++[Hq c2])
    ·exact yB wR hC bf (dw,gf) ae (Z1++(rpN 6 (Hq c1) [qF]))
  ·obtain rfl := za ae
   obtain rfl:=hl1;exact yB wR hC aq (dw,gf) aa (Z0++[Hq c0])
def z5h:Code:=(Tryz.f122.body).getD .skip
def V1:zJ:=spF (α:=z6) (ρ:=List (List Int)×List Bool) 122 (fun x=>[zH x]) (fun r=>.tup [ziJ r.1,(eSl 1 true eB) r.2]) (fun x=>XL x) [] (Vo)
theorem z5Q {ctr:Ctr}(hC:zx Tryz.prog ctr)(h0U:ctr.Has UC):V1.Ok Tryz.prog:=by
 refine zw ?_;rintro m_ r0 aa;try unfold XL at aa;refine yO false [(2,none),(3,none)] z5h 8 Tryz.func122 fun E hE=>?_;obtain⟨r_,h0,aa⟩:=zb aa;obtain rfl:=za aa;exact yE X0 hC hE [Hc h0U (x:=(m_,0)) h0 (loC zH m_ <| loC (eI .i64) 0 <| loN)]
def QK:Code:=(Tryz.f123.body).getD .skip
def Qh:zJ:=spF (α:=List Int×List Int) (ρ:=Int) 123 (fun x=>[F6_ x.1,F6_ x.2]) (fun r=>(eI .i64) r) (fun x=>US x.1 x.2) [] (VO)
abbrev z3I:List (Nat×T):=[]
abbrev z3H (a_:List Int)(b_:List Int)(i_:Int):List (Nat×T):=[(0,.d (eSl 1 false (eI .i64) a_)),(1,.d (eSl 1 false (eI .i64) b_)),(5,.d (I i_))]
theorem z7W {ctr:Ctr}(hC:zx Tryz.prog ctr):Qh.Ok Tryz.prog:=by
 refine zw ?_;rintro⟨a_,b_⟩ r0 aa;try unfold US at aa;refine yO true [(4,none)] QK 40 Tryz.func123 fun E hE=>?_
 let Z0:List HO:=[Ha (lnM (eI .i64) a_),Ha (lnM (eI .i64) b_)];rcases zF aa with⟨c0,aa⟩|⟨c0,aa⟩
 ·let Z1 : List HO := (Z0 ++ [Hq c0, Ha (lnM (eI .i64) a_), Ha (lnM (eI .i64) b_)])
  rcases zF aa with⟨c1,aa⟩|⟨c1,aa⟩
  ·obtain rfl := za aa
   exact yE X0 hC hE (Z1++[Hq c1])
  ·obtain rfl := za aa
   exact yE X0 hC hE (Z1++[Hq c1])
 ·refine yJ X0 hC QK [1,1] [] [] (fun z : Unit => Qs = some r0) (fun z => z3I) [(0, .d (eSl 1 false (eI .i64) a_)), (1, .d (eSl 1 false (eI .i64) b_))] (Z0 ++ [Hq c0, Hh (.cut 0)]) ?_ fun J1 aq => ?_
  ·rintro ⟨⟩ aa
   unfold Qs at aa;obtain rfl:=za aa;exact yE X0 hC hE []
  ·obtain ⟨t2, ht2, aa⟩ := zb aa
   refine yL X0 hC QK [1,1,2,1,0] [J1] (fun s=>Yt a_ b_ s) (fun x=>z3H a_ b_ x) 0 ht2  [] ?_;rintro i_ m2 au ae hl1 J2 av;try unfold Yt at ae;rcases zF ae with⟨c2,ae⟩|⟨c2,ae⟩
   ·obtain ⟨ff, h0, ae⟩ := zb ae
    obtain⟨fg,h1,ae⟩:=zb ae
    let Z2:List HO:=[Ha (lnM (eI .i64) a_),Hq c2,Hi (eI .i64) h0,Hi (eI .i64) h1];rcases zF ae with⟨c3,ae⟩|⟨c3,ae⟩
    ·obtain ⟨gk, h2, ae⟩ := zb ae
     obtain⟨gl,h3,ae⟩:=zb ae
     let Z3:List HO:=(Z2++[Hq c3,Hi (eI .i64) h2,Hi (eI .i64) h3]);rcases zF ae with⟨c4,ae⟩|⟨c4,ae⟩
     ·obtain rfl := za ae
      obtain rfl:=hl1;obtain rfl:=za aa;exact yE X0 hC hE (Z3++[Hq c4])
     ·obtain rfl := za ae
      obtain rfl:=hl1;obtain rfl:=za aa;exact yE X0 hC hE (Z3++[Hq c4])
    ·obtain rfl := za ae
     exact yB X0 hC av (w64 (i_+1)) hl1 (Z2++[Hq c3])
   ·obtain rfl := za ae
    obtain rfl:=hl1;exact yB X0 hC aq () aa [Ha (lnM (eI .i64) a_),Hq c2]
def qL:Code:=(Tryz.f91.body).getD .skip
def UD:zJ:=spF (α:=z6) (ρ:=List Int) 91 (fun x=>[zH x]) (fun r=>F5_ r) (fun x=>Vg x) [] (Vo)
abbrev z2T (out:List Int):List (Nat×T):=[(5,.own (eOs 1 false (eI .i64) out))]
abbrev z2S (r_:List (List Int)×List Bool)(s_:Int)(ay:List Int):List (Nat×T):=[(3,.d (eSl 1 true F6_ r_.1)),(4,.d (eSl 1 true eB r_.2)),(5,.own (eOs 1 false (eI .i64) ay)),(6,.d (I s_))]
abbrev z2R (r_:List (List Int)×List Bool)(ai:List Int)(s_:Int)(k_:Int):List (Nat×T):=[(3,.d (eSl 1 true F6_ r_.1)),(4,.d (eSl 1 true eB r_.2)),(5,.own (eOs 1 false (eI .i64) ai)),(6,.d (I s_)),(7,.d (I k_))]
abbrev z2P (r_:List (List Int)×List Bool)(ai:List Int)(s_:Int)(a8:Int):List (Nat×T):=[(3,.d (eSl 1 true F6_ r_.1)),(4,.d (eSl 1 true eB r_.2)),(5,.own (eOs 1 false (eI .i64) ai)),(6,.d (I s_)),(7,.d (I a8))]
abbrev z2Q (r_:List (List Int)×List Bool)(ai:List Int)(s_:Int):List (Nat×T):=[(3,.d (eSl 1 true F6_ r_.1)),(4,.d (eSl 1 true eB r_.2)),(5,.own (eOs 1 false (eI .i64) ai)),(6,.d (I s_))]
def yT:XH Tryz.prog:=((Q7 zy (.inl 49) []).or ((Q7 zy (.inl 47) [5]).or X0))
theorem z6T {ctr:Ctr}(hC:zx Tryz.prog ctr)(h0V:ctr.Has V1)(h0W:ctr.Has Qh):UD.Ok Tryz.prog:=by
 refine zw ?_;rintro m_ r0 aa;try unfold Vg at aa;refine yO true [(2,none)] qL 61 Tryz.func91 fun E hE=>?_;obtain⟨r_,h0,aa⟩:=zb aa;refine yJ yT hC qL [1,1,1] [] [5] (fun z:List Int=>UH z=some r0) (fun z=>z2T z) [(3,.d (eSl 1 true F6_ r_.1)),(4,.d (eSl 1 true eB r_.2)),(5,.own (eOs 1 true (eI .i64) []))] [Hc h0V (x:=m_) h0 (loC zH m_ <| loN),Hh (.cut 1)] ?_ fun J1 aq=>?_
 ·rintro out aa
  unfold UH at aa;obtain rfl:=za aa;exact yE yT hC hE []
 ·obtain ⟨t2, ht2, aa⟩ := zb aa
  refine yLx yT hC qL [1,1,1,2,1,0] [J1] (fun s=>Zk r_ s.1 s.2) (fun x=>z2Q r_ x.1 x.2) (([]:List Int),0) ht2 [(3,.d (eSl 1 true F6_ r_.1)),(4,.d (eSl 1 true eB r_.2)),(5,.own (eOs 1 true (eI .i64) [])),(6,.d (I 0))] inferInstance [] ?_;rintro⟨ai,s_⟩ m2 au ae hl1 J2 av;try unfold Zk at ae
  let Z0:List HO:=[Ha (lnM F6_ r_.1)];rcases zF ae with⟨c0,ae⟩|⟨c0,ae⟩
  ·refine yJ yT hC qL [1,1,1,2,1,0,0,1] [J1, J2] [3,4,5,6] (fun z : List Int => qG s_ z = some au) (fun z => z2S r_ s_ z) [(3, .d (eSl 1 true F6_ r_.1)), (4, .d (eSl 1 true eB r_.2)), (5, .own (eOs 1 false (eI .i64) ai)), (6, .d (I s_))] (Z0 ++ [Hq c0, Hh (.cut 0)]) ?_ fun J3 bf => ?_
   ·rintro ay ae
    unfold qG at ae;obtain rfl:=za ae;exact yB yT hC av (ay,w64 (s_+1)) hl1 []
   ·obtain ⟨u_, h1, ae⟩ := zb ae
    rcases zF ae with⟨c1,ae⟩|⟨c1,ae⟩
    ·exact yB yT hC bf ai ae [Hi eB h1,Hq c1]
    ·refine yJ yT hC qL [1,1,1,2,1,0,0,1,2,0,1,1] [J1, J2, J3] [3,4,5,6,7] (fun z : Int => Xu ai s_ z = some au) (fun z => z2R r_ ai s_ z) [(3, .d (eSl 1 true F6_ r_.1)), (4, .d (eSl 1 true eB r_.2)), (5, .own (eOs 1 false (eI .i64) ai)), (6, .d (I s_)), (7, .d (I 0))] [Hi eB h1, Hq c1, Hh (.cut 1)] ?_ fun J4 bw => ?_
     ·rintro k_ ae
      unfold Xu at ae;obtain⟨g0,ae⟩:=gdE ae;obtain⟨g1,ae⟩:=gdE ae;obtain⟨g2,ae⟩:=gdE ae;obtain⟨g3,ae⟩:=gdE ae;obtain⟨g4,ae⟩:=gdE ae;exact yB yT hC bf ((((ai.drop 0).take (k_.toNat - 0))++([s_]:List Int))++(ai.drop k_.toNat)) ae [Hm (shM (eI .i64) (eI .i64) ai),Hn (slB g0),Hn (zb7 (eI .i64) g0),Ha (slM 1 false (eI .i64) ai 0 k_.toNat),Hn (dM (eI .i64) ((ai.drop 0).take (k_.toNat - 0))),Hn (aL (eI .i64) (eI .i64) g1),Hl (aM0 (eI .i64) ((ai.drop 0).take (k_.toNat - 0))),Hq (dM (eI .i64) ([s_]:List Int)),Hn (dM (eI .i64) ([s_]:List Int)),Hn (aL (eI .i64) (eI .i64) g2),Hl (aM (eI .i64) ((ai.drop 0).take (k_.toNat - 0)) ([s_]:List Int)),Hn (slA g3),Hn (zju (eI .i64) g3),Ha (slE 1 false (eI .i64) ai k_.toNat),Hn (dM (eI .i64) (ai.drop k_.toNat)),Hn (aL (eI .i64) (eI .i64) g4),Hl (aM (eI .i64) (((ai.drop 0).take (k_.toNat - 0))++([s_]:List Int)) (ai.drop k_.toNat))]
     ·obtain ⟨t5, ht5, ae⟩ := zb ae
      refine yL yT hC qL [1,1,1,2,1,0,0,1,2,0,1,1,2,0] [J1,J2,J3,J4] (fun s=>Zj r_ ai s_ s) (fun x=>z2P r_ ai s_ x) 0 ht5  [] ?_;rintro a8 m5 co aj hl2 J5 cd;try unfold Zj at aj;rcases zF aj with⟨c2,aj⟩|⟨c2,aj⟩
      ·obtain ⟨bp, h2, aj⟩ := zb aj
       obtain⟨lf,h3,aj⟩:=zb aj;obtain⟨lh,h4,aj⟩:=zb aj;obtain⟨ah,h5,aj⟩:=zb aj
       let Z1:List HO:=(Ha (lnM (eI .i64) ai)::(rpN 4 (Hq c2) (Hn (iL (eI .i64) h2)::Hq c2::Hs (iM (eI .i64) h2)::Hq c2::Hi F6_ h3::(rpN 4 (Hq c2) [Hi F6_ h4,Hq c2,Hq c2,Hc h0W (x:=(lf,lh)) h5 (loC F6_ lf <| loC F6_ lh <| loN),Hq c2,Hq c2]))));rcases zF aj with⟨c3,aj⟩|⟨c3,aj⟩
       ·obtain rfl := za aj
        exact yB yT hC cd (w64 (a8+1)) hl2 (Z1++[Hq c3])
       ·obtain rfl := za aj
        obtain rfl:=hl2;exact yB yT hC bw a8 ae (Z1++[Hq c3])
      ·obtain rfl := za aj
       obtain rfl:=hl2;exact yB yT hC bw a8 ae (Ha (lnM (eI .i64) ai)::(rpN 14 (Hq c2) [qF]))
  ·obtain rfl := za ae
   obtain rfl:=hl1;exact yB yT hC aq ai aa (Z0++[Hq c0])
def vj:Code:=(Tryz.f67.body).getD .skip
def Y9:zJ:=spF (α:=z6) (ρ:=List Int) 67 (fun x=>[zH x]) (fun r=>F5_ r) (fun x=>jV x) [] (Vo)
abbrev z1G (out:List Int):List (Nat×T):=[(5,.own (eOs 1 false (eI .i64) out))]
abbrev z1F (r_:List Int)(ah:List Int)(k_:Int)(ay:List Int):List (Nat×T):=[(3,.own (eOs 1 false (eI .i64) r_)),(4,.own (eOs 1 false (eI .i64) ah)),(5,.own (eOs 1 false (eI .i64) ay)),(6,.d (I k_))]
abbrev z1E (r_:List Int)(ah:List Int)(ai:List Int)(k_:Int)(there:Int):List (Nat×T):=[(3,.own (eOs 1 false (eI .i64) r_)),(4,.own (eOs 1 false (eI .i64) ah)),(5,.own (eOs 1 false (eI .i64) ai)),(6,.d (I k_)),(7,.d (I there))]
abbrev z1D (r_:List Int)(ah:List Int)(ai:List Int)(k_:Int)(n_:Int)(ii:Int):List (Nat×T):=[(3,.own (eOs 1 false (eI .i64) r_)),(4,.own (eOs 1 false (eI .i64) ah)),(5,.own (eOs 1 false (eI .i64) ai)),(6,.d (I k_)),(7,.d (I ii)),(8,.d (I n_))]
abbrev z1B (r_:List Int)(ah:List Int)(ai:List Int)(k_:Int)(fo:Int)(n_:Int):List (Nat×T):=[(3,.own (eOs 1 false (eI .i64) r_)),(4,.own (eOs 1 false (eI .i64) ah)),(5,.own (eOs 1 false (eI .i64) ai)),(6,.d (I k_)),(7,.d (I fo)),(8,.d (I n_))]
abbrev z1C (r_:List Int)(ah:List Int)(ai:List Int)(k_:Int):List (Nat×T):=[(3,.own (eOs 1 false (eI .i64) r_)),(4,.own (eOs 1 false (eI .i64) ah)),(5,.own (eOs 1 false (eI .i64) ai)),(6,.d (I k_))]
theorem z5M {ctr:Ctr}(hC:zx Tryz.prog ctr)(h0q:ctr.Has Zs)(h0X:ctr.Has UD):Y9.Ok Tryz.prog:=by
 refine zw ?_;rintro m_ r0 aa;try unfold jV at aa;refine yO true [(2,none)] vj 49 Tryz.func67 fun E hE=>?_;obtain⟨r_,h0,aa⟩:=zb aa;obtain⟨ah,h1,aa⟩:=zb aa;refine yJ X0 hC vj [1,1,1,1] [] [5] (fun z:List Int=>Yk z=some r0) (fun z=>z1G z) [(3,.own (eOs 1 false (eI .i64) r_)),(4,.own (eOs 1 false (eI .i64) ah)),(5,.own (eOs 1 true (eI .i64) []))] [Hc h0q (x:=m_) h0 (loC zH m_ <| loN),Hc h0X (x:=m_) h1 (loC zH m_ <| loN),Hh (.cut 1)] ?_ fun J1 aq=>?_
 ·rintro out aa
  unfold Yk at aa;obtain rfl:=za aa;exact yE X0 hC hE []
 ·obtain ⟨t2, ht2, aa⟩ := zb aa
  refine yLx X0 hC vj [1,1,1,1,2,1,0] [J1] (fun s=>Yi r_ ah s.1 s.2) (fun x=>z1C r_ ah x.1 x.2) (([]:List Int),0) ht2 [(3,.own (eOs 1 false (eI .i64) r_)),(4,.own (eOs 1 false (eI .i64) ah)),(5,.own (eOs 1 true (eI .i64) [])),(6,.d (I 0))] inferInstance [] ?_;rintro⟨ai,k_⟩ m2 au ae hl1 J2 av;try unfold Yi at ae;rcases zF ae with⟨c0,ae⟩|⟨c0,ae⟩
  ·refine yJ X0 hC vj [1,1,1,1,2,1,0,0,1] [J1, J2] [3,4,5,6] (fun z : List Int => ul k_ z = some au) (fun z => z1F r_ ah k_ z) [(3, .own (eOs 1 false (eI .i64) r_)), (4, .own (eOs 1 false (eI .i64) ah)), (5, .own (eOs 1 false (eI .i64) ai)), (6, .d (I k_))] [Ha (lnM (eI .i64) ah), Hq c0, Hh (.cut 0)] ?_ fun J3 bf => ?_
   ·rintro ay ae
    unfold ul at ae;obtain rfl:=za ae;exact yB X0 hC av (ay,w64 (k_+1)) hl1 []
   ·refine yJ X0 hC vj [1,1,1,1,2,1,0,0,1,2,0,1] [J1, J2, J3] [3,4,5,6,7] (fun z : Int => Yj ah ai k_ z = some au) (fun z => z1E r_ ah ai k_ z) [(3, .own (eOs 1 false (eI .i64) r_)), (4, .own (eOs 1 false (eI .i64) ah)), (5, .own (eOs 1 false (eI .i64) ai)), (6, .d (I k_)), (7, .d (I 0))] [Hh (.cut 1)] ?_ fun J4 bw => ?_
    ·rintro there ae
     unfold Yj at ae;rcases zF ae with⟨c1,ae⟩|⟨c1,ae⟩
     ·obtain ⟨du, h2, ae⟩ := zb ae
      obtain⟨g0,ae⟩:=gdE ae;exact yB X0 hC bf (ai++([du]:List Int)) ae [Hq c1,Hn (iL (eI .i64) h2),Hs (iM (eI .i64) h2),Hq (dM (eI .i64) ([du]:List Int)),Hn (dM (eI .i64) ([du]:List Int)),Hn (aL (eI .i64) (eI .i64) g0),Hl (aM (eI .i64) ai ([du]:List Int))]
     ·exact yB X0 hC bf ai ae [Hq c1]
    ·obtain ⟨t5, ht5, ae⟩ := zb ae
     refine yL X0 hC vj [1,1,1,1,2,1,0,0,1,2,0,1,2,1,0] [J1,J2,J3,J4] (fun s=>jT r_ ah k_ s.1 s.2) (fun x=>z1B r_ ah ai k_ x.1 x.2) (0,0) ht5  [] ?_;rintro⟨fo,n_⟩ m5 co aj hl2 J5 cd;try unfold jT at aj;rcases zF aj with⟨c2,aj⟩|⟨c2,aj⟩
     ·refine yJ X0 hC vj [1,1,1,1,2,1,0,0,1,2,0,1,2,1,0,0,1] [J1, J2, J3, J4, J5] [3,4,5,6,7,8] (fun z : Int => jU n_ z = some co) (fun z => z1D r_ ah ai k_ n_ z) [(3, .own (eOs 1 false (eI .i64) r_)), (4, .own (eOs 1 false (eI .i64) ah)), (5, .own (eOs 1 false (eI .i64) ai)), (6, .d (I k_)), (7, .d (I fo)), (8, .d (I n_))] [Hq c2, Hh (.cut 0)] ?_ fun J6 cu => ?_
      ·rintro ii aj
       unfold jU at aj;obtain rfl:=za aj;exact yB X0 hC cd (ii,w64 (n_+1)) hl2 []
      ·obtain ⟨fz, h3, aj⟩ := zb aj
       obtain⟨ix,h4,aj⟩:=zb aj;obtain⟨iy,h5,aj⟩:=zb aj;obtain⟨lk,h6,aj⟩:=zb aj
       let Z0:List HO:=[Hn (iL (eI .i64) h3),Hs (iM (eI .i64) h3),Hn (iL (eI .i64) h4),Hs (iM (eI .i64) h4),Hn (iL (eI .i64) h5),Hs (iM (eI .i64) h5),Hn (iL (eI .i64) h6),Hs (iM (eI .i64) h6)];rcases zF aj with⟨c3,aj⟩|⟨c3,aj⟩
       ·exact yB X0 hC cu 1 aj (Z0++[Hq c3])
       ·exact yB X0 hC cu fo aj (Z0++[Hq c3])
     ·obtain rfl := za aj
      obtain rfl:=hl2;exact yB X0 hC bw fo ae [Hq c2]
  ·obtain rfl := za ae
   obtain rfl:=hl1;exact yB X0 hC aq ai aa [Ha (lnM (eI .i64) ah),Hq c0]
def xS:Code:=(Tryz.f86.body).getD .skip
def W2:zJ:=spF (α:=z6×Int) (ρ:=List Bool) 86 (fun x=>[zH x.1,(eI .i64) x.2]) (fun r=>(eOs 1 true eB) r) (fun x=>Yu x.1 x.2) [] (VO)
abbrev z0I (out:List Bool):List (Nat×T):=[(5,.own (eOs 1 true eB out))]
abbrev z0H (m_:z6)(round:Int)(ay:List Bool):List (Nat×T):=[(2,.own (.box (zH m_))),(5,.own (eOs 1 true eB ay)),(6,.d (I round))]
abbrev z0G (m_:z6)(round:Int)(s_:Int)(gg:List Bool):List (Nat×T):=[(2,.own (.box (zH m_))),(5,.own (eOs 1 true eB gg)),(6,.d (I round)),(7,.d (I s_))]
abbrev z0F (m_:z6)(round:Int)(s_:Int)(i_:Int)(jt:List Bool):List (Nat×T):=[(2,.own (.box (zH m_))),(5,.own (eOs 1 true eB jt)),(6,.d (I round)),(7,.d (I s_)),(8,.d (I i_))]
abbrev z0C (m_:z6)(round:Int)(s_:Int)(d7:List Bool)(i_:Int):List (Nat×T):=[(2,.own (.box (zH m_))),(5,.own (eOs 1 true eB d7)),(6,.d (I round)),(7,.d (I s_)),(8,.d (I i_))]
abbrev z0D (m_:z6)(round:Int)(bv:List Bool)(s_:Int):List (Nat×T):=[(2,.own (.box (zH m_))),(5,.own (eOs 1 true eB bv)),(6,.d (I round)),(7,.d (I s_))]
abbrev z0E (m_:z6)(ai:List Bool)(round:Int):List (Nat×T):=[(2,.own (.box (zH m_))),(5,.own (eOs 1 true eB ai)),(6,.d (I round))]
theorem z4d {ctr:Ctr}(hC:zx Tryz.prog ctr):W2.Ok Tryz.prog:=by
 refine zw ?_;rintro⟨m_,bu⟩ r0 aa;try unfold Yu at aa;refine yO true [(4,none)] xS 58 Tryz.func86 fun E hE=>?_;obtain⟨g0,aa⟩:=gdE aa;obtain⟨mg,h0,aa⟩:=zb aa;refine yJ X0 hC xS [1,1,1] [] [5] (fun z:List Bool=>ZA z=some r0) (fun z=>z0I z) [(2,.own (.box (zH m_))),(5,.own (eOs 1 true eB ((List.replicate ((m_.Rows.length:Nat):Int).toNat false).set bu.toNat true)))] [Ha (lnM yM m_.Rows),Hn (rL g0),Ha (rM 1 eB ((m_.Rows.length:Nat):Int) false),Hn (iL eB h0),Hs (iM eB h0),Hs (iM eB h0),Hl (sM eB (List.replicate ((m_.Rows.length:Nat):Int).toNat false) bu true),Hh (.cut 0)] ?_ fun J1 aq=>?_
 ·rintro out aa
  unfold ZA at aa;obtain rfl:=za aa;exact yE X0 hC hE []
 ·obtain ⟨t2, ht2, aa⟩ := zb aa
  refine yL X0 hC xS [1,1,1,2,1,0] [J1] (fun s=>Zx m_ s.1 s.2) (fun x=>z0E m_ x.1 x.2) (((List.replicate ((m_.Rows.length:Nat):Int).toNat false).set bu.toNat true),0) ht2  [] ?_;rintro⟨ai,round⟩ m2 au ae hl1 J2 av;try unfold Zx at ae
  let Z0:List HO:=[Ha (lnM yM m_.Rows)];rcases zF ae with⟨c0,ae⟩|⟨c0,ae⟩
  ·refine yJ X0 hC xS [1,1,1,2,1,0,0,1] [J1, J2] [2,5,6] (fun z : List Bool => Zz round z = some au) (fun z => z0H m_ round z) [(2, .own (.box (zH m_))), (5, .own (eOs 1 true eB ai)), (6, .d (I round))] (Z0 ++ [Hq c0, Hh (.cut 0)]) ?_ fun J3 bf => ?_
   ·rintro ay ae
    unfold Zz at ae;obtain rfl:=za ae;exact yB X0 hC av (ay,w64 (round+1)) hl1 []
   ·obtain ⟨t4, ht4, ae⟩ := zb ae
    refine yL X0 hC xS [1,1,1,2,1,0,0,1,2,0,1,0] [J1,J2,J3] (fun s=>qt m_ s.1 s.2) (fun x=>z0D m_ round x.1 x.2) (ai,0) ht4  [] ?_;rintro⟨bv,s_⟩ m4 co aj hl2 J4 bw;try unfold qt at aj
    let Z1:List HO:=[Ha (lnM yM m_.Rows)];rcases zF aj with⟨c1,aj⟩|⟨c1,aj⟩
    ·refine yJ X0 hC xS [1,1,1,2,1,0,0,1,2,0,1,0,0,1] [J1, J2, J3, J4] [2,5,6,7] (fun z : List Bool => Zy s_ z = some co) (fun z => z0G m_ round s_ z) [(2, .own (.box (zH m_))), (5, .own (eOs 1 true eB bv)), (6, .d (I round)), (7, .d (I s_))] (Z1 ++ [Hq c1, Hh (.cut 0)]) ?_ fun J5 cd => ?_
     ·rintro gg aj
      unfold Zy at aj;obtain rfl:=za aj;exact yB X0 hC bw (gg,w64 (s_+1)) hl2 []
     ·obtain ⟨t6, i7, aj⟩ := zb aj
      refine yL X0 hC xS [1,1,1,2,1,0,0,1,2,0,1,0,0,1,2,0,1,0] [J1,J2,J3,J4,J5] (fun s=>qr m_ s_ s.1 s.2) (fun x=>z0C m_ round s_ x.1 x.2) (bv,0) i7  [] ?_;rintro⟨d7,i_⟩ m6 mb bn hl3 J6 cu;try unfold qr at bn;rcases zF bn with⟨c2,bn⟩|⟨c2,bn⟩
      ·refine yJ X0 hC xS [1,1,1,2,1,0,0,1,2,0,1,0,0,1,2,0,1,0,0,1] [J1, J2, J3, J4, J5, J6] [2,5,6,7,8] (fun z : List Bool => vz i_ z = some mb) (fun z => z0F m_ round s_ i_ z) [(2, .own (.box (zH m_))), (5, .own (eOs 1 true eB d7)), (6, .d (I round)), (7, .d (I s_)), (8, .d (I i_))] [Hq c2, Hh (.cut 0)] ?_ fun J7 hJ7 => ?_
       ·rintro jt bn
        unfold vz at bn;obtain rfl:=za bn;exact yB X0 hC cu (jt,w64 (i_+1)) hl3 []
       ·obtain ⟨am, h1, bn⟩ := zb bn
        obtain⟨ak,h2,bn⟩:=zb bn;obtain⟨bp,h3,bn⟩:=zb bn
        let Z2:List HO:=[Hi yM h1,Hi F8_ h2,Hn (iL eB h3),Hs (iM eB h3)];rcases zF bn with⟨c3,bn⟩|⟨c3,bn⟩
        ·rcases zF bn with ⟨c4, bn⟩ | ⟨c4, bn⟩
         ·obtain ⟨dm, h4, bn⟩ := zb bn
          exact yB X0 hC hJ7 (d7.set ak.To.toNat true) bn (Z2++[Hq c3,Hq c3,Hq c3,Hq c4,Hn (iL eB h4),Hs (iM eB h4),Hs (iM eB h4),Hl (sM eB d7 ak.To true)])
         ·exact yB X0 hC hJ7 d7 bn (Z2++[Hq c3,Hq c3,Hq c3,Hq c4])
        ·exact yB X0 hC hJ7 d7 bn (Z2++[Hq c3,Hq c3,Hq c3,qF])
      ·obtain rfl := za bn
       obtain rfl:=hl3;exact yB X0 hC cd d7 aj [Hq c2]
    ·obtain rfl := za aj
     obtain rfl:=hl2;exact yB X0 hC bf bv ae (Z1++[Hq c1])
  ·obtain rfl := za ae
   obtain rfl:=hl1;exact yB X0 hC aq ai aa (Z0++[Hq c0])
def kB:Code:=(Tryz.f68.body).getD .skip
def Jv:zJ:=spF (α:=z6) (ρ:=List Int) 68 (fun x=>[zH x]) (fun r=>F5_ r) (fun x=>JD x) [] (Vo)
abbrev z5A (out:List Int):List (Nat×T):=[(6,.own (eOs 1 false (eI .i64) out))]
abbrev z5z (r_:List Int)(ah:List Int)(al:List Bool)(s_:Int)(ay:List Int):List (Nat×T):=[(3,.own (eOs 1 false (eI .i64) r_)),(4,.own (eOs 1 false (eI .i64) ah)),(5,.own (eOs 1 true eB al)),(6,.own (eOs 1 false (eI .i64) ay)),(7,.d (I s_))]
abbrev z5y (r_:List Int)(ah:List Int)(al:List Bool)(ai:List Int)(s_:Int)(k_:Int):List (Nat×T):=[(3,.own (eOs 1 false (eI .i64) r_)),(4,.own (eOs 1 false (eI .i64) ah)),(5,.own (eOs 1 true eB al)),(6,.own (eOs 1 false (eI .i64) ai)),(7,.d (I s_)),(8,.d (I k_))]
abbrev z5x (r_:List Int)(ah:List Int)(al:List Bool)(ai:List Int)(s_:Int)(n_:Int)(ee:Int):List (Nat×T):=[(3,.own (eOs 1 false (eI .i64) r_)),(4,.own (eOs 1 false (eI .i64) ah)),(5,.own (eOs 1 true eB al)),(6,.own (eOs 1 false (eI .i64) ai)),(7,.d (I s_)),(8,.d (I ee)),(9,.d (I n_))]
abbrev z5v (r_:List Int)(ah:List Int)(al:List Bool)(ai:List Int)(s_:Int)(a8:Int)(n_:Int):List (Nat×T):=[(3,.own (eOs 1 false (eI .i64) r_)),(4,.own (eOs 1 false (eI .i64) ah)),(5,.own (eOs 1 true eB al)),(6,.own (eOs 1 false (eI .i64) ai)),(7,.d (I s_)),(8,.d (I a8)),(9,.d (I n_))]
abbrev z5w (r_:List Int)(ah:List Int)(al:List Bool)(ai:List Int)(s_:Int):List (Nat×T):=[(3,.own (eOs 1 false (eI .i64) r_)),(4,.own (eOs 1 false (eI .i64) ah)),(5,.own (eOs 1 true eB al)),(6,.own (eOs 1 false (eI .i64) ai)),(7,.d (I s_))]
theorem z9h {ctr:Ctr}(hC:zx Tryz.prog ctr)(h0q:ctr.Has Zs)(h0r:ctr.Has Y9)(h0Y:ctr.Has W2):Jv.Ok Tryz.prog:=by
 refine zw ?_;rintro m_ r0 aa;try unfold JD at aa;refine yO true [(2,none)] kB 52 Tryz.func68 fun E hE=>?_;obtain⟨r_,h0,aa⟩:=zb aa;obtain⟨ah,h1,aa⟩:=zb aa;obtain⟨al,h2,aa⟩:=zb aa;refine yJ X0 hC kB [1,1,1,1,1] [] [6] (fun z:List Int=>Uh z=some r0) (fun z=>z5A z) [(3,.own (eOs 1 false (eI .i64) r_)),(4,.own (eOs 1 false (eI .i64) ah)),(5,.own (eOs 1 true eB al)),(6,.own (eOs 1 true (eI .i64) []))] [Hc h0q (x:=m_) h0 (loC zH m_ <| loN),Hc h0r (x:=m_) h1 (loC zH m_ <| loN),Hc h0Y (x:=(m_,0)) h2 (loC zH m_ <| loC (eI .i64) 0 <| loN),Hh (.cut 1)] ?_ fun J1 aq=>?_
 ·rintro out aa
  unfold Uh at aa;obtain rfl:=za aa;exact yE X0 hC hE []
 ·obtain ⟨t2, ht2, aa⟩ := zb aa
  refine yLx X0 hC kB [1,1,1,1,1,2,1,0] [J1] (fun s=>Ue r_ ah al s.1 s.2) (fun x=>z5w r_ ah al x.1 x.2) (([]:List Int),0) ht2 [(3,.own (eOs 1 false (eI .i64) r_)),(4,.own (eOs 1 false (eI .i64) ah)),(5,.own (eOs 1 true eB al)),(6,.own (eOs 1 true (eI .i64) [])),(7,.d (I 0))] inferInstance [] ?_;rintro⟨ai,s_⟩ m2 au ae hl1 J2 av;try unfold Ue at ae;rcases zF ae with⟨c0,ae⟩|⟨c0,ae⟩
  ·refine yJ X0 hC kB [1,1,1,1,1,2,1,0,0,1] [J1, J2] [3,4,5,6,7] (fun z : List Int => Ug s_ z = some au) (fun z => z5z r_ ah al s_ z) [(3, .own (eOs 1 false (eI .i64) r_)), (4, .own (eOs 1 false (eI .i64) ah)), (5, .own (eOs 1 true eB al)), (6, .own (eOs 1 false (eI .i64) ai)), (7, .d (I s_))] [Ha (lnM (eI .i64) r_), Hq c0, Hh (.cut 0)] ?_ fun J3 bf => ?_
   ·rintro ay ae
    unfold Ug at ae;obtain rfl:=za ae;exact yB X0 hC av (ay,w64 (s_+1)) hl1 []
   ·refine yJ X0 hC kB [1,1,1,1,1,2,1,0,0,1,2,0,1] [J1, J2, J3] [3,4,5,6,7,8] (fun z : Int => Uf ai s_ z = some au) (fun z => z5y r_ ah al ai s_ z) [(3, .own (eOs 1 false (eI .i64) r_)), (4, .own (eOs 1 false (eI .i64) ah)), (5, .own (eOs 1 true eB al)), (6, .own (eOs 1 false (eI .i64) ai)), (7, .d (I s_)), (8, .d (I (-1)))] [Hh (.cut 1)] ?_ fun J4 bw => ?_
    ·rintro k_ ae
     unfold Uf at ae;obtain⟨g0,ae⟩:=gdE ae;exact yB X0 hC bf (ai++([k_]:List Int)) ae [Hq (dM (eI .i64) ([k_]:List Int)),Hn (dM (eI .i64) ([k_]:List Int)),Hn (aL (eI .i64) (eI .i64) g0),Hl (aM (eI .i64) ai ([k_]:List Int))]
    ·obtain ⟨t5, ht5, ae⟩ := zb ae
     refine yL X0 hC kB [1,1,1,1,1,2,1,0,0,1,2,0,1,2,1,0] [J1,J2,J3,J4] (fun s=>XI r_ ah al s_ s.1 s.2) (fun x=>z5v r_ ah al ai s_ x.1 x.2) ((-1),0) ht5  [] ?_;rintro⟨a8,n_⟩ m5 co aj hl2 J5 cd;try unfold XI at aj;rcases zF aj with⟨c1,aj⟩|⟨c1,aj⟩
     ·refine yJ X0 hC kB [1,1,1,1,1,2,1,0,0,1,2,0,1,2,1,0,0,1] [J1, J2, J3, J4, J5] [3,4,5,6,7,8,9] (fun z : Int => ZV n_ z = some co) (fun z => z5x r_ ah al ai s_ n_ z) [(3, .own (eOs 1 false (eI .i64) r_)), (4, .own (eOs 1 false (eI .i64) ah)), (5, .own (eOs 1 true eB al)), (6, .own (eOs 1 false (eI .i64) ai)), (7, .d (I s_)), (8, .d (I a8)), (9, .d (I n_))] [Ha (lnM (eI .i64) ah), Hq c1, Hh (.cut 0)] ?_ fun J6 cu => ?_
      ·rintro ee aj
       unfold ZV at aj;obtain rfl:=za aj;exact yB X0 hC cd (ee,w64 (n_+1)) hl2 []
      ·obtain ⟨du, h3, aj⟩ := zb aj
       let Z0:List HO:=[Hn (iL eB h3),Hs (iM eB h3)];rcases zF aj with⟨c2,aj⟩|⟨c2,aj⟩
       ·obtain ⟨fz, h4, aj⟩ := zb aj
        obtain⟨ix,h5,aj⟩:=zb aj;obtain⟨iy,h6,aj⟩:=zb aj
        let Z1:List HO:=(Z0++(rpN 4 (Hq c2) [Hn (iL (eI .i64) h4),Hq c2,Hs (iM (eI .i64) h4),Hq c2,Hn (iL (eI .i64) h5),Hq c2,Hs (iM (eI .i64) h5),Hq c2,Hq c2,Hq c2,Hn (iL (eI .i64) h6),Hq c2,Hs (iM (eI .i64) h6),Hq c2,Hq c2]));rcases zF aj with⟨c3,aj⟩|⟨c3,aj⟩
        ·exact yB X0 hC cu n_ aj (Z1++[Hq c3])
        ·exact yB X0 hC cu a8 aj (Z1++[Hq c3])
       ·exact yB X0 hC cu a8 aj (Z0++(rpN 13 (Hq c2) [qF]))
     ·obtain rfl := za aj
      obtain rfl:=hl2;exact yB X0 hC bw a8 ae [Ha (lnM (eI .i64) ah),Hq c1]
  ·obtain rfl := za ae
   obtain rfl:=hl1;exact yB X0 hC aq ai aa [Ha (lnM (eI .i64) r_),Hq c0]
def wF:Code:=(Tryz.f34.body).getD .skip
def W1:zJ:=spF (α:=z6) (ρ:=z6) 34 (fun x=>[zH x]) (fun r=>zH r) (fun x=>Yh x) [] (Vo)
abbrev z0B (m_:z6)(gh:List (List z8)):List (Nat×T):=[(2,.own (.box (.agg [I 0,I 0,eOs 1 true yM []]))),(5,.own (.box (.agg [I m_.Inputs,I m_.Outputs,eOs 1 false qN gh])))]
abbrev z0A (m_:z6)(r_:List Int)(ah:List Int)(k_:Int)(fp:List (List z8)):List (Nat×T):=[(1,.own (.box (zH m_))),(2,.own (.box (.agg [I 0,I 0,eOs 1 true yM []]))),(3,.own (eOs 1 false (eI .i64) r_)),(4,.own (eOs 1 false (eI .i64) ah)),(5,.own (.box (.agg [I m_.Inputs,I m_.Outputs,eOs 1 false qN fp]))),(6,.d (I k_))]
abbrev z0z (m_:z6)(r_:List Int)(ah:List Int)(a7:List (List z8))(k_:Int)(row:List z8):List (Nat×T):=[(1,.own (.box (zH m_))),(2,.own (.box (.agg [I 0,I 0,eOs 1 true yM []]))),(3,.own (eOs 1 false (eI .i64) r_)),(4,.own (eOs 1 false (eI .i64) ah)),(5,.own (.box (.agg [I m_.Inputs,I m_.Outputs,eOs 1 false qN a7]))),(6,.d (I k_)),(7,.own (eOs 2 false F8_ row))]
abbrev z0y (m_:z6)(r_:List Int)(ah:List Int)(a7:List (List z8))(k_:Int)(bz:List z8)(i_:Int)(ak:z8)(d8:Int):List (Nat×T):=[(1,.own (.box (zH m_))),(2,.own (.box (.agg [I 0,I 0,eOs 1 true yM []]))),(3,.own (eOs 1 false (eI .i64) r_)),(4,.own (eOs 1 false (eI .i64) ah)),(5,.own (.box (.agg [I m_.Inputs,I m_.Outputs,eOs 1 false qN a7]))),(6,.d (I k_)),(7,.own (eOs 2 false F8_ bz)),(8,.d (I i_)),(9,.own (.box (.agg [I d8,I ak.Out])))]
abbrev z0w (m_:z6)(r_:List Int)(ah:List Int)(a7:List (List z8))(k_:Int)(bz:List z8)(i_:Int):List (Nat×T):=[(1,.own (.box (zH m_))),(2,.own (.box (.agg [I 0,I 0,eOs 1 true yM []]))),(3,.own (eOs 1 false (eI .i64) r_)),(4,.own (eOs 1 false (eI .i64) ah)),(5,.own (.box (.agg [I m_.Inputs,I m_.Outputs,eOs 1 false qN a7]))),(6,.d (I k_)),(7,.own (eOs 2 false F8_ bz)),(8,.d (I i_))]
abbrev z0x (m_:z6)(r_:List Int)(ah:List Int)(a7:List (List z8))(k_:Int):List (Nat×T):=[(1,.own (.box (zH m_))),(2,.own (.box (.agg [I 0,I 0,eOs 1 true yM []]))),(3,.own (eOs 1 false (eI .i64) r_)),(4,.own (eOs 1 false (eI .i64) ah)),(5,.own (.box (.agg [I m_.Inputs,I m_.Outputs,eOs 1 false qN a7]))),(6,.d (I k_))]
theorem z4b {ctr:Ctr}(hC:zx Tryz.prog ctr)(h0r:ctr.Has Y9)(h0Z:ctr.Has Jv):W1.Ok Tryz.prog:=by
 refine zw ?_;rintro m_ r0 aa;try unfold Yh at aa;refine yO false [(2,some 30)] wF 62 Tryz.func34 fun E hE=>?_;obtain⟨r_,h0,aa⟩:=zb aa;obtain⟨ah,h1,aa⟩:=zb aa;refine yJ X0 hC wF [1,1,1,1] [] [2,5] (fun z:List (List z8)=>Zw m_ z=some r0) (fun z=>z0B m_ z) [(1,.own (.box (zH m_))),(2,.own (.box (.agg [I 0,I 0,eOs 1 true yM []]))),(3,.own (eOs 1 false (eI .i64) r_)),(4,.own (eOs 1 false (eI .i64) ah)),(5,.own (.box (.agg [I m_.Inputs,I m_.Outputs,eOs 1 true yM []])))] [Hc h0r (x:=m_) h0 (loC zH m_ <| loN),Hc h0Z (x:=m_) h1 (loC zH m_ <| loN),Hh (.cut 1)] ?_ fun J1 aq=>?_
 ·rintro gh aa
  unfold Zw at aa;obtain rfl:=za aa;exact yE X0 hC hE [Hm (shM qN yM gh)]
 ·obtain ⟨t2, ht2, aa⟩ := zb aa
  refine yLx X0 hC wF [1,1,1,1,2,1,0] [J1] (fun s=>qq m_ r_ ah s.1 s.2) (fun x=>z0x m_ r_ ah x.1 x.2) (([]:List (List z8)),0) ht2 [(1,.own (.box (zH m_))),(2,.own (.box (.agg [I 0,I 0,eOs 1 true yM []]))),(3,.own (eOs 1 false (eI .i64) r_)),(4,.own (eOs 1 false (eI .i64) ah)),(5,.own (.box (.agg [I m_.Inputs,I m_.Outputs,eOs 1 true qN []]))),(6,.d (I 0))] inferInstance [] ?_;rintro⟨a7,k_⟩ m2 au ae hl1 J2 av;try unfold qq at ae;rcases zF ae with⟨c0,ae⟩|⟨c0,ae⟩
  ·refine yJ X0 hC wF [1,1,1,1,2,1,0,0,1] [J1, J2] [1,2,3,4,5,6] (fun z : List (List z8) => Zv k_ z = some au) (fun z => z0A m_ r_ ah k_ z) [(1, .own (.box (zH m_))), (2, .own (.box (.agg [I 0, I 0, eOs 1 true yM []]))), (3, .own (eOs 1 false (eI .i64) r_)), (4, .own (eOs 1 false (eI .i64) ah)), (5, .own (.box (.agg [I m_.Inputs, I m_.Outputs, eOs 1 false qN a7]))), (6, .d (I k_))] [Ha (lnM (eI .i64) r_), Hq c0, Hh (.cut 0)] ?_ fun J3 bf => ?_
   ·rintro fp ae
    unfold Zv at ae;obtain rfl:=za ae;exact yB X0 hC av (fp,w64 (k_+1)) hl1 []
   ·refine yJ X0 hC wF [1,1,1,1,2,1,0,0,1,2,0,1] [J1, J2, J3] [1,2,3,4,5,6,7] (fun z : List z8 => Zu a7 k_ z = some au) (fun z => z0z m_ r_ ah a7 k_ z) [(1, .own (.box (zH m_))), (2, .own (.box (.agg [I 0, I 0, eOs 1 true yM []]))), (3, .own (eOs 1 false (eI .i64) r_)), (4, .own (eOs 1 false (eI .i64) ah)), (5, .own (.box (.agg [I m_.Inputs, I m_.Outputs, eOs 1 false qN a7]))), (6, .d (I k_)), (7, .own (eOs 2 true F8_ []))] [Hh (.cut 1)] ?_ fun J4 bw => ?_
    ·rintro row ae
     unfold Zu at ae;obtain⟨g0,ae⟩:=gdE ae;exact yB X0 hC bf (a7++([row]:List (List z8))) ae [Hq (oC qN row []),Hn (aL qN qN g0),Hl (aM qN a7 ([row]:List (List z8)))]
    ·obtain ⟨t5, ht5, ae⟩ := zb ae
     refine yLx X0 hC wF [1,1,1,1,2,1,0,0,1,2,0,1,2,1,0] [J1,J2,J3,J4] (fun s=>qp m_ r_ ah k_ s.1 s.2) (fun x=>z0w m_ r_ ah a7 k_ x.1 x.2) (([]:List z8),0) ht5 [(1,.own (.box (zH m_))),(2,.own (.box (.agg [I 0,I 0,eOs 1 true yM []]))),(3,.own (eOs 1 false (eI .i64) r_)),(4,.own (eOs 1 false (eI .i64) ah)),(5,.own (.box (.agg [I m_.Inputs,I m_.Outputs,eOs 1 false qN a7]))),(6,.d (I k_)),(7,.own (eOs 2 true F8_ [])),(8,.d (I 0))] inferInstance [] ?_;rintro⟨bz,i_⟩ m5 co aj hl2 J5 cd;try unfold qp at aj;rcases zF aj with⟨c1,aj⟩|⟨c1,aj⟩
     ·obtain ⟨du, h2, aj⟩ := zb aj
      obtain⟨am,h3,aj⟩:=zb aj;obtain⟨ak,h4,aj⟩:=zb aj;refine yJ X0 hC wF [1,1,1,1,2,1,0,0,1,2,0,1,2,1,0,0,1,0,0,1] [J1,J2,J3,J4,J5] [1,2,3,4,5,6,7,8,9] (fun z:Int=>vw bz i_ ak z=some co) (fun z=>z0y m_ r_ ah a7 k_ bz i_ ak z) [(1,.own (.box (zH m_))),(2,.own (.box (.agg [I 0,I 0,eOs 1 true yM []]))),(3,.own (eOs 1 false (eI .i64) r_)),(4,.own (eOs 1 false (eI .i64) ah)),(5,.own (.box (.agg [I m_.Inputs,I m_.Outputs,eOs 1 false qN a7]))),(6,.d (I k_)),(7,.own (eOs 2 false F8_ bz)),(8,.d (I i_)),(9,.own (.box (F8_ ak)))] [Hq c1,Hn (iL (eI .i64) h2),Hs (iM (eI .i64) h2),Hi yM h3,Hi F8_ h4,Hh (.cut 0)] ?_ fun J6 cu=>?_
      ·rintro d8 aj
       unfold vw at aj;obtain⟨g1,aj⟩:=gdE aj;obtain rfl:=za aj;exact yB X0 hC cd ((bz++([(z8.mk d8 ak.Out)]:List z8)),w64 (i_+1)) hl2 [Hq (dM F8_ ([(z8.mk d8 ak.Out)]:List z8)),Hn (dM F8_ ([(z8.mk d8 ak.Out)]:List z8)),Hn (aL F8_ F8_ g1),Hl (aM F8_ bz ([(z8.mk d8 ak.Out)]:List z8))]
      ·rcases zF aj with ⟨c2, aj⟩ | ⟨c2, aj⟩
       ·obtain ⟨fz, h5, aj⟩ := zb aj
        exact yB X0 hC cu fz aj [Hq c2,Hn (iL (eI .i64) h5),Hs (iM (eI .i64) h5)]
       ·exact yB X0 hC cu ak.To aj [Hq c2]
     ·obtain rfl := za aj
      obtain rfl:=hl2;exact yB X0 hC bw bz ae [Hq c1]
  ·obtain rfl := za ae
   obtain rfl:=hl1;exact yB X0 hC aq a7 aa [Ha (lnM (eI .i64) r_),Hq c0]
def z7E:Code:=(Tryz.f9.body).getD .skip
def Ql:zJ:=spF (α:=uE) (ρ:=z6) 9 (fun x=>[(Zn Ke) x]) (fun r=>zH r) (fun x=>UY x) [] (Vo)
theorem z82 {ctr:Ctr}(hC:zx Tryz.prog ctr)(h1a:ctr.Has Qm)(h1b:ctr.Has W1):Ql.Ok Tryz.prog:=by
 refine zw ?_;rintro x_ r0 aa;try unfold UY at aa;refine yO false [(2,some 30)] z7E 13 Tryz.func9 fun E hE=>?_;obtain⟨g0,aa⟩:=gdE aa;obtain⟨r_,h0,aa⟩:=zb aa;obtain⟨ah,h1,aa⟩:=zb aa;obtain rfl:=za aa;exact yE X0 hC hE [Hn g0,Hc h1a (x:=(zD.mk (Int.tmod x_.C.States 5) x_.C.Inputs x_.C.Outputs x_.C.Tree x_.C.Edges)) h0 (loC Ke (zD.mk (Int.tmod x_.C.States 5) x_.C.Inputs x_.C.Outputs x_.C.Tree x_.C.Edges) <| loN),Hc h1b (x:=r_) h1 (loC zH r_ <| loN)]
def z3v:Code:=(Tryz.f125.body).getD .skip
def qm:zJ:=spF (α:=Unit) (ρ:=z8) 125 (fun x=>[]) (fun r=>F8_ r) (fun x=>uT) [] (fun _ _ _=>rfl)
theorem z4g {ctr:Ctr}(hC:zx Tryz.prog ctr):qm.Ok Tryz.prog:=by
 refine zw ?_;rintro⟨⟩ r0 aa;try unfold uT at aa;refine yO false [(0,some 67)] z3v 2 Tryz.func125 fun E hE=>?_;obtain rfl:=za aa;exact yE X0 hC hE []
def z3w:Code:=(Tryz.f94.body).getD .skip
def W5:zJ:=spF (α:=z6×z8) (ρ:=Bool) 94 (fun x=>[zH x.1,F8_ x.2]) (fun r=>eB r) (fun x=>Yz x.1 x.2) [] (VO)
theorem z4h {ctr:Ctr}(hC:zx Tryz.prog ctr)(h0c:ctr.Has qm):W5.Ok Tryz.prog:=by
 refine zw ?_;rintro⟨m_,x_⟩ r0 aa;try unfold Yz at aa;refine yO true [(4,none)] z3w 33 Tryz.func94 fun E hE=>?_;obtain⟨r_,h0,aa⟩:=zb aa
 let Z0:List HO:=[Hc h0c (x:=()) h0 (loN)];rcases zF aa with⟨c0,aa⟩|⟨c0,aa⟩
 ·obtain rfl := za aa
  exact yE X0 hC hE (Z0++(rpN 10 (Hq c0) []))
 ·let Z1 : List HO := (Z0 ++ (rpN 4 (Hq c0) []))
  rcases zF aa with⟨c1,aa⟩|⟨c1,aa⟩
  ·let Z2 : List HO := (Z1 ++ (rpN 5 (Hq c1) [Ha (lnM yM m_.Rows), Hq c1, Hq c0, Hq c1, Hq c0]))
   rcases zF aa with⟨c2,aa⟩|⟨c2,aa⟩
   ·let Z3 : List HO := (Z2 ++ [Hq c2, Hq c2, Hq c2, Hq c0, Hq c2, Hq c0])
    rcases zF aa with⟨c3,aa⟩|⟨c3,aa⟩
    ·obtain rfl := za aa
     exact yE X0 hC hE (Z3++(rpN 5 (Hq c3) [Hq c0,Hq c3,Hq c0]))
    ·obtain rfl := za aa
     exact yE X0 hC hE (Z3++(rpN 5 (Hq c3) [Hq c0,Hq c3,Hq c0]))
   ·obtain rfl := za aa
    exact yE X0 hC hE (Z2++(Hq c2::Hq c2::Hq c2::Hq c0::Hq c2::Hq c0::(rpN 5 qF [Hq c0,qF,Hq c0])))
  ·obtain rfl := za aa
   exact yE X0 hC hE (Z1++(rpN 6 (Hq c1) (Hq c0::Hq c1::Hq c0::qF::qF::qF::Hq c0::qF::Hq c0::(rpN 5 qF [Hq c0,qF,Hq c0]))))
def z0n:Code:=(Tryz.f93.body).getD .skip
def ZK:zJ:=spF (α:=z8×z6) (ρ:=Bool) 93 (fun x=>[F8_ x.1,z21 x.2]) (fun r=>eB r) (fun x=>ZD x.1 x.2) [] (VO)
theorem z11 {ctr:Ctr}(hC:zx Tryz.prog ctr)(h1d:ctr.Has W5):ZK.Ok Tryz.prog:=by
 refine zw ?_;rintro⟨x_,x1⟩ r0 aa;try unfold ZD at aa;refine yO true [(3,none)] z0n 8 Tryz.func93 fun E hE=>?_;obtain⟨r_,h0,aa⟩:=zb aa;obtain rfl:=za aa;exact yE X0 hC hE [Hc h1d (x:=(x1,x_)) h0 (loC zH x1 <| loC F8_ x_ <| loN)]
def xc:Code:=(Tryz.f124.body).getD .skip
def yY:zJ:=spF (α:=List z8×z6) (ρ:=Int) 124 (fun x=>[yM x.1,(KB 93 z21) x.2]) (fun r=>(eI .i64) r) (fun x=>yn x.1 x.2) [] (by
 rintro⟨a0,a1⟩ ⟨b0,b1⟩ h;have e0:=ZZ.inj (f:=yM) _ _ (List.cons.inj h).1;replace h:=(List.cons.inj h).2;have e1:=ZZ.inj (f:=(KB 93 z21)) _ _ (List.cons.inj h).1;subst e0 e1;rfl)
abbrev jG:List (Nat×T):=[]
abbrev jF (s_:List z8)(f_:z6)(x8:Int):List (Nat×T):=[(0,.d (eSl 2 false F8_ s_)),(1,.d (.fn 93 [.sptr (.agg [I f_.Inputs,I f_.Outputs,eSl 1 false yM f_.Rows])])),(7,.d (I ((s_.length:Nat):Int))),(8,.d (I x8))]
theorem Zg {ctr:Ctr}(hC:zx Tryz.prog ctr)(h1e:ctr.Has ZK):yY.Ok Tryz.prog:=by
 refine zw ?_;rintro⟨s_,f_⟩ r0 aa;try unfold yn at aa;refine yO true [(4,none)] xc 19 Tryz.func124 fun E hE=>?_;refine yJ X0 hC xc [1] [] [] (fun z:Unit=>yZ=some r0) (fun z=>jG) [(0,.d (eSl 2 false F8_ s_)),(1,.d (.fn 93 [.sptr (.agg [I f_.Inputs,I f_.Outputs,eSl 1 false yM f_.Rows])]))] [Hh (.cut 1)] ?_ fun J1 aq=>?_
 ·rintro ⟨⟩ aa
  unfold yZ at aa;obtain rfl:=za aa;exact yE X0 hC hE []
 ·obtain ⟨t2, ht2, aa⟩ := zb aa
  refine yL X0 hC xc [1,2,1,0] [J1] (fun s=>zP s_ f_ s) (fun x=>jF s_ f_ x) 0 ht2  [Ha (lnM F8_ s_)] ?_;rintro x8 m2 au ae hl1 J2 av;try unfold zP at ae;rcases zF ae with⟨c0,ae⟩|⟨c0,ae⟩
  ·obtain ⟨cp, h0, ae⟩ := zb ae
   obtain⟨r_,h1,ae⟩:=zb ae
   let Z0:List HO:=[Hq c0,Hi F8_ h0,Hc h1e (x:=(cp,f_)) h1 (loC F8_ cp <| loC z21 f_ <| loN)];rcases zF ae with⟨c1,ae⟩|⟨c1,ae⟩
   ·obtain rfl := za ae
    obtain rfl:=hl1;obtain rfl:=za aa;exact yE X0 hC hE (Z0++[Hq c1])
   ·obtain rfl := za ae
    exact yB X0 hC av (w64 (x8+1)) hl1 (Z0++[Hq c1])
  ·obtain rfl := za ae
   obtain rfl:=hl1;exact yB X0 hC aq () aa [Hq c0]
def jE:Code:=(Tryz.f92.body).getD .skip
def yz:zJ:=spF (α:=List z8×z6) (ρ:=Bool) 92 (fun x=>[yM x.1,(KB 93 z21) x.2]) (fun r=>eB r) (fun x=>zY x.1 x.2) [] (by
 rintro⟨a0,a1⟩ ⟨b0,b1⟩ h;have e0:=ZZ.inj (f:=yM) _ _ (List.cons.inj h).1;replace h:=(List.cons.inj h).2;have e1:=ZZ.inj (f:=(KB 93 z21)) _ _ (List.cons.inj h).1;subst e0 e1;rfl)
theorem jH {ctr:Ctr}(hC:zx Tryz.prog ctr)(h1f:ctr.Has yY):yz.Ok Tryz.prog:=by
 refine zw ?_;rintro⟨s_,f_⟩ r0 aa;try unfold zY at aa;refine yO true [(4,none)] jE 9 Tryz.func92 fun E hE=>?_;obtain⟨r_,h0,aa⟩:=zb aa;obtain rfl:=za aa;exact yE X0 hC hE [Hc h1f (x:=(s_,f_)) h0 (loC yM s_ <| loC (KB 93 z21) f_ <| loN)]
def Xi:Code:=(Tryz.f70.body).getD .skip
def xx:zJ:=spF (α:=z6) (ρ:=Int) 70 (fun x=>[zH x]) (fun r=>(eI .i64) r) (fun x=>xF x) [] (Vo)
abbrev KQ:List (Nat×T):=[]
abbrev KP (m_:z6)(ic:Int):List (Nat×T):=[(1,.d (.sptr (zH m_))),(34,.d (eSl 1 false yM m_.Rows)),(35,.d (I ((m_.Rows.length:Nat):Int))),(36,.d (I ic))]
theorem z3q {ctr:Ctr}(hC:zx Tryz.prog ctr)(h1g:ctr.Has yz):xx.Ok Tryz.prog:=by
 refine zw ?_;rintro m_ r0 aa;try unfold xF at aa;refine yO true [(2,none)] Xi 51 Tryz.func70 fun E hE=>?_;rcases zF aa with⟨c0,aa⟩|⟨c0,aa⟩
 ·obtain rfl := za aa
  exact yE X0 hC hE (rpN 4 (Hq c0) (rpN 6 qT []))
 ·let Z0 : List HO := (rpN 4 (Hq c0) [])
  rcases zF aa with⟨c1,aa⟩|⟨c1,aa⟩
  ·obtain rfl := za aa
   exact yE X0 hC hE (Z0++(rpN 5 (Hq c1) [qT]))
  ·let Z1 : List HO := (Z0 ++ [Hq c1, Hq c1, Hq c1, Ha (lnM yM m_.Rows), Hq c1, Hq c1])
   rcases zF aa with⟨c2,aa⟩|⟨c2,aa⟩
   ·obtain rfl := za aa
    exact yE X0 hC hE (Z1++[Hq c2])
   ·rcases zF aa with ⟨c3, aa⟩ | ⟨c3, aa⟩
    ·obtain rfl := za aa
     exact yE X0 hC hE (Z1++(Hq c2::(rpN 4 (Hq c3) (rpN 6 qT []))))
    ·let Z2 : List HO := (Z1 ++ (Hq c2 :: (rpN 4 (Hq c3) [])))
     rcases zF aa with⟨c4,aa⟩|⟨c4,aa⟩
     ·obtain rfl := za aa
      exact yE X0 hC hE (Z2++(rpN 5 (Hq c4) [qT]))
     ·let Z3 : List HO := (Z2 ++ [Hq c4, Hq c4, Hq c4, Ha (lnM yM m_.Rows), Hq c4, Hq c4])
      rcases zF aa with⟨c5,aa⟩|⟨c5,aa⟩
      ·obtain rfl := za aa
       exact yE X0 hC hE (Z3++[Hq c5])
      ·refine yJ X0 hC Xi [1,1,1] [] [] (fun z : Unit => Xa = some r0) (fun z => KQ) [(1, .own (.box (zH m_)))] (Z3 ++ [Hq c5, Hh (.cut 0)]) ?_ fun J1 aq => ?_
       ·rintro ⟨⟩ aa
        unfold Xa at aa;obtain rfl:=za aa;exact yE X0 hC hE []
       ·obtain ⟨t2, ht2, aa⟩ := zb aa
        refine yL X0 hC Xi [1,1,1,2,1,0] [J1] (fun s=>wT m_ s) (fun x=>KP m_ x) 0 ht2  [Ha (lnM yM m_.Rows),Hh (.n 1 [1])] ?_;rintro ic m2 au ae hl1 J2 av;try unfold wT at ae;rcases zF ae with⟨c6,ae⟩|⟨c6,ae⟩
        ·obtain ⟨am, h0, ae⟩ := zb ae
         let Z4:List HO:=[Hq c6,Hi yM h0,Ha (lnM F8_ am)];rcases zF ae with⟨c7,ae⟩|⟨c7,ae⟩
         ·obtain rfl := za ae
          obtain rfl:=hl1;obtain rfl:=za aa;exact yE X0 hC hE (Z4++(rpN 4 (Hq c7) [qT]))
         ·obtain ⟨r_, h1, ae⟩ := zb ae
          let Z5:List HO:=(Z4++[Hq c7,Hq c7,Hq c7,Hc h1g (x:=(am,m_)) h1 (loC yM am <| loC (KB 93 z21) m_ <| loN),Hq c7]);rcases zF ae with⟨c8,ae⟩|⟨c8,ae⟩
          ·obtain rfl := za ae
           obtain rfl:=hl1;obtain rfl:=za aa;exact yE X0 hC hE (Z5++[Hq c8])
          ·obtain rfl := za ae
           exact yB X0 hC av (w64 (ic+1)) hl1 (Z5++[Hq c8])
        ·obtain rfl := za ae
         obtain rfl:=hl1;exact yB X0 hC aq () aa [Hq c6]
def z1s:Code:=(Tryz.f71.body).getD .skip
def Yc:zJ:=spF (α:=z6) (ρ:=(Int×z6)×(Int×z6)×(Int×z6)) 71 (fun x=>[zH x]) (fun r=>(zpU (zne (eI .i64) (KB 95 z21)) (zne (eI .i64) (KB 97 z21)) (zne (eI .i64) (KB 99 z21))) r) (fun x=>Yw x) [] (Vo)
theorem z2a {ctr:Ctr}(hC:zx Tryz.prog ctr):Yc.Ok Tryz.prog:=by
 refine zw ?_;rintro m_ r0 aa;try unfold Yw at aa;refine yO false [(2,some 96)] z1s 10 Tryz.func71 fun E hE=>?_;obtain rfl:=za aa;exact yEx X0 hC hE [] (.agg [.agg [I 9,.fn 95 [.sptr (.agg [I m_.Inputs,I m_.Outputs,eSl 1 false yM m_.Rows])]],.agg [I 11,.fn 97 [.sptr (.agg [I m_.Inputs,I m_.Outputs,eSl 1 false yM m_.Rows])]],.agg [I 12,.fn 99 [.sptr (.agg [I m_.Inputs,I m_.Outputs,eSl 1 false yM m_.Rows])]]]) (show LeV (.agg [.agg [I 9,.fn 95 [.sptr (.agg [I m_.Inputs,I m_.Outputs,eSl 1 false yM m_.Rows])]],.agg [I 11,.fn 97 [.sptr (.agg [I m_.Inputs,I m_.Outputs,eSl 1 false yM m_.Rows])]],.agg [I 12,.fn 99 [.sptr (.agg [I m_.Inputs,I m_.Outputs,eSl 1 false yM m_.Rows])]]]) (.agg [.agg [I ((((9,m_),(11,m_),(12,m_)).1).1),.fn 95 [.sptr (.agg [I (((((9,m_),(11,m_),(12,m_)).1).2).Inputs),I (((((9,m_),(11,m_),(12,m_)).1).2).Outputs),eSl 1 false yM (((((9,m_),(11,m_),(12,m_)).1).2).Rows)])]],.agg [I ((((9,m_),(11,m_),(12,m_)).2.1).1),.fn 97 [.sptr (.agg [I (((((9,m_),(11,m_),(12,m_)).2.1).2).Inputs),I (((((9,m_),(11,m_),(12,m_)).2.1).2).Outputs),eSl 1 false yM (((((9,m_),(11,m_),(12,m_)).2.1).2).Rows)])]],.agg [I ((((9,m_),(11,m_),(12,m_)).2.2).1),.fn 99 [.sptr (.agg [I (((((9,m_),(11,m_),(12,m_)).2.2).2).Inputs),I (((((9,m_),(11,m_),(12,m_)).2.2).2).Outputs),eSl 1 false yM (((((9,m_),(11,m_),(12,m_)).2.2).2).Rows)])]]]) from inferInstance)
def z2x:Code:=(Tryz.f144.body).getD .skip
def X5:zJ:=spF (α:=z6) (ρ:=z6) 144 (fun x=>[zH x]) (fun r=>(KB 166 z21) r) (fun x=>Xv x) [] (Vo)
theorem z3p {ctr:Ctr}(hC:zx Tryz.prog ctr):X5.Ok Tryz.prog:=by
 refine zw ?_;rintro m_ r0 aa;try unfold Xv at aa;refine yO true [(2,none)] z2x 4 Tryz.func144 fun E hE=>?_;obtain rfl:=za aa;exact yE X0 hC hE []
def qa:Code:=(Tryz.f166.body).getD .skip
abbrev Jh {σ:Type}(x0:z6)(YY:σ->z6G)(ck:Int)(fq:σ):List (Nat×T):=[(0,.own (.opq (YY fq).q)),(8,.d (eSl 1 false yM x0.Rows)),(9,.d (I ((x0.Rows.length:Nat):Int))),(10,.d (I ck))]
abbrev Jf {σ:Type}(x0:z6)(YY:σ->z6G)(ck:Int)(am:List z8)(cr:σ)(ap:Int):List (Nat×T):=[(0,.own (.opq (YY cr).q)),(3,.d (I ck)),(8,.d (eSl 1 false yM x0.Rows)),(9,.d (I ((x0.Rows.length:Nat):Int))),(10,.d (I ck)),(15,.d (eSl 2 false F8_ am)),(16,.d (I ((am.length:Nat):Int))),(17,.d (I ap))]
abbrev Jg {σ:Type}(x0:z6)(YY:σ->z6G)(cb:σ)(ck:Int):List (Nat×T):=[(0,.own (.opq (YY cb).q)),(8,.d (eSl 1 false yM x0.Rows)),(9,.d (I ((x0.Rows.length:Nat):Int))),(10,.d (I ck))]
theorem z10 {ctr:Ctr}(hC:zx Tryz.prog ctr)(x0:z6):za1 Tryz.prog (.fn 166 [.sptr (.agg [I x0.Inputs,I x0.Outputs,eSl 1 false yM x0.Rows])]) (fun(x:wp Int×z8) (_:Bool) (_:Value)=>[F0_ x.1,F8_ x.2]) (@qu x0):=by
 refine z7o (tt:=yo) (nt:=31) (body:=qa) zy Tryz.func166 rfl (by kernel_rfl) rfl rfl (by show(2:Nat)<=31;decide) ?_
 intro σ yv YY yy hy sg r0 aa E hE;unfold qu at aa;obtain⟨t1,ht1,aa⟩:=zb aa;refine yL X0 hC qa [1,0] [] (fun s=>ve x0 yy s.1 s.2) (fun x=>Jg x0 YY x.1 x.2) (sg,0) ht1  [Ha (lnM yM x0.Rows)] ?_;rintro⟨cb,ck⟩ m1 au ae hl1 J1 aq;try unfold ve at ae;rcases zF ae with⟨c0,ae⟩|⟨c0,ae⟩
 ·refine yJ X0 hC qa [1,0,0,1,1] [J1] [0,8,9,10] (fun z : σ => uU ck z = some au) (fun z => Jh x0 YY ck z) [(0, .own (.opq (YY cb).q)), (8, .d (eSl 1 false yM x0.Rows)), (9, .d (I ((x0.Rows.length : Nat) : Int))), (10, .d (I ck))] [Hq c0, Hh (.cut 0)] ?_ fun J2 av => ?_
  ·rintro fq ae
   unfold uU at ae;obtain rfl:=za ae;exact yB X0 hC aq (fq,w64 (ck+1)) hl1 []
  ·obtain ⟨am, h0, ae⟩ := zb ae
   obtain⟨t3,ht3,ae⟩:=zb ae;refine yL X0 hC qa [1,0,0,1,1,2,0,1,1,0] [J1,J2] (fun s=>xZ yy ck am s.1 s.2) (fun x=>Jf x0 YY ck am x.1 x.2) (cb,0) ht3  [Hi yM h0,Ha (lnM F8_ am)] ?_;rintro⟨cr,ap⟩ m3 co aj hl2 J3 bf;try unfold xZ at aj;rcases zF aj with⟨c1,aj⟩|⟨c1,aj⟩
   ·obtain ⟨ak, h1, aj⟩ := zb aj
    obtain⟨yr,h2,aj⟩:=zb aj
    let Z0:List HO:=[Hq c1,Hi F8_ h1,Hn (z6Z (yv:=yv) (Y:=YY) (enc:=(fun(x:wp Int×z8) (_:Bool) (_:Value)=>[F0_ x.1,F8_ x.2])) (s:=cr) (x:=((wp.mk ck ap),ak)) (s':=yr.1) (b:=yr.2) (v:=.nilFunc) [F0_ (wp.mk ck ap),F8_ ak] (show z0U [F0_ (wp.mk ck ap),F8_ ak] [F0_ (wp.mk ck ap),F8_ ak] from inferInstance))];rcases zF aj with⟨c2,aj⟩|⟨c2,aj⟩
    ·obtain rfl := za aj
     obtain rfl:=hl2;obtain rfl:=za ae;obtain rfl:=hl1;obtain rfl:=za aa;exact yF ((z0V (P:=Tryz.prog) yo hy 27 (s:=cr) (x:=((wp.mk ck ap),ak)) (s':=yr.1) (b:=yr.2) .nilFunc h2).or X0) hC .ret [(0,.own (.opq (YY yr.1).q))] (Z0++[Hq c2]) fun st0 h0=>hE _ st0 (.inr rfl) h0
    ·obtain rfl := za aj
     exact yB ((z0V (P:=Tryz.prog) yo hy 27 (s:=cr) (x:=((wp.mk ck ap),ak)) (s':=yr.1) (b:=yr.2) .nilFunc h2).or X0) hC bf (yr.1,w64 (ap+1)) hl2 (Z0++[Hq c2])
   ·obtain rfl := za aj
    obtain rfl:=hl2;exact yB X0 hC av cr ae [Hq c1]
 ·obtain rfl := za ae
  obtain rfl:=hl1;obtain rfl:=za aa;exact yF X0 hC .normal [(0,.own (.opq (YY cb).q))] [Hq c0] fun st0 h0=>hE _ st0 (.inl rfl) h0
def VT:Code:=(Tryz.f145.body).getD .skip
def vt:zJ:=spF (α:=List (wp Int)) (ρ:=List (wp Int)) 145 (fun x=>[(eSl 2 false F0_) x]) (fun r=>(eSl 2 true F0_) r) (fun x=>wO x) [] (Vo)
theorem Ut {ctr:Ctr}(hC:zx Tryz.prog ctr):vt.Ok Tryz.prog:=by
 refine zw ?_;rintro s_ r0 aa;try unfold wO at aa;refine yO true [(2,none)] VT 9 Tryz.func145 fun E hE=>?_;obtain⟨g0,aa⟩:=gdE aa;obtain rfl:=za aa;exact yE X0 hC hE [Ha (lnM F0_ s_),Ha (lnM F0_ s_),Hn (slB g0),Hn (slC g0),Hn (zjv F0_ g0),Ha (zot 2 F0_ s_ 0 ((s_.length:Nat):Int).toNat)]
def xC:Code:=(Tryz.f126.body).getD .skip
def jJ:zJ:=spF (α:=z6) (ρ:=List (wp Int)) 126 (fun x=>[zH x]) (fun r=>(eSl 2 true F0_) r) (fun x=>qW x) [] (Vo)
abbrev Q6 (out:List (wp Int)):List (Nat×T):=[(3,.own (.box (eOs 2 false F0_ out)))]
abbrev uF (ah:z6)(ai:List (wp Int)):List (Nat×T):=[(3,.own (.box (eOs 2 false F0_ ai))),(7,.d (.fn 166 [.sptr (.agg [I ah.Inputs,I ah.Outputs,eSl 1 false yM ah.Rows])]))]
theorem Kw {ctr:Ctr}(hC:zx Tryz.prog ctr)(h1h:ctr.Has X5)(h0c:ctr.Has qm)(h0C:ctr.Has vt):jJ.Ok Tryz.prog:=by
 refine zw ?_;rintro m_ r0 aa;try unfold qW at aa;refine yO true [(2,none)] xC 19 Tryz.func126 fun E hE=>?_;refine yJ X0 hC xC [1,1] [] [3] (fun z:List (wp Int)=>vM z=some r0) (fun z=>Q6 z) [(1,.own (.box (zH m_))),(3,.own (.box (eOs 2 true F0_ [])))] [Hh (.cut 2)] ?_ fun J1 aq=>?_
 ·rintro out aa
  unfold vM at aa;obtain⟨r_,h0,aa⟩:=zb aa;obtain rfl:=za aa;exact yE X0 hC hE [Hg (z1Y h0C),Hm (shM F0_ F0_ out),Hs (z1Z h0C (x:=out) h0 (loC (eSl 2 false F0_) out <| loN)),Hm (shM F0_ F0_ out)]
 ·obtain ⟨ah, h1, aa⟩ := zb aa
  obtain⟨t2,ht2,aa⟩:=zb aa;refine yAt X0 hC (sub [1,1,2,1,0] xC) (frs [1,1,2,1,0] [J1] xC []) [(3,.own (.box (eOs 2 true F0_ []))),(7,.d (.fn 166 [.sptr (.agg [I ah.Inputs,I ah.Outputs,eSl 1 false yM ah.Rows])]))] [Hc h1h (x:=m_) h1 (loC zH m_ <| loN)] fun st0 h0=>?_;refine z0q (g:=.tmp 7) (ps:=[8,9]) (assign:=(sub [1,1,2,1,0,0] xC)) (body:=(sub [1,1,2,1,0,1] xC)) (K:=166) (caps:=[.sptr (.agg [I ah.Inputs,I ah.Outputs,eSl 1 false yM ah.Rows])]) (by kernel_rfl) [3,7] (fun s=>uF ah s) (fun z=>nomatch z) (fun z=>nomatch z) ((fun(x:wp Int×z8) (_:Bool) (_:Value)=>[F0_ x.1,F8_ x.2])) (F:=@qu ah) (fun s x=>yj s x.1 x.2) ([]:List (wp Int)) t2 _ h0 inferInstance (by kernel_rfl) (by decide) (fun _=>rfl) (by rintro⟨⟩) (by kernel_rfl) (fun _ _ _=>rfl) (z10 hC ah) ht2 ?_ ?_
  ·rintro ln ai ⟨x8, x9⟩ vr au ae
   replace ae:yj ai x8 x9=some au:=ae;unfold yj at ae;refine yF X0 hC .normal [(3,.own (.box (eOs 2 false F0_ ai))),(4,.own (.box (F0_ x8))),(5,.own (.box (F8_ x9))),(7,.d (.fn 166 [.sptr (.agg [I ah.Inputs,I ah.Outputs,eSl 1 false yM ah.Rows])]))] [] fun st0 h0=>⟨rfl,z7G h0 ?_⟩;obtain⟨al,h2,ae⟩:=zb ae
   let Z0:List HO:=[Hc h0c (x:=()) h2 (loN)];rcases zF ae with⟨c0,ae⟩|⟨c0,ae⟩
   ·obtain ⟨g0, ae⟩ := gdE ae
    obtain rfl:=za ae;exact yF X0 hC .normal (uF ah (ai++([x8]:List (wp Int)))) (Z0++[Hq c0,Hq (dM F0_ ([x8]:List (wp Int))),Hn (dM F0_ ([x8]:List (wp Int))),Hn (aL F0_ F0_ g0),Hl (aM F0_ ai ([x8]:List (wp Int)))]) fun st0 h0=>⟨rfl,_,h0,LeL.refl _⟩
   ·obtain rfl := za ae
    exact yF X0 hC .normal (uF ah ai) (Z0++[Hq c0]) fun st0 h0=>⟨rfl,_,h0,LeL.refl _⟩
  ·rcases t2 with ai | z
   ·dsimp only at aa
    exact XU (by kernel_rfl) (aq _ [(3,.own (.box (eOs 2 false F0_ ai)))] ai aa (show Own.canon [3] _=ofL _ by kernel_rfl) inferInstance)
   ·cases z
def KG:Code:=(Tryz.f96.body).getD .skip
def Zd:zJ:=spF (α:=z6) (ρ:=Bool×Int) 96 (fun x=>[zH x]) (fun r=>.tup [eB r.1,(eI .i64) r.2]) (fun x=>uv x) [] (Vo)
theorem z02 {ctr:Ctr}(hC:zx Tryz.prog ctr)(h02:ctr.Has xx)(h1i:ctr.Has jJ):Zd.Ok Tryz.prog:=by
 refine zw ?_;rintro m_ r0 aa;try unfold uv at aa;refine yO false [(2,none),(3,none)] KG 14 Tryz.func96 fun E hE=>?_;obtain⟨r_,h0,aa⟩:=zb aa
 let Z0:List HO:=[Hc h02 (x:=m_) h0 (loC zH m_ <| loN)];rcases zF aa with⟨c0,aa⟩|⟨c0,aa⟩
 ·obtain rfl := za aa
  exact yE X0 hC hE (Z0++[Hq c0])
 ·obtain ⟨ah, h1, aa⟩ := zb aa
  obtain rfl:=za aa;exact yE X0 hC hE (Z0++[Hq c0,Hc h1i (x:=m_) h1 (loC zH m_ <| loN),Ha (lnM F0_ ah)])
def KF:Code:=(Tryz.f95.body).getD .skip
def Zc:zJ:=spF (α:=z6) (ρ:=Bool) 95 (fun x=>[z21 x]) (fun r=>eB r) (fun x=>kN x) [] (Vo)
theorem z01 {ctr:Ctr}(hC:zx Tryz.prog ctr)(h1j:ctr.Has Zd):Zc.Ok Tryz.prog:=by
 refine zw ?_;rintro x0 r0 aa;try unfold kN at aa;refine yO true [(1,none)] KF 10 Tryz.func95 fun E hE=>?_;obtain⟨r_,h0,aa⟩:=zb aa;obtain rfl:=za aa;exact yE X0 hC hE [Hc h1j (x:=x0) h0 (loC zH x0 <| loN)]
def YL:Code:=(Tryz.f127.body).getD .skip
abbrev VZ (dy:Value)(gn:Value)(gp:Value)(am:List z8)(x1:List Bool)(dn:Int)(da:Int)(fh:List (List z8))(bc:Int):List (Nat×T):=[(1,.own (.box (eOs 1 true eB x1))),(2,.own (.box (.agg [I dn,I da,eSl 1 false yM fh]))),(3,.own (.box (.fn 127 [.atom dy,.atom gn,.atom gp]))),(22,.d (eSl 2 false F8_ am)),(23,.d (I ((am.length:Nat):Int))),(24,.d (I bc))]
theorem QU {ctr:Ctr}(hC:zx Tryz.prog ctr)(dy:Value)(gn:Value)(gp:Value):∀(fu:Nat) (s_:Int) (y0:List Bool) (y1:z6) (r0:List Bool×z6),ye fu s_ y0 y1=some r0->kZ Tryz.prog (.fn 127 [.atom dy,.atom gn,.atom gp]) [I s_] ([dy,gn,gp].zip [.box (eOs 1 true eB y0),.box (.agg [I y1.Inputs,I y1.Outputs,eSl 1 false yM y1.Rows]),.box (.fn 127 [.atom dy,.atom gn,.atom gp])]) (.tup []) [.box (eOs 1 true eB r0.1),.box (.agg [I r0.2.Inputs,I r0.2.Outputs,eSl 1 false yM r0.2.Rows]),.box (.fn 127 [.atom dy,.atom gn,.atom gp])]:=by
 intro fu
 induction fu with
 | zero=>intro s_ y0 y1 r0 aa;exact nomatch (show none=some r0 from aa)
 | succ fu ih=>
  intro s_ y0 y1 r0 aa;replace aa:xU (ye fu) s_ y0 y1=some r0:=aa;generalize ye fu=ib at ih aa;refine zaE (tt:=yo) (nt:=33) (body:=YL) [1,2,3] zy Tryz.func127 rfl (by kernel_rfl) rfl rfl (by show(4:Nat)<=33;decide) (by decide) rfl rfl (fun E hE=>?_) rfl
  unfold xU at aa;rcases zF aa with⟨c0,aa⟩|⟨c0,aa⟩
  ·obtain rfl := za aa
   exact yF X0 hC .ret [(1,.own (.box (eOs 1 true eB y0))),(2,.own (.box (.agg [I y1.Inputs,I y1.Outputs,eSl 1 false yM y1.Rows]))),(3,.own (.box (.fn 127 [.atom dy,.atom gn,.atom gp])))] (rpN 5 (Hq c0) [qT]) fun st0 h0=>hE _ st0 (.inr rfl) (z0d h0 ⟨⟨rfl,rfl⟩,⟨⟨rfl,rfl⟩,⟨⟨rfl,rfl⟩,trivial⟩⟩⟩)
  ·obtain ⟨ma, h0, aa⟩ := zb aa
   let Z0:List HO:=[Hq c0,Hq c0,Hq c0,Hn (iL eB h0),Hq c0,Hs (iM eB h0),Hq c0];rcases zF aa with⟨c1,aa⟩|⟨c1,aa⟩
   ·obtain rfl := za aa
    exact yF X0 hC .ret [(1,.own (.box (eOs 1 true eB y0))),(2,.own (.box (.agg [I y1.Inputs,I y1.Outputs,eSl 1 false yM y1.Rows]))),(3,.own (.box (.fn 127 [.atom dy,.atom gn,.atom gp])))] (Z0++[Hq c1]) fun st0 h0=>hE _ st0 (.inr rfl) (z0d h0 ⟨⟨rfl,rfl⟩,⟨⟨rfl,rfl⟩,⟨⟨rfl,rfl⟩,trivial⟩⟩⟩)
   ·obtain ⟨mc, h1, aa⟩ := zb aa
    obtain⟨am,h2,aa⟩:=zb aa;obtain⟨t1,ht1,aa⟩:=zb aa;refine yL X0 hC YL [1,1,1,0] [] (fun s=>yS ib am s.1 s.2.1 s.2.2.1 s.2.2.2.1 s.2.2.2.2) (fun x=>VZ dy gn gp am x.1 x.2.1 x.2.2.1 x.2.2.2.1 x.2.2.2.2) ((y0.set s_.toNat true),y1.Inputs,y1.Outputs,y1.Rows,0) ht1  (Z0++[Hq c1,Hn (iL eB h1),Hs (iM eB h1),Hs (iM eB h1),Hl (sM eB y0 s_ true),Hi yM h2,Ha (lnM F8_ am)]) ?_;rintro⟨x1,dn,da,fh,bc⟩ m1 au ae hl1 J1 aq;try unfold yS at ae;rcases zF ae with⟨c2,ae⟩|⟨c2,ae⟩
    ·obtain ⟨ak, h3, ae⟩ := zb ae
     obtain⟨r_,h4,ae⟩:=zb ae;obtain rfl:=za ae;exact yB ((uc (P:=Tryz.prog) yo [1,2,3] (ih _ _ _ _ h4) 31).or X0) hC aq (r_.1,r_.2.Inputs,r_.2.Outputs,r_.2.Rows,w64 (bc+1)) hl1 [Hq c2,Hi F8_ h3,Hn (Y6 (f:=.fn 127 [.atom dy,.atom gn,.atom gp]) (xs:=[(eI .i64) ak.To]) (ls:=[(dy,.box (eOs 1 true eB x1)),(gn,.box (.agg [I dn,I da,eSl 1 false yM fh])),(gp,.box (.fn 127 [.atom dy,.atom gn,.atom gp]))]) (r:=.tup []) (ys:=[.box (eOs 1 true eB r_.1),.box (.agg [I r_.2.Inputs,I r_.2.Outputs,eSl 1 false yM r_.2.Rows]),.box (.fn 127 [.atom dy,.atom gn,.atom gp])]) [(eI .i64) ak.To] (show z0U [(eI .i64) ak.To] [(eI .i64) ak.To] from inferInstance))]
    ·obtain rfl := za ae
     obtain rfl:=hl1;obtain rfl:=za aa;exact yF X0 hC .normal [(1,.own (.box (eOs 1 true eB x1))),(2,.own (.box (.agg [I dn,I da,eSl 1 false yM fh]))),(3,.own (.box (.fn 127 [.atom dy,.atom gn,.atom gp])))] [Hq c2] fun st0 h0=>hE _ st0 (.inl rfl) (z0d h0 ⟨⟨rfl,rfl⟩,⟨⟨rfl,rfl⟩,⟨⟨rfl,rfl⟩,trivial⟩⟩⟩)
def u6:Code:=(Tryz.f146.body).getD .skip
def vU:zJ:=spF (α:=List Bool×Bool) (ρ:=Int) 146 (fun x=>[(eSl 1 false eB) x.1,eB x.2]) (fun r=>(eI .i64) r) (fun x=>vn x.1 x.2) [] (VO)
abbrev WH:List (Nat×T):=[]
abbrev WG (s_:List Bool)(v_:Bool)(x8:Int):List (Nat×T):=[(0,.d (eSl 1 false eB s_)),(1,.d (B v_)),(7,.d (I ((s_.length:Nat):Int))),(8,.d (I x8))]
theorem UO {ctr:Ctr}(hC:zx Tryz.prog ctr):vU.Ok Tryz.prog:=by
 refine zw ?_;rintro⟨s_,v_⟩ r0 aa;try unfold vn at aa;refine yO true [(4,none)] u6 19 Tryz.func146 fun E hE=>?_;refine yJ X0 hC u6 [1] [] [] (fun z:Unit=>vW=some r0) (fun z=>WH) [(0,.d (eSl 1 false eB s_)),(1,.d (B v_))] [Hh (.cut 1)] ?_ fun J1 aq=>?_
 ·rintro ⟨⟩ aa
  unfold vW at aa;obtain rfl:=za aa;exact yE X0 hC hE []
 ·obtain ⟨t2, ht2, aa⟩ := zb aa
  refine yL X0 hC u6 [1,2,1,0] [J1] (fun s=>yp s_ v_ s) (fun x=>WG s_ v_ x) 0 ht2  [Ha (lnM eB s_)] ?_;rintro x8 m2 au ae hl1 J2 av;try unfold yp at ae;rcases zF ae with⟨c0,ae⟩|⟨c0,ae⟩
  ·obtain ⟨cp, h0, ae⟩ := zb ae
   rcases zF ae with⟨c1,ae⟩|⟨c1,ae⟩
   ·obtain rfl := za ae
    obtain rfl:=hl1;obtain rfl:=za aa;exact yE X0 hC hE [Hq c0,Hi eB h0,Hq c1]
   ·obtain rfl := za ae
    exact yB X0 hC av (w64 (x8+1)) hl1 [Hq c0,Hi eB h0,Hq c1]
  ·obtain rfl := za ae
   obtain rfl:=hl1;exact yB X0 hC aq () aa [Hq c0]
def WE:Code:=(Tryz.f128.body).getD .skip
def wK:zJ:=spF (α:=List Bool×Bool) (ρ:=Bool) 128 (fun x=>[(eSl 1 false eB) x.1,eB x.2]) (fun r=>eB r) (fun x=>xo x.1 x.2) [] (VO)
theorem WR {ctr:Ctr}(hC:zx Tryz.prog ctr)(h1k:ctr.Has vU):wK.Ok Tryz.prog:=by
 refine zw ?_;rintro⟨s_,v_⟩ r0 aa;try unfold xo at aa;refine yO true [(4,none)] WE 9 Tryz.func128 fun E hE=>?_;obtain⟨r_,h0,aa⟩:=zb aa;obtain rfl:=za aa;exact yE X0 hC hE [Hc h1k (x:=(s_,v_)) h0 (loC (eSl 1 false eB) s_ <| loC eB v_ <| loN)]
def XT:Code:=(Tryz.f98.body).getD .skip
def jK:zJ:=spF (α:=z6) (ρ:=Bool×Int) 98 (fun x=>[zH x]) (fun r=>.tup [eB r.1,(eI .i64) r.2]) (fun x=>vN x) [] (Vo)
theorem Kx {ctr:Ctr}(hC:zx Tryz.prog ctr)(h02:ctr.Has xx)(h0D:ctr.Has wK):jK.Ok Tryz.prog:=by
 refine zw ?_;rintro m_ r0 aa;try unfold vN at aa;refine yO false [(2,none),(3,none)] XT 22 Tryz.func98 fun E hE=>?_;obtain⟨r_,h0,aa⟩:=zb aa
 let Z0:List HO:=[Hc h02 (x:=m_) h0 (loC zH m_ <| loN)];rcases zF aa with⟨c0,aa⟩|⟨c0,aa⟩
 ·obtain rfl := za aa
  exact yE X0 hC hE (Z0++[Hq c0])
 ·obtain ⟨g0, aa⟩ := gdE aa
  refine yA X0 hC XT [1,1,1,1] [] [(1,.own (.box (zH m_))),(5,.own (.box (eOs 1 true eB (List.replicate ((m_.Rows.length:Nat):Int).toNat false)))),(6,.own (.box (.atom .nilFunc)))] (Z0++[Hq c0,Ha (lnM yM m_.Rows),Hn (rL g0),Ha (rM 1 eB ((m_.Rows.length:Nat):Int) false),Hh (.cut 1)]) ?_;refine zds (by kernel_rfl) 5 fun kw=>?_
  refine zds (by kernel_rfl) 1 fun kx=>?_
  refine zds (by kernel_rfl) 6 fun ky=>?_
  obtain⟨ah,h1,aa⟩:=zb aa;obtain⟨al,h2,aa⟩:=zb aa;obtain rfl:=za aa;exact yE ((uc (P:=Tryz.prog) yo [5,1,6] (QU hC kw kx ky fuel _ _ _ _ h1) 18).or ((xMk Tryz.prog yo).or X0)) hC hE [Hn (Y6 (f:=.fn 127 [.atom kw,.atom kx,.atom ky]) (xs:=[(eI .i64) 0]) (ls:=[(kw,.box (eOs 1 true eB (List.replicate ((m_.Rows.length:Nat):Int).toNat false))),(kx,.box (.agg [I m_.Inputs,I m_.Outputs,eSl 1 false yM m_.Rows])),(ky,.box (.fn 127 [.atom kw,.atom kx,.atom ky]))]) (r:=.tup []) (ys:=[.box (eOs 1 true eB ah.1),.box (.agg [I ah.2.Inputs,I ah.2.Outputs,eSl 1 false yM ah.2.Rows]),.box (.fn 127 [.atom kw,.atom kx,.atom ky])]) [(eI .i64) 0] (show z0U [(eI .i64) 0] [(eI .i64) 0] from inferInstance)),Hg (z1Y h0D),Hm (shM eB eB ah.1),Hs (z1Z h0D (x:=(ah.1,false)) h2 (loC (eSl 1 true eB) ah.1 <| loC eB false <| loN))]
def KE:Code:=(Tryz.f97.body).getD .skip
def Zb:zJ:=spF (α:=z6) (ρ:=Bool) 97 (fun x=>[z21 x]) (fun r=>eB r) (fun x=>kM x) [] (Vo)
theorem z00 {ctr:Ctr}(hC:zx Tryz.prog ctr)(h1l:ctr.Has jK):Zb.Ok Tryz.prog:=by
 refine zw ?_;rintro x0 r0 aa;try unfold kM at aa;refine yO true [(1,none)] KE 10 Tryz.func97 fun E hE=>?_;obtain⟨r_,h0,aa⟩:=zb aa;obtain rfl:=za aa;exact yE X0 hC hE [Hc h1l (x:=x0) h0 (loC zH x0 <| loN)]
def z2v:Code:=(Tryz.f129.body).getD .skip
def X2:zJ:=spF (α:=z6) (ρ:=z6) 129 (fun x=>[zH x]) (fun r=>(KB 147 z21) r) (fun x=>Xo x) [] (Vo)
theorem z3m {ctr:Ctr}(hC:zx Tryz.prog ctr):X2.Ok Tryz.prog:=by
 refine zw ?_;rintro m_ r0 aa;try unfold Xo at aa;refine yO true [(2,none)] z2v 4 Tryz.func129 fun E hE=>?_;obtain rfl:=za aa;exact yE X0 hC hE []
def YJ:Code:=(Tryz.f167.body).getD .skip
def WX:zJ:=spF (α:=z6×List Int×Int) (ρ:=yV (wp Int)) 167 (fun x=>[zH x.1,F6_ x.2.1,(eI .i64) x.2.2]) (fun r=>F7_ r) (fun x=>jQ x.1 x.2.1 x.2.2) [] (zbg)
abbrev z1A (out:yV (wp Int)):List (Nat×T):=[(6,.own (.box (.agg [.agg [I 0,I 0],.agg [I 0,I 0],.agg [I 0,I 0],.agg [I 0,I 0],.agg [I 0,I 0],.agg [I 0,I 0],.agg [I 0,I 0],.agg [I 0,I 0],.agg [I 0,I 0],.agg [I 0,I 0],.agg [I 0,I 0],.agg [I 0,I 0],.agg [I 0,I 0],.agg [I 0,I 0],.agg [I 0,I 0],.agg [I 0,I 0]]))),(7,.own (.box (F7_ out)))]
abbrev z1z (p_:List Int)(am:List z8)(bo:Int)(ay:yV (wp Int)):List (Nat×T):=[(1,.d (eSl 1 false (eI .i64) p_)),(6,.own (.box (.agg [.agg [I 0,I 0],.agg [I 0,I 0],.agg [I 0,I 0],.agg [I 0,I 0],.agg [I 0,I 0],.agg [I 0,I 0],.agg [I 0,I 0],.agg [I 0,I 0],.agg [I 0,I 0],.agg [I 0,I 0],.agg [I 0,I 0],.agg [I 0,I 0],.agg [I 0,I 0],.agg [I 0,I 0],.agg [I 0,I 0],.agg [I 0,I 0]]))),(7,.own (.box (F7_ ay))),(14,.d (eSl 2 false F8_ am)),(15,.d (I ((am.length:Nat):Int))),(16,.d (I bo))]
abbrev z1y (p_:List Int)(am:List z8)(ai:yV (wp Int))(bo:Int):List (Nat×T):=[(1,.d (eSl 1 false (eI .i64) p_)),(6,.own (.box (.agg [.agg [I 0,I 0],.agg [I 0,I 0],.agg [I 0,I 0],.agg [I 0,I 0],.agg [I 0,I 0],.agg [I 0,I 0],.agg [I 0,I 0],.agg [I 0,I 0],.agg [I 0,I 0],.agg [I 0,I 0],.agg [I 0,I 0],.agg [I 0,I 0],.agg [I 0,I 0],.agg [I 0,I 0],.agg [I 0,I 0],.agg [I 0,I 0]]))),(7,.own (.box (F7_ ai))),(14,.d (eSl 2 false F8_ am)),(15,.d (I ((am.length:Nat):Int))),(16,.d (I bo))]
theorem z5L {ctr:Ctr}(hC:zx Tryz.prog ctr):WX.Ok Tryz.prog:=by
 refine zw ?_;rintro⟨m_,p_,s_⟩ r0 aa;try unfold jQ at aa;refine yO false [(6,some 190)] YJ 39 Tryz.func167 fun E hE=>?_;refine yJ X0 hC YJ [1,1] [] [6,7] (fun z:yV (wp Int)=>Yg z=some r0) (fun z=>z1A z) [(1,.d (eSl 1 false (eI .i64) p_)),(2,.d (I s_)),(3,.own (.box (zH m_))),(6,.own (.box (.agg [.agg [I 0,I 0],.agg [I 0,I 0],.agg [I 0,I 0],.agg [I 0,I 0],.agg [I 0,I 0],.agg [I 0,I 0],.agg [I 0,I 0],.agg [I 0,I 0],.agg [I 0,I 0],.agg [I 0,I 0],.agg [I 0,I 0],.agg [I 0,I 0],.agg [I 0,I 0],.agg [I 0,I 0],.agg [I 0,I 0],.agg [I 0,I 0]]))),(7,.own (.box (.agg [.agg [I 0,I 0],.agg [I 0,I 0],.agg [I 0,I 0],.agg [I 0,I 0],.agg [I 0,I 0],.agg [I 0,I 0],.agg [I 0,I 0],.agg [I 0,I 0],.agg [I 0,I 0],.agg [I 0,I 0],.agg [I 0,I 0],.agg [I 0,I 0],.agg [I 0,I 0],.agg [I 0,I 0],.agg [I 0,I 0],.agg [I 0,I 0]])))] [Hh (.cut 2)] ?_ fun J1 aq=>?_
 ·rintro out aa
  unfold Yg at aa;obtain rfl:=za aa;exact yE X0 hC hE []
 ·obtain ⟨am, h0, aa⟩ := zb aa
  obtain⟨t2,ht2,aa⟩:=zb aa;refine yL X0 hC YJ [1,1,2,1,0] [J1] (fun s=>jO p_ am s.1 s.2) (fun x=>z1y p_ am x.1 x.2) ((yV.mk (wp.mk 0 0) (wp.mk 0 0) (wp.mk 0 0) (wp.mk 0 0) (wp.mk 0 0) (wp.mk 0 0) (wp.mk 0 0) (wp.mk 0 0) (wp.mk 0 0) (wp.mk 0 0) (wp.mk 0 0) (wp.mk 0 0) (wp.mk 0 0) (wp.mk 0 0) (wp.mk 0 0) (wp.mk 0 0)),0) ht2  [Hi yM h0,Ha (lnM F8_ am)] ?_;rintro⟨ai,bo⟩ m2 au ae hl1 J2 av;try unfold jO at ae;rcases zF ae with⟨c0,ae⟩|⟨c0,ae⟩
  ·refine yJ X0 hC YJ [1,1,2,1,0,0,1,1] [J1, J2] [1,6,7,14,15,16] (fun z : yV (wp Int) => jP bo z = some au) (fun z => z1z p_ am bo z) [(1, .d (eSl 1 false (eI .i64) p_)), (6, .own (.box (.agg [.agg [I 0, I 0], .agg [I 0, I 0], .agg [I 0, I 0], .agg [I 0, I 0], .agg [I 0, I 0], .agg [I 0, I 0], .agg [I 0, I 0], .agg [I 0, I 0], .agg [I 0, I 0], .agg [I 0, I 0], .agg [I 0, I 0], .agg [I 0, I 0], .agg [I 0, I 0], .agg [I 0, I 0], .agg [I 0, I 0], .agg [I 0, I 0]]))), (7, .own (.box (F7_ ai))), (14, .d (eSl 2 false F8_ am)), (15, .d (I ((am.length : Nat) : Int))), (16, .d (I bo))] [Hq c0, Hh (.cut 0)] ?_ fun J3 bf => ?_
   ·rintro ay ae
    unfold jP at ae;obtain rfl:=za ae;exact yB X0 hC av (ay,w64 (bo+1)) hl1 []
   ·obtain ⟨ak, h1, ae⟩ := zb ae
    obtain⟨cell,h2,ae⟩:=zb ae;obtain⟨arr,h3,ae⟩:=zb ae;replace h3:=za h3
    let Z0:List HO:=[Hi F8_ h1,Hn (⟨arJ (by kernel_rfl) (i0 h2),(iL F0_ h2).2⟩:YU yo 190 ((yV.toL ai).map F0_) bo=true/\bo.toNat<((yV.toL ai).map F0_).length),Hh (.op 9),Hh (.f),Hs (iM F0_ h2),Hh (.f),Hs (iM F0_ h2),Hx (.l ((yV.toL arr).map F0_)) ((yV.setL F0_ ai bo (wp.mk ak.Out (-1))).trans (congrArg (fun q=>(yV.toL q).map F0_) h3))]
    rcases zF ae with⟨c1,ae⟩|⟨c1,ae⟩
    ·obtain ⟨bt, h4, ae⟩ := zb ae
     obtain⟨a6,h5,ae⟩:=zb ae;obtain⟨arr1,h6,ae⟩:=zb ae;replace h6:=za h6;exact yB X0 hC bf arr1 ae (Z0++[Hq c1,Hi (eI .i64) h4,Hn (⟨arJ (by kernel_rfl) (i0 h5),(iL F0_ h5).2⟩:YU yo 190 ((yV.toL arr).map F0_) bo=true/\bo.toNat<((yV.toL arr).map F0_).length),Hh (.op 2),Hh (.f),Hs (iM F0_ h5),Hn (⟨rfl,by decide⟩:true=true/\1<2),Hh (.op 0),Hh (.f),Hs (iM F0_ h5),Hh (.f),Hx (.a (I a6.e1)) (rfl:some (I a6.e1:A)=some (I a6.e1)),Hh (.f),Hs (iM F0_ h5),Hh (.f),Hx (.a (I a6.e1)) (rfl:some (I a6.e1:A)=some (I a6.e1)),Hx (.l [I a6.e0,I bt]) (rfl:([I a6.e0,I bt]:List A)=[I a6.e0,I bt]),Hx (.l ((yV.toL arr1).map F0_)) ((yV.setL F0_ arr bo (wp.mk a6.e0 bt)).trans (congrArg (fun q=>(yV.toL q).map F0_) h6))])
    ·exact yB X0 hC bf arr ae (Z0++[Hq c1])
  ·obtain rfl := za ae
   obtain rfl:=hl1;exact yB X0 hC aq ai aa [Hq c0]
def jB:Code:=(Tryz.f148.body).getD .skip
def qO:zJ:=spF (α:=z6×List Int) (ρ:=List Int) 148 (fun x=>[zH x.1,F6_ x.2]) (fun r=>F3_ r) (fun x=>jR x.1 x.2) [] (VO)
abbrev JY (out:List Int):List (Nat×T):=[(6,.own (eOs 1 true (eI .i64) out))]
abbrev JX (m_:z6)(p_:List Int)(ai:List Int)(de:Int)(bt:Int)(r_:yV (wp Int))(db:List (zA×Int)):List (Nat×T):=[(1,.d (eSl 1 false (eI .i64) p_)),(2,.own (.box (zH m_))),(5,.own (.opq (z38 (Q1 z23 (eI .i64) db)))),(6,.own (eOs 1 true (eI .i64) ai)),(7,.d (I de)),(9,.own (.box (.agg [I bt,F7_ r_]))),(16,.d (eSl 1 false (eI .i64) p_)),(17,.d (I ((p_.length:Nat):Int))),(18,.d (I de))]
abbrev JW (m_:z6)(p_:List Int)(names:List (zA×Int))(ai:List Int)(de:Int):List (Nat×T):=[(1,.d (eSl 1 false (eI .i64) p_)),(2,.own (.box (zH m_))),(5,.own (.opq (z38 (Q1 z23 (eI .i64) names)))),(6,.own (eOs 1 true (eI .i64) ai)),(16,.d (eSl 1 false (eI .i64) p_)),(17,.d (I ((p_.length:Nat):Int))),(18,.d (I de))]
theorem z27 {ctr:Ctr}(hC:zx Tryz.prog ctr)(h1m:ctr.Has WX):qO.Ok Tryz.prog:=by
 refine zw ?_;rintro⟨m_,p_⟩ r0 aa;try unfold jR at aa;refine yO true [(4,none)] jB 49 Tryz.func148 fun E hE=>?_;obtain⟨g0,aa⟩:=gdE aa;refine yJ ((zmz Tryz.prog 12).or X0) hC jB [1,1,1] [] [6] (fun z:List Int=>qQ z=some r0) (fun z=>JY z) [(1,.d (eSl 1 false (eI .i64) p_)),(2,.own (.box (zH m_))),(5,.own (.opq (z38 (Q1 z23 (eI .i64) ([]:List (zA×Int)))))),(6,.own (eOs 1 true (eI .i64) (List.replicate ((p_.length:Nat):Int).toNat (0:Int))))] [Ha (lnM (eI .i64) p_),Hn (rL g0),Ha (rM 1 (eI .i64) ((p_.length:Nat):Int) (0:Int)),Hh (.cut 0)] ?_ fun J1 aq=>?_
 ·rintro out aa
  unfold qQ at aa;obtain rfl:=za aa;exact yE X0 hC hE []
 ·obtain ⟨t2, ht2, aa⟩ := zb aa
  refine yL X0 hC jB [1,1,1,2,1,0] [J1] (fun s=>vI m_ p_ s.1 s.2.1 s.2.2) (fun x=>JW m_ p_ x.1 x.2.1 x.2.2) (([]:List (zA×Int)),(List.replicate ((p_.length:Nat):Int).toNat (0:Int)),0) ht2  [Ha (lnM (eI .i64) p_)] ?_;rintro⟨names,ai,de⟩ m2 au ae hl1 J2 av;try unfold vI at ae;rcases zF ae with⟨c0,ae⟩|⟨c0,ae⟩
  ·obtain ⟨bt, h0, ae⟩ := zb ae
   obtain⟨r_,h1,ae⟩:=zb ae;refine yJ X0 hC jB [1,1,1,2,1,0,0,1,1,0,0,1,1] [J1,J2] [1,2,5,6,7,9,16,17,18] (fun z:List (zA×Int)=>wv ai de bt r_ z=some au) (fun z=>JX m_ p_ ai de bt r_ z) [(1,.d (eSl 1 false (eI .i64) p_)),(2,.own (.box (zH m_))),(5,.own (.opq (z38 (Q1 z23 (eI .i64) names)))),(6,.own (eOs 1 true (eI .i64) ai)),(7,.d (I de)),(9,.own (.box (.agg [I bt,F7_ r_]))),(16,.d (eSl 1 false (eI .i64) p_)),(17,.d (I ((p_.length:Nat):Int))),(18,.d (I de))] [Hq c0,Hi (eI .i64) h0,Hc h1m (x:=(m_,p_,de)) h1 (loC zH m_ <| loC F6_ p_ <| loC (eI .i64) de <| loN),Hh (.cut 0)] ?_ fun J3 bf=>?_
   ·rintro db ae
    unfold wv at ae;obtain⟨val,h2,ae⟩:=zb ae;replace h2:=za h2;obtain⟨bp,h3,ae⟩:=zb ae;obtain rfl:=za ae;exact yB ((zgw z8E 45 (Q1 z23 (eI .i64) db)).or X0) hC av (db,(ai.set de.toNat val),w64 (de+1)) hl1 [Hn (⟨rfl,rfl,zdb (fun _=>rfl) db⟩:A.opq (z38 (Q1 z23 (eI .i64) db))=A.opq (z38 (Q1 z23 (eI .i64) db))/\(z4Q [.i64,.i64,.i64,.i64,.i64,.i64,.i64,.i64,.i64,.i64,.i64,.i64,.i64,.i64,.i64,.i64,.i64,.i64,.i64,.i64,.i64,.i64,.i64,.i64,.i64,.i64,.i64,.i64,.i64,.i64,.i64,.i64,.i64]) (z23 (zA.mk bt r_))=true/\∀p∈Q1 z23 (eI .i64) db,(z4Q [.i64,.i64,.i64,.i64,.i64,.i64,.i64,.i64,.i64,.i64,.i64,.i64,.i64,.i64,.i64,.i64,.i64,.i64,.i64,.i64,.i64,.i64,.i64,.i64,.i64,.i64,.i64,.i64,.i64,.i64,.i64,.i64,.i64]) p.1=true),Hx (.a ((eI .i64) val)) ((zpT (f:=z23) (g:=(eI .i64)) (z0:=0) (z:=.atom (.int .i64 0)) rfl (zA.mk bt r_) db).trans (congrArg (eI .i64) h2)),Hn (iL (eI .i64) h3),Hs (iM (eI .i64) h3),Hs (iM (eI .i64) h3),Hl (sM (eI .i64) ai de val)]
   ·obtain ⟨l4, h4, ae⟩ := zb ae
    replace h4:=za h4
    let Z0:List HO:=[Hn (⟨rfl,rfl,zdb (fun _=>rfl) names⟩:A.opq (z38 (Q1 z23 (eI .i64) names))=A.opq (z38 (Q1 z23 (eI .i64) names))/\(z4Q [.i64,.i64,.i64,.i64,.i64,.i64,.i64,.i64,.i64,.i64,.i64,.i64,.i64,.i64,.i64,.i64,.i64,.i64,.i64,.i64,.i64,.i64,.i64,.i64,.i64,.i64,.i64,.i64,.i64,.i64,.i64,.i64,.i64]) (z23 (zA.mk bt r_))=true/\∀p∈Q1 z23 (eI .i64) names,(z4Q [.i64,.i64,.i64,.i64,.i64,.i64,.i64,.i64,.i64,.i64,.i64,.i64,.i64,.i64,.i64,.i64,.i64,.i64,.i64,.i64,.i64,.i64,.i64,.i64,.i64,.i64,.i64,.i64,.i64,.i64,.i64,.i64,.i64]) p.1=true),Hx (.a (.tup [I l4,B ((z37 names (zA.mk bt r_)).isSome)])) ((zpS (f:=z23) (g:=(eI .i64)) (z0:=0) (z:=.atom (.int .i64 0)) rfl (zA.mk bt r_) names).trans (congrArg (fun x=>A.tup [(eI .i64) x,.atom (.bool (z37 names (zA.mk bt r_)).isSome)]) h4))];rcases zF ae with⟨c1,ae⟩|⟨c1,ae⟩
    ·exact yB ((zph z8E 37 (Q1 z23 (eI .i64) names) (Q1 z23 (eI .i64) (zbd names (zA.mk bt r_) ((names.length:Nat):Int)))).or ((zmA z8E 40 (Q1 z23 (eI .i64) names)).or ((zgw z8E 32 (Q1 z23 (eI .i64) names)).or X0))) hC bf (zbd names (zA.mk bt r_) ((names.length:Nat):Int)) ae (Z0++[Hq c1,Hn (rfl:A.opq (z38 (Q1 z23 (eI .i64) names))=A.opq (z38 (Q1 z23 (eI .i64) names))),Hx (aLn names.length) (zhW z23 (eI .i64) names),Hn (⟨rfl,rfl,rfl,rfl,zdb (fun _=>rfl) names⟩:T.own (.opq (z38 (Q1 z23 (eI .i64) names)))=T.own (.opq (z38 (Q1 z23 (eI .i64) names)))/\0=0/\(z4Q [.i64,.i64,.i64,.i64,.i64,.i64,.i64,.i64,.i64,.i64,.i64,.i64,.i64,.i64,.i64,.i64,.i64,.i64,.i64,.i64,.i64,.i64,.i64,.i64,.i64,.i64,.i64,.i64,.i64,.i64,.i64,.i64,.i64]) (z23 (zA.mk bt r_))=true/\((eI .i64) ((names.length:Nat):Int)).isD=true/\∀p∈Q1 z23 (eI .i64) names,(z4Q [.i64,.i64,.i64,.i64,.i64,.i64,.i64,.i64,.i64,.i64,.i64,.i64,.i64,.i64,.i64,.i64,.i64,.i64,.i64,.i64,.i64,.i64,.i64,.i64,.i64,.i64,.i64,.i64,.i64,.i64,.i64,.i64,.i64]) p.1=true),Hn (zhu (f:=z23) (g:=(eI .i64)) (zA.mk bt r_) ((names.length:Nat):Int) names)])
    ·exact yB ((zgw z8E 32 (Q1 z23 (eI .i64) names)).or X0) hC bf names ae (Z0++[Hq c1])
  ·obtain rfl := za ae
   obtain rfl:=hl1;exact yB X0 hC aq ai aa [Hq c0]
def q9:Code:=(Tryz.f82.body).getD .skip
def xH:zJ:=spF (α:=List Int×List Int) (ρ:=Bool) 82 (fun x=>[F6_ x.1,F6_ x.2]) (fun r=>eB r) (fun x=>xP x.1 x.2) [] (VO)
abbrev VY:List (Nat×T):=[]
abbrev VX (s1:List Int)(s2:List Int)(cq:Int):List (Nat×T):=[(0,.d (eSl 1 false (eI .i64) s1)),(1,.d (eSl 1 false (eI .i64) s2)),(12,.d (I ((s1.length:Nat):Int))),(13,.d (I cq))]
theorem QS {ctr:Ctr}(hC:zx Tryz.prog ctr):xH.Ok Tryz.prog:=by
 refine zw ?_;rintro⟨s1,s2⟩ r0 aa;try unfold xP at aa;refine yO true [(4,none)] q9 26 Tryz.func82 fun E hE=>?_
 let Z0:List HO:=[Ha (lnM (eI .i64) s1),Ha (lnM (eI .i64) s2)];rcases zF aa with⟨c0,aa⟩|⟨c0,aa⟩
 ·obtain rfl := za aa
  exact yE X0 hC hE (Z0++[Hq c0])
 ·refine yJ X0 hC q9 [1,1] [] [] (fun z : Unit => wN = some r0) (fun z => VY) [(0, .d (eSl 1 false (eI .i64) s1)), (1, .d (eSl 1 false (eI .i64) s2))] (Z0 ++ [Hq c0, Hh (.cut 0)]) ?_ fun J1 aq => ?_
  ·rintro ⟨⟩ aa
   unfold wN at aa;obtain rfl:=za aa;exact yE X0 hC hE []
  ·obtain ⟨t2, ht2, aa⟩ := zb aa
   refine yL X0 hC q9 [1,1,2,1,0] [J1] (fun s=>yQ s1 s2 s) (fun x=>VX s1 s2 x) 0 ht2  [Ha (lnM (eI .i64) s1)] ?_;rintro cq m2 au ae hl1 J2 av;try unfold yQ at ae;rcases zF ae with⟨c1,ae⟩|⟨c1,ae⟩
   ·obtain ⟨ft, h0, ae⟩ := zb ae
    obtain⟨dp,h1,ae⟩:=zb ae
    let Z1:List HO:=[Hq c1,Hi (eI .i64) h0,Hi (eI .i64) h1];rcases zF ae with⟨c2,ae⟩|⟨c2,ae⟩
    ·obtain rfl := za ae
     obtain rfl:=hl1;obtain rfl:=za aa;exact yE X0 hC hE (Z1++[Hq c2])
    ·obtain rfl := za ae
     exact yB X0 hC av (w64 (cq+1)) hl1 (Z1++[Hq c2])
   ·obtain rfl := za ae
    obtain rfl:=hl1;exact yB X0 hC aq () aa [Hq c1]
def Vw:Code:=(Tryz.f147.body).getD .skip
abbrev Jd {σ:Type}(x0:z6)(YY:σ->z6G)(cb:σ)(p_:List Int):List (Nat×T):=[(0,.own (.opq (YY cb).q)),(1,.d (.sptr (zH x0))),(3,.own (eOs 1 true (eI .i64) p_))]
theorem z0Y {ctr:Ctr}(hC:zx Tryz.prog ctr)(h0s:ctr.Has qO)(h09:ctr.Has xH)(x0:z6):za1 Tryz.prog (.fn 147 [.sptr (.agg [I x0.Inputs,I x0.Outputs,eSl 1 false yM x0.Rows])]) (fun(x:List Int) (_:Bool) (_:Value)=>[F6_ x]) (@qn x0):=by
 refine z7o (tt:=yo) (nt:=19) (body:=Vw) zy Tryz.func147 rfl (by kernel_rfl) rfl rfl (by show(2:Nat)<=19;decide) ?_
 intro σ yv YY yy hy sg r0 aa E hE;unfold qn at aa;obtain⟨g0,aa⟩:=gdE aa;obtain⟨t1,ht1,aa⟩:=zb aa;refine yL X0 hC Vw [1,0] [] (fun s=>v7 x0 yy s.1 s.2) (fun x=>Jd x0 YY x.1 x.2) (sg,(List.replicate ((x0.Rows.length:Nat):Int).toNat (0:Int))) ht1  [Ha (lnM yM x0.Rows),Hn (rL g0),Ha (rM 1 (eI .i64) ((x0.Rows.length:Nat):Int) (0:Int))] ?_;rintro⟨cb,p_⟩ m1 au ae hl1 J1 aq;try unfold v7 at ae;obtain⟨yr,h0,ae⟩:=zb ae
 let Z0:List HO:=[Hm (shM (eI .i64) (eI .i64) p_),Hn (z6Z (yv:=yv) (Y:=YY) (enc:=(fun(x:List Int) (_:Bool) (_:Value)=>[F6_ x])) (s:=cb) (x:=p_) (s':=yr.1) (b:=yr.2) (v:=.nilFunc) [F2_ p_] (show z0U [F2_ p_] [F6_ p_] from inferInstance))];rcases zF ae with⟨c0,ae⟩|⟨c0,ae⟩
 ·obtain ⟨r_, h1, ae⟩ := zb ae
  obtain⟨ah,h2,ae⟩:=zb ae
  let Z1:List HO:=(Z0++[Hq c0,Hc h0s (x:=(x0,p_)) h1 (loC zH x0 <| loC F2_ p_ <| loN),Hg (z1Y h09),Hm (shM (eI .i64) (eI .i64) r_),Hs (z1Z h09 (x:=(p_,r_)) h2 (loC F2_ p_ <| loC F2_ r_ <| loN))]);rcases zF ae with⟨c1,ae⟩|⟨c1,ae⟩
  ·obtain rfl := za ae
   obtain rfl:=hl1;obtain rfl:=za aa;exact yF ((z0V (P:=Tryz.prog) yo hy 11 (s:=cb) (x:=p_) (s':=yr.1) (b:=yr.2) .nilFunc h0).or X0) hC .ret [(0,.own (.opq (YY yr.1).q))] (Z1++[Hq c1]) fun st0 h0=>hE _ st0 (.inr rfl) h0
  ·obtain rfl := za ae
   exact yB ((z0V (P:=Tryz.prog) yo hy 11 (s:=cb) (x:=p_) (s':=yr.1) (b:=yr.2) .nilFunc h0).or X0) hC aq (yr.1,r_) hl1 (Z1++[Hq c1])
 ·obtain rfl := za ae
  obtain rfl:=hl1;obtain rfl:=za aa;exact yF ((z0V (P:=Tryz.prog) yo hy 11 (s:=cb) (x:=p_) (s':=yr.1) (b:=yr.2) .nilFunc h0).or X0) hC .normal [(0,.own (.opq (YY yr.1).q))] (Z0++[Hq c0]) fun st0 h0=>hE _ st0 (.inl rfl) h0
def wy:Code:=(Tryz.f100.body).getD .skip
def Y8:zJ:=spF (α:=z6) (ρ:=List Int×Int×Int) 100 (fun x=>[zH x]) (fun r=>.tup [F6_ r.1,(eI .i64) r.2.1,(eI .i64) r.2.2]) (fun x=>jS x) [] (Vo)
abbrev JZ (p_:List Int)(n_:Int):List (Nat×T):=[(2,.own (.box (eSl 1 false (eI .i64) p_))),(3,.own (.box (I n_)))]
abbrev XX (ah:z6)(il:List Int)(cw:Int):List (Nat×T):=[(2,.own (.box (eSl 1 false (eI .i64) il))),(3,.own (.box (I cw))),(13,.d (.fn 147 [.sptr (.agg [I ah.Inputs,I ah.Outputs,eSl 1 false yM ah.Rows])]))]
theorem z28 {ctr:Ctr}(hC:zx Tryz.prog ctr)(h02:ctr.Has xx)(h1n:ctr.Has X2)(h0s:ctr.Has qO)(h09:ctr.Has xH):Y8.Ok Tryz.prog:=by
 refine zw ?_;rintro m_ r0 aa;try unfold jS at aa;refine yO false [(2,some 40),(3,some 3),(4,none)] wy 20 Tryz.func100 fun E hE=>?_;obtain⟨r_,h0,aa⟩:=zb aa
 let Z0:List HO:=[Hh (.v 2 [2]),Hm (shM (eI .i64) (eI .i64) []),Hc h02 (x:=m_) h0 (loC zH m_ <| loN)];rcases zF aa with⟨c0,aa⟩|⟨c0,aa⟩
 ·obtain rfl := za aa
  exact yEx X0 hC hE (Z0++[Hq c0,Hm (shM (eI .i64) (eI .i64) [])]) (.tup [eSl 1 true (eI .i64) [],I 0,I r_]) (show LeV (.tup [eSl 1 true (eI .i64) [],I 0,I r_]) (.tup [eSl 1 false (eI .i64) ([]:List Int),I 0,I r_]) from inferInstance)
 ·refine yJ X0 hC wy [1,1,1] [] [2,3] (fun z : List Int × Int => qR z.1 z.2 = some r0) (fun z => JZ z.1 z.2) [(1, .own (.box (zH m_))), (2, .own (.box (eSl 1 true (eI .i64) []))), (3, .own (.box (I (-1))))] (Z0 ++ [Hq c0, Hh (.cut 1)]) ?_ fun J1 aq => ?_
  ·rintro ⟨p_, n_⟩ aa
   unfold qR at aa;obtain rfl:=za aa;exact yE X0 hC hE []
  ·obtain ⟨ah, h1, aa⟩ := zb aa
   obtain⟨t2,ht2,aa⟩:=zb aa;refine yAt X0 hC (sub [1,1,1,2,1,0] wy) (frs [1,1,1,2,1,0] [J1] wy []) [(2,.own (.box (eSl 1 true (eI .i64) []))),(3,.own (.box (I (-1)))),(13,.d (.fn 147 [.sptr (.agg [I ah.Inputs,I ah.Outputs,eSl 1 false yM ah.Rows])]))] [Hc h1n (x:=m_) h1 (loC zH m_ <| loN)] fun st0 h0=>?_;refine z0q (g:=.tmp 13) (ps:=[14]) (assign:=(sub [1,1,1,2,1,0,0] wy)) (body:=(sub [1,1,1,2,1,0,1] wy)) (K:=147) (caps:=[.sptr (.agg [I ah.Inputs,I ah.Outputs,eSl 1 false yM ah.Rows])]) (by kernel_rfl) [2,3,13] (fun s=>XX ah s.1 s.2) (fun z=>nomatch z) (fun z=>nomatch z) ((fun(x:List Int) (_:Bool) (_:Value)=>[F6_ x])) (F:=@qn ah) (fun s x=>ww s.1 s.2 x) (([]:List Int),(-1)) t2 _ h0 inferInstance (by kernel_rfl) (by decide) (fun _=>rfl) (by rintro⟨⟩) (by kernel_rfl) (fun _ _ _=>rfl) (z0Y hC h0s h09 ah) ht2 ?_ ?_
   ·rintro ln ⟨il, cw⟩ ce vr au ae
    replace ae:ww il cw ce=some au:=ae;unfold ww at ae;refine yF X0 hC .normal [(2,.own (.box (eSl 1 false (eI .i64) il))),(3,.own (.box (I cw))),(6,.d (eSl 1 false (eI .i64) ce)),(13,.d (.fn 147 [.sptr (.agg [I ah.Inputs,I ah.Outputs,eSl 1 false yM ah.Rows])]))] [] fun st0 h0=>⟨rfl,z7G h0 ?_⟩;obtain rfl:=za ae;exact yF X0 hC .normal (XX ah ce (w64 (cw+1))) [] fun st0 h0=>⟨rfl,_,h0,LeL.refl _⟩
   ·rcases t2 with ⟨il, cw⟩ | z
    ·dsimp only at aa
     exact XU (by kernel_rfl) (aq _ [(2,.own (.box (eSl 1 false (eI .i64) il))),(3,.own (.box (I cw)))] (il,cw) aa (show Own.canon [2,3] _=ofL _ by kernel_rfl) inferInstance)
    ·cases z
def kA:Code:=(Tryz.f101.body).getD .skip
def jI:zJ:=spF (α:=List Int) (ρ:=Int) 101 (fun x=>[F6_ x]) (fun r=>(eI .i64) r) (fun x=>vG x) [] (Vo)
abbrev Q5 (m_:Int):List (Nat×T):=[(3,.d (I m_))]
abbrev Q4 (x_:List Int)(ju:Int)(i_:Int):List (Nat×T):=[(0,.d (eSl 1 false (eI .i64) x_)),(3,.d (I ju)),(4,.d (I i_))]
theorem Kv {ctr:Ctr}(hC:zx Tryz.prog ctr):jI.Ok Tryz.prog:=by
 refine zw ?_;rintro x_ r0 aa;try unfold vG at aa;refine yO true [(2,none)] kA 25 Tryz.func101 fun E hE=>?_;rcases zF aa with⟨c0,aa⟩|⟨c0,aa⟩
 ·cases aa
 ·obtain ⟨j9, h0, aa⟩ := zb aa
  refine yJ X0 hC kA [1,1,1] [] [3] (fun z:Int=>vF z=some r0) (fun z=>Q5 z) [(0,.d (eSl 1 false (eI .i64) x_)),(3,.d (I j9))] [Ha (lnM (eI .i64) x_),Hq c0,Hi (eI .i64) h0,Hh (.cut 0)] ?_ fun J1 aq=>?_
  ·rintro m_ aa
   unfold vF at aa;obtain rfl:=za aa;exact yE X0 hC hE []
  ·obtain ⟨t2, ht2, aa⟩ := zb aa
   refine yL X0 hC kA [1,1,1,2,1,0] [J1] (fun s=>wj x_ s.1 s.2) (fun x=>Q4 x_ x.1 x.2) (j9,1) ht2  [] ?_;rintro⟨ju,i_⟩ m2 au ae hl1 J2 av;try unfold wj at ae;rcases zF ae with⟨c1,ae⟩|⟨c1,ae⟩
   ·obtain ⟨j8, h1, ae⟩ := zb ae
    obtain rfl:=za ae;exact yB X0 hC av ((mx ju j8),w64 (i_+1)) hl1 [Ha (lnM (eI .i64) x_),Hq c1,Hi (eI .i64) h1]
   ·obtain rfl := za ae
    obtain rfl:=hl1;exact yB X0 hC aq ju aa [Ha (lnM (eI .i64) x_),Hq c1]
def KD:Code:=(Tryz.f99.body).getD .skip
def Za:zJ:=spF (α:=z6) (ρ:=Bool) 99 (fun x=>[z21 x]) (fun r=>eB r) (fun x=>kL x) [] (Vo)
theorem KZ {ctr:Ctr}(hC:zx Tryz.prog ctr)(h1o:ctr.Has Y8)(h1p:ctr.Has jI):Za.Ok Tryz.prog:=by
 refine zw ?_;rintro x0 r0 aa;try unfold kL at aa;refine yO true [(1,none)] KD 17 Tryz.func99 fun E hE=>?_;obtain⟨r_,h0,aa⟩:=zb aa;obtain⟨ah,h1,aa⟩:=zb aa;obtain rfl:=za aa;exact yE X0 hC hE [Hc h1o (x:=x0) h0 (loC zH x0 <| loN),Hc h1p (x:=r_.1) h1 (loC F6_ r_.1 <| loN),Ha (lnM (eI .i64) r_.1)]
def Vx:Code:=(Tryz.f36.body).getD .skip
def wX:zJ:=spF (α:=z6) (ρ:=Int) 36 (fun x=>[zH x]) (fun r=>(eI .i64) r) (fun x=>xR x) [] (Vo)
abbrev Je:List (Nat×T):=[]
theorem z0Z {ctr:Ctr}(hC:zx Tryz.prog ctr)(h02:ctr.Has xx)(h1q:ctr.Has Yc)(h1r:ctr.Has Zc)(h1s:ctr.Has Zb)(h1t:ctr.Has Za):wX.Ok Tryz.prog:=by
 refine zw ?_;rintro m_ r0 aa;try unfold xR at aa;refine yO true [(2,none)] Vx 23 Tryz.func36 fun E hE=>?_;obtain⟨r_,h0,aa⟩:=zb aa
 let Z0:List HO:=[Hc h02 (x:=m_) h0 (loC zH m_ <| loN)];rcases zF aa with⟨c0,aa⟩|⟨c0,aa⟩
 ·obtain rfl := za aa
  exact yE X0 hC hE (Z0++[Hq c0])
 ·refine yJ X0 hC Vx [1,1] [] [] (fun z : Unit => uP = some r0) (fun z => Je) [(1, .own (.box (zH m_)))] (Z0 ++ [Hq c0, Hh (.cut 0)]) ?_ fun J1 aq => ?_
  ·rintro ⟨⟩ aa
   unfold uP at aa;obtain rfl:=za aa;exact yE X0 hC hE []
  ·obtain ⟨ah, h1, aa⟩ := zb aa
   obtain⟨al,h2,aa⟩:=zb aa
   let Z1:List HO:=[Hc h1q (x:=m_) h1 (loC zH m_ <| loN),Hh (.u 70),qT,Hc h1r (x:=ah.1.2) h2 (loC z21 ah.1.2 <| loN)];rcases zF aa with⟨c1,aa⟩|⟨c1,aa⟩
   ·obtain rfl := za aa
    exact yE X0 hC hE (Z1++[Hq c1])
   ·obtain ⟨aw, h3, aa⟩ := zb aa
    let Z2:List HO:=(Z1++[Hq c1,qT,Hc h1s (x:=ah.2.1.2) h3 (loC z21 ah.2.1.2 <| loN)]);rcases zF aa with⟨c2,aa⟩|⟨c2,aa⟩
    ·obtain rfl := za aa
     exact yE X0 hC hE (Z2++[Hq c2])
    ·obtain ⟨bk, h4, aa⟩ := zb aa
     let Z3:List HO:=(Z2++[Hq c2,qT,Hc h1t (x:=ah.2.2.2) h4 (loC z21 ah.2.2.2 <| loN)]);rcases zF aa with⟨c3,aa⟩|⟨c3,aa⟩
     ·obtain rfl := za aa
      exact yE X0 hC hE (Z3++[Hq c3])
     ·exact yB X0 hC aq () aa (Z3++[Hq c3,qF])
def z5l:Code:=(Tryz.f51.body).getD .skip
def wY:zJ:=spF (α:=Int) (ρ:=Int) 51 (fun x=>[(eI .i64) x]) (fun r=>(KB 80 (eSp (eI .i64))) r) (fun x=>uJ x) [] (Vo)
theorem z5W {ctr:Ctr}(hC:zx Tryz.prog ctr):wY.Ok Tryz.prog:=by
 refine zw ?_;rintro n_ r0 aa;try unfold uJ at aa;refine yO true [(2,none)] z5l 4 Tryz.func51 fun E hE=>?_;obtain rfl:=za aa;exact yE X0 hC hE []
def kX:Code:=(Tryz.f80.body).getD .skip
abbrev KT {σ:Type}(x0:Int)(YY:σ->z6G)(x6:Int)(fq:σ):List (Nat×T):=[(0,.own (.opq (YY fq).q)),(1,.d (.sptr (I x0))),(5,.d (I x0)),(6,.d (I x6))]
abbrev KR {σ:Type}(x0:Int)(YY:σ->z6G)(x6:Int)(cr:σ)(b_:Int):List (Nat×T):=[(0,.own (.opq (YY cr).q)),(1,.d (.sptr (I x0))),(3,.d (I x6)),(4,.d (I b_)),(5,.d (I x0)),(6,.d (I x6))]
abbrev KS {σ:Type}(x0:Int)(YY:σ->z6G)(cb:σ)(x6:Int):List (Nat×T):=[(0,.own (.opq (YY cb).q)),(1,.d (.sptr (I x0))),(5,.d (I x0)),(6,.d (I x6))]
theorem Zq {ctr:Ctr}(hC:zx Tryz.prog ctr)(x0:Int):za1 Tryz.prog (.fn 80 [.sptr (I x0)]) (fun(x:Int×Int) (_:Bool) (_:Value)=>[(eI .i64) x.1,(eI .i64) x.2]) (@yN x0):=by
 refine z7o (tt:=yo) (nt:=22) (body:=kX) zy Tryz.func80 rfl (by kernel_rfl) rfl rfl (by show(2:Nat)<=22;decide) ?_
 intro σ yv YY yy hy sg r0 aa E hE;unfold yN at aa;obtain⟨t1,ht1,aa⟩:=zb aa;refine yL X0 hC kX [1,0] [] (fun s=>kS x0 yy s.1 s.2) (fun x=>KS x0 YY x.1 x.2) (sg,0) ht1  [] ?_;rintro⟨cb,x6⟩ m1 au ae hl1 J1 aq;try unfold kS at ae;rcases zF ae with⟨c0,ae⟩|⟨c0,ae⟩
 ·refine yJ X0 hC kX [1,0,0,1,1] [J1] [0,1,5,6] (fun z : σ => kT x6 z = some au) (fun z => KT x0 YY x6 z) [(0, .own (.opq (YY cb).q)), (1, .d (.sptr (I x0))), (5, .d (I x0)), (6, .d (I x6))] [Hq c0, Hh (.cut 0)] ?_ fun J2 av => ?_
  ·rintro fq ae
   unfold kT at ae;obtain rfl:=za ae;exact yB X0 hC aq (fq,w64 (x6+1)) hl1 []
  ·obtain ⟨t3, ht3, ae⟩ := zb ae
   refine yL X0 hC kX [1,0,0,1,1,2,0,1,1,0] [J1,J2] (fun s=>uz x0 yy x6 s.1 s.2) (fun x=>KR x0 YY x6 x.1 x.2) (cb,w64 (x6+1)) ht3  [] ?_;rintro⟨cr,b_⟩ m3 co aj hl2 J3 bf;try unfold uz at aj;rcases zF aj with⟨c1,aj⟩|⟨c1,aj⟩
   ·obtain ⟨yr, h0, aj⟩ := zb aj
    let Z0:List HO:=[Hq c1,Hn (z6Z (yv:=yv) (Y:=YY) (enc:=(fun(x:Int×Int) (_:Bool) (_:Value)=>[(eI .i64) x.1,(eI .i64) x.2])) (s:=cr) (x:=(x6,b_)) (s':=yr.1) (b:=yr.2) (v:=.nilFunc) [(eI .i64) x6,(eI .i64) b_] (show z0U [(eI .i64) x6,(eI .i64) b_] [(eI .i64) x6,(eI .i64) b_] from inferInstance))];rcases zF aj with⟨c2,aj⟩|⟨c2,aj⟩
    ·obtain rfl := za aj
     obtain rfl:=hl2;obtain rfl:=za ae;obtain rfl:=hl1;obtain rfl:=za aa;exact yF ((z0V (P:=Tryz.prog) yo hy 19 (s:=cr) (x:=(x6,b_)) (s':=yr.1) (b:=yr.2) .nilFunc h0).or X0) hC .ret [(0,.own (.opq (YY yr.1).q))] (Z0++[Hq c2]) fun st0 h0=>hE _ st0 (.inr rfl) h0
    ·obtain rfl := za aj
     exact yB ((z0V (P:=Tryz.prog) yo hy 19 (s:=cr) (x:=(x6,b_)) (s':=yr.1) (b:=yr.2) .nilFunc h0).or X0) hC bf (yr.1,w64 (b_+1)) hl2 (Z0++[Hq c2])
   ·obtain rfl := za aj
    obtain rfl:=hl2;exact yB X0 hC av cr ae [Hq c1]
 ·obtain rfl := za ae
  obtain rfl:=hl1;obtain rfl:=za aa;exact yF X0 hC .normal [(0,.own (.opq (YY cb).q))] [Hq c0] fun st0 h0=>hE _ st0 (.inl rfl) h0
def z5n:Code:=(Tryz.f38.body).getD .skip
def V9:zJ:=spF (α:=Int×Int) (ρ:=Bool) 38 (fun x=>[(eI .i64) x.1,(eI .i64) x.2]) (fun r=>eB r) (fun x=>Un x.1 x.2) [] (VO)
theorem z5Z {ctr:Ctr}(hC:zx Tryz.prog ctr):V9.Ok Tryz.prog:=by
 refine zw ?_;rintro⟨a_,b_⟩ r0 aa;try unfold Un at aa;refine yO true [(4,none)] z5n 5 Tryz.func38 fun E hE=>?_;obtain rfl:=za aa;exact yE X0 hC hE []
def z2u:Code:=(Tryz.f131.body).getD .skip
def ug:zJ:=spF (α:=Int×z6) (ρ:=Bool) 131 (fun x=>[(eI .i64) x.1,z21 x.2]) (fun r=>eB r) (fun x=>Zh x.1 x.2) [] (VO)
theorem z3k {ctr:Ctr}(hC:zx Tryz.prog ctr):ug.Ok Tryz.prog:=by
 refine zw ?_;rintro⟨s_,x1⟩ r0 aa;try unfold Zh at aa;refine yO true [(3,none)] z2u 13 Tryz.func131 fun E hE=>?_;rcases zF aa with⟨c0,aa⟩|⟨c0,aa⟩
 ·obtain rfl := za aa
  exact yE X0 hC hE (rpN 6 (Hq c0) [])
 ·obtain rfl := za aa
  exact yE X0 hC hE (rpN 4 (Hq c0) [Ha (lnM yM x1.Rows),Hq c0,Hq c0])
def w5:Code:=(Tryz.f149.body).getD .skip
def uh:zJ:=spF (α:=List Int×z6) (ρ:=Int) 149 (fun x=>[F6_ x.1,(KB 131 z21) x.2]) (fun r=>(eI .i64) r) (fun x=>yx x.1 x.2) [] (by
 rintro⟨a0,a1⟩ ⟨b0,b1⟩ h;have e0:=ZZ.inj (f:=F6_) _ _ (List.cons.inj h).1;replace h:=(List.cons.inj h).2;have e1:=ZZ.inj (f:=(KB 131 z21)) _ _ (List.cons.inj h).1;subst e0 e1;rfl)
abbrev Y3:List (Nat×T):=[]
abbrev Y2 (s_:List Int)(f_:z6)(x8:Int):List (Nat×T):=[(0,.d (eSl 1 false (eI .i64) s_)),(1,.d (.fn 131 [.sptr (.agg [I f_.Inputs,I f_.Outputs,eSl 1 false yM f_.Rows])])),(7,.d (I ((s_.length:Nat):Int))),(8,.d (I x8))]
theorem XB {ctr:Ctr}(hC:zx Tryz.prog ctr)(h0a:ctr.Has ug):uh.Ok Tryz.prog:=by
 refine zw ?_;rintro⟨s_,f_⟩ r0 aa;try unfold yx at aa;refine yO true [(4,none)] w5 19 Tryz.func149 fun E hE=>?_;refine yJ X0 hC w5 [1] [] [] (fun z:Unit=>xY=some r0) (fun z=>Y3) [(0,.d (eSl 1 false (eI .i64) s_)),(1,.d (.fn 131 [.sptr (.agg [I f_.Inputs,I f_.Outputs,eSl 1 false yM f_.Rows])]))] [Hh (.cut 1)] ?_ fun J1 aq=>?_
 ·rintro ⟨⟩ aa
  unfold xY at aa;obtain rfl:=za aa;exact yE X0 hC hE []
 ·obtain ⟨t2, ht2, aa⟩ := zb aa
  refine yL X0 hC w5 [1,2,1,0] [J1] (fun s=>zZ s_ f_ s) (fun x=>Y2 s_ f_ x) 0 ht2  [Ha (lnM (eI .i64) s_)] ?_;rintro x8 m2 au ae hl1 J2 av;try unfold zZ at ae;rcases zF ae with⟨c0,ae⟩|⟨c0,ae⟩
  ·obtain ⟨cp, h0, ae⟩ := zb ae
   obtain⟨r_,h1,ae⟩:=zb ae
   let Z0:List HO:=[Hq c0,Hi (eI .i64) h0,Hc h0a (x:=(cp,f_)) h1 (loC (eI .i64) cp <| loC z21 f_ <| loN)];rcases zF ae with⟨c1,ae⟩|⟨c1,ae⟩
   ·obtain rfl := za ae
    obtain rfl:=hl1;obtain rfl:=za aa;exact yE X0 hC hE (Z0++[Hq c1])
   ·obtain rfl := za ae
    exact yB X0 hC av (w64 (x8+1)) hl1 (Z0++[Hq c1])
  ·obtain rfl := za ae
   obtain rfl:=hl1;exact yB X0 hC aq () aa [Hq c0]
def Y1:Code:=(Tryz.f130.body).getD .skip
def vq:zJ:=spF (α:=List Int×z6) (ρ:=Bool) 130 (fun x=>[F6_ x.1,(KB 131 z21) x.2]) (fun r=>eB r) (fun x=>yR x.1 x.2) [] (by
 rintro⟨a0,a1⟩ ⟨b0,b1⟩ h;have e0:=ZZ.inj (f:=F6_) _ _ (List.cons.inj h).1;replace h:=(List.cons.inj h).2;have e1:=ZZ.inj (f:=(KB 131 z21)) _ _ (List.cons.inj h).1;subst e0 e1;rfl)
theorem vC {ctr:Ctr}(hC:zx Tryz.prog ctr)(h0a:ctr.Has ug):vq.Ok Tryz.prog:=by
 refine zw ?_;rintro⟨s_,f_⟩ r0 aa;try unfold yR at aa;refine yO true [(4,none)] Y1 9 Tryz.func130 fun E hE=>?_;obtain⟨r_,h0,aa⟩:=zb aa;obtain rfl:=za aa;exact yE ((z3i zy (XB hC h0a) 7).or X0) hC hE [Hc (Ctr.add_has KC uh) (x:=(s_,f_)) h0 (loC F6_ s_ <| loC (KB 131 z21) f_ <| loN)]
def z5d:Code:=(Tryz.f102.body).getD .skip
def WV:zJ:=spF (α:=z6×List Int) (ρ:=Int) 102 (fun x=>[zH x.1,F6_ x.2]) (fun r=>(eI .i64) r) (fun x=>XD x.1 x.2) [] (VO)
theorem z5J {ctr:Ctr}(hC:zx Tryz.prog ctr)(h02:ctr.Has xx)(h0a:ctr.Has ug):WV.Ok Tryz.prog:=by
 refine zw ?_;rintro⟨m_,l_⟩ r0 aa;try unfold XD at aa;refine yO true [(4,none)] z5d 14 Tryz.func102 fun E hE=>?_;obtain⟨r_,h0,aa⟩:=zb aa
 let Z0:List HO:=[Hc h02 (x:=m_) h0 (loC zH m_ <| loN)];rcases zF aa with⟨c0,aa⟩|⟨c0,aa⟩
 ·obtain rfl := za aa
  exact yE X0 hC hE (Z0++[Hq c0])
 ·obtain ⟨ah, h1, aa⟩ := zb aa
  let Z1:List HO:=(Z0++[Hq c0,Hc (Ctr.add_has KC vq) (x:=(l_,m_)) h1 (loC F6_ l_ <| loC (KB 131 z21) m_ <| loN)]);rcases zF aa with⟨c1,aa⟩|⟨c1,aa⟩
  ·obtain rfl := za aa
   exact yE ((z3i zy (vC hC h0a) 13).or X0) hC hE (Z1++[Hq c1])
  ·obtain rfl := za aa
   exact yE ((z3i zy (vC hC h0a) 13).or X0) hC hE (Z1++[Hq c1])
def z5e:Code:=(Tryz.f132.body).getD .skip
def WW:zJ:=spF (α:=z6) (ρ:=z6) 132 (fun x=>[zH x]) (fun r=>(KB 150 z21) r) (fun x=>U0 x) [] (Vo)
theorem z5K {ctr:Ctr}(hC:zx Tryz.prog ctr):WW.Ok Tryz.prog:=by
 refine zw ?_;rintro m_ r0 aa;try unfold U0 at aa;refine yO true [(2,none)] z5e 4 Tryz.func132 fun E hE=>?_;obtain rfl:=za aa;exact yE X0 hC hE []
def kW:Code:=(Tryz.f150.body).getD .skip
abbrev KL {σ:Type}(x0:z6)(YY:σ->z6G)(x8:Int)(fq:σ):List (Nat×T):=[(0,.own (.opq (YY fq).q)),(1,.d (.sptr (zH x0))),(7,.d (I ((x0.Rows.length:Nat):Int))),(8,.d (I x8))]
abbrev KJ {σ:Type}(x0:z6)(YY:σ->z6G)(x8:Int)(cr:σ)(t_:Int):List (Nat×T):=[(0,.own (.opq (YY cr).q)),(1,.d (.sptr (zH x0))),(3,.d (I x8)),(4,.d (I t_)),(7,.d (I ((x0.Rows.length:Nat):Int))),(8,.d (I x8))]
abbrev KK {σ:Type}(x0:z6)(YY:σ->z6G)(cb:σ)(x8:Int):List (Nat×T):=[(0,.own (.opq (YY cb).q)),(1,.d (.sptr (zH x0))),(7,.d (I ((x0.Rows.length:Nat):Int))),(8,.d (I x8))]
theorem z3l {ctr:Ctr}(hC:zx Tryz.prog ctr)(x0:z6):za1 Tryz.prog (.fn 150 [.sptr (.agg [I x0.Inputs,I x0.Outputs,eSl 1 false yM x0.Rows])]) (fun(x:Int×Int) (_:Bool) (_:Value)=>[(eI .i64) x.1,(eI .i64) x.2]) (@vT x0):=by
 refine z7o (tt:=yo) (nt:=26) (body:=kW) zy Tryz.func150 rfl (by kernel_rfl) rfl rfl (by show(2:Nat)<=26;decide) ?_
 intro σ yv YY yy hy sg r0 aa E hE;unfold vT at aa;obtain⟨t1,ht1,aa⟩:=zb aa;refine yL X0 hC kW [1,0] [] (fun s=>kE x0 yy s.1 s.2) (fun x=>KK x0 YY x.1 x.2) (sg,0) ht1  [Ha (lnM yM x0.Rows)] ?_;rintro⟨cb,x8⟩ m1 au ae hl1 J1 aq;try unfold kE at ae;rcases zF ae with⟨c0,ae⟩|⟨c0,ae⟩
 ·refine yJ X0 hC kW [1,0,0,1,1] [J1] [0,1,7,8] (fun z : σ => kF x8 z = some au) (fun z => KL x0 YY x8 z) [(0, .own (.opq (YY cb).q)), (1, .d (.sptr (zH x0))), (7, .d (I ((x0.Rows.length : Nat) : Int))), (8, .d (I x8))] [Hq c0, Hh (.cut 0)] ?_ fun J2 av => ?_
  ·rintro fq ae
   unfold kF at ae;obtain rfl:=za ae;exact yB X0 hC aq (fq,w64 (x8+1)) hl1 []
  ·obtain ⟨t3, ht3, ae⟩ := zb ae
   refine yL X0 hC kW [1,0,0,1,1,2,0,1,1,0] [J1,J2] (fun s=>ud x0 yy x8 s.1 s.2) (fun x=>KJ x0 YY x8 x.1 x.2) (cb,w64 (x8+1)) ht3  [] ?_;rintro⟨cr,t_⟩ m3 co aj hl2 J3 bf;try unfold ud at aj
   let Z0:List HO:=[Ha (lnM yM x0.Rows)];rcases zF aj with⟨c1,aj⟩|⟨c1,aj⟩
   ·obtain ⟨yr, h0, aj⟩ := zb aj
    let Z1:List HO:=(Z0++[Hq c1,Hn (z6Z (yv:=yv) (Y:=YY) (enc:=(fun(x:Int×Int) (_:Bool) (_:Value)=>[(eI .i64) x.1,(eI .i64) x.2])) (s:=cr) (x:=(x8,t_)) (s':=yr.1) (b:=yr.2) (v:=.nilFunc) [(eI .i64) x8,(eI .i64) t_] (show z0U [(eI .i64) x8,(eI .i64) t_] [(eI .i64) x8,(eI .i64) t_] from inferInstance))]);rcases zF aj with⟨c2,aj⟩|⟨c2,aj⟩
    ·obtain rfl := za aj
     obtain rfl:=hl2;obtain rfl:=za ae;obtain rfl:=hl1;obtain rfl:=za aa;exact yF ((z0V (P:=Tryz.prog) yo hy 23 (s:=cr) (x:=(x8,t_)) (s':=yr.1) (b:=yr.2) .nilFunc h0).or X0) hC .ret [(0,.own (.opq (YY yr.1).q))] (Z1++[Hq c2]) fun st0 h0=>hE _ st0 (.inr rfl) h0
    ·obtain rfl := za aj
     exact yB ((z0V (P:=Tryz.prog) yo hy 23 (s:=cr) (x:=(x8,t_)) (s':=yr.1) (b:=yr.2) .nilFunc h0).or X0) hC bf (yr.1,w64 (t_+1)) hl2 (Z1++[Hq c2])
   ·obtain rfl := za aj
    obtain rfl:=hl2;exact yB X0 hC av cr ae (Z0++[Hq c1])
 ·obtain rfl := za ae
  obtain rfl:=hl1;obtain rfl:=za aa;exact yF X0 hC .normal [(0,.own (.opq (YY cb).q))] [Hq c0] fun st0 h0=>hE _ st0 (.inl rfl) h0
def yW:zJ:=spR (α:=List Int×Int) (ρ:=List Int) 168 (fun x:List Int×Int=>[F2_ x.1,(eI .i64) x.2]) (fun r:List Int=>F5_ r) (fun x:List Int×Int=>xI x.1 x.2) [] (VO)
theorem VP:∀x r,(fun x:List Int×Int=>xI x.1 x.2) x=some r->(KC.add yW).run 168 ((KC.add yW).norm 168 ((fun x:List Int×Int=>[F2_ x.1,(eI .i64) x.2]) x))=some ((fun r:List Int=>F5_ r) r):=fun x r h=>znc (F:=fun x:List Int×Int=>xI x.1 x.2) (x:=x) h rfl
theorem VR:(KC.add yW).lend 168=none/\(KC.add yW).gives 168=[]:=zhS
theorem Us {ctr:Ctr}(hC:zx Tryz.prog ctr):yW.Ok Tryz.prog:=by
 refine zbR ?_;rintro⟨l,n⟩ r0 aa;cases l with
 | cons a l=>cases aa
 | nil=>
  have h1:0<n/\n<=1000000:=by
   have h2:(decide (0<n)&&decide (n<=1000000))=true:=by
    cases h:(decide (0<n)&&decide (n<=1000000)) with
    | true=>rfl
    | false=>have h3:(bif (true&&(decide (0<n)&&decide (n<=1000000))) then some [] else none)=some r0:=aa;rw [h]at h3;cases h3
   simpa using h2
  have h3:(bif (true&&(decide (0<n)&&decide (n<=1000000))) then some ([]:List Int) else none)=some r0:=aa;rw [decide_eq_true h1.1,decide_eq_true h1.2]at h3;cases h3;exact zcY n h1.1 h1.2
def xA:Code:=(Tryz.f151.body).getD .skip
def wq:zJ:=spF (α:=List (List Int)) (ρ:=List Int) 151 (fun x=>[wI x]) (fun r=>F5_ r) (fun x=>wk x) [] (Vo)
abbrev VB (gy:List Int):List (Nat×T):=[(6,.own (eOs 1 false (eI .i64) gy))]
abbrev VA (slices:List (List Int))(ct:List Int)(jv:Int):List (Nat×T):=[(6,.own (eOs 1 false (eI .i64) ct)),(25,.d (eSl 1 false F6_ slices)),(26,.d (I ((slices.length:Nat):Int))),(27,.d (I jv))]
abbrev VC (slices:List (List Int))(size:Int):List (Nat×T):=[(0,.d (eSl 1 false F6_ slices)),(3,.d (I size))]
abbrev Vz (slices:List (List Int))(gm:Int)(d9:Int):List (Nat×T):=[(0,.d (eSl 1 false F6_ slices)),(3,.d (I gm)),(9,.d (eSl 1 false F6_ slices)),(10,.d (I ((slices.length:Nat):Int))),(11,.d (I d9))]
theorem Q8 {ctr:Ctr}(hC:zx Tryz.prog ctr):wq.Ok Tryz.prog:=by
 refine zw ?_;rintro slices r0 aa;try unfold wk at aa;refine yO true [(2,none)] xA 36 Tryz.func151 fun E hE=>?_;refine yJ X0 hC xA [1,1] [] [0,3] (fun z:Int=>wt slices z=some r0) (fun z=>VC slices z) [(0,.d (eSl 1 false F6_ slices)),(3,.d (I 0))] [Hh (.cut 2)] ?_ fun J1 aq=>?_
 ·rintro size aa
  unfold wt at aa;obtain⟨r_,h0,aa⟩:=zb aa;refine yJ ((z3i zy (Us hC) 24).or X0) hC xA [1,1,1,1] [] [6] (fun z:List Int=>ws z=some r0) (fun z=>VB z) [(0,.d (eSl 1 false F6_ slices)),(6,.own (eOs 1 false (eI .i64) r_))] [Hh (.g []),Hn VR,Hx (.a (F5_ r_)) (VP ([],size) _ h0),Hh (.cut 0)] ?_ fun J2 av=>?_
  ·rintro gy aa
   unfold ws at aa;obtain rfl:=za aa;exact yE X0 hC hE []
  ·obtain ⟨t3, ht3, aa⟩ := zb aa
   refine yL X0 hC xA [1,1,1,1,2,1,0] [J2] (fun s=>zM slices s.1 s.2) (fun x=>VA slices x.1 x.2) (r_,0) ht3  [Ha (lnM F6_ slices)] ?_;rintro⟨ct,jv⟩ m3 au ae hl1 J3 bf;try unfold zM at ae;rcases zF ae with⟨c0,ae⟩|⟨c0,ae⟩
   ·obtain ⟨gc, h1, ae⟩ := zb ae
    obtain⟨g0,ae⟩:=gdE ae;obtain rfl:=za ae;exact yB X0 hC bf ((ct++gc),w64 (jv+1)) hl1 [Hq c0,Hi F6_ h1,Hn (dM (eI .i64) gc),Hn (aL (eI .i64) (eI .i64) g0),Hl (aM (eI .i64) ct gc)]
   ·obtain rfl := za ae
    obtain rfl:=hl1;exact yB X0 hC av ct aa [Hq c0]
 ·obtain ⟨t4, ht4, aa⟩ := zb aa
  refine yL X0 hC xA [1,1,2,1,0] [J1] (fun s=>zL slices s.1 s.2) (fun x=>Vz slices x.1 x.2) (0,0) ht4  [Ha (lnM F6_ slices)] ?_;rintro⟨gm,d9⟩ m4 au ae hl1 J4 bw;try unfold zL at ae;rcases zF ae with⟨c1,ae⟩|⟨c1,ae⟩
  ·obtain ⟨gi, h2, ae⟩ := zb ae
   let Z0:List HO:=[Hq c1,Hi F6_ h2,Ha (lnM (eI .i64) gi)];rcases zF ae with⟨c2,ae⟩|⟨c2,ae⟩
   ·cases ae
   ·obtain rfl := za ae
    exact yB X0 hC bw (w64 (gm+((gi.length:Nat):Int)),w64 (d9+1)) hl1 (Z0++[Hq c2])
  ·obtain rfl := za ae
   obtain rfl:=hl1;exact yB X0 hC aq gm aa [Hq c1]
def QX:Code:=(Tryz.f58.body).getD .skip
def yw:zJ:=spF (α:=List Int) (ρ:=List Int) 58 (fun x=>[F6_ x]) (fun r=>F2_ r) (fun x=>yb x) [] (Vo)
theorem Jq {ctr:Ctr}(hC:zx Tryz.prog ctr):yw.Ok Tryz.prog:=by
 refine zw ?_;rintro s_ r0 aa;try unfold yb at aa;refine yO true [(2,none)] QX 9 Tryz.func58 fun E hE=>?_;obtain⟨g0,aa⟩:=gdE aa;obtain rfl:=za aa;exact yE X0 hC hE [Ha (lnM (eI .i64) s_),Ha (lnM (eI .i64) s_),Hn (slB g0),Hn (slC g0),Hn (zjv (eI .i64) g0),Ha (zot 1 (eI .i64) s_ 0 ((s_.length:Nat):Int).toNat)]
def xQ:Code:=(Tryz.f133.body).getD .skip
abbrev QP (n_:Int)(f_:ArN 64 (ArN 64 (List Int)))(out:List Int):List (Nat×T):=[(0,.own (.box (xG 64 (xG 64 (eNl 1 (eI .i64))) f_))),(4,.d (I n_)),(11,.own (eOs 1 false (eI .i64) out))]
abbrev QO (m_:z6)(t_:Int)(n_:Int)(f_:ArN 64 (ArN 64 (List Int)))(am:List z8)(cx:Int):List (Nat×T):=[(0,.own (.box (xG 64 (xG 64 (eNl 1 (eI .i64))) f_))),(3,.d (I t_)),(4,.d (I n_)),(6,.own (.box (zH m_))),(11,.own (eOs 1 true (eI .i64) [])),(19,.d (eSl 2 false F8_ am)),(20,.d (I ((am.length:Nat):Int))),(21,.d (I cx))]
abbrev QN (m_:z6)(t_:Int)(n_:Int)(f_:ArN 64 (ArN 64 (List Int)))(am:List z8)(cx:Int):List (Nat×T):=[(0,.own (.box (xG 64 (xG 64 (eNl 1 (eI .i64))) f_))),(3,.d (I t_)),(4,.d (I n_)),(6,.own (.box (zH m_))),(11,.own (eOs 1 true (eI .i64) [])),(19,.d (eSl 2 false F8_ am)),(20,.d (I ((am.length:Nat):Int))),(21,.d (I cx))]
theorem WQ {ctr:Ctr}(hC:zx Tryz.prog ctr)(h0d:ctr.Has wq)(h01:ctr.Has yw)(dy:Value):∀(m_:z6) (s_:Int) (t_:Int) (n_:Int) (f_:ArN 64 (ArN 64 (List Int))) (r0:List Int×ArN 64 (ArN 64 (List Int))),ue m_ s_ t_ n_ f_=some r0->kZ Tryz.prog (.fn 133 []) [.atom dy,.agg [I m_.Inputs,I m_.Outputs,eSl 1 false yM m_.Rows],I s_,I t_,I n_] ([dy].zip [.box (xG 64 (xG 64 (eNl 1 (eI .i64))) f_)]) (eNl 1 (eI .i64) r0.1) [.box (xG 64 (xG 64 (eNl 1 (eI .i64))) r0.2)]:=by
 intro m_ s_ t_ n_ f_ r0 aa;refine zcO (tt:=yo) (nt:=85) (body:=xQ) [0] zy Tryz.func133 rfl (by kernel_rfl) rfl rfl (by show(5:Nat)<=85;decide) (by decide) rfl rfl rfl rfl (fun E hG hE=>?_) rfl
 unfold ue at aa;refine yA ((xRe Tryz.prog 10 (.atom (.slice none 0 0)) (eNl 1 (eI .i64) ([]:List Int)) (zg6 1)).or ((Q7 zy (.inl 76) [66]).or X0)) hC xQ [1] [] [(0,.own (.box (xG 64 (xG 64 (eNl 1 (eI .i64))) f_))),(2,.d (I s_)),(3,.d (I t_)),(4,.d (I n_)),(6,.own (.box (zH m_)))] [Hn (rfl:T.d (.atom (.slice none 0 0))=T.d (.atom (.slice none 0 0)))] ?_;refine zaT (c':=(sub [1,0] xQ)) (by kernel_rfl) hG ?_
 refine yJ ((Q7 zy (.inl 76) [66]).or X0) hC xQ [1,0,1,1] [] [0,4,11] (fun z:List Int=>ua n_ f_ z=some r0) (fun z=>QP n_ f_ z) [(0,.own (.box (xG 64 (xG 64 (eNl 1 (eI .i64))) f_))),(2,.d (I s_)),(3,.d (I t_)),(4,.d (I n_)),(6,.own (.box (zH m_))),(11,.own (eOs 1 true (eI .i64) []))] [Hh (.cut 2)] ?_ fun J1 aq=>?_
 ·rintro out aa
  unfold ua at aa;rcases zF aa with⟨c0,aa⟩|⟨c0,aa⟩
  ·obtain rfl := za aa
   exact yF ((xRe Tryz.prog 10 (.atom (.slice none 0 0)) (eNl 1 (eI .i64) ([]:List Int)) (zg6 1)).or ((Q7 zy (.inl 76) [66]).or X0)) hC .ret [(0,.own (.box (xG 64 (xG 64 (eNl 1 (eI .i64))) f_))),(10,.d (eNl 1 (eI .i64) ([]:List Int)))] [Ha (lnM (eI .i64) out),Hq c0,Hn (rfl:T.d (.atom (.slice none 0 0))=T.d (.atom (.slice none 0 0)))] fun st0 h0=>hE _ st0 (.inr rfl) (z0d h0 ⟨⟨rfl,rfl⟩,trivial⟩) (zoS h0 rfl rfl)
  ·obtain ⟨r_, h0, aa⟩ := zb aa
   obtain⟨g0,aa⟩:=gdE aa;obtain rfl:=za aa;exact yF ((xRe Tryz.prog 10 (eSl 1 true (eI .i64) r_) (eNl 1 (eI .i64) r_) (fun S v q=>(LeA.slNl 1 true (eI .i64) g0).repV q)).or ((Q7 zy (.inl 76) [66]).or X0)) hC .ret [(0,.own (.box (xG 64 (xG 64 (eNl 1 (eI .i64))) f_))),(10,.d (eNl 1 (eI .i64) r_))] [Ha (lnM (eI .i64) out),Hq c0,Hg (z1Y h01),Hm (shM (eI .i64) (eI .i64) out),Hs (z1Z h01 (x:=out) h0 (loC F6_ out <| loN)),Hm (shM (eI .i64) (eI .i64) out),Hn (rfl:T.d (eSl 1 true (eI .i64) r_)=T.d (eSl 1 true (eI .i64) r_))] fun st0 h0=>hE _ st0 (.inr rfl) (z0d h0 ⟨⟨rfl,rfl⟩,trivial⟩) (zoS h0 rfl rfl)
 ·obtain ⟨am, h1, aa⟩ := zb aa
  obtain⟨t2,ht2,aa⟩:=zb aa;refine yL ((Q7 zy (.inl 76) [66]).or X0) hC xQ [1,0,1,1,2,1,0] [J1] (fun s=>wH m_ t_ n_ f_ am s) (fun x=>QN m_ t_ n_ f_ am x) 0 ht2  [Hi yM h1,Ha (lnM F8_ am)] ?_;rintro cx m2 au ae hl1 J2 av;try unfold wH at ae;rcases zF ae with⟨c1,ae⟩|⟨c1,ae⟩
  ·refine yJ ((Q7 zy (.inl 76) [66]).or X0) hC xQ [1,0,1,1,2,1,0,0,1,1] [J1, J2] [0,3,4,6,11,19,20,21] (fun z : Unit => xO cx = some au) (fun z => QO m_ t_ n_ f_ am cx) [(0, .own (.box (xG 64 (xG 64 (eNl 1 (eI .i64))) f_))), (3, .d (I t_)), (4, .d (I n_)), (6, .own (.box (zH m_))), (11, .own (eOs 1 true (eI .i64) [])), (19, .d (eSl 2 false F8_ am)), (20, .d (I ((am.length : Nat) : Int))), (21, .d (I cx))] [Hq c1, Hh (.cut 0)] ?_ fun J3 bf => ?_
   ·rintro ⟨⟩ ae
    unfold xO at ae;obtain rfl:=za ae;exact yB ((Q7 zy (.inl 76) [66]).or X0) hC av (w64 (cx+1)) hl1 []
   ·obtain ⟨ak, h2, ae⟩ := zb ae
    obtain⟨ig,h3,ae⟩:=zb ae;obtain⟨bj,h4,ae⟩:=zb ae
    let Z0:List HO:=[Hi F8_ h2,Hi yM h3,Hi F8_ h4];rcases zF ae with⟨c2,ae⟩|⟨c2,ae⟩
    ·obtain rfl := za ae
     obtain rfl:=hl1;exact yBx ((Q7 zy (.inl 76) [66]).or X0) hC aq ([cx]:List Int) aa [(0,.own (.box (xG 64 (xG 64 (eNl 1 (eI .i64))) f_))),(4,.d (I n_)),(11,.own (eOs 1 true (eI .i64) ([cx])))] inferInstance (Z0++[Hq c2])
    ·rcases zF ae with ⟨c3, ae⟩ | ⟨c3, ae⟩
     ·let Z1 : List HO := (Z0 ++ (Hq c2 :: (rpN 4 (Hq c3) [])))
      rcases zF ae with⟨c4,ae⟩|⟨c4,ae⟩
      ·obtain ⟨cell, h5, ae⟩ := zb ae
       obtain⟨a6,h6,ae⟩:=zb ae
       let Z2:List HO:=(Z1++(rpN 7 (Hq c4) (Hn (⟨QR (by kernel_rfl) f_ (i0 h5),(iL (xG 64 (eNl 1 (eI .i64))) h5).2⟩:YU yo 154 ((f_.l).map (xG 64 (eNl 1 (eI .i64)))) ak.To=true/\ak.To.toNat<((f_.l).map (xG 64 (eNl 1 (eI .i64)))).length)::Hq c4::Hh (.f)::Hs (iM (xG 64 (eNl 1 (eI .i64))) h5)::Hn (⟨QR (by kernel_rfl) cell (i0 h6),(iL (eNl 1 (eI .i64)) h6).2⟩:YU yo 125 ((cell.l).map (eNl 1 (eI .i64))) bj.To=true/\bj.To.toNat<((cell.l).map (eNl 1 (eI .i64))).length)::Hq c4::Hh (.f)::Hs (iM (xG 64 (eNl 1 (eI .i64))) h5)::Hh (.f)::Hs (iM (eNl 1 (eI .i64)) h6)::Hn (rfl:T.d (eNl 1 (eI .i64) a6)=T.d (eNl 1 (eI .i64) a6))::Hq c4::Ha (lnM (eI .i64) a6)::(rpN 4 (Hq c4) []))))
       rcases zF ae with⟨c5,ae⟩|⟨c5,ae⟩
       ·obtain ⟨dt, h7, ae⟩ := zb ae
        obtain⟨d6,h8,ae⟩:=zb ae;obtain⟨ah,h9,ae⟩:=zb ae;obtain rfl:=za ae;obtain rfl:=hl1;exact yB ((xLs zy 75 (eNl 1 (eI .i64) d6) (eSl 1 false (eI .i64) d6) inferInstance).or ((xBl zy 66).or ((xLs zy 59 (eNl 1 (eI .i64) a6) (eSl 1 false (eI .i64) a6) inferInstance).or ((Q7 zy (.inl 76) [66]).or X0)))) hC aq ah aa (Z2++[Hq c5,Hn (⟨QR (by kernel_rfl) f_ (i0 h7),(iL (xG 64 (eNl 1 (eI .i64))) h7).2⟩:YU yo 154 ((f_.l).map (xG 64 (eNl 1 (eI .i64)))) ak.To=true/\ak.To.toNat<((f_.l).map (xG 64 (eNl 1 (eI .i64)))).length),Hh (.op 9),Hh (.f),Hs (iM (xG 64 (eNl 1 (eI .i64))) h7),Hn (⟨QR (by kernel_rfl) dt (i0 h8),(iL (eNl 1 (eI .i64)) h8).2⟩:YU yo 125 ((dt.l).map (eNl 1 (eI .i64))) bj.To=true/\bj.To.toNat<((dt.l).map (eNl 1 (eI .i64))).length),Hh (.op 0),Hh (.f),Hs (iM (xG 64 (eNl 1 (eI .i64))) h7),Hh (.f),Hs (iM (eNl 1 (eI .i64)) h8),Hn (rfl:T.d (eNl 1 (eI .i64) d6)=T.d (eNl 1 (eI .i64) d6)),Hm (shM (eI .i64) (eI .i64) ([cx])),Hg (z1Y h0d),Hm (shM F6_ F6_ ([[cx],d6])),Hs (z1Z h0d (x:=[[cx],d6]) h9 (loC ziJ ([[cx],d6]:List (List Int)) <| loN)),Hm (shM F6_ F6_ ([[cx],d6]))])
       ·exact yB ((xLs zy 59 (eNl 1 (eI .i64) a6) (eSl 1 false (eI .i64) a6) inferInstance).or ((Q7 zy (.inl 76) [66]).or X0)) hC bf () ae (Z2++[Hq c5])
      ·exact yB ((Q7 zy (.inl 76) [66]).or X0) hC bf () ae (Z1++(rpN 14 (Hq c4) [qF]))
     ·exact yB ((Q7 zy (.inl 76) [66]).or X0) hC bf () ae (Z0++(Hq c2::(rpN 4 (Hq c3) (rpN 15 qF []))))
  ·obtain rfl := za ae
   obtain rfl:=hl1;exact yBx ((Q7 zy (.inl 76) [66]).or X0) hC aq ([]:List Int) aa [(0,.own (.box (xG 64 (xG 64 (eNl 1 (eI .i64))) f_))),(4,.d (I n_)),(11,.own (eOs 1 true (eI .i64) []))] inferInstance [Hq c1]
def z0m:Code:=(Tryz.f134.body).getD .skip
theorem z0X {ctr:Ctr}(hC:zx Tryz.prog ctr)(dy:Value):∀(s_:Int) (t_:Int) (w_:List Int) (f_:ArN 64 (ArN 64 (List Int))) (r0:ArN 64 (ArN 64 (List Int))),qh s_ t_ w_ f_=some r0->kZ Tryz.prog (.fn 134 []) [.atom dy,I s_,I t_,eNl 1 (eI .i64) w_] ([dy].zip [.box (xG 64 (xG 64 (eNl 1 (eI .i64))) f_)]) (.tup []) [.box (xG 64 (xG 64 (eNl 1 (eI .i64))) r0)]:=by
 intro s_ t_ w_ f_ r0 aa;refine zaE (tt:=yo) (nt:=22) (body:=z0m) [0] zy Tryz.func134 rfl (by kernel_rfl) rfl rfl (by show(4:Nat)<=22;decide) (by decide) rfl rfl (fun E hE=>?_) rfl
 unfold qh at aa;refine zid 0 (v:=dy) ⟨_,rfl⟩ (by kernel_rfl) fun b0 hb0=>?_
 subst hb0;obtain⟨cell,h0,aa⟩:=zb aa;obtain⟨a6,h1,aa⟩:=zb aa;obtain⟨arr,h2,aa⟩:=zb aa;replace h2:=za h2;obtain⟨arr1,h3,aa⟩:=zb aa;replace h3:=za h3;obtain⟨dt,h4,aa⟩:=zb aa;obtain⟨d6,h5,aa⟩:=zb aa;obtain⟨arr2,h6,aa⟩:=zb aa;replace h6:=za h6;obtain⟨ka,h7,aa⟩:=zb aa;replace h7:=za h7;obtain rfl:=za aa;exact yF ((xIr zy 21 0 t_.toNat b0).or ((xRi zy 20 64 64 b0).or ((xNr Tryz.prog 19 b0).or ((xMv Tryz.prog 11 0 (z4H b0) rfl).or X0)))) hC .normal [(0,.own (.box (xG 64 (xG 64 (eNl 1 (eI .i64))) ka)))] [Hn (rfl:some (z4H b0)=some (z4H b0)),Hn (⟨QR (by kernel_rfl) f_ (i0 h0),(iL (xG 64 (eNl 1 (eI .i64))) h0).2⟩:YU yo 154 ((f_.l).map (xG 64 (eNl 1 (eI .i64)))) s_=true/\s_.toNat<((f_.l).map (xG 64 (eNl 1 (eI .i64)))).length),Hh (.op 10),Hh (.f),Hs (iM (xG 64 (eNl 1 (eI .i64))) h0),Hn (⟨QR (by kernel_rfl) cell (i0 h1),(iL (eNl 1 (eI .i64)) h1).2⟩:YU yo 125 ((cell.l).map (eNl 1 (eI .i64))) t_=true/\t_.toNat<((cell.l).map (eNl 1 (eI .i64))).length),Hh (.op 0),Hh (.f),Hs (iM (xG 64 (eNl 1 (eI .i64))) h0),Hh (.f),Hs (iM (eNl 1 (eI .i64)) h1),Hh (.f),Hs (iM (xG 64 (eNl 1 (eI .i64))) h0),Hh (.f),Hs (iM (eNl 1 (eI .i64)) h1),Hx (.l ((arr.l).map (eNl 1 (eI .i64)))) ((ArN.setL (eNl 1 (eI .i64)) cell t_ w_).trans (congrArg (fun q=>(ArN.l q).map (eNl 1 (eI .i64))) h2)),Hx (.l ((arr1.l).map (xG 64 (eNl 1 (eI .i64))))) ((ArN.setL (xG 64 (eNl 1 (eI .i64))) f_ s_ arr).trans (congrArg (fun q=>(ArN.l q).map (xG 64 (eNl 1 (eI .i64)))) h3)),Hn (rfl:T.d (.atom (z4H b0))=T.d (.atom (z4H b0))),Hn (⟨rfl,i0 h4,zgp (x:=arr1) h4⟩:T.d (.atom (z4H b0))=T.d (.atom (z4H b0))/\0<=t_/\t_.toNat<64),Hn (⟨⟨congrArg (fun k=>T.d (.atom (.pointer (some ⟨b0,k,none⟩)))) (zig (f:=(xG 64 (eNl 1 (eI .i64)))) arr1 h4).symm,(iL (xG 64 (eNl 1 (eI .i64))) h4).2⟩,rfl⟩:(T.d (.atom (.pointer (some ⟨b0,t_.toNat*64,none⟩)))=T.d (.atom (.pointer (some ⟨b0,A.sizes (((arr1.l).map (xG 64 (eNl 1 (eI .i64)))).take t_.toNat),none⟩)))/\t_.toNat<((arr1.l).map (xG 64 (eNl 1 (eI .i64)))).length)/\some (z4H b0)=some (z4H b0)),Hh (.op 2),Hh (.f),Hs (iM (xG 64 (eNl 1 (eI .i64))) h4),Hn (⟨QR (by kernel_rfl) dt (i0 h5),(iL (eNl 1 (eI .i64)) h5).2⟩:YU yo 125 ((dt.l).map (eNl 1 (eI .i64))) s_=true/\s_.toNat<((dt.l).map (eNl 1 (eI .i64))).length),Hh (.op 0),Hh (.f),Hs (iM (xG 64 (eNl 1 (eI .i64))) h4),Hh (.f),Hs (iM (eNl 1 (eI .i64)) h5),Hh (.f),Hs (iM (xG 64 (eNl 1 (eI .i64))) h4),Hh (.f),Hs (iM (eNl 1 (eI .i64)) h5),Hx (.l ((arr2.l).map (eNl 1 (eI .i64)))) ((ArN.setL (eNl 1 (eI .i64)) dt s_ w_).trans (congrArg (fun q=>(ArN.l q).map (eNl 1 (eI .i64))) h6)),Hx (.l ((ka.l).map (xG 64 (eNl 1 (eI .i64))))) ((ArN.setL (xG 64 (eNl 1 (eI .i64))) arr1 t_ arr2).trans (congrArg (fun q=>(ArN.l q).map (xG 64 (eNl 1 (eI .i64)))) h7))] fun st0 h0=>hE _ st0 (.inl rfl) (z0d h0 ⟨⟨rfl,rfl⟩,trivial⟩)
def yc:Code:=(Tryz.f104.body).getD .skip
def ZJ:zJ:=spF (α:=z6) (ρ:=ArN 64 (ArN 64 (List Int))) 104 (fun x=>[zH x]) (fun r=>(eBx (xG 64 (xG 64 (eNl 1 (eI .i64))))) r) (fun x=>qg x) [] (Vo)
abbrev Jc (f_:ArN 64 (ArN 64 (List Int))):List (Nat×T):=[(3,.own (.box (.box (xG 64 (xG 64 (eNl 1 (eI .i64))) f_))))]
abbrev Jb (m_:z6)(n_:Int)(ko:ArN 64 (ArN 64 (List Int))):List (Nat×T):=[(1,.own (.box (zH m_))),(3,.own (.box (.box (xG 64 (xG 64 (eNl 1 (eI .i64))) ko)))),(4,.own (.box (I n_)))]
abbrev QZ (m_:z6)(n_:Int)(now:List zG)(iz:ArN 64 (ArN 64 (List Int)))(jw:Int):List (Nat×T):=[(1,.own (.box (zH m_))),(3,.own (.box (.box (xG 64 (xG 64 (eNl 1 (eI .i64))) iz)))),(4,.own (.box (I n_))),(48,.d (eSl 4 false (zT (eI .i64) (eI .i64) (eNl 1 (eI .i64)) eB) now)),(49,.d (I ((now.length:Nat):Int))),(50,.d (I jw))]
abbrev Ja (m_:z6)(n_:Int)(kp:ArN 64 (ArN 64 (List Int)))(now:List zG):List (Nat×T):=[(1,.own (.box (zH m_))),(3,.own (.box (.box (xG 64 (xG 64 (eNl 1 (eI .i64))) kp)))),(4,.own (.box (I n_))),(5,.own (.box (eOs 4 false (zT (eI .i64) (eI .i64) (eNl 1 (eI .i64)) eB) now)))]
abbrev vp (m_:z6)(n_:Int)(ah:z6)(dx:ArN 64 (ArN 64 (List Int)))(dc:List zG):List (Nat×T):=[(1,.own (.box (zH m_))),(3,.own (.box (.box (xG 64 (xG 64 (eNl 1 (eI .i64))) dx)))),(4,.own (.box (I n_))),(5,.own (.box (eOs 4 false (zT (eI .i64) (eI .i64) (eNl 1 (eI .i64)) eB) dc))),(22,.d (.fn 150 [.sptr (.agg [I ah.Inputs,I ah.Outputs,eSl 1 false yM ah.Rows])]))]
abbrev J0 (m_:z6)(im:ArN 64 (ArN 64 (List Int)))(n_:Int):List (Nat×T):=[(1,.own (.box (zH m_))),(3,.own (.box (.box (xG 64 (xG 64 (eNl 1 (eI .i64))) im)))),(4,.own (.box (I n_)))]
theorem z0W {ctr:Ctr}(hC:zx Tryz.prog ctr)(h1u:ctr.Has WW)(h0d:ctr.Has wq)(h01:ctr.Has yw):ZJ.Ok Tryz.prog:=by
 refine zw ?_;rintro m_ r0 aa;try unfold qg at aa;refine zfE (tt:=yo) (rs:=[(true,2,none)]) (n:=⟨65,[]⟩) (body:=yc) zy Tryz.func104 rfl (by kernel_rfl) rfl rfl (by show(1:Nat)<=65;decide) fun E hE=>?_
 refine yJ X0 hC yc [1,1] [] [3] (fun z:ArN 64 (ArN 64 (List Int))=>uN z=some r0) (fun z=>Jc z) [(1,.own (.box (zH m_))),(3,.own (.box (.box (xG 64 (xG 64 (eNl 1 (eI .i64))) (ArN.rep 64 (ArN.rep 64 ([]:List Int)))))))] [Hh (.cut 2)] ?_ fun J1 aq=>?_
 ·rintro f_ aa
  unfold uN at aa;obtain rfl:=za aa
  let ZE:List HO:=[];exact zif X0 zy hC JF hE 4000 (hs:=hoH ZE) (x:=(.box (xG 64 (xG 64 (eNl 1 (eI .i64))) f_))) (hoB ZE) (by kernel_rfl) (LeV.refl _)
 ·obtain ⟨t2, ht2, aa⟩ := zb aa
  refine yL X0 hC yc [1,1,2,1,0] [J1] (fun s=>uK m_ s.1 s.2) (fun x=>J0 m_ x.1 x.2) ((ArN.rep 64 (ArN.rep 64 ([]:List Int))),1) ht2  [] ?_;rintro⟨im,n_⟩ m2 au ae hl1 J2 av;try unfold uK at ae
  let Z0:List HO:=[Ha (lnM yM m_.Rows)];rcases zF ae with⟨c0,ae⟩|⟨c0,ae⟩
  ·refine yJ X0 hC yc [1,1,2,1,0,0,1] [J1, J2] [1,3,4] (fun z : ArN 64 (ArN 64 (List Int)) => uM n_ z = some au) (fun z => Jb m_ n_ z) [(1, .own (.box (zH m_))), (3, .own (.box (.box (xG 64 (xG 64 (eNl 1 (eI .i64))) im)))), (4, .own (.box (I n_)))] (Z0 ++ [Hq c0, Hh (.cut 0)]) ?_ fun J3 bf => ?_
   ·rintro ko ae
    unfold uM at ae;obtain rfl:=za ae;exact yB X0 hC av (ko,w64 (n_+1)) hl1 []
   ·refine yJ X0 hC yc [1,1,2,1,0,0,1,2,0,1] [J1, J2, J3] [1,3,4,5] (fun z : ArN 64 (ArN 64 (List Int)) × List zG => uL n_ z.1 z.2 = some au) (fun z => Ja m_ n_ z.1 z.2) [(1, .own (.box (zH m_))), (3, .own (.box (.box (xG 64 (xG 64 (eNl 1 (eI .i64))) im)))), (4, .own (.box (I n_))), (5, .own (.box (eOs 4 true (zT (eI .i64) (eI .i64) F6_ eB) [])))] [Hh (.cut 1)] ?_ fun J4 bw => ?_
    ·rintro ⟨kp, now⟩ ae
     unfold uL at ae;obtain⟨t5,ht5,ae⟩:=zb ae;refine yL X0 hC yc [1,1,2,1,0,0,1,2,0,1,1,1,0] [J1,J2,J3] (fun s=>wV now s.1 s.2) (fun x=>QZ m_ n_ now x.1 x.2) (kp,0) ht5  [Hh (.v 0 [5]),Hm (shM (zT (eI .i64) (eI .i64) (eNl 1 (eI .i64)) eB) (zT (eI .i64) (eI .i64) (eNl 1 (eI .i64)) eB) now),Hh (.v 1 [5]),Ha (lnM (zT (eI .i64) (eI .i64) (eNl 1 (eI .i64)) eB) now)] ?_;rintro⟨iz,jw⟩ m5 co aj hl2 J5 cd;try unfold wV at aj;rcases zF aj with⟨c1,aj⟩|⟨c1,aj⟩
     ·obtain ⟨cg, h0, aj⟩ := zb aj
      obtain⟨r_,h1,aj⟩:=zb aj;obtain rfl:=za aj;exact yB ((zbz (P:=Tryz.prog) yo 3 0 (fa:=.fn 134 []) (z:=.box (xG 64 (xG 64 (eNl 1 (eI .i64))) iz)) (z':=.box (xG 64 (xG 64 (eNl 1 (eI .i64))) r_)) (r:=.tup []) (xl:=[]) (xr:=[(eI .i64) cg.S,(eI .i64) cg.T,(eNl 1 (eI .i64)) cg.Word]) rfl rfl (fun v=>z0X hC v _ _ _ _ _ h1) 61).or X0) hC cd (r_,w64 (jw+1)) hl2 [Hq c1,Hi (zT (eI .i64) (eI .i64) (eNl 1 (eI .i64)) eB) h0,Hn (⟨rfl,leP (show z0U [] [] from inferInstance),leP (show z0U [(eI .i64) cg.S,(eI .i64) cg.T,(eNl 1 (eI .i64)) cg.Word] [(eI .i64) cg.S,(eI .i64) cg.T,(eNl 1 (eI .i64)) cg.Word] from inferInstance),rfl,rfl⟩:([.fn 134 []]:List A)=[.fn 134 []]/\LeP [] []/\LeP [(eI .i64) cg.S,(eI .i64) cg.T,(eNl 1 (eI .i64)) cg.Word] [(eI .i64) cg.S,(eI .i64) cg.T,(eNl 1 (eI .i64)) cg.Word]/\T.als 3 [.deref] 0 0=T.als 3 [.deref] 0 0/\T.own (.box (.box (xG 64 (xG 64 (eNl 1 (eI .i64))) iz)))=T.own (.box (.box (xG 64 (xG 64 (eNl 1 (eI .i64))) iz))))]
     ·obtain rfl := za aj
      obtain rfl:=hl2;exact yB X0 hC bf iz ae [Hq c1]
    ·obtain ⟨ah, h2, ae⟩ := zb ae
     obtain⟨t6,i7,ae⟩:=zb ae;refine yAt X0 hC (sub [1,1,2,1,0,0,1,2,0,1,2,1,0] yc) (frs [1,1,2,1,0,0,1,2,0,1,2,1,0] [J1,J2,J3,J4] yc []) [(1,.own (.box (zH m_))),(3,.own (.box (.box (xG 64 (xG 64 (eNl 1 (eI .i64))) im)))),(4,.own (.box (I n_))),(5,.own (.box (eOs 4 true (zT (eI .i64) (eI .i64) (eNl 1 (eI .i64)) eB) []))),(22,.d (.fn 150 [.sptr (.agg [I ah.Inputs,I ah.Outputs,eSl 1 false yM ah.Rows])]))] [Hc h1u (x:=m_) h2 (loC zH m_ <| loN)] fun st0 h0=>?_;refine z0q (g:=.tmp 22) (ps:=[23,24]) (assign:=(sub [1,1,2,1,0,0,1,2,0,1,2,1,0,0] yc)) (body:=(sub [1,1,2,1,0,0,1,2,0,1,2,1,0,1] yc)) (K:=150) (caps:=[.sptr (.agg [I ah.Inputs,I ah.Outputs,eSl 1 false yM ah.Rows])]) (by kernel_rfl) [1,3,4,5,22] (fun s=>vp m_ n_ ah s.1 s.2) (fun z=>nomatch z) (fun z=>nomatch z) ((fun(x:Int×Int) (_:Bool) (_:Value)=>[(eI .i64) x.1,(eI .i64) x.2])) (F:=@vT ah) (fun s x=>xw m_ n_ s.1 s.2 x.1 x.2) (im,([]:List zG)) t6 _ h0 inferInstance (by kernel_rfl) (by decide) (fun _=>rfl) (by rintro⟨⟩) (by kernel_rfl) (fun _ _ _=>rfl) (z3l hC ah) i7 ?_ ?_
     ·rintro mq ⟨dx, dc⟩ ⟨em, bc⟩ vr co aj
      replace aj:xw m_ n_ dx dc em bc=some co:=aj;unfold xw at aj;refine yF X0 hC .normal [(1,.own (.box (zH m_))),(3,.own (.box (.box (xG 64 (xG 64 (eNl 1 (eI .i64))) dx)))),(4,.own (.box (I n_))),(5,.own (.box (eOs 4 false (zT (eI .i64) (eI .i64) (eNl 1 (eI .i64)) eB) dc))),(6,.d (I em)),(7,.d (I bc)),(22,.d (.fn 150 [.sptr (.agg [I ah.Inputs,I ah.Outputs,eSl 1 false yM ah.Rows])]))] [] fun st0 h0=>⟨rfl,z7G h0 ?_⟩;obtain⟨cell,h3,aj⟩:=zb aj;obtain⟨a6,h4,aj⟩:=zb aj
      let Z1:List HO:=[Hn (⟨QR (by kernel_rfl) dx (i0 h3),(iL (xG 64 (eNl 1 (eI .i64))) h3).2⟩:YU yo 154 ((dx.l).map (xG 64 (eNl 1 (eI .i64)))) em=true/\em.toNat<((dx.l).map (xG 64 (eNl 1 (eI .i64)))).length),Hh (.op 5),Hh (.f),Hs (iM (xG 64 (eNl 1 (eI .i64))) h3),Hn (⟨QR (by kernel_rfl) cell (i0 h4),(iL (eNl 1 (eI .i64)) h4).2⟩:YU yo 125 ((cell.l).map (eNl 1 (eI .i64))) bc=true/\bc.toNat<((cell.l).map (eNl 1 (eI .i64))).length),Hh (.op 0),Hh (.f),Hs (iM (xG 64 (eNl 1 (eI .i64))) h3),Hh (.f),Hs (iM (eNl 1 (eI .i64)) h4),Hn (⟨rfl,rfl⟩:T.d (eNl 1 (eI .i64) a6)=T.d (eNl 1 (eI .i64) a6)/\T.d (.atom (.slice none 0 0))=T.d (.atom (.slice none 0 0)))]
      rcases zF aj with⟨c2,aj⟩|⟨c2,aj⟩
      ·obtain rfl := za aj
       exact yF ((ziM zy 32 40 1 (a6.map (eI .i64)) true (!a6.isEmpty) (by kernel_rfl) (nlB true (eI .i64) a6)).or X0) hC .normal (vp m_ n_ ah dx dc) (Z1++[Hq c2]) fun st0 h0=>⟨rfl,_,h0,LeL.refl _⟩
      ·obtain ⟨al, h5, aj⟩ := zb aj
       let Z2:List HO:=(Z1++[Hq c2,Hn (⟨rfl,leP (show z0U [] [] from inferInstance),leP (show z0U [zH m_,(eI .i64) em,(eI .i64) bc,(eI .i64) n_] [zH m_,(eI .i64) em,(eI .i64) bc,(eI .i64) n_] from inferInstance),rfl,rfl⟩:([.fn 133 []]:List A)=[.fn 133 []]/\LeP [] []/\LeP [zH m_,(eI .i64) em,(eI .i64) bc,(eI .i64) n_] [zH m_,(eI .i64) em,(eI .i64) bc,(eI .i64) n_]/\T.als 3 [.deref] 0 0=T.als 3 [.deref] 0 0/\T.own (.box (.box (xG 64 (xG 64 (eNl 1 (eI .i64))) dx)))=T.own (.box (.box (xG 64 (xG 64 (eNl 1 (eI .i64))) dx)))),Hn (⟨rfl,rfl⟩:T.d (eNl 1 (eI .i64) al.1)=T.d (eNl 1 (eI .i64) al.1)/\T.d (.atom (.slice none 0 0))=T.d (.atom (.slice none 0 0)))]);rcases zF aj with⟨c3,aj⟩|⟨c3,aj⟩
       ·obtain ⟨g0, aj⟩ := gdE aj
        obtain rfl:=za aj;exact yF ((ziM zy 40 40 1 (al.1.map (eI .i64)) true (!al.1.isEmpty) (by kernel_rfl) (nlB true (eI .i64) al.1)).or ((zbz (P:=Tryz.prog) yo 3 0 (fa:=.fn 133 []) (z:=.box (xG 64 (xG 64 (eNl 1 (eI .i64))) dx)) (z':=.box (xG 64 (xG 64 (eNl 1 (eI .i64))) al.2)) (r:=eNl 1 (eI .i64) al.1) (xl:=[]) (xr:=[zH m_,(eI .i64) em,(eI .i64) bc,(eI .i64) n_]) rfl rfl (fun v=>WQ hC h0d h01 v _ _ _ _ _ _ h5) 38).or ((ziM zy 32 40 1 (a6.map (eI .i64)) true (!a6.isEmpty) (by kernel_rfl) (nlB true (eI .i64) a6)).or X0))) hC .normal (vp m_ n_ ah al.2 (dc++([(zG.mk em bc al.1 false)]:List zG))) (Z2++[Hq c3,Hq (dM (zT (eI .i64) (eI .i64) (eNl 1 (eI .i64)) eB) ([(zG.mk em bc al.1 false)]:List zG)),Hn (dM (zT (eI .i64) (eI .i64) (eNl 1 (eI .i64)) eB) ([(zG.mk em bc al.1 false)]:List zG)),Hn (aL (zT (eI .i64) (eI .i64) (eNl 1 (eI .i64)) eB) (zT (eI .i64) (eI .i64) (eNl 1 (eI .i64)) eB) g0),Hl (aM (zT (eI .i64) (eI .i64) (eNl 1 (eI .i64)) eB) dc ([(zG.mk em bc al.1 false)]:List zG))]) fun st0 h0=>⟨rfl,_,h0,LeL.refl _⟩
       ·obtain rfl := za aj
        exact yF ((ziM zy 40 40 1 (al.1.map (eI .i64)) true (!al.1.isEmpty) (by kernel_rfl) (nlB true (eI .i64) al.1)).or ((zbz (P:=Tryz.prog) yo 3 0 (fa:=.fn 133 []) (z:=.box (xG 64 (xG 64 (eNl 1 (eI .i64))) dx)) (z':=.box (xG 64 (xG 64 (eNl 1 (eI .i64))) al.2)) (r:=eNl 1 (eI .i64) al.1) (xl:=[]) (xr:=[zH m_,(eI .i64) em,(eI .i64) bc,(eI .i64) n_]) rfl rfl (fun v=>WQ hC h0d h01 v _ _ _ _ _ _ h5) 38).or ((ziM zy 32 40 1 (a6.map (eI .i64)) true (!a6.isEmpty) (by kernel_rfl) (nlB true (eI .i64) a6)).or X0))) hC .normal (vp m_ n_ ah al.2 dc) (Z2++[Hq c3]) fun st0 h0=>⟨rfl,_,h0,LeL.refl _⟩
     ·rcases t6 with ⟨dx, dc⟩ | z
      ·dsimp only at ae
       exact XU (by kernel_rfl) (bw _ [(1,.own (.box (zH m_))),(3,.own (.box (.box (xG 64 (xG 64 (eNl 1 (eI .i64))) dx)))),(4,.own (.box (I n_))),(5,.own (.box (eOs 4 false (zT (eI .i64) (eI .i64) (eNl 1 (eI .i64)) eB) dc)))] (dx,dc) ae (show Own.canon [1,3,4,5] _=ofL _ by kernel_rfl) inferInstance)
      ·cases z
  ·obtain rfl := za ae
   obtain rfl:=hl1;exact yB X0 hC aq im aa (Z0++[Hq c0])
def QF:Code:=(Tryz.f103.body).getD .skip
def wL:zJ:=spF (α:=List Int) (ρ:=List Int) 103 (fun x=>[F6_ x]) (fun r=>F5_ r) (fun x=>yu x) [] (Vo)
theorem QT {ctr:Ctr}(hC:zx Tryz.prog ctr):wL.Ok Tryz.prog:=by
 refine zw ?_;rintro s_ r0 aa;try unfold yu at aa;refine yO true [(2,none)] QF 8 Tryz.func103 fun E hE=>?_;refine zdq rfl 0 (sz:=1) (t:=false) (es:=s_.map (eI .i64)) (by kernel_rfl) fun ba hv0 hn=>?_
 rcases hn with⟨hn0,he0⟩|hn0
 ·obtain ⟨_, aa⟩ := gdE aa
  rw [show s_=[] from List.map_eq_nil_iff.1 he0]at aa;obtain rfl:=za aa;exact yEx ((zmo zy 4 40 (by kernel_rfl) hn0).or ((xMv Tryz.prog 3 0 ba hv0).or X0)) hC hE [Hn (rfl:some ba=some ba),Hn (⟨rfl,rfl⟩:T.d (.atom ba)=T.d (.atom ba)/\T.d (.atom (.slice none 0 0))=T.d (.atom (.slice none 0 0))),qT] (eOs 1 true (eI .i64) []) (show LeV (eOs 1 true (eI .i64) []) (eOs 1 false (eI .i64) ([]:List Int)) from inferInstance)
 ·obtain ⟨g0, aa⟩ := gdE aa
  obtain rfl:=za aa;exact yE ((zmo zy 4 40 (by kernel_rfl) hn0).or ((xMv Tryz.prog 3 0 ba hv0).or X0)) hC hE [Hn (rfl:some ba=some ba),Hn (⟨rfl,rfl⟩:T.d (.atom ba)=T.d (.atom ba)/\T.d (.atom (.slice none 0 0))=T.d (.atom (.slice none 0 0))),qF,Hn (dM (eI .i64) s_),Hn (aL (eI .i64) (eI .i64) g0),Hl (aM0 (eI .i64) s_)]
def z1r:Code:=(Tryz.f72.body).getD .skip
def vE:zJ:=spF (α:=z6×Int×Int) (ρ:=List Int×Bool×Int) 72 (fun x=>[zH x.1,(eI .i64) x.2.1,(eI .i64) x.2.2]) (fun r=>.tup [F2_ r.1,eB r.2.1,(eI .i64) r.2.2]) (fun x=>uf x.1 x.2.1 x.2.2) [] (zbg)
theorem z26 {ctr:Ctr}(hC:zx Tryz.prog ctr)(h0E:ctr.Has WV)(h1v:ctr.Has ZJ)(h0t:ctr.Has wL)(h01:ctr.Has yw):vE.Ok Tryz.prog:=by
 refine zw ?_;rintro⟨m_,s_,t_⟩ r0 aa;try unfold uf at aa;refine yO false [(6,none),(7,none),(8,none)] z1r 33 Tryz.func72 fun E hE=>?_;obtain⟨r_,h0,aa⟩:=zb aa
 let Z0:List HO:=[Hg (z1Y h0E),Hm (shM (eI .i64) (eI .i64) ([s_,t_])),Hs (z1Z h0E (x:=(m_,[s_,t_])) h0 (loC zH m_ <| loC F2_ ([s_,t_]:List Int) <| loN))];rcases zF aa with⟨c0,aa⟩|⟨c0,aa⟩
 ·obtain rfl := za aa
  exact yEx X0 hC hE (Z0++[Hq c0,Hm (shM (eI .i64) (eI .i64) [])]) (.tup [eSl 1 true (eI .i64) [],B false,I r_]) (show LeV (.tup [eSl 1 true (eI .i64) [],B false,I r_]) (.tup [eSl 1 true (eI .i64) ([]:List Int),B false,I r_]) from inferInstance)
 ·obtain ⟨ah, h1, aa⟩ := zb aa
  obtain⟨cell,h2,aa⟩:=zb aa;obtain⟨a6,h3,aa⟩:=zb aa;obtain⟨al,h4,aa⟩:=zb aa;obtain⟨aw,h5,aa⟩:=zb aa;obtain rfl:=za aa;exact yE ((xLs zy 26 (eNl 1 (eI .i64) a6) (eSl 1 false (eI .i64) a6) inferInstance).or X0) hC hE (Z0++[Hq c0,Hc h1v (x:=m_) h1 (loC zH m_ <| loN),Hn (⟨QR (by kernel_rfl) ah (i0 h2),(iL (xG 64 (eNl 1 (eI .i64))) h2).2⟩:YU yo 154 ((ah.l).map (xG 64 (eNl 1 (eI .i64)))) s_=true/\s_.toNat<((ah.l).map (xG 64 (eNl 1 (eI .i64)))).length),Hh (.op 4),Hh (.f),Hs (iM (xG 64 (eNl 1 (eI .i64))) h2),Hn (⟨QR (by kernel_rfl) cell (i0 h3),(iL (eNl 1 (eI .i64)) h3).2⟩:YU yo 125 ((cell.l).map (eNl 1 (eI .i64))) t_=true/\t_.toNat<((cell.l).map (eNl 1 (eI .i64))).length),Hh (.op 0),Hh (.f),Hs (iM (xG 64 (eNl 1 (eI .i64))) h2),Hh (.f),Hs (iM (eNl 1 (eI .i64)) h3),Hn (rfl:T.d (eNl 1 (eI .i64) a6)=T.d (eNl 1 (eI .i64) a6)),Hc h0t (x:=a6) h4 (loC F6_ a6 <| loN),Hg (z1Y h01),Hm (shM (eI .i64) (eI .i64) al),Hs (z1Z h01 (x:=al) h5 (loC F6_ al <| loN)),Hm (shM (eI .i64) (eI .i64) al),Ha (lnM (eI .i64) aw)])
def z3t:Code:=(Tryz.f136.body).getD .skip
def W0:zJ:=spF (α:=Int×Int) (ρ:=Bool) 136 (fun x=>[(eI .i64) x.1,(eSp (eI .i64)) x.2]) (fun r=>eB r) (fun x=>Wp x.1 x.2) [] (VO)
theorem z49 {ctr:Ctr}(hC:zx Tryz.prog ctr):W0.Ok Tryz.prog:=by
 refine zw ?_;rintro⟨c_,x1⟩ r0 aa;try unfold Wp at aa;refine yO true [(3,none)] z3t 11 Tryz.func136 fun E hE=>?_;rcases zF aa with⟨c0,aa⟩|⟨c0,aa⟩
 ·obtain rfl := za aa
  exact yE X0 hC hE (rpN 4 (Hq c0) [])
 ·obtain rfl := za aa
  exact yE X0 hC hE (rpN 4 (Hq c0) [])
def vh:Code:=(Tryz.f149.body).getD .skip
def wW:zJ:=spF (α:=List Int×Int) (ρ:=Int) 149 (fun x=>[F6_ x.1,(KB 136 (eSp (eI .i64))) x.2]) (fun r=>(eI .i64) r) (fun x=>wr x.1 x.2) [] (by
 rintro⟨a0,a1⟩ ⟨b0,b1⟩ h;have e0:=ZZ.inj (f:=F6_) _ _ (List.cons.inj h).1;replace h:=(List.cons.inj h).2;have e1:=ZZ.inj (f:=(KB 136 (eSp (eI .i64)))) _ _ (List.cons.inj h).1;subst e0 e1;rfl)
abbrev XW:List (Nat×T):=[]
abbrev XV (s_:List Int)(f_:Int)(x8:Int):List (Nat×T):=[(0,.d (eSl 1 false (eI .i64) s_)),(1,.d (.fn 136 [.sptr (I f_)])),(7,.d (I ((s_.length:Nat):Int))),(8,.d (I x8))]
theorem VK {ctr:Ctr}(hC:zx Tryz.prog ctr)(h1w:ctr.Has W0):wW.Ok Tryz.prog:=by
 refine zw ?_;rintro⟨s_,f_⟩ r0 aa;try unfold wr at aa;refine yO true [(4,none)] vh 19 Tryz.func149 fun E hE=>?_;refine yJ X0 hC vh [1] [] [] (fun z:Unit=>v6=some r0) (fun z=>XW) [(0,.d (eSl 1 false (eI .i64) s_)),(1,.d (.fn 136 [.sptr (I f_)]))] [Hh (.cut 1)] ?_ fun J1 aq=>?_
 ·rintro ⟨⟩ aa
  unfold v6 at aa;obtain rfl:=za aa;exact yE X0 hC hE []
 ·obtain ⟨t2, ht2, aa⟩ := zb aa
  refine yL X0 hC vh [1,2,1,0] [J1] (fun s=>yg s_ f_ s) (fun x=>XV s_ f_ x) 0 ht2  [Ha (lnM (eI .i64) s_)] ?_;rintro x8 m2 au ae hl1 J2 av;try unfold yg at ae;rcases zF ae with⟨c0,ae⟩|⟨c0,ae⟩
  ·obtain ⟨cp, h0, ae⟩ := zb ae
   obtain⟨r_,h1,ae⟩:=zb ae
   let Z0:List HO:=[Hq c0,Hi (eI .i64) h0,Hc h1w (x:=(cp,f_)) h1 (loC (eI .i64) cp <| loC (eSp (eI .i64)) f_ <| loN)];rcases zF ae with⟨c1,ae⟩|⟨c1,ae⟩
   ·obtain rfl := za ae
    obtain rfl:=hl1;obtain rfl:=za aa;exact yE X0 hC hE (Z0++[Hq c1])
   ·obtain rfl := za ae
    exact yB X0 hC av (w64 (x8+1)) hl1 (Z0++[Hq c1])
  ·obtain rfl := za ae
   obtain rfl:=hl1;exact yB X0 hC aq () aa [Hq c0]
def XS:Code:=(Tryz.f130.body).getD .skip
def wg:zJ:=spF (α:=List Int×Int) (ρ:=Bool) 130 (fun x=>[F6_ x.1,(KB 136 (eSp (eI .i64))) x.2]) (fun r=>eB r) (fun x=>xK x.1 x.2) [] (by
 rintro⟨a0,a1⟩ ⟨b0,b1⟩ h;have e0:=ZZ.inj (f:=F6_) _ _ (List.cons.inj h).1;replace h:=(List.cons.inj h).2;have e1:=ZZ.inj (f:=(KB 136 (eSp (eI .i64)))) _ _ (List.cons.inj h).1;subst e0 e1;rfl)
theorem XY {ctr:Ctr}(hC:zx Tryz.prog ctr)(h1x:ctr.Has wW):wg.Ok Tryz.prog:=by
 refine zw ?_;rintro⟨s_,f_⟩ r0 aa;try unfold xK at aa;refine yO true [(4,none)] XS 9 Tryz.func130 fun E hE=>?_;obtain⟨r_,h0,aa⟩:=zb aa;obtain rfl:=za aa;exact yE X0 hC hE [Hc h1x (x:=(s_,f_)) h0 (loC F6_ s_ <| loC (KB 136 (eSp (eI .i64))) f_ <| loN)]
def z62:Code:=(Tryz.f113.body).getD .skip
def Xj:zJ:=spF (α:=List Int×Int) (ρ:=Int) 113 (fun x=>[F6_ x.1,(eI .i64) x.2]) (fun r=>(eI .i64) r) (fun x=>ZH x.1 x.2) [] (VO)
theorem z6L {ctr:Ctr}(hC:zx Tryz.prog ctr)(h1y:ctr.Has wg):Xj.Ok Tryz.prog:=by
 refine zw ?_;rintro⟨w_,inputs⟩ r0 aa;try unfold ZH at aa;refine yO true [(4,none)] z62 19 Tryz.func113 fun E hE=>?_;rcases zF aa with⟨c0,aa⟩|⟨c0,aa⟩
 ·obtain rfl := za aa
  exact yE X0 hC hE (rpN 4 (Hq c0) [qT])
 ·let Z0 : List HO := [Hq c0, Hq c0, Ha (lnM (eI .i64) w_), Hq c0, Hq c0]
  rcases zF aa with⟨c1,aa⟩|⟨c1,aa⟩
  ·obtain rfl := za aa
   exact yE X0 hC hE (Z0++[Hq c1])
  ·rcases zF aa with ⟨c2, aa⟩ | ⟨c2, aa⟩
   ·obtain rfl := za aa
    exact yE X0 hC hE (Z0++(Hq c1::(rpN 4 (Hq c2) [qT])))
   ·obtain ⟨r_, h0, aa⟩ := zb aa
    let Z1:List HO:=(Z0++[Hq c1,Hq c2,Hq c2,Hq c2,Hc h1y (x:=(w_,inputs)) h0 (loC F6_ w_ <| loC (KB 136 (eSp (eI .i64))) inputs <| loN),Hq c2]);rcases zF aa with⟨c3,aa⟩|⟨c3,aa⟩
    ·obtain rfl := za aa
     exact yE X0 hC hE (Z1++[Hq c3])
    ·obtain rfl := za aa
     exact yE X0 hC hE (Z1++[Hq c3])
def UM:Code:=(Tryz.f105.body).getD .skip
def Xl:zJ:=spF (α:=List (List Int)×Int) (ρ:=Int) 105 (fun x=>[wI x.1,(eI .i64) x.2]) (fun r=>(eI .i64) r) (fun x=>YX x.1 x.2) [] (VO)
abbrev z2B:List (Nat×T):=[]
abbrev z2A (l_:List (List Int))(inputs:Int)(jx:Int):List (Nat×T):=[(1,.d (I inputs)),(17,.d (eSl 1 false F6_ l_)),(18,.d (I ((l_.length:Nat):Int))),(19,.d (I jx))]
theorem z6N {ctr:Ctr}(hC:zx Tryz.prog ctr)(h0u:ctr.Has Xj):Xl.Ok Tryz.prog:=by
 refine zw ?_;rintro⟨l_,inputs⟩ r0 aa;try unfold YX at aa;refine yO true [(4,none)] UM 30 Tryz.func105 fun E hE=>?_;rcases zF aa with⟨c0,aa⟩|⟨c0,aa⟩
 ·obtain rfl := za aa
  exact yE X0 hC hE (rpN 4 (Hq c0) [qT])
 ·let Z0 : List HO := [Hq c0, Hq c0, Ha (lnM F6_ l_), Hq c0, Hq c0]
  rcases zF aa with⟨c1,aa⟩|⟨c1,aa⟩
  ·obtain rfl := za aa
   exact yE X0 hC hE (Z0++[Hq c1])
  ·rcases zF aa with ⟨c2, aa⟩ | ⟨c2, aa⟩
   ·obtain rfl := za aa
    exact yE X0 hC hE (Z0++[Hq c1,Hq c2])
   ·refine yJ X0 hC UM [1,1,1] [] [] (fun z : Unit => Uw = some r0) (fun z => z2B) [(0, .d (eSl 1 false F6_ l_)), (1, .d (I inputs))] (Z0 ++ [Hq c1, Hq c2, Hh (.cut 0)]) ?_ fun J1 aq => ?_
    ·rintro ⟨⟩ aa
     unfold Uw at aa;obtain rfl:=za aa;exact yE X0 hC hE []
    ·obtain ⟨t2, ht2, aa⟩ := zb aa
     refine yL X0 hC UM [1,1,1,2,1,0] [J1] (fun s=>qC l_ inputs s) (fun x=>z2A l_ inputs x) 0 ht2  [Ha (lnM F6_ l_)] ?_;rintro jx m2 au ae hl1 J2 av;try unfold qC at ae;rcases zF ae with⟨c3,ae⟩|⟨c3,ae⟩
     ·obtain ⟨bq, h0, ae⟩ := zb ae
      obtain⟨r_,h1,ae⟩:=zb ae
      let Z1:List HO:=[Hq c3,Hi F6_ h0,Hc h0u (x:=(bq,inputs)) h1 (loC F6_ bq <| loC (eI .i64) inputs <| loN)];rcases zF ae with⟨c4,ae⟩|⟨c4,ae⟩
      ·obtain rfl := za ae
       obtain rfl:=hl1;obtain rfl:=za aa;exact yE X0 hC hE (Z1++[Hq c4])
      ·obtain rfl := za ae
       exact yB X0 hC av (w64 (jx+1)) hl1 (Z1++[Hq c4])
     ·obtain rfl := za ae
      obtain rfl:=hl1;exact yB X0 hC aq () aa [Hq c3]
def Q3:Code:=(Tryz.f117.body).getD .skip
def ui:zJ:=spF (α:=List (List Int)) (ρ:=List (List Int)) 117 (fun x=>[wI x]) (fun r=>zaY r) (fun x=>vH x) [] (Vo)
theorem Q9 {ctr:Ctr}(hC:zx Tryz.prog ctr):ui.Ok Tryz.prog:=by
 refine zw ?_;rintro s_ r0 aa;try unfold vH at aa;refine yO true [(2,none)] Q3 8 Tryz.func117 fun E hE=>?_;refine zdq rfl 0 (sz:=1) (t:=false) (es:=s_.map F6_) (by kernel_rfl) fun ba hv0 hn=>?_
 rcases hn with⟨hn0,he0⟩|hn0
 ·obtain ⟨_, aa⟩ := gdE aa
  rw [show s_=[] from List.map_eq_nil_iff.1 he0]at aa;obtain rfl:=za aa;exact yEx ((zmo zy 4 32 (by kernel_rfl) hn0).or ((xMv Tryz.prog 3 0 ba hv0).or X0)) hC hE [Hn (rfl:some ba=some ba),Hn (⟨rfl,rfl⟩:T.d (.atom ba)=T.d (.atom ba)/\T.d (.atom (.slice none 0 0))=T.d (.atom (.slice none 0 0))),qT] (eOs 1 true F6_ []) (show LeV (eOs 1 true F6_ []) (eOs 1 false F6_ ([]:List (List Int))) from inferInstance)
 ·obtain ⟨g0, aa⟩ := gdE aa
  obtain rfl:=za aa;exact yE ((zmo zy 4 32 (by kernel_rfl) hn0).or ((xMv Tryz.prog 3 0 ba hv0).or X0)) hC hE [Hn (rfl:some ba=some ba),Hn (⟨rfl,rfl⟩:T.d (.atom ba)=T.d (.atom ba)/\T.d (.atom (.slice none 0 0))=T.d (.atom (.slice none 0 0))),qF,Hn (dM F6_ s_),Hn (aL F6_ F6_ g0),Hl (aM0 F6_ s_)]
def z3y:Code:=(Tryz.f163.body).getD .skip
def W8:zJ:=spF (α:=Int) (ρ:=Bool) 163 (fun x=>[(eI .i64) x]) (fun r=>eB r) (fun x=>YI x) [] (Vo)
theorem z4k {ctr:Ctr}(hC:zx Tryz.prog ctr):W8.Ok Tryz.prog:=by
 refine zw ?_;rintro x_ r0 aa;try unfold YI at aa;refine yO true [(2,none)] z3y 6 Tryz.func163 fun E hE=>?_;obtain rfl:=za aa;exact yE X0 hC hE []
def z1t:Code:=(Tryz.f141.body).getD .skip
def qP:zJ:=spF (α:=Int×Int) (ρ:=Int) 141 (fun x=>[(eI .i64) x.1,(eI .i64) x.2]) (fun r=>(eI .i64) r) (fun x=>uC x.1 x.2) [] (VO)
theorem z2d {ctr:Ctr}(hC:zx Tryz.prog ctr)(h0F:ctr.Has W8):qP.Ok Tryz.prog:=by
 refine zw ?_;rintro⟨x_,y_⟩ r0 aa;try unfold uC at aa;refine yO true [(4,none)] z1t 20 Tryz.func141 fun E hE=>?_;obtain⟨r_,h0,aa⟩:=zb aa;obtain⟨ah,h1,aa⟩:=zb aa
 let Z0:List HO:=[Hc h0F (x:=x_) h0 (loC (eI .i64) x_ <| loN),Hc h0F (x:=y_) h1 (loC (eI .i64) y_ <| loN)];rcases zF aa with⟨c0,aa⟩|⟨c0,aa⟩
 ·rcases zF aa with ⟨c1, aa⟩ | ⟨c1, aa⟩
  ·obtain rfl := za aa
   exact yE X0 hC hE (Z0++[Hq c0,Hq c1])
  ·obtain rfl := za aa
   exact yE X0 hC hE (Z0++[Hq c0,Hq c1])
 ·rcases zF aa with ⟨c2, aa⟩ | ⟨c2, aa⟩
  ·obtain rfl := za aa
   exact yE X0 hC hE (Z0++[Hq c0,Hq c2])
  ·rcases zF aa with ⟨c3, aa⟩ | ⟨c3, aa⟩
   ·obtain rfl := za aa
    exact yE X0 hC hE (Z0++[Hq c0,Hq c2,Hq c3])
   ·rcases zF aa with ⟨c4, aa⟩ | ⟨c4, aa⟩
    ·obtain rfl := za aa
     exact yE X0 hC hE (Z0++[Hq c0,Hq c2,Hq c3,Hq c4])
    ·obtain rfl := za aa
     exact yE X0 hC hE (Z0++[Hq c0,Hq c2,Hq c3,Hq c4])
def u7:Code:=(Tryz.f142.body).getD .skip
def vV:zJ:=spF (α:=List Int×List Int) (ρ:=Int) 142 (fun x=>[F6_ x.1,F6_ x.2]) (fun r=>(eI .i64) r) (fun x=>xT x.1 x.2) [] (VO)
abbrev WJ (s1:List Int)(s2:List Int):List (Nat×T):=[(0,.d (eSl 1 false (eI .i64) s1)),(1,.d (eSl 1 false (eI .i64) s2))]
abbrev WI (s1:List Int)(s2:List Int)(d9:Int):List (Nat×T):=[(0,.d (eSl 1 false (eI .i64) s1)),(1,.d (eSl 1 false (eI .i64) s2)),(9,.d (eSl 1 false (eI .i64) s1)),(10,.d (I ((s1.length:Nat):Int))),(11,.d (I d9))]
theorem UP {ctr:Ctr}(hC:zx Tryz.prog ctr)(h0v:ctr.Has qP):vV.Ok Tryz.prog:=by
 refine zw ?_;rintro⟨s1,s2⟩ r0 aa;try unfold xT at aa;refine yO true [(4,none)] u7 36 Tryz.func142 fun E hE=>?_;refine yJ X0 hC u7 [1] [] [0,1] (fun z:Unit=>w9 s1 s2=some r0) (fun z=>WJ s1 s2) [(0,.d (eSl 1 false (eI .i64) s1)),(1,.d (eSl 1 false (eI .i64) s2))] [Hh (.cut 1)] ?_ fun J1 aq=>?_
 ·rintro ⟨⟩ aa
  unfold w9 at aa
  let Z0:List HO:=[Ha (lnM (eI .i64) s1),Ha (lnM (eI .i64) s2)];rcases zF aa with⟨c0,aa⟩|⟨c0,aa⟩
  ·obtain rfl := za aa
   exact yE X0 hC hE (Z0++[Hq c0])
  ·obtain rfl := za aa
   exact yE X0 hC hE (Z0++[Hq c0])
 ·obtain ⟨t2, ht2, aa⟩ := zb aa
  refine yL X0 hC u7 [1,2,1,0] [J1] (fun s=>yq s1 s2 s) (fun x=>WI s1 s2 x) 0 ht2  [Ha (lnM (eI .i64) s1)] ?_;rintro d9 m2 au ae hl1 J2 av;try unfold yq at ae;rcases zF ae with⟨c1,ae⟩|⟨c1,ae⟩
  ·obtain ⟨ft, h0, ae⟩ := zb ae
   let Z1:List HO:=[Hq c1,Hi (eI .i64) h0,Ha (lnM (eI .i64) s2)];rcases zF ae with⟨c2,ae⟩|⟨c2,ae⟩
   ·obtain rfl := za ae
    obtain rfl:=hl1;obtain rfl:=za aa;exact yE X0 hC hE (Z1++[Hq c2])
   ·obtain ⟨dp, h1, ae⟩ := zb ae
    obtain⟨r_,h2,ae⟩:=zb ae
    let Z2:List HO:=(Z1++[Hq c2,Hi (eI .i64) h1,Hc h0v (x:=(ft,dp)) h2 (loC (eI .i64) ft <| loC (eI .i64) dp <| loN)]);rcases zF ae with⟨c3,ae⟩|⟨c3,ae⟩
    ·obtain rfl := za ae
     obtain rfl:=hl1;obtain rfl:=za aa;exact yE X0 hC hE (Z2++[Hq c3])
    ·obtain rfl := za ae
     exact yB X0 hC av (w64 (d9+1)) hl1 (Z2++[Hq c3])
  ·obtain rfl := za ae
   obtain rfl:=hl1;exact yB X0 hC aq () aa [Hq c1]
def QL:Code:=(Tryz.f140.body).getD .skip
def Qn:zJ:=spF (α:=List Int) (ρ:=Int) 140 (fun x=>[F6_ x]) (fun r=>(eI .i64) r) (fun x=>Q2 x) [] (Vo)
abbrev z3T:List (Nat×T):=[(3,.d (I 0))]
abbrev z3S (vals:List Int)(x8:Int):List (Nat×T):=[(3,.d (I 0)),(6,.d (eSl 1 false (eI .i64) vals)),(7,.d (I ((vals.length:Nat):Int))),(8,.d (I x8))]
theorem z85 {ctr:Ctr}(hC:zx Tryz.prog ctr):Qn.Ok Tryz.prog:=by
 refine zw ?_;rintro vals r0 aa;try unfold Q2 at aa;refine yO true [(2,none)] QL 18 Tryz.func140 fun E hE=>?_;refine yJ X0 hC QL [1,1] [] [3] (fun z:Unit=>WC=some r0) (fun z=>z3T) [(0,.d (eSl 1 false (eI .i64) vals)),(3,.d (I 0))] [Hh (.cut 2)] ?_ fun J1 aq=>?_
 ·rintro ⟨⟩ aa
  unfold WC at aa;obtain rfl:=za aa;exact yE X0 hC hE []
 ·obtain ⟨t2, ht2, aa⟩ := zb aa
  refine yL X0 hC QL [1,1,2,1,0] [J1] (fun s=>kV vals s) (fun x=>z3S vals x) 0 ht2  [Ha (lnM (eI .i64) vals)] ?_;rintro x8 m2 au ae hl1 J2 av;try unfold kV at ae;rcases zF ae with⟨c0,ae⟩|⟨c0,ae⟩
  ·obtain ⟨kb, h0, ae⟩ := zb ae
   rcases zF ae with⟨c1,ae⟩|⟨c1,ae⟩
   ·obtain rfl := za ae
    obtain rfl:=hl1;obtain rfl:=za aa;exact yE X0 hC hE [Hq c0,Hi (eI .i64) h0,Hq c1]
   ·obtain rfl := za ae
    exact yB X0 hC av (w64 (x8+1)) hl1 [Hq c0,Hi (eI .i64) h0,Hq c1]
  ·obtain rfl := za ae
   obtain rfl:=hl1;exact yB X0 hC aq () aa [Hq c0]
def z3s:Code:=(Tryz.f119.body).getD .skip
def qj:zJ:=spF (α:=List Int×List Int) (ρ:=Int) 119 (fun x=>[F6_ x.1,F6_ x.2]) (fun r=>(eI .i64) r) (fun x=>xv x.1 x.2) [] (VO)
theorem z48 {ctr:Ctr}(hC:zx Tryz.prog ctr)(h0v:ctr.Has qP)(h1z:ctr.Has vV)(h0G:ctr.Has Qn):qj.Ok Tryz.prog:=by
 refine zw ?_;rintro⟨a_,b_⟩ r0 aa;try unfold xv at aa;refine yO true [(4,none)] z3s 15 Tryz.func119 fun E hE=>?_;obtain⟨r_,h0,aa⟩:=zb aa;obtain⟨ah,h1,aa⟩:=zb aa;obtain⟨al,h2,aa⟩:=zb aa;obtain rfl:=za aa;exact yE X0 hC hE [Ha (lnM (eI .i64) a_),Ha (lnM (eI .i64) b_),Hc h0v (x:=(((a_.length:Nat):Int),((b_.length:Nat):Int))) h0 (loC (eI .i64) ((a_.length:Nat):Int) <| loC (eI .i64) ((b_.length:Nat):Int) <| loN),Hc h1z (x:=(a_,b_)) h1 (loC F6_ a_ <| loC F6_ b_ <| loN),Hg (z1Y h0G),Hm (shM (eI .i64) (eI .i64) ([r_,ah])),Hs (z1Z h0G (x:=[r_,ah]) h2 (loC F2_ ([r_,ah]:List Int) <| loN))]
def z2t:Code:=(Tryz.f121.body).getD .skip
def X1:zJ:=spF (α:=List Int×List Int) (ρ:=Bool) 121 (fun x=>[F6_ x.1,F6_ x.2]) (fun r=>eB r) (fun x=>qB x.1 x.2) [] (VO)
theorem z3j {ctr:Ctr}(hC:zx Tryz.prog ctr)(h0e:ctr.Has qj):X1.Ok Tryz.prog:=by
 refine zw ?_;rintro⟨a_,b_⟩ r0 aa;try unfold qB at aa;refine yO true [(4,none)] z2t 9 Tryz.func121 fun E hE=>?_;obtain⟨r_,h0,aa⟩:=zb aa;obtain rfl:=za aa;exact yE X0 hC hE [Hc h0e (x:=(a_,b_)) h0 (loC F6_ a_ <| loC F6_ b_ <| loN)]
end Go.Own
end
