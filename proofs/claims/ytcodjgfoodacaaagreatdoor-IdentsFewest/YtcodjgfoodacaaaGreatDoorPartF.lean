/- -/
import Derived.Test.YtcodjgfoodacaaaGreatDoorPartE
noncomputable section
set_option linter.unusedVariables false
set_option linter.unusedSimpArgs false
namespace Go.Own
open Go.Proofs.Tryz
open Go.Proofs
set_option maxRecDepth 100000
set_option maxHeartbeats 8000000
def X0:XH prog:=xB zq
theorem ZM:prog.follows .mixedOrders=true:=by kernel_rfl
variable {σ:Type}{rs:List (Nat×Option Nat)}{J:St->Prop}{keep:Bool}{r:A}{τ:Type}
section
variable {ctr:Ctr}{n:Fr}{Q:Exit->St->Prop}{c:Code}{fs:List Fm}{st:St}
theorem yE (X:XH prog)(hC:zy prog ctr){E:St->Prop}    (hE:∀st x R U,zen yp keep rs st=some (x,R,U)->LeV x r->E st)(L:List HO)(e:zl8 X yp ctr n keep rs 4000 c fs st (hoH L)=some (r,hoO L):=by kernel_rfl):AWP prog n c st (Qf prog n fs (zde E)):=yE6 X zq hC ZM hE L e
theorem yEx (X:XH prog)(hC:zy prog ctr){E:St->Prop}    (hE:∀st x R U,zen yp keep rs st=some (x,R,U)->LeV x r->E st)(L:List HO)(x:A)(hle:LeV x r)(e:zl8 X yp ctr n keep rs 4000 c fs st (hoH L)=some (x,hoO L):=by kernel_rfl):AWP prog n c st (Qf prog n fs (zde E)):=zs3 X zq hC ZM hE L x hle e
theorem yB (X:XH prog)(hC:zy prog ctr)   {live:List Nat}{S:τ->List (Nat×T)}{Inv:τ->Prop}(hJ:∀st' l' z,Inv z->Own.canon live st'=ofL l'->LeL l' (S z)->J st')(z:τ)(hz:Inv z)(L:List HO)(e:z7Q X yp ctr n live 4000 c fs st (hoH L)=some (.back J,ofL (S z),hoO L):=by kernel_rfl):AWP prog n c st (Qf prog n fs Q):=yB6 X zq hC ZM hJ z hz L e
theorem yBx (X:XH prog)(hC:zy prog ctr)   {live:List Nat}{S:τ->List (Nat×T)}{Inv:τ->Prop}(hJ:∀st' l' z,Inv z->Own.canon live st'=ofL l'->LeL l' (S z)->J st')(z:τ)(hz:Inv z)(l:List (Nat×T))(hl:LeL l (S z))(L:List HO)(e:z7Q X yp ctr n live 4000 c fs st (hoH L)=some (.back J,ofL l,hoO L):=by kernel_rfl):AWP prog n c st (Qf prog n fs Q):=zs4 X zq hC ZM hJ z hz l hl L e
theorem yA (X:XH prog)(hC:zy prog ctr)(bd:Code)(path:List Nat)(Js:List (St->Prop))(l:List (Nat×T))(L:List HO)(h:AWP prog n (sub path bd) (ofL l) (Qf prog n (frs path Js bd []) Q))(e:z7Q X yp ctr n (z1m l) 4000 c fs st (hoH L)=some (.at (sub path bd) (frs path Js bd []),ofL l,hoO L):=by kernel_rfl):AWP prog n c st (Qf prog n fs Q):=yA6 X zq hC ZM bd path Js l L e h
theorem yAt (X:XH prog)(hC:zy prog ctr)(c':Code)(fs':List Fm)(l:List (Nat×T))(L:List HO)(h:∀st0,Own.canon (z1m l) st0=ofL l->AWP prog n c' st0 (Qf prog n fs' Q))(e:z7Q X yp ctr n (z1m l) 4000 c fs st (hoH L)=some (.at c' fs',ofL l,hoO L):=by kernel_rfl):AWP prog n c st (Qf prog n fs Q):=zs5 X zq hC ZM c' fs' l L e h
theorem yLx (X:XH prog)(hC:zy prog ctr)(bd:Code)(path:List Nat)(Js:List (St->Prop)){σ τ:Type}(f:σ->Option (LR σ τ))(S:σ->List (Nat×T))(x0:σ){t:τ}(ht:loop f x0=some t)(l:List (Nat×T))(hl:LeL l (S x0))(L:List HO)(round:∀x m lr,f x=some lr->zpa f m t lr->∀J:St->Prop,(∀st' l' x',z1l f m x'=some t->Own.canon (z1m l) st'=ofL l'->LeL l' (S x')->J st')->AWP prog n (sub (path++[0]) bd) (ofL (S x)) (Qf prog n (.pre J::frs path Js bd []) Q))(e:z7Q X yp ctr n (z1m l) 4000 c fs st (hoH L)=some (.at (sub path bd) (frs path Js bd []),ofL l,hoO L):=by kernel_rfl)(e2:sub path bd=.loop (sub (path++[0]) bd):=by kernel_rfl)(hk:∀x,z1m (S x)=z1m l:=by exact λ_=>rfl):AWP prog n c st (Qf prog n fs Q):=yL6 X zq hC ZM bd path Js f S x0 ht l hl L hk e e2 round
theorem yL (X:XH prog)(hC:zy prog ctr)(bd:Code)(path:List Nat)(Js:List (St->Prop)){σ τ:Type}(f:σ->Option (LR σ τ))(S:σ->List (Nat×T))(x0:σ){t:τ}(ht:loop f x0=some t)(L:List HO)(round:∀x m lr,f x=some lr->zpa f m t lr->∀J:St->Prop,(∀st' l' x',z1l f m x'=some t->Own.canon (z1m (S x0)) st'=ofL l'->LeL l' (S x')->J st')->AWP prog n (sub (path++[0]) bd) (ofL (S x)) (Qf prog n (.pre J::frs path Js bd []) Q))(e:z7Q X yp ctr n (z1m (S x0)) 4000 c fs st (hoH L)=some (.at (sub path bd) (frs path Js bd []),ofL (S x0),hoO L):=by kernel_rfl)(e2:sub path bd=.loop (sub (path++[0]) bd):=by kernel_rfl)(hk:∀x,z1m (S x)=z1m (S x0):=by exact λ_=>rfl):AWP prog n c st (Qf prog n fs Q):=yL6 X zq hC ZM bd path Js f S x0 ht _ (LeL.refl _) L hk e e2 round
theorem yJ (X:XH prog)(hC:zy prog ctr)(bd:Code)(path:List Nat)(Js:List (St->Prop))  (live:List Nat)(Inv:σ->Prop)(S:σ->List (Nat×T))(l:List (Nat×T))(L:List HO)(h1:∀z,Inv z->AWP prog n (sub (path++[1]) bd) (ofL (S z)) (Qf prog n (frs path Js bd []) Q))(h2:∀J:St->Prop,(∀st' l' z,Inv z->Own.canon live st'=ofL l'->LeL l' (S z)->J st')->AWP prog n (sub (path++[2]) bd) (ofL l) (Qf prog n (.pre J::frs path Js bd []) Q))(e:z7Q X yp ctr n (z1m l) 4000 c fs st (hoH L)=some (.at (sub path bd) (frs path Js bd []),ofL l,hoO L):=by kernel_rfl)(e2:sub path bd=.seq (sub (path++[2]) bd) (sub (path++[1]) bd):=by kernel_rfl):AWP prog n c st (Qf prog n fs Q):=yJ6 X zq hC ZM bd path Js live Inv S l L e e2 h1 h2
theorem yF (X:XH prog)(hC:zy prog ctr)(ex:Exit)(l:List (Nat×T))(L:List HO)(h:∀st0,Own.canon (z1m l) st0=ofL l->Q ex st0)(e:z7Q X yp ctr n (z1m l) 4000 c fs st (hoH L)=some (.fin ex,ofL l,hoO L):=by kernel_rfl):AWP prog n c st (Qf prog n fs Q):=yF6 X zq hC ZM ex l L e h
theorem yO {k:Nat}{fn:Func}  {ls:List A}(keep:Bool)(rs:List (Nat×Option Nat))(body:Code)(nt:Nat)(hf:prog.funcs[k]?=some fn)(h:∀E:St->Prop,(∀st x R U,zen yp keep rs st=some (x,R,U)->LeV x r->E st)->AWP prog ⟨nt,[]⟩ body (ofL (zdk 0 ls)) (Qf prog ⟨nt,[]⟩ [] (zde E)))(hb:fn.body=some body:=by kernel_rfl)(hn:nt=fn.ntmps:=by exact rfl)(hr:fn.results=(rs.map z9N).toArray:=by exact rfl)(hnm:(fn.name == "runtime.NumGoroutine")=false:=by exact rfl)(ha:Nat.ble ls.length nt=true:=by kernel_rfl):Qr prog k ls r:=yO6 zq keep rs body nt hf hb hn hr hnm ha h
end
theorem zan:zi6 prog 188 193 3 (z6n [.i64,.i64,.i64,.i64,.i64,.i64,.i64,.i64,.i64,.i64,.i64,.i64,.i64,.i64,.i64,.i64,.i64,.i64,.i64,.i64,.i64,.i64,.i64,.i64,.i64,.i64,.i64,.i64,.i64,.i64,.i64,.i64,.i64]) (.atom (.int .i64 0)):=zhb underlying188 _ underlying193 (Go.Ex.zf3.eqn rfl) (zbU.eqn rfl) rfl ⟨.int .i64 0,λw=>zfU (f:=Tryz.t3) (by kernel_rfl) rfl w,λS=>uU.2 ⟨rfl,rfl⟩⟩ rfl
theorem zkf:zd0 prog 67 0 3 0:=zfi underlying67 _ rfl rfl rfl
theorem zlW:zkG prog 118 1 false:=zgC zq (t:=40) Tryz.so118 rfl rfl (by kernel_rfl) (by decide)
def z6O:Code:=(f69.body).getD .skip
abbrev nF:=eI .i64
def VQ:zI:=spF (α:=List Int×Int) (ρ:=Int) 69 (λx=>[F4_ x.1,nF x.2]) (λr=>nF r) (λx=>YA x.1 x.2) [] (Vk)
variable {ctr:Ctr}
theorem z7t (hC:zy prog ctr):VQ.Ok prog:=by
 refine zx ?_;rintro⟨l_,k_⟩ r0 aa;try unfold YA at aa;refine yO true [(4,none)] z6O 14 func69 λE hE=>?_;rcases zB aa with⟨c0,aa⟩|⟨c0,aa⟩
 ·obtain⟨bg,h0,aa⟩:=zb aa;obtain rfl:=za aa;exact yE X0 hC hE [Ha (lnM (eI .u16) l_),Hq c0,Hi (eI .u16) h0]
 ·obtain rfl:=za aa;exact yE X0 hC hE [Ha (lnM (eI .u16) l_),Hq c0]
def y7:Code:=(f35.body).getD .skip
def JJ:zI:=spF (α:=zG) (ρ:=z6) 35 (λx=>[z0k x]) (λr=>zD r) (λx=>Jk x) [] (WJ)
abbrev z5n (x_:zG)(gu:List (List z8)):List (Nat×T):=[(2,.own (.box (.agg [I 0,I 0,eOs 1 true yX []]))),(4,.own (.box (.agg [I (w64 (1+(w64 (Int.tmod x_.Inputs 3)))),I (w64 (1+(w64 (Int.tmod x_.Outputs 3)))),eOs 1 false jU gu])))]
abbrev z5m (x_:zG)(s_:Int)(gv:List (List z8)):List (Nat×T):=[(1,.own (.box (z0k x_))),(2,.own (.box (.agg [I 0,I 0,eOs 1 true yX []]))),(3,.d (I (w64 (1+(w64 (Int.tmod x_.States 6)))))),(4,.own (.box (.agg [I (w64 (1+(w64 (Int.tmod x_.Inputs 3)))),I (w64 (1+(w64 (Int.tmod x_.Outputs 3)))),eOs 1 false jU gv]))),(13,.d (I s_))]
abbrev z5l (x_:zG)(s_:Int)(i_:Int)(gw:List (List z8)):List (Nat×T):=[(1,.own (.box (z0k x_))),(2,.own (.box (.agg [I 0,I 0,eOs 1 true yX []]))),(3,.d (I (w64 (1+(w64 (Int.tmod x_.States 6)))))),(4,.own (.box (.agg [I (w64 (1+(w64 (Int.tmod x_.Inputs 3)))),I (w64 (1+(w64 (Int.tmod x_.Outputs 3)))),eOs 1 false jU gw]))),(13,.d (I s_)),(14,.d (I i_))]
abbrev z5i (x_:zG)(s_:Int)(cq:List (List z8))(i_:Int):List (Nat×T):=[(1,.own (.box (z0k x_))),(2,.own (.box (.agg [I 0,I 0,eOs 1 true yX []]))),(3,.d (I (w64 (1+(w64 (Int.tmod x_.States 6)))))),(4,.own (.box (.agg [I (w64 (1+(w64 (Int.tmod x_.Inputs 3)))),I (w64 (1+(w64 (Int.tmod x_.Outputs 3)))),eOs 1 false jU cq]))),(13,.d (I s_)),(14,.d (I i_))]
abbrev z5j (x_:zG)(fc:List (List z8))(s_:Int):List (Nat×T):=[(1,.own (.box (z0k x_))),(2,.own (.box (.agg [I 0,I 0,eOs 1 true yX []]))),(3,.d (I (w64 (1+(w64 (Int.tmod x_.States 6)))))),(4,.own (.box (.agg [I (w64 (1+(w64 (Int.tmod x_.Inputs 3)))),I (w64 (1+(w64 (Int.tmod x_.Outputs 3)))),eOs 1 false jU fc]))),(13,.d (I s_))]
abbrev z5o (x_:zG)(gf:List (List z8)):List (Nat×T):=[(1,.own (.box (z0k x_))),(2,.own (.box (.agg [I 0,I 0,eOs 1 true yX []]))),(3,.d (I (w64 (1+(w64 (Int.tmod x_.States 6)))))),(4,.own (.box (.agg [I (w64 (1+(w64 (Int.tmod x_.Inputs 3)))),I (w64 (1+(w64 (Int.tmod x_.Outputs 3)))),eOs 1 false jU gf])))]
abbrev z5k (x_:zG)(a6:Int)(gx:List (List z8)):List (Nat×T):=[(1,.own (.box (z0k x_))),(2,.own (.box (.agg [I 0,I 0,eOs 1 true yX []]))),(3,.d (I (w64 (1+(w64 (Int.tmod x_.States 6)))))),(4,.own (.box (.agg [I (w64 (1+(w64 (Int.tmod x_.Inputs 3)))),I (w64 (1+(w64 (Int.tmod x_.Outputs 3)))),eOs 1 false jU gx]))),(9,.d (I a6))]
abbrev z4v (x_:zG)(ay:List (List z8))(a6:Int)(k_:Int):List (Nat×T):=[(1,.own (.box (z0k x_))),(2,.own (.box (.agg [I 0,I 0,eOs 1 true yX []]))),(3,.d (I (w64 (1+(w64 (Int.tmod x_.States 6)))))),(4,.own (.box (.agg [I (w64 (1+(w64 (Int.tmod x_.Inputs 3)))),I (w64 (1+(w64 (Int.tmod x_.Outputs 3)))),eOs 1 false jU ay]))),(9,.d (I a6)),(12,.d (I k_))]
abbrev z4w (x_:zG)(ay:List (List z8))(a6:Int)(free:List Int):List (Nat×T):=[(1,.own (.box (z0k x_))),(2,.own (.box (.agg [I 0,I 0,eOs 1 true yX []]))),(3,.d (I (w64 (1+(w64 (Int.tmod x_.States 6)))))),(4,.own (.box (.agg [I (w64 (1+(w64 (Int.tmod x_.Inputs 3)))),I (w64 (1+(w64 (Int.tmod x_.Outputs 3)))),eOs 1 false jU ay]))),(9,.d (I a6)),(10,.own (eOs 1 false nF free))]
abbrev z4u (x_:zG)(ay:List (List z8))(a6:Int)(a9:Int)(iy:List Int):List (Nat×T):=[(1,.own (.box (z0k x_))),(2,.own (.box (.agg [I 0,I 0,eOs 1 true yX []]))),(3,.d (I (w64 (1+(w64 (Int.tmod x_.States 6)))))),(4,.own (.box (.agg [I (w64 (1+(w64 (Int.tmod x_.Inputs 3)))),I (w64 (1+(w64 (Int.tmod x_.Outputs 3)))),eOs 1 false jU ay]))),(9,.d (I a6)),(10,.own (eOs 1 false nF iy)),(11,.d (I a9))]
abbrev z4r (x_:zG)(ay:List (List z8))(a6:Int)(eh:List Int)(a9:Int):List (Nat×T):=[(1,.own (.box (z0k x_))),(2,.own (.box (.agg [I 0,I 0,eOs 1 true yX []]))),(3,.d (I (w64 (1+(w64 (Int.tmod x_.States 6)))))),(4,.own (.box (.agg [I (w64 (1+(w64 (Int.tmod x_.Inputs 3)))),I (w64 (1+(w64 (Int.tmod x_.Outputs 3)))),eOs 1 false jU ay]))),(9,.d (I a6)),(10,.own (eOs 1 false nF eh)),(11,.d (I a9))]
abbrev z5h (x_:zG)(ay:List (List z8))(a6:Int):List (Nat×T):=[(1,.own (.box (z0k x_))),(2,.own (.box (.agg [I 0,I 0,eOs 1 true yX []]))),(3,.d (I (w64 (1+(w64 (Int.tmod x_.States 6)))))),(4,.own (.box (.agg [I (w64 (1+(w64 (Int.tmod x_.Inputs 3)))),I (w64 (1+(w64 (Int.tmod x_.Outputs 3)))),eOs 1 false jU ay]))),(9,.d (I a6))]
abbrev z5p (x_:zG)(gy:List (List z8)):List (Nat×T):=[(1,.own (.box (z0k x_))),(2,.own (.box (.agg [I 0,I 0,eOs 1 true yX []]))),(3,.d (I (w64 (1+(w64 (Int.tmod x_.States 6)))))),(4,.own (.box (.agg [I (w64 (1+(w64 (Int.tmod x_.Inputs 3)))),I (w64 (1+(w64 (Int.tmod x_.Outputs 3)))),eOs 1 false jU gy])))]
abbrev z4t (x_:zG)(bi:Int)(gh:List (List z8)):List (Nat×T):=[(1,.own (.box (z0k x_))),(2,.own (.box (.agg [I 0,I 0,eOs 1 true yX []]))),(3,.d (I (w64 (1+(w64 (Int.tmod x_.States 6)))))),(4,.own (.box (.agg [I (w64 (1+(w64 (Int.tmod x_.Inputs 3)))),I (w64 (1+(w64 (Int.tmod x_.Outputs 3)))),eOs 1 false jU gh]))),(5,.d (I bi))]
abbrev z4s (x_:zG)(bn:List (List z8))(bi:Int)(row:List z8):List (Nat×T):=[(1,.own (.box (z0k x_))),(2,.own (.box (.agg [I 0,I 0,eOs 1 true yX []]))),(3,.d (I (w64 (1+(w64 (Int.tmod x_.States 6)))))),(4,.own (.box (.agg [I (w64 (1+(w64 (Int.tmod x_.Inputs 3)))),I (w64 (1+(w64 (Int.tmod x_.Outputs 3)))),eOs 1 false jU bn]))),(5,.d (I bi)),(6,.own (eOs 2 false F8_ row))]
abbrev z4p (x_:zG)(bn:List (List z8))(bi:Int)(ca:List z8)(i3:Int):List (Nat×T):=[(1,.own (.box (z0k x_))),(2,.own (.box (.agg [I 0,I 0,eOs 1 true yX []]))),(3,.d (I (w64 (1+(w64 (Int.tmod x_.States 6)))))),(4,.own (.box (.agg [I (w64 (1+(w64 (Int.tmod x_.Inputs 3)))),I (w64 (1+(w64 (Int.tmod x_.Outputs 3)))),eOs 1 false jU bn]))),(5,.d (I bi)),(6,.own (eOs 2 false F8_ ca)),(7,.d (I i3))]
abbrev z4q (x_:zG)(bn:List (List z8))(bi:Int):List (Nat×T):=[(1,.own (.box (z0k x_))),(2,.own (.box (.agg [I 0,I 0,eOs 1 true yX []]))),(3,.d (I (w64 (1+(w64 (Int.tmod x_.States 6)))))),(4,.own (.box (.agg [I (w64 (1+(w64 (Int.tmod x_.Inputs 3)))),I (w64 (1+(w64 (Int.tmod x_.Outputs 3)))),eOs 1 false jU bn]))),(5,.d (I bi))]
theorem z9H (hC:zy prog ctr)(h0C:ctr.Has VQ):JJ.Ok prog:=by
 refine zx ?_;rintro x_ r0 aa;try unfold Jk at aa;refine yO false [(2,some 30)] y7 178 func35 λE hE=>?_;obtain⟨g0,aa⟩:=gdE aa;obtain⟨g1,aa⟩:=gdE aa;obtain⟨g2,aa⟩:=gdE aa;refine yJ X0 hC y7 [1,1,1] [] [1,2,3,4] (λz:List (List z8)=>Vj x_ z=some r0) (λz=>z5p x_ z) [(1,.own (.box (z0k x_))),(2,.own (.box (.agg [I 0,I 0,eOs 1 true yX []]))),(3,.d (I (w64 (1+(w64 (Int.tmod x_.States 6)))))),(4,.own (.box (.agg [I (w64 (1+(w64 (Int.tmod x_.Inputs 3)))),I (w64 (1+(w64 (Int.tmod x_.Outputs 3)))),eOs 1 true yX []])))] [Hn g0,Hn g1,Hn g2,Hh (.cut 3)] ?_ λJ1 ap=>?_
 ·rintro gy aa;unfold Vj at aa;refine yJ X0 hC y7 [1,1,1,1] [] [1,2,3,4] (λz:List (List z8)=>Vi x_ z=some r0) (λz=>z5o x_ z) [(1,.own (.box (z0k x_))),(2,.own (.box (.agg [I 0,I 0,eOs 1 true yX []]))),(3,.d (I (w64 (1+(w64 (Int.tmod x_.States 6)))))),(4,.own (.box (.agg [I (w64 (1+(w64 (Int.tmod x_.Inputs 3)))),I (w64 (1+(w64 (Int.tmod x_.Outputs 3)))),eOs 1 false jU gy])))] [Hh (.cut 0)] ?_ λJ2 av=>?_
  ·rintro gf aa;unfold Vi at aa;refine yJ X0 hC y7 [1,1,1,1,1] [] [2,4] (λz:List (List z8)=>Vh x_ z=some r0) (λz=>z5n x_ z) [(1,.own (.box (z0k x_))),(2,.own (.box (.agg [I 0,I 0,eOs 1 true yX []]))),(3,.d (I (w64 (1+(w64 (Int.tmod x_.States 6)))))),(4,.own (.box (.agg [I (w64 (1+(w64 (Int.tmod x_.Inputs 3)))),I (w64 (1+(w64 (Int.tmod x_.Outputs 3)))),eOs 1 false jU gf])))] [Hh (.cut 0)] ?_ λJ3 ba=>?_
   ·rintro gu aa;unfold Vh at aa;obtain rfl:=za aa;exact yE X0 hC hE [Hm (shM jU yX gu)]
   ·obtain⟨t4,ht4,aa⟩:=zb aa;refine yL X0 hC y7 [1,1,1,1,1,2,1,0] [J3] (λs=>ZD x_ s.1 s.2) (λx=>z5j x_ x.1 x.2) (gf,0) ht4  [] ?_;rintro⟨fc,s_⟩ m4 ar ae hl1 J4 bw;try unfold ZD at ae;rcases zB ae with⟨c0,ae⟩|⟨c0,ae⟩
    ·refine yJ X0 hC y7 [1,1,1,1,1,2,1,0,0,1] [J3,J4] [1,2,3,4,13] (λz:List (List z8)=>Vg s_ z=some ar) (λz=>z5m x_ s_ z) [(1,.own (.box (z0k x_))),(2,.own (.box (.agg [I 0,I 0,eOs 1 true yX []]))),(3,.d (I (w64 (1+(w64 (Int.tmod x_.States 6)))))),(4,.own (.box (.agg [I (w64 (1+(w64 (Int.tmod x_.Inputs 3)))),I (w64 (1+(w64 (Int.tmod x_.Outputs 3)))),eOs 1 false jU fc]))),(13,.d (I s_))] [Hq c0,Hh (.cut 0)] ?_ λJ5 bz=>?_
     ·rintro gv ae;unfold Vg at ae;obtain rfl:=za ae;exact yB X0 hC bw (gv,w64 (s_+1)) hl1 []
     ·obtain⟨t6,jd,ae⟩:=zb ae;refine yL X0 hC y7 [1,1,1,1,1,2,1,0,0,1,2,0,1,0] [J3,J4,J5] (λs=>ZC x_ s_ s.1 s.2) (λx=>z5i x_ s_ x.1 x.2) (fc,0) jd  [] ?_;rintro⟨cq,i_⟩ m6 ck aj hl2 J6 cw;try unfold ZC at aj;rcases zB aj with⟨c1,aj⟩|⟨c1,aj⟩
      ·refine yJ X0 hC y7 [1,1,1,1,1,2,1,0,0,1,2,0,1,0,0,1] [J3,J4,J5,J6] [1,2,3,4,13,14] (λz:List (List z8)=>Xi i_ z=some ck) (λz=>z5l x_ s_ i_ z) [(1,.own (.box (z0k x_))),(2,.own (.box (.agg [I 0,I 0,eOs 1 true yX []]))),(3,.d (I (w64 (1+(w64 (Int.tmod x_.States 6)))))),(4,.own (.box (.agg [I (w64 (1+(w64 (Int.tmod x_.Inputs 3)))),I (w64 (1+(w64 (Int.tmod x_.Outputs 3)))),eOs 1 false jU cq]))),(13,.d (I s_)),(14,.d (I i_))] [Hq c1,Hh (.cut 0)] ?_ λJ7 hJ7=>?_
       ·rintro gw aj;unfold Xi at aj;obtain rfl:=za aj;exact yB X0 hC cw (gw,w64 (i_+1)) hl2 []
       ·obtain⟨j9,h0,aj⟩:=zb aj;obtain⟨jf,h1,aj⟩:=zb aj;let Z0:List HO:=[Hn (iL jU h0),Hs (iM jU h0),Hs (iM jU h0),Hn (iL F8_ h1),Hs (iM jU h0),Hs (iM F8_ h1),Hs (iM jU h0),Hs (iM F8_ h1)];rcases zB aj with⟨c2,aj⟩|⟨c2,aj⟩
        ·obtain⟨fk,h2,aj⟩:=zb aj;obtain⟨r_,h3,aj⟩:=zb aj;obtain⟨g3,aj⟩:=gdE aj;obtain⟨ff,h4,aj⟩:=zb aj;exact yB X0 hC hJ7 (cq.set s_.toNat (fk.set i_.toNat (z8.mk (Int.tmod r_ (w64 (1+(w64 (Int.tmod x_.States 6))))) ff.Out))) aj (Z0++[Hq c2,Hn (iL jU h2),Hs (iM jU h2),Hc h0C (x:=(x_.Edges,w64 ((w64 (s_*(w64 (1+(w64 (Int.tmod x_.Inputs 3))))))+i_))) h3 (loC F4_ x_.Edges <| loC nF (w64 ((w64 (s_*(w64 (1+(w64 (Int.tmod x_.Inputs 3))))))+i_)) <| loN),Hn g3,Hs (iM jU h2),Hn (iL F8_ h4),Hs (iM jU h2),Hs (iM F8_ h4),Hs (iM jU h2),Hs (iM F8_ h4),Hs (iM jU h2),Hs (iM F8_ h4),Hl (sM F8_ fk i_ (z8.mk (Int.tmod r_ (w64 (1+(w64 (Int.tmod x_.States 6))))) ff.Out)),Hl (sM jU cq s_ (fk.set i_.toNat (z8.mk (Int.tmod r_ (w64 (1+(w64 (Int.tmod x_.States 6))))) ff.Out)))])
        ·exact yB X0 hC hJ7 cq aj (Z0++[Hq c2])
      ·obtain rfl:=za aj;obtain rfl:=hl2;exact yB X0 hC bz cq ae [Hq c1]
    ·obtain rfl:=za ae;obtain rfl:=hl1;exact yB X0 hC ba fc aa [Hq c0]
  ·obtain⟨t8,ht8,aa⟩:=zb aa;refine yL X0 hC y7 [1,1,1,1,2,1,0] [J2] (λs=>ZB x_ s.1 s.2) (λx=>z5h x_ x.1 x.2) (gy,1) ht8  [] ?_;rintro⟨ay,a6⟩ m8 ar ae hl1 J8 kb;try unfold ZB at ae;rcases zB ae with⟨c3,ae⟩|⟨c3,ae⟩
   ·refine yJ X0 hC y7 [1,1,1,1,2,1,0,0,1] [J2,J8] [1,2,3,4,9] (λz:List (List z8)=>Vf a6 z=some ar) (λz=>z5k x_ a6 z) [(1,.own (.box (z0k x_))),(2,.own (.box (.agg [I 0,I 0,eOs 1 true yX []]))),(3,.d (I (w64 (1+(w64 (Int.tmod x_.States 6)))))),(4,.own (.box (.agg [I (w64 (1+(w64 (Int.tmod x_.Inputs 3)))),I (w64 (1+(w64 (Int.tmod x_.Outputs 3)))),eOs 1 false jU ay]))),(9,.d (I a6))] [Hq c3,Hh (.cut 0)] ?_ λJ9 kw=>?_
    ·rintro gx ae;unfold Vf at ae;obtain rfl:=za ae;exact yB X0 hC kb (gx,w64 (a6+1)) hl1 []
    ·refine yJ X0 hC y7 [1,1,1,1,2,1,0,0,1,2,0,1] [J2,J8,J9] [1,2,3,4,9,10] (λz:List Int=>Wh x_ ay a6 z=some ar) (λz=>z4w x_ ay a6 z) [(1,.own (.box (z0k x_))),(2,.own (.box (.agg [I 0,I 0,eOs 1 true yX []]))),(3,.d (I (w64 (1+(w64 (Int.tmod x_.States 6)))))),(4,.own (.box (.agg [I (w64 (1+(w64 (Int.tmod x_.Inputs 3)))),I (w64 (1+(w64 (Int.tmod x_.Outputs 3)))),eOs 1 false jU ay]))),(9,.d (I a6)),(10,.own (eOs 1 true nF []))] [Hh (.cut 1)] ?_ λJ10 hJ10=>?_
     ·rintro free ae;unfold Wh at ae;obtain⟨ix,h5,ae⟩:=zb ae;refine yJ X0 hC y7 [1,1,1,1,2,1,0,0,1,2,0,1,1,1] [J2,J8,J9] [1,2,3,4,9,12] (λz:Int=>uD x_ ay a6 z=some ar) (λz=>z4v x_ ay a6 z) [(1,.own (.box (z0k x_))),(2,.own (.box (.agg [I 0,I 0,eOs 1 true yX []]))),(3,.d (I (w64 (1+(w64 (Int.tmod x_.States 6)))))),(4,.own (.box (.agg [I (w64 (1+(w64 (Int.tmod x_.Inputs 3)))),I (w64 (1+(w64 (Int.tmod x_.Outputs 3)))),eOs 1 false jU ay]))),(9,.d (I a6)),(10,.own (eOs 1 false nF free)),(12,.d (I ix))] [Hn (iL nF h5),Hs (iM nF h5),Hh (.cut 0)] ?_ λJ11 hJ11=>?_
      ·rintro k_ ae;unfold uD at ae;obtain⟨g4,ae⟩:=gdE ae;obtain⟨fl,h6,ae⟩:=zb ae;obtain⟨g5,ae⟩:=gdE ae;obtain⟨fg,h7,ae⟩:=zb ae;exact yB X0 hC kw (ay.set (w64 (Int.tdiv k_ (w64 (1+(w64 (Int.tmod x_.Inputs 3)))))).toNat (fl.set (Int.tmod k_ (w64 (1+(w64 (Int.tmod x_.Inputs 3))))).toNat (z8.mk a6 fg.Out))) ae [Hn g4,Hn (iL jU h6),Hs (iM jU h6),Hn g5,Hs (iM jU h6),Hn (iL F8_ h7),Hs (iM jU h6),Hs (iM F8_ h7),Hs (iM jU h6),Hs (iM F8_ h7),Hs (iM jU h6),Hs (iM F8_ h7),Hl (sM F8_ fl (Int.tmod k_ (w64 (1+(w64 (Int.tmod x_.Inputs 3))))) (z8.mk a6 fg.Out)),Hl (sM jU ay (w64 (Int.tdiv k_ (w64 (1+(w64 (Int.tmod x_.Inputs 3)))))) (fl.set (Int.tmod k_ (w64 (1+(w64 (Int.tmod x_.Inputs 3))))).toNat (z8.mk a6 fg.Out)))]
      ·let Z1:List HO:=[Ha (lnM (eI .u8) x_.Tree)];rcases zB ae with⟨c4,ae⟩|⟨c4,ae⟩
       ·obtain⟨kj,h8,ae⟩:=zb ae;obtain⟨g6,ae⟩:=gdE ae;obtain⟨je,h9,ae⟩:=zb ae;exact yB X0 hC hJ11 je ae (Z1++[Hq c4,Hi (eI .u8) h8,Ha (lnM nF free),Hn g6,Hn (iL nF h9),Hs (iM nF h9)])
       ·exact yB X0 hC hJ11 ix ae (Z1++[Hq c4])
     ·obtain⟨t12,ht12,ae⟩:=zb ae;refine yLx X0 hC y7 [1,1,1,1,2,1,0,0,1,2,0,1,2,1,0] [J2,J8,J9,J10] (λs=>jP x_ ay a6 s.1 s.2) (λx=>z4r x_ ay a6 x.1 x.2) (([]:List Int),0) ht12 [(1,.own (.box (z0k x_))),(2,.own (.box (.agg [I 0,I 0,eOs 1 true yX []]))),(3,.d (I (w64 (1+(w64 (Int.tmod x_.States 6)))))),(4,.own (.box (.agg [I (w64 (1+(w64 (Int.tmod x_.Inputs 3)))),I (w64 (1+(w64 (Int.tmod x_.Outputs 3)))),eOs 1 false jU ay]))),(9,.d (I a6)),(10,.own (eOs 1 true nF [])),(11,.d (I 0))] inferInstance [] ?_;rintro⟨eh,a9⟩ mp ck aj hl2 ml mg;try unfold jP at aj;rcases zB aj with⟨c5,aj⟩|⟨c5,aj⟩
      ·refine yJ X0 hC y7 [1,1,1,1,2,1,0,0,1,2,0,1,2,1,0,0,1] [J2,J8,J9,J10,ml] [1,2,3,4,9,10,11] (λz:List Int=>Y1 a9 z=some ck) (λz=>z4u x_ ay a6 a9 z) [(1,.own (.box (z0k x_))),(2,.own (.box (.agg [I 0,I 0,eOs 1 true yX []]))),(3,.d (I (w64 (1+(w64 (Int.tmod x_.States 6)))))),(4,.own (.box (.agg [I (w64 (1+(w64 (Int.tmod x_.Inputs 3)))),I (w64 (1+(w64 (Int.tmod x_.Outputs 3)))),eOs 1 false jU ay]))),(9,.d (I a6)),(10,.own (eOs 1 false nF eh)),(11,.d (I a9))] [Hq c5,Hh (.cut 0)] ?_ λJ13 hJ13=>?_
       ·rintro iy aj;unfold Y1 at aj;obtain rfl:=za aj;exact yB X0 hC mg (iy,w64 (a9+1)) hl2 []
       ·obtain⟨g7,aj⟩:=gdE aj;obtain⟨ju,h10,aj⟩:=zb aj;obtain⟨g8,aj⟩:=gdE aj;obtain⟨iz,h11,aj⟩:=zb aj;let Z2:List HO:=[Hn g7,Hn (iL jU h10),Hs (iM jU h10),Hn g8,Hs (iM jU h10),Hn (iL F8_ h11),Hs (iM jU h10),Hs (iM F8_ h11),Hs (iM jU h10),Hs (iM F8_ h11)];rcases zB aj with⟨c6,aj⟩|⟨c6,aj⟩
        ·obtain⟨g9,aj⟩:=gdE aj;exact yB X0 hC hJ13 (eh++([a9]:List Int)) aj (Z2++[Hq c6,Hq (dM nF ([a9]:List Int)),Hn (dM nF ([a9]:List Int)),Hn (aL nF nF g9),Hl (aM nF eh ([a9]:List Int))])
        ·exact yB X0 hC hJ13 eh aj (Z2++[Hq c6])
      ·obtain rfl:=za aj;obtain rfl:=hl2;exact yB X0 hC hJ10 eh ae [Hq c5]
   ·obtain rfl:=za ae;obtain rfl:=hl1;exact yB X0 hC av ay aa [Hq c3]
 ·obtain⟨mc,ht14,aa⟩:=zb aa;refine yLx X0 hC y7 [1,1,1,2,1,0] [J1] (λs=>jO x_ s.1 s.2) (λx=>z4q x_ x.1 x.2) (([]:List (List z8)),0) ht14 [(1,.own (.box (z0k x_))),(2,.own (.box (.agg [I 0,I 0,eOs 1 true yX []]))),(3,.d (I (w64 (1+(w64 (Int.tmod x_.States 6)))))),(4,.own (.box (.agg [I (w64 (1+(w64 (Int.tmod x_.Inputs 3)))),I (w64 (1+(w64 (Int.tmod x_.Outputs 3)))),eOs 1 true jU []]))),(5,.d (I 0))] inferInstance [] ?_;rintro⟨bn,bi⟩ mq ar ae hl1 l8 mh;try unfold jO at ae;rcases zB ae with⟨c7,ae⟩|⟨c7,ae⟩
  ·refine yJ X0 hC y7 [1,1,1,2,1,0,0,1] [J1,l8] [1,2,3,4,5] (λz:List (List z8)=>Wg bi z=some ar) (λz=>z4t x_ bi z) [(1,.own (.box (z0k x_))),(2,.own (.box (.agg [I 0,I 0,eOs 1 true yX []]))),(3,.d (I (w64 (1+(w64 (Int.tmod x_.States 6)))))),(4,.own (.box (.agg [I (w64 (1+(w64 (Int.tmod x_.Inputs 3)))),I (w64 (1+(w64 (Int.tmod x_.Outputs 3)))),eOs 1 false jU bn]))),(5,.d (I bi))] [Hq c7,Hh (.cut 0)] ?_ λJ15 hJ15=>?_
   ·rintro gh ae;unfold Wg at ae;obtain rfl:=za ae;exact yB X0 hC mh (gh,w64 (bi+1)) hl1 []
   ·refine yJ X0 hC y7 [1,1,1,2,1,0,0,1,2,0,1] [J1,l8,J15] [1,2,3,4,5,6] (λz:List z8=>Wf bn bi z=some ar) (λz=>z4s x_ bn bi z) [(1,.own (.box (z0k x_))),(2,.own (.box (.agg [I 0,I 0,eOs 1 true yX []]))),(3,.d (I (w64 (1+(w64 (Int.tmod x_.States 6)))))),(4,.own (.box (.agg [I (w64 (1+(w64 (Int.tmod x_.Inputs 3)))),I (w64 (1+(w64 (Int.tmod x_.Outputs 3)))),eOs 1 false jU bn]))),(5,.d (I bi)),(6,.own (eOs 2 true F8_ []))] [Hh (.cut 1)] ?_ λJ16 hJ16=>?_
    ·rintro row ae;unfold Wf at ae;obtain⟨g10,ae⟩:=gdE ae;exact yB X0 hC hJ15 (bn++([row]:List (List z8))) ae [Hq (oC jU row []),Hn (aL jU jU g10),Hl (aM jU bn ([row]:List (List z8)))]
    ·obtain⟨t17,ht17,ae⟩:=zb ae;refine yLx X0 hC y7 [1,1,1,2,1,0,0,1,2,0,1,2,1,0] [J1,l8,J15,J16] (λs=>jN x_ bi s.1 s.2) (λx=>z4p x_ bn bi x.1 x.2) (([]:List z8),0) ht17 [(1,.own (.box (z0k x_))),(2,.own (.box (.agg [I 0,I 0,eOs 1 true yX []]))),(3,.d (I (w64 (1+(w64 (Int.tmod x_.States 6)))))),(4,.own (.box (.agg [I (w64 (1+(w64 (Int.tmod x_.Inputs 3)))),I (w64 (1+(w64 (Int.tmod x_.Outputs 3)))),eOs 1 false jU bn]))),(5,.d (I bi)),(6,.own (eOs 2 true F8_ [])),(7,.d (I 0))] inferInstance [] ?_;rintro⟨ca,i3⟩ mr ck aj hl2 mv mi;try unfold jN at aj;rcases zB aj with⟨c8,aj⟩|⟨c8,aj⟩
     ·obtain⟨ah,h12,aj⟩:=zb aj;obtain⟨g11,aj⟩:=gdE aj;obtain⟨g12,aj⟩:=gdE aj;obtain⟨g13,aj⟩:=gdE aj;obtain rfl:=za aj;exact yB X0 hC mi ((ca++([(z8.mk (-1) (Int.tmod (w64 (Int.tdiv ah (w64 (1+(w64 (Int.tmod x_.States 6)))))) (w64 (1+(w64 (Int.tmod x_.Outputs 3))))))]:List z8)),w64 (i3+1)) hl2 [Hq c8,Hc h0C (x:=(x_.Edges,w64 ((w64 (bi*(w64 (1+(w64 (Int.tmod x_.Inputs 3))))))+i3))) h12 (loC F4_ x_.Edges <| loC nF (w64 ((w64 (bi*(w64 (1+(w64 (Int.tmod x_.Inputs 3))))))+i3)) <| loN),Hn g11,Hn g12,Hq (dM F8_ ([(z8.mk (-1) (Int.tmod (w64 (Int.tdiv ah (w64 (1+(w64 (Int.tmod x_.States 6)))))) (w64 (1+(w64 (Int.tmod x_.Outputs 3))))))]:List z8)),Hn (dM F8_ ([(z8.mk (-1) (Int.tmod (w64 (Int.tdiv ah (w64 (1+(w64 (Int.tmod x_.States 6)))))) (w64 (1+(w64 (Int.tmod x_.Outputs 3))))))]:List z8)),Hn (aL F8_ F8_ g13),Hl (aM F8_ ca ([(z8.mk (-1) (Int.tmod (w64 (Int.tdiv ah (w64 (1+(w64 (Int.tmod x_.States 6)))))) (w64 (1+(w64 (Int.tmod x_.Outputs 3))))))]:List z8))]
     ·obtain rfl:=za aj;obtain rfl:=hl2;exact yB X0 hC hJ16 ca ae [Hq c8]
  ·obtain rfl:=za ae;obtain rfl:=hl1;exact yB X0 hC ap bn aa [Hq c7]
def Wi:Code:=(f137.body).getD .skip
def QG:zI:=spF (α:=z6×List (List Bool)×Int×Int) (ρ:=Int) 137 (λx=>[zD x.1,(eSl 1 false (eSl 1 false eB)) x.2.1,nF x.2.2.1,nF x.2.2.2]) (λr=>nF r) (λx=>Uh x.1 x.2.1 x.2.2.1 x.2.2.2) [] (zrs)
abbrev z4g:List (Nat×T):=[]
abbrev z4f (m_:z6)(aw:List (List Bool))(s_:Int)(t_:Int)(i_:Int)(lq:Int)(lu:Bool)(lv:Bool)(lw:Bool)(ly:Bool)(lz:Bool):List (Nat×T):=[(1,.d (eSl 1 false (eSl 1 false eB) aw)),(2,.d (I s_)),(3,.d (I t_)),(4,.own (.box (zD m_))),(9,.d (I i_)),(41,.d (I lq)),(42,.d (B lu)),(43,.d (B lv)),(47,.d (B lw)),(48,.d (B ly)),(58,.d (B lz))]
abbrev z4e (m_:z6)(aw:List (List Bool))(s_:Int)(t_:Int)(i_:Int):List (Nat×T):=[(1,.d (eSl 1 false (eSl 1 false eB) aw)),(2,.d (I s_)),(3,.d (I t_)),(4,.own (.box (zD m_))),(9,.d (I i_))]
theorem z8v (hC:zy prog ctr):QG.Ok prog:=by
 refine zx ?_;rintro⟨m_,aw,s_,t_⟩ r0 aa;try unfold Uh at aa;refine yO true [(8,none)] Wi 60 func137 λE hE=>?_;refine yJ X0 hC Wi [1] [] [] (λz:Unit=>QO=some r0) (λz=>z4g) [(1,.d (eSl 1 false (eSl 1 false eB) aw)),(2,.d (I s_)),(3,.d (I t_)),(4,.own (.box (zD m_)))] [Hh (.cut 1)] ?_ λJ1 ap=>?_
 ·rintro⟨⟩ aa;unfold QO at aa;obtain rfl:=za aa;exact yE X0 hC hE []
 ·obtain⟨t2,ht2,aa⟩:=zb aa;refine yL X0 hC Wi [1,2,1,0] [J1] (λs=>jK m_ aw s_ t_ s) (λx=>z4e m_ aw s_ t_ x) 0 ht2  [] ?_;rintro i_ m2 ar ae hl1 J2 av;try unfold jK at ae;rcases zB ae with⟨c0,ae⟩|⟨c0,ae⟩
  ·refine yJ X0 hC Wi [1,2,1,0,0,1] [J1,J2] [1,2,3,4,9,41,42,43,47,48,58] (λz:Int×Bool×Bool×Bool×Bool×Bool=>jL i_ z.1 z.2.1 z.2.2.1 z.2.2.2.1 z.2.2.2.2.1 z.2.2.2.2.2=some ar) (λz=>z4f m_ aw s_ t_ i_ z.1 z.2.1 z.2.2.1 z.2.2.2.1 z.2.2.2.2.1 z.2.2.2.2.2) [(1,.d (eSl 1 false (eSl 1 false eB) aw)),(2,.d (I s_)),(3,.d (I t_)),(4,.own (.box (zD m_))),(9,.d (I i_))] [Hq c0,Hh (.cut 0)] ?_ λJ3 ba=>?_
   ·rintro⟨lq,lu,lv,lw,ly,lz⟩ ae;unfold jL at ae;obtain rfl:=za ae;exact yB X0 hC av (w64 (i_+1)) hl1 []
   ·obtain⟨am,h0,ae⟩:=zb ae;obtain⟨ak,h1,ae⟩:=zb ae;obtain⟨ij,h2,ae⟩:=zb ae;obtain⟨bk,h3,ae⟩:=zb ae;let Z0:List HO:=[Hi yX h0,Hi F8_ h1,Hi yX h2,Hi F8_ h3];rcases zB ae with⟨c1,ae⟩|⟨c1,ae⟩
    ·obtain rfl:=za ae;obtain rfl:=hl1;obtain rfl:=za aa;exact yE X0 hC hE (Z0++(rpN 8 (Hq c1) [qT]))
    ·let Z1:List HO:=(Z0++(rpN 4 (Hq c1) []));rcases zB ae with⟨c2,ae⟩|⟨c2,ae⟩
     ·let Z2:List HO:=(Z1++[Hq c2,Hq c2,Hq c2,Hq c1,Hq c2,Hq c1]);rcases zB ae with⟨c3,ae⟩|⟨c3,ae⟩
      ·obtain⟨dw,h4,ae⟩:=zb ae;obtain⟨cb,h5,ae⟩:=zb ae;let Z3:List HO:=(Z2++(rpN 4 (Hq c3) (Hi (eSl 1 false eB) h4::(rpN 4 (Hq c3) [Hi eB h5,Hq c3,Hq c1,Hq c3,Hq c1]))));rcases zB ae with⟨c4,ae⟩|⟨c4,ae⟩
       ·obtain rfl:=za ae;obtain rfl:=hl1;obtain rfl:=za aa;exact yE X0 hC hE (Z3++[Hq c4])
       ·exact yB X0 hC ba (ak.To,decide (ak.To>=0),decide (ak.To>=0),decide (bk.To>=0),decide (bk.To>=0),cb) ae (Z3++[Hq c4])
      ·exact yB X0 hC ba (ak.To,decide (ak.To>=0),decide (ak.To>=0),decide (bk.To>=0),decide (bk.To>=0),false) ae (Z2++(rpN 9 (Hq c3) [Hq c1,Hq c3,Hq c1,qF]))
     ·exact yB X0 hC ba (ak.To,decide (ak.To>=0),decide (ak.To>=0),false,false,false) ae (Z1++(Hq c2::Hq c2::Hq c2::Hq c1::Hq c2::Hq c1::(rpN 9 qF [Hq c1,qF,Hq c1,qF])))
  ·obtain rfl:=za ae;obtain rfl:=hl1;exact yB X0 hC ap () aa [Hq c0]
def xH:Code:=(f116.body).getD .skip
def VL:zI:=spF (α:=z6×Int) (ρ:=List (List Bool)) 116 (λx=>[zD x.1,nF x.2]) (λr=>(eOs 1 false (eOs 1 true eB)) r) (λx=>Wt x.1 x.2) [] (Vk)
abbrev z3a (im:List (List Bool)):List (Nat×T):=[(6,.own (eOs 1 false (eOs 1 true eB) im))]
abbrev z38 (m_:z6)(k_:Int)(round:Int)(gz:List (List Bool)):List (Nat×T):=[(1,.d (I k_)),(2,.own (.box (zD m_))),(5,.d (I ((m_.Rows.length:Nat):Int))),(6,.own (eOs 1 false (eOs 1 true eB) gz)),(8,.d (I round))]
abbrev z37 (m_:z6)(k_:Int)(round:Int)(next:List (List Bool)):List (Nat×T):=[(1,.d (I k_)),(2,.own (.box (zD m_))),(5,.d (I ((m_.Rows.length:Nat):Int))),(8,.d (I round)),(9,.own (eOs 1 false (eOs 1 true eB) next))]
abbrev z36 (m_:z6)(k_:Int)(bc:List (List Bool))(round:Int)(s_:Int)(i4:List (List Bool)):List (Nat×T):=[(1,.d (I k_)),(2,.own (.box (zD m_))),(5,.d (I ((m_.Rows.length:Nat):Int))),(6,.d (eSl 1 false (eSl 1 true eB) bc)),(8,.d (I round)),(9,.own (eOs 1 false (eOs 1 true eB) i4)),(10,.d (I s_))]
abbrev z33 (m_:z6)(k_:Int)(bc:List (List Bool))(round:Int)(s_:Int)(em:List (List Bool))(t_:Int):List (Nat×T):=[(1,.d (I k_)),(2,.own (.box (zD m_))),(5,.d (I ((m_.Rows.length:Nat):Int))),(6,.d (eSl 1 false (eSl 1 true eB) bc)),(8,.d (I round)),(9,.own (eOs 1 false (eOs 1 true eB) em)),(10,.d (I s_)),(11,.d (I t_))]
abbrev z34 (m_:z6)(k_:Int)(bc:List (List Bool))(round:Int)(ft:List (List Bool))(s_:Int):List (Nat×T):=[(1,.d (I k_)),(2,.own (.box (zD m_))),(5,.d (I ((m_.Rows.length:Nat):Int))),(6,.d (eSl 1 false (eSl 1 true eB) bc)),(8,.d (I round)),(9,.own (eOs 1 false (eOs 1 true eB) ft)),(10,.d (I s_))]
abbrev z35 (m_:z6)(k_:Int)(bc:List (List Bool))(round:Int):List (Nat×T):=[(1,.d (I k_)),(2,.own (.box (zD m_))),(5,.d (I ((m_.Rows.length:Nat):Int))),(6,.own (eOs 1 false (eOs 1 true eB) bc)),(8,.d (I round))]
abbrev z3b (m_:z6)(k_:Int)(aw:List (List Bool)):List (Nat×T):=[(1,.d (I k_)),(2,.own (.box (zD m_))),(5,.d (I ((m_.Rows.length:Nat):Int))),(6,.own (eOs 1 false (eOs 1 true eB) aw))]
abbrev z32 (m_:z6)(k_:Int)(d6:List (List Bool))(a6:Int):List (Nat×T):=[(1,.d (I k_)),(2,.own (.box (zD m_))),(5,.d (I ((m_.Rows.length:Nat):Int))),(6,.own (eOs 1 false (eOs 1 true eB) d6)),(7,.d (I a6))]
theorem z7p (hC:zy prog ctr)(h0U:ctr.Has QG):VL.Ok prog:=by
 refine zx ?_;rintro⟨m_,k_⟩ r0 aa;try unfold Wt at aa;refine yO true [(4,none)] xH 68 func116 λE hE=>?_;refine yJ X0 hC xH [1,1,1] [] [1,2,5,6] (λz:List (List Bool)=>X7 m_ k_ z=some r0) (λz=>z3b m_ k_ z) [(1,.d (I k_)),(2,.own (.box (zD m_))),(5,.d (I ((m_.Rows.length:Nat):Int))),(6,.own (eOs 1 true (eSl 1 false eB) []))] [Ha (lnM yX m_.Rows),Hh (.cut 1)] ?_ λJ1 ap=>?_
 ·rintro aw aa;unfold X7 at aa;refine yJ X0 hC xH [1,1,1,1] [] [6] (λz:List (List Bool)=>X6 z=some r0) (λz=>z3a z) [(1,.d (I k_)),(2,.own (.box (zD m_))),(5,.d (I ((m_.Rows.length:Nat):Int))),(6,.own (eOs 1 false (eOs 1 true eB) aw))] [Hh (.cut 0)] ?_ λJ2 av=>?_
  ·rintro im aa;unfold X6 at aa;obtain rfl:=za aa;exact yE X0 hC hE []
  ·obtain⟨t3,ht3,aa⟩:=zb aa;refine yL X0 hC xH [1,1,1,1,2,1,0] [J2] (λs=>vI m_ k_ s.1 s.2) (λx=>z35 m_ k_ x.1 x.2) (aw,0) ht3  [] ?_;rintro⟨bc,round⟩ m3 ar ae hl1 J3 ba;try unfold vI at ae;rcases zB ae with⟨c0,ae⟩|⟨c0,ae⟩
   ·refine yJ X0 hC xH [1,1,1,1,2,1,0,0,1] [J2,J3] [1,2,5,6,8] (λz:List (List Bool)=>X5 round z=some ar) (λz=>z38 m_ k_ round z) [(1,.d (I k_)),(2,.own (.box (zD m_))),(5,.d (I ((m_.Rows.length:Nat):Int))),(6,.own (eOs 1 false (eOs 1 true eB) bc)),(8,.d (I round))] [Hq c0,Hh (.cut 0)] ?_ λJ4 bw=>?_
    ·rintro gz ae;unfold X5 at ae;obtain rfl:=za ae;exact yB X0 hC ba (gz,w64 (round+1)) hl1 []
    ·refine yJ X0 hC xH [1,1,1,1,2,1,0,0,1,2,0,1] [J2,J3,J4] [1,2,5,8,9] (λz:List (List Bool)=>X4 round z=some ar) (λz=>z37 m_ k_ round z) [(1,.d (I k_)),(2,.own (.box (zD m_))),(5,.d (I ((m_.Rows.length:Nat):Int))),(6,.own (eOs 1 false (eOs 1 true eB) bc)),(8,.d (I round)),(9,.own (eOs 1 true (eSl 1 false eB) []))] [Hh (.cut 1)] ?_ λJ5 bz=>?_
     ·rintro next ae
      unfold X4 at ae;exact yB X0 hC bw next ae []
     ·obtain⟨t6,jd,ae⟩:=zb ae;refine yLx X0 hC xH [1,1,1,1,2,1,0,0,1,2,0,1,2,1,0] [J2,J3,J4,J5] (λs=>vH m_ bc s.1 s.2) (λx=>z34 m_ k_ bc round x.1 x.2) (([]:List (List Bool)),0) jd [(1,.d (I k_)),(2,.own (.box (zD m_))),(5,.d (I ((m_.Rows.length:Nat):Int))),(6,.d (eSl 1 false (eSl 1 true eB) bc)),(8,.d (I round)),(9,.own (eOs 1 true (eOs 1 true eB) [])),(10,.d (I 0))] inferInstance [Hh (.n 3 [6]),Hm (shM (eOs 1 true eB) (eSl 1 true eB) bc)] ?_;rintro⟨ft,s_⟩ m6 ck aj hl2 J6 cw;try unfold vH at aj;rcases zB aj with⟨c1,aj⟩|⟨c1,aj⟩
      ·refine yJ X0 hC xH [1,1,1,1,2,1,0,0,1,2,0,1,2,1,0,0,1] [J2,J3,J4,J5,J6] [1,2,5,6,8,9,10] (λz:List (List Bool)=>X3 s_ z=some ck) (λz=>z36 m_ k_ bc round s_ z) [(1,.d (I k_)),(2,.own (.box (zD m_))),(5,.d (I ((m_.Rows.length:Nat):Int))),(6,.d (eSl 1 false (eSl 1 true eB) bc)),(8,.d (I round)),(9,.own (eOs 1 false (eOs 1 true eB) ft)),(10,.d (I s_))] [Hq c1,Hh (.cut 0)] ?_ λJ7 hJ7=>?_
       ·rintro i4 aj;unfold X3 at aj;obtain rfl:=za aj;exact yB X0 hC cw (i4,w64 (s_+1)) hl2 []
       ·obtain⟨g0,aj⟩:=gdE aj;obtain⟨g1,aj⟩:=gdE aj;obtain⟨t8,ht8,aj⟩:=zb aj;refine yL X0 hC xH [1,1,1,1,2,1,0,0,1,2,0,1,2,1,0,0,1,2,0,1,1,0] [J2,J3,J4,J5,J6,J7] (λs=>vG m_ bc s_ s.1 s.2) (λx=>z33 m_ k_ bc round s_ x.1 x.2) ((ft++([(List.replicate ((m_.Rows.length:Nat):Int).toNat false)]:List (List Bool))),0) ht8  [Hn (rL g0),Ha (rM 1 eB ((m_.Rows.length:Nat):Int) false),Hq (oC (eOs 1 true eB) (List.replicate ((m_.Rows.length:Nat):Int).toNat false) []),Hn (aL (eOs 1 true eB) (eOs 1 true eB) g1),Hl (aM (eOs 1 true eB) ft ([(List.replicate ((m_.Rows.length:Nat):Int).toNat false)]:List (List Bool)))] ?_;rintro⟨em,t_⟩ m8 me bo hl3 J8 kb;try unfold vG at bo;rcases zB bo with⟨c2,bo⟩|⟨c2,bo⟩
        ·obtain⟨dx,h0,bo⟩:=zb bo;obtain⟨dw,h1,bo⟩:=zb bo;obtain⟨cb,h2,bo⟩:=zb bo;let Z0:List HO:=[Hq c2,Hn (iL (eOs 1 true eB) h0),Hs (iM (eOs 1 true eB) h0),Hi (eSl 1 true eB) h1,Hi eB h2];rcases zB bo with⟨c3,bo⟩|⟨c3,bo⟩
         ·obtain⟨k0,h3,bo⟩:=zb bo;obtain rfl:=za bo;exact yB X0 hC kb ((em.set s_.toNat (dx.set t_.toNat true)),w64 (t_+1)) hl3 (Z0++(rpN 7 (Hq c3) [Hs (iM (eOs 1 true eB) h0),Hn (iL eB h3),Hs (iM (eOs 1 true eB) h0),Hs (iM eB h3),Hs (iM (eOs 1 true eB) h0),Hs (iM eB h3),Hl (sM eB dx t_ true),Hl (sM (eOs 1 true eB) em s_ (dx.set t_.toNat true))]))
         ·obtain⟨r_,h4,bo⟩:=zb bo;obtain⟨kl,h5,bo⟩:=zb bo;obtain rfl:=za bo;exact yB X0 hC kb ((em.set s_.toNat (dx.set t_.toNat (r_==1))),w64 (t_+1)) hl3 (Z0++(rpN 5 (Hq c3) [Hc h0U (x:=(m_,bc,s_,t_)) h4 (loC zD m_ <| loC (eSl 1 false (eSl 1 true eB)) bc <| loC nF s_ <| loC nF t_ <| loN),Hq c3,Hq c3,Hs (iM (eOs 1 true eB) h0),Hn (iL eB h5),Hs (iM (eOs 1 true eB) h0),Hs (iM eB h5),Hs (iM (eOs 1 true eB) h0),Hs (iM eB h5),Hl (sM eB dx t_ (r_==1)),Hl (sM (eOs 1 true eB) em s_ (dx.set t_.toNat (r_==1)))]))
        ·obtain rfl:=za bo;obtain rfl:=hl3;exact yB X0 hC hJ7 em aj [Hq c2]
      ·obtain rfl:=za aj;obtain rfl:=hl2;exact yB X0 hC bz ft ae [Hq c1]
   ·obtain rfl:=za ae;obtain rfl:=hl1;exact yB X0 hC av bc aa [Hq c0]
 ·obtain⟨t9,ht9,aa⟩:=zb aa;refine yLx X0 hC xH [1,1,1,2,1,0] [J1] (λs=>vF m_ s.1 s.2) (λx=>z32 m_ k_ x.1 x.2) (([]:List (List Bool)),0) ht9 [(1,.d (I k_)),(2,.own (.box (zD m_))),(5,.d (I ((m_.Rows.length:Nat):Int))),(6,.own (eOs 1 true (eOs 1 true eB) [])),(7,.d (I 0))] inferInstance [] ?_;rintro⟨d6,a6⟩ m9 ar ae hl1 J9 kw;try unfold vF at ae;rcases zB ae with⟨c4,ae⟩|⟨c4,ae⟩
  ·obtain⟨g2,ae⟩:=gdE ae;obtain⟨g3,ae⟩:=gdE ae;obtain rfl:=za ae;exact yB X0 hC kw ((d6++([(List.replicate ((m_.Rows.length:Nat):Int).toNat false)]:List (List Bool))),w64 (a6+1)) hl1 [Hq c4,Hn (rL g2),Ha (rM 1 eB ((m_.Rows.length:Nat):Int) false),Hq (oC (eOs 1 true eB) (List.replicate ((m_.Rows.length:Nat):Int).toNat false) []),Hn (aL (eOs 1 true eB) (eOs 1 true eB) g3),Hl (aM (eOs 1 true eB) d6 ([(List.replicate ((m_.Rows.length:Nat):Int).toNat false)]:List (List Bool)))]
  ·obtain rfl:=za ae;obtain rfl:=hl1;exact yB X0 hC ap d6 aa [Hq c4]
def xw:Code:=(f115.body).getD .skip
def YO:zI:=spF (α:=List (List Bool)) (ρ:=List Int) 115 (λx=>[(eSl 1 false (eSl 1 false eB)) x]) (λr=>F5_ r) (λx=>Zg x) [] (WJ)
abbrev z0g (out:List Int):List (Nat×T):=[(3,.own (eOs 1 false nF out))]
abbrev z0f (aw:List (List Bool))(s_:Int)(az:List Int)(cj:Int):List (Nat×T):=[(0,.d (eSl 1 false (eSl 1 false eB) aw)),(3,.own (eOs 1 false nF az)),(4,.d (I cj)),(5,.d (I s_))]
abbrev z0d (aw:List (List Bool))(ai:List Int)(s_:Int)(km:Int)(i5:Int):List (Nat×T):=[(0,.d (eSl 1 false (eSl 1 false eB) aw)),(3,.own (eOs 1 false nF ai)),(4,.d (I km)),(5,.d (I s_)),(6,.d (I i5))]
abbrev z0e (aw:List (List Bool))(ai:List Int)(n_:Int)(s_:Int)(b_:Int):List (Nat×T):=[(0,.d (eSl 1 false (eSl 1 false eB) aw)),(3,.own (eOs 1 false nF ai)),(4,.d (I n_)),(5,.d (I s_)),(6,.d (I b_))]
abbrev z0c (aw:List (List Bool))(ai:List Int)(n_:Int)(s_:Int)(t_:Int)(kn:Int):List (Nat×T):=[(0,.d (eSl 1 false (eSl 1 false eB) aw)),(3,.own (eOs 1 false nF ai)),(4,.d (I n_)),(5,.d (I s_)),(6,.d (I kn)),(7,.d (I t_))]
abbrev z0a (aw:List (List Bool))(ai:List Int)(n_:Int)(s_:Int)(jg:Int)(t_:Int):List (Nat×T):=[(0,.d (eSl 1 false (eSl 1 false eB) aw)),(3,.own (eOs 1 false nF ai)),(4,.d (I n_)),(5,.d (I s_)),(6,.d (I jg)),(7,.d (I t_))]
abbrev z0b (aw:List (List Bool))(ai:List Int)(n_:Int)(s_:Int):List (Nat×T):=[(0,.d (eSl 1 false (eSl 1 false eB) aw)),(3,.own (eOs 1 false nF ai)),(4,.d (I n_)),(5,.d (I s_))]
theorem z3s (hC:zy prog ctr):YO.Ok prog:=by
 refine zx ?_;rintro aw r0 aa;try unfold Zg at aa;refine yO true [(2,none)] xw 41 func115 λE hE=>?_;refine yJ X0 hC xw [1,1,1] [] [3] (λz:List Int=>X2 z=some r0) (λz=>z0g z) [(0,.d (eSl 1 false (eSl 1 false eB) aw)),(3,.own (eOs 1 true nF [])),(4,.d (I 0))] [Hh (.cut 3)] ?_ λJ1 ap=>?_
 ·rintro out aa;unfold X2 at aa;obtain rfl:=za aa;exact yE X0 hC hE []
 ·obtain⟨t2,ht2,aa⟩:=zb aa;refine yLx X0 hC xw [1,1,1,2,1,0] [J1] (λs=>k7 aw s.1 s.2.1 s.2.2) (λx=>z0b aw x.1 x.2.1 x.2.2) (([]:List Int),0,0) ht2 [(0,.d (eSl 1 false (eSl 1 false eB) aw)),(3,.own (eOs 1 true nF [])),(4,.d (I 0)),(5,.d (I 0))] inferInstance [] ?_;rintro⟨ai,n_,s_⟩ m2 ar ae hl1 J2 av;try unfold k7 at ae
  let Z0:List HO:=[Ha (lnM (eSl 1 false eB) aw)];rcases zB ae with⟨c0,ae⟩|⟨c0,ae⟩
  ·refine yJ X0 hC xw [1,1,1,2,1,0,0,1] [J1,J2] [0,3,4,5] (λz:List Int×Int=>kA s_ z.1 z.2=some ar) (λz=>z0f aw s_ z.1 z.2) [(0,.d (eSl 1 false (eSl 1 false eB) aw)),(3,.own (eOs 1 false nF ai)),(4,.d (I n_)),(5,.d (I s_))] (Z0++[Hq c0,Hh (.cut 0)]) ?_ λJ3 ba=>?_
   ·rintro⟨az,cj⟩ ae;unfold kA at ae;obtain rfl:=za ae;exact yB X0 hC av (az,cj,w64 (s_+1)) hl1 []
   ·refine yJ X0 hC xw [1,1,1,2,1,0,0,1,2,0,1] [J1,J2,J3] [0,3,4,5,6] (λz:Int=>k8 ai n_ s_ z=some ar) (λz=>z0e aw ai n_ s_ z) [(0,.d (eSl 1 false (eSl 1 false eB) aw)),(3,.own (eOs 1 false nF ai)),(4,.d (I n_)),(5,.d (I s_)),(6,.d (I (-1)))] [Hh (.cut 1)] ?_ λJ4 bw=>?_
    ·rintro b_ ae;unfold k8 at ae;refine yJ X0 hC xw [1,1,1,2,1,0,0,1,2,0,1,1] [J1,J2,J3] [0,3,4,5,6] (λz:Int×Int=>wS ai s_ z.1 z.2=some ar) (λz=>z0d aw ai s_ z.1 z.2) [(0,.d (eSl 1 false (eSl 1 false eB) aw)),(3,.own (eOs 1 false nF ai)),(4,.d (I n_)),(5,.d (I s_)),(6,.d (I b_))] [Hh (.cut 0)] ?_ λJ5 bz=>?_
     ·rintro⟨km,i5⟩ ae;unfold wS at ae;obtain⟨g0,ae⟩:=gdE ae;exact yB X0 hC ba ((ai++([i5]:List Int)),km) ae [Hq (dM nF ([i5]:List Int)),Hn (dM nF ([i5]:List Int)),Hn (aL nF nF g0),Hl (aM nF ai ([i5]:List Int))]
     ·rcases zB ae with⟨c1,ae⟩|⟨c1,ae⟩
      ·exact yB X0 hC bz (w64 (n_+1),n_) ae [Hq c1]
      ·exact yB X0 hC bz (n_,b_) ae [Hq c1]
    ·obtain⟨t6,jd,ae⟩:=zb ae;refine yL X0 hC xw [1,1,1,2,1,0,0,1,2,0,1,2,1,0] [J1,J2,J3,J4] (λs=>ui aw ai s_ s.1 s.2) (λx=>z0a aw ai n_ s_ x.1 x.2) ((-1),0) jd  [] ?_;rintro⟨jg,t_⟩ m6 ck aj hl2 J6 cw;try unfold ui at aj;rcases zB aj with⟨c2,aj⟩|⟨c2,aj⟩
     ·refine yJ X0 hC xw [1,1,1,2,1,0,0,1,2,0,1,2,1,0,0,1] [J1,J2,J3,J4,J6] [0,3,4,5,6,7] (λz:Int=>uj t_ z=some ck) (λz=>z0c aw ai n_ s_ t_ z) [(0,.d (eSl 1 false (eSl 1 false eB) aw)),(3,.own (eOs 1 false nF ai)),(4,.d (I n_)),(5,.d (I s_)),(6,.d (I jg)),(7,.d (I t_))] [Hq c2,Hh (.cut 0)] ?_ λJ7 hJ7=>?_
      ·rintro kn aj;unfold uj at aj;obtain rfl:=za aj;exact yB X0 hC cw (kn,w64 (t_+1)) hl2 []
      ·obtain⟨dw,h0,aj⟩:=zb aj;obtain⟨cb,h1,aj⟩:=zb aj;let Z1:List HO:=[Hi (eSl 1 false eB) h0,Hi eB h1];rcases zB aj with⟨c3,aj⟩|⟨c3,aj⟩
       ·obtain⟨bq,h2,aj⟩:=zb aj;exact yB X0 hC hJ7 bq aj (Z1++[Hq c3,Hn (iL nF h2),Hs (iM nF h2)])
       ·exact yB X0 hC hJ7 jg aj (Z1++[Hq c3])
     ·obtain rfl:=za aj;obtain rfl:=hl2;exact yB X0 hC bw jg ae [Hq c2]
  ·obtain rfl:=za ae;obtain rfl:=hl1;exact yB X0 hC ap ai aa (Z0++[Hq c0])
def z6L:Code:=(f87.body).getD .skip
def VK:zI:=spF (α:=z6×Int) (ρ:=List Int) 87 (λx=>[zD x.1,nF x.2]) (λr=>F5_ r) (λx=>Qm x.1 x.2) [] (Vk)
theorem z7o (hC:zy prog ctr)(h0V:ctr.Has VL)(h0D:ctr.Has YO):VK.Ok prog:=by refine zx ?_;rintro⟨m_,k_⟩ r0 aa;try unfold Qm at aa;refine yO true [(4,none)] z6L 9 func87 λE hE=>?_;obtain⟨r_,h0,aa⟩:=zb aa;obtain⟨ah,h1,aa⟩:=zb aa;obtain rfl:=za aa;exact yE X0 hC hE [Hc h0V (x:=(m_,k_)) h0 (loC zD m_ <| loC nF k_ <| loN),Hg (z26 h0D),Hm (shM (eOs 1 true eB) (eSl 1 true eB) r_),Hs (z27 h0D (x:=r_) h1 (loC (eSl 1 false (eSl 1 true eB)) r_ <| loN)),Hm (shM (eOs 1 true eB) (eSl 1 true eB) r_)]
def z4Y:Code:=(f63.body).getD .skip
def Y7:zI:=spF (α:=z6) (ρ:=List Int) 63 (λx=>[zD x]) (λr=>F5_ r) (λx=>Zw x) [] (WJ)
theorem z5I (hC:zy prog ctr)(h0W:ctr.Has VK):Y7.Ok prog:=by refine zx ?_;rintro m_ r0 aa;try unfold Zw at aa;refine yO true [(2,none)] z4Y 8 func63 λE hE=>?_;obtain⟨r_,h0,aa⟩:=zb aa;obtain rfl:=za aa;exact yE X0 hC hE [Ha (lnM yX m_.Rows),Hc h0W (x:=(m_,((m_.Rows.length:Nat):Int))) h0 (loC zD m_ <| loC nF ((m_.Rows.length:Nat):Int) <| loN)]
def z9e:Code:=(f84.body).getD .skip
def YP:zI:=spF (α:=z6×Int×Int) (ρ:=z8) 84 (λx=>[zD x.1,nF x.2.1,nF x.2.2]) (λr=>F8_ r) (λx=>Vw x.1 x.2.1 x.2.2) [] (zcH)
theorem z9B (hC:zy prog ctr):YP.Ok prog:=by
 refine zx ?_;rintro⟨m_,s_,i_⟩ r0 aa;try unfold Vw at aa;refine yO false [(6,some 67)] z9e 18 func84 λE hE=>?_;rcases zB aa with⟨c0,aa⟩|⟨c0,aa⟩
 ·obtain rfl:=za aa;exact yE X0 hC hE [Hq c0]
 ·obtain⟨am,h0,aa⟩:=zb aa;obtain⟨ak,h1,aa⟩:=zb aa;obtain rfl:=za aa;exact yE X0 hC hE [Hq c0,Hi yX h0,Hi F8_ h1]
def z7F:Code:=(f165.body).getD .skip
def QJ:zI:=spF (α:=z6×Int×List Int) (ρ:=Int) 165 (λx=>[zD x.1,nF x.2.1,F6_ x.2.2]) (λr=>nF r) (λx=>JQ x.1 x.2.1 x.2.2) [] (zcH)
theorem z2n:∀(x y:z6×Int×List Int),(λx=>[zD x.1,nF x.2.1,F6_ x.2.2]) x=(λx=>[zD x.1,nF x.2.1,F6_ x.2.2]) y->x=y:=zcH
def WS (ig:z6->Int->(List Int)->Option Int):zI:=spF (α:=z6×Int×List Int) (ρ:=Int) 165 (λx=>[zD x.1,nF x.2.1,F6_ x.2.2]) (λr=>nF r) (λx=>ig x.1 x.2.1 x.2.2) [] (by intro x y h;exact(congrArg (λ(p:z6×Int×List Int)=>p) (show x=y from z2n x y h)))
theorem z5K (hC:zy prog ctr)(h0d:ctr.Has YP)(ig:z6->Int->(List Int)->Option Int)(h0X:ctr.Has (WS ig)):(WS (Zx ig)).Ok prog:=by
 refine zx ?_;rintro⟨m_,s_,w_⟩ r0 aa;try unfold Zx at aa;refine yO true [(6,none)] z7F 22 func165 λE hE=>?_;rcases zB aa with⟨c0,aa⟩|⟨c0,aa⟩
 ·obtain rfl:=za aa;exact yE X0 hC hE [Ha (lnM nF w_),Hq c0]
 ·obtain⟨d8,h0,aa⟩:=zb aa;obtain⟨r_,h1,aa⟩:=zb aa;obtain⟨g0,aa⟩:=gdE aa;obtain⟨ah,h2,aa⟩:=zb aa;obtain rfl:=za aa;exact yE ((zs8 zq zkf).or X0) hC hE [Ha (lnM nF w_),Hq c0,Hi nF h0,Hc h0d (x:=(m_,s_,d8)) h1 (loC zD m_ <| loC nF s_ <| loC nF d8 <| loN),Hn (slA g0),Hn (zlY nF g0),Ha (slE 1 false nF w_ (1:Int).toNat),Hc h0X (x:=(m_,r_.To,(w_.drop (1:Int).toNat))) h2 (loC zD m_ <| loC nF r_.To <| loC F6_ (w_.drop (1:Int).toNat) <| loN)]
theorem z8y (hC:zy prog ctr)(h0d:ctr.Has YP):QJ.Ok prog:=by
 have H:∀n,(WS (Xc n)).Ok prog:=by
  intro n;induction n with
  | zero=>exact zx λ_ _ h=>nomatch (show none=some _ from h)
  | succ n ih=>exact z5K (Ctr.add_ok hC ih) (h0d.add (by show(84:Nat)≠165;decide)) _ (Ctr.add_has _ _)
 exact zx λx r h=>zdS (H _) h
def K3:Code:=(f164.body).getD .skip
def JD:zI:=spF (α:=List Int×Int) (ρ:=List Int) 164 (λx=>[F6_ x.1,nF x.2]) (λr=>F5_ r) (λx=>XP x.1 x.2) [] (Vk)
abbrev z5e (out:List Int):List (Nat×T):=[(5,.own (eOs 1 false nF out))]
abbrev z5d (inputs:Int)(ai:List Int)(k_:Int):List (Nat×T):=[(1,.d (I inputs)),(5,.own (eOs 1 false nF ai)),(6,.d (I k_))]
theorem z9z (hC:zy prog ctr):JD.Ok prog:=by
 refine zx ?_;rintro⟨w_,inputs⟩ r0 aa;try unfold XP at aa;refine yO true [(4,none)] K3 37 func164 λE hE=>?_;obtain⟨g0,aa⟩:=gdE aa;refine yJ X0 hC K3 [1,1] [] [5] (λz:List Int=>X9 z=some r0) (λz=>z5e z) [(1,.d (I inputs)),(5,.own (eOs 1 false nF w_))] [Hn (dM nF w_),Hn (aL nF nF g0),Hl (aM0 nF w_),Hh (.cut 0)] ?_ λJ1 ap=>?_
 ·rintro out aa;unfold X9 at aa;obtain⟨g1,aa⟩:=gdE aa;obtain rfl:=za aa;exact yE X0 hC hE [Hq (dM nF ([0]:List Int)),Hn (dM nF ([0]:List Int)),Hn (aL nF nF g1),Hl (aM nF out ([0]:List Int))]
 ·obtain⟨t2,ht2,aa⟩:=zb aa;refine yL X0 hC K3 [1,1,2,1,0] [J1] (λs=>X8 inputs s.1 s.2) (λx=>z5d inputs x.1 x.2) (w_,w64 (((w_.length:Nat):Int) - 1)) ht2  [Ha (lnM nF w_)] ?_;rintro⟨ai,k_⟩ m2 ar ae hl1 J2 av;try unfold X8 at ae;rcases zB ae with⟨c0,ae⟩|⟨c0,ae⟩
  ·obtain⟨bq,h0,ae⟩:=zb ae;let Z0:List HO:=[Hq c0,Hn (iL nF h0),Hs (iM nF h0)];rcases zB ae with⟨c1,ae⟩|⟨c1,ae⟩
   ·obtain⟨dy,h1,ae⟩:=zb ae;obtain⟨jv,h2,ae⟩:=zb ae;obtain rfl:=za ae;obtain rfl:=hl1;obtain rfl:=za aa;exact yE X0 hC hE (Z0++[Hq c1,Hn (iL nF h1),Hs (iM nF h1),Hn (iL nF h2),Hs (iM nF h2),Hs (iM nF h2),Hl (sM nF ai k_ (w64 (dy+1)))])
   ·obtain⟨jw,h3,ae⟩:=zb ae;obtain rfl:=za ae;exact yB X0 hC av ((ai.set k_.toNat 0),w64 (k_ - 1)) hl1 (Z0++[Hq c1,Hn (iL nF h3),Hs (iM nF h3),Hs (iM nF h3),Hl (sM nF ai k_ 0)])
  ·obtain rfl:=za ae;obtain rfl:=hl1;exact yB X0 hC ap ai aa [Hq c0]
def Wj:Code:=(f143.body).getD .skip
def QH:zI:=spF (α:=z6×Int) (ρ:=List (List Int)×List Bool) 143 (λx=>[zD x.1,nF x.2]) (λr=>.tup [ziH r.1,(eSl 1 true eB) r.2]) (λx=>Ui x.1 x.2) [] (Vk)
abbrev z4j (l_:List (List Int))(is:List Bool):List (Nat×T):=[(6,.own (eOs 1 true F6_ l_)),(7,.own (eOs 1 true eB is))]
abbrev z4i (m_:z6)(bu:Int)(w_:List Int)(gc:List (List Int))(ko:List Bool):List (Nat×T):=[(1,.d (I bu)),(2,.own (.box (zD m_))),(6,.own (eOs 1 true F6_ gc)),(7,.own (eOs 1 true eB ko)),(8,.d (eSl 1 false nF w_))]
abbrev z4h (m_:z6)(bu:Int)(eb:List (List Int))(gi:List Bool)(w_:List Int):List (Nat×T):=[(1,.d (I bu)),(2,.own (.box (zD m_))),(6,.own (eOs 1 true F6_ eb)),(7,.own (eOs 1 true eB gi)),(8,.own (eOs 1 false nF w_))]
def vq:XH prog:=((Qs zq (.inr 48) [8]).or X0)
theorem z8w (hC:zy prog ctr)(h0Y:ctr.Has QJ)(h0Z:ctr.Has JD):QH.Ok prog:=by
 refine zx ?_;rintro⟨m_,bu⟩ r0 aa;try unfold Ui at aa;refine yO false [(4,none),(5,none)] Wj 51 func143 λE hE=>?_;obtain⟨g0,aa⟩:=gdE aa;obtain⟨g1,aa⟩:=gdE aa;refine yJ vq hC Wj [1,1,1] [] [6,7] (λz:List (List Int)×List Bool=>Wb z.1 z.2=some r0) (λz=>z4j z.1 z.2) [(1,.d (I bu)),(2,.own (.box (zD m_))),(6,.own (eOs 1 true F2_ (List.replicate ((m_.Rows.length:Nat):Int).toNat ([]:List Int)))),(7,.own (eOs 1 true eB (List.replicate ((m_.Rows.length:Nat):Int).toNat false)))] [Ha (lnM yX m_.Rows),Hn (rL g0),Ha (rM 1 F3_ ((m_.Rows.length:Nat):Int) ([]:List Int)),Hh (.v 0 [6]),Hm (shM F3_ F2_ (List.replicate ((m_.Rows.length:Nat):Int).toNat ([]:List Int))),Ha (lnM yX m_.Rows),Hn (rL g1),Ha (rM 1 eB ((m_.Rows.length:Nat):Int) false),Hh (.cut 0)] ?_ λJ1 ap=>?_
 ·rintro⟨l_,is⟩ aa;unfold Wb at aa;obtain rfl:=za aa;exact yE vq hC hE [Hm (shM F6_ F6_ l_),Hm (shM eB eB is)]
 ·obtain⟨t2,ht2,aa⟩:=zb aa;refine yLx vq hC Wj [1,1,1,2,1,0] [J1] (λs=>Wa m_ bu s.1 s.2.1 s.2.2) (λx=>z4h m_ bu x.1 x.2.1 x.2.2) ((List.replicate ((m_.Rows.length:Nat):Int).toNat ([]:List Int)),(List.replicate ((m_.Rows.length:Nat):Int).toNat false),([]:List Int)) ht2 [(1,.d (I bu)),(2,.own (.box (zD m_))),(6,.own (eOs 1 true F2_ (List.replicate ((m_.Rows.length:Nat):Int).toNat ([]:List Int)))),(7,.own (eOs 1 true eB (List.replicate ((m_.Rows.length:Nat):Int).toNat false))),(8,.own (eOs 1 true nF []))] inferInstance [] ?_;rintro⟨eb,gi,w_⟩ m2 ar ae hl1 J2 av;try unfold Wa at ae
  let Z0:List HO:=[Ha (lnM nF w_),Ha (lnM yX m_.Rows)];rcases zB ae with⟨c0,ae⟩|⟨c0,ae⟩
  ·refine yJ vq hC Wj [1,1,1,2,1,0,0,1] [J1,J2] [1,2,6,7,8] (λz:List (List Int)×List Bool=>uC m_ w_ z.1 z.2=some ar) (λz=>z4i m_ bu w_ z.1 z.2) [(1,.d (I bu)),(2,.own (.box (zD m_))),(6,.own (eOs 1 true F6_ eb)),(7,.own (eOs 1 true eB gi)),(8,.d (eSl 1 false nF w_))] (Z0++[Hq c0,Hh (.n 1 [8]),Hm (shM nF nF w_),Hh (.cut 0)]) ?_ λJ3 ba=>?_
   ·rintro⟨gc,ko⟩ ae;unfold uC at ae;obtain⟨r_,h0,ae⟩:=zb ae;obtain rfl:=za ae;exact yB vq hC av (gc,ko,r_) hl1 [Hc h0Z (x:=(w_,m_.Inputs)) h0 (loC F6_ w_ <| loC nF m_.Inputs <| loN)]
   ·obtain⟨ah,h1,ae⟩:=zb ae;let Z1:List HO:=[Hc h0Y (x:=(m_,bu,w_)) h1 (loC zD m_ <| loC nF bu <| loC F6_ w_ <| loN)];rcases zB ae with⟨c1,ae⟩|⟨c1,ae⟩
    ·obtain⟨l4,h2,ae⟩:=zb ae;let Z2:List HO:=(Z1++[Hq c1,Hq c1,Hq c1,Hn (iL eB h2),Hq c1,Hs (iM eB h2),Hq c1,Hq c1]);rcases zB ae with⟨c2,ae⟩|⟨c2,ae⟩
     ·obtain⟨l9,h3,ae⟩:=zb ae;obtain⟨bg,h4,ae⟩:=zb ae;exact yB vq hC ba ((eb.set ah.toNat w_),(gi.set ah.toNat true)) ae (Z2++[Hq c2,Hn (iL eB h3),Hs (iM eB h3),Hs (iM eB h3),Hl (sM eB gi ah true),Hn (iL F6_ h4),Hs (iM F6_ h4),Hs (iM F6_ h4),Hl (sM F6_ eb ah w_)])
     ·exact yB vq hC ba (eb,gi) ae (Z2++[Hq c2])
    ·exact yB vq hC ba (eb,gi) ae (Z1++(rpN 6 (Hq c1) [qF]))
  ·obtain rfl:=za ae;obtain rfl:=hl1;exact yB vq hC ap (eb,gi) aa (Z0++[Hq c0])
def z6M:Code:=(f122.body).getD .skip
def VN:zI:=spF (α:=z6) (ρ:=List (List Int)×List Bool) 122 (λx=>[zD x]) (λr=>.tup [ziH r.1,(eSl 1 true eB) r.2]) (λx=>Wu x) [] (WJ)
theorem z7q (hC:zy prog ctr)(h1a:ctr.Has QH):VN.Ok prog:=by refine zx ?_;rintro m_ r0 aa;try unfold Wu at aa;refine yO false [(2,none),(3,none)] z6M 8 func122 λE hE=>?_;obtain⟨r_,h0,aa⟩:=zb aa;obtain rfl:=za aa;exact yE X0 hC hE [Hc h1a (x:=(m_,0)) h0 (loC zD m_ <| loC nF 0 <| loN)]
def K4:Code:=(f123.body).getD .skip
def JE:zI:=spF (α:=List Int×List Int) (ρ:=Int) 123 (λx=>[F6_ x.1,F6_ x.2]) (λr=>nF r) (λx=>Jd x.1 x.2) [] (Vk)
abbrev z5g:List (Nat×T):=[]
abbrev z5f (a_:List Int)(b_:List Int)(i_:Int):List (Nat×T):=[(0,.d (eSl 1 false nF a_)),(1,.d (eSl 1 false nF b_)),(5,.d (I i_))]
theorem z9A (hC:zy prog ctr):JE.Ok prog:=by
 refine zx ?_;rintro⟨a_,b_⟩ r0 aa;try unfold Jd at aa;refine yO true [(4,none)] K4 40 func123 λE hE=>?_
 let Z0:List HO:=[Ha (lnM nF a_),Ha (lnM nF b_)];rcases zB aa with⟨c0,aa⟩|⟨c0,aa⟩
 ·let Z1:List HO:=(Z0++[Hq c0,Ha (lnM nF a_),Ha (lnM nF b_)]);rcases zB aa with⟨c1,aa⟩|⟨c1,aa⟩
  ·obtain rfl:=za aa;exact yE X0 hC hE (Z1++[Hq c1])
  ·obtain rfl:=za aa;exact yE X0 hC hE (Z1++[Hq c1])
 ·refine yJ X0 hC K4 [1,1] [] [] (λz:Unit=>JP=some r0) (λz=>z5g) [(0,.d (eSl 1 false nF a_)),(1,.d (eSl 1 false nF b_))] (Z0++[Hq c0,Hh (.cut 0)]) ?_ λJ1 ap=>?_
  ·rintro⟨⟩ aa;unfold JP at aa;obtain rfl:=za aa;exact yE X0 hC hE []
  ·obtain⟨t2,ht2,aa⟩:=zb aa;refine yL X0 hC K4 [1,1,2,1,0] [J1] (λs=>Xa a_ b_ s) (λx=>z5f a_ b_ x) 0 ht2  [] ?_;rintro i_ m2 ar ae hl1 J2 av;try unfold Xa at ae;rcases zB ae with⟨c2,ae⟩|⟨c2,ae⟩
   ·obtain⟨dl,h0,ae⟩:=zb ae;obtain⟨dm,h1,ae⟩:=zb ae;let Z2:List HO:=[Ha (lnM nF a_),Hq c2,Hi nF h0,Hi nF h1];rcases zB ae with⟨c3,ae⟩|⟨c3,ae⟩
    ·obtain⟨gn,h2,ae⟩:=zb ae;obtain⟨gp,h3,ae⟩:=zb ae;let Z3:List HO:=(Z2++[Hq c3,Hi nF h2,Hi nF h3]);rcases zB ae with⟨c4,ae⟩|⟨c4,ae⟩
     ·obtain rfl:=za ae;obtain rfl:=hl1;obtain rfl:=za aa;exact yE X0 hC hE (Z3++[Hq c4])
     ·obtain rfl:=za ae;obtain rfl:=hl1;obtain rfl:=za aa;exact yE X0 hC hE (Z3++[Hq c4])
    ·obtain rfl:=za ae;exact yB X0 hC av (w64 (i_+1)) hl1 (Z2++[Hq c3])
   ·obtain rfl:=za ae;obtain rfl:=hl1;exact yB X0 hC ap () aa [Ha (lnM nF a_),Hq c2]
def jR:Code:=(f91.body).getD .skip
def QI:zI:=spF (α:=z6) (ρ:=List Int) 91 (λx=>[zD x]) (λr=>F5_ r) (λx=>Uj x) [] (WJ)
abbrev z4o (out:List Int):List (Nat×T):=[(5,.own (eOs 1 false nF out))]
abbrev z4n (r_:List (List Int)×List Bool)(s_:Int)(az:List Int):List (Nat×T):=[(3,.d (eSl 1 true F6_ r_.1)),(4,.d (eSl 1 true eB r_.2)),(5,.own (eOs 1 false nF az)),(6,.d (I s_))]
abbrev z4m (r_:List (List Int)×List Bool)(ai:List Int)(s_:Int)(k_:Int):List (Nat×T):=[(3,.d (eSl 1 true F6_ r_.1)),(4,.d (eSl 1 true eB r_.2)),(5,.own (eOs 1 false nF ai)),(6,.d (I s_)),(7,.d (I k_))]
abbrev z4k (r_:List (List Int)×List Bool)(ai:List Int)(s_:Int)(a9:Int):List (Nat×T):=[(3,.d (eSl 1 true F6_ r_.1)),(4,.d (eSl 1 true eB r_.2)),(5,.own (eOs 1 false nF ai)),(6,.d (I s_)),(7,.d (I a9))]
abbrev z4l (r_:List (List Int)×List Bool)(ai:List Int)(s_:Int):List (Nat×T):=[(3,.d (eSl 1 true F6_ r_.1)),(4,.d (eSl 1 true eB r_.2)),(5,.own (eOs 1 false nF ai)),(6,.d (I s_))]
def xc:XH prog:=((Qs zq (.inl 49) []).or ((Qs zq (.inl 47) [5]).or X0))
theorem z8x (hC:zy prog ctr)(h1b:ctr.Has VN)(h1d:ctr.Has JE):QI.Ok prog:=by
 refine zx ?_;rintro m_ r0 aa;try unfold Uj at aa;refine yO true [(2,none)] jR 61 func91 λE hE=>?_;obtain⟨r_,h0,aa⟩:=zb aa;refine yJ xc hC jR [1,1,1] [] [5] (λz:List Int=>QP z=some r0) (λz=>z4o z) [(3,.d (eSl 1 true F6_ r_.1)),(4,.d (eSl 1 true eB r_.2)),(5,.own (eOs 1 true nF []))] [Hc h1b (x:=m_) h0 (loC zD m_ <| loN),Hh (.cut 1)] ?_ λJ1 ap=>?_
 ·rintro out aa;unfold QP at aa;obtain rfl:=za aa;exact yE xc hC hE []
 ·obtain⟨t2,ht2,aa⟩:=zb aa;refine yLx xc hC jR [1,1,1,2,1,0] [J1] (λs=>ZY r_ s.1 s.2) (λx=>z4l r_ x.1 x.2) (([]:List Int),0) ht2 [(3,.d (eSl 1 true F6_ r_.1)),(4,.d (eSl 1 true eB r_.2)),(5,.own (eOs 1 true nF [])),(6,.d (I 0))] inferInstance [] ?_;rintro⟨ai,s_⟩ m2 ar ae hl1 J2 av;try unfold ZY at ae
  let Z0:List HO:=[Ha (lnM F6_ r_.1)];rcases zB ae with⟨c0,ae⟩|⟨c0,ae⟩
  ·refine yJ xc hC jR [1,1,1,2,1,0,0,1] [J1,J2] [3,4,5,6] (λz:List Int=>jM s_ z=some ar) (λz=>z4n r_ s_ z) [(3,.d (eSl 1 true F6_ r_.1)),(4,.d (eSl 1 true eB r_.2)),(5,.own (eOs 1 false nF ai)),(6,.d (I s_))] (Z0++[Hq c0,Hh (.cut 0)]) ?_ λJ3 ba=>?_
   ·rintro az ae;unfold jM at ae;obtain rfl:=za ae;exact yB xc hC av (az,w64 (s_+1)) hl1 []
   ·obtain⟨u_,h1,ae⟩:=zb ae;rcases zB ae with⟨c1,ae⟩|⟨c1,ae⟩
    ·exact yB xc hC ba ai ae [Hi eB h1,Hq c1]
    ·refine yJ xc hC jR [1,1,1,2,1,0,0,1,2,0,1,1] [J1,J2,J3] [3,4,5,6,7] (λz:Int=>Wc ai s_ z=some ar) (λz=>z4m r_ ai s_ z) [(3,.d (eSl 1 true F6_ r_.1)),(4,.d (eSl 1 true eB r_.2)),(5,.own (eOs 1 false nF ai)),(6,.d (I s_)),(7,.d (I 0))] [Hi eB h1,Hq c1,Hh (.cut 1)] ?_ λJ4 bw=>?_
     ·rintro k_ ae;unfold Wc at ae;obtain⟨g0,ae⟩:=gdE ae;obtain⟨g1,ae⟩:=gdE ae;obtain⟨g2,ae⟩:=gdE ae;obtain⟨g3,ae⟩:=gdE ae;obtain⟨g4,ae⟩:=gdE ae;exact yB xc hC ba ((((ai.drop 0).take (k_.toNat - 0))++([s_]:List Int))++(ai.drop k_.toNat)) ae [Hm (shM nF nF ai),Hn (slB g0),Hn (zd8 nF g0),Ha (slM 1 false nF ai 0 k_.toNat),Hn (dM nF ((ai.drop 0).take (k_.toNat - 0))),Hn (aL nF nF g1),Hl (aM0 nF ((ai.drop 0).take (k_.toNat - 0))),Hq (dM nF ([s_]:List Int)),Hn (dM nF ([s_]:List Int)),Hn (aL nF nF g2),Hl (aM nF ((ai.drop 0).take (k_.toNat - 0)) ([s_]:List Int)),Hn (slA g3),Hn (zlY nF g3),Ha (slE 1 false nF ai k_.toNat),Hn (dM nF (ai.drop k_.toNat)),Hn (aL nF nF g4),Hl (aM nF (((ai.drop 0).take (k_.toNat - 0))++([s_]:List Int)) (ai.drop k_.toNat))]
     ·obtain⟨t5,ht5,ae⟩:=zb ae;refine yL xc hC jR [1,1,1,2,1,0,0,1,2,0,1,1,2,0] [J1,J2,J3,J4] (λs=>ZX r_ ai s_ s) (λx=>z4k r_ ai s_ x) 0 ht5  [] ?_;rintro a9 m5 ck aj hl2 J5 bz;try unfold ZX at aj;rcases zB aj with⟨c2,aj⟩|⟨c2,aj⟩
      ·obtain⟨bq,h2,aj⟩:=zb aj;obtain⟨lf,h3,aj⟩:=zb aj;obtain⟨lh,h4,aj⟩:=zb aj;obtain⟨ah,h5,aj⟩:=zb aj;let Z1:List HO:=(Ha (lnM nF ai)::(rpN 4 (Hq c2) (Hn (iL nF h2)::Hq c2::Hs (iM nF h2)::Hq c2::Hi F6_ h3::(rpN 4 (Hq c2) [Hi F6_ h4,Hq c2,Hq c2,Hc h1d (x:=(lf,lh)) h5 (loC F6_ lf <| loC F6_ lh <| loN),Hq c2,Hq c2]))));rcases zB aj with⟨c3,aj⟩|⟨c3,aj⟩
       ·obtain rfl:=za aj;exact yB xc hC bz (w64 (a9+1)) hl2 (Z1++[Hq c3])
       ·obtain rfl:=za aj;obtain rfl:=hl2;exact yB xc hC bw a9 ae (Z1++[Hq c3])
      ·obtain rfl:=za aj;obtain rfl:=hl2;exact yB xc hC bw a9 ae (Ha (lnM nF ai)::(rpN 14 (Hq c2) [qF]))
  ·obtain rfl:=za ae;obtain rfl:=hl1;exact yB xc hC ap ai aa (Z0++[Hq c0])
def vP:Code:=(f67.body).getD .skip
def YN:zI:=spF (α:=z6) (ρ:=List Int) 67 (λx=>[zD x]) (λr=>F5_ r) (λx=>Zf x) [] (WJ)
abbrev z31 (out:List Int):List (Nat×T):=[(5,.own (eOs 1 false nF out))]
abbrev z30 (r_:List Int)(ah:List Int)(k_:Int)(az:List Int):List (Nat×T):=[(3,.own (eOs 1 false nF r_)),(4,.own (eOs 1 false nF ah)),(5,.own (eOs 1 false nF az)),(6,.d (I k_))]
abbrev z2Z (r_:List Int)(ah:List Int)(ai:List Int)(k_:Int)(there:Int):List (Nat×T):=[(3,.own (eOs 1 false nF r_)),(4,.own (eOs 1 false nF ah)),(5,.own (eOs 1 false nF ai)),(6,.d (I k_)),(7,.d (I there))]
abbrev z2Y (r_:List Int)(ah:List Int)(ai:List Int)(k_:Int)(n_:Int)(ik:Int):List (Nat×T):=[(3,.own (eOs 1 false nF r_)),(4,.own (eOs 1 false nF ah)),(5,.own (eOs 1 false nF ai)),(6,.d (I k_)),(7,.d (I ik)),(8,.d (I n_))]
abbrev z2W (r_:List Int)(ah:List Int)(ai:List Int)(k_:Int)(fx:Int)(n_:Int):List (Nat×T):=[(3,.own (eOs 1 false nF r_)),(4,.own (eOs 1 false nF ah)),(5,.own (eOs 1 false nF ai)),(6,.d (I k_)),(7,.d (I fx)),(8,.d (I n_))]
abbrev z2X (r_:List Int)(ah:List Int)(ai:List Int)(k_:Int):List (Nat×T):=[(3,.own (eOs 1 false nF r_)),(4,.own (eOs 1 false nF ah)),(5,.own (eOs 1 false nF ai)),(6,.d (I k_))]
theorem z7m (hC:zy prog ctr)(h0p:ctr.Has Y7)(h1e:ctr.Has QI):YN.Ok prog:=by
 refine zx ?_;rintro m_ r0 aa;try unfold Zf at aa;refine yO true [(2,none)] vP 49 func67 λE hE=>?_;obtain⟨r_,h0,aa⟩:=zb aa;obtain⟨ah,h1,aa⟩:=zb aa;refine yJ X0 hC vP [1,1,1,1] [] [5] (λz:List Int=>X1 z=some r0) (λz=>z31 z) [(3,.own (eOs 1 false nF r_)),(4,.own (eOs 1 false nF ah)),(5,.own (eOs 1 true nF []))] [Hc h0p (x:=m_) h0 (loC zD m_ <| loN),Hc h1e (x:=m_) h1 (loC zD m_ <| loN),Hh (.cut 1)] ?_ λJ1 ap=>?_
 ·rintro out aa;unfold X1 at aa;obtain rfl:=za aa;exact yE X0 hC hE []
 ·obtain⟨t2,ht2,aa⟩:=zb aa;refine yLx X0 hC vP [1,1,1,1,2,1,0] [J1] (λs=>YX r_ ah s.1 s.2) (λx=>z2X r_ ah x.1 x.2) (([]:List Int),0) ht2 [(3,.own (eOs 1 false nF r_)),(4,.own (eOs 1 false nF ah)),(5,.own (eOs 1 true nF [])),(6,.d (I 0))] inferInstance [] ?_;rintro⟨ai,k_⟩ m2 ar ae hl1 J2 av;try unfold YX at ae;rcases zB ae with⟨c0,ae⟩|⟨c0,ae⟩
  ·refine yJ X0 hC vP [1,1,1,1,2,1,0,0,1] [J1,J2] [3,4,5,6] (λz:List Int=>uX k_ z=some ar) (λz=>z30 r_ ah k_ z) [(3,.own (eOs 1 false nF r_)),(4,.own (eOs 1 false nF ah)),(5,.own (eOs 1 false nF ai)),(6,.d (I k_))] [Ha (lnM nF ah),Hq c0,Hh (.cut 0)] ?_ λJ3 ba=>?_
   ·rintro az ae;unfold uX at ae;obtain rfl:=za ae;exact yB X0 hC av (az,w64 (k_+1)) hl1 []
   ·refine yJ X0 hC vP [1,1,1,1,2,1,0,0,1,2,0,1] [J1,J2,J3] [3,4,5,6,7] (λz:Int=>YZ ah ai k_ z=some ar) (λz=>z2Z r_ ah ai k_ z) [(3,.own (eOs 1 false nF r_)),(4,.own (eOs 1 false nF ah)),(5,.own (eOs 1 false nF ai)),(6,.d (I k_)),(7,.d (I 0))] [Hh (.cut 1)] ?_ λJ4 bw=>?_
    ·rintro there ae;unfold YZ at ae;rcases zB ae with⟨c1,ae⟩|⟨c1,ae⟩
     ·obtain⟨cm,h2,ae⟩:=zb ae;obtain⟨g0,ae⟩:=gdE ae;exact yB X0 hC ba (ai++([cm]:List Int)) ae [Hq c1,Hn (iL nF h2),Hs (iM nF h2),Hq (dM nF ([cm]:List Int)),Hn (dM nF ([cm]:List Int)),Hn (aL nF nF g0),Hl (aM nF ai ([cm]:List Int))]
     ·exact yB X0 hC ba ai ae [Hq c1]
    ·obtain⟨t5,ht5,ae⟩:=zb ae;refine yL X0 hC vP [1,1,1,1,2,1,0,0,1,2,0,1,2,1,0] [J1,J2,J3,J4] (λs=>Zd r_ ah k_ s.1 s.2) (λx=>z2W r_ ah ai k_ x.1 x.2) (0,0) ht5  [] ?_;rintro⟨fx,n_⟩ m5 ck aj hl2 J5 bz;try unfold Zd at aj;rcases zB aj with⟨c2,aj⟩|⟨c2,aj⟩
     ·refine yJ X0 hC vP [1,1,1,1,2,1,0,0,1,2,0,1,2,1,0,0,1] [J1,J2,J3,J4,J5] [3,4,5,6,7,8] (λz:Int=>Ze n_ z=some ck) (λz=>z2Y r_ ah ai k_ n_ z) [(3,.own (eOs 1 false nF r_)),(4,.own (eOs 1 false nF ah)),(5,.own (eOs 1 false nF ai)),(6,.d (I k_)),(7,.d (I fx)),(8,.d (I n_))] [Hq c2,Hh (.cut 0)] ?_ λJ6 cw=>?_
      ·rintro ik aj;unfold Ze at aj;obtain rfl:=za aj;exact yB X0 hC bz (ik,w64 (n_+1)) hl2 []
      ·obtain⟨ge,h3,aj⟩:=zb aj;obtain⟨i6,h4,aj⟩:=zb aj;obtain⟨i7,h5,aj⟩:=zb aj;obtain⟨lk,h6,aj⟩:=zb aj;let Z0:List HO:=[Hn (iL nF h3),Hs (iM nF h3),Hn (iL nF h4),Hs (iM nF h4),Hn (iL nF h5),Hs (iM nF h5),Hn (iL nF h6),Hs (iM nF h6)];rcases zB aj with⟨c3,aj⟩|⟨c3,aj⟩
       ·exact yB X0 hC cw 1 aj (Z0++[Hq c3])
       ·exact yB X0 hC cw fx aj (Z0++[Hq c3])
     ·obtain rfl:=za aj;obtain rfl:=hl2;exact yB X0 hC bw fx ae [Hq c2]
  ·obtain rfl:=za ae;obtain rfl:=hl1;exact yB X0 hC ap ai aa [Ha (lnM nF ah),Hq c0]
def wb:Code:=(f86.body).getD .skip
def WR:zI:=spF (α:=z6×Int) (ρ:=List Bool) 86 (λx=>[zD x.1,nF x.2]) (λr=>(eOs 1 true eB) r) (λx=>Xb x.1 x.2) [] (Vk)
abbrev z1Q (out:List Bool):List (Nat×T):=[(5,.own (eOs 1 true eB out))]
abbrev z1P (m_:z6)(round:Int)(az:List Bool):List (Nat×T):=[(2,.own (.box (zD m_))),(5,.own (eOs 1 true eB az)),(6,.d (I round))]
abbrev z1O (m_:z6)(round:Int)(s_:Int)(gj:List Bool):List (Nat×T):=[(2,.own (.box (zD m_))),(5,.own (eOs 1 true eB gj)),(6,.d (I round)),(7,.d (I s_))]
abbrev z1N (m_:z6)(round:Int)(s_:Int)(i_:Int)(jx:List Bool):List (Nat×T):=[(2,.own (.box (zD m_))),(5,.own (eOs 1 true eB jx)),(6,.d (I round)),(7,.d (I s_)),(8,.d (I i_))]
abbrev z1K (m_:z6)(round:Int)(s_:Int)(eu:List Bool)(i_:Int):List (Nat×T):=[(2,.own (.box (zD m_))),(5,.own (eOs 1 true eB eu)),(6,.d (I round)),(7,.d (I s_)),(8,.d (I i_))]
abbrev z1L (m_:z6)(round:Int)(bv:List Bool)(s_:Int):List (Nat×T):=[(2,.own (.box (zD m_))),(5,.own (eOs 1 true eB bv)),(6,.d (I round)),(7,.d (I s_))]
abbrev z1M (m_:z6)(ai:List Bool)(round:Int):List (Nat×T):=[(2,.own (.box (zD m_))),(5,.own (eOs 1 true eB ai)),(6,.d (I round))]
theorem z5J (hC:zy prog ctr):WR.Ok prog:=by
 refine zx ?_;rintro⟨m_,bu⟩ r0 aa;try unfold Xb at aa;refine yO true [(4,none)] wb 58 func86 λE hE=>?_;obtain⟨g0,aa⟩:=gdE aa;obtain⟨mj,h0,aa⟩:=zb aa;refine yJ X0 hC wb [1,1,1] [] [5] (λz:List Bool=>Yg z=some r0) (λz=>z1Q z) [(2,.own (.box (zD m_))),(5,.own (eOs 1 true eB ((List.replicate ((m_.Rows.length:Nat):Int).toNat false).set bu.toNat true)))] [Ha (lnM yX m_.Rows),Hn (rL g0),Ha (rM 1 eB ((m_.Rows.length:Nat):Int) false),Hn (iL eB h0),Hs (iM eB h0),Hs (iM eB h0),Hl (sM eB (List.replicate ((m_.Rows.length:Nat):Int).toNat false) bu true),Hh (.cut 0)] ?_ λJ1 ap=>?_
 ·rintro out aa;unfold Yg at aa;obtain rfl:=za aa;exact yE X0 hC hE []
 ·obtain⟨t2,ht2,aa⟩:=zb aa;refine yL X0 hC wb [1,1,1,2,1,0] [J1] (λs=>Yd m_ s.1 s.2) (λx=>z1M m_ x.1 x.2) (((List.replicate ((m_.Rows.length:Nat):Int).toNat false).set bu.toNat true),0) ht2  [] ?_;rintro⟨ai,round⟩ m2 ar ae hl1 J2 av;try unfold Yd at ae
  let Z0:List HO:=[Ha (lnM yX m_.Rows)];rcases zB ae with⟨c0,ae⟩|⟨c0,ae⟩
  ·refine yJ X0 hC wb [1,1,1,2,1,0,0,1] [J1,J2] [2,5,6] (λz:List Bool=>Yf round z=some ar) (λz=>z1P m_ round z) [(2,.own (.box (zD m_))),(5,.own (eOs 1 true eB ai)),(6,.d (I round))] (Z0++[Hq c0,Hh (.cut 0)]) ?_ λJ3 ba=>?_
   ·rintro az ae;unfold Yf at ae;obtain rfl:=za ae;exact yB X0 hC av (az,w64 (round+1)) hl1 []
   ·obtain⟨t4,ht4,ae⟩:=zb ae;refine yL X0 hC wb [1,1,1,2,1,0,0,1,2,0,1,0] [J1,J2,J3] (λs=>qZ m_ s.1 s.2) (λx=>z1L m_ round x.1 x.2) (ai,0) ht4  [] ?_;rintro⟨bv,s_⟩ m4 ck aj hl2 J4 bw;try unfold qZ at aj
    let Z1:List HO:=[Ha (lnM yX m_.Rows)];rcases zB aj with⟨c1,aj⟩|⟨c1,aj⟩
    ·refine yJ X0 hC wb [1,1,1,2,1,0,0,1,2,0,1,0,0,1] [J1,J2,J3,J4] [2,5,6,7] (λz:List Bool=>Ye s_ z=some ck) (λz=>z1O m_ round s_ z) [(2,.own (.box (zD m_))),(5,.own (eOs 1 true eB bv)),(6,.d (I round)),(7,.d (I s_))] (Z1++[Hq c1,Hh (.cut 0)]) ?_ λJ5 bz=>?_
     ·rintro gj aj;unfold Ye at aj;obtain rfl:=za aj;exact yB X0 hC bw (gj,w64 (s_+1)) hl2 []
     ·obtain⟨t6,jd,aj⟩:=zb aj;refine yL X0 hC wb [1,1,1,2,1,0,0,1,2,0,1,0,0,1,2,0,1,0] [J1,J2,J3,J4,J5] (λs=>qY m_ s_ s.1 s.2) (λx=>z1K m_ round s_ x.1 x.2) (bv,0) jd  [] ?_;rintro⟨eu,i_⟩ m6 me bo hl3 J6 cw;try unfold qY at bo;rcases zB bo with⟨c2,bo⟩|⟨c2,bo⟩
      ·refine yJ X0 hC wb [1,1,1,2,1,0,0,1,2,0,1,0,0,1,2,0,1,0,0,1] [J1,J2,J3,J4,J5,J6] [2,5,6,7,8] (λz:List Bool=>vY i_ z=some me) (λz=>z1N m_ round s_ i_ z) [(2,.own (.box (zD m_))),(5,.own (eOs 1 true eB eu)),(6,.d (I round)),(7,.d (I s_)),(8,.d (I i_))] [Hq c2,Hh (.cut 0)] ?_ λJ7 hJ7=>?_
       ·rintro jx bo;unfold vY at bo;obtain rfl:=za bo;exact yB X0 hC cw (jx,w64 (i_+1)) hl3 []
       ·obtain⟨am,h1,bo⟩:=zb bo;obtain⟨ak,h2,bo⟩:=zb bo;obtain⟨bq,h3,bo⟩:=zb bo;let Z2:List HO:=[Hi yX h1,Hi F8_ h2,Hn (iL eB h3),Hs (iM eB h3)];rcases zB bo with⟨c3,bo⟩|⟨c3,bo⟩
        ·rcases zB bo with⟨c4,bo⟩|⟨c4,bo⟩
         ·obtain⟨dy,h4,bo⟩:=zb bo;exact yB X0 hC hJ7 (eu.set ak.To.toNat true) bo (Z2++[Hq c3,Hq c3,Hq c3,Hq c4,Hn (iL eB h4),Hs (iM eB h4),Hs (iM eB h4),Hl (sM eB eu ak.To true)])
         ·exact yB X0 hC hJ7 eu bo (Z2++[Hq c3,Hq c3,Hq c3,Hq c4])
        ·exact yB X0 hC hJ7 eu bo (Z2++[Hq c3,Hq c3,Hq c3,qF])
      ·obtain rfl:=za bo;obtain rfl:=hl3;exact yB X0 hC bz eu aj [Hq c2]
    ·obtain rfl:=za aj;obtain rfl:=hl2;exact yB X0 hC ba bv ae (Z1++[Hq c1])
  ·obtain rfl:=za ae;obtain rfl:=hl1;exact yB X0 hC ap ai aa (Z0++[Hq c0])
def Zn:Code:=(f68.body).getD .skip
def KF:zI:=spF (α:=z6) (ρ:=List Int) 68 (λx=>[zD x]) (λr=>F5_ r) (λx=>KO x) [] (WJ)
abbrev z78 (out:List Int):List (Nat×T):=[(6,.own (eOs 1 false nF out))]
abbrev z75 (r_:List Int)(ah:List Int)(al:List Bool)(s_:Int)(az:List Int):List (Nat×T):=[(3,.own (eOs 1 false nF r_)),(4,.own (eOs 1 false nF ah)),(5,.own (eOs 1 true eB al)),(6,.own (eOs 1 false nF az)),(7,.d (I s_))]
abbrev z74 (r_:List Int)(ah:List Int)(al:List Bool)(ai:List Int)(s_:Int)(k_:Int):List (Nat×T):=[(3,.own (eOs 1 false nF r_)),(4,.own (eOs 1 false nF ah)),(5,.own (eOs 1 true eB al)),(6,.own (eOs 1 false nF ai)),(7,.d (I s_)),(8,.d (I k_))]
abbrev z73 (r_:List Int)(ah:List Int)(al:List Bool)(ai:List Int)(s_:Int)(n_:Int)(fe:Int):List (Nat×T):=[(3,.own (eOs 1 false nF r_)),(4,.own (eOs 1 false nF ah)),(5,.own (eOs 1 true eB al)),(6,.own (eOs 1 false nF ai)),(7,.d (I s_)),(8,.d (I fe)),(9,.d (I n_))]
abbrev z71 (r_:List Int)(ah:List Int)(al:List Bool)(ai:List Int)(s_:Int)(a9:Int)(n_:Int):List (Nat×T):=[(3,.own (eOs 1 false nF r_)),(4,.own (eOs 1 false nF ah)),(5,.own (eOs 1 true eB al)),(6,.own (eOs 1 false nF ai)),(7,.d (I s_)),(8,.d (I a9)),(9,.d (I n_))]
abbrev z72 (r_:List Int)(ah:List Int)(al:List Bool)(ai:List Int)(s_:Int):List (Nat×T):=[(3,.own (eOs 1 false nF r_)),(4,.own (eOs 1 false nF ah)),(5,.own (eOs 1 true eB al)),(6,.own (eOs 1 false nF ai)),(7,.d (I s_))]
theorem zb3 (hC:zy prog ctr)(h0p:ctr.Has Y7)(h0q:ctr.Has YN)(h1f:ctr.Has WR):KF.Ok prog:=by
 refine zx ?_;rintro m_ r0 aa;try unfold KO at aa;refine yO true [(2,none)] Zn 52 func68 λE hE=>?_;obtain⟨r_,h0,aa⟩:=zb aa;obtain⟨ah,h1,aa⟩:=zb aa;obtain⟨al,h2,aa⟩:=zb aa;refine yJ X0 hC Zn [1,1,1,1,1] [] [6] (λz:List Int=>Ql z=some r0) (λz=>z78 z) [(3,.own (eOs 1 false nF r_)),(4,.own (eOs 1 false nF ah)),(5,.own (eOs 1 true eB al)),(6,.own (eOs 1 true nF []))] [Hc h0p (x:=m_) h0 (loC zD m_ <| loN),Hc h0q (x:=m_) h1 (loC zD m_ <| loN),Hc h1f (x:=(m_,0)) h2 (loC zD m_ <| loC nF 0 <| loN),Hh (.cut 1)] ?_ λJ1 ap=>?_
 ·rintro out aa;unfold Ql at aa;obtain rfl:=za aa;exact yE X0 hC hE []
 ·obtain⟨t2,ht2,aa⟩:=zb aa;refine yLx X0 hC Zn [1,1,1,1,1,2,1,0] [J1] (λs=>Qi r_ ah al s.1 s.2) (λx=>z72 r_ ah al x.1 x.2) (([]:List Int),0) ht2 [(3,.own (eOs 1 false nF r_)),(4,.own (eOs 1 false nF ah)),(5,.own (eOs 1 true eB al)),(6,.own (eOs 1 true nF [])),(7,.d (I 0))] inferInstance [] ?_;rintro⟨ai,s_⟩ m2 ar ae hl1 J2 av;try unfold Qi at ae;rcases zB ae with⟨c0,ae⟩|⟨c0,ae⟩
  ·refine yJ X0 hC Zn [1,1,1,1,1,2,1,0,0,1] [J1,J2] [3,4,5,6,7] (λz:List Int=>Qk s_ z=some ar) (λz=>z75 r_ ah al s_ z) [(3,.own (eOs 1 false nF r_)),(4,.own (eOs 1 false nF ah)),(5,.own (eOs 1 true eB al)),(6,.own (eOs 1 false nF ai)),(7,.d (I s_))] [Ha (lnM nF r_),Hq c0,Hh (.cut 0)] ?_ λJ3 ba=>?_
   ·rintro az ae;unfold Qk at ae;obtain rfl:=za ae;exact yB X0 hC av (az,w64 (s_+1)) hl1 []
   ·refine yJ X0 hC Zn [1,1,1,1,1,2,1,0,0,1,2,0,1] [J1,J2,J3] [3,4,5,6,7,8] (λz:Int=>Qj ai s_ z=some ar) (λz=>z74 r_ ah al ai s_ z) [(3,.own (eOs 1 false nF r_)),(4,.own (eOs 1 false nF ah)),(5,.own (eOs 1 true eB al)),(6,.own (eOs 1 false nF ai)),(7,.d (I s_)),(8,.d (I (-1)))] [Hh (.cut 1)] ?_ λJ4 bw=>?_
    ·rintro k_ ae;unfold Qj at ae;obtain⟨g0,ae⟩:=gdE ae;exact yB X0 hC ba (ai++([k_]:List Int)) ae [Hq (dM nF ([k_]:List Int)),Hn (dM nF ([k_]:List Int)),Hn (aL nF nF g0),Hl (aM nF ai ([k_]:List Int))]
    ·obtain⟨t5,ht5,ae⟩:=zb ae;refine yL X0 hC Zn [1,1,1,1,1,2,1,0,0,1,2,0,1,2,1,0] [J1,J2,J3,J4] (λs=>Wr r_ ah al s_ s.1 s.2) (λx=>z71 r_ ah al ai s_ x.1 x.2) ((-1),0) ht5  [] ?_;rintro⟨a9,n_⟩ m5 ck aj hl2 J5 bz;try unfold Wr at aj;rcases zB aj with⟨c1,aj⟩|⟨c1,aj⟩
     ·refine yJ X0 hC Zn [1,1,1,1,1,2,1,0,0,1,2,0,1,2,1,0,0,1] [J1,J2,J3,J4,J5] [3,4,5,6,7,8,9] (λz:Int=>Yz n_ z=some ck) (λz=>z73 r_ ah al ai s_ n_ z) [(3,.own (eOs 1 false nF r_)),(4,.own (eOs 1 false nF ah)),(5,.own (eOs 1 true eB al)),(6,.own (eOs 1 false nF ai)),(7,.d (I s_)),(8,.d (I a9)),(9,.d (I n_))] [Ha (lnM nF ah),Hq c1,Hh (.cut 0)] ?_ λJ6 cw=>?_
      ·rintro fe aj;unfold Yz at aj;obtain rfl:=za aj;exact yB X0 hC bz (fe,w64 (n_+1)) hl2 []
      ·obtain⟨cm,h3,aj⟩:=zb aj;let Z0:List HO:=[Hn (iL eB h3),Hs (iM eB h3)];rcases zB aj with⟨c2,aj⟩|⟨c2,aj⟩
       ·obtain⟨ge,h4,aj⟩:=zb aj;obtain⟨i6,h5,aj⟩:=zb aj;obtain⟨i7,h6,aj⟩:=zb aj;let Z1:List HO:=(Z0++(rpN 4 (Hq c2) [Hn (iL nF h4),Hq c2,Hs (iM nF h4),Hq c2,Hn (iL nF h5),Hq c2,Hs (iM nF h5),Hq c2,Hq c2,Hq c2,Hn (iL nF h6),Hq c2,Hs (iM nF h6),Hq c2,Hq c2]));rcases zB aj with⟨c3,aj⟩|⟨c3,aj⟩
        ·exact yB X0 hC cw n_ aj (Z1++[Hq c3])
        ·exact yB X0 hC cw a9 aj (Z1++[Hq c3])
       ·exact yB X0 hC cw a9 aj (Z0++(rpN 13 (Hq c2) [qF]))
     ·obtain rfl:=za aj;obtain rfl:=hl2;exact yB X0 hC bw a9 ae [Ha (lnM nF ah),Hq c1]
  ·obtain rfl:=za ae;obtain rfl:=hl1;exact yB X0 hC ap ai aa [Ha (lnM nF r_),Hq c0]
def wZ:Code:=(f34.body).getD .skip
def WQ:zI:=spF (α:=z6) (ρ:=z6) 34 (λx=>[zD x]) (λr=>zD r) (λx=>YW x) [] (WJ)
abbrev z1J (m_:z6)(gk:List (List z8)):List (Nat×T):=[(2,.own (.box (.agg [I 0,I 0,eOs 1 true yX []]))),(5,.own (.box (.agg [I m_.Inputs,I m_.Outputs,eOs 1 false jU gk])))]
abbrev z1I (m_:z6)(r_:List Int)(ah:List Int)(k_:Int)(fy:List (List z8)):List (Nat×T):=[(1,.own (.box (zD m_))),(2,.own (.box (.agg [I 0,I 0,eOs 1 true yX []]))),(3,.own (eOs 1 false nF r_)),(4,.own (eOs 1 false nF ah)),(5,.own (.box (.agg [I m_.Inputs,I m_.Outputs,eOs 1 false jU fy]))),(6,.d (I k_))]
abbrev z1H (m_:z6)(r_:List Int)(ah:List Int)(a8:List (List z8))(k_:Int)(row:List z8):List (Nat×T):=[(1,.own (.box (zD m_))),(2,.own (.box (.agg [I 0,I 0,eOs 1 true yX []]))),(3,.own (eOs 1 false nF r_)),(4,.own (eOs 1 false nF ah)),(5,.own (.box (.agg [I m_.Inputs,I m_.Outputs,eOs 1 false jU a8]))),(6,.d (I k_)),(7,.own (eOs 2 false F8_ row))]
abbrev z1G (m_:z6)(r_:List Int)(ah:List Int)(a8:List (List z8))(k_:Int)(ca:List z8)(i_:Int)(ak:z8)(ew:Int):List (Nat×T):=[(1,.own (.box (zD m_))),(2,.own (.box (.agg [I 0,I 0,eOs 1 true yX []]))),(3,.own (eOs 1 false nF r_)),(4,.own (eOs 1 false nF ah)),(5,.own (.box (.agg [I m_.Inputs,I m_.Outputs,eOs 1 false jU a8]))),(6,.d (I k_)),(7,.own (eOs 2 false F8_ ca)),(8,.d (I i_)),(9,.own (.box (.agg [I ew,I ak.Out])))]
abbrev z1E (m_:z6)(r_:List Int)(ah:List Int)(a8:List (List z8))(k_:Int)(ca:List z8)(i_:Int):List (Nat×T):=[(1,.own (.box (zD m_))),(2,.own (.box (.agg [I 0,I 0,eOs 1 true yX []]))),(3,.own (eOs 1 false nF r_)),(4,.own (eOs 1 false nF ah)),(5,.own (.box (.agg [I m_.Inputs,I m_.Outputs,eOs 1 false jU a8]))),(6,.d (I k_)),(7,.own (eOs 2 false F8_ ca)),(8,.d (I i_))]
abbrev z1F (m_:z6)(r_:List Int)(ah:List Int)(a8:List (List z8))(k_:Int):List (Nat×T):=[(1,.own (.box (zD m_))),(2,.own (.box (.agg [I 0,I 0,eOs 1 true yX []]))),(3,.own (eOs 1 false nF r_)),(4,.own (eOs 1 false nF ah)),(5,.own (.box (.agg [I m_.Inputs,I m_.Outputs,eOs 1 false jU a8]))),(6,.d (I k_))]
theorem z5H (hC:zy prog ctr)(h0q:ctr.Has YN)(h1g:ctr.Has KF):WQ.Ok prog:=by
 refine zx ?_;rintro m_ r0 aa;try unfold YW at aa;refine yO false [(2,some 30)] wZ 62 func34 λE hE=>?_;obtain⟨r_,h0,aa⟩:=zb aa;obtain⟨ah,h1,aa⟩:=zb aa;refine yJ X0 hC wZ [1,1,1,1] [] [2,5] (λz:List (List z8)=>Yc m_ z=some r0) (λz=>z1J m_ z) [(1,.own (.box (zD m_))),(2,.own (.box (.agg [I 0,I 0,eOs 1 true yX []]))),(3,.own (eOs 1 false nF r_)),(4,.own (eOs 1 false nF ah)),(5,.own (.box (.agg [I m_.Inputs,I m_.Outputs,eOs 1 true yX []])))] [Hc h0q (x:=m_) h0 (loC zD m_ <| loN),Hc h1g (x:=m_) h1 (loC zD m_ <| loN),Hh (.cut 1)] ?_ λJ1 ap=>?_
 ·rintro gk aa;unfold Yc at aa;obtain rfl:=za aa;exact yE X0 hC hE [Hm (shM jU yX gk)]
 ·obtain⟨t2,ht2,aa⟩:=zb aa;refine yLx X0 hC wZ [1,1,1,1,2,1,0] [J1] (λs=>qX m_ r_ ah s.1 s.2) (λx=>z1F m_ r_ ah x.1 x.2) (([]:List (List z8)),0) ht2 [(1,.own (.box (zD m_))),(2,.own (.box (.agg [I 0,I 0,eOs 1 true yX []]))),(3,.own (eOs 1 false nF r_)),(4,.own (eOs 1 false nF ah)),(5,.own (.box (.agg [I m_.Inputs,I m_.Outputs,eOs 1 true jU []]))),(6,.d (I 0))] inferInstance [] ?_;rintro⟨a8,k_⟩ m2 ar ae hl1 J2 av;try unfold qX at ae;rcases zB ae with⟨c0,ae⟩|⟨c0,ae⟩
  ·refine yJ X0 hC wZ [1,1,1,1,2,1,0,0,1] [J1,J2] [1,2,3,4,5,6] (λz:List (List z8)=>Yb k_ z=some ar) (λz=>z1I m_ r_ ah k_ z) [(1,.own (.box (zD m_))),(2,.own (.box (.agg [I 0,I 0,eOs 1 true yX []]))),(3,.own (eOs 1 false nF r_)),(4,.own (eOs 1 false nF ah)),(5,.own (.box (.agg [I m_.Inputs,I m_.Outputs,eOs 1 false jU a8]))),(6,.d (I k_))] [Ha (lnM nF r_),Hq c0,Hh (.cut 0)] ?_ λJ3 ba=>?_
   ·rintro fy ae;unfold Yb at ae;obtain rfl:=za ae;exact yB X0 hC av (fy,w64 (k_+1)) hl1 []
   ·refine yJ X0 hC wZ [1,1,1,1,2,1,0,0,1,2,0,1] [J1,J2,J3] [1,2,3,4,5,6,7] (λz:List z8=>Ya a8 k_ z=some ar) (λz=>z1H m_ r_ ah a8 k_ z) [(1,.own (.box (zD m_))),(2,.own (.box (.agg [I 0,I 0,eOs 1 true yX []]))),(3,.own (eOs 1 false nF r_)),(4,.own (eOs 1 false nF ah)),(5,.own (.box (.agg [I m_.Inputs,I m_.Outputs,eOs 1 false jU a8]))),(6,.d (I k_)),(7,.own (eOs 2 true F8_ []))] [Hh (.cut 1)] ?_ λJ4 bw=>?_
    ·rintro row ae;unfold Ya at ae;obtain⟨g0,ae⟩:=gdE ae;exact yB X0 hC ba (a8++([row]:List (List z8))) ae [Hq (oC jU row []),Hn (aL jU jU g0),Hl (aM jU a8 ([row]:List (List z8)))]
    ·obtain⟨t5,ht5,ae⟩:=zb ae;refine yLx X0 hC wZ [1,1,1,1,2,1,0,0,1,2,0,1,2,1,0] [J1,J2,J3,J4] (λs=>qW m_ r_ ah k_ s.1 s.2) (λx=>z1E m_ r_ ah a8 k_ x.1 x.2) (([]:List z8),0) ht5 [(1,.own (.box (zD m_))),(2,.own (.box (.agg [I 0,I 0,eOs 1 true yX []]))),(3,.own (eOs 1 false nF r_)),(4,.own (eOs 1 false nF ah)),(5,.own (.box (.agg [I m_.Inputs,I m_.Outputs,eOs 1 false jU a8]))),(6,.d (I k_)),(7,.own (eOs 2 true F8_ [])),(8,.d (I 0))] inferInstance [] ?_;rintro⟨ca,i_⟩ m5 ck aj hl2 J5 bz;try unfold qW at aj;rcases zB aj with⟨c1,aj⟩|⟨c1,aj⟩
     ·obtain⟨cm,h2,aj⟩:=zb aj;obtain⟨am,h3,aj⟩:=zb aj;obtain⟨ak,h4,aj⟩:=zb aj;refine yJ X0 hC wZ [1,1,1,1,2,1,0,0,1,2,0,1,2,1,0,0,1,0,0,1] [J1,J2,J3,J4,J5] [1,2,3,4,5,6,7,8,9] (λz:Int=>vX ca i_ ak z=some ck) (λz=>z1G m_ r_ ah a8 k_ ca i_ ak z) [(1,.own (.box (zD m_))),(2,.own (.box (.agg [I 0,I 0,eOs 1 true yX []]))),(3,.own (eOs 1 false nF r_)),(4,.own (eOs 1 false nF ah)),(5,.own (.box (.agg [I m_.Inputs,I m_.Outputs,eOs 1 false jU a8]))),(6,.d (I k_)),(7,.own (eOs 2 false F8_ ca)),(8,.d (I i_)),(9,.own (.box (F8_ ak)))] [Hq c1,Hn (iL nF h2),Hs (iM nF h2),Hi yX h3,Hi F8_ h4,Hh (.cut 0)] ?_ λJ6 cw=>?_
      ·rintro ew aj;unfold vX at aj;obtain⟨g1,aj⟩:=gdE aj;obtain rfl:=za aj;exact yB X0 hC bz ((ca++([(z8.mk ew ak.Out)]:List z8)),w64 (i_+1)) hl2 [Hq (dM F8_ ([(z8.mk ew ak.Out)]:List z8)),Hn (dM F8_ ([(z8.mk ew ak.Out)]:List z8)),Hn (aL F8_ F8_ g1),Hl (aM F8_ ca ([(z8.mk ew ak.Out)]:List z8))]
      ·rcases zB aj with⟨c2,aj⟩|⟨c2,aj⟩
       ·obtain⟨ge,h5,aj⟩:=zb aj;exact yB X0 hC cw ge aj [Hq c2,Hn (iL nF h5),Hs (iM nF h5)]
       ·exact yB X0 hC cw ak.To aj [Hq c2]
     ·obtain rfl:=za aj;obtain rfl:=hl2;exact yB X0 hC bw ca ae [Hq c1]
  ·obtain rfl:=za ae;obtain rfl:=hl1;exact yB X0 hC ap a8 aa [Ha (lnM nF r_),Hq c0]
def z9j:Code:=(Tryz.f9.body).getD .skip
def JI:zI:=spF (α:=ur) (ρ:=z6) 9 (λx=>[(Y2 z0k) x]) (λr=>zD r) (λx=>Jj x) [] (WJ)
theorem z9G (hC:zy prog ctr)(h1h:ctr.Has JJ)(h1i:ctr.Has WQ):JI.Ok prog:=by refine zx ?_;rintro x_ r0 aa;try unfold Jj at aa;refine yO false [(2,some 30)] z9j 13 func9 λE hE=>?_;obtain⟨g0,aa⟩:=gdE aa;obtain⟨r_,h0,aa⟩:=zb aa;obtain⟨ah,h1,aa⟩:=zb aa;obtain rfl:=za aa;exact yE X0 hC hE [Hn g0,Hc h1h (x:=(zG.mk (Int.tmod x_.C.States 5) x_.C.Inputs x_.C.Outputs x_.C.Tree x_.C.Edges)) h0 (loC z0k (zG.mk (Int.tmod x_.C.States 5) x_.C.Inputs x_.C.Outputs x_.C.Tree x_.C.Edges) <| loN),Hc h1i (x:=r_) h1 (loC zD r_ <| loN)]
def z4Z:Code:=(f125.body).getD .skip
def qS:zI:=spF (α:=Unit) (ρ:=z8) 125 (λx=>[]) (λr=>F8_ r) (λx=>ul) [] (λ_ _ _=>rfl)
theorem z5M (hC:zy prog ctr):qS.Ok prog:=by refine zx ?_;rintro⟨⟩ r0 aa;try unfold ul at aa;refine yO false [(0,some 67)] z4Z 2 func125 λE hE=>?_;obtain rfl:=za aa;exact yE X0 hC hE []
def z51:Code:=(f94.body).getD .skip
def WU:zI:=spF (α:=z6×z8) (ρ:=Bool) 94 (λx=>[zD x.1,F8_ x.2]) (λr=>eB r) (λx=>Xh x.1 x.2) [] (Vk)
theorem z5N (hC:zy prog ctr)(h0e:ctr.Has qS):WU.Ok prog:=by
 refine zx ?_;rintro⟨m_,x_⟩ r0 aa;try unfold Xh at aa;refine yO true [(4,none)] z51 33 func94 λE hE=>?_;obtain⟨r_,h0,aa⟩:=zb aa
 let Z0:List HO:=[Hc h0e (x:=()) h0 (loN)];rcases zB aa with⟨c0,aa⟩|⟨c0,aa⟩
 ·obtain rfl:=za aa;exact yE X0 hC hE (Z0++(rpN 10 (Hq c0) []))
 ·let Z1:List HO:=(Z0++(rpN 4 (Hq c0) []));rcases zB aa with⟨c1,aa⟩|⟨c1,aa⟩
  ·let Z2:List HO:=(Z1++(rpN 5 (Hq c1) [Ha (lnM yX m_.Rows),Hq c1,Hq c0,Hq c1,Hq c0]));rcases zB aa with⟨c2,aa⟩|⟨c2,aa⟩
   ·let Z3:List HO:=(Z2++[Hq c2,Hq c2,Hq c2,Hq c0,Hq c2,Hq c0]);rcases zB aa with⟨c3,aa⟩|⟨c3,aa⟩
    ·obtain rfl:=za aa;exact yE X0 hC hE (Z3++(rpN 5 (Hq c3) [Hq c0,Hq c3,Hq c0]))
    ·obtain rfl:=za aa;exact yE X0 hC hE (Z3++(rpN 5 (Hq c3) [Hq c0,Hq c3,Hq c0]))
   ·obtain rfl:=za aa;exact yE X0 hC hE (Z2++(Hq c2::Hq c2::Hq c2::Hq c0::Hq c2::Hq c0::(rpN 5 qF [Hq c0,qF,Hq c0])))
  ·obtain rfl:=za aa;exact yE X0 hC hE (Z1++(rpN 6 (Hq c1) (Hq c0::Hq c1::Hq c0::qF::qF::qF::Hq c0::qF::Hq c0::(rpN 5 qF [Hq c0,qF,Hq c0]))))
def z1t:Code:=(f93.body).getD .skip
def Yp:zI:=spF (α:=z8×z6) (ρ:=Bool) 93 (λx=>[F8_ x.1,z3l x.2]) (λr=>eB r) (λx=>Yj x.1 x.2) [] (Vk)
theorem z2f (hC:zy prog ctr)(h1j:ctr.Has WU):Yp.Ok prog:=by refine zx ?_;rintro⟨x_,x1⟩ r0 aa;try unfold Yj at aa;refine yO true [(3,none)] z1t 8 func93 λE hE=>?_;obtain⟨r_,h0,aa⟩:=zb aa;obtain rfl:=za aa;exact yE X0 hC hE [Hc h1j (x:=(x1,x_)) h0 (loC zD x1 <| loC F8_ x_ <| loN)]
def xq:Code:=(f124.body).getD .skip
def xm:zI:=spF (α:=List z8×z6) (ρ:=Int) 124 (λx=>[yX x.1,(z0I 93 z3l) x.2]) (λr=>nF r) (λx=>yz x.1 x.2) [] (by rintro⟨a0,a1⟩ ⟨b0,b1⟩ h;have e0:=YD.inj (f:=yX) _ _ (List.cons.inj h).1;replace h:=(List.cons.inj h).2;have e1:=YD.inj (f:=(z0I 93 z3l)) _ _ (List.cons.inj h).1;subst e0 e1;rfl)
abbrev kM:List (Nat×T):=[]
abbrev kL (s_:List z8)(f_:z6)(x8:Int):List (Nat×T):=[(0,.d (eSl 2 false F8_ s_)),(1,.d (.fn 93 [.sptr (.agg [I f_.Inputs,I f_.Outputs,eSl 1 false yX f_.Rows])])),(7,.d (I ((s_.length:Nat):Int))),(8,.d (I x8))]
theorem ZT (hC:zy prog ctr)(h1k:ctr.Has Yp):xm.Ok prog:=by
 refine zx ?_;rintro⟨s_,f_⟩ r0 aa;try unfold yz at aa;refine yO true [(4,none)] xq 19 func124 λE hE=>?_;refine yJ X0 hC xq [1] [] [] (λz:Unit=>xo=some r0) (λz=>kM) [(0,.d (eSl 2 false F8_ s_)),(1,.d (.fn 93 [.sptr (.agg [I f_.Inputs,I f_.Outputs,eSl 1 false yX f_.Rows])]))] [Hh (.cut 1)] ?_ λJ1 ap=>?_
 ·rintro⟨⟩ aa;unfold xo at aa;obtain rfl:=za aa;exact yE X0 hC hE []
 ·obtain⟨t2,ht2,aa⟩:=zb aa;refine yL X0 hC xq [1,2,1,0] [J1] (λs=>zU s_ f_ s) (λx=>kL s_ f_ x) 0 ht2  [Ha (lnM F8_ s_)] ?_;rintro x8 m2 ar ae hl1 J2 av;try unfold zU at ae;rcases zB ae with⟨c0,ae⟩|⟨c0,ae⟩
  ·obtain⟨da,h0,ae⟩:=zb ae;obtain⟨r_,h1,ae⟩:=zb ae;let Z0:List HO:=[Hq c0,Hi F8_ h0,Hc h1k (x:=(da,f_)) h1 (loC F8_ da <| loC z3l f_ <| loN)];rcases zB ae with⟨c1,ae⟩|⟨c1,ae⟩
   ·obtain rfl:=za ae;obtain rfl:=hl1;obtain rfl:=za aa;exact yE X0 hC hE (Z0++[Hq c1])
   ·obtain rfl:=za ae;exact yB X0 hC av (w64 (x8+1)) hl1 (Z0++[Hq c1])
  ·obtain rfl:=za ae;obtain rfl:=hl1;exact yB X0 hC ap () aa [Hq c0]
def kK:Code:=(f92.body).getD .skip
def yK:zI:=spF (α:=List z8×z6) (ρ:=Bool) 92 (λx=>[yX x.1,(z0I 93 z3l) x.2]) (λr=>eB r) (λx=>y4 x.1 x.2) [] (by rintro⟨a0,a1⟩ ⟨b0,b1⟩ h;have e0:=YD.inj (f:=yX) _ _ (List.cons.inj h).1;replace h:=(List.cons.inj h).2;have e1:=YD.inj (f:=(z0I 93 z3l)) _ _ (List.cons.inj h).1;subst e0 e1;rfl)
theorem kO (hC:zy prog ctr)(h1l:ctr.Has xm):yK.Ok prog:=by refine zx ?_;rintro⟨s_,f_⟩ r0 aa;try unfold y4 at aa;refine yO true [(4,none)] kK 9 func92 λE hE=>?_;obtain⟨r_,h0,aa⟩:=zb aa;obtain rfl:=za aa;exact yE X0 hC hE [Hc h1l (x:=(s_,f_)) h0 (loC yX s_ <| loC (z0I 93 z3l) f_ <| loN)]
def XX:Code:=(f70.body).getD .skip
def xM:zI:=spF (α:=z6) (ρ:=Int) 70 (λx=>[zD x]) (λr=>nF r) (λx=>xS x) [] (WJ)
abbrev z0U:List (Nat×T):=[]
abbrev z0T (m_:z6)(ii:Int):List (Nat×T):=[(1,.d (.sptr (zD m_))),(34,.d (eSl 1 false yX m_.Rows)),(35,.d (I ((m_.Rows.length:Nat):Int))),(36,.d (I ii))]
theorem z4U (hC:zy prog ctr)(h1m:ctr.Has yK):xM.Ok prog:=by
 refine zx ?_;rintro m_ r0 aa;try unfold xS at aa;refine yO true [(2,none)] XX 51 func70 λE hE=>?_;rcases zB aa with⟨c0,aa⟩|⟨c0,aa⟩
 ·obtain rfl:=za aa;exact yE X0 hC hE (rpN 4 (Hq c0) (rpN 6 qT []))
 ·let Z0:List HO:=(rpN 4 (Hq c0) []);rcases zB aa with⟨c1,aa⟩|⟨c1,aa⟩
  ·obtain rfl:=za aa;exact yE X0 hC hE (Z0++(rpN 5 (Hq c1) [qT]))
  ·let Z1:List HO:=(Z0++[Hq c1,Hq c1,Hq c1,Ha (lnM yX m_.Rows),Hq c1,Hq c1]);rcases zB aa with⟨c2,aa⟩|⟨c2,aa⟩
   ·obtain rfl:=za aa;exact yE X0 hC hE (Z1++[Hq c2])
   ·rcases zB aa with⟨c3,aa⟩|⟨c3,aa⟩
    ·obtain rfl:=za aa;exact yE X0 hC hE (Z1++(Hq c2::(rpN 4 (Hq c3) (rpN 6 qT []))))
    ·let Z2:List HO:=(Z1++(Hq c2::(rpN 4 (Hq c3) [])));rcases zB aa with⟨c4,aa⟩|⟨c4,aa⟩
     ·obtain rfl:=za aa;exact yE X0 hC hE (Z2++(rpN 5 (Hq c4) [qT]))
     ·let Z3:List HO:=(Z2++[Hq c4,Hq c4,Hq c4,Ha (lnM yX m_.Rows),Hq c4,Hq c4]);rcases zB aa with⟨c5,aa⟩|⟨c5,aa⟩
      ·obtain rfl:=za aa;exact yE X0 hC hE (Z3++[Hq c5])
      ·refine yJ X0 hC XX [1,1,1] [] [] (λz:Unit=>XQ=some r0) (λz=>z0U) [(1,.own (.box (zD m_)))] (Z3++[Hq c5,Hh (.cut 0)]) ?_ λJ1 ap=>?_
       ·rintro⟨⟩ aa;unfold XQ at aa;obtain rfl:=za aa;exact yE X0 hC hE []
       ·obtain⟨t2,ht2,aa⟩:=zb aa;refine yL X0 hC XX [1,1,1,2,1,0] [J1] (λs=>vu m_ s) (λx=>z0T m_ x) 0 ht2  [Ha (lnM yX m_.Rows),Hh (.n 1 [1])] ?_;rintro ii m2 ar ae hl1 J2 av;try unfold vu at ae;rcases zB ae with⟨c6,ae⟩|⟨c6,ae⟩
        ·obtain⟨am,h0,ae⟩:=zb ae;let Z4:List HO:=[Hq c6,Hi yX h0,Ha (lnM F8_ am)];rcases zB ae with⟨c7,ae⟩|⟨c7,ae⟩
         ·obtain rfl:=za ae;obtain rfl:=hl1;obtain rfl:=za aa;exact yE X0 hC hE (Z4++(rpN 4 (Hq c7) [qT]))
         ·obtain⟨r_,h1,ae⟩:=zb ae;let Z5:List HO:=(Z4++[Hq c7,Hq c7,Hq c7,Hc h1m (x:=(am,m_)) h1 (loC yX am <| loC (z0I 93 z3l) m_ <| loN),Hq c7]);rcases zB ae with⟨c8,ae⟩|⟨c8,ae⟩
          ·obtain rfl:=za ae;obtain rfl:=hl1;obtain rfl:=za aa;exact yE X0 hC hE (Z5++[Hq c8])
          ·obtain rfl:=za ae;exact yB X0 hC av (w64 (ii+1)) hl1 (Z5++[Hq c8])
        ·obtain rfl:=za ae;obtain rfl:=hl1;exact yB X0 hC ap () aa [Hq c6]
def z2F:Code:=(f71.body).getD .skip
def YQ:zI:=spF (α:=z6) (ρ:=(Int×z6)×(Int×z6)×(Int×z6)) 71 (λx=>[zD x]) (λr=>(zsK (zpS nF (z0I 95 z3l)) (zpS nF (z0I 97 z3l)) (zpS nF (z0I 99 z3l))) r) (λx=>Xd x) [] (WJ)
theorem z3t (hC:zy prog ctr):YQ.Ok prog:=by refine zx ?_;rintro m_ r0 aa;try unfold Xd at aa;refine yO false [(2,some 96)] z2F 10 func71 λE hE=>?_;obtain rfl:=za aa;exact yEx X0 hC hE [] (.agg [.agg [I 9,.fn 95 [.sptr (.agg [I m_.Inputs,I m_.Outputs,eSl 1 false yX m_.Rows])]],.agg [I 11,.fn 97 [.sptr (.agg [I m_.Inputs,I m_.Outputs,eSl 1 false yX m_.Rows])]],.agg [I 12,.fn 99 [.sptr (.agg [I m_.Inputs,I m_.Outputs,eSl 1 false yX m_.Rows])]]]) (show LeV (.agg [.agg [I 9,.fn 95 [.sptr (.agg [I m_.Inputs,I m_.Outputs,eSl 1 false yX m_.Rows])]],.agg [I 11,.fn 97 [.sptr (.agg [I m_.Inputs,I m_.Outputs,eSl 1 false yX m_.Rows])]],.agg [I 12,.fn 99 [.sptr (.agg [I m_.Inputs,I m_.Outputs,eSl 1 false yX m_.Rows])]]]) (.agg [.agg [I ((((9,m_),(11,m_),(12,m_)).1).1),.fn 95 [.sptr (.agg [I (((((9,m_),(11,m_),(12,m_)).1).2).Inputs),I (((((9,m_),(11,m_),(12,m_)).1).2).Outputs),eSl 1 false yX (((((9,m_),(11,m_),(12,m_)).1).2).Rows)])]],.agg [I ((((9,m_),(11,m_),(12,m_)).2.1).1),.fn 97 [.sptr (.agg [I (((((9,m_),(11,m_),(12,m_)).2.1).2).Inputs),I (((((9,m_),(11,m_),(12,m_)).2.1).2).Outputs),eSl 1 false yX (((((9,m_),(11,m_),(12,m_)).2.1).2).Rows)])]],.agg [I ((((9,m_),(11,m_),(12,m_)).2.2).1),.fn 99 [.sptr (.agg [I (((((9,m_),(11,m_),(12,m_)).2.2).2).Inputs),I (((((9,m_),(11,m_),(12,m_)).2.2).2).Outputs),eSl 1 false yX (((((9,m_),(11,m_),(12,m_)).2.2).2).Rows)])]]]) from inferInstance)
def z3Q:Code:=(f144.body).getD .skip
def XM:zI:=spF (α:=z6) (ρ:=z6) 144 (λx=>[zD x]) (λr=>(z0I 166 z3l) r) (λx=>We x) [] (WJ)
theorem z4T (hC:zy prog ctr):XM.Ok prog:=by refine zx ?_;rintro m_ r0 aa;try unfold We at aa;refine yO true [(2,none)] z3Q 4 func144 λE hE=>?_;obtain rfl:=za aa;exact yE X0 hC hE []
def qL:Code:=(f166.body).getD .skip
abbrev Ks (x0:z6)(YY:σ->z8g)(cr:Int)(fz:σ):List (Nat×T):=[(0,.own (.opq (YY fz).q)),(8,.d (eSl 1 false yX x0.Rows)),(9,.d (I ((x0.Rows.length:Nat):Int))),(10,.d (I cr))]
abbrev Kq (x0:z6)(YY:σ->z8g)(cr:Int)(am:List z8)(de:σ)(aq:Int):List (Nat×T):=[(0,.own (.opq (YY de).q)),(3,.d (I cr)),(8,.d (eSl 1 false yX x0.Rows)),(9,.d (I ((x0.Rows.length:Nat):Int))),(10,.d (I cr)),(15,.d (eSl 2 false F8_ am)),(16,.d (I ((am.length:Nat):Int))),(17,.d (I aq))]
abbrev Kr (x0:z6)(YY:σ->z8g)(ce:σ)(cr:Int):List (Nat×T):=[(0,.own (.opq (YY ce).q)),(8,.d (eSl 1 false yX x0.Rows)),(9,.d (I ((x0.Rows.length:Nat):Int))),(10,.d (I cr))]
theorem z2e (hC:zy prog ctr)(x0:z6):zbR prog (.fn 166 [.sptr (.agg [I x0.Inputs,I x0.Outputs,eSl 1 false yX x0.Rows])]) (λ(x:wK Int×z8) (_:Bool) (_:Value)=>[F0_ x.1,F8_ x.2]) (@jA x0):=by
 refine z90 (tt:=yp) (nt:=31) (body:=qL) zq func166 rfl (by kernel_rfl) rfl rfl (by show(2:Nat)<=31;decide) ?_;intro σ yv YY yy hy sg r0 aa E hE;unfold jA at aa;obtain⟨t1,ht1,aa⟩:=zb aa;refine yL X0 hC qL [1,0] [] (λs=>vJ x0 yy s.1 s.2) (λx=>Kr x0 YY x.1 x.2) (sg,0) ht1  [Ha (lnM yX x0.Rows)] ?_;rintro⟨ce,cr⟩ m1 ar ae hl1 J1 ap;try unfold vJ at ae;rcases zB ae with⟨c0,ae⟩|⟨c0,ae⟩
 ·refine yJ X0 hC qL [1,0,0,1,1] [J1] [0,8,9,10] (λz:σ=>qE cr z=some ar) (λz=>Ks x0 YY cr z) [(0,.own (.opq (YY ce).q)),(8,.d (eSl 1 false yX x0.Rows)),(9,.d (I ((x0.Rows.length:Nat):Int))),(10,.d (I cr))] [Hq c0,Hh (.cut 0)] ?_ λJ2 av=>?_
  ·rintro fz ae;unfold qE at ae;obtain rfl:=za ae;exact yB X0 hC ap (fz,w64 (cr+1)) hl1 []
  ·obtain⟨am,h0,ae⟩:=zb ae;obtain⟨t3,ht3,ae⟩:=zb ae;refine yL X0 hC qL [1,0,0,1,1,2,0,1,1,0] [J1,J2] (λs=>wq yy cr am s.1 s.2) (λx=>Kq x0 YY cr am x.1 x.2) (ce,0) ht3  [Hi yX h0,Ha (lnM F8_ am)] ?_;rintro⟨de,aq⟩ m3 ck aj hl2 J3 ba;try unfold wq at aj;rcases zB aj with⟨c1,aj⟩|⟨c1,aj⟩
   ·obtain⟨ak,h1,aj⟩:=zb aj;obtain⟨yr,h2,aj⟩:=zb aj;let Z0:List HO:=[Hq c1,Hi F8_ h1,Hn (z8D (yv:=yv) (Y:=YY) (enc:=(λ(x:wK Int×z8) (_:Bool) (_:Value)=>[F0_ x.1,F8_ x.2])) (s:=de) (x:=((wK.mk cr aq),ak)) (s':=yr.1) (b:=yr.2) (v:=.nilFunc) [F0_ (wK.mk cr aq),F8_ ak] (show z0Y [F0_ (wK.mk cr aq),F8_ ak] [F0_ (wK.mk cr aq),F8_ ak] from inferInstance))];rcases zB aj with⟨c2,aj⟩|⟨c2,aj⟩
    ·obtain rfl:=za aj;obtain rfl:=hl2;obtain rfl:=za ae;obtain rfl:=hl1;obtain rfl:=za aa;exact yF ((z28 (P:=prog) yp hy 27 (s:=de) (x:=((wK.mk cr aq),ak)) (s':=yr.1) (b:=yr.2) .nilFunc h2).or X0) hC .ret [(0,.own (.opq (YY yr.1).q))] (Z0++[Hq c2]) λst0 h0=>hE _ st0 (.inr rfl) h0
    ·obtain rfl:=za aj;exact yB ((z28 (P:=prog) yp hy 27 (s:=de) (x:=((wK.mk cr aq),ak)) (s':=yr.1) (b:=yr.2) .nilFunc h2).or X0) hC ba (yr.1,w64 (aq+1)) hl2 (Z0++[Hq c2])
   ·obtain rfl:=za aj;obtain rfl:=hl2;exact yB X0 hC av de ae [Hq c1]
 ·obtain rfl:=za ae;obtain rfl:=hl1;obtain rfl:=za aa;exact yF X0 hC .normal [(0,.own (.opq (YY ce).q))] [Hq c0] λst0 h0=>hE _ st0 (.inl rfl) h0
def Q3:Code:=(f145.body).getD .skip
def vU:zI:=spF (α:=List (wK Int)) (ρ:=List (wK Int)) 145 (λx=>[(eSl 2 false F0_) x]) (λr=>(eSl 2 true F0_) r) (λx=>vh x) [] (WJ)
theorem Qv (hC:zy prog ctr):vU.Ok prog:=by refine zx ?_;rintro s_ r0 aa;try unfold vh at aa;refine yO true [(2,none)] Q3 9 func145 λE hE=>?_;obtain⟨g0,aa⟩:=gdE aa;obtain rfl:=za aa;exact yE X0 hC hE [Ha (lnM F0_ s_),Ha (lnM F0_ s_),Hn (slB g0),Hn (slC g0),Hn (zlZ F0_ g0),Ha (zr7 2 F0_ s_ 0 ((s_.length:Nat):Int).toNat)]
def xQ:Code:=(f126.body).getD .skip
def kQ:zI:=spF (α:=z6) (ρ:=List (wK Int)) 126 (λx=>[zD x]) (λr=>(eSl 2 true F0_) r) (λx=>kB x) [] (WJ)
abbrev Jt (out:List (wK Int)):List (Nat×T):=[(3,.own (.box (eOs 2 false F0_ out)))]
abbrev qr (ah:z6)(ai:List (wK Int)):List (Nat×T):=[(3,.own (.box (eOs 2 false F0_ ai))),(7,.d (.fn 166 [.sptr (.agg [I ah.Inputs,I ah.Outputs,eSl 1 false yX ah.Rows])]))]
theorem z0C (hC:zy prog ctr)(h1n:ctr.Has XM)(h0e:ctr.Has qS)(h0E:ctr.Has vU):kQ.Ok prog:=by
 refine zx ?_;rintro m_ r0 aa;try unfold kB at aa;refine yO true [(2,none)] xQ 19 func126 λE hE=>?_;refine yJ X0 hC xQ [1,1] [] [3] (λz:List (wK Int)=>uk z=some r0) (λz=>Jt z) [(1,.own (.box (zD m_))),(3,.own (.box (eOs 2 true F0_ [])))] [Hh (.cut 2)] ?_ λJ1 ap=>?_
 ·rintro out aa;unfold uk at aa;obtain⟨r_,h0,aa⟩:=zb aa;obtain rfl:=za aa;exact yE X0 hC hE [Hg (z26 h0E),Hm (shM F0_ F0_ out),Hs (z27 h0E (x:=out) h0 (loC (eSl 2 false F0_) out <| loN)),Hm (shM F0_ F0_ out)]
 ·obtain⟨ah,h1,aa⟩:=zb aa;obtain⟨t2,ht2,aa⟩:=zb aa;refine yAt X0 hC (sub [1,1,2,1,0] xQ) (frs [1,1,2,1,0] [J1] xQ []) [(3,.own (.box (eOs 2 true F0_ []))),(7,.d (.fn 166 [.sptr (.agg [I ah.Inputs,I ah.Outputs,eSl 1 false yX ah.Rows])]))] [Hc h1n (x:=m_) h1 (loC zD m_ <| loN)] λst0 h0=>?_;refine z1w (g:=.tmp 7) (ps:=[8,9]) (assign:=(sub [1,1,2,1,0,0] xQ)) (body:=(sub [1,1,2,1,0,1] xQ)) (K:=166) (caps:=[.sptr (.agg [I ah.Inputs,I ah.Outputs,eSl 1 false yX ah.Rows])]) (by kernel_rfl) [3,7] (λs=>qr ah s) (λz=>nomatch z) (λz=>nomatch z) ((λ(x:wK Int×z8) (_:Bool) (_:Value)=>[F0_ x.1,F8_ x.2])) (F:=@jA ah) (λs x=>yn s x.1 x.2) ([]:List (wK Int)) t2 _ h0 inferInstance (by kernel_rfl) (by decide) (λ_=>rfl) (by rintro⟨⟩) (by kernel_rfl) (λ_ _ _=>rfl) (z2e hC ah) ht2 ?_ ?_
  ·rintro lp ai ⟨x8,x9⟩ vr ar ae;replace ae:yn ai x8 x9=some ar:=ae;unfold yn at ae;refine yF X0 hC .normal [(3,.own (.box (eOs 2 false F0_ ai))),(4,.own (.box (F0_ x8))),(5,.own (.box (F8_ x9))),(7,.d (.fn 166 [.sptr (.agg [I ah.Inputs,I ah.Outputs,eSl 1 false yX ah.Rows])]))] [] λst0 h0=>⟨rfl,z9l h0 ?_⟩;obtain⟨al,h2,ae⟩:=zb ae;let Z0:List HO:=[Hc h0e (x:=()) h2 (loN)];rcases zB ae with⟨c0,ae⟩|⟨c0,ae⟩
   ·obtain⟨g0,ae⟩:=gdE ae;obtain rfl:=za ae;exact yF X0 hC .normal (qr ah (ai++([x8]:List (wK Int)))) (Z0++[Hq c0,Hq (dM F0_ ([x8]:List (wK Int))),Hn (dM F0_ ([x8]:List (wK Int))),Hn (aL F0_ F0_ g0),Hl (aM F0_ ai ([x8]:List (wK Int)))]) λst0 h0=>⟨rfl,_,h0,LeL.refl _⟩
   ·obtain rfl:=za ae;exact yF X0 hC .normal (qr ah ai) (Z0++[Hq c0]) λst0 h0=>⟨rfl,_,h0,LeL.refl _⟩
  ·rcases t2 with ai|z
   ·dsimp only at aa;exact WF (by kernel_rfl) (ap _ [(3,.own (.box (eOs 2 false F0_ ai)))] ai aa (show Own.canon [3] _=ofL _ by kernel_rfl) inferInstance)
   ·cases z
def z0M:Code:=(f96.body).getD .skip
def ZR:zI:=spF (α:=z6) (ρ:=Bool×Int) 96 (λx=>[zD x]) (λr=>.tup [eB r.1,nF r.2]) (λx=>qe x) [] (WJ)
theorem z17 (hC:zy prog ctr)(h01:ctr.Has xM)(h1o:ctr.Has kQ):ZR.Ok prog:=by
 refine zx ?_;rintro m_ r0 aa;try unfold qe at aa;refine yO false [(2,none),(3,none)] z0M 14 func96 λE hE=>?_;obtain⟨r_,h0,aa⟩:=zb aa
 let Z0:List HO:=[Hc h01 (x:=m_) h0 (loC zD m_ <| loN)];rcases zB aa with⟨c0,aa⟩|⟨c0,aa⟩
 ·obtain rfl:=za aa;exact yE X0 hC hE (Z0++[Hq c0])
 ·obtain⟨ah,h1,aa⟩:=zb aa;obtain rfl:=za aa;exact yE X0 hC hE (Z0++[Hq c0,Hc h1o (x:=m_) h1 (loC zD m_ <| loN),Ha (lnM F0_ ah)])
def z0L:Code:=(f95.body).getD .skip
def ZQ:zI:=spF (α:=z6) (ρ:=Bool) 95 (λx=>[z3l x]) (λr=>eB r) (λx=>ZA x) [] (WJ)
theorem z16 (hC:zy prog ctr)(h1p:ctr.Has ZR):ZQ.Ok prog:=by refine zx ?_;rintro x0 r0 aa;try unfold ZA at aa;refine yO true [(1,none)] z0L 10 func95 λE hE=>?_;obtain⟨r_,h0,aa⟩:=zb aa;obtain rfl:=za aa;exact yE X0 hC hE [Hc h1p (x:=x0) h0 (loC zD x0 <| loN)]
def Xt:Code:=(f127.body).getD .skip
abbrev Qa (eg:Value)(gr:Value)(gt:Value)(am:List z8)(x1:List Bool)(dz:Int)(dn:Int)(fm:List (List z8))(bh:Int):List (Nat×T):=[(1,.own (.box (eOs 1 true eB x1))),(2,.own (.box (.agg [I dz,I dn,eSl 1 false yX fm]))),(3,.own (.box (.fn 127 [.atom eg,.atom gr,.atom gt]))),(22,.d (eSl 2 false F8_ am)),(23,.d (I ((am.length:Nat):Int))),(24,.d (I bh))]
theorem Kf (hC:zy prog ctr)(eg:Value)(gr:Value)(gt:Value):∀(fu:Nat) (s_:Int) (y0:List Bool) (y1:z6) (r0:List Bool×z6),yf fu s_ y0 y1=some r0->kJ prog (.fn 127 [.atom eg,.atom gr,.atom gt]) [I s_] ([eg,gr,gt].zip [.box (eOs 1 true eB y0),.box (.agg [I y1.Inputs,I y1.Outputs,eSl 1 false yX y1.Rows]),.box (.fn 127 [.atom eg,.atom gr,.atom gt])]) (.tup []) [.box (eOs 1 true eB r0.1),.box (.agg [I r0.2.Inputs,I r0.2.Outputs,eSl 1 false yX r0.2.Rows]),.box (.fn 127 [.atom eg,.atom gr,.atom gt])]:=by
 intro fu;induction fu with
 | zero=>intro s_ y0 y1 r0 aa;exact nomatch (show none=some r0 from aa)
 | succ fu ih=>
  intro s_ y0 y1 r0 aa;replace aa:wj (yf fu) s_ y0 y1=some r0:=aa;generalize yf fu=ig at ih aa;refine zcC (tt:=yp) (nt:=33) (body:=Xt) [1,2,3] zq func127 rfl (by kernel_rfl) rfl rfl (by show(4:Nat)<=33;decide) (by decide) rfl rfl (λE hE=>?_) rfl;unfold wj at aa;rcases zB aa with⟨c0,aa⟩|⟨c0,aa⟩
  ·obtain rfl:=za aa;exact yF X0 hC .ret [(1,.own (.box (eOs 1 true eB y0))),(2,.own (.box (.agg [I y1.Inputs,I y1.Outputs,eSl 1 false yX y1.Rows]))),(3,.own (.box (.fn 127 [.atom eg,.atom gr,.atom gt])))] (rpN 5 (Hq c0) [qT]) λst0 h0=>hE _ st0 (.inr rfl) (z1f h0 ⟨⟨rfl,rfl⟩,⟨⟨rfl,rfl⟩,⟨⟨rfl,rfl⟩,trivial⟩⟩⟩)
  ·obtain⟨md,h0,aa⟩:=zb aa;let Z0:List HO:=[Hq c0,Hq c0,Hq c0,Hn (iL eB h0),Hq c0,Hs (iM eB h0),Hq c0];rcases zB aa with⟨c1,aa⟩|⟨c1,aa⟩
   ·obtain rfl:=za aa;exact yF X0 hC .ret [(1,.own (.box (eOs 1 true eB y0))),(2,.own (.box (.agg [I y1.Inputs,I y1.Outputs,eSl 1 false yX y1.Rows]))),(3,.own (.box (.fn 127 [.atom eg,.atom gr,.atom gt])))] (Z0++[Hq c1]) λst0 h0=>hE _ st0 (.inr rfl) (z1f h0 ⟨⟨rfl,rfl⟩,⟨⟨rfl,rfl⟩,⟨⟨rfl,rfl⟩,trivial⟩⟩⟩)
   ·obtain⟨mf,h1,aa⟩:=zb aa;obtain⟨am,h2,aa⟩:=zb aa;obtain⟨t1,ht1,aa⟩:=zb aa;refine yL X0 hC Xt [1,1,1,0] [] (λs=>xa ig am s.1 s.2.1 s.2.2.1 s.2.2.2.1 s.2.2.2.2) (λx=>Qa eg gr gt am x.1 x.2.1 x.2.2.1 x.2.2.2.1 x.2.2.2.2) ((y0.set s_.toNat true),y1.Inputs,y1.Outputs,y1.Rows,0) ht1  (Z0++[Hq c1,Hn (iL eB h1),Hs (iM eB h1),Hs (iM eB h1),Hl (sM eB y0 s_ true),Hi yX h2,Ha (lnM F8_ am)]) ?_;rintro⟨x1,dz,dn,fm,bh⟩ m1 ar ae hl1 J1 ap;try unfold xa at ae;rcases zB ae with⟨c2,ae⟩|⟨c2,ae⟩
    ·obtain⟨ak,h3,ae⟩:=zb ae;obtain⟨r_,h4,ae⟩:=zb ae;obtain rfl:=za ae;exact yB ((uu (P:=prog) yp [1,2,3] (ih _ _ _ _ h4) 31).or X0) hC ap (r_.1,r_.2.Inputs,r_.2.Outputs,r_.2.Rows,w64 (bh+1)) hl1 [Hq c2,Hi F8_ h3,Hn (ZN (f:=.fn 127 [.atom eg,.atom gr,.atom gt]) (xs:=[nF ak.To]) (ls:=[(eg,.box (eOs 1 true eB x1)),(gr,.box (.agg [I dz,I dn,eSl 1 false yX fm])),(gt,.box (.fn 127 [.atom eg,.atom gr,.atom gt]))]) (r:=.tup []) (ys:=[.box (eOs 1 true eB r_.1),.box (.agg [I r_.2.Inputs,I r_.2.Outputs,eSl 1 false yX r_.2.Rows]),.box (.fn 127 [.atom eg,.atom gr,.atom gt])]) [nF ak.To] (show z0Y [nF ak.To] [nF ak.To] from inferInstance))]
    ·obtain rfl:=za ae;obtain rfl:=hl1;obtain rfl:=za aa;exact yF X0 hC .normal [(1,.own (.box (eOs 1 true eB x1))),(2,.own (.box (.agg [I dz,I dn,eSl 1 false yX fm]))),(3,.own (.box (.fn 127 [.atom eg,.atom gr,.atom gt])))] [Hq c2] λst0 h0=>hE _ st0 (.inl rfl) (z1f h0 ⟨⟨rfl,rfl⟩,⟨⟨rfl,rfl⟩,⟨⟨rfl,rfl⟩,trivial⟩⟩⟩)
def uE:Code:=(f146.body).getD .skip
def uz:zI:=spF (α:=List Bool×Bool) (ρ:=Int) 146 (λx=>[(eSl 1 false eB) x.1,eB x.2]) (λr=>nF r) (λx=>vQ x.1 x.2) [] (Vk)
abbrev Vq:List (Nat×T):=[]
abbrev Vp (s_:List Bool)(v_:Bool)(x8:Int):List (Nat×T):=[(0,.d (eSl 1 false eB s_)),(1,.d (B v_)),(7,.d (I ((s_.length:Nat):Int))),(8,.d (I x8))]
theorem QZ (hC:zy prog ctr):uz.Ok prog:=by
 refine zx ?_;rintro⟨s_,v_⟩ r0 aa;try unfold vQ at aa;refine yO true [(4,none)] uE 19 func146 λE hE=>?_;refine yJ X0 hC uE [1] [] [] (λz:Unit=>uB=some r0) (λz=>Vq) [(0,.d (eSl 1 false eB s_)),(1,.d (B v_))] [Hh (.cut 1)] ?_ λJ1 ap=>?_
 ·rintro⟨⟩ aa;unfold uB at aa;obtain rfl:=za aa;exact yE X0 hC hE []
 ·obtain⟨t2,ht2,aa⟩:=zb aa;refine yL X0 hC uE [1,2,1,0] [J1] (λs=>yC s_ v_ s) (λx=>Vp s_ v_ x) 0 ht2  [Ha (lnM eB s_)] ?_;rintro x8 m2 ar ae hl1 J2 av;try unfold yC at ae;rcases zB ae with⟨c0,ae⟩|⟨c0,ae⟩
  ·obtain⟨da,h0,ae⟩:=zb ae;rcases zB ae with⟨c1,ae⟩|⟨c1,ae⟩
   ·obtain rfl:=za ae;obtain rfl:=hl1;obtain rfl:=za aa;exact yE X0 hC hE [Hq c0,Hi eB h0,Hq c1]
   ·obtain rfl:=za ae;exact yB X0 hC av (w64 (x8+1)) hl1 [Hq c0,Hi eB h0,Hq c1]
  ·obtain rfl:=za ae;obtain rfl:=hl1;exact yB X0 hC ap () aa [Hq c0]
def Vn:Code:=(f128.body).getD .skip
def va:zI:=spF (α:=List Bool×Bool) (ρ:=Bool) 128 (λx=>[(eSl 1 false eB) x.1,eB x.2]) (λr=>eB r) (λx=>xD x.1 x.2) [] (Vk)
theorem Vy (hC:zy prog ctr)(h1q:ctr.Has uz):va.Ok prog:=by refine zx ?_;rintro⟨s_,v_⟩ r0 aa;try unfold xD at aa;refine yO true [(4,none)] Vn 9 func128 λE hE=>?_;obtain⟨r_,h0,aa⟩:=zb aa;obtain rfl:=za aa;exact yE X0 hC hE [Hc h1q (x:=(s_,v_)) h0 (loC (eSl 1 false eB) s_ <| loC eB v_ <| loN)]
def WE:Code:=(f98.body).getD .skip
def kR:zI:=spF (α:=z6) (ρ:=Bool×Int) 98 (λx=>[zD x]) (λr=>.tup [eB r.1,nF r.2]) (λx=>um x) [] (WJ)
theorem z0D (hC:zy prog ctr)(h01:ctr.Has xM)(h0F:ctr.Has va):kR.Ok prog:=by
 refine zx ?_;rintro m_ r0 aa;try unfold um at aa;refine yO false [(2,none),(3,none)] WE 22 func98 λE hE=>?_;obtain⟨r_,h0,aa⟩:=zb aa
 let Z0:List HO:=[Hc h01 (x:=m_) h0 (loC zD m_ <| loN)];rcases zB aa with⟨c0,aa⟩|⟨c0,aa⟩
 ·obtain rfl:=za aa;exact yE X0 hC hE (Z0++[Hq c0])
 ·obtain⟨g0,aa⟩:=gdE aa;refine yA X0 hC WE [1,1,1,1] [] [(1,.own (.box (zD m_))),(5,.own (.box (eOs 1 true eB (List.replicate ((m_.Rows.length:Nat):Int).toNat false)))),(6,.own (.box (.atom .nilFunc)))] (Z0++[Hq c0,Ha (lnM yX m_.Rows),Hn (rL g0),Ha (rM 1 eB ((m_.Rows.length:Nat):Int) false),Hh (.cut 1)]) ?_;refine zfB (by kernel_rfl) 5 λkx=>?_;refine zfB (by kernel_rfl) 1 λky=>?_;refine zfB (by kernel_rfl) 6 λkz=>?_;obtain⟨ah,h1,aa⟩:=zb aa;obtain⟨al,h2,aa⟩:=zb aa;obtain rfl:=za aa;exact yE ((uu (P:=prog) yp [5,1,6] (Kf hC kx ky kz fuel _ _ _ _ h1) 18).or ((xMk prog yp).or X0)) hC hE [Hn (ZN (f:=.fn 127 [.atom kx,.atom ky,.atom kz]) (xs:=[nF 0]) (ls:=[(kx,.box (eOs 1 true eB (List.replicate ((m_.Rows.length:Nat):Int).toNat false))),(ky,.box (.agg [I m_.Inputs,I m_.Outputs,eSl 1 false yX m_.Rows])),(kz,.box (.fn 127 [.atom kx,.atom ky,.atom kz]))]) (r:=.tup []) (ys:=[.box (eOs 1 true eB ah.1),.box (.agg [I ah.2.Inputs,I ah.2.Outputs,eSl 1 false yX ah.2.Rows]),.box (.fn 127 [.atom kx,.atom ky,.atom kz])]) [nF 0] (show z0Y [nF 0] [nF 0] from inferInstance)),Hg (z26 h0F),Hm (shM eB eB ah.1),Hs (z27 h0F (x:=(ah.1,false)) h2 (loC (eSl 1 true eB) ah.1 <| loC eB false <| loN))]
def z0K:Code:=(f97.body).getD .skip
def ZP:zI:=spF (α:=z6) (ρ:=Bool) 97 (λx=>[z3l x]) (λr=>eB r) (λx=>Zz x) [] (WJ)
theorem z15 (hC:zy prog ctr)(h1r:ctr.Has kR):ZP.Ok prog:=by refine zx ?_;rintro x0 r0 aa;try unfold Zz at aa;refine yO true [(1,none)] z0K 10 func97 λE hE=>?_;obtain⟨r_,h0,aa⟩:=zb aa;obtain rfl:=za aa;exact yE X0 hC hE [Hc h1r (x:=x0) h0 (loC zD x0 <| loN)]
def z3O:Code:=(f129.body).getD .skip
def XJ:zI:=spF (α:=z6) (ρ:=z6) 129 (λx=>[zD x]) (λr=>(z0I 147 z3l) r) (λx=>W3 x) [] (WJ)
theorem z4Q (hC:zy prog ctr):XJ.Ok prog:=by refine zx ?_;rintro m_ r0 aa;try unfold W3 at aa;refine yO true [(2,none)] z3O 4 func129 λE hE=>?_;obtain rfl:=za aa;exact yE X0 hC hE []
def Xq:Code:=(f167.body).getD .skip
def VG:zI:=spF (α:=z6×List Int×Int) (ρ:=xg (wK Int)) 167 (λx=>[zD x.1,F6_ x.2.1,nF x.2.2]) (λr=>F7_ r) (λx=>kY x.1 x.2.1 x.2.2) [] (zcH)
abbrev z2N (out:xg (wK Int)):List (Nat×T):=[(6,.own (.box (.agg [.agg [I 0,I 0],.agg [I 0,I 0],.agg [I 0,I 0],.agg [I 0,I 0],.agg [I 0,I 0],.agg [I 0,I 0],.agg [I 0,I 0],.agg [I 0,I 0],.agg [I 0,I 0],.agg [I 0,I 0],.agg [I 0,I 0],.agg [I 0,I 0],.agg [I 0,I 0],.agg [I 0,I 0],.agg [I 0,I 0],.agg [I 0,I 0]]))),(7,.own (.box (F7_ out)))]
abbrev z2M (p_:List Int)(am:List z8)(bp:Int)(az:xg (wK Int)):List (Nat×T):=[(1,.d (eSl 1 false nF p_)),(6,.own (.box (.agg [.agg [I 0,I 0],.agg [I 0,I 0],.agg [I 0,I 0],.agg [I 0,I 0],.agg [I 0,I 0],.agg [I 0,I 0],.agg [I 0,I 0],.agg [I 0,I 0],.agg [I 0,I 0],.agg [I 0,I 0],.agg [I 0,I 0],.agg [I 0,I 0],.agg [I 0,I 0],.agg [I 0,I 0],.agg [I 0,I 0],.agg [I 0,I 0]]))),(7,.own (.box (F7_ az))),(14,.d (eSl 2 false F8_ am)),(15,.d (I ((am.length:Nat):Int))),(16,.d (I bp))]
abbrev z2L (p_:List Int)(am:List z8)(ai:xg (wK Int))(bp:Int):List (Nat×T):=[(1,.d (eSl 1 false nF p_)),(6,.own (.box (.agg [.agg [I 0,I 0],.agg [I 0,I 0],.agg [I 0,I 0],.agg [I 0,I 0],.agg [I 0,I 0],.agg [I 0,I 0],.agg [I 0,I 0],.agg [I 0,I 0],.agg [I 0,I 0],.agg [I 0,I 0],.agg [I 0,I 0],.agg [I 0,I 0],.agg [I 0,I 0],.agg [I 0,I 0],.agg [I 0,I 0],.agg [I 0,I 0]]))),(7,.own (.box (F7_ ai))),(14,.d (eSl 2 false F8_ am)),(15,.d (I ((am.length:Nat):Int))),(16,.d (I bp))]
theorem z7j (hC:zy prog ctr):VG.Ok prog:=by
 refine zx ?_;rintro⟨m_,p_,s_⟩ r0 aa;try unfold kY at aa;refine yO false [(6,some 190)] Xq 39 func167 λE hE=>?_;refine yJ X0 hC Xq [1,1] [] [6,7] (λz:xg (wK Int)=>YT z=some r0) (λz=>z2N z) [(1,.d (eSl 1 false nF p_)),(2,.d (I s_)),(3,.own (.box (zD m_))),(6,.own (.box (.agg [.agg [I 0,I 0],.agg [I 0,I 0],.agg [I 0,I 0],.agg [I 0,I 0],.agg [I 0,I 0],.agg [I 0,I 0],.agg [I 0,I 0],.agg [I 0,I 0],.agg [I 0,I 0],.agg [I 0,I 0],.agg [I 0,I 0],.agg [I 0,I 0],.agg [I 0,I 0],.agg [I 0,I 0],.agg [I 0,I 0],.agg [I 0,I 0]]))),(7,.own (.box (.agg [.agg [I 0,I 0],.agg [I 0,I 0],.agg [I 0,I 0],.agg [I 0,I 0],.agg [I 0,I 0],.agg [I 0,I 0],.agg [I 0,I 0],.agg [I 0,I 0],.agg [I 0,I 0],.agg [I 0,I 0],.agg [I 0,I 0],.agg [I 0,I 0],.agg [I 0,I 0],.agg [I 0,I 0],.agg [I 0,I 0],.agg [I 0,I 0]])))] [Hh (.cut 2)] ?_ λJ1 ap=>?_
 ·rintro out aa;unfold YT at aa;obtain rfl:=za aa;exact yE X0 hC hE []
 ·obtain⟨am,h0,aa⟩:=zb aa;obtain⟨t2,ht2,aa⟩:=zb aa;refine yL X0 hC Xq [1,1,2,1,0] [J1] (λs=>kW p_ am s.1 s.2) (λx=>z2L p_ am x.1 x.2) ((xg.mk (wK.mk 0 0) (wK.mk 0 0) (wK.mk 0 0) (wK.mk 0 0) (wK.mk 0 0) (wK.mk 0 0) (wK.mk 0 0) (wK.mk 0 0) (wK.mk 0 0) (wK.mk 0 0) (wK.mk 0 0) (wK.mk 0 0) (wK.mk 0 0) (wK.mk 0 0) (wK.mk 0 0) (wK.mk 0 0)),0) ht2  [Hi yX h0,Ha (lnM F8_ am)] ?_;rintro⟨ai,bp⟩ m2 ar ae hl1 J2 av;try unfold kW at ae;rcases zB ae with⟨c0,ae⟩|⟨c0,ae⟩
  ·refine yJ X0 hC Xq [1,1,2,1,0,0,1,1] [J1,J2] [1,6,7,14,15,16] (λz:xg (wK Int)=>kX bp z=some ar) (λz=>z2M p_ am bp z) [(1,.d (eSl 1 false nF p_)),(6,.own (.box (.agg [.agg [I 0,I 0],.agg [I 0,I 0],.agg [I 0,I 0],.agg [I 0,I 0],.agg [I 0,I 0],.agg [I 0,I 0],.agg [I 0,I 0],.agg [I 0,I 0],.agg [I 0,I 0],.agg [I 0,I 0],.agg [I 0,I 0],.agg [I 0,I 0],.agg [I 0,I 0],.agg [I 0,I 0],.agg [I 0,I 0],.agg [I 0,I 0]]))),(7,.own (.box (F7_ ai))),(14,.d (eSl 2 false F8_ am)),(15,.d (I ((am.length:Nat):Int))),(16,.d (I bp))] [Hq c0,Hh (.cut 0)] ?_ λJ3 ba=>?_
   ·rintro az ae;unfold kX at ae;obtain rfl:=za ae;exact yB X0 hC av (az,w64 (bp+1)) hl1 []
   ·obtain⟨ak,h1,ae⟩:=zb ae;obtain⟨cell,h2,ae⟩:=zb ae;obtain⟨arr,h3,ae⟩:=zb ae;replace h3:=za h3;let Z0:List HO:=[Hi F8_ h1,Hn (⟨arJ (by kernel_rfl) (i0 h2),(iL F0_ h2).2⟩:XC yp 190 ((xg.toL ai).map F0_) bp=true/\bp.toNat<((xg.toL ai).map F0_).length),Hh (.op 9),Hh (.f),Hs (iM F0_ h2),Hh (.f),Hs (iM F0_ h2),Hx (.l ((xg.toL arr).map F0_)) ((xg.setL F0_ ai bp (wK.mk ak.Out (-1))).trans (congrArg (λq=>(xg.toL q).map F0_) h3))];rcases zB ae with⟨c1,ae⟩|⟨c1,ae⟩
    ·obtain⟨bt,h4,ae⟩:=zb ae;obtain⟨a7,h5,ae⟩:=zb ae;obtain⟨arr1,h6,ae⟩:=zb ae;replace h6:=za h6;exact yB X0 hC ba arr1 ae (Z0++[Hq c1,Hi nF h4,Hn (⟨arJ (by kernel_rfl) (i0 h5),(iL F0_ h5).2⟩:XC yp 190 ((xg.toL arr).map F0_) bp=true/\bp.toNat<((xg.toL arr).map F0_).length),Hh (.op 2),Hh (.f),Hs (iM F0_ h5),Hn (⟨rfl,by decide⟩:true=true/\1<2),Hh (.op 0),Hh (.f),Hs (iM F0_ h5),Hh (.f),Hx (.a (I a7.e1)) (rfl:some (I a7.e1:A)=some (I a7.e1)),Hh (.f),Hs (iM F0_ h5),Hh (.f),Hx (.a (I a7.e1)) (rfl:some (I a7.e1:A)=some (I a7.e1)),Hx (.l [I a7.e0,I bt]) (rfl:([I a7.e0,I bt]:List A)=[I a7.e0,I bt]),Hx (.l ((xg.toL arr1).map F0_)) ((xg.setL F0_ arr bp (wK.mk a7.e0 bt)).trans (congrArg (λq=>(xg.toL q).map F0_) h6))])
    ·exact yB X0 hC ba arr ae (Z0++[Hq c1])
  ·obtain rfl:=za ae;obtain rfl:=hl1;exact yB X0 hC ap ai aa [Hq c0]
def kG:Code:=(f148.body).getD .skip
def jV:zI:=spF (α:=z6×List Int) (ρ:=List Int) 148 (λx=>[zD x.1,F6_ x.2]) (λr=>F3_ r) (λx=>kZ x.1 x.2) [] (Vk)
abbrev z06 (out:List Int):List (Nat×T):=[(6,.own (eOs 1 true nF out))]
abbrev z05 (m_:z6)(p_:List Int)(ai:List Int)(du:Int)(bt:Int)(r_:xg (wK Int))(dp:List (zA×Int)):List (Nat×T):=[(1,.d (eSl 1 false nF p_)),(2,.own (.box (zD m_))),(5,.own (.opq (z4E (Jm z3m nF dp)))),(6,.own (eOs 1 true nF ai)),(7,.d (I du)),(9,.own (.box (.agg [I bt,F7_ r_]))),(16,.d (eSl 1 false nF p_)),(17,.d (I ((p_.length:Nat):Int))),(18,.d (I du))]
abbrev z04 (m_:z6)(p_:List Int)(names:List (zA×Int))(ai:List Int)(du:Int):List (Nat×T):=[(1,.d (eSl 1 false nF p_)),(2,.own (.box (zD m_))),(5,.own (.opq (z4E (Jm z3m nF names)))),(6,.own (eOs 1 true nF ai)),(16,.d (eSl 1 false nF p_)),(17,.d (I ((p_.length:Nat):Int))),(18,.d (I du))]
theorem z3p (hC:zy prog ctr)(h1s:ctr.Has VG):jV.Ok prog:=by
 refine zx ?_;rintro⟨m_,p_⟩ r0 aa;try unfold kZ at aa;refine yO true [(4,none)] kG 49 func148 λE hE=>?_;obtain⟨g0,aa⟩:=gdE aa;refine yJ ((zpc prog 12).or X0) hC kG [1,1,1] [] [6] (λz:List Int=>jX z=some r0) (λz=>z06 z) [(1,.d (eSl 1 false nF p_)),(2,.own (.box (zD m_))),(5,.own (.opq (z4E (Jm z3m nF ([]:List (zA×Int)))))),(6,.own (eOs 1 true nF (List.replicate ((p_.length:Nat):Int).toNat (0:Int))))] [Ha (lnM nF p_),Hn (rL g0),Ha (rM 1 nF ((p_.length:Nat):Int) (0:Int)),Hh (.cut 0)] ?_ λJ1 ap=>?_
 ·rintro out aa;unfold jX at aa;obtain rfl:=za aa;exact yE X0 hC hE []
 ·obtain⟨t2,ht2,aa⟩:=zb aa;refine yL X0 hC kG [1,1,1,2,1,0] [J1] (λs=>uf m_ p_ s.1 s.2.1 s.2.2) (λx=>z04 m_ p_ x.1 x.2.1 x.2.2) (([]:List (zA×Int)),(List.replicate ((p_.length:Nat):Int).toNat (0:Int)),0) ht2  [Ha (lnM nF p_)] ?_;rintro⟨names,ai,du⟩ m2 ar ae hl1 J2 av;try unfold uf at ae;rcases zB ae with⟨c0,ae⟩|⟨c0,ae⟩
  ·obtain⟨bt,h0,ae⟩:=zb ae;obtain⟨r_,h1,ae⟩:=zb ae;refine yJ X0 hC kG [1,1,1,2,1,0,0,1,1,0,0,1,1] [J1,J2] [1,2,5,6,7,9,16,17,18] (λz:List (zA×Int)=>wQ ai du bt r_ z=some ar) (λz=>z05 m_ p_ ai du bt r_ z) [(1,.d (eSl 1 false nF p_)),(2,.own (.box (zD m_))),(5,.own (.opq (z4E (Jm z3m nF names)))),(6,.own (eOs 1 true nF ai)),(7,.d (I du)),(9,.own (.box (.agg [I bt,F7_ r_]))),(16,.d (eSl 1 false nF p_)),(17,.d (I ((p_.length:Nat):Int))),(18,.d (I du))] [Hq c0,Hi nF h0,Hc h1s (x:=(m_,p_,du)) h1 (loC zD m_ <| loC F6_ p_ <| loC nF du <| loN),Hh (.cut 0)] ?_ λJ3 ba=>?_
   ·rintro dp ae;unfold wQ at ae;obtain⟨val,h2,ae⟩:=zb ae;replace h2:=za h2;obtain⟨bq,h3,ae⟩:=zb ae;obtain rfl:=za ae;exact yB ((ziN zan 45 (Jm z3m nF dp)).or X0) hC av (dp,(ai.set du.toNat val),w64 (du+1)) hl1 [Hn (⟨rfl,rfl,zfl (λ_=>rfl) dp⟩:A.opq (z4E (Jm z3m nF dp))=A.opq (z4E (Jm z3m nF dp))/\(z6n [.i64,.i64,.i64,.i64,.i64,.i64,.i64,.i64,.i64,.i64,.i64,.i64,.i64,.i64,.i64,.i64,.i64,.i64,.i64,.i64,.i64,.i64,.i64,.i64,.i64,.i64,.i64,.i64,.i64,.i64,.i64,.i64,.i64]) (z3m (zA.mk bt r_))=true/\∀p∈Jm z3m nF dp,(z6n [.i64,.i64,.i64,.i64,.i64,.i64,.i64,.i64,.i64,.i64,.i64,.i64,.i64,.i64,.i64,.i64,.i64,.i64,.i64,.i64,.i64,.i64,.i64,.i64,.i64,.i64,.i64,.i64,.i64,.i64,.i64,.i64,.i64]) p.1=true),Hx (.a (nF val)) ((zsJ (f:=z3m) (g:=nF) (z0:=0) (z:=.atom (.int .i64 0)) rfl (zA.mk bt r_) dp).trans (congrArg nF h2)),Hn (iL nF h3),Hs (iM nF h3),Hs (iM nF h3),Hl (sM nF ai du val)]
   ·obtain⟨l5,h4,ae⟩:=zb ae;replace h4:=za h4;let Z0:List HO:=[Hn (⟨rfl,rfl,zfl (λ_=>rfl) names⟩:A.opq (z4E (Jm z3m nF names))=A.opq (z4E (Jm z3m nF names))/\(z6n [.i64,.i64,.i64,.i64,.i64,.i64,.i64,.i64,.i64,.i64,.i64,.i64,.i64,.i64,.i64,.i64,.i64,.i64,.i64,.i64,.i64,.i64,.i64,.i64,.i64,.i64,.i64,.i64,.i64,.i64,.i64,.i64,.i64]) (z3m (zA.mk bt r_))=true/\∀p∈Jm z3m nF names,(z6n [.i64,.i64,.i64,.i64,.i64,.i64,.i64,.i64,.i64,.i64,.i64,.i64,.i64,.i64,.i64,.i64,.i64,.i64,.i64,.i64,.i64,.i64,.i64,.i64,.i64,.i64,.i64,.i64,.i64,.i64,.i64,.i64,.i64]) p.1=true),Hx (.a (.tup [I l5,B ((z4D names (zA.mk bt r_)).isSome)])) ((zsI (f:=z3m) (g:=nF) (z0:=0) (z:=.atom (.int .i64 0)) rfl (zA.mk bt r_) names).trans (congrArg (λx=>A.tup [nF x,.atom (.bool (z4D names (zA.mk bt r_)).isSome)]) h4))];rcases zB ae with⟨c1,ae⟩|⟨c1,ae⟩
    ·exact yB ((zs7 zan 37 (Jm z3m nF names) (Jm z3m nF (zdh names (zA.mk bt r_) ((names.length:Nat):Int)))).or ((zpd zan 40 (Jm z3m nF names)).or ((ziN zan 32 (Jm z3m nF names)).or X0))) hC ba (zdh names (zA.mk bt r_) ((names.length:Nat):Int)) ae (Z0++[Hq c1,Hn (rfl:A.opq (z4E (Jm z3m nF names))=A.opq (z4E (Jm z3m nF names))),Hx (aLn names.length) (zkh z3m nF names),Hn (⟨rfl,rfl,rfl,rfl,zfl (λ_=>rfl) names⟩:T.own (.opq (z4E (Jm z3m nF names)))=T.own (.opq (z4E (Jm z3m nF names)))/\0=0/\(z6n [.i64,.i64,.i64,.i64,.i64,.i64,.i64,.i64,.i64,.i64,.i64,.i64,.i64,.i64,.i64,.i64,.i64,.i64,.i64,.i64,.i64,.i64,.i64,.i64,.i64,.i64,.i64,.i64,.i64,.i64,.i64,.i64,.i64]) (z3m (zA.mk bt r_))=true/\(nF ((names.length:Nat):Int)).isD=true/\∀p∈Jm z3m nF names,(z6n [.i64,.i64,.i64,.i64,.i64,.i64,.i64,.i64,.i64,.i64,.i64,.i64,.i64,.i64,.i64,.i64,.i64,.i64,.i64,.i64,.i64,.i64,.i64,.i64,.i64,.i64,.i64,.i64,.i64,.i64,.i64,.i64,.i64]) p.1=true),Hn (zjP (f:=z3m) (g:=nF) (zA.mk bt r_) ((names.length:Nat):Int) names)])
    ·exact yB ((ziN zan 32 (Jm z3m nF names)).or X0) hC ba names ae (Z0++[Hq c1])
  ·obtain rfl:=za ae;obtain rfl:=hl1;exact yB X0 hC ap ai aa [Hq c0]
def qK:Code:=(f82.body).getD .skip
def xU:zI:=spF (α:=List Int×List Int) (ρ:=Bool) 82 (λx=>[F6_ x.1,F6_ x.2]) (λr=>eB r) (λx=>w7 x.1 x.2) [] (Vk)
abbrev Q9:List (Nat×T):=[]
abbrev Q8 (s1:List Int)(s2:List Int)(dc:Int):List (Nat×T):=[(0,.d (eSl 1 false nF s1)),(1,.d (eSl 1 false nF s2)),(12,.d (I ((s1.length:Nat):Int))),(13,.d (I dc))]
theorem Kd (hC:zy prog ctr):xU.Ok prog:=by
 refine zx ?_;rintro⟨s1,s2⟩ r0 aa;try unfold w7 at aa;refine yO true [(4,none)] qK 26 func82 λE hE=>?_
 let Z0:List HO:=[Ha (lnM nF s1),Ha (lnM nF s2)];rcases zB aa with⟨c0,aa⟩|⟨c0,aa⟩
 ·obtain rfl:=za aa;exact yE X0 hC hE (Z0++[Hq c0])
 ·refine yJ X0 hC qK [1,1] [] [] (λz:Unit=>ve=some r0) (λz=>Q9) [(0,.d (eSl 1 false nF s1)),(1,.d (eSl 1 false nF s2))] (Z0++[Hq c0,Hh (.cut 0)]) ?_ λJ1 ap=>?_
  ·rintro⟨⟩ aa;unfold ve at aa;obtain rfl:=za aa;exact yE X0 hC hE []
  ·obtain⟨t2,ht2,aa⟩:=zb aa;refine yL X0 hC qK [1,1,2,1,0] [J1] (λs=>yY s1 s2 s) (λx=>Q8 s1 s2 x) 0 ht2  [Ha (lnM nF s1)] ?_;rintro dc m2 ar ae hl1 J2 av;try unfold yY at ae;rcases zB ae with⟨c1,ae⟩|⟨c1,ae⟩
   ·obtain⟨ga,h0,ae⟩:=zb ae;obtain⟨d0,h1,ae⟩:=zb ae;let Z1:List HO:=[Hq c1,Hi nF h0,Hi nF h1];rcases zB ae with⟨c2,ae⟩|⟨c2,ae⟩
    ·obtain rfl:=za ae;obtain rfl:=hl1;obtain rfl:=za aa;exact yE X0 hC hE (Z1++[Hq c2])
    ·obtain rfl:=za ae;exact yB X0 hC av (w64 (dc+1)) hl1 (Z1++[Hq c2])
   ·obtain rfl:=za ae;obtain rfl:=hl1;exact yB X0 hC ap () aa [Hq c1]
def UA:Code:=(f147.body).getD .skip
abbrev Ko (x0:z6)(YY:σ->z8g)(ce:σ)(p_:List Int):List (Nat×T):=[(0,.own (.opq (YY ce).q)),(1,.d (.sptr (zD x0))),(3,.own (eOs 1 true nF p_))]
theorem z2c (hC:zy prog ctr)(h0r:ctr.Has jV)(h0a:ctr.Has xU)(x0:z6):zbR prog (.fn 147 [.sptr (.agg [I x0.Inputs,I x0.Outputs,eSl 1 false yX x0.Rows])]) (λ(x:List Int) (_:Bool) (_:Value)=>[F6_ x]) (@qU x0):=by
 refine z90 (tt:=yp) (nt:=19) (body:=UA) zq func147 rfl (by kernel_rfl) rfl rfl (by show(2:Nat)<=19;decide) ?_;intro σ yv YY yy hy sg r0 aa E hE;unfold qU at aa;obtain⟨g0,aa⟩:=gdE aa;obtain⟨t1,ht1,aa⟩:=zb aa;refine yL X0 hC UA [1,0] [] (λs=>vE x0 yy s.1 s.2) (λx=>Ko x0 YY x.1 x.2) (sg,(List.replicate ((x0.Rows.length:Nat):Int).toNat (0:Int))) ht1  [Ha (lnM yX x0.Rows),Hn (rL g0),Ha (rM 1 nF ((x0.Rows.length:Nat):Int) (0:Int))] ?_;rintro⟨ce,p_⟩ m1 ar ae hl1 J1 ap;try unfold vE at ae;obtain⟨yr,h0,ae⟩:=zb ae
 let Z0:List HO:=[Hm (shM nF nF p_),Hn (z8D (yv:=yv) (Y:=YY) (enc:=(λ(x:List Int) (_:Bool) (_:Value)=>[F6_ x])) (s:=ce) (x:=p_) (s':=yr.1) (b:=yr.2) (v:=.nilFunc) [F2_ p_] (show z0Y [F2_ p_] [F6_ p_] from inferInstance))];rcases zB ae with⟨c0,ae⟩|⟨c0,ae⟩
 ·obtain⟨r_,h1,ae⟩:=zb ae;obtain⟨ah,h2,ae⟩:=zb ae;let Z1:List HO:=(Z0++[Hq c0,Hc h0r (x:=(x0,p_)) h1 (loC zD x0 <| loC F2_ p_ <| loN),Hg (z26 h0a),Hm (shM nF nF r_),Hs (z27 h0a (x:=(p_,r_)) h2 (loC F2_ p_ <| loC F2_ r_ <| loN))]);rcases zB ae with⟨c1,ae⟩|⟨c1,ae⟩
  ·obtain rfl:=za ae;obtain rfl:=hl1;obtain rfl:=za aa;exact yF ((z28 (P:=prog) yp hy 11 (s:=ce) (x:=p_) (s':=yr.1) (b:=yr.2) .nilFunc h0).or X0) hC .ret [(0,.own (.opq (YY yr.1).q))] (Z1++[Hq c1]) λst0 h0=>hE _ st0 (.inr rfl) h0
  ·obtain rfl:=za ae;exact yB ((z28 (P:=prog) yp hy 11 (s:=ce) (x:=p_) (s':=yr.1) (b:=yr.2) .nilFunc h0).or X0) hC ap (yr.1,r_) hl1 (Z1++[Hq c1])
 ·obtain rfl:=za ae;obtain rfl:=hl1;obtain rfl:=za aa;exact yF ((z28 (P:=prog) yp hy 11 (s:=ce) (x:=p_) (s':=yr.1) (b:=yr.2) .nilFunc h0).or X0) hC .normal [(0,.own (.opq (YY yr.1).q))] (Z0++[Hq c0]) λst0 h0=>hE _ st0 (.inl rfl) h0
def wT:Code:=(f100.body).getD .skip
def YL:zI:=spF (α:=z6) (ρ:=List Int×Int×Int) 100 (λx=>[zD x]) (λr=>.tup [F6_ r.1,nF r.2.1,nF r.2.2]) (λx=>Za x) [] (WJ)
abbrev z07 (p_:List Int)(n_:Int):List (Nat×T):=[(2,.own (.box (eSl 1 false nF p_))),(3,.own (.box (I n_)))]
abbrev WI (ah:z6)(ip:List Int)(cj:Int):List (Nat×T):=[(2,.own (.box (eSl 1 false nF ip))),(3,.own (.box (I cj))),(13,.d (.fn 147 [.sptr (.agg [I ah.Inputs,I ah.Outputs,eSl 1 false yX ah.Rows])]))]
theorem z3q (hC:zy prog ctr)(h01:ctr.Has xM)(h1t:ctr.Has XJ)(h0r:ctr.Has jV)(h0a:ctr.Has xU):YL.Ok prog:=by
 refine zx ?_;rintro m_ r0 aa;try unfold Za at aa;refine yO false [(2,some 40),(3,some 3),(4,none)] wT 20 func100 λE hE=>?_;obtain⟨r_,h0,aa⟩:=zb aa
 let Z0:List HO:=[Hh (.v 2 [2]),Hm (shM nF nF []),Hc h01 (x:=m_) h0 (loC zD m_ <| loN)];rcases zB aa with⟨c0,aa⟩|⟨c0,aa⟩
 ·obtain rfl:=za aa;exact yEx X0 hC hE (Z0++[Hq c0,Hm (shM nF nF [])]) (.tup [eSl 1 true nF [],I 0,I r_]) (show LeV (.tup [eSl 1 true nF [],I 0,I r_]) (.tup [eSl 1 false nF ([]:List Int),I 0,I r_]) from inferInstance)
 ·refine yJ X0 hC wT [1,1,1] [] [2,3] (λz:List Int×Int=>jY z.1 z.2=some r0) (λz=>z07 z.1 z.2) [(1,.own (.box (zD m_))),(2,.own (.box (eSl 1 true nF []))),(3,.own (.box (I (-1))))] (Z0++[Hq c0,Hh (.cut 1)]) ?_ λJ1 ap=>?_
  ·rintro⟨p_,n_⟩ aa;unfold jY at aa;obtain rfl:=za aa;exact yE X0 hC hE []
  ·obtain⟨ah,h1,aa⟩:=zb aa;obtain⟨t2,ht2,aa⟩:=zb aa;refine yAt X0 hC (sub [1,1,1,2,1,0] wT) (frs [1,1,1,2,1,0] [J1] wT []) [(2,.own (.box (eSl 1 true nF []))),(3,.own (.box (I (-1)))),(13,.d (.fn 147 [.sptr (.agg [I ah.Inputs,I ah.Outputs,eSl 1 false yX ah.Rows])]))] [Hc h1t (x:=m_) h1 (loC zD m_ <| loN)] λst0 h0=>?_;refine z1w (g:=.tmp 13) (ps:=[14]) (assign:=(sub [1,1,1,2,1,0,0] wT)) (body:=(sub [1,1,1,2,1,0,1] wT)) (K:=147) (caps:=[.sptr (.agg [I ah.Inputs,I ah.Outputs,eSl 1 false yX ah.Rows])]) (by kernel_rfl) [2,3,13] (λs=>WI ah s.1 s.2) (λz=>nomatch z) (λz=>nomatch z) ((λ(x:List Int) (_:Bool) (_:Value)=>[F6_ x])) (F:=@qU ah) (λs x=>wR s.1 s.2 x) (([]:List Int),(-1)) t2 _ h0 inferInstance (by kernel_rfl) (by decide) (λ_=>rfl) (by rintro⟨⟩) (by kernel_rfl) (λ_ _ _=>rfl) (z2c hC h0r h0a ah) ht2 ?_ ?_
   ·rintro lp ⟨ip,cj⟩ cg vr ar ae;replace ae:wR ip cj cg=some ar:=ae;unfold wR at ae;refine yF X0 hC .normal [(2,.own (.box (eSl 1 false nF ip))),(3,.own (.box (I cj))),(6,.d (eSl 1 false nF cg)),(13,.d (.fn 147 [.sptr (.agg [I ah.Inputs,I ah.Outputs,eSl 1 false yX ah.Rows])]))] [] λst0 h0=>⟨rfl,z9l h0 ?_⟩;obtain rfl:=za ae;exact yF X0 hC .normal (WI ah cg (w64 (cj+1))) [] λst0 h0=>⟨rfl,_,h0,LeL.refl _⟩
   ·rcases t2 with⟨ip,cj⟩|z
    ·dsimp only at aa;exact WF (by kernel_rfl) (ap _ [(2,.own (.box (eSl 1 false nF ip))),(3,.own (.box (I cj)))] (ip,cj) aa (show Own.canon [2,3] _=ofL _ by kernel_rfl) inferInstance)
    ·cases z
def Zm:Code:=(f101.body).getD .skip
def kP:zI:=spF (α:=List Int) (ρ:=Int) 101 (λx=>[F6_ x]) (λr=>nF r) (λx=>ud x) [] (WJ)
abbrev Jr (m_:Int):List (Nat×T):=[(3,.d (I m_))]
abbrev Jq (x_:List Int)(jy:Int)(i_:Int):List (Nat×T):=[(0,.d (eSl 1 false nF x_)),(3,.d (I jy)),(4,.d (I i_))]
theorem z0B (hC:zy prog ctr):kP.Ok prog:=by
 refine zx ?_;rintro x_ r0 aa;try unfold ud at aa;refine yO true [(2,none)] Zm 25 func101 λE hE=>?_;rcases zB aa with⟨c0,aa⟩|⟨c0,aa⟩
 ·cases aa
 ·obtain⟨ke,h0,aa⟩:=zb aa;refine yJ X0 hC Zm [1,1,1] [] [3] (λz:Int=>uc z=some r0) (λz=>Jr z) [(0,.d (eSl 1 false nF x_)),(3,.d (I ke))] [Ha (lnM nF x_),Hq c0,Hi nF h0,Hh (.cut 0)] ?_ λJ1 ap=>?_
  ·rintro m_ aa;unfold uc at aa;obtain rfl:=za aa;exact yE X0 hC hE []
  ·obtain⟨t2,ht2,aa⟩:=zb aa;refine yL X0 hC Zm [1,1,1,2,1,0] [J1] (λs=>wD x_ s.1 s.2) (λx=>Jq x_ x.1 x.2) (ke,1) ht2  [] ?_;rintro⟨jy,i_⟩ m2 ar ae hl1 J2 av;try unfold wD at ae;rcases zB ae with⟨c1,ae⟩|⟨c1,ae⟩
   ·obtain⟨kc,h1,ae⟩:=zb ae;obtain rfl:=za ae;exact yB X0 hC av ((mx jy kc),w64 (i_+1)) hl1 [Ha (lnM nF x_),Hq c1,Hi nF h1]
   ·obtain rfl:=za ae;obtain rfl:=hl1;exact yB X0 hC ap jy aa [Ha (lnM nF x_),Hq c1]
def z0J:Code:=(f99.body).getD .skip
def ZO:zI:=spF (α:=z6) (ρ:=Bool) 99 (λx=>[z3l x]) (λr=>eB r) (λx=>Zy x) [] (WJ)
theorem z14 (hC:zy prog ctr)(h1u:ctr.Has YL)(h1v:ctr.Has kP):ZO.Ok prog:=by refine zx ?_;rintro x0 r0 aa;try unfold Zy at aa;refine yO true [(1,none)] z0J 17 func99 λE hE=>?_;obtain⟨r_,h0,aa⟩:=zb aa;obtain⟨ah,h1,aa⟩:=zb aa;obtain rfl:=za aa;exact yE X0 hC hE [Hc h1u (x:=x0) h0 (loC zD x0 <| loN),Hc h1v (x:=r_.1) h1 (loC F6_ r_.1 <| loN),Ha (lnM nF r_.1)]
def UC:Code:=(f36.body).getD .skip
def vA:zI:=spF (α:=z6) (ρ:=Int) 36 (λx=>[zD x]) (λr=>nF r) (λx=>w9 x) [] (WJ)
abbrev Kp:List (Nat×T):=[]
theorem z2d (hC:zy prog ctr)(h01:ctr.Has xM)(h1w:ctr.Has YQ)(h1x:ctr.Has ZQ)(h1y:ctr.Has ZP)(h1z:ctr.Has ZO):vA.Ok prog:=by
 refine zx ?_;rintro m_ r0 aa;try unfold w9 at aa;refine yO true [(2,none)] UC 23 func36 λE hE=>?_;obtain⟨r_,h0,aa⟩:=zb aa
 let Z0:List HO:=[Hc h01 (x:=m_) h0 (loC zD m_ <| loN)];rcases zB aa with⟨c0,aa⟩|⟨c0,aa⟩
 ·obtain rfl:=za aa;exact yE X0 hC hE (Z0++[Hq c0])
 ·refine yJ X0 hC UC [1,1] [] [] (λz:Unit=>qC=some r0) (λz=>Kp) [(1,.own (.box (zD m_)))] (Z0++[Hq c0,Hh (.cut 0)]) ?_ λJ1 ap=>?_
  ·rintro⟨⟩ aa;unfold qC at aa;obtain rfl:=za aa;exact yE X0 hC hE []
  ·obtain⟨ah,h1,aa⟩:=zb aa;obtain⟨al,h2,aa⟩:=zb aa;let Z1:List HO:=[Hc h1w (x:=m_) h1 (loC zD m_ <| loN),Hh (.u 70),qT,Hc h1x (x:=ah.1.2) h2 (loC z3l ah.1.2 <| loN)];rcases zB aa with⟨c1,aa⟩|⟨c1,aa⟩
   ·obtain rfl:=za aa;exact yE X0 hC hE (Z1++[Hq c1])
   ·obtain⟨ax,h3,aa⟩:=zb aa;let Z2:List HO:=(Z1++[Hq c1,qT,Hc h1y (x:=ah.2.1.2) h3 (loC z3l ah.2.1.2 <| loN)]);rcases zB aa with⟨c2,aa⟩|⟨c2,aa⟩
    ·obtain rfl:=za aa;exact yE X0 hC hE (Z2++[Hq c2])
    ·obtain⟨bm,h4,aa⟩:=zb aa;let Z3:List HO:=(Z2++[Hq c2,qT,Hc h1z (x:=ah.2.2.2) h4 (loC z3l ah.2.2.2 <| loN)]);rcases zB aa with⟨c3,aa⟩|⟨c3,aa⟩
     ·obtain rfl:=za aa;exact yE X0 hC hE (Z3++[Hq c3])
     ·exact yB X0 hC ap () aa (Z3++[Hq c3,qF])
def z6Q:Code:=(f51.body).getD .skip
def vB:zI:=spF (α:=Int) (ρ:=Int) 51 (λx=>[nF x]) (λr=>(z0I 80 (eSp nF)) r) (λx=>uo x) [] (WJ)
theorem z7w (hC:zy prog ctr):vB.Ok prog:=by refine zx ?_;rintro n_ r0 aa;try unfold uo at aa;refine yO true [(2,none)] z6Q 4 func51 λE hE=>?_;obtain rfl:=za aa;exact yE X0 hC hE []
def ZL:Code:=(f80.body).getD .skip
abbrev z0X (x0:Int)(YY:σ->z8g)(x6:Int)(fz:σ):List (Nat×T):=[(0,.own (.opq (YY fz).q)),(1,.d (.sptr (I x0))),(5,.d (I x0)),(6,.d (I x6))]
abbrev z0V (x0:Int)(YY:σ->z8g)(x6:Int)(de:σ)(b_:Int):List (Nat×T):=[(0,.own (.opq (YY de).q)),(1,.d (.sptr (I x0))),(3,.d (I x6)),(4,.d (I b_)),(5,.d (I x0)),(6,.d (I x6))]
abbrev z0W (x0:Int)(YY:σ->z8g)(ce:σ)(x6:Int):List (Nat×T):=[(0,.own (.opq (YY ce).q)),(1,.d (.sptr (I x0))),(5,.d (I x0)),(6,.d (I x6))]
theorem Y6 (hC:zy prog ctr)(x0:Int):zbR prog (.fn 80 [.sptr (I x0)]) (λ(x:Int×Int) (_:Bool) (_:Value)=>[nF x.1,nF x.2]) (@yV x0):=by
 refine z90 (tt:=yp) (nt:=22) (body:=ZL) zq func80 rfl (by kernel_rfl) rfl rfl (by show(2:Nat)<=22;decide) ?_;intro σ yv YY yy hy sg r0 aa E hE;unfold yV at aa;obtain⟨t1,ht1,aa⟩:=zb aa;refine yL X0 hC ZL [1,0] [] (λs=>ZG x0 yy s.1 s.2) (λx=>z0W x0 YY x.1 x.2) (sg,0) ht1  [] ?_;rintro⟨ce,x6⟩ m1 ar ae hl1 J1 ap;try unfold ZG at ae;rcases zB ae with⟨c0,ae⟩|⟨c0,ae⟩
 ·refine yJ X0 hC ZL [1,0,0,1,1] [J1] [0,1,5,6] (λz:σ=>ZH x6 z=some ar) (λz=>z0X x0 YY x6 z) [(0,.own (.opq (YY ce).q)),(1,.d (.sptr (I x0))),(5,.d (I x0)),(6,.d (I x6))] [Hq c0,Hh (.cut 0)] ?_ λJ2 av=>?_
  ·rintro fz ae;unfold ZH at ae;obtain rfl:=za ae;exact yB X0 hC ap (fz,w64 (x6+1)) hl1 []
  ·obtain⟨t3,ht3,ae⟩:=zb ae;refine yL X0 hC ZL [1,0,0,1,1,2,0,1,1,0] [J1,J2] (λs=>qj x0 yy x6 s.1 s.2) (λx=>z0V x0 YY x6 x.1 x.2) (ce,w64 (x6+1)) ht3  [] ?_;rintro⟨de,b_⟩ m3 ck aj hl2 J3 ba;try unfold qj at aj;rcases zB aj with⟨c1,aj⟩|⟨c1,aj⟩
   ·obtain⟨yr,h0,aj⟩:=zb aj;let Z0:List HO:=[Hq c1,Hn (z8D (yv:=yv) (Y:=YY) (enc:=(λ(x:Int×Int) (_:Bool) (_:Value)=>[nF x.1,nF x.2])) (s:=de) (x:=(x6,b_)) (s':=yr.1) (b:=yr.2) (v:=.nilFunc) [nF x6,nF b_] (show z0Y [nF x6,nF b_] [nF x6,nF b_] from inferInstance))];rcases zB aj with⟨c2,aj⟩|⟨c2,aj⟩
    ·obtain rfl:=za aj;obtain rfl:=hl2;obtain rfl:=za ae;obtain rfl:=hl1;obtain rfl:=za aa;exact yF ((z28 (P:=prog) yp hy 19 (s:=de) (x:=(x6,b_)) (s':=yr.1) (b:=yr.2) .nilFunc h0).or X0) hC .ret [(0,.own (.opq (YY yr.1).q))] (Z0++[Hq c2]) λst0 h0=>hE _ st0 (.inr rfl) h0
    ·obtain rfl:=za aj;exact yB ((z28 (P:=prog) yp hy 19 (s:=de) (x:=(x6,b_)) (s':=yr.1) (b:=yr.2) .nilFunc h0).or X0) hC ba (yr.1,w64 (b_+1)) hl2 (Z0++[Hq c2])
   ·obtain rfl:=za aj;obtain rfl:=hl2;exact yB X0 hC av de ae [Hq c1]
 ·obtain rfl:=za ae;obtain rfl:=hl1;obtain rfl:=za aa;exact yF X0 hC .normal [(0,.own (.opq (YY ce).q))] [Hq c0] λst0 h0=>hE _ st0 (.inl rfl) h0
def z6S:Code:=(f38.body).getD .skip
def VU:zI:=spF (α:=Int×Int) (ρ:=Bool) 38 (λx=>[nF x.1,nF x.2]) (λr=>eB r) (λx=>Qp x.1 x.2) [] (Vk)
theorem z7z (hC:zy prog ctr):VU.Ok prog:=by refine zx ?_;rintro⟨a_,b_⟩ r0 aa;try unfold Qp at aa;refine yO true [(4,none)] z6S 5 func38 λE hE=>?_;obtain rfl:=za aa;exact yE X0 hC hE []
def z3N:Code:=(f131.body).getD .skip
def uP:zI:=spF (α:=Int×z6) (ρ:=Bool) 131 (λx=>[nF x.1,z3l x.2]) (λr=>eB r) (λx=>ZU x.1 x.2) [] (Vk)
theorem z4O (hC:zy prog ctr):uP.Ok prog:=by
 refine zx ?_;rintro⟨s_,x1⟩ r0 aa;try unfold ZU at aa;refine yO true [(3,none)] z3N 13 func131 λE hE=>?_;rcases zB aa with⟨c0,aa⟩|⟨c0,aa⟩
 ·obtain rfl:=za aa;exact yE X0 hC hE (rpN 6 (Hq c0) [])
 ·obtain rfl:=za aa;exact yE X0 hC hE (rpN 4 (Hq c0) [Ha (lnM yX x1.Rows),Hq c0,Hq c0])
def wr:Code:=(f149.body).getD .skip
def uQ:zI:=spF (α:=List Int×z6) (ρ:=Int) 149 (λx=>[F6_ x.1,(z0I 131 z3l) x.2]) (λr=>nF r) (λx=>yH x.1 x.2) [] (by rintro⟨a0,a1⟩ ⟨b0,b1⟩ h;have e0:=YD.inj (f:=F6_) _ _ (List.cons.inj h).1;replace h:=(List.cons.inj h).2;have e1:=YD.inj (f:=(z0I 131 z3l)) _ _ (List.cons.inj h).1;subst e0 e1;rfl)
abbrev YH:List (Nat×T):=[]
abbrev YG (s_:List Int)(f_:z6)(x8:Int):List (Nat×T):=[(0,.d (eSl 1 false nF s_)),(1,.d (.fn 131 [.sptr (.agg [I f_.Inputs,I f_.Outputs,eSl 1 false yX f_.Rows])])),(7,.d (I ((s_.length:Nat):Int))),(8,.d (I x8))]
theorem Wk (hC:zy prog ctr)(h0b:ctr.Has uP):uQ.Ok prog:=by
 refine zx ?_;rintro⟨s_,f_⟩ r0 aa;try unfold yH at aa;refine yO true [(4,none)] wr 19 func149 λE hE=>?_;refine yJ X0 hC wr [1] [] [] (λz:Unit=>wo=some r0) (λz=>YH) [(0,.d (eSl 1 false nF s_)),(1,.d (.fn 131 [.sptr (.agg [I f_.Inputs,I f_.Outputs,eSl 1 false yX f_.Rows])]))] [Hh (.cut 1)] ?_ λJ1 ap=>?_
 ·rintro⟨⟩ aa;unfold wo at aa;obtain rfl:=za aa;exact yE X0 hC hE []
 ·obtain⟨t2,ht2,aa⟩:=zb aa;refine yL X0 hC wr [1,2,1,0] [J1] (λs=>y5 s_ f_ s) (λx=>YG s_ f_ x) 0 ht2  [Ha (lnM nF s_)] ?_;rintro x8 m2 ar ae hl1 J2 av;try unfold y5 at ae;rcases zB ae with⟨c0,ae⟩|⟨c0,ae⟩
  ·obtain⟨da,h0,ae⟩:=zb ae;obtain⟨r_,h1,ae⟩:=zb ae;let Z0:List HO:=[Hq c0,Hi nF h0,Hc h0b (x:=(da,f_)) h1 (loC nF da <| loC z3l f_ <| loN)];rcases zB ae with⟨c1,ae⟩|⟨c1,ae⟩
   ·obtain rfl:=za ae;obtain rfl:=hl1;obtain rfl:=za aa;exact yE X0 hC hE (Z0++[Hq c1])
   ·obtain rfl:=za ae;exact yB X0 hC av (w64 (x8+1)) hl1 (Z0++[Hq c1])
  ·obtain rfl:=za ae;obtain rfl:=hl1;exact yB X0 hC ap () aa [Hq c0]
def YF:Code:=(f130.body).getD .skip
def vT:zI:=spF (α:=List Int×z6) (ρ:=Bool) 130 (λx=>[F6_ x.1,(z0I 131 z3l) x.2]) (λr=>eB r) (λx=>yZ x.1 x.2) [] (by rintro⟨a0,a1⟩ ⟨b0,b1⟩ h;have e0:=YD.inj (f:=F6_) _ _ (List.cons.inj h).1;replace h:=(List.cons.inj h).2;have e1:=YD.inj (f:=(z0I 131 z3l)) _ _ (List.cons.inj h).1;subst e0 e1;rfl)
theorem u9 (hC:zy prog ctr)(h0b:ctr.Has uP):vT.Ok prog:=by refine zx ?_;rintro⟨s_,f_⟩ r0 aa;try unfold yZ at aa;refine yO true [(4,none)] YF 9 func130 λE hE=>?_;obtain⟨r_,h0,aa⟩:=zb aa;obtain rfl:=za aa;exact yE ((z3n zq (Wk hC h0b) 7).or X0) hC hE [Hc (Ctr.add_has Jn uQ) (x:=(s_,f_)) h0 (loC F6_ s_ <| loC (z0I 131 z3l) f_ <| loN)]
def z6I:Code:=(f102.body).getD .skip
def VE:zI:=spF (α:=z6×List Int) (ρ:=Int) 102 (λx=>[zD x.1,F6_ x.2]) (λr=>nF r) (λx=>Wm x.1 x.2) [] (Vk)
theorem z7h (hC:zy prog ctr)(h01:ctr.Has xM)(h0b:ctr.Has uP):VE.Ok prog:=by
 refine zx ?_;rintro⟨m_,l_⟩ r0 aa;try unfold Wm at aa;refine yO true [(4,none)] z6I 14 func102 λE hE=>?_;obtain⟨r_,h0,aa⟩:=zb aa
 let Z0:List HO:=[Hc h01 (x:=m_) h0 (loC zD m_ <| loN)];rcases zB aa with⟨c0,aa⟩|⟨c0,aa⟩
 ·obtain rfl:=za aa;exact yE X0 hC hE (Z0++[Hq c0])
 ·obtain⟨ah,h1,aa⟩:=zb aa;let Z1:List HO:=(Z0++[Hq c0,Hc (Ctr.add_has Jn vT) (x:=(l_,m_)) h1 (loC F6_ l_ <| loC (z0I 131 z3l) m_ <| loN)]);rcases zB aa with⟨c1,aa⟩|⟨c1,aa⟩
  ·obtain rfl:=za aa;exact yE ((z3n zq (u9 hC h0b) 13).or X0) hC hE (Z1++[Hq c1])
  ·obtain rfl:=za aa;exact yE ((z3n zq (u9 hC h0b) 13).or X0) hC hE (Z1++[Hq c1])
def z6J:Code:=(f132.body).getD .skip
def VF:zI:=spF (α:=z6) (ρ:=z6) 132 (λx=>[zD x]) (λr=>(z0I 150 z3l) r) (λx=>Qb x) [] (WJ)
theorem z7i (hC:zy prog ctr):VF.Ok prog:=by refine zx ?_;rintro m_ r0 aa;try unfold Qb at aa;refine yO true [(2,none)] z6J 4 func132 λE hE=>?_;obtain rfl:=za aa;exact yE X0 hC hE []
def ZK:Code:=(f150.body).getD .skip
abbrev z0Q (x0:z6)(YY:σ->z8g)(x8:Int)(fz:σ):List (Nat×T):=[(0,.own (.opq (YY fz).q)),(1,.d (.sptr (zD x0))),(7,.d (I ((x0.Rows.length:Nat):Int))),(8,.d (I x8))]
abbrev z0O (x0:z6)(YY:σ->z8g)(x8:Int)(de:σ)(t_:Int):List (Nat×T):=[(0,.own (.opq (YY de).q)),(1,.d (.sptr (zD x0))),(3,.d (I x8)),(4,.d (I t_)),(7,.d (I ((x0.Rows.length:Nat):Int))),(8,.d (I x8))]
abbrev z0P (x0:z6)(YY:σ->z8g)(ce:σ)(x8:Int):List (Nat×T):=[(0,.own (.opq (YY ce).q)),(1,.d (.sptr (zD x0))),(7,.d (I ((x0.Rows.length:Nat):Int))),(8,.d (I x8))]
theorem z4P (hC:zy prog ctr)(x0:z6):zbR prog (.fn 150 [.sptr (.agg [I x0.Inputs,I x0.Outputs,eSl 1 false yX x0.Rows])]) (λ(x:Int×Int) (_:Bool) (_:Value)=>[nF x.1,nF x.2]) (@uw x0):=by
 refine z90 (tt:=yp) (nt:=26) (body:=ZK) zq func150 rfl (by kernel_rfl) rfl rfl (by show(2:Nat)<=26;decide) ?_;intro σ yv YY yy hy sg r0 aa E hE;unfold uw at aa;obtain⟨t1,ht1,aa⟩:=zb aa;refine yL X0 hC ZK [1,0] [] (λs=>Zq x0 yy s.1 s.2) (λx=>z0P x0 YY x.1 x.2) (sg,0) ht1  [Ha (lnM yX x0.Rows)] ?_;rintro⟨ce,x8⟩ m1 ar ae hl1 J1 ap;try unfold Zq at ae;rcases zB ae with⟨c0,ae⟩|⟨c0,ae⟩
 ·refine yJ X0 hC ZK [1,0,0,1,1] [J1] [0,1,7,8] (λz:σ=>Zr x8 z=some ar) (λz=>z0Q x0 YY x8 z) [(0,.own (.opq (YY ce).q)),(1,.d (.sptr (zD x0))),(7,.d (I ((x0.Rows.length:Nat):Int))),(8,.d (I x8))] [Hq c0,Hh (.cut 0)] ?_ λJ2 av=>?_
  ·rintro fz ae;unfold Zr at ae;obtain rfl:=za ae;exact yB X0 hC ap (fz,w64 (x8+1)) hl1 []
  ·obtain⟨t3,ht3,ae⟩:=zb ae;refine yL X0 hC ZK [1,0,0,1,1,2,0,1,1,0] [J1,J2] (λs=>uM x0 yy x8 s.1 s.2) (λx=>z0O x0 YY x8 x.1 x.2) (ce,w64 (x8+1)) ht3  [] ?_;rintro⟨de,t_⟩ m3 ck aj hl2 J3 ba;try unfold uM at aj
   let Z0:List HO:=[Ha (lnM yX x0.Rows)];rcases zB aj with⟨c1,aj⟩|⟨c1,aj⟩
   ·obtain⟨yr,h0,aj⟩:=zb aj;let Z1:List HO:=(Z0++[Hq c1,Hn (z8D (yv:=yv) (Y:=YY) (enc:=(λ(x:Int×Int) (_:Bool) (_:Value)=>[nF x.1,nF x.2])) (s:=de) (x:=(x8,t_)) (s':=yr.1) (b:=yr.2) (v:=.nilFunc) [nF x8,nF t_] (show z0Y [nF x8,nF t_] [nF x8,nF t_] from inferInstance))]);rcases zB aj with⟨c2,aj⟩|⟨c2,aj⟩
    ·obtain rfl:=za aj;obtain rfl:=hl2;obtain rfl:=za ae;obtain rfl:=hl1;obtain rfl:=za aa;exact yF ((z28 (P:=prog) yp hy 23 (s:=de) (x:=(x8,t_)) (s':=yr.1) (b:=yr.2) .nilFunc h0).or X0) hC .ret [(0,.own (.opq (YY yr.1).q))] (Z1++[Hq c2]) λst0 h0=>hE _ st0 (.inr rfl) h0
    ·obtain rfl:=za aj;exact yB ((z28 (P:=prog) yp hy 23 (s:=de) (x:=(x8,t_)) (s':=yr.1) (b:=yr.2) .nilFunc h0).or X0) hC ba (yr.1,w64 (t_+1)) hl2 (Z1++[Hq c2])
   ·obtain rfl:=za aj;obtain rfl:=hl2;exact yB X0 hC av de ae (Z0++[Hq c1])
 ·obtain rfl:=za ae;obtain rfl:=hl1;obtain rfl:=za aa;exact yF X0 hC .normal [(0,.own (.opq (YY ce).q))] [Hq c0] λst0 h0=>hE _ st0 (.inl rfl) h0
def xh:zI:=spR (α:=List Int×Int) (ρ:=List Int) 168 (λx:List Int×Int=>[F2_ x.1,nF x.2]) (λr:List Int=>F5_ r) (λx:List Int×Int=>xV x.1 x.2) [] (Vk)
theorem UW:∀x r,(λx:List Int×Int=>xV x.1 x.2) x=some r->(Jn.add xh).run 168 ((Jn.add xh).norm 168 ((λx:List Int×Int=>[F2_ x.1,nF x.2]) x))=some ((λr:List Int=>F5_ r) r):=λx r h=>zmE (F:=λx:List Int×Int=>xV x.1 x.2) (x:=x) h rfl
theorem UZ:(Jn.add xh).lend 168=none/\(Jn.add xh).gives 168=[]:=zf6
theorem Qt (hC:zy prog ctr):xh.Ok prog:=by
 refine z9S ?_;rintro⟨l,n⟩ r0 aa;cases l with
 | cons a l=>cases aa
 | nil=>
  have h1:0<n/\n<=1000000:=by
   have h2:(decide (0<n)&&decide (n<=1000000))=true:=by
    cases h:(decide (0<n)&&decide (n<=1000000)) with
    | true=>rfl
    | false=>have h3:(bif (true&&(decide (0<n)&&decide (n<=1000000))) then some [] else none)=some r0:=aa;rw[h]at h3;cases h3
   simpa using h2
  have h3:(bif (true&&(decide (0<n)&&decide (n<=1000000))) then some ([]:List Int) else none)=some r0:=aa;rw[decide_eq_true h1.1,decide_eq_true h1.2]at h3;cases h3;exact zf7 n h1.1 h1.2
def xP:Code:=(f151.body).getD .skip
def wL:zI:=spF (α:=List (List Int)) (ρ:=List Int) 151 (λx=>[xy x]) (λr=>F5_ r) (λx=>wF x) [] (WJ)
abbrev UG (ib:List Int):List (Nat×T):=[(6,.own (eOs 1 false nF ib))]
abbrev UF (slices:List (List Int))(dg:List Int)(jz:Int):List (Nat×T):=[(6,.own (eOs 1 false nF dg)),(25,.d (eSl 1 false F6_ slices)),(26,.d (I ((slices.length:Nat):Int))),(27,.d (I jz))]
abbrev UH (slices:List (List Int))(size:Int):List (Nat×T):=[(0,.d (eSl 1 false F6_ slices)),(3,.d (I size))]
abbrev UE (slices:List (List Int))(gq:Int)(ez:Int):List (Nat×T):=[(0,.d (eSl 1 false F6_ slices)),(3,.d (I gq)),(9,.d (eSl 1 false F6_ slices)),(10,.d (I ((slices.length:Nat):Int))),(11,.d (I ez))]
theorem Ju (hC:zy prog ctr):wL.Ok prog:=by
 refine zx ?_;rintro slices r0 aa;try unfold wF at aa;refine yO true [(2,none)] xP 36 func151 λE hE=>?_;refine yJ X0 hC xP [1,1] [] [0,3] (λz:Int=>wO slices z=some r0) (λz=>UH slices z) [(0,.d (eSl 1 false F6_ slices)),(3,.d (I 0))] [Hh (.cut 2)] ?_ λJ1 ap=>?_
 ·rintro size aa;unfold wO at aa;obtain⟨r_,h0,aa⟩:=zb aa;refine yJ ((z3n zq (Qt hC) 24).or X0) hC xP [1,1,1,1] [] [6] (λz:List Int=>wN z=some r0) (λz=>UG z) [(0,.d (eSl 1 false F6_ slices)),(6,.own (eOs 1 false nF r_))] [Hh (.g []),Hn UZ,Hx (.a (F5_ r_)) (UW ([],size) _ h0),Hh (.cut 0)] ?_ λJ2 av=>?_
  ·rintro ib aa;unfold wN at aa;obtain rfl:=za aa;exact yE X0 hC hE []
  ·obtain⟨t3,ht3,aa⟩:=zb aa;refine yL X0 hC xP [1,1,1,1,2,1,0] [J2] (λs=>zQ slices s.1 s.2) (λx=>UF slices x.1 x.2) (r_,0) ht3  [Ha (lnM F6_ slices)] ?_;rintro⟨dg,jz⟩ m3 ar ae hl1 J3 ba;try unfold zQ at ae;rcases zB ae with⟨c0,ae⟩|⟨c0,ae⟩
   ·obtain⟨gg,h1,ae⟩:=zb ae;obtain⟨g0,ae⟩:=gdE ae;obtain rfl:=za ae;exact yB X0 hC ba ((dg++gg),w64 (jz+1)) hl1 [Hq c0,Hi F6_ h1,Hn (dM nF gg),Hn (aL nF nF g0),Hl (aM nF dg gg)]
   ·obtain rfl:=za ae;obtain rfl:=hl1;exact yB X0 hC av dg aa [Hq c0]
 ·obtain⟨t4,ht4,aa⟩:=zb aa;refine yL X0 hC xP [1,1,2,1,0] [J1] (λs=>zP slices s.1 s.2) (λx=>UE slices x.1 x.2) (0,0) ht4  [Ha (lnM F6_ slices)] ?_;rintro⟨gq,ez⟩ m4 ar ae hl1 J4 bw;try unfold zP at ae;rcases zB ae with⟨c1,ae⟩|⟨c1,ae⟩
  ·obtain⟨gl,h2,ae⟩:=zb ae;let Z0:List HO:=[Hq c1,Hi F6_ h2,Ha (lnM nF gl)];rcases zB ae with⟨c2,ae⟩|⟨c2,ae⟩
   ·cases ae
   ·obtain rfl:=za ae;exact yB X0 hC bw (w64 (gq+((gl.length:Nat):Int)),w64 (ez+1)) hl1 (Z0++[Hq c2])
  ·obtain rfl:=za ae;obtain rfl:=hl1;exact yB X0 hC ap gq aa [Hq c1]
def Kh:Code:=(f58.body).getD .skip
def xz:zI:=spF (α:=List Int) (ρ:=List Int) 58 (λx=>[F6_ x]) (λr=>F2_ r) (λx=>yq x) [] (WJ)
theorem KA (hC:zy prog ctr):xz.Ok prog:=by refine zx ?_;rintro s_ r0 aa;try unfold yq at aa;refine yO true [(2,none)] Kh 9 func58 λE hE=>?_;obtain⟨g0,aa⟩:=gdE aa;obtain rfl:=za aa;exact yE X0 hC hE [Ha (lnM nF s_),Ha (lnM nF s_),Hn (slB g0),Hn (slC g0),Hn (zlZ nF g0),Ha (zr7 1 nF s_ 0 ((s_.length:Nat):Int).toNat)]
def w8:Code:=(f133.body).getD .skip
abbrev K9 (n_:Int)(f_:ArN 64 (ArN 64 (List Int)))(out:List Int):List (Nat×T):=[(0,.own (.box (xT 64 (xT 64 (eNl 1 nF)) f_))),(4,.d (I n_)),(11,.own (eOs 1 false nF out))]
abbrev K8 (m_:z6)(t_:Int)(n_:Int)(f_:ArN 64 (ArN 64 (List Int)))(am:List z8)(dj:Int):List (Nat×T):=[(0,.own (.box (xT 64 (xT 64 (eNl 1 nF)) f_))),(3,.d (I t_)),(4,.d (I n_)),(6,.own (.box (zD m_))),(11,.own (eOs 1 true nF [])),(19,.d (eSl 2 false F8_ am)),(20,.d (I ((am.length:Nat):Int))),(21,.d (I dj))]
abbrev K7 (m_:z6)(t_:Int)(n_:Int)(f_:ArN 64 (ArN 64 (List Int)))(am:List z8)(dj:Int):List (Nat×T):=[(0,.own (.box (xT 64 (xT 64 (eNl 1 nF)) f_))),(3,.d (I t_)),(4,.d (I n_)),(6,.own (.box (zD m_))),(11,.own (eOs 1 true nF [])),(19,.d (eSl 2 false F8_ am)),(20,.d (I ((am.length:Nat):Int))),(21,.d (I dj))]
theorem Vx (hC:zy prog ctr)(h0f:ctr.Has wL)(h02:ctr.Has xz)(eg:Value):∀(m_:z6) (s_:Int) (t_:Int) (n_:Int) (f_:ArN 64 (ArN 64 (List Int))) (r0:List Int×ArN 64 (ArN 64 (List Int))),uN m_ s_ t_ n_ f_=some r0->kJ prog (.fn 133 []) [.atom eg,.agg [I m_.Inputs,I m_.Outputs,eSl 1 false yX m_.Rows],I s_,I t_,I n_] ([eg].zip [.box (xT 64 (xT 64 (eNl 1 nF)) f_)]) (eNl 1 nF r0.1) [.box (xT 64 (xT 64 (eNl 1 nF)) r0.2)]:=by
 intro m_ s_ t_ n_ f_ r0 aa;refine zeW (tt:=yp) (nt:=85) (body:=w8) [0] zq func133 rfl (by kernel_rfl) rfl rfl (by show(5:Nat)<=85;decide) (by decide) rfl rfl rfl rfl (λE hG hE=>?_) rfl;unfold uN at aa;refine yA ((xRe prog 10 (.atom (.slice none 0 0)) (eNl 1 nF ([]:List Int)) (zil 1)).or ((Qs zq (.inl 76) [66]).or X0)) hC w8 [1] [] [(0,.own (.box (xT 64 (xT 64 (eNl 1 nF)) f_))),(2,.d (I s_)),(3,.d (I t_)),(4,.d (I n_)),(6,.own (.box (zD m_)))] [Hn (rfl:T.d (.atom (.slice none 0 0))=T.d (.atom (.slice none 0 0)))] ?_;refine zcW (c':=(sub [1,0] w8)) (by kernel_rfl) hG ?_;refine yJ ((Qs zq (.inl 76) [66]).or X0) hC w8 [1,0,1,1] [] [0,4,11] (λz:List Int=>uH n_ f_ z=some r0) (λz=>K9 n_ f_ z) [(0,.own (.box (xT 64 (xT 64 (eNl 1 nF)) f_))),(2,.d (I s_)),(3,.d (I t_)),(4,.d (I n_)),(6,.own (.box (zD m_))),(11,.own (eOs 1 true nF []))] [Hh (.cut 2)] ?_ λJ1 ap=>?_
 ·rintro out aa;unfold uH at aa;rcases zB aa with⟨c0,aa⟩|⟨c0,aa⟩
  ·obtain rfl:=za aa;exact yF ((xRe prog 10 (.atom (.slice none 0 0)) (eNl 1 nF ([]:List Int)) (zil 1)).or ((Qs zq (.inl 76) [66]).or X0)) hC .ret [(0,.own (.box (xT 64 (xT 64 (eNl 1 nF)) f_))),(10,.d (eNl 1 nF ([]:List Int)))] [Ha (lnM nF out),Hq c0,Hn (rfl:T.d (.atom (.slice none 0 0))=T.d (.atom (.slice none 0 0)))] λst0 h0=>hE _ st0 (.inr rfl) (z1f h0 ⟨⟨rfl,rfl⟩,trivial⟩) (zrx h0 rfl rfl)
  ·obtain⟨r_,h0,aa⟩:=zb aa;obtain⟨g0,aa⟩:=gdE aa;obtain rfl:=za aa;exact yF ((xRe prog 10 (eSl 1 true nF r_) (eNl 1 nF r_) (λS v q=>(LeA.slNl 1 true nF g0).repV q)).or ((Qs zq (.inl 76) [66]).or X0)) hC .ret [(0,.own (.box (xT 64 (xT 64 (eNl 1 nF)) f_))),(10,.d (eNl 1 nF r_))] [Ha (lnM nF out),Hq c0,Hg (z26 h02),Hm (shM nF nF out),Hs (z27 h02 (x:=out) h0 (loC F6_ out <| loN)),Hm (shM nF nF out),Hn (rfl:T.d (eSl 1 true nF r_)=T.d (eSl 1 true nF r_))] λst0 h0=>hE _ st0 (.inr rfl) (z1f h0 ⟨⟨rfl,rfl⟩,trivial⟩) (zrx h0 rfl rfl)
 ·obtain⟨am,h1,aa⟩:=zb aa;obtain⟨t2,ht2,aa⟩:=zb aa;refine yL ((Qs zq (.inl 76) [66]).or X0) hC w8 [1,0,1,1,2,1,0] [J1] (λs=>v8 m_ t_ n_ f_ am s) (λx=>K7 m_ t_ n_ f_ am x) 0 ht2  [Hi yX h1,Ha (lnM F8_ am)] ?_;rintro dj m2 ar ae hl1 J2 av;try unfold v8 at ae;rcases zB ae with⟨c1,ae⟩|⟨c1,ae⟩
  ·refine yJ ((Qs zq (.inl 76) [66]).or X0) hC w8 [1,0,1,1,2,1,0,0,1,1] [J1,J2] [0,3,4,6,11,19,20,21] (λz:Unit=>w6 dj=some ar) (λz=>K8 m_ t_ n_ f_ am dj) [(0,.own (.box (xT 64 (xT 64 (eNl 1 nF)) f_))),(3,.d (I t_)),(4,.d (I n_)),(6,.own (.box (zD m_))),(11,.own (eOs 1 true nF [])),(19,.d (eSl 2 false F8_ am)),(20,.d (I ((am.length:Nat):Int))),(21,.d (I dj))] [Hq c1,Hh (.cut 0)] ?_ λJ3 ba=>?_
   ·rintro⟨⟩ ae;unfold w6 at ae;obtain rfl:=za ae;exact yB ((Qs zq (.inl 76) [66]).or X0) hC av (w64 (dj+1)) hl1 []
   ·obtain⟨ak,h2,ae⟩:=zb ae;obtain⟨ij,h3,ae⟩:=zb ae;obtain⟨bk,h4,ae⟩:=zb ae;let Z0:List HO:=[Hi F8_ h2,Hi yX h3,Hi F8_ h4];rcases zB ae with⟨c2,ae⟩|⟨c2,ae⟩
    ·obtain rfl:=za ae;obtain rfl:=hl1;exact yBx ((Qs zq (.inl 76) [66]).or X0) hC ap ([dj]:List Int) aa [(0,.own (.box (xT 64 (xT 64 (eNl 1 nF)) f_))),(4,.d (I n_)),(11,.own (eOs 1 true nF ([dj])))] inferInstance (Z0++[Hq c2])
    ·rcases zB ae with⟨c3,ae⟩|⟨c3,ae⟩
     ·let Z1:List HO:=(Z0++(Hq c2::(rpN 4 (Hq c3) [])));rcases zB ae with⟨c4,ae⟩|⟨c4,ae⟩
      ·obtain⟨cell,h5,ae⟩:=zb ae;obtain⟨a7,h6,ae⟩:=zb ae;let Z2:List HO:=(Z1++(rpN 7 (Hq c4) (Hn (⟨Kc (by kernel_rfl) f_ (i0 h5),(iL (xT 64 (eNl 1 nF)) h5).2⟩:XC yp 154 ((f_.l).map (xT 64 (eNl 1 nF))) ak.To=true/\ak.To.toNat<((f_.l).map (xT 64 (eNl 1 nF))).length)::Hq c4::Hh (.f)::Hs (iM (xT 64 (eNl 1 nF)) h5)::Hn (⟨Kc (by kernel_rfl) cell (i0 h6),(iL (eNl 1 nF) h6).2⟩:XC yp 125 ((cell.l).map (eNl 1 nF)) bk.To=true/\bk.To.toNat<((cell.l).map (eNl 1 nF)).length)::Hq c4::Hh (.f)::Hs (iM (xT 64 (eNl 1 nF)) h5)::Hh (.f)::Hs (iM (eNl 1 nF) h6)::Hn (rfl:T.d (eNl 1 nF a7)=T.d (eNl 1 nF a7))::Hq c4::Ha (lnM nF a7)::(rpN 4 (Hq c4) []))));rcases zB ae with⟨c5,ae⟩|⟨c5,ae⟩
       ·obtain⟨d7,h7,ae⟩:=zb ae;obtain⟨ep,h8,ae⟩:=zb ae;obtain⟨ah,h9,ae⟩:=zb ae;obtain rfl:=za ae;obtain rfl:=hl1;exact yB ((xLs zq 75 (eNl 1 nF ep) (eSl 1 false nF ep) inferInstance).or ((xBl zq 66).or ((xLs zq 59 (eNl 1 nF a7) (eSl 1 false nF a7) inferInstance).or ((Qs zq (.inl 76) [66]).or X0)))) hC ap ah aa (Z2++[Hq c5,Hn (⟨Kc (by kernel_rfl) f_ (i0 h7),(iL (xT 64 (eNl 1 nF)) h7).2⟩:XC yp 154 ((f_.l).map (xT 64 (eNl 1 nF))) ak.To=true/\ak.To.toNat<((f_.l).map (xT 64 (eNl 1 nF))).length),Hh (.op 9),Hh (.f),Hs (iM (xT 64 (eNl 1 nF)) h7),Hn (⟨Kc (by kernel_rfl) d7 (i0 h8),(iL (eNl 1 nF) h8).2⟩:XC yp 125 ((d7.l).map (eNl 1 nF)) bk.To=true/\bk.To.toNat<((d7.l).map (eNl 1 nF)).length),Hh (.op 0),Hh (.f),Hs (iM (xT 64 (eNl 1 nF)) h7),Hh (.f),Hs (iM (eNl 1 nF) h8),Hn (rfl:T.d (eNl 1 nF ep)=T.d (eNl 1 nF ep)),Hm (shM nF nF ([dj])),Hg (z26 h0f),Hm (shM F6_ F6_ ([[dj],ep])),Hs (z27 h0f (x:=[[dj],ep]) h9 (loC ziH ([[dj],ep]:List (List Int)) <| loN)),Hm (shM F6_ F6_ ([[dj],ep]))])
       ·exact yB ((xLs zq 59 (eNl 1 nF a7) (eSl 1 false nF a7) inferInstance).or ((Qs zq (.inl 76) [66]).or X0)) hC ba () ae (Z2++[Hq c5])
      ·exact yB ((Qs zq (.inl 76) [66]).or X0) hC ba () ae (Z1++(rpN 14 (Hq c4) [qF]))
     ·exact yB ((Qs zq (.inl 76) [66]).or X0) hC ba () ae (Z0++(Hq c2::(rpN 4 (Hq c3) (rpN 15 qF []))))
  ·obtain rfl:=za ae;obtain rfl:=hl1;exact yBx ((Qs zq (.inl 76) [66]).or X0) hC ap ([]:List Int) aa [(0,.own (.box (xT 64 (xT 64 (eNl 1 nF)) f_))),(4,.d (I n_)),(11,.own (eOs 1 true nF []))] inferInstance [Hq c1]
def z1s:Code:=(f134.body).getD .skip
theorem z2b (hC:zy prog ctr)(eg:Value):∀(s_:Int) (t_:Int) (w_:List Int) (f_:ArN 64 (ArN 64 (List Int))) (r0:ArN 64 (ArN 64 (List Int))),qP s_ t_ w_ f_=some r0->kJ prog (.fn 134 []) [.atom eg,I s_,I t_,eNl 1 nF w_] ([eg].zip [.box (xT 64 (xT 64 (eNl 1 nF)) f_)]) (.tup []) [.box (xT 64 (xT 64 (eNl 1 nF)) r0)]:=by intro s_ t_ w_ f_ r0 aa;refine zcC (tt:=yp) (nt:=22) (body:=z1s) [0] zq func134 rfl (by kernel_rfl) rfl rfl (by show(4:Nat)<=22;decide) (by decide) rfl rfl (λE hE=>?_) rfl;unfold qP at aa;refine zkB 0 (v:=eg) ⟨_,rfl⟩ (by kernel_rfl) λb0 hb0=>?_;subst hb0;obtain⟨cell,h0,aa⟩:=zb aa;obtain⟨a7,h1,aa⟩:=zb aa;obtain⟨arr,h2,aa⟩:=zb aa;replace h2:=za h2;obtain⟨arr1,h3,aa⟩:=zb aa;replace h3:=za h3;obtain⟨d7,h4,aa⟩:=zb aa;obtain⟨ep,h5,aa⟩:=zb aa;obtain⟨arr2,h6,aa⟩:=zb aa;replace h6:=za h6;obtain⟨kg,h7,aa⟩:=zb aa;replace h7:=za h7;obtain rfl:=za aa;exact yF ((xIr zq 21 0 t_.toNat b0).or ((xRi zq 20 64 64 b0).or ((xNr prog 19 b0).or ((xMv prog 11 0 (z6e b0) rfl).or X0)))) hC .normal [(0,.own (.box (xT 64 (xT 64 (eNl 1 nF)) kg)))] [Hn (rfl:some (z6e b0)=some (z6e b0)),Hn (⟨Kc (by kernel_rfl) f_ (i0 h0),(iL (xT 64 (eNl 1 nF)) h0).2⟩:XC yp 154 ((f_.l).map (xT 64 (eNl 1 nF))) s_=true/\s_.toNat<((f_.l).map (xT 64 (eNl 1 nF))).length),Hh (.op 10),Hh (.f),Hs (iM (xT 64 (eNl 1 nF)) h0),Hn (⟨Kc (by kernel_rfl) cell (i0 h1),(iL (eNl 1 nF) h1).2⟩:XC yp 125 ((cell.l).map (eNl 1 nF)) t_=true/\t_.toNat<((cell.l).map (eNl 1 nF)).length),Hh (.op 0),Hh (.f),Hs (iM (xT 64 (eNl 1 nF)) h0),Hh (.f),Hs (iM (eNl 1 nF) h1),Hh (.f),Hs (iM (xT 64 (eNl 1 nF)) h0),Hh (.f),Hs (iM (eNl 1 nF) h1),Hx (.l ((arr.l).map (eNl 1 nF))) ((ArN.setL (eNl 1 nF) cell t_ w_).trans (congrArg (λq=>(ArN.l q).map (eNl 1 nF)) h2)),Hx (.l ((arr1.l).map (xT 64 (eNl 1 nF)))) ((ArN.setL (xT 64 (eNl 1 nF)) f_ s_ arr).trans (congrArg (λq=>(ArN.l q).map (xT 64 (eNl 1 nF))) h3)),Hn (rfl:T.d (.atom (z6e b0))=T.d (.atom (z6e b0))),Hn (⟨rfl,i0 h4,ziF (x:=arr1) h4⟩:T.d (.atom (z6e b0))=T.d (.atom (z6e b0))/\0<=t_/\t_.toNat<64),Hn (⟨⟨congrArg (λk=>T.d (.atom (.pointer (some ⟨b0,k,none⟩)))) (zkD (f:=(xT 64 (eNl 1 nF))) arr1 h4).symm,(iL (xT 64 (eNl 1 nF)) h4).2⟩,rfl⟩:(T.d (.atom (.pointer (some ⟨b0,t_.toNat*64,none⟩)))=T.d (.atom (.pointer (some ⟨b0,A.sizes (((arr1.l).map (xT 64 (eNl 1 nF))).take t_.toNat),none⟩)))/\t_.toNat<((arr1.l).map (xT 64 (eNl 1 nF))).length)/\some (z6e b0)=some (z6e b0)),Hh (.op 2),Hh (.f),Hs (iM (xT 64 (eNl 1 nF)) h4),Hn (⟨Kc (by kernel_rfl) d7 (i0 h5),(iL (eNl 1 nF) h5).2⟩:XC yp 125 ((d7.l).map (eNl 1 nF)) s_=true/\s_.toNat<((d7.l).map (eNl 1 nF)).length),Hh (.op 0),Hh (.f),Hs (iM (xT 64 (eNl 1 nF)) h4),Hh (.f),Hs (iM (eNl 1 nF) h5),Hh (.f),Hs (iM (xT 64 (eNl 1 nF)) h4),Hh (.f),Hs (iM (eNl 1 nF) h5),Hx (.l ((arr2.l).map (eNl 1 nF))) ((ArN.setL (eNl 1 nF) d7 s_ w_).trans (congrArg (λq=>(ArN.l q).map (eNl 1 nF)) h6)),Hx (.l ((kg.l).map (xT 64 (eNl 1 nF)))) ((ArN.setL (xT 64 (eNl 1 nF)) arr1 t_ arr2).trans (congrArg (λq=>(ArN.l q).map (xT 64 (eNl 1 nF))) h7))] λst0 h0=>hE _ st0 (.inl rfl) (z1f h0 ⟨⟨rfl,rfl⟩,trivial⟩)
def yd:Code:=(f104.body).getD .skip
def Yo:zI:=spF (α:=z6) (ρ:=ArN 64 (ArN 64 (List Int))) 104 (λx=>[zD x]) (λr=>(eBx (xT 64 (xT 64 (eNl 1 nF)))) r) (λx=>qO x) [] (WJ)
abbrev Kn (f_:ArN 64 (ArN 64 (List Int))):List (Nat×T):=[(3,.own (.box (.box (xT 64 (xT 64 (eNl 1 nF)) f_))))]
abbrev Km (m_:z6)(n_:Int)(kp:ArN 64 (ArN 64 (List Int))):List (Nat×T):=[(1,.own (.box (zD m_))),(3,.own (.box (.box (xT 64 (xT 64 (eNl 1 nF)) kp)))),(4,.own (.box (I n_)))]
abbrev Kj (m_:z6)(n_:Int)(now:List zJ)(i8:ArN 64 (ArN 64 (List Int)))(j4:Int):List (Nat×T):=[(1,.own (.box (zD m_))),(3,.own (.box (.box (xT 64 (xT 64 (eNl 1 nF)) i8)))),(4,.own (.box (I n_))),(48,.d (eSl 4 false (zW nF nF (eNl 1 nF) eB) now)),(49,.d (I ((now.length:Nat):Int))),(50,.d (I j4))]
abbrev Kl (m_:z6)(n_:Int)(kq:ArN 64 (ArN 64 (List Int)))(now:List zJ):List (Nat×T):=[(1,.own (.box (zD m_))),(3,.own (.box (.box (xT 64 (xT 64 (eNl 1 nF)) kq)))),(4,.own (.box (I n_))),(5,.own (.box (eOs 4 false (zW nF nF (eNl 1 nF) eB) now)))]
abbrev vS (m_:z6)(n_:Int)(ah:z6)(ee:ArN 64 (ArN 64 (List Int)))(dt:List zJ):List (Nat×T):=[(1,.own (.box (zD m_))),(3,.own (.box (.box (xT 64 (xT 64 (eNl 1 nF)) ee)))),(4,.own (.box (I n_))),(5,.own (.box (eOs 4 false (zW nF nF (eNl 1 nF) eB) dt))),(22,.d (.fn 150 [.sptr (.agg [I ah.Inputs,I ah.Outputs,eSl 1 false yX ah.Rows])]))]
abbrev Kk (m_:z6)(iq:ArN 64 (ArN 64 (List Int)))(n_:Int):List (Nat×T):=[(1,.own (.box (zD m_))),(3,.own (.box (.box (xT 64 (xT 64 (eNl 1 nF)) iq)))),(4,.own (.box (I n_)))]
theorem z2a (hC:zy prog ctr)(h1A:ctr.Has VF)(h0f:ctr.Has wL)(h02:ctr.Has xz):Yo.Ok prog:=by
 refine zx ?_;rintro m_ r0 aa;try unfold qO at aa;refine z2D (tt:=yp) (rs:=[(true,2,none)]) (n:=⟨65,[]⟩) (body:=yd) zq func104 rfl (by kernel_rfl) rfl rfl (by show(1:Nat)<=65;decide) λE hE=>?_
 refine yJ X0 hC yd [1,1] [] [3] (λz:ArN 64 (ArN 64 (List Int))=>qB z=some r0) (λz=>Kn z) [(1,.own (.box (zD m_))),(3,.own (.box (.box (xT 64 (xT 64 (eNl 1 nF)) (ArN.rep 64 (ArN.rep 64 ([]:List Int)))))))] [Hh (.cut 2)] ?_ λJ1 ap=>?_
 ·rintro f_ aa;unfold qB at aa;obtain rfl:=za aa;let ZE:List HO:=[];exact V5 X0 zq hC ZM hE 4000 (hs:=hoH ZE) (x:=(.box (xT 64 (xT 64 (eNl 1 nF)) f_))) (hoB ZE) (by kernel_rfl) (LeV.refl _)
 ·obtain⟨t2,ht2,aa⟩:=zb aa;refine yL X0 hC yd [1,1,2,1,0] [J1] (λs=>qw m_ s.1 s.2) (λx=>Kk m_ x.1 x.2) ((ArN.rep 64 (ArN.rep 64 ([]:List Int))),1) ht2  [] ?_;rintro⟨iq,n_⟩ m2 ar ae hl1 J2 av;try unfold qw at ae
  let Z0:List HO:=[Ha (lnM yX m_.Rows)];rcases zB ae with⟨c0,ae⟩|⟨c0,ae⟩
  ·refine yJ X0 hC yd [1,1,2,1,0,0,1] [J1,J2] [1,3,4] (λz:ArN 64 (ArN 64 (List Int))=>qA n_ z=some ar) (λz=>Km m_ n_ z) [(1,.own (.box (zD m_))),(3,.own (.box (.box (xT 64 (xT 64 (eNl 1 nF)) iq)))),(4,.own (.box (I n_)))] (Z0++[Hq c0,Hh (.cut 0)]) ?_ λJ3 ba=>?_
   ·rintro kp ae;unfold qA at ae;obtain rfl:=za ae;exact yB X0 hC av (kp,w64 (n_+1)) hl1 []
   ·refine yJ X0 hC yd [1,1,2,1,0,0,1,2,0,1] [J1,J2,J3] [1,3,4,5] (λz:ArN 64 (ArN 64 (List Int))×List zJ=>qz n_ z.1 z.2=some ar) (λz=>Kl m_ n_ z.1 z.2) [(1,.own (.box (zD m_))),(3,.own (.box (.box (xT 64 (xT 64 (eNl 1 nF)) iq)))),(4,.own (.box (I n_))),(5,.own (.box (eOs 4 true (zW nF nF F6_ eB) [])))] [Hh (.cut 1)] ?_ λJ4 bw=>?_
    ·rintro⟨kq,now⟩ ae;unfold qz at ae;obtain⟨t5,ht5,ae⟩:=zb ae;refine yL X0 hC yd [1,1,2,1,0,0,1,2,0,1,1,1,0] [J1,J2,J3] (λs=>vw now s.1 s.2) (λx=>Kj m_ n_ now x.1 x.2) (kq,0) ht5  [Hh (.v 0 [5]),Hm (shM (zW nF nF (eNl 1 nF) eB) (zW nF nF (eNl 1 nF) eB) now),Hh (.v 1 [5]),Ha (lnM (zW nF nF (eNl 1 nF) eB) now)] ?_;rintro⟨i8,j4⟩ m5 ck aj hl2 J5 bz;try unfold vw at aj;rcases zB aj with⟨c1,aj⟩|⟨c1,aj⟩
     ·obtain⟨cn,h0,aj⟩:=zb aj;obtain⟨r_,h1,aj⟩:=zb aj;obtain rfl:=za aj;exact yB ((zdC (P:=prog) yp 3 0 (fa:=.fn 134 []) (z:=.box (xT 64 (xT 64 (eNl 1 nF)) i8)) (z':=.box (xT 64 (xT 64 (eNl 1 nF)) r_)) (r:=.tup []) (xl:=[]) (xr:=[nF cn.S,nF cn.T,(eNl 1 nF) cn.Word]) rfl rfl (λv=>z2b hC v _ _ _ _ _ h1) 61).or X0) hC bz (r_,w64 (j4+1)) hl2 [Hq c1,Hi (zW nF nF (eNl 1 nF) eB) h0,Hn (⟨rfl,leP (show z0Y [] [] from inferInstance),leP (show z0Y [nF cn.S,nF cn.T,(eNl 1 nF) cn.Word] [nF cn.S,nF cn.T,(eNl 1 nF) cn.Word] from inferInstance),rfl,rfl⟩:([.fn 134 []]:List A)=[.fn 134 []]/\LeP [] []/\LeP [nF cn.S,nF cn.T,(eNl 1 nF) cn.Word] [nF cn.S,nF cn.T,(eNl 1 nF) cn.Word]/\T.als 3 [.deref] 0 0=T.als 3 [.deref] 0 0/\T.own (.box (.box (xT 64 (xT 64 (eNl 1 nF)) i8)))=T.own (.box (.box (xT 64 (xT 64 (eNl 1 nF)) i8))))]
     ·obtain rfl:=za aj;obtain rfl:=hl2;exact yB X0 hC ba i8 ae [Hq c1]
    ·obtain⟨ah,h2,ae⟩:=zb ae;obtain⟨t6,jd,ae⟩:=zb ae;refine yAt X0 hC (sub [1,1,2,1,0,0,1,2,0,1,2,1,0] yd) (frs [1,1,2,1,0,0,1,2,0,1,2,1,0] [J1,J2,J3,J4] yd []) [(1,.own (.box (zD m_))),(3,.own (.box (.box (xT 64 (xT 64 (eNl 1 nF)) iq)))),(4,.own (.box (I n_))),(5,.own (.box (eOs 4 true (zW nF nF (eNl 1 nF) eB) []))),(22,.d (.fn 150 [.sptr (.agg [I ah.Inputs,I ah.Outputs,eSl 1 false yX ah.Rows])]))] [Hc h1A (x:=m_) h2 (loC zD m_ <| loN)] λst0 h0=>?_;refine z1w (g:=.tmp 22) (ps:=[23,24]) (assign:=(sub [1,1,2,1,0,0,1,2,0,1,2,1,0,0] yd)) (body:=(sub [1,1,2,1,0,0,1,2,0,1,2,1,0,1] yd)) (K:=150) (caps:=[.sptr (.agg [I ah.Inputs,I ah.Outputs,eSl 1 false yX ah.Rows])]) (by kernel_rfl) [1,3,4,5,22] (λs=>vS m_ n_ ah s.1 s.2) (λz=>nomatch z) (λz=>nomatch z) ((λ(x:Int×Int) (_:Bool) (_:Value)=>[nF x.1,nF x.2])) (F:=@uw ah) (λs x=>xL m_ n_ s.1 s.2 x.1 x.2) (iq,([]:List zJ)) t6 _ h0 inferInstance (by kernel_rfl) (by decide) (λ_=>rfl) (by rintro⟨⟩) (by kernel_rfl) (λ_ _ _=>rfl) (z4P hC ah) jd ?_ ?_
     ·rintro mw ⟨ee,dt⟩ ⟨fh,bh⟩ vr ck aj;replace aj:xL m_ n_ ee dt fh bh=some ck:=aj;unfold xL at aj;refine yF X0 hC .normal [(1,.own (.box (zD m_))),(3,.own (.box (.box (xT 64 (xT 64 (eNl 1 nF)) ee)))),(4,.own (.box (I n_))),(5,.own (.box (eOs 4 false (zW nF nF (eNl 1 nF) eB) dt))),(6,.d (I fh)),(7,.d (I bh)),(22,.d (.fn 150 [.sptr (.agg [I ah.Inputs,I ah.Outputs,eSl 1 false yX ah.Rows])]))] [] λst0 h0=>⟨rfl,z9l h0 ?_⟩;obtain⟨cell,h3,aj⟩:=zb aj;obtain⟨a7,h4,aj⟩:=zb aj;let Z1:List HO:=[Hn (⟨Kc (by kernel_rfl) ee (i0 h3),(iL (xT 64 (eNl 1 nF)) h3).2⟩:XC yp 154 ((ee.l).map (xT 64 (eNl 1 nF))) fh=true/\fh.toNat<((ee.l).map (xT 64 (eNl 1 nF))).length),Hh (.op 5),Hh (.f),Hs (iM (xT 64 (eNl 1 nF)) h3),Hn (⟨Kc (by kernel_rfl) cell (i0 h4),(iL (eNl 1 nF) h4).2⟩:XC yp 125 ((cell.l).map (eNl 1 nF)) bh=true/\bh.toNat<((cell.l).map (eNl 1 nF)).length),Hh (.op 0),Hh (.f),Hs (iM (xT 64 (eNl 1 nF)) h3),Hh (.f),Hs (iM (eNl 1 nF) h4),Hn (⟨rfl,rfl⟩:T.d (eNl 1 nF a7)=T.d (eNl 1 nF a7)/\T.d (.atom (.slice none 0 0))=T.d (.atom (.slice none 0 0)))];rcases zB aj with⟨c2,aj⟩|⟨c2,aj⟩
      ·obtain rfl:=za aj;exact yF ((zlg zq 32 40 1 (a7.map nF) true (!a7.isEmpty) (by kernel_rfl) (nlB true nF a7)).or X0) hC .normal (vS m_ n_ ah ee dt) (Z1++[Hq c2]) λst0 h0=>⟨rfl,_,h0,LeL.refl _⟩
      ·obtain⟨al,h5,aj⟩:=zb aj;let Z2:List HO:=(Z1++[Hq c2,Hn (⟨rfl,leP (show z0Y [] [] from inferInstance),leP (show z0Y [zD m_,nF fh,nF bh,nF n_] [zD m_,nF fh,nF bh,nF n_] from inferInstance),rfl,rfl⟩:([.fn 133 []]:List A)=[.fn 133 []]/\LeP [] []/\LeP [zD m_,nF fh,nF bh,nF n_] [zD m_,nF fh,nF bh,nF n_]/\T.als 3 [.deref] 0 0=T.als 3 [.deref] 0 0/\T.own (.box (.box (xT 64 (xT 64 (eNl 1 nF)) ee)))=T.own (.box (.box (xT 64 (xT 64 (eNl 1 nF)) ee)))),Hn (⟨rfl,rfl⟩:T.d (eNl 1 nF al.1)=T.d (eNl 1 nF al.1)/\T.d (.atom (.slice none 0 0))=T.d (.atom (.slice none 0 0)))]);rcases zB aj with⟨c3,aj⟩|⟨c3,aj⟩
       ·obtain⟨g0,aj⟩:=gdE aj;obtain rfl:=za aj;exact yF ((zlg zq 40 40 1 (al.1.map nF) true (!al.1.isEmpty) (by kernel_rfl) (nlB true nF al.1)).or ((zdC (P:=prog) yp 3 0 (fa:=.fn 133 []) (z:=.box (xT 64 (xT 64 (eNl 1 nF)) ee)) (z':=.box (xT 64 (xT 64 (eNl 1 nF)) al.2)) (r:=eNl 1 nF al.1) (xl:=[]) (xr:=[zD m_,nF fh,nF bh,nF n_]) rfl rfl (λv=>Vx hC h0f h02 v _ _ _ _ _ _ h5) 38).or ((zlg zq 32 40 1 (a7.map nF) true (!a7.isEmpty) (by kernel_rfl) (nlB true nF a7)).or X0))) hC .normal (vS m_ n_ ah al.2 (dt++([(zJ.mk fh bh al.1 false)]:List zJ))) (Z2++[Hq c3,Hq (dM (zW nF nF (eNl 1 nF) eB) ([(zJ.mk fh bh al.1 false)]:List zJ)),Hn (dM (zW nF nF (eNl 1 nF) eB) ([(zJ.mk fh bh al.1 false)]:List zJ)),Hn (aL (zW nF nF (eNl 1 nF) eB) (zW nF nF (eNl 1 nF) eB) g0),Hl (aM (zW nF nF (eNl 1 nF) eB) dt ([(zJ.mk fh bh al.1 false)]:List zJ))]) λst0 h0=>⟨rfl,_,h0,LeL.refl _⟩
       ·obtain rfl:=za aj;exact yF ((zlg zq 40 40 1 (al.1.map nF) true (!al.1.isEmpty) (by kernel_rfl) (nlB true nF al.1)).or ((zdC (P:=prog) yp 3 0 (fa:=.fn 133 []) (z:=.box (xT 64 (xT 64 (eNl 1 nF)) ee)) (z':=.box (xT 64 (xT 64 (eNl 1 nF)) al.2)) (r:=eNl 1 nF al.1) (xl:=[]) (xr:=[zD m_,nF fh,nF bh,nF n_]) rfl rfl (λv=>Vx hC h0f h02 v _ _ _ _ _ _ h5) 38).or ((zlg zq 32 40 1 (a7.map nF) true (!a7.isEmpty) (by kernel_rfl) (nlB true nF a7)).or X0))) hC .normal (vS m_ n_ ah al.2 dt) (Z2++[Hq c3]) λst0 h0=>⟨rfl,_,h0,LeL.refl _⟩
     ·rcases t6 with⟨ee,dt⟩|z
      ·dsimp only at ae;exact WF (by kernel_rfl) (bw _ [(1,.own (.box (zD m_))),(3,.own (.box (.box (xT 64 (xT 64 (eNl 1 nF)) ee)))),(4,.own (.box (I n_))),(5,.own (.box (eOs 4 false (zW nF nF (eNl 1 nF) eB) dt)))] (ee,dt) ae (show Own.canon [1,3,4,5] _=ofL _ by kernel_rfl) inferInstance)
      ·cases z
  ·obtain rfl:=za ae;obtain rfl:=hl1;exact yB X0 hC ap iq aa (Z0++[Hq c0])
def JZ:Code:=(f103.body).getD .skip
def vb:zI:=spF (α:=List Int) (ρ:=List Int) 103 (λx=>[F6_ x]) (λr=>F5_ r) (λx=>yG x) [] (WJ)
theorem Ke (hC:zy prog ctr):vb.Ok prog:=by
 refine zx ?_;rintro s_ r0 aa;try unfold yG at aa;refine yO true [(2,none)] JZ 8 func103 λE hE=>?_;refine zfz rfl 0 (sz:=1) (t:=false) (es:=s_.map nF) (by kernel_rfl) λbf hv0 hn=>?_
 rcases hn with⟨hn0,he0⟩|hn0
 ·obtain⟨_,aa⟩:=gdE aa;rw[show s_=[] from List.map_eq_nil_iff.1 he0]at aa;obtain rfl:=za aa;exact yEx ((zp3 zq 4 40 (by kernel_rfl) hn0).or ((xMv prog 3 0 bf hv0).or X0)) hC hE [Hn (rfl:some bf=some bf),Hn (⟨rfl,rfl⟩:T.d (.atom bf)=T.d (.atom bf)/\T.d (.atom (.slice none 0 0))=T.d (.atom (.slice none 0 0))),qT] (eOs 1 true nF []) (show LeV (eOs 1 true nF []) (eOs 1 false nF ([]:List Int)) from inferInstance)
 ·obtain⟨g0,aa⟩:=gdE aa;obtain rfl:=za aa;exact yE ((zp3 zq 4 40 (by kernel_rfl) hn0).or ((xMv prog 3 0 bf hv0).or X0)) hC hE [Hn (rfl:some bf=some bf),Hn (⟨rfl,rfl⟩:T.d (.atom bf)=T.d (.atom bf)/\T.d (.atom (.slice none 0 0))=T.d (.atom (.slice none 0 0))),qF,Hn (dM nF s_),Hn (aL nF nF g0),Hl (aM0 nF s_)]
def z2E:Code:=(f72.body).getD .skip
def ub:zI:=spF (α:=z6×Int×Int) (ρ:=List Int×Bool×Int) 72 (λx=>[zD x.1,nF x.2.1,nF x.2.2]) (λr=>.tup [F2_ r.1,eB r.2.1,nF r.2.2]) (λx=>uO x.1 x.2.1 x.2.2) [] (zcH)
theorem z3o (hC:zy prog ctr)(h0G:ctr.Has VE)(h1B:ctr.Has Yo)(h0s:ctr.Has vb)(h02:ctr.Has xz):ub.Ok prog:=by
 refine zx ?_;rintro⟨m_,s_,t_⟩ r0 aa;try unfold uO at aa;refine yO false [(6,none),(7,none),(8,none)] z2E 33 func72 λE hE=>?_;obtain⟨r_,h0,aa⟩:=zb aa
 let Z0:List HO:=[Hg (z26 h0G),Hm (shM nF nF ([s_,t_])),Hs (z27 h0G (x:=(m_,[s_,t_])) h0 (loC zD m_ <| loC F2_ ([s_,t_]:List Int) <| loN))];rcases zB aa with⟨c0,aa⟩|⟨c0,aa⟩
 ·obtain rfl:=za aa;exact yEx X0 hC hE (Z0++[Hq c0,Hm (shM nF nF [])]) (.tup [eSl 1 true nF [],B false,I r_]) (show LeV (.tup [eSl 1 true nF [],B false,I r_]) (.tup [eSl 1 true nF ([]:List Int),B false,I r_]) from inferInstance)
 ·obtain⟨ah,h1,aa⟩:=zb aa;obtain⟨cell,h2,aa⟩:=zb aa;obtain⟨a7,h3,aa⟩:=zb aa;obtain⟨al,h4,aa⟩:=zb aa;obtain⟨ax,h5,aa⟩:=zb aa;obtain rfl:=za aa;exact yE ((xLs zq 26 (eNl 1 nF a7) (eSl 1 false nF a7) inferInstance).or X0) hC hE (Z0++[Hq c0,Hc h1B (x:=m_) h1 (loC zD m_ <| loN),Hn (⟨Kc (by kernel_rfl) ah (i0 h2),(iL (xT 64 (eNl 1 nF)) h2).2⟩:XC yp 154 ((ah.l).map (xT 64 (eNl 1 nF))) s_=true/\s_.toNat<((ah.l).map (xT 64 (eNl 1 nF))).length),Hh (.op 4),Hh (.f),Hs (iM (xT 64 (eNl 1 nF)) h2),Hn (⟨Kc (by kernel_rfl) cell (i0 h3),(iL (eNl 1 nF) h3).2⟩:XC yp 125 ((cell.l).map (eNl 1 nF)) t_=true/\t_.toNat<((cell.l).map (eNl 1 nF)).length),Hh (.op 0),Hh (.f),Hs (iM (xT 64 (eNl 1 nF)) h2),Hh (.f),Hs (iM (eNl 1 nF) h3),Hn (rfl:T.d (eNl 1 nF a7)=T.d (eNl 1 nF a7)),Hc h0s (x:=a7) h4 (loC F6_ a7 <| loN),Hg (z26 h02),Hm (shM nF nF al),Hs (z27 h02 (x:=al) h5 (loC F6_ al <| loN)),Hm (shM nF nF al),Ha (lnM nF ax)])
def z4X:Code:=(f136.body).getD .skip
def WO:zI:=spF (α:=Int×Int) (ρ:=Bool) 136 (λx=>[nF x.1,(eSp nF) x.2]) (λr=>eB r) (λx=>V9 x.1 x.2) [] (Vk)
theorem z5E (hC:zy prog ctr):WO.Ok prog:=by
 refine zx ?_;rintro⟨c_,x1⟩ r0 aa;try unfold V9 at aa;refine yO true [(3,none)] z4X 11 func136 λE hE=>?_;rcases zB aa with⟨c0,aa⟩|⟨c0,aa⟩
 ·obtain rfl:=za aa;exact yE X0 hC hE (rpN 4 (Hq c0) [])
 ·obtain rfl:=za aa;exact yE X0 hC hE (rpN 4 (Hq c0) [])
def vN:Code:=(f149.body).getD .skip
def vz:zI:=spF (α:=List Int×Int) (ρ:=Int) 149 (λx=>[F6_ x.1,(z0I 136 (eSp nF)) x.2]) (λr=>nF r) (λx=>wM x.1 x.2) [] (by rintro⟨a0,a1⟩ ⟨b0,b1⟩ h;have e0:=YD.inj (f:=F6_) _ _ (List.cons.inj h).1;replace h:=(List.cons.inj h).2;have e1:=YD.inj (f:=(z0I 136 (eSp nF))) _ _ (List.cons.inj h).1;subst e0 e1;rfl)
abbrev WH:List (Nat×T):=[]
abbrev WG (s_:List Int)(f_:Int)(x8:Int):List (Nat×T):=[(0,.d (eSl 1 false nF s_)),(1,.d (.fn 136 [.sptr (I f_)])),(7,.d (I ((s_.length:Nat):Int))),(8,.d (I x8))]
theorem UR (hC:zy prog ctr)(h1C:ctr.Has WO):vz.Ok prog:=by
 refine zx ?_;rintro⟨s_,f_⟩ r0 aa;try unfold wM at aa;refine yO true [(4,none)] vN 19 func149 λE hE=>?_;refine yJ X0 hC vN [1] [] [] (λz:Unit=>vD=some r0) (λz=>WH) [(0,.d (eSl 1 false nF s_)),(1,.d (.fn 136 [.sptr (I f_)]))] [Hh (.cut 1)] ?_ λJ1 ap=>?_
 ·rintro⟨⟩ aa;unfold vD at aa;obtain rfl:=za aa;exact yE X0 hC hE []
 ·obtain⟨t2,ht2,aa⟩:=zb aa;refine yL X0 hC vN [1,2,1,0] [J1] (λs=>yh s_ f_ s) (λx=>WG s_ f_ x) 0 ht2  [Ha (lnM nF s_)] ?_;rintro x8 m2 ar ae hl1 J2 av;try unfold yh at ae;rcases zB ae with⟨c0,ae⟩|⟨c0,ae⟩
  ·obtain⟨da,h0,ae⟩:=zb ae;obtain⟨r_,h1,ae⟩:=zb ae;let Z0:List HO:=[Hq c0,Hi nF h0,Hc h1C (x:=(da,f_)) h1 (loC nF da <| loC (eSp nF) f_ <| loN)];rcases zB ae with⟨c1,ae⟩|⟨c1,ae⟩
   ·obtain rfl:=za ae;obtain rfl:=hl1;obtain rfl:=za aa;exact yE X0 hC hE (Z0++[Hq c1])
   ·obtain rfl:=za ae;exact yB X0 hC av (w64 (x8+1)) hl1 (Z0++[Hq c1])
  ·obtain rfl:=za ae;obtain rfl:=hl1;exact yB X0 hC ap () aa [Hq c0]
def WD:Code:=(f130.body).getD .skip
def wB:zI:=spF (α:=List Int×Int) (ρ:=Bool) 130 (λx=>[F6_ x.1,(z0I 136 (eSp nF)) x.2]) (λr=>eB r) (λx=>xW x.1 x.2) [] (by rintro⟨a0,a1⟩ ⟨b0,b1⟩ h;have e0:=YD.inj (f:=F6_) _ _ (List.cons.inj h).1;replace h:=(List.cons.inj h).2;have e1:=YD.inj (f:=(z0I 136 (eSp nF))) _ _ (List.cons.inj h).1;subst e0 e1;rfl)
theorem WK (hC:zy prog ctr)(h1D:ctr.Has vz):wB.Ok prog:=by refine zx ?_;rintro⟨s_,f_⟩ r0 aa;try unfold xW at aa;refine yO true [(4,none)] WD 9 func130 λE hE=>?_;obtain⟨r_,h0,aa⟩:=zb aa;obtain rfl:=za aa;exact yE X0 hC hE [Hc h1D (x:=(s_,f_)) h0 (loC F6_ s_ <| loC (z0I 136 (eSp nF)) f_ <| loN)]
def z7D:Code:=(f113.body).getD .skip
def XZ:zI:=spF (α:=List Int×Int) (ρ:=Int) 113 (λx=>[F6_ x.1,nF x.2]) (λr=>nF r) (λx=>kN x.1 x.2) [] (Vk)
theorem z8l (hC:zy prog ctr)(h1E:ctr.Has wB):XZ.Ok prog:=by
 refine zx ?_;rintro⟨w_,inputs⟩ r0 aa;try unfold kN at aa;refine yO true [(4,none)] z7D 19 func113 λE hE=>?_;rcases zB aa with⟨c0,aa⟩|⟨c0,aa⟩
 ·obtain rfl:=za aa;exact yE X0 hC hE (rpN 4 (Hq c0) [qT])
 ·let Z0:List HO:=[Hq c0,Hq c0,Ha (lnM nF w_),Hq c0,Hq c0];rcases zB aa with⟨c1,aa⟩|⟨c1,aa⟩
  ·obtain rfl:=za aa;exact yE X0 hC hE (Z0++[Hq c1])
  ·rcases zB aa with⟨c2,aa⟩|⟨c2,aa⟩
   ·obtain rfl:=za aa;exact yE X0 hC hE (Z0++(Hq c1::(rpN 4 (Hq c2) [qT])))
   ·obtain⟨r_,h0,aa⟩:=zb aa;let Z1:List HO:=(Z0++[Hq c1,Hq c2,Hq c2,Hq c2,Hc h1E (x:=(w_,inputs)) h0 (loC F6_ w_ <| loC (z0I 136 (eSp nF)) inputs <| loN),Hq c2]);rcases zB aa with⟨c3,aa⟩|⟨c3,aa⟩
    ·obtain rfl:=za aa;exact yE X0 hC hE (Z1++[Hq c3])
    ·obtain rfl:=za aa;exact yE X0 hC hE (Z1++[Hq c3])
def QT:Code:=(f105.body).getD .skip
def W1:zI:=spF (α:=List (List Int)×Int) (ρ:=Int) 105 (λx=>[xy x.1,nF x.2]) (λr=>nF r) (λx=>XF x.1 x.2) [] (Vk)
abbrev z3U:List (Nat×T):=[]
abbrev z3T (l_:List (List Int))(inputs:Int)(j5:Int):List (Nat×T):=[(1,.d (I inputs)),(17,.d (eSl 1 false F6_ l_)),(18,.d (I ((l_.length:Nat):Int))),(19,.d (I j5))]
theorem z8n (hC:zy prog ctr)(h0t:ctr.Has XZ):W1.Ok prog:=by
 refine zx ?_;rintro⟨l_,inputs⟩ r0 aa;try unfold XF at aa;refine yO true [(4,none)] QT 30 func105 λE hE=>?_;rcases zB aa with⟨c0,aa⟩|⟨c0,aa⟩
 ·obtain rfl:=za aa;exact yE X0 hC hE (rpN 4 (Hq c0) [qT])
 ·let Z0:List HO:=[Hq c0,Hq c0,Ha (lnM F6_ l_),Hq c0,Hq c0];rcases zB aa with⟨c1,aa⟩|⟨c1,aa⟩
  ·obtain rfl:=za aa;exact yE X0 hC hE (Z0++[Hq c1])
  ·rcases zB aa with⟨c2,aa⟩|⟨c2,aa⟩
   ·obtain rfl:=za aa;exact yE X0 hC hE (Z0++[Hq c1,Hq c2])
   ·refine yJ X0 hC QT [1,1,1] [] [] (λz:Unit=>Qy=some r0) (λz=>z3U) [(0,.d (eSl 1 false F6_ l_)),(1,.d (I inputs))] (Z0++[Hq c1,Hq c2,Hh (.cut 0)]) ?_ λJ1 ap=>?_
    ·rintro⟨⟩ aa;unfold Qy at aa;obtain rfl:=za aa;exact yE X0 hC hE []
    ·obtain⟨t2,ht2,aa⟩:=zb aa;refine yL X0 hC QT [1,1,1,2,1,0] [J1] (λs=>jF l_ inputs s) (λx=>z3T l_ inputs x) 0 ht2  [Ha (lnM F6_ l_)] ?_;rintro j5 m2 ar ae hl1 J2 av;try unfold jF at ae;rcases zB ae with⟨c3,ae⟩|⟨c3,ae⟩
     ·obtain⟨bg,h0,ae⟩:=zb ae;obtain⟨r_,h1,ae⟩:=zb ae;let Z1:List HO:=[Hq c3,Hi F6_ h0,Hc h0t (x:=(bg,inputs)) h1 (loC F6_ bg <| loC nF inputs <| loN)];rcases zB ae with⟨c4,ae⟩|⟨c4,ae⟩
      ·obtain rfl:=za ae;obtain rfl:=hl1;obtain rfl:=za aa;exact yE X0 hC hE (Z1++[Hq c4])
      ·obtain rfl:=za ae;exact yB X0 hC av (w64 (j5+1)) hl1 (Z1++[Hq c4])
     ·obtain rfl:=za ae;obtain rfl:=hl1;exact yB X0 hC ap () aa [Hq c3]
def Jp:Code:=(f117.body).getD .skip
def uR:zI:=spF (α:=List (List Int)) (ρ:=List (List Int)) 117 (λx=>[xy x]) (λr=>zdu r) (λx=>ue x) [] (WJ)
theorem Jv (hC:zy prog ctr):uR.Ok prog:=by
 refine zx ?_;rintro s_ r0 aa;try unfold ue at aa;refine yO true [(2,none)] Jp 8 func117 λE hE=>?_;refine zfz rfl 0 (sz:=1) (t:=false) (es:=s_.map F6_) (by kernel_rfl) λbf hv0 hn=>?_
 rcases hn with⟨hn0,he0⟩|hn0
 ·obtain⟨_,aa⟩:=gdE aa;rw[show s_=[] from List.map_eq_nil_iff.1 he0]at aa;obtain rfl:=za aa;exact yEx ((zp3 zq 4 32 (by kernel_rfl) hn0).or ((xMv prog 3 0 bf hv0).or X0)) hC hE [Hn (rfl:some bf=some bf),Hn (⟨rfl,rfl⟩:T.d (.atom bf)=T.d (.atom bf)/\T.d (.atom (.slice none 0 0))=T.d (.atom (.slice none 0 0))),qT] (eOs 1 true F6_ []) (show LeV (eOs 1 true F6_ []) (eOs 1 false F6_ ([]:List (List Int))) from inferInstance)
 ·obtain⟨g0,aa⟩:=gdE aa;obtain rfl:=za aa;exact yE ((zp3 zq 4 32 (by kernel_rfl) hn0).or ((xMv prog 3 0 bf hv0).or X0)) hC hE [Hn (rfl:some bf=some bf),Hn (⟨rfl,rfl⟩:T.d (.atom bf)=T.d (.atom bf)/\T.d (.atom (.slice none 0 0))=T.d (.atom (.slice none 0 0))),qF,Hn (dM F6_ s_),Hn (aL F6_ F6_ g0),Hl (aM0 F6_ s_)]
def z54:Code:=(f163.body).getD .skip
def WW:zI:=spF (α:=Int) (ρ:=Bool) 163 (λx=>[nF x]) (λr=>eB r) (λx=>Xp x) [] (WJ)
theorem z5Q (hC:zy prog ctr):WW.Ok prog:=by refine zx ?_;rintro x_ r0 aa;try unfold Xp at aa;refine yO true [(2,none)] z54 6 func163 λE hE=>?_;obtain rfl:=za aa;exact yE X0 hC hE []
def z2G:Code:=(f141.body).getD .skip
def jW:zI:=spF (α:=Int×Int) (ρ:=Int) 141 (λx=>[nF x.1,nF x.2]) (λr=>nF r) (λx=>qp x.1 x.2) [] (Vk)
theorem z3v (hC:zy prog ctr)(h0H:ctr.Has WW):jW.Ok prog:=by
 refine zx ?_;rintro⟨x_,y_⟩ r0 aa;try unfold qp at aa;refine yO true [(4,none)] z2G 20 func141 λE hE=>?_;obtain⟨r_,h0,aa⟩:=zb aa;obtain⟨ah,h1,aa⟩:=zb aa
 let Z0:List HO:=[Hc h0H (x:=x_) h0 (loC nF x_ <| loN),Hc h0H (x:=y_) h1 (loC nF y_ <| loN)];rcases zB aa with⟨c0,aa⟩|⟨c0,aa⟩
 ·rcases zB aa with⟨c1,aa⟩|⟨c1,aa⟩
  ·obtain rfl:=za aa;exact yE X0 hC hE (Z0++[Hq c0,Hq c1])
  ·obtain rfl:=za aa;exact yE X0 hC hE (Z0++[Hq c0,Hq c1])
 ·rcases zB aa with⟨c2,aa⟩|⟨c2,aa⟩
  ·obtain rfl:=za aa;exact yE X0 hC hE (Z0++[Hq c0,Hq c2])
  ·rcases zB aa with⟨c3,aa⟩|⟨c3,aa⟩
   ·obtain rfl:=za aa;exact yE X0 hC hE (Z0++[Hq c0,Hq c2,Hq c3])
   ·rcases zB aa with⟨c4,aa⟩|⟨c4,aa⟩
    ·obtain rfl:=za aa;exact yE X0 hC hE (Z0++[Hq c0,Hq c2,Hq c3,Hq c4])
    ·obtain rfl:=za aa;exact yE X0 hC hE (Z0++[Hq c0,Hq c2,Hq c3,Hq c4])
def uF:Code:=(f142.body).getD .skip
def uA:zI:=spF (α:=List Int×List Int) (ρ:=Int) 142 (λx=>[F6_ x.1,F6_ x.2]) (λr=>nF r) (λx=>wh x.1 x.2) [] (Vk)
abbrev Vs (s1:List Int)(s2:List Int):List (Nat×T):=[(0,.d (eSl 1 false nF s1)),(1,.d (eSl 1 false nF s2))]
abbrev Vr (s1:List Int)(s2:List Int)(ez:Int):List (Nat×T):=[(0,.d (eSl 1 false nF s1)),(1,.d (eSl 1 false nF s2)),(9,.d (eSl 1 false nF s1)),(10,.d (I ((s1.length:Nat):Int))),(11,.d (I ez))]
theorem J0 (hC:zy prog ctr)(h0u:ctr.Has jW):uA.Ok prog:=by
 refine zx ?_;rintro⟨s1,s2⟩ r0 aa;try unfold wh at aa;refine yO true [(4,none)] uF 36 func142 λE hE=>?_;refine yJ X0 hC uF [1] [] [0,1] (λz:Unit=>wu s1 s2=some r0) (λz=>Vs s1 s2) [(0,.d (eSl 1 false nF s1)),(1,.d (eSl 1 false nF s2))] [Hh (.cut 1)] ?_ λJ1 ap=>?_
 ·rintro⟨⟩ aa;unfold wu at aa;let Z0:List HO:=[Ha (lnM nF s1),Ha (lnM nF s2)];rcases zB aa with⟨c0,aa⟩|⟨c0,aa⟩
  ·obtain rfl:=za aa;exact yE X0 hC hE (Z0++[Hq c0])
  ·obtain rfl:=za aa;exact yE X0 hC hE (Z0++[Hq c0])
 ·obtain⟨t2,ht2,aa⟩:=zb aa;refine yL X0 hC uF [1,2,1,0] [J1] (λs=>yD s1 s2 s) (λx=>Vr s1 s2 x) 0 ht2  [Ha (lnM nF s1)] ?_;rintro ez m2 ar ae hl1 J2 av;try unfold yD at ae;rcases zB ae with⟨c1,ae⟩|⟨c1,ae⟩
  ·obtain⟨ga,h0,ae⟩:=zb ae;let Z1:List HO:=[Hq c1,Hi nF h0,Ha (lnM nF s2)];rcases zB ae with⟨c2,ae⟩|⟨c2,ae⟩
   ·obtain rfl:=za ae;obtain rfl:=hl1;obtain rfl:=za aa;exact yE X0 hC hE (Z1++[Hq c2])
   ·obtain⟨d0,h1,ae⟩:=zb ae;obtain⟨r_,h2,ae⟩:=zb ae;let Z2:List HO:=(Z1++[Hq c2,Hi nF h1,Hc h0u (x:=(ga,d0)) h2 (loC nF ga <| loC nF d0 <| loN)]);rcases zB ae with⟨c3,ae⟩|⟨c3,ae⟩
    ·obtain rfl:=za ae;obtain rfl:=hl1;obtain rfl:=za aa;exact yE X0 hC hE (Z2++[Hq c3])
    ·obtain rfl:=za ae;exact yB X0 hC av (w64 (ez+1)) hl1 (Z2++[Hq c3])
  ·obtain rfl:=za ae;obtain rfl:=hl1;exact yB X0 hC ap () aa [Hq c1]
def K5:Code:=(f140.body).getD .skip
def JK:zI:=spF (α:=List Int) (ρ:=Int) 140 (λx=>[F6_ x]) (λr=>nF r) (λx=>Jo x) [] (WJ)
abbrev z5r:List (Nat×T):=[(3,.d (I 0))]
abbrev z5q (vals:List Int)(x8:Int):List (Nat×T):=[(3,.d (I 0)),(6,.d (eSl 1 false nF vals)),(7,.d (I ((vals.length:Nat):Int))),(8,.d (I x8))]
theorem z9J (hC:zy prog ctr):JK.Ok prog:=by
 refine zx ?_;rintro vals r0 aa;try unfold Jo at aa;refine yO true [(2,none)] K5 18 func140 λE hE=>?_;refine yJ X0 hC K5 [1,1] [] [3] (λz:Unit=>Vl=some r0) (λz=>z5r) [(0,.d (eSl 1 false nF vals)),(3,.d (I 0))] [Hh (.cut 2)] ?_ λJ1 ap=>?_
 ·rintro⟨⟩ aa;unfold Vl at aa;obtain rfl:=za aa;exact yE X0 hC hE []
 ·obtain⟨t2,ht2,aa⟩:=zb aa;refine yL X0 hC K5 [1,1,2,1,0] [J1] (λs=>ZI vals s) (λx=>z5q vals x) 0 ht2  [Ha (lnM nF vals)] ?_;rintro x8 m2 ar ae hl1 J2 av;try unfold ZI at ae;rcases zB ae with⟨c0,ae⟩|⟨c0,ae⟩
  ·obtain⟨kh,h0,ae⟩:=zb ae;rcases zB ae with⟨c1,ae⟩|⟨c1,ae⟩
   ·obtain rfl:=za ae;obtain rfl:=hl1;obtain rfl:=za aa;exact yE X0 hC hE [Hq c0,Hi nF h0,Hq c1]
   ·obtain rfl:=za ae;exact yB X0 hC av (w64 (x8+1)) hl1 [Hq c0,Hi nF h0,Hq c1]
  ·obtain rfl:=za ae;obtain rfl:=hl1;exact yB X0 hC ap () aa [Hq c0]
def z4W:Code:=(f119.body).getD .skip
def qQ:zI:=spF (α:=List Int×List Int) (ρ:=Int) 119 (λx=>[F6_ x.1,F6_ x.2]) (λr=>nF r) (λx=>xI x.1 x.2) [] (Vk)
theorem z5D (hC:zy prog ctr)(h0u:ctr.Has jW)(h1F:ctr.Has uA)(h0I:ctr.Has JK):qQ.Ok prog:=by refine zx ?_;rintro⟨a_,b_⟩ r0 aa;try unfold xI at aa;refine yO true [(4,none)] z4W 15 func119 λE hE=>?_;obtain⟨r_,h0,aa⟩:=zb aa;obtain⟨ah,h1,aa⟩:=zb aa;obtain⟨al,h2,aa⟩:=zb aa;obtain rfl:=za aa;exact yE X0 hC hE [Ha (lnM nF a_),Ha (lnM nF b_),Hc h0u (x:=(((a_.length:Nat):Int),((b_.length:Nat):Int))) h0 (loC nF ((a_.length:Nat):Int) <| loC nF ((b_.length:Nat):Int) <| loN),Hc h1F (x:=(a_,b_)) h1 (loC F6_ a_ <| loC F6_ b_ <| loN),Hg (z26 h0I),Hm (shM nF nF ([r_,ah])),Hs (z27 h0I (x:=[r_,ah]) h2 (loC F2_ ([r_,ah]:List Int) <| loN))]
def z3M:Code:=(f121.body).getD .skip
def XI:zI:=spF (α:=List Int×List Int) (ρ:=Bool) 121 (λx=>[F6_ x.1,F6_ x.2]) (λr=>eB r) (λx=>jE x.1 x.2) [] (Vk)
theorem z4N (hC:zy prog ctr)(h0g:ctr.Has qQ):XI.Ok prog:=by refine zx ?_;rintro⟨a_,b_⟩ r0 aa;try unfold jE at aa;refine yO true [(4,none)] z3M 9 func121 λE hE=>?_;obtain⟨r_,h0,aa⟩:=zb aa;obtain rfl:=za aa;exact yE X0 hC hE [Hc h0g (x:=(a_,b_)) h0 (loC F6_ a_ <| loC F6_ b_ <| loN)]
end Go.Own
end
