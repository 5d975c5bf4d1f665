/- -/
import Derived.Shelf.SlSortCmp.NoneTotal
import Derived.Ground.SlsfProg
import Derived.Test.YtedigoohmnbjfaaGreatProg
import Derived.Test.YtedigoohmnbjfaaGreatPartF
noncomputable section
set_option linter.unusedVariables false
set_option linter.unusedSimpArgs false
namespace Go.Proofs
open Go.Proofs.Tryz
open Go.Shelf
def Tryz.so136_ren:Go.Shelf.Ren:=⟨λ|6=>136|15=>161|14=>160|28=>184|29=>185|20=>176|21=>177|22=>178|23=>179|24=>180|25=>181|26=>182|27=>183|46=>194|47=>195|48=>196|49=>197|50=>198|57=>201|n=>n,λ|22=>32|24=>51|25=>110|3=>3|39=>209|0=>0|53=>240|55=>242|4=>4|46=>233|45=>232|50=>237|5=>5|9=>9|66=>260|70=>264|76=>267|77=>268|n=>n,λ|n=>n⟩
theorem Tryz.so136:Go.Proofs.SlLaysF0.n6 prog Tryz.so136_ren:={
 mixed:=by kernel_rfl
 f6:=⟨f136.name,by decide,func136.trans (congrArg some (by kernel_rfl))⟩
 f14:=⟨f160.name,by decide,func160.trans (congrArg some (by kernel_rfl))⟩
 f15:=func161.trans (congrArg some (by kernel_rfl))
 f20:=⟨f176.name,by decide,func176.trans (congrArg some (by kernel_rfl))⟩
 f21:=⟨f177.name,by decide,func177.trans (congrArg some (by kernel_rfl))⟩
 f22:=⟨f178.name,by decide,func178.trans (congrArg some (by kernel_rfl))⟩
 f23:=⟨f179.name,by decide,func179.trans (congrArg some (by kernel_rfl))⟩
 f24:=⟨f180.name,by decide,func180.trans (congrArg some (by kernel_rfl))⟩
 f25:=⟨f181.name,by decide,func181.trans (congrArg some (by kernel_rfl))⟩
 f26:=⟨f182.name,by decide,func182.trans (congrArg some (by kernel_rfl))⟩
 f27:=⟨f183.name,by decide,func183.trans (congrArg some (by kernel_rfl))⟩
 f28:=func184.trans (congrArg some (by kernel_rfl))
 f29:=func185.trans (congrArg some (by kernel_rfl))
 f46:=⟨f194.name,by decide,func194.trans (congrArg some (by kernel_rfl))⟩
 f47:=func195.trans (congrArg some (by kernel_rfl))
 f48:=func196.trans (congrArg some (by kernel_rfl))
 f49:=⟨f197.name,by decide,func197.trans (congrArg some (by kernel_rfl))⟩
 f50:=⟨f198.name,by decide,func198.trans (congrArg some (by kernel_rfl))⟩
 f57:=⟨f201.name,by decide,func201.trans (congrArg some (by kernel_rfl))⟩
 t0:=underlying0
 a0:=isAgg0
 z0:=sizeOf0
 v0:=zeroValue0
 t3:=underlying3
 a3:=isAgg3
 z3:=sizeOf3
 v3:=zeroValue3
 t4:=underlying4
 a4:=isAgg4
 z4:=sizeOf4
 v4:=zeroValue4
 t5:=underlying5
 a5:=isAgg5
 z5:=sizeOf5
 v5:=zeroValue5
 t9:=underlying9
 a9:=isAgg9
 z9:=sizeOf9
 v9:=zeroValue9
 t22:=underlying32
 a22:=isAgg32
 z22:=sizeOf32
 v22:=zeroValue32
 t25:=underlying110
 a25:=isAgg110
 z25:=sizeOf110
 v25:=zeroValue110
 t39:=underlying209
 a39:=isAgg209
 z39:=sizeOf209
 v39:=zeroValue209
 t45:=underlying232
 a45:=isAgg232
 z45:=sizeOf232
 v45:=zeroValue232
 t46:=underlying233
 a46:=isAgg233
 z46:=sizeOf233
 v46:=zeroValue233
 t50:=underlying237
 a50:=isAgg237
 z50:=sizeOf237
 v50:=zeroValue237
 t53:=underlying240
 a53:=isAgg240
 z53:=sizeOf240
 v53:=zeroValue240
 t55:=underlying242
 a55:=isAgg242
 z55:=sizeOf242
 v55:=zeroValue242
 t66:=underlying260
 a66:=isAgg260
 z66:=sizeOf260
 v66:=zeroValue260
 t70:=underlying264
 a70:=isAgg264
 z70:=sizeOf264
 v70:=zeroValue264
 t76:=underlying267
 a76:=isAgg267
 z76:=sizeOf267
 v76:=zeroValue267
 t77:=underlying268
 a77:=isAgg268
 z77:=sizeOf268
 v77:=zeroValue268 }
end Go.Proofs

namespace Go.Own
open Go.Proofs.Tryz
open Go.Proofs
set_option maxRecDepth 100000
set_option maxHeartbeats 8000000
def X0:XH prog:=xB zx
theorem z1E:prog.follows .mixedOrders=true:=by kernel_rfl
variable {σ:Type}{rs:List (Nat×Option Nat)}{J:St->Prop}{keep:Bool}{r:A}{τ:Type}
section
variable {ctr:Ctr}{n:Fr}{Q:Exit->St->Prop}{c:Code}{fs:List Fm}{st:St}
theorem yE (X:XH prog)(hC:zF prog ctr){E:St->Prop}    (hE:∀st x R U,zkc yw keep rs st=some (x,R,U)->LeV x r->E st)(L:List HO)(e:ztE X yw ctr n keep rs 4000 c fs st (hoH L)=some (r,hoO L):=by kernel_rfl):AWP prog n c st (Qf prog n fs (zj5 E)):=yE6 X zx hC z1E hE L e
theorem yEx (X:XH prog)(hC:zF prog ctr){E:St->Prop}    (hE:∀st x R U,zkc yw keep rs st=some (x,R,U)->LeV x r->E st)(L:List HO)(x:A)(hle:LeV x r)(e:ztE X yw ctr n keep rs 4000 c fs st (hoH L)=some (x,hoO L):=by kernel_rfl):AWP prog n c st (Qf prog n fs (zj5 E)):=zCl X zx hC z1E hE L x hle e
theorem yB (X:XH prog)(hC:zF prog ctr)   {live:List Nat}{S:τ->List (Nat×T)}{Inv:τ->Prop}(hJ:∀st' l' z,Inv z->Own.canon live st'=ofL l'->LeL l' (S z)->J st')(z:τ)(hz:Inv z)(L:List HO)(e:zbQ X yw ctr n live 4000 c fs st (hoH L)=some (.back J,ofL (S z),hoO L):=by kernel_rfl):AWP prog n c st (Qf prog n fs Q):=yB6 X zx hC z1E hJ z hz L e
theorem yBx (X:XH prog)(hC:zF prog ctr)   {live:List Nat}{S:τ->List (Nat×T)}{Inv:τ->Prop}(hJ:∀st' l' z,Inv z->Own.canon live st'=ofL l'->LeL l' (S z)->J st')(z:τ)(hz:Inv z)(l:List (Nat×T))(hl:LeL l (S z))(L:List HO)(e:zbQ X yw ctr n live 4000 c fs st (hoH L)=some (.back J,ofL l,hoO L):=by kernel_rfl):AWP prog n c st (Qf prog n fs Q):=zCm X zx hC z1E hJ z hz l hl L e
theorem yA (X:XH prog)(hC:zF prog ctr)(bd:Code)(path:List Nat)(Js:List (St->Prop))(l:List (Nat×T))(L:List HO)(h:AWP prog n (sub path bd) (ofL l) (Qf prog n (frs path Js bd []) Q))(e:zbQ X yw ctr n (z4p l) 4000 c fs st (hoH L)=some (.at (sub path bd) (frs path Js bd []),ofL l,hoO L):=by kernel_rfl):AWP prog n c st (Qf prog n fs Q):=yA6 X zx hC z1E bd path Js l L e h
theorem yAt (X:XH prog)(hC:zF prog ctr)(c':Code)(fs':List Fm)(l:List (Nat×T))(L:List HO)(h:∀st0,Own.canon (z4p l) st0=ofL l->AWP prog n c' st0 (Qf prog n fs' Q))(e:zbQ X yw ctr n (z4p l) 4000 c fs st (hoH L)=some (.at c' fs',ofL l,hoO L):=by kernel_rfl):AWP prog n c st (Qf prog n fs Q):=zCn X zx hC z1E c' fs' l L e h
theorem yLx (X:XH prog)(hC:zF prog ctr)(bd:Code)(path:List Nat)(Js:List (St->Prop)){σ τ:Type}(f:σ->Option (LR σ τ))(S:σ->List (Nat×T))(x0:σ){t:τ}(ht:loop f x0=some t)(l:List (Nat×T))(hl:LeL l (S x0))(L:List HO)(round:∀x m lr,f x=some lr->zyU f m t lr->∀J:St->Prop,(∀st' l' x',z3x f m x'=some t->Own.canon (z4p l) st'=ofL l'->LeL l' (S x')->J st')->AWP prog n (sub (path++[0]) bd) (ofL (S x)) (Qf prog n (.pre J::frs path Js bd []) Q))(e:zbQ X yw ctr n (z4p l) 4000 c fs st (hoH L)=some (.at (sub path bd) (frs path Js bd []),ofL l,hoO L):=by kernel_rfl)(e2:sub path bd=.loop (sub (path++[0]) bd):=by kernel_rfl)(hk:∀x,z4p (S x)=z4p l:=by exact λ_=>rfl):AWP prog n c st (Qf prog n fs Q):=yL6 X zx hC z1E bd path Js f S x0 ht l hl L hk e e2 round
theorem yL (X:XH prog)(hC:zF prog ctr)(bd:Code)(path:List Nat)(Js:List (St->Prop)){σ τ:Type}(f:σ->Option (LR σ τ))(S:σ->List (Nat×T))(x0:σ){t:τ}(ht:loop f x0=some t)(L:List HO)(round:∀x m lr,f x=some lr->zyU f m t lr->∀J:St->Prop,(∀st' l' x',z3x f m x'=some t->Own.canon (z4p (S x0)) st'=ofL l'->LeL l' (S x')->J st')->AWP prog n (sub (path++[0]) bd) (ofL (S x)) (Qf prog n (.pre J::frs path Js bd []) Q))(e:zbQ X yw ctr n (z4p (S x0)) 4000 c fs st (hoH L)=some (.at (sub path bd) (frs path Js bd []),ofL (S x0),hoO L):=by kernel_rfl)(e2:sub path bd=.loop (sub (path++[0]) bd):=by kernel_rfl)(hk:∀x,z4p (S x)=z4p (S x0):=by exact λ_=>rfl):AWP prog n c st (Qf prog n fs Q):=yL6 X zx hC z1E bd path Js f S x0 ht _ (LeL.refl _) L hk e e2 round
theorem yJ (X:XH prog)(hC:zF prog ctr)(bd:Code)(path:List Nat)(Js:List (St->Prop))  (live:List Nat)(Inv:σ->Prop)(S:σ->List (Nat×T))(l:List (Nat×T))(L:List HO)(h1:∀z,Inv z->AWP prog n (sub (path++[1]) bd) (ofL (S z)) (Qf prog n (frs path Js bd []) Q))(h2:∀J:St->Prop,(∀st' l' z,Inv z->Own.canon live st'=ofL l'->LeL l' (S z)->J st')->AWP prog n (sub (path++[2]) bd) (ofL l) (Qf prog n (.pre J::frs path Js bd []) Q))(e:zbQ X yw ctr n (z4p l) 4000 c fs st (hoH L)=some (.at (sub path bd) (frs path Js bd []),ofL l,hoO L):=by kernel_rfl)(e2:sub path bd=.seq (sub (path++[2]) bd) (sub (path++[1]) bd):=by kernel_rfl):AWP prog n c st (Qf prog n fs Q):=yJ6 X zx hC z1E bd path Js live Inv S l L e e2 h1 h2
theorem yF (X:XH prog)(hC:zF prog ctr)(ex:Exit)(l:List (Nat×T))(L:List HO)(h:∀st0,Own.canon (z4p l) st0=ofL l->Q ex st0)(e:zbQ X yw ctr n (z4p l) 4000 c fs st (hoH L)=some (.fin ex,ofL l,hoO L):=by kernel_rfl):AWP prog n c st (Qf prog n fs Q):=yF6 X zx hC z1E ex l L e h
theorem yD (X:XH prog)(hC:zF prog ctr)(i:Nat)(L:List Nat){k:Nat}{xs0:List A}{ls:List (Value×A)}{pv:Value}(hd:z6l prog k xs0 ls pv)(xs:List A)(hx:z3p xs xs0)(Lh:List HO)(hQ:∀st',Q (.panic (XG pv)) st')(e:zzP X yw ctr n c i L st (hoH Lh)=some ([.fn k []],xs,ls,hoO Lh):=by kernel_rfl):AWP prog n c st (Qf prog n fs Q):=yD6 X zx hC i L hd xs hx Lh e hQ
theorem yP (X:XH prog)(hC:zF prog ctr)(i:Nat){T:Nat}{v:Value}(Lh:List HO)(hQ:∀st',Q (.panic (XG (.iface T v))) st')(e:zzt X yw ctr n c i st (hoH Lh)=some (.atom (.iface T v),hoO Lh):=by kernel_rfl):AWP prog n c st (Qf prog n fs Q):=yP6 X zx hC i Lh e hQ
theorem yO {k:Nat}{fn:Func}  {ls:List A}(keep:Bool)(rs:List (Nat×Option Nat))(body:Code)(nt:Nat)(hf:prog.funcs[k]?=some fn)(h:∀E:St->Prop,(∀st x R U,zkc yw keep rs st=some (x,R,U)->LeV x r->E st)->AWP prog ⟨nt,[]⟩ body (ofL (zhG 0 ls)) (Qf prog ⟨nt,[]⟩ [] (zj5 E)))(hb:fn.body=some body:=by kernel_rfl)(hn:nt=fn.ntmps:=by exact rfl)(hr:fn.results=(rs.map ze6).toArray:=by exact rfl)(hnm:(fn.name == "runtime.NumGoroutine")=false:=by exact rfl)(ha:Nat.ble ls.length nt=true:=by kernel_rfl):V5 prog k ls r:=yO6 zx keep rs body nt hf hb hn hr hnm ha h
end
theorem zrD:zyT prog 22 9:=zrj (e:=5) underlying22 underlying5 underlying9
theorem zkK:zmq prog 218 9 4 zd7 (.atom (.bool false)):=zov underlying218 underlying9 ⟨.bool false,λw=>zgR (f:=Tryz.t4) (by kernel_rfl) rfl w,λS=>xY.2 ⟨rfl,rfl⟩⟩ rfl
theorem zeR:zmq prog 254 259 3 (z9R [.i64,.i64,.i64,.i64,.i64,.i64,.i64,.i64,.i64,.i64,.i64,.i64,.i64,.i64,.i64,.i64,.i64,.i64,.i64,.i64,.i64,.i64,.i64,.i64,.i64,.i64,.i64,.i64,.i64,.i64,.i64,.i64,.i64]) (.atom (.int .i64 0)):=zow underlying254 _ underlying259 (Go.Ex.zlo.eqn rfl) (zgU.eqn rfl) rfl ⟨.int .i64 0,λw=>zgR (f:=Tryz.t3) (by kernel_rfl) rfl w,λS=>xY.2 ⟨rfl,rfl⟩⟩ rfl
theorem zsw:zi3 prog 99 0 3 0:=zlF underlying99 _ rfl rfl rfl
theorem zuT:zsV prog 136 1 false:=znz zx (t:=51) Tryz.so136 rfl rfl (by kernel_rfl) (by decide)
def zap:Code:=(f68.body).getD .skip
abbrev s8:=eI .i64
def Jb:zN:=spF (α:=List Int×Int) (ρ:=Int) 68 (λx=>[F5_ x.1,s8 x.2]) (λr=>s8 r) (λx=>XY x.1 x.2) [] (W2)
variable {ctr:Ctr}
theorem zbh (hC:zF prog ctr):Jb.Ok prog:=by
 refine zC ?_;rintro⟨l_,k_⟩ r0 aa;try unfold XY at aa;refine yO true [(4,none)] zap 14 func68 λE hE=>?_;rcases zI aa with⟨c0,aa⟩|⟨c0,aa⟩
 ·obtain⟨cd,h0,aa⟩:=zc aa;obtain rfl:=za aa;exact yE X0 hC hE [Ha (lnM (eI .u16) l_),Hq c0,Hi (eI .u16) h0]
 ·obtain rfl:=za aa;exact yE X0 hC hE [Ha (lnM (eI .u16) l_),Hq c0]
def ym:Code:=(f34.body).getD .skip
def z0V:zN:=spF (α:=zT) (ρ:=z6) 34 (λx=>[z37 x]) (λr=>zO r) (λx=>z0q x) [] (Q7)
abbrev z8H (x_:zT)(kq:List (List z8)):List (Nat×T):=[(2,.own (.box (.agg [I 0,I 0,eOs 1 true yN []]))),(4,.own (.box (.agg [I (w64 (1+(w64 (Int.tmod x_.Inputs 3)))),I (w64 (1+(w64 (Int.tmod x_.Outputs 3)))),eOs 1 false ZI kq])))]
abbrev z8G (x_:zT)(s_:Int)(kr:List (List z8)):List (Nat×T):=[(1,.own (.box (z37 x_))),(2,.own (.box (.agg [I 0,I 0,eOs 1 true yN []]))),(3,.d (I (w64 (1+(w64 (Int.tmod x_.States 6)))))),(4,.own (.box (.agg [I (w64 (1+(w64 (Int.tmod x_.Inputs 3)))),I (w64 (1+(w64 (Int.tmod x_.Outputs 3)))),eOs 1 false ZI kr]))),(13,.d (I s_))]
abbrev z8F (x_:zT)(s_:Int)(i_:Int)(ku:List (List z8)):List (Nat×T):=[(1,.own (.box (z37 x_))),(2,.own (.box (.agg [I 0,I 0,eOs 1 true yN []]))),(3,.d (I (w64 (1+(w64 (Int.tmod x_.States 6)))))),(4,.own (.box (.agg [I (w64 (1+(w64 (Int.tmod x_.Inputs 3)))),I (w64 (1+(w64 (Int.tmod x_.Outputs 3)))),eOs 1 false ZI ku]))),(13,.d (I s_)),(14,.d (I i_))]
abbrev z8C (x_:zT)(s_:Int)(fz:List (List z8))(i_:Int):List (Nat×T):=[(1,.own (.box (z37 x_))),(2,.own (.box (.agg [I 0,I 0,eOs 1 true yN []]))),(3,.d (I (w64 (1+(w64 (Int.tmod x_.States 6)))))),(4,.own (.box (.agg [I (w64 (1+(w64 (Int.tmod x_.Inputs 3)))),I (w64 (1+(w64 (Int.tmod x_.Outputs 3)))),eOs 1 false ZI fz]))),(13,.d (I s_)),(14,.d (I i_))]
abbrev z8D (x_:zT)(i6:List (List z8))(s_:Int):List (Nat×T):=[(1,.own (.box (z37 x_))),(2,.own (.box (.agg [I 0,I 0,eOs 1 true yN []]))),(3,.d (I (w64 (1+(w64 (Int.tmod x_.States 6)))))),(4,.own (.box (.agg [I (w64 (1+(w64 (Int.tmod x_.Inputs 3)))),I (w64 (1+(w64 (Int.tmod x_.Outputs 3)))),eOs 1 false ZI i6]))),(13,.d (I s_))]
abbrev z8I (x_:zT)(j6:List (List z8)):List (Nat×T):=[(1,.own (.box (z37 x_))),(2,.own (.box (.agg [I 0,I 0,eOs 1 true yN []]))),(3,.d (I (w64 (1+(w64 (Int.tmod x_.States 6)))))),(4,.own (.box (.agg [I (w64 (1+(w64 (Int.tmod x_.Inputs 3)))),I (w64 (1+(w64 (Int.tmod x_.Outputs 3)))),eOs 1 false ZI j6])))]
abbrev z8E (x_:zT)(bg:Int)(kw:List (List z8)):List (Nat×T):=[(1,.own (.box (z37 x_))),(2,.own (.box (.agg [I 0,I 0,eOs 1 true yN []]))),(3,.d (I (w64 (1+(w64 (Int.tmod x_.States 6)))))),(4,.own (.box (.agg [I (w64 (1+(w64 (Int.tmod x_.Inputs 3)))),I (w64 (1+(w64 (Int.tmod x_.Outputs 3)))),eOs 1 false ZI kw]))),(9,.d (I bg))]
abbrev z7G (x_:zT)(bl:List (List z8))(bg:Int)(k_:Int):List (Nat×T):=[(1,.own (.box (z37 x_))),(2,.own (.box (.agg [I 0,I 0,eOs 1 true yN []]))),(3,.d (I (w64 (1+(w64 (Int.tmod x_.States 6)))))),(4,.own (.box (.agg [I (w64 (1+(w64 (Int.tmod x_.Inputs 3)))),I (w64 (1+(w64 (Int.tmod x_.Outputs 3)))),eOs 1 false ZI bl]))),(9,.d (I bg)),(12,.d (I k_))]
abbrev z7H (x_:zT)(bl:List (List z8))(bg:Int)(free:List Int):List (Nat×T):=[(1,.own (.box (z37 x_))),(2,.own (.box (.agg [I 0,I 0,eOs 1 true yN []]))),(3,.d (I (w64 (1+(w64 (Int.tmod x_.States 6)))))),(4,.own (.box (.agg [I (w64 (1+(w64 (Int.tmod x_.Inputs 3)))),I (w64 (1+(w64 (Int.tmod x_.Outputs 3)))),eOs 1 false ZI bl]))),(9,.d (I bg)),(10,.own (eOs 1 false s8 free))]
abbrev z7F (x_:zT)(bl:List (List z8))(bg:Int)(cb:Int)(mc:List Int):List (Nat×T):=[(1,.own (.box (z37 x_))),(2,.own (.box (.agg [I 0,I 0,eOs 1 true yN []]))),(3,.d (I (w64 (1+(w64 (Int.tmod x_.States 6)))))),(4,.own (.box (.agg [I (w64 (1+(w64 (Int.tmod x_.Inputs 3)))),I (w64 (1+(w64 (Int.tmod x_.Outputs 3)))),eOs 1 false ZI bl]))),(9,.d (I bg)),(10,.own (eOs 1 false s8 mc)),(11,.d (I cb))]
abbrev z7C (x_:zT)(bl:List (List z8))(bg:Int)(iu:List Int)(cb:Int):List (Nat×T):=[(1,.own (.box (z37 x_))),(2,.own (.box (.agg [I 0,I 0,eOs 1 true yN []]))),(3,.d (I (w64 (1+(w64 (Int.tmod x_.States 6)))))),(4,.own (.box (.agg [I (w64 (1+(w64 (Int.tmod x_.Inputs 3)))),I (w64 (1+(w64 (Int.tmod x_.Outputs 3)))),eOs 1 false ZI bl]))),(9,.d (I bg)),(10,.own (eOs 1 false s8 iu)),(11,.d (I cb))]
abbrev z8B (x_:zT)(bl:List (List z8))(bg:Int):List (Nat×T):=[(1,.own (.box (z37 x_))),(2,.own (.box (.agg [I 0,I 0,eOs 1 true yN []]))),(3,.d (I (w64 (1+(w64 (Int.tmod x_.States 6)))))),(4,.own (.box (.agg [I (w64 (1+(w64 (Int.tmod x_.Inputs 3)))),I (w64 (1+(w64 (Int.tmod x_.Outputs 3)))),eOs 1 false ZI bl]))),(9,.d (I bg))]
abbrev z8J (x_:zT)(kx:List (List z8)):List (Nat×T):=[(1,.own (.box (z37 x_))),(2,.own (.box (.agg [I 0,I 0,eOs 1 true yN []]))),(3,.d (I (w64 (1+(w64 (Int.tmod x_.States 6)))))),(4,.own (.box (.agg [I (w64 (1+(w64 (Int.tmod x_.Inputs 3)))),I (w64 (1+(w64 (Int.tmod x_.Outputs 3)))),eOs 1 false ZI kx])))]
abbrev z7E (x_:zT)(bw:Int)(j9:List (List z8)):List (Nat×T):=[(1,.own (.box (z37 x_))),(2,.own (.box (.agg [I 0,I 0,eOs 1 true yN []]))),(3,.d (I (w64 (1+(w64 (Int.tmod x_.States 6)))))),(4,.own (.box (.agg [I (w64 (1+(w64 (Int.tmod x_.Inputs 3)))),I (w64 (1+(w64 (Int.tmod x_.Outputs 3)))),eOs 1 false ZI j9]))),(5,.d (I bw))]
abbrev z7D (x_:zT)(dm:List (List z8))(bw:Int)(row:List z8):List (Nat×T):=[(1,.own (.box (z37 x_))),(2,.own (.box (.agg [I 0,I 0,eOs 1 true yN []]))),(3,.d (I (w64 (1+(w64 (Int.tmod x_.States 6)))))),(4,.own (.box (.agg [I (w64 (1+(w64 (Int.tmod x_.Inputs 3)))),I (w64 (1+(w64 (Int.tmod x_.Outputs 3)))),eOs 1 false ZI dm]))),(5,.d (I bw)),(6,.own (eOs 2 false F9_ row))]
abbrev z7A (x_:zT)(dm:List (List z8))(bw:Int)(fh:List z8)(fc:Int):List (Nat×T):=[(1,.own (.box (z37 x_))),(2,.own (.box (.agg [I 0,I 0,eOs 1 true yN []]))),(3,.d (I (w64 (1+(w64 (Int.tmod x_.States 6)))))),(4,.own (.box (.agg [I (w64 (1+(w64 (Int.tmod x_.Inputs 3)))),I (w64 (1+(w64 (Int.tmod x_.Outputs 3)))),eOs 1 false ZI dm]))),(5,.d (I bw)),(6,.own (eOs 2 false F9_ fh)),(7,.d (I fc))]
abbrev z7B (x_:zT)(dm:List (List z8))(bw:Int):List (Nat×T):=[(1,.own (.box (z37 x_))),(2,.own (.box (.agg [I 0,I 0,eOs 1 true yN []]))),(3,.d (I (w64 (1+(w64 (Int.tmod x_.States 6)))))),(4,.own (.box (.agg [I (w64 (1+(w64 (Int.tmod x_.Inputs 3)))),I (w64 (1+(w64 (Int.tmod x_.Outputs 3)))),eOs 1 false ZI dm]))),(5,.d (I bw))]
theorem ze0 (hC:zF prog ctr)(h0W:ctr.Has Jb):z0V.Ok prog:=by
 refine zC ?_;rintro x_ r0 aa;try unfold z0q at aa;refine yO false [(2,some 30)] ym 178 func34 λE hE=>?_;obtain⟨g0,aa⟩:=gdE aa;obtain⟨g1,aa⟩:=gdE aa;obtain⟨g2,aa⟩:=gdE aa;refine yJ X0 hC ym [1,1,1] [] [1,2,3,4] (λz:List (List z8)=>Qt x_ z=some r0) (λz=>z8J x_ z) [(1,.own (.box (z37 x_))),(2,.own (.box (.agg [I 0,I 0,eOs 1 true yN []]))),(3,.d (I (w64 (1+(w64 (Int.tmod x_.States 6)))))),(4,.own (.box (.agg [I (w64 (1+(w64 (Int.tmod x_.Inputs 3)))),I (w64 (1+(w64 (Int.tmod x_.Outputs 3)))),eOs 1 true yN []])))] [Hn g0,Hn g1,Hn g2,Hh (.cut 3)] ?_ λJ1 aw=>?_
 ·rintro kx aa;unfold Qt at aa;refine yJ X0 hC ym [1,1,1,1] [] [1,2,3,4] (λz:List (List z8)=>Qr x_ z=some r0) (λz=>z8I x_ z) [(1,.own (.box (z37 x_))),(2,.own (.box (.agg [I 0,I 0,eOs 1 true yN []]))),(3,.d (I (w64 (1+(w64 (Int.tmod x_.States 6)))))),(4,.own (.box (.agg [I (w64 (1+(w64 (Int.tmod x_.Inputs 3)))),I (w64 (1+(w64 (Int.tmod x_.Outputs 3)))),eOs 1 false ZI kx])))] [Hh (.cut 0)] ?_ λJ2 a6=>?_
  ·rintro j6 aa;unfold Qr at aa;refine yJ X0 hC ym [1,1,1,1,1] [] [2,4] (λz:List (List z8)=>Qq x_ z=some r0) (λz=>z8H x_ z) [(1,.own (.box (z37 x_))),(2,.own (.box (.agg [I 0,I 0,eOs 1 true yN []]))),(3,.d (I (w64 (1+(w64 (Int.tmod x_.States 6)))))),(4,.own (.box (.agg [I (w64 (1+(w64 (Int.tmod x_.Inputs 3)))),I (w64 (1+(w64 (Int.tmod x_.Outputs 3)))),eOs 1 false ZI j6])))] [Hh (.cut 0)] ?_ λJ3 bk=>?_
   ·rintro kq aa;unfold Qq at aa;obtain rfl:=za aa;exact yE X0 hC hE [Hm (shM ZI yN kq)]
   ·obtain⟨t4,ht4,aa⟩:=zc aa;refine yL X0 hC ym [1,1,1,1,1,2,1,0] [J3] (λs=>YS x_ s.1 s.2) (λx=>z8D x_ x.1 x.2) (j6,0) ht4  [] ?_;rintro⟨i6,s_⟩ m4 az ae hl1 J4 d0;try unfold YS at ae;rcases zI ae with⟨c0,ae⟩|⟨c0,ae⟩
    ·refine yJ X0 hC ym [1,1,1,1,1,2,1,0,0,1] [J3,J4] [1,2,3,4,13] (λz:List (List z8)=>Qp s_ z=some az) (λz=>z8G x_ s_ z) [(1,.own (.box (z37 x_))),(2,.own (.box (.agg [I 0,I 0,eOs 1 true yN []]))),(3,.d (I (w64 (1+(w64 (Int.tmod x_.States 6)))))),(4,.own (.box (.agg [I (w64 (1+(w64 (Int.tmod x_.Inputs 3)))),I (w64 (1+(w64 (Int.tmod x_.Outputs 3)))),eOs 1 false ZI i6]))),(13,.d (I s_))] [Hq c0,Hh (.cut 0)] ?_ λJ5 dn=>?_
     ·rintro kr ae;unfold Qp at ae;obtain rfl:=za ae;exact yB X0 hC d0 (kr,w64 (s_+1)) hl1 []
     ·obtain⟨t6,la,ae⟩:=zc ae;refine yL X0 hC ym [1,1,1,1,1,2,1,0,0,1,2,0,1,0] [J3,J4,J5] (λs=>YR x_ s_ s.1 s.2) (λx=>z8C x_ s_ x.1 x.2) (i6,0) la  [] ?_;rintro⟨fz,i_⟩ m6 dl ah hl2 J6 fp;try unfold YR at ah;rcases zI ah with⟨c1,ah⟩|⟨c1,ah⟩
      ·refine yJ X0 hC ym [1,1,1,1,1,2,1,0,0,1,2,0,1,0,0,1] [J3,J4,J5,J6] [1,2,3,4,13,14] (λz:List (List z8)=>WO i_ z=some dl) (λz=>z8F x_ s_ i_ z) [(1,.own (.box (z37 x_))),(2,.own (.box (.agg [I 0,I 0,eOs 1 true yN []]))),(3,.d (I (w64 (1+(w64 (Int.tmod x_.States 6)))))),(4,.own (.box (.agg [I (w64 (1+(w64 (Int.tmod x_.Inputs 3)))),I (w64 (1+(w64 (Int.tmod x_.Outputs 3)))),eOs 1 false ZI fz]))),(13,.d (I s_)),(14,.d (I i_))] [Hq c1,Hh (.cut 0)] ?_ λJ7 jk=>?_
       ·rintro ku ah;unfold WO at ah;obtain rfl:=za ah;exact yB X0 hC fp (ku,w64 (i_+1)) hl2 []
       ·obtain⟨nw,h0,ah⟩:=zc ah;obtain⟨mv,h1,ah⟩:=zc ah;let Z0:List HO:=[Hn (iL ZI h0),Hs (iM ZI h0),Hs (iM ZI h0),Hn (iL F9_ h1),Hs (iM ZI h0),Hs (iM F9_ h1),Hs (iM ZI h0),Hs (iM F9_ h1)];rcases zI ah with⟨c2,ah⟩|⟨c2,ah⟩
        ·obtain⟨jp,h2,ah⟩:=zc ah;obtain⟨r_,h3,ah⟩:=zc ah;obtain⟨g3,ah⟩:=gdE ah;obtain⟨jg,h4,ah⟩:=zc ah;exact yB X0 hC jk (fz.set s_.toNat (jp.set i_.toNat (z8.mk (Int.tmod r_ (w64 (1+(w64 (Int.tmod x_.States 6))))) jg.Out))) ah (Z0++[Hq c2,Hn (iL ZI h2),Hs (iM ZI h2),Hc h0W (x:=(x_.Edges,w64 ((w64 (s_*(w64 (1+(w64 (Int.tmod x_.Inputs 3))))))+i_))) h3 (loC F5_ x_.Edges <| loC s8 (w64 ((w64 (s_*(w64 (1+(w64 (Int.tmod x_.Inputs 3))))))+i_)) <| loN),Hn g3,Hs (iM ZI h2),Hn (iL F9_ h4),Hs (iM ZI h2),Hs (iM F9_ h4),Hs (iM ZI h2),Hs (iM F9_ h4),Hs (iM ZI h2),Hs (iM F9_ h4),Hl (sM F9_ jp i_ (z8.mk (Int.tmod r_ (w64 (1+(w64 (Int.tmod x_.States 6))))) jg.Out)),Hl (sM ZI fz s_ (jp.set i_.toNat (z8.mk (Int.tmod r_ (w64 (1+(w64 (Int.tmod x_.States 6))))) jg.Out)))])
        ·exact yB X0 hC jk fz ah (Z0++[Hq c2])
      ·obtain rfl:=za ah;obtain rfl:=hl2;exact yB X0 hC dn fz ae [Hq c1]
    ·obtain rfl:=za ae;obtain rfl:=hl1;exact yB X0 hC bk i6 aa [Hq c0]
  ·obtain⟨t8,ht8,aa⟩:=zc aa;refine yL X0 hC ym [1,1,1,1,2,1,0] [J2] (λs=>YQ x_ s.1 s.2) (λx=>z8B x_ x.1 x.2) (kx,1) ht8  [] ?_;rintro⟨bl,bg⟩ m8 az ae hl1 J8 lw;try unfold YQ at ae;rcases zI ae with⟨c3,ae⟩|⟨c3,ae⟩
   ·refine yJ X0 hC ym [1,1,1,1,2,1,0,0,1] [J2,J8] [1,2,3,4,9] (λz:List (List z8)=>Qo bg z=some az) (λz=>z8E x_ bg z) [(1,.own (.box (z37 x_))),(2,.own (.box (.agg [I 0,I 0,eOs 1 true yN []]))),(3,.d (I (w64 (1+(w64 (Int.tmod x_.States 6)))))),(4,.own (.box (.agg [I (w64 (1+(w64 (Int.tmod x_.Inputs 3)))),I (w64 (1+(w64 (Int.tmod x_.Outputs 3)))),eOs 1 false ZI bl]))),(9,.d (I bg))] [Hq c3,Hh (.cut 0)] ?_ λJ9 ot=>?_
    ·rintro kw ae;unfold Qo at ae;obtain rfl:=za ae;exact yB X0 hC lw (kw,w64 (bg+1)) hl1 []
    ·refine yJ X0 hC ym [1,1,1,1,2,1,0,0,1,2,0,1] [J2,J8,J9] [1,2,3,4,9,10] (λz:List Int=>Uo x_ bl bg z=some az) (λz=>z7H x_ bl bg z) [(1,.own (.box (z37 x_))),(2,.own (.box (.agg [I 0,I 0,eOs 1 true yN []]))),(3,.d (I (w64 (1+(w64 (Int.tmod x_.States 6)))))),(4,.own (.box (.agg [I (w64 (1+(w64 (Int.tmod x_.Inputs 3)))),I (w64 (1+(w64 (Int.tmod x_.Outputs 3)))),eOs 1 false ZI bl]))),(9,.d (I bg)),(10,.own (eOs 1 true s8 []))] [Hh (.cut 1)] ?_ λJ10 hJ10=>?_
     ·rintro free ae;unfold Uo at ae;obtain⟨mb,h5,ae⟩:=zc ae;refine yJ X0 hC ym [1,1,1,1,2,1,0,0,1,2,0,1,1,1] [J2,J8,J9] [1,2,3,4,9,12] (λz:Int=>qX x_ bl bg z=some az) (λz=>z7G x_ bl bg z) [(1,.own (.box (z37 x_))),(2,.own (.box (.agg [I 0,I 0,eOs 1 true yN []]))),(3,.d (I (w64 (1+(w64 (Int.tmod x_.States 6)))))),(4,.own (.box (.agg [I (w64 (1+(w64 (Int.tmod x_.Inputs 3)))),I (w64 (1+(w64 (Int.tmod x_.Outputs 3)))),eOs 1 false ZI bl]))),(9,.d (I bg)),(10,.own (eOs 1 false s8 free)),(12,.d (I mb))] [Hn (iL s8 h5),Hs (iM s8 h5),Hh (.cut 0)] ?_ λpm oc=>?_
      ·rintro k_ ae;unfold qX at ae;obtain⟨g4,ae⟩:=gdE ae;obtain⟨jq,h6,ae⟩:=zc ae;obtain⟨g5,ae⟩:=gdE ae;obtain⟨jh,h7,ae⟩:=zc ae;exact yB X0 hC ot (bl.set (w64 (Int.tdiv k_ (w64 (1+(w64 (Int.tmod x_.Inputs 3)))))).toNat (jq.set (Int.tmod k_ (w64 (1+(w64 (Int.tmod x_.Inputs 3))))).toNat (z8.mk bg jh.Out))) ae [Hn g4,Hn (iL ZI h6),Hs (iM ZI h6),Hn g5,Hs (iM ZI h6),Hn (iL F9_ h7),Hs (iM ZI h6),Hs (iM F9_ h7),Hs (iM ZI h6),Hs (iM F9_ h7),Hs (iM ZI h6),Hs (iM F9_ h7),Hl (sM F9_ jq (Int.tmod k_ (w64 (1+(w64 (Int.tmod x_.Inputs 3))))) (z8.mk bg jh.Out)),Hl (sM ZI bl (w64 (Int.tdiv k_ (w64 (1+(w64 (Int.tmod x_.Inputs 3)))))) (jq.set (Int.tmod k_ (w64 (1+(w64 (Int.tmod x_.Inputs 3))))).toNat (z8.mk bg jh.Out)))]
      ·let Z1:List HO:=[Ha (lnM (eI .u8) x_.Tree)];rcases zI ae with⟨c4,ae⟩|⟨c4,ae⟩
       ·obtain⟨od,h8,ae⟩:=zc ae;obtain⟨g6,ae⟩:=gdE ae;obtain⟨mq,h9,ae⟩:=zc ae;exact yB X0 hC oc mq ae (Z1++[Hq c4,Hi (eI .u8) h8,Ha (lnM s8 free),Hn g6,Hn (iL s8 h9),Hs (iM s8 h9)])
       ·exact yB X0 hC oc mb ae (Z1++[Hq c4])
     ·obtain⟨t12,ht12,ae⟩:=zc ae;refine yLx X0 hC ym [1,1,1,1,2,1,0,0,1,2,0,1,2,1,0] [J2,J8,J9,J10] (λs=>Zz x_ bl bg s.1 s.2) (λx=>z7C x_ bl bg x.1 x.2) (([]:List Int),0) ht12 [(1,.own (.box (z37 x_))),(2,.own (.box (.agg [I 0,I 0,eOs 1 true yN []]))),(3,.d (I (w64 (1+(w64 (Int.tmod x_.States 6)))))),(4,.own (.box (.agg [I (w64 (1+(w64 (Int.tmod x_.Inputs 3)))),I (w64 (1+(w64 (Int.tmod x_.Outputs 3)))),eOs 1 false ZI bl]))),(9,.d (I bg)),(10,.own (eOs 1 true s8 [])),(11,.d (I 0))] inferInstance [] ?_;rintro⟨iu,cb⟩ pu dl ah hl2 pt po;try unfold Zz at ah;rcases zI ah with⟨c5,ah⟩|⟨c5,ah⟩
      ·refine yJ X0 hC ym [1,1,1,1,2,1,0,0,1,2,0,1,2,1,0,0,1] [J2,J8,J9,J10,pt] [1,2,3,4,9,10,11] (λz:List Int=>Xg cb z=some dl) (λz=>z7F x_ bl bg cb z) [(1,.own (.box (z37 x_))),(2,.own (.box (.agg [I 0,I 0,eOs 1 true yN []]))),(3,.d (I (w64 (1+(w64 (Int.tmod x_.States 6)))))),(4,.own (.box (.agg [I (w64 (1+(w64 (Int.tmod x_.Inputs 3)))),I (w64 (1+(w64 (Int.tmod x_.Outputs 3)))),eOs 1 false ZI bl]))),(9,.d (I bg)),(10,.own (eOs 1 false s8 iu)),(11,.d (I cb))] [Hq c5,Hh (.cut 0)] ?_ λJ13 hJ13=>?_
       ·rintro mc ah;unfold Xg at ah;obtain rfl:=za ah;exact yB X0 hC po (mc,w64 (cb+1)) hl2 []
       ·obtain⟨g7,ah⟩:=gdE ah;obtain⟨nh,h10,ah⟩:=zc ah;obtain⟨g8,ah⟩:=gdE ah;obtain⟨md,h11,ah⟩:=zc ah;let Z2:List HO:=[Hn g7,Hn (iL ZI h10),Hs (iM ZI h10),Hn g8,Hs (iM ZI h10),Hn (iL F9_ h11),Hs (iM ZI h10),Hs (iM F9_ h11),Hs (iM ZI h10),Hs (iM F9_ h11)];rcases zI ah with⟨c6,ah⟩|⟨c6,ah⟩
        ·obtain⟨g9,ah⟩:=gdE ah;exact yB X0 hC hJ13 (iu++([cb]:List Int)) ah (Z2++[Hq c6,Hq (dM s8 ([cb]:List Int)),Hn (dM s8 ([cb]:List Int)),Hn (aL s8 s8 g9),Hl (aM s8 iu ([cb]:List Int))])
        ·exact yB X0 hC hJ13 iu ah (Z2++[Hq c6])
      ·obtain rfl:=za ah;obtain rfl:=hl2;exact yB X0 hC hJ10 iu ae [Hq c5]
   ·obtain rfl:=za ae;obtain rfl:=hl1;exact yB X0 hC a6 bl aa [Hq c3]
 ·obtain⟨pj,ht14,aa⟩:=zc aa;refine yLx X0 hC ym [1,1,1,2,1,0] [J1] (λs=>Zy x_ s.1 s.2) (λx=>z7B x_ x.1 x.2) (([]:List (List z8)),0) ht14 [(1,.own (.box (z37 x_))),(2,.own (.box (.agg [I 0,I 0,eOs 1 true yN []]))),(3,.d (I (w64 (1+(w64 (Int.tmod x_.States 6)))))),(4,.own (.box (.agg [I (w64 (1+(w64 (Int.tmod x_.Inputs 3)))),I (w64 (1+(w64 (Int.tmod x_.Outputs 3)))),eOs 1 true ZI []]))),(5,.d (I 0))] inferInstance [] ?_;rintro⟨dm,bw⟩ pw az ae hl1 pg pq;try unfold Zy at ae;rcases zI ae with⟨c7,ae⟩|⟨c7,ae⟩
  ·refine yJ X0 hC ym [1,1,1,2,1,0,0,1] [J1,pg] [1,2,3,4,5] (λz:List (List z8)=>Un bw z=some az) (λz=>z7E x_ bw z) [(1,.own (.box (z37 x_))),(2,.own (.box (.agg [I 0,I 0,eOs 1 true yN []]))),(3,.d (I (w64 (1+(w64 (Int.tmod x_.States 6)))))),(4,.own (.box (.agg [I (w64 (1+(w64 (Int.tmod x_.Inputs 3)))),I (w64 (1+(w64 (Int.tmod x_.Outputs 3)))),eOs 1 false ZI dm]))),(5,.d (I bw))] [Hq c7,Hh (.cut 0)] ?_ λJ15 hJ15=>?_
   ·rintro j9 ae;unfold Un at ae;obtain rfl:=za ae;exact yB X0 hC pq (j9,w64 (bw+1)) hl1 []
   ·refine yJ X0 hC ym [1,1,1,2,1,0,0,1,2,0,1] [J1,pg,J15] [1,2,3,4,5,6] (λz:List z8=>Um dm bw z=some az) (λz=>z7D x_ dm bw z) [(1,.own (.box (z37 x_))),(2,.own (.box (.agg [I 0,I 0,eOs 1 true yN []]))),(3,.d (I (w64 (1+(w64 (Int.tmod x_.States 6)))))),(4,.own (.box (.agg [I (w64 (1+(w64 (Int.tmod x_.Inputs 3)))),I (w64 (1+(w64 (Int.tmod x_.Outputs 3)))),eOs 1 false ZI dm]))),(5,.d (I bw)),(6,.own (eOs 2 true F9_ []))] [Hh (.cut 1)] ?_ λJ16 hJ16=>?_
    ·rintro row ae;unfold Um at ae;obtain⟨g10,ae⟩:=gdE ae;exact yB X0 hC hJ15 (dm++([row]:List (List z8))) ae [Hq (oC ZI row []),Hn (aL ZI ZI g10),Hl (aM ZI dm ([row]:List (List z8)))]
    ·obtain⟨t17,ht17,ae⟩:=zc ae;refine yLx X0 hC ym [1,1,1,2,1,0,0,1,2,0,1,2,1,0] [J1,pg,J15,J16] (λs=>Zx x_ bw s.1 s.2) (λx=>z7A x_ dm bw x.1 x.2) (([]:List z8),0) ht17 [(1,.own (.box (z37 x_))),(2,.own (.box (.agg [I 0,I 0,eOs 1 true yN []]))),(3,.d (I (w64 (1+(w64 (Int.tmod x_.States 6)))))),(4,.own (.box (.agg [I (w64 (1+(w64 (Int.tmod x_.Inputs 3)))),I (w64 (1+(w64 (Int.tmod x_.Outputs 3)))),eOs 1 false ZI dm]))),(5,.d (I bw)),(6,.own (eOs 2 true F9_ [])),(7,.d (I 0))] inferInstance [] ?_;rintro⟨fh,fc⟩ m17 dl ah hl2 px pr;try unfold Zx at ah;rcases zI ah with⟨c8,ah⟩|⟨c8,ah⟩
     ·obtain⟨aj,h12,ah⟩:=zc ah;obtain⟨g11,ah⟩:=gdE ah;obtain⟨g12,ah⟩:=gdE ah;obtain⟨g13,ah⟩:=gdE ah;obtain rfl:=za ah;exact yB X0 hC pr ((fh++([(z8.mk (-1) (Int.tmod (w64 (Int.tdiv aj (w64 (1+(w64 (Int.tmod x_.States 6)))))) (w64 (1+(w64 (Int.tmod x_.Outputs 3))))))]:List z8)),w64 (fc+1)) hl2 [Hq c8,Hc h0W (x:=(x_.Edges,w64 ((w64 (bw*(w64 (1+(w64 (Int.tmod x_.Inputs 3))))))+fc))) h12 (loC F5_ x_.Edges <| loC s8 (w64 ((w64 (bw*(w64 (1+(w64 (Int.tmod x_.Inputs 3))))))+fc)) <| loN),Hn g11,Hn g12,Hq (dM F9_ ([(z8.mk (-1) (Int.tmod (w64 (Int.tdiv aj (w64 (1+(w64 (Int.tmod x_.States 6)))))) (w64 (1+(w64 (Int.tmod x_.Outputs 3))))))]:List z8)),Hn (dM F9_ ([(z8.mk (-1) (Int.tmod (w64 (Int.tdiv aj (w64 (1+(w64 (Int.tmod x_.States 6)))))) (w64 (1+(w64 (Int.tmod x_.Outputs 3))))))]:List z8)),Hn (aL F9_ F9_ g13),Hl (aM F9_ fh ([(z8.mk (-1) (Int.tmod (w64 (Int.tdiv aj (w64 (1+(w64 (Int.tmod x_.States 6)))))) (w64 (1+(w64 (Int.tmod x_.Outputs 3))))))]:List z8))]
     ·obtain rfl:=za ah;obtain rfl:=hl2;exact yB X0 hC hJ16 fh ae [Hq c8]
  ·obtain rfl:=za ae;obtain rfl:=hl1;exact yB X0 hC aw dm aa [Hq c7]
def Uq:Code:=(f85.body).getD .skip
def KK:zN:=spF (α:=z6×List (List Bool)×Int×Int) (ρ:=Int) 85 (λx=>[zO x.1,(eSl 1 false (eSl 1 false eB)) x.2.1,s8 x.2.2.1,s8 x.2.2.2]) (λr=>s8 r) (λx=>Ji x.1 x.2.1 x.2.2.1 x.2.2.2) [] (zzG)
abbrev z7r:List (Nat×T):=[]
abbrev z7q (m_:z6)(bc:List (List Bool))(s_:Int)(t_:Int)(i_:Int)(o8:Int)(o9:Bool)(lh:Bool)(pa:Bool)(pb:Bool)(ni:Bool):List (Nat×T):=[(1,.d (eSl 1 false (eSl 1 false eB) bc)),(2,.d (I s_)),(3,.d (I t_)),(4,.own (.box (zO m_))),(9,.d (I i_)),(41,.d (I o8)),(42,.d (B o9)),(43,.d (B lh)),(47,.d (B pa)),(48,.d (B pb)),(58,.d (B ni))]
abbrev z7p (m_:z6)(bc:List (List Bool))(s_:Int)(t_:Int)(i_:Int):List (Nat×T):=[(1,.d (eSl 1 false (eSl 1 false eB) bc)),(2,.d (I s_)),(3,.d (I t_)),(4,.own (.box (zO m_))),(9,.d (I i_))]
theorem zcC (hC:zF prog ctr):KK.Ok prog:=by
 refine zC ?_;rintro⟨m_,bc,s_,t_⟩ r0 aa;try unfold Ji at aa;refine yO true [(8,none)] Uq 60 func85 λE hE=>?_;refine yJ X0 hC Uq [1] [] [] (λz:Unit=>KR=some r0) (λz=>z7r) [(1,.d (eSl 1 false (eSl 1 false eB) bc)),(2,.d (I s_)),(3,.d (I t_)),(4,.own (.box (zO m_)))] [Hh (.cut 1)] ?_ λJ1 aw=>?_
 ·rintro⟨⟩ aa;unfold KR at aa;obtain rfl:=za aa;exact yE X0 hC hE []
 ·obtain⟨t2,ht2,aa⟩:=zc aa;refine yL X0 hC Uq [1,2,1,0] [J1] (λs=>Zs m_ bc s_ t_ s) (λx=>z7p m_ bc s_ t_ x) 0 ht2  [] ?_;rintro i_ m2 az ae hl1 J2 a6;try unfold Zs at ae;rcases zI ae with⟨c0,ae⟩|⟨c0,ae⟩
  ·refine yJ X0 hC Uq [1,2,1,0,0,1] [J1,J2] [1,2,3,4,9,41,42,43,47,48,58] (λz:Int×Bool×Bool×Bool×Bool×Bool=>Zt i_ z.1 z.2.1 z.2.2.1 z.2.2.2.1 z.2.2.2.2.1 z.2.2.2.2.2=some az) (λz=>z7q m_ bc s_ t_ i_ z.1 z.2.1 z.2.2.1 z.2.2.2.1 z.2.2.2.2.1 z.2.2.2.2.2) [(1,.d (eSl 1 false (eSl 1 false eB) bc)),(2,.d (I s_)),(3,.d (I t_)),(4,.own (.box (zO m_))),(9,.d (I i_))] [Hq c0,Hh (.cut 0)] ?_ λJ3 bk=>?_
   ·rintro⟨o8,o9,lh,pa,pb,ni⟩ ae;unfold Zt at ae;obtain rfl:=za ae;exact yB X0 hC a6 (w64 (i_+1)) hl1 []
   ·obtain⟨aq,h0,ae⟩:=zc ae;obtain⟨al,h1,ae⟩:=zc ae;obtain⟨ll,h2,ae⟩:=zc ae;obtain⟨cr,h3,ae⟩:=zc ae;let Z0:List HO:=[Hi yN h0,Hi F9_ h1,Hi yN h2,Hi F9_ h3];rcases zI ae with⟨c1,ae⟩|⟨c1,ae⟩
    ·obtain rfl:=za ae;obtain rfl:=hl1;obtain rfl:=za aa;exact yE X0 hC hE (Z0++(rpN 8 (Hq c1) [qT]))
    ·let Z1:List HO:=(Z0++(rpN 4 (Hq c1) []));rcases zI ae with⟨c2,ae⟩|⟨c2,ae⟩
     ·let Z2:List HO:=(Z1++[Hq c2,Hq c2,Hq c2,Hq c1,Hq c2,Hq c1]);rcases zI ae with⟨c3,ae⟩|⟨c3,ae⟩
      ·obtain⟨ia,h4,ae⟩:=zc ae;obtain⟨fj,h5,ae⟩:=zc ae;let Z3:List HO:=(Z2++(rpN 4 (Hq c3) (Hi (eSl 1 false eB) h4::(rpN 4 (Hq c3) [Hi eB h5,Hq c3,Hq c1,Hq c3,Hq c1]))));rcases zI ae with⟨c4,ae⟩|⟨c4,ae⟩
       ·obtain rfl:=za ae;obtain rfl:=hl1;obtain rfl:=za aa;exact yE X0 hC hE (Z3++[Hq c4])
       ·exact yB X0 hC bk (al.To,decide (al.To>=0),decide (al.To>=0),decide (cr.To>=0),decide (cr.To>=0),fj) ae (Z3++[Hq c4])
      ·exact yB X0 hC bk (al.To,decide (al.To>=0),decide (al.To>=0),decide (cr.To>=0),decide (cr.To>=0),false) ae (Z2++(rpN 9 (Hq c3) [Hq c1,Hq c3,Hq c1,qF]))
     ·exact yB X0 hC bk (al.To,decide (al.To>=0),decide (al.To>=0),false,false,false) ae (Z1++(Hq c2::Hq c2::Hq c2::Hq c1::Hq c2::Hq c1::(rpN 9 qF [Hq c1,qF,Hq c1,qF])))
  ·obtain rfl:=za ae;obtain rfl:=hl1;exact yB X0 hC aw () aa [Hq c0]
def w9:Code:=(f52.body).getD .skip
def J0:zN:=spF (α:=z6×Int) (ρ:=List (List Bool)) 52 (λx=>[zO x.1,s8 x.2]) (λr=>(eOs 1 false (eOs 1 true eB)) r) (λx=>UD x.1 x.2) [] (W2)
abbrev z6f (ly:List (List Bool)):List (Nat×T):=[(6,.own (eOs 1 false (eOs 1 true eB) ly))]
abbrev z6e (m_:z6)(k_:Int)(round:Int)(ky:List (List Bool)):List (Nat×T):=[(1,.d (I k_)),(2,.own (.box (zO m_))),(5,.d (I ((m_.Rows.length:Nat):Int))),(6,.own (eOs 1 false (eOs 1 true eB) ky)),(8,.d (I round))]
abbrev z6d (m_:z6)(k_:Int)(round:Int)(next:List (List Bool)):List (Nat×T):=[(1,.d (I k_)),(2,.own (.box (zO m_))),(5,.d (I ((m_.Rows.length:Nat):Int))),(8,.d (I round)),(9,.own (eOs 1 false (eOs 1 true eB) next))]
abbrev z6c (m_:z6)(k_:Int)(cg:List (List Bool))(round:Int)(s_:Int)(ew:List (List Bool)):List (Nat×T):=[(1,.d (I k_)),(2,.own (.box (zO m_))),(5,.d (I ((m_.Rows.length:Nat):Int))),(6,.d (eSl 1 false (eSl 1 true eB) cg)),(8,.d (I round)),(9,.own (eOs 1 false (eOs 1 true eB) ew)),(10,.d (I s_))]
abbrev z69 (m_:z6)(k_:Int)(cg:List (List Bool))(round:Int)(s_:Int)(ck:List (List Bool))(t_:Int):List (Nat×T):=[(1,.d (I k_)),(2,.own (.box (zO m_))),(5,.d (I ((m_.Rows.length:Nat):Int))),(6,.d (eSl 1 false (eSl 1 true eB) cg)),(8,.d (I round)),(9,.own (eOs 1 false (eOs 1 true eB) ck)),(10,.d (I s_)),(11,.d (I t_))]
abbrev z6a (m_:z6)(k_:Int)(cg:List (List Bool))(round:Int)(cn:List (List Bool))(s_:Int):List (Nat×T):=[(1,.d (I k_)),(2,.own (.box (zO m_))),(5,.d (I ((m_.Rows.length:Nat):Int))),(6,.d (eSl 1 false (eSl 1 true eB) cg)),(8,.d (I round)),(9,.own (eOs 1 false (eOs 1 true eB) cn)),(10,.d (I s_))]
abbrev z6b (m_:z6)(k_:Int)(cg:List (List Bool))(round:Int):List (Nat×T):=[(1,.d (I k_)),(2,.own (.box (zO m_))),(5,.d (I ((m_.Rows.length:Nat):Int))),(6,.own (eOs 1 false (eOs 1 true eB) cg)),(8,.d (I round))]
abbrev z6g (m_:z6)(k_:Int)(bc:List (List Bool)):List (Nat×T):=[(1,.d (I k_)),(2,.own (.box (zO m_))),(5,.d (I ((m_.Rows.length:Nat):Int))),(6,.own (eOs 1 false (eOs 1 true eB) bc))]
abbrev z68 (m_:z6)(k_:Int)(il:List (List Bool))(bg:Int):List (Nat×T):=[(1,.d (I k_)),(2,.own (.box (zO m_))),(5,.d (I ((m_.Rows.length:Nat):Int))),(6,.own (eOs 1 false (eOs 1 true eB) il)),(7,.d (I bg))]
theorem zbe (hC:zF prog ctr)(h1j:ctr.Has KK):J0.Ok prog:=by
 refine zC ?_;rintro⟨m_,k_⟩ r0 aa;try unfold UD at aa;refine yO true [(4,none)] w9 68 func52 λE hE=>?_;refine yJ X0 hC w9 [1,1,1] [] [1,2,5,6] (λz:List (List Bool)=>WC m_ k_ z=some r0) (λz=>z6g m_ k_ z) [(1,.d (I k_)),(2,.own (.box (zO m_))),(5,.d (I ((m_.Rows.length:Nat):Int))),(6,.own (eOs 1 true (eSl 1 false eB) []))] [Ha (lnM yN m_.Rows),Hh (.cut 1)] ?_ λJ1 aw=>?_
 ·rintro bc aa;unfold WC at aa;refine yJ X0 hC w9 [1,1,1,1] [] [6] (λz:List (List Bool)=>WB z=some r0) (λz=>z6f z) [(1,.d (I k_)),(2,.own (.box (zO m_))),(5,.d (I ((m_.Rows.length:Nat):Int))),(6,.own (eOs 1 false (eOs 1 true eB) bc))] [Hh (.cut 0)] ?_ λJ2 a6=>?_
  ·rintro ly aa;unfold WB at aa;obtain rfl:=za aa;exact yE X0 hC hE []
  ·obtain⟨t3,ht3,aa⟩:=zc aa;refine yL X0 hC w9 [1,1,1,1,2,1,0] [J2] (λs=>uM m_ k_ s.1 s.2) (λx=>z6b m_ k_ x.1 x.2) (bc,0) ht3  [] ?_;rintro⟨cg,round⟩ m3 az ae hl1 J3 bk;try unfold uM at ae;rcases zI ae with⟨c0,ae⟩|⟨c0,ae⟩
   ·refine yJ X0 hC w9 [1,1,1,1,2,1,0,0,1] [J2,J3] [1,2,5,6,8] (λz:List (List Bool)=>Wz round z=some az) (λz=>z6e m_ k_ round z) [(1,.d (I k_)),(2,.own (.box (zO m_))),(5,.d (I ((m_.Rows.length:Nat):Int))),(6,.own (eOs 1 false (eOs 1 true eB) cg)),(8,.d (I round))] [Hq c0,Hh (.cut 0)] ?_ λJ4 d0=>?_
    ·rintro ky ae;unfold Wz at ae;obtain rfl:=za ae;exact yB X0 hC bk (ky,w64 (round+1)) hl1 []
    ·refine yJ X0 hC w9 [1,1,1,1,2,1,0,0,1,2,0,1] [J2,J3,J4] [1,2,5,8,9] (λz:List (List Bool)=>Wy round z=some az) (λz=>z6d m_ k_ round z) [(1,.d (I k_)),(2,.own (.box (zO m_))),(5,.d (I ((m_.Rows.length:Nat):Int))),(6,.own (eOs 1 false (eOs 1 true eB) cg)),(8,.d (I round)),(9,.own (eOs 1 true (eSl 1 false eB) []))] [Hh (.cut 1)] ?_ λJ5 dn=>?_
     ·rintro next ae
      unfold Wy at ae;exact yB X0 hC d0 next ae []
     ·obtain⟨t6,la,ae⟩:=zc ae;refine yLx X0 hC w9 [1,1,1,1,2,1,0,0,1,2,0,1,2,1,0] [J2,J3,J4,J5] (λs=>uL m_ cg s.1 s.2) (λx=>z6a m_ k_ cg round x.1 x.2) (([]:List (List Bool)),0) la [(1,.d (I k_)),(2,.own (.box (zO m_))),(5,.d (I ((m_.Rows.length:Nat):Int))),(6,.d (eSl 1 false (eSl 1 true eB) cg)),(8,.d (I round)),(9,.own (eOs 1 true (eOs 1 true eB) [])),(10,.d (I 0))] inferInstance [Hh (.n 3 [6]),Hm (shM (eOs 1 true eB) (eSl 1 true eB) cg)] ?_;rintro⟨cn,s_⟩ m6 dl ah hl2 J6 fp;try unfold uL at ah;rcases zI ah with⟨c1,ah⟩|⟨c1,ah⟩
      ·refine yJ X0 hC w9 [1,1,1,1,2,1,0,0,1,2,0,1,2,1,0,0,1] [J2,J3,J4,J5,J6] [1,2,5,6,8,9,10] (λz:List (List Bool)=>Ww s_ z=some dl) (λz=>z6c m_ k_ cg round s_ z) [(1,.d (I k_)),(2,.own (.box (zO m_))),(5,.d (I ((m_.Rows.length:Nat):Int))),(6,.d (eSl 1 false (eSl 1 true eB) cg)),(8,.d (I round)),(9,.own (eOs 1 false (eOs 1 true eB) cn)),(10,.d (I s_))] [Hq c1,Hh (.cut 0)] ?_ λJ7 jk=>?_
       ·rintro ew ah;unfold Ww at ah;obtain rfl:=za ah;exact yB X0 hC fp (ew,w64 (s_+1)) hl2 []
       ·obtain⟨g0,ah⟩:=gdE ah;obtain⟨g1,ah⟩:=gdE ah;obtain⟨t8,ht8,ah⟩:=zc ah;refine yL X0 hC w9 [1,1,1,1,2,1,0,0,1,2,0,1,2,1,0,0,1,2,0,1,1,0] [J2,J3,J4,J5,J6,J7] (λs=>uK m_ cg s_ s.1 s.2) (λx=>z69 m_ k_ cg round s_ x.1 x.2) ((cn++([(List.replicate ((m_.Rows.length:Nat):Int).toNat false)]:List (List Bool))),0) ht8  [Hn (rL g0),Ha (rM 1 eB ((m_.Rows.length:Nat):Int) false),Hq (oC (eOs 1 true eB) (List.replicate ((m_.Rows.length:Nat):Int).toNat false) []),Hn (aL (eOs 1 true eB) (eOs 1 true eB) g1),Hl (aM (eOs 1 true eB) cn ([(List.replicate ((m_.Rows.length:Nat):Int).toNat false)]:List (List Bool)))] ?_;rintro⟨ck,t_⟩ m8 l9 av hl3 J8 lw;try unfold uK at av;rcases zI av with⟨c2,av⟩|⟨c2,av⟩
        ·obtain⟨ib,h0,av⟩:=zc av;obtain⟨ia,h1,av⟩:=zc av;obtain⟨fj,h2,av⟩:=zc av;let Z0:List HO:=[Hq c2,Hn (iL (eOs 1 true eB) h0),Hs (iM (eOs 1 true eB) h0),Hi (eSl 1 true eB) h1,Hi eB h2];rcases zI av with⟨c3,av⟩|⟨c3,av⟩
         ·obtain⟨ov,h3,av⟩:=zc av;obtain rfl:=za av;exact yB X0 hC lw ((ck.set s_.toNat (ib.set t_.toNat true)),w64 (t_+1)) hl3 (Z0++(rpN 7 (Hq c3) [Hs (iM (eOs 1 true eB) h0),Hn (iL eB h3),Hs (iM (eOs 1 true eB) h0),Hs (iM eB h3),Hs (iM (eOs 1 true eB) h0),Hs (iM eB h3),Hl (sM eB ib t_ true),Hl (sM (eOs 1 true eB) ck s_ (ib.set t_.toNat true))]))
         ·obtain⟨r_,h4,av⟩:=zc av;obtain⟨oe,h5,av⟩:=zc av;obtain rfl:=za av;exact yB X0 hC lw ((ck.set s_.toNat (ib.set t_.toNat (r_==1))),w64 (t_+1)) hl3 (Z0++(rpN 5 (Hq c3) [Hc h1j (x:=(m_,cg,s_,t_)) h4 (loC zO m_ <| loC (eSl 1 false (eSl 1 true eB)) cg <| loC s8 s_ <| loC s8 t_ <| loN),Hq c3,Hq c3,Hs (iM (eOs 1 true eB) h0),Hn (iL eB h5),Hs (iM (eOs 1 true eB) h0),Hs (iM eB h5),Hs (iM (eOs 1 true eB) h0),Hs (iM eB h5),Hl (sM eB ib t_ (r_==1)),Hl (sM (eOs 1 true eB) ck s_ (ib.set t_.toNat (r_==1)))]))
        ·obtain rfl:=za av;obtain rfl:=hl3;exact yB X0 hC jk ck ah [Hq c2]
      ·obtain rfl:=za ah;obtain rfl:=hl2;exact yB X0 hC dn cn ae [Hq c1]
   ·obtain rfl:=za ae;obtain rfl:=hl1;exact yB X0 hC a6 cg aa [Hq c0]
 ·obtain⟨t9,ht9,aa⟩:=zc aa;refine yLx X0 hC w9 [1,1,1,2,1,0] [J1] (λs=>uJ m_ s.1 s.2) (λx=>z68 m_ k_ x.1 x.2) (([]:List (List Bool)),0) ht9 [(1,.d (I k_)),(2,.own (.box (zO m_))),(5,.d (I ((m_.Rows.length:Nat):Int))),(6,.own (eOs 1 true (eOs 1 true eB) [])),(7,.d (I 0))] inferInstance [] ?_;rintro⟨il,bg⟩ m9 az ae hl1 J9 ot;try unfold uJ at ae;rcases zI ae with⟨c4,ae⟩|⟨c4,ae⟩
  ·obtain⟨g2,ae⟩:=gdE ae;obtain⟨g3,ae⟩:=gdE ae;obtain rfl:=za ae;exact yB X0 hC ot ((il++([(List.replicate ((m_.Rows.length:Nat):Int).toNat false)]:List (List Bool))),w64 (bg+1)) hl1 [Hq c4,Hn (rL g2),Ha (rM 1 eB ((m_.Rows.length:Nat):Int) false),Hq (oC (eOs 1 true eB) (List.replicate ((m_.Rows.length:Nat):Int).toNat false) []),Hn (aL (eOs 1 true eB) (eOs 1 true eB) g3),Hl (aM (eOs 1 true eB) il ([(List.replicate ((m_.Rows.length:Nat):Int).toNat false)]:List (List Bool)))]
  ·obtain rfl:=za ae;obtain rfl:=hl1;exact yB X0 hC aw il aa [Hq c4]
def xV:Code:=(f157.body).getD .skip
def Wh:zN:=spF (α:=List (List Bool)) (ρ:=List Int) 157 (λx=>[(eSl 1 false (eSl 1 false eB)) x]) (λr=>F6_ r) (λx=>Yl x) [] (Q7)
abbrev z36 (out:List Int):List (Nat×T):=[(3,.own (eOs 1 false s8 out))]
abbrev z35 (bc:List (List Bool))(s_:Int)(ap:List Int)(dp:Int):List (Nat×T):=[(0,.d (eSl 1 false (eSl 1 false eB) bc)),(3,.own (eOs 1 false s8 ap)),(4,.d (I dp)),(5,.d (I s_))]
abbrev z33 (bc:List (List Bool))(ai:List Int)(s_:Int)(cj:Int)(ji:Int):List (Nat×T):=[(0,.d (eSl 1 false (eSl 1 false eB) bc)),(3,.own (eOs 1 false s8 ai)),(4,.d (I cj)),(5,.d (I s_)),(6,.d (I ji))]
abbrev z34 (bc:List (List Bool))(ai:List Int)(n_:Int)(s_:Int)(b_:Int):List (Nat×T):=[(0,.d (eSl 1 false (eSl 1 false eB) bc)),(3,.own (eOs 1 false s8 ai)),(4,.d (I n_)),(5,.d (I s_)),(6,.d (I b_))]
abbrev z32 (bc:List (List Bool))(ai:List Int)(n_:Int)(s_:Int)(t_:Int)(og:Int):List (Nat×T):=[(0,.d (eSl 1 false (eSl 1 false eB) bc)),(3,.own (eOs 1 false s8 ai)),(4,.d (I n_)),(5,.d (I s_)),(6,.d (I og)),(7,.d (I t_))]
abbrev z30 (bc:List (List Bool))(ai:List Int)(n_:Int)(s_:Int)(mw:Int)(t_:Int):List (Nat×T):=[(0,.d (eSl 1 false (eSl 1 false eB) bc)),(3,.own (eOs 1 false s8 ai)),(4,.d (I n_)),(5,.d (I s_)),(6,.d (I mw)),(7,.d (I t_))]
abbrev z31 (bc:List (List Bool))(ai:List Int)(n_:Int)(s_:Int):List (Nat×T):=[(0,.d (eSl 1 false (eSl 1 false eB) bc)),(3,.own (eOs 1 false s8 ai)),(4,.d (I n_)),(5,.d (I s_))]
theorem z6u (hC:zF prog ctr):Wh.Ok prog:=by
 refine zC ?_;rintro bc r0 aa;try unfold Yl at aa;refine yO true [(2,none)] xV 41 func157 λE hE=>?_;refine yJ X0 hC xV [1,1,1] [] [3] (λz:List Int=>Wv z=some r0) (λz=>z36 z) [(0,.d (eSl 1 false (eSl 1 false eB) bc)),(3,.own (eOs 1 true s8 [])),(4,.d (I 0))] [Hh (.cut 3)] ?_ λJ1 aw=>?_
 ·rintro out aa;unfold Wv at aa;obtain rfl:=za aa;exact yE X0 hC hE []
 ·obtain⟨t2,ht2,aa⟩:=zc aa;refine yLx X0 hC xV [1,1,1,2,1,0] [J1] (λs=>ZN bc s.1 s.2.1 s.2.2) (λx=>z31 bc x.1 x.2.1 x.2.2) (([]:List Int),0,0) ht2 [(0,.d (eSl 1 false (eSl 1 false eB) bc)),(3,.own (eOs 1 true s8 [])),(4,.d (I 0)),(5,.d (I 0))] inferInstance [] ?_;rintro⟨ai,n_,s_⟩ m2 az ae hl1 J2 a6;try unfold ZN at ae
  let Z0:List HO:=[Ha (lnM (eSl 1 false eB) bc)];rcases zI ae with⟨c0,ae⟩|⟨c0,ae⟩
  ·refine yJ X0 hC xV [1,1,1,2,1,0,0,1] [J1,J2] [0,3,4,5] (λz:List Int×Int=>ZP s_ z.1 z.2=some az) (λz=>z35 bc s_ z.1 z.2) [(0,.d (eSl 1 false (eSl 1 false eB) bc)),(3,.own (eOs 1 false s8 ai)),(4,.d (I n_)),(5,.d (I s_))] (Z0++[Hq c0,Hh (.cut 0)]) ?_ λJ3 bk=>?_
   ·rintro⟨ap,dp⟩ ae;unfold ZP at ae;obtain rfl:=za ae;exact yB X0 hC a6 (ap,dp,w64 (s_+1)) hl1 []
   ·refine yJ X0 hC xV [1,1,1,2,1,0,0,1,2,0,1] [J1,J2,J3] [0,3,4,5,6] (λz:Int=>ZO ai n_ s_ z=some az) (λz=>z34 bc ai n_ s_ z) [(0,.d (eSl 1 false (eSl 1 false eB) bc)),(3,.own (eOs 1 false s8 ai)),(4,.d (I n_)),(5,.d (I s_)),(6,.d (I (-1)))] [Hh (.cut 1)] ?_ λJ4 d0=>?_
    ·rintro b_ ae;unfold ZO at ae;refine yJ X0 hC xV [1,1,1,2,1,0,0,1,2,0,1,1] [J1,J2,J3] [0,3,4,5,6] (λz:Int×Int=>vO ai s_ z.1 z.2=some az) (λz=>z33 bc ai s_ z.1 z.2) [(0,.d (eSl 1 false (eSl 1 false eB) bc)),(3,.own (eOs 1 false s8 ai)),(4,.d (I n_)),(5,.d (I s_)),(6,.d (I b_))] [Hh (.cut 0)] ?_ λJ5 dn=>?_
     ·rintro⟨cj,ji⟩ ae;unfold vO at ae;obtain⟨g0,ae⟩:=gdE ae;exact yB X0 hC bk ((ai++([ji]:List Int)),cj) ae [Hq (dM s8 ([ji]:List Int)),Hn (dM s8 ([ji]:List Int)),Hn (aL s8 s8 g0),Hl (aM s8 ai ([ji]:List Int))]
     ·rcases zI ae with⟨c1,ae⟩|⟨c1,ae⟩
      ·exact yB X0 hC dn (w64 (n_+1),n_) ae [Hq c1]
      ·exact yB X0 hC dn (n_,b_) ae [Hq c1]
    ·obtain⟨t6,la,ae⟩:=zc ae;refine yL X0 hC xV [1,1,1,2,1,0,0,1,2,0,1,2,1,0] [J1,J2,J3,J4] (λs=>qH bc ai s_ s.1 s.2) (λx=>z30 bc ai n_ s_ x.1 x.2) ((-1),0) la  [] ?_;rintro⟨mw,t_⟩ m6 dl ah hl2 J6 fp;try unfold qH at ah;rcases zI ah with⟨c2,ah⟩|⟨c2,ah⟩
     ·refine yJ X0 hC xV [1,1,1,2,1,0,0,1,2,0,1,2,1,0,0,1] [J1,J2,J3,J4,J6] [0,3,4,5,6,7] (λz:Int=>qI t_ z=some dl) (λz=>z32 bc ai n_ s_ t_ z) [(0,.d (eSl 1 false (eSl 1 false eB) bc)),(3,.own (eOs 1 false s8 ai)),(4,.d (I n_)),(5,.d (I s_)),(6,.d (I mw)),(7,.d (I t_))] [Hq c2,Hh (.cut 0)] ?_ λJ7 jk=>?_
      ·rintro og ah;unfold qI at ah;obtain rfl:=za ah;exact yB X0 hC fp (og,w64 (t_+1)) hl2 []
      ·obtain⟨ia,h0,ah⟩:=zc ah;obtain⟨fj,h1,ah⟩:=zc ah;let Z1:List HO:=[Hi (eSl 1 false eB) h0,Hi eB h1];rcases zI ah with⟨c3,ah⟩|⟨c3,ah⟩
       ·obtain⟨co,h2,ah⟩:=zc ah;exact yB X0 hC jk co ah (Z1++[Hq c3,Hn (iL s8 h2),Hs (iM s8 h2)])
       ·exact yB X0 hC jk mw ah (Z1++[Hq c3])
     ·obtain rfl:=za ah;obtain rfl:=hl2;exact yB X0 hC d0 mw ae [Hq c2]
  ·obtain rfl:=za ae;obtain rfl:=hl1;exact yB X0 hC aw ai aa (Z0++[Hq c0])
def zan:Code:=(f129.body).getD .skip
def QZ:zN:=spF (α:=z6×Int) (ρ:=List Int) 129 (λx=>[zO x.1,s8 x.2]) (λr=>F6_ r) (λx=>Ks x.1 x.2) [] (W2)
theorem zbd (hC:zF prog ctr)(h1k:ctr.Has J0)(h0X:ctr.Has Wh):QZ.Ok prog:=by refine zC ?_;rintro⟨m_,k_⟩ r0 aa;try unfold Ks at aa;refine yO true [(4,none)] zan 9 func129 λE hE=>?_;obtain⟨r_,h0,aa⟩:=zc aa;obtain⟨aj,h1,aa⟩:=zc aa;obtain rfl:=za aa;exact yE X0 hC hE [Hc h1k (x:=(m_,k_)) h0 (loC zO m_ <| loC s8 k_ <| loN),Hg (JO h0X),Hm (shM (eOs 1 true eB) (eSl 1 true eB) r_),Hs (JP h0X (x:=r_) h1 (loC (eSl 1 false (eSl 1 true eB)) r_ <| loN)),Hm (shM (eOs 1 true eB) (eSl 1 true eB) r_)]
def z8h:Code:=(f97.body).getD .skip
def Xm:zN:=spF (α:=z6) (ρ:=List Int) 97 (λx=>[zO x]) (λr=>F6_ r) (λx=>YJ x) [] (Q7)
theorem z95 (hC:zF prog ctr)(h1l:ctr.Has QZ):Xm.Ok prog:=by refine zC ?_;rintro m_ r0 aa;try unfold YJ at aa;refine yO true [(2,none)] z8h 8 func97 λE hE=>?_;obtain⟨r_,h0,aa⟩:=zc aa;obtain rfl:=za aa;exact yE X0 hC hE [Ha (lnM yN m_.Rows),Hc h1l (x:=(m_,((m_.Rows.length:Nat):Int))) h0 (loC zO m_ <| loC s8 ((m_.Rows.length:Nat):Int) <| loN)]
def zdv:Code:=(f101.body).getD .skip
def Wj:zN:=spF (α:=z6×Int×Int) (ρ:=z8) 101 (λx=>[zO x.1,s8 x.2.1,s8 x.2.2]) (λr=>F9_ r) (λx=>QF x.1 x.2.1 x.2.2) [] (zdJ)
theorem zdW (hC:zF prog ctr):Wj.Ok prog:=by
 refine zC ?_;rintro⟨m_,s_,i_⟩ r0 aa;try unfold QF at aa;refine yO false [(6,some 99)] zdv 18 func101 λE hE=>?_;rcases zI aa with⟨c0,aa⟩|⟨c0,aa⟩
 ·obtain rfl:=za aa;exact yE X0 hC hE [Hq c0]
 ·obtain⟨aq,h0,aa⟩:=zc aa;obtain⟨al,h1,aa⟩:=zc aa;obtain rfl:=za aa;exact yE X0 hC hE [Hq c0,Hi yN h0,Hi F9_ h1]
def zbD:Code:=(f84.body).getD .skip
def VY:zN:=spF (α:=z6×Int×List Int) (ρ:=Int) 84 (λx=>[zO x.1,s8 x.2.1,F7_ x.2.2]) (λr=>s8 r) (λx=>Jl x.1 x.2.1 x.2.2) [] (zdJ)
theorem z5d:∀(x y:z6×Int×List Int),(λx=>[zO x.1,s8 x.2.1,F7_ x.2.2]) x=(λx=>[zO x.1,s8 x.2.1,F7_ x.2.2]) y->x=y:=zdJ
def UX (lk:z6->Int->(List Int)->Option Int):zN:=spF (α:=z6×Int×List Int) (ρ:=Int) 84 (λx=>[zO x.1,s8 x.2.1,F7_ x.2.2]) (λr=>s8 r) (λx=>lk x.1 x.2.1 x.2.2) [] (by intro x y h;exact(congrArg (λ(p:z6×Int×List Int)=>p) (show x=y from z5d x y h)))
theorem z97 (hC:zF prog ctr)(h0f:ctr.Has Wj)(lk:z6->Int->(List Int)->Option Int)(h1m:ctr.Has (UX lk)):(UX (YK lk)).Ok prog:=by
 refine zC ?_;rintro⟨m_,s_,w_⟩ r0 aa;try unfold YK at aa;refine yO true [(6,none)] zbD 22 func84 λE hE=>?_;rcases zI aa with⟨c0,aa⟩|⟨c0,aa⟩
 ·obtain rfl:=za aa;exact yE X0 hC hE [Ha (lnM s8 w_),Hq c0]
 ·obtain⟨gu,h0,aa⟩:=zc aa;obtain⟨r_,h1,aa⟩:=zc aa;obtain⟨g0,aa⟩:=gdE aa;obtain⟨aj,h2,aa⟩:=zc aa;obtain rfl:=za aa;exact yE ((zCp zx zsw).or X0) hC hE [Ha (lnM s8 w_),Hq c0,Hi s8 h0,Hc h0f (x:=(m_,s_,gu)) h1 (loC zO m_ <| loC s8 s_ <| loC s8 gu <| loN),Hn (slA g0),Hn (zuV s8 g0),Ha (slE 1 false s8 w_ (1:Int).toNat),Hc h1m (x:=(m_,r_.To,(w_.drop (1:Int).toNat))) h2 (loC zO m_ <| loC s8 r_.To <| loC F7_ (w_.drop (1:Int).toNat) <| loN)]
theorem zcF (hC:zF prog ctr)(h0f:ctr.Has Wj):VY.Ok prog:=by
 have H:∀n,(UX (WH n)).Ok prog:=by
  intro n;induction n with
  | zero=>exact zC λ_ _ h=>nomatch (show none=some _ from h)
  | succ n ih=>exact z97 (Ctr.add_ok hC ih) (h0f.add (by show(101:Nat)≠84;decide)) _ (Ctr.add_has _ _)
 exact zC λx r h=>zjD (H _) h
def z1v:Code:=(f152.body).getD .skip
def z0R:zN:=spF (α:=List Int×Int) (ρ:=List Int) 152 (λx=>[F7_ x.1,s8 x.2]) (λr=>F6_ r) (λx=>Vz x.1 x.2) [] (W2)
abbrev z8y (out:List Int):List (Nat×T):=[(5,.own (eOs 1 false s8 out))]
abbrev z8x (inputs:Int)(ai:List Int)(k_:Int):List (Nat×T):=[(1,.d (I inputs)),(5,.own (eOs 1 false s8 ai)),(6,.d (I k_))]
theorem zdU (hC:zF prog ctr):z0R.Ok prog:=by
 refine zC ?_;rintro⟨w_,inputs⟩ r0 aa;try unfold Vz at aa;refine yO true [(4,none)] z1v 37 func152 λE hE=>?_;obtain⟨g0,aa⟩:=gdE aa;refine yJ X0 hC z1v [1,1] [] [5] (λz:List Int=>WE z=some r0) (λz=>z8y z) [(1,.d (I inputs)),(5,.own (eOs 1 false s8 w_))] [Hn (dM s8 w_),Hn (aL s8 s8 g0),Hl (aM0 s8 w_),Hh (.cut 0)] ?_ λJ1 aw=>?_
 ·rintro out aa;unfold WE at aa;obtain⟨g1,aa⟩:=gdE aa;obtain rfl:=za aa;exact yE X0 hC hE [Hq (dM s8 ([0]:List Int)),Hn (dM s8 ([0]:List Int)),Hn (aL s8 s8 g1),Hl (aM s8 out ([0]:List Int))]
 ·obtain⟨t2,ht2,aa⟩:=zc aa;refine yL X0 hC z1v [1,1,2,1,0] [J1] (λs=>WD inputs s.1 s.2) (λx=>z8x inputs x.1 x.2) (w_,w64 (((w_.length:Nat):Int) - 1)) ht2  [Ha (lnM s8 w_)] ?_;rintro⟨ai,k_⟩ m2 az ae hl1 J2 a6;try unfold WD at ae;rcases zI ae with⟨c0,ae⟩|⟨c0,ae⟩
  ·obtain⟨co,h0,ae⟩:=zc ae;let Z0:List HO:=[Hq c0,Hn (iL s8 h0),Hs (iM s8 h0)];rcases zI ae with⟨c1,ae⟩|⟨c1,ae⟩
   ·obtain⟨ic,h1,ae⟩:=zc ae;obtain⟨nj,h2,ae⟩:=zc ae;obtain rfl:=za ae;obtain rfl:=hl1;obtain rfl:=za aa;exact yE X0 hC hE (Z0++[Hq c1,Hn (iL s8 h1),Hs (iM s8 h1),Hn (iL s8 h2),Hs (iM s8 h2),Hs (iM s8 h2),Hl (sM s8 ai k_ (w64 (ic+1)))])
   ·obtain⟨nk,h3,ae⟩:=zc ae;obtain rfl:=za ae;exact yB X0 hC a6 ((ai.set k_.toNat 0),w64 (k_ - 1)) hl1 (Z0++[Hq c1,Hn (iL s8 h3),Hs (iM s8 h3),Hs (iM s8 h3),Hl (sM s8 ai k_ 0)])
  ·obtain rfl:=za ae;obtain rfl:=hl1;exact yB X0 hC aw ai aa [Hq c0]
def Ur:Code:=(f122.body).getD .skip
def KL:zN:=spF (α:=z6×Int) (ρ:=List (List Int)×List Bool) 122 (λx=>[zO x.1,s8 x.2]) (λr=>.tup [zfy r.1,(eSl 1 true eB) r.2]) (λx=>Jj x.1 x.2) [] (W2)
abbrev z7u (l_:List (List Int))(is:List Bool):List (Nat×T):=[(6,.own (eOs 1 true F7_ l_)),(7,.own (eOs 1 true eB is))]
abbrev z7t (m_:z6)(from_:Int)(w_:List Int)(j4:List (List Int))(oh:List Bool):List (Nat×T):=[(1,.d (I from_)),(2,.own (.box (zO m_))),(6,.own (eOs 1 true F7_ j4)),(7,.own (eOs 1 true eB oh)),(8,.d (eSl 1 false s8 w_))]
abbrev z7s (m_:z6)(from_:Int)(ez:List (List Int))(fy:List Bool)(w_:List Int):List (Nat×T):=[(1,.d (I from_)),(2,.own (.box (zO m_))),(6,.own (eOs 1 true F7_ ez)),(7,.own (eOs 1 true eB fy)),(8,.own (eOs 1 false s8 w_))]
def um:XH prog:=((QJ zx (.inr 48) [8]).or X0)
theorem zcD (hC:zF prog ctr)(h0v:ctr.Has VY)(h1n:ctr.Has z0R):KL.Ok prog:=by
 refine zC ?_;rintro⟨m_,from_⟩ r0 aa;try unfold Jj at aa;refine yO false [(4,none),(5,none)] Ur 51 func122 λE hE=>?_;obtain⟨g0,aa⟩:=gdE aa;obtain⟨g1,aa⟩:=gdE aa;refine yJ um hC Ur [1,1,1] [] [6,7] (λz:List (List Int)×List Bool=>Uj z.1 z.2=some r0) (λz=>z7u z.1 z.2) [(1,.d (I from_)),(2,.own (.box (zO m_))),(6,.own (eOs 1 true F3_ (List.replicate ((m_.Rows.length:Nat):Int).toNat ([]:List Int)))),(7,.own (eOs 1 true eB (List.replicate ((m_.Rows.length:Nat):Int).toNat false)))] [Ha (lnM yN m_.Rows),Hn (rL g0),Ha (rM 1 F4_ ((m_.Rows.length:Nat):Int) ([]:List Int)),Hh (.v 0 [6]),Hm (shM F4_ F3_ (List.replicate ((m_.Rows.length:Nat):Int).toNat ([]:List Int))),Ha (lnM yN m_.Rows),Hn (rL g1),Ha (rM 1 eB ((m_.Rows.length:Nat):Int) false),Hh (.cut 0)] ?_ λJ1 aw=>?_
 ·rintro⟨l_,is⟩ aa;unfold Uj at aa;obtain rfl:=za aa;exact yE um hC hE [Hm (shM F7_ F7_ l_),Hm (shM eB eB is)]
 ·obtain⟨t2,ht2,aa⟩:=zc aa;refine yLx um hC Ur [1,1,1,2,1,0] [J1] (λs=>Ui m_ from_ s.1 s.2.1 s.2.2) (λx=>z7s m_ from_ x.1 x.2.1 x.2.2) ((List.replicate ((m_.Rows.length:Nat):Int).toNat ([]:List Int)),(List.replicate ((m_.Rows.length:Nat):Int).toNat false),([]:List Int)) ht2 [(1,.d (I from_)),(2,.own (.box (zO m_))),(6,.own (eOs 1 true F3_ (List.replicate ((m_.Rows.length:Nat):Int).toNat ([]:List Int)))),(7,.own (eOs 1 true eB (List.replicate ((m_.Rows.length:Nat):Int).toNat false))),(8,.own (eOs 1 true s8 []))] inferInstance [] ?_;rintro⟨ez,fy,w_⟩ m2 az ae hl1 J2 a6;try unfold Ui at ae
  let Z0:List HO:=[Ha (lnM s8 w_),Ha (lnM yN m_.Rows)];rcases zI ae with⟨c0,ae⟩|⟨c0,ae⟩
  ·refine yJ um hC Ur [1,1,1,2,1,0,0,1] [J1,J2] [1,2,6,7,8] (λz:List (List Int)×List Bool=>qW m_ w_ z.1 z.2=some az) (λz=>z7t m_ from_ w_ z.1 z.2) [(1,.d (I from_)),(2,.own (.box (zO m_))),(6,.own (eOs 1 true F7_ ez)),(7,.own (eOs 1 true eB fy)),(8,.d (eSl 1 false s8 w_))] (Z0++[Hq c0,Hh (.n 1 [8]),Hm (shM s8 s8 w_),Hh (.cut 0)]) ?_ λJ3 bk=>?_
   ·rintro⟨j4,oh⟩ ae;unfold qW at ae;obtain⟨r_,h0,ae⟩:=zc ae;obtain rfl:=za ae;exact yB um hC a6 (j4,oh,r_) hl1 [Hc h1n (x:=(w_,m_.Inputs)) h0 (loC F7_ w_ <| loC s8 m_.Inputs <| loN)]
   ·obtain⟨aj,h1,ae⟩:=zc ae;let Z1:List HO:=[Hc h0v (x:=(m_,from_,w_)) h1 (loC zO m_ <| loC s8 from_ <| loC F7_ w_ <| loN)];rcases zI ae with⟨c1,ae⟩|⟨c1,ae⟩
    ·obtain⟨n7,h2,ae⟩:=zc ae;let Z2:List HO:=(Z1++[Hq c1,Hq c1,Hq c1,Hn (iL eB h2),Hq c1,Hs (iM eB h2),Hq c1,Hq c1]);rcases zI ae with⟨c2,ae⟩|⟨c2,ae⟩
     ·obtain⟨ph,h3,ae⟩:=zc ae;obtain⟨cd,h4,ae⟩:=zc ae;exact yB um hC bk ((ez.set aj.toNat w_),(fy.set aj.toNat true)) ae (Z2++[Hq c2,Hn (iL eB h3),Hs (iM eB h3),Hs (iM eB h3),Hl (sM eB fy aj true),Hn (iL F7_ h4),Hs (iM F7_ h4),Hs (iM F7_ h4),Hl (sM F7_ ez aj w_)])
     ·exact yB um hC bk (ez,fy) ae (Z2++[Hq c2])
    ·exact yB um hC bk (ez,fy) ae (Z1++(rpN 6 (Hq c1) [qF]))
  ·obtain rfl:=za ae;obtain rfl:=hl1;exact yB um hC aw (ez,fy) aa (Z0++[Hq c0])
def zao:Code:=(f81.body).getD .skip
def Wi:zN:=spF (α:=z6) (ρ:=List (List Int)×List Bool) 81 (λx=>[zO x]) (λr=>.tup [zfy r.1,(eSl 1 true eB) r.2]) (λx=>XV x) [] (Q7)
theorem zbf (hC:zF prog ctr)(h1o:ctr.Has KL):Wi.Ok prog:=by refine zC ?_;rintro m_ r0 aa;try unfold XV at aa;refine yO false [(2,none),(3,none)] zao 8 func81 λE hE=>?_;obtain⟨r_,h0,aa⟩:=zc aa;obtain rfl:=za aa;exact yE X0 hC hE [Hc h1o (x:=(m_,0)) h0 (loC zO m_ <| loC s8 0 <| loN)]
def z1w:Code:=(f143.body).getD .skip
def z0S:zN:=spF (α:=List Int×List Int) (ρ:=Int) 143 (λx=>[F7_ x.1,F7_ x.2]) (λr=>s8 r) (λx=>z0i x.1 x.2) [] (W2)
abbrev z8A:List (Nat×T):=[]
abbrev z8z (a_:List Int)(b_:List Int)(i_:Int):List (Nat×T):=[(0,.d (eSl 1 false s8 a_)),(1,.d (eSl 1 false s8 b_)),(5,.d (I i_))]
theorem zdV (hC:zF prog ctr):z0S.Ok prog:=by
 refine zC ?_;rintro⟨a_,b_⟩ r0 aa;try unfold z0i at aa;refine yO true [(4,none)] z1w 40 func143 λE hE=>?_
 let Z0:List HO:=[Ha (lnM s8 a_),Ha (lnM s8 b_)];rcases zI aa with⟨c0,aa⟩|⟨c0,aa⟩
 ·let Z1:List HO:=(Z0++[Hq c0,Ha (lnM s8 a_),Ha (lnM s8 b_)]);rcases zI aa with⟨c1,aa⟩|⟨c1,aa⟩
  ·obtain rfl:=za aa;exact yE X0 hC hE (Z1++[Hq c1])
  ·obtain rfl:=za aa;exact yE X0 hC hE (Z1++[Hq c1])
 ·refine yJ X0 hC z1w [1,1] [] [] (λz:Unit=>z18=some r0) (λz=>z8A) [(0,.d (eSl 1 false s8 a_)),(1,.d (eSl 1 false s8 b_))] (Z0++[Hq c0,Hh (.cut 0)]) ?_ λJ1 aw=>?_
  ·rintro⟨⟩ aa;unfold z18 at aa;obtain rfl:=za aa;exact yE X0 hC hE []
  ·obtain⟨t2,ht2,aa⟩:=zc aa;refine yL X0 hC z1w [1,1,2,1,0] [J1] (λs=>WF a_ b_ s) (λx=>z8z a_ b_ x) 0 ht2  [] ?_;rintro i_ m2 az ae hl1 J2 a6;try unfold WF at ae;rcases zI ae with⟨c2,ae⟩|⟨c2,ae⟩
   ·obtain⟨cq,h0,ae⟩:=zc ae;obtain⟨ct,h1,ae⟩:=zc ae;let Z2:List HO:=[Ha (lnM s8 a_),Hq c2,Hi s8 h0,Hi s8 h1];rcases zI ae with⟨c3,ae⟩|⟨c3,ae⟩
    ·obtain⟨gh,h2,ae⟩:=zc ae;obtain⟨kh,h3,ae⟩:=zc ae;let Z3:List HO:=(Z2++[Hq c3,Hi s8 h2,Hi s8 h3]);rcases zI ae with⟨c4,ae⟩|⟨c4,ae⟩
     ·obtain rfl:=za ae;obtain rfl:=hl1;obtain rfl:=za aa;exact yE X0 hC hE (Z3++[Hq c4])
     ·obtain rfl:=za ae;obtain rfl:=hl1;obtain rfl:=za aa;exact yE X0 hC hE (Z3++[Hq c4])
    ·obtain rfl:=za ae;exact yB X0 hC a6 (w64 (i_+1)) hl1 (Z2++[Hq c3])
   ·obtain rfl:=za ae;obtain rfl:=hl1;exact yB X0 hC aw () aa [Ha (lnM s8 a_),Hq c2]
def ZC:Code:=(f109.body).getD .skip
def KN:zN:=spF (α:=z6) (ρ:=List Int) 109 (λx=>[zO x]) (λr=>F6_ r) (λx=>Jk x) [] (Q7)
abbrev z7z (out:List Int):List (Nat×T):=[(5,.own (eOs 1 false s8 out))]
abbrev z7y (r_:List (List Int)×List Bool)(s_:Int)(ap:List Int):List (Nat×T):=[(3,.d (eSl 1 true F7_ r_.1)),(4,.d (eSl 1 true eB r_.2)),(5,.own (eOs 1 false s8 ap)),(6,.d (I s_))]
abbrev z7x (r_:List (List Int)×List Bool)(ai:List Int)(s_:Int)(k_:Int):List (Nat×T):=[(3,.d (eSl 1 true F7_ r_.1)),(4,.d (eSl 1 true eB r_.2)),(5,.own (eOs 1 false s8 ai)),(6,.d (I s_)),(7,.d (I k_))]
abbrev z7v (r_:List (List Int)×List Bool)(ai:List Int)(s_:Int)(cb:Int):List (Nat×T):=[(3,.d (eSl 1 true F7_ r_.1)),(4,.d (eSl 1 true eB r_.2)),(5,.own (eOs 1 false s8 ai)),(6,.d (I s_)),(7,.d (I cb))]
abbrev z7w (r_:List (List Int)×List Bool)(ai:List Int)(s_:Int):List (Nat×T):=[(3,.d (eSl 1 true F7_ r_.1)),(4,.d (eSl 1 true eB r_.2)),(5,.own (eOs 1 false s8 ai)),(6,.d (I s_))]
def xN:XH prog:=((QJ zx (.inl 49) []).or ((QJ zx (.inl 47) [5]).or X0))
theorem zcE (hC:zF prog ctr)(h0w:ctr.Has Wi)(h1p:ctr.Has z0S):KN.Ok prog:=by
 refine zC ?_;rintro m_ r0 aa;try unfold Jk at aa;refine yO true [(2,none)] ZC 61 func109 λE hE=>?_;obtain⟨r_,h0,aa⟩:=zc aa;refine yJ xN hC ZC [1,1,1] [] [5] (λz:List Int=>KS z=some r0) (λz=>z7z z) [(3,.d (eSl 1 true F7_ r_.1)),(4,.d (eSl 1 true eB r_.2)),(5,.own (eOs 1 true s8 []))] [Hc h0w (x:=m_) h0 (loC zO m_ <| loN),Hh (.cut 1)] ?_ λJ1 aw=>?_
 ·rintro out aa;unfold KS at aa;obtain rfl:=za aa;exact yE xN hC hE []
 ·obtain⟨t2,ht2,aa⟩:=zc aa;refine yLx xN hC ZC [1,1,1,2,1,0] [J1] (λs=>Xd r_ s.1 s.2) (λx=>z7w r_ x.1 x.2) (([]:List Int),0) ht2 [(3,.d (eSl 1 true F7_ r_.1)),(4,.d (eSl 1 true eB r_.2)),(5,.own (eOs 1 true s8 [])),(6,.d (I 0))] inferInstance [] ?_;rintro⟨ai,s_⟩ m2 az ae hl1 J2 a6;try unfold Xd at ae
  let Z0:List HO:=[Ha (lnM F7_ r_.1)];rcases zI ae with⟨c0,ae⟩|⟨c0,ae⟩
  ·refine yJ xN hC ZC [1,1,1,2,1,0,0,1] [J1,J2] [3,4,5,6] (λz:List Int=>Zu s_ z=some az) (λz=>z7y r_ s_ z) [(3,.d (eSl 1 true F7_ r_.1)),(4,.d (eSl 1 true eB r_.2)),(5,.own (eOs 1 false s8 ai)),(6,.d (I s_))] (Z0++[Hq c0,Hh (.cut 0)]) ?_ λJ3 bk=>?_
   ·rintro ap ae;unfold Zu at ae;obtain rfl:=za ae;exact yB xN hC a6 (ap,w64 (s_+1)) hl1 []
   ·obtain⟨u_,h1,ae⟩:=zc ae;rcases zI ae with⟨c1,ae⟩|⟨c1,ae⟩
    ·exact yB xN hC bk ai ae [Hi eB h1,Hq c1]
    ·refine yJ xN hC ZC [1,1,1,2,1,0,0,1,2,0,1,1] [J1,J2,J3] [3,4,5,6,7] (λz:Int=>Uk ai s_ z=some az) (λz=>z7x r_ ai s_ z) [(3,.d (eSl 1 true F7_ r_.1)),(4,.d (eSl 1 true eB r_.2)),(5,.own (eOs 1 false s8 ai)),(6,.d (I s_)),(7,.d (I 0))] [Hi eB h1,Hq c1,Hh (.cut 1)] ?_ λJ4 d0=>?_
     ·rintro k_ ae;unfold Uk at ae;obtain⟨g0,ae⟩:=gdE ae;obtain⟨g1,ae⟩:=gdE ae;obtain⟨g2,ae⟩:=gdE ae;obtain⟨g3,ae⟩:=gdE ae;obtain⟨g4,ae⟩:=gdE ae;exact yB xN hC bk ((((ai.drop 0).take (k_.toNat - 0))++([s_]:List Int))++(ai.drop k_.toNat)) ae [Hm (shM s8 s8 ai),Hn (slB g0),Hn (znB s8 g0),Ha (slM 1 false s8 ai 0 k_.toNat),Hn (dM s8 ((ai.drop 0).take (k_.toNat - 0))),Hn (aL s8 s8 g1),Hl (aM0 s8 ((ai.drop 0).take (k_.toNat - 0))),Hq (dM s8 ([s_]:List Int)),Hn (dM s8 ([s_]:List Int)),Hn (aL s8 s8 g2),Hl (aM s8 ((ai.drop 0).take (k_.toNat - 0)) ([s_]:List Int)),Hn (slA g3),Hn (zuV s8 g3),Ha (slE 1 false s8 ai k_.toNat),Hn (dM s8 (ai.drop k_.toNat)),Hn (aL s8 s8 g4),Hl (aM s8 (((ai.drop 0).take (k_.toNat - 0))++([s_]:List Int)) (ai.drop k_.toNat))]
     ·obtain⟨t5,ht5,ae⟩:=zc ae;refine yL xN hC ZC [1,1,1,2,1,0,0,1,2,0,1,1,2,0] [J1,J2,J3,J4] (λs=>Xc r_ ai s_ s) (λx=>z7v r_ ai s_ x) 0 ht5  [] ?_;rintro cb m5 dl ah hl2 J5 dn;try unfold Xc at ah;rcases zI ah with⟨c2,ah⟩|⟨c2,ah⟩
      ·obtain⟨co,h2,ah⟩:=zc ah;obtain⟨ow,h3,ah⟩:=zc ah;obtain⟨ox,h4,ah⟩:=zc ah;obtain⟨aj,h5,ah⟩:=zc ah;let Z1:List HO:=(Ha (lnM s8 ai)::(rpN 4 (Hq c2) (Hn (iL s8 h2)::Hq c2::Hs (iM s8 h2)::Hq c2::Hi F7_ h3::(rpN 4 (Hq c2) [Hi F7_ h4,Hq c2,Hq c2,Hc h1p (x:=(ow,ox)) h5 (loC F7_ ow <| loC F7_ ox <| loN),Hq c2,Hq c2]))));rcases zI ah with⟨c3,ah⟩|⟨c3,ah⟩
       ·obtain rfl:=za ah;exact yB xN hC dn (w64 (cb+1)) hl2 (Z1++[Hq c3])
       ·obtain rfl:=za ah;obtain rfl:=hl2;exact yB xN hC d0 cb ae (Z1++[Hq c3])
      ·obtain rfl:=za ah;obtain rfl:=hl2;exact yB xN hC d0 cb ae (Ha (lnM s8 ai)::(rpN 14 (Hq c2) [qF]))
  ·obtain rfl:=za ae;obtain rfl:=hl1;exact yB xN hC aw ai aa (Z0++[Hq c0])
def uS:Code:=(f66.body).getD .skip
def Wg:zN:=spF (α:=z6) (ρ:=List Int) 66 (λx=>[zO x]) (λr=>F6_ r) (λx=>Yk x) [] (Q7)
abbrev z67 (out:List Int):List (Nat×T):=[(5,.own (eOs 1 false s8 out))]
abbrev z65 (r_:List Int)(aj:List Int)(k_:Int)(ap:List Int):List (Nat×T):=[(3,.own (eOs 1 false s8 r_)),(4,.own (eOs 1 false s8 aj)),(5,.own (eOs 1 false s8 ap)),(6,.d (I k_))]
abbrev z64 (r_:List Int)(aj:List Int)(ai:List Int)(k_:Int)(there:Int):List (Nat×T):=[(3,.own (eOs 1 false s8 r_)),(4,.own (eOs 1 false s8 aj)),(5,.own (eOs 1 false s8 ai)),(6,.d (I k_)),(7,.d (I there))]
abbrev z63 (r_:List Int)(aj:List Int)(ai:List Int)(k_:Int)(n_:Int)(lm:Int):List (Nat×T):=[(3,.own (eOs 1 false s8 r_)),(4,.own (eOs 1 false s8 aj)),(5,.own (eOs 1 false s8 ai)),(6,.d (I k_)),(7,.d (I lm)),(8,.d (I n_))]
abbrev z61 (r_:List Int)(aj:List Int)(ai:List Int)(k_:Int)(da:Int)(n_:Int):List (Nat×T):=[(3,.own (eOs 1 false s8 r_)),(4,.own (eOs 1 false s8 aj)),(5,.own (eOs 1 false s8 ai)),(6,.d (I k_)),(7,.d (I da)),(8,.d (I n_))]
abbrev z62 (r_:List Int)(aj:List Int)(ai:List Int)(k_:Int):List (Nat×T):=[(3,.own (eOs 1 false s8 r_)),(4,.own (eOs 1 false s8 aj)),(5,.own (eOs 1 false s8 ai)),(6,.d (I k_))]
theorem zbb (hC:zF prog ctr)(h0x:ctr.Has Xm)(h1q:ctr.Has KN):Wg.Ok prog:=by
 refine zC ?_;rintro m_ r0 aa;try unfold Yk at aa;refine yO true [(2,none)] uS 49 func66 λE hE=>?_;obtain⟨r_,h0,aa⟩:=zc aa;obtain⟨aj,h1,aa⟩:=zc aa;refine yJ X0 hC uS [1,1,1,1] [] [5] (λz:List Int=>Wu z=some r0) (λz=>z67 z) [(3,.own (eOs 1 false s8 r_)),(4,.own (eOs 1 false s8 aj)),(5,.own (eOs 1 true s8 []))] [Hc h0x (x:=m_) h0 (loC zO m_ <| loN),Hc h1q (x:=m_) h1 (loC zO m_ <| loN),Hh (.cut 1)] ?_ λJ1 aw=>?_
 ·rintro out aa;unfold Wu at aa;obtain rfl:=za aa;exact yE X0 hC hE []
 ·obtain⟨t2,ht2,aa⟩:=zc aa;refine yLx X0 hC uS [1,1,1,1,2,1,0] [J1] (λs=>Ws r_ aj s.1 s.2) (λx=>z62 r_ aj x.1 x.2) (([]:List Int),0) ht2 [(3,.own (eOs 1 false s8 r_)),(4,.own (eOs 1 false s8 aj)),(5,.own (eOs 1 true s8 [])),(6,.d (I 0))] inferInstance [] ?_;rintro⟨ai,k_⟩ m2 az ae hl1 J2 a6;try unfold Ws at ae;rcases zI ae with⟨c0,ae⟩|⟨c0,ae⟩
  ·refine yJ X0 hC uS [1,1,1,1,2,1,0,0,1] [J1,J2] [3,4,5,6] (λz:List Int=>jQ k_ z=some az) (λz=>z65 r_ aj k_ z) [(3,.own (eOs 1 false s8 r_)),(4,.own (eOs 1 false s8 aj)),(5,.own (eOs 1 false s8 ai)),(6,.d (I k_))] [Ha (lnM s8 aj),Hq c0,Hh (.cut 0)] ?_ λJ3 bk=>?_
   ·rintro ap ae;unfold jQ at ae;obtain rfl:=za ae;exact yB X0 hC a6 (ap,w64 (k_+1)) hl1 []
   ·refine yJ X0 hC uS [1,1,1,1,2,1,0,0,1,2,0,1] [J1,J2,J3] [3,4,5,6,7] (λz:Int=>Wt aj ai k_ z=some az) (λz=>z64 r_ aj ai k_ z) [(3,.own (eOs 1 false s8 r_)),(4,.own (eOs 1 false s8 aj)),(5,.own (eOs 1 false s8 ai)),(6,.d (I k_)),(7,.d (I 0))] [Hh (.cut 1)] ?_ λJ4 d0=>?_
    ·rintro there ae;unfold Wt at ae;rcases zI ae with⟨c1,ae⟩|⟨c1,ae⟩
     ·obtain⟨dw,h2,ae⟩:=zc ae;obtain⟨g0,ae⟩:=gdE ae;exact yB X0 hC bk (ai++([dw]:List Int)) ae [Hq c1,Hn (iL s8 h2),Hs (iM s8 h2),Hq (dM s8 ([dw]:List Int)),Hn (dM s8 ([dw]:List Int)),Hn (aL s8 s8 g0),Hl (aM s8 ai ([dw]:List Int))]
     ·exact yB X0 hC bk ai ae [Hq c1]
    ·obtain⟨t5,ht5,ae⟩:=zc ae;refine yL X0 hC uS [1,1,1,1,2,1,0,0,1,2,0,1,2,1,0] [J1,J2,J3,J4] (λs=>Yi r_ aj k_ s.1 s.2) (λx=>z61 r_ aj ai k_ x.1 x.2) (0,0) ht5  [] ?_;rintro⟨da,n_⟩ m5 dl ah hl2 J5 dn;try unfold Yi at ah;rcases zI ah with⟨c2,ah⟩|⟨c2,ah⟩
     ·refine yJ X0 hC uS [1,1,1,1,2,1,0,0,1,2,0,1,2,1,0,0,1] [J1,J2,J3,J4,J5] [3,4,5,6,7,8] (λz:Int=>Yj n_ z=some dl) (λz=>z63 r_ aj ai k_ n_ z) [(3,.own (eOs 1 false s8 r_)),(4,.own (eOs 1 false s8 aj)),(5,.own (eOs 1 false s8 ai)),(6,.d (I k_)),(7,.d (I da)),(8,.d (I n_))] [Hq c2,Hh (.cut 0)] ?_ λJ6 fp=>?_
      ·rintro lm ah;unfold Yj at ah;obtain rfl:=za ah;exact yB X0 hC dn (lm,w64 (n_+1)) hl2 []
      ·obtain⟨j5,h3,ah⟩:=zc ah;obtain⟨me,h4,ah⟩:=zc ah;obtain⟨mf,h5,ah⟩:=zc ah;obtain⟨oy,h6,ah⟩:=zc ah;let Z0:List HO:=[Hn (iL s8 h3),Hs (iM s8 h3),Hn (iL s8 h4),Hs (iM s8 h4),Hn (iL s8 h5),Hs (iM s8 h5),Hn (iL s8 h6),Hs (iM s8 h6)];rcases zI ah with⟨c3,ah⟩|⟨c3,ah⟩
       ·exact yB X0 hC fp 1 ah (Z0++[Hq c3])
       ·exact yB X0 hC fp da ah (Z0++[Hq c3])
     ·obtain rfl:=za ah;obtain rfl:=hl2;exact yB X0 hC d0 da ae [Hq c2]
  ·obtain rfl:=za ae;obtain rfl:=hl1;exact yB X0 hC aw ai aa [Ha (lnM s8 aj),Hq c0]
def wN:Code:=(f110.body).getD .skip
def UW:zN:=spF (α:=z6×Int) (ρ:=List Bool) 110 (λx=>[zO x.1,s8 x.2]) (λr=>(eOs 1 true eB) r) (λx=>WG x.1 x.2) [] (W2)
abbrev z4O (out:List Bool):List (Nat×T):=[(5,.own (eOs 1 true eB out))]
abbrev z4N (m_:z6)(round:Int)(ap:List Bool):List (Nat×T):=[(2,.own (.box (zO m_))),(5,.own (eOs 1 true eB ap)),(6,.d (I round))]
abbrev z4M (m_:z6)(round:Int)(s_:Int)(fq:List Bool):List (Nat×T):=[(2,.own (.box (zO m_))),(5,.own (eOs 1 true eB fq)),(6,.d (I round)),(7,.d (I s_))]
abbrev z4L (m_:z6)(round:Int)(s_:Int)(i_:Int)(nl:List Bool):List (Nat×T):=[(2,.own (.box (zO m_))),(5,.own (eOs 1 true eB nl)),(6,.d (I round)),(7,.d (I s_)),(8,.d (I i_))]
abbrev z4I (m_:z6)(round:Int)(s_:Int)(ix:List Bool)(i_:Int):List (Nat×T):=[(2,.own (.box (zO m_))),(5,.own (eOs 1 true eB ix)),(6,.d (I round)),(7,.d (I s_)),(8,.d (I i_))]
abbrev z4J (m_:z6)(round:Int)(bf:List Bool)(s_:Int):List (Nat×T):=[(2,.own (.box (zO m_))),(5,.own (eOs 1 true eB bf)),(6,.d (I round)),(7,.d (I s_))]
abbrev z4K (m_:z6)(ai:List Bool)(round:Int):List (Nat×T):=[(2,.own (.box (zO m_))),(5,.own (eOs 1 true eB ai)),(6,.d (I round))]
theorem z96 (hC:zF prog ctr):UW.Ok prog:=by
 refine zC ?_;rintro⟨m_,from_⟩ r0 aa;try unfold WG at aa;refine yO true [(4,none)] wN 58 func110 λE hE=>?_;obtain⟨g0,aa⟩:=gdE aa;obtain⟨my,h0,aa⟩:=zc aa;refine yJ X0 hC wN [1,1,1] [] [5] (λz:List Bool=>Xu z=some r0) (λz=>z4O z) [(2,.own (.box (zO m_))),(5,.own (eOs 1 true eB ((List.replicate ((m_.Rows.length:Nat):Int).toNat false).set from_.toNat true)))] [Ha (lnM yN m_.Rows),Hn (rL g0),Ha (rM 1 eB ((m_.Rows.length:Nat):Int) false),Hn (iL eB h0),Hs (iM eB h0),Hs (iM eB h0),Hl (sM eB (List.replicate ((m_.Rows.length:Nat):Int).toNat false) from_ true),Hh (.cut 0)] ?_ λJ1 aw=>?_
 ·rintro out aa;unfold Xu at aa;obtain rfl:=za aa;exact yE X0 hC hE []
 ·obtain⟨t2,ht2,aa⟩:=zc aa;refine yL X0 hC wN [1,1,1,2,1,0] [J1] (λs=>Xr m_ s.1 s.2) (λx=>z4K m_ x.1 x.2) (((List.replicate ((m_.Rows.length:Nat):Int).toNat false).set from_.toNat true),0) ht2  [] ?_;rintro⟨ai,round⟩ m2 az ae hl1 J2 a6;try unfold Xr at ae
  let Z0:List HO:=[Ha (lnM yN m_.Rows)];rcases zI ae with⟨c0,ae⟩|⟨c0,ae⟩
  ·refine yJ X0 hC wN [1,1,1,2,1,0,0,1] [J1,J2] [2,5,6] (λz:List Bool=>Xt round z=some az) (λz=>z4N m_ round z) [(2,.own (.box (zO m_))),(5,.own (eOs 1 true eB ai)),(6,.d (I round))] (Z0++[Hq c0,Hh (.cut 0)]) ?_ λJ3 bk=>?_
   ·rintro ap ae;unfold Xt at ae;obtain rfl:=za ae;exact yB X0 hC a6 (ap,w64 (round+1)) hl1 []
   ·obtain⟨t4,ht4,ae⟩:=zc ae;refine yL X0 hC wN [1,1,1,2,1,0,0,1,2,0,1,0] [J1,J2,J3] (λs=>Zh m_ s.1 s.2) (λx=>z4J m_ round x.1 x.2) (ai,0) ht4  [] ?_;rintro⟨bf,s_⟩ m4 dl ah hl2 J4 d0;try unfold Zh at ah
    let Z1:List HO:=[Ha (lnM yN m_.Rows)];rcases zI ah with⟨c1,ah⟩|⟨c1,ah⟩
    ·refine yJ X0 hC wN [1,1,1,2,1,0,0,1,2,0,1,0,0,1] [J1,J2,J3,J4] [2,5,6,7] (λz:List Bool=>Xs s_ z=some dl) (λz=>z4M m_ round s_ z) [(2,.own (.box (zO m_))),(5,.own (eOs 1 true eB bf)),(6,.d (I round)),(7,.d (I s_))] (Z1++[Hq c1,Hh (.cut 0)]) ?_ λJ5 dn=>?_
     ·rintro fq ah;unfold Xs at ah;obtain rfl:=za ah;exact yB X0 hC d0 (fq,w64 (s_+1)) hl2 []
     ·obtain⟨t6,la,ah⟩:=zc ah;refine yL X0 hC wN [1,1,1,2,1,0,0,1,2,0,1,0,0,1,2,0,1,0] [J1,J2,J3,J4,J5] (λs=>Zg m_ s_ s.1 s.2) (λx=>z4I m_ round s_ x.1 x.2) (bf,0) la  [] ?_;rintro⟨ix,i_⟩ m6 l9 av hl3 J6 fp;try unfold Zg at av;rcases zI av with⟨c2,av⟩|⟨c2,av⟩
      ·refine yJ X0 hC wN [1,1,1,2,1,0,0,1,2,0,1,0,0,1,2,0,1,0,0,1] [J1,J2,J3,J4,J5,J6] [2,5,6,7,8] (λz:List Bool=>qj i_ z=some l9) (λz=>z4L m_ round s_ i_ z) [(2,.own (.box (zO m_))),(5,.own (eOs 1 true eB ix)),(6,.d (I round)),(7,.d (I s_)),(8,.d (I i_))] [Hq c2,Hh (.cut 0)] ?_ λJ7 jk=>?_
       ·rintro nl av;unfold qj at av;obtain rfl:=za av;exact yB X0 hC fp (nl,w64 (i_+1)) hl3 []
       ·obtain⟨aq,h1,av⟩:=zc av;obtain⟨al,h2,av⟩:=zc av;obtain⟨co,h3,av⟩:=zc av;let Z2:List HO:=[Hi yN h1,Hi F9_ h2,Hn (iL eB h3),Hs (iM eB h3)];rcases zI av with⟨c3,av⟩|⟨c3,av⟩
        ·rcases zI av with⟨c4,av⟩|⟨c4,av⟩
         ·obtain⟨ic,h4,av⟩:=zc av;exact yB X0 hC jk (ix.set al.To.toNat true) av (Z2++[Hq c3,Hq c3,Hq c3,Hq c4,Hn (iL eB h4),Hs (iM eB h4),Hs (iM eB h4),Hl (sM eB ix al.To true)])
         ·exact yB X0 hC jk ix av (Z2++[Hq c3,Hq c3,Hq c3,Hq c4])
        ·exact yB X0 hC jk ix av (Z2++[Hq c3,Hq c3,Hq c3,qF])
      ·obtain rfl:=za av;obtain rfl:=hl3;exact yB X0 hC dn ix ah [Hq c2]
    ·obtain rfl:=za ah;obtain rfl:=hl2;exact yB X0 hC bk bf ae (Z1++[Hq c1])
  ·obtain rfl:=za ae;obtain rfl:=hl1;exact yB X0 hC aw ai aa (Z0++[Hq c0])
def Yq:Code:=(f67.body).getD .skip
def z2p:zN:=spF (α:=z6) (ρ:=List Int) 67 (λx=>[zO x]) (λr=>F6_ r) (λx=>z2A x) [] (Q7)
abbrev zaR (out:List Int):List (Nat×T):=[(6,.own (eOs 1 false s8 out))]
abbrev zaQ (r_:List Int)(aj:List Int)(ak:List Bool)(s_:Int)(ap:List Int):List (Nat×T):=[(3,.own (eOs 1 false s8 r_)),(4,.own (eOs 1 false s8 aj)),(5,.own (eOs 1 true eB ak)),(6,.own (eOs 1 false s8 ap)),(7,.d (I s_))]
abbrev zaP (r_:List Int)(aj:List Int)(ak:List Bool)(ai:List Int)(s_:Int)(k_:Int):List (Nat×T):=[(3,.own (eOs 1 false s8 r_)),(4,.own (eOs 1 false s8 aj)),(5,.own (eOs 1 true eB ak)),(6,.own (eOs 1 false s8 ai)),(7,.d (I s_)),(8,.d (I k_))]
abbrev zaO (r_:List Int)(aj:List Int)(ak:List Bool)(ai:List Int)(s_:Int)(n_:Int)(i7:Int):List (Nat×T):=[(3,.own (eOs 1 false s8 r_)),(4,.own (eOs 1 false s8 aj)),(5,.own (eOs 1 true eB ak)),(6,.own (eOs 1 false s8 ai)),(7,.d (I s_)),(8,.d (I i7)),(9,.d (I n_))]
abbrev zaM (r_:List Int)(aj:List Int)(ak:List Bool)(ai:List Int)(s_:Int)(cb:Int)(n_:Int):List (Nat×T):=[(3,.own (eOs 1 false s8 r_)),(4,.own (eOs 1 false s8 aj)),(5,.own (eOs 1 true eB ak)),(6,.own (eOs 1 false s8 ai)),(7,.d (I s_)),(8,.d (I cb)),(9,.d (I n_))]
abbrev zaN (r_:List Int)(aj:List Int)(ak:List Bool)(ai:List Int)(s_:Int):List (Nat×T):=[(3,.own (eOs 1 false s8 r_)),(4,.own (eOs 1 false s8 aj)),(5,.own (eOs 1 true eB ak)),(6,.own (eOs 1 false s8 ai)),(7,.d (I s_))]
theorem zfL (hC:zF prog ctr)(h0x:ctr.Has Xm)(h0y:ctr.Has Wg)(h1r:ctr.Has UW):z2p.Ok prog:=by
 refine zC ?_;rintro m_ r0 aa;try unfold z2A at aa;refine yO true [(2,none)] Yq 52 func67 λE hE=>?_;obtain⟨r_,h0,aa⟩:=zc aa;obtain⟨aj,h1,aa⟩:=zc aa;obtain⟨ak,h2,aa⟩:=zc aa;refine yJ X0 hC Yq [1,1,1,1,1] [] [6] (λz:List Int=>Kr z=some r0) (λz=>zaR z) [(3,.own (eOs 1 false s8 r_)),(4,.own (eOs 1 false s8 aj)),(5,.own (eOs 1 true eB ak)),(6,.own (eOs 1 true s8 []))] [Hc h0x (x:=m_) h0 (loC zO m_ <| loN),Hc h0y (x:=m_) h1 (loC zO m_ <| loN),Hc h1r (x:=(m_,0)) h2 (loC zO m_ <| loC s8 0 <| loN),Hh (.cut 1)] ?_ λJ1 aw=>?_
 ·rintro out aa;unfold Kr at aa;obtain rfl:=za aa;exact yE X0 hC hE []
 ·obtain⟨t2,ht2,aa⟩:=zc aa;refine yLx X0 hC Yq [1,1,1,1,1,2,1,0] [J1] (λs=>Ko r_ aj ak s.1 s.2) (λx=>zaN r_ aj ak x.1 x.2) (([]:List Int),0) ht2 [(3,.own (eOs 1 false s8 r_)),(4,.own (eOs 1 false s8 aj)),(5,.own (eOs 1 true eB ak)),(6,.own (eOs 1 true s8 [])),(7,.d (I 0))] inferInstance [] ?_;rintro⟨ai,s_⟩ m2 az ae hl1 J2 a6;try unfold Ko at ae;rcases zI ae with⟨c0,ae⟩|⟨c0,ae⟩
  ·refine yJ X0 hC Yq [1,1,1,1,1,2,1,0,0,1] [J1,J2] [3,4,5,6,7] (λz:List Int=>Kq s_ z=some az) (λz=>zaQ r_ aj ak s_ z) [(3,.own (eOs 1 false s8 r_)),(4,.own (eOs 1 false s8 aj)),(5,.own (eOs 1 true eB ak)),(6,.own (eOs 1 false s8 ai)),(7,.d (I s_))] [Ha (lnM s8 r_),Hq c0,Hh (.cut 0)] ?_ λJ3 bk=>?_
   ·rintro ap ae;unfold Kq at ae;obtain rfl:=za ae;exact yB X0 hC a6 (ap,w64 (s_+1)) hl1 []
   ·refine yJ X0 hC Yq [1,1,1,1,1,2,1,0,0,1,2,0,1] [J1,J2,J3] [3,4,5,6,7,8] (λz:Int=>Kp ai s_ z=some az) (λz=>zaP r_ aj ak ai s_ z) [(3,.own (eOs 1 false s8 r_)),(4,.own (eOs 1 false s8 aj)),(5,.own (eOs 1 true eB ak)),(6,.own (eOs 1 false s8 ai)),(7,.d (I s_)),(8,.d (I (-1)))] [Hh (.cut 1)] ?_ λJ4 d0=>?_
    ·rintro k_ ae;unfold Kp at ae;obtain⟨g0,ae⟩:=gdE ae;exact yB X0 hC bk (ai++([k_]:List Int)) ae [Hq (dM s8 ([k_]:List Int)),Hn (dM s8 ([k_]:List Int)),Hn (aL s8 s8 g0),Hl (aM s8 ai ([k_]:List Int))]
    ·obtain⟨t5,ht5,ae⟩:=zc ae;refine yL X0 hC Yq [1,1,1,1,1,2,1,0,0,1,2,0,1,2,1,0] [J1,J2,J3,J4] (λs=>UB r_ aj ak s_ s.1 s.2) (λx=>zaM r_ aj ak ai s_ x.1 x.2) ((-1),0) ht5  [] ?_;rintro⟨cb,n_⟩ m5 dl ah hl2 J5 dn;try unfold UB at ah;rcases zI ah with⟨c1,ah⟩|⟨c1,ah⟩
     ·refine yJ X0 hC Yq [1,1,1,1,1,2,1,0,0,1,2,0,1,2,1,0,0,1] [J1,J2,J3,J4,J5] [3,4,5,6,7,8,9] (λz:Int=>XU n_ z=some dl) (λz=>zaO r_ aj ak ai s_ n_ z) [(3,.own (eOs 1 false s8 r_)),(4,.own (eOs 1 false s8 aj)),(5,.own (eOs 1 true eB ak)),(6,.own (eOs 1 false s8 ai)),(7,.d (I s_)),(8,.d (I cb)),(9,.d (I n_))] [Ha (lnM s8 aj),Hq c1,Hh (.cut 0)] ?_ λJ6 fp=>?_
      ·rintro i7 ah;unfold XU at ah;obtain rfl:=za ah;exact yB X0 hC dn (i7,w64 (n_+1)) hl2 []
      ·obtain⟨dw,h3,ah⟩:=zc ah;let Z0:List HO:=[Hn (iL eB h3),Hs (iM eB h3)];rcases zI ah with⟨c2,ah⟩|⟨c2,ah⟩
       ·obtain⟨j5,h4,ah⟩:=zc ah;obtain⟨me,h5,ah⟩:=zc ah;obtain⟨mf,h6,ah⟩:=zc ah;let Z1:List HO:=(Z0++(rpN 4 (Hq c2) [Hn (iL s8 h4),Hq c2,Hs (iM s8 h4),Hq c2,Hn (iL s8 h5),Hq c2,Hs (iM s8 h5),Hq c2,Hq c2,Hq c2,Hn (iL s8 h6),Hq c2,Hs (iM s8 h6),Hq c2,Hq c2]));rcases zI ah with⟨c3,ah⟩|⟨c3,ah⟩
        ·exact yB X0 hC fp n_ ah (Z1++[Hq c3])
        ·exact yB X0 hC fp cb ah (Z1++[Hq c3])
       ·exact yB X0 hC fp cb ah (Z0++(rpN 13 (Hq c2) [qF]))
     ·obtain rfl:=za ah;obtain rfl:=hl2;exact yB X0 hC d0 cb ae [Ha (lnM s8 aj),Hq c1]
  ·obtain rfl:=za ae;obtain rfl:=hl1;exact yB X0 hC aw ai aa [Ha (lnM s8 r_),Hq c0]
def vW:Code:=(f33.body).getD .skip
def UV:zN:=spF (α:=z6) (ρ:=z6) 33 (λx=>[zO x]) (λr=>zO r) (λx=>Wr x) [] (Q7)
abbrev z4H (m_:z6)(ka:List (List z8)):List (Nat×T):=[(2,.own (.box (.agg [I 0,I 0,eOs 1 true yN []]))),(5,.own (.box (.agg [I m_.Inputs,I m_.Outputs,eOs 1 false ZI ka])))]
abbrev z4G (m_:z6)(r_:List Int)(aj:List Int)(k_:Int)(jt:List (List z8)):List (Nat×T):=[(1,.own (.box (zO m_))),(2,.own (.box (.agg [I 0,I 0,eOs 1 true yN []]))),(3,.own (eOs 1 false s8 r_)),(4,.own (eOs 1 false s8 aj)),(5,.own (.box (.agg [I m_.Inputs,I m_.Outputs,eOs 1 false ZI jt]))),(6,.d (I k_))]
abbrev z4F (m_:z6)(r_:List Int)(aj:List Int)(bz:List (List z8))(k_:Int)(row:List z8):List (Nat×T):=[(1,.own (.box (zO m_))),(2,.own (.box (.agg [I 0,I 0,eOs 1 true yN []]))),(3,.own (eOs 1 false s8 r_)),(4,.own (eOs 1 false s8 aj)),(5,.own (.box (.agg [I m_.Inputs,I m_.Outputs,eOs 1 false ZI bz]))),(6,.d (I k_)),(7,.own (eOs 2 false F9_ row))]
abbrev z4E (m_:z6)(r_:List Int)(aj:List Int)(bz:List (List z8))(k_:Int)(fh:List z8)(i_:Int)(al:z8)(iy:Int):List (Nat×T):=[(1,.own (.box (zO m_))),(2,.own (.box (.agg [I 0,I 0,eOs 1 true yN []]))),(3,.own (eOs 1 false s8 r_)),(4,.own (eOs 1 false s8 aj)),(5,.own (.box (.agg [I m_.Inputs,I m_.Outputs,eOs 1 false ZI bz]))),(6,.d (I k_)),(7,.own (eOs 2 false F9_ fh)),(8,.d (I i_)),(9,.own (.box (.agg [I iy,I al.Out])))]
abbrev z4C (m_:z6)(r_:List Int)(aj:List Int)(bz:List (List z8))(k_:Int)(fh:List z8)(i_:Int):List (Nat×T):=[(1,.own (.box (zO m_))),(2,.own (.box (.agg [I 0,I 0,eOs 1 true yN []]))),(3,.own (eOs 1 false s8 r_)),(4,.own (eOs 1 false s8 aj)),(5,.own (.box (.agg [I m_.Inputs,I m_.Outputs,eOs 1 false ZI bz]))),(6,.d (I k_)),(7,.own (eOs 2 false F9_ fh)),(8,.d (I i_))]
abbrev z4D (m_:z6)(r_:List Int)(aj:List Int)(bz:List (List z8))(k_:Int):List (Nat×T):=[(1,.own (.box (zO m_))),(2,.own (.box (.agg [I 0,I 0,eOs 1 true yN []]))),(3,.own (eOs 1 false s8 r_)),(4,.own (eOs 1 false s8 aj)),(5,.own (.box (.agg [I m_.Inputs,I m_.Outputs,eOs 1 false ZI bz]))),(6,.d (I k_))]
theorem z94 (hC:zF prog ctr)(h0y:ctr.Has Wg)(h1s:ctr.Has z2p):UV.Ok prog:=by
 refine zC ?_;rintro m_ r0 aa;try unfold Wr at aa;refine yO false [(2,some 30)] vW 62 func33 λE hE=>?_;obtain⟨r_,h0,aa⟩:=zc aa;obtain⟨aj,h1,aa⟩:=zc aa;refine yJ X0 hC vW [1,1,1,1] [] [2,5] (λz:List (List z8)=>Xq m_ z=some r0) (λz=>z4H m_ z) [(1,.own (.box (zO m_))),(2,.own (.box (.agg [I 0,I 0,eOs 1 true yN []]))),(3,.own (eOs 1 false s8 r_)),(4,.own (eOs 1 false s8 aj)),(5,.own (.box (.agg [I m_.Inputs,I m_.Outputs,eOs 1 true yN []])))] [Hc h0y (x:=m_) h0 (loC zO m_ <| loN),Hc h1s (x:=m_) h1 (loC zO m_ <| loN),Hh (.cut 1)] ?_ λJ1 aw=>?_
 ·rintro ka aa;unfold Xq at aa;obtain rfl:=za aa;exact yE X0 hC hE [Hm (shM ZI yN ka)]
 ·obtain⟨t2,ht2,aa⟩:=zc aa;refine yLx X0 hC vW [1,1,1,1,2,1,0] [J1] (λs=>Zf m_ r_ aj s.1 s.2) (λx=>z4D m_ r_ aj x.1 x.2) (([]:List (List z8)),0) ht2 [(1,.own (.box (zO m_))),(2,.own (.box (.agg [I 0,I 0,eOs 1 true yN []]))),(3,.own (eOs 1 false s8 r_)),(4,.own (eOs 1 false s8 aj)),(5,.own (.box (.agg [I m_.Inputs,I m_.Outputs,eOs 1 true ZI []]))),(6,.d (I 0))] inferInstance [] ?_;rintro⟨bz,k_⟩ m2 az ae hl1 J2 a6;try unfold Zf at ae;rcases zI ae with⟨c0,ae⟩|⟨c0,ae⟩
  ·refine yJ X0 hC vW [1,1,1,1,2,1,0,0,1] [J1,J2] [1,2,3,4,5,6] (λz:List (List z8)=>Xp k_ z=some az) (λz=>z4G m_ r_ aj k_ z) [(1,.own (.box (zO m_))),(2,.own (.box (.agg [I 0,I 0,eOs 1 true yN []]))),(3,.own (eOs 1 false s8 r_)),(4,.own (eOs 1 false s8 aj)),(5,.own (.box (.agg [I m_.Inputs,I m_.Outputs,eOs 1 false ZI bz]))),(6,.d (I k_))] [Ha (lnM s8 r_),Hq c0,Hh (.cut 0)] ?_ λJ3 bk=>?_
   ·rintro jt ae;unfold Xp at ae;obtain rfl:=za ae;exact yB X0 hC a6 (jt,w64 (k_+1)) hl1 []
   ·refine yJ X0 hC vW [1,1,1,1,2,1,0,0,1,2,0,1] [J1,J2,J3] [1,2,3,4,5,6,7] (λz:List z8=>Xo bz k_ z=some az) (λz=>z4F m_ r_ aj bz k_ z) [(1,.own (.box (zO m_))),(2,.own (.box (.agg [I 0,I 0,eOs 1 true yN []]))),(3,.own (eOs 1 false s8 r_)),(4,.own (eOs 1 false s8 aj)),(5,.own (.box (.agg [I m_.Inputs,I m_.Outputs,eOs 1 false ZI bz]))),(6,.d (I k_)),(7,.own (eOs 2 true F9_ []))] [Hh (.cut 1)] ?_ λJ4 d0=>?_
    ·rintro row ae;unfold Xo at ae;obtain⟨g0,ae⟩:=gdE ae;exact yB X0 hC bk (bz++([row]:List (List z8))) ae [Hq (oC ZI row []),Hn (aL ZI ZI g0),Hl (aM ZI bz ([row]:List (List z8)))]
    ·obtain⟨t5,ht5,ae⟩:=zc ae;refine yLx X0 hC vW [1,1,1,1,2,1,0,0,1,2,0,1,2,1,0] [J1,J2,J3,J4] (λs=>Ze m_ r_ aj k_ s.1 s.2) (λx=>z4C m_ r_ aj bz k_ x.1 x.2) (([]:List z8),0) ht5 [(1,.own (.box (zO m_))),(2,.own (.box (.agg [I 0,I 0,eOs 1 true yN []]))),(3,.own (eOs 1 false s8 r_)),(4,.own (eOs 1 false s8 aj)),(5,.own (.box (.agg [I m_.Inputs,I m_.Outputs,eOs 1 false ZI bz]))),(6,.d (I k_)),(7,.own (eOs 2 true F9_ [])),(8,.d (I 0))] inferInstance [] ?_;rintro⟨fh,i_⟩ m5 dl ah hl2 J5 dn;try unfold Ze at ah;rcases zI ah with⟨c1,ah⟩|⟨c1,ah⟩
     ·obtain⟨dw,h2,ah⟩:=zc ah;obtain⟨aq,h3,ah⟩:=zc ah;obtain⟨al,h4,ah⟩:=zc ah;refine yJ X0 hC vW [1,1,1,1,2,1,0,0,1,2,0,1,2,1,0,0,1,0,0,1] [J1,J2,J3,J4,J5] [1,2,3,4,5,6,7,8,9] (λz:Int=>qh fh i_ al z=some dl) (λz=>z4E m_ r_ aj bz k_ fh i_ al z) [(1,.own (.box (zO m_))),(2,.own (.box (.agg [I 0,I 0,eOs 1 true yN []]))),(3,.own (eOs 1 false s8 r_)),(4,.own (eOs 1 false s8 aj)),(5,.own (.box (.agg [I m_.Inputs,I m_.Outputs,eOs 1 false ZI bz]))),(6,.d (I k_)),(7,.own (eOs 2 false F9_ fh)),(8,.d (I i_)),(9,.own (.box (F9_ al)))] [Hq c1,Hn (iL s8 h2),Hs (iM s8 h2),Hi yN h3,Hi F9_ h4,Hh (.cut 0)] ?_ λJ6 fp=>?_
      ·rintro iy ah;unfold qh at ah;obtain⟨g1,ah⟩:=gdE ah;obtain rfl:=za ah;exact yB X0 hC dn ((fh++([(z8.mk iy al.Out)]:List z8)),w64 (i_+1)) hl2 [Hq (dM F9_ ([(z8.mk iy al.Out)]:List z8)),Hn (dM F9_ ([(z8.mk iy al.Out)]:List z8)),Hn (aL F9_ F9_ g1),Hl (aM F9_ fh ([(z8.mk iy al.Out)]:List z8))]
      ·rcases zI ah with⟨c2,ah⟩|⟨c2,ah⟩
       ·obtain⟨j5,h5,ah⟩:=zc ah;exact yB X0 hC fp j5 ah [Hq c2,Hn (iL s8 h5),Hs (iM s8 h5)]
       ·exact yB X0 hC fp al.To ah [Hq c2]
     ·obtain rfl:=za ah;obtain rfl:=hl2;exact yB X0 hC d0 fh ae [Hq c1]
  ·obtain rfl:=za ae;obtain rfl:=hl1;exact yB X0 hC aw bz aa [Ha (lnM s8 r_),Hq c0]
def zdy:Code:=(Tryz.f9.body).getD .skip
def z0U:zN:=spF (α:=qM) (ρ:=z6) 9 (λx=>[(Xh z37) x]) (λr=>zO r) (λx=>z0p x) [] (Q7)
theorem zdZ (hC:zF prog ctr)(h1t:ctr.Has z0V)(h1u:ctr.Has UV):z0U.Ok prog:=by refine zC ?_;rintro x_ r0 aa;try unfold z0p at aa;refine yO false [(2,some 30)] zdy 13 func9 λE hE=>?_;obtain⟨g0,aa⟩:=gdE aa;obtain⟨r_,h0,aa⟩:=zc aa;obtain⟨aj,h1,aa⟩:=zc aa;obtain rfl:=za aa;exact yE X0 hC hE [Hn g0,Hc h1t (x:=(zT.mk (Int.tmod x_.C.States 5) x_.C.Inputs x_.C.Outputs x_.C.Tree x_.C.Edges)) h0 (loC z37 (zT.mk (Int.tmod x_.C.States 5) x_.C.Inputs x_.C.Outputs x_.C.Tree x_.C.Edges) <| loN),Hc h1u (x:=r_) h1 (loC zO r_ <| loN)]
def z8i:Code:=(f124.body).getD .skip
def Za:zN:=spF (α:=Unit) (ρ:=z8) 124 (λx=>[]) (λr=>F9_ r) (λx=>qK) [] (λ_ _ _=>rfl)
theorem z99 (hC:zF prog ctr):Za.Ok prog:=by refine zC ?_;rintro⟨⟩ r0 aa;try unfold qK at aa;refine yO false [(0,some 99)] z8i 2 func124 λE hE=>?_;obtain rfl:=za aa;exact yE X0 hC hE []
def z8j:Code:=(f88.body).getD .skip
def UZ:zN:=spF (α:=z6×z8) (ρ:=Bool) 88 (λx=>[zO x.1,F9_ x.2]) (λr=>eB r) (λx=>WN x.1 x.2) [] (W2)
theorem z9a (hC:zF prog ctr)(h0g:ctr.Has Za):UZ.Ok prog:=by
 refine zC ?_;rintro⟨m_,x_⟩ r0 aa;try unfold WN at aa;refine yO true [(4,none)] z8j 33 func88 λE hE=>?_;obtain⟨r_,h0,aa⟩:=zc aa
 let Z0:List HO:=[Hc h0g (x:=()) h0 (loN)];rcases zI aa with⟨c0,aa⟩|⟨c0,aa⟩
 ·obtain rfl:=za aa;exact yE X0 hC hE (Z0++(rpN 10 (Hq c0) []))
 ·let Z1:List HO:=(Z0++(rpN 4 (Hq c0) []));rcases zI aa with⟨c1,aa⟩|⟨c1,aa⟩
  ·let Z2:List HO:=(Z1++(rpN 5 (Hq c1) [Ha (lnM yN m_.Rows),Hq c1,Hq c0,Hq c1,Hq c0]));rcases zI aa with⟨c2,aa⟩|⟨c2,aa⟩
   ·let Z3:List HO:=(Z2++[Hq c2,Hq c2,Hq c2,Hq c0,Hq c2,Hq c0]);rcases zI aa with⟨c3,aa⟩|⟨c3,aa⟩
    ·obtain rfl:=za aa;exact yE X0 hC hE (Z3++(rpN 5 (Hq c3) [Hq c0,Hq c3,Hq c0]))
    ·obtain rfl:=za aa;exact yE X0 hC hE (Z3++(rpN 5 (Hq c3) [Hq c0,Hq c3,Hq c0]))
   ·obtain rfl:=za aa;exact yE X0 hC hE (Z2++(Hq c2::Hq c2::Hq c2::Hq c0::Hq c2::Hq c0::(rpN 5 qF [Hq c0,qF,Hq c0])))
  ·obtain rfl:=za aa;exact yE X0 hC hE (Z1++(rpN 6 (Hq c1) (Hq c0::Hq c1::Hq c0::qF::qF::qF::Hq c0::qF::Hq c0::(rpN 5 qF [Hq c0,qF,Hq c0]))))
def z4x:Code:=(f87.body).getD .skip
def XC:zN:=spF (α:=z8×z6) (ρ:=Bool) 87 (λx=>[F9_ x.1,z6m x.2]) (λr=>eB r) (λx=>Xx x.1 x.2) [] (W2)
theorem z54 (hC:zF prog ctr)(h1v:ctr.Has UZ):XC.Ok prog:=by refine zC ?_;rintro⟨x_,x1⟩ r0 aa;try unfold Xx at aa;refine yO true [(3,none)] z4x 8 func87 λE hE=>?_;obtain⟨r_,h0,aa⟩:=zc aa;obtain rfl:=za aa;exact yE X0 hC hE [Hc h1v (x:=(x1,x_)) h0 (loC zO x1 <| loC F9_ x_ <| loN)]
def xT:Code:=(f123.body).getD .skip
def xR:zN:=spF (α:=List z8×z6) (ρ:=Int) 123 (λx=>[yN x.1,(z1k 87 z6m) x.2]) (λr=>s8 r) (λx=>xj x.1 x.2) [] (by rintro⟨a0,a1⟩ ⟨b0,b1⟩ h;have e0:=kZ.inj (f:=yN) _ _ (List.cons.inj h).1;replace h:=(List.cons.inj h).2;have e1:=kZ.inj (f:=(z1k 87 z6m)) _ _ (List.cons.inj h).1;subst e0 e1;rfl)
abbrev ZV:List (Nat×T):=[]
abbrev ZU (s_:List z8)(f_:z6)(x8:Int):List (Nat×T):=[(0,.d (eSl 2 false F9_ s_)),(1,.d (.fn 87 [.sptr (.agg [I f_.Inputs,I f_.Outputs,eSl 1 false yN f_.Rows])])),(7,.d (I ((s_.length:Nat):Int))),(8,.d (I x8))]
theorem X7 (hC:zF prog ctr)(h1w:ctr.Has XC):xR.Ok prog:=by
 refine zC ?_;rintro⟨s_,f_⟩ r0 aa;try unfold xj at aa;refine yO true [(4,none)] xT 19 func123 λE hE=>?_;refine yJ X0 hC xT [1] [] [] (λz:Unit=>xS=some r0) (λz=>ZV) [(0,.d (eSl 2 false F9_ s_)),(1,.d (.fn 87 [.sptr (.agg [I f_.Inputs,I f_.Outputs,eSl 1 false yN f_.Rows])]))] [Hh (.cut 1)] ?_ λJ1 aw=>?_
 ·rintro⟨⟩ aa;unfold xS at aa;obtain rfl:=za aa;exact yE X0 hC hE []
 ·obtain⟨t2,ht2,aa⟩:=zc aa;refine yL X0 hC xT [1,2,1,0] [J1] (λs=>y7 s_ f_ s) (λx=>ZU s_ f_ x) 0 ht2  [Ha (lnM F9_ s_)] ?_;rintro x8 m2 az ae hl1 J2 a6;try unfold y7 at ae;rcases zI ae with⟨c0,ae⟩|⟨c0,ae⟩
  ·obtain⟨dx,h0,ae⟩:=zc ae;obtain⟨r_,h1,ae⟩:=zc ae;let Z0:List HO:=[Hq c0,Hi F9_ h0,Hc h1w (x:=(dx,f_)) h1 (loC F9_ dx <| loC z6m f_ <| loN)];rcases zI ae with⟨c1,ae⟩|⟨c1,ae⟩
   ·obtain rfl:=za ae;obtain rfl:=hl1;obtain rfl:=za aa;exact yE X0 hC hE (Z0++[Hq c1])
   ·obtain rfl:=za ae;exact yB X0 hC a6 (w64 (x8+1)) hl1 (Z0++[Hq c1])
  ·obtain rfl:=za ae;obtain rfl:=hl1;exact yB X0 hC aw () aa [Hq c0]
def ZT:Code:=(f86.body).getD .skip
def xq:zN:=spF (α:=List z8×z6) (ρ:=Bool) 86 (λx=>[yN x.1,(z1k 87 z6m) x.2]) (λr=>eB r) (λx=>yi x.1 x.2) [] (by rintro⟨a0,a1⟩ ⟨b0,b1⟩ h;have e0:=kZ.inj (f:=yN) _ _ (List.cons.inj h).1;replace h:=(List.cons.inj h).2;have e1:=kZ.inj (f:=(z1k 87 z6m)) _ _ (List.cons.inj h).1;subst e0 e1;rfl)
theorem ZY (hC:zF prog ctr)(h1x:ctr.Has xR):xq.Ok prog:=by refine zC ?_;rintro⟨s_,f_⟩ r0 aa;try unfold yi at aa;refine yO true [(4,none)] ZT 9 func86 λE hE=>?_;obtain⟨r_,h0,aa⟩:=zc aa;obtain rfl:=za aa;exact yE X0 hC hE [Hc h1x (x:=(s_,f_)) h0 (loC yN s_ <| loC (z1k 87 z6m) f_ <| loN)]
def VG:Code:=(f53.body).getD .skip
def xH:zN:=spF (α:=z6) (ρ:=Int) 53 (λx=>[zO x]) (λr=>s8 r) (λx=>xZ x) [] (Q7)
abbrev z3X:List (Nat×T):=[]
abbrev z3W (m_:z6)(i8:Int):List (Nat×T):=[(1,.d (.sptr (zO m_))),(34,.d (eSl 1 false yN m_.Rows)),(35,.d (I ((m_.Rows.length:Nat):Int))),(36,.d (I i8))]
theorem z87 (hC:zF prog ctr)(h1y:ctr.Has xq):xH.Ok prog:=by
 refine zC ?_;rintro m_ r0 aa;try unfold xZ at aa;refine yO true [(2,none)] VG 51 func53 λE hE=>?_;rcases zI aa with⟨c0,aa⟩|⟨c0,aa⟩
 ·obtain rfl:=za aa;exact yE X0 hC hE (rpN 4 (Hq c0) (rpN 6 qT []))
 ·let Z0:List HO:=(rpN 4 (Hq c0) []);rcases zI aa with⟨c1,aa⟩|⟨c1,aa⟩
  ·obtain rfl:=za aa;exact yE X0 hC hE (Z0++(rpN 5 (Hq c1) [qT]))
  ·let Z1:List HO:=(Z0++[Hq c1,Hq c1,Hq c1,Ha (lnM yN m_.Rows),Hq c1,Hq c1]);rcases zI aa with⟨c2,aa⟩|⟨c2,aa⟩
   ·obtain rfl:=za aa;exact yE X0 hC hE (Z1++[Hq c2])
   ·rcases zI aa with⟨c3,aa⟩|⟨c3,aa⟩
    ·obtain rfl:=za aa;exact yE X0 hC hE (Z1++(Hq c2::(rpN 4 (Hq c3) (rpN 6 qT []))))
    ·let Z2:List HO:=(Z1++(Hq c2::(rpN 4 (Hq c3) [])));rcases zI aa with⟨c4,aa⟩|⟨c4,aa⟩
     ·obtain rfl:=za aa;exact yE X0 hC hE (Z2++(rpN 5 (Hq c4) [qT]))
     ·let Z3:List HO:=(Z2++[Hq c4,Hq c4,Hq c4,Ha (lnM yN m_.Rows),Hq c4,Hq c4]);rcases zI aa with⟨c5,aa⟩|⟨c5,aa⟩
      ·obtain rfl:=za aa;exact yE X0 hC hE (Z3++[Hq c5])
      ·refine yJ X0 hC VG [1,1,1] [] [] (λz:Unit=>VA=some r0) (λz=>z3X) [(1,.own (.box (zO m_)))] (Z3++[Hq c5,Hh (.cut 0)]) ?_ λJ1 aw=>?_
       ·rintro⟨⟩ aa;unfold VA at aa;obtain rfl:=za aa;exact yE X0 hC hE []
       ·obtain⟨t2,ht2,aa⟩:=zc aa;refine yL X0 hC VG [1,1,1,2,1,0] [J1] (λs=>uw m_ s) (λx=>z3W m_ x) 0 ht2  [Ha (lnM yN m_.Rows),Hh (.n 1 [1])] ?_;rintro i8 m2 az ae hl1 J2 a6;try unfold uw at ae;rcases zI ae with⟨c6,ae⟩|⟨c6,ae⟩
        ·obtain⟨aq,h0,ae⟩:=zc ae;let Z4:List HO:=[Hq c6,Hi yN h0,Ha (lnM F9_ aq)];rcases zI ae with⟨c7,ae⟩|⟨c7,ae⟩
         ·obtain rfl:=za ae;obtain rfl:=hl1;obtain rfl:=za aa;exact yE X0 hC hE (Z4++(rpN 4 (Hq c7) [qT]))
         ·obtain⟨r_,h1,ae⟩:=zc ae;let Z5:List HO:=(Z4++[Hq c7,Hq c7,Hq c7,Hc h1y (x:=(aq,m_)) h1 (loC yN aq <| loC (z1k 87 z6m) m_ <| loN),Hq c7]);rcases zI ae with⟨c8,ae⟩|⟨c8,ae⟩
          ·obtain rfl:=za ae;obtain rfl:=hl1;obtain rfl:=za aa;exact yE X0 hC hE (Z5++[Hq c8])
          ·obtain rfl:=za ae;exact yB X0 hC a6 (w64 (i8+1)) hl1 (Z5++[Hq c8])
        ·obtain rfl:=za ae;obtain rfl:=hl1;exact yB X0 hC aw () aa [Hq c6]
def z5B:Code:=(f98.body).getD .skip
def Wk:zN:=spF (α:=z6) (ρ:=(Int×z6)×(Int×z6)×(Int×z6)) 98 (λx=>[zO x]) (λr=>(zDe (zzN s8 (z1k 130 z6m)) (zzN s8 (z1k 132 z6m)) (zzN s8 (z1k 133 z6m))) r) (λx=>WI x) [] (Q7)
theorem z6v (hC:zF prog ctr):Wk.Ok prog:=by refine zC ?_;rintro m_ r0 aa;try unfold WI at aa;refine yO false [(2,some 142)] z5B 10 func98 λE hE=>?_;obtain rfl:=za aa;exact yEx X0 hC hE [] (.agg [.agg [I 9,.fn 130 [.sptr (.agg [I m_.Inputs,I m_.Outputs,eSl 1 false yN m_.Rows])]],.agg [I 11,.fn 132 [.sptr (.agg [I m_.Inputs,I m_.Outputs,eSl 1 false yN m_.Rows])]],.agg [I 12,.fn 133 [.sptr (.agg [I m_.Inputs,I m_.Outputs,eSl 1 false yN m_.Rows])]]]) (show LeV (.agg [.agg [I 9,.fn 130 [.sptr (.agg [I m_.Inputs,I m_.Outputs,eSl 1 false yN m_.Rows])]],.agg [I 11,.fn 132 [.sptr (.agg [I m_.Inputs,I m_.Outputs,eSl 1 false yN m_.Rows])]],.agg [I 12,.fn 133 [.sptr (.agg [I m_.Inputs,I m_.Outputs,eSl 1 false yN m_.Rows])]]]) (.agg [.agg [I ((((9,m_),(11,m_),(12,m_)).1).1),.fn 130 [.sptr (.agg [I (((((9,m_),(11,m_),(12,m_)).1).2).Inputs),I (((((9,m_),(11,m_),(12,m_)).1).2).Outputs),eSl 1 false yN (((((9,m_),(11,m_),(12,m_)).1).2).Rows)])]],.agg [I ((((9,m_),(11,m_),(12,m_)).2.1).1),.fn 132 [.sptr (.agg [I (((((9,m_),(11,m_),(12,m_)).2.1).2).Inputs),I (((((9,m_),(11,m_),(12,m_)).2.1).2).Outputs),eSl 1 false yN (((((9,m_),(11,m_),(12,m_)).2.1).2).Rows)])]],.agg [I ((((9,m_),(11,m_),(12,m_)).2.2).1),.fn 133 [.sptr (.agg [I (((((9,m_),(11,m_),(12,m_)).2.2).2).Inputs),I (((((9,m_),(11,m_),(12,m_)).2.2).2).Outputs),eSl 1 false yN (((((9,m_),(11,m_),(12,m_)).2.2).2).Rows)])]]]) from inferInstance)
def z6T:Code:=(f172.body).getD .skip
def Vo:zN:=spF (α:=z6) (ρ:=z6) 172 (λx=>[zO x]) (λr=>(z1k 192 z6m) r) (λx=>Ul x) [] (Q7)
theorem z86 (hC:zF prog ctr):Vo.Ok prog:=by refine zC ?_;rintro m_ r0 aa;try unfold Ul at aa;refine yO true [(2,none)] z6T 4 func172 λE hE=>?_;obtain rfl:=za aa;exact yE X0 hC hE []
def kY:Code:=(f192.body).getD .skip
abbrev z2d (x0:z6)(YY:σ->z8W)(eu:Int)(ju:σ):List (Nat×T):=[(0,.own (.opq (YY ju).q)),(8,.d (eSl 1 false yN x0.Rows)),(9,.d (I ((x0.Rows.length:Nat):Int))),(10,.d (I eu))]
abbrev z2b (x0:z6)(YY:σ->z8W)(eu:Int)(aq:List z8)(gc:σ)(ay:Int):List (Nat×T):=[(0,.own (.opq (YY gc).q)),(3,.d (I eu)),(8,.d (eSl 1 false yN x0.Rows)),(9,.d (I ((x0.Rows.length:Nat):Int))),(10,.d (I eu)),(15,.d (eSl 2 false F9_ aq)),(16,.d (I ((aq.length:Nat):Int))),(17,.d (I ay))]
abbrev z2c (x0:z6)(YY:σ->z8W)(dr:σ)(eu:Int):List (Nat×T):=[(0,.own (.opq (YY dr).q)),(8,.d (eSl 1 false yN x0.Rows)),(9,.d (I ((x0.Rows.length:Nat):Int))),(10,.d (I eu))]
theorem z52 (hC:zF prog ctr)(x0:z6):zfx prog (.fn 192 [.sptr (.agg [I x0.Inputs,I x0.Outputs,eSl 1 false yN x0.Rows])]) (λ(x:vE Int×z8) (_:Bool) (_:Value)=>[F0_ x.1,F9_ x.2]) (@Zi x0):=by
 refine z9W (tt:=yw) (nt:=31) (body:=kY) zx func192 rfl (by kernel_rfl) rfl rfl (by show(2:Nat)<=31;decide) ?_;intro σ yv YY yy hy sg r0 aa E hE;unfold Zi at aa;obtain⟨t1,ht1,aa⟩:=zc aa;refine yL X0 hC kY [1,0] [] (λs=>uO x0 yy s.1 s.2) (λx=>z2c x0 YY x.1 x.2) (sg,0) ht1  [Ha (lnM yN x0.Rows)] ?_;rintro⟨dr,eu⟩ m1 az ae hl1 J1 aw;try unfold uO at ae;rcases zI ae with⟨c0,ae⟩|⟨c0,ae⟩
 ·refine yJ X0 hC kY [1,0,0,1,1] [J1] [0,8,9,10] (λz:σ=>kR eu z=some az) (λz=>z2d x0 YY eu z) [(0,.own (.opq (YY dr).q)),(8,.d (eSl 1 false yN x0.Rows)),(9,.d (I ((x0.Rows.length:Nat):Int))),(10,.d (I eu))] [Hq c0,Hh (.cut 0)] ?_ λJ2 a6=>?_
  ·rintro ju ae;unfold kR at ae;obtain rfl:=za ae;exact yB X0 hC aw (ju,w64 (eu+1)) hl1 []
  ·obtain⟨aq,h0,ae⟩:=zc ae;obtain⟨t3,ht3,ae⟩:=zc ae;refine yL X0 hC kY [1,0,0,1,1,2,0,1,1,0] [J1,J2] (λs=>wZ yy eu aq s.1 s.2) (λx=>z2b x0 YY eu aq x.1 x.2) (dr,0) ht3  [Hi yN h0,Ha (lnM F9_ aq)] ?_;rintro⟨gc,ay⟩ m3 dl ah hl2 J3 bk;try unfold wZ at ah;rcases zI ah with⟨c1,ah⟩|⟨c1,ah⟩
   ·obtain⟨al,h1,ah⟩:=zc ah;obtain⟨yr,h2,ah⟩:=zc ah;let Z0:List HO:=[Hq c1,Hi F9_ h1,Hn (z9k (yv:=yv) (Y:=YY) (enc:=(λ(x:vE Int×z8) (_:Bool) (_:Value)=>[F0_ x.1,F9_ x.2])) (s:=gc) (x:=((vE.mk eu ay),al)) (s':=yr.1) (b:=yr.2) (v:=.nilFunc) [F0_ (vE.mk eu ay),F9_ al] (show z3p [F0_ (vE.mk eu ay),F9_ al] [F0_ (vE.mk eu ay),F9_ al] from inferInstance))];rcases zI ah with⟨c2,ah⟩|⟨c2,ah⟩
    ·obtain rfl:=za ah;obtain rfl:=hl2;obtain rfl:=za ae;obtain rfl:=hl1;obtain rfl:=za aa;exact yF ((z2g (P:=prog) yw hy 27 (s:=gc) (x:=((vE.mk eu ay),al)) (s':=yr.1) (b:=yr.2) .nilFunc h2).or X0) hC .ret [(0,.own (.opq (YY yr.1).q))] (Z0++[Hq c2]) λst0 h0=>hE _ st0 (.inr rfl) h0
    ·obtain rfl:=za ah;exact yB ((z2g (P:=prog) yw hy 27 (s:=gc) (x:=((vE.mk eu ay),al)) (s':=yr.1) (b:=yr.2) .nilFunc h2).or X0) hC bk (yr.1,w64 (ay+1)) hl2 (Z0++[Hq c2])
   ·obtain rfl:=za ah;obtain rfl:=hl2;exact yB X0 hC a6 gc ae [Hq c1]
 ·obtain rfl:=za ae;obtain rfl:=hl1;obtain rfl:=za aa;exact yF X0 hC .normal [(0,.own (.opq (YY dr).q))] [Hq c0] λst0 h0=>hE _ st0 (.inl rfl) h0
def JZ:Code:=(f173.body).getD .skip
def qd:zN:=spF (α:=List (vE Int)) (ρ:=List (vE Int)) 173 (λx=>[(eSl 2 false F0_) x]) (λr=>(eSl 2 true F0_) r) (λx=>uh x) [] (Q7)
theorem KB (hC:zF prog ctr):qd.Ok prog:=by refine zC ?_;rintro s_ r0 aa;try unfold uh at aa;refine yO true [(2,none)] JZ 9 func173 λE hE=>?_;obtain⟨g0,aa⟩:=gdE aa;obtain rfl:=za aa;exact yE X0 hC hE [Ha (lnM F0_ s_),Ha (lnM F0_ s_),Hn (slB g0),Hn (slC g0),Hn (zuW F0_ g0),Ha (zB5 2 F0_ s_ 0 ((s_.length:Nat):Int).toNat)]
def wu:Code:=(f158.body).getD .skip
def Y7:zN:=spF (α:=z6) (ρ:=List (vE Int)) 158 (λx=>[zO x]) (λr=>(eSl 2 true F0_) r) (λx=>ZR x) [] (Q7)
abbrev z0H (out:List (vE Int)):List (Nat×T):=[(3,.own (.box (eOs 2 false F0_ out)))]
abbrev k7 (aj:z6)(ai:List (vE Int)):List (Nat×T):=[(3,.own (.box (eOs 2 false F0_ ai))),(7,.d (.fn 192 [.sptr (.agg [I aj.Inputs,I aj.Outputs,eSl 1 false yN aj.Rows])]))]
theorem z3s (hC:zF prog ctr)(h1z:ctr.Has Vo)(h0g:ctr.Has Za)(h0Y:ctr.Has qd):Y7.Ok prog:=by
 refine zC ?_;rintro m_ r0 aa;try unfold ZR at aa;refine yO true [(2,none)] wu 19 func158 λE hE=>?_;refine yJ X0 hC wu [1,1] [] [3] (λz:List (vE Int)=>qJ z=some r0) (λz=>z0H z) [(1,.own (.box (zO m_))),(3,.own (.box (eOs 2 true F0_ [])))] [Hh (.cut 2)] ?_ λJ1 aw=>?_
 ·rintro out aa;unfold qJ at aa;obtain⟨r_,h0,aa⟩:=zc aa;obtain rfl:=za aa;exact yE X0 hC hE [Hg (JO h0Y),Hm (shM F0_ F0_ out),Hs (JP h0Y (x:=out) h0 (loC (eSl 2 false F0_) out <| loN)),Hm (shM F0_ F0_ out)]
 ·obtain⟨aj,h1,aa⟩:=zc aa;obtain⟨t2,ht2,aa⟩:=zc aa;refine yAt X0 hC (sub [1,1,2,1,0] wu) (frs [1,1,2,1,0] [J1] wu []) [(3,.own (.box (eOs 2 true F0_ []))),(7,.d (.fn 192 [.sptr (.agg [I aj.Inputs,I aj.Outputs,eSl 1 false yN aj.Rows])]))] [Hc h1z (x:=m_) h1 (loC zO m_ <| loN)] λst0 h0=>?_;refine z6V (g:=.tmp 7) (ps:=[8,9]) (assign:=(sub [1,1,2,1,0,0] wu)) (body:=(sub [1,1,2,1,0,1] wu)) (K:=192) (caps:=[.sptr (.agg [I aj.Inputs,I aj.Outputs,eSl 1 false yN aj.Rows])]) (by kernel_rfl) [3,7] (λs=>k7 aj s) (λz=>nomatch z) (λz=>nomatch z) ((λ(x:vE Int×z8) (_:Bool) (_:Value)=>[F0_ x.1,F9_ x.2])) (F:=@Zi aj) (λs x=>yW s x.1 x.2) ([]:List (vE Int)) t2 _ h0 inferInstance (by kernel_rfl) (by decide) (λ_=>rfl) (by rintro⟨⟩) (by kernel_rfl) (λ_ _ _=>rfl) (z52 hC aj) ht2 ?_ ?_
  ·rintro oz ai ⟨x8,x9⟩ vr az ae;replace ae:yW ai x8 x9=some az:=ae;unfold yW at ae;refine yF X0 hC .normal [(3,.own (.box (eOs 2 false F0_ ai))),(4,.own (.box (F0_ x8))),(5,.own (.box (F9_ x9))),(7,.d (.fn 192 [.sptr (.agg [I aj.Inputs,I aj.Outputs,eSl 1 false yN aj.Rows])]))] [] λst0 h0=>⟨rfl,zdB h0 ?_⟩;obtain⟨ak,h2,ae⟩:=zc ae;let Z0:List HO:=[Hc h0g (x:=()) h2 (loN)];rcases zI ae with⟨c0,ae⟩|⟨c0,ae⟩
   ·obtain⟨g0,ae⟩:=gdE ae;obtain rfl:=za ae;exact yF X0 hC .normal (k7 aj (ai++([x8]:List (vE Int)))) (Z0++[Hq c0,Hq (dM F0_ ([x8]:List (vE Int))),Hn (dM F0_ ([x8]:List (vE Int))),Hn (aL F0_ F0_ g0),Hl (aM F0_ ai ([x8]:List (vE Int)))]) λst0 h0=>⟨rfl,_,h0,LeL.refl _⟩
   ·obtain rfl:=za ae;exact yF X0 hC .normal (k7 aj ai) (Z0++[Hq c0]) λst0 h0=>⟨rfl,_,h0,LeL.refl _⟩
  ·rcases t2 with ai|z
   ·dsimp only at aa;exact JF (by kernel_rfl) (aw _ [(3,.own (.box (eOs 2 false F0_ ai)))] ai aa (show Own.canon [3] _=ofL _ by kernel_rfl) inferInstance)
   ·cases z
def z3E:Code:=(f131.body).getD .skip
def X5:zN:=spF (α:=z6) (ρ:=Bool×Int) 131 (λx=>[zO x]) (λr=>.tup [eB r.1,s8 r.2]) (λx=>jR x) [] (Q7)
theorem z4d (hC:zF prog ctr)(h03:ctr.Has xH)(h1A:ctr.Has Y7):X5.Ok prog:=by
 refine zC ?_;rintro m_ r0 aa;try unfold jR at aa;refine yO false [(2,none),(3,none)] z3E 14 func131 λE hE=>?_;obtain⟨r_,h0,aa⟩:=zc aa
 let Z0:List HO:=[Hc h03 (x:=m_) h0 (loC zO m_ <| loN)];rcases zI aa with⟨c0,aa⟩|⟨c0,aa⟩
 ·obtain rfl:=za aa;exact yE X0 hC hE (Z0++[Hq c0])
 ·obtain⟨aj,h1,aa⟩:=zc aa;obtain rfl:=za aa;exact yE X0 hC hE (Z0++[Hq c0,Hc h1A (x:=m_) h1 (loC zO m_ <| loN),Ha (lnM F0_ aj)])
def z3D:Code:=(f130.body).getD .skip
def X4:zN:=spF (α:=z6) (ρ:=Bool) 130 (λx=>[z6m x]) (λr=>eB r) (λx=>YN x) [] (Q7)
theorem z4c (hC:zF prog ctr)(h1B:ctr.Has X5):X4.Ok prog:=by refine zC ?_;rintro x0 r0 aa;try unfold YN at aa;refine yO true [(1,none)] z3D 10 func130 λE hE=>?_;obtain⟨r_,h0,aa⟩:=zc aa;obtain rfl:=za aa;exact yE X0 hC hE [Hc h1B (x:=x0) h0 (loC zO x0 <| loN)]
def WX:Code:=(f144.body).getD .skip
abbrev Kb (cm:Value)(km:Value)(kn:Value)(aq:List z8)(x1:List Bool)(ie:Int)(gn:Int)(jr:List (List z8))(eg:Int):List (Nat×T):=[(1,.own (.box (eOs 1 true eB x1))),(2,.own (.box (.agg [I ie,I gn,eSl 1 false yN jr]))),(3,.own (.box (.fn 144 [.atom cm,.atom km,.atom kn]))),(22,.d (eSl 2 false F9_ aq)),(23,.d (I ((aq.length:Nat):Int))),(24,.d (I eg))]
theorem z1N (hC:zF prog ctr)(cm:Value)(km:Value)(kn:Value):∀(fu:Nat) (s_:Int) (y0:List Bool) (y1:z6) (r0:List Bool×z6),yM fu s_ y0 y1=some r0->Yr prog (.fn 144 [.atom cm,.atom km,.atom kn]) [I s_] ([cm,km,kn].zip [.box (eOs 1 true eB y0),.box (.agg [I y1.Inputs,I y1.Outputs,eSl 1 false yN y1.Rows]),.box (.fn 144 [.atom cm,.atom km,.atom kn])]) (.tup []) [.box (eOs 1 true eB r0.1),.box (.agg [I r0.2.Inputs,I r0.2.Outputs,eSl 1 false yN r0.2.Rows]),.box (.fn 144 [.atom cm,.atom km,.atom kn])]:=by
 intro fu;induction fu with
 | zero=>intro s_ y0 y1 r0 aa;exact nomatch (show none=some r0 from aa)
 | succ fu ih=>
  intro s_ y0 y1 r0 aa;replace aa:wT (yM fu) s_ y0 y1=some r0:=aa;generalize yM fu=lk at ih aa;refine zdf (tt:=yw) (nt:=33) (body:=WX) [1,2,3] zx func144 rfl (by kernel_rfl) rfl rfl (by show(4:Nat)<=33;decide) (by decide) rfl rfl (λE hE=>?_) rfl;unfold wT at aa;rcases zI aa with⟨c0,aa⟩|⟨c0,aa⟩
  ·obtain rfl:=za aa;exact yF X0 hC .ret [(1,.own (.box (eOs 1 true eB y0))),(2,.own (.box (.agg [I y1.Inputs,I y1.Outputs,eSl 1 false yN y1.Rows]))),(3,.own (.box (.fn 144 [.atom cm,.atom km,.atom kn])))] (rpN 5 (Hq c0) [qT]) λst0 h0=>hE _ st0 (.inr rfl) (Jn h0 ⟨⟨rfl,rfl⟩,⟨⟨rfl,rfl⟩,⟨⟨rfl,rfl⟩,trivial⟩⟩⟩)
  ·obtain⟨pk,h0,aa⟩:=zc aa;let Z0:List HO:=[Hq c0,Hq c0,Hq c0,Hn (iL eB h0),Hq c0,Hs (iM eB h0),Hq c0];rcases zI aa with⟨c1,aa⟩|⟨c1,aa⟩
   ·obtain rfl:=za aa;exact yF X0 hC .ret [(1,.own (.box (eOs 1 true eB y0))),(2,.own (.box (.agg [I y1.Inputs,I y1.Outputs,eSl 1 false yN y1.Rows]))),(3,.own (.box (.fn 144 [.atom cm,.atom km,.atom kn])))] (Z0++[Hq c1]) λst0 h0=>hE _ st0 (.inr rfl) (Jn h0 ⟨⟨rfl,rfl⟩,⟨⟨rfl,rfl⟩,⟨⟨rfl,rfl⟩,trivial⟩⟩⟩)
   ·obtain⟨pn,h1,aa⟩:=zc aa;obtain⟨aq,h2,aa⟩:=zc aa;obtain⟨t1,ht1,aa⟩:=zc aa;refine yL X0 hC WX [1,1,1,0] [] (λs=>xL lk aq s.1 s.2.1 s.2.2.1 s.2.2.2.1 s.2.2.2.2) (λx=>Kb cm km kn aq x.1 x.2.1 x.2.2.1 x.2.2.2.1 x.2.2.2.2) ((y0.set s_.toNat true),y1.Inputs,y1.Outputs,y1.Rows,0) ht1  (Z0++[Hq c1,Hn (iL eB h1),Hs (iM eB h1),Hs (iM eB h1),Hl (sM eB y0 s_ true),Hi yN h2,Ha (lnM F9_ aq)]) ?_;rintro⟨x1,ie,gn,jr,eg⟩ m1 az ae hl1 J1 aw;try unfold xL at ae;rcases zI ae with⟨c2,ae⟩|⟨c2,ae⟩
    ·obtain⟨al,h3,ae⟩:=zc ae;obtain⟨r_,h4,ae⟩:=zc ae;obtain rfl:=za ae;exact yB ((k8 (P:=prog) yw [1,2,3] (ih _ _ _ _ h4) 31).or X0) hC aw (r_.1,r_.2.Inputs,r_.2.Outputs,r_.2.Rows,w64 (eg+1)) hl1 [Hq c2,Hi F9_ h3,Hn (Ve (f:=.fn 144 [.atom cm,.atom km,.atom kn]) (xs:=[s8 al.To]) (ls:=[(cm,.box (eOs 1 true eB x1)),(km,.box (.agg [I ie,I gn,eSl 1 false yN jr])),(kn,.box (.fn 144 [.atom cm,.atom km,.atom kn]))]) (r:=.tup []) (ys:=[.box (eOs 1 true eB r_.1),.box (.agg [I r_.2.Inputs,I r_.2.Outputs,eSl 1 false yN r_.2.Rows]),.box (.fn 144 [.atom cm,.atom km,.atom kn])]) [s8 al.To] (show z3p [s8 al.To] [s8 al.To] from inferInstance))]
    ·obtain rfl:=za ae;obtain rfl:=hl1;obtain rfl:=za aa;exact yF X0 hC .normal [(1,.own (.box (eOs 1 true eB x1))),(2,.own (.box (.agg [I ie,I gn,eSl 1 false yN jr]))),(3,.own (.box (.fn 144 [.atom cm,.atom km,.atom kn])))] [Hq c2] λst0 h0=>hE _ st0 (.inl rfl) (Jn h0 ⟨⟨rfl,rfl⟩,⟨⟨rfl,rfl⟩,⟨⟨rfl,rfl⟩,trivial⟩⟩⟩)
def jA:Code:=(f164.body).getD .skip
def qR:zN:=spF (α:=List Bool×Bool) (ρ:=Int) 164 (λx=>[(eSl 1 false eB) x.1,eB x.2]) (λr=>s8 r) (λx=>uZ x.1 x.2) [] (W2)
abbrev Qy:List (Nat×T):=[]
abbrev Qx (s_:List Bool)(v_:Bool)(x8:Int):List (Nat×T):=[(0,.d (eSl 1 false eB s_)),(1,.d (B v_)),(7,.d (I ((s_.length:Nat):Int))),(8,.d (I x8))]
theorem z0a (hC:zF prog ctr):qR.Ok prog:=by
 refine zC ?_;rintro⟨s_,v_⟩ r0 aa;try unfold uZ at aa;refine yO true [(4,none)] jA 19 func164 λE hE=>?_;refine yJ X0 hC jA [1] [] [] (λz:Unit=>qU=some r0) (λz=>Qy) [(0,.d (eSl 1 false eB s_)),(1,.d (B v_))] [Hh (.cut 1)] ?_ λJ1 aw=>?_
 ·rintro⟨⟩ aa;unfold qU at aa;obtain rfl:=za aa;exact yE X0 hC hE []
 ·obtain⟨t2,ht2,aa⟩:=zc aa;refine yL X0 hC jA [1,2,1,0] [J1] (λs=>xk s_ v_ s) (λx=>Qx s_ v_ x) 0 ht2  [Ha (lnM eB s_)] ?_;rintro x8 m2 az ae hl1 J2 a6;try unfold xk at ae;rcases zI ae with⟨c0,ae⟩|⟨c0,ae⟩
  ·obtain⟨dx,h0,ae⟩:=zc ae;rcases zI ae with⟨c1,ae⟩|⟨c1,ae⟩
   ·obtain rfl:=za ae;obtain rfl:=hl1;obtain rfl:=za aa;exact yE X0 hC hE [Hq c0,Hi eB h0,Hq c1]
   ·obtain rfl:=za ae;exact yB X0 hC a6 (w64 (x8+1)) hl1 [Hq c0,Hi eB h0,Hq c1]
  ·obtain rfl:=za ae;obtain rfl:=hl1;exact yB X0 hC aw () aa [Hq c0]
def Qw:Code:=(f145.body).getD .skip
def ue:zN:=spF (α:=List Bool×Bool) (ρ:=Bool) 145 (λx=>[(eSl 1 false eB) x.1,eB x.2]) (λr=>eB r) (λx=>xX x.1 x.2) [] (W2)
theorem QN (hC:zF prog ctr)(h1C:ctr.Has qR):ue.Ok prog:=by refine zC ?_;rintro⟨s_,v_⟩ r0 aa;try unfold xX at aa;refine yO true [(4,none)] Qw 9 func145 λE hE=>?_;obtain⟨r_,h0,aa⟩:=zc aa;obtain rfl:=za aa;exact yE X0 hC hE [Hc h1C (x:=(s_,v_)) h0 (loC (eSl 1 false eB) s_ <| loC eB v_ <| loN)]
def UL:Code:=(f113.body).getD .skip
def qA:zN:=spF (α:=z6) (ρ:=Bool×Int) 113 (λx=>[zO x]) (λr=>.tup [eB r.1,s8 r.2]) (λx=>vP x) [] (Q7)
theorem z3t (hC:zF prog ctr)(h03:ctr.Has xH)(h0Z:ctr.Has ue):qA.Ok prog:=by
 refine zC ?_;rintro m_ r0 aa;try unfold vP at aa;refine yO false [(2,none),(3,none)] UL 22 func113 λE hE=>?_;obtain⟨r_,h0,aa⟩:=zc aa
 let Z0:List HO:=[Hc h03 (x:=m_) h0 (loC zO m_ <| loN)];rcases zI aa with⟨c0,aa⟩|⟨c0,aa⟩
 ·obtain rfl:=za aa;exact yE X0 hC hE (Z0++[Hq c0])
 ·obtain⟨g0,aa⟩:=gdE aa;refine yA X0 hC UL [1,1,1,1] [] [(1,.own (.box (zO m_))),(5,.own (.box (eOs 1 true eB (List.replicate ((m_.Rows.length:Nat):Int).toNat false)))),(6,.own (.box (.atom .nilFunc)))] (Z0++[Hq c0,Ha (lnM yN m_.Rows),Hn (rL g0),Ha (rM 1 eB ((m_.Rows.length:Nat):Int) false),Hh (.cut 1)]) ?_;refine zm5 (by kernel_rfl) 5 λko=>?_;refine zm5 (by kernel_rfl) 1 λou=>?_;refine zm5 (by kernel_rfl) 6 λkp=>?_;obtain⟨aj,h1,aa⟩:=zc aa;obtain⟨ak,h2,aa⟩:=zc aa;obtain rfl:=za aa;exact yE ((k8 (P:=prog) yw [5,1,6] (z1N hC ko ou kp z1O _ _ _ _ h1) 18).or ((xMk prog yw).or X0)) hC hE [Hn (Ve (f:=.fn 144 [.atom ko,.atom ou,.atom kp]) (xs:=[s8 0]) (ls:=[(ko,.box (eOs 1 true eB (List.replicate ((m_.Rows.length:Nat):Int).toNat false))),(ou,.box (.agg [I m_.Inputs,I m_.Outputs,eSl 1 false yN m_.Rows])),(kp,.box (.fn 144 [.atom ko,.atom ou,.atom kp]))]) (r:=.tup []) (ys:=[.box (eOs 1 true eB aj.1),.box (.agg [I aj.2.Inputs,I aj.2.Outputs,eSl 1 false yN aj.2.Rows]),.box (.fn 144 [.atom ko,.atom ou,.atom kp])]) [s8 0] (show z3p [s8 0] [s8 0] from inferInstance)),Hg (JO h0Z),Hm (shM eB eB aj.1),Hs (JP h0Z (x:=(aj.1,false)) h2 (loC (eSl 1 true eB) aj.1 <| loC eB false <| loN))]
def z3C:Code:=(f132.body).getD .skip
def X3:zN:=spF (α:=z6) (ρ:=Bool) 132 (λx=>[z6m x]) (λr=>eB r) (λx=>YM x) [] (Q7)
theorem z4b (hC:zF prog ctr)(h0z:ctr.Has qA):X3.Ok prog:=by refine zC ?_;rintro x0 r0 aa;try unfold YM at aa;refine yO true [(1,none)] z3C 10 func132 λE hE=>?_;obtain⟨r_,h0,aa⟩:=zc aa;obtain rfl:=za aa;exact yE X0 hC hE [Hc h0z (x:=x0) h0 (loC zO x0 <| loN)]
def z6Q:Code:=(f159.body).getD .skip
def Vk:zN:=spF (α:=z6) (ρ:=z6) 159 (λx=>[zO x]) (λr=>(z1k 174 z6m) r) (λx=>U0 x) [] (Q7)
theorem z81 (hC:zF prog ctr):Vk.Ok prog:=by refine zC ?_;rintro m_ r0 aa;try unfold U0 at aa;refine yO true [(2,none)] z6Q 4 func159 λE hE=>?_;obtain rfl:=za aa;exact yE X0 hC hE []
def WV:Code:=(f193.body).getD .skip
def QV:zN:=spF (α:=z6×List Int×Int) (ρ:=zq (vE Int)) 193 (λx=>[zO x.1,F7_ x.2.1,s8 x.2.2]) (λr=>F8_ r) (λx=>Yd x.1 x.2.1 x.2.2) [] (zdJ)
abbrev z5R (out:zq (vE Int)):List (Nat×T):=[(6,.own (.box (.agg [.agg [I 0,I 0],.agg [I 0,I 0],.agg [I 0,I 0],.agg [I 0,I 0],.agg [I 0,I 0],.agg [I 0,I 0],.agg [I 0,I 0],.agg [I 0,I 0],.agg [I 0,I 0],.agg [I 0,I 0],.agg [I 0,I 0],.agg [I 0,I 0],.agg [I 0,I 0],.agg [I 0,I 0],.agg [I 0,I 0],.agg [I 0,I 0]]))),(7,.own (.box (F8_ out)))]
abbrev z5Q (p_:List Int)(aq:List z8)(d8:Int)(ap:zq (vE Int)):List (Nat×T):=[(1,.d (eSl 1 false s8 p_)),(6,.own (.box (.agg [.agg [I 0,I 0],.agg [I 0,I 0],.agg [I 0,I 0],.agg [I 0,I 0],.agg [I 0,I 0],.agg [I 0,I 0],.agg [I 0,I 0],.agg [I 0,I 0],.agg [I 0,I 0],.agg [I 0,I 0],.agg [I 0,I 0],.agg [I 0,I 0],.agg [I 0,I 0],.agg [I 0,I 0],.agg [I 0,I 0],.agg [I 0,I 0]]))),(7,.own (.box (F8_ ap))),(14,.d (eSl 2 false F9_ aq)),(15,.d (I ((aq.length:Nat):Int))),(16,.d (I d8))]
abbrev z5P (p_:List Int)(aq:List z8)(ai:zq (vE Int))(d8:Int):List (Nat×T):=[(1,.d (eSl 1 false s8 p_)),(6,.own (.box (.agg [.agg [I 0,I 0],.agg [I 0,I 0],.agg [I 0,I 0],.agg [I 0,I 0],.agg [I 0,I 0],.agg [I 0,I 0],.agg [I 0,I 0],.agg [I 0,I 0],.agg [I 0,I 0],.agg [I 0,I 0],.agg [I 0,I 0],.agg [I 0,I 0],.agg [I 0,I 0],.agg [I 0,I 0],.agg [I 0,I 0],.agg [I 0,I 0]]))),(7,.own (.box (F8_ ai))),(14,.d (eSl 2 false F9_ aq)),(15,.d (I ((aq.length:Nat):Int))),(16,.d (I d8))]
theorem zb6 (hC:zF prog ctr):QV.Ok prog:=by
 refine zC ?_;rintro⟨m_,p_,s_⟩ r0 aa;try unfold Yd at aa;refine yO false [(6,some 256)] WV 39 func193 λE hE=>?_;refine yJ X0 hC WV [1,1] [] [6,7] (λz:zq (vE Int)=>Wn z=some r0) (λz=>z5R z) [(1,.d (eSl 1 false s8 p_)),(2,.d (I s_)),(3,.own (.box (zO m_))),(6,.own (.box (.agg [.agg [I 0,I 0],.agg [I 0,I 0],.agg [I 0,I 0],.agg [I 0,I 0],.agg [I 0,I 0],.agg [I 0,I 0],.agg [I 0,I 0],.agg [I 0,I 0],.agg [I 0,I 0],.agg [I 0,I 0],.agg [I 0,I 0],.agg [I 0,I 0],.agg [I 0,I 0],.agg [I 0,I 0],.agg [I 0,I 0],.agg [I 0,I 0]]))),(7,.own (.box (.agg [.agg [I 0,I 0],.agg [I 0,I 0],.agg [I 0,I 0],.agg [I 0,I 0],.agg [I 0,I 0],.agg [I 0,I 0],.agg [I 0,I 0],.agg [I 0,I 0],.agg [I 0,I 0],.agg [I 0,I 0],.agg [I 0,I 0],.agg [I 0,I 0],.agg [I 0,I 0],.agg [I 0,I 0],.agg [I 0,I 0],.agg [I 0,I 0]])))] [Hh (.cut 2)] ?_ λJ1 aw=>?_
 ·rintro out aa;unfold Wn at aa;obtain rfl:=za aa;exact yE X0 hC hE []
 ·obtain⟨aq,h0,aa⟩:=zc aa;obtain⟨t2,ht2,aa⟩:=zc aa;refine yL X0 hC WV [1,1,2,1,0] [J1] (λs=>Yb p_ aq s.1 s.2) (λx=>z5P p_ aq x.1 x.2) ((zq.mk (vE.mk 0 0) (vE.mk 0 0) (vE.mk 0 0) (vE.mk 0 0) (vE.mk 0 0) (vE.mk 0 0) (vE.mk 0 0) (vE.mk 0 0) (vE.mk 0 0) (vE.mk 0 0) (vE.mk 0 0) (vE.mk 0 0) (vE.mk 0 0) (vE.mk 0 0) (vE.mk 0 0) (vE.mk 0 0)),0) ht2  [Hi yN h0,Ha (lnM F9_ aq)] ?_;rintro⟨ai,d8⟩ m2 az ae hl1 J2 a6;try unfold Yb at ae;rcases zI ae with⟨c0,ae⟩|⟨c0,ae⟩
  ·refine yJ X0 hC WV [1,1,2,1,0,0,1,1] [J1,J2] [1,6,7,14,15,16] (λz:zq (vE Int)=>Yc d8 z=some az) (λz=>z5Q p_ aq d8 z) [(1,.d (eSl 1 false s8 p_)),(6,.own (.box (.agg [.agg [I 0,I 0],.agg [I 0,I 0],.agg [I 0,I 0],.agg [I 0,I 0],.agg [I 0,I 0],.agg [I 0,I 0],.agg [I 0,I 0],.agg [I 0,I 0],.agg [I 0,I 0],.agg [I 0,I 0],.agg [I 0,I 0],.agg [I 0,I 0],.agg [I 0,I 0],.agg [I 0,I 0],.agg [I 0,I 0],.agg [I 0,I 0]]))),(7,.own (.box (F8_ ai))),(14,.d (eSl 2 false F9_ aq)),(15,.d (I ((aq.length:Nat):Int))),(16,.d (I d8))] [Hq c0,Hh (.cut 0)] ?_ λJ3 bk=>?_
   ·rintro ap ae;unfold Yc at ae;obtain rfl:=za ae;exact yB X0 hC a6 (ap,w64 (d8+1)) hl1 []
   ·obtain⟨al,h1,ae⟩:=zc ae;obtain⟨cell,h2,ae⟩:=zc ae;obtain⟨arr,h3,ae⟩:=zc ae;replace h3:=za h3;let Z0:List HO:=[Hi F9_ h1,Hn (⟨arJ (by kernel_rfl) (i0 h2),(iL F0_ h2).2⟩:XI yw 256 ((zq.toL ai).map F0_) d8=true/\d8.toNat<((zq.toL ai).map F0_).length),Hh (.op 9),Hh (.f),Hs (iM F0_ h2),Hh (.f),Hs (iM F0_ h2),Hx (.l ((zq.toL arr).map F0_)) ((zq.setL F0_ ai d8 (vE.mk al.Out (-1))).trans (congrArg (λq=>(zq.toL q).map F0_) h3))];rcases zI ae with⟨c1,ae⟩|⟨c1,ae⟩
    ·obtain⟨a8,h4,ae⟩:=zc ae;obtain⟨bo,h5,ae⟩:=zc ae;obtain⟨arr1,h6,ae⟩:=zc ae;replace h6:=za h6;exact yB X0 hC bk arr1 ae (Z0++[Hq c1,Hi s8 h4,Hn (⟨arJ (by kernel_rfl) (i0 h5),(iL F0_ h5).2⟩:XI yw 256 ((zq.toL arr).map F0_) d8=true/\d8.toNat<((zq.toL arr).map F0_).length),Hh (.op 2),Hh (.f),Hs (iM F0_ h5),Hn (⟨rfl,by decide⟩:true=true/\1<2),Hh (.op 0),Hh (.f),Hs (iM F0_ h5),Hh (.f),Hx (.a (I bo.e1)) (rfl:some (I bo.e1:A)=some (I bo.e1)),Hh (.f),Hs (iM F0_ h5),Hh (.f),Hx (.a (I bo.e1)) (rfl:some (I bo.e1:A)=some (I bo.e1)),Hx (.l [I bo.e0,I a8]) (rfl:([I bo.e0,I a8]:List A)=[I bo.e0,I a8]),Hx (.l ((zq.toL arr1).map F0_)) ((zq.setL F0_ arr d8 (vE.mk bo.e0 a8)).trans (congrArg (λq=>(zq.toL q).map F0_) h6))])
    ·exact yB X0 hC bk arr ae (Z0++[Hq c1])
  ·obtain rfl:=za ae;obtain rfl:=hl1;exact yB X0 hC aw ai aa [Hq c0]
def ZS:Code:=(f175.body).getD .skip
def ZJ:zN:=spF (α:=z6×List Int) (ρ:=List Int) 175 (λx=>[zO x.1,F7_ x.2]) (λr=>F4_ r) (λx=>Ye x.1 x.2) [] (W2)
abbrev z2Y (out:List Int):List (Nat×T):=[(6,.own (eOs 1 true s8 out))]
abbrev z2X (m_:z6)(p_:List Int)(ai:List Int)(gw:Int)(a8:Int)(r_:zq (vE Int))(gp:List (zM×Int)):List (Nat×T):=[(1,.d (eSl 1 false s8 p_)),(2,.own (.box (zO m_))),(5,.own (.opq (z1G (WT z6q s8 gp)))),(6,.own (eOs 1 true s8 ai)),(7,.d (I gw)),(9,.own (.box (.agg [I a8,F8_ r_]))),(16,.d (eSl 1 false s8 p_)),(17,.d (I ((p_.length:Nat):Int))),(18,.d (I gw))]
abbrev z2W (m_:z6)(p_:List Int)(names:List (zM×Int))(ai:List Int)(gw:Int):List (Nat×T):=[(1,.d (eSl 1 false s8 p_)),(2,.own (.box (zO m_))),(5,.own (.opq (z1G (WT z6q s8 names)))),(6,.own (eOs 1 true s8 ai)),(16,.d (eSl 1 false s8 p_)),(17,.d (I ((p_.length:Nat):Int))),(18,.d (I gw))]
theorem z6s (hC:zF prog ctr)(h1D:ctr.Has QV):ZJ.Ok prog:=by
 refine zC ?_;rintro⟨m_,p_⟩ r0 aa;try unfold Ye at aa;refine yO true [(4,none)] ZS 49 func175 λE hE=>?_;obtain⟨g0,aa⟩:=gdE aa;refine yJ ((ztP prog 12).or X0) hC ZS [1,1,1] [] [6] (λz:List Int=>ZL z=some r0) (λz=>z2Y z) [(1,.d (eSl 1 false s8 p_)),(2,.own (.box (zO m_))),(5,.own (.opq (z1G (WT z6q s8 ([]:List (zM×Int)))))),(6,.own (eOs 1 true s8 (List.replicate ((p_.length:Nat):Int).toNat (0:Int))))] [Ha (lnM s8 p_),Hn (rL g0),Ha (rM 1 s8 ((p_.length:Nat):Int) (0:Int)),Hh (.cut 0)] ?_ λJ1 aw=>?_
 ·rintro out aa;unfold ZL at aa;obtain rfl:=za aa;exact yE X0 hC hE []
 ·obtain⟨t2,ht2,aa⟩:=zc aa;refine yL X0 hC ZS [1,1,1,2,1,0] [J1] (λs=>qD m_ p_ s.1 s.2.1 s.2.2) (λx=>z2W m_ p_ x.1 x.2.1 x.2.2) (([]:List (zM×Int)),(List.replicate ((p_.length:Nat):Int).toNat (0:Int)),0) ht2  [Ha (lnM s8 p_)] ?_;rintro⟨names,ai,gw⟩ m2 az ae hl1 J2 a6;try unfold qD at ae;rcases zI ae with⟨c0,ae⟩|⟨c0,ae⟩
  ·obtain⟨a8,h0,ae⟩:=zc ae;obtain⟨r_,h1,ae⟩:=zc ae;refine yJ X0 hC ZS [1,1,1,2,1,0,0,1,1,0,0,1,1] [J1,J2] [1,2,5,6,7,9,16,17,18] (λz:List (zM×Int)=>vM ai gw a8 r_ z=some az) (λz=>z2X m_ p_ ai gw a8 r_ z) [(1,.d (eSl 1 false s8 p_)),(2,.own (.box (zO m_))),(5,.own (.opq (z1G (WT z6q s8 names)))),(6,.own (eOs 1 true s8 ai)),(7,.d (I gw)),(9,.own (.box (.agg [I a8,F8_ r_]))),(16,.d (eSl 1 false s8 p_)),(17,.d (I ((p_.length:Nat):Int))),(18,.d (I gw))] [Hq c0,Hi s8 h0,Hc h1D (x:=(m_,p_,gw)) h1 (loC zO m_ <| loC F7_ p_ <| loC s8 gw <| loN),Hh (.cut 0)] ?_ λJ3 bk=>?_
   ·rintro gp ae;unfold vM at ae;obtain⟨val,h2,ae⟩:=zc ae;replace h2:=za h2;obtain⟨co,h3,ae⟩:=zc ae;obtain rfl:=za ae;exact yB ((zjc zeR 45 (WT z6q s8 gp)).or X0) hC a6 (gp,(ai.set gw.toNat val),w64 (gw+1)) hl1 [Hn (⟨rfl,rfl,zfg (λ_=>rfl) gp⟩:A.opq (z1G (WT z6q s8 gp))=A.opq (z1G (WT z6q s8 gp))/\(z9R [.i64,.i64,.i64,.i64,.i64,.i64,.i64,.i64,.i64,.i64,.i64,.i64,.i64,.i64,.i64,.i64,.i64,.i64,.i64,.i64,.i64,.i64,.i64,.i64,.i64,.i64,.i64,.i64,.i64,.i64,.i64,.i64,.i64]) (z6q (zM.mk a8 r_))=true/\∀p∈WT z6q s8 gp,(z9R [.i64,.i64,.i64,.i64,.i64,.i64,.i64,.i64,.i64,.i64,.i64,.i64,.i64,.i64,.i64,.i64,.i64,.i64,.i64,.i64,.i64,.i64,.i64,.i64,.i64,.i64,.i64,.i64,.i64,.i64,.i64,.i64,.i64]) p.1=true),Hx (.a (s8 val)) ((zBv (f:=z6q) (g:=s8) (z0:=0) (z:=.atom (.int .i64 0)) rfl (zM.mk a8 r_) gp).trans (congrArg s8 h2)),Hn (iL s8 h3),Hs (iM s8 h3),Hs (iM s8 h3),Hl (sM s8 ai gw val)]
   ·obtain⟨pc,h4,ae⟩:=zc ae;replace h4:=za h4;let Z0:List HO:=[Hn (⟨rfl,rfl,zfg (λ_=>rfl) names⟩:A.opq (z1G (WT z6q s8 names))=A.opq (z1G (WT z6q s8 names))/\(z9R [.i64,.i64,.i64,.i64,.i64,.i64,.i64,.i64,.i64,.i64,.i64,.i64,.i64,.i64,.i64,.i64,.i64,.i64,.i64,.i64,.i64,.i64,.i64,.i64,.i64,.i64,.i64,.i64,.i64,.i64,.i64,.i64,.i64]) (z6q (zM.mk a8 r_))=true/\∀p∈WT z6q s8 names,(z9R [.i64,.i64,.i64,.i64,.i64,.i64,.i64,.i64,.i64,.i64,.i64,.i64,.i64,.i64,.i64,.i64,.i64,.i64,.i64,.i64,.i64,.i64,.i64,.i64,.i64,.i64,.i64,.i64,.i64,.i64,.i64,.i64,.i64]) p.1=true),Hx (.a (.tup [I pc,B ((z0J names (zM.mk a8 r_)).isSome)])) ((zDd (f:=z6q) (g:=s8) (z0:=0) (z:=.atom (.int .i64 0)) rfl (zM.mk a8 r_) names).trans (congrArg (λx=>A.tup [s8 x,.atom (.bool (z0J names (zM.mk a8 r_)).isSome)]) h4))];rcases zI ae with⟨c1,ae⟩|⟨c1,ae⟩
    ·exact yB ((zAB zeR 37 (WT z6q s8 names) (WT z6q s8 (z9S names (zM.mk a8 r_) ((names.length:Nat):Int)))).or ((zyZ zeR 40 (WT z6q s8 names)).or ((zjc zeR 32 (WT z6q s8 names)).or X0))) hC bk (z9S names (zM.mk a8 r_) ((names.length:Nat):Int)) ae (Z0++[Hq c1,Hn (rfl:A.opq (z1G (WT z6q s8 names))=A.opq (z1G (WT z6q s8 names))),Hx (aLn names.length) (zsz z6q s8 names),Hn (⟨rfl,rfl,rfl,rfl,zfg (λ_=>rfl) names⟩:T.own (.opq (z1G (WT z6q s8 names)))=T.own (.opq (z1G (WT z6q s8 names)))/\0=0/\(z9R [.i64,.i64,.i64,.i64,.i64,.i64,.i64,.i64,.i64,.i64,.i64,.i64,.i64,.i64,.i64,.i64,.i64,.i64,.i64,.i64,.i64,.i64,.i64,.i64,.i64,.i64,.i64,.i64,.i64,.i64,.i64,.i64,.i64]) (z6q (zM.mk a8 r_))=true/\(s8 ((names.length:Nat):Int)).isD=true/\∀p∈WT z6q s8 names,(z9R [.i64,.i64,.i64,.i64,.i64,.i64,.i64,.i64,.i64,.i64,.i64,.i64,.i64,.i64,.i64,.i64,.i64,.i64,.i64,.i64,.i64,.i64,.i64,.i64,.i64,.i64,.i64,.i64,.i64,.i64,.i64,.i64,.i64]) p.1=true),Hn (zkj (f:=z6q) (g:=s8) (zM.mk a8 r_) ((names.length:Nat):Int) names)])
    ·exact yB ((zjc zeR 32 (WT z6q s8 names)).or X0) hC bk names ae (Z0++[Hq c1])
  ·obtain rfl:=za ae;obtain rfl:=hl1;exact yB X0 hC aw ai aa [Hq c0]
def kX:Code:=(f56.body).getD .skip
def ud:zN:=spF (α:=List Int×List Int) (ρ:=Bool) 56 (λx=>[F7_ x.1,F7_ x.2]) (λr=>eB r) (λx=>u6 x.1 x.2) [] (W2)
abbrev Ka:List (Nat×T):=[]
abbrev K9 (s1:List Int)(s2:List Int)(ff:Int):List (Nat×T):=[(0,.d (eSl 1 false s8 s1)),(1,.d (eSl 1 false s8 s2)),(12,.d (I ((s1.length:Nat):Int))),(13,.d (I ff))]
theorem z1L (hC:zF prog ctr):ud.Ok prog:=by
 refine zC ?_;rintro⟨s1,s2⟩ r0 aa;try unfold u6 at aa;refine yO true [(4,none)] kX 26 func56 λE hE=>?_
 let Z0:List HO:=[Ha (lnM s8 s1),Ha (lnM s8 s2)];rcases zI aa with⟨c0,aa⟩|⟨c0,aa⟩
 ·obtain rfl:=za aa;exact yE X0 hC hE (Z0++[Hq c0])
 ·refine yJ X0 hC kX [1,1] [] [] (λz:Unit=>ug=some r0) (λz=>Ka) [(0,.d (eSl 1 false s8 s1)),(1,.d (eSl 1 false s8 s2))] (Z0++[Hq c0,Hh (.cut 0)]) ?_ λJ1 aw=>?_
  ·rintro⟨⟩ aa;unfold ug at aa;obtain rfl:=za aa;exact yE X0 hC hE []
  ·obtain⟨t2,ht2,aa⟩:=zc aa;refine yL X0 hC kX [1,1,2,1,0] [J1] (λs=>xI s1 s2 s) (λx=>K9 s1 s2 x) 0 ht2  [Ha (lnM s8 s1)] ?_;rintro ff m2 az ae hl1 J2 a6;try unfold xI at ae;rcases zI ae with⟨c1,ae⟩|⟨c1,ae⟩
   ·obtain⟨nn,h0,ae⟩:=zc ae;obtain⟨ma,h1,ae⟩:=zc ae;let Z1:List HO:=[Hq c1,Hi s8 h0,Hi s8 h1];rcases zI ae with⟨c2,ae⟩|⟨c2,ae⟩
    ·obtain rfl:=za ae;obtain rfl:=hl1;obtain rfl:=za aa;exact yE X0 hC hE (Z1++[Hq c2])
    ·obtain rfl:=za ae;exact yB X0 hC a6 (w64 (ff+1)) hl1 (Z1++[Hq c2])
   ·obtain rfl:=za ae;obtain rfl:=hl1;exact yB X0 hC aw () aa [Hq c1]
def JD:Code:=(f174.body).getD .skip
abbrev z29 (x0:z6)(YY:σ->z8W)(dr:σ)(p_:List Int):List (Nat×T):=[(0,.own (.opq (YY dr).q)),(1,.d (.sptr (zO x0))),(3,.own (eOs 1 true s8 p_))]
theorem z4Z (hC:zF prog ctr)(h0A:ctr.Has ZJ)(h0r:ctr.Has ud)(x0:z6):zfx prog (.fn 174 [.sptr (.agg [I x0.Inputs,I x0.Outputs,eSl 1 false yN x0.Rows])]) (λ(x:List Int) (_:Bool) (_:Value)=>[F7_ x]) (@Zc x0):=by
 refine z9W (tt:=yw) (nt:=19) (body:=JD) zx func174 rfl (by kernel_rfl) rfl rfl (by show(2:Nat)<=19;decide) ?_;intro σ yv YY yy hy sg r0 aa E hE;unfold Zc at aa;obtain⟨g0,aa⟩:=gdE aa;obtain⟨t1,ht1,aa⟩:=zc aa;refine yL X0 hC JD [1,0] [] (λs=>uI x0 yy s.1 s.2) (λx=>z29 x0 YY x.1 x.2) (sg,(List.replicate ((x0.Rows.length:Nat):Int).toNat (0:Int))) ht1  [Ha (lnM yN x0.Rows),Hn (rL g0),Ha (rM 1 s8 ((x0.Rows.length:Nat):Int) (0:Int))] ?_;rintro⟨dr,p_⟩ m1 az ae hl1 J1 aw;try unfold uI at ae;obtain⟨yr,h0,ae⟩:=zc ae
 let Z0:List HO:=[Hm (shM s8 s8 p_),Hn (z9k (yv:=yv) (Y:=YY) (enc:=(λ(x:List Int) (_:Bool) (_:Value)=>[F7_ x])) (s:=dr) (x:=p_) (s':=yr.1) (b:=yr.2) (v:=.nilFunc) [F3_ p_] (show z3p [F3_ p_] [F7_ p_] from inferInstance))];rcases zI ae with⟨c0,ae⟩|⟨c0,ae⟩
 ·obtain⟨r_,h1,ae⟩:=zc ae;obtain⟨aj,h2,ae⟩:=zc ae;let Z1:List HO:=(Z0++[Hq c0,Hc h0A (x:=(x0,p_)) h1 (loC zO x0 <| loC F3_ p_ <| loN),Hg (JO h0r),Hm (shM s8 s8 r_),Hs (JP h0r (x:=(p_,r_)) h2 (loC F3_ p_ <| loC F3_ r_ <| loN))]);rcases zI ae with⟨c1,ae⟩|⟨c1,ae⟩
  ·obtain rfl:=za ae;obtain rfl:=hl1;obtain rfl:=za aa;exact yF ((z2g (P:=prog) yw hy 11 (s:=dr) (x:=p_) (s':=yr.1) (b:=yr.2) .nilFunc h0).or X0) hC .ret [(0,.own (.opq (YY yr.1).q))] (Z1++[Hq c1]) λst0 h0=>hE _ st0 (.inr rfl) h0
  ·obtain rfl:=za ae;exact yB ((z2g (P:=prog) yw hy 11 (s:=dr) (x:=p_) (s':=yr.1) (b:=yr.2) .nilFunc h0).or X0) hC aw (yr.1,r_) hl1 (Z1++[Hq c1])
 ·obtain rfl:=za ae;obtain rfl:=hl1;obtain rfl:=za aa;exact yF ((z2g (P:=prog) yw hy 11 (s:=dr) (x:=p_) (s':=yr.1) (b:=yr.2) .nilFunc h0).or X0) hC .normal [(0,.own (.opq (YY yr.1).q))] (Z0++[Hq c0]) λst0 h0=>hE _ st0 (.inl rfl) h0
def vS:Code:=(f134.body).getD .skip
def Wb:zN:=spF (α:=z6) (ρ:=List Int×Int×Int) 134 (λx=>[zO x]) (λr=>.tup [F7_ r.1,s8 r.2.1,s8 r.2.2]) (λx=>Yf x) [] (Q7)
abbrev z2Z (p_:List Int)(n_:Int):List (Nat×T):=[(2,.own (.box (eSl 1 false s8 p_))),(3,.own (.box (I n_)))]
abbrev UP (aj:z6)(l7:List Int)(dp:Int):List (Nat×T):=[(2,.own (.box (eSl 1 false s8 l7))),(3,.own (.box (I dp))),(13,.d (.fn 174 [.sptr (.agg [I aj.Inputs,I aj.Outputs,eSl 1 false yN aj.Rows])]))]
theorem z6t (hC:zF prog ctr)(h03:ctr.Has xH)(h1E:ctr.Has Vk)(h0A:ctr.Has ZJ)(h0r:ctr.Has ud):Wb.Ok prog:=by
 refine zC ?_;rintro m_ r0 aa;try unfold Yf at aa;refine yO false [(2,some 51),(3,some 3),(4,none)] vS 20 func134 λE hE=>?_;obtain⟨r_,h0,aa⟩:=zc aa
 let Z0:List HO:=[Hh (.v 2 [2]),Hm (shM s8 s8 []),Hc h03 (x:=m_) h0 (loC zO m_ <| loN)];rcases zI aa with⟨c0,aa⟩|⟨c0,aa⟩
 ·obtain rfl:=za aa;exact yEx X0 hC hE (Z0++[Hq c0,Hm (shM s8 s8 [])]) (.tup [eSl 1 true s8 [],I 0,I r_]) (show LeV (.tup [eSl 1 true s8 [],I 0,I r_]) (.tup [eSl 1 false s8 ([]:List Int),I 0,I r_]) from inferInstance)
 ·refine yJ X0 hC vS [1,1,1] [] [2,3] (λz:List Int×Int=>ZM z.1 z.2=some r0) (λz=>z2Z z.1 z.2) [(1,.own (.box (zO m_))),(2,.own (.box (eSl 1 true s8 []))),(3,.own (.box (I (-1))))] (Z0++[Hq c0,Hh (.cut 1)]) ?_ λJ1 aw=>?_
  ·rintro⟨p_,n_⟩ aa;unfold ZM at aa;obtain rfl:=za aa;exact yE X0 hC hE []
  ·obtain⟨aj,h1,aa⟩:=zc aa;obtain⟨t2,ht2,aa⟩:=zc aa;refine yAt X0 hC (sub [1,1,1,2,1,0] vS) (frs [1,1,1,2,1,0] [J1] vS []) [(2,.own (.box (eSl 1 true s8 []))),(3,.own (.box (I (-1)))),(13,.d (.fn 174 [.sptr (.agg [I aj.Inputs,I aj.Outputs,eSl 1 false yN aj.Rows])]))] [Hc h1E (x:=m_) h1 (loC zO m_ <| loN)] λst0 h0=>?_;refine z6V (g:=.tmp 13) (ps:=[14]) (assign:=(sub [1,1,1,2,1,0,0] vS)) (body:=(sub [1,1,1,2,1,0,1] vS)) (K:=174) (caps:=[.sptr (.agg [I aj.Inputs,I aj.Outputs,eSl 1 false yN aj.Rows])]) (by kernel_rfl) [2,3,13] (λs=>UP aj s.1 s.2) (λz=>nomatch z) (λz=>nomatch z) ((λ(x:List Int) (_:Bool) (_:Value)=>[F7_ x])) (F:=@Zc aj) (λs x=>vN s.1 s.2 x) (([]:List Int),(-1)) t2 _ h0 inferInstance (by kernel_rfl) (by decide) (λ_=>rfl) (by rintro⟨⟩) (by kernel_rfl) (λ_ _ _=>rfl) (z4Z hC h0A h0r aj) ht2 ?_ ?_
   ·rintro oz ⟨l7,dp⟩ mr vr az ae;replace ae:vN l7 dp mr=some az:=ae;unfold vN at ae;refine yF X0 hC .normal [(2,.own (.box (eSl 1 false s8 l7))),(3,.own (.box (I dp))),(6,.d (eSl 1 false s8 mr)),(13,.d (.fn 174 [.sptr (.agg [I aj.Inputs,I aj.Outputs,eSl 1 false yN aj.Rows])]))] [] λst0 h0=>⟨rfl,zdB h0 ?_⟩;obtain rfl:=za ae;exact yF X0 hC .normal (UP aj mr (w64 (dp+1))) [] λst0 h0=>⟨rfl,_,h0,LeL.refl _⟩
   ·rcases t2 with⟨l7,dp⟩|z
    ·dsimp only at aa;exact JF (by kernel_rfl) (aw _ [(2,.own (.box (eSl 1 false s8 l7))),(3,.own (.box (I dp)))] (l7,dp) aa (show Own.canon [2,3] _=ofL _ by kernel_rfl) inferInstance)
    ·cases z
def Yo:Code:=(f135.body).getD .skip
def Y5:zN:=spF (α:=List Int) (ρ:=Int) 135 (λx=>[F7_ x]) (λr=>s8 r) (λx=>qC x) [] (Q7)
abbrev z0G (m_:Int):List (Nat×T):=[(3,.d (I m_))]
abbrev z0F (x_:List Int)(nq:Int)(i_:Int):List (Nat×T):=[(0,.d (eSl 1 false s8 x_)),(3,.d (I nq)),(4,.d (I i_))]
theorem z3r (hC:zF prog ctr):Y5.Ok prog:=by
 refine zC ?_;rintro x_ r0 aa;try unfold qC at aa;refine yO true [(2,none)] Yo 25 func135 λE hE=>?_;rcases zI aa with⟨c0,aa⟩|⟨c0,aa⟩
 ·cases aa
 ·obtain⟨lb,h0,aa⟩:=zc aa;refine yJ X0 hC Yo [1,1,1] [] [3] (λz:Int=>qB z=some r0) (λz=>z0G z) [(0,.d (eSl 1 false s8 x_)),(3,.d (I lb))] [Ha (lnM s8 x_),Hq c0,Hi s8 h0,Hh (.cut 0)] ?_ λJ1 aw=>?_
  ·rintro m_ aa;unfold qB at aa;obtain rfl:=za aa;exact yE X0 hC hE []
  ·obtain⟨t2,ht2,aa⟩:=zc aa;refine yL X0 hC Yo [1,1,1,2,1,0] [J1] (λs=>vq x_ s.1 s.2) (λx=>z0F x_ x.1 x.2) (lb,1) ht2  [] ?_;rintro⟨nq,i_⟩ m2 az ae hl1 J2 a6;try unfold vq at ae;rcases zI ae with⟨c1,ae⟩|⟨c1,ae⟩
   ·obtain⟨ki,h1,ae⟩:=zc ae;obtain rfl:=za ae;exact yB X0 hC a6 ((mx nq ki),w64 (i_+1)) hl1 [Ha (lnM s8 x_),Hq c1,Hi s8 h1]
   ·obtain rfl:=za ae;obtain rfl:=hl1;exact yB X0 hC aw nq aa [Ha (lnM s8 x_),Hq c1]
def z3B:Code:=(f133.body).getD .skip
def X2:zN:=spF (α:=z6) (ρ:=Bool) 133 (λx=>[z6m x]) (λr=>eB r) (λx=>YL x) [] (Q7)
theorem z4a (hC:zF prog ctr)(h1F:ctr.Has Wb)(h1G:ctr.Has Y5):X2.Ok prog:=by refine zC ?_;rintro x0 r0 aa;try unfold YL at aa;refine yO true [(1,none)] z3B 17 func133 λE hE=>?_;obtain⟨r_,h0,aa⟩:=zc aa;obtain⟨aj,h1,aa⟩:=zc aa;obtain rfl:=za aa;exact yE X0 hC hE [Hc h1F (x:=x0) h0 (loC zO x0 <| loN),Hc h1G (x:=r_.1) h1 (loC F7_ r_.1 <| loN),Ha (lnM s8 r_.1)]
def JE:Code:=(f58.body).getD .skip
def uG:zN:=spF (α:=z6) (ρ:=Int) 58 (λx=>[zO x]) (λr=>s8 r) (λx=>wM x) [] (Q7)
abbrev z2a:List (Nat×T):=[]
theorem z51 (hC:zF prog ctr)(h03:ctr.Has xH)(h1H:ctr.Has Wk)(h1I:ctr.Has X4)(h1J:ctr.Has X3)(h1K:ctr.Has X2):uG.Ok prog:=by
 refine zC ?_;rintro m_ r0 aa;try unfold wM at aa;refine yO true [(2,none)] JE 23 func58 λE hE=>?_;obtain⟨r_,h0,aa⟩:=zc aa
 let Z0:List HO:=[Hc h03 (x:=m_) h0 (loC zO m_ <| loN)];rcases zI aa with⟨c0,aa⟩|⟨c0,aa⟩
 ·obtain rfl:=za aa;exact yE X0 hC hE (Z0++[Hq c0])
 ·refine yJ X0 hC JE [1,1] [] [] (λz:Unit=>kP=some r0) (λz=>z2a) [(1,.own (.box (zO m_)))] (Z0++[Hq c0,Hh (.cut 0)]) ?_ λJ1 aw=>?_
  ·rintro⟨⟩ aa;unfold kP at aa;obtain rfl:=za aa;exact yE X0 hC hE []
  ·obtain⟨aj,h1,aa⟩:=zc aa;obtain⟨ak,h2,aa⟩:=zc aa;let Z1:List HO:=[Hc h1H (x:=m_) h1 (loC zO m_ <| loN),Hh (.u 70),qT,Hc h1I (x:=aj.1.2) h2 (loC z6m aj.1.2 <| loN)];rcases zI aa with⟨c1,aa⟩|⟨c1,aa⟩
   ·obtain rfl:=za aa;exact yE X0 hC hE (Z1++[Hq c1])
   ·obtain⟨au,h3,aa⟩:=zc aa;let Z2:List HO:=(Z1++[Hq c1,qT,Hc h1J (x:=aj.2.1.2) h3 (loC z6m aj.2.1.2 <| loN)]);rcases zI aa with⟨c2,aa⟩|⟨c2,aa⟩
    ·obtain rfl:=za aa;exact yE X0 hC hE (Z2++[Hq c2])
    ·obtain⟨ca,h4,aa⟩:=zc aa;let Z3:List HO:=(Z2++[Hq c2,qT,Hc h1K (x:=aj.2.2.2) h4 (loC z6m aj.2.2.2 <| loN)]);rcases zI aa with⟨c3,aa⟩|⟨c3,aa⟩
     ·obtain rfl:=za aa;exact yE X0 hC hE (Z3++[Hq c3])
     ·exact yB X0 hC aw () aa (Z3++[Hq c3,qF])
def zah:Code:=(Tryz.f25.body).getD .skip
def Wa:zN:=spF (α:=z6×Int) (ρ:=Int) 25 (λx=>[zO x.1,s8 x.2]) (λr=>s8 r) (λx=>XQ x.1 x.2) [] (W2)
theorem zb3 (hC:zF prog ctr)(h0h:ctr.Has uG):Wa.Ok prog:=by
 refine zC ?_;rintro⟨m_,bound⟩ r0 aa;try unfold XQ at aa;refine yO true [(4,none)] zah 24 func25 λE hE=>?_;obtain⟨r_,h0,aa⟩:=zc aa
 let Z0:List HO:=[Hc h0h (x:=m_) h0 (loC zO m_ <| loN)];rcases zI aa with⟨c0,aa⟩|⟨c0,aa⟩
 ·obtain rfl:=za aa;exact yE X0 hC hE (Z0++[Hq c0])
 ·let Z1:List HO:=(Z0++[Hq c0,Ha (lnM yN m_.Rows)]);rcases zI aa with⟨c1,aa⟩|⟨c1,aa⟩
  ·obtain rfl:=za aa;exact yE X0 hC hE (Z1++(rpN 7 (Hq c1) [qT]))
  ·let Z2:List HO:=(Z1++(rpN 4 (Hq c1) [Ha (lnM yN m_.Rows),Hq c1,Hq c1,Hq c1]));rcases zI aa with⟨c2,aa⟩|⟨c2,aa⟩
   ·obtain rfl:=za aa;exact yE X0 hC hE (Z2++[Hq c2])
   ·obtain rfl:=za aa;exact yE X0 hC hE (Z2++[Hq c2])
def z6N:Code:=(f165.body).getD .skip
def Vi:zN:=spF (α:=z6×Int) (ρ:=z6×Int) 165 (λx=>[zO x.1,s8 x.2]) (λr=>(zDf 186 z6m (eSp s8)) r) (λx=>VO x.1 x.2) [] (W2)
theorem z7W (hC:zF prog ctr):Vi.Ok prog:=by refine zC ?_;rintro⟨m_,from_⟩ r0 aa;try unfold VO at aa;refine yO true [(4,none)] z6N 6 func165 λE hE=>?_;obtain rfl:=za aa;exact yEx X0 hC hE [] (.fn 186 [.sptr (.agg [I m_.Inputs,I m_.Outputs,eSl 1 false yN m_.Rows]),.sptr (I from_)]) (show LeV (.fn 186 [.sptr (.agg [I m_.Inputs,I m_.Outputs,eSl 1 false yN m_.Rows]),.sptr (I from_)]) (.fn 186 [.sptr (.agg [I (((m_,from_).1).Inputs),I (((m_,from_).1).Outputs),eSl 1 false yN (((m_,from_).1).Rows)]),.sptr (I ((m_,from_).2))]) from inferInstance)
def wg:Code:=(f186.body).getD .skip
abbrev z1S (x0:z6)(YY:σ->z8W)(bu:zm)(yr:σ×Bool)(aq:List z8)(gx:Int)(dg:List Bool)(ln:List zm):List (Nat×T):=[(0,.own (.opq (YY yr.1).q)),(1,.d (.sptr (zO x0))),(4,.own (eOs 1 true eB dg)),(5,.own (eDq 3 W6 ln)),(6,.own (.box (W6 bu))),(36,.d (eSl 2 false F9_ aq)),(37,.d (I ((aq.length:Nat):Int))),(38,.d (I gx))]
abbrev z1Q (x0:z6)(YY:σ->z8W)(bu:zm)(yr:σ×Bool)(aq:List z8)(fk:List Bool)(d9:List zm)(gx:Int):List (Nat×T):=[(0,.own (.opq (YY yr.1).q)),(1,.d (.sptr (zO x0))),(4,.own (eOs 1 true eB fk)),(5,.own (eDq 3 W6 d9)),(6,.own (.box (W6 bu))),(36,.d (eSl 2 false F9_ aq)),(37,.d (I ((aq.length:Nat):Int))),(38,.d (I gx))]
abbrev z1R (x0:z6)(YY:σ->z8W)(dr:σ)(iz:List Bool)(cx:List zm):List (Nat×T):=[(0,.own (.opq (YY dr).q)),(1,.d (.sptr (zO x0))),(4,.own (eOs 1 true eB iz)),(5,.own (eDq 3 W6 cx))]
theorem z4V (hC:zF prog ctr)(x0:z6)(x1:Int):zfx prog (.fn 186 [.sptr (.agg [I x0.Inputs,I x0.Outputs,eSl 1 false yN x0.Rows]),.sptr (I x1)]) (λ(x:zm) (_:Bool) (_:Value)=>[W6 x]) (@Z7 x0 x1):=by
 refine z9W (tt:=yw) (nt:=68) (body:=wg) zx func186 rfl (by kernel_rfl) rfl rfl (by show(3:Nat)<=68;decide) ?_;intro σ yv YY yy hy sg r0 aa E hE;unfold Z7 at aa;obtain⟨g0,aa⟩:=gdE aa;obtain⟨my,h0,aa⟩:=zc aa;obtain⟨t1,ht1,aa⟩:=zc aa;refine yLx X0 hC wg [1,1,1,0] [] (λs=>uA x0 yy s.1 s.2.1 s.2.2) (λx=>z1R x0 YY x.1 x.2.1 x.2.2) (sg,((List.replicate ((x0.Rows.length:Nat):Int).toNat false).set x1.toNat true),([(zm.mk x1 (-1) (-1))]:List zm)) ht1 [(0,.own (.opq (YY sg).q)),(1,.d (.sptr (zO x0))),(4,.own (eOs 1 true eB ((List.replicate ((x0.Rows.length:Nat):Int).toNat false).set x1.toNat true))),(5,.own (eOs 3 true W6 ([(zm.mk x1 (-1) (-1))])))] inferInstance [Ha (lnM yN x0.Rows),Hn (rL g0),Ha (rM 1 eB ((x0.Rows.length:Nat):Int) false),Hn (iL eB h0),Hs (iM eB h0),Hs (iM eB h0),Hl (sM eB (List.replicate ((x0.Rows.length:Nat):Int).toNat false) x1 true)] ?_;rintro⟨dr,iz,cx⟩ m1 az ae hl1 J1 aw;try unfold uA at ae
 let Z0:List HO:=[Hn (rfl:eDq 3 W6 cx=A.opq (z9F 3 (cx.map W6)).q),Ha (lnM W6 cx)];rcases zI ae with⟨c0,ae⟩|⟨c0,ae⟩
 ·refine yA ((xQl zx 20 244 3 (cx.map W6) (by kernel_rfl)).or X0) hC wg [1,1,1,0,0,1,0] [J1] [(0,.own (.opq (YY dr).q)),(1,.d (.sptr (zO x0))),(4,.own (eOs 1 true eB iz)),(5,.own (eDq 3 W6 cx))] (Z0++[Hq c0,Hh (.cut 0)]) ?_;obtain⟨bu,h1,ae⟩:=zc ae;refine zfs (by kernel_rfl) (x:=(sub [1,1,1,0,0,1,0,0] wg)) (y:=(sub [1,1,1,0,0,1,0,1] wg)) 5 (λst1=>Own.canon [0,1,4,5,6] st1=ofL [(0,.own (.opq (YY dr).q)),(1,.d (.sptr (zO x0))),(4,.own (eOs 1 true eB iz)),(5,.own (eDq 3 W6 cx)),(6,.own (.box (W6 bu)))]) (λko=>yF ((xQd zx 24 3 5 ko (0:Int) (cx.map W6) (W6 bu)).or ((xQi zx 23 3 5 ko (cx.map W6)).or X0)) hC .normal [(0,.own (.opq (YY dr).q)),(1,.d (.sptr (zO x0))),(4,.own (eOs 1 true eB iz)),(5,.own (eDq 3 W6 cx)),(6,.own (.box (W6 bu)))] [Hn (⟨rfl,rfl,rfl,rfl,i0 h1,(iL W6 h1).2⟩:T.als 5 [] 0 0=T.als 5 [] 0 0/\some ko=some ko/\T.own (eDq 3 W6 cx)=T.own (eDq 3 W6 cx)/\some 3=some 3/\(0:Int)<=0/\(0:Int).toNat<(cx.map W6).length),Hn (⟨rfl,rfl,rfl,iM W6 h1,rfl,z4U.isD bu⟩:T.d (.atom (ziz 3 ko (0:Int)))=T.d (.atom (ziz 3 ko (0:Int)))/\some ko=some ko/\T.own (eDq 3 W6 cx)=T.own (eDq 3 W6 cx)/\(cx.map W6)[(0:Int).toNat]?=some (W6 bu)/\true=true/\(W6 bu).isD=true)] λst0 h0=>⟨rfl,h0⟩) λst1 h1=>zdB h1 ?_;obtain⟨g1,ae⟩:=gdE ae;obtain⟨yr,h2,ae⟩:=zc ae;let Z1:List HO:=[Hn (rfl:eDq 3 W6 cx=A.opq (z9F 3 (cx.map W6)).q),Hn (⟨g1.1,cuB W6 g1⟩:(0:Int)<=1/\(1:Int).toNat<=(cx.map W6).length),Hn (drM W6 cx (1:Int).toNat),Hn (z9k (yv:=yv) (Y:=YY) (enc:=(λ(x:zm) (_:Bool) (_:Value)=>[W6 x])) (s:=dr) (x:=bu) (s':=yr.1) (b:=yr.2) (v:=.nilFunc) [W6 bu] (show z3p [W6 bu] [W6 bu] from inferInstance))];rcases zI ae with⟨c1,ae⟩|⟨c1,ae⟩
  ·obtain rfl:=za ae;obtain rfl:=hl1;obtain rfl:=za aa;exact yF ((z2g (P:=prog) yw hy 29 (s:=dr) (x:=bu) (s':=yr.1) (b:=yr.2) .nilFunc h2).or ((xQs zx 26 3 (cx.map W6) ((cx.drop (1:Int).toNat).map W6)).or X0)) hC .ret [(0,.own (.opq (YY yr.1).q))] (Z1++[Hq c1]) λst0 h0=>hE _ st0 (.inr rfl) h0
  ·obtain⟨aq,h3,ae⟩:=zc ae;obtain⟨t2,ht2,ae⟩:=zc ae;refine yL ((z2g (P:=prog) yw hy 29 (s:=dr) (x:=bu) (s':=yr.1) (b:=yr.2) .nilFunc h2).or ((xQs zx 26 3 (cx.map W6) ((cx.drop (1:Int).toNat).map W6)).or X0)) hC wg [1,1,1,0,0,1,0,1,1,1,1,0] [J1] (λs=>wV bu yr aq s.1 s.2.1 s.2.2) (λx=>z1Q x0 YY bu yr aq x.1 x.2.1 x.2.2) (iz,(cx.drop (1:Int).toNat),0) ht2  (Z1++[Hq c1,Hi yN h3,Ha (lnM F9_ aq)]) ?_;rintro⟨fk,d9,gx⟩ m2 dl ah hl2 J2 a6;try unfold wV at ah;rcases zI ah with⟨c2,ah⟩|⟨c2,ah⟩
   ·refine yJ X0 hC wg [1,1,1,0,0,1,0,1,1,1,1,0,0,1,1] [J1,J2] [0,1,4,5,6,36,37,38] (λz:List Bool×List zm=>xx gx z.1 z.2=some dl) (λz=>z1S x0 YY bu yr aq gx z.1 z.2) [(0,.own (.opq (YY yr.1).q)),(1,.d (.sptr (zO x0))),(4,.own (eOs 1 true eB fk)),(5,.own (eDq 3 W6 d9)),(6,.own (.box (W6 bu))),(36,.d (eSl 2 false F9_ aq)),(37,.d (I ((aq.length:Nat):Int))),(38,.d (I gx))] [Hq c2,Hh (.cut 0)] ?_ λJ3 bk=>?_
    ·rintro⟨dg,ln⟩ ah;unfold xx at ah;obtain rfl:=za ah;exact yB X0 hC a6 (dg,ln,w64 (gx+1)) hl2 []
    ·obtain⟨al,h4,ah⟩:=zc ah;let Z2:List HO:=[Hi F9_ h4];rcases zI ah with⟨c3,ah⟩|⟨c3,ah⟩
     ·obtain⟨oi,h5,ah⟩:=zc ah;let Z3:List HO:=(Z2++(rpN 4 (Hq c3) [Hn (iL eB h5),Hq c3,Hs (iM eB h5),Hq c3,Hq c3]));rcases zI ah with⟨c4,ah⟩|⟨c4,ah⟩
      ·obtain⟨o7,h6,ah⟩:=zc ah;obtain⟨g2,ah⟩:=gdE ah;exact yB ((xQa zx 66 3 (d9.map W6) ((d9++([(zm.mk al.To bu.state_ gx)]:List zm)).map W6)).or X0) hC bk ((fk.set al.To.toNat true),(d9++([(zm.mk al.To bu.state_ gx)]:List zm))) ah (Z3++[Hq c4,Hn (iL eB h6),Hs (iM eB h6),Hs (iM eB h6),Hl (sM eB fk al.To true),Hn (⟨rfl,dM W6 ([(zm.mk al.To bu.state_ gx)]:List zm),rfl⟩:3=3/\A.areD (([(zm.mk al.To bu.state_ gx)]:List zm).map W6)=true/\true=true),Hn (⟨rfl,aL W6 W6 g2,dM W6 d9⟩:eDq 3 W6 d9=A.opq (z9F 3 (d9.map W6)).q/\(d9.map W6).length+(([(zm.mk al.To bu.state_ gx)]:List zm).map W6).length<=lim/\A.areD (d9.map W6)=true),Hn (aM W6 d9 ([(zm.mk al.To bu.state_ gx)]:List zm))])
      ·exact yB X0 hC bk (fk,d9) ah (Z3++[Hq c4])
     ·exact yB X0 hC bk (fk,d9) ah (Z2++(rpN 7 (Hq c3) [qF]))
   ·obtain rfl:=za ah;obtain rfl:=hl2;obtain rfl:=za ae;exact yB X0 hC aw (yr.1,fk,d9) hl1 [Hq c2]
 ·obtain rfl:=za ae;obtain rfl:=hl1;obtain rfl:=za aa;exact yF ((xQl zx 20 244 3 (cx.map W6) (by kernel_rfl)).or X0) hC .normal [(0,.own (.opq (YY dr).q))] (Z0++[Hq c0]) λst0 h0=>hE _ st0 (.inl rfl) h0
def z1q:Code:=(f139.body).getD .skip
def wC:zN:=spF (α:=List Int) (ρ:=List Int) 139 (λx=>[F7_ x]) (λr=>F6_ r) (λx=>yu x) [] (Q7)
theorem z1M (hC:zF prog ctr):wC.Ok prog:=by
 refine zC ?_;rintro s_ r0 aa;try unfold yu at aa;refine yO true [(2,none)] z1q 8 func139 λE hE=>?_;refine zm4 rfl 0 (sz:=1) (t:=false) (es:=s_.map s8) (by kernel_rfl) λbt hv0 hn=>?_
 rcases hn with⟨hn0,he0⟩|hn0
 ·obtain⟨_,aa⟩:=gdE aa;rw[show s_=[] from List.map_eq_nil_iff.1 he0]at aa;obtain rfl:=za aa;exact yEx ((zyH zx 4 51 (by kernel_rfl) hn0).or ((xMv prog 3 0 bt hv0).or X0)) hC hE [Hn (rfl:some bt=some bt),Hn (⟨rfl,rfl⟩:T.d (.atom bt)=T.d (.atom bt)/\T.d (.atom (.slice none 0 0))=T.d (.atom (.slice none 0 0))),qT] (eOs 1 true s8 []) (show LeV (eOs 1 true s8 []) (eOs 1 false s8 ([]:List Int)) from inferInstance)
 ·obtain⟨g0,aa⟩:=gdE aa;obtain rfl:=za aa;exact yE ((zyH zx 4 51 (by kernel_rfl) hn0).or ((xMv prog 3 0 bt hv0).or X0)) hC hE [Hn (rfl:some bt=some bt),Hn (⟨rfl,rfl⟩:T.d (.atom bt)=T.d (.atom bt)/\T.d (.atom (.slice none 0 0))=T.d (.atom (.slice none 0 0))),qF,Hn (dM s8 s_),Hn (aL s8 s8 g0),Hl (aM0 s8 s_)]
def z1P:Code:=(f111.body).getD .skip
def yh:zN:=spF (α:=List Int) (ρ:=List Int) 111 (λx=>[F7_ x]) (λr=>F3_ r) (λx=>y5 x) [] (Q7)
theorem z2i (hC:zF prog ctr):yh.Ok prog:=by refine zC ?_;rintro s_ r0 aa;try unfold y5 at aa;refine yO true [(2,none)] z1P 9 func111 λE hE=>?_;obtain⟨g0,aa⟩:=gdE aa;obtain rfl:=za aa;exact yE X0 hC hE [Ha (lnM s8 s_),Ha (lnM s8 s_),Hn (slB g0),Hn (slC g0),Hn (zuW s8 g0),Ha (zB5 1 s8 s_ 0 ((s_.length:Nat):Int).toNat)]
def ZA:Code:=(f146.body).getD .skip
def KF:zN:=spF (α:=z6×Int) (ρ:=List (List Int)×List Bool) 146 (λx=>[zO x.1,s8 x.2]) (λr=>.tup [Us r.1,(eSl 1 true eB) r.2]) (λx=>QK x.1 x.2) [] (W2)
abbrev z71 (l_:List (List Int))(is:List Bool):List (Nat×T):=[(6,.own (.box (eOs 1 true F3_ l_))),(7,.own (.box (eOs 1 true eB is)))]
abbrev VI (r_:z6×Int)(ez:List (List Int))(fy:List Bool):List (Nat×T):=[(6,.own (.box (eOs 1 true F3_ ez))),(7,.own (.box (eOs 1 true eB fy))),(19,.d (.fn 186 [.sptr (.agg [I r_.1.Inputs,I r_.1.Outputs,eSl 1 false yN r_.1.Rows]),.sptr (I r_.2)]))]
theorem zcq (hC:zF prog ctr)(h1L:ctr.Has Vi)(h0i:ctr.Has wC)(h01:ctr.Has yh):KF.Ok prog:=by
 refine zC ?_;rintro⟨m_,from_⟩ r0 aa;try unfold QK at aa;refine yO false [(4,none),(5,none)] ZA 45 func146 λE hE=>?_;obtain⟨g0,aa⟩:=gdE aa;obtain⟨g1,aa⟩:=gdE aa;refine yJ ((xMs zx 12 51).or X0) hC ZA [1,1] [] [6,7] (λz:List (List Int)×List Bool=>VN z.1 z.2=some r0) (λz=>z71 z.1 z.2) [(1,.d (I from_)),(2,.own (.box (zO m_))),(6,.own (.box (eOs 1 true F3_ (List.replicate ((m_.Rows.length:Nat):Int).toNat ([]:List Int))))),(7,.own (.box (eOs 1 true eB (List.replicate ((m_.Rows.length:Nat):Int).toNat false))))] [Ha (lnM yN m_.Rows),Hn (rL g0),Ha (rM 1 F3_ ((m_.Rows.length:Nat):Int) ([]:List Int)),Ha (lnM yN m_.Rows),Hn (rL g1),Ha (rM 1 eB ((m_.Rows.length:Nat):Int) false),Hh (.cut 0)] ?_ λJ1 aw=>?_
 ·rintro⟨l_,is⟩ aa;unfold VN at aa;obtain rfl:=za aa;exact yE X0 hC hE [Hm (shM F3_ F3_ l_),Hm (shM eB eB is)]
 ·obtain⟨r_,h0,aa⟩:=zc aa;obtain⟨t2,ht2,aa⟩:=zc aa;refine yAt X0 hC (sub [1,1,2,1,0] ZA) (frs [1,1,2,1,0] [J1] ZA []) [(6,.own (.box (eOs 1 true F3_ (List.replicate ((m_.Rows.length:Nat):Int).toNat ([]:List Int))))),(7,.own (.box (eOs 1 true eB (List.replicate ((m_.Rows.length:Nat):Int).toNat false)))),(19,.d (.fn 186 [.sptr (.agg [I r_.1.Inputs,I r_.1.Outputs,eSl 1 false yN r_.1.Rows]),.sptr (I r_.2)]))] [Hc h1L (x:=(m_,from_)) h0 (loC zO m_ <| loC s8 from_ <| loN)] λst0 h0=>?_;refine z6V (g:=.tmp 19) (ps:=[20]) (assign:=(sub [1,1,2,1,0,0] ZA)) (body:=(sub [1,1,2,1,0,1] ZA)) (K:=186) (caps:=[.sptr (.agg [I r_.1.Inputs,I r_.1.Outputs,eSl 1 false yN r_.1.Rows]),.sptr (I r_.2)]) (by kernel_rfl) [6,7,19] (λs=>VI r_ s.1 s.2) (λz=>nomatch z) (λz=>nomatch z) ((λ(x:zm) (_:Bool) (_:Value)=>[W6 x])) (F:=@Z7 r_.1 r_.2) (λs x=>v8 s.1 s.2 x) ((List.replicate ((m_.Rows.length:Nat):Int).toNat ([]:List Int)),(List.replicate ((m_.Rows.length:Nat):Int).toNat false)) t2 _ h0 inferInstance (by kernel_rfl) (by decide) (λ_=>rfl) (by rintro⟨⟩) (by kernel_rfl) (λ_ _ _=>rfl) (z4V hC r_.1 r_.2) ht2 ?_ ?_
  ·rintro oz ⟨ez,fy⟩ gy vr az ae;replace ae:v8 ez fy gy=some az:=ae;unfold v8 at ae;refine yF X0 hC .normal [(6,.own (.box (eOs 1 true F3_ ez))),(7,.own (.box (eOs 1 true eB fy))),(8,.own (.box (W6 gy))),(19,.d (.fn 186 [.sptr (.agg [I r_.1.Inputs,I r_.1.Outputs,eSl 1 false yN r_.1.Rows]),.sptr (I r_.2)]))] [] λst0 h0=>⟨rfl,zdB h0 ?_⟩;obtain⟨n7,h1,ae⟩:=zc ae;let Z0:List HO:=[Hn (iL eB h1),Hs (iM eB h1),Hs (iM eB h1),Hl (sM eB fy gy.state_ true)];rcases zI ae with⟨c0,ae⟩|⟨c0,ae⟩
   ·obtain⟨cd,h2,ae⟩:=zc ae;obtain⟨aj,h3,ae⟩:=zc ae;obtain⟨g2,ae⟩:=gdE ae;obtain⟨ak,h4,ae⟩:=zc ae;obtain⟨gi,h5,ae⟩:=zc ae;obtain rfl:=za ae;exact yF X0 hC .normal (VI r_ (ez.set gy.state_.toNat ak) (fy.set gy.state_.toNat true)) (Z0++[Hq c0,Hn (iL F3_ h2),Hs (iM F3_ h2),Hc h0i (x:=cd) h3 (loC F3_ cd <| loN),Hq (dM s8 ([gy.input_]:List Int)),Hn (dM s8 ([gy.input_]:List Int)),Hn (aL s8 s8 g2),Hl (aM s8 aj ([gy.input_]:List Int)),Hg (JO h01),Hm (shM s8 s8 (aj++([gy.input_]:List Int))),Hs (JP h01 (x:=(aj++([gy.input_]:List Int))) h4 (loC F7_ (aj++([gy.input_]:List Int)) <| loN)),Hm (shM s8 s8 (aj++([gy.input_]:List Int))),Hn (iL F3_ h5),Hs (iM F3_ h5),Hs (iM F3_ h5),Hl (sM F3_ ez gy.state_ ak)]) λst0 h0=>⟨rfl,_,h0,LeL.refl _⟩
   ·obtain rfl:=za ae;exact yF X0 hC .normal (VI r_ ez (fy.set gy.state_.toNat true)) (Z0++[Hq c0]) λst0 h0=>⟨rfl,_,h0,LeL.refl _⟩
  ·rcases t2 with⟨ez,fy⟩|z
   ·dsimp only at aa;exact JF (by kernel_rfl) (aw _ [(6,.own (.box (eOs 1 true F3_ ez))),(7,.own (.box (eOs 1 true eB fy)))] (ez,fy) aa (show Own.canon [6,7] _=ofL _ by kernel_rfl) inferInstance)
   ·cases z
def zaf:Code:=(f114.body).getD .skip
def QR:zN:=spF (α:=z6) (ρ:=List (List Int)×List Bool×Int) 114 (λx=>[zO x]) (λr=>.tup [Us r.1,(eSl 1 true eB) r.2.1,s8 r.2.2]) (λx=>Ut x) [] (Q7)
theorem zaY (hC:zF prog ctr)(h03:ctr.Has xH)(h1M:ctr.Has KF):QR.Ok prog:=by
 refine zC ?_;rintro m_ r0 aa;try unfold Ut at aa;refine yO false [(2,none),(3,none),(4,none)] zaf 20 func114 λE hE=>?_;obtain⟨r_,h0,aa⟩:=zc aa
 let Z0:List HO:=[Hc h03 (x:=m_) h0 (loC zO m_ <| loN)];rcases zI aa with⟨c0,aa⟩|⟨c0,aa⟩
 ·obtain rfl:=za aa;exact yEx X0 hC hE (Z0++[Hq c0,Hm (shM F7_ F7_ []),Hm (shM eB eB [])]) (.tup [eSl 1 true F3_ [],eSl 1 true eB [],I r_]) (show LeV (.tup [eSl 1 true F3_ [],eSl 1 true eB [],I r_]) (.tup [eSl 1 true F3_ ([]:List (List Int)),eSl 1 true eB ([]:List Bool),I r_]) from inferInstance)
 ·obtain⟨aj,h1,aa⟩:=zc aa;obtain rfl:=za aa;exact yE X0 hC hE (Z0++[Hq c0,Hc h1M (x:=(m_,0)) h1 (loC zO m_ <| loC s8 0 <| loN)])
def z8f:Code:=(f127.body).getD .skip
def UU:zN:=spF (α:=Int×Int) (ρ:=Bool) 127 (λx=>[s8 x.1,(eSp s8) x.2]) (λr=>eB r) (λx=>Qa x.1 x.2) [] (W2)
theorem z90 (hC:zF prog ctr):UU.Ok prog:=by
 refine zC ?_;rintro⟨c_,x1⟩ r0 aa;try unfold Qa at aa;refine yO true [(3,none)] z8f 11 func127 λE hE=>?_;rcases zI aa with⟨c0,aa⟩|⟨c0,aa⟩
 ·obtain rfl:=za aa;exact yE X0 hC hE (rpN 4 (Hq c0) [])
 ·obtain rfl:=za aa;exact yE X0 hC hE (rpN 4 (Hq c0) [])
def uR:Code:=(f156.body).getD .skip
def uE:zN:=spF (α:=List Int×Int) (ρ:=Int) 156 (λx=>[F7_ x.1,(z1k 127 (eSp s8)) x.2]) (λr=>s8 r) (λx=>vI x.1 x.2) [] (by rintro⟨a0,a1⟩ ⟨b0,b1⟩ h;have e0:=kZ.inj (f:=F7_) _ _ (List.cons.inj h).1;replace h:=(List.cons.inj h).2;have e1:=kZ.inj (f:=(z1k 127 (eSp s8))) _ _ (List.cons.inj h).1;subst e0 e1;rfl)
abbrev UO:List (Nat×T):=[]
abbrev UN (s_:List Int)(f_:Int)(x8:Int):List (Nat×T):=[(0,.d (eSl 1 false s8 s_)),(1,.d (.fn 127 [.sptr (I f_)])),(7,.d (I ((s_.length:Nat):Int))),(8,.d (I x8))]
theorem JQ (hC:zF prog ctr)(h1N:ctr.Has UU):uE.Ok prog:=by
 refine zC ?_;rintro⟨s_,f_⟩ r0 aa;try unfold vI at aa;refine yO true [(4,none)] uR 19 func156 λE hE=>?_;refine yJ X0 hC uR [1] [] [] (λz:Unit=>uH=some r0) (λz=>UO) [(0,.d (eSl 1 false s8 s_)),(1,.d (.fn 127 [.sptr (I f_)]))] [Hh (.cut 1)] ?_ λJ1 aw=>?_
 ·rintro⟨⟩ aa;unfold uH at aa;obtain rfl:=za aa;exact yE X0 hC hE []
 ·obtain⟨t2,ht2,aa⟩:=zc aa;refine yL X0 hC uR [1,2,1,0] [J1] (λs=>yR s_ f_ s) (λx=>UN s_ f_ x) 0 ht2  [Ha (lnM s8 s_)] ?_;rintro x8 m2 az ae hl1 J2 a6;try unfold yR at ae;rcases zI ae with⟨c0,ae⟩|⟨c0,ae⟩
  ·obtain⟨dx,h0,ae⟩:=zc ae;obtain⟨r_,h1,ae⟩:=zc ae;let Z0:List HO:=[Hq c0,Hi s8 h0,Hc h1N (x:=(dx,f_)) h1 (loC s8 dx <| loC (eSp s8) f_ <| loN)];rcases zI ae with⟨c1,ae⟩|⟨c1,ae⟩
   ·obtain rfl:=za ae;obtain rfl:=hl1;obtain rfl:=za aa;exact yE X0 hC hE (Z0++[Hq c1])
   ·obtain rfl:=za ae;exact yB X0 hC a6 (w64 (x8+1)) hl1 (Z0++[Hq c1])
  ·obtain rfl:=za ae;obtain rfl:=hl1;exact yB X0 hC aw () aa [Hq c0]
def UK:Code:=(f126.body).getD .skip
def vo:zN:=spF (α:=List Int×Int) (ρ:=Bool) 126 (λx=>[F7_ x.1,(z1k 127 (eSp s8)) x.2]) (λr=>eB r) (λx=>wF x.1 x.2) [] (by rintro⟨a0,a1⟩ ⟨b0,b1⟩ h;have e0:=kZ.inj (f:=F7_) _ _ (List.cons.inj h).1;replace h:=(List.cons.inj h).2;have e1:=kZ.inj (f:=(z1k 127 (eSp s8))) _ _ (List.cons.inj h).1;subst e0 e1;rfl)
theorem US (hC:zF prog ctr)(h1O:ctr.Has uE):vo.Ok prog:=by refine zC ?_;rintro⟨s_,f_⟩ r0 aa;try unfold wF at aa;refine yO true [(4,none)] UK 9 func126 λE hE=>?_;obtain⟨r_,h0,aa⟩:=zc aa;obtain rfl:=za aa;exact yE X0 hC hE [Hc h1O (x:=(s_,f_)) h0 (loC F7_ s_ <| loC (z1k 127 (eSp s8)) f_ <| loN)]
def zbx:Code:=(f93.body).getD .skip
def VQ:zN:=spF (α:=List Int×Int) (ρ:=Int) 93 (λx=>[F7_ x.1,s8 x.2]) (λr=>s8 r) (λx=>ZX x.1 x.2) [] (W2)
theorem zcp (hC:zF prog ctr)(h1P:ctr.Has vo):VQ.Ok prog:=by
 refine zC ?_;rintro⟨w_,inputs⟩ r0 aa;try unfold ZX at aa;refine yO true [(4,none)] zbx 19 func93 λE hE=>?_;rcases zI aa with⟨c0,aa⟩|⟨c0,aa⟩
 ·obtain rfl:=za aa;exact yE X0 hC hE (rpN 4 (Hq c0) [qT])
 ·let Z0:List HO:=[Hq c0,Hq c0,Ha (lnM s8 w_),Hq c0,Hq c0];rcases zI aa with⟨c1,aa⟩|⟨c1,aa⟩
  ·obtain rfl:=za aa;exact yE X0 hC hE (Z0++[Hq c1])
  ·rcases zI aa with⟨c2,aa⟩|⟨c2,aa⟩
   ·obtain rfl:=za aa;exact yE X0 hC hE (Z0++(Hq c1::(rpN 4 (Hq c2) [qT])))
   ·obtain⟨r_,h0,aa⟩:=zc aa;let Z1:List HO:=(Z0++[Hq c1,Hq c2,Hq c2,Hq c2,Hc h1P (x:=(w_,inputs)) h0 (loC F7_ w_ <| loC (z1k 127 (eSp s8)) inputs <| loN),Hq c2]);rcases zI aa with⟨c3,aa⟩|⟨c3,aa⟩
    ·obtain rfl:=za aa;exact yE X0 hC hE (Z1++[Hq c3])
    ·obtain rfl:=za aa;exact yE X0 hC hE (Z1++[Hq c3])
def KW:Code:=(f89.body).getD .skip
def VS:zN:=spF (α:=List (List Int)×Int) (ρ:=Int) 89 (λx=>[xh x.1,s8 x.2]) (λr=>s8 r) (λx=>Vc x.1 x.2) [] (W2)
abbrev z75:List (Nat×T):=[]
abbrev z74 (l_:List (List Int))(inputs:Int)(fl:Int):List (Nat×T):=[(1,.d (I inputs)),(17,.d (eSl 1 false F7_ l_)),(18,.d (I ((l_.length:Nat):Int))),(19,.d (I fl))]
theorem zcs (hC:zF prog ctr)(h0B:ctr.Has VQ):VS.Ok prog:=by
 refine zC ?_;rintro⟨l_,inputs⟩ r0 aa;try unfold Vc at aa;refine yO true [(4,none)] KW 30 func89 λE hE=>?_;rcases zI aa with⟨c0,aa⟩|⟨c0,aa⟩
 ·obtain rfl:=za aa;exact yE X0 hC hE (rpN 4 (Hq c0) [qT])
 ·let Z0:List HO:=[Hq c0,Hq c0,Ha (lnM F7_ l_),Hq c0,Hq c0];rcases zI aa with⟨c1,aa⟩|⟨c1,aa⟩
  ·obtain rfl:=za aa;exact yE X0 hC hE (Z0++[Hq c1])
  ·rcases zI aa with⟨c2,aa⟩|⟨c2,aa⟩
   ·obtain rfl:=za aa;exact yE X0 hC hE (Z0++[Hq c1,Hq c2])
   ·refine yJ X0 hC KW [1,1,1] [] [] (λz:Unit=>KD=some r0) (λz=>z75) [(0,.d (eSl 1 false F7_ l_)),(1,.d (I inputs))] (Z0++[Hq c1,Hq c2,Hh (.cut 0)]) ?_ λJ1 aw=>?_
    ·rintro⟨⟩ aa;unfold KD at aa;obtain rfl:=za aa;exact yE X0 hC hE []
    ·obtain⟨t2,ht2,aa⟩:=zc aa;refine yL X0 hC KW [1,1,1,2,1,0] [J1] (λs=>Zo l_ inputs s) (λx=>z74 l_ inputs x) 0 ht2  [Ha (lnM F7_ l_)] ?_;rintro fl m2 az ae hl1 J2 a6;try unfold Zo at ae;rcases zI ae with⟨c3,ae⟩|⟨c3,ae⟩
     ·obtain⟨cd,h0,ae⟩:=zc ae;obtain⟨r_,h1,ae⟩:=zc ae;let Z1:List HO:=[Hq c3,Hi F7_ h0,Hc h0B (x:=(cd,inputs)) h1 (loC F7_ cd <| loC s8 inputs <| loN)];rcases zI ae with⟨c4,ae⟩|⟨c4,ae⟩
      ·obtain rfl:=za ae;obtain rfl:=hl1;obtain rfl:=za aa;exact yE X0 hC hE (Z1++[Hq c4])
      ·obtain rfl:=za ae;exact yB X0 hC a6 (w64 (fl+1)) hl1 (Z1++[Hq c4])
     ·obtain rfl:=za ae;obtain rfl:=hl1;exact yB X0 hC aw () aa [Hq c3]
def z0y:Code:=(f105.body).getD .skip
def vH:zN:=spF (α:=List (List Int)) (ρ:=List (List Int)) 105 (λx=>[xh x]) (λr=>z4S r) (λx=>wk x) [] (Q7)
theorem z0L (hC:zF prog ctr):vH.Ok prog:=by
 refine zC ?_;rintro s_ r0 aa;try unfold wk at aa;refine yO true [(2,none)] z0y 8 func105 λE hE=>?_;refine zm4 rfl 0 (sz:=1) (t:=false) (es:=s_.map F7_) (by kernel_rfl) λbt hv0 hn=>?_
 rcases hn with⟨hn0,he0⟩|hn0
 ·obtain⟨_,aa⟩:=gdE aa;rw[show s_=[] from List.map_eq_nil_iff.1 he0]at aa;obtain rfl:=za aa;exact yEx ((zyH zx 4 32 (by kernel_rfl) hn0).or ((xMv prog 3 0 bt hv0).or X0)) hC hE [Hn (rfl:some bt=some bt),Hn (⟨rfl,rfl⟩:T.d (.atom bt)=T.d (.atom bt)/\T.d (.atom (.slice none 0 0))=T.d (.atom (.slice none 0 0))),qT] (eOs 1 true F7_ []) (show LeV (eOs 1 true F7_ []) (eOs 1 false F7_ ([]:List (List Int))) from inferInstance)
 ·obtain⟨g0,aa⟩:=gdE aa;obtain rfl:=za aa;exact yE ((zyH zx 4 32 (by kernel_rfl) hn0).or ((xMv prog 3 0 bt hv0).or X0)) hC hE [Hn (rfl:some bt=some bt),Hn (⟨rfl,rfl⟩:T.d (.atom bt)=T.d (.atom bt)/\T.d (.atom (.slice none 0 0))=T.d (.atom (.slice none 0 0))),qF,Hn (dM F7_ s_),Hn (aL F7_ F7_ g0),Hl (aM0 F7_ s_)]
def z8m:Code:=(f171.body).getD .skip
def Q1:zN:=spF (α:=Int) (ρ:=Bool) 171 (λx=>[s8 x]) (λr=>eB r) (λx=>WU x) [] (Q7)
theorem z9d (hC:zF prog ctr):Q1.Ok prog:=by refine zC ?_;rintro x_ r0 aa;try unfold WU at aa;refine yO true [(2,none)] z8m 6 func171 λE hE=>?_;obtain rfl:=za aa;exact yE X0 hC hE []
def z5D:Code:=(f154.body).getD .skip
def ZK:zN:=spF (α:=Int×Int) (ρ:=Int) 154 (λx=>[s8 x.1,s8 x.2]) (λr=>s8 r) (λx=>jU x.1 x.2) [] (W2)
theorem z6x (hC:zF prog ctr)(h16:ctr.Has Q1):ZK.Ok prog:=by
 refine zC ?_;rintro⟨x_,y_⟩ r0 aa;try unfold jU at aa;refine yO true [(4,none)] z5D 20 func154 λE hE=>?_;obtain⟨r_,h0,aa⟩:=zc aa;obtain⟨aj,h1,aa⟩:=zc aa
 let Z0:List HO:=[Hc h16 (x:=x_) h0 (loC s8 x_ <| loN),Hc h16 (x:=y_) h1 (loC s8 y_ <| loN)];rcases zI aa with⟨c0,aa⟩|⟨c0,aa⟩
 ·rcases zI aa with⟨c1,aa⟩|⟨c1,aa⟩
  ·obtain rfl:=za aa;exact yE X0 hC hE (Z0++[Hq c0,Hq c1])
  ·obtain rfl:=za aa;exact yE X0 hC hE (Z0++[Hq c0,Hq c1])
 ·rcases zI aa with⟨c2,aa⟩|⟨c2,aa⟩
  ·obtain rfl:=za aa;exact yE X0 hC hE (Z0++[Hq c0,Hq c2])
  ·rcases zI aa with⟨c3,aa⟩|⟨c3,aa⟩
   ·obtain rfl:=za aa;exact yE X0 hC hE (Z0++[Hq c0,Hq c2,Hq c3])
   ·rcases zI aa with⟨c4,aa⟩|⟨c4,aa⟩
    ·obtain rfl:=za aa;exact yE X0 hC hE (Z0++[Hq c0,Hq c2,Hq c3,Hq c4])
    ·obtain rfl:=za aa;exact yE X0 hC hE (Z0++[Hq c0,Hq c2,Hq c3,Hq c4])
def jB:Code:=(f155.body).getD .skip
def qS:zN:=spF (α:=List Int×List Int) (ρ:=Int) 155 (λx=>[F7_ x.1,F7_ x.2]) (λr=>s8 r) (λx=>wR x.1 x.2) [] (W2)
abbrev QA (s1:List Int)(s2:List Int):List (Nat×T):=[(0,.d (eSl 1 false s8 s1)),(1,.d (eSl 1 false s8 s2))]
abbrev Qz (s1:List Int)(s2:List Int)(fx:Int):List (Nat×T):=[(0,.d (eSl 1 false s8 s1)),(1,.d (eSl 1 false s8 s2)),(9,.d (eSl 1 false s8 s1)),(10,.d (I ((s1.length:Nat):Int))),(11,.d (I fx))]
theorem z0b (hC:zF prog ctr)(h0C:ctr.Has ZK):qS.Ok prog:=by
 refine zC ?_;rintro⟨s1,s2⟩ r0 aa;try unfold wR at aa;refine yO true [(4,none)] jB 36 func155 λE hE=>?_;refine yJ X0 hC jB [1] [] [0,1] (λz:Unit=>vb s1 s2=some r0) (λz=>QA s1 s2) [(0,.d (eSl 1 false s8 s1)),(1,.d (eSl 1 false s8 s2))] [Hh (.cut 1)] ?_ λJ1 aw=>?_
 ·rintro⟨⟩ aa;unfold vb at aa;let Z0:List HO:=[Ha (lnM s8 s1),Ha (lnM s8 s2)];rcases zI aa with⟨c0,aa⟩|⟨c0,aa⟩
  ·obtain rfl:=za aa;exact yE X0 hC hE (Z0++[Hq c0])
  ·obtain rfl:=za aa;exact yE X0 hC hE (Z0++[Hq c0])
 ·obtain⟨t2,ht2,aa⟩:=zc aa;refine yL X0 hC jB [1,2,1,0] [J1] (λs=>xm s1 s2 s) (λx=>Qz s1 s2 x) 0 ht2  [Ha (lnM s8 s1)] ?_;rintro fx m2 az ae hl1 J2 a6;try unfold xm at ae;rcases zI ae with⟨c1,ae⟩|⟨c1,ae⟩
  ·obtain⟨nn,h0,ae⟩:=zc ae;let Z1:List HO:=[Hq c1,Hi s8 h0,Ha (lnM s8 s2)];rcases zI ae with⟨c2,ae⟩|⟨c2,ae⟩
   ·obtain rfl:=za ae;obtain rfl:=hl1;obtain rfl:=za aa;exact yE X0 hC hE (Z1++[Hq c2])
   ·obtain⟨ma,h1,ae⟩:=zc ae;obtain⟨r_,h2,ae⟩:=zc ae;let Z2:List HO:=(Z1++[Hq c2,Hi s8 h1,Hc h0C (x:=(nn,ma)) h2 (loC s8 nn <| loC s8 ma <| loN)]);rcases zI ae with⟨c3,ae⟩|⟨c3,ae⟩
    ·obtain rfl:=za ae;obtain rfl:=hl1;obtain rfl:=za aa;exact yE X0 hC hE (Z2++[Hq c3])
    ·obtain rfl:=za ae;exact yB X0 hC a6 (w64 (fx+1)) hl1 (Z2++[Hq c3])
  ·obtain rfl:=za ae;obtain rfl:=hl1;exact yB X0 hC aw () aa [Hq c1]
def z1x:Code:=(f153.body).getD .skip
def z0X:zN:=spF (α:=List Int) (ρ:=Int) 153 (λx=>[F7_ x]) (λr=>s8 r) (λx=>z0w x) [] (Q7)
abbrev z8L:List (Nat×T):=[(3,.d (I 0))]
abbrev z8K (vals:List Int)(x8:Int):List (Nat×T):=[(3,.d (I 0)),(6,.d (eSl 1 false s8 vals)),(7,.d (I ((vals.length:Nat):Int))),(8,.d (I x8))]
theorem ze2 (hC:zF prog ctr):z0X.Ok prog:=by
 refine zC ?_;rintro vals r0 aa;try unfold z0w at aa;refine yO true [(2,none)] z1x 18 func153 λE hE=>?_;refine yJ X0 hC z1x [1,1] [] [3] (λz:Unit=>Qu=some r0) (λz=>z8L) [(0,.d (eSl 1 false s8 vals)),(3,.d (I 0))] [Hh (.cut 2)] ?_ λJ1 aw=>?_
 ·rintro⟨⟩ aa;unfold Qu at aa;obtain rfl:=za aa;exact yE X0 hC hE []
 ·obtain⟨t2,ht2,aa⟩:=zc aa;refine yL X0 hC z1x [1,1,2,1,0] [J1] (λs=>YW vals s) (λx=>z8K vals x) 0 ht2  [Ha (lnM s8 vals)] ?_;rintro x8 m2 az ae hl1 J2 a6;try unfold YW at ae;rcases zI ae with⟨c0,ae⟩|⟨c0,ae⟩
  ·obtain⟨n8,h0,ae⟩:=zc ae;rcases zI ae with⟨c1,ae⟩|⟨c1,ae⟩
   ·obtain rfl:=za ae;obtain rfl:=hl1;obtain rfl:=za aa;exact yE X0 hC hE [Hq c0,Hi s8 h0,Hq c1]
   ·obtain rfl:=za ae;exact yB X0 hC a6 (w64 (x8+1)) hl1 [Hq c0,Hi s8 h0,Hq c1]
  ·obtain rfl:=za ae;obtain rfl:=hl1;exact yB X0 hC aw () aa [Hq c0]
def z8e:Code:=(f125.body).getD .skip
def qe:zN:=spF (α:=List Int×List Int) (ρ:=Int) 125 (λx=>[F7_ x.1,F7_ x.2]) (λr=>s8 r) (λx=>xo x.1 x.2) [] (W2)
theorem z8Z (hC:zF prog ctr)(h0C:ctr.Has ZK)(h1Q:ctr.Has qS)(h17:ctr.Has z0X):qe.Ok prog:=by refine zC ?_;rintro⟨a_,b_⟩ r0 aa;try unfold xo at aa;refine yO true [(4,none)] z8e 15 func125 λE hE=>?_;obtain⟨r_,h0,aa⟩:=zc aa;obtain⟨aj,h1,aa⟩:=zc aa;obtain⟨ak,h2,aa⟩:=zc aa;obtain rfl:=za aa;exact yE X0 hC hE [Ha (lnM s8 a_),Ha (lnM s8 b_),Hc h0C (x:=(((a_.length:Nat):Int),((b_.length:Nat):Int))) h0 (loC s8 ((a_.length:Nat):Int) <| loC s8 ((b_.length:Nat):Int) <| loN),Hc h1Q (x:=(a_,b_)) h1 (loC F7_ a_ <| loC F7_ b_ <| loN),Hg (JO h17),Hm (shM s8 s8 ([r_,aj])),Hs (JP h17 (x:=[r_,aj]) h2 (loC F3_ ([r_,aj]:List Int) <| loN))]
def z6O:Code:=(f138.body).getD .skip
def Vj:zN:=spF (α:=List Int×List Int) (ρ:=Bool) 138 (λx=>[F7_ x.1,F7_ x.2]) (λr=>eB r) (λx=>Zn x.1 x.2) [] (W2)
theorem z7X (hC:zF prog ctr)(h06:ctr.Has qe):Vj.Ok prog:=by refine zC ?_;rintro⟨a_,b_⟩ r0 aa;try unfold Zn at aa;refine yO true [(4,none)] z6O 9 func138 λE hE=>?_;obtain⟨r_,h0,aa⟩:=zc aa;obtain rfl:=za aa;exact yE X0 hC hE [Hc h06 (x:=(a_,b_)) h0 (loC F7_ a_ <| loC F7_ b_ <| loN)]
def yc:Code:=(f137.body).getD .skip
def vp:zN:=spF (α:=List (List Int)×Unit) (ρ:=List (List Int)) 137 (λx=>[z4S x.1,(zj8 138) x.2]) (λr=>z4S r) (λx=>xA x.1 x.2) [true,false] (by rintro⟨a0,a1⟩ ⟨b0,b1⟩ h;have e0:=kZ.inj (f:=z4S) _ _ (List.cons.inj h).1;replace h:=(List.cons.inj h).2;have e1:=kZ.inj (f:=(zj8 138)) _ _ (List.cons.inj h).1;subst e0 e1;rfl)
abbrev V3 (s_:List (List Int)):List (Nat×T):=[(0,.own (eOs 1 false F7_ s_))]
abbrev V2 (s_:List (List Int))(k_:Int):List (Nat×T):=[(0,.own (eOs 1 false F7_ s_)),(1,.d (.fn 138 [])),(5,.d (I k_))]
abbrev V1 (bg:List (List Int))(cb:Int):List (Nat×T):=[(0,.own (eOs 1 false F7_ bg)),(5,.d (I cb))]
abbrev V0 (bt:Value)(k_:Int)(k2:Int)(lp:List (List Int))(oj:Int):List (Nat×T):=[(0,.own (eOs 1 false F7_ lp)),(1,.d (.fn 138 [])),(5,.d (I oj)),(6,.d (.atom (JY 1 bt k_))),(7,.d (I k2))]
abbrev WY (bt:Value)(k_:Int)(bw:List (List Int))(i7:Int)(k2:Int):List (Nat×T):=[(0,.own (eOs 1 false F7_ bw)),(1,.d (.fn 138 [])),(5,.d (I i7)),(6,.d (.atom (JY 1 bt k_))),(7,.d (I k2))]
abbrev WZ (s_:List (List Int))(k_:Int):List (Nat×T):=[(0,.own (eOs 1 false F7_ s_)),(1,.d (.fn 138 [])),(5,.d (I k_))]
def zz:XH prog:=((zAE zx 64).or X0)
theorem UT (hC:zF prog ctr)(h18:ctr.Has Vj):vp.Ok prog:=by
 refine zC ?_;rintro⟨s_,eq⟩ r0 aa;try unfold xA at aa;refine yO true [(4,none)] yc 66 func137 λE hE=>?_;refine zdA (y:=eOs 1 false F7_ s_) rfl 0 (by kernel_rfl) (by kernel_rfl) λbt hv0=>?_
 let Z0:List HO:=[Ha (lnM F7_ s_)];rcases zI aa with⟨c0,aa⟩|⟨c0,aa⟩
 ·obtain rfl:=za aa;exact yE zz hC hE (Z0++[Hq c0])
 ·refine yJ zz hC yc [1,1] [] [0] (λz:Unit=>vu s_=some r0) (λz=>V3 s_) [(0,.own (eOs 1 false F7_ s_)),(1,.d (.fn 138 []))] (Z0++[Hq c0,Hh (.cut 0)]) ?_ λJ1 aw=>?_
  ·rintro⟨⟩ aa;unfold vu at aa;obtain rfl:=za aa;exact yE zz hC hE []
  ·obtain⟨t2,ht2,aa⟩:=zc aa;refine yL zz hC yc [1,1,2,1,0] [J1] (λs=>yU s_ s) (λx=>WZ s_ x) 1 ht2  [] ?_;rintro k_ m2 az ae hl1 J2 a6;try unfold yU at ae
   let Z1:List HO:=[Ha (lnM F7_ s_)];rcases zI ae with⟨c1,ae⟩|⟨c1,ae⟩
   ·refine yJ zz hC yc [1,1,2,1,0,0,1] [J1,J2] [0,1,5] (λz:Unit=>xU k_=some az) (λz=>V2 s_ k_) [(0,.own (eOs 1 false F7_ s_)),(1,.d (.fn 138 [])),(5,.d (I k_))] (Z1++[Hq c1,Hh (.cut 0)]) ?_ λJ3 bk=>?_
    ·rintro⟨⟩ ae;unfold xU at ae;obtain rfl:=za ae;exact yB zz hC a6 (w64 (k_+1)) hl1 []
    ·obtain⟨dx,h0,ae⟩:=zc ae;obtain⟨lz,h1,ae⟩:=zc ae;obtain⟨r_,h2,ae⟩:=zc ae;let Z2:List HO:=[Hn (iL F7_ h0),Hs (iM F7_ h0),Hn (iL F7_ h1),Hs (iM F7_ h1),Hc h18 (x:=(dx,lz)) h2 (loC F7_ dx <| loC F7_ lz <| loN)];rcases zI ae with⟨c2,ae⟩|⟨c2,ae⟩
     ·obtain⟨g0,ae⟩:=gdE ae;refine yJ ((xAs prog 6 (JY 1 bt k_)).or ((xVw zx 31 0 bt).or zz)) hC yc [1,1,2,1,0,0,1,2,0,1,0,1] [J1,J2,J3] [0,5] (λz:List (List Int)×Int=>yq z.1 z.2=some az) (λz=>V1 z.1 z.2) [(0,.own (eOs 1 false F7_ s_)),(1,.d (.fn 138 [])),(5,.d (I k_)),(6,.d (.atom (JY 1 bt k_)))] (Z2++[Hq c2,Hn (⟨.inl rfl,rfl⟩:(T.als 0 [] 0 0=T.als 0 [] 0 0\/T.als 0 [] 0 0=T.d (.atom bt))/\some bt=some bt),Hn (⟨g0.1,cuB F7_ g0⟩:(0:Int)<=k_/\k_.toNat<=(s_.map F7_).length),Hn (rfl:T.d (.atom (JY 1 bt k_))=T.d (.atom (JY 1 bt k_))),Hh (.cut 1)]) ?_ λJ4 d0=>?_
      ·rintro⟨bg,cb⟩ ae;unfold yq at ae;obtain⟨g1,ae⟩:=gdE ae;obtain⟨g2,ae⟩:=gdE ae;obtain⟨g3,ae⟩:=gdE ae;obtain rfl:=za ae;obtain rfl:=hl1;obtain rfl:=za aa;exact yE ((xVc zx 61 1 0 bt cb).or ((xVw zx 61 0 bt).or zz)) hC hE [Hn (⟨.inl rfl,rfl⟩:(T.als 0 [] 0 0=T.als 0 [] 0 0\/T.als 0 [] 0 0=T.d (.atom bt))/\some bt=some bt),Hn (⟨g1.1,cuB F7_ g1⟩:(0:Int)<=cb/\cb.toNat<=(bg.map F7_).length),Hn (⟨rfl,rfl⟩:T.d (.atom (JY 1 bt cb))=T.d (.atom (JY 1 bt cb))/\some bt=some bt),Hn (⟨g2.1,cuB F7_ g2,dM F7_ bg⟩:(0:Int)<=cb/\cb.toNat<=(bg.map F7_).length/\A.areD (bg.map F7_)=true),Hx (.l ((bg.take cb.toNat++List.replicate (bg.length - cb.toNat) []).map F7_)) (vcM F7_ bg cb.toNat ([]:List Int)),Hn g3.1,Hn (cuB F7_ g3),Hl (cuM F7_ (bg.take cb.toNat++List.replicate (bg.length - cb.toNat) []) cb)]
      ·obtain⟨t5,ht5,ae⟩:=zc ae;refine yL zz hC yc [1,1,2,1,0,0,1,2,0,1,0,1,2,1,0] [J1,J2,J3,J4] (λs=>yn k_ s.1 s.2.1 s.2.2) (λx=>WY bt k_ x.1 x.2.1 x.2.2) (s_,k_,1) ht5  [] ?_;rintro⟨bw,i7,k2⟩ m5 dl ah hl2 J5 dn;try unfold yn at ah
       let Z3:List HO:=[Hn (⟨rfl,rfl⟩:T.d (.atom (JY 1 bt k_))=T.d (.atom (JY 1 bt k_))/\some bt=some bt),Hx (.a (.atom (.int .i64 ((bw.length - k_.toNat:Nat):Int)))) (vlM F7_ bw k_.toNat)];rcases zI ah with⟨c3,ah⟩|⟨c3,ah⟩
       ·refine yJ ((xVl zx 34 32 1 0 bt k_ (by kernel_rfl)).or zz) hC yc [1,1,2,1,0,0,1,2,0,1,0,1,2,1,0,0,1] [J1,J2,J3,J4,J5] [0,1,5,6,7] (λz:List (List Int)×Int=>yp k2 z.1 z.2=some dl) (λz=>V0 bt k_ k2 z.1 z.2) [(0,.own (eOs 1 false F7_ bw)),(1,.d (.fn 138 [])),(5,.d (I i7)),(6,.d (.atom (JY 1 bt k_))),(7,.d (I k2))] (Z3++[Hq c3,Hh (.cut 0)]) ?_ λJ6 fp=>?_
        ·rintro⟨lp,oj⟩ ah;unfold yp at ah;obtain rfl:=za ah;exact yB zz hC dn (lp,oj,w64 (k2+1)) hl2 []
        ·obtain⟨g4,ah⟩:=gdE ah;obtain⟨m0,h3,ah⟩:=zc ah;obtain⟨g5,ah⟩:=gdE ah;obtain⟨nb,h4,ah⟩:=zc ah;obtain⟨aj,h5,ah⟩:=zc ah;let Z4:List HO:=[Hn (⟨rfl,rfl⟩:T.d (.atom (JY 1 bt k_))=T.d (.atom (JY 1 bt k_))/\some bt=some bt),Hn (⟨g4.1,g4.2,(iL F7_ h3).2⟩:(0:Int)<=k_/\(0:Int)<=k2/\(k_+k2).toNat<(bw.map F7_).length),Hs (iM F7_ h3),Hn (⟨rfl,rfl⟩:T.d (.atom (JY 1 bt k_))=T.d (.atom (JY 1 bt k_))/\some bt=some bt),Hn (⟨g5.1,g5.2,(iL F7_ h4).2⟩:(0:Int)<=k_/\(0:Int)<=w64 (k2 - 1)/\(k_+(w64 (k2 - 1))).toNat<(bw.map F7_).length),Hs (iM F7_ h4),Hc h18 (x:=(m0,nb)) h5 (loC F7_ m0 <| loC F7_ nb <| loN)];rcases zI ah with⟨c4,ah⟩|⟨c4,ah⟩
         ·obtain⟨g6,ah⟩:=gdE ah;obtain⟨nc,h6,ah⟩:=zc ah;obtain⟨pi,h7,ah⟩:=zc ah;exact yB ((xVi zx 54 1 0 bt k_).or ((xVi zx 46 1 0 bt k_).or ((xVi zx 41 1 0 bt k_).or zz))) hC fp ((bw.set i7.toNat nc),w64 (i7+1)) ah (Z4++[Hq c4,Hn (⟨rfl,rfl⟩:T.d (.atom (JY 1 bt k_))=T.d (.atom (JY 1 bt k_))/\some bt=some bt),Hn (⟨g6.1,g6.2,(iL F7_ h6).2⟩:(0:Int)<=k_/\(0:Int)<=k2/\(k_+k2).toNat<(bw.map F7_).length),Hs (iM F7_ h6),Hn (iL F7_ h7),Hs (iM F7_ h7),Hs (iM F7_ h7),Hl (sM F7_ bw i7 nc)])
         ·exact yB ((xVi zx 46 1 0 bt k_).or ((xVi zx 41 1 0 bt k_).or zz)) hC fp (bw,i7) ah (Z4++[Hq c4])
       ·obtain rfl:=za ah;obtain rfl:=hl2;exact yB ((xVl zx 34 32 1 0 bt k_ (by kernel_rfl)).or zz) hC d0 (bw,i7) ae (Z3++[Hq c3])
     ·exact yB zz hC bk () ae (Z2++[Hq c2])
   ·obtain rfl:=za ae;obtain rfl:=hl1;exact yB zz hC aw () aa (Z1++[Hq c1])
def K0:Code:=(f112.body).getD .skip
def xP:zN:=spR (α:=List (List Int)) (ρ:=List (List Int)) 112 (λx=>[z4S x]) (λr=>(eOs 1 true F7_) r) (λx=>wG x) [true] (Q7)
theorem JV:∀x r,(λx=>wG x) x=some r->(z3y.add xP).run 112 ((z3y.add xP).norm 112 ((λx=>[z4S x]) x))=some ((λr=>(eOs 1 true F7_) r) r):=λx r h=>zzL h rfl
theorem JX:(z3y.add xP).lend 112=none/\(z3y.add xP).gives 112=[true]:=zss
theorem qP (hC:zF prog ctr):xP.Ok prog:=by refine zjC ?_;rintro s_ r0 aa;try unfold wG at aa;refine yO true [(2,none)] K0 9 func112 λE hE=>?_;obtain rfl:=za aa;exact yE ((xCl zx 8).or X0) hC hE [Ha (lnM F7_ s_),Ha (lnM F7_ s_),Hn (nM _:(0:Int)<=((s_.length:Nat):Int)),Hn (nM _:(0:Int)<=((s_.length:Nat):Int)),Hn (clB F7_ s_),Ha (clE 1 F7_ s_)]
def KV:Code:=(f91.body).getD .skip
def VR:zN:=spF (α:=List (List Int)) (ρ:=Int) 91 (λx=>[xh x]) (λr=>s8 r) (λx=>Vb x) [] (Q7)
abbrev z73 (n_:Int):List (Nat×T):=[(2,.d (I n_))]
abbrev z72 (l_:List (List Int))(dp:Int)(x7:Int):List (Nat×T):=[(2,.d (I dp)),(5,.d (eSl 1 false F7_ l_)),(6,.d (I ((l_.length:Nat):Int))),(7,.d (I x7))]
theorem zcr (hC:zF prog ctr):VR.Ok prog:=by
 refine zC ?_;rintro l_ r0 aa;try unfold Vb at aa;refine yO true [(2,none)] KV 17 func91 λE hE=>?_;refine yJ X0 hC KV [1] [] [2] (λz:Int=>KC z=some r0) (λz=>z73 z) [(0,.d (eSl 1 false F7_ l_)),(2,.d (I 0))] [Hh (.cut 1)] ?_ λJ1 aw=>?_
 ·rintro n_ aa;unfold KC at aa;obtain rfl:=za aa;exact yE X0 hC hE []
 ·obtain⟨t2,ht2,aa⟩:=zc aa;refine yL X0 hC KV [1,2,1,0] [J1] (λs=>Zm l_ s.1 s.2) (λx=>z72 l_ x.1 x.2) (0,0) ht2  [Ha (lnM F7_ l_)] ?_;rintro⟨dp,x7⟩ m2 az ae hl1 J2 a6;try unfold Zm at ae;rcases zI ae with⟨c0,ae⟩|⟨c0,ae⟩
  ·obtain⟨cd,h0,ae⟩:=zc ae;obtain rfl:=za ae;exact yB X0 hC a6 (w64 (dp+((cd.length:Nat):Int)),w64 (x7+1)) hl1 [Hq c0,Hi F7_ h0,Ha (lnM s8 cd)]
  ·obtain rfl:=za ae;obtain rfl:=hl1;exact yB X0 hC aw dp aa [Hq c0]
def uQ:Code:=(f104.body).getD .skip
def jM:zN:=spF (α:=List (List Int)) (ρ:=List (List Int)×Int) 104 (λx=>[xh x]) (λr=>.tup [Us r.1,s8 r.2]) (λx=>wj x) [] (Q7)
abbrev z5H (out:List (List Int×Bool)):List (Nat×T):=[(4,.own (eOs 1 true (eFl 1 s8) out))]
abbrev z5G (gz:Value)(ak:List (List Int))(ap:List (List Int×Bool))(eg:Int):List (Nat×T):=[(4,.own (eOs 1 true (eFl 1 s8) ap)),(22,.d (.atom (JY 1 gz (0:Int)))),(23,.d (I ((ak.length - (0:Int).toNat:Nat):Int))),(24,.d (I eg))]
theorem zaZ (hC:zF prog ctr)(h0D:ctr.Has vH)(h06:ctr.Has qe)(h1R:ctr.Has vp)(h0s:ctr.Has VR)(h0i:ctr.Has wC)(h01:ctr.Has yh):jM.Ok prog:=by
 refine zC ?_;rintro l_ r0 aa;try unfold wj at aa;refine yO false [(2,none),(3,none)] uQ 37 func104 λE hE=>?_;obtain⟨r_,h0,aa⟩:=zc aa;refine yA X0 hC uQ [1,1] [] [(4,.own (eOs 1 false F7_ r_))] [Hc h0D (x:=l_) h0 (loC xh l_ <| loN),Hh (.cut 0)] ?_;obtain⟨sorted,h1,aa⟩:=zc aa;refine zfs (by kernel_rfl) (x:=(sub [1,1,0] uQ)) (y:=(sub [1,1,1] uQ)) 4 (λst1=>Own.canon [4] st1=ofL [(4,.own (eOs 1 false F7_ sorted))]) (λgz=>yF ((k8 (P:=prog) yw [4] (zjE zuT (f:=F7_) (t:=false) (v:=gz) (λ_=>rfl) (λ_=>rfl) (λx y c h=>xM hC h06 (x:=(x,y)) h) h1) 10).or X0) hC .normal [(4,.own (eOs 1 false F7_ sorted))] [Hn (Ve (f:=.fn 136 []) (xs:=[.atom gz,.fn 125 []]) (ls:=[(gz,eOs 1 false F7_ r_)]) (r:=.tup []) (ys:=[eOs 1 false F7_ sorted]) [.atom gz,.fn 125 []] (show z3p [.atom gz,.fn 125 []] [.atom gz,.fn 125 []] from inferInstance))] λst0 h0=>⟨rfl,h0⟩) λst1 h1=>zdB h1 ?_
 obtain⟨aj,h2,aa⟩:=zc aa;obtain⟨ak,h3,aa⟩:=zc aa;let Z0:List HO:=[Hc h1R (x:=(sorted,())) h2 (loC z4S sorted <| loC (zj8 138) () <| loN),Hh (.g [true]),Hn JX,Hx (.a ((eOs 1 true F7_) ak)) (JV aj _ h3),Ha (lnM F7_ ak)];rcases zI aa with⟨c0,aa⟩|⟨c0,aa⟩
 ·obtain rfl:=za aa;exact yEx ((zcm zx (qP hC) 13).or X0) hC hE (Z0++(rpN 4 (Hq c0) [qT,Hm (shM F7_ F7_ [])])) (.tup [eSl 1 true F3_ [],I 3]) (show LeV (.tup [eSl 1 true F3_ [],I 3]) (.tup [eSl 1 true F3_ ([]:List (List Int)),I 3]) from inferInstance)
 ·obtain⟨au,h4,aa⟩:=zc aa;let Z1:List HO:=(Z0++[Hq c0,Hq c0,Hg (JO h0s),Hm (shM F7_ F7_ ak),Hs (JP h0s (x:=ak) h4 (loC zfy ak <| loN)),Hq c0,Hq c0]);rcases zI aa with⟨c1,aa⟩|⟨c1,aa⟩
  ·obtain rfl:=za aa;exact yEx ((zcm zx (qP hC) 13).or X0) hC hE (Z1++[Hq c1,Hm (shM F7_ F7_ [])]) (.tup [eSl 1 true F3_ [],I 3]) (show LeV (.tup [eSl 1 true F3_ [],I 3]) (.tup [eSl 1 true F3_ ([]:List (List Int)),I 3]) from inferInstance)
  ·refine yA ((zcm zx (qP hC) 13).or X0) hC uQ [1,1,1,1,1] [] [(4,.own (eOs 1 true F7_ ak))] (Z1++[Hq c1,Hh (.cut 0)]) ?_;refine zdA (y:=eOs 1 true F7_ ak) (by kernel_rfl) 4 (by kernel_rfl) (by kernel_rfl) λgz hv4=>?_;refine yJ X0 hC uQ [1,1,1,1,1] [] [4] (λz:List (List Int×Bool)=>W7 z=some r0) (λz=>z5H z) [(4,.own (eOs 1 true F7_ ak))] [Hh (.cut 0)] ?_ λJ1 aw=>?_
   ·rintro out aa;unfold W7 at aa;obtain⟨hfl0,aa⟩:=gdE aa;obtain rfl:=za aa;exact yEx X0 hC hE [Hm (shM (eFl 1 s8) (eFl 1 s8) out)] (.tup [eSl 1 true (eFl 1 s8) out,I 0]) (haveI:=flA (s:=1) (t:=1) (b:=true) (f:=s8) hfl0;show LeV (.tup [eSl 1 true (eFl 1 s8) out,I 0]) (.tup [eSl 1 true F3_ (out.map (·.1)),I 0]) from inferInstance)
   ·obtain⟨t2,ht2,aa⟩:=zc aa;refine yLx ((xVl zx 23 32 1 4 gz (0:Int) (by kernel_rfl)).or ((xMw prog 22 4 1 gz).or X0)) hC uQ [1,1,1,1,1,2,1,0] [J1] (λs=>vj ak s.1 s.2) (λx=>z5G gz ak x.1 x.2) ((ak.map λq=>(q,false)),0) ht2 [(4,.own (eOs 1 true F7_ ak)),(22,.d (.atom (JY 1 gz (0:Int)))),(23,.d (I ((ak.length - (0:Int).toNat:Nat):Int))),(24,.d (I 0))] inferInstance [Hn (rfl:some gz=some gz),Hn (⟨rfl,rfl⟩:T.d (.atom (JY 1 gz (0:Int)))=T.d (.atom (JY 1 gz (0:Int)))/\some gz=some gz),Hx (.a (.atom (.int .i64 ((ak.length - (0:Int).toNat:Nat):Int)))) (vlM F7_ ak (0:Int).toNat)] ?_;rintro⟨ap,eg⟩ m2 az ae hl1 J2 a6;try unfold vj at ae;rcases zI ae with⟨c2,ae⟩|⟨c2,ae⟩
    ·obtain⟨g0,ae⟩:=gdE ae;obtain⟨co,h5,ae⟩:=zc ae;obtain⟨ca,h6,ae⟩:=zc ae;obtain⟨dj,h7,ae⟩:=zc ae;obtain⟨ic,h8,ae⟩:=zc ae;obtain rfl:=za ae;exact yB ((xVi zx 27 1 4 gz (0:Int)).or X0) hC a6 ((ap.set eg.toNat (dj,true)),w64 (eg+1)) hl1 [Hq c2,Hn (⟨rfl,rfl⟩:T.d (.atom (JY 1 gz (0:Int)))=T.d (.atom (JY 1 gz (0:Int)))/\some gz=some gz),Hn (⟨g0.1,g0.2,(iL (eFl 1 s8) h5).2⟩:(0:Int)<=0/\(0:Int)<=eg/\(0+eg).toNat<(ap.map (eFl 1 s8)).length),Hs (iM (eFl 1 s8) h5),Hc h0i (x:=co.1) h6 (loC (eSl 1 co.2 s8) co.1 <| loN),Hg (JO h01),Hm (shM s8 s8 ca),Hs (JP h01 (x:=ca) h7 (loC F7_ ca <| loN)),Hm (shM s8 s8 ca),Hn (iL (eFl 1 s8) h8),Hs (iM (eFl 1 s8) h8),Hs (iM (eFl 1 s8) h8),Hl (sM (eFl 1 s8) ap eg (dj,true))]
    ·obtain rfl:=za ae;obtain rfl:=hl1;exact yB X0 hC aw ap aa [Hq c2]
def zds:Code:=(f115.body).getD .skip
def YB:zN:=spF (α:=List (List Int)×Int) (ρ:=List (List Int)×Int) 115 (λx=>[xh x.1,s8 x.2]) (λr=>.tup [Us r.1,s8 r.2]) (λx=>XM x.1 x.2) [] (W2)
theorem zdN (hC:zF prog ctr)(h0E:ctr.Has VS)(h04:ctr.Has jM):YB.Ok prog:=by
 refine zC ?_;rintro⟨l_,inputs⟩ r0 aa;try unfold XM at aa;refine yO false [(4,none),(5,none)] zds 17 func115 λE hE=>?_;obtain⟨r_,h0,aa⟩:=zc aa
 let Z0:List HO:=[Hc h0E (x:=(l_,inputs)) h0 (loC xh l_ <| loC s8 inputs <| loN)];rcases zI aa with⟨c0,aa⟩|⟨c0,aa⟩
 ·obtain rfl:=za aa;exact yEx X0 hC hE (Z0++[Hq c0,Hm (shM F7_ F7_ [])]) (.tup [eSl 1 true F3_ [],I r_]) (show LeV (.tup [eSl 1 true F3_ [],I r_]) (.tup [eSl 1 true F3_ ([]:List (List Int)),I r_]) from inferInstance)
 ·obtain⟨aj,h1,aa⟩:=zc aa;obtain rfl:=za aa;exact yE X0 hC hE (Z0++[Hq c0,Hc h04 (x:=l_) h1 (loC xh l_ <| loN)])
def z8l:Code:=(f70.body).getD .skip
def Xn:zN:=spF (α:=z6) (ρ:=List (List Int)×Int) 70 (λx=>[zO x]) (λr=>.tup [Us r.1,s8 r.2]) (λx=>kW x) [] (Q7)
theorem z9c (hC:zF prog ctr)(h0z:ctr.Has qA)(h1S:ctr.Has QR)(h05:ctr.Has YB):Xn.Ok prog:=by
 refine zC ?_;rintro m_ r0 aa;try unfold kW at aa;refine yO false [(2,none),(3,none)] z8l 33 func70 λE hE=>?_;obtain⟨r_,h0,aa⟩:=zc aa
 let Z0:List HO:=[Hc h0z (x:=m_) h0 (loC zO m_ <| loN)];rcases zI aa with⟨c0,aa⟩|⟨c0,aa⟩
 ·obtain rfl:=za aa;exact yEx X0 hC hE (Z0++[Hq c0,Hm (shM F7_ F7_ [])]) (.tup [eSl 1 true F3_ [],I r_.2]) (show LeV (.tup [eSl 1 true F3_ [],I r_.2]) (.tup [eSl 1 true F3_ ([]:List (List Int)),I r_.2]) from inferInstance)
 ·rcases zI aa with⟨c1,aa⟩|⟨c1,aa⟩
  ·obtain rfl:=za aa;exact yEx X0 hC hE (Z0++[Hq c0,Hq c1,Hm (shM F7_ F7_ [])]) (.tup [eSl 1 true F3_ [],I 11]) (show LeV (.tup [eSl 1 true F3_ [],I 11]) (.tup [eSl 1 true F3_ ([]:List (List Int)),I 11]) from inferInstance)
  ·obtain⟨aj,h1,aa⟩:=zc aa;let Z1:List HO:=(Z0++[Hq c0,Hq c1,Hc h1S (x:=m_) h1 (loC zO m_ <| loN)]);rcases zI aa with⟨c2,aa⟩|⟨c2,aa⟩
   ·obtain rfl:=za aa;exact yEx X0 hC hE (Z1++[Hq c2,Hm (shM F7_ F7_ [])]) (.tup [eSl 1 true F3_ [],I aj.2.2]) (show LeV (.tup [eSl 1 true F3_ [],I aj.2.2]) (.tup [eSl 1 true F3_ ([]:List (List Int)),I aj.2.2]) from inferInstance)
   ·obtain⟨ak,h2,aa⟩:=zc aa;obtain rfl:=za aa;exact yE X0 hC hE (Z1++[Hq c2,Hc h05 (x:=(aj.1,m_.Inputs)) h2 (loC Us aj.1 <| loC s8 m_.Inputs <| loN)])
def qL:Code:=(f119.body).getD .skip
def Kh:zN:=spF (α:=Int×Int×Int) (ρ:=List (List Int)×Int) 119 (λx=>[s8 x.1,s8 x.2.1,s8 x.2.2]) (λr=>.tup [Us r.1,s8 r.2]) (λx=>QO x.1 x.2.1 x.2.2) [] (zdJ)
abbrev zaE (inputs:Int)(from_:Int)(to:Int)(k_:Int)(ai:List (List Int))(lq:List (List Int))(dp:Int)(pd:Int)(pe:Bool)(ni:Bool):List (Nat×T):=[(0,.d (I inputs)),(1,.d (I from_)),(2,.d (I to)),(8,.own (eOs 1 false F7_ ai)),(9,.own (eOs 1 false F7_ lq)),(10,.d (I dp)),(11,.d (I k_)),(45,.d (I pd)),(46,.d (B pe)),(49,.d (I k_)),(50,.d (I to)),(51,.d (B (decide (k_<to)))),(52,.d (B (decide (k_<to)))),(58,.d (B ni))]
abbrev zaB (inputs:Int)(from_:Int)(to:Int)(k_:Int)(ap:List (List Int))(cj:Int)(ga:Bool)(next:List (List Int)):List (Nat×T):=[(0,.d (I inputs)),(1,.d (I from_)),(2,.d (I to)),(8,.own (eOs 1 false F7_ ap)),(10,.d (I cj)),(11,.d (I k_)),(12,.own (eOs 1 false F7_ next)),(45,.d (I cj)),(46,.d (B (decide (cj > 65536)))),(49,.d (I k_)),(50,.d (I to)),(51,.d (B (decide (k_<to)))),(52,.d (B (decide (k_<to)))),(58,.d (B ga))]
abbrev zaA (inputs:Int)(from_:Int)(to:Int)(ar:List (List Int))(k_:Int)(ap:List (List Int))(cj:Int)(ga:Bool)(jv:Int)(ew:List (List Int)):List (Nat×T):=[(0,.d (I inputs)),(1,.d (I from_)),(2,.d (I to)),(8,.own (eOs 1 false F7_ ap)),(9,.own (eOs 1 false F7_ ar)),(10,.d (I cj)),(11,.d (I k_)),(12,.own (eOs 1 false F7_ ew)),(45,.d (I cj)),(46,.d (B (decide (cj > 65536)))),(49,.d (I k_)),(50,.d (I to)),(51,.d (B (decide (k_<to)))),(52,.d (B (decide (k_<to)))),(58,.d (B ga)),(67,.als 9 [] 0 0),(68,.d (I ((ar.length:Nat):Int))),(69,.d (I jv))]
abbrev zax (inputs:Int)(from_:Int)(to:Int)(ar:List (List Int))(k_:Int)(ap:List (List Int))(cj:Int)(ga:Bool)(jv:Int)(bm:List Int)(ck:List (List Int))(jw:Int):List (Nat×T):=[(0,.d (I inputs)),(1,.d (I from_)),(2,.d (I to)),(8,.own (eOs 1 false F7_ ap)),(9,.own (eOs 1 false F7_ ar)),(10,.d (I cj)),(11,.d (I k_)),(12,.own (eOs 1 false F7_ ck)),(14,.d (eSl 1 false s8 bm)),(45,.d (I cj)),(46,.d (B (decide (cj > 65536)))),(49,.d (I k_)),(50,.d (I to)),(51,.d (B (decide (k_<to)))),(52,.d (B (decide (k_<to)))),(58,.d (B ga)),(67,.als 9 [] 0 0),(68,.d (I ((ar.length:Nat):Int))),(69,.d (I jv)),(73,.d (I inputs)),(74,.d (I jw))]
abbrev zay (inputs:Int)(from_:Int)(to:Int)(ar:List (List Int))(k_:Int)(ap:List (List Int))(cj:Int)(ga:Bool)(cn:List (List Int))(jv:Int):List (Nat×T):=[(0,.d (I inputs)),(1,.d (I from_)),(2,.d (I to)),(8,.own (eOs 1 false F7_ ap)),(9,.own (eOs 1 false F7_ ar)),(10,.d (I cj)),(11,.d (I k_)),(12,.own (eOs 1 false F7_ cn)),(45,.d (I cj)),(46,.d (B (decide (cj > 65536)))),(49,.d (I k_)),(50,.d (I to)),(51,.d (B (decide (k_<to)))),(52,.d (B (decide (k_<to)))),(58,.d (B ga)),(67,.als 9 [] 0 0),(68,.d (I ((ar.length:Nat):Int))),(69,.d (I jv))]
abbrev zaC (inputs:Int)(from_:Int)(to:Int)(ar:List (List Int))(k_:Int)(ap:List (List Int))(cj:Int)(ga:Bool):List (Nat×T):=[(0,.d (I inputs)),(1,.d (I from_)),(2,.d (I to)),(8,.own (eOs 1 false F7_ ap)),(9,.own (eOs 1 false F7_ ar)),(10,.d (I cj)),(11,.d (I k_)),(45,.d (I cj)),(46,.d (B (decide (cj > 65536)))),(49,.d (I k_)),(50,.d (I to)),(51,.d (B (decide (k_<to)))),(52,.d (B (decide (k_<to)))),(58,.d (B ga))]
abbrev zaD (inputs:Int)(from_:Int)(to:Int)(ar:List (List Int))(k_:Int)(ap:List (List Int))(cj:Int):List (Nat×T):=[(0,.d (I inputs)),(1,.d (I from_)),(2,.d (I to)),(8,.own (eOs 1 false F7_ ap)),(9,.own (eOs 1 false F7_ ar)),(10,.d (I cj)),(11,.d (I k_))]
abbrev zaz (inputs:Int)(from_:Int)(to:Int)(out:List (List Int))(ar:List (List Int))(n_:Int)(k_:Int):List (Nat×T):=[(0,.d (I inputs)),(1,.d (I from_)),(2,.d (I to)),(8,.own (eOs 1 false F7_ out)),(9,.own (eOs 1 false F7_ ar)),(10,.d (I n_)),(11,.d (I k_))]
def yd:XH prog:=((QJ zx (.inl 83) [82]).or X0)
theorem zfF (hC:zF prog ctr)(h04:ctr.Has jM)(h01:ctr.Has yh):Kh.Ok prog:=by
 refine zC ?_;rintro⟨inputs,from_,to⟩ r0 aa;try unfold QO at aa;refine yO false [(6,none),(7,none)] qL 88 func119 λE hE=>?_;rcases zI aa with⟨c0,aa⟩|⟨c0,aa⟩
 ·obtain rfl:=za aa;exact yEx yd hC hE [Hq c0,Hm (shM F7_ F7_ [])] (.tup [eSl 1 true F3_ [],I 3]) (show LeV (.tup [eSl 1 true F3_ [],I 3]) (.tup [eSl 1 true F3_ ([]:List (List Int)),I 3]) from inferInstance)
 ·rcases zI aa with⟨c1,aa⟩|⟨c1,aa⟩
  ·obtain rfl:=za aa;exact yEx yd hC hE [Hq c0,Hq c1,Hq c1,Hq c1,qT,Hm (shM F7_ F7_ [])] (.tup [eSl 1 true F3_ [],I 1]) (show LeV (.tup [eSl 1 true F3_ [],I 1]) (.tup [eSl 1 true F3_ ([]:List (List Int)),I 1]) from inferInstance)
  ·let Z0:List HO:=[Hq c0,Hq c1,Hq c1,Hq c1];rcases zI aa with⟨c2,aa⟩|⟨c2,aa⟩
   ·obtain rfl:=za aa;exact yEx yd hC hE (Z0++[Hq c2,Hm (shM F7_ F7_ [])]) (.tup [eSl 1 true F3_ [],I 1]) (show LeV (.tup [eSl 1 true F3_ [],I 1]) (.tup [eSl 1 true F3_ ([]:List (List Int)),I 1]) from inferInstance)
   ·rcases zI aa with⟨c3,aa⟩|⟨c3,aa⟩
    ·obtain rfl:=za aa;exact yEx yd hC hE (Z0++[Hq c2,Hq c3,Hm (shM F7_ F7_ [])]) (.tup [eSl 1 true F3_ [],I 3]) (show LeV (.tup [eSl 1 true F3_ [],I 3]) (.tup [eSl 1 true F3_ ([]:List (List Int)),I 3]) from inferInstance)
    ·obtain⟨t1,ht1,aa⟩:=zc aa;refine yLx yd hC qL [1,1,1,1,1,1,1,1,0] [] (λs=>kB inputs from_ to s.1 s.2.1 s.2.2.1 s.2.2.2) (λx=>zaz inputs from_ to x.1 x.2.1 x.2.2.1 x.2.2.2) (([]:List (List Int)),([[]]:List (List Int)),0,0) ht1 [(0,.d (I inputs)),(1,.d (I from_)),(2,.d (I to)),(8,.own (eOs 1 true F7_ [])),(9,.own (eOs 1 true F3_ ([[]]))),(10,.d (I 0)),(11,.d (I 0))] inferInstance (Z0++[Hq c2,Hq c3,Hh (.v 5 [9]),Hm (shM F4_ F3_ ([[]]:List (List Int)))]) ?_;rintro⟨out,ar,n_,k_⟩ m1 az ae hl1 J1 aw;try unfold kB at ae;refine yJ yd hC qL [1,1,1,1,1,1,1,1,0,0] [J1] [0,1,2,8,9,10,11,45,46,49,50,51,52,58] (λz:List (List Int)×List (List Int)×Int×Int×Bool×Bool=>Kf k_ z.1 z.2.1 z.2.2.1 z.2.2.2.1 z.2.2.2.2.1 z.2.2.2.2.2=some az) (λz=>zaE inputs from_ to k_ z.1 z.2.1 z.2.2.1 z.2.2.2.1 z.2.2.2.2.1 z.2.2.2.2.2) [(0,.d (I inputs)),(1,.d (I from_)),(2,.d (I to)),(8,.own (eOs 1 false F7_ out)),(9,.own (eOs 1 false F7_ ar)),(10,.d (I n_)),(11,.d (I k_))] [Hh (.cut 0)] ?_ λJ2 a6=>?_
     ·rintro⟨ai,lq,dp,pd,pe,ni⟩ ae;unfold Kf at ae;obtain rfl:=za ae;exact yB yd hC aw (ai,lq,dp,w64 (k_+1)) hl1 []
     ·refine yJ yd hC qL [1,1,1,1,1,1,1,1,0,0,2,0] [J1,J2] [0,1,2,8,9,10,11] (λz:List (List Int)×Int=>XL inputs to ar k_ z.1 z.2=some az) (λz=>zaD inputs from_ to ar k_ z.1 z.2) [(0,.d (I inputs)),(1,.d (I from_)),(2,.d (I to)),(8,.own (eOs 1 false F7_ out)),(9,.own (eOs 1 false F7_ ar)),(10,.d (I n_)),(11,.d (I k_))] [Hh (.cut 0)] ?_ λJ3 bk=>?_
      ·rintro⟨ap,cj⟩ ae;unfold XL at ae;refine yJ yd hC qL [1,1,1,1,1,1,1,1,0,0,2,0,1] [J1,J2] [0,1,2,8,9,10,11,45,46,49,50,51,52,58] (λz:Bool=>XK inputs to ar k_ ap cj z=some az) (λz=>zaC inputs from_ to ar k_ ap cj z) [(0,.d (I inputs)),(1,.d (I from_)),(2,.d (I to)),(8,.own (eOs 1 false F7_ ap)),(9,.own (eOs 1 false F7_ ar)),(10,.d (I cj)),(11,.d (I k_))] [Hh (.cut 0)] ?_ λJ4 d0=>?_
       ·rintro ga ae;unfold XK at ae;rcases zI ae with⟨c4,ae⟩|⟨c4,ae⟩
        ·obtain⟨r_,h0,ae⟩:=zc ae;obtain rfl:=za ae;obtain rfl:=hl1;obtain rfl:=za aa;exact yE yd hC hE [Hq c4,Hg (JO h04),Hm (shM F7_ F7_ ap),Hs (JP h04 (x:=ap) h0 (loC xh ap <| loN)),Hm (shM F7_ F7_ ap)]
        ·refine yJ yd hC qL [1,1,1,1,1,1,1,1,0,0,2,0,1,1,1,1] [J1,J2] [0,1,2,8,10,11,12,45,46,49,50,51,52,58] (λz:List (List Int)=>Ke k_ ap cj ga z=some az) (λz=>zaB inputs from_ to k_ ap cj ga z) [(0,.d (I inputs)),(1,.d (I from_)),(2,.d (I to)),(8,.own (eOs 1 false F7_ ap)),(9,.own (eOs 1 false F7_ ar)),(10,.d (I cj)),(11,.d (I k_)),(12,.own (eOs 1 true F7_ [])),(45,.d (I cj)),(46,.d (B (decide (cj > 65536)))),(49,.d (I k_)),(50,.d (I to)),(51,.d (B (decide (k_<to)))),(52,.d (B (decide (k_<to)))),(58,.d (B ga))] [Hq c4,Hh (.cut 1)] ?_ λJ5 dn=>?_
         ·rintro next ae
          unfold Ke at ae;exact yB yd hC a6 (ap,next,cj,cj,decide (cj > 65536),ga) ae []
         ·obtain⟨t6,la,ae⟩:=zc ae;refine yLx yd hC qL [1,1,1,1,1,1,1,1,0,0,2,0,1,1,1,1,2,1,0] [J1,J2,J5] (λs=>qq inputs ar s.1 s.2) (λx=>zay inputs from_ to ar k_ ap cj ga x.1 x.2) (([]:List (List Int)),0) la [(0,.d (I inputs)),(1,.d (I from_)),(2,.d (I to)),(8,.own (eOs 1 false F7_ ap)),(9,.own (eOs 1 false F7_ ar)),(10,.d (I cj)),(11,.d (I k_)),(12,.own (eOs 1 true F7_ [])),(45,.d (I cj)),(46,.d (B (decide (cj > 65536)))),(49,.d (I k_)),(50,.d (I to)),(51,.d (B (decide (k_<to)))),(52,.d (B (decide (k_<to)))),(58,.d (B ga)),(67,.als 9 [] 0 0),(68,.d (I ((ar.length:Nat):Int))),(69,.d (I 0))] inferInstance [Ha (lnM F7_ ar)] ?_;rintro⟨cn,jv⟩ m6 dl ah hl2 J6 fp;try unfold qq at ah;rcases zI ah with⟨c5,ah⟩|⟨c5,ah⟩
          ·refine yJ yd hC qL [1,1,1,1,1,1,1,1,0,0,2,0,1,1,1,1,2,1,0,0,1,1] [J1,J2,J5,J6] [0,1,2,8,9,10,11,12,45,46,49,50,51,52,58,67,68,69] (λz:List (List Int)=>Kd jv z=some dl) (λz=>zaA inputs from_ to ar k_ ap cj ga jv z) [(0,.d (I inputs)),(1,.d (I from_)),(2,.d (I to)),(8,.own (eOs 1 false F7_ ap)),(9,.own (eOs 1 false F7_ ar)),(10,.d (I cj)),(11,.d (I k_)),(12,.own (eOs 1 false F7_ cn)),(45,.d (I cj)),(46,.d (B (decide (cj > 65536)))),(49,.d (I k_)),(50,.d (I to)),(51,.d (B (decide (k_<to)))),(52,.d (B (decide (k_<to)))),(58,.d (B ga)),(67,.als 9 [] 0 0),(68,.d (I ((ar.length:Nat):Int))),(69,.d (I jv))] [Hq c5,Hh (.cut 0)] ?_ λJ7 jk=>?_
           ·rintro ew ah;unfold Kd at ah;obtain rfl:=za ah;exact yB yd hC fp (ew,w64 (jv+1)) hl2 []
           ·obtain⟨bm,h1,ah⟩:=zc ah;obtain⟨t8,ht8,ah⟩:=zc ah;refine yL yd hC qL [1,1,1,1,1,1,1,1,0,0,2,0,1,1,1,1,2,1,0,0,1,1,2,0,1,1,0] [J1,J2,J5,J6,J7] (λs=>qp inputs bm s.1 s.2) (λx=>zax inputs from_ to ar k_ ap cj ga jv bm x.1 x.2) (cn,0) ht8  [Hn (iL F7_ h1),Hs (iM F7_ h1)] ?_;rintro⟨ck,jw⟩ m8 l9 av hl3 J8 lw;try unfold qp at av;rcases zI av with⟨c6,av⟩|⟨c6,av⟩
            ·obtain⟨aj,h2,av⟩:=zc av;obtain⟨g0,av⟩:=gdE av;obtain⟨g1,av⟩:=gdE av;obtain rfl:=za av;exact yB yd hC lw ((ck++([(aj++([jw]:List Int))]:List (List Int))),w64 (jw+1)) hl3 [Hq c6,Hc h01 (x:=bm) h2 (loC F7_ bm <| loN),Hq (dM s8 ([jw]:List Int)),Hn (dM s8 ([jw]:List Int)),Hn (aN s8 s8 g0 (by simp)),Hl (aM s8 aj ([jw]:List Int)),Hm (shM s8 s8 (aj++([jw]:List Int))),Hq (dM F7_ ([(aj++([jw]:List Int))]:List (List Int))),Hn (dM F7_ ([(aj++([jw]:List Int))]:List (List Int))),Hn (aL F7_ F7_ g1),Hl (aM F7_ ck ([(aj++([jw]:List Int))]:List (List Int)))]
            ·obtain rfl:=za av;obtain rfl:=hl3;exact yB yd hC jk ck ah [Hq c6]
          ·obtain rfl:=za ah;obtain rfl:=hl2;exact yB yd hC dn cn ae [Hq c5]
       ·let Z1:List HO:=[Ha (lnM F7_ ap)];rcases zI ae with⟨c7,ae⟩|⟨c7,ae⟩
        ·obtain rfl:=za ae;obtain rfl:=hl1;obtain rfl:=za aa;exact yEx yd hC hE (Z1++(Hq c7::Hq c7::Hq c7::(rpN 7 qT [Hm (shM F7_ F7_ [])]))) (.tup [eSl 1 true F3_ [],I 3]) (show LeV (.tup [eSl 1 true F3_ [],I 3]) (.tup [eSl 1 true F3_ ([]:List (List Int)),I 3]) from inferInstance)
        ·rcases zI ae with⟨c8,ae⟩|⟨c8,ae⟩
         ·obtain rfl:=za ae;obtain rfl:=hl1;obtain rfl:=za aa;exact yEx yd hC hE (Z1++(Hq c7::Hq c7::Hq c7::(rpN 6 (Hq c8) [qT,Hm (shM F7_ F7_ [])]))) (.tup [eSl 1 true F3_ [],I 3]) (show LeV (.tup [eSl 1 true F3_ [],I 3]) (.tup [eSl 1 true F3_ ([]:List (List Int)),I 3]) from inferInstance)
         ·let Z2:List HO:=(Z1++(Hq c7::Hq c7::Hq c7::(rpN 4 (Hq c8) [])));rcases zI ae with⟨c9,ae⟩|⟨c9,ae⟩
          ·let Z3:List HO:=(Z2++[Hq c9,Hq c9,Ha (lnM F7_ ar),Hq c9,Hq c9,Hq c9,Hq c8,Hq c9,Hq c8]);rcases zI ae with⟨c10,ae⟩|⟨c10,ae⟩
           ·obtain rfl:=za ae;obtain rfl:=hl1;obtain rfl:=za aa;exact yEx yd hC hE (Z3++[Hq c10,Hm (shM F7_ F7_ [])]) (.tup [eSl 1 true F3_ [],I 3]) (show LeV (.tup [eSl 1 true F3_ [],I 3]) (.tup [eSl 1 true F3_ ([]:List (List Int)),I 3]) from inferInstance)
           ·exact yB yd hC d0 (decide ((w64 (((ar.length:Nat):Int)*inputs)) > 4096)) ae (Z3++[Hq c10])
          ·exact yB yd hC d0 false ae (Z2++(rpN 5 (Hq c9) [Hq c8,Hq c9,Hq c8,qF]))
      ·rcases zI ae with⟨c11,ae⟩|⟨c11,ae⟩
       ·obtain⟨g2,ae⟩:=gdE ae;exact yB yd hC bk ((out++ar),w64 (n_+(w64 (k_*((ar.length:Nat):Int))))) ae [Hq c11,Hq (dM F7_ ar),Hn (dM F7_ ar),Hn (aL F7_ F7_ g2),Hl (aM F7_ out ar),Ha (lnM F7_ ar)]
       ·exact yB yd hC bk (out,n_) ae [Hq c11]
end Go.Own
end
