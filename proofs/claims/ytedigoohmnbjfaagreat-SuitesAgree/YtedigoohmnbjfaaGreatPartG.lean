/- -/
import Derived.Test.YtedigoohmnbjfaaGreatPartF
noncomputable section
set_option linter.unusedVariables false
set_option linter.unusedSimpArgs false
namespace Go.Own
open Go.Proofs
set_option maxRecDepth 100000
set_option maxHeartbeats 8000000
def X0:XH Tryz.prog:=xB zt
theorem WA:Tryz.prog.follows .mixedOrders=true:=by kernel_rfl
variable {σ:Type}{rs:List (Nat × Option Nat)}{J:St → Prop}{keep:Bool}{r:A}{τ:Type}
section
variable {ctr:Ctr} {n:Fr} {Q:Exit → St → Prop} {c:Code} {fs:List Fm} {st:St}
theorem yE (X:XH Tryz.prog) (hC:zB Tryz.prog ctr) {E:St → Prop}    (hE:∀ st x R U,zbK y9 keep rs st=some (x,R,U) → LeV x r → E st) (L:List HO) (e:zj3 X y9 ctr n keep rs 4000 c fs st (hoH L)=some (r,hoO L):=by kernel_rfl):AWP Tryz.prog n c st (Qf Tryz.prog n fs (zaW E)):=yE6 X zt hC WA hE L e
theorem yEx (X:XH Tryz.prog) (hC:zB Tryz.prog ctr) {E:St → Prop}    (hE:∀ st x R U,zbK y9 keep rs st=some (x,R,U) → LeV x r → E st) (L:List HO) (x:A) (hle:LeV x r) (e:zj3 X y9 ctr n keep rs 4000 c fs st (hoH L)=some (x,hoO L):=by kernel_rfl):AWP Tryz.prog n c st (Qf Tryz.prog n fs (zaW E)):=zqV X zt hC WA hE L x hle e
theorem yB (X:XH Tryz.prog) (hC:zB Tryz.prog ctr)   {live:List Nat} {S:τ → List (Nat × T)} {Inv:τ → Prop} (hJ:∀ st' l' z,Inv z → Own.canon live st'=ofL l' → LeL l' (S z) → J st') (z:τ) (hz:Inv z) (L:List HO) (e:z5F X y9 ctr n live 4000 c fs st (hoH L)=some (.back J,ofL (S z),hoO L):=by kernel_rfl):AWP Tryz.prog n c st (Qf Tryz.prog n fs Q):=yB6 X zt hC WA hJ z hz L e
theorem yBx (X:XH Tryz.prog) (hC:zB Tryz.prog ctr)   {live:List Nat} {S:τ → List (Nat × T)} {Inv:τ → Prop} (hJ:∀ st' l' z,Inv z → Own.canon live st'=ofL l' → LeL l' (S z) → J st') (z:τ) (hz:Inv z) (l:List (Nat × T)) (hl:LeL l (S z)) (L:List HO) (e:z5F X y9 ctr n live 4000 c fs st (hoH L)=some (.back J,ofL l,hoO L):=by kernel_rfl):AWP Tryz.prog n c st (Qf Tryz.prog n fs Q):=zqW X zt hC WA hJ z hz l hl L e
theorem yA (X:XH Tryz.prog) (hC:zB Tryz.prog ctr) (bd:Code) (path:List Nat) (Js:List (St → Prop)) (l:List (Nat × T)) (L:List HO) (h:AWP Tryz.prog n (sub path bd) (ofL l) (Qf Tryz.prog n (frs path Js bd []) Q)) (e:z5F X y9 ctr n (z0e l) 4000 c fs st (hoH L)=some (.at (sub path bd) (frs path Js bd []),ofL l,hoO L):=by kernel_rfl):AWP Tryz.prog n c st (Qf Tryz.prog n fs Q):=yA6 X zt hC WA bd path Js l L e h
theorem yAt (X:XH Tryz.prog) (hC:zB Tryz.prog ctr) (c':Code) (fs':List Fm) (l:List (Nat × T)) (L:List HO) (h:∀ st0,Own.canon (z0e l) st0=ofL l → AWP Tryz.prog n c' st0 (Qf Tryz.prog n fs' Q)) (e:z5F X y9 ctr n (z0e l) 4000 c fs st (hoH L)=some (.at c' fs',ofL l,hoO L):=by kernel_rfl):AWP Tryz.prog n c st (Qf Tryz.prog n fs Q):=zqX X zt hC WA c' fs' l L e h
theorem yLx (X:XH Tryz.prog) (hC:zB Tryz.prog ctr) (bd:Code) (path:List Nat) (Js:List (St → Prop)) {σ τ:Type} (f:σ → Option (LR σ τ)) (S:σ → List (Nat × T)) (x0:σ) {t:τ} (ht:loop f x0=some t) (l:List (Nat × T)) (hl:LeL l (S x0)) (L:List HO) (round:∀ x m lr,f x=some lr → znW f m t lr → ∀ J:St → Prop,(∀ st' l' x',z0d f m x'=some t → Own.canon (z0e l) st'=ofL l' → LeL l' (S x') → J st') → AWP Tryz.prog n (sub (path ++ [0]) bd) (ofL (S x)) (Qf Tryz.prog n (.pre J :: frs path Js bd []) Q)) (e:z5F X y9 ctr n (z0e l) 4000 c fs st (hoH L)=some (.at (sub path bd) (frs path Js bd []),ofL l,hoO L):=by kernel_rfl) (e2:sub path bd=.loop (sub (path ++ [0]) bd):=by kernel_rfl) (hk:∀ x,z0e (S x)=z0e l:=by exact fun _=>rfl):AWP Tryz.prog n c st (Qf Tryz.prog n fs Q):=yL6 X zt hC WA bd path Js f S x0 ht l hl L hk e e2 round
theorem yL (X:XH Tryz.prog) (hC:zB Tryz.prog ctr) (bd:Code) (path:List Nat) (Js:List (St → Prop)) {σ τ:Type} (f:σ → Option (LR σ τ)) (S:σ → List (Nat × T)) (x0:σ) {t:τ} (ht:loop f x0=some t) (L:List HO) (round:∀ x m lr,f x=some lr → znW f m t lr → ∀ J:St → Prop,(∀ st' l' x',z0d f m x'=some t → Own.canon (z0e (S x0)) st'=ofL l' → LeL l' (S x') → J st') → AWP Tryz.prog n (sub (path ++ [0]) bd) (ofL (S x)) (Qf Tryz.prog n (.pre J :: frs path Js bd []) Q)) (e:z5F X y9 ctr n (z0e (S x0)) 4000 c fs st (hoH L)=some (.at (sub path bd) (frs path Js bd []),ofL (S x0),hoO L):=by kernel_rfl) (e2:sub path bd=.loop (sub (path ++ [0]) bd):=by kernel_rfl) (hk:∀ x,z0e (S x)=z0e (S x0):=by exact fun _=>rfl):AWP Tryz.prog n c st (Qf Tryz.prog n fs Q):=yL6 X zt hC WA bd path Js f S x0 ht _ (LeL.refl _) L hk e e2 round
theorem yJ (X:XH Tryz.prog) (hC:zB Tryz.prog ctr) (bd:Code) (path:List Nat) (Js:List (St → Prop))  (live:List Nat) (Inv:σ → Prop) (S:σ → List (Nat × T)) (l:List (Nat × T)) (L:List HO) (h1:∀ z,Inv z → AWP Tryz.prog n (sub (path ++ [1]) bd) (ofL (S z)) (Qf Tryz.prog n (frs path Js bd []) Q)) (h2:∀ J:St → Prop,(∀ st' l' z,Inv z → Own.canon live st'=ofL l' → LeL l' (S z) → J st') → AWP Tryz.prog n (sub (path ++ [2]) bd) (ofL l) (Qf Tryz.prog n (.pre J :: frs path Js bd []) Q)) (e:z5F X y9 ctr n (z0e l) 4000 c fs st (hoH L)=some (.at (sub path bd) (frs path Js bd []),ofL l,hoO L):=by kernel_rfl) (e2:sub path bd=.seq (sub (path ++ [2]) bd) (sub (path ++ [1]) bd):=by kernel_rfl):AWP Tryz.prog n c st (Qf Tryz.prog n fs Q):=yJ6 X zt hC WA bd path Js live Inv S l L e e2 h1 h2
theorem yF (X:XH Tryz.prog) (hC:zB Tryz.prog ctr) (ex:Exit) (l:List (Nat × T)) (L:List HO) (h:∀ st0,Own.canon (z0e l) st0=ofL l → Q ex st0) (e:z5F X y9 ctr n (z0e l) 4000 c fs st (hoH L)=some (.fin ex,ofL l,hoO L):=by kernel_rfl):AWP Tryz.prog n c st (Qf Tryz.prog n fs Q):=yF6 X zt hC WA ex l L e h
theorem yD (X:XH Tryz.prog) (hC:zB Tryz.prog ctr) (i:Nat) (L:List Nat) {k:Nat} {xs0:List A} {ls:List (Value × A)} {pv:Value} (hd:z1m Tryz.prog k xs0 ls pv) (xs:List A) (hx:z0s xs xs0) (Lh:List HO) (hQ:∀ st',Q (.panic (Za pv)) st') (e:zoO X y9 ctr n c i L st (hoH Lh)=some ([.fn k []],xs,ls,hoO Lh):=by kernel_rfl):AWP Tryz.prog n c st (Qf Tryz.prog n fs Q):=yD6 X zt hC i L hd xs hx Lh e hQ
theorem yP (X:XH Tryz.prog) (hC:zB Tryz.prog ctr) (i:Nat) {T:Nat} {v:Value} (Lh:List HO) (hQ:∀ st',Q (.panic (Za (.iface T v))) st') (e:zot X y9 ctr n c i st (hoH Lh)=some (.atom (.iface T v),hoO Lh):=by kernel_rfl):AWP Tryz.prog n c st (Qf Tryz.prog n fs Q):=yP6 X zt hC i Lh e hQ
theorem yO {k:Nat} {fn:Func}  {ls:List A} (keep:Bool) (rs:List (Nat × Option Nat)) (body:Code) (nt:Nat) (hf:Tryz.prog.funcs[k]?=some fn) (h:∀ E:St → Prop,(∀ st x R U,zbK y9 keep rs st=some (x,R,U) → LeV x r → E st) → AWP Tryz.prog ⟨nt,[]⟩ body (ofL (z9P 0 ls)) (Qf Tryz.prog ⟨nt,[]⟩ [] (zaW E))) (hb:fn.body=some body:=by kernel_rfl) (hn:nt=fn.ntmps:=by exact rfl) (hr:fn.results=(rs.map z7n).toArray:=by exact rfl) (hnm:(fn.name == "runtime.NumGoroutine")=false:=by exact rfl) (ha:Nat.ble ls.length nt=true:=by kernel_rfl):Y5 Tryz.prog k ls r:=yO6 zt keep rs body nt hf hb hn hr hnm ha h
end
theorem zhT:znU Tryz.prog 22 9:=zhA (e:=5) Tryz.underlying22 Tryz.underlying5 Tryz.underlying9
theorem zca:zdy Tryz.prog 218 9 4 z6B (.atom (.bool false)):=zfl Tryz.underlying218 Tryz.underlying9 ⟨.bool false,fun w=>z9k (f:=Tryz.t4) (by kernel_rfl) rfl w,fun S=>yW.2 ⟨rfl,rfl⟩⟩ rfl
theorem z7U:zdy Tryz.prog 254 259 3 (z49 [.i64,.i64,.i64,.i64,.i64,.i64,.i64,.i64,.i64,.i64,.i64,.i64,.i64,.i64,.i64,.i64,.i64,.i64,.i64,.i64,.i64,.i64,.i64,.i64,.i64,.i64,.i64,.i64,.i64,.i64,.i64,.i64,.i64]) (.atom (.int .i64 0)):=zfm Tryz.underlying254 _ Tryz.underlying259 (Go.Ex.zcK.eqn rfl) (z9l.eqn rfl) rfl ⟨.int .i64 0,fun w=>z9k (f:=Tryz.t3) (by kernel_rfl) rfl w,fun S=>yW.2 ⟨rfl,rfl⟩⟩ rfl
theorem zkc:ziV Tryz.prog 136 1 false:=zeE zt (t:=51) Tryz.so136 rfl rfl (by kernel_rfl) (by decide)
def vh:Code:=(Tryz.f29.body).getD .skip
def Q1:zO:=spF (α:=yf) (ρ:=z6) 29 (fun x=>[z8q x]) (fun r=>zQ r) (fun x=>XV x) [] (UM)
abbrev z3c (x_:yf) (ka:List (List z8)):List (Nat × T):=[(2,.own (.box (.agg [I 0,I 0,eOs 1 true yQ []]))),(4,.own (.box (.agg [I (w64 (1 + (w64 (Int.tmod x_.Inputs 3)))),I (w64 (1 + (w64 (Int.tmod x_.Outputs 3)))),eOs 1 false V2 ka])))]
abbrev z3b (x_:yf) (s_:Int) (jz:List (List z8)):List (Nat × T):=[(1,.own (.box (z8q x_))),(2,.own (.box (.agg [I 0,I 0,eOs 1 true yQ []]))),(3,.d (I (w64 (1 + (w64 (Int.tmod x_.States 6)))))),(4,.own (.box (.agg [I (w64 (1 + (w64 (Int.tmod x_.Inputs 3)))),I (w64 (1 + (w64 (Int.tmod x_.Outputs 3)))),eOs 1 false V2 jz]))),(5,.d (I s_))]
abbrev z3a (x_:yf) (br:List (List z8)) (s_:Int) (row:List z8):List (Nat × T):=[(1,.own (.box (z8q x_))),(2,.own (.box (.agg [I 0,I 0,eOs 1 true yQ []]))),(3,.d (I (w64 (1 + (w64 (Int.tmod x_.States 6)))))),(4,.own (.box (.agg [I (w64 (1 + (w64 (Int.tmod x_.Inputs 3)))),I (w64 (1 + (w64 (Int.tmod x_.Outputs 3)))),eOs 1 false V2 br]))),(5,.d (I s_)),(6,.own (eOs 2 false u3 row))]
abbrev z38 (x_:yf) (br:List (List z8)) (s_:Int) (i_:Int) (ln:List z8):List (Nat × T):=[(1,.own (.box (z8q x_))),(2,.own (.box (.agg [I 0,I 0,eOs 1 true yQ []]))),(3,.d (I (w64 (1 + (w64 (Int.tmod x_.States 6)))))),(4,.own (.box (.agg [I (w64 (1 + (w64 (Int.tmod x_.Inputs 3)))),I (w64 (1 + (w64 (Int.tmod x_.Outputs 3)))),eOs 1 false V2 br]))),(5,.d (I s_)),(6,.own (eOs 2 false u3 ln)),(7,.d (I i_))]
abbrev z37 (x_:yf) (br:List (List z8)) (s_:Int) (d0:List z8) (i_:Int) (v_:Int):List (Nat × T):=[(1,.own (.box (z8q x_))),(2,.own (.box (.agg [I 0,I 0,eOs 1 true yQ []]))),(3,.d (I (w64 (1 + (w64 (Int.tmod x_.States 6)))))),(4,.own (.box (.agg [I (w64 (1 + (w64 (Int.tmod x_.Inputs 3)))),I (w64 (1 + (w64 (Int.tmod x_.Outputs 3)))),eOs 1 false V2 br]))),(5,.d (I s_)),(6,.own (eOs 2 false u3 d0)),(7,.d (I i_)),(8,.d (I v_))]
abbrev z35 (x_:yf) (br:List (List z8)) (s_:Int) (d0:List z8) (i_:Int):List (Nat × T):=[(1,.own (.box (z8q x_))),(2,.own (.box (.agg [I 0,I 0,eOs 1 true yQ []]))),(3,.d (I (w64 (1 + (w64 (Int.tmod x_.States 6)))))),(4,.own (.box (.agg [I (w64 (1 + (w64 (Int.tmod x_.Inputs 3)))),I (w64 (1 + (w64 (Int.tmod x_.Outputs 3)))),eOs 1 false V2 br]))),(5,.d (I s_)),(6,.own (eOs 2 false u3 d0)),(7,.d (I i_))]
abbrev z36 (x_:yf) (br:List (List z8)) (s_:Int):List (Nat × T):=[(1,.own (.box (z8q x_))),(2,.own (.box (.agg [I 0,I 0,eOs 1 true yQ []]))),(3,.d (I (w64 (1 + (w64 (Int.tmod x_.States 6)))))),(4,.own (.box (.agg [I (w64 (1 + (w64 (Int.tmod x_.Inputs 3)))),I (w64 (1 + (w64 (Int.tmod x_.Outputs 3)))),eOs 1 false V2 br]))),(5,.d (I s_))]
variable {ctr:Ctr}
theorem z7i (hC:zB Tryz.prog ctr):Q1.Ok Tryz.prog:=by
 refine zD ?_
 rintro x_ r0 aa
 try unfold XV at aa
 refine yO false [(2,some 30)] vh 87 Tryz.func29 fun E hE=>?_
 obtain ⟨g0,aa⟩:=gdE aa
 obtain ⟨g1,aa⟩:=gdE aa
 obtain ⟨g2,aa⟩:=gdE aa
 refine yJ X0 hC vh [1,1,1] [] [2,4] (fun z:List (List z8)=>XJ x_ z=some r0) (fun z=>z3c x_ z) [(1,.own (.box (z8q x_))),(2,.own (.box (.agg [I 0,I 0,eOs 1 true yQ []]))),(3,.d (I (w64 (1 + (w64 (Int.tmod x_.States 6)))))),(4,.own (.box (.agg [I (w64 (1 + (w64 (Int.tmod x_.Inputs 3)))),I (w64 (1 + (w64 (Int.tmod x_.Outputs 3)))),eOs 1 true yQ []])))] [Hn g0,Hn g1,Hn g2,Hh (.cut 3)] ?_ fun J1 az=>?_
 ·rintro ka aa
  unfold XJ at aa
  obtain rfl:=zb aa
  exact yE X0 hC hE [Hm (shM V2 yQ ka)]
 ·obtain ⟨t2,ht2,aa⟩:=zf aa
  refine yLx X0 hC vh [1,1,1,2,1,0] [J1] (fun s=>XF x_ s.1 s.2) (fun x=>z36 x_ x.1 x.2) (([]:List (List z8)),0) ht2 [(1,.own (.box (z8q x_))),(2,.own (.box (.agg [I 0,I 0,eOs 1 true yQ []]))),(3,.d (I (w64 (1 + (w64 (Int.tmod x_.States 6)))))),(4,.own (.box (.agg [I (w64 (1 + (w64 (Int.tmod x_.Inputs 3)))),I (w64 (1 + (w64 (Int.tmod x_.Outputs 3)))),eOs 1 true V2 []]))),(5,.d (I 0))] inferInstance [] ?_
  rintro ⟨br,s_⟩ m2 a8 ae hl1 J2 a6
  try unfold XF at ae
  rcases zL ae with ⟨c0,ae⟩ | ⟨c0,ae⟩
  ·refine yJ X0 hC vh [1,1,1,2,1,0,0,1] [J1,J2] [1,2,3,4,5] (fun z:List (List z8)=>XI s_ z=some a8) (fun z=>z3b x_ s_ z) [(1,.own (.box (z8q x_))),(2,.own (.box (.agg [I 0,I 0,eOs 1 true yQ []]))),(3,.d (I (w64 (1 + (w64 (Int.tmod x_.States 6)))))),(4,.own (.box (.agg [I (w64 (1 + (w64 (Int.tmod x_.Inputs 3)))),I (w64 (1 + (w64 (Int.tmod x_.Outputs 3)))),eOs 1 false V2 br]))),(5,.d (I s_))] [Hq c0,Hh (.cut 0)] ?_ fun J3 bz=>?_
   ·rintro jz ae
    unfold XI at ae
    obtain rfl:=zb ae
    exact yB X0 hC a6 (jz,w64 (s_ + 1)) hl1 []
   ·refine yJ X0 hC vh [1,1,1,2,1,0,0,1,2,0,1] [J1,J2,J3] [1,2,3,4,5,6] (fun z:List z8=>XG br s_ z=some a8) (fun z=>z3a x_ br s_ z) [(1,.own (.box (z8q x_))),(2,.own (.box (.agg [I 0,I 0,eOs 1 true yQ []]))),(3,.d (I (w64 (1 + (w64 (Int.tmod x_.States 6)))))),(4,.own (.box (.agg [I (w64 (1 + (w64 (Int.tmod x_.Inputs 3)))),I (w64 (1 + (w64 (Int.tmod x_.Outputs 3)))),eOs 1 false V2 br]))),(5,.d (I s_)),(6,.own (eOs 2 true u3 []))] [Hh (.cut 1)] ?_ fun J4 ep=>?_
    ·rintro row ae
     unfold XG at ae
     obtain ⟨g3,ae⟩:=gdE ae
     exact yB X0 hC bz (br ++ ([row]:List (List z8))) ae [Hq (oC V2 row []),Hn (aL V2 V2 g3),Hl (aM V2 br ([row]:List (List z8)))]
    ·obtain ⟨t5,ht5,ae⟩:=zf ae
     refine yLx X0 hC vh [1,1,1,2,1,0,0,1,2,0,1,2,1,0] [J1,J2,J3,J4] (fun s=>ZJ x_ s_ s.1 s.2) (fun x=>z35 x_ br s_ x.1 x.2) (([]:List z8),0) ht5 [(1,.own (.box (z8q x_))),(2,.own (.box (.agg [I 0,I 0,eOs 1 true yQ []]))),(3,.d (I (w64 (1 + (w64 (Int.tmod x_.States 6)))))),(4,.own (.box (.agg [I (w64 (1 + (w64 (Int.tmod x_.Inputs 3)))),I (w64 (1 + (w64 (Int.tmod x_.Outputs 3)))),eOs 1 false V2 br]))),(5,.d (I s_)),(6,.own (eOs 2 true u3 [])),(7,.d (I 0))] inferInstance [] ?_
     rintro ⟨d0,i_⟩ m5 ez ai hl2 J5 fc
     try unfold ZJ at ai
     rcases zL ai with ⟨c1,ai⟩ | ⟨c1,ai⟩
     ·refine yJ X0 hC vh [1,1,1,2,1,0,0,1,2,0,1,2,1,0,0,1] [J1,J2,J3,J4,J5] [1,2,3,4,5,6,7] (fun z:List z8=>ZK i_ z=some ez) (fun z=>z38 x_ br s_ i_ z) [(1,.own (.box (z8q x_))),(2,.own (.box (.agg [I 0,I 0,eOs 1 true yQ []]))),(3,.d (I (w64 (1 + (w64 (Int.tmod x_.States 6)))))),(4,.own (.box (.agg [I (w64 (1 + (w64 (Int.tmod x_.Inputs 3)))),I (w64 (1 + (w64 (Int.tmod x_.Outputs 3)))),eOs 1 false V2 br]))),(5,.d (I s_)),(6,.own (eOs 2 false u3 d0)),(7,.d (I i_))] [Hq c1,Hh (.cut 0)] ?_ fun J6 gz=>?_
      ·rintro ln ai
       unfold ZK at ai
       obtain rfl:=zb ai
       exact yB X0 hC fc (ln,w64 (i_ + 1)) hl2 []
      ·refine yJ X0 hC vh [1,1,1,2,1,0,0,1,2,0,1,2,1,0,0,1,2,0,1] [J1,J2,J3,J4,J5,J6] [1,2,3,4,5,6,7,8] (fun z:Int=>un x_ d0 i_ z=some ez) (fun z=>z37 x_ br s_ d0 i_ z) [(1,.own (.box (z8q x_))),(2,.own (.box (.agg [I 0,I 0,eOs 1 true yQ []]))),(3,.d (I (w64 (1 + (w64 (Int.tmod x_.States 6)))))),(4,.own (.box (.agg [I (w64 (1 + (w64 (Int.tmod x_.Inputs 3)))),I (w64 (1 + (w64 (Int.tmod x_.Outputs 3)))),eOs 1 false V2 br]))),(5,.d (I s_)),(6,.own (eOs 2 false u3 d0)),(7,.d (I i_)),(8,.d (I 0))] [Hh (.cut 1)] ?_ fun J7 kr=>?_
       ·rintro v_ ai
        unfold un at ai
        rcases zL ai with ⟨c2,ai⟩ | ⟨c2,ai⟩
        ·obtain ⟨g4,ai⟩:=gdE ai
         let Z0:List HO:=[Hq c2,Hq c2,Hn g4,Hq c2,Hq c2]
         rcases zL ai with ⟨c3,ai⟩ | ⟨c3,ai⟩
         ·obtain ⟨g5,ai⟩:=gdE ai
          exact yB X0 hC gz (d0 ++ ([(z8.mk (-1) (-1))]:List z8)) ai (Z0 ++ [Hq c3,Hq (dM u3 ([(z8.mk (-1) (-1))]:List z8)),Hn (dM u3 ([(z8.mk (-1) (-1))]:List z8)),Hn (aL u3 u3 g5),Hl (aM u3 d0 ([(z8.mk (-1) (-1))]:List z8))])
         ·obtain ⟨g6,ai⟩:=gdE ai
          obtain ⟨g7,ai⟩:=gdE ai
          obtain ⟨g8,ai⟩:=gdE ai
          obtain ⟨g9,ai⟩:=gdE ai
          obtain ⟨g10,ai⟩:=gdE ai
          obtain ⟨g11,ai⟩:=gdE ai
          exact yB X0 hC gz (d0 ++ ([(z8.mk (Int.tmod (w64 (Int.tdiv v_ 4)) (w64 (1 + (w64 (Int.tmod x_.States 6))))) (Int.tmod (w64 (Int.tdiv (w64 (Int.tdiv v_ 4)) (w64 (1 + (w64 (Int.tmod x_.States 6)))))) (w64 (1 + (w64 (Int.tmod x_.Outputs 3))))))]:List z8)) ai (Z0 ++ [Hq c3,Hn g6,Hn g7,Hn g8,Hn g9,Hn g10,Hq (dM u3 ([(z8.mk (Int.tmod (w64 (Int.tdiv v_ 4)) (w64 (1 + (w64 (Int.tmod x_.States 6))))) (Int.tmod (w64 (Int.tdiv (w64 (Int.tdiv v_ 4)) (w64 (1 + (w64 (Int.tmod x_.States 6)))))) (w64 (1 + (w64 (Int.tmod x_.Outputs 3))))))]:List z8)),Hn (dM u3 ([(z8.mk (Int.tmod (w64 (Int.tdiv v_ 4)) (w64 (1 + (w64 (Int.tmod x_.States 6))))) (Int.tmod (w64 (Int.tdiv (w64 (Int.tdiv v_ 4)) (w64 (1 + (w64 (Int.tmod x_.States 6)))))) (w64 (1 + (w64 (Int.tmod x_.Outputs 3))))))]:List z8)),Hn (aL u3 u3 g11),Hl (aM u3 d0 ([(z8.mk (Int.tmod (w64 (Int.tdiv v_ 4)) (w64 (1 + (w64 (Int.tmod x_.States 6))))) (Int.tmod (w64 (Int.tdiv (w64 (Int.tdiv v_ 4)) (w64 (1 + (w64 (Int.tmod x_.States 6)))))) (w64 (1 + (w64 (Int.tmod x_.Outputs 3))))))]:List z8))])
        ·obtain ⟨g12,ai⟩:=gdE ai
         obtain ⟨g13,ai⟩:=gdE ai
         obtain ⟨g14,ai⟩:=gdE ai
         obtain ⟨g15,ai⟩:=gdE ai
         obtain ⟨g16,ai⟩:=gdE ai
         obtain ⟨g17,ai⟩:=gdE ai
         exact yB X0 hC gz (d0 ++ ([(z8.mk (Int.tmod (w64 (Int.tdiv v_ 4)) (w64 (1 + (w64 (Int.tmod x_.States 6))))) (Int.tmod (w64 (Int.tdiv (w64 (Int.tdiv v_ 4)) (w64 (1 + (w64 (Int.tmod x_.States 6)))))) (w64 (1 + (w64 (Int.tmod x_.Outputs 3))))))]:List z8)) ai (rpN 4 (Hq c2) [qF,Hn g12,Hn g13,Hn g14,Hn g15,Hn g16,Hq (dM u3 ([(z8.mk (Int.tmod (w64 (Int.tdiv v_ 4)) (w64 (1 + (w64 (Int.tmod x_.States 6))))) (Int.tmod (w64 (Int.tdiv (w64 (Int.tdiv v_ 4)) (w64 (1 + (w64 (Int.tmod x_.States 6)))))) (w64 (1 + (w64 (Int.tmod x_.Outputs 3))))))]:List z8)),Hn (dM u3 ([(z8.mk (Int.tmod (w64 (Int.tdiv v_ 4)) (w64 (1 + (w64 (Int.tmod x_.States 6))))) (Int.tmod (w64 (Int.tdiv (w64 (Int.tdiv v_ 4)) (w64 (1 + (w64 (Int.tmod x_.States 6)))))) (w64 (1 + (w64 (Int.tmod x_.Outputs 3))))))]:List z8)),Hn (aL u3 u3 g17),Hl (aM u3 d0 ([(z8.mk (Int.tmod (w64 (Int.tdiv v_ 4)) (w64 (1 + (w64 (Int.tmod x_.States 6))))) (Int.tmod (w64 (Int.tdiv (w64 (Int.tdiv v_ 4)) (w64 (1 + (w64 (Int.tmod x_.States 6)))))) (w64 (1 + (w64 (Int.tmod x_.Outputs 3))))))]:List z8))])
       ·let Z1:List HO:=[Ha (lnM (eI .u16) x_.Edges)]
        rcases zL ai with ⟨c4,ai⟩ | ⟨c4,ai⟩
        ·obtain ⟨lp,h0,ai⟩:=zf ai
         exact yB X0 hC kr (w64 (lp)) ai (Z1 ++ [Hq c4,Hi (eI .u16) h0])
        ·exact yB X0 hC kr 0 ai (Z1 ++ [Hq c4])
     ·obtain rfl:=zb ai
      obtain rfl:=hl2
      exact yB X0 hC ep d0 ae [Hq c1]
  ·obtain rfl:=zb ae
   obtain rfl:=hl1
   exact yB X0 hC az br aa [Hq c0]
def vg:Code:=(Tryz.f19.body).getD .skip
def UZ:zO:=spF (α:=yG × z6) (ρ:=z6) 19 (fun x=>[za5 x.1,zQ x.2]) (fun r=>zQ r) (fun x=>Ut x.1 x.2) [] (QM)
abbrev z32 (m_:z6) (i7:List (List z8)):List (Nat × T):=[(4,.own (.box (.agg [I 0,I 0,eOs 1 true yQ []]))),(5,.own (.box (.agg [I m_.Inputs,I m_.Outputs,eOs 1 false V2 i7])))]
abbrev z31 (x_:yG) (m_:z6) (bc:List (List z8)) (i_:Int) (bt:zaU Int) (ku:Int) (j6:Int):List (Nat × T):=[(2,.own (.box (za5 x_))),(3,.own (.box (zQ m_))),(4,.own (.box (.agg [I 0,I 0,eOs 1 true yQ []]))),(5,.own (.box (.agg [I m_.Inputs,I m_.Outputs,eOs 1 false V2 bc]))),(8,.d (I i_)),(9,.own (.box ((Kv (eI .u8)) bt))),(10,.own (.box (.agg [I ku,I j6]))),(73,.d (I i_)),(74,.d (B (decide (i_ < 40))))]
abbrev z30 (x_:yG) (m_:z6) (bc:List (List z8)) (i_:Int):List (Nat × T):=[(2,.own (.box (za5 x_))),(3,.own (.box (zQ m_))),(4,.own (.box (.agg [I 0,I 0,eOs 1 true yQ []]))),(5,.own (.box (.agg [I m_.Inputs,I m_.Outputs,eOs 1 false V2 bc]))),(8,.d (I i_))]
abbrev z33 (x_:yG) (m_:z6) (ii:List (List z8)):List (Nat × T):=[(2,.own (.box (za5 x_))),(3,.own (.box (zQ m_))),(4,.own (.box (.agg [I 0,I 0,eOs 1 true yQ []]))),(5,.own (.box (.agg [I m_.Inputs,I m_.Outputs,eOs 1 false V2 ii])))]
abbrev z2Z (x_:yG) (m_:z6) (d8:List (List z8)) (dx:Int):List (Nat × T):=[(2,.own (.box (za5 x_))),(3,.own (.box (zQ m_))),(4,.own (.box (.agg [I 0,I 0,eOs 1 true yQ []]))),(5,.own (.box (.agg [I m_.Inputs,I m_.Outputs,eOs 1 false V2 d8]))),(7,.d (I dx))]
abbrev z34 (x_:yG) (m_:z6) (iw:List (List z8)):List (Nat × T):=[(2,.own (.box (za5 x_))),(3,.own (.box (zQ m_))),(4,.own (.box (.agg [I 0,I 0,eOs 1 true yQ []]))),(5,.own (.box (.agg [I m_.Inputs,I m_.Outputs,eOs 1 false V2 iw])))]
abbrev z2Y (x_:yG) (m_:z6) (fj:List (List z8)) (s_:Int):List (Nat × T):=[(2,.own (.box (za5 x_))),(3,.own (.box (zQ m_))),(4,.own (.box (.agg [I 0,I 0,eOs 1 true yQ []]))),(5,.own (.box (.agg [I m_.Inputs,I m_.Outputs,eOs 1 false V2 fj]))),(6,.d (I s_))]
theorem z7g (hC:zB Tryz.prog ctr):UZ.Ok Tryz.prog:=by
 refine zD ?_
 rintro ⟨x_,m_⟩ r0 aa
 try unfold Ut at aa
 refine yO false [(4,some 30)] vg 124 Tryz.func19 fun E hE=>?_
 refine yJ X0 hC vg [1,1] [] [2,3,4,5] (fun z:List (List z8)=>XE x_ m_ z=some r0) (fun z=>z34 x_ m_ z) [(2,.own (.box (za5 x_))),(3,.own (.box (zQ m_))),(4,.own (.box (.agg [I 0,I 0,eOs 1 true yQ []]))),(5,.own (.box (.agg [I m_.Inputs,I m_.Outputs,eOs 1 true yQ []])))] [Hh (.cut 2)] ?_ fun J1 az=>?_
 ·rintro iw aa
  unfold XE at aa
  refine yJ X0 hC vg [1,1,1] [] [2,3,4,5] (fun z:List (List z8)=>XD x_ m_ z=some r0) (fun z=>z33 x_ m_ z) [(2,.own (.box (za5 x_))),(3,.own (.box (zQ m_))),(4,.own (.box (.agg [I 0,I 0,eOs 1 true yQ []]))),(5,.own (.box (.agg [I m_.Inputs,I m_.Outputs,eOs 1 false V2 iw])))] [Hh (.cut 0)] ?_ fun J2 a6=>?_
  ·rintro ii aa
   unfold XD at aa
   refine yJ X0 hC vg [1,1,1,1] [] [4,5] (fun z:List (List z8)=>XC m_ z=some r0) (fun z=>z32 m_ z) [(2,.own (.box (za5 x_))),(3,.own (.box (zQ m_))),(4,.own (.box (.agg [I 0,I 0,eOs 1 true yQ []]))),(5,.own (.box (.agg [I m_.Inputs,I m_.Outputs,eOs 1 false V2 ii])))] [Hh (.cut 0)] ?_ fun J3 bz=>?_
   ·rintro i7 aa
    unfold XC at aa
    obtain rfl:=zb aa
    exact yE X0 hC hE [Hm (shM V2 yQ i7)]
   ·obtain ⟨t4,ht4,aa⟩:=zf aa
    refine yL X0 hC vg [1,1,1,1,2,1,0] [J3] (fun s=>jA x_ m_ s.1 s.2) (fun x=>z30 x_ m_ x.1 x.2) (ii,0) ht4  [] ?_
    rintro ⟨bc,i_⟩ m4 a8 ae hl1 J4 ep
    try unfold jA at ae
    let Z0:List HO:=[Ha (lnM (Kv (eI .u8)) x_.Changes)]
    rcases zL ae with ⟨c0,ae⟩ | ⟨c0,ae⟩
    ·rcases zL ae with ⟨c1,ae⟩ | ⟨c1,ae⟩
     ·obtain ⟨bt,h0,ae⟩:=zf ae
      obtain ⟨g0,ae⟩:=gdE ae
      obtain ⟨g1,ae⟩:=gdE ae
      refine yJ X0 hC vg [1,1,1,1,2,1,0,0,1,0,0,1,1] [J3,J4] [2,3,4,5,8,9,10,73,74] (fun z:Int × Int=>jB m_ bc i_ bt z.1 z.2=some a8) (fun z=>z31 x_ m_ bc i_ bt z.1 z.2) [(2,.own (.box (za5 x_))),(3,.own (.box (zQ m_))),(4,.own (.box (.agg [I 0,I 0,eOs 1 true yQ []]))),(5,.own (.box (.agg [I m_.Inputs,I m_.Outputs,eOs 1 false V2 bc]))),(8,.d (I i_)),(9,.own (.box ((Kv (eI .u8)) bt))),(10,.own (.box (.agg [I (Int.tmod (w64 (bt.e2)) ((bc.length:Nat):Int)),I (Int.tmod (w64 (bt.e3)) (w64 (m_.Outputs + 1)))]))),(73,.d (I i_)),(74,.d (B (decide (i_ < 40))))] (Z0 ++ [Hq c0,Hq c0,Hq c0,Hq c1,Hi (Kv (eI .u8)) h0,Hn (⟨rfl,by decide⟩:true=true ∧ 2 < 4),Ha (lnM V2 bc),Hn g0,Hn (⟨rfl,by decide⟩:true=true ∧ 3 < 4),Hn g1,Hh (.cut 0)]) ?_ fun J5 fc=>?_
      ·rintro ⟨ku,j6⟩ ae
       unfold jB at ae
       obtain ⟨g2,ae⟩:=gdE ae
       obtain ⟨ig,h1,ae⟩:=zf ae
       obtain ⟨g3,ae⟩:=gdE ae
       obtain ⟨l8,h2,ae⟩:=zf ae
       obtain rfl:=zb ae
       exact yB X0 hC ep ((bc.set (Int.tmod (w64 (bt.e0)) ((bc.length:Nat):Int)).toNat (ig.set (Int.tmod (w64 (bt.e1)) m_.Inputs).toNat (z8.mk ku j6))),w64 (i_ + 1)) hl1 [Hn (⟨rfl,by decide⟩:true=true ∧ 0 < 4),Ha (lnM V2 bc),Hn g2,Hn (iL V2 h1),Hs (iM V2 h1),Hn (⟨rfl,by decide⟩:true=true ∧ 1 < 4),Hn g3,Hs (iM V2 h1),Hn (iL u3 h2),Hs (iM V2 h1),Hs (iM u3 h2),Hs (iM V2 h1),Hs (iM u3 h2),Hl (sM u3 ig (Int.tmod (w64 (bt.e1)) m_.Inputs) (z8.mk ku j6)),Hl (sM V2 bc (Int.tmod (w64 (bt.e0)) ((bc.length:Nat):Int)) (ig.set (Int.tmod (w64 (bt.e1)) m_.Inputs).toNat (z8.mk ku j6)))]
      ·rcases zL ae with ⟨c2,ae⟩ | ⟨c2,ae⟩
       ·exact yB X0 hC fc ((-1),(-1)) ae [Hq c2]
       ·exact yB X0 hC fc (Int.tmod (w64 (bt.e2)) ((bc.length:Nat):Int),Int.tmod (w64 (bt.e3)) (w64 (m_.Outputs + 1))) ae [Hq c2]
     ·obtain rfl:=zb ae
      obtain rfl:=hl1
      exact yB X0 hC bz bc aa (Z0 ++ [Hq c0,Hq c0,Hq c0,Hq c1])
    ·obtain rfl:=zb ae
     obtain rfl:=hl1
     exact yB X0 hC bz bc aa (Z0 ++ [Hq c0,Hq c0,Hq c0,qF])
  ·obtain ⟨t6,l7,aa⟩:=zf aa
   refine yL X0 hC vg [1,1,1,2,1,0] [J2] (fun s=>qZ x_ m_ s.1 s.2) (fun x=>z2Z x_ m_ x.1 x.2) (iw,0) l7  [] ?_
   rintro ⟨d8,dx⟩ m6 a8 ae hl1 J6 gz
   try unfold qZ at ae
   let Z1:List HO:=[Ha (lnM (eI .u8) x_.Copies)]
   rcases zL ae with ⟨c3,ae⟩ | ⟨c3,ae⟩
   ·rcases zL ae with ⟨c4,ae⟩ | ⟨c4,ae⟩
    ·obtain ⟨l9,h3,ae⟩:=zf ae
     obtain ⟨g4,ae⟩:=gdE ae
     obtain ⟨am,h4,ae⟩:=zf ae
     obtain ⟨g5,ae⟩:=gdE ae
     obtain ⟨g6,ae⟩:=gdE ae
     obtain rfl:=zb ae
     exact yB X0 hC gz ((d8 ++ ([am]:List (List z8))),w64 (dx + 1)) hl1 (Z1 ++ [Hq c3,Hq c3,Hq c3,Hq c4,Hi (eI .u8) h3,Ha (lnM yQ m_.Rows),Hn g4,Hi yQ h4,Hn (dM u3 am),Hn (aL u3 u3 g5),Hl (aM0 u3 am),Hq (oC V2 am []),Hn (aL V2 V2 g6),Hl (aM V2 d8 ([am]:List (List z8)))])
    ·obtain rfl:=zb ae
     obtain rfl:=hl1
     exact yB X0 hC a6 d8 aa (Z1 ++ [Hq c3,Hq c3,Hq c3,Hq c4])
   ·obtain rfl:=zb ae
    obtain rfl:=hl1
    exact yB X0 hC a6 d8 aa (Z1 ++ [Hq c3,Hq c3,Hq c3,qF])
 ·obtain ⟨t7,ht7,aa⟩:=zf aa
  refine yLx X0 hC vg [1,1,2,1,0] [J1] (fun s=>qY m_ s.1 s.2) (fun x=>z2Y x_ m_ x.1 x.2) (([]:List (List z8)),0) ht7 [(2,.own (.box (za5 x_))),(3,.own (.box (zQ m_))),(4,.own (.box (.agg [I 0,I 0,eOs 1 true yQ []]))),(5,.own (.box (.agg [I m_.Inputs,I m_.Outputs,eOs 1 true V2 []]))),(6,.d (I 0))] inferInstance [] ?_
  rintro ⟨fj,s_⟩ m7 a8 ae hl1 J7 kr
  try unfold qY at ae
  let Z2:List HO:=[Ha (lnM yQ m_.Rows)]
  rcases zL ae with ⟨c5,ae⟩ | ⟨c5,ae⟩
  ·obtain ⟨gc,h5,ae⟩:=zf ae
   obtain ⟨g7,ae⟩:=gdE ae
   obtain ⟨g8,ae⟩:=gdE ae
   obtain rfl:=zb ae
   exact yB X0 hC kr ((fj ++ ([gc]:List (List z8))),w64 (s_ + 1)) hl1 (Z2 ++ [Hq c5,Hi yQ h5,Hn (dM u3 gc),Hn (aL u3 u3 g7),Hl (aM0 u3 gc),Hq (oC V2 gc []),Hn (aL V2 V2 g8),Hl (aM V2 fj ([gc]:List (List z8)))])
  ·obtain rfl:=zb ae
   obtain rfl:=hl1
   exact yB X0 hC az fj aa (Z2 ++ [Hq c5])
def z0n:Code:=(Tryz.f102.body).getD .skip
def kU:zO:=spF (α:=yN) (ρ:=Int) 102 (fun x=>[z8r x]) (fun r=>(eI .i64) r) (fun x=>wm x) [] (UM)
theorem z0E (hC:zB Tryz.prog ctr):kU.Ok Tryz.prog:=by
 refine zD ?_
 rintro x_ r0 aa
 try unfold wm at aa
 refine yO true [(2,none)] z0n 8 Tryz.func102 fun E hE=>?_
 obtain ⟨g0,aa⟩:=gdE aa
 obtain rfl:=zb aa
 exact yE X0 hC hE [Hn g0]
def uK:Code:=(Tryz.f62.body).getD .skip
def VL:zO:=spF (α:=yN) (ρ:=List (List Int)) 62 (fun x=>[z8r x]) (fun r=>(eOs 1 false F6_) r) (fun x=>WD x) [] (UM)
abbrev z2f (out:List (List Int)):List (Nat × T):=[(3,.own (eOs 1 false F6_ out))]
abbrev z2e (x_:yN) (i_:Int) (a7:List (List Int)):List (Nat × T):=[(1,.own (.box (z8r x_))),(3,.own (eOs 1 false F6_ a7)),(4,.d (I i_)),(13,.d (I i_)),(14,.d (B (decide (i_ < 40))))]
abbrev z2d (x_:yN) (ak:List (List Int)) (i_:Int) (w_:List Int):List (Nat × T):=[(1,.own (.box (z8r x_))),(3,.own (eOs 1 false F6_ ak)),(4,.d (I i_)),(5,.own (eOs 1 false (eI .i64) w_)),(13,.d (I i_)),(14,.d (B (decide (i_ < 40))))]
abbrev z2b (x_:yN) (ak:List (List Int)) (i_:Int) (gw:List Int) (k_:Int):List (Nat × T):=[(1,.own (.box (z8r x_))),(3,.own (eOs 1 false F6_ ak)),(4,.d (I i_)),(5,.own (eOs 1 false (eI .i64) gw)),(6,.d (I k_)),(13,.d (I i_)),(14,.d (B (decide (i_ < 40))))]
abbrev z2c (x_:yN) (ak:List (List Int)) (i_:Int):List (Nat × T):=[(1,.own (.box (z8r x_))),(3,.own (eOs 1 false F6_ ak)),(4,.d (I i_))]
theorem z6f (hC:zB Tryz.prog ctr) (h0R:ctr.Has kU):VL.Ok Tryz.prog:=by
 refine zD ?_
 rintro x_ r0 aa
 try unfold WD at aa
 refine yO true [(2,none)] uK 53 Tryz.func62 fun E hE=>?_
 refine yJ X0 hC uK [1,1] [] [3] (fun z:List (List Int)=>VS z=some r0) (fun z=>z2f z) [(1,.own (.box (z8r x_))),(3,.own (eOs 1 true F7_ []))] [Hh (.cut 2)] ?_ fun J1 az=>?_
 ·rintro out aa
  unfold VS at aa
  obtain rfl:=zb aa
  exact yE X0 hC hE []
 ·obtain ⟨t2,ht2,aa⟩:=zf aa
  refine yLx X0 hC uK [1,1,2,1,0] [J1] (fun s=>jV x_ s.1 s.2) (fun x=>z2c x_ x.1 x.2) (([]:List (List Int)),0) ht2 [(1,.own (.box (z8r x_))),(3,.own (eOs 1 true F6_ [])),(4,.d (I 0))] inferInstance [] ?_
  rintro ⟨ak,i_⟩ m2 a8 ae hl1 J2 a6
  try unfold jV at ae
  let Z0:List HO:=[Ha (lnM F2_ x_.Words)]
  rcases zL ae with ⟨c0,ae⟩ | ⟨c0,ae⟩
  ·rcases zL ae with ⟨c1,ae⟩ | ⟨c1,ae⟩
   ·refine yJ X0 hC uK [1,1,2,1,0,0,1] [J1,J2] [1,3,4,13,14] (fun z:List (List Int)=>YS i_ z=some a8) (fun z=>z2e x_ i_ z) [(1,.own (.box (z8r x_))),(3,.own (eOs 1 false F6_ ak)),(4,.d (I i_)),(13,.d (I i_)),(14,.d (B (decide (i_ < 40))))] (Z0 ++ [Hq c0,Hq c0,Hq c0,Hq c1,Hh (.cut 0)]) ?_ fun J3 bz=>?_
    ·rintro a7 ae
     unfold YS at ae
     obtain rfl:=zb ae
     exact yB X0 hC a6 (a7,w64 (i_ + 1)) hl1 []
    ·refine yJ X0 hC uK [1,1,2,1,0,0,1,2,0,1] [J1,J2,J3] [1,3,4,5,13,14] (fun z:List Int=>YR ak i_ z=some a8) (fun z=>z2d x_ ak i_ z) [(1,.own (.box (z8r x_))),(3,.own (eOs 1 false F6_ ak)),(4,.d (I i_)),(5,.own (eOs 1 true (eI .i64) [])),(13,.d (I i_)),(14,.d (B (decide (i_ < 40))))] [Hh (.cut 1)] ?_ fun J4 ep=>?_
     ·rintro w_ ae
      unfold YR at ae
      obtain ⟨g0,ae⟩:=gdE ae
      exact yB X0 hC bz (ak ++ ([w_]:List (List Int))) ae [Hq (oC F6_ w_ []),Hn (aL F6_ F6_ g0),Hl (aM F6_ ak ([w_]:List (List Int)))]
     ·obtain ⟨t5,ht5,ae⟩:=zf ae
      refine yLx X0 hC uK [1,1,2,1,0,0,1,2,0,1,2,1,0] [J1,J2,J3,J4] (fun s=>uH x_ i_ s.1 s.2) (fun x=>z2b x_ ak i_ x.1 x.2) (([]:List Int),0) ht5 [(1,.own (.box (z8r x_))),(3,.own (eOs 1 false F6_ ak)),(4,.d (I i_)),(5,.own (eOs 1 true (eI .i64) [])),(6,.d (I 0)),(13,.d (I i_)),(14,.d (B (decide (i_ < 40))))] inferInstance [] ?_
      rintro ⟨gw,k_⟩ m5 ez ai hl2 J5 fc
      try unfold uH at ai
      obtain ⟨lq,h0,ai⟩:=zf ai
      let Z1:List HO:=[Hi F2_ h0,Ha (lnM (eI .u8) lq)]
      rcases zL ai with ⟨c2,ai⟩ | ⟨c2,ai⟩
      ·rcases zL ai with ⟨c3,ai⟩ | ⟨c3,ai⟩
       ·obtain ⟨ma,h1,ai⟩:=zf ai
        obtain ⟨ic,h2,ai⟩:=zf ai
        obtain ⟨r_,h3,ai⟩:=zf ai
        obtain ⟨g1,ai⟩:=gdE ai
        obtain ⟨g2,ai⟩:=gdE ai
        obtain rfl:=zb ai
        exact yB X0 hC fc ((gw ++ ([Int.tmod (w64 (ic)) r_]:List Int)),w64 (k_ + 1)) hl2 (Z1 ++ [Hq c2,Hq c2,Hq c2,Hq c3,Hi F2_ h1,Hi (eI .u8) h2,Hc h0R (x:=x_) h3 (loC z8r x_ <| loN),Hn g1,Hq (dM (eI .i64) ([Int.tmod (w64 (ic)) r_]:List Int)),Hn (dM (eI .i64) ([Int.tmod (w64 (ic)) r_]:List Int)),Hn (aL (eI .i64) (eI .i64) g2),Hl (aM (eI .i64) gw ([Int.tmod (w64 (ic)) r_]:List Int))])
       ·obtain rfl:=zb ai
        obtain rfl:=hl2
        exact yB X0 hC ep gw ae (Z1 ++ [Hq c2,Hq c2,Hq c2,Hq c3])
      ·obtain rfl:=zb ai
       obtain rfl:=hl2
       exact yB X0 hC ep gw ae (Z1 ++ [Hq c2,Hq c2,Hq c2,qF])
   ·obtain rfl:=zb ae
    obtain rfl:=hl1
    exact yB X0 hC az ak aa (Z0 ++ [Hq c0,Hq c0,Hq c0,Hq c1])
  ·obtain rfl:=zb ae
   obtain rfl:=hl1
   exact yB X0 hC az ak aa (Z0 ++ [Hq c0,Hq c0,Hq c0,qF])
def Xo:Code:=(Tryz.f60.body).getD .skip
def k7:zO:=spF (α:=List Int × List Int) (ρ:=Int) 60 (fun x=>[F7_ x.1,F7_ x.2]) (fun r=>(eI .i64) r) (fun x=>uj x.1 x.2) [] (QM)
abbrev z0r:List (Nat × T):=[]
abbrev z0q (a_:List Int) (b_:List Int) (i_:Int):List (Nat × T):=[(0,.d (eSl 1 false (eI .i64) a_)),(1,.d (eSl 1 false (eI .i64) b_)),(5,.d (I i_))]
theorem z3t (hC:zB Tryz.prog ctr):k7.Ok Tryz.prog:=by
 refine zD ?_
 rintro ⟨a_,b_⟩ r0 aa
 try unfold uj at aa
 refine yO true [(4,none)] Xo 40 Tryz.func60 fun E hE=>?_
 let Z0:List HO:=[Ha (lnM (eI .i64) a_),Ha (lnM (eI .i64) b_)]
 rcases zL aa with ⟨c0,aa⟩ | ⟨c0,aa⟩
 ·let Z1:List HO:=(Z0 ++ [Hq c0,Ha (lnM (eI .i64) a_),Ha (lnM (eI .i64) b_)])
  rcases zL aa with ⟨c1,aa⟩ | ⟨c1,aa⟩
  ·obtain rfl:=zb aa
   exact yE X0 hC hE (Z1 ++ [Hq c1])
  ·obtain rfl:=zb aa
   exact yE X0 hC hE (Z1 ++ [Hq c1])
 ·refine yJ X0 hC Xo [1,1] [] [] (fun z:Unit=>Xm=some r0) (fun z=>z0r) [(0,.d (eSl 1 false (eI .i64) a_)),(1,.d (eSl 1 false (eI .i64) b_))] (Z0 ++ [Hq c0,Hh (.cut 0)]) ?_ fun J1 az=>?_
  ·rintro ⟨⟩ aa
   unfold Xm at aa
   obtain rfl:=zb aa
   exact yE X0 hC hE []
  ·obtain ⟨t2,ht2,aa⟩:=zf aa
   refine yL X0 hC Xo [1,1,2,1,0] [J1] (fun s=>uv a_ b_ s) (fun x=>z0q a_ b_ x) 0 ht2  [] ?_
   rintro i_ m2 a8 ae hl1 J2 a6
   try unfold uv at ae
   rcases zL ae with ⟨c2,ae⟩ | ⟨c2,ae⟩
   ·obtain ⟨fh,h0,ae⟩:=zf ae
    obtain ⟨dv,h1,ae⟩:=zf ae
    let Z2:List HO:=[Ha (lnM (eI .i64) a_),Hq c2,Hi (eI .i64) h0,Hi (eI .i64) h1]
    rcases zL ae with ⟨c3,ae⟩ | ⟨c3,ae⟩
    ·obtain rfl:=zb ae
     obtain rfl:=hl1
     obtain rfl:=zb aa
     exact yE X0 hC hE (Z2 ++ [Hq c3])
    ·obtain ⟨mw,h2,ae⟩:=zf ae
     obtain ⟨my,h3,ae⟩:=zf ae
     let Z3:List HO:=(Z2 ++ [Hq c3,Hi (eI .i64) h2,Hi (eI .i64) h3])
     rcases zL ae with ⟨c4,ae⟩ | ⟨c4,ae⟩
     ·obtain rfl:=zb ae
      obtain rfl:=hl1
      obtain rfl:=zb aa
      exact yE X0 hC hE (Z3 ++ [Hq c4])
     ·obtain rfl:=zb ae
      exact yB X0 hC a6 (w64 (i_ + 1)) hl1 (Z3 ++ [Hq c4])
   ·obtain rfl:=zb ae
    obtain rfl:=hl1
    exact yB X0 hC az () aa [Ha (lnM (eI .i64) a_),Hq c2]
def Zk:Code:=(Tryz.f63.body).getD .skip
def JF:zO:=spF (α:=List (List Int) × List Int) (ρ:=List (List Int)) 63 (fun x=>[z8s x.1,F7_ x.2]) (fun r=>z8s r) (fun x=>JP x.1 x.2) [true,false] (QM)
abbrev z4Q (w_:List Int) (fg:Int) (de:List (List Int)):List (Nat × T):=[(0,.own (eOs 1 false F7_ de)),(1,.d (eSl 1 false (eI .i64) w_)),(5,.d (I fg))]
abbrev z4P (w_:List Int) (fg:Int) (jg:List (List Int)) (i_:Int):List (Nat × T):=[(0,.own (eOs 1 false F7_ jg)),(1,.d (eSl 1 false (eI .i64) w_)),(5,.d (I fg)),(8,.d (I i_))]
abbrev z4R (l_:List (List Int)) (w_:List Int) (fg:Int):List (Nat × T):=[(0,.own (eOs 1 false F7_ l_)),(1,.d (eSl 1 false (eI .i64) w_)),(5,.d (I fg))]
abbrev z4S (l_:List (List Int)) (w_:List Int) (fg:Int):List (Nat × T):=[(0,.own (eOs 1 false F7_ l_)),(1,.d (eSl 1 false (eI .i64) w_)),(5,.d (I fg))]
abbrev z4O (l_:List (List Int)) (w_:List Int) (ix:Int) (jl:Int):List (Nat × T):=[(0,.own (eOs 1 false F7_ l_)),(1,.d (eSl 1 false (eI .i64) w_)),(5,.d (I ix)),(6,.d (I jl))]
def xz:XH Tryz.prog:=((UN zt (.inr 66) [65]).or ((UN zt (.inl 44) [43]).or X0))
theorem z8A (hC:zB Tryz.prog ctr) (h0k:ctr.Has k7):JF.Ok Tryz.prog:=by
 refine zD ?_
 rintro ⟨l_,w_⟩ r0 aa
 try unfold JP at aa
 refine yO true [(4,none)] Zk 68 Tryz.func63 fun E hE=>?_
 refine yJ xz hC Zk [1,1,1] [] [0,1,5] (fun z:Int=>Vt l_ w_ z=some r0) (fun z=>z4S l_ w_ z) [(0,.own (eOs 1 false F7_ l_)),(1,.d (eSl 1 false (eI .i64) w_)),(5,.d (I 0)),(6,.d (I ((l_.length:Nat):Int)))] [Ha (lnM F7_ l_),Hh (.cut 0)] ?_ fun J1 az=>?_
 ·rintro fg aa
  unfold Vt at aa
  refine yJ xz hC Zk [1,1,1,1] [] [0,1,5] (fun z:Unit=>Zf l_ w_ fg=some r0) (fun z=>z4R l_ w_ fg) [(0,.own (eOs 1 false F7_ l_)),(1,.d (eSl 1 false (eI .i64) w_)),(5,.d (I fg))] [Hh (.cut 0)] ?_ fun J2 a6=>?_
  ·rintro ⟨⟩ aa
   unfold Zf at aa
   obtain ⟨g0,aa⟩:=gdE aa
   refine yJ ((xNb zt 43).or xz) hC Zk [1,1,1,1,1,1] [] [0,1,5] (fun z:List (List Int)=>Vs w_ fg z=some r0) (fun z=>z4Q w_ fg z) [(0,.own (eOs 1 false F7_ (l_ ++ ([[]]:List (List Int))))),(1,.d (eSl 1 false (eI .i64) w_)),(5,.d (I fg))] [Hm (shM F6_ F7_ ([[]])),Hn (dM F7_ ([[]]:List (List Int))),Hn (aL F7_ F7_ g0),Hl (aM F7_ l_ ([[]]:List (List Int))),Hh (.cut 0)] ?_ fun J3 bz=>?_
   ·rintro de aa
    unfold Vs at aa
    obtain ⟨g1,aa⟩:=gdE aa
    obtain ⟨cb,h0,aa⟩:=zf aa
    obtain rfl:=zb aa
    exact yE xz hC hE [Hn (dM (eI .i64) w_),Hn (aL (eI .i64) (eI .i64) g1),Hl (aM0 (eI .i64) w_),Hn (iL F7_ h0),Hm (shM (eI .i64) (eI .i64) w_),Hs (iM F7_ h0),Hs (iM F7_ h0),Hl (sM F7_ de fg w_)]
   ·obtain ⟨t4,ht4,aa⟩:=zf aa
    refine yL xz hC Zk [1,1,1,1,1,1,2,1,0] [J3] (fun s=>YZ fg s.1 s.2) (fun x=>z4P w_ fg x.1 x.2) ((l_ ++ ([[]]:List (List Int))),w64 ((((l_ ++ ([[]]:List (List Int))).length:Nat):Int) - 1)) ht4  [Ha (lnM F7_ (l_ ++ ([[]]:List (List Int))))] ?_
    rintro ⟨jg,i_⟩ m4 a8 ae hl1 J4 ep
    try unfold YZ at ae
    rcases zL ae with ⟨c0,ae⟩ | ⟨c0,ae⟩
    ·obtain ⟨ft,h1,ae⟩:=zf ae
     obtain ⟨ni,h2,ae⟩:=zf ae
     obtain rfl:=zb ae
     exact yB xz hC ep ((jg.set i_.toNat ft),w64 (i_ - 1)) hl1 [Hq c0,Hn (iL F7_ h1),Hs (iM F7_ h1),Hn (iL F7_ h2),Hs (iM F7_ h2),Hs (iM F7_ h2),Hl (sM F7_ jg i_ ft)]
    ·obtain rfl:=zb ae
     obtain rfl:=hl1
     exact yB xz hC bz jg aa [Hq c0]
  ·let Z0:List HO:=[Ha (lnM F7_ l_)]
   rcases zL aa with ⟨c1,aa⟩ | ⟨c1,aa⟩
   ·obtain ⟨lf,h3,aa⟩:=zf aa
    obtain ⟨r_,h4,aa⟩:=zf aa
    let Z1:List HO:=(Z0 ++ [Hq c1,Hq c1,Hq c1,Hn (iL F7_ h3),Hq c1,Hs (iM F7_ h3),Hq c1,Hq c1,Hc h0k (x:=(lf,w_)) h4 (loC F7_ lf <| loC F7_ w_ <| loN),Hq c1,Hq c1])
    rcases zL aa with ⟨c2,aa⟩ | ⟨c2,aa⟩
    ·obtain rfl:=zb aa
     exact yE xz hC hE (Z1 ++ [Hq c2])
    ·exact yB xz hC a6 () aa (Z1 ++ [Hq c2])
   ·exact yB xz hC a6 () aa (Z0 ++ (rpN 8 (Hq c1) [qF]))
 ·obtain ⟨t5,ht5,aa⟩:=zf aa
  refine yL xz hC Zk [1,1,1,2,0] [J1] (fun s=>YX l_ w_ s.1 s.2) (fun x=>z4O l_ w_ x.1 x.2) (0,((l_.length:Nat):Int)) ht5  [] ?_
  rintro ⟨ix,jl⟩ m5 a8 ae hl1 J5 fc
  try unfold YX at ae
  rcases zL ae with ⟨c3,ae⟩ | ⟨c3,ae⟩
  ·obtain ⟨g2,ae⟩:=gdE ae
   obtain ⟨lh,h5,ae⟩:=zf ae
   obtain ⟨ah,h6,ae⟩:=zf ae
   let Z2:List HO:=[Hq c3,Hn g2,Hn (iL F7_ h5),Hs (iM F7_ h5),Hc h0k (x:=(lh,w_)) h6 (loC F7_ lh <| loC F7_ w_ <| loN)]
   rcases zL ae with ⟨c4,ae⟩ | ⟨c4,ae⟩
   ·obtain rfl:=zb ae
    exact yB xz hC fc (w64 ((w64 (Int.tdiv (w64 (ix + jl)) 2)) + 1),jl) hl1 (Z2 ++ [Hq c4])
   ·obtain rfl:=zb ae
    exact yB xz hC fc (ix,w64 (Int.tdiv (w64 (ix + jl)) 2)) hl1 (Z2 ++ [Hq c4])
  ·obtain rfl:=zb ae
   obtain rfl:=hl1
   exact yB xz hC az ix aa [Hq c3]
def Qq:Code:=(Tryz.f31.body).getD .skip
def Xy:zO:=spF (α:=List (List Int)) (ρ:=List (List Int)) 31 (fun x=>[w8 x]) (fun r=>z8s r) (fun x=>XT x) [] (UM)
abbrev z2V (out:List (List Int)):List (Nat × T):=[(3,.own (eOs 1 false F7_ out))]
abbrev z2U (l_:List (List Int)) (ak:List (List Int)) (i_:Int):List (Nat × T):=[(0,.d (eSl 1 false F7_ l_)),(3,.own (eOs 1 false F7_ ak)),(4,.d (I i_))]
theorem z7c (hC:zB Tryz.prog ctr) (h0S:ctr.Has JF):Xy.Ok Tryz.prog:=by
 refine zD ?_
 rintro l_ r0 aa
 try unfold XT at aa
 refine yO true [(2,none)] Qq 18 Tryz.func31 fun E hE=>?_
 refine yJ X0 hC Qq [1,1] [] [3] (fun z:List (List Int)=>Q7 z=some r0) (fun z=>z2V z) [(0,.d (eSl 1 false F7_ l_)),(3,.own (eOs 1 true F7_ []))] [Hh (.cut 2)] ?_ fun J1 az=>?_
 ·rintro out aa
  unfold Q7 at aa
  obtain rfl:=zb aa
  exact yE X0 hC hE []
 ·obtain ⟨t2,ht2,aa⟩:=zf aa
  refine yLx X0 hC Qq [1,1,2,1,0] [J1] (fun s=>vb l_ s.1 s.2) (fun x=>z2U l_ x.1 x.2) (([]:List (List Int)),0) ht2 [(0,.d (eSl 1 false F7_ l_)),(3,.own (eOs 1 true F7_ [])),(4,.d (I 0))] inferInstance [] ?_
  rintro ⟨ak,i_⟩ m2 a8 ae hl1 J2 a6
  try unfold vb at ae
  let Z0:List HO:=[Ha (lnM F7_ l_)]
  rcases zL ae with ⟨c0,ae⟩ | ⟨c0,ae⟩
  ·obtain ⟨cb,h0,ae⟩:=zf ae
   obtain ⟨r_,h1,ae⟩:=zf ae
   obtain rfl:=zb ae
   exact yB X0 hC a6 (r_,w64 (i_ + 1)) hl1 (Z0 ++ [Hq c0,Hi F7_ h0,Hc h0S (x:=(ak,cb)) h1 (loC z8s ak <| loC F7_ cb <| loN)])
  ·obtain rfl:=zb ae
   obtain rfl:=hl1
   exact yB X0 hC az ak aa (Z0 ++ [Hq c0])
def z6V:Code:=(Tryz.f30.body).getD .skip
def Q0:zO:=spF (α:=yN) (ρ:=List (List Int)) 30 (fun x=>[z8r x]) (fun r=>z8s r) (fun x=>Uu x) [] (UM)
theorem z7h (hC:zB Tryz.prog ctr) (h0T:ctr.Has VL) (h0a:ctr.Has Xy):Q0.Ok Tryz.prog:=by
 refine zD ?_
 rintro x_ r0 aa
 try unfold Uu at aa
 refine yO true [(2,none)] z6V 6 Tryz.func30 fun E hE=>?_
 obtain ⟨r_,h0,aa⟩:=zf aa
 obtain ⟨ah,h1,aa⟩:=zf aa
 obtain rfl:=zb aa
 exact yE X0 hC hE [Hc h0T (x:=x_) h0 (loC z8r x_ <| loN),Hg (z1L h0a),Hm (shM F6_ F7_ r_),Hs (z1M h0a (x:=r_) h1 (loC w8 r_ <| loN)),Hm (shM F6_ F7_ r_)]
def z2N:Code:=(Tryz.f124.body).getD .skip
def ut:zO:=spF (α:=Unit) (ρ:=z8) 124 (fun x=>[]) (fun r=>u3 r) (fun x=>ul) [] (fun _ _ _=>rfl)
theorem z3u (hC:zB Tryz.prog ctr):ut.Ok Tryz.prog:=by
 refine zD ?_
 rintro ⟨⟩ r0 aa
 try unfold ul at aa
 refine yO false [(0,some 99)] z2N 2 Tryz.func124 fun E hE=>?_
 obtain rfl:=zb aa
 exact yE X0 hC hE []
def z2O:Code:=(Tryz.f88.body).getD .skip
def Xj:zO:=spF (α:=z6 × z8) (ρ:=Bool) 88 (fun x=>[zQ x.1,u3 x.2]) (fun r=>eB r) (fun x=>ZI x.1 x.2) [] (QM)
theorem z3v (hC:zB Tryz.prog ctr) (h0b:ctr.Has ut):Xj.Ok Tryz.prog:=by
 refine zD ?_
 rintro ⟨m_,x_⟩ r0 aa
 try unfold ZI at aa
 refine yO true [(4,none)] z2O 33 Tryz.func88 fun E hE=>?_
 obtain ⟨r_,h0,aa⟩:=zf aa
 let Z0:List HO:=[Hc h0b (x:=()) h0 (loN)]
 rcases zL aa with ⟨c0,aa⟩ | ⟨c0,aa⟩
 ·obtain rfl:=zb aa
  exact yE X0 hC hE (Z0 ++ (rpN 10 (Hq c0) []))
 ·let Z1:List HO:=(Z0 ++ (rpN 4 (Hq c0) []))
  rcases zL aa with ⟨c1,aa⟩ | ⟨c1,aa⟩
  ·let Z2:List HO:=(Z1 ++ (rpN 5 (Hq c1) [Ha (lnM yQ m_.Rows),Hq c1,Hq c0,Hq c1,Hq c0]))
   rcases zL aa with ⟨c2,aa⟩ | ⟨c2,aa⟩
   ·let Z3:List HO:=(Z2 ++ [Hq c2,Hq c2,Hq c2,Hq c0,Hq c2,Hq c0])
    rcases zL aa with ⟨c3,aa⟩ | ⟨c3,aa⟩
    ·obtain rfl:=zb aa
     exact yE X0 hC hE (Z3 ++ (rpN 5 (Hq c3) [Hq c0,Hq c3,Hq c0]))
    ·obtain rfl:=zb aa
     exact yE X0 hC hE (Z3 ++ (rpN 5 (Hq c3) [Hq c0,Hq c3,Hq c0]))
   ·obtain rfl:=zb aa
    exact yE X0 hC hE (Z2 ++ (Hq c2 :: Hq c2 :: Hq c2 :: Hq c0 :: Hq c2 :: Hq c0 :: (rpN 5 qF [Hq c0,qF,Hq c0])))
  ·obtain rfl:=zb aa
   exact yE X0 hC hE (Z1 ++ (rpN 6 (Hq c1) (Hq c0 :: Hq c1 :: Hq c0 :: qF :: qF :: qF :: Hq c0 :: qF :: Hq c0 :: (rpN 5 qF [Hq c0,qF,Hq c0]))))
def z0m:Code:=(Tryz.f87.body).getD .skip
def kT:zO:=spF (α:=z8 × z6) (ρ:=Bool) 87 (fun x=>[u3 x.1,z1n x.2]) (fun r=>eB r) (fun x=>kC x.1 x.2) [] (QM)
theorem z0D (hC:zB Tryz.prog ctr) (h0U:ctr.Has Xj):kT.Ok Tryz.prog:=by
 refine zD ?_
 rintro ⟨x_,x1⟩ r0 aa
 try unfold kC at aa
 refine yO true [(3,none)] z0m 8 Tryz.func87 fun E hE=>?_
 obtain ⟨r_,h0,aa⟩:=zf aa
 obtain rfl:=zb aa
 exact yE X0 hC hE [Hc h0U (x:=(x1,x_)) h0 (loC zQ x1 <| loC u3 x_ <| loN)]
def yT:Code:=(Tryz.f123.body).getD .skip
def yR:zO:=spF (α:=List z8 × z6) (ρ:=Int) 123 (fun x=>[yQ x.1,(Qk 87 z1n) x.2]) (fun r=>(eI .i64) r) (fun x=>yj x.1 x.2) [] (by
 rintro ⟨a0,a1⟩ ⟨b0,b1⟩ h
 have e0:=vL.inj (f:=yQ) _ _ (List.cons.inj h).1
 replace h:=(List.cons.inj h).2
 have e1:=vL.inj (f:=(Qk 87 z1n)) _ _ (List.cons.inj h).1
 subst e0 e1
 rfl)
abbrev qj:List (Nat × T):=[]
abbrev qh (s_:List z8) (f_:z6) (x8:Int):List (Nat × T):=[(0,.d (eSl 2 false u3 s_)),(1,.d (.fn 87 [.sptr (.agg [I f_.Inputs,I f_.Outputs,eSl 1 false yQ f_.Rows])])),(7,.d (I ((s_.length:Nat):Int))),(8,.d (I x8))]
theorem jR (hC:zB Tryz.prog ctr) (h0V:ctr.Has kT):yR.Ok Tryz.prog:=by
 refine zD ?_
 rintro ⟨s_,f_⟩ r0 aa
 try unfold yj at aa
 refine yO true [(4,none)] yT 19 Tryz.func123 fun E hE=>?_
 refine yJ X0 hC yT [1] [] [] (fun z:Unit=>yS=some r0) (fun z=>qj) [(0,.d (eSl 2 false u3 s_)),(1,.d (.fn 87 [.sptr (.agg [I f_.Inputs,I f_.Outputs,eSl 1 false yQ f_.Rows])]))] [Hh (.cut 1)] ?_ fun J1 az=>?_
 ·rintro ⟨⟩ aa
  unfold yS at aa
  obtain rfl:=zb aa
  exact yE X0 hC hE []
 ·obtain ⟨t2,ht2,aa⟩:=zf aa
  refine yL X0 hC yT [1,2,1,0] [J1] (fun s=>zR s_ f_ s) (fun x=>qh s_ f_ x) 0 ht2  [Ha (lnM u3 s_)] ?_
  rintro x8 m2 a8 ae hl1 J2 a6
  try unfold zR at ae
  rcases zL ae with ⟨c0,ae⟩ | ⟨c0,ae⟩
  ·obtain ⟨da,h0,ae⟩:=zf ae
   obtain ⟨r_,h1,ae⟩:=zf ae
   let Z0:List HO:=[Hq c0,Hi u3 h0,Hc h0V (x:=(da,f_)) h1 (loC u3 da <| loC z1n f_ <| loN)]
   rcases zL ae with ⟨c1,ae⟩ | ⟨c1,ae⟩
   ·obtain rfl:=zb ae
    obtain rfl:=hl1
    obtain rfl:=zb aa
    exact yE X0 hC hE (Z0 ++ [Hq c1])
   ·obtain rfl:=zb ae
    exact yB X0 hC a6 (w64 (x8 + 1)) hl1 (Z0 ++ [Hq c1])
  ·obtain rfl:=zb ae
   obtain rfl:=hl1
   exact yB X0 hC az () aa [Hq c0]
def qg:Code:=(Tryz.f86.body).getD .skip
def ym:zO:=spF (α:=List z8 × z6) (ρ:=Bool) 86 (fun x=>[yQ x.1,(Qk 87 z1n) x.2]) (fun r=>eB r) (fun x=>y4 x.1 x.2) [] (by
 rintro ⟨a0,a1⟩ ⟨b0,b1⟩ h
 have e0:=vL.inj (f:=yQ) _ _ (List.cons.inj h).1
 replace h:=(List.cons.inj h).2
 have e1:=vL.inj (f:=(Qk 87 z1n)) _ _ (List.cons.inj h).1
 subst e0 e1
 rfl)
theorem qm (hC:zB Tryz.prog ctr) (h0W:ctr.Has yR):ym.Ok Tryz.prog:=by
 refine zD ?_
 rintro ⟨s_,f_⟩ r0 aa
 try unfold y4 at aa
 refine yO true [(4,none)] qg 9 Tryz.func86 fun E hE=>?_
 obtain ⟨r_,h0,aa⟩:=zf aa
 obtain rfl:=zb aa
 exact yE X0 hC hE [Hc h0W (x:=(s_,f_)) h0 (loC yQ s_ <| loC (Qk 87 z1n) f_ <| loN)]
def YB:Code:=(Tryz.f53.body).getD .skip
def yk:zO:=spF (α:=z6) (ρ:=Int) 53 (fun x=>[zQ x]) (fun r=>(eI .i64) r) (fun x=>yH x) [] (UM)
abbrev KP:List (Nat × T):=[]
abbrev KO (m_:z6) (ij:Int):List (Nat × T):=[(1,.d (.sptr (zQ m_))),(34,.d (eSl 1 false yQ m_.Rows)),(35,.d (I ((m_.Rows.length:Nat):Int))),(36,.d (I ij))]
theorem z2E (hC:zB Tryz.prog ctr) (h0X:ctr.Has ym):yk.Ok Tryz.prog:=by
 refine zD ?_
 rintro m_ r0 aa
 try unfold yH at aa
 refine yO true [(2,none)] YB 51 Tryz.func53 fun E hE=>?_
 rcases zL aa with ⟨c0,aa⟩ | ⟨c0,aa⟩
 ·obtain rfl:=zb aa
  exact yE X0 hC hE (rpN 4 (Hq c0) (rpN 6 qT []))
 ·let Z0:List HO:=(rpN 4 (Hq c0) [])
  rcases zL aa with ⟨c1,aa⟩ | ⟨c1,aa⟩
  ·obtain rfl:=zb aa
   exact yE X0 hC hE (Z0 ++ (rpN 5 (Hq c1) [qT]))
  ·let Z1:List HO:=(Z0 ++ [Hq c1,Hq c1,Hq c1,Ha (lnM yQ m_.Rows),Hq c1,Hq c1])
   rcases zL aa with ⟨c2,aa⟩ | ⟨c2,aa⟩
   ·obtain rfl:=zb aa
    exact yE X0 hC hE (Z1 ++ [Hq c2])
   ·rcases zL aa with ⟨c3,aa⟩ | ⟨c3,aa⟩
    ·obtain rfl:=zb aa
     exact yE X0 hC hE (Z1 ++ (Hq c2 :: (rpN 4 (Hq c3) (rpN 6 qT []))))
    ·let Z2:List HO:=(Z1 ++ (Hq c2 :: (rpN 4 (Hq c3) [])))
     rcases zL aa with ⟨c4,aa⟩ | ⟨c4,aa⟩
     ·obtain rfl:=zb aa
      exact yE X0 hC hE (Z2 ++ (rpN 5 (Hq c4) [qT]))
     ·let Z3:List HO:=(Z2 ++ [Hq c4,Hq c4,Hq c4,Ha (lnM yQ m_.Rows),Hq c4,Hq c4])
      rcases zL aa with ⟨c5,aa⟩ | ⟨c5,aa⟩
      ·obtain rfl:=zb aa
       exact yE X0 hC hE (Z3 ++ [Hq c5])
      ·refine yJ X0 hC YB [1,1,1] [] [] (fun z:Unit=>Yv=some r0) (fun z=>KP) [(1,.own (.box (zQ m_)))] (Z3 ++ [Hq c5,Hh (.cut 0)]) ?_ fun J1 az=>?_
       ·rintro ⟨⟩ aa
        unfold Yv at aa
        obtain rfl:=zb aa
        exact yE X0 hC hE []
       ·obtain ⟨t2,ht2,aa⟩:=zf aa
        refine yL X0 hC YB [1,1,1,2,1,0] [J1] (fun s=>wD m_ s) (fun x=>KO m_ x) 0 ht2  [Ha (lnM yQ m_.Rows),Hh (.n 1 [1])] ?_
        rintro ij m2 a8 ae hl1 J2 a6
        try unfold wD at ae
        rcases zL ae with ⟨c6,ae⟩ | ⟨c6,ae⟩
        ·obtain ⟨am,h0,ae⟩:=zf ae
         let Z4:List HO:=[Hq c6,Hi yQ h0,Ha (lnM u3 am)]
         rcases zL ae with ⟨c7,ae⟩ | ⟨c7,ae⟩
         ·obtain rfl:=zb ae
          obtain rfl:=hl1
          obtain rfl:=zb aa
          exact yE X0 hC hE (Z4 ++ (rpN 4 (Hq c7) [qT]))
         ·obtain ⟨r_,h1,ae⟩:=zf ae
          let Z5:List HO:=(Z4 ++ [Hq c7,Hq c7,Hq c7,Hc h0X (x:=(am,m_)) h1 (loC yQ am <| loC (Qk 87 z1n) m_ <| loN),Hq c7])
          rcases zL ae with ⟨c8,ae⟩ | ⟨c8,ae⟩
          ·obtain rfl:=zb ae
           obtain rfl:=hl1
           obtain rfl:=zb aa
           exact yE X0 hC hE (Z5 ++ [Hq c8])
          ·obtain rfl:=zb ae
           exact yB X0 hC a6 (w64 (ij + 1)) hl1 (Z5 ++ [Hq c8])
        ·obtain rfl:=zb ae
         obtain rfl:=hl1
         exact yB X0 hC az () aa [Hq c6]
def z2L:Code:=(Tryz.f127.body).getD .skip
def Xi:zO:=spF (α:=Int × Int) (ρ:=Bool) 127 (fun x=>[(eI .i64) x.1,(eSp (eI .i64)) x.2]) (fun r=>eB r) (fun x=>Xt x.1 x.2) [] (QM)
theorem z3q (hC:zB Tryz.prog ctr):Xi.Ok Tryz.prog:=by
 refine zD ?_
 rintro ⟨c_,x1⟩ r0 aa
 try unfold Xt at aa
 refine yO true [(3,none)] z2L 11 Tryz.func127 fun E hE=>?_
 rcases zL aa with ⟨c0,aa⟩ | ⟨c0,aa⟩
 ·obtain rfl:=zb aa
  exact yE X0 hC hE (rpN 4 (Hq c0) [])
 ·obtain rfl:=zb aa
  exact yE X0 hC hE (rpN 4 (Hq c0) [])
def wO:Code:=(Tryz.f156.body).getD .skip
def wI:zO:=spF (α:=List Int × Int) (ρ:=Int) 156 (fun x=>[F7_ x.1,(Qk 127 (eSp (eI .i64))) x.2]) (fun r=>(eI .i64) r) (fun x=>wb x.1 x.2) [] (by
 rintro ⟨a0,a1⟩ ⟨b0,b1⟩ h
 have e0:=vL.inj (f:=F7_) _ _ (List.cons.inj h).1
 replace h:=(List.cons.inj h).2
 have e1:=vL.inj (f:=(Qk 127 (eSp (eI .i64)))) _ _ (List.cons.inj h).1
 subst e0 e1
 rfl)
abbrev X9:List (Nat × T):=[]
abbrev X8 (s_:List Int) (f_:Int) (x8:Int):List (Nat × T):=[(0,.d (eSl 1 false (eI .i64) s_)),(1,.d (.fn 127 [.sptr (I f_)])),(7,.d (I ((s_.length:Nat):Int))),(8,.d (I x8))]
theorem V3 (hC:zB Tryz.prog ctr) (h0Y:ctr.Has Xi):wI.Ok Tryz.prog:=by
 refine zD ?_
 rintro ⟨s_,f_⟩ r0 aa
 try unfold wb at aa
 refine yO true [(4,none)] wO 19 Tryz.func156 fun E hE=>?_
 refine yJ X0 hC wO [1] [] [] (fun z:Unit=>wK=some r0) (fun z=>X9) [(0,.d (eSl 1 false (eI .i64) s_)),(1,.d (.fn 127 [.sptr (I f_)]))] [Hh (.cut 1)] ?_ fun J1 az=>?_
 ·rintro ⟨⟩ aa
  unfold wK at aa
  obtain rfl:=zb aa
  exact yE X0 hC hE []
 ·obtain ⟨t2,ht2,aa⟩:=zf aa
  refine yL X0 hC wO [1,2,1,0] [J1] (fun s=>ye s_ f_ s) (fun x=>X8 s_ f_ x) 0 ht2  [Ha (lnM (eI .i64) s_)] ?_
  rintro x8 m2 a8 ae hl1 J2 a6
  try unfold ye at ae
  rcases zL ae with ⟨c0,ae⟩ | ⟨c0,ae⟩
  ·obtain ⟨da,h0,ae⟩:=zf ae
   obtain ⟨r_,h1,ae⟩:=zf ae
   let Z0:List HO:=[Hq c0,Hi (eI .i64) h0,Hc h0Y (x:=(da,f_)) h1 (loC (eI .i64) da <| loC (eSp (eI .i64)) f_ <| loN)]
   rcases zL ae with ⟨c1,ae⟩ | ⟨c1,ae⟩
   ·obtain rfl:=zb ae
    obtain rfl:=hl1
    obtain rfl:=zb aa
    exact yE X0 hC hE (Z0 ++ [Hq c1])
   ·obtain rfl:=zb ae
    exact yB X0 hC a6 (w64 (x8 + 1)) hl1 (Z0 ++ [Hq c1])
  ·obtain rfl:=zb ae
   obtain rfl:=hl1
   exact yB X0 hC az () aa [Hq c0]
def X6:Code:=(Tryz.f126.body).getD .skip
def xS:zO:=spF (α:=List Int × Int) (ρ:=Bool) 126 (fun x=>[F7_ x.1,(Qk 127 (eSp (eI .i64))) x.2]) (fun r=>eB r) (fun x=>xy x.1 x.2) [] (by
 rintro ⟨a0,a1⟩ ⟨b0,b1⟩ h
 have e0:=vL.inj (f:=F7_) _ _ (List.cons.inj h).1
 replace h:=(List.cons.inj h).2
 have e1:=vL.inj (f:=(Qk 127 (eSp (eI .i64)))) _ _ (List.cons.inj h).1
 subst e0 e1
 rfl)
theorem Xd (hC:zB Tryz.prog ctr) (h0Z:ctr.Has wI):xS.Ok Tryz.prog:=by
 refine zD ?_
 rintro ⟨s_,f_⟩ r0 aa
 try unfold xy at aa
 refine yO true [(4,none)] X6 9 Tryz.func126 fun E hE=>?_
 obtain ⟨r_,h0,aa⟩:=zf aa
 obtain rfl:=zb aa
 exact yE X0 hC hE [Hc h0Z (x:=(s_,f_)) h0 (loC F7_ s_ <| loC (Qk 127 (eSp (eI .i64))) f_ <| loN)]
def z5q:Code:=(Tryz.f93.body).getD .skip
def jS:zO:=spF (α:=List Int × Int) (ρ:=Int) 93 (fun x=>[F7_ x.1,(eI .i64) x.2]) (fun r=>(eI .i64) r) (fun x=>u4 x.1 x.2) [] (QM)
theorem z63 (hC:zB Tryz.prog ctr) (h12:ctr.Has xS):jS.Ok Tryz.prog:=by
 refine zD ?_
 rintro ⟨w_,inputs⟩ r0 aa
 try unfold u4 at aa
 refine yO true [(4,none)] z5q 19 Tryz.func93 fun E hE=>?_
 rcases zL aa with ⟨c0,aa⟩ | ⟨c0,aa⟩
 ·obtain rfl:=zb aa
  exact yE X0 hC hE (rpN 4 (Hq c0) [qT])
 ·let Z0:List HO:=[Hq c0,Hq c0,Ha (lnM (eI .i64) w_),Hq c0,Hq c0]
  rcases zL aa with ⟨c1,aa⟩ | ⟨c1,aa⟩
  ·obtain rfl:=zb aa
   exact yE X0 hC hE (Z0 ++ [Hq c1])
  ·rcases zL aa with ⟨c2,aa⟩ | ⟨c2,aa⟩
   ·obtain rfl:=zb aa
    exact yE X0 hC hE (Z0 ++ (Hq c1 :: (rpN 4 (Hq c2) [qT])))
   ·obtain ⟨r_,h0,aa⟩:=zf aa
    let Z1:List HO:=(Z0 ++ [Hq c1,Hq c2,Hq c2,Hq c2,Hc h12 (x:=(w_,inputs)) h0 (loC F7_ w_ <| loC (Qk 127 (eSp (eI .i64))) inputs <| loN),Hq c2])
    rcases zL aa with ⟨c3,aa⟩ | ⟨c3,aa⟩
    ·obtain rfl:=zb aa
     exact yE X0 hC hE (Z1 ++ [Hq c3])
    ·obtain rfl:=zb aa
     exact yE X0 hC hE (Z1 ++ [Hq c3])
def VU:Code:=(Tryz.f89.body).getD .skip
def YM:zO:=spF (α:=List (List Int) × Int) (ρ:=Int) 89 (fun x=>[w8 x.1,(eI .i64) x.2]) (fun r=>(eI .i64) r) (fun x=>Y7 x.1 x.2) [] (QM)
abbrev z26:List (Nat × T):=[]
abbrev z23 (l_:List (List Int)) (inputs:Int) (d9:Int):List (Nat × T):=[(1,.d (I inputs)),(17,.d (eSl 1 false F7_ l_)),(18,.d (I ((l_.length:Nat):Int))),(19,.d (I d9))]
theorem z67 (hC:zB Tryz.prog ctr) (h0c:ctr.Has jS):YM.Ok Tryz.prog:=by
 refine zD ?_
 rintro ⟨l_,inputs⟩ r0 aa
 try unfold Y7 at aa
 refine yO true [(4,none)] VU 30 Tryz.func89 fun E hE=>?_
 rcases zL aa with ⟨c0,aa⟩ | ⟨c0,aa⟩
 ·obtain rfl:=zb aa
  exact yE X0 hC hE (rpN 4 (Hq c0) [qT])
 ·let Z0:List HO:=[Hq c0,Hq c0,Ha (lnM F7_ l_),Hq c0,Hq c0]
  rcases zL aa with ⟨c1,aa⟩ | ⟨c1,aa⟩
  ·obtain rfl:=zb aa
   exact yE X0 hC hE (Z0 ++ [Hq c1])
  ·rcases zL aa with ⟨c2,aa⟩ | ⟨c2,aa⟩
   ·obtain rfl:=zb aa
    exact yE X0 hC hE (Z0 ++ [Hq c1,Hq c2])
   ·refine yJ X0 hC VU [1,1,1] [] [] (fun z:Unit=>VC=some r0) (fun z=>z26) [(0,.d (eSl 1 false F7_ l_)),(1,.d (I inputs))] (Z0 ++ [Hq c1,Hq c2,Hh (.cut 0)]) ?_ fun J1 az=>?_
    ·rintro ⟨⟩ aa
     unfold VC at aa
     obtain rfl:=zb aa
     exact yE X0 hC hE []
    ·obtain ⟨t2,ht2,aa⟩:=zf aa
     refine yL X0 hC VU [1,1,1,2,1,0] [J1] (fun s=>uD l_ inputs s) (fun x=>z23 l_ inputs x) 0 ht2  [Ha (lnM F7_ l_)] ?_
     rintro d9 m2 a8 ae hl1 J2 a6
     try unfold uD at ae
     rcases zL ae with ⟨c3,ae⟩ | ⟨c3,ae⟩
     ·obtain ⟨cb,h0,ae⟩:=zf ae
      obtain ⟨r_,h1,ae⟩:=zf ae
      let Z1:List HO:=[Hq c3,Hi F7_ h0,Hc h0c (x:=(cb,inputs)) h1 (loC F7_ cb <| loC (eI .i64) inputs <| loN)]
      rcases zL ae with ⟨c4,ae⟩ | ⟨c4,ae⟩
      ·obtain rfl:=zb ae
       obtain rfl:=hl1
       obtain rfl:=zb aa
       exact yE X0 hC hE (Z1 ++ [Hq c4])
      ·obtain rfl:=zb ae
       exact yB X0 hC a6 (w64 (d9 + 1)) hl1 (Z1 ++ [Hq c4])
     ·obtain rfl:=zb ae
      obtain rfl:=hl1
      exact yB X0 hC az () aa [Hq c3]
def z2R:Code:=(Tryz.f171.body).getD .skip
def Xl:zO:=spF (α:=Int) (ρ:=Bool) 171 (fun x=>[(eI .i64) x]) (fun r=>eB r) (fun x=>ZR x) [] (UM)
theorem z3y (hC:zB Tryz.prog ctr):Xl.Ok Tryz.prog:=by
 refine zD ?_
 rintro x_ r0 aa
 try unfold ZR at aa
 refine yO true [(2,none)] z2R 6 Tryz.func171 fun E hE=>?_
 obtain rfl:=zb aa
 exact yE X0 hC hE []
def z10:Code:=(Tryz.f154.body).getD .skip
def uY:zO:=spF (α:=Int × Int) (ρ:=Int) 154 (fun x=>[(eI .i64) x.1,(eI .i64) x.2]) (fun r=>(eI .i64) r) (fun x=>vW x.1 x.2) [] (QM)
theorem z1w (hC:zB Tryz.prog ctr) (h0E:ctr.Has Xl):uY.Ok Tryz.prog:=by
 refine zD ?_
 rintro ⟨x_,y_⟩ r0 aa
 try unfold vW at aa
 refine yO true [(4,none)] z10 20 Tryz.func154 fun E hE=>?_
 obtain ⟨r_,h0,aa⟩:=zf aa
 obtain ⟨ah,h1,aa⟩:=zf aa
 let Z0:List HO:=[Hc h0E (x:=x_) h0 (loC (eI .i64) x_ <| loN),Hc h0E (x:=y_) h1 (loC (eI .i64) y_ <| loN)]
 rcases zL aa with ⟨c0,aa⟩ | ⟨c0,aa⟩
 ·rcases zL aa with ⟨c1,aa⟩ | ⟨c1,aa⟩
  ·obtain rfl:=zb aa
   exact yE X0 hC hE (Z0 ++ [Hq c0,Hq c1])
  ·obtain rfl:=zb aa
   exact yE X0 hC hE (Z0 ++ [Hq c0,Hq c1])
 ·rcases zL aa with ⟨c2,aa⟩ | ⟨c2,aa⟩
  ·obtain rfl:=zb aa
   exact yE X0 hC hE (Z0 ++ [Hq c0,Hq c2])
  ·rcases zL aa with ⟨c3,aa⟩ | ⟨c3,aa⟩
   ·obtain rfl:=zb aa
    exact yE X0 hC hE (Z0 ++ [Hq c0,Hq c2,Hq c3])
   ·rcases zL aa with ⟨c4,aa⟩ | ⟨c4,aa⟩
    ·obtain rfl:=zb aa
     exact yE X0 hC hE (Z0 ++ [Hq c0,Hq c2,Hq c3,Hq c4])
    ·obtain rfl:=zb aa
     exact yE X0 hC hE (Z0 ++ [Hq c0,Hq c2,Hq c3,Hq c4])
def vE:Code:=(Tryz.f155.body).getD .skip
def vp:zO:=spF (α:=List Int × List Int) (ρ:=Int) 155 (fun x=>[F7_ x.1,F7_ x.2]) (fun r=>(eI .i64) r) (fun x=>xJ x.1 x.2) [] (QM)
abbrev XR (s1:List Int) (s2:List Int):List (Nat × T):=[(0,.d (eSl 1 false (eI .i64) s1)),(1,.d (eSl 1 false (eI .i64) s2))]
abbrev XQ (s1:List Int) (s2:List Int) (ew:Int):List (Nat × T):=[(0,.d (eSl 1 false (eI .i64) s1)),(1,.d (eSl 1 false (eI .i64) s2)),(9,.d (eSl 1 false (eI .i64) s1)),(10,.d (I ((s1.length:Nat):Int))),(11,.d (I ew))]
theorem Uk (hC:zB Tryz.prog ctr) (h0o:ctr.Has uY):vp.Ok Tryz.prog:=by
 refine zD ?_
 rintro ⟨s1,s2⟩ r0 aa
 try unfold xJ at aa
 refine yO true [(4,none)] vE 36 Tryz.func155 fun E hE=>?_
 refine yJ X0 hC vE [1] [] [0,1] (fun z:Unit=>xR s1 s2=some r0) (fun z=>XR s1 s2) [(0,.d (eSl 1 false (eI .i64) s1)),(1,.d (eSl 1 false (eI .i64) s2))] [Hh (.cut 1)] ?_ fun J1 az=>?_
 ·rintro ⟨⟩ aa
  unfold xR at aa
  let Z0:List HO:=[Ha (lnM (eI .i64) s1),Ha (lnM (eI .i64) s2)]
  rcases zL aa with ⟨c0,aa⟩ | ⟨c0,aa⟩
  ·obtain rfl:=zb aa
   exact yE X0 hC hE (Z0 ++ [Hq c0])
  ·obtain rfl:=zb aa
   exact yE X0 hC hE (Z0 ++ [Hq c0])
 ·obtain ⟨t2,ht2,aa⟩:=zf aa
  refine yL X0 hC vE [1,2,1,0] [J1] (fun s=>yl s1 s2 s) (fun x=>XQ s1 s2 x) 0 ht2  [Ha (lnM (eI .i64) s1)] ?_
  rintro ew m2 a8 ae hl1 J2 a6
  try unfold yl at ae
  rcases zL ae with ⟨c1,ae⟩ | ⟨c1,ae⟩
  ·obtain ⟨lu,h0,ae⟩:=zf ae
   let Z1:List HO:=[Hq c1,Hi (eI .i64) h0,Ha (lnM (eI .i64) s2)]
   rcases zL ae with ⟨c2,ae⟩ | ⟨c2,ae⟩
   ·obtain rfl:=zb ae
    obtain rfl:=hl1
    obtain rfl:=zb aa
    exact yE X0 hC hE (Z1 ++ [Hq c2])
   ·obtain ⟨kw,h1,ae⟩:=zf ae
    obtain ⟨r_,h2,ae⟩:=zf ae
    let Z2:List HO:=(Z1 ++ [Hq c2,Hi (eI .i64) h1,Hc h0o (x:=(lu,kw)) h2 (loC (eI .i64) lu <| loC (eI .i64) kw <| loN)])
    rcases zL ae with ⟨c3,ae⟩ | ⟨c3,ae⟩
    ·obtain rfl:=zb ae
     obtain rfl:=hl1
     obtain rfl:=zb aa
     exact yE X0 hC hE (Z2 ++ [Hq c3])
    ·obtain rfl:=zb ae
     exact yB X0 hC a6 (w64 (ew + 1)) hl1 (Z2 ++ [Hq c3])
  ·obtain rfl:=zb ae
   obtain rfl:=hl1
   exact yB X0 hC az () aa [Hq c1]
def Qs:Code:=(Tryz.f153.body).getD .skip
def Q3:zO:=spF (α:=List Int) (ρ:=Int) 153 (fun x=>[F7_ x]) (fun r=>(eI .i64) r) (fun x=>UA x) [] (UM)
abbrev z3e:List (Nat × T):=[(3,.d (I 0))]
abbrev z3d (vals:List Int) (x8:Int):List (Nat × T):=[(3,.d (I 0)),(6,.d (eSl 1 false (eI .i64) vals)),(7,.d (I ((vals.length:Nat):Int))),(8,.d (I x8))]
theorem z7k (hC:zB Tryz.prog ctr):Q3.Ok Tryz.prog:=by
 refine zD ?_
 rintro vals r0 aa
 try unfold UA at aa
 refine yO true [(2,none)] Qs 18 Tryz.func153 fun E hE=>?_
 refine yJ X0 hC Qs [1,1] [] [3] (fun z:Unit=>XL=some r0) (fun z=>z3e) [(0,.d (eSl 1 false (eI .i64) vals)),(3,.d (I 0))] [Hh (.cut 2)] ?_ fun J1 az=>?_
 ·rintro ⟨⟩ aa
  unfold XL at aa
  obtain rfl:=zb aa
  exact yE X0 hC hE []
 ·obtain ⟨t2,ht2,aa⟩:=zf aa
  refine yL X0 hC Qs [1,1,2,1,0] [J1] (fun s=>jE vals s) (fun x=>z3d vals x) 0 ht2  [Ha (lnM (eI .i64) vals)] ?_
  rintro x8 m2 a8 ae hl1 J2 a6
  try unfold jE at ae
  rcases zL ae with ⟨c0,ae⟩ | ⟨c0,ae⟩
  ·obtain ⟨mf,h0,ae⟩:=zf ae
   rcases zL ae with ⟨c1,ae⟩ | ⟨c1,ae⟩
   ·obtain rfl:=zb ae
    obtain rfl:=hl1
    obtain rfl:=zb aa
    exact yE X0 hC hE [Hq c0,Hi (eI .i64) h0,Hq c1]
   ·obtain rfl:=zb ae
    exact yB X0 hC a6 (w64 (x8 + 1)) hl1 [Hq c0,Hi (eI .i64) h0,Hq c1]
  ·obtain rfl:=zb ae
   obtain rfl:=hl1
   exact yB X0 hC az () aa [Hq c0]
def z2K:Code:=(Tryz.f125.body).getD .skip
def wY:zO:=spF (α:=List Int × List Int) (ρ:=Int) 125 (fun x=>[F7_ x.1,F7_ x.2]) (fun r=>(eI .i64) r) (fun x=>wq x.1 x.2) [] (QM)
theorem z3p (hC:zB Tryz.prog ctr) (h0o:ctr.Has uY) (h13:ctr.Has vp) (h0F:ctr.Has Q3):wY.Ok Tryz.prog:=by
 refine zD ?_
 rintro ⟨a_,b_⟩ r0 aa
 try unfold wq at aa
 refine yO true [(4,none)] z2K 15 Tryz.func125 fun E hE=>?_
 obtain ⟨r_,h0,aa⟩:=zf aa
 obtain ⟨ah,h1,aa⟩:=zf aa
 obtain ⟨aj,h2,aa⟩:=zf aa
 obtain rfl:=zb aa
 exact yE X0 hC hE [Ha (lnM (eI .i64) a_),Ha (lnM (eI .i64) b_),Hc h0o (x:=(((a_.length:Nat):Int),((b_.length:Nat):Int))) h0 (loC (eI .i64) ((a_.length:Nat):Int) <| loC (eI .i64) ((b_.length:Nat):Int) <| loN),Hc h13 (x:=(a_,b_)) h1 (loC F7_ a_ <| loC F7_ b_ <| loN),Hg (z1L h0F),Hm (shM (eI .i64) (eI .i64) ([r_,ah])),Hs (z1M h0F (x:=[r_,ah]) h2 (loC F3_ ([r_,ah]:List Int) <| loN))]
def VV:Code:=(Tryz.f90.body).getD .skip
def VG:zO:=spF (α:=List (List Int)) (ρ:=Bool) 90 (fun x=>[w8 x]) (fun r=>eB r) (fun x=>W5 x) [] (UM)
abbrev z28:List (Nat × T):=[]
abbrev z27 (l_:List (List Int)) (i_:Int):List (Nat × T):=[(0,.d (eSl 1 false F7_ l_)),(3,.d (I i_))]
theorem z68 (hC:zB Tryz.prog ctr) (h05:ctr.Has wY):VG.Ok Tryz.prog:=by
 refine zD ?_
 rintro l_ r0 aa
 try unfold W5 at aa
 refine yO true [(2,none)] VV 21 Tryz.func90 fun E hE=>?_
 refine yJ X0 hC VV [1] [] [] (fun z:Unit=>YI=some r0) (fun z=>z28) [(0,.d (eSl 1 false F7_ l_))] [Hh (.cut 1)] ?_ fun J1 az=>?_
 ·rintro ⟨⟩ aa
  unfold YI at aa
  obtain rfl:=zb aa
  exact yE X0 hC hE []
 ·obtain ⟨t2,ht2,aa⟩:=zf aa
  refine yL X0 hC VV [1,2,1,0] [J1] (fun s=>uE l_ s) (fun x=>z27 l_ x) 1 ht2  [] ?_
  rintro i_ m2 a8 ae hl1 J2 a6
  try unfold uE at ae
  let Z0:List HO:=[Ha (lnM F7_ l_)]
  rcases zL ae with ⟨c0,ae⟩ | ⟨c0,ae⟩
  ·obtain ⟨cb,h0,ae⟩:=zf ae
   obtain ⟨ft,h1,ae⟩:=zf ae
   obtain ⟨r_,h2,ae⟩:=zf ae
   let Z1:List HO:=(Z0 ++ [Hq c0,Hi F7_ h0,Hi F7_ h1,Hc h05 (x:=(cb,ft)) h2 (loC F7_ cb <| loC F7_ ft <| loN)])
   rcases zL ae with ⟨c1,ae⟩ | ⟨c1,ae⟩
   ·obtain rfl:=zb ae
    obtain rfl:=hl1
    obtain rfl:=zb aa
    exact yE X0 hC hE (Z1 ++ [Hq c1])
   ·obtain rfl:=zb ae
    exact yB X0 hC a6 (w64 (i_ + 1)) hl1 (Z1 ++ [Hq c1])
  ·obtain rfl:=zb ae
   obtain rfl:=hl1
   exact yB X0 hC az () aa (Z0 ++ [Hq c0])
def VT:Code:=(Tryz.f91.body).getD .skip
def YL:zO:=spF (α:=List (List Int)) (ρ:=Int) 91 (fun x=>[w8 x]) (fun r=>(eI .i64) r) (fun x=>Y6 x) [] (UM)
abbrev z21 (n_:Int):List (Nat × T):=[(2,.d (I n_))]
abbrev z20 (l_:List (List Int)) (dj:Int) (x7:Int):List (Nat × T):=[(2,.d (I dj)),(5,.d (eSl 1 false F7_ l_)),(6,.d (I ((l_.length:Nat):Int))),(7,.d (I x7))]
theorem z65 (hC:zB Tryz.prog ctr):YL.Ok Tryz.prog:=by
 refine zD ?_
 rintro l_ r0 aa
 try unfold Y6 at aa
 refine yO true [(2,none)] VT 17 Tryz.func91 fun E hE=>?_
 refine yJ X0 hC VT [1] [] [2] (fun z:Int=>VB z=some r0) (fun z=>z21 z) [(0,.d (eSl 1 false F7_ l_)),(2,.d (I 0))] [Hh (.cut 1)] ?_ fun J1 az=>?_
 ·rintro n_ aa
  unfold VB at aa
  obtain rfl:=zb aa
  exact yE X0 hC hE []
 ·obtain ⟨t2,ht2,aa⟩:=zf aa
  refine yL X0 hC VT [1,2,1,0] [J1] (fun s=>uC l_ s.1 s.2) (fun x=>z20 l_ x.1 x.2) (0,0) ht2  [Ha (lnM F7_ l_)] ?_
  rintro ⟨dj,x7⟩ m2 a8 ae hl1 J2 a6
  try unfold uC at ae
  rcases zL ae with ⟨c0,ae⟩ | ⟨c0,ae⟩
  ·obtain ⟨cb,h0,ae⟩:=zf ae
   obtain rfl:=zb ae
   exact yB X0 hC a6 (w64 (dj + ((cb.length:Nat):Int)),w64 (x7 + 1)) hl1 [Hq c0,Hi F7_ h0,Ha (lnM (eI .i64) cb)]
  ·obtain rfl:=zb ae
   obtain rfl:=hl1
   exact yB X0 hC az dj aa [Hq c0]
def z5t:Code:=(Tryz.f54.body).getD .skip
def jT:zO:=spF (α:=List (List Int) × Int) (ρ:=Int) 54 (fun x=>[w8 x.1,(eI .i64) x.2]) (fun r=>(eI .i64) r) (fun x=>u6 x.1 x.2) [] (QM)
theorem z6b (hC:zB Tryz.prog ctr) (h0p:ctr.Has YM) (h14:ctr.Has VG) (h0l:ctr.Has YL):jT.Ok Tryz.prog:=by
 refine zD ?_
 rintro ⟨l_,inputs⟩ r0 aa
 try unfold u6 at aa
 refine yO true [(4,none)] z5t 18 Tryz.func54 fun E hE=>?_
 obtain ⟨r_,h0,aa⟩:=zf aa
 let Z0:List HO:=[Hc h0p (x:=(l_,inputs)) h0 (loC w8 l_ <| loC (eI .i64) inputs <| loN)]
 rcases zL aa with ⟨c0,aa⟩ | ⟨c0,aa⟩
 ·obtain rfl:=zb aa
  exact yE X0 hC hE (Z0 ++ [Hq c0])
 ·obtain ⟨ah,h1,aa⟩:=zf aa
  let Z1:List HO:=(Z0 ++ [Hq c0,Hc h14 (x:=l_) h1 (loC w8 l_ <| loN)])
  rcases zL aa with ⟨c1,aa⟩ | ⟨c1,aa⟩
  ·obtain rfl:=zb aa
   exact yE X0 hC hE (Z1 ++ [Hq c1])
  ·obtain ⟨aj,h2,aa⟩:=zf aa
   let Z2:List HO:=(Z1 ++ [Hq c1,Hc h0l (x:=l_) h2 (loC w8 l_ <| loN)])
   rcases zL aa with ⟨c2,aa⟩ | ⟨c2,aa⟩
   ·obtain rfl:=zb aa
    exact yE X0 hC hE (Z2 ++ [Hq c2])
   ·obtain rfl:=zb aa
    exact yE X0 hC hE (Z2 ++ [Hq c2])
def z1S:Code:=(Tryz.f92.body).getD .skip
def qQ:zO:=spF (α:=z6 × Int) (ρ:=Int) 92 (fun x=>[zQ x.1,(eI .i64) x.2]) (fun r=>(eI .i64) r) (fun x=>uG x.1 x.2) [] (QM)
theorem z2C (hC:zB Tryz.prog ctr) (h02:ctr.Has yk):qQ.Ok Tryz.prog:=by
 refine zD ?_
 rintro ⟨m_,s_⟩ r0 aa
 try unfold uG at aa
 refine yO true [(4,none)] z1S 20 Tryz.func92 fun E hE=>?_
 obtain ⟨r_,h0,aa⟩:=zf aa
 let Z0:List HO:=[Hc h02 (x:=m_) h0 (loC zQ m_ <| loN)]
 rcases zL aa with ⟨c0,aa⟩ | ⟨c0,aa⟩
 ·obtain rfl:=zb aa
  exact yE X0 hC hE (Z0 ++ [Hq c0])
 ·rcases zL aa with ⟨c1,aa⟩ | ⟨c1,aa⟩
  ·obtain rfl:=zb aa
   exact yE X0 hC hE (Z0 ++ (Hq c0 :: (rpN 6 (Hq c1) [qT])))
  ·let Z1:List HO:=(Z0 ++ (Hq c0 :: (rpN 4 (Hq c1) [Ha (lnM yQ m_.Rows),Hq c1,Hq c1])))
   rcases zL aa with ⟨c2,aa⟩ | ⟨c2,aa⟩
   ·obtain rfl:=zb aa
    exact yE X0 hC hE (Z1 ++ [Hq c2])
   ·obtain rfl:=zb aa
    exact yE X0 hC hE (Z1 ++ [Hq c2])
def ZT:Code:=(Tryz.f94.body).getD .skip
def Zv:zO:=spF (α:=z6 × Int × List Int) (ρ:=List Int × Int) 94 (fun x=>[zQ x.1,(eI .i64) x.2.1,F7_ x.2.2]) (fun r=>.opq (K9 [some (F4_ r.1),some ((eI .i64) r.2)])) (fun x=>Zi x.1 x.2.1 x.2.2) [] (z6I)
abbrev z1k (cr:Int) (out:List Int):List (Nat × T):=[(1,.d (I cr)),(8,.own (eOs 1 true (eI .i64) out))]
abbrev z1j (m_:z6) (w_:List Int) (ak:List Int) (ar:Int) (lv:Int) (kl:Int):List (Nat × T):=[(3,.own (.box (zQ m_))),(8,.own (eOs 1 true (eI .i64) ak)),(9,.d (I ar)),(11,.own (.box (.agg [I lv,I kl]))),(15,.d (eSl 1 false (eI .i64) w_)),(16,.d (I ((w_.length:Nat):Int))),(17,.d (I ar))]
abbrev z1i (m_:z6) (w_:List Int) (dg:Int) (ak:List Int) (ar:Int):List (Nat × T):=[(1,.d (I dg)),(3,.own (.box (zQ m_))),(8,.own (eOs 1 true (eI .i64) ak)),(15,.d (eSl 1 false (eI .i64) w_)),(16,.d (I ((w_.length:Nat):Int))),(17,.d (I ar))]
theorem z5b (hC:zB Tryz.prog ctr) (h0b:ctr.Has ut):Zv.Ok Tryz.prog:=by
 refine zD ?_
 rintro ⟨m_,s_,w_⟩ r0 aa
 try unfold Zi at aa
 refine z6O (tt:=y9) (rs:=[(true,6,none),(false,7,none)]) (n:=⟨43,[]⟩) (body:=ZT) zt Tryz.func94 rfl (by kernel_rfl) rfl rfl (by show (3:Nat) ≤ 43; decide) fun E hE=>?_
 obtain ⟨g0,aa⟩:=gdE aa
 refine yJ X0 hC ZT [1,1] [] [1,8] (fun z:Int × List Int=>ZH z.1 z.2=some r0) (fun z=>z1k z.1 z.2) [(1,.d (I s_)),(2,.d (eSl 1 false (eI .i64) w_)),(3,.own (.box (zQ m_))),(8,.own (eOs 1 true (eI .i64) (List.replicate ((w_.length:Nat):Int).toNat (0:Int))))] [Ha (lnM (eI .i64) w_),Hn (rL g0),Ha (rM 1 (eI .i64) ((w_.length:Nat):Int) (0:Int)),Hh (.cut 0)] ?_ fun J1 az=>?_
 ·rintro ⟨cr,out⟩ aa
  unfold ZH at aa
  obtain rfl:=zb aa
  let ZE:List HO:=[]
  exact z4B X0 zt hC WA hE 4000 (hs:=hoH ZE) (x:=(.opq (K9 [some (eOs 1 true (eI .i64) out),some (I cr)]))) (hoB ZE) (by kernel_rfl) (LeV.refl _)
 ·obtain ⟨t2,ht2,aa⟩:=zf aa
  refine yL X0 hC ZT [1,1,2,1,0] [J1] (fun s=>ZG m_ w_ s.1 s.2.1 s.2.2) (fun x=>z1i m_ w_ x.1 x.2.1 x.2.2) (s_,(List.replicate ((w_.length:Nat):Int).toNat (0:Int)),0) ht2  [Ha (lnM (eI .i64) w_)] ?_
  rintro ⟨dg,ak,ar⟩ m2 a8 ae hl1 J2 a6
  try unfold ZG at ae
  rcases zL ae with ⟨c0,ae⟩ | ⟨c0,ae⟩
  ·obtain ⟨iy,h0,ae⟩:=zf ae
   obtain ⟨r_,h1,ae⟩:=zf ae
   refine yJ X0 hC ZT [1,1,2,1,0,0,1,1,0,0,1,1] [J1,J2] [3,8,9,11,15,16,17] (fun z:Int × Int=>wM ak ar z.1 z.2=some a8) (fun z=>z1j m_ w_ ak ar z.1 z.2) [(1,.d (I dg)),(3,.own (.box (zQ m_))),(8,.own (eOs 1 true (eI .i64) ak)),(9,.d (I ar)),(10,.d (I iy)),(11,.own (.box (u3 r_))),(15,.d (eSl 1 false (eI .i64) w_)),(16,.d (I ((w_.length:Nat):Int))),(17,.d (I ar))] [Hq c0,Hi (eI .i64) h0,Hc h0b (x:=()) h1 (loN),Hh (.cut 0)] ?_ fun J3 bz=>?_
   ·rintro ⟨lv,kl⟩ ae
    unfold wM at ae
    obtain ⟨jj,h2,ae⟩:=zf ae
    obtain rfl:=zb ae
    exact yB X0 hC a6 (lv,(ak.set ar.toNat kl),w64 (ar + 1)) hl1 [Hn (iL (eI .i64) h2),Hs (iM (eI .i64) h2),Hs (iM (eI .i64) h2),Hl (sM (eI .i64) ak ar kl)]
   ·rcases zL ae with ⟨c1,ae⟩ | ⟨c1,ae⟩
    ·obtain ⟨am,h3,ae⟩:=zf ae
     obtain ⟨au,h4,ae⟩:=zf ae
     exact yB X0 hC bz (au.To,au.Out) ae [Hq c1,Hi yQ h3,Hi u3 h4]
    ·exact yB X0 hC bz (r_.To,r_.Out) ae [Hq c1]
  ·obtain rfl:=zb ae
   obtain rfl:=hl1
   exact yB X0 hC az (dg,ak) aa [Hq c0]
def z4y:Code:=(Tryz.f55.body).getD .skip
def Wl:zO:=spF (α:=z6 × Int × List Int) (ρ:=List Int × Int) 55 (fun x=>[zQ x.1,(eI .i64) x.2.1,F7_ x.2.2]) (fun r=>.opq (K9 [some (F4_ r.1),some ((eI .i64) r.2)])) (fun x=>Zj x.1 x.2.1 x.2.2) [] (z6I)
theorem z5c (hC:zB Tryz.prog ctr) (h0q:ctr.Has qQ) (h0c:ctr.Has jS) (h0r:ctr.Has Zv):Wl.Ok Tryz.prog:=by
 refine zD ?_
 rintro ⟨m_,s_,w_⟩ r0 aa
 try unfold Zj at aa
 refine z6O (tt:=y9) (rs:=[(true,6,none),(false,7,none)]) (n:=⟨33,[]⟩) (body:=z4y) zt Tryz.func55 rfl (by kernel_rfl) rfl rfl (by show (3:Nat) ≤ 33; decide) fun E hE=>?_
 obtain ⟨r_,h0,aa⟩:=zf aa
 let Z0:List HO:=[Hc h0q (x:=(m_,s_)) h0 (loC zQ m_ <| loC (eI .i64) s_ <| loN)]
 rcases zL aa with ⟨c0,aa⟩ | ⟨c0,aa⟩
 ·obtain rfl:=zb aa
  let ZE:List HO:=(Z0 ++ [Hq c0])
  exact z4B X0 zt hC WA hE 4000 (hs:=hoH ZE) (x:=(.opq (K9 [some (eOs 1 true (eI .i64) []),some (I r_)]))) (hoB ZE) (by kernel_rfl) (show LeV (.opq (K9 [some (eOs 1 true (eI .i64) []),some (I r_)])) (.opq (K9 [some (eOs 1 true (eI .i64) ([]:List Int)),some (I r_)])) from inferInstance)
 ·obtain ⟨ah,h1,aa⟩:=zf aa
  let Z1:List HO:=(Z0 ++ [Hq c0,Hc h0c (x:=(w_,m_.Inputs)) h1 (loC F7_ w_ <| loC (eI .i64) m_.Inputs <| loN)])
  rcases zL aa with ⟨c1,aa⟩ | ⟨c1,aa⟩
  ·obtain rfl:=zb aa
   let ZE:List HO:=(Z1 ++ [Hq c1])
   exact z4B X0 zt hC WA hE 4000 (hs:=hoH ZE) (x:=(.opq (K9 [some (eOs 1 true (eI .i64) []),some (I ah)]))) (hoB ZE) (by kernel_rfl) (show LeV (.opq (K9 [some (eOs 1 true (eI .i64) []),some (I ah)])) (.opq (K9 [some (eOs 1 true (eI .i64) ([]:List Int)),some (I ah)])) from inferInstance)
  ·obtain ⟨aj,h2,aa⟩:=zf aa
   obtain rfl:=zb aa
   let ZE:List HO:=(Z1 ++ [Hq c1,Hc h0r (x:=(m_,s_,w_)) h2 (loC zQ m_ <| loC (eI .i64) s_ <| loC F7_ w_ <| loN),Hn (⟨rfl,rfl⟩:T.own (.opq (K9 [some (eOs 1 true (eI .i64) aj.1),some (I aj.2)]))=T.own (.opq (K9 [some (eOs 1 true (eI .i64) aj.1),some (I aj.2)])) ∧ 1=1),Hn (⟨rfl,rfl⟩:T.own (.opq (K9 [none,some (I aj.2)]))=T.own (.opq (K9 [none,some (I aj.2)])) ∧ 1=1)])
   exact z4B ((z2v Tryz.prog 31 [none,some (I aj.2)]).or ((z2v Tryz.prog 30 [some (eOs 1 true (eI .i64) aj.1),some (I aj.2)]).or X0)) zt hC WA hE 4000 (hs:=hoH ZE) (x:=(.opq (K9 [some (eOs 1 true (eI .i64) aj.1),some (I 0)]))) (hoB ZE) (by kernel_rfl) (LeV.refl _)
def uq:Code:=(Tryz.f56.body).getD .skip
def xw:zO:=spF (α:=List Int × List Int) (ρ:=Bool) 56 (fun x=>[F7_ x.1,F7_ x.2]) (fun r=>eB r) (fun x=>xA x.1 x.2) [] (QM)
abbrev Vl:List (Nat × T):=[]
abbrev Vk (s1:List Int) (s2:List Int) (dw:Int):List (Nat × T):=[(0,.d (eSl 1 false (eI .i64) s1)),(1,.d (eSl 1 false (eI .i64) s2)),(12,.d (I ((s1.length:Nat):Int))),(13,.d (I dw))]
theorem QJ (hC:zB Tryz.prog ctr):xw.Ok Tryz.prog:=by
 refine zD ?_
 rintro ⟨s1,s2⟩ r0 aa
 try unfold xA at aa
 refine yO true [(4,none)] uq 26 Tryz.func56 fun E hE=>?_
 let Z0:List HO:=[Ha (lnM (eI .i64) s1),Ha (lnM (eI .i64) s2)]
 rcases zL aa with ⟨c0,aa⟩ | ⟨c0,aa⟩
 ·obtain rfl:=zb aa
  exact yE X0 hC hE (Z0 ++ [Hq c0])
 ·refine yJ X0 hC uq [1,1] [] [] (fun z:Unit=>wx=some r0) (fun z=>Vl) [(0,.d (eSl 1 false (eI .i64) s1)),(1,.d (eSl 1 false (eI .i64) s2))] (Z0 ++ [Hq c0,Hh (.cut 0)]) ?_ fun J1 az=>?_
  ·rintro ⟨⟩ aa
   unfold wx at aa
   obtain rfl:=zb aa
   exact yE X0 hC hE []
  ·obtain ⟨t2,ht2,aa⟩:=zf aa
   refine yL X0 hC uq [1,1,2,1,0] [J1] (fun s=>yI s1 s2 s) (fun x=>Vk s1 s2 x) 0 ht2  [Ha (lnM (eI .i64) s1)] ?_
   rintro dw m2 a8 ae hl1 J2 a6
   try unfold yI at ae
   rcases zL ae with ⟨c1,ae⟩ | ⟨c1,ae⟩
   ·obtain ⟨lu,h0,ae⟩:=zf ae
    obtain ⟨kw,h1,ae⟩:=zf ae
    let Z1:List HO:=[Hq c1,Hi (eI .i64) h0,Hi (eI .i64) h1]
    rcases zL ae with ⟨c2,ae⟩ | ⟨c2,ae⟩
    ·obtain rfl:=zb ae
     obtain rfl:=hl1
     obtain rfl:=zb aa
     exact yE X0 hC hE (Z1 ++ [Hq c2])
    ·obtain rfl:=zb ae
     exact yB X0 hC a6 (w64 (dw + 1)) hl1 (Z1 ++ [Hq c2])
   ·obtain rfl:=zb ae
    obtain rfl:=hl1
    exact yB X0 hC az () aa [Hq c1]
def qI:Code:=(Tryz.f21.body).getD .skip
def Wh:zO:=spF (α:=z6 × z6 × List (List Int)) (ρ:=Bool × Int) 21 (fun x=>[zQ x.1,zQ x.2.1,w8 x.2.2]) (fun r=>.tup [eB r.1,(eI .i64) r.2]) (fun x=>YV x.1 x.2.1 x.2.2) [] (z6I)
abbrev z1d:List (Nat × T):=[]
abbrev z1c (m_:z6) (other:z6) (l_:List (List Int)) (kb:Int):List (Nat × T):=[(3,.own (.box (zQ m_))),(4,.own (.box (zQ other))),(44,.d (eSl 1 false F7_ l_)),(45,.d (I ((l_.length:Nat):Int))),(46,.d (I kb))]
abbrev z1e (m_:z6) (other:z6) (l_:List (List Int)):List (Nat × T):=[(2,.d (eSl 1 false F7_ l_)),(3,.own (.box (zQ m_))),(4,.own (.box (zQ other)))]
abbrev z1b (m_:z6) (other:z6) (l_:List (List Int)) (lw:Int):List (Nat × T):=[(2,.d (eSl 1 false F7_ l_)),(3,.own (.box (zQ m_))),(4,.own (.box (zQ other))),(20,.own (eOs 3 true zQ ([m_,other]))),(21,.d (I ((([m_,other]:List z6).length:Nat):Int))),(22,.d (I lw))]
theorem z57 (hC:zB Tryz.prog ctr) (h02:ctr.Has yk) (h07:ctr.Has jT) (h0G:ctr.Has Wl) (h06:ctr.Has xw):Wh.Ok Tryz.prog:=by
 refine zD ?_
 rintro ⟨m_,other,l_⟩ r0 aa
 try unfold YV at aa
 refine yO false [(6,none),(7,none)] qI 67 Tryz.func21 fun E hE=>?_
 refine yJ X0 hC qI [1] [] [2,3,4] (fun z:Unit=>qt m_ other l_=some r0) (fun z=>z1e m_ other l_) [(2,.d (eSl 1 false F7_ l_)),(3,.own (.box (zQ m_))),(4,.own (.box (zQ other)))] [Hh (.cut 1)] ?_ fun J1 az=>?_
 ·rintro ⟨⟩ aa
  unfold qt at aa
  rcases zL aa with ⟨c0,aa⟩ | ⟨c0,aa⟩
  ·obtain rfl:=zb aa
   exact yE X0 hC hE [Hq c0]
  ·obtain ⟨r_,h0,aa⟩:=zf aa
   let Z0:List HO:=[Hq c0,Hc h07 (x:=(l_,m_.Inputs)) h0 (loC w8 l_ <| loC (eI .i64) m_.Inputs <| loN)]
   rcases zL aa with ⟨c1,aa⟩ | ⟨c1,aa⟩
   ·obtain rfl:=zb aa
    exact yE X0 hC hE (Z0 ++ [Hq c1])
   ·refine yJ X0 hC qI [1,1,1,1] [] [] (fun z:Unit=>Wc=some r0) (fun z=>z1d) [(2,.d (eSl 1 false F7_ l_)),(3,.own (.box (zQ m_))),(4,.own (.box (zQ other)))] (Z0 ++ [Hq c1,Hh (.cut 0)]) ?_ fun J2 a6=>?_
    ·rintro ⟨⟩ aa
     unfold Wc at aa
     obtain rfl:=zb aa
     exact yE X0 hC hE []
    ·obtain ⟨t3,ht3,aa⟩:=zf aa
     refine yL X0 hC qI [1,1,1,1,2,1,0] [J2] (fun s=>wH m_ other l_ s) (fun x=>z1c m_ other l_ x) 0 ht3  [Ha (lnM F7_ l_)] ?_
     rintro kb m3 a8 ae hl1 J3 bz
     try unfold wH at ae
     rcases zL ae with ⟨c2,ae⟩ | ⟨c2,ae⟩
     ·obtain ⟨cb,h1,ae⟩:=zf ae
      obtain ⟨ah,h2,ae⟩:=zf ae
      obtain ⟨aj,h3,ae⟩:=zf ae
      obtain ⟨aw,h4,ae⟩:=zf ae
      let Z1:List HO:=[Hq c2,Hi F7_ h1,Hc h0G (x:=(m_,0,cb)) h2 (loC zQ m_ <| loC (eI .i64) 0 <| loC F7_ cb <| loN),Hn (⟨rfl,rfl⟩:T.own (.opq (K9 [some (eOs 1 true (eI .i64) ah.1),some (I ah.2)]))=T.own (.opq (K9 [some (eOs 1 true (eI .i64) ah.1),some (I ah.2)])) ∧ 1=1),Hn (⟨rfl,rfl⟩:T.own (.opq (K9 [none,some (I ah.2)]))=T.own (.opq (K9 [none,some (I ah.2)])) ∧ 1=1),Hc h0G (x:=(other,0,cb)) h3 (loC zQ other <| loC (eI .i64) 0 <| loC F7_ cb <| loN),Hn (⟨rfl,rfl⟩:T.own (.opq (K9 [some (eOs 1 true (eI .i64) aj.1),some (I aj.2)]))=T.own (.opq (K9 [some (eOs 1 true (eI .i64) aj.1),some (I aj.2)])) ∧ 1=1),Hn (⟨rfl,rfl⟩:T.own (.opq (K9 [none,some (I aj.2)]))=T.own (.opq (K9 [none,some (I aj.2)])) ∧ 1=1),Hg (z1L h06),Hm (shM (eI .i64) (eI .i64) ah.1),Hm (shM (eI .i64) (eI .i64) aj.1),Hs (z1M h06 (x:=(ah.1,aj.1)) h4 (loC F3_ ah.1 <| loC F3_ aj.1 <| loN))]
      rcases zL ae with ⟨c3,ae⟩ | ⟨c3,ae⟩
      ·obtain rfl:=zb ae
       obtain rfl:=hl1
       obtain rfl:=zb aa
       exact yE ((z2v Tryz.prog 61 [none,some (I aj.2)]).or ((z2v Tryz.prog 60 [some (eOs 1 true (eI .i64) aj.1),some (I aj.2)]).or ((z2v Tryz.prog 55 [none,some (I ah.2)]).or ((z2v Tryz.prog 54 [some (eOs 1 true (eI .i64) ah.1),some (I ah.2)]).or X0)))) hC hE (Z1 ++ [Hq c3])
      ·obtain rfl:=zb ae
       exact yB ((z2v Tryz.prog 61 [none,some (I aj.2)]).or ((z2v Tryz.prog 60 [some (eOs 1 true (eI .i64) aj.1),some (I aj.2)]).or ((z2v Tryz.prog 55 [none,some (I ah.2)]).or ((z2v Tryz.prog 54 [some (eOs 1 true (eI .i64) ah.1),some (I ah.2)]).or X0)))) hC bz (w64 (kb + 1)) hl1 (Z1 ++ [Hq c3])
     ·obtain rfl:=zb ae
      obtain rfl:=hl1
      exact yB X0 hC a6 () aa [Hq c2]
 ·obtain ⟨t4,ht4,aa⟩:=zf aa
  refine yL X0 hC qI [1,2,1,0] [J1] (fun s=>wG m_ other s) (fun x=>z1b m_ other l_ x) 0 ht4  [Ha (lnM zQ ([m_,other]:List z6))] ?_
  rintro lw m4 a8 ae hl1 J4 ep
  try unfold wG at ae
  rcases zL ae with ⟨c4,ae⟩ | ⟨c4,ae⟩
  ·obtain ⟨kc,h5,ae⟩:=zf ae
   obtain ⟨cd,h6,ae⟩:=zf ae
   let Z2:List HO:=[Hq c4,Hn (iL zQ h5),Hs (iM zQ h5),Hc h02 (x:=kc) h6 (loC zQ kc <| loN)]
   rcases zL ae with ⟨c5,ae⟩ | ⟨c5,ae⟩
   ·obtain rfl:=zb ae
    obtain rfl:=hl1
    obtain rfl:=zb aa
    exact yE X0 hC hE (Z2 ++ [Hq c5])
   ·obtain rfl:=zb ae
    exact yB X0 hC ep (w64 (lw + 1)) hl1 (Z2 ++ [Hq c5])
  ·obtain rfl:=zb ae
   obtain rfl:=hl1
   exact yB X0 hC az () aa [Hq c4]
def z6T:Code:=(Tryz.f101.body).getD .skip
def UX:zO:=spF (α:=z6 × Int × Int) (ρ:=z8) 101 (fun x=>[zQ x.1,(eI .i64) x.2.1,(eI .i64) x.2.2]) (fun r=>u3 r) (fun x=>Un x.1 x.2.1 x.2.2) [] (z6I)
theorem z7e (hC:zB Tryz.prog ctr):UX.Ok Tryz.prog:=by
 refine zD ?_
 rintro ⟨m_,s_,i_⟩ r0 aa
 try unfold Un at aa
 refine yO false [(6,some 99)] z6T 18 Tryz.func101 fun E hE=>?_
 rcases zL aa with ⟨c0,aa⟩ | ⟨c0,aa⟩
 ·obtain rfl:=zb aa
  exact yE X0 hC hE [Hq c0]
 ·obtain ⟨am,h0,aa⟩:=zf aa
  obtain ⟨au,h1,aa⟩:=zf aa
  obtain rfl:=zb aa
  exact yE X0 hC hE [Hq c0,Hi yQ h0,Hi u3 h1]
def K1:Code:=(Tryz.f61.body).getD .skip
def JG:zO:=spF (α:=z6 × Int × List Int) (ρ:=List Int) 61 (fun x=>[zQ x.1,(eI .i64) x.2.1,F7_ x.2.2]) (fun r=>F6_ r) (fun x=>Um x.1 x.2.1 x.2.2) [] (z6I)
abbrev z4U (out:List Int):List (Nat × T):=[(7,.own (eOs 1 false (eI .i64) out))]
abbrev z4T (m_:z6) (w_:List Int) (cr:Int) (ak:List Int) (k_:Int):List (Nat × T):=[(1,.d (I cr)),(2,.d (eSl 1 false (eI .i64) w_)),(3,.own (.box (zQ m_))),(7,.own (eOs 1 false (eI .i64) ak)),(8,.d (I k_))]
theorem z8B (hC:zB Tryz.prog ctr) (h15:ctr.Has UX):JG.Ok Tryz.prog:=by
 refine zD ?_
 rintro ⟨m_,s_,w_⟩ r0 aa
 try unfold Um at aa
 refine yO true [(6,none)] K1 31 Tryz.func61 fun E hE=>?_
 refine yJ X0 hC K1 [1,1] [] [7] (fun z:List Int=>Vu z=some r0) (fun z=>z4U z) [(1,.d (I s_)),(2,.d (eSl 1 false (eI .i64) w_)),(3,.own (.box (zQ m_))),(7,.own (eOs 1 true (eI .i64) []))] [Hh (.cut 2)] ?_ fun J1 az=>?_
 ·rintro out aa
  unfold Vu at aa
  obtain rfl:=zb aa
  exact yE X0 hC hE []
 ·obtain ⟨t2,ht2,aa⟩:=zf aa
  refine yLx X0 hC K1 [1,1,2,1,0] [J1] (fun s=>X1 m_ w_ s.1 s.2.1 s.2.2) (fun x=>z4T m_ w_ x.1 x.2.1 x.2.2) (s_,([]:List Int),0) ht2 [(1,.d (I s_)),(2,.d (eSl 1 false (eI .i64) w_)),(3,.own (.box (zQ m_))),(7,.own (eOs 1 true (eI .i64) [])),(8,.d (I 0))] inferInstance [] ?_
  rintro ⟨cr,ak,k_⟩ m2 a8 ae hl1 J2 a6
  try unfold X1 at ae
  rcases zL ae with ⟨c0,ae⟩ | ⟨c0,ae⟩
  ·obtain ⟨iy,h0,ae⟩:=zf ae
   obtain ⟨r_,h1,ae⟩:=zf ae
   obtain ⟨g0,ae⟩:=gdE ae
   obtain rfl:=zb ae
   exact yB X0 hC a6 (r_.To,(ak ++ ([r_.Out]:List Int)),w64 (k_ + 1)) hl1 [Ha (lnM (eI .i64) w_),Hq c0,Hi (eI .i64) h0,Hc h15 (x:=(m_,cr,iy)) h1 (loC zQ m_ <| loC (eI .i64) cr <| loC (eI .i64) iy <| loN),Hq (dM (eI .i64) ([r_.Out]:List Int)),Hn (dM (eI .i64) ([r_.Out]:List Int)),Hn (aL (eI .i64) (eI .i64) g0),Hl (aM (eI .i64) ak ([r_.Out]:List Int))]
  ·obtain rfl:=zb ae
   obtain rfl:=hl1
   exact yB X0 hC az ak aa [Ha (lnM (eI .i64) w_),Hq c0]
def Qr:Code:=(Tryz.f38.body).getD .skip
def Xz:zO:=spF (α:=List (List Int) × List (List Int)) (ρ:=Bool) 38 (fun x=>[w8 x.1,w8 x.2]) (fun r=>eB r) (fun x=>XU x.1 x.2) [] (QM)
abbrev z2X:List (Nat × T):=[]
abbrev z2W (a_:List (List Int)) (b_:List (List Int)) (i_:Int):List (Nat × T):=[(0,.d (eSl 1 false F7_ a_)),(1,.d (eSl 1 false F7_ b_)),(5,.d (I i_))]
theorem z7d (hC:zB Tryz.prog ctr) (h0k:ctr.Has k7):Xz.Ok Tryz.prog:=by
 refine zD ?_
 rintro ⟨a_,b_⟩ r0 aa
 try unfold XU at aa
 refine yO true [(4,none)] Qr 27 Tryz.func38 fun E hE=>?_
 let Z0:List HO:=[Ha (lnM F7_ a_),Ha (lnM F7_ b_)]
 rcases zL aa with ⟨c0,aa⟩ | ⟨c0,aa⟩
 ·obtain rfl:=zb aa
  exact yE X0 hC hE (Z0 ++ [Hq c0])
 ·refine yJ X0 hC Qr [1,1] [] [] (fun z:Unit=>XA=some r0) (fun z=>z2X) [(0,.d (eSl 1 false F7_ a_)),(1,.d (eSl 1 false F7_ b_))] (Z0 ++ [Hq c0,Hh (.cut 0)]) ?_ fun J1 az=>?_
  ·rintro ⟨⟩ aa
   unfold XA at aa
   obtain rfl:=zb aa
   exact yE X0 hC hE []
  ·obtain ⟨t2,ht2,aa⟩:=zf aa
   refine yL X0 hC Qr [1,1,2,1,0] [J1] (fun s=>qW a_ b_ s) (fun x=>z2W a_ b_ x) 0 ht2  [] ?_
   rintro i_ m2 a8 ae hl1 J2 a6
   try unfold qW at ae
   let Z1:List HO:=[Ha (lnM F7_ a_)]
   rcases zL ae with ⟨c1,ae⟩ | ⟨c1,ae⟩
   ·obtain ⟨fh,h0,ae⟩:=zf ae
    obtain ⟨dv,h1,ae⟩:=zf ae
    obtain ⟨r_,h2,ae⟩:=zf ae
    let Z2:List HO:=(Z1 ++ [Hq c1,Hi F7_ h0,Hi F7_ h1,Hc h0k (x:=(fh,dv)) h2 (loC F7_ fh <| loC F7_ dv <| loN)])
    rcases zL ae with ⟨c2,ae⟩ | ⟨c2,ae⟩
    ·obtain rfl:=zb ae
     obtain rfl:=hl1
     obtain rfl:=zb aa
     exact yE X0 hC hE (Z2 ++ [Hq c2])
    ·obtain rfl:=zb ae
     exact yB X0 hC a6 (w64 (i_ + 1)) hl1 (Z2 ++ [Hq c2])
   ·obtain rfl:=zb ae
    obtain rfl:=hl1
    exact yB X0 hC az () aa (Z1 ++ [Hq c1])
def VW:Code:=(Tryz.f28.body).getD .skip
def VJ:zO:=spF (α:=z6 × z6 × List (List Int)) (ρ:=Bool) 28 (fun x=>[zQ x.1,zQ x.2.1,w8 x.2.2]) (fun r=>eB r) (fun x=>Wv x.1 x.2.1 x.2.2) [] (z6I)
abbrev z2a:List (Nat × T):=[]
abbrev z29 (m_:z6) (other:z6) (l_:List (List Int)) (i_:Int):List (Nat × T):=[(2,.d (eSl 1 false F7_ l_)),(3,.own (.box (zQ m_))),(4,.own (.box (zQ other))),(7,.d (I i_))]
theorem z6d (hC:zB Tryz.prog ctr) (h0H:ctr.Has JG) (h0m:ctr.Has Xz):VJ.Ok Tryz.prog:=by
 refine zD ?_
 rintro ⟨m_,other,l_⟩ r0 aa
 try unfold Wv at aa
 refine yO true [(6,none)] VW 30 Tryz.func28 fun E hE=>?_
 refine yJ X0 hC VW [1] [] [] (fun z:Unit=>VO=some r0) (fun z=>z2a) [(2,.d (eSl 1 false F7_ l_)),(3,.own (.box (zQ m_))),(4,.own (.box (zQ other)))] [Hh (.cut 1)] ?_ fun J1 az=>?_
 ·rintro ⟨⟩ aa
  unfold VO at aa
  obtain rfl:=zb aa
  exact yE X0 hC hE []
 ·obtain ⟨t2,ht2,aa⟩:=zf aa
  refine yL X0 hC VW [1,2,1,0] [J1] (fun s=>vA m_ other l_ s) (fun x=>z29 m_ other l_ x) 0 ht2  [] ?_
  rintro i_ m2 a8 ae hl1 J2 a6
  try unfold vA at ae
  let Z0:List HO:=[Ha (lnM F7_ l_)]
  rcases zL ae with ⟨c0,ae⟩ | ⟨c0,ae⟩
  ·obtain ⟨cb,h0,ae⟩:=zf ae
   obtain ⟨r_,h1,ae⟩:=zf ae
   obtain ⟨ft,h2,ae⟩:=zf ae
   obtain ⟨ah,h3,ae⟩:=zf ae
   obtain ⟨aj,h4,ae⟩:=zf ae
   let Z1:List HO:=(Z0 ++ [Hq c0,Hi F7_ h0,Hc h0H (x:=(m_,0,cb)) h1 (loC zQ m_ <| loC (eI .i64) 0 <| loC F7_ cb <| loN),Hi F7_ h2,Hc h0H (x:=(other,0,ft)) h3 (loC zQ other <| loC (eI .i64) 0 <| loC F7_ ft <| loN),Hg (z1L h0m),Hm (shM F6_ F7_ ([r_])),Hm (shM F6_ F7_ ([ah])),Hs (z1M h0m (x:=([r_],[ah])) h4 (loC z8t ([r_]:List (List Int)) <| loC z8t ([ah]:List (List Int)) <| loN))])
   rcases zL ae with ⟨c1,ae⟩ | ⟨c1,ae⟩
   ·obtain rfl:=zb ae
    obtain rfl:=hl1
    obtain rfl:=zb aa
    exact yE X0 hC hE (Z1 ++ [Hq c1])
   ·obtain rfl:=zb ae
    exact yB X0 hC a6 (w64 (i_ + 1)) hl1 (Z1 ++ [Hq c1])
  ·obtain rfl:=zb ae
   obtain rfl:=hl1
   exact yB X0 hC az () aa (Z0 ++ [Hq c0])
def z2P:Code:=(Tryz.f50.body).getD .skip
def Xk:zO:=spF (α:=Unit) (ρ:=z6) 50 (fun x=>[]) (fun r=>zgV r) (fun x=>Qd) [] (fun _ _ _=>rfl)
theorem z3w (hC:zB Tryz.prog ctr):Xk.Ok Tryz.prog:=by
 refine zD ?_
 rintro ⟨⟩ r0 aa
 try unfold Qd at aa
 refine yO false [(0,some 30)] z2P 12 Tryz.func50 fun E hE=>?_
 obtain rfl:=zb aa
 exact yE X0 hC hE [Hm (shM (eOs 2 true u3) zqT ([[(z8.mk 1 0),(z8.mk 0 0)],[(z8.mk 2 0),(z8.mk 1 1)],[(z8.mk 0 1),(z8.mk 2 0)]]))]
def z0Y:Code:=(Tryz.f98.body).getD .skip
def Zu:zO:=spF (α:=z6) (ρ:=(Int × z6) × (Int × z6) × (Int × z6)) 98 (fun x=>[zQ x]) (fun r=>(zrO (zoM (eI .i64) (Qk 130 z1n)) (zoM (eI .i64) (Qk 132 z1n)) (zoM (eI .i64) (Qk 133 z1n))) r) (fun x=>Ww x) [] (UM)
theorem z1u (hC:zB Tryz.prog ctr):Zu.Ok Tryz.prog:=by
 refine zD ?_
 rintro m_ r0 aa
 try unfold Ww at aa
 refine yO false [(2,some 142)] z0Y 10 Tryz.func98 fun E hE=>?_
 obtain rfl:=zb aa
 exact yEx X0 hC hE [] (.agg [.agg [I 9,.fn 130 [.sptr (.agg [I m_.Inputs,I m_.Outputs,eSl 1 false yQ m_.Rows])]],.agg [I 11,.fn 132 [.sptr (.agg [I m_.Inputs,I m_.Outputs,eSl 1 false yQ m_.Rows])]],.agg [I 12,.fn 133 [.sptr (.agg [I m_.Inputs,I m_.Outputs,eSl 1 false yQ m_.Rows])]]]) (show LeV (.agg [.agg [I 9,.fn 130 [.sptr (.agg [I m_.Inputs,I m_.Outputs,eSl 1 false yQ m_.Rows])]],.agg [I 11,.fn 132 [.sptr (.agg [I m_.Inputs,I m_.Outputs,eSl 1 false yQ m_.Rows])]],.agg [I 12,.fn 133 [.sptr (.agg [I m_.Inputs,I m_.Outputs,eSl 1 false yQ m_.Rows])]]]) (.agg [.agg [I ((((9,m_),(11,m_),(12,m_)).1).1),.fn 130 [.sptr (.agg [I (((((9,m_),(11,m_),(12,m_)).1).2).Inputs),I (((((9,m_),(11,m_),(12,m_)).1).2).Outputs),eSl 1 false yQ (((((9,m_),(11,m_),(12,m_)).1).2).Rows)])]],.agg [I ((((9,m_),(11,m_),(12,m_)).2.1).1),.fn 132 [.sptr (.agg [I (((((9,m_),(11,m_),(12,m_)).2.1).2).Inputs),I (((((9,m_),(11,m_),(12,m_)).2.1).2).Outputs),eSl 1 false yQ (((((9,m_),(11,m_),(12,m_)).2.1).2).Rows)])]],.agg [I ((((9,m_),(11,m_),(12,m_)).2.2).1),.fn 133 [.sptr (.agg [I (((((9,m_),(11,m_),(12,m_)).2.2).2).Inputs),I (((((9,m_),(11,m_),(12,m_)).2.2).2).Outputs),eSl 1 false yQ (((((9,m_),(11,m_),(12,m_)).2.2).2).Rows)])]]]) from inferInstance)
def z1T:Code:=(Tryz.f172.body).getD .skip
def Yn:zO:=spF (α:=z6) (ρ:=z6) 172 (fun x=>[zQ x]) (fun r=>(Qk 192 z1n) r) (fun x=>VQ x) [] (UM)
theorem z2D (hC:zB Tryz.prog ctr):Yn.Ok Tryz.prog:=by
 refine zD ?_
 rintro m_ r0 aa
 try unfold VQ at aa
 refine yO true [(2,none)] z1T 4 Tryz.func172 fun E hE=>?_
 obtain rfl:=zb aa
 exact yE X0 hC hE []
def ur:Code:=(Tryz.f192.body).getD .skip
abbrev Ji (x0:z6) (YY:σ → z3m) (du:Int) (i8:σ):List (Nat × T):=[(0,.own (.opq (YY i8).q)),(8,.d (eSl 1 false yQ x0.Rows)),(9,.d (I ((x0.Rows.length:Nat):Int))),(10,.d (I du))]
abbrev Jg (x0:z6) (YY:σ → z3m) (du:Int) (am:List z8) (fk:σ) (ar:Int):List (Nat × T):=[(0,.own (.opq (YY fk).q)),(3,.d (I du)),(8,.d (eSl 1 false yQ x0.Rows)),(9,.d (I ((x0.Rows.length:Nat):Int))),(10,.d (I du)),(15,.d (eSl 2 false u3 am)),(16,.d (I ((am.length:Nat):Int))),(17,.d (I ar))]
abbrev Jh (x0:z6) (YY:σ → z3m) (ct:σ) (du:Int):List (Nat × T):=[(0,.own (.opq (YY ct).q)),(8,.d (eSl 1 false yQ x0.Rows)),(9,.d (I ((x0.Rows.length:Nat):Int))),(10,.d (I du))]
theorem z0C (hC:zB Tryz.prog ctr) (x0:z6):z8n Tryz.prog (.fn 192 [.sptr (.agg [I x0.Inputs,I x0.Outputs,eSl 1 false yQ x0.Rows])]) (fun (x:wR Int × z8) (_:Bool) (_:Value)=>[F0_ x.1,u3 x.2]) (@kB x0):=by
 refine z4d (tt:=y9) (nt:=31) (body:=ur) zt Tryz.func192 rfl (by kernel_rfl) rfl rfl (by show (2:Nat) ≤ 31; decide) ?_
 intro σ yv YY yy hy sg r0 aa E hE
 unfold kB at aa
 obtain ⟨t1,ht1,aa⟩:=zf aa
 refine yL X0 hC ur [1,0] [] (fun s=>kY x0 yy s.1 s.2) (fun x=>Jh x0 YY x.1 x.2) (sg,0) ht1  [Ha (lnM yQ x0.Rows)] ?_
 rintro ⟨ct,du⟩ m1 a8 ae hl1 J1 az
 try unfold kY at ae
 rcases zL ae with ⟨c0,ae⟩ | ⟨c0,ae⟩
 ·refine yJ X0 hC ur [1,0,0,1,1] [J1] [0,8,9,10] (fun z:σ=>kZ du z=some a8) (fun z=>Ji x0 YY du z) [(0,.own (.opq (YY ct).q)),(8,.d (eSl 1 false yQ x0.Rows)),(9,.d (I ((x0.Rows.length:Nat):Int))),(10,.d (I du))] [Hq c0,Hh (.cut 0)] ?_ fun J2 a6=>?_
  ·rintro i8 ae
   unfold kZ at ae
   obtain rfl:=zb ae
   exact yB X0 hC az (i8,w64 (du + 1)) hl1 []
  ·obtain ⟨am,h0,ae⟩:=zf ae
   obtain ⟨t3,ht3,ae⟩:=zf ae
   refine yL X0 hC ur [1,0,0,1,1,2,0,1,1,0] [J1,J2] (fun s=>kX yy du am s.1 s.2) (fun x=>Jg x0 YY du am x.1 x.2) (ct,0) ht3  [Hi yQ h0,Ha (lnM u3 am)] ?_
   rintro ⟨fk,ar⟩ m3 ez ai hl2 J3 bz
   try unfold kX at ai
   rcases zL ai with ⟨c1,ai⟩ | ⟨c1,ai⟩
   ·obtain ⟨au,h1,ai⟩:=zf ai
    obtain ⟨yr,h2,ai⟩:=zf ai
    let Z0:List HO:=[Hq c1,Hi u3 h1,Hn (z3E (yv:=yv) (Y:=YY) (enc:=(fun (x:wR Int × z8) (_:Bool) (_:Value)=>[F0_ x.1,u3 x.2])) (s:=fk) (x:=((wR.mk du ar),au)) (s':=yr.1) (b:=yr.2) (v:=.nilFunc) [F0_ (wR.mk du ar),u3 au] (show z0s [F0_ (wR.mk du ar),u3 au] [F0_ (wR.mk du ar),u3 au] from inferInstance))]
    rcases zL ai with ⟨c2,ai⟩ | ⟨c2,ai⟩
    ·obtain rfl:=zb ai
     obtain rfl:=hl2
     obtain rfl:=zb ae
     obtain rfl:=hl1
     obtain rfl:=zb aa
     exact yF ((Jl (P:=Tryz.prog) y9 hy 27 (s:=fk) (x:=((wR.mk du ar),au)) (s':=yr.1) (b:=yr.2) .nilFunc h2).or X0) hC .ret [(0,.own (.opq (YY yr.1).q))] (Z0 ++ [Hq c2]) fun st0 h0=>hE _ st0 (.inr rfl) h0
    ·obtain rfl:=zb ai
     exact yB ((Jl (P:=Tryz.prog) y9 hy 27 (s:=fk) (x:=((wR.mk du ar),au)) (s':=yr.1) (b:=yr.2) .nilFunc h2).or X0) hC bz (yr.1,w64 (ar + 1)) hl2 (Z0 ++ [Hq c2])
   ·obtain rfl:=zb ai
    obtain rfl:=hl2
    exact yB X0 hC a6 fk ae [Hq c1]
 ·obtain rfl:=zb ae
  obtain rfl:=hl1
  obtain rfl:=zb aa
  exact yF X0 hC .normal [(0,.own (.opq (YY ct).q))] [Hq c0] fun st0 h0=>hE _ st0 (.inl rfl) h0
def Va:Code:=(Tryz.f173.body).getD .skip
def wU:zO:=spF (α:=List (wR Int)) (ρ:=List (wR Int)) 173 (fun x=>[(eSl 2 false F0_) x]) (fun r=>(eSl 2 true F0_) r) (fun x=>ui x) [] (UM)
theorem VA (hC:zB Tryz.prog ctr):wU.Ok Tryz.prog:=by
 refine zD ?_
 rintro s_ r0 aa
 try unfold ui at aa
 refine yO true [(2,none)] Va 9 Tryz.func173 fun E hE=>?_
 obtain ⟨g0,aa⟩:=gdE aa
 obtain rfl:=zb aa
 exact yE X0 hC hE [Ha (lnM F0_ s_),Ha (lnM F0_ s_),Hn (slB g0),Hn (slC g0),Hn (zke F0_ g0),Ha (zqd 2 F0_ s_ 0 ((s_.length:Nat):Int).toNat)]
def xk:Code:=(Tryz.f158.body).getD .skip
def qz:zO:=spF (α:=z6) (ρ:=List (wR Int)) 158 (fun x=>[zQ x]) (fun r=>(eSl 2 true F0_) r) (fun x=>ZF x) [] (UM)
abbrev UL (out:List (wR Int)):List (Nat × T):=[(3,.own (.box (eOs 2 false F0_ out)))]
abbrev u0 (ah:z6) (ak:List (wR Int)):List (Nat × T):=[(3,.own (.box (eOs 2 false F0_ ak))),(7,.d (.fn 192 [.sptr (.agg [I ah.Inputs,I ah.Outputs,eSl 1 false yQ ah.Rows])]))]
theorem Kq (hC:zB Tryz.prog ctr) (h16:ctr.Has Yn) (h0b:ctr.Has ut) (h0I:ctr.Has wU):qz.Ok Tryz.prog:=by
 refine zD ?_
 rintro m_ r0 aa
 try unfold ZF at aa
 refine yO true [(2,none)] xk 19 Tryz.func158 fun E hE=>?_
 refine yJ X0 hC xk [1,1] [] [3] (fun z:List (wR Int)=>qH z=some r0) (fun z=>UL z) [(1,.own (.box (zQ m_))),(3,.own (.box (eOs 2 true F0_ [])))] [Hh (.cut 2)] ?_ fun J1 az=>?_
 ·rintro out aa
  unfold qH at aa
  obtain ⟨r_,h0,aa⟩:=zf aa
  obtain rfl:=zb aa
  exact yE X0 hC hE [Hg (z1L h0I),Hm (shM F0_ F0_ out),Hs (z1M h0I (x:=out) h0 (loC (eSl 2 false F0_) out <| loN)),Hm (shM F0_ F0_ out)]
 ·obtain ⟨ah,h1,aa⟩:=zf aa
  obtain ⟨t2,ht2,aa⟩:=zf aa
  refine yAt X0 hC (sub [1,1,2,1,0] xk) (frs [1,1,2,1,0] [J1] xk []) [(3,.own (.box (eOs 2 true F0_ []))),(7,.d (.fn 192 [.sptr (.agg [I ah.Inputs,I ah.Outputs,eSl 1 false yQ ah.Rows])]))] [Hc h16 (x:=m_) h1 (loC zQ m_ <| loN)] fun st0 h0=>?_
  refine z1V (g:=.tmp 7) (ps:=[8,9]) (assign:=(sub [1,1,2,1,0,0] xk)) (body:=(sub [1,1,2,1,0,1] xk)) (K:=192) (caps:=[.sptr (.agg [I ah.Inputs,I ah.Outputs,eSl 1 false yQ ah.Rows])]) (by kernel_rfl) [3,7] (fun s=>u0 ah s) (fun z=>nomatch z) (fun z=>nomatch z) ((fun (x:wR Int × z8) (_:Bool) (_:Value)=>[F0_ x.1,u3 x.2])) (F:=@kB ah) (fun s x=>vd s x.1 x.2) ([]:List (wR Int)) t2 _ h0 inferInstance (by kernel_rfl) (by decide) (fun _=>rfl) (by rintro ⟨⟩) (by kernel_rfl) (fun _ _ _=>rfl) (z0C hC ah) ht2 ?_ ?_
  ·rintro m0 ak ⟨x8,x9⟩ vr a8 ae
   replace ae:vd ak x8 x9=some a8:=ae
   unfold vd at ae
   refine yF X0 hC .normal [(3,.own (.box (eOs 2 false F0_ ak))),(4,.own (.box (F0_ x8))),(5,.own (.box (u3 x9))),(7,.d (.fn 192 [.sptr (.agg [I ah.Inputs,I ah.Outputs,eSl 1 false yQ ah.Rows])]))] [] fun st0 h0=>⟨rfl,z6Y h0 ?_⟩
   obtain ⟨aj,h2,ae⟩:=zf ae
   let Z0:List HO:=[Hc h0b (x:=()) h2 (loN)]
   rcases zL ae with ⟨c0,ae⟩ | ⟨c0,ae⟩
   ·obtain ⟨g0,ae⟩:=gdE ae
    obtain rfl:=zb ae
    exact yF X0 hC .normal (u0 ah (ak ++ ([x8]:List (wR Int)))) (Z0 ++ [Hq c0,Hq (dM F0_ ([x8]:List (wR Int))),Hn (dM F0_ ([x8]:List (wR Int))),Hn (aL F0_ F0_ g0),Hl (aM F0_ ak ([x8]:List (wR Int)))]) fun st0 h0=>⟨rfl,_,h0,LeL.refl _⟩
   ·obtain rfl:=zb ae
    exact yF X0 hC .normal (u0 ah ak) (Z0 ++ [Hq c0]) fun st0 h0=>⟨rfl,_,h0,LeL.refl _⟩
  ·rcases t2 with ak | z
   ·dsimp only at aa
    exact WS (by kernel_rfl) (az _ [(3,.own (.box (eOs 2 false F0_ ak)))] ak aa (show Own.canon [3] _=ofL _ by kernel_rfl) inferInstance)
   ·cases z
def KB:Code:=(Tryz.f131.body).getD .skip
def jO:zO:=spF (α:=z6) (ρ:=Bool × Int) 131 (fun x=>[zQ x]) (fun r=>.tup [eB r.1,(eI .i64) r.2]) (fun x=>Yu x) [] (UM)
theorem z02 (hC:zB Tryz.prog ctr) (h02:ctr.Has yk) (h17:ctr.Has qz):jO.Ok Tryz.prog:=by
 refine zD ?_
 rintro m_ r0 aa
 try unfold Yu at aa
 refine yO false [(2,none),(3,none)] KB 14 Tryz.func131 fun E hE=>?_
 obtain ⟨r_,h0,aa⟩:=zf aa
 let Z0:List HO:=[Hc h02 (x:=m_) h0 (loC zQ m_ <| loN)]
 rcases zL aa with ⟨c0,aa⟩ | ⟨c0,aa⟩
 ·obtain rfl:=zb aa
  exact yE X0 hC hE (Z0 ++ [Hq c0])
 ·obtain ⟨ah,h1,aa⟩:=zf aa
  obtain rfl:=zb aa
  exact yE X0 hC hE (Z0 ++ [Hq c0,Hc h17 (x:=m_) h1 (loC zQ m_ <| loN),Ha (lnM F0_ ah)])
def KA:Code:=(Tryz.f130.body).getD .skip
def jN:zO:=spF (α:=z6) (ρ:=Bool) 130 (fun x=>[z1n x]) (fun r=>eB r) (fun x=>Yt x) [] (UM)
theorem z01 (hC:zB Tryz.prog ctr) (h18:ctr.Has jO):jN.Ok Tryz.prog:=by
 refine zD ?_
 rintro x0 r0 aa
 try unfold Yt at aa
 refine yO true [(1,none)] KA 10 Tryz.func130 fun E hE=>?_
 obtain ⟨r_,h0,aa⟩:=zf aa
 obtain rfl:=zb aa
 exact yE X0 hC hE [Hc h18 (x:=x0) h0 (loC zQ x0 <| loN)]
def ZU:Code:=(Tryz.f144.body).getD .skip
abbrev Vm (bu:Value) (jv:Value) (jw:Value) (am:List z8) (x1:List Bool) (gm:Int) (gb:Int) (iz:List (List z8)) (dp:Int):List (Nat × T):=[(1,.own (.box (eOs 1 true eB x1))),(2,.own (.box (.agg [I gm,I gb,eSl 1 false yQ iz]))),(3,.own (.box (.fn 144 [.atom bu,.atom jv,.atom jw]))),(22,.d (eSl 2 false u3 am)),(23,.d (I ((am.length:Nat):Int))),(24,.d (I dp))]
theorem QL (hC:zB Tryz.prog ctr) (bu:Value) (jv:Value) (jw:Value):∀ (fu:Nat) (s_:Int) (y0:List Bool) (y1:z6) (r0:List Bool × z6),vG fu s_ y0 y1=some r0 → qK Tryz.prog (.fn 144 [.atom bu,.atom jv,.atom jw]) [I s_] ([bu,jv,jw].zip [.box (eOs 1 true eB y0),.box (.agg [I y1.Inputs,I y1.Outputs,eSl 1 false yQ y1.Rows]),.box (.fn 144 [.atom bu,.atom jv,.atom jw])]) (.tup []) [.box (eOs 1 true eB r0.1),.box (.agg [I r0.2.Inputs,I r0.2.Outputs,eSl 1 false yQ r0.2.Rows]),.box (.fn 144 [.atom bu,.atom jv,.atom jw])]:=by
 intro fu
 induction fu with
 | zero=>intro s_ y0 y1 r0 aa; exact nomatch (show none=some r0 from aa)
 | succ fu ih=>
  intro s_ y0 y1 r0 aa
  replace aa:uV (vG fu) s_ y0 y1=some r0:=aa
  generalize vG fu=mi at ih aa
  refine z6F (tt:=y9) (nt:=33) (body:=ZU) [1,2,3] zt Tryz.func144 rfl (by kernel_rfl) rfl rfl (by show (4:Nat) ≤ 33; decide) (by decide) rfl rfl (fun E hE=>?_) rfl
  unfold uV at aa
  rcases zL aa with ⟨c0,aa⟩ | ⟨c0,aa⟩
  ·obtain rfl:=zb aa
   exact yF X0 hC .ret [(1,.own (.box (eOs 1 true eB y0))),(2,.own (.box (.agg [I y1.Inputs,I y1.Outputs,eSl 1 false yQ y1.Rows]))),(3,.own (.box (.fn 144 [.atom bu,.atom jv,.atom jw])))] (rpN 5 (Hq c0) [qT]) fun st0 h0=>hE _ st0 (.inr rfl) (Wy h0 ⟨⟨rfl,rfl⟩,⟨⟨rfl,rfl⟩,⟨⟨rfl,rfl⟩,trivial⟩⟩⟩)
  ·obtain ⟨nk,h0,aa⟩:=zf aa
   let Z0:List HO:=[Hq c0,Hq c0,Hq c0,Hn (iL eB h0),Hq c0,Hs (iM eB h0),Hq c0]
   rcases zL aa with ⟨c1,aa⟩ | ⟨c1,aa⟩
   ·obtain rfl:=zb aa
    exact yF X0 hC .ret [(1,.own (.box (eOs 1 true eB y0))),(2,.own (.box (.agg [I y1.Inputs,I y1.Outputs,eSl 1 false yQ y1.Rows]))),(3,.own (.box (.fn 144 [.atom bu,.atom jv,.atom jw])))] (Z0 ++ [Hq c1]) fun st0 h0=>hE _ st0 (.inr rfl) (Wy h0 ⟨⟨rfl,rfl⟩,⟨⟨rfl,rfl⟩,⟨⟨rfl,rfl⟩,trivial⟩⟩⟩)
   ·obtain ⟨nr,h1,aa⟩:=zf aa
    obtain ⟨am,h2,aa⟩:=zf aa
    obtain ⟨t1,ht1,aa⟩:=zf aa
    refine yL X0 hC ZU [1,1,1,0] [] (fun s=>um mi am s.1 s.2.1 s.2.2.1 s.2.2.2.1 s.2.2.2.2) (fun x=>Vm bu jv jw am x.1 x.2.1 x.2.2.1 x.2.2.2.1 x.2.2.2.2) ((y0.set s_.toNat true),y1.Inputs,y1.Outputs,y1.Rows,0) ht1  (Z0 ++ [Hq c1,Hn (iL eB h1),Hs (iM eB h1),Hs (iM eB h1),Hl (sM eB y0 s_ true),Hi yQ h2,Ha (lnM u3 am)]) ?_
    rintro ⟨x1,gm,gb,iz,dp⟩ m1 a8 ae hl1 J1 az
    try unfold um at ae
    rcases zL ae with ⟨c2,ae⟩ | ⟨c2,ae⟩
    ·obtain ⟨au,h3,ae⟩:=zf ae
     obtain ⟨r_,h4,ae⟩:=zf ae
     obtain rfl:=zb ae
     exact yB ((Y1 (P:=Tryz.prog) y9 [1,2,3] (ih _ _ _ _ h4) 31).or X0) hC az (r_.1,r_.2.Inputs,r_.2.Outputs,r_.2.Rows,w64 (dp + 1)) hl1 [Hq c2,Hi u3 h3,Hn (VD (f:=.fn 144 [.atom bu,.atom jv,.atom jw]) (xs:=[(eI .i64) au.To]) (ls:=[(bu,.box (eOs 1 true eB x1)),(jv,.box (.agg [I gm,I gb,eSl 1 false yQ iz])),(jw,.box (.fn 144 [.atom bu,.atom jv,.atom jw]))]) (r:=.tup []) (ys:=[.box (eOs 1 true eB r_.1),.box (.agg [I r_.2.Inputs,I r_.2.Outputs,eSl 1 false yQ r_.2.Rows]),.box (.fn 144 [.atom bu,.atom jv,.atom jw])]) [(eI .i64) au.To] (show z0s [(eI .i64) au.To] [(eI .i64) au.To] from inferInstance))]
    ·obtain rfl:=zb ae
     obtain rfl:=hl1
     obtain rfl:=zb aa
     exact yF X0 hC .normal [(1,.own (.box (eOs 1 true eB x1))),(2,.own (.box (.agg [I gm,I gb,eSl 1 false yQ iz]))),(3,.own (.box (.fn 144 [.atom bu,.atom jv,.atom jw])))] [Hq c2] fun st0 h0=>hE _ st0 (.inl rfl) (Wy h0 ⟨⟨rfl,rfl⟩,⟨⟨rfl,rfl⟩,⟨⟨rfl,rfl⟩,trivial⟩⟩⟩)
def vD:Code:=(Tryz.f164.body).getD .skip
def vn:zO:=spF (α:=List Bool × Bool) (ρ:=Int) 164 (fun x=>[(eSl 1 false eB) x.1,eB x.2]) (fun r=>(eI .i64) r) (fun x=>uU x.1 x.2) [] (QM)
abbrev XP:List (Nat × T):=[]
abbrev XO (s_:List Bool) (v_:Bool) (x8:Int):List (Nat × T):=[(0,.d (eSl 1 false eB s_)),(1,.d (B v_)),(7,.d (I ((s_.length:Nat):Int))),(8,.d (I x8))]
theorem Uj (hC:zB Tryz.prog ctr):vn.Ok Tryz.prog:=by
 refine zD ?_
 rintro ⟨s_,v_⟩ r0 aa
 try unfold uU at aa
 refine yO true [(4,none)] vD 19 Tryz.func164 fun E hE=>?_
 refine yJ X0 hC vD [1] [] [] (fun z:Unit=>vt=some r0) (fun z=>XP) [(0,.d (eSl 1 false eB s_)),(1,.d (B v_))] [Hh (.cut 1)] ?_ fun J1 az=>?_
 ·rintro ⟨⟩ aa
  unfold vt at aa
  obtain rfl:=zb aa
  exact yE X0 hC hE []
 ·obtain ⟨t2,ht2,aa⟩:=zf aa
  refine yL X0 hC vD [1,2,1,0] [J1] (fun s=>vq s_ v_ s) (fun x=>XO s_ v_ x) 0 ht2  [Ha (lnM eB s_)] ?_
  rintro x8 m2 a8 ae hl1 J2 a6
  try unfold vq at ae
  rcases zL ae with ⟨c0,ae⟩ | ⟨c0,ae⟩
  ·obtain ⟨da,h0,ae⟩:=zf ae
   rcases zL ae with ⟨c1,ae⟩ | ⟨c1,ae⟩
   ·obtain rfl:=zb ae
    obtain rfl:=hl1
    obtain rfl:=zb aa
    exact yE X0 hC hE [Hq c0,Hi eB h0,Hq c1]
   ·obtain rfl:=zb ae
    exact yB X0 hC a6 (w64 (x8 + 1)) hl1 [Hq c0,Hi eB h0,Hq c1]
  ·obtain rfl:=zb ae
   obtain rfl:=hl1
   exact yB X0 hC az () aa [Hq c0]
def XN:Code:=(Tryz.f145.body).getD .skip
def ws:zO:=spF (α:=List Bool × Bool) (ρ:=Bool) 145 (fun x=>[(eSl 1 false eB) x.1,eB x.2]) (fun r=>eB r) (fun x=>vw x.1 x.2) [] (QM)
theorem W2 (hC:zB Tryz.prog ctr) (h19:ctr.Has vn):ws.Ok Tryz.prog:=by
 refine zD ?_
 rintro ⟨s_,v_⟩ r0 aa
 try unfold vw at aa
 refine yO true [(4,none)] XN 9 Tryz.func145 fun E hE=>?_
 obtain ⟨r_,h0,aa⟩:=zf aa
 obtain rfl:=zb aa
 exact yE X0 hC hE [Hc h19 (x:=(s_,v_)) h0 (loC (eSl 1 false eB) s_ <| loC eB v_ <| loN)]
def X7:Code:=(Tryz.f113.body).getD .skip
def v8:zO:=spF (α:=z6) (ρ:=Bool × Int) 113 (fun x=>[zQ x]) (fun r=>.tup [eB r.1,(eI .i64) r.2]) (fun x=>qb x) [] (UM)
theorem Kr (hC:zB Tryz.prog ctr) (h02:ctr.Has yk) (h0J:ctr.Has ws):v8.Ok Tryz.prog:=by
 refine zD ?_
 rintro m_ r0 aa
 try unfold qb at aa
 refine yO false [(2,none),(3,none)] X7 22 Tryz.func113 fun E hE=>?_
 obtain ⟨r_,h0,aa⟩:=zf aa
 let Z0:List HO:=[Hc h02 (x:=m_) h0 (loC zQ m_ <| loN)]
 rcases zL aa with ⟨c0,aa⟩ | ⟨c0,aa⟩
 ·obtain rfl:=zb aa
  exact yE X0 hC hE (Z0 ++ [Hq c0])
 ·obtain ⟨g0,aa⟩:=gdE aa
  refine yA X0 hC X7 [1,1,1,1] [] [(1,.own (.box (zQ m_))),(5,.own (.box (eOs 1 true eB (List.replicate ((m_.Rows.length:Nat):Int).toNat false)))),(6,.own (.box (.atom .nilFunc)))] (Z0 ++ [Hq c0,Ha (lnM yQ m_.Rows),Hn (rL g0),Ha (rM 1 eB ((m_.Rows.length:Nat):Int) false),Hh (.cut 1)]) ?_
  refine zdl (by kernel_rfl) 5 fun jx=>?_
  refine zdl (by kernel_rfl) 1 fun mv=>?_
  refine zdl (by kernel_rfl) 6 fun jy=>?_
  obtain ⟨ah,h1,aa⟩:=zf aa
  obtain ⟨aj,h2,aa⟩:=zf aa
  obtain rfl:=zb aa
  exact yE ((Y1 (P:=Tryz.prog) y9 [5,1,6] (QL hC jx mv jy V1 _ _ _ _ h1) 18).or ((xMk Tryz.prog y9).or X0)) hC hE [Hn (VD (f:=.fn 144 [.atom jx,.atom mv,.atom jy]) (xs:=[(eI .i64) 0]) (ls:=[(jx,.box (eOs 1 true eB (List.replicate ((m_.Rows.length:Nat):Int).toNat false))),(mv,.box (.agg [I m_.Inputs,I m_.Outputs,eSl 1 false yQ m_.Rows])),(jy,.box (.fn 144 [.atom jx,.atom mv,.atom jy]))]) (r:=.tup []) (ys:=[.box (eOs 1 true eB ah.1),.box (.agg [I ah.2.Inputs,I ah.2.Outputs,eSl 1 false yQ ah.2.Rows]),.box (.fn 144 [.atom jx,.atom mv,.atom jy])]) [(eI .i64) 0] (show z0s [(eI .i64) 0] [(eI .i64) 0] from inferInstance)),Hg (z1L h0J),Hm (shM eB eB ah.1),Hs (z1M h0J (x:=(ah.1,false)) h2 (loC (eSl 1 true eB) ah.1 <| loC eB false <| loN))]
def Kz:Code:=(Tryz.f132.body).getD .skip
def jM:zO:=spF (α:=z6) (ρ:=Bool) 132 (fun x=>[z1n x]) (fun r=>eB r) (fun x=>Ys x) [] (UM)
theorem z00 (hC:zB Tryz.prog ctr) (h0s:ctr.Has v8):jM.Ok Tryz.prog:=by
 refine zD ?_
 rintro x0 r0 aa
 try unfold Ys at aa
 refine yO true [(1,none)] Kz 10 Tryz.func132 fun E hE=>?_
 obtain ⟨r_,h0,aa⟩:=zf aa
 obtain rfl:=zb aa
 exact yE X0 hC hE [Hc h0s (x:=x0) h0 (loC zQ x0 <| loN)]
def z1R:Code:=(Tryz.f159.body).getD .skip
def Ym:zO:=spF (α:=z6) (ρ:=z6) 159 (fun x=>[zQ x]) (fun r=>(Qk 174 z1n) r) (fun x=>VN x) [] (UM)
theorem z2B (hC:zB Tryz.prog ctr):Ym.Ok Tryz.prog:=by
 refine zD ?_
 rintro m_ r0 aa
 try unfold VN at aa
 refine yO true [(2,none)] z1R 4 Tryz.func159 fun E hE=>?_
 obtain rfl:=zb aa
 exact yE X0 hC hE []
def ZS:Code:=(Tryz.f193.body).getD .skip
def Wk:zO:=spF (α:=z6 × List Int × Int) (ρ:=zz (wR Int)) 193 (fun x=>[zQ x.1,F7_ x.2.1,(eI .i64) x.2.2]) (fun r=>F8_ r) (fun x=>JO x.1 x.2.1 x.2.2) [] (z6I)
abbrev z1h (out:zz (wR Int)):List (Nat × T):=[(6,.own (.box (.agg [.agg [I 0,I 0],.agg [I 0,I 0],.agg [I 0,I 0],.agg [I 0,I 0],.agg [I 0,I 0],.agg [I 0,I 0],.agg [I 0,I 0],.agg [I 0,I 0],.agg [I 0,I 0],.agg [I 0,I 0],.agg [I 0,I 0],.agg [I 0,I 0],.agg [I 0,I 0],.agg [I 0,I 0],.agg [I 0,I 0],.agg [I 0,I 0]]))),(7,.own (.box (F8_ out)))]
abbrev z1g (p_:List Int) (am:List z8) (dh:Int) (a7:zz (wR Int)):List (Nat × T):=[(1,.d (eSl 1 false (eI .i64) p_)),(6,.own (.box (.agg [.agg [I 0,I 0],.agg [I 0,I 0],.agg [I 0,I 0],.agg [I 0,I 0],.agg [I 0,I 0],.agg [I 0,I 0],.agg [I 0,I 0],.agg [I 0,I 0],.agg [I 0,I 0],.agg [I 0,I 0],.agg [I 0,I 0],.agg [I 0,I 0],.agg [I 0,I 0],.agg [I 0,I 0],.agg [I 0,I 0],.agg [I 0,I 0]]))),(7,.own (.box (F8_ a7))),(14,.d (eSl 2 false u3 am)),(15,.d (I ((am.length:Nat):Int))),(16,.d (I dh))]
abbrev z1f (p_:List Int) (am:List z8) (ak:zz (wR Int)) (dh:Int):List (Nat × T):=[(1,.d (eSl 1 false (eI .i64) p_)),(6,.own (.box (.agg [.agg [I 0,I 0],.agg [I 0,I 0],.agg [I 0,I 0],.agg [I 0,I 0],.agg [I 0,I 0],.agg [I 0,I 0],.agg [I 0,I 0],.agg [I 0,I 0],.agg [I 0,I 0],.agg [I 0,I 0],.agg [I 0,I 0],.agg [I 0,I 0],.agg [I 0,I 0],.agg [I 0,I 0],.agg [I 0,I 0],.agg [I 0,I 0]]))),(7,.own (.box (F8_ ak))),(14,.d (eSl 2 false u3 am)),(15,.d (I ((am.length:Nat):Int))),(16,.d (I dh))]
theorem z5a (hC:zB Tryz.prog ctr):Wk.Ok Tryz.prog:=by
 refine zD ?_
 rintro ⟨m_,p_,s_⟩ r0 aa
 try unfold JO at aa
 refine yO false [(6,some 256)] ZS 39 Tryz.func193 fun E hE=>?_
 refine yJ X0 hC ZS [1,1] [] [6,7] (fun z:zz (wR Int)=>Ws z=some r0) (fun z=>z1h z) [(1,.d (eSl 1 false (eI .i64) p_)),(2,.d (I s_)),(3,.own (.box (zQ m_))),(6,.own (.box (.agg [.agg [I 0,I 0],.agg [I 0,I 0],.agg [I 0,I 0],.agg [I 0,I 0],.agg [I 0,I 0],.agg [I 0,I 0],.agg [I 0,I 0],.agg [I 0,I 0],.agg [I 0,I 0],.agg [I 0,I 0],.agg [I 0,I 0],.agg [I 0,I 0],.agg [I 0,I 0],.agg [I 0,I 0],.agg [I 0,I 0],.agg [I 0,I 0]]))),(7,.own (.box (.agg [.agg [I 0,I 0],.agg [I 0,I 0],.agg [I 0,I 0],.agg [I 0,I 0],.agg [I 0,I 0],.agg [I 0,I 0],.agg [I 0,I 0],.agg [I 0,I 0],.agg [I 0,I 0],.agg [I 0,I 0],.agg [I 0,I 0],.agg [I 0,I 0],.agg [I 0,I 0],.agg [I 0,I 0],.agg [I 0,I 0],.agg [I 0,I 0]])))] [Hh (.cut 2)] ?_ fun J1 az=>?_
 ·rintro out aa
  unfold Ws at aa
  obtain rfl:=zb aa
  exact yE X0 hC hE []
 ·obtain ⟨am,h0,aa⟩:=zf aa
  obtain ⟨t2,ht2,aa⟩:=zf aa
  refine yL X0 hC ZS [1,1,2,1,0] [J1] (fun s=>Wr p_ am s.1 s.2) (fun x=>z1f p_ am x.1 x.2) ((zz.mk (wR.mk 0 0) (wR.mk 0 0) (wR.mk 0 0) (wR.mk 0 0) (wR.mk 0 0) (wR.mk 0 0) (wR.mk 0 0) (wR.mk 0 0) (wR.mk 0 0) (wR.mk 0 0) (wR.mk 0 0) (wR.mk 0 0) (wR.mk 0 0) (wR.mk 0 0) (wR.mk 0 0) (wR.mk 0 0)),0) ht2  [Hi yQ h0,Ha (lnM u3 am)] ?_
  rintro ⟨ak,dh⟩ m2 a8 ae hl1 J2 a6
  try unfold Wr at ae
  rcases zL ae with ⟨c0,ae⟩ | ⟨c0,ae⟩
  ·refine yJ X0 hC ZS [1,1,2,1,0,0,1,1] [J1,J2] [1,6,7,14,15,16] (fun z:zz (wR Int)=>ZA dh z=some a8) (fun z=>z1g p_ am dh z) [(1,.d (eSl 1 false (eI .i64) p_)),(6,.own (.box (.agg [.agg [I 0,I 0],.agg [I 0,I 0],.agg [I 0,I 0],.agg [I 0,I 0],.agg [I 0,I 0],.agg [I 0,I 0],.agg [I 0,I 0],.agg [I 0,I 0],.agg [I 0,I 0],.agg [I 0,I 0],.agg [I 0,I 0],.agg [I 0,I 0],.agg [I 0,I 0],.agg [I 0,I 0],.agg [I 0,I 0],.agg [I 0,I 0]]))),(7,.own (.box (F8_ ak))),(14,.d (eSl 2 false u3 am)),(15,.d (I ((am.length:Nat):Int))),(16,.d (I dh))] [Hq c0,Hh (.cut 0)] ?_ fun J3 bz=>?_
   ·rintro a7 ae
    unfold ZA at ae
    obtain rfl:=zb ae
    exact yB X0 hC a6 (a7,w64 (dh + 1)) hl1 []
   ·obtain ⟨au,h1,ae⟩:=zf ae
    obtain ⟨cell,h2,ae⟩:=zf ae
    obtain ⟨arr,h3,ae⟩:=zf ae
    replace h3:=zb h3
    let Z0:List HO:=[Hi u3 h1,Hn (⟨arJ (by kernel_rfl) (i0 h2),(iL F0_ h2).2⟩:Zb y9 256 ((zz.toL ak).map F0_) dh=true ∧ dh.toNat < ((zz.toL ak).map F0_).length),Hh (.op 9),Hh (.f),Hs (iM F0_ h2),Hh (.f),Hs (iM F0_ h2),Hx (.l ((zz.toL arr).map F0_)) ((zz.setL F0_ ak dh (wR.mk au.Out (-1))).trans (congrArg (fun q=>(zz.toL q).map F0_) h3))]
    rcases zL ae with ⟨c1,ae⟩ | ⟨c1,ae⟩
    ·obtain ⟨ax,h4,ae⟩:=zf ae
     obtain ⟨bk,h5,ae⟩:=zf ae
     obtain ⟨arr1,h6,ae⟩:=zf ae
     replace h6:=zb h6
     exact yB X0 hC bz arr1 ae (Z0 ++ [Hq c1,Hi (eI .i64) h4,Hn (⟨arJ (by kernel_rfl) (i0 h5),(iL F0_ h5).2⟩:Zb y9 256 ((zz.toL arr).map F0_) dh=true ∧ dh.toNat < ((zz.toL arr).map F0_).length),Hh (.op 2),Hh (.f),Hs (iM F0_ h5),Hn (⟨rfl,by decide⟩:true=true ∧ 1 < 2),Hh (.op 0),Hh (.f),Hs (iM F0_ h5),Hh (.f),Hx (.a (I bk.e1)) (rfl:some (I bk.e1:A)=some (I bk.e1)),Hh (.f),Hs (iM F0_ h5),Hh (.f),Hx (.a (I bk.e1)) (rfl:some (I bk.e1:A)=some (I bk.e1)),Hx (.l [I bk.e0,I ax]) (rfl:([I bk.e0,I ax]:List A)=[I bk.e0,I ax]),Hx (.l ((zz.toL arr1).map F0_)) ((zz.setL F0_ arr dh (wR.mk bk.e0 ax)).trans (congrArg (fun q=>(zz.toL q).map F0_) h6))])
    ·exact yB X0 hC bz arr ae (Z0 ++ [Hq c1])
  ·obtain rfl:=zb ae
   obtain rfl:=hl1
   exact yB X0 hC az ak aa [Hq c0]
def qe:Code:=(Tryz.f175.body).getD .skip
def uX:zO:=spF (α:=z6 × List Int) (ρ:=List Int) 175 (fun x=>[zQ x.1,F7_ x.2]) (fun r=>F4_ r) (fun x=>Wt x.1 x.2) [] (QM)
abbrev K7 (out:List Int):List (Nat × T):=[(6,.own (eOs 1 true (eI .i64) out))]
abbrev K6 (m_:z6) (p_:List Int) (ak:List Int) (gi:Int) (ax:Int) (r_:zz (wR Int)) (ge:List (zI × Int)):List (Nat × T):=[(1,.d (eSl 1 false (eI .i64) p_)),(2,.own (.box (zQ m_))),(5,.own (.opq (QE (ZP z1q (eI .i64) ge)))),(6,.own (eOs 1 true (eI .i64) ak)),(7,.d (I gi)),(9,.own (.box (.agg [I ax,F8_ r_]))),(16,.d (eSl 1 false (eI .i64) p_)),(17,.d (I ((p_.length:Nat):Int))),(18,.d (I gi))]
abbrev K5 (m_:z6) (p_:List Int) (names:List (zI × Int)) (ak:List Int) (gi:Int):List (Nat × T):=[(1,.d (eSl 1 false (eI .i64) p_)),(2,.own (.box (zQ m_))),(5,.own (.opq (QE (ZP z1q (eI .i64) names)))),(6,.own (eOs 1 true (eI .i64) ak)),(16,.d (eSl 1 false (eI .i64) p_)),(17,.d (I ((p_.length:Nat):Int))),(18,.d (I gi))]
theorem z1s (hC:zB Tryz.prog ctr) (h1a:ctr.Has Wk):uX.Ok Tryz.prog:=by
 refine zD ?_
 rintro ⟨m_,p_⟩ r0 aa
 try unfold Wt at aa
 refine yO true [(4,none)] qe 49 Tryz.func175 fun E hE=>?_
 obtain ⟨g0,aa⟩:=gdE aa
 refine yJ ((zjc Tryz.prog 12).or X0) hC qe [1,1,1] [] [6] (fun z:List Int=>ZC z=some r0) (fun z=>K7 z) [(1,.d (eSl 1 false (eI .i64) p_)),(2,.own (.box (zQ m_))),(5,.own (.opq (QE (ZP z1q (eI .i64) ([]:List (zI × Int)))))),(6,.own (eOs 1 true (eI .i64) (List.replicate ((p_.length:Nat):Int).toNat (0:Int))))] [Ha (lnM (eI .i64) p_),Hn (rL g0),Ha (rM 1 (eI .i64) ((p_.length:Nat):Int) (0:Int)),Hh (.cut 0)] ?_ fun J1 az=>?_
 ·rintro out aa
  unfold ZC at aa
  obtain rfl:=zb aa
  exact yE X0 hC hE []
 ·obtain ⟨t2,ht2,aa⟩:=zf aa
  refine yL X0 hC qe [1,1,1,2,1,0] [J1] (fun s=>ZB m_ p_ s.1 s.2.1 s.2.2) (fun x=>K5 m_ p_ x.1 x.2.1 x.2.2) (([]:List (zI × Int)),(List.replicate ((p_.length:Nat):Int).toNat (0:Int)),0) ht2  [Ha (lnM (eI .i64) p_)] ?_
  rintro ⟨names,ak,gi⟩ m2 a8 ae hl1 J2 a6
  try unfold ZB at ae
  rcases zL ae with ⟨c0,ae⟩ | ⟨c0,ae⟩
  ·obtain ⟨ax,h0,ae⟩:=zf ae
   obtain ⟨r_,h1,ae⟩:=zf ae
   refine yJ X0 hC qe [1,1,1,2,1,0,0,1,1,0,0,1,1] [J1,J2] [1,2,5,6,7,9,16,17,18] (fun z:List (zI × Int)=>uZ ak gi ax r_ z=some a8) (fun z=>K6 m_ p_ ak gi ax r_ z) [(1,.d (eSl 1 false (eI .i64) p_)),(2,.own (.box (zQ m_))),(5,.own (.opq (QE (ZP z1q (eI .i64) names)))),(6,.own (eOs 1 true (eI .i64) ak)),(7,.d (I gi)),(9,.own (.box (.agg [I ax,F8_ r_]))),(16,.d (eSl 1 false (eI .i64) p_)),(17,.d (I ((p_.length:Nat):Int))),(18,.d (I gi))] [Hq c0,Hi (eI .i64) h0,Hc h1a (x:=(m_,p_,gi)) h1 (loC zQ m_ <| loC F7_ p_ <| loC (eI .i64) gi <| loN),Hh (.cut 0)] ?_ fun J3 bz=>?_
   ·rintro ge ae
    unfold uZ at ae
    obtain ⟨val,h2,ae⟩:=zf ae
    replace h2:=zb h2
    obtain ⟨jj,h3,ae⟩:=zf ae
    obtain rfl:=zb ae
    exact yB ((zb1 z7U 45 (ZP z1q (eI .i64) ge)).or X0) hC a6 (ge,(ak.set gi.toNat val),w64 (gi + 1)) hl1 [Hn (⟨rfl,rfl,z8b (fun _=>rfl) ge⟩:A.opq (QE (ZP z1q (eI .i64) ge))=A.opq (QE (ZP z1q (eI .i64) ge)) ∧ (z49 [.i64,.i64,.i64,.i64,.i64,.i64,.i64,.i64,.i64,.i64,.i64,.i64,.i64,.i64,.i64,.i64,.i64,.i64,.i64,.i64,.i64,.i64,.i64,.i64,.i64,.i64,.i64,.i64,.i64,.i64,.i64,.i64,.i64]) (z1q (zI.mk ax r_))=true ∧ ∀ p ∈ ZP z1q (eI .i64) ge,(z49 [.i64,.i64,.i64,.i64,.i64,.i64,.i64,.i64,.i64,.i64,.i64,.i64,.i64,.i64,.i64,.i64,.i64,.i64,.i64,.i64,.i64,.i64,.i64,.i64,.i64,.i64,.i64,.i64,.i64,.i64,.i64,.i64,.i64]) p.1=true),Hx (.a ((eI .i64) val)) ((zqD (f:=z1q) (g:=(eI .i64)) (z0:=0) (z:=.atom (.int .i64 0)) rfl (zI.mk ax r_) ge).trans (congrArg (eI .i64) h2)),Hn (iL (eI .i64) h3),Hs (iM (eI .i64) h3),Hs (iM (eI .i64) h3),Hl (sM (eI .i64) ak gi val)]
   ·obtain ⟨nc,h4,ae⟩:=zf ae
    replace h4:=zb h4
    let Z0:List HO:=[Hn (⟨rfl,rfl,z8b (fun _=>rfl) names⟩:A.opq (QE (ZP z1q (eI .i64) names))=A.opq (QE (ZP z1q (eI .i64) names)) ∧ (z49 [.i64,.i64,.i64,.i64,.i64,.i64,.i64,.i64,.i64,.i64,.i64,.i64,.i64,.i64,.i64,.i64,.i64,.i64,.i64,.i64,.i64,.i64,.i64,.i64,.i64,.i64,.i64,.i64,.i64,.i64,.i64,.i64,.i64]) (z1q (zI.mk ax r_))=true ∧ ∀ p ∈ ZP z1q (eI .i64) names,(z49 [.i64,.i64,.i64,.i64,.i64,.i64,.i64,.i64,.i64,.i64,.i64,.i64,.i64,.i64,.i64,.i64,.i64,.i64,.i64,.i64,.i64,.i64,.i64,.i64,.i64,.i64,.i64,.i64,.i64,.i64,.i64,.i64,.i64]) p.1=true),Hx (.a (.tup [I nc,B ((z8p names (zI.mk ax r_)).isSome)])) ((zrN (f:=z1q) (g:=(eI .i64)) (z0:=0) (z:=.atom (.int .i64 0)) rfl (zI.mk ax r_) names).trans (congrArg (fun x=>A.tup [(eI .i64) x,.atom (.bool (z8p names (zI.mk ax r_)).isSome)]) h4))]
    rcases zL ae with ⟨c1,ae⟩ | ⟨c1,ae⟩
    ·exact yB ((zpF z7U 37 (ZP z1q (eI .i64) names) (ZP z1q (eI .i64) (zdC names (zI.mk ax r_) ((names.length:Nat):Int)))).or ((zo0 z7U 40 (ZP z1q (eI .i64) names)).or ((zb1 z7U 32 (ZP z1q (eI .i64) names)).or X0))) hC bz (zdC names (zI.mk ax r_) ((names.length:Nat):Int)) ae (Z0 ++ [Hq c1,Hn (rfl:A.opq (QE (ZP z1q (eI .i64) names))=A.opq (QE (ZP z1q (eI .i64) names))),Hx (aLn names.length) (ziB z1q (eI .i64) names),Hn (⟨rfl,rfl,rfl,rfl,z8b (fun _=>rfl) names⟩:T.own (.opq (QE (ZP z1q (eI .i64) names)))=T.own (.opq (QE (ZP z1q (eI .i64) names))) ∧ 0=0 ∧ (z49 [.i64,.i64,.i64,.i64,.i64,.i64,.i64,.i64,.i64,.i64,.i64,.i64,.i64,.i64,.i64,.i64,.i64,.i64,.i64,.i64,.i64,.i64,.i64,.i64,.i64,.i64,.i64,.i64,.i64,.i64,.i64,.i64,.i64]) (z1q (zI.mk ax r_))=true ∧ ((eI .i64) ((names.length:Nat):Int)).isD=true ∧ ∀ p ∈ ZP z1q (eI .i64) names,(z49 [.i64,.i64,.i64,.i64,.i64,.i64,.i64,.i64,.i64,.i64,.i64,.i64,.i64,.i64,.i64,.i64,.i64,.i64,.i64,.i64,.i64,.i64,.i64,.i64,.i64,.i64,.i64,.i64,.i64,.i64,.i64,.i64,.i64]) p.1=true),Hn (zbO (f:=z1q) (g:=(eI .i64)) (zI.mk ax r_) ((names.length:Nat):Int) names)])
    ·exact yB ((zb1 z7U 32 (ZP z1q (eI .i64) names)).or X0) hC bz names ae (Z0 ++ [Hq c1])
  ·obtain rfl:=zb ae
   obtain rfl:=hl1
   exact yB X0 hC az ak aa [Hq c0]
def WQ:Code:=(Tryz.f174.body).getD .skip
abbrev Je (x0:z6) (YY:σ → z3m) (ct:σ) (p_:List Int):List (Nat × T):=[(0,.own (.opq (YY ct).q)),(1,.d (.sptr (zQ x0))),(3,.own (eOs 1 true (eI .i64) p_))]
theorem z0A (hC:zB Tryz.prog ctr) (h0t:ctr.Has uX) (h06:ctr.Has xw) (x0:z6):z8n Tryz.prog (.fn 174 [.sptr (.agg [I x0.Inputs,I x0.Outputs,eSl 1 false yQ x0.Rows])]) (fun (x:List Int) (_:Bool) (_:Value)=>[F7_ x]) (@kA x0):=by
 refine z4d (tt:=y9) (nt:=19) (body:=WQ) zt Tryz.func174 rfl (by kernel_rfl) rfl rfl (by show (2:Nat) ≤ 19; decide) ?_
 intro σ yv YY yy hy sg r0 aa E hE
 unfold kA at aa
 obtain ⟨g0,aa⟩:=gdE aa
 obtain ⟨t1,ht1,aa⟩:=zf aa
 refine yL X0 hC WQ [1,0] [] (fun s=>kV x0 yy s.1 s.2) (fun x=>Je x0 YY x.1 x.2) (sg,(List.replicate ((x0.Rows.length:Nat):Int).toNat (0:Int))) ht1  [Ha (lnM yQ x0.Rows),Hn (rL g0),Ha (rM 1 (eI .i64) ((x0.Rows.length:Nat):Int) (0:Int))] ?_
 rintro ⟨ct,p_⟩ m1 a8 ae hl1 J1 az
 try unfold kV at ae
 obtain ⟨yr,h0,ae⟩:=zf ae
 let Z0:List HO:=[Hm (shM (eI .i64) (eI .i64) p_),Hn (z3E (yv:=yv) (Y:=YY) (enc:=(fun (x:List Int) (_:Bool) (_:Value)=>[F7_ x])) (s:=ct) (x:=p_) (s':=yr.1) (b:=yr.2) (v:=.nilFunc) [F3_ p_] (show z0s [F3_ p_] [F7_ p_] from inferInstance))]
 rcases zL ae with ⟨c0,ae⟩ | ⟨c0,ae⟩
 ·obtain ⟨r_,h1,ae⟩:=zf ae
  obtain ⟨ah,h2,ae⟩:=zf ae
  let Z1:List HO:=(Z0 ++ [Hq c0,Hc h0t (x:=(x0,p_)) h1 (loC zQ x0 <| loC F3_ p_ <| loN),Hg (z1L h06),Hm (shM (eI .i64) (eI .i64) r_),Hs (z1M h06 (x:=(p_,r_)) h2 (loC F3_ p_ <| loC F3_ r_ <| loN))])
  rcases zL ae with ⟨c1,ae⟩ | ⟨c1,ae⟩
  ·obtain rfl:=zb ae
   obtain rfl:=hl1
   obtain rfl:=zb aa
   exact yF ((Jl (P:=Tryz.prog) y9 hy 11 (s:=ct) (x:=p_) (s':=yr.1) (b:=yr.2) .nilFunc h0).or X0) hC .ret [(0,.own (.opq (YY yr.1).q))] (Z1 ++ [Hq c1]) fun st0 h0=>hE _ st0 (.inr rfl) h0
  ·obtain rfl:=zb ae
   exact yB ((Jl (P:=Tryz.prog) y9 hy 11 (s:=ct) (x:=p_) (s':=yr.1) (b:=yr.2) .nilFunc h0).or X0) hC az (yr.1,r_) hl1 (Z1 ++ [Hq c1])
 ·obtain rfl:=zb ae
  obtain rfl:=hl1
  obtain rfl:=zb aa
  exact yF ((Jl (P:=Tryz.prog) y9 hy 11 (s:=ct) (x:=p_) (s':=yr.1) (b:=yr.2) .nilFunc h0).or X0) hC .normal [(0,.own (.opq (YY yr.1).q))] (Z0 ++ [Hq c0]) fun st0 h0=>hE _ st0 (.inl rfl) h0
def wg:Code:=(Tryz.f134.body).getD .skip
def Zt:zO:=spF (α:=z6) (ρ:=List Int × Int × Int) 134 (fun x=>[zQ x]) (fun r=>.tup [F7_ r.1,(eI .i64) r.2.1,(eI .i64) r.2.2]) (fun x=>Wu x) [] (UM)
abbrev K8 (p_:List Int) (n_:Int):List (Nat × T):=[(2,.own (.box (eSl 1 false (eI .i64) p_))),(3,.own (.box (I n_)))]
abbrev Xa (ah:z6) (ko:List Int) (dj:Int):List (Nat × T):=[(2,.own (.box (eSl 1 false (eI .i64) ko))),(3,.own (.box (I dj))),(13,.d (.fn 174 [.sptr (.agg [I ah.Inputs,I ah.Outputs,eSl 1 false yQ ah.Rows])]))]
theorem z1t (hC:zB Tryz.prog ctr) (h02:ctr.Has yk) (h1b:ctr.Has Ym) (h0t:ctr.Has uX) (h06:ctr.Has xw):Zt.Ok Tryz.prog:=by
 refine zD ?_
 rintro m_ r0 aa
 try unfold Wu at aa
 refine yO false [(2,some 51),(3,some 3),(4,none)] wg 20 Tryz.func134 fun E hE=>?_
 obtain ⟨r_,h0,aa⟩:=zf aa
 let Z0:List HO:=[Hh (.v 2 [2]),Hm (shM (eI .i64) (eI .i64) []),Hc h02 (x:=m_) h0 (loC zQ m_ <| loN)]
 rcases zL aa with ⟨c0,aa⟩ | ⟨c0,aa⟩
 ·obtain rfl:=zb aa
  exact yEx X0 hC hE (Z0 ++ [Hq c0,Hm (shM (eI .i64) (eI .i64) [])]) (.tup [eSl 1 true (eI .i64) [],I 0,I r_]) (show LeV (.tup [eSl 1 true (eI .i64) [],I 0,I r_]) (.tup [eSl 1 false (eI .i64) ([]:List Int),I 0,I r_]) from inferInstance)
 ·refine yJ X0 hC wg [1,1,1] [] [2,3] (fun z:List Int × Int=>ZD z.1 z.2=some r0) (fun z=>K8 z.1 z.2) [(1,.own (.box (zQ m_))),(2,.own (.box (eSl 1 true (eI .i64) []))),(3,.own (.box (I (-1))))] (Z0 ++ [Hq c0,Hh (.cut 1)]) ?_ fun J1 az=>?_
  ·rintro ⟨p_,n_⟩ aa
   unfold ZD at aa
   obtain rfl:=zb aa
   exact yE X0 hC hE []
  ·obtain ⟨ah,h1,aa⟩:=zf aa
   obtain ⟨t2,ht2,aa⟩:=zf aa
   refine yAt X0 hC (sub [1,1,1,2,1,0] wg) (frs [1,1,1,2,1,0] [J1] wg []) [(2,.own (.box (eSl 1 true (eI .i64) []))),(3,.own (.box (I (-1)))),(13,.d (.fn 174 [.sptr (.agg [I ah.Inputs,I ah.Outputs,eSl 1 false yQ ah.Rows])]))] [Hc h1b (x:=m_) h1 (loC zQ m_ <| loN)] fun st0 h0=>?_
   refine z1V (g:=.tmp 13) (ps:=[14]) (assign:=(sub [1,1,1,2,1,0,0] wg)) (body:=(sub [1,1,1,2,1,0,1] wg)) (K:=174) (caps:=[.sptr (.agg [I ah.Inputs,I ah.Outputs,eSl 1 false yQ ah.Rows])]) (by kernel_rfl) [2,3,13] (fun s=>Xa ah s.1 s.2) (fun z=>nomatch z) (fun z=>nomatch z) ((fun (x:List Int) (_:Bool) (_:Value)=>[F7_ x])) (F:=@kA ah) (fun s x=>q9 s.1 s.2 x) (([]:List Int),(-1)) t2 _ h0 inferInstance (by kernel_rfl) (by decide) (fun _=>rfl) (by rintro ⟨⟩) (by kernel_rfl) (fun _ _ _=>rfl) (z0A hC h0t h06 ah) ht2 ?_ ?_
   ·rintro m0 ⟨ko,dj⟩ lb vr a8 ae
    replace ae:q9 ko dj lb=some a8:=ae
    unfold q9 at ae
    refine yF X0 hC .normal [(2,.own (.box (eSl 1 false (eI .i64) ko))),(3,.own (.box (I dj))),(6,.d (eSl 1 false (eI .i64) lb)),(13,.d (.fn 174 [.sptr (.agg [I ah.Inputs,I ah.Outputs,eSl 1 false yQ ah.Rows])]))] [] fun st0 h0=>⟨rfl,z6Y h0 ?_⟩
    obtain rfl:=zb ae
    exact yF X0 hC .normal (Xa ah lb (w64 (dj + 1))) [] fun st0 h0=>⟨rfl,_,h0,LeL.refl _⟩
   ·rcases t2 with ⟨ko,dj⟩ | z
    ·dsimp only at aa
     exact WS (by kernel_rfl) (az _ [(2,.own (.box (eSl 1 false (eI .i64) ko))),(3,.own (.box (I dj)))] (ko,dj) aa (show Own.canon [2,3] _=ofL _ by kernel_rfl) inferInstance)
    ·cases z
def qJ:Code:=(Tryz.f135.body).getD .skip
def qw:zO:=spF (α:=List Int) (ρ:=Int) 135 (fun x=>[F7_ x]) (fun r=>(eI .i64) r) (fun x=>Zx x) [] (UM)
abbrev UK (m_:Int):List (Nat × T):=[(3,.d (I m_))]
abbrev UJ (x_:List Int) (ly:Int) (i_:Int):List (Nat × T):=[(0,.d (eSl 1 false (eI .i64) x_)),(3,.d (I ly)),(4,.d (I i_))]
theorem Kp (hC:zB Tryz.prog ctr):qw.Ok Tryz.prog:=by
 refine zD ?_
 rintro x_ r0 aa
 try unfold Zx at aa
 refine yO true [(2,none)] qJ 25 Tryz.func135 fun E hE=>?_
 rcases zL aa with ⟨c0,aa⟩ | ⟨c0,aa⟩
 ·cases aa
 ·obtain ⟨j7,h0,aa⟩:=zf aa
  refine yJ X0 hC qJ [1,1,1] [] [3] (fun z:Int=>qD z=some r0) (fun z=>UK z) [(0,.d (eSl 1 false (eI .i64) x_)),(3,.d (I j7))] [Ha (lnM (eI .i64) x_),Hq c0,Hi (eI .i64) h0,Hh (.cut 0)] ?_ fun J1 az=>?_
  ·rintro m_ aa
   unfold qD at aa
   obtain rfl:=zb aa
   exact yE X0 hC hE []
  ·obtain ⟨t2,ht2,aa⟩:=zf aa
   refine yL X0 hC qJ [1,1,1,2,1,0] [J1] (fun s=>qC x_ s.1 s.2) (fun x=>UJ x_ x.1 x.2) (j7,1) ht2  [] ?_
   rintro ⟨ly,i_⟩ m2 a8 ae hl1 J2 a6
   try unfold qC at ae
   rcases zL ae with ⟨c1,ae⟩ | ⟨c1,ae⟩
   ·obtain ⟨jr,h1,ae⟩:=zf ae
    obtain rfl:=zb ae
    exact yB X0 hC a6 ((mx ly jr),w64 (i_ + 1)) hl1 [Ha (lnM (eI .i64) x_),Hq c1,Hi (eI .i64) h1]
   ·obtain rfl:=zb ae
    obtain rfl:=hl1
    exact yB X0 hC az ly aa [Ha (lnM (eI .i64) x_),Hq c1]
def Ky:Code:=(Tryz.f133.body).getD .skip
def jL:zO:=spF (α:=z6) (ρ:=Bool) 133 (fun x=>[z1n x]) (fun r=>eB r) (fun x=>Yr x) [] (UM)
theorem KZ (hC:zB Tryz.prog ctr) (h1d:ctr.Has Zt) (h1e:ctr.Has qw):jL.Ok Tryz.prog:=by
 refine zD ?_
 rintro x0 r0 aa
 try unfold Yr at aa
 refine yO true [(1,none)] Ky 17 Tryz.func133 fun E hE=>?_
 obtain ⟨r_,h0,aa⟩:=zf aa
 obtain ⟨ah,h1,aa⟩:=zf aa
 obtain rfl:=zb aa
 exact yE X0 hC hE [Hc h1d (x:=x0) h0 (loC zQ x0 <| loN),Hc h1e (x:=r_.1) h1 (loC F7_ r_.1 <| loN),Ha (lnM (eI .i64) r_.1)]
def WR:Code:=(Tryz.f58.body).getD .skip
def wJ:zO:=spF (α:=z6) (ρ:=Int) 58 (fun x=>[zQ x]) (fun r=>(eI .i64) r) (fun x=>uw x) [] (UM)
abbrev Jf:List (Nat × T):=[]
theorem z0B (hC:zB Tryz.prog ctr) (h02:ctr.Has yk) (h1f:ctr.Has Zu) (h1g:ctr.Has jN) (h1h:ctr.Has jM) (h1i:ctr.Has jL):wJ.Ok Tryz.prog:=by
 refine zD ?_
 rintro m_ r0 aa
 try unfold uw at aa
 refine yO true [(2,none)] WR 23 Tryz.func58 fun E hE=>?_
 obtain ⟨r_,h0,aa⟩:=zf aa
 let Z0:List HO:=[Hc h02 (x:=m_) h0 (loC zQ m_ <| loN)]
 rcases zL aa with ⟨c0,aa⟩ | ⟨c0,aa⟩
 ·obtain rfl:=zb aa
  exact yE X0 hC hE (Z0 ++ [Hq c0])
 ·refine yJ X0 hC WR [1,1] [] [] (fun z:Unit=>kW=some r0) (fun z=>Jf) [(1,.own (.box (zQ m_)))] (Z0 ++ [Hq c0,Hh (.cut 0)]) ?_ fun J1 az=>?_
  ·rintro ⟨⟩ aa
   unfold kW at aa
   obtain rfl:=zb aa
   exact yE X0 hC hE []
  ·obtain ⟨ah,h1,aa⟩:=zf aa
   obtain ⟨aj,h2,aa⟩:=zf aa
   let Z1:List HO:=[Hc h1f (x:=m_) h1 (loC zQ m_ <| loN),Hh (.u 70),qT,Hc h1g (x:=ah.1.2) h2 (loC z1n ah.1.2 <| loN)]
   rcases zL aa with ⟨c1,aa⟩ | ⟨c1,aa⟩
   ·obtain rfl:=zb aa
    exact yE X0 hC hE (Z1 ++ [Hq c1])
   ·obtain ⟨aw,h3,aa⟩:=zf aa
    let Z2:List HO:=(Z1 ++ [Hq c1,qT,Hc h1h (x:=ah.2.1.2) h3 (loC z1n ah.2.1.2 <| loN)])
    rcases zL aa with ⟨c2,aa⟩ | ⟨c2,aa⟩
    ·obtain rfl:=zb aa
     exact yE X0 hC hE (Z2 ++ [Hq c2])
    ·obtain ⟨cd,h4,aa⟩:=zf aa
     let Z3:List HO:=(Z2 ++ [Hq c2,qT,Hc h1i (x:=ah.2.2.2) h4 (loC z1n ah.2.2.2 <| loN)])
     rcases zL aa with ⟨c3,aa⟩ | ⟨c3,aa⟩
     ·obtain rfl:=zb aa
      exact yE X0 hC hE (Z3 ++ [Hq c3])
     ·exact yB X0 hC az () aa (Z3 ++ [Hq c3,qF])
def z4v:Code:=(Tryz.f25.body).getD .skip
def Zs:zO:=spF (α:=z6 × Int) (ρ:=Int) 25 (fun x=>[zQ x.1,(eI .i64) x.2]) (fun r=>(eI .i64) r) (fun x=>Vq x.1 x.2) [] (QM)
theorem z56 (hC:zB Tryz.prog ctr) (h0d:ctr.Has wJ):Zs.Ok Tryz.prog:=by
 refine zD ?_
 rintro ⟨m_,bound⟩ r0 aa
 try unfold Vq at aa
 refine yO true [(4,none)] z4v 24 Tryz.func25 fun E hE=>?_
 obtain ⟨r_,h0,aa⟩:=zf aa
 let Z0:List HO:=[Hc h0d (x:=m_) h0 (loC zQ m_ <| loN)]
 rcases zL aa with ⟨c0,aa⟩ | ⟨c0,aa⟩
 ·obtain rfl:=zb aa
  exact yE X0 hC hE (Z0 ++ [Hq c0])
 ·let Z1:List HO:=(Z0 ++ [Hq c0,Ha (lnM yQ m_.Rows)])
  rcases zL aa with ⟨c1,aa⟩ | ⟨c1,aa⟩
  ·obtain rfl:=zb aa
   exact yE X0 hC hE (Z1 ++ (rpN 7 (Hq c1) [qT]))
  ·let Z2:List HO:=(Z1 ++ (rpN 4 (Hq c1) [Ha (lnM yQ m_.Rows),Hq c1,Hq c1,Hq c1]))
   rcases zL aa with ⟨c2,aa⟩ | ⟨c2,aa⟩
   ·obtain rfl:=zb aa
    exact yE X0 hC hE (Z2 ++ [Hq c2])
   ·obtain rfl:=zb aa
    exact yE X0 hC hE (Z2 ++ [Hq c2])
def z1O:Code:=(Tryz.f165.body).getD .skip
def Yk:zO:=spF (α:=z6 × Int) (ρ:=z6 × Int) 165 (fun x=>[zQ x.1,(eI .i64) x.2]) (fun r=>(zrP 186 z1n (eSp (eI .i64))) r) (fun x=>Vy x.1 x.2) [] (QM)
theorem z2w (hC:zB Tryz.prog ctr):Yk.Ok Tryz.prog:=by
 refine zD ?_
 rintro ⟨m_,from_⟩ r0 aa
 try unfold Vy at aa
 refine yO true [(4,none)] z1O 6 Tryz.func165 fun E hE=>?_
 obtain rfl:=zb aa
 exact yEx X0 hC hE [] (.fn 186 [.sptr (.agg [I m_.Inputs,I m_.Outputs,eSl 1 false yQ m_.Rows]),.sptr (I from_)]) (show LeV (.fn 186 [.sptr (.agg [I m_.Inputs,I m_.Outputs,eSl 1 false yQ m_.Rows]),.sptr (I from_)]) (.fn 186 [.sptr (.agg [I (((m_,from_).1).Inputs),I (((m_,from_).1).Outputs),eSl 1 false yQ (((m_,from_).1).Rows)]),.sptr (I ((m_,from_).2))]) from inferInstance)
def xc:Code:=(Tryz.f186.body).getD .skip
abbrev QQ (x0:z6) (YY:σ → z3m) (bp:zm) (yr:σ × Bool) (am:List z8) (gj:Int) (co:List Bool) (ke:List zm):List (Nat × T):=[(0,.own (.opq (YY yr.1).q)),(1,.d (.sptr (zQ x0))),(4,.own (eOs 1 true eB co)),(5,.own (eDq 3 Zo ke)),(6,.own (.box (Zo bp))),(36,.d (eSl 2 false u3 am)),(37,.d (I ((am.length:Nat):Int))),(38,.d (I gj))]
abbrev QO (x0:z6) (YY:σ → z3m) (bp:zm) (yr:σ × Bool) (am:List z8) (dz:List Bool) (dl:List zm) (gj:Int):List (Nat × T):=[(0,.own (.opq (YY yr.1).q)),(1,.d (.sptr (zQ x0))),(4,.own (eOs 1 true eB dz)),(5,.own (eDq 3 Zo dl)),(6,.own (.box (Zo bp))),(36,.d (eSl 2 false u3 am)),(37,.d (I ((am.length:Nat):Int))),(38,.d (I gj))]
abbrev QP (x0:z6) (YY:σ → z3m) (ct:σ) (ie:List Bool) (cj:List zm):List (Nat × T):=[(0,.own (.opq (YY ct).q)),(1,.d (.sptr (zQ x0))),(4,.own (eOs 1 true eB ie)),(5,.own (eDq 3 Zo cj))]
theorem z0w (hC:zB Tryz.prog ctr) (x0:z6) (x1:Int):z8n Tryz.prog (.fn 186 [.sptr (.agg [I x0.Inputs,I x0.Outputs,eSl 1 false yQ x0.Rows]),.sptr (I x1)]) (fun (x:zm) (_:Bool) (_:Value)=>[Zo x]) (@jX x0 x1):=by
 refine z4d (tt:=y9) (nt:=68) (body:=xc) zt Tryz.func186 rfl (by kernel_rfl) rfl rfl (by show (3:Nat) ≤ 68; decide) ?_
 intro σ yv YY yy hy sg r0 aa E hE
 unfold jX at aa
 obtain ⟨g0,aa⟩:=gdE aa
 obtain ⟨kc,h0,aa⟩:=zf aa
 obtain ⟨t1,ht1,aa⟩:=zf aa
 refine yLx X0 hC xc [1,1,1,0] [] (fun s=>kE x0 yy s.1 s.2.1 s.2.2) (fun x=>QP x0 YY x.1 x.2.1 x.2.2) (sg,((List.replicate ((x0.Rows.length:Nat):Int).toNat false).set x1.toNat true),([(zm.mk x1 (-1) (-1))]:List zm)) ht1 [(0,.own (.opq (YY sg).q)),(1,.d (.sptr (zQ x0))),(4,.own (eOs 1 true eB ((List.replicate ((x0.Rows.length:Nat):Int).toNat false).set x1.toNat true))),(5,.own (eOs 3 true Zo ([(zm.mk x1 (-1) (-1))])))] inferInstance [Ha (lnM yQ x0.Rows),Hn (rL g0),Ha (rM 1 eB ((x0.Rows.length:Nat):Int) false),Hn (iL eB h0),Hs (iM eB h0),Hs (iM eB h0),Hl (sM eB (List.replicate ((x0.Rows.length:Nat):Int).toNat false) x1 true)] ?_
 rintro ⟨ct,ie,cj⟩ m1 a8 ae hl1 J1 az
 try unfold kE at ae
 let Z0:List HO:=[Hn (rfl:eDq 3 Zo cj=A.opq (z3V 3 (cj.map Zo)).q),Ha (lnM Zo cj)]
 rcases zL ae with ⟨c0,ae⟩ | ⟨c0,ae⟩
 ·refine yA ((xQl zt 20 244 3 (cj.map Zo) (by kernel_rfl)).or X0) hC xc [1,1,1,0,0,1,0] [J1] [(0,.own (.opq (YY ct).q)),(1,.d (.sptr (zQ x0))),(4,.own (eOs 1 true eB ie)),(5,.own (eDq 3 Zo cj))] (Z0 ++ [Hq c0,Hh (.cut 0)]) ?_
  obtain ⟨bp,h1,ae⟩:=zf ae
  refine z8j (by kernel_rfl) (x:=(sub [1,1,1,0,0,1,0,0] xc)) (y:=(sub [1,1,1,0,0,1,0,1] xc)) 5 (fun st1=>Own.canon [0,1,4,5,6] st1=ofL [(0,.own (.opq (YY ct).q)),(1,.d (.sptr (zQ x0))),(4,.own (eOs 1 true eB ie)),(5,.own (eDq 3 Zo cj)),(6,.own (.box (Zo bp)))]) (fun jx=>yF ((xQd zt 24 3 5 jx (0:Int) (cj.map Zo) (Zo bp)).or ((xQi zt 23 3 5 jx (cj.map Zo)).or X0)) hC .normal [(0,.own (.opq (YY ct).q)),(1,.d (.sptr (zQ x0))),(4,.own (eOs 1 true eB ie)),(5,.own (eDq 3 Zo cj)),(6,.own (.box (Zo bp)))] [Hn (⟨rfl,rfl,rfl,rfl,i0 h1,(iL Zo h1).2⟩:T.als 5 [] 0 0=T.als 5 [] 0 0 ∧ some jx=some jx ∧ T.own (eDq 3 Zo cj)=T.own (eDq 3 Zo cj) ∧ some 3=some 3 ∧ (0:Int) ≤ 0 ∧ (0:Int).toNat < (cj.map Zo).length),Hn (⟨rfl,rfl,rfl,iM Zo h1,rfl,z0v.isD bp⟩:T.d (.atom (zau 3 jx (0:Int)))=T.d (.atom (zau 3 jx (0:Int))) ∧ some jx=some jx ∧ T.own (eDq 3 Zo cj)=T.own (eDq 3 Zo cj) ∧ (cj.map Zo)[(0:Int).toNat]?=some (Zo bp) ∧ true=true ∧ (Zo bp).isD=true)] fun st0 h0=>⟨rfl,h0⟩) fun st1 h1=>z6Y h1 ?_
  obtain ⟨g1,ae⟩:=gdE ae
  obtain ⟨yr,h2,ae⟩:=zf ae
  let Z1:List HO:=[Hn (rfl:eDq 3 Zo cj=A.opq (z3V 3 (cj.map Zo)).q),Hn (⟨g1.1,cuB Zo g1⟩:(0:Int) ≤ 1 ∧ (1:Int).toNat ≤ (cj.map Zo).length),Hn (drM Zo cj (1:Int).toNat),Hn (z3E (yv:=yv) (Y:=YY) (enc:=(fun (x:zm) (_:Bool) (_:Value)=>[Zo x])) (s:=ct) (x:=bp) (s':=yr.1) (b:=yr.2) (v:=.nilFunc) [Zo bp] (show z0s [Zo bp] [Zo bp] from inferInstance))]
  rcases zL ae with ⟨c1,ae⟩ | ⟨c1,ae⟩
  ·obtain rfl:=zb ae
   obtain rfl:=hl1
   obtain rfl:=zb aa
   exact yF ((Jl (P:=Tryz.prog) y9 hy 29 (s:=ct) (x:=bp) (s':=yr.1) (b:=yr.2) .nilFunc h2).or ((xQs zt 26 3 (cj.map Zo) ((cj.drop (1:Int).toNat).map Zo)).or X0)) hC .ret [(0,.own (.opq (YY yr.1).q))] (Z1 ++ [Hq c1]) fun st0 h0=>hE _ st0 (.inr rfl) h0
  ·obtain ⟨am,h3,ae⟩:=zf ae
   obtain ⟨t2,ht2,ae⟩:=zf ae
   refine yL ((Jl (P:=Tryz.prog) y9 hy 29 (s:=ct) (x:=bp) (s':=yr.1) (b:=yr.2) .nilFunc h2).or ((xQs zt 26 3 (cj.map Zo) ((cj.drop (1:Int).toNat).map Zo)).or X0)) hC xc [1,1,1,0,0,1,0,1,1,1,1,0] [J1] (fun s=>kD bp yr am s.1 s.2.1 s.2.2) (fun x=>QO x0 YY bp yr am x.1 x.2.1 x.2.2) (ie,(cj.drop (1:Int).toNat),0) ht2  (Z1 ++ [Hq c1,Hi yQ h3,Ha (lnM u3 am)]) ?_
   rintro ⟨dz,dl,gj⟩ m2 ez ai hl2 J2 a6
   try unfold kD at ai
   rcases zL ai with ⟨c2,ai⟩ | ⟨c2,ai⟩
   ·refine yJ X0 hC xc [1,1,1,0,0,1,0,1,1,1,1,0,0,1,1] [J1,J2] [0,1,4,5,6,36,37,38] (fun z:List Bool × List zm=>wF gj z.1 z.2=some ez) (fun z=>QQ x0 YY bp yr am gj z.1 z.2) [(0,.own (.opq (YY yr.1).q)),(1,.d (.sptr (zQ x0))),(4,.own (eOs 1 true eB dz)),(5,.own (eDq 3 Zo dl)),(6,.own (.box (Zo bp))),(36,.d (eSl 2 false u3 am)),(37,.d (I ((am.length:Nat):Int))),(38,.d (I gj))] [Hq c2,Hh (.cut 0)] ?_ fun J3 bz=>?_
    ·rintro ⟨co,ke⟩ ai
     unfold wF at ai
     obtain rfl:=zb ai
     exact yB X0 hC a6 (co,ke,w64 (gj + 1)) hl2 []
    ·obtain ⟨au,h4,ai⟩:=zf ai
     let Z2:List HO:=[Hi u3 h4]
     rcases zL ai with ⟨c3,ai⟩ | ⟨c3,ai⟩
     ·obtain ⟨mj,h5,ai⟩:=zf ai
      let Z3:List HO:=(Z2 ++ (rpN 4 (Hq c3) [Hn (iL eB h5),Hq c3,Hs (iM eB h5),Hq c3,Hq c3]))
      rcases zL ai with ⟨c4,ai⟩ | ⟨c4,ai⟩
      ·obtain ⟨nb,h6,ai⟩:=zf ai
       obtain ⟨g2,ai⟩:=gdE ai
       exact yB ((xQa zt 66 3 (dl.map Zo) ((dl ++ ([(zm.mk au.To bp.state_ gj)]:List zm)).map Zo)).or X0) hC bz ((dz.set au.To.toNat true),(dl ++ ([(zm.mk au.To bp.state_ gj)]:List zm))) ai (Z3 ++ [Hq c4,Hn (iL eB h6),Hs (iM eB h6),Hs (iM eB h6),Hl (sM eB dz au.To true),Hn (⟨rfl,dM Zo ([(zm.mk au.To bp.state_ gj)]:List zm),rfl⟩:3=3 ∧ A.areD (([(zm.mk au.To bp.state_ gj)]:List zm).map Zo)=true ∧ true=true),Hn (⟨rfl,aL Zo Zo g2,dM Zo dl⟩:eDq 3 Zo dl=A.opq (z3V 3 (dl.map Zo)).q ∧ (dl.map Zo).length + (([(zm.mk au.To bp.state_ gj)]:List zm).map Zo).length ≤ lim ∧ A.areD (dl.map Zo)=true),Hn (aM Zo dl ([(zm.mk au.To bp.state_ gj)]:List zm))])
      ·exact yB X0 hC bz (dz,dl) ai (Z3 ++ [Hq c4])
     ·exact yB X0 hC bz (dz,dl) ai (Z2 ++ (rpN 7 (Hq c3) [qF]))
   ·obtain rfl:=zb ai
    obtain rfl:=hl2
    obtain rfl:=zb ae
    exact yB X0 hC az (yr.1,dz,dl) hl1 [Hq c2]
 ·obtain rfl:=zb ae
  obtain rfl:=hl1
  obtain rfl:=zb aa
  exact yF ((xQl zt 20 244 3 (cj.map Zo) (by kernel_rfl)).or X0) hC .normal [(0,.own (.opq (YY ct).q))] (Z0 ++ [Hq c0]) fun st0 h0=>hE _ st0 (.inl rfl) h0
def Qp:Code:=(Tryz.f139.body).getD .skip
def xx:zO:=spF (α:=List Int) (ρ:=List Int) 139 (fun x=>[F7_ x]) (fun r=>F6_ r) (fun x=>wp x) [] (UM)
theorem QK (hC:zB Tryz.prog ctr):xx.Ok Tryz.prog:=by
 refine zD ?_
 rintro s_ r0 aa
 try unfold wp at aa
 refine yO true [(2,none)] Qp 8 Tryz.func139 fun E hE=>?_
 refine zdk rfl 0 (sz:=1) (t:=false) (es:=s_.map (eI .i64)) (by kernel_rfl) fun bo hv0 hn=>?_
 rcases hn with ⟨hn0,he0⟩ | hn0
 ·obtain ⟨_,aa⟩:=gdE aa
  rw [show s_=[] from List.map_eq_nil_iff.1 he0] at aa
  obtain rfl:=zb aa
  exact yEx ((znJ zt 4 51 (by kernel_rfl) hn0).or ((xMv Tryz.prog 3 0 bo hv0).or X0)) hC hE [Hn (rfl:some bo=some bo),Hn (⟨rfl,rfl⟩:T.d (.atom bo)=T.d (.atom bo) ∧ T.d (.atom (.slice none 0 0))=T.d (.atom (.slice none 0 0))),qT] (eOs 1 true (eI .i64) []) (show LeV (eOs 1 true (eI .i64) []) (eOs 1 false (eI .i64) ([]:List Int)) from inferInstance)
 ·obtain ⟨g0,aa⟩:=gdE aa
  obtain rfl:=zb aa
  exact yE ((znJ zt 4 51 (by kernel_rfl) hn0).or ((xMv Tryz.prog 3 0 bo hv0).or X0)) hC hE [Hn (rfl:some bo=some bo),Hn (⟨rfl,rfl⟩:T.d (.atom bo)=T.d (.atom bo) ∧ T.d (.atom (.slice none 0 0))=T.d (.atom (.slice none 0 0))),qF,Hn (dM (eI .i64) s_),Hn (aL (eI .i64) (eI .i64) g0),Hl (aM0 (eI .i64) s_)]
def QN:Code:=(Tryz.f111.body).getD .skip
def zZ:zO:=spF (α:=List Int) (ρ:=List Int) 111 (fun x=>[F7_ x]) (fun r=>F3_ r) (fun x=>ya x) [] (UM)
theorem Jo (hC:zB Tryz.prog ctr):zZ.Ok Tryz.prog:=by
 refine zD ?_
 rintro s_ r0 aa
 try unfold ya at aa
 refine yO true [(2,none)] QN 9 Tryz.func111 fun E hE=>?_
 obtain ⟨g0,aa⟩:=gdE aa
 obtain rfl:=zb aa
 exact yE X0 hC hE [Ha (lnM (eI .i64) s_),Ha (lnM (eI .i64) s_),Hn (slB g0),Hn (slC g0),Hn (zke (eI .i64) g0),Ha (zqd 1 (eI .i64) s_ 0 ((s_.length:Nat):Int).toNat)]
def uJ:Code:=(Tryz.f146.body).getD .skip
def VF:zO:=spF (α:=z6 × Int) (ρ:=List (List Int) × List Bool) 146 (fun x=>[zQ x.1,(eI .i64) x.2]) (fun r=>.tup [Uh r.1,(eSl 1 true eB) r.2]) (fun x=>KX x.1 x.2) [] (QM)
abbrev z1Z (l_:List (List Int)) (is:List Bool):List (Nat × T):=[(6,.own (.box (eOs 1 true F3_ l_))),(7,.own (.box (eOs 1 true eB is)))]
abbrev YD (r_:z6 × Int) (de:List (List Int)) (jh:List Bool):List (Nat × T):=[(6,.own (.box (eOs 1 true F3_ de))),(7,.own (.box (eOs 1 true eB jh))),(19,.d (.fn 186 [.sptr (.agg [I r_.1.Inputs,I r_.1.Outputs,eSl 1 false yQ r_.1.Rows]),.sptr (I r_.2)]))]
theorem z64 (hC:zB Tryz.prog ctr) (h1j:ctr.Has Yk) (h0e:ctr.Has xx) (h00:ctr.Has zZ):VF.Ok Tryz.prog:=by
 refine zD ?_
 rintro ⟨m_,from_⟩ r0 aa
 try unfold KX at aa
 refine yO false [(4,none),(5,none)] uJ 45 Tryz.func146 fun E hE=>?_
 obtain ⟨g0,aa⟩:=gdE aa
 obtain ⟨g1,aa⟩:=gdE aa
 refine yJ ((xMs zt 12 51).or X0) hC uJ [1,1] [] [6,7] (fun z:List (List Int) × List Bool=>Vx z.1 z.2=some r0) (fun z=>z1Z z.1 z.2) [(1,.d (I from_)),(2,.own (.box (zQ m_))),(6,.own (.box (eOs 1 true F3_ (List.replicate ((m_.Rows.length:Nat):Int).toNat ([]:List Int))))),(7,.own (.box (eOs 1 true eB (List.replicate ((m_.Rows.length:Nat):Int).toNat false))))] [Ha (lnM yQ m_.Rows),Hn (rL g0),Ha (rM 1 F3_ ((m_.Rows.length:Nat):Int) ([]:List Int)),Ha (lnM yQ m_.Rows),Hn (rL g1),Ha (rM 1 eB ((m_.Rows.length:Nat):Int) false),Hh (.cut 0)] ?_ fun J1 az=>?_
 ·rintro ⟨l_,is⟩ aa
  unfold Vx at aa
  obtain rfl:=zb aa
  exact yE X0 hC hE [Hm (shM F3_ F3_ l_),Hm (shM eB eB is)]
 ·obtain ⟨r_,h0,aa⟩:=zf aa
  obtain ⟨t2,ht2,aa⟩:=zf aa
  refine yAt X0 hC (sub [1,1,2,1,0] uJ) (frs [1,1,2,1,0] [J1] uJ []) [(6,.own (.box (eOs 1 true F3_ (List.replicate ((m_.Rows.length:Nat):Int).toNat ([]:List Int))))),(7,.own (.box (eOs 1 true eB (List.replicate ((m_.Rows.length:Nat):Int).toNat false)))),(19,.d (.fn 186 [.sptr (.agg [I r_.1.Inputs,I r_.1.Outputs,eSl 1 false yQ r_.1.Rows]),.sptr (I r_.2)]))] [Hc h1j (x:=(m_,from_)) h0 (loC zQ m_ <| loC (eI .i64) from_ <| loN)] fun st0 h0=>?_
  refine z1V (g:=.tmp 19) (ps:=[20]) (assign:=(sub [1,1,2,1,0,0] uJ)) (body:=(sub [1,1,2,1,0,1] uJ)) (K:=186) (caps:=[.sptr (.agg [I r_.1.Inputs,I r_.1.Outputs,eSl 1 false yQ r_.1.Rows]),.sptr (I r_.2)]) (by kernel_rfl) [6,7,19] (fun s=>YD r_ s.1 s.2) (fun z=>nomatch z) (fun z=>nomatch z) ((fun (x:zm) (_:Bool) (_:Value)=>[Zo x])) (F:=@jX r_.1 r_.2) (fun s x=>YG s.1 s.2 x) ((List.replicate ((m_.Rows.length:Nat):Int).toNat ([]:List Int)),(List.replicate ((m_.Rows.length:Nat):Int).toNat false)) t2 _ h0 inferInstance (by kernel_rfl) (by decide) (fun _=>rfl) (by rintro ⟨⟩) (by kernel_rfl) (fun _ _ _=>rfl) (z0w hC r_.1 r_.2) ht2 ?_ ?_
  ·rintro m0 ⟨de,jh⟩ gk vr a8 ae
   replace ae:YG de jh gk=some a8:=ae
   unfold YG at ae
   refine yF X0 hC .normal [(6,.own (.box (eOs 1 true F3_ de))),(7,.own (.box (eOs 1 true eB jh))),(8,.own (.box (Zo gk))),(19,.d (.fn 186 [.sptr (.agg [I r_.1.Inputs,I r_.1.Outputs,eSl 1 false yQ r_.1.Rows]),.sptr (I r_.2)]))] [] fun st0 h0=>⟨rfl,z6Y h0 ?_⟩
   obtain ⟨nu,h1,ae⟩:=zf ae
   let Z0:List HO:=[Hn (iL eB h1),Hs (iM eB h1),Hs (iM eB h1),Hl (sM eB jh gk.state_ true)]
   rcases zL ae with ⟨c0,ae⟩ | ⟨c0,ae⟩
   ·obtain ⟨cb,h2,ae⟩:=zf ae
    obtain ⟨ah,h3,ae⟩:=zf ae
    obtain ⟨g2,ae⟩:=gdE ae
    obtain ⟨aj,h4,ae⟩:=zf ae
    obtain ⟨ft,h5,ae⟩:=zf ae
    obtain rfl:=zb ae
    exact yF X0 hC .normal (YD r_ (de.set gk.state_.toNat aj) (jh.set gk.state_.toNat true)) (Z0 ++ [Hq c0,Hn (iL F3_ h2),Hs (iM F3_ h2),Hc h0e (x:=cb) h3 (loC F3_ cb <| loN),Hq (dM (eI .i64) ([gk.input_]:List Int)),Hn (dM (eI .i64) ([gk.input_]:List Int)),Hn (aL (eI .i64) (eI .i64) g2),Hl (aM (eI .i64) ah ([gk.input_]:List Int)),Hg (z1L h00),Hm (shM (eI .i64) (eI .i64) (ah ++ ([gk.input_]:List Int))),Hs (z1M h00 (x:=(ah ++ ([gk.input_]:List Int))) h4 (loC F7_ (ah ++ ([gk.input_]:List Int)) <| loN)),Hm (shM (eI .i64) (eI .i64) (ah ++ ([gk.input_]:List Int))),Hn (iL F3_ h5),Hs (iM F3_ h5),Hs (iM F3_ h5),Hl (sM F3_ de gk.state_ aj)]) fun st0 h0=>⟨rfl,_,h0,LeL.refl _⟩
   ·obtain rfl:=zb ae
    exact yF X0 hC .normal (YD r_ de (jh.set gk.state_.toNat true)) (Z0 ++ [Hq c0]) fun st0 h0=>⟨rfl,_,h0,LeL.refl _⟩
  ·rcases t2 with ⟨de,jh⟩ | z
   ·dsimp only at aa
    exact WS (by kernel_rfl) (az _ [(6,.own (.box (eOs 1 true F3_ de))),(7,.own (.box (eOs 1 true eB jh)))] (de,jh) aa (show Own.canon [6,7] _=ofL _ by kernel_rfl) inferInstance)
   ·cases z
def z4t:Code:=(Tryz.f114.body).getD .skip
def We:zO:=spF (α:=z6) (ρ:=List (List Int) × List Bool × Int) 114 (fun x=>[zQ x]) (fun r=>.tup [Uh r.1,(eSl 1 true eB) r.2.1,(eI .i64) r.2.2]) (fun x=>Jm x) [] (UM)
theorem z4Y (hC:zB Tryz.prog ctr) (h02:ctr.Has yk) (h1k:ctr.Has VF):We.Ok Tryz.prog:=by
 refine zD ?_
 rintro m_ r0 aa
 try unfold Jm at aa
 refine yO false [(2,none),(3,none),(4,none)] z4t 20 Tryz.func114 fun E hE=>?_
 obtain ⟨r_,h0,aa⟩:=zf aa
 let Z0:List HO:=[Hc h02 (x:=m_) h0 (loC zQ m_ <| loN)]
 rcases zL aa with ⟨c0,aa⟩ | ⟨c0,aa⟩
 ·obtain rfl:=zb aa
  exact yEx X0 hC hE (Z0 ++ [Hq c0,Hm (shM F7_ F7_ []),Hm (shM eB eB [])]) (.tup [eSl 1 true F3_ [],eSl 1 true eB [],I r_]) (show LeV (.tup [eSl 1 true F3_ [],eSl 1 true eB [],I r_]) (.tup [eSl 1 true F3_ ([]:List (List Int)),eSl 1 true eB ([]:List Bool),I r_]) from inferInstance)
 ·obtain ⟨ah,h1,aa⟩:=zf aa
  obtain rfl:=zb aa
  exact yE X0 hC hE (Z0 ++ [Hq c0,Hc h1k (x:=(m_,0)) h1 (loC zQ m_ <| loC (eI .i64) 0 <| loN)])
def UC:Code:=(Tryz.f105.body).getD .skip
def wa:zO:=spF (α:=List (List Int)) (ρ:=List (List Int)) 105 (fun x=>[w8 x]) (fun r=>z8s r) (fun x=>va x) [] (UM)
theorem UP (hC:zB Tryz.prog ctr):wa.Ok Tryz.prog:=by
 refine zD ?_
 rintro s_ r0 aa
 try unfold va at aa
 refine yO true [(2,none)] UC 8 Tryz.func105 fun E hE=>?_
 refine zdk rfl 0 (sz:=1) (t:=false) (es:=s_.map F7_) (by kernel_rfl) fun bo hv0 hn=>?_
 rcases hn with ⟨hn0,he0⟩ | hn0
 ·obtain ⟨_,aa⟩:=gdE aa
  rw [show s_=[] from List.map_eq_nil_iff.1 he0] at aa
  obtain rfl:=zb aa
  exact yEx ((znJ zt 4 32 (by kernel_rfl) hn0).or ((xMv Tryz.prog 3 0 bo hv0).or X0)) hC hE [Hn (rfl:some bo=some bo),Hn (⟨rfl,rfl⟩:T.d (.atom bo)=T.d (.atom bo) ∧ T.d (.atom (.slice none 0 0))=T.d (.atom (.slice none 0 0))),qT] (eOs 1 true F7_ []) (show LeV (eOs 1 true F7_ []) (eOs 1 false F7_ ([]:List (List Int))) from inferInstance)
 ·obtain ⟨g0,aa⟩:=gdE aa
  obtain rfl:=zb aa
  exact yE ((znJ zt 4 32 (by kernel_rfl) hn0).or ((xMv Tryz.prog 3 0 bo hv0).or X0)) hC hE [Hn (rfl:some bo=some bo),Hn (⟨rfl,rfl⟩:T.d (.atom bo)=T.d (.atom bo) ∧ T.d (.atom (.slice none 0 0))=T.d (.atom (.slice none 0 0))),qF,Hn (dM F7_ s_),Hn (aL F7_ F7_ g0),Hl (aM0 F7_ s_)]
def z1P:Code:=(Tryz.f138.body).getD .skip
def Yl:zO:=spF (α:=List Int × List Int) (ρ:=Bool) 138 (fun x=>[F7_ x.1,F7_ x.2]) (fun r=>eB r) (fun x=>YH x.1 x.2) [] (QM)
theorem z2x (hC:zB Tryz.prog ctr) (h05:ctr.Has wY):Yl.Ok Tryz.prog:=by
 refine zD ?_
 rintro ⟨a_,b_⟩ r0 aa
 try unfold YH at aa
 refine yO true [(4,none)] z1P 9 Tryz.func138 fun E hE=>?_
 obtain ⟨r_,h0,aa⟩:=zf aa
 obtain rfl:=zb aa
 exact yE X0 hC hE [Hc h05 (x:=(a_,b_)) h0 (loC F7_ a_ <| loC F7_ b_ <| loN)]
def zU:Code:=(Tryz.f137.body).getD .skip
def xT:zO:=spF (α:=List (List Int) × Unit) (ρ:=List (List Int)) 137 (fun x=>[z8s x.1,(zaY 138) x.2]) (fun r=>z8s r) (fun x=>wL x.1 x.2) [true,false] (by
 rintro ⟨a0,a1⟩ ⟨b0,b1⟩ h
 have e0:=vL.inj (f:=z8s) _ _ (List.cons.inj h).1
 replace h:=(List.cons.inj h).2
 have e1:=vL.inj (f:=(zaY 138)) _ _ (List.cons.inj h).1
 subst e0 e1
 rfl)
abbrev Y0 (s_:List (List Int)):List (Nat × T):=[(0,.own (eOs 1 false F7_ s_))]
abbrev ZZ (s_:List (List Int)) (k_:Int):List (Nat × T):=[(0,.own (eOs 1 false F7_ s_)),(1,.d (.fn 138 [])),(5,.d (I k_))]
abbrev ZY (cr:List (List Int)) (fw:Int):List (Nat × T):=[(0,.own (eOs 1 false F7_ cr)),(5,.d (I fw))]
abbrev ZX (bo:Value) (k_:Int) (k2:Int) (kg:List (List Int)) (ml:Int):List (Nat × T):=[(0,.own (eOs 1 false F7_ kg)),(1,.d (.fn 138 [])),(5,.d (I ml)),(6,.d (.atom (V9 1 bo k_))),(7,.d (I k2))]
abbrev ZV (bo:Value) (k_:Int) (dg:List (List Int)) (js:Int) (k2:Int):List (Nat × T):=[(0,.own (eOs 1 false F7_ dg)),(1,.d (.fn 138 [])),(5,.d (I js)),(6,.d (.atom (V9 1 bo k_))),(7,.d (I k2))]
abbrev ZW (s_:List (List Int)) (k_:Int):List (Nat × T):=[(0,.own (eOs 1 false F7_ s_)),(1,.d (.fn 138 [])),(5,.d (I k_))]
def zu:XH Tryz.prog:=((zpI zt 64).or X0)
theorem Xe (hC:zB Tryz.prog ctr) (h0K:ctr.Has Yl):xT.Ok Tryz.prog:=by
 refine zD ?_
 rintro ⟨s_,eq⟩ r0 aa
 try unfold wL at aa
 refine yO true [(4,none)] zU 66 Tryz.func137 fun E hE=>?_
 refine z6X (y:=eOs 1 false F7_ s_) rfl 0 (by kernel_rfl) (by kernel_rfl) fun bo hv0=>?_
 let Z0:List HO:=[Ha (lnM F7_ s_)]
 rcases zL aa with ⟨c0,aa⟩ | ⟨c0,aa⟩
 ·obtain rfl:=zb aa
  exact yE zu hC hE (Z0 ++ [Hq c0])
 ·refine yJ zu hC zU [1,1] [] [0] (fun z:Unit=>xY s_=some r0) (fun z=>Y0 s_) [(0,.own (eOs 1 false F7_ s_)),(1,.d (.fn 138 []))] (Z0 ++ [Hq c0,Hh (.cut 0)]) ?_ fun J1 az=>?_
  ·rintro ⟨⟩ aa
   unfold xY at aa
   obtain rfl:=zb aa
   exact yE zu hC hE []
  ·obtain ⟨t2,ht2,aa⟩:=zf aa
   refine yL zu hC zU [1,1,2,1,0] [J1] (fun s=>xV s_ s) (fun x=>ZW s_ x) 1 ht2  [] ?_
   rintro k_ m2 a8 ae hl1 J2 a6
   try unfold xV at ae
   let Z1:List HO:=[Ha (lnM F7_ s_)]
   rcases zL ae with ⟨c1,ae⟩ | ⟨c1,ae⟩
   ·refine yJ zu hC zU [1,1,2,1,0,0,1] [J1,J2] [0,1,5] (fun z:Unit=>xX k_=some a8) (fun z=>ZZ s_ k_) [(0,.own (eOs 1 false F7_ s_)),(1,.d (.fn 138 [])),(5,.d (I k_))] (Z1 ++ [Hq c1,Hh (.cut 0)]) ?_ fun J3 bz=>?_
    ·rintro ⟨⟩ ae
     unfold xX at ae
     obtain rfl:=zb ae
     exact yB zu hC a6 (w64 (k_ + 1)) hl1 []
    ·obtain ⟨da,h0,ae⟩:=zf ae
     obtain ⟨km,h1,ae⟩:=zf ae
     obtain ⟨r_,h2,ae⟩:=zf ae
     let Z2:List HO:=[Hn (iL F7_ h0),Hs (iM F7_ h0),Hn (iL F7_ h1),Hs (iM F7_ h1),Hc h0K (x:=(da,km)) h2 (loC F7_ da <| loC F7_ km <| loN)]
     rcases zL ae with ⟨c2,ae⟩ | ⟨c2,ae⟩
     ·obtain ⟨g0,ae⟩:=gdE ae
      refine yJ ((xAs Tryz.prog 6 (V9 1 bo k_)).or ((xVw zt 31 0 bo).or zu)) hC zU [1,1,2,1,0,0,1,2,0,1,0,1] [J1,J2,J3] [0,5] (fun z:List (List Int) × Int=>xW z.1 z.2=some a8) (fun z=>ZY z.1 z.2) [(0,.own (eOs 1 false F7_ s_)),(1,.d (.fn 138 [])),(5,.d (I k_)),(6,.d (.atom (V9 1 bo k_)))] (Z2 ++ [Hq c2,Hn (⟨.inl rfl,rfl⟩:(T.als 0 [] 0 0=T.als 0 [] 0 0 ∨ T.als 0 [] 0 0=T.d (.atom bo)) ∧ some bo=some bo),Hn (⟨g0.1,cuB F7_ g0⟩:(0:Int) ≤ k_ ∧ k_.toNat ≤ (s_.map F7_).length),Hn (rfl:T.d (.atom (V9 1 bo k_))=T.d (.atom (V9 1 bo k_))),Hh (.cut 1)]) ?_ fun J4 ep=>?_
      ·rintro ⟨cr,fw⟩ ae
       unfold xW at ae
       obtain ⟨g1,ae⟩:=gdE ae
       obtain ⟨g2,ae⟩:=gdE ae
       obtain ⟨g3,ae⟩:=gdE ae
       obtain rfl:=zb ae
       obtain rfl:=hl1
       obtain rfl:=zb aa
       exact yE ((xVc zt 61 1 0 bo fw).or ((xVw zt 61 0 bo).or zu)) hC hE [Hn (⟨.inl rfl,rfl⟩:(T.als 0 [] 0 0=T.als 0 [] 0 0 ∨ T.als 0 [] 0 0=T.d (.atom bo)) ∧ some bo=some bo),Hn (⟨g1.1,cuB F7_ g1⟩:(0:Int) ≤ fw ∧ fw.toNat ≤ (cr.map F7_).length),Hn (⟨rfl,rfl⟩:T.d (.atom (V9 1 bo fw))=T.d (.atom (V9 1 bo fw)) ∧ some bo=some bo),Hn (⟨g2.1,cuB F7_ g2,dM F7_ cr⟩:(0:Int) ≤ fw ∧ fw.toNat ≤ (cr.map F7_).length ∧ A.areD (cr.map F7_)=true),Hx (.l ((cr.take fw.toNat ++ List.replicate (cr.length - fw.toNat) []).map F7_)) (vcM F7_ cr fw.toNat ([]:List Int)),Hn g3.1,Hn (cuB F7_ g3),Hl (cuM F7_ (cr.take fw.toNat ++ List.replicate (cr.length - fw.toNat) []) fw)]
      ·obtain ⟨t5,ht5,ae⟩:=zf ae
       refine yL zu hC zU [1,1,2,1,0,0,1,2,0,1,0,1,2,1,0] [J1,J2,J3,J4] (fun s=>xU k_ s.1 s.2.1 s.2.2) (fun x=>ZV bo k_ x.1 x.2.1 x.2.2) (s_,k_,1) ht5  [] ?_
       rintro ⟨dg,js,k2⟩ m5 ez ai hl2 J5 fc
       try unfold xU at ai
       let Z3:List HO:=[Hn (⟨rfl,rfl⟩:T.d (.atom (V9 1 bo k_))=T.d (.atom (V9 1 bo k_)) ∧ some bo=some bo),Hx (.a (.atom (.int .i64 ((dg.length - k_.toNat:Nat):Int)))) (vlM F7_ dg k_.toNat)]
       rcases zL ai with ⟨c3,ai⟩ | ⟨c3,ai⟩
       ·refine yJ ((xVl zt 34 32 1 0 bo k_ (by kernel_rfl)).or zu) hC zU [1,1,2,1,0,0,1,2,0,1,0,1,2,1,0,0,1] [J1,J2,J3,J4,J5] [0,1,5,6,7] (fun z:List (List Int) × Int=>yU k2 z.1 z.2=some ez) (fun z=>ZX bo k_ k2 z.1 z.2) [(0,.own (eOs 1 false F7_ dg)),(1,.d (.fn 138 [])),(5,.d (I js)),(6,.d (.atom (V9 1 bo k_))),(7,.d (I k2))] (Z3 ++ [Hq c3,Hh (.cut 0)]) ?_ fun J6 gz=>?_
        ·rintro ⟨kg,ml⟩ ai
         unfold yU at ai
         obtain rfl:=zb ai
         exact yB zu hC fc (kg,ml,w64 (k2 + 1)) hl2 []
        ·obtain ⟨g4,ai⟩:=gdE ai
         obtain ⟨lk,h3,ai⟩:=zf ai
         obtain ⟨g5,ai⟩:=gdE ai
         obtain ⟨ll,h4,ai⟩:=zf ai
         obtain ⟨ah,h5,ai⟩:=zf ai
         let Z4:List HO:=[Hn (⟨rfl,rfl⟩:T.d (.atom (V9 1 bo k_))=T.d (.atom (V9 1 bo k_)) ∧ some bo=some bo),Hn (⟨g4.1,g4.2,(iL F7_ h3).2⟩:(0:Int) ≤ k_ ∧ (0:Int) ≤ k2 ∧ (k_ + k2).toNat < (dg.map F7_).length),Hs (iM F7_ h3),Hn (⟨rfl,rfl⟩:T.d (.atom (V9 1 bo k_))=T.d (.atom (V9 1 bo k_)) ∧ some bo=some bo),Hn (⟨g5.1,g5.2,(iL F7_ h4).2⟩:(0:Int) ≤ k_ ∧ (0:Int) ≤ w64 (k2 - 1) ∧ (k_ + (w64 (k2 - 1))).toNat < (dg.map F7_).length),Hs (iM F7_ h4),Hc h0K (x:=(lk,ll)) h5 (loC F7_ lk <| loC F7_ ll <| loN)]
         rcases zL ai with ⟨c4,ai⟩ | ⟨c4,ai⟩
         ·obtain ⟨g6,ai⟩:=gdE ai
          obtain ⟨lm,h6,ai⟩:=zf ai
          obtain ⟨nj,h7,ai⟩:=zf ai
          exact yB ((xVi zt 54 1 0 bo k_).or ((xVi zt 46 1 0 bo k_).or ((xVi zt 41 1 0 bo k_).or zu))) hC gz ((dg.set js.toNat lm),w64 (js + 1)) ai (Z4 ++ [Hq c4,Hn (⟨rfl,rfl⟩:T.d (.atom (V9 1 bo k_))=T.d (.atom (V9 1 bo k_)) ∧ some bo=some bo),Hn (⟨g6.1,g6.2,(iL F7_ h6).2⟩:(0:Int) ≤ k_ ∧ (0:Int) ≤ k2 ∧ (k_ + k2).toNat < (dg.map F7_).length),Hs (iM F7_ h6),Hn (iL F7_ h7),Hs (iM F7_ h7),Hs (iM F7_ h7),Hl (sM F7_ dg js lm)])
         ·exact yB ((xVi zt 46 1 0 bo k_).or ((xVi zt 41 1 0 bo k_).or zu)) hC gz (dg,js) ai (Z4 ++ [Hq c4])
       ·obtain rfl:=zb ai
        obtain rfl:=hl2
        exact yB ((xVl zt 34 32 1 0 bo k_ (by kernel_rfl)).or zu) hC ep (dg,js) ae (Z3 ++ [Hq c3])
     ·exact yB zu hC bz () ae (Z2 ++ [Hq c2])
   ·obtain rfl:=zb ae
    obtain rfl:=hl1
    exact yB zu hC az () aa (Z1 ++ [Hq c1])
def Vb:Code:=(Tryz.f112.body).getD .skip
def yM:zO:=spR (α:=List (List Int)) (ρ:=List (List Int)) 112 (fun x=>[z8s x]) (fun r=>(eOs 1 true F7_) r) (fun x=>wy x) [true] (UM)
theorem V6:∀ x r,(fun x=>wy x) x=some r → (Kw.add yM).run 112 ((Kw.add yM).norm 112 ((fun x=>[z8s x]) x))=some ((fun r=>(eOs 1 true F7_) r) r):=fun x r h=>zoK h rfl
theorem V8:(Kw.add yM).lend 112=none ∧ (Kw.add yM).gives 112=[true]:=ziw
theorem vm (hC:zB Tryz.prog ctr):yM.Ok Tryz.prog:=by
 refine zbj ?_
 rintro s_ r0 aa
 try unfold wy at aa
 refine yO true [(2,none)] Vb 9 Tryz.func112 fun E hE=>?_
 obtain rfl:=zb aa
 exact yE ((xCl zt 8).or X0) hC hE [Ha (lnM F7_ s_),Ha (lnM F7_ s_),Hn (Int.natCast_nonneg _:(0:Int) ≤ ((s_.length:Nat):Int)),Hn (Int.natCast_nonneg _:(0:Int) ≤ ((s_.length:Nat):Int)),Hn (clB F7_ s_),Ha (clE 1 F7_ s_)]
def wN:Code:=(Tryz.f104.body).getD .skip
def vN:zO:=spF (α:=List (List Int)) (ρ:=List (List Int) × Int) 104 (fun x=>[w8 x]) (fun r=>.tup [Uh r.1,(eI .i64) r.2]) (fun x=>Zd x) [] (UM)
abbrev z13 (out:List (List Int × Bool)):List (Nat × T):=[(4,.own (eOs 1 true (eFl 1 (eI .i64)) out))]
abbrev z12 (gl:Value) (aj:List (List Int)) (a7:List (List Int × Bool)) (dp:Int):List (Nat × T):=[(4,.own (eOs 1 true (eFl 1 (eI .i64)) a7)),(22,.d (.atom (V9 1 gl (0:Int)))),(23,.d (I ((aj.length - (0:Int).toNat:Nat):Int))),(24,.d (I dp))]
theorem z4Z (hC:zB Tryz.prog ctr) (h0u:ctr.Has wa) (h05:ctr.Has wY) (h1l:ctr.Has xT) (h0l:ctr.Has YL) (h0e:ctr.Has xx) (h00:ctr.Has zZ):vN.Ok Tryz.prog:=by
 refine zD ?_
 rintro l_ r0 aa
 try unfold Zd at aa
 refine yO false [(2,none),(3,none)] wN 37 Tryz.func104 fun E hE=>?_
 obtain ⟨r_,h0,aa⟩:=zf aa
 refine yA X0 hC wN [1,1] [] [(4,.own (eOs 1 false F7_ r_))] [Hc h0u (x:=l_) h0 (loC w8 l_ <| loN),Hh (.cut 0)] ?_
 obtain ⟨sorted,h1,aa⟩:=zf aa
 refine z8j (by kernel_rfl) (x:=(sub [1,1,0] wN)) (y:=(sub [1,1,1] wN)) 4 (fun st1=>Own.canon [4] st1=ofL [(4,.own (eOs 1 false F7_ sorted))]) (fun gl=>yF ((Y1 (P:=Tryz.prog) y9 [4] (zbk zkc (f:=F7_) (t:=false) (v:=gl) (fun _=>rfl) (fun _=>rfl) (fun x y c h=>wW hC h05 (x:=(x,y)) h) h1) 10).or X0) hC .normal [(4,.own (eOs 1 false F7_ sorted))] [Hn (VD (f:=.fn 136 []) (xs:=[.atom gl,.fn 125 []]) (ls:=[(gl,eOs 1 false F7_ r_)]) (r:=.tup []) (ys:=[eOs 1 false F7_ sorted]) [.atom gl,.fn 125 []] (show z0s [.atom gl,.fn 125 []] [.atom gl,.fn 125 []] from inferInstance))] fun st0 h0=>⟨rfl,h0⟩) fun st1 h1=>z6Y h1 ?_
 obtain ⟨ah,h2,aa⟩:=zf aa
 obtain ⟨aj,h3,aa⟩:=zf aa
 let Z0:List HO:=[Hc h1l (x:=(sorted,())) h2 (loC z8s sorted <| loC (zaY 138) () <| loN),Hh (.g [true]),Hn V8,Hx (.a ((eOs 1 true F7_) aj)) (V6 ah _ h3),Ha (lnM F7_ aj)]
 rcases zL aa with ⟨c0,aa⟩ | ⟨c0,aa⟩
 ·obtain rfl:=zb aa
  exact yEx ((z61 zt (vm hC) 13).or X0) hC hE (Z0 ++ (rpN 4 (Hq c0) [qT,Hm (shM F7_ F7_ [])])) (.tup [eSl 1 true F3_ [],I 3]) (show LeV (.tup [eSl 1 true F3_ [],I 3]) (.tup [eSl 1 true F3_ ([]:List (List Int)),I 3]) from inferInstance)
 ·obtain ⟨aw,h4,aa⟩:=zf aa
  let Z1:List HO:=(Z0 ++ [Hq c0,Hq c0,Hg (z1L h0l),Hm (shM F7_ F7_ aj),Hs (z1M h0l (x:=aj) h4 (loC z8t aj <| loN)),Hq c0,Hq c0])
  rcases zL aa with ⟨c1,aa⟩ | ⟨c1,aa⟩
  ·obtain rfl:=zb aa
   exact yEx ((z61 zt (vm hC) 13).or X0) hC hE (Z1 ++ [Hq c1,Hm (shM F7_ F7_ [])]) (.tup [eSl 1 true F3_ [],I 3]) (show LeV (.tup [eSl 1 true F3_ [],I 3]) (.tup [eSl 1 true F3_ ([]:List (List Int)),I 3]) from inferInstance)
  ·refine yA ((z61 zt (vm hC) 13).or X0) hC wN [1,1,1,1,1] [] [(4,.own (eOs 1 true F7_ aj))] (Z1 ++ [Hq c1,Hh (.cut 0)]) ?_
   refine z6X (y:=eOs 1 true F7_ aj) (by kernel_rfl) 4 (by kernel_rfl) (by kernel_rfl) fun gl hv4=>?_
   refine yJ X0 hC wN [1,1,1,1,1] [] [4] (fun z:List (List Int × Bool)=>W4 z=some r0) (fun z=>z13 z) [(4,.own (eOs 1 true F7_ aj))] [Hh (.cut 0)] ?_ fun J1 az=>?_
   ·rintro out aa
    unfold W4 at aa
    obtain ⟨hfl0,aa⟩:=gdE aa
    obtain rfl:=zb aa
    exact yEx X0 hC hE [Hm (shM (eFl 1 (eI .i64)) (eFl 1 (eI .i64)) out)] (.tup [eSl 1 true (eFl 1 (eI .i64)) out,I 0]) (haveI:=flA (s:=1) (t:=1) (b:=true) (f:=(eI .i64)) hfl0; show LeV (.tup [eSl 1 true (eFl 1 (eI .i64)) out,I 0]) (.tup [eSl 1 true F3_ (out.map (·.1)),I 0]) from inferInstance)
   ·obtain ⟨t2,ht2,aa⟩:=zf aa
    refine yLx ((xVl zt 23 32 1 4 gl (0:Int) (by kernel_rfl)).or ((xMw Tryz.prog 22 4 1 gl).or X0)) hC wN [1,1,1,1,1,2,1,0] [J1] (fun s=>W3 aj s.1 s.2) (fun x=>z12 gl aj x.1 x.2) ((aj.map fun q=>(q,false)),0) ht2 [(4,.own (eOs 1 true F7_ aj)),(22,.d (.atom (V9 1 gl (0:Int)))),(23,.d (I ((aj.length - (0:Int).toNat:Nat):Int))),(24,.d (I 0))] inferInstance [Hn (rfl:some gl=some gl),Hn (⟨rfl,rfl⟩:T.d (.atom (V9 1 gl (0:Int)))=T.d (.atom (V9 1 gl (0:Int))) ∧ some gl=some gl),Hx (.a (.atom (.int .i64 ((aj.length - (0:Int).toNat:Nat):Int)))) (vlM F7_ aj (0:Int).toNat)] ?_
    rintro ⟨a7,dp⟩ m2 a8 ae hl1 J2 a6
    try unfold W3 at ae
    rcases zL ae with ⟨c2,ae⟩ | ⟨c2,ae⟩
    ·obtain ⟨g0,ae⟩:=gdE ae
     obtain ⟨jj,h5,ae⟩:=zf ae
     obtain ⟨cd,h6,ae⟩:=zf ae
     obtain ⟨fq,h7,ae⟩:=zf ae
     obtain ⟨nd,h8,ae⟩:=zf ae
     obtain rfl:=zb ae
     exact yB ((xVi zt 27 1 4 gl (0:Int)).or X0) hC a6 ((a7.set dp.toNat (fq,true)),w64 (dp + 1)) hl1 [Hq c2,Hn (⟨rfl,rfl⟩:T.d (.atom (V9 1 gl (0:Int)))=T.d (.atom (V9 1 gl (0:Int))) ∧ some gl=some gl),Hn (⟨g0.1,g0.2,(iL (eFl 1 (eI .i64)) h5).2⟩:(0:Int) ≤ 0 ∧ (0:Int) ≤ dp ∧ (0 + dp).toNat < (a7.map (eFl 1 (eI .i64))).length),Hs (iM (eFl 1 (eI .i64)) h5),Hc h0e (x:=jj.1) h6 (loC (eSl 1 jj.2 (eI .i64)) jj.1 <| loN),Hg (z1L h00),Hm (shM (eI .i64) (eI .i64) cd),Hs (z1M h00 (x:=cd) h7 (loC F7_ cd <| loN)),Hm (shM (eI .i64) (eI .i64) cd),Hn (iL (eFl 1 (eI .i64)) h8),Hs (iM (eFl 1 (eI .i64)) h8),Hs (iM (eFl 1 (eI .i64)) h8),Hl (sM (eFl 1 (eI .i64)) a7 dp (fq,true))]
    ·obtain rfl:=zb ae
     obtain rfl:=hl1
     exact yB X0 hC az a7 aa [Hq c2]
def z6R:Code:=(Tryz.f115.body).getD .skip
def qO:zO:=spF (α:=List (List Int) × Int) (ρ:=List (List Int) × Int) 115 (fun x=>[w8 x.1,(eI .i64) x.2]) (fun r=>.tup [Uh r.1,(eI .i64) r.2]) (fun x=>Ul x.1 x.2) [] (QM)
theorem z7a (hC:zB Tryz.prog ctr) (h0p:ctr.Has YM) (h03:ctr.Has vN):qO.Ok Tryz.prog:=by
 refine zD ?_
 rintro ⟨l_,inputs⟩ r0 aa
 try unfold Ul at aa
 refine yO false [(4,none),(5,none)] z6R 17 Tryz.func115 fun E hE=>?_
 obtain ⟨r_,h0,aa⟩:=zf aa
 let Z0:List HO:=[Hc h0p (x:=(l_,inputs)) h0 (loC w8 l_ <| loC (eI .i64) inputs <| loN)]
 rcases zL aa with ⟨c0,aa⟩ | ⟨c0,aa⟩
 ·obtain rfl:=zb aa
  exact yEx X0 hC hE (Z0 ++ [Hq c0,Hm (shM F7_ F7_ [])]) (.tup [eSl 1 true F3_ [],I r_]) (show LeV (.tup [eSl 1 true F3_ [],I r_]) (.tup [eSl 1 true F3_ ([]:List (List Int)),I r_]) from inferInstance)
 ·obtain ⟨ah,h1,aa⟩:=zf aa
  obtain rfl:=zb aa
  exact yE X0 hC hE (Z0 ++ [Hq c0,Hc h03 (x:=l_) h1 (loC w8 l_ <| loN)])
def z2Q:Code:=(Tryz.f70.body).getD .skip
def k8:zO:=spF (α:=z6) (ρ:=List (List Int) × Int) 70 (fun x=>[zQ x]) (fun r=>.tup [Uh r.1,(eI .i64) r.2]) (fun x=>XK x) [] (UM)
theorem z3x (hC:zB Tryz.prog ctr) (h0s:ctr.Has v8) (h1m:ctr.Has We) (h04:ctr.Has qO):k8.Ok Tryz.prog:=by
 refine zD ?_
 rintro m_ r0 aa
 try unfold XK at aa
 refine yO false [(2,none),(3,none)] z2Q 33 Tryz.func70 fun E hE=>?_
 obtain ⟨r_,h0,aa⟩:=zf aa
 let Z0:List HO:=[Hc h0s (x:=m_) h0 (loC zQ m_ <| loN)]
 rcases zL aa with ⟨c0,aa⟩ | ⟨c0,aa⟩
 ·obtain rfl:=zb aa
  exact yEx X0 hC hE (Z0 ++ [Hq c0,Hm (shM F7_ F7_ [])]) (.tup [eSl 1 true F3_ [],I r_.2]) (show LeV (.tup [eSl 1 true F3_ [],I r_.2]) (.tup [eSl 1 true F3_ ([]:List (List Int)),I r_.2]) from inferInstance)
 ·rcases zL aa with ⟨c1,aa⟩ | ⟨c1,aa⟩
  ·obtain rfl:=zb aa
   exact yEx X0 hC hE (Z0 ++ [Hq c0,Hq c1,Hm (shM F7_ F7_ [])]) (.tup [eSl 1 true F3_ [],I 11]) (show LeV (.tup [eSl 1 true F3_ [],I 11]) (.tup [eSl 1 true F3_ ([]:List (List Int)),I 11]) from inferInstance)
  ·obtain ⟨ah,h1,aa⟩:=zf aa
   let Z1:List HO:=(Z0 ++ [Hq c0,Hq c1,Hc h1m (x:=m_) h1 (loC zQ m_ <| loN)])
   rcases zL aa with ⟨c2,aa⟩ | ⟨c2,aa⟩
   ·obtain rfl:=zb aa
    exact yEx X0 hC hE (Z1 ++ [Hq c2,Hm (shM F7_ F7_ [])]) (.tup [eSl 1 true F3_ [],I ah.2.2]) (show LeV (.tup [eSl 1 true F3_ [],I ah.2.2]) (.tup [eSl 1 true F3_ ([]:List (List Int)),I ah.2.2]) from inferInstance)
   ·obtain ⟨aj,h2,aa⟩:=zf aa
    obtain rfl:=zb aa
    exact yE X0 hC hE (Z1 ++ [Hq c2,Hc h04 (x:=(ah.1,m_.Inputs)) h2 (loC Uh ah.1 <| loC (eI .i64) m_.Inputs <| loN)])
def ve:Code:=(Tryz.f119.body).getD .skip
def Vr:zO:=spF (α:=Int × Int × Int) (ρ:=List (List Int) × Int) 119 (fun x=>[(eI .i64) x.1,(eI .i64) x.2.1,(eI .i64) x.2.2]) (fun r=>.tup [Uh r.1,(eI .i64) r.2]) (fun x=>z0G x.1 x.2.1 x.2.2) [] (z6I)
abbrev z4N (inputs:Int) (from_:Int) (to:Int) (k_:Int) (ak:List (List Int)) (kh:List (List Int)) (dj:Int) (ng:Int) (kb:Bool) (nh:Bool):List (Nat × T):=[(0,.d (I inputs)),(1,.d (I from_)),(2,.d (I to)),(8,.own (eOs 1 false F7_ ak)),(9,.own (eOs 1 false F7_ kh)),(10,.d (I dj)),(11,.d (I k_)),(45,.d (I ng)),(46,.d (B kb)),(49,.d (I k_)),(50,.d (I to)),(51,.d (B (decide (k_ < to)))),(52,.d (B (decide (k_ < to)))),(58,.d (B nh))]
abbrev z4K (inputs:Int) (from_:Int) (to:Int) (k_:Int) (a7:List (List Int)) (bw:Int) (fe:Bool) (next:List (List Int)):List (Nat × T):=[(0,.d (I inputs)),(1,.d (I from_)),(2,.d (I to)),(8,.own (eOs 1 false F7_ a7)),(10,.d (I bw)),(11,.d (I k_)),(12,.own (eOs 1 false F7_ next)),(45,.d (I bw)),(46,.d (B (decide (bw > 65536)))),(49,.d (I k_)),(50,.d (I to)),(51,.d (B (decide (k_ < to)))),(52,.d (B (decide (k_ < to)))),(58,.d (B fe))]
abbrev z4J (inputs:Int) (from_:Int) (to:Int) (ap:List (List Int)) (k_:Int) (a7:List (List Int)) (bw:Int) (fe:Bool) (ja:Int) (ip:List (List Int)):List (Nat × T):=[(0,.d (I inputs)),(1,.d (I from_)),(2,.d (I to)),(8,.own (eOs 1 false F7_ a7)),(9,.own (eOs 1 false F7_ ap)),(10,.d (I bw)),(11,.d (I k_)),(12,.own (eOs 1 false F7_ ip)),(45,.d (I bw)),(46,.d (B (decide (bw > 65536)))),(49,.d (I k_)),(50,.d (I to)),(51,.d (B (decide (k_ < to)))),(52,.d (B (decide (k_ < to)))),(58,.d (B fe)),(67,.als 9 [] 0 0),(68,.d (I ((ap.length:Nat):Int))),(69,.d (I ja))]
abbrev z4G (inputs:Int) (from_:Int) (to:Int) (ap:List (List Int)) (k_:Int) (a7:List (List Int)) (bw:Int) (fe:Bool) (ja:Int) (bi:List Int) (fl:List (List Int)) (jb:Int):List (Nat × T):=[(0,.d (I inputs)),(1,.d (I from_)),(2,.d (I to)),(8,.own (eOs 1 false F7_ a7)),(9,.own (eOs 1 false F7_ ap)),(10,.d (I bw)),(11,.d (I k_)),(12,.own (eOs 1 false F7_ fl)),(14,.d (eSl 1 false (eI .i64) bi)),(45,.d (I bw)),(46,.d (B (decide (bw > 65536)))),(49,.d (I k_)),(50,.d (I to)),(51,.d (B (decide (k_ < to)))),(52,.d (B (decide (k_ < to)))),(58,.d (B fe)),(67,.als 9 [] 0 0),(68,.d (I ((ap.length:Nat):Int))),(69,.d (I ja)),(73,.d (I inputs)),(74,.d (I jb))]
abbrev z4H (inputs:Int) (from_:Int) (to:Int) (ap:List (List Int)) (k_:Int) (a7:List (List Int)) (bw:Int) (fe:Bool) (ff:List (List Int)) (ja:Int):List (Nat × T):=[(0,.d (I inputs)),(1,.d (I from_)),(2,.d (I to)),(8,.own (eOs 1 false F7_ a7)),(9,.own (eOs 1 false F7_ ap)),(10,.d (I bw)),(11,.d (I k_)),(12,.own (eOs 1 false F7_ ff)),(45,.d (I bw)),(46,.d (B (decide (bw > 65536)))),(49,.d (I k_)),(50,.d (I to)),(51,.d (B (decide (k_ < to)))),(52,.d (B (decide (k_ < to)))),(58,.d (B fe)),(67,.als 9 [] 0 0),(68,.d (I ((ap.length:Nat):Int))),(69,.d (I ja))]
abbrev z4L (inputs:Int) (from_:Int) (to:Int) (ap:List (List Int)) (k_:Int) (a7:List (List Int)) (bw:Int) (fe:Bool):List (Nat × T):=[(0,.d (I inputs)),(1,.d (I from_)),(2,.d (I to)),(8,.own (eOs 1 false F7_ a7)),(9,.own (eOs 1 false F7_ ap)),(10,.d (I bw)),(11,.d (I k_)),(45,.d (I bw)),(46,.d (B (decide (bw > 65536)))),(49,.d (I k_)),(50,.d (I to)),(51,.d (B (decide (k_ < to)))),(52,.d (B (decide (k_ < to)))),(58,.d (B fe))]
abbrev z4M (inputs:Int) (from_:Int) (to:Int) (ap:List (List Int)) (k_:Int) (a7:List (List Int)) (bw:Int):List (Nat × T):=[(0,.d (I inputs)),(1,.d (I from_)),(2,.d (I to)),(8,.own (eOs 1 false F7_ a7)),(9,.own (eOs 1 false F7_ ap)),(10,.d (I bw)),(11,.d (I k_))]
abbrev z4I (inputs:Int) (from_:Int) (to:Int) (out:List (List Int)) (ap:List (List Int)) (n_:Int) (k_:Int):List (Nat × T):=[(0,.d (I inputs)),(1,.d (I from_)),(2,.d (I to)),(8,.own (eOs 1 false F7_ out)),(9,.own (eOs 1 false F7_ ap)),(10,.d (I n_)),(11,.d (I k_))]
def zV:XH Tryz.prog:=((UN zt (.inl 83) [82]).or X0)
theorem z8y (hC:zB Tryz.prog ctr) (h03:ctr.Has vN) (h00:ctr.Has zZ):Vr.Ok Tryz.prog:=by
 refine zD ?_
 rintro ⟨inputs,from_,to⟩ r0 aa
 try unfold z0G at aa
 refine yO false [(6,none),(7,none)] ve 88 Tryz.func119 fun E hE=>?_
 rcases zL aa with ⟨c0,aa⟩ | ⟨c0,aa⟩
 ·obtain rfl:=zb aa
  exact yEx zV hC hE [Hq c0,Hm (shM F7_ F7_ [])] (.tup [eSl 1 true F3_ [],I 3]) (show LeV (.tup [eSl 1 true F3_ [],I 3]) (.tup [eSl 1 true F3_ ([]:List (List Int)),I 3]) from inferInstance)
 ·rcases zL aa with ⟨c1,aa⟩ | ⟨c1,aa⟩
  ·obtain rfl:=zb aa
   exact yEx zV hC hE [Hq c0,Hq c1,Hq c1,Hq c1,qT,Hm (shM F7_ F7_ [])] (.tup [eSl 1 true F3_ [],I 1]) (show LeV (.tup [eSl 1 true F3_ [],I 1]) (.tup [eSl 1 true F3_ ([]:List (List Int)),I 1]) from inferInstance)
  ·let Z0:List HO:=[Hq c0,Hq c1,Hq c1,Hq c1]
   rcases zL aa with ⟨c2,aa⟩ | ⟨c2,aa⟩
   ·obtain rfl:=zb aa
    exact yEx zV hC hE (Z0 ++ [Hq c2,Hm (shM F7_ F7_ [])]) (.tup [eSl 1 true F3_ [],I 1]) (show LeV (.tup [eSl 1 true F3_ [],I 1]) (.tup [eSl 1 true F3_ ([]:List (List Int)),I 1]) from inferInstance)
   ·rcases zL aa with ⟨c3,aa⟩ | ⟨c3,aa⟩
    ·obtain rfl:=zb aa
     exact yEx zV hC hE (Z0 ++ [Hq c2,Hq c3,Hm (shM F7_ F7_ [])]) (.tup [eSl 1 true F3_ [],I 3]) (show LeV (.tup [eSl 1 true F3_ [],I 3]) (.tup [eSl 1 true F3_ ([]:List (List Int)),I 3]) from inferInstance)
    ·obtain ⟨t1,ht1,aa⟩:=zf aa
     refine yLx zV hC ve [1,1,1,1,1,1,1,1,0] [] (fun s=>Jv inputs from_ to s.1 s.2.1 s.2.2.1 s.2.2.2) (fun x=>z4I inputs from_ to x.1 x.2.1 x.2.2.1 x.2.2.2) (([]:List (List Int)),([[]]:List (List Int)),0,0) ht1 [(0,.d (I inputs)),(1,.d (I from_)),(2,.d (I to)),(8,.own (eOs 1 true F7_ [])),(9,.own (eOs 1 true F3_ ([[]]))),(10,.d (I 0)),(11,.d (I 0))] inferInstance (Z0 ++ [Hq c2,Hq c3,Hh (.v 5 [9]),Hm (shM F4_ F3_ ([[]]:List (List Int)))]) ?_
     rintro ⟨out,ap,n_,k_⟩ m1 a8 ae hl1 J1 az
     try unfold Jv at ae
     refine yJ zV hC ve [1,1,1,1,1,1,1,1,0,0] [J1] [0,1,2,8,9,10,11,45,46,49,50,51,52,58] (fun z:List (List Int) × List (List Int) × Int × Int × Bool × Bool=>Jy k_ z.1 z.2.1 z.2.2.1 z.2.2.2.1 z.2.2.2.2.1 z.2.2.2.2.2=some a8) (fun z=>z4N inputs from_ to k_ z.1 z.2.1 z.2.2.1 z.2.2.2.1 z.2.2.2.2.1 z.2.2.2.2.2) [(0,.d (I inputs)),(1,.d (I from_)),(2,.d (I to)),(8,.own (eOs 1 false F7_ out)),(9,.own (eOs 1 false F7_ ap)),(10,.d (I n_)),(11,.d (I k_))] [Hh (.cut 0)] ?_ fun J2 a6=>?_
     ·rintro ⟨ak,kh,dj,ng,kb,nh⟩ ae
      unfold Jy at ae
      obtain rfl:=zb ae
      exact yB zV hC az (ak,kh,dj,w64 (k_ + 1)) hl1 []
     ·refine yJ zV hC ve [1,1,1,1,1,1,1,1,0,0,2,0] [J1,J2] [0,1,2,8,9,10,11] (fun z:List (List Int) × Int=>Vp inputs to ap k_ z.1 z.2=some a8) (fun z=>z4M inputs from_ to ap k_ z.1 z.2) [(0,.d (I inputs)),(1,.d (I from_)),(2,.d (I to)),(8,.own (eOs 1 false F7_ out)),(9,.own (eOs 1 false F7_ ap)),(10,.d (I n_)),(11,.d (I k_))] [Hh (.cut 0)] ?_ fun J3 bz=>?_
      ·rintro ⟨a7,bw⟩ ae
       unfold Vp at ae
       refine yJ zV hC ve [1,1,1,1,1,1,1,1,0,0,2,0,1] [J1,J2] [0,1,2,8,9,10,11,45,46,49,50,51,52,58] (fun z:Bool=>Vo inputs to ap k_ a7 bw z=some a8) (fun z=>z4L inputs from_ to ap k_ a7 bw z) [(0,.d (I inputs)),(1,.d (I from_)),(2,.d (I to)),(8,.own (eOs 1 false F7_ a7)),(9,.own (eOs 1 false F7_ ap)),(10,.d (I bw)),(11,.d (I k_))] [Hh (.cut 0)] ?_ fun J4 ep=>?_
       ·rintro fe ae
        unfold Vo at ae
        rcases zL ae with ⟨c4,ae⟩ | ⟨c4,ae⟩
        ·obtain ⟨r_,h0,ae⟩:=zf ae
         obtain rfl:=zb ae
         obtain rfl:=hl1
         obtain rfl:=zb aa
         exact yE zV hC hE [Hq c4,Hg (z1L h03),Hm (shM F7_ F7_ a7),Hs (z1M h03 (x:=a7) h0 (loC w8 a7 <| loN)),Hm (shM F7_ F7_ a7)]
        ·refine yJ zV hC ve [1,1,1,1,1,1,1,1,0,0,2,0,1,1,1,1] [J1,J2] [0,1,2,8,10,11,12,45,46,49,50,51,52,58] (fun z:List (List Int)=>Jx k_ a7 bw fe z=some a8) (fun z=>z4K inputs from_ to k_ a7 bw fe z) [(0,.d (I inputs)),(1,.d (I from_)),(2,.d (I to)),(8,.own (eOs 1 false F7_ a7)),(9,.own (eOs 1 false F7_ ap)),(10,.d (I bw)),(11,.d (I k_)),(12,.own (eOs 1 true F7_ [])),(45,.d (I bw)),(46,.d (B (decide (bw > 65536)))),(49,.d (I k_)),(50,.d (I to)),(51,.d (B (decide (k_ < to)))),(52,.d (B (decide (k_ < to)))),(58,.d (B fe))] [Hq c4,Hh (.cut 1)] ?_ fun J5 fc=>?_
         ·rintro next ae
          unfold Jx at ae
          exact yB zV hC a6 (a7,next,bw,bw,decide (bw > 65536),fe) ae []
         ·obtain ⟨t6,l7,ae⟩:=zf ae
          refine yLx zV hC ve [1,1,1,1,1,1,1,1,0,0,2,0,1,1,1,1,2,1,0] [J1,J2,J5] (fun s=>Ju inputs ap s.1 s.2) (fun x=>z4H inputs from_ to ap k_ a7 bw fe x.1 x.2) (([]:List (List Int)),0) l7 [(0,.d (I inputs)),(1,.d (I from_)),(2,.d (I to)),(8,.own (eOs 1 false F7_ a7)),(9,.own (eOs 1 false F7_ ap)),(10,.d (I bw)),(11,.d (I k_)),(12,.own (eOs 1 true F7_ [])),(45,.d (I bw)),(46,.d (B (decide (bw > 65536)))),(49,.d (I k_)),(50,.d (I to)),(51,.d (B (decide (k_ < to)))),(52,.d (B (decide (k_ < to)))),(58,.d (B fe)),(67,.als 9 [] 0 0),(68,.d (I ((ap.length:Nat):Int))),(69,.d (I 0))] inferInstance [Ha (lnM F7_ ap)] ?_
          rintro ⟨ff,ja⟩ m6 ez ai hl2 J6 gz
          try unfold Ju at ai
          rcases zL ai with ⟨c5,ai⟩ | ⟨c5,ai⟩
          ·refine yJ zV hC ve [1,1,1,1,1,1,1,1,0,0,2,0,1,1,1,1,2,1,0,0,1,1] [J1,J2,J5,J6] [0,1,2,8,9,10,11,12,45,46,49,50,51,52,58,67,68,69] (fun z:List (List Int)=>Jw ja z=some ez) (fun z=>z4J inputs from_ to ap k_ a7 bw fe ja z) [(0,.d (I inputs)),(1,.d (I from_)),(2,.d (I to)),(8,.own (eOs 1 false F7_ a7)),(9,.own (eOs 1 false F7_ ap)),(10,.d (I bw)),(11,.d (I k_)),(12,.own (eOs 1 false F7_ ff)),(45,.d (I bw)),(46,.d (B (decide (bw > 65536)))),(49,.d (I k_)),(50,.d (I to)),(51,.d (B (decide (k_ < to)))),(52,.d (B (decide (k_ < to)))),(58,.d (B fe)),(67,.als 9 [] 0 0),(68,.d (I ((ap.length:Nat):Int))),(69,.d (I ja))] [Hq c5,Hh (.cut 0)] ?_ fun J7 kr=>?_
           ·rintro ip ai
            unfold Jw at ai
            obtain rfl:=zb ai
            exact yB zV hC gz (ip,w64 (ja + 1)) hl2 []
           ·obtain ⟨bi,h1,ai⟩:=zf ai
            obtain ⟨t8,ht8,ai⟩:=zf ai
            refine yL zV hC ve [1,1,1,1,1,1,1,1,0,0,2,0,1,1,1,1,2,1,0,0,1,1,2,0,1,1,0] [J1,J2,J5,J6,J7] (fun s=>Jt inputs bi s.1 s.2) (fun x=>z4G inputs from_ to ap k_ a7 bw fe ja bi x.1 x.2) (ff,0) ht8  [Hn (iL F7_ h1),Hs (iM F7_ h1)] ?_
            rintro ⟨fl,jb⟩ m8 md ba hl3 J8 me
            try unfold Jt at ba
            rcases zL ba with ⟨c6,ba⟩ | ⟨c6,ba⟩
            ·obtain ⟨ah,h2,ba⟩:=zf ba
             obtain ⟨g0,ba⟩:=gdE ba
             obtain ⟨g1,ba⟩:=gdE ba
             obtain rfl:=zb ba
             exact yB zV hC me ((fl ++ ([(ah ++ ([jb]:List Int))]:List (List Int))),w64 (jb + 1)) hl3 [Hq c6,Hc h00 (x:=bi) h2 (loC F7_ bi <| loN),Hq (dM (eI .i64) ([jb]:List Int)),Hn (dM (eI .i64) ([jb]:List Int)),Hn (aN (eI .i64) (eI .i64) g0 (by simp)),Hl (aM (eI .i64) ah ([jb]:List Int)),Hm (shM (eI .i64) (eI .i64) (ah ++ ([jb]:List Int))),Hq (dM F7_ ([(ah ++ ([jb]:List Int))]:List (List Int))),Hn (dM F7_ ([(ah ++ ([jb]:List Int))]:List (List Int))),Hn (aL F7_ F7_ g1),Hl (aM F7_ fl ([(ah ++ ([jb]:List Int))]:List (List Int)))]
            ·obtain rfl:=zb ba
             obtain rfl:=hl3
             exact yB zV hC kr fl ai [Hq c6]
          ·obtain rfl:=zb ai
           obtain rfl:=hl2
           exact yB zV hC fc ff ae [Hq c5]
       ·let Z1:List HO:=[Ha (lnM F7_ a7)]
        rcases zL ae with ⟨c7,ae⟩ | ⟨c7,ae⟩
        ·obtain rfl:=zb ae
         obtain rfl:=hl1
         obtain rfl:=zb aa
         exact yEx zV hC hE (Z1 ++ (Hq c7 :: Hq c7 :: Hq c7 :: (rpN 7 qT [Hm (shM F7_ F7_ [])]))) (.tup [eSl 1 true F3_ [],I 3]) (show LeV (.tup [eSl 1 true F3_ [],I 3]) (.tup [eSl 1 true F3_ ([]:List (List Int)),I 3]) from inferInstance)
        ·rcases zL ae with ⟨c8,ae⟩ | ⟨c8,ae⟩
         ·obtain rfl:=zb ae
          obtain rfl:=hl1
          obtain rfl:=zb aa
          exact yEx zV hC hE (Z1 ++ (Hq c7 :: Hq c7 :: Hq c7 :: (rpN 6 (Hq c8) [qT,Hm (shM F7_ F7_ [])]))) (.tup [eSl 1 true F3_ [],I 3]) (show LeV (.tup [eSl 1 true F3_ [],I 3]) (.tup [eSl 1 true F3_ ([]:List (List Int)),I 3]) from inferInstance)
         ·let Z2:List HO:=(Z1 ++ (Hq c7 :: Hq c7 :: Hq c7 :: (rpN 4 (Hq c8) [])))
          rcases zL ae with ⟨c9,ae⟩ | ⟨c9,ae⟩
          ·let Z3:List HO:=(Z2 ++ [Hq c9,Hq c9,Ha (lnM F7_ ap),Hq c9,Hq c9,Hq c9,Hq c8,Hq c9,Hq c8])
           rcases zL ae with ⟨c10,ae⟩ | ⟨c10,ae⟩
           ·obtain rfl:=zb ae
            obtain rfl:=hl1
            obtain rfl:=zb aa
            exact yEx zV hC hE (Z3 ++ [Hq c10,Hm (shM F7_ F7_ [])]) (.tup [eSl 1 true F3_ [],I 3]) (show LeV (.tup [eSl 1 true F3_ [],I 3]) (.tup [eSl 1 true F3_ ([]:List (List Int)),I 3]) from inferInstance)
           ·exact yB zV hC ep (decide ((w64 (((ap.length:Nat):Int) * inputs)) > 4096)) ae (Z3 ++ [Hq c10])
          ·exact yB zV hC ep false ae (Z2 ++ (rpN 5 (Hq c9) [Hq c8,Hq c9,Hq c8,qF]))
      ·rcases zL ae with ⟨c11,ae⟩ | ⟨c11,ae⟩
       ·obtain ⟨g2,ae⟩:=gdE ae
        exact yB zV hC bz ((out ++ ap),w64 (n_ + (w64 (k_ * ((ap.length:Nat):Int))))) ae [Hq c11,Hq (dM F7_ ap),Hn (dM F7_ ap),Hn (aL F7_ F7_ g2),Hl (aM F7_ out ap),Ha (lnM F7_ ap)]
       ·exact yB zV hC bz (out,n_) ae [Hq c11]
def z6Q:Code:=(Tryz.f73.body).getD .skip
def Xx:zO:=spF (α:=Int × Int) (ρ:=List (List Int) × Int) 73 (fun x=>[(eI .i64) x.1,(eI .i64) x.2]) (fun r=>.tup [Uh r.1,(eI .i64) r.2]) (fun x=>Kb x.1 x.2) [] (QM)
theorem z79 (hC:zB Tryz.prog ctr) (h0v:ctr.Has Vr):Xx.Ok Tryz.prog:=by
 refine zD ?_
 rintro ⟨inputs,k_⟩ r0 aa
 try unfold Kb at aa
 refine yO false [(4,none),(5,none)] z6Q 11 Tryz.func73 fun E hE=>?_
 obtain ⟨r_,h0,aa⟩:=zf aa
 obtain rfl:=zb aa
 exact yE X0 hC hE [Hc h0v (x:=(inputs,0,k_)) h0 (loC (eI .i64) inputs <| loC (eI .i64) 0 <| loC (eI .i64) k_ <| loN)]
def Qo:Code:=(Tryz.f103.body).getD .skip
def Xw:zO:=spF (α:=Int × List (List (List Int))) (ρ:=Int) 103 (fun x=>[(eI .i64) x.1,zqS x.2]) (fun r=>(eI .i64) r) (fun x=>Ka x.1 x.2) [] (QM)
abbrev z2T:List (Nat × T):=[]
abbrev z2S (inputs:Int) (l_:List (List (List Int))) (du:Int):List (Nat × T):=[(0,.d (I inputs)),(8,.d (eSl 1 false w8 l_)),(9,.d (I ((l_.length:Nat):Int))),(10,.d (I du))]
theorem z78 (hC:zB Tryz.prog ctr) (h07:ctr.Has jT):Xw.Ok Tryz.prog:=by
 refine zD ?_
 rintro ⟨inputs,l_⟩ r0 aa
 try unfold Ka at aa
 refine yO true [(4,none)] Qo 21 Tryz.func103 fun E hE=>?_
 refine yJ X0 hC Qo [1] [] [] (fun z:Unit=>UR=some r0) (fun z=>z2T) [(0,.d (I inputs)),(1,.d (eSl 1 false w8 l_))] [Hh (.cut 1)] ?_ fun J1 az=>?_
 ·rintro ⟨⟩ aa
  unfold UR at aa
  obtain rfl:=zb aa
  exact yE X0 hC hE []
 ·obtain ⟨t2,ht2,aa⟩:=zf aa
  refine yL X0 hC Qo [1,2,1,0] [J1] (fun s=>UQ inputs l_ s) (fun x=>z2S inputs l_ x) 0 ht2  [Ha (lnM w8 l_)] ?_
  rintro du m2 a8 ae hl1 J2 a6
  try unfold UQ at ae
  rcases zL ae with ⟨c0,ae⟩ | ⟨c0,ae⟩
  ·obtain ⟨cb,h0,ae⟩:=zf ae
   obtain ⟨r_,h1,ae⟩:=zf ae
   let Z0:List HO:=[Hq c0,Hi w8 h0,Hc h07 (x:=(cb,inputs)) h1 (loC w8 cb <| loC (eI .i64) inputs <| loN)]
   rcases zL ae with ⟨c1,ae⟩ | ⟨c1,ae⟩
   ·obtain rfl:=zb ae
    obtain rfl:=hl1
    obtain rfl:=zb aa
    exact yE X0 hC hE (Z0 ++ [Hq c1])
   ·obtain rfl:=zb ae
    exact yB X0 hC a6 (w64 (du + 1)) hl1 (Z0 ++ [Hq c1])
  ·obtain rfl:=zb ae
   obtain rfl:=hl1
   exact yB X0 hC az () aa [Hq c0]
def K0:Code:=(Tryz.f166.body).getD .skip
def JD:zO:=spF (α:=List Int) (ρ:=List UInt8) 166 (fun x=>[F7_ x]) (fun r=>KV r) (fun x=>z3B x) [] (UM)
abbrev z4F (b_:List Int):List (Nat × T):=[(3,.own (eOs 1 true (eI .u8) b_))]
abbrev z4E (w_:List Int) (kx:List Int) (ew:Int):List (Nat × T):=[(3,.own (eOs 1 true (eI .u8) kx)),(9,.d (eSl 1 false (eI .i64) w_)),(10,.d (I ((w_.length:Nat):Int))),(11,.d (I ew))]
theorem z8x (hC:zB Tryz.prog ctr):JD.Ok Tryz.prog:=by
 refine zD ?_
 rintro w_ r0 aa
 try unfold z3B at aa
 refine yO true [(2,none)] K0 24 Tryz.func166 fun E hE=>?_
 obtain ⟨g0,aa⟩:=gdE aa
 refine yJ X0 hC K0 [1,1] [] [3] (fun z:List Int=>Jr z=some r0) (fun z=>z4F z) [(0,.d (eSl 1 false (eI .i64) w_)),(3,.own (eOs 1 true (eI .u8) (List.replicate ((w_.length:Nat):Int).toNat (0:Int))))] [Ha (lnM (eI .i64) w_),Hn (rL g0),Ha (rM 1 (eI .u8) ((w_.length:Nat):Int) (0:Int)),Hh (.cut 0)] ?_ fun J1 az=>?_
 ·rintro b_ aa
  unfold Jr at aa
  obtain rfl:=zb aa
  exact yE ((zqY Tryz.prog zhT).or X0) hC hE [Hx (.a (KV (u8s b_))) (stM b_)]
 ·obtain ⟨t2,ht2,aa⟩:=zf aa
  refine yL X0 hC K0 [1,1,2,1,0] [J1] (fun s=>Jq w_ s.1 s.2) (fun x=>z4E w_ x.1 x.2) ((List.replicate ((w_.length:Nat):Int).toNat (0:Int)),0) ht2  [Ha (lnM (eI .i64) w_)] ?_
  rintro ⟨kx,ew⟩ m2 a8 ae hl1 J2 a6
  try unfold Jq at ae
  rcases zL ae with ⟨c0,ae⟩ | ⟨c0,ae⟩
  ·obtain ⟨iy,h0,ae⟩:=zf ae
   obtain ⟨dv,h1,ae⟩:=zf ae
   obtain rfl:=zb ae
   exact yB X0 hC a6 ((kx.set ew.toNat (IntKind.u8.wrap (iy))),w64 (ew + 1)) hl1 [Hq c0,Hi (eI .i64) h0,Hn (iL (eI .u8) h1),Hs (iM (eI .u8) h1),Hs (iM (eI .u8) h1),Hl (sM (eI .u8) kx ew (IntKind.u8.wrap (iy)))]
  ·obtain rfl:=zb ae
   obtain rfl:=hl1
   exact yB X0 hC az kx aa [Hq c0]
def vX:Code:=(Tryz.f147.body).getD .skip
def Wf:zO:=spF (α:=List (List Int) × List (List Int) × Int) (ρ:=List (List Int) × Int) 147 (fun x=>[w8 x.1,w8 x.2.1,(eI .i64) x.2.2]) (fun r=>.tup [Uh r.1,(eI .i64) r.2]) (fun x=>Jz x.1 x.2.1 x.2.2) [] (z6I)
abbrev z18 (out:List (List Int)):List (Nat × T):=[(11,.own (eOs 1 false F7_ out))]
abbrev z17 (a_:List (List Int)) (b_:List (List Int)) (cu:Int) (dz:List ((List UInt8) × Bool)) (dj:Int) (a7:List (List Int)):List (Nat × T):=[(1,.d (eSl 1 false F7_ b_)),(9,.own (.opq (QE (ZP KV eB dz)))),(10,.d (I dj)),(11,.own (eOs 1 false F7_ a7)),(27,.d (eSl 1 false F7_ a_)),(28,.d (I ((a_.length:Nat):Int))),(29,.d (I cu))]
abbrev z16 (a_:List (List Int)) (b_:List (List Int)) (cu:Int) (fh:List Int) (em:Int) (ky:List ((List UInt8) × Bool)) (mb:Int) (i6:List (List Int)):List (Nat × T):=[(1,.d (eSl 1 false F7_ b_)),(9,.own (.opq (QE (ZP KV eB ky)))),(10,.d (I mb)),(11,.own (eOs 1 false F7_ i6)),(13,.d (eSl 1 false (eI .i64) fh)),(27,.d (eSl 1 false F7_ a_)),(28,.d (I ((a_.length:Nat):Int))),(29,.d (I cu)),(33,.d (eSl 1 false F7_ b_)),(34,.d (I ((b_.length:Nat):Int))),(35,.d (I em))]
abbrev z14 (a_:List (List Int)) (b_:List (List Int)) (cu:Int) (fh:List Int) (co:List ((List UInt8) × Bool)) (bw:Int) (cp:List (List Int)) (em:Int):List (Nat × T):=[(1,.d (eSl 1 false F7_ b_)),(9,.own (.opq (QE (ZP KV eB co)))),(10,.d (I bw)),(11,.own (eOs 1 false F7_ cp)),(13,.d (eSl 1 false (eI .i64) fh)),(27,.d (eSl 1 false F7_ a_)),(28,.d (I ((a_.length:Nat):Int))),(29,.d (I cu)),(33,.d (eSl 1 false F7_ b_)),(34,.d (I ((b_.length:Nat):Int))),(35,.d (I em))]
abbrev z15 (a_:List (List Int)) (b_:List (List Int)) (ie:List ((List UInt8) × Bool)) (n_:Int) (ak:List (List Int)) (cu:Int):List (Nat × T):=[(1,.d (eSl 1 false F7_ b_)),(9,.own (.opq (QE (ZP KV eB ie)))),(10,.d (I n_)),(11,.own (eOs 1 false F7_ ak)),(27,.d (eSl 1 false F7_ a_)),(28,.d (I ((a_.length:Nat):Int))),(29,.d (I cu))]
theorem z51 (hC:zB Tryz.prog ctr) (h0f:ctr.Has Xw) (h00:ctr.Has zZ) (h1n:ctr.Has JD) (h03:ctr.Has vN):Wf.Ok Tryz.prog:=by
 refine zD ?_
 rintro ⟨a_,b_,inputs⟩ r0 aa
 try unfold Jz at aa
 refine yO false [(6,none),(7,none)] vX 75 Tryz.func147 fun E hE=>?_
 obtain ⟨r_,h0,aa⟩:=zf aa
 let Z0:List HO:=[Hg (z1L h0f),Hm (shM w8 w8 ([a_,b_])),Hs (z1M h0f (x:=(inputs,[a_,b_])) h0 (loC (eI .i64) inputs <| loC (eSl 1 true w8) ([a_,b_]:List (List (List Int))) <| loN))]
 rcases zL aa with ⟨c0,aa⟩ | ⟨c0,aa⟩
 ·obtain rfl:=zb aa
  exact yEx X0 hC hE (Z0 ++ [Hq c0,Hm (shM F7_ F7_ [])]) (.tup [eSl 1 true F3_ [],I r_]) (show LeV (.tup [eSl 1 true F3_ [],I r_]) (.tup [eSl 1 true F3_ ([]:List (List Int)),I r_]) from inferInstance)
 ·refine yJ ((zjc Tryz.prog 26).or X0) hC vX [1,1,1,1,1] [] [11] (fun z:List (List Int)=>W9 z=some r0) (fun z=>z18 z) [(0,.d (eSl 1 false F7_ a_)),(1,.d (eSl 1 false F7_ b_)),(9,.own (.opq (QE (ZP KV eB ([]:List ((List UInt8) × Bool)))))),(10,.d (I 0)),(11,.own (eOs 1 true F7_ []))] (Z0 ++ [Hq c0,Hh (.cut 3)]) ?_ fun J1 az=>?_
  ·rintro out aa
   unfold W9 at aa
   obtain ⟨ah,h1,aa⟩:=zf aa
   obtain rfl:=zb aa
   exact yE X0 hC hE [Hg (z1L h03),Hm (shM F7_ F7_ out),Hs (z1M h03 (x:=out) h1 (loC w8 out <| loN)),Hm (shM F7_ F7_ out)]
  ·obtain ⟨t2,ht2,aa⟩:=zf aa
   refine yLx X0 hC vX [1,1,1,1,1,2,1,0] [J1] (fun s=>W7 a_ b_ s.1 s.2.1 s.2.2.1 s.2.2.2) (fun x=>z15 a_ b_ x.1 x.2.1 x.2.2.1 x.2.2.2) (([]:List ((List UInt8) × Bool)),0,([]:List (List Int)),0) ht2 [(1,.d (eSl 1 false F7_ b_)),(9,.own (.opq (QE (ZP KV eB ([]:List ((List UInt8) × Bool)))))),(10,.d (I 0)),(11,.own (eOs 1 true F7_ [])),(27,.d (eSl 1 false F7_ a_)),(28,.d (I ((a_.length:Nat):Int))),(29,.d (I 0))] inferInstance [Ha (lnM F7_ a_)] ?_
   rintro ⟨ie,n_,ak,cu⟩ m2 a8 ae hl1 J2 a6
   try unfold W7 at ae
   rcases zL ae with ⟨c1,ae⟩ | ⟨c1,ae⟩
   ·refine yJ X0 hC vX [1,1,1,1,1,2,1,0,0,1,1] [J1,J2] [1,9,10,11,27,28,29] (fun z:(List ((List UInt8) × Bool)) × Int × List (List Int)=>W8 cu z.1 z.2.1 z.2.2=some a8) (fun z=>z17 a_ b_ cu z.1 z.2.1 z.2.2) [(1,.d (eSl 1 false F7_ b_)),(9,.own (.opq (QE (ZP KV eB ie)))),(10,.d (I n_)),(11,.own (eOs 1 false F7_ ak)),(27,.d (eSl 1 false F7_ a_)),(28,.d (I ((a_.length:Nat):Int))),(29,.d (I cu))] [Hq c1,Hh (.cut 0)] ?_ fun J3 bz=>?_
    ·rintro ⟨dz,dj,a7⟩ ae
     unfold W8 at ae
     obtain rfl:=zb ae
     exact yB X0 hC a6 (dz,dj,a7,w64 (cu + 1)) hl1 []
    ·obtain ⟨fh,h2,ae⟩:=zf ae
     obtain ⟨t4,ht4,ae⟩:=zf ae
     refine yL X0 hC vX [1,1,1,1,1,2,1,0,0,1,1,2,0,1,1,0] [J1,J2,J3] (fun s=>W6 b_ fh s.1 s.2.1 s.2.2.1 s.2.2.2) (fun x=>z14 a_ b_ cu fh x.1 x.2.1 x.2.2.1 x.2.2.2) (ie,n_,ak,0) ht4  [Hi F7_ h2,Ha (lnM F7_ b_)] ?_
     rintro ⟨co,bw,cp,em⟩ m4 ez ai hl2 J4 ep
     try unfold W6 at ai
     rcases zL ai with ⟨c2,ai⟩ | ⟨c2,ai⟩
     ·obtain ⟨dv,h3,ai⟩:=zf ai
      obtain ⟨aj,h4,ai⟩:=zf ai
      obtain ⟨g0,ai⟩:=gdE ai
      let Z1:List HO:=[Hq c2,Hi F7_ h3,Hc h00 (x:=fh) h4 (loC F7_ fh <| loN),Hn (apM (eI .i64) g0),Hl (aM (eI .i64) aj dv),Ha (lnM (eI .i64) (aj ++ dv))]
      rcases zL ai with ⟨c3,ai⟩ | ⟨c3,ai⟩
      ·obtain rfl:=zb ai
       obtain rfl:=hl2
       obtain rfl:=zb ae
       obtain rfl:=hl1
       obtain rfl:=zb aa
       exact yEx ((xAp zt 42).or X0) hC hE (Z1 ++ [Hq c3,Hm (shM F7_ F7_ [])]) (.tup [eSl 1 true F3_ [],I 3]) (show LeV (.tup [eSl 1 true F3_ [],I 3]) (.tup [eSl 1 true F3_ ([]:List (List Int)),I 3]) from inferInstance)
      ·refine yJ ((xAp zt 42).or X0) hC vX [1,1,1,1,1,2,1,0,0,1,1,2,0,1,1,0,0,1,1,0,0,1,1,1] [J1,J2,J3,J4] [1,9,10,11,13,27,28,29,33,34,35] (fun z:(List ((List UInt8) × Bool)) × Int × List (List Int)=>Zp em z.1 z.2.1 z.2.2=some ez) (fun z=>z16 a_ b_ cu fh em z.1 z.2.1 z.2.2) [(1,.d (eSl 1 false F7_ b_)),(9,.own (.opq (QE (ZP KV eB co)))),(10,.d (I bw)),(11,.own (eOs 1 false F7_ cp)),(13,.d (eSl 1 false (eI .i64) fh)),(16,.d (eSl 1 false (eI .i64) (aj ++ dv))),(27,.d (eSl 1 false F7_ a_)),(28,.d (I ((a_.length:Nat):Int))),(29,.d (I cu)),(33,.d (eSl 1 false F7_ b_)),(34,.d (I ((b_.length:Nat):Int))),(35,.d (I em))] (Z1 ++ [Hq c3,Hh (.cut 0)]) ?_ fun J5 fc=>?_
       ·rintro ⟨ky,mb,i6⟩ ai
        unfold Zp at ai
        let Z2:List HO:=[Ha (lnM F7_ i6)]
        rcases zL ai with ⟨c4,ai⟩ | ⟨c4,ai⟩
        ·obtain rfl:=zb ai
         obtain rfl:=hl2
         obtain rfl:=zb ae
         obtain rfl:=hl1
         obtain rfl:=zb aa
         exact yEx X0 hC hE (Z2 ++ [Hq c4,Hq c4,Hq c4,qT,Hm (shM F7_ F7_ [])]) (.tup [eSl 1 true F3_ [],I 3]) (show LeV (.tup [eSl 1 true F3_ [],I 3]) (.tup [eSl 1 true F3_ ([]:List (List Int)),I 3]) from inferInstance)
        ·rcases zL ai with ⟨c5,ai⟩ | ⟨c5,ai⟩
         ·obtain rfl:=zb ai
          obtain rfl:=hl2
          obtain rfl:=zb ae
          obtain rfl:=hl1
          obtain rfl:=zb aa
          exact yEx X0 hC hE (Z2 ++ [Hq c4,Hq c4,Hq c4,Hq c5,Hm (shM F7_ F7_ [])]) (.tup [eSl 1 true F3_ [],I 3]) (show LeV (.tup [eSl 1 true F3_ [],I 3]) (.tup [eSl 1 true F3_ ([]:List (List Int)),I 3]) from inferInstance)
         ·obtain rfl:=zb ai
          exact yB X0 hC ep (ky,mb,i6,w64 (em + 1)) hl2 (Z2 ++ [Hq c4,Hq c4,Hq c4,Hq c5])
       ·obtain ⟨aw,h5,ai⟩:=zf ai
        obtain ⟨val,h6,ai⟩:=zf ai
        replace h6:=zb h6
        let Z3:List HO:=[Hc h1n (x:=(aj ++ dv)) h5 (loC F7_ (aj ++ dv) <| loN),Hn (⟨rfl,rfl,z8b (fun _=>rfl) co⟩:A.opq (QE (ZP KV eB co))=A.opq (QE (ZP KV eB co)) ∧ z6B (KV aw)=true ∧ ∀ p ∈ ZP KV eB co,z6B p.1=true),Hx (.a (eB val)) ((zqD (f:=KV) (g:=eB) (z0:=false) (z:=.atom (.bool false)) rfl aw co).trans (congrArg eB h6))]
        rcases zL ai with ⟨c6,ai⟩ | ⟨c6,ai⟩
        ·obtain ⟨g1,ai⟩:=gdE ai
         exact yB ((zpF zca 52 (ZP KV eB co) (ZP KV eB (zdC co aw true))).or ((zb1 zca 50 (ZP KV eB co)).or X0)) hC fc ((zdC co aw true),w64 (bw + (((aj ++ dv).length:Nat):Int)),(cp ++ ([(aj ++ dv)]:List (List Int)))) ai (Z3 ++ [Hq c6,Hn (⟨rfl,rfl,rfl,rfl,z8b (fun _=>rfl) co⟩:T.own (.opq (QE (ZP KV eB co)))=T.own (.opq (QE (ZP KV eB co))) ∧ 0=0 ∧ z6B (KV aw)=true ∧ (eB true).isD=true ∧ ∀ p ∈ ZP KV eB co,z6B p.1=true),Hn (zbO (f:=KV) (g:=eB) aw true co),Hq (dM F7_ ([(aj ++ dv)]:List (List Int))),Hn (dM F7_ ([(aj ++ dv)]:List (List Int))),Hn (aL F7_ F7_ g1),Hl (aM F7_ cp ([(aj ++ dv)]:List (List Int))),Ha (lnM (eI .i64) (aj ++ dv))])
        ·exact yB ((zb1 zca 50 (ZP KV eB co)).or X0) hC fc (co,bw,cp) ai (Z3 ++ [Hq c6])
     ·obtain rfl:=zb ai
      obtain rfl:=hl2
      exact yB X0 hC bz (co,bw,cp) ae [Hq c2]
   ·obtain rfl:=zb ae
    obtain rfl:=hl1
    exact yB X0 hC az ak aa [Hq c1]
def z0Z:Code:=(Tryz.f116.body).getD .skip
def Zw:zO:=spF (α:=z6 × Int) (ρ:=List (List Int) × Int) 116 (fun x=>[zQ x.1,(eI .i64) x.2]) (fun r=>.tup [Uh r.1,(eI .i64) r.2]) (fun x=>WK x.1 x.2) [] (QM)
theorem z1v (hC:zB Tryz.prog ctr) (h0w:ctr.Has k8) (h0x:ctr.Has Xx) (h1o:ctr.Has Wf):Zw.Ok Tryz.prog:=by
 refine zD ?_
 rintro ⟨m_,k_⟩ r0 aa
 try unfold WK at aa
 refine yO false [(4,none),(5,none)] z0Z 36 Tryz.func116 fun E hE=>?_
 obtain ⟨r_,h0,aa⟩:=zf aa
 let Z0:List HO:=[Hc h0w (x:=m_) h0 (loC zQ m_ <| loN)]
 rcases zL aa with ⟨c0,aa⟩ | ⟨c0,aa⟩
 ·obtain rfl:=zb aa
  exact yEx X0 hC hE (Z0 ++ [Hq c0,Hm (shM F7_ F7_ [])]) (.tup [eSl 1 true F3_ [],I r_.2]) (show LeV (.tup [eSl 1 true F3_ [],I r_.2]) (.tup [eSl 1 true F3_ ([]:List (List Int)),I r_.2]) from inferInstance)
 ·rcases zL aa with ⟨c1,aa⟩ | ⟨c1,aa⟩
  ·obtain rfl:=zb aa
   exact yEx X0 hC hE (Z0 ++ [Hq c0,Hq c1,Hm (shM F7_ F7_ [])]) (.tup [eSl 1 true F3_ [],I 1]) (show LeV (.tup [eSl 1 true F3_ [],I 1]) (.tup [eSl 1 true F3_ ([]:List (List Int)),I 1]) from inferInstance)
  ·obtain ⟨ah,h1,aa⟩:=zf aa
   let Z1:List HO:=(Z0 ++ [Hq c0,Hq c1,Hc h0x (x:=(m_.Inputs,k_)) h1 (loC (eI .i64) m_.Inputs <| loC (eI .i64) k_ <| loN)])
   rcases zL aa with ⟨c2,aa⟩ | ⟨c2,aa⟩
   ·obtain rfl:=zb aa
    exact yEx X0 hC hE (Z1 ++ [Hq c2,Hm (shM F7_ F7_ [])]) (.tup [eSl 1 true F3_ [],I ah.2]) (show LeV (.tup [eSl 1 true F3_ [],I ah.2]) (.tup [eSl 1 true F3_ ([]:List (List Int)),I ah.2]) from inferInstance)
   ·obtain ⟨aj,h2,aa⟩:=zf aa
    obtain rfl:=zb aa
    exact yE X0 hC hE (Z1 ++ [Hq c2,Hc h1o (x:=(r_.1,ah.1,m_.Inputs)) h2 (loC Uh r_.1 <| loC Uh ah.1 <| loC (eI .i64) m_.Inputs <| loN)])
def K2:Code:=(Tryz.f71.body).getD .skip
def qB:zO:=spF (α:=z6) (ρ:=List (List Int) × Int) 71 (fun x=>[zQ x]) (fun r=>.tup [Uh r.1,(eI .i64) r.2]) (fun x=>ZQ x) [] (UM)
theorem Ks (hC:zB Tryz.prog ctr) (h1p:ctr.Has Zw):qB.Ok Tryz.prog:=by
 refine zD ?_
 rintro m_ r0 aa
 try unfold ZQ at aa
 refine yO false [(2,none),(3,none)] K2 8 Tryz.func71 fun E hE=>?_
 obtain ⟨r_,h0,aa⟩:=zf aa
 obtain rfl:=zb aa
 exact yE X0 hC hE [Hc h1p (x:=(m_,1)) h0 (loC zQ m_ <| loC (eI .i64) 1 <| loN)]
def z4z:Code:=(Tryz.f148.body).getD .skip
def qA:zO:=spF (α:=Int) (ρ:=Int) 148 (fun x=>[(eI .i64) x]) (fun r=>(Qk 167 (eSp (eI .i64))) r) (fun x=>Vv x) [] (UM)
theorem z5e (hC:zB Tryz.prog ctr):qA.Ok Tryz.prog:=by
 refine zD ?_
 rintro n_ r0 aa
 try unfold Vv at aa
 refine yO true [(2,none)] z4z 4 Tryz.func148 fun E hE=>?_
 obtain rfl:=zb aa
 exact yE X0 hC hE []
def jG:Code:=(Tryz.f167.body).getD .skip
abbrev KS (x0:Int) (YY:σ → z3m) (x6:Int) (i8:σ):List (Nat × T):=[(0,.own (.opq (YY i8).q)),(1,.d (.sptr (I x0))),(5,.d (I x0)),(6,.d (I x6))]
abbrev KQ (x0:Int) (YY:σ → z3m) (x6:Int) (fk:σ) (b_:Int):List (Nat × T):=[(0,.own (.opq (YY fk).q)),(1,.d (.sptr (I x0))),(3,.d (I x6)),(4,.d (I b_)),(5,.d (I x0)),(6,.d (I x6))]
abbrev KR (x0:Int) (YY:σ → z3m) (ct:σ) (x6:Int):List (Nat × T):=[(0,.own (.opq (YY ct).q)),(1,.d (.sptr (I x0))),(5,.d (I x0)),(6,.d (I x6))]
theorem QB (hC:zB Tryz.prog ctr) (x0:Int):z8n Tryz.prog (.fn 167 [.sptr (I x0)]) (fun (x:Int × Int) (_:Bool) (_:Value)=>[(eI .i64) x.1,(eI .i64) x.2]) (@uI x0):=by
 refine z4d (tt:=y9) (nt:=22) (body:=jG) zt Tryz.func167 rfl (by kernel_rfl) rfl rfl (by show (2:Nat) ≤ 22; decide) ?_
 intro σ yv YY yy hy sg r0 aa E hE
 unfold uI at aa
 obtain ⟨t1,ht1,aa⟩:=zf aa
 refine yL X0 hC jG [1,0] [] (fun s=>Yy x0 yy s.1 s.2) (fun x=>KR x0 YY x.1 x.2) (sg,0) ht1  [] ?_
 rintro ⟨ct,x6⟩ m1 a8 ae hl1 J1 az
 try unfold Yy at ae
 rcases zL ae with ⟨c0,ae⟩ | ⟨c0,ae⟩
 ·refine yJ X0 hC jG [1,0,0,1,1] [J1] [0,1,5,6] (fun z:σ=>Yz x6 z=some a8) (fun z=>KS x0 YY x6 z) [(0,.own (.opq (YY ct).q)),(1,.d (.sptr (I x0))),(5,.d (I x0)),(6,.d (I x6))] [Hq c0,Hh (.cut 0)] ?_ fun J2 a6=>?_
  ·rintro i8 ae
   unfold Yz at ae
   obtain rfl:=zb ae
   exact yB X0 hC az (i8,w64 (x6 + 1)) hl1 []
  ·obtain ⟨t3,ht3,ae⟩:=zf ae
   refine yL X0 hC jG [1,0,0,1,1,2,0,1,1,0] [J1,J2] (fun s=>Yx x0 yy x6 s.1 s.2) (fun x=>KQ x0 YY x6 x.1 x.2) (ct,w64 (x6 + 1)) ht3  [] ?_
   rintro ⟨fk,b_⟩ m3 ez ai hl2 J3 bz
   try unfold Yx at ai
   rcases zL ai with ⟨c1,ai⟩ | ⟨c1,ai⟩
   ·obtain ⟨yr,h0,ai⟩:=zf ai
    let Z0:List HO:=[Hq c1,Hn (z3E (yv:=yv) (Y:=YY) (enc:=(fun (x:Int × Int) (_:Bool) (_:Value)=>[(eI .i64) x.1,(eI .i64) x.2])) (s:=fk) (x:=(x6,b_)) (s':=yr.1) (b:=yr.2) (v:=.nilFunc) [(eI .i64) x6,(eI .i64) b_] (show z0s [(eI .i64) x6,(eI .i64) b_] [(eI .i64) x6,(eI .i64) b_] from inferInstance))]
    rcases zL ai with ⟨c2,ai⟩ | ⟨c2,ai⟩
    ·obtain rfl:=zb ai
     obtain rfl:=hl2
     obtain rfl:=zb ae
     obtain rfl:=hl1
     obtain rfl:=zb aa
     exact yF ((Jl (P:=Tryz.prog) y9 hy 19 (s:=fk) (x:=(x6,b_)) (s':=yr.1) (b:=yr.2) .nilFunc h0).or X0) hC .ret [(0,.own (.opq (YY yr.1).q))] (Z0 ++ [Hq c2]) fun st0 h0=>hE _ st0 (.inr rfl) h0
    ·obtain rfl:=zb ai
     exact yB ((Jl (P:=Tryz.prog) y9 hy 19 (s:=fk) (x:=(x6,b_)) (s':=yr.1) (b:=yr.2) .nilFunc h0).or X0) hC bz (yr.1,w64 (b_ + 1)) hl2 (Z0 ++ [Hq c2])
   ·obtain rfl:=zb ai
    obtain rfl:=hl2
    exact yB X0 hC a6 fk ae [Hq c1]
 ·obtain rfl:=zb ae
  obtain rfl:=hl1
  obtain rfl:=zb aa
  exact yF X0 hC .normal [(0,.own (.opq (YY ct).q))] [Hq c0] fun st0 h0=>hE _ st0 (.inl rfl) h0
def z4A:Code:=(Tryz.f118.body).getD .skip
def Wo:zO:=spF (α:=Int × Int) (ρ:=Bool) 118 (fun x=>[(eI .i64) x.1,(eI .i64) x.2]) (fun r=>eB r) (fun x=>JW x.1 x.2) [] (QM)
theorem z5f (hC:zB Tryz.prog ctr):Wo.Ok Tryz.prog:=by
 refine zD ?_
 rintro ⟨a_,b_⟩ r0 aa
 try unfold JW at aa
 refine yO true [(4,none)] z4A 5 Tryz.func118 fun E hE=>?_
 obtain rfl:=zb aa
 exact yE X0 hC hE []
def z1Q:Code:=(Tryz.f187.body).getD .skip
def vO:zO:=spF (α:=Int × z6) (ρ:=Bool) 187 (fun x=>[(eI .i64) x.1,z1n x.2]) (fun r=>eB r) (fun x=>VE x.1 x.2) [] (QM)
theorem z2z (hC:zB Tryz.prog ctr):vO.Ok Tryz.prog:=by
 refine zD ?_
 rintro ⟨s_,x1⟩ r0 aa
 try unfold VE at aa
 refine yO true [(3,none)] z1Q 13 Tryz.func187 fun E hE=>?_
 rcases zL aa with ⟨c0,aa⟩ | ⟨c0,aa⟩
 ·obtain rfl:=zb aa
  exact yE X0 hC hE (rpN 6 (Hq c0) [])
 ·obtain rfl:=zb aa
  exact yE X0 hC hE (rpN 4 (Hq c0) [Ha (lnM yQ x1.Rows),Hq c0,Hq c0])
def xP:Code:=(Tryz.f156.body).getD .skip
def vP:zO:=spF (α:=List Int × z6) (ρ:=Int) 156 (fun x=>[F7_ x.1,(Qk 187 z1n) x.2]) (fun r=>(eI .i64) r) (fun x=>wt x.1 x.2) [] (by
 rintro ⟨a0,a1⟩ ⟨b0,b1⟩ h
 have e0:=vL.inj (f:=F7_) _ _ (List.cons.inj h).1
 replace h:=(List.cons.inj h).2
 have e1:=vL.inj (f:=(Qk 187 z1n)) _ _ (List.cons.inj h).1
 subst e0 e1
 rfl)
abbrev Zn:List (Nat × T):=[]
abbrev Zm (s_:List Int) (f_:z6) (x8:Int):List (Nat × T):=[(0,.d (eSl 1 false (eI .i64) s_)),(1,.d (.fn 187 [.sptr (.agg [I f_.Inputs,I f_.Outputs,eSl 1 false yQ f_.Rows])])),(7,.d (I ((s_.length:Nat):Int))),(8,.d (I x8))]
theorem YT (hC:zB Tryz.prog ctr) (h08:ctr.Has vO):vP.Ok Tryz.prog:=by
 refine zD ?_
 rintro ⟨s_,f_⟩ r0 aa
 try unfold wt at aa
 refine yO true [(4,none)] xP 19 Tryz.func156 fun E hE=>?_
 refine yJ X0 hC xP [1] [] [] (fun z:Unit=>xN=some r0) (fun z=>Zn) [(0,.d (eSl 1 false (eI .i64) s_)),(1,.d (.fn 187 [.sptr (.agg [I f_.Inputs,I f_.Outputs,eSl 1 false yQ f_.Rows])]))] [Hh (.cut 1)] ?_ fun J1 az=>?_
 ·rintro ⟨⟩ aa
  unfold xN at aa
  obtain rfl:=zb aa
  exact yE X0 hC hE []
 ·obtain ⟨t2,ht2,aa⟩:=zf aa
  refine yL X0 hC xP [1,2,1,0] [J1] (fun s=>xM s_ f_ s) (fun x=>Zm s_ f_ x) 0 ht2  [Ha (lnM (eI .i64) s_)] ?_
  rintro x8 m2 a8 ae hl1 J2 a6
  try unfold xM at ae
  rcases zL ae with ⟨c0,ae⟩ | ⟨c0,ae⟩
  ·obtain ⟨da,h0,ae⟩:=zf ae
   obtain ⟨r_,h1,ae⟩:=zf ae
   let Z0:List HO:=[Hq c0,Hi (eI .i64) h0,Hc h08 (x:=(da,f_)) h1 (loC (eI .i64) da <| loC z1n f_ <| loN)]
   rcases zL ae with ⟨c1,ae⟩ | ⟨c1,ae⟩
   ·obtain rfl:=zb ae
    obtain rfl:=hl1
    obtain rfl:=zb aa
    exact yE X0 hC hE (Z0 ++ [Hq c1])
   ·obtain rfl:=zb ae
    exact yB X0 hC a6 (w64 (x8 + 1)) hl1 (Z0 ++ [Hq c1])
  ·obtain rfl:=zb ae
   obtain rfl:=hl1
   exact yB X0 hC az () aa [Hq c0]
def Zl:Code:=(Tryz.f126.body).getD .skip
def wS:zO:=spF (α:=List Int × z6) (ρ:=Bool) 126 (fun x=>[F7_ x.1,(Qk 187 z1n) x.2]) (fun r=>eB r) (fun x=>xO x.1 x.2) [] (by
 rintro ⟨a0,a1⟩ ⟨b0,b1⟩ h
 have e0:=vL.inj (f:=F7_) _ _ (List.cons.inj h).1
 replace h:=(List.cons.inj h).2
 have e1:=vL.inj (f:=(Qk 187 z1n)) _ _ (List.cons.inj h).1
 subst e0 e1
 rfl)
theorem v6 (hC:zB Tryz.prog ctr) (h08:ctr.Has vO):wS.Ok Tryz.prog:=by
 refine zD ?_
 rintro ⟨s_,f_⟩ r0 aa
 try unfold xO at aa
 refine yO true [(4,none)] Zl 9 Tryz.func126 fun E hE=>?_
 obtain ⟨r_,h0,aa⟩:=zf aa
 obtain rfl:=zb aa
 exact yE ((z61 zt (YT hC h08) 7).or X0) hC hE [Hc (Ctr.add_has Kw vP) (x:=(s_,f_)) h0 (loC F7_ s_ <| loC (Qk 187 z1n) f_ <| loN)]
def z4w:Code:=(Tryz.f168.body).getD .skip
def Wi:zO:=spF (α:=z6 × List Int) (ρ:=Int) 168 (fun x=>[zQ x.1,F7_ x.2]) (fun r=>(eI .i64) r) (fun x=>JB x.1 x.2) [] (QM)
theorem z58 (hC:zB Tryz.prog ctr) (h02:ctr.Has yk) (h08:ctr.Has vO):Wi.Ok Tryz.prog:=by
 refine zD ?_
 rintro ⟨m_,l_⟩ r0 aa
 try unfold JB at aa
 refine yO true [(4,none)] z4w 14 Tryz.func168 fun E hE=>?_
 obtain ⟨r_,h0,aa⟩:=zf aa
 let Z0:List HO:=[Hc h02 (x:=m_) h0 (loC zQ m_ <| loN)]
 rcases zL aa with ⟨c0,aa⟩ | ⟨c0,aa⟩
 ·obtain rfl:=zb aa
  exact yE X0 hC hE (Z0 ++ [Hq c0])
 ·obtain ⟨ah,h1,aa⟩:=zf aa
  let Z1:List HO:=(Z0 ++ [Hq c0,Hc (Ctr.add_has Kw wS) (x:=(l_,m_)) h1 (loC F7_ l_ <| loC (Qk 187 z1n) m_ <| loN)])
  rcases zL aa with ⟨c1,aa⟩ | ⟨c1,aa⟩
  ·obtain rfl:=zb aa
   exact yE ((z61 zt (v6 hC h08) 13).or X0) hC hE (Z1 ++ [Hq c1])
  ·obtain rfl:=zb aa
   exact yE ((z61 zt (v6 hC h08) 13).or X0) hC hE (Z1 ++ [Hq c1])
def z4x:Code:=(Tryz.f188.body).getD .skip
def Wj:zO:=spF (α:=z6) (ρ:=z6) 188 (fun x=>[zQ x]) (fun r=>(Qk 199 z1n) r) (fun x=>JC x) [] (UM)
theorem z59 (hC:zB Tryz.prog ctr):Wj.Ok Tryz.prog:=by
 refine zD ?_
 rintro m_ r0 aa
 try unfold JC at aa
 refine yO true [(2,none)] z4x 4 Tryz.func188 fun E hE=>?_
 obtain rfl:=zb aa
 exact yE X0 hC hE []
end Go.Own
end
