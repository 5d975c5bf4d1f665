/- -/
import Derived.Test.YtkalhfmehmcofaaGreatPartE
noncomputable section
set_option linter.unusedVariables false
set_option linter.unusedSimpArgs false
namespace Go.Own
open Go.Proofs
set_option maxRecDepth 100000
set_option maxHeartbeats 8000000
def X0 : XH Tryz.prog:=xB y4
theorem JM : Tryz.prog.follows .mixedOrders = true:=by kernel_rfl
section
variable {ctr : Ctr} {n : Fr} {Q : Exit → St → Prop} {c : Code} {fs : List Fm} {st : St}
theorem yE (X : XH Tryz.prog) (hC : zr Tryz.prog ctr) {E : St → Prop} {r : A} {keep : Bool} {rs : List (Nat × Option Nat)} (hE : ∀ st x R U,zae Ve keep rs st = some (x,R,U) → LeV x r → E st) (L : List HO) (e : zgz X Ve ctr n keep rs 4000 c fs st (hoH L) = some (r,hoO L):=by kernel_rfl) : AWP Tryz.prog n c st (Qf Tryz.prog n fs (zec E)):=yE6 X y4 hC JM hE L e
theorem yEx (X : XH Tryz.prog) (hC : zr Tryz.prog ctr) {E : St → Prop} {r : A} {keep : Bool} {rs : List (Nat × Option Nat)} (hE : ∀ st x R U,zae Ve keep rs st = some (x,R,U) → LeV x r → E st) (L : List HO) (x : A) (hle : LeV x r) (e : zgz X Ve ctr n keep rs 4000 c fs st (hoH L) = some (x,hoO L):=by kernel_rfl) : AWP Tryz.prog n c st (Qf Tryz.prog n fs (zec E)):=zk9 X y4 hC JM hE L x hle e
theorem yB (X : XH Tryz.prog) (hC : zr Tryz.prog ctr) {τ : Type} {J : St → Prop} {live : List Nat} {S : τ → List (Nat × T)} {Inv : τ → Prop} (hJ : ∀ st' l' z,Inv z → Own.canon live st' = ofL l' → LeL l' (S z) → J st') (z : τ) (hz : Inv z) (L : List HO) (e : z5E X Ve ctr n live 4000 c fs st (hoH L) = some (.back J,ofL (S z),hoO L):=by kernel_rfl) : AWP Tryz.prog n c st (Qf Tryz.prog n fs Q):=yB6 X y4 hC JM hJ z hz L e
theorem yA (X : XH Tryz.prog) (hC : zr Tryz.prog ctr) (bd : Code) (path : List Nat) (Js : List (St → Prop)) (l : List (Nat × T)) (L : List HO) (h : AWP Tryz.prog n (sub path bd) (ofL l) (Qf Tryz.prog n (frs path Js bd []) Q)) (e : z5E X Ve ctr n (QN l) 4000 c fs st (hoH L) = some (.at (sub path bd) (frs path Js bd []),ofL l,hoO L):=by kernel_rfl) : AWP Tryz.prog n c st (Qf Tryz.prog n fs Q):=yA6 X y4 hC JM bd path Js l L e h
theorem yAt (X : XH Tryz.prog) (hC : zr Tryz.prog ctr) (c' : Code) (fs' : List Fm) (l : List (Nat × T)) (L : List HO) (h : ∀ st0,Own.canon (QN l) st0 = ofL l → AWP Tryz.prog n c' st0 (Qf Tryz.prog n fs' Q)) (e : z5E X Ve ctr n (QN l) 4000 c fs st (hoH L) = some (.at c' fs',ofL l,hoO L):=by kernel_rfl) : AWP Tryz.prog n c st (Qf Tryz.prog n fs Q):=zka X y4 hC JM c' fs' l L e h
theorem yLx (X : XH Tryz.prog) (hC : zr Tryz.prog ctr) (bd : Code) (path : List Nat) (Js : List (St → Prop)) {σ τ : Type} (f : σ → Option (LR σ τ)) (S : σ → List (Nat × T)) (x0 : σ) {t : τ} (ht : loop f x0 = some t) (l : List (Nat × T)) (hl : LeL l (S x0)) (L : List HO) (round : ∀ x m lr,f x = some lr → zio f m t lr → ∀ J : St → Prop,(∀ st' l' x',QM f m x' = some t → Own.canon (QN l) st' = ofL l' → LeL l' (S x') → J st') → AWP Tryz.prog n (sub (path ++ [0]) bd) (ofL (S x)) (Qf Tryz.prog n (.pre J :: frs path Js bd []) Q)) (e : z5E X Ve ctr n (QN l) 4000 c fs st (hoH L) = some (.at (sub path bd) (frs path Js bd []),ofL l,hoO L):=by kernel_rfl) (e2 : sub path bd = .loop (sub (path ++ [0]) bd):=by kernel_rfl) (hk : ∀ x,QN (S x) = QN l:=by exact fun _ => rfl) : AWP Tryz.prog n c st (Qf Tryz.prog n fs Q):=yL6 X y4 hC JM bd path Js f S x0 ht l hl L hk e e2 round
theorem yL (X : XH Tryz.prog) (hC : zr Tryz.prog ctr) (bd : Code) (path : List Nat) (Js : List (St → Prop)) {σ τ : Type} (f : σ → Option (LR σ τ)) (S : σ → List (Nat × T)) (x0 : σ) {t : τ} (ht : loop f x0 = some t) (L : List HO) (round : ∀ x m lr,f x = some lr → zio f m t lr → ∀ J : St → Prop,(∀ st' l' x',QM f m x' = some t → Own.canon (QN (S x0)) st' = ofL l' → LeL l' (S x') → J st') → AWP Tryz.prog n (sub (path ++ [0]) bd) (ofL (S x)) (Qf Tryz.prog n (.pre J :: frs path Js bd []) Q)) (e : z5E X Ve ctr n (QN (S x0)) 4000 c fs st (hoH L) = some (.at (sub path bd) (frs path Js bd []),ofL (S x0),hoO L):=by kernel_rfl) (e2 : sub path bd = .loop (sub (path ++ [0]) bd):=by kernel_rfl) (hk : ∀ x,QN (S x) = QN (S x0):=by exact fun _ => rfl) : AWP Tryz.prog n c st (Qf Tryz.prog n fs Q):=yL6 X y4 hC JM bd path Js f S x0 ht _ (LeL.refl _) L hk e e2 round
theorem yJ (X : XH Tryz.prog) (hC : zr Tryz.prog ctr) (bd : Code) (path : List Nat) (Js : List (St → Prop)) {σ : Type} (live : List Nat) (Inv : σ → Prop) (S : σ → List (Nat × T)) (l : List (Nat × T)) (L : List HO) (h1 : ∀ z,Inv z → AWP Tryz.prog n (sub (path ++ [1]) bd) (ofL (S z)) (Qf Tryz.prog n (frs path Js bd []) Q)) (h2 : ∀ J : St → Prop,(∀ st' l' z,Inv z → Own.canon live st' = ofL l' → LeL l' (S z) → J st') → AWP Tryz.prog n (sub (path ++ [2]) bd) (ofL l) (Qf Tryz.prog n (.pre J :: frs path Js bd []) Q)) (e : z5E X Ve ctr n (QN l) 4000 c fs st (hoH L) = some (.at (sub path bd) (frs path Js bd []),ofL l,hoO L):=by kernel_rfl) (e2 : sub path bd = .seq (sub (path ++ [2]) bd) (sub (path ++ [1]) bd):=by kernel_rfl) : AWP Tryz.prog n c st (Qf Tryz.prog n fs Q):=yJ6 X y4 hC JM bd path Js live Inv S l L e e2 h1 h2
theorem yF (X : XH Tryz.prog) (hC : zr Tryz.prog ctr) (ex : Exit) (l : List (Nat × T)) (L : List HO) (h : ∀ st0,Own.canon (QN l) st0 = ofL l → Q ex st0) (e : z5E X Ve ctr n (QN l) 4000 c fs st (hoH L) = some (.fin ex,ofL l,hoO L):=by kernel_rfl) : AWP Tryz.prog n c st (Qf Tryz.prog n fs Q):=yF6 X y4 hC JM ex l L e h
theorem yO {k : Nat} {fn : Func} {r : A} {ls : List A} (keep : Bool) (rs : List (Nat × Option Nat)) (body : Code) (nt : Nat) (hf : Tryz.prog.funcs[k]? = some fn) (h : ∀ E : St → Prop,(∀ st x R U,zae Ve keep rs st = some (x,R,U) → LeV x r → E st) → AWP Tryz.prog ⟨nt,[]⟩ body (ofL (z73 0 ls)) (Qf Tryz.prog ⟨nt,[]⟩ [] (zec E))) (hb : fn.body = some body:=by kernel_rfl) (hn : nt = fn.ntmps:=by exact rfl) (hr : fn.results = (rs.map zbV).toArray:=by exact rfl) (hnm : (fn.name == "runtime.NumGoroutine") = false:=by exact rfl) (ha : Nat.ble ls.length nt = true:=by kernel_rfl) : z1a Tryz.prog k ls r:=yO6 y4 keep rs body nt hf hb hn hr hnm ha h
end
theorem z6t : zdY Tryz.prog 229 234 3 (z33 [.i64,.i64,.i64,.i64,.i64,.i64,.i64,.i64,.i64,.i64,.i64,.i64,.i64,.i64,.i64,.i64,.i64,.i64,.i64,.i64,.i64,.i64,.i64,.i64,.i64,.i64,.i64,.i64,.i64,.i64,.i64,.i64,.i64]) (.atom (.int .i64 0)):=zd2 Tryz.underlying229 _ Tryz.underlying234 (exq Go.Ex.zjD) (z7V.eqn rfl) rfl ⟨.int .i64 0,fun w => zbQ (f:=Tryz.t3) (by kernel_rfl) rfl w,fun S => vp.2 ⟨rfl,rfl⟩⟩ rfl
theorem zfW : z91 Tryz.prog 54 0 3 0:=zaX Tryz.underlying54 _ rfl rfl rfl
def z3m : Code:=(Tryz.f50.body).getD .skip
def Xv : yK:=spF (α:=List Int × Int) (ρ:=Int) 50 (fun x => [F4_ x.1,(eI .i64) x.2]) (fun r => (eI .i64) r) (fun x => jJ x.1 x.2) [] (Uv)
variable {ctr : Ctr}
theorem z3Y (hC : zr Tryz.prog ctr) : Xv.Ok Tryz.prog:=by
 refine zp ?_
 rintro ⟨l_,k_⟩ r0 aa
 try unfold jJ at aa
 refine yO true [(4,none)] z3m 14 Tryz.func50 fun E hE => ?_
 rcases zy aa with ⟨c0,aa⟩ | ⟨c0,aa⟩
 ·obtain ⟨bj,h0,aa⟩:=z8 aa
  obtain rfl:=z7 aa
  exact yE X0 hC hE [Ha (lnM (eI .u16) l_),Hq c0,Hi (eI .u16) h0]
 ·obtain rfl:=z7 aa
  exact yE X0 hC hE [Ha (lnM (eI .u16) l_),Hq c0]
def zI : Code:=(Tryz.f25.body).getD .skip
def Vo : yK:=spF (α:=zu) (ρ:=z4) 25 (fun x => [US x]) (fun r => ze r) (fun x => V4 x) [] (VY)
abbrev z1W (x_ : zu) (bf : List (List z5)) : List (Nat × T):=[(2,.own (.box (.agg [I 0,I 0,eOs 1 true zw []]))),(4,.own (.box (.agg [I (w64 (1 + (w64 (Int.tmod x_.Inputs 3)))),I (w64 (1 + (w64 (Int.tmod x_.Outputs 3)))),eOs 1 false xJ bf])))]
abbrev z1V (x_ : zu) (s_ : Int) (cr : List (List z5)) : List (Nat × T):=[(1,.own (.box (US x_))),(2,.own (.box (.agg [I 0,I 0,eOs 1 true zw []]))),(3,.d (I (w64 (1 + (w64 (Int.tmod x_.States 6)))))),(4,.own (.box (.agg [I (w64 (1 + (w64 (Int.tmod x_.Inputs 3)))),I (w64 (1 + (w64 (Int.tmod x_.Outputs 3)))),eOs 1 false xJ cr]))),(13,.d (I s_))]
abbrev z1U (x_ : zu) (s_ : Int) (i_ : Int) (io : List (List z5)) : List (Nat × T):=[(1,.own (.box (US x_))),(2,.own (.box (.agg [I 0,I 0,eOs 1 true zw []]))),(3,.d (I (w64 (1 + (w64 (Int.tmod x_.States 6)))))),(4,.own (.box (.agg [I (w64 (1 + (w64 (Int.tmod x_.Inputs 3)))),I (w64 (1 + (w64 (Int.tmod x_.Outputs 3)))),eOs 1 false xJ io]))),(13,.d (I s_)),(14,.d (I i_))]
abbrev z1R (x_ : zu) (s_ : Int) (de : List (List z5)) (i_ : Int) : List (Nat × T):=[(1,.own (.box (US x_))),(2,.own (.box (.agg [I 0,I 0,eOs 1 true zw []]))),(3,.d (I (w64 (1 + (w64 (Int.tmod x_.States 6)))))),(4,.own (.box (.agg [I (w64 (1 + (w64 (Int.tmod x_.Inputs 3)))),I (w64 (1 + (w64 (Int.tmod x_.Outputs 3)))),eOs 1 false xJ de]))),(13,.d (I s_)),(14,.d (I i_))]
abbrev z1S (x_ : zu) (da : List (List z5)) (s_ : Int) : List (Nat × T):=[(1,.own (.box (US x_))),(2,.own (.box (.agg [I 0,I 0,eOs 1 true zw []]))),(3,.d (I (w64 (1 + (w64 (Int.tmod x_.States 6)))))),(4,.own (.box (.agg [I (w64 (1 + (w64 (Int.tmod x_.Inputs 3)))),I (w64 (1 + (w64 (Int.tmod x_.Outputs 3)))),eOs 1 false xJ da]))),(13,.d (I s_))]
abbrev z1X (x_ : zu) (bp : List (List z5)) : List (Nat × T):=[(1,.own (.box (US x_))),(2,.own (.box (.agg [I 0,I 0,eOs 1 true zw []]))),(3,.d (I (w64 (1 + (w64 (Int.tmod x_.States 6)))))),(4,.own (.box (.agg [I (w64 (1 + (w64 (Int.tmod x_.Inputs 3)))),I (w64 (1 + (w64 (Int.tmod x_.Outputs 3)))),eOs 1 false xJ bp])))]
abbrev z1T (x_ : zu) (ax : Int) (ip : List (List z5)) : List (Nat × T):=[(1,.own (.box (US x_))),(2,.own (.box (.agg [I 0,I 0,eOs 1 true zw []]))),(3,.d (I (w64 (1 + (w64 (Int.tmod x_.States 6)))))),(4,.own (.box (.agg [I (w64 (1 + (w64 (Int.tmod x_.Inputs 3)))),I (w64 (1 + (w64 (Int.tmod x_.Outputs 3)))),eOs 1 false xJ ip]))),(9,.d (I ax))]
abbrev z0Q (x_ : zu) (az : List (List z5)) (ax : Int) (k_ : Int) : List (Nat × T):=[(1,.own (.box (US x_))),(2,.own (.box (.agg [I 0,I 0,eOs 1 true zw []]))),(3,.d (I (w64 (1 + (w64 (Int.tmod x_.States 6)))))),(4,.own (.box (.agg [I (w64 (1 + (w64 (Int.tmod x_.Inputs 3)))),I (w64 (1 + (w64 (Int.tmod x_.Outputs 3)))),eOs 1 false xJ az]))),(9,.d (I ax)),(12,.d (I k_))]
abbrev z0R (x_ : zu) (az : List (List z5)) (ax : Int) (free : List Int) : List (Nat × T):=[(1,.own (.box (US x_))),(2,.own (.box (.agg [I 0,I 0,eOs 1 true zw []]))),(3,.d (I (w64 (1 + (w64 (Int.tmod x_.States 6)))))),(4,.own (.box (.agg [I (w64 (1 + (w64 (Int.tmod x_.Inputs 3)))),I (w64 (1 + (w64 (Int.tmod x_.Outputs 3)))),eOs 1 false xJ az]))),(9,.d (I ax)),(10,.own (eOs 1 false (eI .i64) free))]
abbrev z0P (x_ : zu) (az : List (List z5)) (ax : Int) (ap : Int) (jj : List Int) : List (Nat × T):=[(1,.own (.box (US x_))),(2,.own (.box (.agg [I 0,I 0,eOs 1 true zw []]))),(3,.d (I (w64 (1 + (w64 (Int.tmod x_.States 6)))))),(4,.own (.box (.agg [I (w64 (1 + (w64 (Int.tmod x_.Inputs 3)))),I (w64 (1 + (w64 (Int.tmod x_.Outputs 3)))),eOs 1 false xJ az]))),(9,.d (I ax)),(10,.own (eOs 1 false (eI .i64) jj)),(11,.d (I ap))]
abbrev z0M (x_ : zu) (az : List (List z5)) (ax : Int) (ft : List Int) (ap : Int) : List (Nat × T):=[(1,.own (.box (US x_))),(2,.own (.box (.agg [I 0,I 0,eOs 1 true zw []]))),(3,.d (I (w64 (1 + (w64 (Int.tmod x_.States 6)))))),(4,.own (.box (.agg [I (w64 (1 + (w64 (Int.tmod x_.Inputs 3)))),I (w64 (1 + (w64 (Int.tmod x_.Outputs 3)))),eOs 1 false xJ az]))),(9,.d (I ax)),(10,.own (eOs 1 false (eI .i64) ft)),(11,.d (I ap))]
abbrev z1Q (x_ : zu) (az : List (List z5)) (ax : Int) : List (Nat × T):=[(1,.own (.box (US x_))),(2,.own (.box (.agg [I 0,I 0,eOs 1 true zw []]))),(3,.d (I (w64 (1 + (w64 (Int.tmod x_.States 6)))))),(4,.own (.box (.agg [I (w64 (1 + (w64 (Int.tmod x_.Inputs 3)))),I (w64 (1 + (w64 (Int.tmod x_.Outputs 3)))),eOs 1 false xJ az]))),(9,.d (I ax))]
abbrev z1Y (x_ : zu) (cm : List (List z5)) : List (Nat × T):=[(1,.own (.box (US x_))),(2,.own (.box (.agg [I 0,I 0,eOs 1 true zw []]))),(3,.d (I (w64 (1 + (w64 (Int.tmod x_.States 6)))))),(4,.own (.box (.agg [I (w64 (1 + (w64 (Int.tmod x_.Inputs 3)))),I (w64 (1 + (w64 (Int.tmod x_.Outputs 3)))),eOs 1 false xJ cm])))]
abbrev z0O (x_ : zu) (br : Int) (gz : List (List z5)) : List (Nat × T):=[(1,.own (.box (US x_))),(2,.own (.box (.agg [I 0,I 0,eOs 1 true zw []]))),(3,.d (I (w64 (1 + (w64 (Int.tmod x_.States 6)))))),(4,.own (.box (.agg [I (w64 (1 + (w64 (Int.tmod x_.Inputs 3)))),I (w64 (1 + (w64 (Int.tmod x_.Outputs 3)))),eOs 1 false xJ gz]))),(5,.d (I br))]
abbrev z0N (x_ : zu) (bq : List (List z5)) (br : Int) (row : List z5) : List (Nat × T):=[(1,.own (.box (US x_))),(2,.own (.box (.agg [I 0,I 0,eOs 1 true zw []]))),(3,.d (I (w64 (1 + (w64 (Int.tmod x_.States 6)))))),(4,.own (.box (.agg [I (w64 (1 + (w64 (Int.tmod x_.Inputs 3)))),I (w64 (1 + (w64 (Int.tmod x_.Outputs 3)))),eOs 1 false xJ bq]))),(5,.d (I br)),(6,.own (eOs 2 false F8_ row))]
abbrev z0K (x_ : zu) (bq : List (List z5)) (br : Int) (ay : List z5) (jl : Int) : List (Nat × T):=[(1,.own (.box (US x_))),(2,.own (.box (.agg [I 0,I 0,eOs 1 true zw []]))),(3,.d (I (w64 (1 + (w64 (Int.tmod x_.States 6)))))),(4,.own (.box (.agg [I (w64 (1 + (w64 (Int.tmod x_.Inputs 3)))),I (w64 (1 + (w64 (Int.tmod x_.Outputs 3)))),eOs 1 false xJ bq]))),(5,.d (I br)),(6,.own (eOs 2 false F8_ ay)),(7,.d (I jl))]
abbrev z0L (x_ : zu) (bq : List (List z5)) (br : Int) : List (Nat × T):=[(1,.own (.box (US x_))),(2,.own (.box (.agg [I 0,I 0,eOs 1 true zw []]))),(3,.d (I (w64 (1 + (w64 (Int.tmod x_.States 6)))))),(4,.own (.box (.agg [I (w64 (1 + (w64 (Int.tmod x_.Inputs 3)))),I (w64 (1 + (w64 (Int.tmod x_.Outputs 3)))),eOs 1 false xJ bq]))),(5,.d (I br))]
theorem z5S (hC : zr Tryz.prog ctr) (h0r : ctr.Has Xv) : Vo.Ok Tryz.prog:=by
 refine zp ?_
 rintro x_ r0 aa
 try unfold V4 at aa
 refine yO false [(2,some 34)] zI 178 Tryz.func25 fun E hE => ?_
 obtain ⟨g0,aa⟩:=gdE aa
 obtain ⟨g1,aa⟩:=gdE aa
 obtain ⟨g2,aa⟩:=gdE aa
 refine yJ X0 hC zI [1,1,1] [] [1,2,3,4] (fun z : List (List z5) => X3 x_ z = some r0) (fun z => z1Y x_ z) [(1,.own (.box (US x_))),(2,.own (.box (.agg [I 0,I 0,eOs 1 true zw []]))),(3,.d (I (w64 (1 + (w64 (Int.tmod x_.States 6)))))),(4,.own (.box (.agg [I (w64 (1 + (w64 (Int.tmod x_.Inputs 3)))),I (w64 (1 + (w64 (Int.tmod x_.Outputs 3)))),eOs 1 true zw []])))] [Hn g0,Hn g1,Hn g2,Hh (.cut 3)] ?_ fun J1 ar => ?_
 ·rintro cm aa
  unfold X3 at aa
  refine yJ X0 hC zI [1,1,1,1] [] [1,2,3,4] (fun z : List (List z5) => X2 x_ z = some r0) (fun z => z1X x_ z) [(1,.own (.box (US x_))),(2,.own (.box (.agg [I 0,I 0,eOs 1 true zw []]))),(3,.d (I (w64 (1 + (w64 (Int.tmod x_.States 6)))))),(4,.own (.box (.agg [I (w64 (1 + (w64 (Int.tmod x_.Inputs 3)))),I (w64 (1 + (w64 (Int.tmod x_.Outputs 3)))),eOs 1 false xJ cm])))] [Hh (.cut 0)] ?_ fun J2 av => ?_
  ·rintro bp aa
   unfold X2 at aa
   refine yJ X0 hC zI [1,1,1,1,1] [] [2,4] (fun z : List (List z5) => X1 x_ z = some r0) (fun z => z1W x_ z) [(1,.own (.box (US x_))),(2,.own (.box (.agg [I 0,I 0,eOs 1 true zw []]))),(3,.d (I (w64 (1 + (w64 (Int.tmod x_.States 6)))))),(4,.own (.box (.agg [I (w64 (1 + (w64 (Int.tmod x_.Inputs 3)))),I (w64 (1 + (w64 (Int.tmod x_.Outputs 3)))),eOs 1 false xJ bp])))] [Hh (.cut 0)] ?_ fun J3 bk => ?_
   ·rintro bf aa
    unfold X1 at aa
    obtain rfl:=z7 aa
    exact yE X0 hC hE [Hm (shM xJ zw bf)]
   ·obtain ⟨t4,ht4,aa⟩:=z8 aa
    refine yL X0 hC zI [1,1,1,1,1,2,1,0] [J3] (fun s => uV x_ s.1 s.2) (fun x => z1S x_ x.1 x.2) (bp,0) ht4  [] ?_
    rintro ⟨da,s_⟩ m4 aw ae hl1 J4 ca
    try unfold uV at ae
    rcases zy ae with ⟨c0,ae⟩ | ⟨c0,ae⟩
    ·refine yJ X0 hC zI [1,1,1,1,1,2,1,0,0,1] [J3,J4] [1,2,3,4,13] (fun z : List (List z5) => YZ s_ z = some aw) (fun z => z1V x_ s_ z) [(1,.own (.box (US x_))),(2,.own (.box (.agg [I 0,I 0,eOs 1 true zw []]))),(3,.d (I (w64 (1 + (w64 (Int.tmod x_.States 6)))))),(4,.own (.box (.agg [I (w64 (1 + (w64 (Int.tmod x_.Inputs 3)))),I (w64 (1 + (w64 (Int.tmod x_.Outputs 3)))),eOs 1 false xJ da]))),(13,.d (I s_))] [Hq c0,Hh (.cut 0)] ?_ fun J5 cb => ?_
     ·rintro cr ae
      unfold YZ at ae
      obtain rfl:=z7 ae
      exact yB X0 hC ca (cr,w64 (s_ + 1)) hl1 []
     ·obtain ⟨t6,ht6,ae⟩:=z8 ae
      refine yL X0 hC zI [1,1,1,1,1,2,1,0,0,1,2,0,1,0] [J3,J4,J5] (fun s => uU x_ s_ s.1 s.2) (fun x => z1R x_ s_ x.1 x.2) (da,0) ht6  [] ?_
      rintro ⟨de,i_⟩ m6 cp ah hl2 J6 dr
      try unfold uU at ah
      rcases zy ah with ⟨c1,ah⟩ | ⟨c1,ah⟩
      ·refine yJ X0 hC zI [1,1,1,1,1,2,1,0,0,1,2,0,1,0,0,1] [J3,J4,J5,J6] [1,2,3,4,13,14] (fun z : List (List z5) => Zh i_ z = some cp) (fun z => z1U x_ s_ i_ z) [(1,.own (.box (US x_))),(2,.own (.box (.agg [I 0,I 0,eOs 1 true zw []]))),(3,.d (I (w64 (1 + (w64 (Int.tmod x_.States 6)))))),(4,.own (.box (.agg [I (w64 (1 + (w64 (Int.tmod x_.Inputs 3)))),I (w64 (1 + (w64 (Int.tmod x_.Outputs 3)))),eOs 1 false xJ de]))),(13,.d (I s_)),(14,.d (I i_))] [Hq c1,Hh (.cut 0)] ?_ fun J7 hJ7 => ?_
       ·rintro io ah
        unfold Zh at ah
        obtain rfl:=z7 ah
        exact yB X0 hC dr (io,w64 (i_ + 1)) hl2 []
       ·obtain ⟨k9,h0,ah⟩:=z8 ah
        obtain ⟨j6,h1,ah⟩:=z8 ah
        let Z0 : List HO:=[Hn (iL xJ h0),Hs (iM xJ h0),Hs (iM xJ h0),Hn (iL F8_ h1),Hs (iM xJ h0),Hs (iM F8_ h1),Hs (iM xJ h0),Hs (iM F8_ h1)]
        rcases zy ah with ⟨c2,ah⟩ | ⟨c2,ah⟩
        ·obtain ⟨gl,h2,ah⟩:=z8 ah
         obtain ⟨r_,h3,ah⟩:=z8 ah
         obtain ⟨g3,ah⟩:=gdE ah
         obtain ⟨gg,h4,ah⟩:=z8 ah
         exact yB X0 hC hJ7 (de.set s_.toNat (gl.set i_.toNat (z5.mk (Int.tmod r_ (w64 (1 + (w64 (Int.tmod x_.States 6))))) gg.Out))) ah (Z0 ++ [Hq c2,Hn (iL xJ h2),Hs (iM xJ h2),Hc h0r (x:=(x_.Edges,w64 ((w64 (s_ * (w64 (1 + (w64 (Int.tmod x_.Inputs 3)))))) + i_))) h3 (loC F4_ x_.Edges <| loC (eI .i64) (w64 ((w64 (s_ * (w64 (1 + (w64 (Int.tmod x_.Inputs 3)))))) + i_)) <| loN),Hn g3,Hs (iM xJ h2),Hn (iL F8_ h4),Hs (iM xJ h2),Hs (iM F8_ h4),Hs (iM xJ h2),Hs (iM F8_ h4),Hs (iM xJ h2),Hs (iM F8_ h4),Hl (sM F8_ gl i_ (z5.mk (Int.tmod r_ (w64 (1 + (w64 (Int.tmod x_.States 6))))) gg.Out)),Hl (sM xJ de s_ (gl.set i_.toNat (z5.mk (Int.tmod r_ (w64 (1 + (w64 (Int.tmod x_.States 6))))) gg.Out)))])
        ·exact yB X0 hC hJ7 de ah (Z0 ++ [Hq c2])
      ·obtain rfl:=z7 ah
       obtain rfl:=hl2
       exact yB X0 hC cb de ae [Hq c1]
    ·obtain rfl:=z7 ae
     obtain rfl:=hl1
     exact yB X0 hC bk da aa [Hq c0]
  ·obtain ⟨t8,ht8,aa⟩:=z8 aa
   refine yL X0 hC zI [1,1,1,1,2,1,0] [J2] (fun s => uT x_ s.1 s.2) (fun x => z1Q x_ x.1 x.2) (cm,1) ht8  [] ?_
   rintro ⟨az,ax⟩ m8 aw ae hl1 J8 j9
   try unfold uT at ae
   rcases zy ae with ⟨c3,ae⟩ | ⟨c3,ae⟩
   ·refine yJ X0 hC zI [1,1,1,1,2,1,0,0,1] [J2,J8] [1,2,3,4,9] (fun z : List (List z5) => YX ax z = some aw) (fun z => z1T x_ ax z) [(1,.own (.box (US x_))),(2,.own (.box (.agg [I 0,I 0,eOs 1 true zw []]))),(3,.d (I (w64 (1 + (w64 (Int.tmod x_.States 6)))))),(4,.own (.box (.agg [I (w64 (1 + (w64 (Int.tmod x_.Inputs 3)))),I (w64 (1 + (w64 (Int.tmod x_.Outputs 3)))),eOs 1 false xJ az]))),(9,.d (I ax))] [Hq c3,Hh (.cut 0)] ?_ fun J9 lc => ?_
    ·rintro ip ae
     unfold YX at ae
     obtain rfl:=z7 ae
     exact yB X0 hC j9 (ip,w64 (ax + 1)) hl1 []
    ·refine yJ X0 hC zI [1,1,1,1,2,1,0,0,1,2,0,1] [J2,J8,J9] [1,2,3,4,9,10] (fun z : List Int => Y3 x_ az ax z = some aw) (fun z => z0R x_ az ax z) [(1,.own (.box (US x_))),(2,.own (.box (.agg [I 0,I 0,eOs 1 true zw []]))),(3,.d (I (w64 (1 + (w64 (Int.tmod x_.States 6)))))),(4,.own (.box (.agg [I (w64 (1 + (w64 (Int.tmod x_.Inputs 3)))),I (w64 (1 + (w64 (Int.tmod x_.Outputs 3)))),eOs 1 false xJ az]))),(9,.d (I ax)),(10,.own (eOs 1 true (eI .i64) []))] [Hh (.cut 1)] ?_ fun J10 hJ10 => ?_
     ·rintro free ae
      unfold Y3 at ae
      obtain ⟨ji,h5,ae⟩:=z8 ae
      refine yJ X0 hC zI [1,1,1,1,2,1,0,0,1,2,0,1,1,1] [J2,J8,J9] [1,2,3,4,9,12] (fun z : Int => wN x_ az ax z = some aw) (fun z => z0Q x_ az ax z) [(1,.own (.box (US x_))),(2,.own (.box (.agg [I 0,I 0,eOs 1 true zw []]))),(3,.d (I (w64 (1 + (w64 (Int.tmod x_.States 6)))))),(4,.own (.box (.agg [I (w64 (1 + (w64 (Int.tmod x_.Inputs 3)))),I (w64 (1 + (w64 (Int.tmod x_.Outputs 3)))),eOs 1 false xJ az]))),(9,.d (I ax)),(10,.own (eOs 1 false (eI .i64) free)),(12,.d (I ji))] [Hn (iL (eI .i64) h5),Hs (iM (eI .i64) h5),Hh (.cut 0)] ?_ fun J11 hJ11 => ?_
      ·rintro k_ ae
       unfold wN at ae
       obtain ⟨g4,ae⟩:=gdE ae
       obtain ⟨gm,h6,ae⟩:=z8 ae
       obtain ⟨g5,ae⟩:=gdE ae
       obtain ⟨gh,h7,ae⟩:=z8 ae
       exact yB X0 hC lc (az.set (w64 (Int.tdiv k_ (w64 (1 + (w64 (Int.tmod x_.Inputs 3)))))).toNat (gm.set (Int.tmod k_ (w64 (1 + (w64 (Int.tmod x_.Inputs 3))))).toNat (z5.mk ax gh.Out))) ae [Hn g4,Hn (iL xJ h6),Hs (iM xJ h6),Hn g5,Hs (iM xJ h6),Hn (iL F8_ h7),Hs (iM xJ h6),Hs (iM F8_ h7),Hs (iM xJ h6),Hs (iM F8_ h7),Hs (iM xJ h6),Hs (iM F8_ h7),Hl (sM F8_ gm (Int.tmod k_ (w64 (1 + (w64 (Int.tmod x_.Inputs 3))))) (z5.mk ax gh.Out)),Hl (sM xJ az (w64 (Int.tdiv k_ (w64 (1 + (w64 (Int.tmod x_.Inputs 3)))))) (gm.set (Int.tmod k_ (w64 (1 + (w64 (Int.tmod x_.Inputs 3))))).toNat (z5.mk ax gh.Out)))]
      ·let Z1 : List HO:=[Ha (lnM (eI .u8) x_.Tree)]
       rcases zy ae with ⟨c4,ae⟩ | ⟨c4,ae⟩
       ·obtain ⟨lm,h8,ae⟩:=z8 ae
        obtain ⟨g6,ae⟩:=gdE ae
        obtain ⟨jz,h9,ae⟩:=z8 ae
        exact yB X0 hC hJ11 jz ae (Z1 ++ [Hq c4,Hi (eI .u8) h8,Ha (lnM (eI .i64) free),Hn g6,Hn (iL (eI .i64) h9),Hs (iM (eI .i64) h9)])
       ·exact yB X0 hC hJ11 ji ae (Z1 ++ [Hq c4])
     ·obtain ⟨t12,ht12,ae⟩:=z8 ae
      refine yLx X0 hC zI [1,1,1,1,2,1,0,0,1,2,0,1,2,1,0] [J2,J8,J9,J10] (fun s => vM x_ az ax s.1 s.2) (fun x => z0M x_ az ax x.1 x.2) (([] : List Int),0) ht12 [(1,.own (.box (US x_))),(2,.own (.box (.agg [I 0,I 0,eOs 1 true zw []]))),(3,.d (I (w64 (1 + (w64 (Int.tmod x_.States 6)))))),(4,.own (.box (.agg [I (w64 (1 + (w64 (Int.tmod x_.Inputs 3)))),I (w64 (1 + (w64 (Int.tmod x_.Outputs 3)))),eOs 1 false xJ az]))),(9,.d (I ax)),(10,.own (eOs 1 true (eI .i64) [])),(11,.d (I 0))] inferInstance [] ?_
      rintro ⟨ft,ap⟩ n9 cp ah hl2 n7 nw
      try unfold vM at ah
      rcases zy ah with ⟨c5,ah⟩ | ⟨c5,ah⟩
      ·refine yJ X0 hC zI [1,1,1,1,2,1,0,0,1,2,0,1,2,1,0,0,1] [J2,J8,J9,J10,n7] [1,2,3,4,9,10,11] (fun z : List Int => qC ap z = some cp) (fun z => z0P x_ az ax ap z) [(1,.own (.box (US x_))),(2,.own (.box (.agg [I 0,I 0,eOs 1 true zw []]))),(3,.d (I (w64 (1 + (w64 (Int.tmod x_.States 6)))))),(4,.own (.box (.agg [I (w64 (1 + (w64 (Int.tmod x_.Inputs 3)))),I (w64 (1 + (w64 (Int.tmod x_.Outputs 3)))),eOs 1 false xJ az]))),(9,.d (I ax)),(10,.own (eOs 1 false (eI .i64) ft)),(11,.d (I ap))] [Hq c5,Hh (.cut 0)] ?_ fun J13 hJ13 => ?_
       ·rintro jj ah
        unfold qC at ah
        obtain rfl:=z7 ah
        exact yB X0 hC nw (jj,w64 (ap + 1)) hl2 []
       ·obtain ⟨g7,ah⟩:=gdE ah
        obtain ⟨ke,h10,ah⟩:=z8 ah
        obtain ⟨g8,ah⟩:=gdE ah
        obtain ⟨jk,h11,ah⟩:=z8 ah
        let Z2 : List HO:=[Hn g7,Hn (iL xJ h10),Hs (iM xJ h10),Hn g8,Hs (iM xJ h10),Hn (iL F8_ h11),Hs (iM xJ h10),Hs (iM F8_ h11),Hs (iM xJ h10),Hs (iM F8_ h11)]
        rcases zy ah with ⟨c6,ah⟩ | ⟨c6,ah⟩
        ·obtain ⟨g9,ah⟩:=gdE ah
         exact yB X0 hC hJ13 (ft ++ [ap]) ah (Z2 ++ [Hq c6,Hq (dM (eI .i64) [ap]),Hn (dM (eI .i64) [ap]),Hn (aL (eI .i64) (eI .i64) g9),Hl (aM (eI .i64) ft [ap])])
        ·exact yB X0 hC hJ13 ft ah (Z2 ++ [Hq c6])
      ·obtain rfl:=z7 ah
       obtain rfl:=hl2
       exact yB X0 hC hJ10 ft ae [Hq c5]
   ·obtain rfl:=z7 ae
    obtain rfl:=hl1
    exact yB X0 hC av az aa [Hq c3]
 ·obtain ⟨nq,ht14,aa⟩:=z8 aa
  refine yLx X0 hC zI [1,1,1,2,1,0] [J1] (fun s => vL x_ s.1 s.2) (fun x => z0L x_ x.1 x.2) (([] : List (List z5)),0) ht14 [(1,.own (.box (US x_))),(2,.own (.box (.agg [I 0,I 0,eOs 1 true zw []]))),(3,.d (I (w64 (1 + (w64 (Int.tmod x_.States 6)))))),(4,.own (.box (.agg [I (w64 (1 + (w64 (Int.tmod x_.Inputs 3)))),I (w64 (1 + (w64 (Int.tmod x_.Outputs 3)))),eOs 1 true xJ []]))),(5,.d (I 0))] inferInstance [] ?_
  rintro ⟨bq,br⟩ oa aw ae hl1 nj ny
  try unfold vL at ae
  rcases zy ae with ⟨c7,ae⟩ | ⟨c7,ae⟩
  ·refine yJ X0 hC zI [1,1,1,2,1,0,0,1] [J1,nj] [1,2,3,4,5] (fun z : List (List z5) => Y2 br z = some aw) (fun z => z0O x_ br z) [(1,.own (.box (US x_))),(2,.own (.box (.agg [I 0,I 0,eOs 1 true zw []]))),(3,.d (I (w64 (1 + (w64 (Int.tmod x_.States 6)))))),(4,.own (.box (.agg [I (w64 (1 + (w64 (Int.tmod x_.Inputs 3)))),I (w64 (1 + (w64 (Int.tmod x_.Outputs 3)))),eOs 1 false xJ bq]))),(5,.d (I br))] [Hq c7,Hh (.cut 0)] ?_ fun J15 hJ15 => ?_
   ·rintro gz ae
    unfold Y2 at ae
    obtain rfl:=z7 ae
    exact yB X0 hC ny (gz,w64 (br + 1)) hl1 []
   ·refine yJ X0 hC zI [1,1,1,2,1,0,0,1,2,0,1] [J1,nj,J15] [1,2,3,4,5,6] (fun z : List z5 => Y1 bq br z = some aw) (fun z => z0N x_ bq br z) [(1,.own (.box (US x_))),(2,.own (.box (.agg [I 0,I 0,eOs 1 true zw []]))),(3,.d (I (w64 (1 + (w64 (Int.tmod x_.States 6)))))),(4,.own (.box (.agg [I (w64 (1 + (w64 (Int.tmod x_.Inputs 3)))),I (w64 (1 + (w64 (Int.tmod x_.Outputs 3)))),eOs 1 false xJ bq]))),(5,.d (I br)),(6,.own (eOs 2 true F8_ []))] [Hh (.cut 1)] ?_ fun J16 hJ16 => ?_
    ·rintro row ae
     unfold Y1 at ae
     obtain ⟨g10,ae⟩:=gdE ae
     exact yB X0 hC hJ15 (bq ++ [row]) ae [Hq (oC xJ row []),Hn (aL xJ xJ g10),Hl (aM xJ bq [row])]
    ·obtain ⟨t17,ht17,ae⟩:=z8 ae
     refine yLx X0 hC zI [1,1,1,2,1,0,0,1,2,0,1,2,1,0] [J1,nj,J15,J16] (fun s => vK x_ br s.1 s.2) (fun x => z0K x_ bq br x.1 x.2) (([] : List z5),0) ht17 [(1,.own (.box (US x_))),(2,.own (.box (.agg [I 0,I 0,eOs 1 true zw []]))),(3,.d (I (w64 (1 + (w64 (Int.tmod x_.States 6)))))),(4,.own (.box (.agg [I (w64 (1 + (w64 (Int.tmod x_.Inputs 3)))),I (w64 (1 + (w64 (Int.tmod x_.Outputs 3)))),eOs 1 false xJ bq]))),(5,.d (I br)),(6,.own (eOs 2 true F8_ [])),(7,.d (I 0))] inferInstance [] ?_
     rintro ⟨ay,jl⟩ m17 cp ah hl2 oc nz
     try unfold vK at ah
     rcases zy ah with ⟨c8,ah⟩ | ⟨c8,ah⟩
     ·obtain ⟨aj,h12,ah⟩:=z8 ah
      obtain ⟨g11,ah⟩:=gdE ah
      obtain ⟨g12,ah⟩:=gdE ah
      obtain ⟨g13,ah⟩:=gdE ah
      obtain rfl:=z7 ah
      exact yB X0 hC nz ((ay ++ ([(z5.mk (-1) (Int.tmod (w64 (Int.tdiv aj (w64 (1 + (w64 (Int.tmod x_.States 6)))))) (w64 (1 + (w64 (Int.tmod x_.Outputs 3))))))] : List z5)),w64 (jl + 1)) hl2 [Hq c8,Hc h0r (x:=(x_.Edges,w64 ((w64 (br * (w64 (1 + (w64 (Int.tmod x_.Inputs 3)))))) + jl))) h12 (loC F4_ x_.Edges <| loC (eI .i64) (w64 ((w64 (br * (w64 (1 + (w64 (Int.tmod x_.Inputs 3)))))) + jl)) <| loN),Hn g11,Hn g12,Hq (dM F8_ ([(z5.mk (-1) (Int.tmod (w64 (Int.tdiv aj (w64 (1 + (w64 (Int.tmod x_.States 6)))))) (w64 (1 + (w64 (Int.tmod x_.Outputs 3))))))] : List z5)),Hn (dM F8_ ([(z5.mk (-1) (Int.tmod (w64 (Int.tdiv aj (w64 (1 + (w64 (Int.tmod x_.States 6)))))) (w64 (1 + (w64 (Int.tmod x_.Outputs 3))))))] : List z5)),Hn (aL F8_ F8_ g13),Hl (aM F8_ ay ([(z5.mk (-1) (Int.tmod (w64 (Int.tdiv aj (w64 (1 + (w64 (Int.tmod x_.States 6)))))) (w64 (1 + (w64 (Int.tmod x_.Outputs 3))))))] : List z5))]
     ·obtain rfl:=z7 ah
      obtain rfl:=hl2
      exact yB X0 hC hJ16 ay ae [Hq c8]
  ·obtain rfl:=z7 ae
   obtain rfl:=hl1
   exact yB X0 hC ar bq aa [Hq c7]
def Y6 : Code:=(Tryz.f65.body).getD .skip
def Wp : yK:=spF (α:=z4 × List (List Bool) × Int × Int) (ρ:=Int) 65 (fun x => [ze x.1,(eSl 1 false (eSl 1 false eB)) x.2.1,(eI .i64) x.2.2.1,(eI .i64) x.2.2.2]) (fun r => (eI .i64) r) (fun x => XA x.1 x.2.1 x.2.2.1 x.2.2.2) [] (zkx)
abbrev z0w : List (Nat × T):=[]
abbrev z0v (m_ : z4) (au : List (List Bool)) (s_ : Int) (t_ : Int) (i_ : Int) (mh : Int) (ia : Bool) (mi : Bool) (mj : Bool) (ml : Bool) (mp : Bool) : List (Nat × T):=[(1,.d (eSl 1 false (eSl 1 false eB) au)),(2,.d (I s_)),(3,.d (I t_)),(4,.own (.box (ze m_))),(9,.d (I i_)),(41,.d (I mh)),(42,.d (B ia)),(43,.d (B mi)),(47,.d (B mj)),(48,.d (B ml)),(58,.d (B mp))]
abbrev z0u (m_ : z4) (au : List (List Bool)) (s_ : Int) (t_ : Int) (i_ : Int) : List (Nat × T):=[(1,.d (eSl 1 false (eSl 1 false eB) au)),(2,.d (I s_)),(3,.d (I t_)),(4,.own (.box (ze m_))),(9,.d (I i_))]
theorem z4T (hC : zr Tryz.prog ctr) : Wp.Ok Tryz.prog:=by
 refine zp ?_
 rintro ⟨m_,au,s_,t_⟩ r0 aa
 try unfold XA at aa
 refine yO true [(8,none)] Y6 60 Tryz.func65 fun E hE => ?_
 refine yJ X0 hC Y6 [1] [] [] (fun z : Unit => Wx = some r0) (fun z => z0w) [(1,.d (eSl 1 false (eSl 1 false eB) au)),(2,.d (I s_)),(3,.d (I t_)),(4,.own (.box (ze m_)))] [Hh (.cut 1)] ?_ fun J1 ar => ?_
 ·rintro ⟨⟩ aa
  unfold Wx at aa
  obtain rfl:=z7 aa
  exact yE X0 hC hE []
 ·obtain ⟨t2,ht2,aa⟩:=z8 aa
  refine yL X0 hC Y6 [1,2,1,0] [J1] (fun s => vG m_ au s_ t_ s) (fun x => z0u m_ au s_ t_ x) 0 ht2  [] ?_
  rintro i_ m2 aw ae hl1 J2 av
  try unfold vG at ae
  rcases zy ae with ⟨c0,ae⟩ | ⟨c0,ae⟩
  ·refine yJ X0 hC Y6 [1,2,1,0,0,1] [J1,J2] [1,2,3,4,9,41,42,43,47,48,58] (fun z : Int × Bool × Bool × Bool × Bool × Bool => vH i_ z.1 z.2.1 z.2.2.1 z.2.2.2.1 z.2.2.2.2.1 z.2.2.2.2.2 = some aw) (fun z => z0v m_ au s_ t_ i_ z.1 z.2.1 z.2.2.1 z.2.2.2.1 z.2.2.2.2.1 z.2.2.2.2.2) [(1,.d (eSl 1 false (eSl 1 false eB) au)),(2,.d (I s_)),(3,.d (I t_)),(4,.own (.box (ze m_))),(9,.d (I i_))] [Hq c0,Hh (.cut 0)] ?_ fun J3 bk => ?_
   ·rintro ⟨mh,ia,mi,mj,ml,mp⟩ ae
    unfold vH at ae
    obtain rfl:=z7 ae
    exact yB X0 hC av (w64 (i_ + 1)) hl1 []
   ·obtain ⟨am,h0,ae⟩:=z8 ae
    obtain ⟨ai,h1,ae⟩:=z8 ae
    obtain ⟨bu,h2,ae⟩:=z8 ae
    obtain ⟨aq,h3,ae⟩:=z8 ae
    let Z0 : List HO:=[Hi zw h0,Hi F8_ h1,Hi zw h2,Hi F8_ h3]
    rcases zy ae with ⟨c1,ae⟩ | ⟨c1,ae⟩
    ·obtain rfl:=z7 ae
     obtain rfl:=hl1
     obtain rfl:=z7 aa
     exact yE X0 hC hE (Z0 ++ (rpN 8 (Hq c1) [qT]))
    ·let Z1 : List HO:=(Z0 ++ (rpN 4 (Hq c1) []))
     rcases zy ae with ⟨c2,ae⟩ | ⟨c2,ae⟩
     ·let Z2 : List HO:=(Z1 ++ [Hq c2,Hq c2,Hq c2,Hq c1,Hq c2,Hq c1])
      rcases zy ae with ⟨c3,ae⟩ | ⟨c3,ae⟩
      ·obtain ⟨ew,h4,ae⟩:=z8 ae
       obtain ⟨cw,h5,ae⟩:=z8 ae
       let Z3 : List HO:=(Z2 ++ (rpN 4 (Hq c3) (Hi (eSl 1 false eB) h4 :: (rpN 4 (Hq c3) [Hi eB h5,Hq c3,Hq c1,Hq c3,Hq c1]))))
       rcases zy ae with ⟨c4,ae⟩ | ⟨c4,ae⟩
       ·obtain rfl:=z7 ae
        obtain rfl:=hl1
        obtain rfl:=z7 aa
        exact yE X0 hC hE (Z3 ++ [Hq c4])
       ·exact yB X0 hC bk (ai.To,decide (ai.To ≥ 0),decide (ai.To ≥ 0),decide (aq.To ≥ 0),decide (aq.To ≥ 0),cw) ae (Z3 ++ [Hq c4])
      ·exact yB X0 hC bk (ai.To,decide (ai.To ≥ 0),decide (ai.To ≥ 0),decide (aq.To ≥ 0),decide (aq.To ≥ 0),false) ae (Z2 ++ (rpN 9 (Hq c3) [Hq c1,Hq c3,Hq c1,qF]))
     ·exact yB X0 hC bk (ai.To,decide (ai.To ≥ 0),decide (ai.To ≥ 0),false,false,false) ae (Z1 ++ (Hq c2 :: Hq c2 :: Hq c2 :: Hq c1 :: Hq c2 :: Hq c1 :: (rpN 9 qF [Hq c1,qF,Hq c1,qF])))
  ·obtain rfl:=z7 ae
   obtain rfl:=hl1
   exact yB X0 hC ar () aa [Hq c0]
def yo : Code:=(Tryz.f44.body).getD .skip
def jR : yK:=spF (α:=z4 × Int) (ρ:=List (List Bool)) 44 (fun x => [ze x.1,(eI .i64) x.2]) (fun r => (eOs 1 false (eOs 1 true eB)) r) (fun x => uB x.1 x.2) [] (Uv)
abbrev Ky (jd : List (List Bool)) : List (Nat × T):=[(6,.own (eOs 1 false (eOs 1 true eB) jd))]
abbrev Kx (m_ : z4) (k_ : Int) (round : Int) (iq : List (List Bool)) : List (Nat × T):=[(1,.d (I k_)),(2,.own (.box (ze m_))),(5,.d (I ((m_.Rows.length : Nat) : Int))),(6,.own (eOs 1 false (eOs 1 true eB) iq)),(8,.d (I round))]
abbrev Kw (m_ : z4) (k_ : Int) (round : Int) (next : List (List Bool)) : List (Nat × T):=[(1,.d (I k_)),(2,.own (.box (ze m_))),(5,.d (I ((m_.Rows.length : Nat) : Int))),(8,.d (I round)),(9,.own (eOs 1 false (eOs 1 true eB) next))]
abbrev Kv (m_ : z4) (k_ : Int) (bh : List (List Bool)) (round : Int) (s_ : Int) (gi : List (List Bool)) : List (Nat × T):=[(1,.d (I k_)),(2,.own (.box (ze m_))),(5,.d (I ((m_.Rows.length : Nat) : Int))),(6,.d (eSl 1 false (eSl 1 true eB) bh)),(8,.d (I round)),(9,.own (eOs 1 false (eOs 1 true eB) gi)),(10,.d (I s_))]
abbrev Ks (m_ : z4) (k_ : Int) (bh : List (List Bool)) (round : Int) (s_ : Int) (cd : List (List Bool)) (t_ : Int) : List (Nat × T):=[(1,.d (I k_)),(2,.own (.box (ze m_))),(5,.d (I ((m_.Rows.length : Nat) : Int))),(6,.d (eSl 1 false (eSl 1 true eB) bh)),(8,.d (I round)),(9,.own (eOs 1 false (eOs 1 true eB) cd)),(10,.d (I s_)),(11,.d (I t_))]
abbrev Kt (m_ : z4) (k_ : Int) (bh : List (List Bool)) (round : Int) (db : List (List Bool)) (s_ : Int) : List (Nat × T):=[(1,.d (I k_)),(2,.own (.box (ze m_))),(5,.d (I ((m_.Rows.length : Nat) : Int))),(6,.d (eSl 1 false (eSl 1 true eB) bh)),(8,.d (I round)),(9,.own (eOs 1 false (eOs 1 true eB) db)),(10,.d (I s_))]
abbrev Ku (m_ : z4) (k_ : Int) (bh : List (List Bool)) (round : Int) : List (Nat × T):=[(1,.d (I k_)),(2,.own (.box (ze m_))),(5,.d (I ((m_.Rows.length : Nat) : Int))),(6,.own (eOs 1 false (eOs 1 true eB) bh)),(8,.d (I round))]
abbrev Kz (m_ : z4) (k_ : Int) (au : List (List Bool)) : List (Nat × T):=[(1,.d (I k_)),(2,.own (.box (ze m_))),(5,.d (I ((m_.Rows.length : Nat) : Int))),(6,.own (eOs 1 false (eOs 1 true eB) au))]
abbrev Kr (m_ : z4) (k_ : Int) (ff : List (List Bool)) (ax : Int) : List (Nat × T):=[(1,.d (I k_)),(2,.own (.box (ze m_))),(5,.d (I ((m_.Rows.length : Nat) : Int))),(6,.own (eOs 1 false (eOs 1 true eB) ff)),(7,.d (I ax))]
theorem z3U (hC : zr Tryz.prog ctr) (h0E : ctr.Has Wp) : jR.Ok Tryz.prog:=by
 refine zp ?_
 rintro ⟨m_,k_⟩ r0 aa
 try unfold uB at aa
 refine yO true [(4,none)] yo 68 Tryz.func44 fun E hE => ?_
 refine yJ X0 hC yo [1,1,1] [] [1,2,5,6] (fun z : List (List Bool) => kQ m_ k_ z = some r0) (fun z => Kz m_ k_ z) [(1,.d (I k_)),(2,.own (.box (ze m_))),(5,.d (I ((m_.Rows.length : Nat) : Int))),(6,.own (eOs 1 true (eSl 1 false eB) []))] [Ha (lnM zw m_.Rows),Hh (.cut 1)] ?_ fun J1 ar => ?_
 ·rintro au aa
  unfold kQ at aa
  refine yJ X0 hC yo [1,1,1,1] [] [6] (fun z : List (List Bool) => kP z = some r0) (fun z => Ky z) [(1,.d (I k_)),(2,.own (.box (ze m_))),(5,.d (I ((m_.Rows.length : Nat) : Int))),(6,.own (eOs 1 false (eOs 1 true eB) au))] [Hh (.cut 0)] ?_ fun J2 av => ?_
  ·rintro jd aa
   unfold kP at aa
   obtain rfl:=z7 aa
   exact yE X0 hC hE []
  ·obtain ⟨t3,ht3,aa⟩:=z8 aa
   refine yL X0 hC yo [1,1,1,1,2,1,0] [J2] (fun s => xY m_ k_ s.1 s.2) (fun x => Ku m_ k_ x.1 x.2) (au,0) ht3  [] ?_
   rintro ⟨bh,round⟩ m3 aw ae hl1 J3 bk
   try unfold xY at ae
   rcases zy ae with ⟨c0,ae⟩ | ⟨c0,ae⟩
   ·refine yJ X0 hC yo [1,1,1,1,2,1,0,0,1] [J2,J3] [1,2,5,6,8] (fun z : List (List Bool) => kO round z = some aw) (fun z => Kx m_ k_ round z) [(1,.d (I k_)),(2,.own (.box (ze m_))),(5,.d (I ((m_.Rows.length : Nat) : Int))),(6,.own (eOs 1 false (eOs 1 true eB) bh)),(8,.d (I round))] [Hq c0,Hh (.cut 0)] ?_ fun J4 ca => ?_
    ·rintro iq ae
     unfold kO at ae
     obtain rfl:=z7 ae
     exact yB X0 hC bk (iq,w64 (round + 1)) hl1 []
    ·refine yJ X0 hC yo [1,1,1,1,2,1,0,0,1,2,0,1] [J2,J3,J4] [1,2,5,8,9] (fun z : List (List Bool) => kN round z = some aw) (fun z => Kw m_ k_ round z) [(1,.d (I k_)),(2,.own (.box (ze m_))),(5,.d (I ((m_.Rows.length : Nat) : Int))),(6,.own (eOs 1 false (eOs 1 true eB) bh)),(8,.d (I round)),(9,.own (eOs 1 true (eSl 1 false eB) []))] [Hh (.cut 1)] ?_ fun J5 cb => ?_
     ·rintro next ae
      unfold kN at ae
      exact yB X0 hC ca next ae []
     ·obtain ⟨t6,ht6,ae⟩:=z8 ae
      refine yLx X0 hC yo [1,1,1,1,2,1,0,0,1,2,0,1,2,1,0] [J2,J3,J4,J5] (fun s => xX m_ bh s.1 s.2) (fun x => Kt m_ k_ bh round x.1 x.2) (([] : List (List Bool)),0) ht6 [(1,.d (I k_)),(2,.own (.box (ze m_))),(5,.d (I ((m_.Rows.length : Nat) : Int))),(6,.d (eSl 1 false (eSl 1 true eB) bh)),(8,.d (I round)),(9,.own (eOs 1 true (eOs 1 true eB) [])),(10,.d (I 0))] inferInstance [Hh (.n 3 [6]),Hm (shM (eOs 1 true eB) (eSl 1 true eB) bh)] ?_
      rintro ⟨db,s_⟩ m6 cp ah hl2 J6 dr
      try unfold xX at ah
      rcases zy ah with ⟨c1,ah⟩ | ⟨c1,ah⟩
      ·refine yJ X0 hC yo [1,1,1,1,2,1,0,0,1,2,0,1,2,1,0,0,1] [J2,J3,J4,J5,J6] [1,2,5,6,8,9,10] (fun z : List (List Bool) => kM s_ z = some cp) (fun z => Kv m_ k_ bh round s_ z) [(1,.d (I k_)),(2,.own (.box (ze m_))),(5,.d (I ((m_.Rows.length : Nat) : Int))),(6,.d (eSl 1 false (eSl 1 true eB) bh)),(8,.d (I round)),(9,.own (eOs 1 false (eOs 1 true eB) db)),(10,.d (I s_))] [Hq c1,Hh (.cut 0)] ?_ fun J7 hJ7 => ?_
       ·rintro gi ah
        unfold kM at ah
        obtain rfl:=z7 ah
        exact yB X0 hC dr (gi,w64 (s_ + 1)) hl2 []
       ·obtain ⟨g0,ah⟩:=gdE ah
        obtain ⟨g1,ah⟩:=gdE ah
        obtain ⟨t8,ht8,ah⟩:=z8 ah
        refine yL X0 hC yo [1,1,1,1,2,1,0,0,1,2,0,1,2,1,0,0,1,2,0,1,1,0] [J2,J3,J4,J5,J6,J7] (fun s => xW m_ bh s_ s.1 s.2) (fun x => Ks m_ k_ bh round s_ x.1 x.2) ((db ++ [(List.replicate ((m_.Rows.length : Nat) : Int).toNat false)]),0) ht8  [Hn (rL g0),Ha (rM 1 eB ((m_.Rows.length : Nat) : Int) false),Hq (oC (eOs 1 true eB) (List.replicate ((m_.Rows.length : Nat) : Int).toNat false) []),Hn (aL (eOs 1 true eB) (eOs 1 true eB) g1),Hl (aM (eOs 1 true eB) db [(List.replicate ((m_.Rows.length : Nat) : Int).toNat false)])] ?_
        rintro ⟨cd,t_⟩ m8 mf bl hl3 J8 j9
        try unfold xW at bl
        rcases zy bl with ⟨c2,bl⟩ | ⟨c2,bl⟩
        ·obtain ⟨ez,h0,bl⟩:=z8 bl
         obtain ⟨ew,h1,bl⟩:=z8 bl
         obtain ⟨cw,h2,bl⟩:=z8 bl
         let Z0 : List HO:=[Hq c2,Hn (iL (eOs 1 true eB) h0),Hs (iM (eOs 1 true eB) h0),Hi (eSl 1 true eB) h1,Hi eB h2]
         rcases zy bl with ⟨c3,bl⟩ | ⟨c3,bl⟩
         ·obtain ⟨ma,h3,bl⟩:=z8 bl
          obtain rfl:=z7 bl
          exact yB X0 hC j9 ((cd.set s_.toNat (ez.set t_.toNat true)),w64 (t_ + 1)) hl3 (Z0 ++ (rpN 7 (Hq c3) [Hs (iM (eOs 1 true eB) h0),Hn (iL eB h3),Hs (iM (eOs 1 true eB) h0),Hs (iM eB h3),Hs (iM (eOs 1 true eB) h0),Hs (iM eB h3),Hl (sM eB ez t_ true),Hl (sM (eOs 1 true eB) cd s_ (ez.set t_.toNat true))]))
         ·obtain ⟨r_,h4,bl⟩:=z8 bl
          obtain ⟨ln,h5,bl⟩:=z8 bl
          obtain rfl:=z7 bl
          exact yB X0 hC j9 ((cd.set s_.toNat (ez.set t_.toNat (r_ == 1))),w64 (t_ + 1)) hl3 (Z0 ++ (rpN 5 (Hq c3) [Hc h0E (x:=(m_,bh,s_,t_)) h4 (loC ze m_ <| loC (eSl 1 false (eSl 1 true eB)) bh <| loC (eI .i64) s_ <| loC (eI .i64) t_ <| loN),Hq c3,Hq c3,Hs (iM (eOs 1 true eB) h0),Hn (iL eB h5),Hs (iM (eOs 1 true eB) h0),Hs (iM eB h5),Hs (iM (eOs 1 true eB) h0),Hs (iM eB h5),Hl (sM eB ez t_ (r_ == 1)),Hl (sM (eOs 1 true eB) cd s_ (ez.set t_.toNat (r_ == 1)))]))
        ·obtain rfl:=z7 bl
         obtain rfl:=hl3
         exact yB X0 hC hJ7 cd ah [Hq c2]
      ·obtain rfl:=z7 ah
       obtain rfl:=hl2
       exact yB X0 hC cb db ae [Hq c1]
   ·obtain rfl:=z7 ae
    obtain rfl:=hl1
    exact yB X0 hC av bh aa [Hq c0]
 ·obtain ⟨t9,ht9,aa⟩:=z8 aa
  refine yLx X0 hC yo [1,1,1,2,1,0] [J1] (fun s => xV m_ s.1 s.2) (fun x => Kr m_ k_ x.1 x.2) (([] : List (List Bool)),0) ht9 [(1,.d (I k_)),(2,.own (.box (ze m_))),(5,.d (I ((m_.Rows.length : Nat) : Int))),(6,.own (eOs 1 true (eOs 1 true eB) [])),(7,.d (I 0))] inferInstance [] ?_
  rintro ⟨ff,ax⟩ m9 aw ae hl1 J9 lc
  try unfold xV at ae
  rcases zy ae with ⟨c4,ae⟩ | ⟨c4,ae⟩
  ·obtain ⟨g2,ae⟩:=gdE ae
   obtain ⟨g3,ae⟩:=gdE ae
   obtain rfl:=z7 ae
   exact yB X0 hC lc ((ff ++ [(List.replicate ((m_.Rows.length : Nat) : Int).toNat false)]),w64 (ax + 1)) hl1 [Hq c4,Hn (rL g2),Ha (rM 1 eB ((m_.Rows.length : Nat) : Int) false),Hq (oC (eOs 1 true eB) (List.replicate ((m_.Rows.length : Nat) : Int).toNat false) []),Hn (aL (eOs 1 true eB) (eOs 1 true eB) g3),Hl (aM (eOs 1 true eB) ff [(List.replicate ((m_.Rows.length : Nat) : Int).toNat false)])]
  ·obtain rfl:=z7 ae
   obtain rfl:=hl1
   exact yB X0 hC ar ff aa [Hq c4]
def yk : Code:=(Tryz.f136.body).getD .skip
def jQ : yK:=spF (α:=List (List Bool)) (ρ:=List Int) 136 (fun x => [(eSl 1 false (eSl 1 false eB)) x]) (fun r => F5_ r) (fun x => uA x) [] (VY)
abbrev UP (out : List Int) : List (Nat × T):=[(3,.own (eOs 1 false (eI .i64) out))]
abbrev UO (au : List (List Bool)) (s_ : Int) (bm : List Int) (ba : Int) : List (Nat × T):=[(0,.d (eSl 1 false (eSl 1 false eB) au)),(3,.own (eOs 1 false (eI .i64) bm)),(4,.d (I ba)),(5,.d (I s_))]
abbrev UM (au : List (List Bool)) (ak : List Int) (s_ : Int) (d9 : Int) (jn : Int) : List (Nat × T):=[(0,.d (eSl 1 false (eSl 1 false eB) au)),(3,.own (eOs 1 false (eI .i64) ak)),(4,.d (I d9)),(5,.d (I s_)),(6,.d (I jn))]
abbrev UN (au : List (List Bool)) (ak : List Int) (n_ : Int) (s_ : Int) (b_ : Int) : List (Nat × T):=[(0,.d (eSl 1 false (eSl 1 false eB) au)),(3,.own (eOs 1 false (eI .i64) ak)),(4,.d (I n_)),(5,.d (I s_)),(6,.d (I b_))]
abbrev UL (au : List (List Bool)) (ak : List Int) (n_ : Int) (s_ : Int) (t_ : Int) (lp : Int) : List (Nat × T):=[(0,.d (eSl 1 false (eSl 1 false eB) au)),(3,.own (eOs 1 false (eI .i64) ak)),(4,.d (I n_)),(5,.d (I s_)),(6,.d (I lp)),(7,.d (I t_))]
abbrev UJ (au : List (List Bool)) (ak : List Int) (n_ : Int) (s_ : Int) (j7 : Int) (t_ : Int) : List (Nat × T):=[(0,.d (eSl 1 false (eSl 1 false eB) au)),(3,.own (eOs 1 false (eI .i64) ak)),(4,.d (I n_)),(5,.d (I s_)),(6,.d (I j7)),(7,.d (I t_))]
abbrev UK (au : List (List Bool)) (ak : List Int) (n_ : Int) (s_ : Int) : List (Nat × T):=[(0,.d (eSl 1 false (eSl 1 false eB) au)),(3,.own (eOs 1 false (eI .i64) ak)),(4,.d (I n_)),(5,.d (I s_))]
theorem KQ (hC : zr Tryz.prog ctr) : jQ.Ok Tryz.prog:=by
 refine zp ?_
 rintro au r0 aa
 try unfold uA at aa
 refine yO true [(2,none)] yk 41 Tryz.func136 fun E hE => ?_
 refine yJ X0 hC yk [1,1,1] [] [3] (fun z : List Int => kL z = some r0) (fun z => UP z) [(0,.d (eSl 1 false (eSl 1 false eB) au)),(3,.own (eOs 1 true (eI .i64) [])),(4,.d (I 0))] [Hh (.cut 3)] ?_ fun J1 ar => ?_
 ·rintro out aa
  unfold kL at aa
  obtain rfl:=z7 aa
  exact yE X0 hC hE []
 ·obtain ⟨t2,ht2,aa⟩:=z8 aa
  refine yLx X0 hC yk [1,1,1,2,1,0] [J1] (fun s => vU au s.1 s.2.1 s.2.2) (fun x => UK au x.1 x.2.1 x.2.2) (([] : List Int),0,0) ht2 [(0,.d (eSl 1 false (eSl 1 false eB) au)),(3,.own (eOs 1 true (eI .i64) [])),(4,.d (I 0)),(5,.d (I 0))] inferInstance [] ?_
  rintro ⟨ak,n_,s_⟩ m2 aw ae hl1 J2 av
  try unfold vU at ae
  let Z0 : List HO:=[Ha (lnM (eSl 1 false eB) au)]
  rcases zy ae with ⟨c0,ae⟩ | ⟨c0,ae⟩
  ·refine yJ X0 hC yk [1,1,1,2,1,0,0,1] [J1,J2] [0,3,4,5] (fun z : List Int × Int => vW s_ z.1 z.2 = some aw) (fun z => UO au s_ z.1 z.2) [(0,.d (eSl 1 false (eSl 1 false eB) au)),(3,.own (eOs 1 false (eI .i64) ak)),(4,.d (I n_)),(5,.d (I s_))] (Z0 ++ [Hq c0,Hh (.cut 0)]) ?_ fun J3 bk => ?_
   ·rintro ⟨bm,ba⟩ ae
    unfold vW at ae
    obtain rfl:=z7 ae
    exact yB X0 hC av (bm,ba,w64 (s_ + 1)) hl1 []
   ·refine yJ X0 hC yk [1,1,1,2,1,0,0,1,2,0,1] [J1,J2,J3] [0,3,4,5,6] (fun z : Int => vV ak n_ s_ z = some aw) (fun z => UN au ak n_ s_ z) [(0,.d (eSl 1 false (eSl 1 false eB) au)),(3,.own (eOs 1 false (eI .i64) ak)),(4,.d (I n_)),(5,.d (I s_)),(6,.d (I (-1)))] [Hh (.cut 1)] ?_ fun J4 ca => ?_
    ·rintro b_ ae
     unfold vV at ae
     refine yJ X0 hC yk [1,1,1,2,1,0,0,1,2,0,1,1] [J1,J2,J3] [0,3,4,5,6] (fun z : Int × Int => xl ak s_ z.1 z.2 = some aw) (fun z => UM au ak s_ z.1 z.2) [(0,.d (eSl 1 false (eSl 1 false eB) au)),(3,.own (eOs 1 false (eI .i64) ak)),(4,.d (I n_)),(5,.d (I s_)),(6,.d (I b_))] [Hh (.cut 0)] ?_ fun J5 cb => ?_
     ·rintro ⟨d9,jn⟩ ae
      unfold xl at ae
      obtain ⟨g0,ae⟩:=gdE ae
      exact yB X0 hC bk ((ak ++ [jn]),d9) ae [Hq (dM (eI .i64) [jn]),Hn (dM (eI .i64) [jn]),Hn (aL (eI .i64) (eI .i64) g0),Hl (aM (eI .i64) ak [jn])]
     ·rcases zy ae with ⟨c1,ae⟩ | ⟨c1,ae⟩
      ·exact yB X0 hC cb (w64 (n_ + 1),n_) ae [Hq c1]
      ·exact yB X0 hC cb (n_,b_) ae [Hq c1]
    ·obtain ⟨t6,ht6,ae⟩:=z8 ae
     refine yL X0 hC yk [1,1,1,2,1,0,0,1,2,0,1,2,1,0] [J1,J2,J3,J4] (fun s => ww au ak s_ s.1 s.2) (fun x => UJ au ak n_ s_ x.1 x.2) ((-1),0) ht6  [] ?_
     rintro ⟨j7,t_⟩ m6 cp ah hl2 J6 dr
     try unfold ww at ah
     rcases zy ah with ⟨c2,ah⟩ | ⟨c2,ah⟩
     ·refine yJ X0 hC yk [1,1,1,2,1,0,0,1,2,0,1,2,1,0,0,1] [J1,J2,J3,J4,J6] [0,3,4,5,6,7] (fun z : Int => wx t_ z = some cp) (fun z => UL au ak n_ s_ t_ z) [(0,.d (eSl 1 false (eSl 1 false eB) au)),(3,.own (eOs 1 false (eI .i64) ak)),(4,.d (I n_)),(5,.d (I s_)),(6,.d (I j7)),(7,.d (I t_))] [Hq c2,Hh (.cut 0)] ?_ fun J7 hJ7 => ?_
      ·rintro lp ah
       unfold wx at ah
       obtain rfl:=z7 ah
       exact yB X0 hC dr (lp,w64 (t_ + 1)) hl2 []
      ·obtain ⟨ew,h0,ah⟩:=z8 ah
       obtain ⟨cw,h1,ah⟩:=z8 ah
       let Z1 : List HO:=[Hi (eSl 1 false eB) h0,Hi eB h1]
       rcases zy ah with ⟨c3,ah⟩ | ⟨c3,ah⟩
       ·obtain ⟨eu,h2,ah⟩:=z8 ah
        exact yB X0 hC hJ7 eu ah (Z1 ++ [Hq c3,Hn (iL (eI .i64) h2),Hs (iM (eI .i64) h2)])
       ·exact yB X0 hC hJ7 j7 ah (Z1 ++ [Hq c3])
     ·obtain rfl:=z7 ah
      obtain rfl:=hl2
      exact yB X0 hC ca j7 ae [Hq c2]
  ·obtain rfl:=z7 ae
   obtain rfl:=hl1
   exact yB X0 hC ar ak aa (Z0 ++ [Hq c0])
def z3k : Code:=(Tryz.f103.body).getD .skip
def Xs : yK:=spF (α:=z4 × Int) (ρ:=List Int) 103 (fun x => [ze x.1,(eI .i64) x.2]) (fun r => F5_ r) (fun x => Wb x.1 x.2) [] (Uv)
theorem z3T (hC : zr Tryz.prog ctr) (h0c : ctr.Has jR) (h0s : ctr.Has jQ) : Xs.Ok Tryz.prog:=by
 refine zp ?_
 rintro ⟨m_,k_⟩ r0 aa
 try unfold Wb at aa
 refine yO true [(4,none)] z3k 9 Tryz.func103 fun E hE => ?_
 obtain ⟨r_,h0,aa⟩:=z8 aa
 obtain ⟨aj,h1,aa⟩:=z8 aa
 obtain rfl:=z7 aa
 exact yE X0 hC hE [Hc h0c (x:=(m_,k_)) h0 (loC ze m_ <| loC (eI .i64) k_ <| loN),Hg (z4x h0s),Hm (shM (eOs 1 true eB) (eSl 1 true eB) r_),Hs (z4y h0s (x:=r_) h1 (loC (eSl 1 false (eSl 1 true eB)) r_ <| loN)),Hm (shM (eOs 1 true eB) (eSl 1 true eB) r_)]
def z1j : Code:=(Tryz.f74.body).getD .skip
def qI : yK:=spF (α:=z4) (ρ:=List Int) 74 (fun x => [ze x]) (fun r => F5_ r) (fun x => uJ x) [] (VY)
theorem z2t (hC : zr Tryz.prog ctr) (h0F : ctr.Has Xs) : qI.Ok Tryz.prog:=by
 refine zp ?_
 rintro m_ r0 aa
 try unfold uJ at aa
 refine yO true [(2,none)] z1j 8 Tryz.func74 fun E hE => ?_
 obtain ⟨r_,h0,aa⟩:=z8 aa
 obtain rfl:=z7 aa
 exact yE X0 hC hE [Ha (lnM zw m_.Rows),Hc h0F (x:=(m_,((m_.Rows.length : Nat) : Int))) h0 (loC ze m_ <| loC (eI .i64) ((m_.Rows.length : Nat) : Int) <| loN)]
def z5r : Code:=(Tryz.f113.body).getD .skip
def jV : yK:=spF (α:=z4 × Int × Int) (ρ:=z5) 113 (fun x => [ze x.1,(eI .i64) x.2.1,(eI .i64) x.2.2]) (fun r => F8_ r) (fun x => Xd x.1 x.2.1 x.2.2) [] (z72)
theorem z5P (hC : zr Tryz.prog ctr) : jV.Ok Tryz.prog:=by
 refine zp ?_
 rintro ⟨m_,s_,i_⟩ r0 aa
 try unfold Xd at aa
 refine yO false [(6,some 54)] z5r 18 Tryz.func113 fun E hE => ?_
 rcases zy aa with ⟨c0,aa⟩ | ⟨c0,aa⟩
 ·obtain rfl:=z7 aa
  exact yE X0 hC hE [Hq c0]
 ·obtain ⟨am,h0,aa⟩:=z8 aa
  obtain ⟨ai,h1,aa⟩:=z8 aa
  obtain rfl:=z7 aa
  exact yE X0 hC hE [Hq c0,Hi zw h0,Hi F8_ h1]
def z45 : Code:=(Tryz.f115.body).getD .skip
def Ws : yK:=spF (α:=z4 × Int × List Int) (ρ:=Int) 115 (fun x => [ze x.1,(eI .i64) x.2.1,F6_ x.2.2]) (fun r => (eI .i64) r) (fun x => Vz x.1 x.2.1 x.2.2) [] (z72)
theorem JE : ∀ (x y : z4 × Int × List Int),(fun x => [ze x.1,(eI .i64) x.2.1,F6_ x.2.2]) x = (fun x => [ze x.1,(eI .i64) x.2.1,F6_ x.2.2]) y → x = y:=z72
def Yx (iy : z4 → Int → (List Int) → Option Int) : yK:=spF (α:=z4 × Int × List Int) (ρ:=Int) 115 (fun x => [ze x.1,(eI .i64) x.2.1,F6_ x.2.2]) (fun r => (eI .i64) r) (fun x => iy x.1 x.2.1 x.2.2) [] (by
 intro x y h
 exact (congrArg (fun (p : z4 × Int × List Int) => p) (show x = y from JE x y h)))
theorem z2v (hC : zr Tryz.prog ctr) (h08 : ctr.Has jV) (iy : z4 → Int → (List Int) → Option Int) (h0G : ctr.Has (Yx iy)) : (Yx (uO iy)).Ok Tryz.prog:=by
 refine zp ?_
 rintro ⟨m_,s_,w_⟩ r0 aa
 try unfold uO at aa
 refine yO true [(6,none)] z45 22 Tryz.func115 fun E hE => ?_
 rcases zy aa with ⟨c0,aa⟩ | ⟨c0,aa⟩
 ·obtain rfl:=z7 aa
  exact yE X0 hC hE [Ha (lnM (eI .i64) w_),Hq c0]
 ·obtain ⟨dm,h0,aa⟩:=z8 aa
  obtain ⟨r_,h1,aa⟩:=z8 aa
  obtain ⟨g0,aa⟩:=gdE aa
  obtain ⟨aj,h2,aa⟩:=z8 aa
  obtain rfl:=z7 aa
  exact yE ((zkc y4 zfW).or X0) hC hE [Ha (lnM (eI .i64) w_),Hq c0,Hi (eI .i64) h0,Hc h08 (x:=(m_,s_,dm)) h1 (loC ze m_ <| loC (eI .i64) s_ <| loC (eI .i64) dm <| loN),Hn (slA g0),Hn (zhl (eI .i64) g0),Ha (slE 1 false (eI .i64) w_ (1 : Int).toNat),Hc h0G (x:=(m_,r_.To,(w_.drop (1 : Int).toNat))) h2 (loC ze m_ <| loC (eI .i64) r_.To <| loC F6_ (w_.drop (1 : Int).toNat) <| loN)]
theorem z4W (hC : zr Tryz.prog ctr) (h08 : ctr.Has jV) : Ws.Ok Tryz.prog:=by
 have H : ∀ n,(Yx (kZ n)).Ok Tryz.prog:=by
  intro n
  induction n with
  | zero => exact zp fun _ _ h => nomatch (show none = some _ from h)
  | succ n ih => exact z2v (Ctr.add_ok hC ih) (h08.add (by show (113 : Nat) ≠ 115; decide)) _ (Ctr.add_has _ _)
 exact zp fun x r h => z9Q (H _) h
def VP : Code:=(Tryz.f114.body).getD .skip
def Vj : yK:=spF (α:=List Int × Int) (ρ:=List Int) 114 (fun x => [F6_ x.1,(eI .i64) x.2]) (fun r => F5_ r) (fun x => Xc x.1 x.2) [] (Uv)
abbrev z1A (out : List Int) : List (Nat × T):=[(5,.own (eOs 1 false (eI .i64) out))]
abbrev z1z (inputs : Int) (ak : List Int) (k_ : Int) : List (Nat × T):=[(1,.d (I inputs)),(5,.own (eOs 1 false (eI .i64) ak)),(6,.d (I k_))]
theorem z5L (hC : zr Tryz.prog ctr) : Vj.Ok Tryz.prog:=by
 refine zp ?_
 rintro ⟨w_,inputs⟩ r0 aa
 try unfold Xc at aa
 refine yO true [(4,none)] VP 37 Tryz.func114 fun E hE => ?_
 obtain ⟨g0,aa⟩:=gdE aa
 refine yJ X0 hC VP [1,1] [] [5] (fun z : List Int => kS z = some r0) (fun z => z1A z) [(1,.d (I inputs)),(5,.own (eOs 1 false (eI .i64) w_))] [Hn (dM (eI .i64) w_),Hn (aL (eI .i64) (eI .i64) g0),Hl (aM0 (eI .i64) w_),Hh (.cut 0)] ?_ fun J1 ar => ?_
 ·rintro out aa
  unfold kS at aa
  obtain ⟨g1,aa⟩:=gdE aa
  obtain rfl:=z7 aa
  exact yE X0 hC hE [Hq (dM (eI .i64) ([0] : List Int)),Hn (dM (eI .i64) ([0] : List Int)),Hn (aL (eI .i64) (eI .i64) g1),Hl (aM (eI .i64) out ([0] : List Int))]
 ·obtain ⟨t2,ht2,aa⟩:=z8 aa
  refine yL X0 hC VP [1,1,2,1,0] [J1] (fun s => kR inputs s.1 s.2) (fun x => z1z inputs x.1 x.2) (w_,w64 (((w_.length : Nat) : Int) - 1)) ht2  [Ha (lnM (eI .i64) w_)] ?_
  rintro ⟨ak,k_⟩ m2 aw ae hl1 J2 av
  try unfold kR at ae
  rcases zy ae with ⟨c0,ae⟩ | ⟨c0,ae⟩
  ·obtain ⟨eu,h0,ae⟩:=z8 ae
   let Z0 : List HO:=[Hq c0,Hn (iL (eI .i64) h0),Hs (iM (eI .i64) h0)]
   rcases zy ae with ⟨c1,ae⟩ | ⟨c1,ae⟩
   ·obtain ⟨iz,h1,ae⟩:=z8 ae
    obtain ⟨mq,h2,ae⟩:=z8 ae
    obtain rfl:=z7 ae
    obtain rfl:=hl1
    obtain rfl:=z7 aa
    exact yE X0 hC hE (Z0 ++ [Hq c1,Hn (iL (eI .i64) h1),Hs (iM (eI .i64) h1),Hn (iL (eI .i64) h2),Hs (iM (eI .i64) h2),Hs (iM (eI .i64) h2),Hl (sM (eI .i64) ak k_ (w64 (iz + 1)))])
   ·obtain ⟨mr,h3,ae⟩:=z8 ae
    obtain rfl:=z7 ae
    exact yB X0 hC av ((ak.set k_.toNat 0),w64 (k_ - 1)) hl1 (Z0 ++ [Hq c1,Hn (iL (eI .i64) h3),Hs (iM (eI .i64) h3),Hs (iM (eI .i64) h3),Hl (sM (eI .i64) ak k_ 0)])
  ·obtain rfl:=z7 ae
   obtain rfl:=hl1
   exact yB X0 hC ar ak aa [Hq c0]
def Y7 : Code:=(Tryz.f85.body).getD .skip
def Wr : yK:=spF (α:=z4 × Int) (ρ:=List (List Int) × List Bool) 85 (fun x => [ze x.1,(eI .i64) x.2]) (fun r => .tup [zib r.1,(eSl 1 true eB) r.2]) (fun x => XB x.1 x.2) [] (Uv)
abbrev z0z (l_ : List (List Int)) (is : List Bool) : List (Nat × T):=[(6,.own (eOs 1 true F6_ l_)),(7,.own (eOs 1 true eB is))]
abbrev z0y (m_ : z4) (cn : Int) (w_ : List Int) (gv : List (List Int)) (lq : List Bool) : List (Nat × T):=[(1,.d (I cn)),(2,.own (.box (ze m_))),(6,.own (eOs 1 true F6_ gv)),(7,.own (eOs 1 true eB lq)),(8,.d (eSl 1 false (eI .i64) w_))]
abbrev z0x (m_ : z4) (cn : Int) (fl : List (List Int)) (ib : List Bool) (w_ : List Int) : List (Nat × T):=[(1,.d (I cn)),(2,.own (.box (ze m_))),(6,.own (eOs 1 true F6_ fl)),(7,.own (eOs 1 true eB ib)),(8,.own (eOs 1 false (eI .i64) w_))]
def xI : XH Tryz.prog:=((z93 y4 (.inr 48) [8]).or X0)
theorem z4U (hC : zr Tryz.prog ctr) (h0H : ctr.Has Ws) (h0I : ctr.Has Vj) : Wr.Ok Tryz.prog:=by
 refine zp ?_
 rintro ⟨m_,cn⟩ r0 aa
 try unfold XB at aa
 refine yO false [(4,none),(5,none)] Y7 51 Tryz.func85 fun E hE => ?_
 obtain ⟨g0,aa⟩:=gdE aa
 obtain ⟨g1,aa⟩:=gdE aa
 refine yJ xI hC Y7 [1,1,1] [] [6,7] (fun z : List (List Int) × List Bool => ZV z.1 z.2 = some r0) (fun z => z0z z.1 z.2) [(1,.d (I cn)),(2,.own (.box (ze m_))),(6,.own (eOs 1 true F2_ (List.replicate ((m_.Rows.length : Nat) : Int).toNat ([] : List Int)))),(7,.own (eOs 1 true eB (List.replicate ((m_.Rows.length : Nat) : Int).toNat false)))] [Ha (lnM zw m_.Rows),Hn (rL g0),Ha (rM 1 F3_ ((m_.Rows.length : Nat) : Int) ([] : List Int)),Hh (.v 0 [6]),Hm (shM F3_ F2_ (List.replicate ((m_.Rows.length : Nat) : Int).toNat ([] : List Int))),Ha (lnM zw m_.Rows),Hn (rL g1),Ha (rM 1 eB ((m_.Rows.length : Nat) : Int) false),Hh (.cut 0)] ?_ fun J1 ar => ?_
 ·rintro ⟨l_,is⟩ aa
  unfold ZV at aa
  obtain rfl:=z7 aa
  exact yE xI hC hE [Hm (shM F6_ F6_ l_),Hm (shM eB eB is)]
 ·obtain ⟨t2,ht2,aa⟩:=z8 aa
  refine yLx xI hC Y7 [1,1,1,2,1,0] [J1] (fun s => ZU m_ cn s.1 s.2.1 s.2.2) (fun x => z0x m_ cn x.1 x.2.1 x.2.2) ((List.replicate ((m_.Rows.length : Nat) : Int).toNat ([] : List Int)),(List.replicate ((m_.Rows.length : Nat) : Int).toNat false),([] : List Int)) ht2 [(1,.d (I cn)),(2,.own (.box (ze m_))),(6,.own (eOs 1 true F2_ (List.replicate ((m_.Rows.length : Nat) : Int).toNat ([] : List Int)))),(7,.own (eOs 1 true eB (List.replicate ((m_.Rows.length : Nat) : Int).toNat false))),(8,.own (eOs 1 true (eI .i64) []))] inferInstance [] ?_
  rintro ⟨fl,ib,w_⟩ m2 aw ae hl1 J2 av
  try unfold ZU at ae
  let Z0 : List HO:=[Ha (lnM (eI .i64) w_),Ha (lnM zw m_.Rows)]
  rcases zy ae with ⟨c0,ae⟩ | ⟨c0,ae⟩
  ·refine yJ xI hC Y7 [1,1,1,2,1,0,0,1] [J1,J2] [1,2,6,7,8] (fun z : List (List Int) × List Bool => wM m_ w_ z.1 z.2 = some aw) (fun z => z0y m_ cn w_ z.1 z.2) [(1,.d (I cn)),(2,.own (.box (ze m_))),(6,.own (eOs 1 true F6_ fl)),(7,.own (eOs 1 true eB ib)),(8,.d (eSl 1 false (eI .i64) w_))] (Z0 ++ [Hq c0,Hh (.n 1 [8]),Hm (shM (eI .i64) (eI .i64) w_),Hh (.cut 0)]) ?_ fun J3 bk => ?_
   ·rintro ⟨gv,lq⟩ ae
    unfold wM at ae
    obtain ⟨r_,h0,ae⟩:=z8 ae
    obtain rfl:=z7 ae
    exact yB xI hC av (gv,lq,r_) hl1 [Hc h0I (x:=(w_,m_.Inputs)) h0 (loC F6_ w_ <| loC (eI .i64) m_.Inputs <| loN)]
   ·obtain ⟨aj,h1,ae⟩:=z8 ae
    let Z1 : List HO:=[Hc h0H (x:=(m_,cn,w_)) h1 (loC ze m_ <| loC (eI .i64) cn <| loC F6_ w_ <| loN)]
    rcases zy ae with ⟨c1,ae⟩ | ⟨c1,ae⟩
    ·obtain ⟨mv,h2,ae⟩:=z8 ae
     let Z2 : List HO:=(Z1 ++ [Hq c1,Hq c1,Hq c1,Hn (iL eB h2),Hq c1,Hs (iM eB h2),Hq c1,Hq c1])
     rcases zy ae with ⟨c2,ae⟩ | ⟨c2,ae⟩
     ·obtain ⟨nk,h3,ae⟩:=z8 ae
      obtain ⟨bj,h4,ae⟩:=z8 ae
      exact yB xI hC bk ((fl.set aj.toNat w_),(ib.set aj.toNat true)) ae (Z2 ++ [Hq c2,Hn (iL eB h3),Hs (iM eB h3),Hs (iM eB h3),Hl (sM eB ib aj true),Hn (iL F6_ h4),Hs (iM F6_ h4),Hs (iM F6_ h4),Hl (sM F6_ fl aj w_)])
     ·exact yB xI hC bk (fl,ib) ae (Z2 ++ [Hq c2])
    ·exact yB xI hC bk (fl,ib) ae (Z1 ++ (rpN 6 (Hq c1) [qF]))
  ·obtain rfl:=z7 ae
   obtain rfl:=hl1
   exact yB xI hC ar (fl,ib) aa (Z0 ++ [Hq c0])
def z3l : Code:=(Tryz.f58.body).getD .skip
def jT : yK:=spF (α:=z4) (ρ:=List (List Int) × List Bool) 58 (fun x => [ze x]) (fun r => .tup [zib r.1,(eSl 1 true eB) r.2]) (fun x => jI x) [] (VY)
theorem z3V (hC : zr Tryz.prog ctr) (h0J : ctr.Has Wr) : jT.Ok Tryz.prog:=by
 refine zp ?_
 rintro m_ r0 aa
 try unfold jI at aa
 refine yO false [(2,none),(3,none)] z3l 8 Tryz.func58 fun E hE => ?_
 obtain ⟨r_,h0,aa⟩:=z8 aa
 obtain rfl:=z7 aa
 exact yE X0 hC hE [Hc h0J (x:=(m_,0)) h0 (loC ze m_ <| loC (eI .i64) 0 <| loN)]
def VQ : Code:=(Tryz.f104.body).getD .skip
def Vk : yK:=spF (α:=List Int × List Int) (ρ:=Int) 104 (fun x => [F6_ x.1,F6_ x.2]) (fun r => (eI .i64) r) (fun x => WS x.1 x.2) [] (Uv)
abbrev z1C : List (Nat × T):=[]
abbrev z1B (a_ : List Int) (b_ : List Int) (i_ : Int) : List (Nat × T):=[(0,.d (eSl 1 false (eI .i64) a_)),(1,.d (eSl 1 false (eI .i64) b_)),(5,.d (I i_))]
theorem z5M (hC : zr Tryz.prog ctr) : Vk.Ok Tryz.prog:=by
 refine zp ?_
 rintro ⟨a_,b_⟩ r0 aa
 try unfold WS at aa
 refine yO true [(4,none)] VQ 40 Tryz.func104 fun E hE => ?_
 let Z0 : List HO:=[Ha (lnM (eI .i64) a_),Ha (lnM (eI .i64) b_)]
 rcases zy aa with ⟨c0,aa⟩ | ⟨c0,aa⟩
 ·let Z1 : List HO:=(Z0 ++ [Hq c0,Ha (lnM (eI .i64) a_),Ha (lnM (eI .i64) b_)])
  rcases zy aa with ⟨c1,aa⟩ | ⟨c1,aa⟩
  ·obtain rfl:=z7 aa
   exact yE X0 hC hE (Z1 ++ [Hq c1])
  ·obtain rfl:=z7 aa
   exact yE X0 hC hE (Z1 ++ [Hq c1])
 ·refine yJ X0 hC VQ [1,1] [] [] (fun z : Unit => Vx = some r0) (fun z => z1C) [(0,.d (eSl 1 false (eI .i64) a_)),(1,.d (eSl 1 false (eI .i64) b_))] (Z0 ++ [Hq c0,Hh (.cut 0)]) ?_ fun J1 ar => ?_
  ·rintro ⟨⟩ aa
   unfold Vx at aa
   obtain rfl:=z7 aa
   exact yE X0 hC hE []
  ·obtain ⟨t2,ht2,aa⟩:=z8 aa
   refine yL X0 hC VQ [1,1,2,1,0] [J1] (fun s => kT a_ b_ s) (fun x => z1B a_ b_ x) 0 ht2  [] ?_
   rintro i_ m2 aw ae hl1 J2 av
   try unfold kT at ae
   rcases zy ae with ⟨c2,ae⟩ | ⟨c2,ae⟩
   ·obtain ⟨kg,h0,ae⟩:=z8 ae
    obtain ⟨kh,h1,ae⟩:=z8 ae
    let Z2 : List HO:=[Ha (lnM (eI .i64) a_),Hq c2,Hi (eI .i64) h0,Hi (eI .i64) h1]
    rcases zy ae with ⟨c3,ae⟩ | ⟨c3,ae⟩
    ·obtain ⟨jo,h2,ae⟩:=z8 ae
     obtain ⟨jp,h3,ae⟩:=z8 ae
     let Z3 : List HO:=(Z2 ++ [Hq c3,Hi (eI .i64) h2,Hi (eI .i64) h3])
     rcases zy ae with ⟨c4,ae⟩ | ⟨c4,ae⟩
     ·obtain rfl:=z7 ae
      obtain rfl:=hl1
      obtain rfl:=z7 aa
      exact yE X0 hC hE (Z3 ++ [Hq c4])
     ·obtain rfl:=z7 ae
      obtain rfl:=hl1
      obtain rfl:=z7 aa
      exact yE X0 hC hE (Z3 ++ [Hq c4])
    ·obtain rfl:=z7 ae
     exact yB X0 hC av (w64 (i_ + 1)) hl1 (Z2 ++ [Hq c3])
   ·obtain rfl:=z7 ae
    obtain rfl:=hl1
    exact yB X0 hC ar () aa [Ha (lnM (eI .i64) a_),Hq c2]
def vO : Code:=(Tryz.f75.body).getD .skip
def ZO : yK:=spF (α:=z4) (ρ:=List Int) 75 (fun x => [ze x]) (fun r => F5_ r) (fun x => ZH x) [] (VY)
abbrev z0E (out : List Int) : List (Nat × T):=[(5,.own (eOs 1 false (eI .i64) out))]
abbrev z0D (r_ : List (List Int) × List Bool) (s_ : Int) (bm : List Int) : List (Nat × T):=[(3,.d (eSl 1 true F6_ r_.1)),(4,.d (eSl 1 true eB r_.2)),(5,.own (eOs 1 false (eI .i64) bm)),(6,.d (I s_))]
abbrev z0C (r_ : List (List Int) × List Bool) (ak : List Int) (s_ : Int) (k_ : Int) : List (Nat × T):=[(3,.d (eSl 1 true F6_ r_.1)),(4,.d (eSl 1 true eB r_.2)),(5,.own (eOs 1 false (eI .i64) ak)),(6,.d (I s_)),(7,.d (I k_))]
abbrev z0A (r_ : List (List Int) × List Bool) (ak : List Int) (s_ : Int) (ap : Int) : List (Nat × T):=[(3,.d (eSl 1 true F6_ r_.1)),(4,.d (eSl 1 true eB r_.2)),(5,.own (eOs 1 false (eI .i64) ak)),(6,.d (I s_)),(7,.d (I ap))]
abbrev z0B (r_ : List (List Int) × List Bool) (ak : List Int) (s_ : Int) : List (Nat × T):=[(3,.d (eSl 1 true F6_ r_.1)),(4,.d (eSl 1 true eB r_.2)),(5,.own (eOs 1 false (eI .i64) ak)),(6,.d (I s_))]
def yc : XH Tryz.prog:=((z93 y4 (.inl 49) []).or ((z93 y4 (.inl 47) [5]).or X0))
theorem z4V (hC : zr Tryz.prog ctr) (h0f : ctr.Has jT) (h0K : ctr.Has Vk) : ZO.Ok Tryz.prog:=by
 refine zp ?_
 rintro m_ r0 aa
 try unfold ZH at aa
 refine yO true [(2,none)] vO 61 Tryz.func75 fun E hE => ?_
 obtain ⟨r_,h0,aa⟩:=z8 aa
 refine yJ yc hC vO [1,1,1] [] [5] (fun z : List Int => Wy z = some r0) (fun z => z0E z) [(3,.d (eSl 1 true F6_ r_.1)),(4,.d (eSl 1 true eB r_.2)),(5,.own (eOs 1 true (eI .i64) []))] [Hc h0f (x:=m_) h0 (loC ze m_ <| loN),Hh (.cut 1)] ?_ fun J1 ar => ?_
 ·rintro out aa
  unfold Wy at aa
  obtain rfl:=z7 aa
  exact yE yc hC hE []
 ·obtain ⟨t2,ht2,aa⟩:=z8 aa
  refine yLx yc hC vO [1,1,1,2,1,0] [J1] (fun s => qw r_ s.1 s.2) (fun x => z0B r_ x.1 x.2) (([] : List Int),0) ht2 [(3,.d (eSl 1 true F6_ r_.1)),(4,.d (eSl 1 true eB r_.2)),(5,.own (eOs 1 true (eI .i64) [])),(6,.d (I 0))] inferInstance [] ?_
  rintro ⟨ak,s_⟩ m2 aw ae hl1 J2 av
  try unfold qw at ae
  let Z0 : List HO:=[Ha (lnM F6_ r_.1)]
  rcases zy ae with ⟨c0,ae⟩ | ⟨c0,ae⟩
  ·refine yJ yc hC vO [1,1,1,2,1,0,0,1] [J1,J2] [3,4,5,6] (fun z : List Int => vI s_ z = some aw) (fun z => z0D r_ s_ z) [(3,.d (eSl 1 true F6_ r_.1)),(4,.d (eSl 1 true eB r_.2)),(5,.own (eOs 1 false (eI .i64) ak)),(6,.d (I s_))] (Z0 ++ [Hq c0,Hh (.cut 0)]) ?_ fun J3 bk => ?_
   ·rintro bm ae
    unfold vI at ae
    obtain rfl:=z7 ae
    exact yB yc hC av (bm,w64 (s_ + 1)) hl1 []
   ·obtain ⟨u_,h1,ae⟩:=z8 ae
    rcases zy ae with ⟨c1,ae⟩ | ⟨c1,ae⟩
    ·exact yB yc hC bk ak ae [Hi eB h1,Hq c1]
    ·refine yJ yc hC vO [1,1,1,2,1,0,0,1,2,0,1,1] [J1,J2,J3] [3,4,5,6,7] (fun z : Int => ZW ak s_ z = some aw) (fun z => z0C r_ ak s_ z) [(3,.d (eSl 1 true F6_ r_.1)),(4,.d (eSl 1 true eB r_.2)),(5,.own (eOs 1 false (eI .i64) ak)),(6,.d (I s_)),(7,.d (I 0))] [Hi eB h1,Hq c1,Hh (.cut 1)] ?_ fun J4 ca => ?_
     ·rintro k_ ae
      unfold ZW at ae
      obtain ⟨g0,ae⟩:=gdE ae
      obtain ⟨g1,ae⟩:=gdE ae
      obtain ⟨g2,ae⟩:=gdE ae
      obtain ⟨g3,ae⟩:=gdE ae
      obtain ⟨g4,ae⟩:=gdE ae
      exact yB yc hC bk ((((ak.drop 0).take (k_.toNat - 0)) ++ [s_]) ++ (ak.drop k_.toNat)) ae [Hm (shM (eI .i64) (eI .i64) ak),Hn (slB g0),Hn (ziy (eI .i64) g0),Ha (slM 1 false (eI .i64) ak 0 k_.toNat),Hn (dM (eI .i64) ((ak.drop 0).take (k_.toNat - 0))),Hn (aL (eI .i64) (eI .i64) g1),Hl (aM0 (eI .i64) ((ak.drop 0).take (k_.toNat - 0))),Hq (dM (eI .i64) [s_]),Hn (dM (eI .i64) [s_]),Hn (aL (eI .i64) (eI .i64) g2),Hl (aM (eI .i64) ((ak.drop 0).take (k_.toNat - 0)) [s_]),Hn (slA g3),Hn (zhl (eI .i64) g3),Ha (slE 1 false (eI .i64) ak k_.toNat),Hn (dM (eI .i64) (ak.drop k_.toNat)),Hn (aL (eI .i64) (eI .i64) g4),Hl (aM (eI .i64) (((ak.drop 0).take (k_.toNat - 0)) ++ [s_]) (ak.drop k_.toNat))]
     ·obtain ⟨t5,ht5,ae⟩:=z8 ae
      refine yL yc hC vO [1,1,1,2,1,0,0,1,2,0,1,1,2,0] [J1,J2,J3,J4] (fun s => qu r_ ak s_ s) (fun x => z0A r_ ak s_ x) 0 ht5  [] ?_
      rintro ap m5 cp ah hl2 J5 cb
      try unfold qu at ah
      rcases zy ah with ⟨c2,ah⟩ | ⟨c2,ah⟩
      ·obtain ⟨eu,h2,ah⟩:=z8 ah
       obtain ⟨mc,h3,ah⟩:=z8 ah
       obtain ⟨md,h4,ah⟩:=z8 ah
       obtain ⟨aj,h5,ah⟩:=z8 ah
       let Z1 : List HO:=(Ha (lnM (eI .i64) ak) :: (rpN 4 (Hq c2) (Hn (iL (eI .i64) h2) :: Hq c2 :: Hs (iM (eI .i64) h2) :: Hq c2 :: Hi F6_ h3 :: (rpN 4 (Hq c2) [Hi F6_ h4,Hq c2,Hq c2,Hc h0K (x:=(mc,md)) h5 (loC F6_ mc <| loC F6_ md <| loN),Hq c2,Hq c2]))))
       rcases zy ah with ⟨c3,ah⟩ | ⟨c3,ah⟩
       ·obtain rfl:=z7 ah
        exact yB yc hC cb (w64 (ap + 1)) hl2 (Z1 ++ [Hq c3])
       ·obtain rfl:=z7 ah
        obtain rfl:=hl2
        exact yB yc hC ca ap ae (Z1 ++ [Hq c3])
      ·obtain rfl:=z7 ah
       obtain rfl:=hl2
       exact yB yc hC ca ap ae (Ha (lnM (eI .i64) ak) :: (rpN 14 (Hq c2) [qF]))
  ·obtain rfl:=z7 ae
   obtain rfl:=hl1
   exact yB yc hC ar ak aa (Z0 ++ [Hq c0])
def w8 : Code:=(Tryz.f48.body).getD .skip
def jP : yK:=spF (α:=z4) (ρ:=List Int) 48 (fun x => [ze x]) (fun r => F5_ r) (fun x => uz x) [] (VY)
abbrev Kq (out : List Int) : List (Nat × T):=[(5,.own (eOs 1 false (eI .i64) out))]
abbrev Kp (r_ : List Int) (aj : List Int) (k_ : Int) (bm : List Int) : List (Nat × T):=[(3,.own (eOs 1 false (eI .i64) r_)),(4,.own (eOs 1 false (eI .i64) aj)),(5,.own (eOs 1 false (eI .i64) bm)),(6,.d (I k_))]
abbrev Ko (r_ : List Int) (aj : List Int) (ak : List Int) (k_ : Int) (there : Int) : List (Nat × T):=[(3,.own (eOs 1 false (eI .i64) r_)),(4,.own (eOs 1 false (eI .i64) aj)),(5,.own (eOs 1 false (eI .i64) ak)),(6,.d (I k_)),(7,.d (I there))]
abbrev Kn (r_ : List Int) (aj : List Int) (ak : List Int) (k_ : Int) (n_ : Int) (i6 : Int) : List (Nat × T):=[(3,.own (eOs 1 false (eI .i64) r_)),(4,.own (eOs 1 false (eI .i64) aj)),(5,.own (eOs 1 false (eI .i64) ak)),(6,.d (I k_)),(7,.d (I i6)),(8,.d (I n_))]
abbrev Kl (r_ : List Int) (aj : List Int) (ak : List Int) (k_ : Int) (gr : Int) (n_ : Int) : List (Nat × T):=[(3,.own (eOs 1 false (eI .i64) r_)),(4,.own (eOs 1 false (eI .i64) aj)),(5,.own (eOs 1 false (eI .i64) ak)),(6,.d (I k_)),(7,.d (I gr)),(8,.d (I n_))]
abbrev Km (r_ : List Int) (aj : List Int) (ak : List Int) (k_ : Int) : List (Nat × T):=[(3,.own (eOs 1 false (eI .i64) r_)),(4,.own (eOs 1 false (eI .i64) aj)),(5,.own (eOs 1 false (eI .i64) ak)),(6,.d (I k_))]
theorem z3S (hC : zr Tryz.prog ctr) (h0g : ctr.Has qI) (h0h : ctr.Has ZO) : jP.Ok Tryz.prog:=by
 refine zp ?_
 rintro m_ r0 aa
 try unfold uz at aa
 refine yO true [(2,none)] w8 49 Tryz.func48 fun E hE => ?_
 obtain ⟨r_,h0,aa⟩:=z8 aa
 obtain ⟨aj,h1,aa⟩:=z8 aa
 refine yJ X0 hC w8 [1,1,1,1] [] [5] (fun z : List Int => kK z = some r0) (fun z => Kq z) [(3,.own (eOs 1 false (eI .i64) r_)),(4,.own (eOs 1 false (eI .i64) aj)),(5,.own (eOs 1 true (eI .i64) []))] [Hc h0g (x:=m_) h0 (loC ze m_ <| loN),Hc h0h (x:=m_) h1 (loC ze m_ <| loN),Hh (.cut 1)] ?_ fun J1 ar => ?_
 ·rintro out aa
  unfold kK at aa
  obtain rfl:=z7 aa
  exact yE X0 hC hE []
 ·obtain ⟨t2,ht2,aa⟩:=z8 aa
  refine yLx X0 hC w8 [1,1,1,1,2,1,0] [J1] (fun s => kI r_ aj s.1 s.2) (fun x => Km r_ aj x.1 x.2) (([] : List Int),0) ht2 [(3,.own (eOs 1 false (eI .i64) r_)),(4,.own (eOs 1 false (eI .i64) aj)),(5,.own (eOs 1 true (eI .i64) [])),(6,.d (I 0))] inferInstance [] ?_
  rintro ⟨ak,k_⟩ m2 aw ae hl1 J2 av
  try unfold kI at ae
  rcases zy ae with ⟨c0,ae⟩ | ⟨c0,ae⟩
  ·refine yJ X0 hC w8 [1,1,1,1,2,1,0,0,1] [J1,J2] [3,4,5,6] (fun z : List Int => wU k_ z = some aw) (fun z => Kp r_ aj k_ z) [(3,.own (eOs 1 false (eI .i64) r_)),(4,.own (eOs 1 false (eI .i64) aj)),(5,.own (eOs 1 false (eI .i64) ak)),(6,.d (I k_))] [Ha (lnM (eI .i64) aj),Hq c0,Hh (.cut 0)] ?_ fun J3 bk => ?_
   ·rintro bm ae
    unfold wU at ae
    obtain rfl:=z7 ae
    exact yB X0 hC av (bm,w64 (k_ + 1)) hl1 []
   ·refine yJ X0 hC w8 [1,1,1,1,2,1,0,0,1,2,0,1] [J1,J2,J3] [3,4,5,6,7] (fun z : Int => kJ aj ak k_ z = some aw) (fun z => Ko r_ aj ak k_ z) [(3,.own (eOs 1 false (eI .i64) r_)),(4,.own (eOs 1 false (eI .i64) aj)),(5,.own (eOs 1 false (eI .i64) ak)),(6,.d (I k_)),(7,.d (I 0))] [Hh (.cut 1)] ?_ fun J4 ca => ?_
    ·rintro there ae
     unfold kJ at ae
     rcases zy ae with ⟨c1,ae⟩ | ⟨c1,ae⟩
     ·obtain ⟨dx,h2,ae⟩:=z8 ae
      obtain ⟨g0,ae⟩:=gdE ae
      exact yB X0 hC bk (ak ++ [dx]) ae [Hq c1,Hn (iL (eI .i64) h2),Hs (iM (eI .i64) h2),Hq (dM (eI .i64) [dx]),Hn (dM (eI .i64) [dx]),Hn (aL (eI .i64) (eI .i64) g0),Hl (aM (eI .i64) ak [dx])]
     ·exact yB X0 hC bk ak ae [Hq c1]
    ·obtain ⟨t5,ht5,ae⟩:=z8 ae
     refine yL X0 hC w8 [1,1,1,1,2,1,0,0,1,2,0,1,2,1,0] [J1,J2,J3,J4] (fun s => uv r_ aj k_ s.1 s.2) (fun x => Kl r_ aj ak k_ x.1 x.2) (0,0) ht5  [] ?_
     rintro ⟨gr,n_⟩ m5 cp ah hl2 J5 cb
     try unfold uv at ah
     rcases zy ah with ⟨c2,ah⟩ | ⟨c2,ah⟩
     ·refine yJ X0 hC w8 [1,1,1,1,2,1,0,0,1,2,0,1,2,1,0,0,1] [J1,J2,J3,J4,J5] [3,4,5,6,7,8] (fun z : Int => uw n_ z = some cp) (fun z => Kn r_ aj ak k_ n_ z) [(3,.own (eOs 1 false (eI .i64) r_)),(4,.own (eOs 1 false (eI .i64) aj)),(5,.own (eOs 1 false (eI .i64) ak)),(6,.d (I k_)),(7,.d (I gr)),(8,.d (I n_))] [Hq c2,Hh (.cut 0)] ?_ fun J6 dr => ?_
      ·rintro i6 ah
       unfold uw at ah
       obtain rfl:=z7 ah
       exact yB X0 hC cb (i6,w64 (n_ + 1)) hl2 []
      ·obtain ⟨dy,h3,ah⟩:=z8 ah
       obtain ⟨jq,h4,ah⟩:=z8 ah
       obtain ⟨jr,h5,ah⟩:=z8 ah
       obtain ⟨me,h6,ah⟩:=z8 ah
       let Z0 : List HO:=[Hn (iL (eI .i64) h3),Hs (iM (eI .i64) h3),Hn (iL (eI .i64) h4),Hs (iM (eI .i64) h4),Hn (iL (eI .i64) h5),Hs (iM (eI .i64) h5),Hn (iL (eI .i64) h6),Hs (iM (eI .i64) h6)]
       rcases zy ah with ⟨c3,ah⟩ | ⟨c3,ah⟩
       ·exact yB X0 hC dr 1 ah (Z0 ++ [Hq c3])
       ·exact yB X0 hC dr gr ah (Z0 ++ [Hq c3])
     ·obtain rfl:=z7 ah
      obtain rfl:=hl2
      exact yB X0 hC ca gr ae [Hq c2]
  ·obtain rfl:=z7 ae
   obtain rfl:=hl1
   exact yB X0 hC ar ak aa [Ha (lnM (eI .i64) aj),Hq c0]
def yM : Code:=(Tryz.f76.body).getD .skip
def Yw : yK:=spF (α:=z4 × Int) (ρ:=List Bool) 76 (fun x => [ze x.1,(eI .i64) x.2]) (fun r => (eOs 1 true eB) r) (fun x => kY x.1 x.2) [] (Uv)
abbrev Jo (out : List Bool) : List (Nat × T):=[(5,.own (eOs 1 true eB out))]
abbrev Jn (m_ : z4) (round : Int) (bm : List Bool) : List (Nat × T):=[(2,.own (.box (ze m_))),(5,.own (eOs 1 true eB bm)),(6,.d (I round))]
abbrev Jm (m_ : z4) (round : Int) (s_ : Int) (ki : List Bool) : List (Nat × T):=[(2,.own (.box (ze m_))),(5,.own (eOs 1 true eB ki)),(6,.d (I round)),(7,.d (I s_))]
abbrev Jl (m_ : z4) (round : Int) (s_ : Int) (i_ : Int) (kj : List Bool) : List (Nat × T):=[(2,.own (.box (ze m_))),(5,.own (eOs 1 true eB kj)),(6,.d (I round)),(7,.d (I s_)),(8,.d (I i_))]
abbrev Ji (m_ : z4) (round : Int) (s_ : Int) (ga : List Bool) (i_ : Int) : List (Nat × T):=[(2,.own (.box (ze m_))),(5,.own (eOs 1 true eB ga)),(6,.d (I round)),(7,.d (I s_)),(8,.d (I i_))]
abbrev Jj (m_ : z4) (round : Int) (i7 : List Bool) (s_ : Int) : List (Nat × T):=[(2,.own (.box (ze m_))),(5,.own (eOs 1 true eB i7)),(6,.d (I round)),(7,.d (I s_))]
abbrev Jk (m_ : z4) (ak : List Bool) (round : Int) : List (Nat × T):=[(2,.own (.box (ze m_))),(5,.own (eOs 1 true eB ak)),(6,.d (I round))]
theorem z2u (hC : zr Tryz.prog ctr) : Yw.Ok Tryz.prog:=by
 refine zp ?_
 rintro ⟨m_,cn⟩ r0 aa
 try unfold kY at aa
 refine yO true [(4,none)] yM 58 Tryz.func76 fun E hE => ?_
 obtain ⟨g0,aa⟩:=gdE aa
 obtain ⟨i8,h0,aa⟩:=z8 aa
 refine yJ X0 hC yM [1,1,1] [] [5] (fun z : List Bool => qQ z = some r0) (fun z => Jo z) [(2,.own (.box (ze m_))),(5,.own (eOs 1 true eB ((List.replicate ((m_.Rows.length : Nat) : Int).toNat false).set cn.toNat true)))] [Ha (lnM zw m_.Rows),Hn (rL g0),Ha (rM 1 eB ((m_.Rows.length : Nat) : Int) false),Hn (iL eB h0),Hs (iM eB h0),Hs (iM eB h0),Hl (sM eB (List.replicate ((m_.Rows.length : Nat) : Int).toNat false) cn true),Hh (.cut 0)] ?_ fun J1 ar => ?_
 ·rintro out aa
  unfold qQ at aa
  obtain rfl:=z7 aa
  exact yE X0 hC hE []
 ·obtain ⟨t2,ht2,aa⟩:=z8 aa
  refine yL X0 hC yM [1,1,1,2,1,0] [J1] (fun s => qN m_ s.1 s.2) (fun x => Jk m_ x.1 x.2) (((List.replicate ((m_.Rows.length : Nat) : Int).toNat false).set cn.toNat true),0) ht2  [] ?_
  rintro ⟨ak,round⟩ m2 aw ae hl1 J2 av
  try unfold qN at ae
  let Z0 : List HO:=[Ha (lnM zw m_.Rows)]
  rcases zy ae with ⟨c0,ae⟩ | ⟨c0,ae⟩
  ·refine yJ X0 hC yM [1,1,1,2,1,0,0,1] [J1,J2] [2,5,6] (fun z : List Bool => qP round z = some aw) (fun z => Jn m_ round z) [(2,.own (.box (ze m_))),(5,.own (eOs 1 true eB ak)),(6,.d (I round))] (Z0 ++ [Hq c0,Hh (.cut 0)]) ?_ fun J3 bk => ?_
   ·rintro bm ae
    unfold qP at ae
    obtain rfl:=z7 ae
    exact yB X0 hC av (bm,w64 (round + 1)) hl1 []
   ·obtain ⟨t4,ht4,ae⟩:=z8 ae
    refine yL X0 hC yM [1,1,1,2,1,0,0,1,2,0,1,0] [J1,J2,J3] (fun s => vA m_ s.1 s.2) (fun x => Jj m_ round x.1 x.2) (ak,0) ht4  [] ?_
    rintro ⟨i7,s_⟩ m4 cp ah hl2 J4 ca
    try unfold vA at ah
    let Z1 : List HO:=[Ha (lnM zw m_.Rows)]
    rcases zy ah with ⟨c1,ah⟩ | ⟨c1,ah⟩
    ·refine yJ X0 hC yM [1,1,1,2,1,0,0,1,2,0,1,0,0,1] [J1,J2,J3,J4] [2,5,6,7] (fun z : List Bool => qO s_ z = some cp) (fun z => Jm m_ round s_ z) [(2,.own (.box (ze m_))),(5,.own (eOs 1 true eB i7)),(6,.d (I round)),(7,.d (I s_))] (Z1 ++ [Hq c1,Hh (.cut 0)]) ?_ fun J5 cb => ?_
     ·rintro ki ah
      unfold qO at ah
      obtain rfl:=z7 ah
      exact yB X0 hC ca (ki,w64 (s_ + 1)) hl2 []
     ·obtain ⟨t6,ht6,ah⟩:=z8 ah
      refine yL X0 hC yM [1,1,1,2,1,0,0,1,2,0,1,0,0,1,2,0,1,0] [J1,J2,J3,J4,J5] (fun s => vz m_ s_ s.1 s.2) (fun x => Ji m_ round s_ x.1 x.2) (i7,0) ht6  [] ?_
      rintro ⟨ga,i_⟩ m6 mf bl hl3 J6 dr
      try unfold vz at bl
      rcases zy bl with ⟨c2,bl⟩ | ⟨c2,bl⟩
      ·refine yJ X0 hC yM [1,1,1,2,1,0,0,1,2,0,1,0,0,1,2,0,1,0,0,1] [J1,J2,J3,J4,J5,J6] [2,5,6,7,8] (fun z : List Bool => wg i_ z = some mf) (fun z => Jl m_ round s_ i_ z) [(2,.own (.box (ze m_))),(5,.own (eOs 1 true eB ga)),(6,.d (I round)),(7,.d (I s_)),(8,.d (I i_))] [Hq c2,Hh (.cut 0)] ?_ fun J7 hJ7 => ?_
       ·rintro kj bl
        unfold wg at bl
        obtain rfl:=z7 bl
        exact yB X0 hC dr (kj,w64 (i_ + 1)) hl3 []
       ·obtain ⟨am,h1,bl⟩:=z8 bl
        obtain ⟨ai,h2,bl⟩:=z8 bl
        obtain ⟨eu,h3,bl⟩:=z8 bl
        let Z2 : List HO:=[Hi zw h1,Hi F8_ h2,Hn (iL eB h3),Hs (iM eB h3)]
        rcases zy bl with ⟨c3,bl⟩ | ⟨c3,bl⟩
        ·rcases zy bl with ⟨c4,bl⟩ | ⟨c4,bl⟩
         ·obtain ⟨iz,h4,bl⟩:=z8 bl
          exact yB X0 hC hJ7 (ga.set ai.To.toNat true) bl (Z2 ++ [Hq c3,Hq c3,Hq c3,Hq c4,Hn (iL eB h4),Hs (iM eB h4),Hs (iM eB h4),Hl (sM eB ga ai.To true)])
         ·exact yB X0 hC hJ7 ga bl (Z2 ++ [Hq c3,Hq c3,Hq c3,Hq c4])
        ·exact yB X0 hC hJ7 ga bl (Z2 ++ [Hq c3,Hq c3,Hq c3,qF])
      ·obtain rfl:=z7 bl
       obtain rfl:=hl3
       exact yB X0 hC cb ga ah [Hq c2]
    ·obtain rfl:=z7 ah
     obtain rfl:=hl2
     exact yB X0 hC bk i7 ae (Z1 ++ [Hq c1])
  ·obtain rfl:=z7 ae
   obtain rfl:=hl1
   exact yB X0 hC ar ak aa (Z0 ++ [Hq c0])
def uH : Code:=(Tryz.f49.body).getD .skip
def Um : yK:=spF (α:=z4) (ρ:=List Int) 49 (fun x => [ze x]) (fun r => F5_ r) (fun x => Us x) [] (VY)
abbrev z3z (out : List Int) : List (Nat × T):=[(6,.own (eOs 1 false (eI .i64) out))]
abbrev z3y (r_ : List Int) (aj : List Int) (bc : List Bool) (s_ : Int) (bm : List Int) : List (Nat × T):=[(3,.own (eOs 1 false (eI .i64) r_)),(4,.own (eOs 1 false (eI .i64) aj)),(5,.own (eOs 1 true eB bc)),(6,.own (eOs 1 false (eI .i64) bm)),(7,.d (I s_))]
abbrev z3x (r_ : List Int) (aj : List Int) (bc : List Bool) (ak : List Int) (s_ : Int) (k_ : Int) : List (Nat × T):=[(3,.own (eOs 1 false (eI .i64) r_)),(4,.own (eOs 1 false (eI .i64) aj)),(5,.own (eOs 1 true eB bc)),(6,.own (eOs 1 false (eI .i64) ak)),(7,.d (I s_)),(8,.d (I k_))]
abbrev z3w (r_ : List Int) (aj : List Int) (bc : List Bool) (ak : List Int) (s_ : Int) (n_ : Int) (lu : Int) : List (Nat × T):=[(3,.own (eOs 1 false (eI .i64) r_)),(4,.own (eOs 1 false (eI .i64) aj)),(5,.own (eOs 1 true eB bc)),(6,.own (eOs 1 false (eI .i64) ak)),(7,.d (I s_)),(8,.d (I lu)),(9,.d (I n_))]
abbrev z3u (r_ : List Int) (aj : List Int) (bc : List Bool) (ak : List Int) (s_ : Int) (ap : Int) (n_ : Int) : List (Nat × T):=[(3,.own (eOs 1 false (eI .i64) r_)),(4,.own (eOs 1 false (eI .i64) aj)),(5,.own (eOs 1 true eB bc)),(6,.own (eOs 1 false (eI .i64) ak)),(7,.d (I s_)),(8,.d (I ap)),(9,.d (I n_))]
abbrev z3v (r_ : List Int) (aj : List Int) (bc : List Bool) (ak : List Int) (s_ : Int) : List (Nat × T):=[(3,.own (eOs 1 false (eI .i64) r_)),(4,.own (eOs 1 false (eI .i64) aj)),(5,.own (eOs 1 true eB bc)),(6,.own (eOs 1 false (eI .i64) ak)),(7,.d (I s_))]
theorem z78 (hC : zr Tryz.prog ctr) (h0g : ctr.Has qI) (h0i : ctr.Has jP) (h0L : ctr.Has Yw) : Um.Ok Tryz.prog:=by
 refine zp ?_
 rintro m_ r0 aa
 try unfold Us at aa
 refine yO true [(2,none)] uH 52 Tryz.func49 fun E hE => ?_
 obtain ⟨r_,h0,aa⟩:=z8 aa
 obtain ⟨aj,h1,aa⟩:=z8 aa
 obtain ⟨bc,h2,aa⟩:=z8 aa
 refine yJ X0 hC uH [1,1,1,1,1] [] [6] (fun z : List Int => Wa z = some r0) (fun z => z3z z) [(3,.own (eOs 1 false (eI .i64) r_)),(4,.own (eOs 1 false (eI .i64) aj)),(5,.own (eOs 1 true eB bc)),(6,.own (eOs 1 true (eI .i64) []))] [Hc h0g (x:=m_) h0 (loC ze m_ <| loN),Hc h0i (x:=m_) h1 (loC ze m_ <| loN),Hc h0L (x:=(m_,0)) h2 (loC ze m_ <| loC (eI .i64) 0 <| loN),Hh (.cut 1)] ?_ fun J1 ar => ?_
 ·rintro out aa
  unfold Wa at aa
  obtain rfl:=z7 aa
  exact yE X0 hC hE []
 ·obtain ⟨t2,ht2,aa⟩:=z8 aa
  refine yLx X0 hC uH [1,1,1,1,1,2,1,0] [J1] (fun s => W7 r_ aj bc s.1 s.2) (fun x => z3v r_ aj bc x.1 x.2) (([] : List Int),0) ht2 [(3,.own (eOs 1 false (eI .i64) r_)),(4,.own (eOs 1 false (eI .i64) aj)),(5,.own (eOs 1 true eB bc)),(6,.own (eOs 1 true (eI .i64) [])),(7,.d (I 0))] inferInstance [] ?_
  rintro ⟨ak,s_⟩ m2 aw ae hl1 J2 av
  try unfold W7 at ae
  rcases zy ae with ⟨c0,ae⟩ | ⟨c0,ae⟩
  ·refine yJ X0 hC uH [1,1,1,1,1,2,1,0,0,1] [J1,J2] [3,4,5,6,7] (fun z : List Int => W9 s_ z = some aw) (fun z => z3y r_ aj bc s_ z) [(3,.own (eOs 1 false (eI .i64) r_)),(4,.own (eOs 1 false (eI .i64) aj)),(5,.own (eOs 1 true eB bc)),(6,.own (eOs 1 false (eI .i64) ak)),(7,.d (I s_))] [Ha (lnM (eI .i64) r_),Hq c0,Hh (.cut 0)] ?_ fun J3 bk => ?_
   ·rintro bm ae
    unfold W9 at ae
    obtain rfl:=z7 ae
    exact yB X0 hC av (bm,w64 (s_ + 1)) hl1 []
   ·refine yJ X0 hC uH [1,1,1,1,1,2,1,0,0,1,2,0,1] [J1,J2,J3] [3,4,5,6,7,8] (fun z : Int => W8 ak s_ z = some aw) (fun z => z3x r_ aj bc ak s_ z) [(3,.own (eOs 1 false (eI .i64) r_)),(4,.own (eOs 1 false (eI .i64) aj)),(5,.own (eOs 1 true eB bc)),(6,.own (eOs 1 false (eI .i64) ak)),(7,.d (I s_)),(8,.d (I (-1)))] [Hh (.cut 1)] ?_ fun J4 ca => ?_
    ·rintro k_ ae
     unfold W8 at ae
     obtain ⟨g0,ae⟩:=gdE ae
     exact yB X0 hC bk (ak ++ [k_]) ae [Hq (dM (eI .i64) [k_]),Hn (dM (eI .i64) [k_]),Hn (aL (eI .i64) (eI .i64) g0),Hl (aM (eI .i64) ak [k_])]
    ·obtain ⟨t5,ht5,ae⟩:=z8 ae
     refine yL X0 hC uH [1,1,1,1,1,2,1,0,0,1,2,0,1,2,1,0] [J1,J2,J3,J4] (fun s => Yd r_ aj bc s_ s.1 s.2) (fun x => z3u r_ aj bc ak s_ x.1 x.2) ((-1),0) ht5  [] ?_
     rintro ⟨ap,n_⟩ m5 cp ah hl2 J5 cb
     try unfold Yd at ah
     rcases zy ah with ⟨c1,ah⟩ | ⟨c1,ah⟩
     ·refine yJ X0 hC uH [1,1,1,1,1,2,1,0,0,1,2,0,1,2,1,0,0,1] [J1,J2,J3,J4,J5] [3,4,5,6,7,8,9] (fun z : Int => jH n_ z = some cp) (fun z => z3w r_ aj bc ak s_ n_ z) [(3,.own (eOs 1 false (eI .i64) r_)),(4,.own (eOs 1 false (eI .i64) aj)),(5,.own (eOs 1 true eB bc)),(6,.own (eOs 1 false (eI .i64) ak)),(7,.d (I s_)),(8,.d (I ap)),(9,.d (I n_))] [Ha (lnM (eI .i64) aj),Hq c1,Hh (.cut 0)] ?_ fun J6 dr => ?_
      ·rintro lu ah
       unfold jH at ah
       obtain rfl:=z7 ah
       exact yB X0 hC cb (lu,w64 (n_ + 1)) hl2 []
      ·obtain ⟨dx,h3,ah⟩:=z8 ah
       let Z0 : List HO:=[Hn (iL eB h3),Hs (iM eB h3)]
       rcases zy ah with ⟨c2,ah⟩ | ⟨c2,ah⟩
       ·obtain ⟨dy,h4,ah⟩:=z8 ah
        obtain ⟨jq,h5,ah⟩:=z8 ah
        obtain ⟨jr,h6,ah⟩:=z8 ah
        let Z1 : List HO:=(Z0 ++ (rpN 4 (Hq c2) [Hn (iL (eI .i64) h4),Hq c2,Hs (iM (eI .i64) h4),Hq c2,Hn (iL (eI .i64) h5),Hq c2,Hs (iM (eI .i64) h5),Hq c2,Hq c2,Hq c2,Hn (iL (eI .i64) h6),Hq c2,Hs (iM (eI .i64) h6),Hq c2,Hq c2]))
        rcases zy ah with ⟨c3,ah⟩ | ⟨c3,ah⟩
        ·exact yB X0 hC dr n_ ah (Z1 ++ [Hq c3])
        ·exact yB X0 hC dr ap ah (Z1 ++ [Hq c3])
       ·exact yB X0 hC dr ap ah (Z0 ++ (rpN 13 (Hq c2) [qF]))
     ·obtain rfl:=z7 ah
      obtain rfl:=hl2
      exact yB X0 hC ca ap ae [Ha (lnM (eI .i64) aj),Hq c1]
  ·obtain rfl:=z7 ae
   obtain rfl:=hl1
   exact yB X0 hC ar ak aa [Ha (lnM (eI .i64) r_),Hq c0]
def xq : Code:=(Tryz.f24.body).getD .skip
def Yv : yK:=spF (α:=z4) (ρ:=z4) 24 (fun x => [ze x]) (fun r => ze r) (fun x => kH x) [] (VY)
abbrev Jh (m_ : z4) (bw : List (List z5)) : List (Nat × T):=[(2,.own (.box (.agg [I 0,I 0,eOs 1 true zw []]))),(5,.own (.box (.agg [I m_.Inputs,I m_.Outputs,eOs 1 false xJ bw])))]
abbrev Jg (m_ : z4) (r_ : List Int) (aj : List Int) (k_ : Int) (cx : List (List z5)) : List (Nat × T):=[(1,.own (.box (ze m_))),(2,.own (.box (.agg [I 0,I 0,eOs 1 true zw []]))),(3,.own (eOs 1 false (eI .i64) r_)),(4,.own (eOs 1 false (eI .i64) aj)),(5,.own (.box (.agg [I m_.Inputs,I m_.Outputs,eOs 1 false xJ cx]))),(6,.d (I k_))]
abbrev Jf (m_ : z4) (r_ : List Int) (aj : List Int) (al : List (List z5)) (k_ : Int) (row : List z5) : List (Nat × T):=[(1,.own (.box (ze m_))),(2,.own (.box (.agg [I 0,I 0,eOs 1 true zw []]))),(3,.own (eOs 1 false (eI .i64) r_)),(4,.own (eOs 1 false (eI .i64) aj)),(5,.own (.box (.agg [I m_.Inputs,I m_.Outputs,eOs 1 false xJ al]))),(6,.d (I k_)),(7,.own (eOs 2 false F8_ row))]
abbrev Je (m_ : z4) (r_ : List Int) (aj : List Int) (al : List (List z5)) (k_ : Int) (ay : List z5) (i_ : Int) (ai : z5) (dz : Int) : List (Nat × T):=[(1,.own (.box (ze m_))),(2,.own (.box (.agg [I 0,I 0,eOs 1 true zw []]))),(3,.own (eOs 1 false (eI .i64) r_)),(4,.own (eOs 1 false (eI .i64) aj)),(5,.own (.box (.agg [I m_.Inputs,I m_.Outputs,eOs 1 false xJ al]))),(6,.d (I k_)),(7,.own (eOs 2 false F8_ ay)),(8,.d (I i_)),(9,.own (.box (.agg [I dz,I ai.Out])))]
abbrev Jc (m_ : z4) (r_ : List Int) (aj : List Int) (al : List (List z5)) (k_ : Int) (ay : List z5) (i_ : Int) : List (Nat × T):=[(1,.own (.box (ze m_))),(2,.own (.box (.agg [I 0,I 0,eOs 1 true zw []]))),(3,.own (eOs 1 false (eI .i64) r_)),(4,.own (eOs 1 false (eI .i64) aj)),(5,.own (.box (.agg [I m_.Inputs,I m_.Outputs,eOs 1 false xJ al]))),(6,.d (I k_)),(7,.own (eOs 2 false F8_ ay)),(8,.d (I i_))]
abbrev Jd (m_ : z4) (r_ : List Int) (aj : List Int) (al : List (List z5)) (k_ : Int) : List (Nat × T):=[(1,.own (.box (ze m_))),(2,.own (.box (.agg [I 0,I 0,eOs 1 true zw []]))),(3,.own (eOs 1 false (eI .i64) r_)),(4,.own (eOs 1 false (eI .i64) aj)),(5,.own (.box (.agg [I m_.Inputs,I m_.Outputs,eOs 1 false xJ al]))),(6,.d (I k_))]
theorem z2s (hC : zr Tryz.prog ctr) (h0i : ctr.Has jP) (h0M : ctr.Has Um) : Yv.Ok Tryz.prog:=by
 refine zp ?_
 rintro m_ r0 aa
 try unfold kH at aa
 refine yO false [(2,some 34)] xq 62 Tryz.func24 fun E hE => ?_
 obtain ⟨r_,h0,aa⟩:=z8 aa
 obtain ⟨aj,h1,aa⟩:=z8 aa
 refine yJ X0 hC xq [1,1,1,1] [] [2,5] (fun z : List (List z5) => qM m_ z = some r0) (fun z => Jh m_ z) [(1,.own (.box (ze m_))),(2,.own (.box (.agg [I 0,I 0,eOs 1 true zw []]))),(3,.own (eOs 1 false (eI .i64) r_)),(4,.own (eOs 1 false (eI .i64) aj)),(5,.own (.box (.agg [I m_.Inputs,I m_.Outputs,eOs 1 true zw []])))] [Hc h0i (x:=m_) h0 (loC ze m_ <| loN),Hc h0M (x:=m_) h1 (loC ze m_ <| loN),Hh (.cut 1)] ?_ fun J1 ar => ?_
 ·rintro bw aa
  unfold qM at aa
  obtain rfl:=z7 aa
  exact yE X0 hC hE [Hm (shM xJ zw bw)]
 ·obtain ⟨t2,ht2,aa⟩:=z8 aa
  refine yLx X0 hC xq [1,1,1,1,2,1,0] [J1] (fun s => vw m_ r_ aj s.1 s.2) (fun x => Jd m_ r_ aj x.1 x.2) (([] : List (List z5)),0) ht2 [(1,.own (.box (ze m_))),(2,.own (.box (.agg [I 0,I 0,eOs 1 true zw []]))),(3,.own (eOs 1 false (eI .i64) r_)),(4,.own (eOs 1 false (eI .i64) aj)),(5,.own (.box (.agg [I m_.Inputs,I m_.Outputs,eOs 1 true xJ []]))),(6,.d (I 0))] inferInstance [] ?_
  rintro ⟨al,k_⟩ m2 aw ae hl1 J2 av
  try unfold vw at ae
  rcases zy ae with ⟨c0,ae⟩ | ⟨c0,ae⟩
  ·refine yJ X0 hC xq [1,1,1,1,2,1,0,0,1] [J1,J2] [1,2,3,4,5,6] (fun z : List (List z5) => qL k_ z = some aw) (fun z => Jg m_ r_ aj k_ z) [(1,.own (.box (ze m_))),(2,.own (.box (.agg [I 0,I 0,eOs 1 true zw []]))),(3,.own (eOs 1 false (eI .i64) r_)),(4,.own (eOs 1 false (eI .i64) aj)),(5,.own (.box (.agg [I m_.Inputs,I m_.Outputs,eOs 1 false xJ al]))),(6,.d (I k_))] [Ha (lnM (eI .i64) r_),Hq c0,Hh (.cut 0)] ?_ fun J3 bk => ?_
   ·rintro cx ae
    unfold qL at ae
    obtain rfl:=z7 ae
    exact yB X0 hC av (cx,w64 (k_ + 1)) hl1 []
   ·refine yJ X0 hC xq [1,1,1,1,2,1,0,0,1,2,0,1] [J1,J2,J3] [1,2,3,4,5,6,7] (fun z : List z5 => qK al k_ z = some aw) (fun z => Jf m_ r_ aj al k_ z) [(1,.own (.box (ze m_))),(2,.own (.box (.agg [I 0,I 0,eOs 1 true zw []]))),(3,.own (eOs 1 false (eI .i64) r_)),(4,.own (eOs 1 false (eI .i64) aj)),(5,.own (.box (.agg [I m_.Inputs,I m_.Outputs,eOs 1 false xJ al]))),(6,.d (I k_)),(7,.own (eOs 2 true F8_ []))] [Hh (.cut 1)] ?_ fun J4 ca => ?_
    ·rintro row ae
     unfold qK at ae
     obtain ⟨g0,ae⟩:=gdE ae
     exact yB X0 hC bk (al ++ [row]) ae [Hq (oC xJ row []),Hn (aL xJ xJ g0),Hl (aM xJ al [row])]
    ·obtain ⟨t5,ht5,ae⟩:=z8 ae
     refine yLx X0 hC xq [1,1,1,1,2,1,0,0,1,2,0,1,2,1,0] [J1,J2,J3,J4] (fun s => vu m_ r_ aj k_ s.1 s.2) (fun x => Jc m_ r_ aj al k_ x.1 x.2) (([] : List z5),0) ht5 [(1,.own (.box (ze m_))),(2,.own (.box (.agg [I 0,I 0,eOs 1 true zw []]))),(3,.own (eOs 1 false (eI .i64) r_)),(4,.own (eOs 1 false (eI .i64) aj)),(5,.own (.box (.agg [I m_.Inputs,I m_.Outputs,eOs 1 false xJ al]))),(6,.d (I k_)),(7,.own (eOs 2 true F8_ [])),(8,.d (I 0))] inferInstance [] ?_
     rintro ⟨ay,i_⟩ m5 cp ah hl2 J5 cb
     try unfold vu at ah
     rcases zy ah with ⟨c1,ah⟩ | ⟨c1,ah⟩
     ·obtain ⟨dx,h2,ah⟩:=z8 ah
      obtain ⟨am,h3,ah⟩:=z8 ah
      obtain ⟨ai,h4,ah⟩:=z8 ah
      refine yJ X0 hC xq [1,1,1,1,2,1,0,0,1,2,0,1,2,1,0,0,1,0,0,1] [J1,J2,J3,J4,J5] [1,2,3,4,5,6,7,8,9] (fun z : Int => we ay i_ ai z = some cp) (fun z => Je m_ r_ aj al k_ ay i_ ai z) [(1,.own (.box (ze m_))),(2,.own (.box (.agg [I 0,I 0,eOs 1 true zw []]))),(3,.own (eOs 1 false (eI .i64) r_)),(4,.own (eOs 1 false (eI .i64) aj)),(5,.own (.box (.agg [I m_.Inputs,I m_.Outputs,eOs 1 false xJ al]))),(6,.d (I k_)),(7,.own (eOs 2 false F8_ ay)),(8,.d (I i_)),(9,.own (.box (F8_ ai)))] [Hq c1,Hn (iL (eI .i64) h2),Hs (iM (eI .i64) h2),Hi zw h3,Hi F8_ h4,Hh (.cut 0)] ?_ fun J6 dr => ?_
      ·rintro dz ah
       unfold we at ah
       obtain ⟨g1,ah⟩:=gdE ah
       obtain rfl:=z7 ah
       exact yB X0 hC cb ((ay ++ [(z5.mk dz ai.Out)]),w64 (i_ + 1)) hl2 [Hq (dM F8_ [(z5.mk dz ai.Out)]),Hn (dM F8_ [(z5.mk dz ai.Out)]),Hn (aL F8_ F8_ g1),Hl (aM F8_ ay [(z5.mk dz ai.Out)])]
      ·rcases zy ah with ⟨c2,ah⟩ | ⟨c2,ah⟩
       ·obtain ⟨dy,h5,ah⟩:=z8 ah
        exact yB X0 hC dr dy ah [Hq c2,Hn (iL (eI .i64) h5),Hs (iM (eI .i64) h5)]
       ·exact yB X0 hC dr ai.To ah [Hq c2]
     ·obtain rfl:=z7 ah
      obtain rfl:=hl2
      exact yB X0 hC ca ay ae [Hq c1]
  ·obtain rfl:=z7 ae
   obtain rfl:=hl1
   exact yB X0 hC ar al aa [Ha (lnM (eI .i64) r_),Hq c0]
def z5t : Code:=(Tryz.f6.body).getD .skip
def Vn : yK:=spF (α:=wH) (ρ:=z4) 6 (fun x => [(qD US) x]) (fun r => ze r) (fun x => V3 x) [] (VY)
theorem z5R (hC : zr Tryz.prog ctr) (h0N : ctr.Has Vo) (h0O : ctr.Has Yv) : Vn.Ok Tryz.prog:=by
 refine zp ?_
 rintro x_ r0 aa
 try unfold V3 at aa
 refine yO false [(2,some 34)] z5t 13 Tryz.func6 fun E hE => ?_
 obtain ⟨g0,aa⟩:=gdE aa
 obtain ⟨r_,h0,aa⟩:=z8 aa
 obtain ⟨aj,h1,aa⟩:=z8 aa
 obtain rfl:=z7 aa
 exact yE X0 hC hE [Hn g0,Hc h0N (x:=(zu.mk (Int.tmod x_.C.States 5) x_.C.Inputs x_.C.Outputs x_.C.Tree x_.C.Edges)) h0 (loC US (zu.mk (Int.tmod x_.C.States 5) x_.C.Inputs x_.C.Outputs x_.C.Tree x_.C.Edges) <| loN),Hc h0O (x:=r_) h1 (loC ze r_ <| loN)]
def XP : Code:=(Tryz.f14.body).getD .skip
def ug : yK:=spF (α:=z4 × Int) (ρ:=Int) 14 (fun x => [ze x.1,(eI .i64) x.2]) (fun r => (eI .i64) r) (fun x => xc x.1 x.2) [] (Uv)
abbrev K4 (n_ : Int) : List (Nat × T):=[(5,.d (I n_))]
abbrev K3 (m_ : z4) (states : Int) (ba : Int) (i_ : Int) : List (Nat × T):=[(1,.d (I states)),(2,.own (.box (ze m_))),(5,.d (I ba)),(6,.d (I i_))]
theorem z3O (hC : zr Tryz.prog ctr) : ug.Ok Tryz.prog:=by
 refine zp ?_
 rintro ⟨m_,states⟩ r0 aa
 try unfold xc at aa
 refine yO true [(4,none)] XP 25 Tryz.func14 fun E hE => ?_
 rcases zy aa with ⟨c0,aa⟩ | ⟨c0,aa⟩
 ·obtain rfl:=z7 aa
  exact yE X0 hC hE [Hq c0]
 ·refine yJ X0 hC XP [1,1,1] [] [5] (fun z : Int => Xx z = some r0) (fun z => K4 z) [(1,.d (I states)),(2,.own (.box (ze m_))),(5,.d (I 1))] [Hq c0,Hh (.cut 1)] ?_ fun J1 ar => ?_
  ·rintro n_ aa
   unfold Xx at aa
   obtain rfl:=z7 aa
   exact yE X0 hC hE []
  ·obtain ⟨t2,ht2,aa⟩:=z8 aa
   refine yL X0 hC XP [1,1,1,2,1,0] [J1] (fun s => yD m_ states s.1 s.2) (fun x => K3 m_ states x.1 x.2) (1,0) ht2  [] ?_
   rintro ⟨ba,i_⟩ m2 aw ae hl1 J2 av
   try unfold yD at ae
   rcases zy ae with ⟨c1,ae⟩ | ⟨c1,ae⟩
   ·obtain rfl:=z7 ae
    exact yB X0 hC av ((mn (w64 ((w64 (ba * states)) * m_.Outputs)) 65537),w64 (i_ + 1)) hl1 [Hq c1]
   ·obtain rfl:=z7 ae
    obtain rfl:=hl1
    exact yB X0 hC ar ba aa [Hq c1]
def XS : Code:=(Tryz.f7.body).getD .skip
def Xu : yK:=spF (α:=z4 × Int) (ρ:=Int) 7 (fun x => [ze x.1,(eI .u8) x.2]) (fun r => (eI .i64) r) (fun x => Yg x.1 x.2) [] (Uv)
abbrev KG (s_ : Int) : List (Nat × T):=[(5,.d (I s_))]
abbrev KF (m_ : z4) (ax : Int) : List (Nat × T):=[(2,.own (.box (ze m_))),(5,.d (I ax))]
theorem z3X (hC : zr Tryz.prog ctr) (h09 : ctr.Has ug) : Xu.Ok Tryz.prog:=by
 refine zp ?_
 rintro ⟨m_,n_⟩ r0 aa
 try unfold Yg at aa
 refine yO true [(4,none)] XS 21 Tryz.func7 fun E hE => ?_
 obtain ⟨g0,aa⟩:=gdE aa
 refine yJ X0 hC XS [1,1] [] [5] (fun z : Int => XE z = some r0) (fun z => KG z) [(2,.own (.box (ze m_))),(5,.d (I (w64 (1 + (w64 (Int.tmod n_ 3))))))] [Hn g0,Hh (.cut 2)] ?_ fun J1 ar => ?_
 ·rintro s_ aa
  unfold XE at aa
  obtain rfl:=z7 aa
  exact yE X0 hC hE []
 ·obtain ⟨t2,ht2,aa⟩:=z8 aa
  refine yL X0 hC XS [1,1,2,0] [J1] (fun s => Zf m_ s) (fun x => KF m_ x) (w64 (1 + (w64 (Int.tmod n_ 3)))) ht2  [] ?_
  rintro ax m2 aw ae hl1 J2 av
  try unfold Zf at ae
  rcases zy ae with ⟨c0,ae⟩ | ⟨c0,ae⟩
  ·obtain ⟨r_,h0,ae⟩:=z8 ae
   let Z0 : List HO:=[Hq c0,Hq c0,Hq c0,Hc h09 (x:=(m_,ax)) h0 (loC ze m_ <| loC (eI .i64) ax <| loN),Hq c0,Hq c0]
   rcases zy ae with ⟨c1,ae⟩ | ⟨c1,ae⟩
   ·obtain rfl:=z7 ae
    exact yB X0 hC av (w64 (ax - 1)) hl1 (Z0 ++ [Hq c1])
   ·obtain rfl:=z7 ae
    obtain rfl:=hl1
    exact yB X0 hC ar ax aa (Z0 ++ [Hq c1])
  ·obtain rfl:=z7 ae
   obtain rfl:=hl1
   exact yB X0 hC ar ax aa (rpN 5 (Hq c0) [qF])
def QX : Code:=(Tryz.f52.body).getD .skip
def qZ : yK:=spF (α:=yf) (ρ:=Int) 52 (fun x => [z74 x]) (fun r => (eI .i64) r) (fun x => xo x) [] (VY)
theorem JB (hC : zr Tryz.prog ctr) : qZ.Ok Tryz.prog:=by
 refine zp ?_
 rintro x_ r0 aa
 try unfold xo at aa
 refine yO true [(2,none)] QX 8 Tryz.func52 fun E hE => ?_
 obtain ⟨g0,aa⟩:=gdE aa
 obtain rfl:=z7 aa
 exact yE X0 hC hE [Hn g0]
def vP : Code:=(Tryz.f27.body).getD .skip
def Wv : yK:=spF (α:=yf) (ρ:=List (List Int)) 27 (fun x => [z74 x]) (fun r => (eOs 1 false F5_) r) (fun x => XG x) [] (VY)
abbrev z0J (out : List (List Int)) : List (Nat × T):=[(3,.own (eOs 1 false F5_ out))]
abbrev z0I (x_ : yf) (i_ : Int) (bm : List (List Int)) : List (Nat × T):=[(1,.own (.box (z74 x_))),(3,.own (eOs 1 false F5_ bm)),(4,.d (I i_)),(13,.d (I i_)),(14,.d (B (decide (i_ < 40))))]
abbrev z0H (x_ : yf) (ak : List (List Int)) (i_ : Int) (w_ : List Int) : List (Nat × T):=[(1,.own (.box (z74 x_))),(3,.own (eOs 1 false F5_ ak)),(4,.d (I i_)),(5,.own (eOs 1 false (eI .i64) w_)),(13,.d (I i_)),(14,.d (B (decide (i_ < 40))))]
abbrev z0F (x_ : yf) (ak : List (List Int)) (i_ : Int) (bz : List Int) (k_ : Int) : List (Nat × T):=[(1,.own (.box (z74 x_))),(3,.own (eOs 1 false F5_ ak)),(4,.d (I i_)),(5,.own (eOs 1 false (eI .i64) bz)),(6,.d (I k_)),(13,.d (I i_)),(14,.d (B (decide (i_ < 40))))]
abbrev z0G (x_ : yf) (ak : List (List Int)) (i_ : Int) : List (Nat × T):=[(1,.own (.box (z74 x_))),(3,.own (eOs 1 false F5_ ak)),(4,.d (I i_))]
theorem z4Z (hC : zr Tryz.prog ctr) (h0P : ctr.Has qZ) : Wv.Ok Tryz.prog:=by
 refine zp ?_
 rintro x_ r0 aa
 try unfold XG at aa
 refine yO true [(2,none)] vP 53 Tryz.func27 fun E hE => ?_
 refine yJ X0 hC vP [1,1] [] [3] (fun z : List (List Int) => WA z = some r0) (fun z => z0J z) [(1,.own (.box (z74 x_))),(3,.own (eOs 1 true F6_ []))] [Hh (.cut 2)] ?_ fun J1 ar => ?_
 ·rintro out aa
  unfold WA at aa
  obtain rfl:=z7 aa
  exact yE X0 hC hE []
 ·obtain ⟨t2,ht2,aa⟩:=z8 aa
  refine yLx X0 hC vP [1,1,2,1,0] [J1] (fun s => qB x_ s.1 s.2) (fun x => z0G x_ x.1 x.2) (([] : List (List Int)),0) ht2 [(1,.own (.box (z74 x_))),(3,.own (eOs 1 true F5_ [])),(4,.d (I 0))] inferInstance [] ?_
  rintro ⟨ak,i_⟩ m2 aw ae hl1 J2 av
  try unfold qB at ae
  let Z0 : List HO:=[Ha (lnM F1_ x_.Words)]
  rcases zy ae with ⟨c0,ae⟩ | ⟨c0,ae⟩
  ·rcases zy ae with ⟨c1,ae⟩ | ⟨c1,ae⟩
   ·refine yJ X0 hC vP [1,1,2,1,0,0,1] [J1,J2] [1,3,4,13,14] (fun z : List (List Int) => Y0 i_ z = some aw) (fun z => z0I x_ i_ z) [(1,.own (.box (z74 x_))),(3,.own (eOs 1 false F5_ ak)),(4,.d (I i_)),(13,.d (I i_)),(14,.d (B (decide (i_ < 40))))] (Z0 ++ [Hq c0,Hq c0,Hq c0,Hq c1,Hh (.cut 0)]) ?_ fun J3 bk => ?_
    ·rintro bm ae
     unfold Y0 at ae
     obtain rfl:=z7 ae
     exact yB X0 hC av (bm,w64 (i_ + 1)) hl1 []
    ·refine yJ X0 hC vP [1,1,2,1,0,0,1,2,0,1] [J1,J2,J3] [1,3,4,5,13,14] (fun z : List Int => ZZ ak i_ z = some aw) (fun z => z0H x_ ak i_ z) [(1,.own (.box (z74 x_))),(3,.own (eOs 1 false F5_ ak)),(4,.d (I i_)),(5,.own (eOs 1 true (eI .i64) [])),(13,.d (I i_)),(14,.d (B (decide (i_ < 40))))] [Hh (.cut 1)] ?_ fun J4 ca => ?_
     ·rintro w_ ae
      unfold ZZ at ae
      obtain ⟨g0,ae⟩:=gdE ae
      exact yB X0 hC bk (ak ++ [w_]) ae [Hq (oC F5_ w_ []),Hn (aL F5_ F5_ g0),Hl (aM F5_ ak [w_])]
     ·obtain ⟨t5,ht5,ae⟩:=z8 ae
      refine yLx X0 hC vP [1,1,2,1,0,0,1,2,0,1,2,1,0] [J1,J2,J3,J4] (fun s => vJ x_ i_ s.1 s.2) (fun x => z0F x_ ak i_ x.1 x.2) (([] : List Int),0) ht5 [(1,.own (.box (z74 x_))),(3,.own (eOs 1 false F5_ ak)),(4,.d (I i_)),(5,.own (eOs 1 true (eI .i64) [])),(6,.d (I 0)),(13,.d (I i_)),(14,.d (B (decide (i_ < 40))))] inferInstance [] ?_
      rintro ⟨bz,k_⟩ m5 cp ah hl2 J5 cb
      try unfold vJ at ah
      obtain ⟨kl,h0,ah⟩:=z8 ah
      let Z1 : List HO:=[Hi F1_ h0,Ha (lnM (eI .u8) kl)]
      rcases zy ah with ⟨c2,ah⟩ | ⟨c2,ah⟩
      ·rcases zy ah with ⟨c3,ah⟩ | ⟨c3,ah⟩
       ·obtain ⟨la,h1,ah⟩:=z8 ah
        obtain ⟨gb,h2,ah⟩:=z8 ah
        obtain ⟨r_,h3,ah⟩:=z8 ah
        obtain ⟨g1,ah⟩:=gdE ah
        obtain ⟨g2,ah⟩:=gdE ah
        obtain rfl:=z7 ah
        exact yB X0 hC cb ((bz ++ [Int.tmod (w64 (gb)) r_]),w64 (k_ + 1)) hl2 (Z1 ++ [Hq c2,Hq c2,Hq c2,Hq c3,Hi F1_ h1,Hi (eI .u8) h2,Hc h0P (x:=x_) h3 (loC z74 x_ <| loN),Hn g1,Hq (dM (eI .i64) [Int.tmod (w64 (gb)) r_]),Hn (dM (eI .i64) [Int.tmod (w64 (gb)) r_]),Hn (aL (eI .i64) (eI .i64) g2),Hl (aM (eI .i64) bz [Int.tmod (w64 (gb)) r_])])
       ·obtain rfl:=z7 ah
        obtain rfl:=hl2
        exact yB X0 hC ca bz ae (Z1 ++ [Hq c2,Hq c2,Hq c2,Hq c3])
      ·obtain rfl:=z7 ah
       obtain rfl:=hl2
       exact yB X0 hC ca bz ae (Z1 ++ [Hq c2,Hq c2,Hq c2,qF])
   ·obtain rfl:=z7 ae
    obtain rfl:=hl1
    exact yB X0 hC ar ak aa (Z0 ++ [Hq c0,Hq c0,Hq c0,Hq c1])
  ·obtain rfl:=z7 ae
   obtain rfl:=hl1
   exact yB X0 hC ar ak aa (Z0 ++ [Hq c0,Hq c0,Hq c0,qF])
def YF : Code:=(Tryz.f77.body).getD .skip
def Yu : yK:=spF (α:=List Int × List Int) (ρ:=Int) 77 (fun x => [F6_ x.1,F6_ x.2]) (fun r => (eI .i64) r) (fun x => uI x.1 x.2) [] (Uv)
abbrev Jb : List (Nat × T):=[]
abbrev Ja (a_ : List Int) (b_ : List Int) (i_ : Int) : List (Nat × T):=[(0,.d (eSl 1 false (eI .i64) a_)),(1,.d (eSl 1 false (eI .i64) b_)),(5,.d (I i_))]
theorem z2r (hC : zr Tryz.prog ctr) : Yu.Ok Tryz.prog:=by
 refine zp ?_
 rintro ⟨a_,b_⟩ r0 aa
 try unfold uI at aa
 refine yO true [(4,none)] YF 40 Tryz.func77 fun E hE => ?_
 let Z0 : List HO:=[Ha (lnM (eI .i64) a_),Ha (lnM (eI .i64) b_)]
 rcases zy aa with ⟨c0,aa⟩ | ⟨c0,aa⟩
 ·let Z1 : List HO:=(Z0 ++ [Hq c0,Ha (lnM (eI .i64) a_),Ha (lnM (eI .i64) b_)])
  rcases zy aa with ⟨c1,aa⟩ | ⟨c1,aa⟩
  ·obtain rfl:=z7 aa
   exact yE X0 hC hE (Z1 ++ [Hq c1])
  ·obtain rfl:=z7 aa
   exact yE X0 hC hE (Z1 ++ [Hq c1])
 ·refine yJ X0 hC YF [1,1] [] [] (fun z : Unit => YC = some r0) (fun z => Jb) [(0,.d (eSl 1 false (eI .i64) a_)),(1,.d (eSl 1 false (eI .i64) b_))] (Z0 ++ [Hq c0,Hh (.cut 0)]) ?_ fun J1 ar => ?_
  ·rintro ⟨⟩ aa
   unfold YC at aa
   obtain rfl:=z7 aa
   exact yE X0 hC hE []
  ·obtain ⟨t2,ht2,aa⟩:=z8 aa
   refine yL X0 hC YF [1,1,2,1,0] [J1] (fun s => vt a_ b_ s) (fun x => Ja a_ b_ x) 0 ht2  [] ?_
   rintro i_ m2 aw ae hl1 J2 av
   try unfold vt at ae
   rcases zy ae with ⟨c2,ae⟩ | ⟨c2,ae⟩
   ·obtain ⟨kg,h0,ae⟩:=z8 ae
    obtain ⟨kh,h1,ae⟩:=z8 ae
    let Z2 : List HO:=[Ha (lnM (eI .i64) a_),Hq c2,Hi (eI .i64) h0,Hi (eI .i64) h1]
    rcases zy ae with ⟨c3,ae⟩ | ⟨c3,ae⟩
    ·obtain rfl:=z7 ae
     obtain rfl:=hl1
     obtain rfl:=z7 aa
     exact yE X0 hC hE (Z2 ++ [Hq c3])
    ·obtain ⟨jo,h2,ae⟩:=z8 ae
     obtain ⟨jp,h3,ae⟩:=z8 ae
     let Z3 : List HO:=(Z2 ++ [Hq c3,Hi (eI .i64) h2,Hi (eI .i64) h3])
     rcases zy ae with ⟨c4,ae⟩ | ⟨c4,ae⟩
     ·obtain rfl:=z7 ae
      obtain rfl:=hl1
      obtain rfl:=z7 aa
      exact yE X0 hC hE (Z3 ++ [Hq c4])
     ·obtain rfl:=z7 ae
      exact yB X0 hC av (w64 (i_ + 1)) hl1 (Z3 ++ [Hq c4])
   ·obtain rfl:=z7 ae
    obtain rfl:=hl1
    exact yB X0 hC ar () aa [Ha (lnM (eI .i64) a_),Hq c2]
def jL : Code:=(Tryz.f51.body).getD .skip
def Ul : yK:=spF (α:=List (List Int) × List Int) (ρ:=List (List Int)) 51 (fun x => [zgG x.1,F6_ x.2]) (fun r => zgG r) (fun x => Ur x.1 x.2) [true,false] (Uv)
abbrev z3r (w_ : List Int) (dj : Int) (fl : List (List Int)) : List (Nat × T):=[(0,.own (eOs 1 false F6_ fl)),(1,.d (eSl 1 false (eI .i64) w_)),(5,.d (I dj))]
abbrev z3q (w_ : List Int) (dj : Int) (gv : List (List Int)) (i_ : Int) : List (Nat × T):=[(0,.own (eOs 1 false F6_ gv)),(1,.d (eSl 1 false (eI .i64) w_)),(5,.d (I dj)),(8,.d (I i_))]
abbrev z3s (l_ : List (List Int)) (w_ : List Int) (dj : Int) : List (Nat × T):=[(0,.own (eOs 1 false F6_ l_)),(1,.d (eSl 1 false (eI .i64) w_)),(5,.d (I dj))]
abbrev z3t (l_ : List (List Int)) (w_ : List Int) (dj : Int) : List (Nat × T):=[(0,.own (eOs 1 false F6_ l_)),(1,.d (eSl 1 false (eI .i64) w_)),(5,.d (I dj))]
abbrev z3p (l_ : List (List Int)) (w_ : List Int) (gn : Int) (ic : Int) : List (Nat × T):=[(0,.own (eOs 1 false F6_ l_)),(1,.d (eSl 1 false (eI .i64) w_)),(5,.d (I gn)),(6,.d (I ic))]
def yI : XH Tryz.prog:=((z93 y4 (.inr 66) [65]).or ((z93 y4 (.inl 44) [43]).or X0))
theorem z77 (hC : zr Tryz.prog ctr) (h0t : ctr.Has Yu) : Ul.Ok Tryz.prog:=by
 refine zp ?_
 rintro ⟨l_,w_⟩ r0 aa
 try unfold Ur at aa
 refine yO true [(4,none)] jL 68 Tryz.func51 fun E hE => ?_
 refine yJ yI hC jL [1,1,1] [] [0,1,5] (fun z : Int => W6 l_ w_ z = some r0) (fun z => z3t l_ w_ z) [(0,.own (eOs 1 false F6_ l_)),(1,.d (eSl 1 false (eI .i64) w_)),(5,.d (I 0)),(6,.d (I ((l_.length : Nat) : Int)))] [Ha (lnM F6_ l_),Hh (.cut 0)] ?_ fun J1 ar => ?_
 ·rintro dj aa
  unfold W6 at aa
  refine yJ yI hC jL [1,1,1,1] [] [0,1,5] (fun z : Unit => jG l_ w_ dj = some r0) (fun z => z3s l_ w_ dj) [(0,.own (eOs 1 false F6_ l_)),(1,.d (eSl 1 false (eI .i64) w_)),(5,.d (I dj))] [Hh (.cut 0)] ?_ fun J2 av => ?_
  ·rintro ⟨⟩ aa
   unfold jG at aa
   obtain ⟨g0,aa⟩:=gdE aa
   refine yJ ((xNb y4 43).or yI) hC jL [1,1,1,1,1,1] [] [0,1,5] (fun z : List (List Int) => W5 w_ dj z = some r0) (fun z => z3r w_ dj z) [(0,.own (eOs 1 false F6_ (l_ ++ ([[]] : List (List Int))))),(1,.d (eSl 1 false (eI .i64) w_)),(5,.d (I dj))] [Hm (shM F5_ F6_ ([[]])),Hn (dM F6_ ([[]] : List (List Int))),Hn (aL F6_ F6_ g0),Hl (aM F6_ l_ ([[]] : List (List Int))),Hh (.cut 0)] ?_ fun J3 bk => ?_
   ·rintro fl aa
    unfold W5 at aa
    obtain ⟨g1,aa⟩:=gdE aa
    obtain ⟨bj,h0,aa⟩:=z8 aa
    obtain rfl:=z7 aa
    exact yE yI hC hE [Hn (dM (eI .i64) w_),Hn (aL (eI .i64) (eI .i64) g1),Hl (aM0 (eI .i64) w_),Hn (iL F6_ h0),Hm (shM (eI .i64) (eI .i64) w_),Hs (iM F6_ h0),Hs (iM F6_ h0),Hl (sM F6_ fl dj w_)]
   ·obtain ⟨t4,ht4,aa⟩:=z8 aa
    refine yL yI hC jL [1,1,1,1,1,1,2,1,0] [J3] (fun s => Yb dj s.1 s.2) (fun x => z3q w_ dj x.1 x.2) ((l_ ++ ([[]] : List (List Int))),w64 ((((l_ ++ ([[]] : List (List Int))).length : Nat) : Int) - 1)) ht4  [Ha (lnM F6_ (l_ ++ ([[]] : List (List Int))))] ?_
    rintro ⟨gv,i_⟩ m4 aw ae hl1 J4 ca
    try unfold Yb at ae
    rcases zy ae with ⟨c0,ae⟩ | ⟨c0,ae⟩
    ·obtain ⟨d0,h1,ae⟩:=z8 ae
     obtain ⟨nl,h2,ae⟩:=z8 ae
     obtain rfl:=z7 ae
     exact yB yI hC ca ((gv.set i_.toNat d0),w64 (i_ - 1)) hl1 [Hq c0,Hn (iL F6_ h1),Hs (iM F6_ h1),Hn (iL F6_ h2),Hs (iM F6_ h2),Hs (iM F6_ h2),Hl (sM F6_ gv i_ d0)]
    ·obtain rfl:=z7 ae
     obtain rfl:=hl1
     exact yB yI hC bk gv aa [Hq c0]
  ·let Z0 : List HO:=[Ha (lnM F6_ l_)]
   rcases zy aa with ⟨c1,aa⟩ | ⟨c1,aa⟩
   ·obtain ⟨ka,h3,aa⟩:=z8 aa
    obtain ⟨r_,h4,aa⟩:=z8 aa
    let Z1 : List HO:=(Z0 ++ [Hq c1,Hq c1,Hq c1,Hn (iL F6_ h3),Hq c1,Hs (iM F6_ h3),Hq c1,Hq c1,Hc h0t (x:=(ka,w_)) h4 (loC F6_ ka <| loC F6_ w_ <| loN),Hq c1,Hq c1])
    rcases zy aa with ⟨c2,aa⟩ | ⟨c2,aa⟩
    ·obtain rfl:=z7 aa
     exact yE yI hC hE (Z1 ++ [Hq c2])
    ·exact yB yI hC av () aa (Z1 ++ [Hq c2])
   ·exact yB yI hC av () aa (Z0 ++ (rpN 8 (Hq c1) [qF]))
 ·obtain ⟨t5,ht5,aa⟩:=z8 aa
  refine yL yI hC jL [1,1,1,2,0] [J1] (fun s => Ya l_ w_ s.1 s.2) (fun x => z3p l_ w_ x.1 x.2) (0,((l_.length : Nat) : Int)) ht5  [] ?_
  rintro ⟨gn,ic⟩ m5 aw ae hl1 J5 cb
  try unfold Ya at ae
  rcases zy ae with ⟨c3,ae⟩ | ⟨c3,ae⟩
  ·obtain ⟨g2,ae⟩:=gdE ae
   obtain ⟨kb,h5,ae⟩:=z8 ae
   obtain ⟨aj,h6,ae⟩:=z8 ae
   let Z2 : List HO:=[Hq c3,Hn g2,Hn (iL F6_ h5),Hs (iM F6_ h5),Hc h0t (x:=(kb,w_)) h6 (loC F6_ kb <| loC F6_ w_ <| loN)]
   rcases zy ae with ⟨c4,ae⟩ | ⟨c4,ae⟩
   ·obtain rfl:=z7 ae
    exact yB yI hC cb (w64 ((w64 (Int.tdiv (w64 (gn + ic)) 2)) + 1),ic) hl1 (Z2 ++ [Hq c4])
   ·obtain rfl:=z7 ae
    exact yB yI hC cb (gn,w64 (Int.tdiv (w64 (gn + ic)) 2)) hl1 (Z2 ++ [Hq c4])
  ·obtain rfl:=z7 ae
   obtain rfl:=hl1
   exact yB yI hC ar gn aa [Hq c3]
def VO : Code:=(Tryz.f26.body).getD .skip
def YK : yK:=spF (α:=List (List Int)) (ρ:=List (List Int)) 26 (fun x => [qH x]) (fun r => zgG r) (fun x => Xb x) [] (VY)
abbrev z1y (out : List (List Int)) : List (Nat × T):=[(3,.own (eOs 1 false F6_ out))]
abbrev z1x (l_ : List (List Int)) (ak : List (List Int)) (i_ : Int) : List (Nat × T):=[(0,.d (eSl 1 false F6_ l_)),(3,.own (eOs 1 false F6_ ak)),(4,.d (I i_))]
theorem z5K (hC : zr Tryz.prog ctr) (h0Q : ctr.Has Ul) : YK.Ok Tryz.prog:=by
 refine zp ?_
 rintro l_ r0 aa
 try unfold Xb at aa
 refine yO true [(2,none)] VO 18 Tryz.func26 fun E hE => ?_
 refine yJ X0 hC VO [1,1] [] [3] (fun z : List (List Int) => Vw z = some r0) (fun z => z1y z) [(0,.d (eSl 1 false F6_ l_)),(3,.own (eOs 1 true F6_ []))] [Hh (.cut 2)] ?_ fun J1 ar => ?_
 ·rintro out aa
  unfold Vw at aa
  obtain rfl:=z7 aa
  exact yE X0 hC hE []
 ·obtain ⟨t2,ht2,aa⟩:=z8 aa
  refine yLx X0 hC VO [1,1,2,1,0] [J1] (fun s => wv l_ s.1 s.2) (fun x => z1x l_ x.1 x.2) (([] : List (List Int)),0) ht2 [(0,.d (eSl 1 false F6_ l_)),(3,.own (eOs 1 true F6_ [])),(4,.d (I 0))] inferInstance [] ?_
  rintro ⟨ak,i_⟩ m2 aw ae hl1 J2 av
  try unfold wv at ae
  let Z0 : List HO:=[Ha (lnM F6_ l_)]
  rcases zy ae with ⟨c0,ae⟩ | ⟨c0,ae⟩
  ·obtain ⟨bj,h0,ae⟩:=z8 ae
   obtain ⟨r_,h1,ae⟩:=z8 ae
   obtain rfl:=z7 ae
   exact yB X0 hC av (r_,w64 (i_ + 1)) hl1 (Z0 ++ [Hq c0,Hi F6_ h0,Hc h0Q (x:=(ak,bj)) h1 (loC zgG ak <| loC F6_ bj <| loN)])
  ·obtain rfl:=z7 ae
   obtain rfl:=hl1
   exact yB X0 hC ar ak aa (Z0 ++ [Hq c0])
def z5s : Code:=(Tryz.f9.body).getD .skip
def Vm : yK:=spF (α:=yf) (ρ:=List (List Int)) 9 (fun x => [z74 x]) (fun r => zgG r) (fun x => V2 x) [] (VY)
theorem z5Q (hC : zr Tryz.prog ctr) (h0R : ctr.Has Wv) (h0a : ctr.Has YK) : Vm.Ok Tryz.prog:=by
 refine zp ?_
 rintro x_ r0 aa
 try unfold V2 at aa
 refine yO true [(2,none)] z5s 6 Tryz.func9 fun E hE => ?_
 obtain ⟨r_,h0,aa⟩:=z8 aa
 obtain ⟨aj,h1,aa⟩:=z8 aa
 obtain rfl:=z7 aa
 exact yE X0 hC hE [Hc h0R (x:=x_) h0 (loC z74 x_ <| loN),Hg (z4x h0a),Hm (shM F5_ F6_ r_),Hs (z4y h0a (x:=r_) h1 (loC qH r_ <| loN)),Hm (shM F5_ F6_ r_)]
def v8 : Code:=(Tryz.f8.body).getD .skip
def Xt : yK:=spF (α:=List (List Int) × Int) (ρ:=List (List Int)) 8 (fun x => [qH x.1,(eI .i64) x.2]) (fun r => zgG r) (fun x => Yf x.1 x.2) [] (Uv)
abbrev KE (out : List (List Int)) : List (Nat × T):=[(5,.own (eOs 1 false F5_ out))]
abbrev KD (l_ : List (List Int)) (inputs : Int) (i_ : Int) (bm : List (List Int)) : List (Nat × T):=[(0,.d (eSl 1 false F6_ l_)),(1,.d (I inputs)),(5,.own (eOs 1 false F5_ bm)),(6,.d (I i_))]
abbrev KC (l_ : List (List Int)) (inputs : Int) (ak : List (List Int)) (i_ : Int) (w_ : List Int) : List (Nat × T):=[(0,.d (eSl 1 false F6_ l_)),(1,.d (I inputs)),(5,.own (eOs 1 false F5_ ak)),(6,.d (I i_)),(7,.own (eOs 1 false (eI .i64) w_))]
abbrev KA (l_ : List (List Int)) (inputs : Int) (ak : List (List Int)) (i_ : Int) (bz : List Int) (k_ : Int) : List (Nat × T):=[(0,.d (eSl 1 false F6_ l_)),(1,.d (I inputs)),(5,.own (eOs 1 false F5_ ak)),(6,.d (I i_)),(7,.own (eOs 1 false (eI .i64) bz)),(8,.d (I k_))]
abbrev KB (l_ : List (List Int)) (inputs : Int) (ak : List (List Int)) (i_ : Int) : List (Nat × T):=[(0,.d (eSl 1 false F6_ l_)),(1,.d (I inputs)),(5,.own (eOs 1 false F5_ ak)),(6,.d (I i_))]
theorem z3W (hC : zr Tryz.prog ctr) (h0a : ctr.Has YK) : Xt.Ok Tryz.prog:=by
 refine zp ?_
 rintro ⟨l_,inputs⟩ r0 aa
 try unfold Yf at aa
 refine yO true [(4,none)] v8 42 Tryz.func8 fun E hE => ?_
 refine yJ X0 hC v8 [1,1] [] [5] (fun z : List (List Int) => Ze z = some r0) (fun z => KE z) [(0,.d (eSl 1 false F6_ l_)),(1,.d (I inputs)),(5,.own (eOs 1 true F6_ []))] [Hh (.cut 2)] ?_ fun J1 ar => ?_
 ·rintro out aa
  unfold Ze at aa
  obtain ⟨r_,h0,aa⟩:=z8 aa
  obtain rfl:=z7 aa
  exact yE X0 hC hE [Hg (z4x h0a),Hm (shM F5_ F6_ out),Hs (z4y h0a (x:=out) h0 (loC qH out <| loN)),Hm (shM F5_ F6_ out)]
 ·obtain ⟨t2,ht2,aa⟩:=z8 aa
  refine yLx X0 hC v8 [1,1,2,1,0] [J1] (fun s => wX l_ inputs s.1 s.2) (fun x => KB l_ inputs x.1 x.2) (([] : List (List Int)),0) ht2 [(0,.d (eSl 1 false F6_ l_)),(1,.d (I inputs)),(5,.own (eOs 1 true F5_ [])),(6,.d (I 0))] inferInstance [] ?_
  rintro ⟨ak,i_⟩ m2 aw ae hl1 J2 av
  try unfold wX at ae
  let Z0 : List HO:=[Ha (lnM F6_ l_)]
  rcases zy ae with ⟨c0,ae⟩ | ⟨c0,ae⟩
  ·refine yJ X0 hC v8 [1,1,2,1,0,0,1] [J1,J2] [0,1,5,6] (fun z : List (List Int) => Zd i_ z = some aw) (fun z => KD l_ inputs i_ z) [(0,.d (eSl 1 false F6_ l_)),(1,.d (I inputs)),(5,.own (eOs 1 false F5_ ak)),(6,.d (I i_))] (Z0 ++ [Hq c0,Hh (.cut 0)]) ?_ fun J3 bk => ?_
   ·rintro bm ae
    unfold Zd at ae
    obtain rfl:=z7 ae
    exact yB X0 hC av (bm,w64 (i_ + 1)) hl1 []
   ·refine yJ X0 hC v8 [1,1,2,1,0,0,1,2,0,1] [J1,J2,J3] [0,1,5,6,7] (fun z : List Int => Zc ak i_ z = some aw) (fun z => KC l_ inputs ak i_ z) [(0,.d (eSl 1 false F6_ l_)),(1,.d (I inputs)),(5,.own (eOs 1 false F5_ ak)),(6,.d (I i_)),(7,.own (eOs 1 true (eI .i64) []))] [Hh (.cut 1)] ?_ fun J4 ca => ?_
    ·rintro w_ ae
     unfold Zc at ae
     obtain ⟨g0,ae⟩:=gdE ae
     exact yB X0 hC bk (ak ++ [w_]) ae [Hq (oC F5_ w_ []),Hn (aL F5_ F5_ g0),Hl (aM F5_ ak [w_])]
    ·obtain ⟨t5,ht5,ae⟩:=z8 ae
     refine yLx X0 hC v8 [1,1,2,1,0,0,1,2,0,1,2,1,0] [J1,J2,J3,J4] (fun s => wW l_ inputs i_ s.1 s.2) (fun x => KA l_ inputs ak i_ x.1 x.2) (([] : List Int),0) ht5 [(0,.d (eSl 1 false F6_ l_)),(1,.d (I inputs)),(5,.own (eOs 1 false F5_ ak)),(6,.d (I i_)),(7,.own (eOs 1 true (eI .i64) [])),(8,.d (I 0))] inferInstance [] ?_
     rintro ⟨bz,k_⟩ m5 cp ah hl2 J5 cb
     try unfold wW at ah
     obtain ⟨bj,h1,ah⟩:=z8 ah
     let Z1 : List HO:=[Hi F6_ h1,Ha (lnM (eI .i64) bj)]
     rcases zy ah with ⟨c1,ah⟩ | ⟨c1,ah⟩
     ·obtain ⟨d0,h2,ah⟩:=z8 ah
      obtain ⟨ie,h3,ah⟩:=z8 ah
      obtain ⟨g1,ah⟩:=gdE ah
      obtain ⟨g2,ah⟩:=gdE ah
      obtain rfl:=z7 ah
      exact yB X0 hC cb ((bz ++ [Int.tmod ie inputs]),w64 (k_ + 1)) hl2 (Z1 ++ [Hq c1,Hi F6_ h2,Hi (eI .i64) h3,Hn g1,Hq (dM (eI .i64) [Int.tmod ie inputs]),Hn (dM (eI .i64) [Int.tmod ie inputs]),Hn (aL (eI .i64) (eI .i64) g2),Hl (aM (eI .i64) bz [Int.tmod ie inputs])])
     ·obtain rfl:=z7 ah
      obtain rfl:=hl2
      exact yB X0 hC ca bz ae (Z1 ++ [Hq c1])
  ·obtain rfl:=z7 ae
   obtain rfl:=hl1
   exact yB X0 hC ar ak aa (Z0 ++ [Hq c0])
def z1k : Code:=(Tryz.f124.body).getD .skip
def qJ : yK:=spF (α:=Unit) (ρ:=z5) 124 (fun x => []) (fun r => F8_ r) (fun x => uS) [] (fun _ _ _ => rfl)
theorem z2w (hC : zr Tryz.prog ctr) : qJ.Ok Tryz.prog:=by
 refine zp ?_
 rintro ⟨⟩ r0 aa
 try unfold uS at aa
 refine yO false [(0,some 54)] z1k 2 Tryz.func124 fun E hE => ?_
 obtain rfl:=z7 aa
 exact yE X0 hC hE []
def z1l : Code:=(Tryz.f97.body).getD .skip
def Yy : yK:=spF (α:=z4 × z5) (ρ:=Bool) 97 (fun x => [ze x.1,F8_ x.2]) (fun r => eB r) (fun x => Zb x.1 x.2) [] (Uv)
theorem z2x (hC : zr Tryz.prog ctr) (h0j : ctr.Has qJ) : Yy.Ok Tryz.prog:=by
 refine zp ?_
 rintro ⟨m_,x_⟩ r0 aa
 try unfold Zb at aa
 refine yO true [(4,none)] z1l 33 Tryz.func97 fun E hE => ?_
 obtain ⟨r_,h0,aa⟩:=z8 aa
 let Z0 : List HO:=[Hc h0j (x:=()) h0 (loN)]
 rcases zy aa with ⟨c0,aa⟩ | ⟨c0,aa⟩
 ·obtain rfl:=z7 aa
  exact yE X0 hC hE (Z0 ++ (rpN 10 (Hq c0) []))
 ·let Z1 : List HO:=(Z0 ++ (rpN 4 (Hq c0) []))
  rcases zy aa with ⟨c1,aa⟩ | ⟨c1,aa⟩
  ·let Z2 : List HO:=(Z1 ++ (rpN 5 (Hq c1) [Ha (lnM zw m_.Rows),Hq c1,Hq c0,Hq c1,Hq c0]))
   rcases zy aa with ⟨c2,aa⟩ | ⟨c2,aa⟩
   ·let Z3 : List HO:=(Z2 ++ [Hq c2,Hq c2,Hq c2,Hq c0,Hq c2,Hq c0])
    rcases zy aa with ⟨c3,aa⟩ | ⟨c3,aa⟩
    ·obtain rfl:=z7 aa
     exact yE X0 hC hE (Z3 ++ (rpN 5 (Hq c3) [Hq c0,Hq c3,Hq c0]))
    ·obtain rfl:=z7 aa
     exact yE X0 hC hE (Z3 ++ (rpN 5 (Hq c3) [Hq c0,Hq c3,Hq c0]))
   ·obtain rfl:=z7 aa
    exact yE X0 hC hE (Z2 ++ (Hq c2 :: Hq c2 :: Hq c2 :: Hq c0 :: Hq c2 :: Hq c0 :: (rpN 5 qF [Hq c0,qF,Hq c0])))
  ·obtain rfl:=z7 aa
   exact yE X0 hC hE (Z1 ++ (rpN 6 (Hq c1) (Hq c0 :: Hq c1 :: Hq c0 :: qF :: qF :: qF :: Hq c0 :: qF :: Hq c0 :: (rpN 5 qF [Hq c0,qF,Hq c0]))))
def QV : Code:=(Tryz.f96.body).getD .skip
def qY : yK:=spF (α:=z5 × z4) (ρ:=Bool) 96 (fun x => [F8_ x.1,z4J x.2]) (fun r => eB r) (fun x => qS x.1 x.2) [] (Uv)
theorem JA (hC : zr Tryz.prog ctr) (h0S : ctr.Has Yy) : qY.Ok Tryz.prog:=by
 refine zp ?_
 rintro ⟨x_,x1⟩ r0 aa
 try unfold qS at aa
 refine yO true [(3,none)] QV 8 Tryz.func96 fun E hE => ?_
 obtain ⟨r_,h0,aa⟩:=z8 aa
 obtain rfl:=z7 aa
 exact yE X0 hC hE [Hc h0S (x:=(x1,x_)) h0 (loC ze x1 <| loC F8_ x_ <| loN)]
def yi : Code:=(Tryz.f123.body).getD .skip
def yg : yK:=spF (α:=List z5 × z4) (ρ:=Int) 123 (fun x => [zw x.1,(z3L 96 z4J) x.2]) (fun r => (eI .i64) r) (fun x => zW x.1 x.2) [] (by
 rintro ⟨a0,a1⟩ ⟨b0,b1⟩ h
 have e0:=Yp.inj (f:=zw) _ _ (List.cons.inj h).1
 replace h:=(List.cons.inj h).2
 have e1:=Yp.inj (f:=(z3L 96 z4J)) _ _ (List.cons.inj h).1
 subst e0 e1
 rfl)
abbrev uc : List (Nat × T):=[]
abbrev ub (s_ : List z5) (f_ : z4) (x8 : Int) : List (Nat × T):=[(0,.d (eSl 2 false F8_ s_)),(1,.d (.fn 96 [.sptr (.agg [I f_.Inputs,I f_.Outputs,eSl 1 false zw f_.Rows])])),(7,.d (I ((s_.length : Nat) : Int))),(8,.d (I x8))]
theorem qp (hC : zr Tryz.prog ctr) (h0T : ctr.Has qY) : yg.Ok Tryz.prog:=by
 refine zp ?_
 rintro ⟨s_,f_⟩ r0 aa
 try unfold zW at aa
 refine yO true [(4,none)] yi 19 Tryz.func123 fun E hE => ?_
 refine yJ X0 hC yi [1] [] [] (fun z : Unit => yh = some r0) (fun z => uc) [(0,.d (eSl 2 false F8_ s_)),(1,.d (.fn 96 [.sptr (.agg [I f_.Inputs,I f_.Outputs,eSl 1 false zw f_.Rows])]))] [Hh (.cut 1)] ?_ fun J1 ar => ?_
 ·rintro ⟨⟩ aa
  unfold yh at aa
  obtain rfl:=z7 aa
  exact yE X0 hC hE []
 ·obtain ⟨t2,ht2,aa⟩:=z8 aa
  refine yL X0 hC yi [1,2,1,0] [J1] (fun s => zB s_ f_ s) (fun x => ub s_ f_ x) 0 ht2  [Ha (lnM F8_ s_)] ?_
  rintro x8 m2 aw ae hl1 J2 av
  try unfold zB at ae
  rcases zy ae with ⟨c0,ae⟩ | ⟨c0,ae⟩
  ·obtain ⟨gt,h0,ae⟩:=z8 ae
   obtain ⟨r_,h1,ae⟩:=z8 ae
   let Z0 : List HO:=[Hq c0,Hi F8_ h0,Hc h0T (x:=(gt,f_)) h1 (loC F8_ gt <| loC z4J f_ <| loN)]
   rcases zy ae with ⟨c1,ae⟩ | ⟨c1,ae⟩
   ·obtain rfl:=z7 ae
    obtain rfl:=hl1
    obtain rfl:=z7 aa
    exact yE X0 hC hE (Z0 ++ [Hq c1])
   ·obtain rfl:=z7 ae
    exact yB X0 hC av (w64 (x8 + 1)) hl1 (Z0 ++ [Hq c1])
  ·obtain rfl:=z7 ae
   obtain rfl:=hl1
   exact yB X0 hC ar () aa [Hq c0]
def ua : Code:=(Tryz.f95.body).getD .skip
def y7 : yK:=spF (α:=List z5 × z4) (ρ:=Bool) 95 (fun x => [zw x.1,(z3L 96 z4J) x.2]) (fun r => eB r) (fun x => zH x.1 x.2) [] (by
 rintro ⟨a0,a1⟩ ⟨b0,b1⟩ h
 have e0:=Yp.inj (f:=zw) _ _ (List.cons.inj h).1
 replace h:=(List.cons.inj h).2
 have e1:=Yp.inj (f:=(z3L 96 z4J)) _ _ (List.cons.inj h).1
 subst e0 e1
 rfl)
theorem ue (hC : zr Tryz.prog ctr) (h0U : ctr.Has yg) : y7.Ok Tryz.prog:=by
 refine zp ?_
 rintro ⟨s_,f_⟩ r0 aa
 try unfold zH at aa
 refine yO true [(4,none)] ua 9 Tryz.func95 fun E hE => ?_
 obtain ⟨r_,h0,aa⟩:=z8 aa
 obtain rfl:=z7 aa
 exact yE X0 hC hE [Hc h0U (x:=(s_,f_)) h0 (loC zw s_ <| loC (z3L 96 z4J) f_ <| loN)]
def ZL : Code:=(Tryz.f64.body).getD .skip
def yR : yK:=spF (α:=z4) (ρ:=Int) 64 (fun x => [ze x]) (fun r => (eI .i64) r) (fun x => yX x) [] (VY)
abbrev Qe : List (Nat × T):=[]
abbrev Qd (m_ : z4) (km : Int) : List (Nat × T):=[(1,.d (.sptr (ze m_))),(34,.d (eSl 1 false zw m_.Rows)),(35,.d (I ((m_.Rows.length : Nat) : Int))),(36,.d (I km))]
theorem z1d (hC : zr Tryz.prog ctr) (h0V : ctr.Has y7) : yR.Ok Tryz.prog:=by
 refine zp ?_
 rintro m_ r0 aa
 try unfold yX at aa
 refine yO true [(2,none)] ZL 51 Tryz.func64 fun E hE => ?_
 rcases zy aa with ⟨c0,aa⟩ | ⟨c0,aa⟩
 ·obtain rfl:=z7 aa
  exact yE X0 hC hE (rpN 4 (Hq c0) (rpN 6 qT []))
 ·let Z0 : List HO:=(rpN 4 (Hq c0) [])
  rcases zy aa with ⟨c1,aa⟩ | ⟨c1,aa⟩
  ·obtain rfl:=z7 aa
   exact yE X0 hC hE (Z0 ++ (rpN 5 (Hq c1) [qT]))
  ·let Z1 : List HO:=(Z0 ++ [Hq c1,Hq c1,Hq c1,Ha (lnM zw m_.Rows),Hq c1,Hq c1])
   rcases zy aa with ⟨c2,aa⟩ | ⟨c2,aa⟩
   ·obtain rfl:=z7 aa
    exact yE X0 hC hE (Z1 ++ [Hq c2])
   ·rcases zy aa with ⟨c3,aa⟩ | ⟨c3,aa⟩
    ·obtain rfl:=z7 aa
     exact yE X0 hC hE (Z1 ++ (Hq c2 :: (rpN 4 (Hq c3) (rpN 6 qT []))))
    ·let Z2 : List HO:=(Z1 ++ (Hq c2 :: (rpN 4 (Hq c3) [])))
     rcases zy aa with ⟨c4,aa⟩ | ⟨c4,aa⟩
     ·obtain rfl:=z7 aa
      exact yE X0 hC hE (Z2 ++ (rpN 5 (Hq c4) [qT]))
     ·let Z3 : List HO:=(Z2 ++ [Hq c4,Hq c4,Hq c4,Ha (lnM zw m_.Rows),Hq c4,Hq c4])
      rcases zy aa with ⟨c5,aa⟩ | ⟨c5,aa⟩
      ·obtain rfl:=z7 aa
       exact yE X0 hC hE (Z3 ++ [Hq c5])
      ·refine yJ X0 hC ZL [1,1,1] [] [] (fun z : Unit => ZJ = some r0) (fun z => Qe) [(1,.own (.box (ze m_)))] (Z3 ++ [Hq c5,Hh (.cut 0)]) ?_ fun J1 ar => ?_
       ·rintro ⟨⟩ aa
        unfold ZJ at aa
        obtain rfl:=z7 aa
        exact yE X0 hC hE []
       ·obtain ⟨t2,ht2,aa⟩:=z8 aa
        refine yL X0 hC ZL [1,1,1,2,1,0] [J1] (fun s => xK m_ s) (fun x => Qd m_ x) 0 ht2  [Ha (lnM zw m_.Rows),Hh (.n 1 [1])] ?_
        rintro km m2 aw ae hl1 J2 av
        try unfold xK at ae
        rcases zy ae with ⟨c6,ae⟩ | ⟨c6,ae⟩
        ·obtain ⟨am,h0,ae⟩:=z8 ae
         let Z4 : List HO:=[Hq c6,Hi zw h0,Ha (lnM F8_ am)]
         rcases zy ae with ⟨c7,ae⟩ | ⟨c7,ae⟩
         ·obtain rfl:=z7 ae
          obtain rfl:=hl1
          obtain rfl:=z7 aa
          exact yE X0 hC hE (Z4 ++ (rpN 4 (Hq c7) [qT]))
         ·obtain ⟨r_,h1,ae⟩:=z8 ae
          let Z5 : List HO:=(Z4 ++ [Hq c7,Hq c7,Hq c7,Hc h0V (x:=(am,m_)) h1 (loC zw am <| loC (z3L 96 z4J) m_ <| loN),Hq c7])
          rcases zy ae with ⟨c8,ae⟩ | ⟨c8,ae⟩
          ·obtain rfl:=z7 ae
           obtain rfl:=hl1
           obtain rfl:=z7 aa
           exact yE X0 hC hE (Z5 ++ [Hq c8])
          ·obtain rfl:=z7 ae
           exact yB X0 hC av (w64 (km + 1)) hl1 (Z5 ++ [Hq c8])
        ·obtain rfl:=z7 ae
         obtain rfl:=hl1
         exact yB X0 hC ar () aa [Hq c6]
def JV : Code:=(Tryz.f83.body).getD .skip
def jW : yK:=spF (α:=z4) (ρ:=(Int × z4) × (Int × z4) × (Int × z4)) 83 (fun x => [ze x]) (fun r => (zkA (ziU (eI .i64) (z3L 106 z4J)) (ziU (eI .i64) (z3L 108 z4J)) (ziU (eI .i64) (z3L 110 z4J))) r) (fun x => Za x) [] (VY)
theorem KS (hC : zr Tryz.prog ctr) : jW.Ok Tryz.prog:=by
 refine zp ?_
 rintro m_ r0 aa
 try unfold Za at aa
 refine yO false [(2,some 126)] JV 10 Tryz.func83 fun E hE => ?_
 obtain rfl:=z7 aa
 exact yEx X0 hC hE [] (.agg [.agg [I 9,.fn 106 [.sptr (.agg [I m_.Inputs,I m_.Outputs,eSl 1 false zw m_.Rows])]],.agg [I 11,.fn 108 [.sptr (.agg [I m_.Inputs,I m_.Outputs,eSl 1 false zw m_.Rows])]],.agg [I 12,.fn 110 [.sptr (.agg [I m_.Inputs,I m_.Outputs,eSl 1 false zw m_.Rows])]]]) (show LeV (.agg [.agg [I 9,.fn 106 [.sptr (.agg [I m_.Inputs,I m_.Outputs,eSl 1 false zw m_.Rows])]],.agg [I 11,.fn 108 [.sptr (.agg [I m_.Inputs,I m_.Outputs,eSl 1 false zw m_.Rows])]],.agg [I 12,.fn 110 [.sptr (.agg [I m_.Inputs,I m_.Outputs,eSl 1 false zw m_.Rows])]]]) (.agg [.agg [I ((((9,m_),(11,m_),(12,m_)).1).1),.fn 106 [.sptr (.agg [I (((((9,m_),(11,m_),(12,m_)).1).2).Inputs),I (((((9,m_),(11,m_),(12,m_)).1).2).Outputs),eSl 1 false zw (((((9,m_),(11,m_),(12,m_)).1).2).Rows)])]],.agg [I ((((9,m_),(11,m_),(12,m_)).2.1).1),.fn 108 [.sptr (.agg [I (((((9,m_),(11,m_),(12,m_)).2.1).2).Inputs),I (((((9,m_),(11,m_),(12,m_)).2.1).2).Outputs),eSl 1 false zw (((((9,m_),(11,m_),(12,m_)).2.1).2).Rows)])]],.agg [I ((((9,m_),(11,m_),(12,m_)).2.2).1),.fn 110 [.sptr (.agg [I (((((9,m_),(11,m_),(12,m_)).2.2).2).Inputs),I (((((9,m_),(11,m_),(12,m_)).2.2).2).Outputs),eSl 1 false zw (((((9,m_),(11,m_),(12,m_)).2.2).2).Rows)])]]]) from inferInstance)
def z0f : Code:=(Tryz.f153.body).getD .skip
def ZD : yK:=spF (α:=z4) (ρ:=z4) 153 (fun x => [ze x]) (fun r => (z3L 165 z4J) r) (fun x => ZY x) [] (VY)
theorem z1c (hC : zr Tryz.prog ctr) : ZD.Ok Tryz.prog:=by
 refine zp ?_
 rintro m_ r0 aa
 try unfold ZY at aa
 refine yO true [(2,none)] z0f 4 Tryz.func153 fun E hE => ?_
 obtain rfl:=z7 aa
 exact yE X0 hC hE []
def vo : Code:=(Tryz.f165.body).getD .skip
variable {σ : Type}
abbrev Uh (x0 : z4) (YY : σ → Qt) (dg : Int) (lv : σ) : List (Nat × T):=[(0,.own (.opq (YY lv).q)),(8,.d (eSl 1 false zw x0.Rows)),(9,.d (I ((x0.Rows.length : Nat) : Int))),(10,.d (I dg))]
abbrev Uf (x0 : z4) (YY : σ → Qt) (dg : Int) (am : List z5) (js : σ) (ii : Int) : List (Nat × T):=[(0,.own (.opq (YY js).q)),(3,.d (I dg)),(8,.d (eSl 1 false zw x0.Rows)),(9,.d (I ((x0.Rows.length : Nat) : Int))),(10,.d (I dg)),(15,.d (eSl 2 false F8_ am)),(16,.d (I ((am.length : Nat) : Int))),(17,.d (I ii))]
abbrev Ug (x0 : z4) (YY : σ → Qt) (dp : σ) (dg : Int) : List (Nat × T):=[(0,.own (.opq (YY dp).q)),(8,.d (eSl 1 false zw x0.Rows)),(9,.d (I ((x0.Rows.length : Nat) : Int))),(10,.d (I dg))]
theorem Jz (hC : zr Tryz.prog ctr) (x0 : z4) : zdZ Tryz.prog (.fn 165 [.sptr (.agg [I x0.Inputs,I x0.Outputs,eSl 1 false zw x0.Rows])]) (fun (x : ye Int × z5) (_ : Bool) (_ : Value) => [F0_ x.1,F8_ x.2]) (@vC x0):=by
 refine zaN (tt:=Ve) (nt:=31) (body:=vo) y4 Tryz.func165 rfl (by kernel_rfl) rfl rfl (by show (2 : Nat) ≤ 31; decide) ?_
 intro σ yv YY yy hy sg r0 aa E hE
 unfold vC at aa
 obtain ⟨t1,ht1,aa⟩:=z8 aa
 refine yL X0 hC vo [1,0] [] (fun s => xZ x0 yy s.1 s.2) (fun x => Ug x0 YY x.1 x.2) (sg,0) ht1  [Ha (lnM zw x0.Rows)] ?_
 rintro ⟨dp,dg⟩ m1 aw ae hl1 J1 ar
 try unfold xZ at ae
 rcases zy ae with ⟨c0,ae⟩ | ⟨c0,ae⟩
 ·refine yJ X0 hC vo [1,0,0,1,1] [J1] [0,8,9,10] (fun z : σ => vg dg z = some aw) (fun z => Uh x0 YY dg z) [(0,.own (.opq (YY dp).q)),(8,.d (eSl 1 false zw x0.Rows)),(9,.d (I ((x0.Rows.length : Nat) : Int))),(10,.d (I dg))] [Hq c0,Hh (.cut 0)] ?_ fun J2 av => ?_
  ·rintro lv ae
   unfold vg at ae
   obtain rfl:=z7 ae
   exact yB X0 hC ar (lv,w64 (dg + 1)) hl1 []
  ·obtain ⟨am,h0,ae⟩:=z8 ae
   obtain ⟨t3,ht3,ae⟩:=z8 ae
   refine yL X0 hC vo [1,0,0,1,1,2,0,1,1,0] [J1,J2] (fun s => yS yy dg am s.1 s.2) (fun x => Uf x0 YY dg am x.1 x.2) (dp,0) ht3  [Hi zw h0,Ha (lnM F8_ am)] ?_
   rintro ⟨js,ii⟩ m3 cp ah hl2 J3 bk
   try unfold yS at ah
   rcases zy ah with ⟨c1,ah⟩ | ⟨c1,ah⟩
   ·obtain ⟨ai,h1,ah⟩:=z8 ah
    obtain ⟨yr,h2,ah⟩:=z8 ah
    let Z0 : List HO:=[Hq c1,Hi F8_ h1,Hn (z9J (yv:=yv) (Y:=YY) (enc:=(fun (x : ye Int × z5) (_ : Bool) (_ : Value) => [F0_ x.1,F8_ x.2])) (s:=js) (x:=((ye.mk dg ii),ai)) (s':=yr.1) (b:=yr.2) (v:=.nilFunc) [F0_ (ye.mk dg ii),F8_ ai] (show z4I [F0_ (ye.mk dg ii),F8_ ai] [F0_ (ye.mk dg ii),F8_ ai] from inferInstance))]
    rcases zy ah with ⟨c2,ah⟩ | ⟨c2,ah⟩
    ·obtain rfl:=z7 ah
     obtain rfl:=hl2
     obtain rfl:=z7 ae
     obtain rfl:=hl1
     obtain rfl:=z7 aa
     exact yF ((z5G (P:=Tryz.prog) Ve hy 27 (s:=js) (x:=((ye.mk dg ii),ai)) (s':=yr.1) (b:=yr.2) .nilFunc h2).or X0) hC .ret [(0,.own (.opq (YY yr.1).q))] (Z0 ++ [Hq c2]) fun st0 h0 => hE _ st0 (.inr rfl) h0
    ·obtain rfl:=z7 ah
     exact yB ((z5G (P:=Tryz.prog) Ve hy 27 (s:=js) (x:=((ye.mk dg ii),ai)) (s':=yr.1) (b:=yr.2) .nilFunc h2).or X0) hC bk (yr.1,w64 (ii + 1)) hl2 (Z0 ++ [Hq c2])
   ·obtain rfl:=z7 ah
    obtain rfl:=hl2
    exact yB X0 hC av js ae [Hq c1]
 ·obtain rfl:=z7 ae
  obtain rfl:=hl1
  obtain rfl:=z7 aa
  exact yF X0 hC .normal [(0,.own (.opq (YY dp).q))] [Hq c0] fun st0 h0 => hE _ st0 (.inl rfl) h0
def XX : Code:=(Tryz.f154.body).getD .skip
def wc : yK:=spF (α:=List (ye Int)) (ρ:=List (ye Int)) 154 (fun x => [(eSl 2 false F0_) x]) (fun r => (eSl 2 true F0_) r) (fun x => xC x) [] (VY)
theorem Wh (hC : zr Tryz.prog ctr) : wc.Ok Tryz.prog:=by
 refine zp ?_
 rintro s_ r0 aa
 try unfold xC at aa
 refine yO true [(2,none)] XX 9 Tryz.func154 fun E hE => ?_
 obtain ⟨g0,aa⟩:=gdE aa
 obtain rfl:=z7 aa
 exact yE X0 hC hE [Ha (lnM F0_ s_),Ha (lnM F0_ s_),Hn (slB g0),Hn (slC g0),Hn (zhm F0_ g0),Ha (zjA 2 F0_ s_ 0 ((s_.length : Nat) : Int).toNat)]
def yw : Code:=(Tryz.f139.body).getD .skip
def uh : yK:=spF (α:=z4) (ρ:=List (ye Int)) 139 (fun x => [ze x]) (fun r => (eSl 2 true F0_) r) (fun x => vX x) [] (VY)
abbrev Vb (out : List (ye Int)) : List (Nat × T):=[(3,.own (.box (eOs 2 false F0_ out)))]
abbrev v9 (aj : z4) (ak : List (ye Int)) : List (Nat × T):=[(3,.own (.box (eOs 2 false F0_ ak))),(7,.d (.fn 165 [.sptr (.agg [I aj.Inputs,I aj.Outputs,eSl 1 false zw aj.Rows])]))]
theorem Q5 (hC : zr Tryz.prog ctr) (h0W : ctr.Has ZD) (h0j : ctr.Has qJ) (h0u : ctr.Has wc) : uh.Ok Tryz.prog:=by
 refine zp ?_
 rintro m_ r0 aa
 try unfold vX at aa
 refine yO true [(2,none)] yw 19 Tryz.func139 fun E hE => ?_
 refine yJ X0 hC yw [1,1] [] [3] (fun z : List (ye Int) => wy z = some r0) (fun z => Vb z) [(1,.own (.box (ze m_))),(3,.own (.box (eOs 2 true F0_ [])))] [Hh (.cut 2)] ?_ fun J1 ar => ?_
 ·rintro out aa
  unfold wy at aa
  obtain ⟨r_,h0,aa⟩:=z8 aa
  obtain rfl:=z7 aa
  exact yE X0 hC hE [Hg (z4x h0u),Hm (shM F0_ F0_ out),Hs (z4y h0u (x:=out) h0 (loC (eSl 2 false F0_) out <| loN)),Hm (shM F0_ F0_ out)]
 ·obtain ⟨aj,h1,aa⟩:=z8 aa
  obtain ⟨t2,ht2,aa⟩:=z8 aa
  refine yAt X0 hC (sub [1,1,2,1,0] yw) (frs [1,1,2,1,0] [J1] yw []) [(3,.own (.box (eOs 2 true F0_ []))),(7,.d (.fn 165 [.sptr (.agg [I aj.Inputs,I aj.Outputs,eSl 1 false zw aj.Rows])]))] [Hc h0W (x:=m_) h1 (loC ze m_ <| loN)] fun st0 h0 => ?_
  refine zbq (g:=.tmp 7) (ps:=[8,9]) (assign:=(sub [1,1,2,1,0,0] yw)) (body:=(sub [1,1,2,1,0,1] yw)) (K:=165) (caps:=[.sptr (.agg [I aj.Inputs,I aj.Outputs,eSl 1 false zw aj.Rows])]) (by kernel_rfl) [3,7] (fun s => v9 aj s) (fun z => nomatch z) (fun z => nomatch z) ((fun (x : ye Int × z5) (_ : Bool) (_ : Value) => [F0_ x.1,F8_ x.2])) (F:=@vC aj) (fun s x => zQ s x.1 x.2) ([] : List (ye Int)) t2 _ h0 inferInstance (by kernel_rfl) (by decide) (fun _ => rfl) (by rintro ⟨⟩) (by kernel_rfl) (fun _ _ _ => rfl) (Jz hC aj) ht2 ?_ ?_
  ·rintro n8 ak ⟨x8,x9⟩ vr aw ae
   replace ae : zQ ak x8 x9 = some aw:=ae
   unfold zQ at ae
   refine yF X0 hC .normal [(3,.own (.box (eOs 2 false F0_ ak))),(4,.own (.box (F0_ x8))),(5,.own (.box (F8_ x9))),(7,.d (.fn 165 [.sptr (.agg [I aj.Inputs,I aj.Outputs,eSl 1 false zw aj.Rows])]))] [] fun st0 h0 => ⟨rfl,zdM h0 ?_⟩
   obtain ⟨bc,h2,ae⟩:=z8 ae
   let Z0 : List HO:=[Hc h0j (x:=()) h2 (loN)]
   rcases zy ae with ⟨c0,ae⟩ | ⟨c0,ae⟩
   ·obtain ⟨g0,ae⟩:=gdE ae
    obtain rfl:=z7 ae
    exact yF X0 hC .normal (v9 aj (ak ++ [x8])) (Z0 ++ [Hq c0,Hq (dM F0_ [x8]),Hn (dM F0_ [x8]),Hn (aL F0_ F0_ g0),Hl (aM F0_ ak [x8])]) fun st0 h0 => ⟨rfl,_,h0,LeL.refl _⟩
   ·obtain rfl:=z7 ae
    exact yF X0 hC .normal (v9 aj ak) (Z0 ++ [Hq c0]) fun st0 h0 => ⟨rfl,_,h0,LeL.refl _⟩
  ·rcases t2 with ak | z
   ·dsimp only at aa
    exact JY (by kernel_rfl) (ar _ [(3,.own (.box (eOs 2 false F0_ ak)))] ak aa (show Own.canon [3] _ = ofL _ by kernel_rfl) inferInstance)
   ·cases z
def Qc : Code:=(Tryz.f107.body).getD .skip
def qm : yK:=spF (α:=z4) (ρ:=Bool × Int) 107 (fun x => [ze x]) (fun r => .tup [eB r.1,(eI .i64) r.2]) (fun x => wV x) [] (VY)
theorem Qy (hC : zr Tryz.prog ctr) (h02 : ctr.Has yR) (h0X : ctr.Has uh) : qm.Ok Tryz.prog:=by
 refine zp ?_
 rintro m_ r0 aa
 try unfold wV at aa
 refine yO false [(2,none),(3,none)] Qc 14 Tryz.func107 fun E hE => ?_
 obtain ⟨r_,h0,aa⟩:=z8 aa
 let Z0 : List HO:=[Hc h02 (x:=m_) h0 (loC ze m_ <| loN)]
 rcases zy aa with ⟨c0,aa⟩ | ⟨c0,aa⟩
 ·obtain rfl:=z7 aa
  exact yE X0 hC hE (Z0 ++ [Hq c0])
 ·obtain ⟨aj,h1,aa⟩:=z8 aa
  obtain rfl:=z7 aa
  exact yE X0 hC hE (Z0 ++ [Hq c0,Hc h0X (x:=m_) h1 (loC ze m_ <| loN),Ha (lnM F0_ aj)])
def Qb : Code:=(Tryz.f106.body).getD .skip
def qj : yK:=spF (α:=z4) (ρ:=Bool) 106 (fun x => [z4J x]) (fun r => eB r) (fun x => uR x) [] (VY)
theorem Qx (hC : zr Tryz.prog ctr) (h0Y : ctr.Has qm) : qj.Ok Tryz.prog:=by
 refine zp ?_
 rintro x0 r0 aa
 try unfold uR at aa
 refine yO true [(1,none)] Qb 10 Tryz.func106 fun E hE => ?_
 obtain ⟨r_,h0,aa⟩:=z8 aa
 obtain rfl:=z7 aa
 exact yE X0 hC hE [Hc h0Y (x:=x0) h0 (loC ze x0 <| loN)]
def Zq : Code:=(Tryz.f140.body).getD .skip
abbrev W1 (ij : Value) (ik : Value) (il : Value) (am : List z5) (x1 : List Bool) (fc : Int) (d8 : Int) (gp : List (List z5)) (kn : Int) : List (Nat × T):=[(1,.own (.box (eOs 1 true eB x1))),(2,.own (.box (.agg [I fc,I d8,eSl 1 false zw gp]))),(3,.own (.box (.fn 140 [.atom ij,.atom ik,.atom il]))),(22,.d (eSl 2 false F8_ am)),(23,.d (I ((am.length : Nat) : Int))),(24,.d (I kn))]
theorem Ua (hC : zr Tryz.prog ctr) (ij : Value) (ik : Value) (il : Value) : ∀ (fu : Nat) (s_ : Int) (y0 : List Bool) (y1 : z4) (r0 : List Bool × z4),zK fu s_ y0 y1 = some r0 → xx Tryz.prog (.fn 140 [.atom ij,.atom ik,.atom il]) [I s_] ([ij,ik,il].zip [.box (eOs 1 true eB y0),.box (.agg [I y1.Inputs,I y1.Outputs,eSl 1 false zw y1.Rows]),.box (.fn 140 [.atom ij,.atom ik,.atom il])]) (.tup []) [.box (eOs 1 true eB r0.1),.box (.agg [I r0.2.Inputs,I r0.2.Outputs,eSl 1 false zw r0.2.Rows]),.box (.fn 140 [.atom ij,.atom ik,.atom il])]:=by
 intro fu
 induction fu with
 | zero => intro s_ y0 y1 r0 aa; exact nomatch (show none = some r0 from aa)
 | succ fu ih =>
  intro s_ y0 y1 r0 aa
  replace aa : yQ (zK fu) s_ y0 y1 = some r0:=aa
  generalize zK fu = iy at ih aa
  refine zdd (tt:=Ve) (nt:=33) (body:=Zq) [1,2,3] y4 Tryz.func140 rfl (by kernel_rfl) rfl rfl (by show (4 : Nat) ≤ 33; decide) (by decide) rfl rfl (fun E hE => ?_) rfl
  unfold yQ at aa
  rcases zy aa with ⟨c0,aa⟩ | ⟨c0,aa⟩
  ·obtain rfl:=z7 aa
   exact yF X0 hC .ret [(1,.own (.box (eOs 1 true eB y0))),(2,.own (.box (.agg [I y1.Inputs,I y1.Outputs,eSl 1 false zw y1.Rows]))),(3,.own (.box (.fn 140 [.atom ij,.atom ik,.atom il])))] (rpN 5 (Hq c0) [qT]) fun st0 h0 => hE _ st0 (.inr rfl) (z02 h0 ⟨⟨rfl,rfl⟩,⟨⟨rfl,rfl⟩,⟨⟨rfl,rfl⟩,trivial⟩⟩⟩)
  ·obtain ⟨nr,h0,aa⟩:=z8 aa
   let Z0 : List HO:=[Hq c0,Hq c0,Hq c0,Hn (iL eB h0),Hq c0,Hs (iM eB h0),Hq c0]
   rcases zy aa with ⟨c1,aa⟩ | ⟨c1,aa⟩
   ·obtain rfl:=z7 aa
    exact yF X0 hC .ret [(1,.own (.box (eOs 1 true eB y0))),(2,.own (.box (.agg [I y1.Inputs,I y1.Outputs,eSl 1 false zw y1.Rows]))),(3,.own (.box (.fn 140 [.atom ij,.atom ik,.atom il])))] (Z0 ++ [Hq c1]) fun st0 h0 => hE _ st0 (.inr rfl) (z02 h0 ⟨⟨rfl,rfl⟩,⟨⟨rfl,rfl⟩,⟨⟨rfl,rfl⟩,trivial⟩⟩⟩)
   ·obtain ⟨nu,h1,aa⟩:=z8 aa
    obtain ⟨am,h2,aa⟩:=z8 aa
    obtain ⟨t1,ht1,aa⟩:=z8 aa
    refine yL X0 hC Zq [1,1,1,0] [] (fun s => yb iy am s.1 s.2.1 s.2.2.1 s.2.2.2.1 s.2.2.2.2) (fun x => W1 ij ik il am x.1 x.2.1 x.2.2.1 x.2.2.2.1 x.2.2.2.2) ((y0.set s_.toNat true),y1.Inputs,y1.Outputs,y1.Rows,0) ht1  (Z0 ++ [Hq c1,Hn (iL eB h1),Hs (iM eB h1),Hs (iM eB h1),Hl (sM eB y0 s_ true),Hi zw h2,Ha (lnM F8_ am)]) ?_
    rintro ⟨x1,fc,d8,gp,kn⟩ m1 aw ae hl1 J1 ar
    try unfold yb at ae
    rcases zy ae with ⟨c2,ae⟩ | ⟨c2,ae⟩
    ·obtain ⟨ai,h3,ae⟩:=z8 ae
     obtain ⟨r_,h4,ae⟩:=z8 ae
     obtain rfl:=z7 ae
     exact yB ((z9A (P:=Tryz.prog) Ve [1,2,3] (ih _ _ _ _ h4) 31).or X0) hC ar (r_.1,r_.2.Inputs,r_.2.Outputs,r_.2.Rows,w64 (kn + 1)) hl1 [Hq c2,Hi F8_ h3,Hn (z54 (f:=.fn 140 [.atom ij,.atom ik,.atom il]) (xs:=[(eI .i64) ai.To]) (ls:=[(ij,.box (eOs 1 true eB x1)),(ik,.box (.agg [I fc,I d8,eSl 1 false zw gp])),(il,.box (.fn 140 [.atom ij,.atom ik,.atom il]))]) (r:=.tup []) (ys:=[.box (eOs 1 true eB r_.1),.box (.agg [I r_.2.Inputs,I r_.2.Outputs,eSl 1 false zw r_.2.Rows]),.box (.fn 140 [.atom ij,.atom ik,.atom il])]) [(eI .i64) ai.To] (show z4I [(eI .i64) ai.To] [(eI .i64) ai.To] from inferInstance))]
    ·obtain rfl:=z7 ae
     obtain rfl:=hl1
     obtain rfl:=z7 aa
     exact yF X0 hC .normal [(1,.own (.box (eOs 1 true eB x1))),(2,.own (.box (.agg [I fc,I d8,eSl 1 false zw gp]))),(3,.own (.box (.fn 140 [.atom ij,.atom ik,.atom il])))] [Hq c2] fun st0 h0 => hE _ st0 (.inl rfl) (z02 h0 ⟨⟨rfl,rfl⟩,⟨⟨rfl,rfl⟩,⟨⟨rfl,rfl⟩,trivial⟩⟩⟩)
def wO : Code:=(Tryz.f155.body).getD .skip
def wJ : yK:=spF (α:=List Bool × Bool) (ρ:=Int) 155 (fun x => [(eSl 1 false eB) x.1,eB x.2]) (fun r => (eI .i64) r) (fun x => wb x.1 x.2) [] (Uv)
abbrev X8 : List (Nat × T):=[]
abbrev X7 (s_ : List Bool) (v_ : Bool) (x8 : Int) : List (Nat × T):=[(0,.d (eSl 1 false eB s_)),(1,.d (B v_)),(7,.d (I ((s_.length : Nat) : Int))),(8,.d (I x8))]
theorem WK (hC : zr Tryz.prog ctr) : wJ.Ok Tryz.prog:=by
 refine zp ?_
 rintro ⟨s_,v_⟩ r0 aa
 try unfold wb at aa
 refine yO true [(4,none)] wO 19 Tryz.func155 fun E hE => ?_
 refine yJ X0 hC wO [1] [] [] (fun z : Unit => wL = some r0) (fun z => X8) [(0,.d (eSl 1 false eB s_)),(1,.d (B v_))] [Hh (.cut 1)] ?_ fun J1 ar => ?_
 ·rintro ⟨⟩ aa
  unfold wL at aa
  obtain rfl:=z7 aa
  exact yE X0 hC hE []
 ·obtain ⟨t2,ht2,aa⟩:=z8 aa
  refine yL X0 hC wO [1,2,1,0] [J1] (fun s => zX s_ v_ s) (fun x => X7 s_ v_ x) 0 ht2  [Ha (lnM eB s_)] ?_
  rintro x8 m2 aw ae hl1 J2 av
  try unfold zX at ae
  rcases zy ae with ⟨c0,ae⟩ | ⟨c0,ae⟩
  ·obtain ⟨gt,h0,ae⟩:=z8 ae
   rcases zy ae with ⟨c1,ae⟩ | ⟨c1,ae⟩
   ·obtain rfl:=z7 ae
    obtain rfl:=hl1
    obtain rfl:=z7 aa
    exact yE X0 hC hE [Hq c0,Hi eB h0,Hq c1]
   ·obtain rfl:=z7 ae
    exact yB X0 hC av (w64 (x8 + 1)) hl1 [Hq c0,Hi eB h0,Hq c1]
  ·obtain rfl:=z7 ae
   obtain rfl:=hl1
   exact yB X0 hC ar () aa [Hq c0]
def X6 : Code:=(Tryz.f141.body).getD .skip
def xz : yK:=spF (α:=List Bool × Bool) (ρ:=Bool) 141 (fun x => [(eSl 1 false eB) x.1,eB x.2]) (fun r => eB r) (fun x => yl x.1 x.2) [] (Uv)
theorem Xk (hC : zr Tryz.prog ctr) (h0Z : ctr.Has wJ) : xz.Ok Tryz.prog:=by
 refine zp ?_
 rintro ⟨s_,v_⟩ r0 aa
 try unfold yl at aa
 refine yO true [(4,none)] X6 9 Tryz.func141 fun E hE => ?_
 obtain ⟨r_,h0,aa⟩:=z8 aa
 obtain rfl:=z7 aa
 exact yE X0 hC hE [Hc h0Z (x:=(s_,v_)) h0 (loC (eSl 1 false eB) s_ <| loC eB v_ <| loN)]
def Yk : Code:=(Tryz.f109.body).getD .skip
def ui : yK:=spF (α:=z4) (ρ:=Bool × Int) 109 (fun x => [ze x]) (fun r => .tup [eB r.1,(eI .i64) r.2]) (fun x => wz x) [] (VY)
theorem Q6 (hC : zr Tryz.prog ctr) (h02 : ctr.Has yR) (h0v : ctr.Has xz) : ui.Ok Tryz.prog:=by
 refine zp ?_
 rintro m_ r0 aa
 try unfold wz at aa
 refine yO false [(2,none),(3,none)] Yk 22 Tryz.func109 fun E hE => ?_
 obtain ⟨r_,h0,aa⟩:=z8 aa
 let Z0 : List HO:=[Hc h02 (x:=m_) h0 (loC ze m_ <| loN)]
 rcases zy aa with ⟨c0,aa⟩ | ⟨c0,aa⟩
 ·obtain rfl:=z7 aa
  exact yE X0 hC hE (Z0 ++ [Hq c0])
 ·obtain ⟨g0,aa⟩:=gdE aa
  refine yA X0 hC Yk [1,1,1,1] [] [(1,.own (.box (ze m_))),(5,.own (.box (eOs 1 true eB (List.replicate ((m_.Rows.length : Nat) : Int).toNat false)))),(6,.own (.box (.atom .nilFunc)))] (Z0 ++ [Hq c0,Ha (lnM zw m_.Rows),Hn (rL g0),Ha (rM 1 eB ((m_.Rows.length : Nat) : Int) false),Hh (.cut 1)]) ?_
  refine z6X (by kernel_rfl) 5 fun a7 => ?_
  refine z6X (by kernel_rfl) 1 fun l8 => ?_
  refine z6X (by kernel_rfl) 6 fun l9 => ?_
  obtain ⟨aj,h1,aa⟩:=z8 aa
  obtain ⟨bc,h2,aa⟩:=z8 aa
  obtain rfl:=z7 aa
  exact yE ((z9A (P:=Tryz.prog) Ve [5,1,6] (Ua hC a7 l8 l9 WJ _ _ _ _ h1) 18).or ((xMk Tryz.prog Ve).or X0)) hC hE [Hn (z54 (f:=.fn 140 [.atom a7,.atom l8,.atom l9]) (xs:=[(eI .i64) 0]) (ls:=[(a7,.box (eOs 1 true eB (List.replicate ((m_.Rows.length : Nat) : Int).toNat false))),(l8,.box (.agg [I m_.Inputs,I m_.Outputs,eSl 1 false zw m_.Rows])),(l9,.box (.fn 140 [.atom a7,.atom l8,.atom l9]))]) (r:=.tup []) (ys:=[.box (eOs 1 true eB aj.1),.box (.agg [I aj.2.Inputs,I aj.2.Outputs,eSl 1 false zw aj.2.Rows]),.box (.fn 140 [.atom a7,.atom l8,.atom l9])]) [(eI .i64) 0] (show z4I [(eI .i64) 0] [(eI .i64) 0] from inferInstance)),Hg (z4x h0v),Hm (shM eB eB aj.1),Hs (z4y h0v (x:=(aj.1,false)) h2 (loC (eSl 1 true eB) aj.1 <| loC eB false <| loN))]
def Qa : Code:=(Tryz.f108.body).getD .skip
def qh : yK:=spF (α:=z4) (ρ:=Bool) 108 (fun x => [z4J x]) (fun r => eB r) (fun x => uQ x) [] (VY)
theorem Qw (hC : zr Tryz.prog ctr) (h1a : ctr.Has ui) : qh.Ok Tryz.prog:=by
 refine zp ?_
 rintro x0 r0 aa
 try unfold uQ at aa
 refine yO true [(1,none)] Qa 10 Tryz.func108 fun E hE => ?_
 obtain ⟨r_,h0,aa⟩:=z8 aa
 obtain rfl:=z7 aa
 exact yE X0 hC hE [Hc h1a (x:=x0) h0 (loC ze x0 <| loN)]
def z0e : Code:=(Tryz.f142.body).getD .skip
def ZC : yK:=spF (α:=z4) (ρ:=z4) 142 (fun x => [ze x]) (fun r => (z3L 156 z4J) r) (fun x => ZQ x) [] (VY)
theorem z1b (hC : zr Tryz.prog ctr) : ZC.Ok Tryz.prog:=by
 refine zp ?_
 rintro m_ r0 aa
 try unfold ZQ at aa
 refine yO true [(2,none)] z0e 4 Tryz.func142 fun E hE => ?_
 obtain rfl:=z7 aa
 exact yE X0 hC hE []
def Zn : Code:=(Tryz.f166.body).getD .skip
def Xo : yK:=spF (α:=z4 × List Int × Int) (ρ:=yj (ye Int)) 166 (fun x => [ze x.1,F6_ x.2.1,(eI .i64) x.2.2]) (fun r => F7_ r) (fun x => ul x.1 x.2.1 x.2.2) [] (z72)
abbrev K2 (out : yj (ye Int)) : List (Nat × T):=[(6,.own (.box (.agg [.agg [I 0,I 0],.agg [I 0,I 0],.agg [I 0,I 0],.agg [I 0,I 0],.agg [I 0,I 0],.agg [I 0,I 0],.agg [I 0,I 0],.agg [I 0,I 0],.agg [I 0,I 0],.agg [I 0,I 0],.agg [I 0,I 0],.agg [I 0,I 0],.agg [I 0,I 0],.agg [I 0,I 0],.agg [I 0,I 0],.agg [I 0,I 0]]))),(7,.own (.box (F7_ out)))]
abbrev K1 (p_ : List Int) (am : List z5) (eb : Int) (bm : yj (ye Int)) : List (Nat × T):=[(1,.d (eSl 1 false (eI .i64) p_)),(6,.own (.box (.agg [.agg [I 0,I 0],.agg [I 0,I 0],.agg [I 0,I 0],.agg [I 0,I 0],.agg [I 0,I 0],.agg [I 0,I 0],.agg [I 0,I 0],.agg [I 0,I 0],.agg [I 0,I 0],.agg [I 0,I 0],.agg [I 0,I 0],.agg [I 0,I 0],.agg [I 0,I 0],.agg [I 0,I 0],.agg [I 0,I 0],.agg [I 0,I 0]]))),(7,.own (.box (F7_ bm))),(14,.d (eSl 2 false F8_ am)),(15,.d (I ((am.length : Nat) : Int))),(16,.d (I eb))]
abbrev K0 (p_ : List Int) (am : List z5) (ak : yj (ye Int)) (eb : Int) : List (Nat × T):=[(1,.d (eSl 1 false (eI .i64) p_)),(6,.own (.box (.agg [.agg [I 0,I 0],.agg [I 0,I 0],.agg [I 0,I 0],.agg [I 0,I 0],.agg [I 0,I 0],.agg [I 0,I 0],.agg [I 0,I 0],.agg [I 0,I 0],.agg [I 0,I 0],.agg [I 0,I 0],.agg [I 0,I 0],.agg [I 0,I 0],.agg [I 0,I 0],.agg [I 0,I 0],.agg [I 0,I 0],.agg [I 0,I 0]]))),(7,.own (.box (F7_ ak))),(14,.d (eSl 2 false F8_ am)),(15,.d (I ((am.length : Nat) : Int))),(16,.d (I eb))]
theorem z3N (hC : zr Tryz.prog ctr) : Xo.Ok Tryz.prog:=by
 refine zp ?_
 rintro ⟨m_,p_,s_⟩ r0 aa
 try unfold ul at aa
 refine yO false [(6,some 231)] Zn 39 Tryz.func166 fun E hE => ?_
 refine yJ X0 hC Zn [1,1] [] [6,7] (fun z : yj (ye Int) => jX z = some r0) (fun z => K2 z) [(1,.d (eSl 1 false (eI .i64) p_)),(2,.d (I s_)),(3,.own (.box (ze m_))),(6,.own (.box (.agg [.agg [I 0,I 0],.agg [I 0,I 0],.agg [I 0,I 0],.agg [I 0,I 0],.agg [I 0,I 0],.agg [I 0,I 0],.agg [I 0,I 0],.agg [I 0,I 0],.agg [I 0,I 0],.agg [I 0,I 0],.agg [I 0,I 0],.agg [I 0,I 0],.agg [I 0,I 0],.agg [I 0,I 0],.agg [I 0,I 0],.agg [I 0,I 0]]))),(7,.own (.box (.agg [.agg [I 0,I 0],.agg [I 0,I 0],.agg [I 0,I 0],.agg [I 0,I 0],.agg [I 0,I 0],.agg [I 0,I 0],.agg [I 0,I 0],.agg [I 0,I 0],.agg [I 0,I 0],.agg [I 0,I 0],.agg [I 0,I 0],.agg [I 0,I 0],.agg [I 0,I 0],.agg [I 0,I 0],.agg [I 0,I 0],.agg [I 0,I 0]])))] [Hh (.cut 2)] ?_ fun J1 ar => ?_
 ·rintro out aa
  unfold jX at aa
  obtain rfl:=z7 aa
  exact yE X0 hC hE []
 ·obtain ⟨am,h0,aa⟩:=z8 aa
  obtain ⟨t2,ht2,aa⟩:=z8 aa
  refine yL X0 hC Zn [1,1,2,1,0] [J1] (fun s => uj p_ am s.1 s.2) (fun x => K0 p_ am x.1 x.2) ((yj.mk (ye.mk 0 0) (ye.mk 0 0) (ye.mk 0 0) (ye.mk 0 0) (ye.mk 0 0) (ye.mk 0 0) (ye.mk 0 0) (ye.mk 0 0) (ye.mk 0 0) (ye.mk 0 0) (ye.mk 0 0) (ye.mk 0 0) (ye.mk 0 0) (ye.mk 0 0) (ye.mk 0 0) (ye.mk 0 0)),0) ht2  [Hi zw h0,Ha (lnM F8_ am)] ?_
  rintro ⟨ak,eb⟩ m2 aw ae hl1 J2 av
  try unfold uj at ae
  rcases zy ae with ⟨c0,ae⟩ | ⟨c0,ae⟩
  ·refine yJ X0 hC Zn [1,1,2,1,0,0,1,1] [J1,J2] [1,6,7,14,15,16] (fun z : yj (ye Int) => uk eb z = some aw) (fun z => K1 p_ am eb z) [(1,.d (eSl 1 false (eI .i64) p_)),(6,.own (.box (.agg [.agg [I 0,I 0],.agg [I 0,I 0],.agg [I 0,I 0],.agg [I 0,I 0],.agg [I 0,I 0],.agg [I 0,I 0],.agg [I 0,I 0],.agg [I 0,I 0],.agg [I 0,I 0],.agg [I 0,I 0],.agg [I 0,I 0],.agg [I 0,I 0],.agg [I 0,I 0],.agg [I 0,I 0],.agg [I 0,I 0],.agg [I 0,I 0]]))),(7,.own (.box (F7_ ak))),(14,.d (eSl 2 false F8_ am)),(15,.d (I ((am.length : Nat) : Int))),(16,.d (I eb))] [Hq c0,Hh (.cut 0)] ?_ fun J3 bk => ?_
   ·rintro bm ae
    unfold uk at ae
    obtain rfl:=z7 ae
    exact yB X0 hC av (bm,w64 (eb + 1)) hl1 []
   ·obtain ⟨ai,h1,ae⟩:=z8 ae
    obtain ⟨cell,h2,ae⟩:=z8 ae
    obtain ⟨arr,h3,ae⟩:=z8 ae
    replace h3:=z7 h3
    let Z0 : List HO:=[Hi F8_ h1,Hn (⟨arJ (by kernel_rfl) (i0 h2),(iL F0_ h2).2⟩ : z1n Ve 231 ((yj.toL ak).map F0_) eb = true ∧ eb.toNat < ((yj.toL ak).map F0_).length),Hh (.op 9),Hh (.f),Hs (iM F0_ h2),Hh (.f),Hs (iM F0_ h2),Hx (.l ((yj.toL arr).map F0_)) ((yj.setL F0_ ak eb (ye.mk ai.Out (-1))).trans (congrArg (fun q => (yj.toL q).map F0_) h3))]
    rcases zy ae with ⟨c1,ae⟩ | ⟨c1,ae⟩
    ·obtain ⟨cg,h4,ae⟩:=z8 ae
     obtain ⟨fw,h5,ae⟩:=z8 ae
     obtain ⟨arr1,h6,ae⟩:=z8 ae
     replace h6:=z7 h6
     exact yB X0 hC bk arr1 ae (Z0 ++ [Hq c1,Hi (eI .i64) h4,Hn (⟨arJ (by kernel_rfl) (i0 h5),(iL F0_ h5).2⟩ : z1n Ve 231 ((yj.toL arr).map F0_) eb = true ∧ eb.toNat < ((yj.toL arr).map F0_).length),Hh (.op 2),Hh (.f),Hs (iM F0_ h5),Hn (⟨rfl,by decide⟩ : true = true ∧ 1 < 2),Hh (.op 0),Hh (.f),Hs (iM F0_ h5),Hh (.f),Hx (.a (I fw.e1)) (rfl : some (I fw.e1 : A) = some (I fw.e1)),Hh (.f),Hs (iM F0_ h5),Hh (.f),Hx (.a (I fw.e1)) (rfl : some (I fw.e1 : A) = some (I fw.e1)),Hx (.l [I fw.e0,I cg]) (rfl : [I fw.e0,I cg] = [I fw.e0,I cg]),Hx (.l ((yj.toL arr1).map F0_)) ((yj.setL F0_ arr eb (ye.mk fw.e0 cg)).trans (congrArg (fun q => (yj.toL q).map F0_) h6))])
    ·exact yB X0 hC bk arr ae (Z0 ++ [Hq c1])
  ·obtain rfl:=z7 ae
   obtain rfl:=hl1
   exact yB X0 hC ar ak aa [Hq c0]
def vZ : Code:=(Tryz.f157.body).getD .skip
def vQ : yK:=spF (α:=z4 × List Int) (ρ:=List Int) 157 (fun x => [ze x.1,F6_ x.2]) (fun r => F3_ r) (fun x => um x.1 x.2) [] (Uv)
abbrev UF (out : List Int) : List (Nat × T):=[(6,.own (eOs 1 true (eI .i64) out))]
abbrev UE (m_ : z4) (p_ : List Int) (ak : List Int) (cj : Int) (cg : Int) (r_ : yj (ye Int)) (ee : List (zn × Int)) : List (Nat × T):=[(1,.d (eSl 1 false (eI .i64) p_)),(2,.own (.box (ze m_))),(5,.own (.opq (z10 (Vd KK (eI .i64) ee)))),(6,.own (eOs 1 true (eI .i64) ak)),(7,.d (I cj)),(9,.own (.box (.agg [I cg,F7_ r_]))),(16,.d (eSl 1 false (eI .i64) p_)),(17,.d (I ((p_.length : Nat) : Int))),(18,.d (I cj))]
abbrev UD (m_ : z4) (p_ : List Int) (names : List (zn × Int)) (ak : List Int) (cj : Int) : List (Nat × T):=[(1,.d (eSl 1 false (eI .i64) p_)),(2,.own (.box (ze m_))),(5,.own (.opq (z10 (Vd KK (eI .i64) names)))),(6,.own (eOs 1 true (eI .i64) ak)),(16,.d (eSl 1 false (eI .i64) p_)),(17,.d (I ((p_.length : Nat) : Int))),(18,.d (I cj))]
theorem KN (hC : zr Tryz.prog ctr) (h1b : ctr.Has Xo) : vQ.Ok Tryz.prog:=by
 refine zp ?_
 rintro ⟨m_,p_⟩ r0 aa
 try unfold um at aa
 refine yO true [(4,none)] vZ 49 Tryz.func157 fun E hE => ?_
 obtain ⟨g0,aa⟩:=gdE aa
 refine yJ ((zir Tryz.prog 12).or X0) hC vZ [1,1,1] [] [6] (fun z : List Int => vS z = some r0) (fun z => UF z) [(1,.d (eSl 1 false (eI .i64) p_)),(2,.own (.box (ze m_))),(5,.own (.opq (z10 (Vd KK (eI .i64) ([] : List (zn × Int)))))),(6,.own (eOs 1 true (eI .i64) (List.replicate ((p_.length : Nat) : Int).toNat (0 : Int))))] [Ha (lnM (eI .i64) p_),Hn (rL g0),Ha (rM 1 (eI .i64) ((p_.length : Nat) : Int) (0 : Int)),Hh (.cut 0)] ?_ fun J1 ar => ?_
 ·rintro out aa
  unfold vS at aa
  obtain rfl:=z7 aa
  exact yE X0 hC hE []
 ·obtain ⟨t2,ht2,aa⟩:=z8 aa
  refine yL X0 hC vZ [1,1,1,2,1,0] [J1] (fun s => wr m_ p_ s.1 s.2.1 s.2.2) (fun x => UD m_ p_ x.1 x.2.1 x.2.2) (([] : List (zn × Int)),(List.replicate ((p_.length : Nat) : Int).toNat (0 : Int)),0) ht2  [Ha (lnM (eI .i64) p_)] ?_
  rintro ⟨names,ak,cj⟩ m2 aw ae hl1 J2 av
  try unfold wr at ae
  rcases zy ae with ⟨c0,ae⟩ | ⟨c0,ae⟩
  ·obtain ⟨cg,h0,ae⟩:=z8 ae
   obtain ⟨r_,h1,ae⟩:=z8 ae
   refine yJ X0 hC vZ [1,1,1,2,1,0,0,1,1,0,0,1,1] [J1,J2] [1,2,5,6,7,9,16,17,18] (fun z : List (zn × Int) => xj ak cj cg r_ z = some aw) (fun z => UE m_ p_ ak cj cg r_ z) [(1,.d (eSl 1 false (eI .i64) p_)),(2,.own (.box (ze m_))),(5,.own (.opq (z10 (Vd KK (eI .i64) names)))),(6,.own (eOs 1 true (eI .i64) ak)),(7,.d (I cj)),(9,.own (.box (.agg [I cg,F7_ r_]))),(16,.d (eSl 1 false (eI .i64) p_)),(17,.d (I ((p_.length : Nat) : Int))),(18,.d (I cj))] [Hq c0,Hi (eI .i64) h0,Hc h1b (x:=(m_,p_,cj)) h1 (loC ze m_ <| loC F6_ p_ <| loC (eI .i64) cj <| loN),Hh (.cut 0)] ?_ fun J3 bk => ?_
   ·rintro ee ae
    unfold xj at ae
    obtain ⟨val,h2,ae⟩:=z8 ae
    replace h2:=z7 h2
    obtain ⟨eu,h3,ae⟩:=z8 ae
    obtain rfl:=z7 ae
    exact yB ((zey z6t 45 (Vd KK (eI .i64) ee)).or X0) hC av (ee,(ak.set cj.toNat val),w64 (cj + 1)) hl1 [Hn (⟨rfl,rfl,zb2 (fun _ => rfl) ee⟩ : A.opq (z10 (Vd KK (eI .i64) ee)) = A.opq (z10 (Vd KK (eI .i64) ee)) ∧ (z33 [.i64,.i64,.i64,.i64,.i64,.i64,.i64,.i64,.i64,.i64,.i64,.i64,.i64,.i64,.i64,.i64,.i64,.i64,.i64,.i64,.i64,.i64,.i64,.i64,.i64,.i64,.i64,.i64,.i64,.i64,.i64,.i64,.i64]) (KK (zn.mk cg r_)) = true ∧ ∀ p ∈ Vd KK (eI .i64) ee,(z33 [.i64,.i64,.i64,.i64,.i64,.i64,.i64,.i64,.i64,.i64,.i64,.i64,.i64,.i64,.i64,.i64,.i64,.i64,.i64,.i64,.i64,.i64,.i64,.i64,.i64,.i64,.i64,.i64,.i64,.i64,.i64,.i64,.i64]) p.1 = true),Hx (.a ((eI .i64) val)) ((zkz (f:=KK) (g:=(eI .i64)) (z0:=0) (z:=.atom (.int .i64 0)) rfl (zn.mk cg r_) ee).trans (congrArg (eI .i64) h2)),Hn (iL (eI .i64) h3),Hs (iM (eI .i64) h3),Hs (iM (eI .i64) h3),Hl (sM (eI .i64) ak cj val)]
   ·obtain ⟨mw,h4,ae⟩:=z8 ae
    replace h4:=z7 h4
    let Z0 : List HO:=[Hn (⟨rfl,rfl,zb2 (fun _ => rfl) names⟩ : A.opq (z10 (Vd KK (eI .i64) names)) = A.opq (z10 (Vd KK (eI .i64) names)) ∧ (z33 [.i64,.i64,.i64,.i64,.i64,.i64,.i64,.i64,.i64,.i64,.i64,.i64,.i64,.i64,.i64,.i64,.i64,.i64,.i64,.i64,.i64,.i64,.i64,.i64,.i64,.i64,.i64,.i64,.i64,.i64,.i64,.i64,.i64]) (KK (zn.mk cg r_)) = true ∧ ∀ p ∈ Vd KK (eI .i64) names,(z33 [.i64,.i64,.i64,.i64,.i64,.i64,.i64,.i64,.i64,.i64,.i64,.i64,.i64,.i64,.i64,.i64,.i64,.i64,.i64,.i64,.i64,.i64,.i64,.i64,.i64,.i64,.i64,.i64,.i64,.i64,.i64,.i64,.i64]) p.1 = true),Hx (.a (.tup [I mw,B ((z0Z names (zn.mk cg r_)).isSome)])) ((zky (f:=KK) (g:=(eI .i64)) (z0:=0) (z:=.atom (.int .i64 0)) rfl (zn.mk cg r_) names).trans (congrArg (fun x => A.tup [(eI .i64) x,.atom (.bool (z0Z names (zn.mk cg r_)).isSome)]) h4))]
    rcases zy ae with ⟨c1,ae⟩ | ⟨c1,ae⟩
    ·exact yB ((zkb z6t 37 (Vd KK (eI .i64) names) (Vd KK (eI .i64) (z9i names (zn.mk cg r_) ((names.length : Nat) : Int)))).or ((zis z6t 40 (Vd KK (eI .i64) names)).or ((zey z6t 32 (Vd KK (eI .i64) names)).or X0))) hC bk (z9i names (zn.mk cg r_) ((names.length : Nat) : Int)) ae (Z0 ++ [Hq c1,Hn (rfl : A.opq (z10 (Vd KK (eI .i64) names)) = A.opq (z10 (Vd KK (eI .i64) names))),Hx (aLn names.length) (zg2 KK (eI .i64) names),Hn (⟨rfl,rfl,rfl,rfl,zb2 (fun _ => rfl) names⟩ : T.own (.opq (z10 (Vd KK (eI .i64) names))) = T.own (.opq (z10 (Vd KK (eI .i64) names))) ∧ 0 = 0 ∧ (z33 [.i64,.i64,.i64,.i64,.i64,.i64,.i64,.i64,.i64,.i64,.i64,.i64,.i64,.i64,.i64,.i64,.i64,.i64,.i64,.i64,.i64,.i64,.i64,.i64,.i64,.i64,.i64,.i64,.i64,.i64,.i64,.i64,.i64]) (KK (zn.mk cg r_)) = true ∧ ((eI .i64) ((names.length : Nat) : Int)).isD = true ∧ ∀ p ∈ Vd KK (eI .i64) names,(z33 [.i64,.i64,.i64,.i64,.i64,.i64,.i64,.i64,.i64,.i64,.i64,.i64,.i64,.i64,.i64,.i64,.i64,.i64,.i64,.i64,.i64,.i64,.i64,.i64,.i64,.i64,.i64,.i64,.i64,.i64,.i64,.i64,.i64]) p.1 = true),Hn (zfy (f:=KK) (g:=(eI .i64)) (zn.mk cg r_) ((names.length : Nat) : Int) names)])
    ·exact yB ((zey z6t 32 (Vd KK (eI .i64) names)).or X0) hC bk names ae (Z0 ++ [Hq c1])
  ·obtain rfl:=z7 ae
   obtain rfl:=hl1
   exact yB X0 hC ar ak aa [Hq c0]
def vj : Code:=(Tryz.f158.body).getD .skip
def xy : yK:=spF (α:=List Int × List Int) (ρ:=Bool) 158 (fun x => [F6_ x.1,F6_ x.2]) (fun r => eB r) (fun x => xu x.1 x.2) [] (Uv)
abbrev W0 : List (Nat × T):=[]
abbrev XZ (s1 : List Int) (s2 : List Int) (gf : Int) : List (Nat × T):=[(0,.d (eSl 1 false (eI .i64) s1)),(1,.d (eSl 1 false (eI .i64) s2)),(12,.d (I ((s1.length : Nat) : Int))),(13,.d (I gf))]
theorem U0 (hC : zr Tryz.prog ctr) : xy.Ok Tryz.prog:=by
 refine zp ?_
 rintro ⟨s1,s2⟩ r0 aa
 try unfold xu at aa
 refine yO true [(4,none)] vj 26 Tryz.func158 fun E hE => ?_
 let Z0 : List HO:=[Ha (lnM (eI .i64) s1),Ha (lnM (eI .i64) s2)]
 rcases zy aa with ⟨c0,aa⟩ | ⟨c0,aa⟩
 ·obtain rfl:=z7 aa
  exact yE X0 hC hE (Z0 ++ [Hq c0])
 ·refine yJ X0 hC vj [1,1] [] [] (fun z : Unit => xA = some r0) (fun z => W0) [(0,.d (eSl 1 false (eI .i64) s1)),(1,.d (eSl 1 false (eI .i64) s2))] (Z0 ++ [Hq c0,Hh (.cut 0)]) ?_ fun J1 ar => ?_
  ·rintro ⟨⟩ aa
   unfold xA at aa
   obtain rfl:=z7 aa
   exact yE X0 hC hE []
  ·obtain ⟨t2,ht2,aa⟩:=z8 aa
   refine yL X0 hC vj [1,1,2,1,0] [J1] (fun s => ya s1 s2 s) (fun x => XZ s1 s2 x) 0 ht2  [Ha (lnM (eI .i64) s1)] ?_
   rintro gf m2 aw ae hl1 J2 av
   try unfold ya at ae
   rcases zy ae with ⟨c1,ae⟩ | ⟨c1,ae⟩
   ·obtain ⟨ko,h0,ae⟩:=z8 ae
    obtain ⟨jg,h1,ae⟩:=z8 ae
    let Z1 : List HO:=[Hq c1,Hi (eI .i64) h0,Hi (eI .i64) h1]
    rcases zy ae with ⟨c2,ae⟩ | ⟨c2,ae⟩
    ·obtain rfl:=z7 ae
     obtain rfl:=hl1
     obtain rfl:=z7 aa
     exact yE X0 hC hE (Z1 ++ [Hq c2])
    ·obtain rfl:=z7 ae
     exact yB X0 hC av (w64 (gf + 1)) hl1 (Z1 ++ [Hq c2])
   ·obtain rfl:=z7 ae
    obtain rfl:=hl1
    exact yB X0 hC ar () aa [Hq c1]
def XO : Code:=(Tryz.f156.body).getD .skip
abbrev Ud (x0 : z4) (YY : σ → Qt) (dp : σ) (p_ : List Int) : List (Nat × T):=[(0,.own (.opq (YY dp).q)),(1,.d (.sptr (ze x0))),(3,.own (eOs 1 true (eI .i64) p_))]
theorem Jx (hC : zr Tryz.prog ctr) (h0k : ctr.Has vQ) (h0d : ctr.Has xy) (x0 : z4) : zdZ Tryz.prog (.fn 156 [.sptr (.agg [I x0.Inputs,I x0.Outputs,eSl 1 false zw x0.Rows])]) (fun (x : List Int) (_ : Bool) (_ : Value) => [F6_ x]) (@vq x0):=by
 refine zaN (tt:=Ve) (nt:=19) (body:=XO) y4 Tryz.func156 rfl (by kernel_rfl) rfl rfl (by show (2 : Nat) ≤ 19; decide) ?_
 intro σ yv YY yy hy sg r0 aa E hE
 unfold vq at aa
 obtain ⟨g0,aa⟩:=gdE aa
 obtain ⟨t1,ht1,aa⟩:=z8 aa
 refine yL X0 hC XO [1,0] [] (fun s => xR x0 yy s.1 s.2) (fun x => Ud x0 YY x.1 x.2) (sg,(List.replicate ((x0.Rows.length : Nat) : Int).toNat (0 : Int))) ht1  [Ha (lnM zw x0.Rows),Hn (rL g0),Ha (rM 1 (eI .i64) ((x0.Rows.length : Nat) : Int) (0 : Int))] ?_
 rintro ⟨dp,p_⟩ m1 aw ae hl1 J1 ar
 try unfold xR at ae
 obtain ⟨yr,h0,ae⟩:=z8 ae
 let Z0 : List HO:=[Hm (shM (eI .i64) (eI .i64) p_),Hn (z9J (yv:=yv) (Y:=YY) (enc:=(fun (x : List Int) (_ : Bool) (_ : Value) => [F6_ x])) (s:=dp) (x:=p_) (s':=yr.1) (b:=yr.2) (v:=.nilFunc) [F2_ p_] (show z4I [F2_ p_] [F6_ p_] from inferInstance))]
 rcases zy ae with ⟨c0,ae⟩ | ⟨c0,ae⟩
 ·obtain ⟨r_,h1,ae⟩:=z8 ae
  obtain ⟨aj,h2,ae⟩:=z8 ae
  let Z1 : List HO:=(Z0 ++ [Hq c0,Hc h0k (x:=(x0,p_)) h1 (loC ze x0 <| loC F2_ p_ <| loN),Hg (z4x h0d),Hm (shM (eI .i64) (eI .i64) r_),Hs (z4y h0d (x:=(p_,r_)) h2 (loC F2_ p_ <| loC F2_ r_ <| loN))])
  rcases zy ae with ⟨c1,ae⟩ | ⟨c1,ae⟩
  ·obtain rfl:=z7 ae
   obtain rfl:=hl1
   obtain rfl:=z7 aa
   exact yF ((z5G (P:=Tryz.prog) Ve hy 11 (s:=dp) (x:=p_) (s':=yr.1) (b:=yr.2) .nilFunc h0).or X0) hC .ret [(0,.own (.opq (YY yr.1).q))] (Z1 ++ [Hq c1]) fun st0 h0 => hE _ st0 (.inr rfl) h0
  ·obtain rfl:=z7 ae
   exact yB ((z5G (P:=Tryz.prog) Ve hy 11 (s:=dp) (x:=p_) (s':=yr.1) (b:=yr.2) .nilFunc h0).or X0) hC ar (yr.1,r_) hl1 (Z1 ++ [Hq c1])
 ·obtain rfl:=z7 ae
  obtain rfl:=hl1
  obtain rfl:=z7 aa
  exact yF ((z5G (P:=Tryz.prog) Ve hy 11 (s:=dp) (x:=p_) (s':=yr.1) (b:=yr.2) .nilFunc h0).or X0) hC .normal [(0,.own (.opq (YY yr.1).q))] (Z0 ++ [Hq c0]) fun st0 h0 => hE _ st0 (.inl rfl) h0
def xm : Code:=(Tryz.f111.body).getD .skip
def jN : yK:=spF (α:=z4) (ρ:=List Int × Int × Int) 111 (fun x => [ze x]) (fun r => .tup [F6_ r.1,(eI .i64) r.2.1,(eI .i64) r.2.2]) (fun x => uo x) [] (VY)
abbrev UG (p_ : List Int) (n_ : Int) : List (Nat × T):=[(2,.own (.box (eSl 1 false (eI .i64) p_))),(3,.own (.box (I n_)))]
abbrev Yo (aj : z4) (je : List Int) (ba : Int) : List (Nat × T):=[(2,.own (.box (eSl 1 false (eI .i64) je))),(3,.own (.box (I ba))),(13,.d (.fn 156 [.sptr (.agg [I aj.Inputs,I aj.Outputs,eSl 1 false zw aj.Rows])]))]
theorem KO (hC : zr Tryz.prog ctr) (h02 : ctr.Has yR) (h1c : ctr.Has ZC) (h0k : ctr.Has vQ) (h0d : ctr.Has xy) : jN.Ok Tryz.prog:=by
 refine zp ?_
 rintro m_ r0 aa
 try unfold uo at aa
 refine yO false [(2,some 57),(3,some 3),(4,none)] xm 20 Tryz.func111 fun E hE => ?_
 obtain ⟨r_,h0,aa⟩:=z8 aa
 let Z0 : List HO:=[Hh (.v 2 [2]),Hm (shM (eI .i64) (eI .i64) []),Hc h02 (x:=m_) h0 (loC ze m_ <| loN)]
 rcases zy aa with ⟨c0,aa⟩ | ⟨c0,aa⟩
 ·obtain rfl:=z7 aa
  exact yEx X0 hC hE (Z0 ++ [Hq c0,Hm (shM (eI .i64) (eI .i64) [])]) (.tup [eSl 1 true (eI .i64) [],I 0,I r_]) (show LeV (.tup [eSl 1 true (eI .i64) [],I 0,I r_]) (.tup [eSl 1 false (eI .i64) ([] : List Int),I 0,I r_]) from inferInstance)
 ·refine yJ X0 hC xm [1,1,1] [] [2,3] (fun z : List Int × Int => vT z.1 z.2 = some r0) (fun z => UG z.1 z.2) [(1,.own (.box (ze m_))),(2,.own (.box (eSl 1 true (eI .i64) []))),(3,.own (.box (I (-1))))] (Z0 ++ [Hq c0,Hh (.cut 1)]) ?_ fun J1 ar => ?_
  ·rintro ⟨p_,n_⟩ aa
   unfold vT at aa
   obtain rfl:=z7 aa
   exact yE X0 hC hE []
  ·obtain ⟨aj,h1,aa⟩:=z8 aa
   obtain ⟨t2,ht2,aa⟩:=z8 aa
   refine yAt X0 hC (sub [1,1,1,2,1,0] xm) (frs [1,1,1,2,1,0] [J1] xm []) [(2,.own (.box (eSl 1 true (eI .i64) []))),(3,.own (.box (I (-1)))),(13,.d (.fn 156 [.sptr (.agg [I aj.Inputs,I aj.Outputs,eSl 1 false zw aj.Rows])]))] [Hc h1c (x:=m_) h1 (loC ze m_ <| loN)] fun st0 h0 => ?_
   refine zbq (g:=.tmp 13) (ps:=[14]) (assign:=(sub [1,1,1,2,1,0,0] xm)) (body:=(sub [1,1,1,2,1,0,1] xm)) (K:=156) (caps:=[.sptr (.agg [I aj.Inputs,I aj.Outputs,eSl 1 false zw aj.Rows])]) (by kernel_rfl) [2,3,13] (fun s => Yo aj s.1 s.2) (fun z => nomatch z) (fun z => nomatch z) ((fun (x : List Int) (_ : Bool) (_ : Value) => [F6_ x])) (F:=@vq aj) (fun s x => xk s.1 s.2 x) (([] : List Int),(-1)) t2 _ h0 inferInstance (by kernel_rfl) (by decide) (fun _ => rfl) (by rintro ⟨⟩) (by kernel_rfl) (fun _ _ _ => rfl) (Jx hC h0k h0d aj) ht2 ?_ ?_
   ·rintro n8 ⟨je,ba⟩ gu vr aw ae
    replace ae : xk je ba gu = some aw:=ae
    unfold xk at ae
    refine yF X0 hC .normal [(2,.own (.box (eSl 1 false (eI .i64) je))),(3,.own (.box (I ba))),(6,.d (eSl 1 false (eI .i64) gu)),(13,.d (.fn 156 [.sptr (.agg [I aj.Inputs,I aj.Outputs,eSl 1 false zw aj.Rows])]))] [] fun st0 h0 => ⟨rfl,zdM h0 ?_⟩
    obtain rfl:=z7 ae
    exact yF X0 hC .normal (Yo aj gu (w64 (ba + 1))) [] fun st0 h0 => ⟨rfl,_,h0,LeL.refl _⟩
   ·rcases t2 with ⟨je,ba⟩ | z
    ·dsimp only at aa
     exact JY (by kernel_rfl) (ar _ [(2,.own (.box (eSl 1 false (eI .i64) je))),(3,.own (.box (I ba)))] (je,ba) aa (show Own.canon [2,3] _ = ofL _ by kernel_rfl) inferInstance)
    ·cases z
def uG : Code:=(Tryz.f112.body).getD .skip
def uf : yK:=spF (α:=List Int) (ρ:=Int) 112 (fun x => [F6_ x]) (fun r => (eI .i64) r) (fun x => wp x) [] (VY)
abbrev Va (m_ : Int) : List (Nat × T):=[(3,.d (I m_))]
abbrev V9 (x_ : List Int) (kp : Int) (i_ : Int) : List (Nat × T):=[(0,.d (eSl 1 false (eI .i64) x_)),(3,.d (I kp)),(4,.d (I i_))]
theorem Q4 (hC : zr Tryz.prog ctr) : uf.Ok Tryz.prog:=by
 refine zp ?_
 rintro x_ r0 aa
 try unfold wp at aa
 refine yO true [(2,none)] uG 25 Tryz.func112 fun E hE => ?_
 rcases zy aa with ⟨c0,aa⟩ | ⟨c0,aa⟩
 ·cases aa
 ·obtain ⟨lf,h0,aa⟩:=z8 aa
  refine yJ X0 hC uG [1,1,1] [] [3] (fun z : Int => wo z = some r0) (fun z => Va z) [(0,.d (eSl 1 false (eI .i64) x_)),(3,.d (I lf))] [Ha (lnM (eI .i64) x_),Hq c0,Hi (eI .i64) h0,Hh (.cut 0)] ?_ fun J1 ar => ?_
  ·rintro m_ aa
   unfold wo at aa
   obtain rfl:=z7 aa
   exact yE X0 hC hE []
  ·obtain ⟨t2,ht2,aa⟩:=z8 aa
   refine yL X0 hC uG [1,1,1,2,1,0] [J1] (fun s => xa x_ s.1 s.2) (fun x => V9 x_ x.1 x.2) (lf,1) ht2  [] ?_
   rintro ⟨kp,i_⟩ m2 aw ae hl1 J2 av
   try unfold xa at ae
   rcases zy ae with ⟨c1,ae⟩ | ⟨c1,ae⟩
   ·obtain ⟨ld,h1,ae⟩:=z8 ae
    obtain rfl:=z7 ae
    exact yB X0 hC av ((mx kp ld),w64 (i_ + 1)) hl1 [Ha (lnM (eI .i64) x_),Hq c1,Hi (eI .i64) h1]
   ·obtain rfl:=z7 ae
    obtain rfl:=hl1
    exact yB X0 hC ar kp aa [Ha (lnM (eI .i64) x_),Hq c1]
def Q9 : Code:=(Tryz.f110.body).getD .skip
def qg : yK:=spF (α:=z4) (ρ:=Bool) 110 (fun x => [z4J x]) (fun r => eB r) (fun x => uP x) [] (VY)
theorem Qv (hC : zr Tryz.prog ctr) (h1d : ctr.Has jN) (h1e : ctr.Has uf) : qg.Ok Tryz.prog:=by
 refine zp ?_
 rintro x0 r0 aa
 try unfold uP at aa
 refine yO true [(1,none)] Q9 17 Tryz.func110 fun E hE => ?_
 obtain ⟨r_,h0,aa⟩:=z8 aa
 obtain ⟨aj,h1,aa⟩:=z8 aa
 obtain rfl:=z7 aa
 exact yE X0 hC hE [Hc h1d (x:=x0) h0 (loC ze x0 <| loN),Hc h1e (x:=r_.1) h1 (loC F6_ r_.1 <| loN),Ha (lnM (eI .i64) r_.1)]
def XR : Code:=(Tryz.f56.body).getD .skip
def qX : yK:=spF (α:=z4) (ρ:=Int) 56 (fun x => [ze x]) (fun r => (eI .i64) r) (fun x => wh x) [] (VY)
abbrev Ue : List (Nat × T):=[]
theorem Jy (hC : zr Tryz.prog ctr) (h02 : ctr.Has yR) (h1f : ctr.Has jW) (h1g : ctr.Has qj) (h1h : ctr.Has qh) (h1i : ctr.Has qg) : qX.Ok Tryz.prog:=by
 refine zp ?_
 rintro m_ r0 aa
 try unfold wh at aa
 refine yO true [(2,none)] XR 23 Tryz.func56 fun E hE => ?_
 obtain ⟨r_,h0,aa⟩:=z8 aa
 let Z0 : List HO:=[Hc h02 (x:=m_) h0 (loC ze m_ <| loN)]
 rcases zy aa with ⟨c0,aa⟩ | ⟨c0,aa⟩
 ·obtain rfl:=z7 aa
  exact yE X0 hC hE (Z0 ++ [Hq c0])
 ·refine yJ X0 hC XR [1,1] [] [] (fun z : Unit => ve = some r0) (fun z => Ue) [(1,.own (.box (ze m_)))] (Z0 ++ [Hq c0,Hh (.cut 0)]) ?_ fun J1 ar => ?_
  ·rintro ⟨⟩ aa
   unfold ve at aa
   obtain rfl:=z7 aa
   exact yE X0 hC hE []
  ·obtain ⟨aj,h1,aa⟩:=z8 aa
   obtain ⟨bc,h2,aa⟩:=z8 aa
   let Z1 : List HO:=[Hc h1f (x:=m_) h1 (loC ze m_ <| loN),Hh (.u 70),qT,Hc h1g (x:=aj.1.2) h2 (loC z4J aj.1.2 <| loN)]
   rcases zy aa with ⟨c1,aa⟩ | ⟨c1,aa⟩
   ·obtain rfl:=z7 aa
    exact yE X0 hC hE (Z1 ++ [Hq c1])
   ·obtain ⟨bt,h3,aa⟩:=z8 aa
    let Z2 : List HO:=(Z1 ++ [Hq c1,qT,Hc h1h (x:=aj.2.1.2) h3 (loC z4J aj.2.1.2 <| loN)])
    rcases zy aa with ⟨c2,aa⟩ | ⟨c2,aa⟩
    ·obtain rfl:=z7 aa
     exact yE X0 hC hE (Z2 ++ [Hq c2])
    ·obtain ⟨gc,h4,aa⟩:=z8 aa
     let Z3 : List HO:=(Z2 ++ [Hq c2,qT,Hc h1i (x:=aj.2.2.2) h4 (loC z4J aj.2.2.2 <| loN)])
     rcases zy aa with ⟨c3,aa⟩ | ⟨c3,aa⟩
     ·obtain rfl:=z7 aa
      exact yE X0 hC hE (Z3 ++ [Hq c3])
     ·exact yB X0 hC ar () aa (Z3 ++ [Hq c3,qF])
def VS : Code:=(Tryz.f35.body).getD .skip
def YM : yK:=spF (α:=z4 × Int) (ρ:=Int) 35 (fun x => [ze x.1,(eI .i64) x.2]) (fun r => (eI .i64) r) (fun x => uZ x.1 x.2) [] (Uv)
abbrev z26 (n_ : Int) : List (Nat × T):=[(5,.d (I n_))]
abbrev z25 (m_ : z4) (states : Int) (ba : Int) (i_ : Int) : List (Nat × T):=[(1,.d (I states)),(2,.own (.box (ze m_))),(5,.d (I ba)),(6,.d (I i_))]
theorem z5W (hC : zr Tryz.prog ctr) : YM.Ok Tryz.prog:=by
 refine zp ?_
 rintro ⟨m_,states⟩ r0 aa
 try unfold uZ at aa
 refine yO true [(4,none)] VS 28 Tryz.func35 fun E hE => ?_
 rcases zy aa with ⟨c0,aa⟩ | ⟨c0,aa⟩
 ·obtain rfl:=z7 aa
  exact yE X0 hC hE [Hq c0]
 ·refine yJ X0 hC VS [1,1,1] [] [5] (fun z : Int => VE z = some r0) (fun z => z26 z) [(1,.d (I states)),(2,.own (.box (ze m_))),(5,.d (I 1))] [Hq c0,Hh (.cut 1)] ?_ fun J1 ar => ?_
  ·rintro n_ aa
   unfold VE at aa
   obtain rfl:=z7 aa
   exact yE X0 hC hE []
  ·obtain ⟨t2,ht2,aa⟩:=z8 aa
   refine yL X0 hC VS [1,1,1,2,1,0] [J1] (fun s => uY m_ states s.1 s.2) (fun x => z25 m_ states x.1 x.2) (1,0) ht2  [] ?_
   rintro ⟨ba,i_⟩ m2 aw ae hl1 J2 av
   try unfold uY at ae
   rcases zy ae with ⟨c1,ae⟩ | ⟨c1,ae⟩
   ·rcases zy ae with ⟨c2,ae⟩ | ⟨c2,ae⟩
    ·obtain rfl:=z7 ae
     exact yB X0 hC av (w64 (ba * (w64 (states * m_.Outputs))),w64 (i_ + 1)) hl1 [Hq c1,Hq c1,Hq c1,Hq c2]
    ·obtain rfl:=z7 ae
     obtain rfl:=hl1
     exact yB X0 hC ar ba aa [Hq c1,Hq c1,Hq c1,Hq c2]
   ·obtain rfl:=z7 ae
    obtain rfl:=hl1
    exact yB X0 hC ar ba aa [Hq c1,Hq c1,Hq c1,qF]
def z5v : Code:=(Tryz.f34.body).getD .skip
def YN : yK:=spF (α:=z4 × Int) (ρ:=Int) 34 (fun x => [ze x.1,(eI .i64) x.2]) (fun r => (eI .i64) r) (fun x => Xh x.1 x.2) [] (Uv)
theorem z5X (hC : zr Tryz.prog ctr) (h1j : ctr.Has qX) (h0l : ctr.Has YM) : YN.Ok Tryz.prog:=by
 refine zp ?_
 rintro ⟨m_,states⟩ r0 aa
 try unfold Xh at aa
 refine yO true [(4,none)] z5v 17 Tryz.func34 fun E hE => ?_
 obtain ⟨r_,h0,aa⟩:=z8 aa
 let Z0 : List HO:=[Hc h1j (x:=m_) h0 (loC ze m_ <| loN)]
 rcases zy aa with ⟨c0,aa⟩ | ⟨c0,aa⟩
 ·obtain rfl:=z7 aa
  exact yE X0 hC hE (Z0 ++ [Hq c0])
 ·rcases zy aa with ⟨c1,aa⟩ | ⟨c1,aa⟩
  ·obtain rfl:=z7 aa
   exact yE X0 hC hE (Z0 ++ [Hq c0,Hq c1])
  ·obtain ⟨aj,h1,aa⟩:=z8 aa
   let Z1 : List HO:=(Z0 ++ [Hq c0,Hq c1,Hc h0l (x:=(m_,states)) h1 (loC ze m_ <| loC (eI .i64) states <| loN)])
   rcases zy aa with ⟨c2,aa⟩ | ⟨c2,aa⟩
   ·obtain rfl:=z7 aa
    exact yE X0 hC hE (Z1 ++ [Hq c2])
   ·obtain rfl:=z7 aa
    exact yE X0 hC hE (Z1 ++ [Hq c2])
def z1i : Code:=(Tryz.f138.body).getD .skip
def Yt : yK:=spF (α:=Int × Int) (ρ:=Bool) 138 (fun x => [(eI .i64) x.1,(eSp (eI .i64)) x.2]) (fun r => eB r) (fun x => YJ x.1 x.2) [] (Uv)
theorem z2q (hC : zr Tryz.prog ctr) : Yt.Ok Tryz.prog:=by
 refine zp ?_
 rintro ⟨c_,x1⟩ r0 aa
 try unfold YJ at aa
 refine yO true [(3,none)] z1i 11 Tryz.func138 fun E hE => ?_
 rcases zy aa with ⟨c0,aa⟩ | ⟨c0,aa⟩
 ·obtain rfl:=z7 aa
  exact yE X0 hC hE (rpN 4 (Hq c0) [])
 ·obtain rfl:=z7 aa
  exact yE X0 hC hE (rpN 4 (Hq c0) [])
def w6 : Code:=(Tryz.f152.body).getD .skip
def xP : yK:=spF (α:=List Int × Int) (ρ:=Int) 152 (fun x => [F6_ x.1,(z3L 138 (eSp (eI .i64))) x.2]) (fun r => (eI .i64) r) (fun x => xh x.1 x.2) [] (by
 rintro ⟨a0,a1⟩ ⟨b0,b1⟩ h
 have e0:=Yp.inj (f:=F6_) _ _ (List.cons.inj h).1
 replace h:=(List.cons.inj h).2
 have e1:=Yp.inj (f:=(z3L 138 (eSp (eI .i64)))) _ _ (List.cons.inj h).1
 subst e0 e1
 rfl)
abbrev Yn : List (Nat × T):=[]
abbrev Ym (s_ : List Int) (f_ : Int) (x8 : Int) : List (Nat × T):=[(0,.d (eSl 1 false (eI .i64) s_)),(1,.d (.fn 138 [.sptr (I f_)])),(7,.d (I ((s_.length : Nat) : Int))),(8,.d (I x8))]
theorem XT (hC : zr Tryz.prog ctr) (h1k : ctr.Has Yt) : xP.Ok Tryz.prog:=by
 refine zp ?_
 rintro ⟨s_,f_⟩ r0 aa
 try unfold xh at aa
 refine yO true [(4,none)] w6 19 Tryz.func152 fun E hE => ?_
 refine yJ X0 hC w6 [1] [] [] (fun z : Unit => xQ = some r0) (fun z => Yn) [(0,.d (eSl 1 false (eI .i64) s_)),(1,.d (.fn 138 [.sptr (I f_)]))] [Hh (.cut 1)] ?_ fun J1 ar => ?_
 ·rintro ⟨⟩ aa
  unfold xQ at aa
  obtain rfl:=z7 aa
  exact yE X0 hC hE []
 ·obtain ⟨t2,ht2,aa⟩:=z8 aa
  refine yL X0 hC w6 [1,2,1,0] [J1] (fun s => zM s_ f_ s) (fun x => Ym s_ f_ x) 0 ht2  [Ha (lnM (eI .i64) s_)] ?_
  rintro x8 m2 aw ae hl1 J2 av
  try unfold zM at ae
  rcases zy ae with ⟨c0,ae⟩ | ⟨c0,ae⟩
  ·obtain ⟨gt,h0,ae⟩:=z8 ae
   obtain ⟨r_,h1,ae⟩:=z8 ae
   let Z0 : List HO:=[Hq c0,Hi (eI .i64) h0,Hc h1k (x:=(gt,f_)) h1 (loC (eI .i64) gt <| loC (eSp (eI .i64)) f_ <| loN)]
   rcases zy ae with ⟨c1,ae⟩ | ⟨c1,ae⟩
   ·obtain rfl:=z7 ae
    obtain rfl:=hl1
    obtain rfl:=z7 aa
    exact yE X0 hC hE (Z0 ++ [Hq c1])
   ·obtain rfl:=z7 ae
    exact yB X0 hC av (w64 (x8 + 1)) hl1 (Z0 ++ [Hq c1])
  ·obtain rfl:=z7 ae
   obtain rfl:=hl1
   exact yB X0 hC ar () aa [Hq c0]
def Yj : Code:=(Tryz.f137.body).getD .skip
def yZ : yK:=spF (α:=List Int × Int) (ρ:=Bool) 137 (fun x => [F6_ x.1,(z3L 138 (eSp (eI .i64))) x.2]) (fun r => eB r) (fun x => yC x.1 x.2) [] (by
 rintro ⟨a0,a1⟩ ⟨b0,b1⟩ h
 have e0:=Yp.inj (f:=F6_) _ _ (List.cons.inj h).1
 replace h:=(List.cons.inj h).2
 have e1:=Yp.inj (f:=(z3L 138 (eSp (eI .i64)))) _ _ (List.cons.inj h).1
 subst e0 e1
 rfl)
theorem Yq (hC : zr Tryz.prog ctr) (h1l : ctr.Has xP) : yZ.Ok Tryz.prog:=by
 refine zp ?_
 rintro ⟨s_,f_⟩ r0 aa
 try unfold yC at aa
 refine yO true [(4,none)] Yj 9 Tryz.func137 fun E hE => ?_
 obtain ⟨r_,h0,aa⟩:=z8 aa
 obtain rfl:=z7 aa
 exact yE X0 hC hE [Hc h1l (x:=(s_,f_)) h0 (loC F6_ s_ <| loC (z3L 138 (eSp (eI .i64))) f_ <| loN)]
def z43 : Code:=(Tryz.f105.body).getD .skip
def Wk : yK:=spF (α:=List Int × Int) (ρ:=Int) 105 (fun x => [F6_ x.1,(eI .i64) x.2]) (fun r => (eI .i64) r) (fun x => Zy x.1 x.2) [] (Uv)
theorem z4N (hC : zr Tryz.prog ctr) (h1m : ctr.Has yZ) : Wk.Ok Tryz.prog:=by
 refine zp ?_
 rintro ⟨w_,inputs⟩ r0 aa
 try unfold Zy at aa
 refine yO true [(4,none)] z43 19 Tryz.func105 fun E hE => ?_
 rcases zy aa with ⟨c0,aa⟩ | ⟨c0,aa⟩
 ·obtain rfl:=z7 aa
  exact yE X0 hC hE (rpN 4 (Hq c0) [qT])
 ·let Z0 : List HO:=[Hq c0,Hq c0,Ha (lnM (eI .i64) w_),Hq c0,Hq c0]
  rcases zy aa with ⟨c1,aa⟩ | ⟨c1,aa⟩
  ·obtain rfl:=z7 aa
   exact yE X0 hC hE (Z0 ++ [Hq c1])
  ·rcases zy aa with ⟨c2,aa⟩ | ⟨c2,aa⟩
   ·obtain rfl:=z7 aa
    exact yE X0 hC hE (Z0 ++ (Hq c1 :: (rpN 4 (Hq c2) [qT])))
   ·obtain ⟨r_,h0,aa⟩:=z8 aa
    let Z1 : List HO:=(Z0 ++ [Hq c1,Hq c2,Hq c2,Hq c2,Hc h1m (x:=(w_,inputs)) h0 (loC F6_ w_ <| loC (z3L 138 (eSp (eI .i64))) inputs <| loN),Hq c2])
    rcases zy aa with ⟨c3,aa⟩ | ⟨c3,aa⟩
    ·obtain rfl:=z7 aa
     exact yE X0 hC hE (Z1 ++ [Hq c3])
    ·obtain rfl:=z7 aa
     exact yE X0 hC hE (Z1 ++ [Hq c3])
def WE : Code:=(Tryz.f78.body).getD .skip
def Wm : yK:=spF (α:=List (List Int) × Int) (ρ:=Int) 78 (fun x => [qH x.1,(eI .i64) x.2]) (fun r => (eI .i64) r) (fun x => Xm x.1 x.2) [] (Uv)
abbrev z0l : List (Nat × T):=[]
abbrev z0k (l_ : List (List Int)) (inputs : Int) (kq : Int) : List (Nat × T):=[(1,.d (I inputs)),(17,.d (eSl 1 false F6_ l_)),(18,.d (I ((l_.length : Nat) : Int))),(19,.d (I kq))]
theorem z4P (hC : zr Tryz.prog ctr) (h1n : ctr.Has Wk) : Wm.Ok Tryz.prog:=by
 refine zp ?_
 rintro ⟨l_,inputs⟩ r0 aa
 try unfold Xm at aa
 refine yO true [(4,none)] WE 30 Tryz.func78 fun E hE => ?_
 rcases zy aa with ⟨c0,aa⟩ | ⟨c0,aa⟩
 ·obtain rfl:=z7 aa
  exact yE X0 hC hE (rpN 4 (Hq c0) [qT])
 ·let Z0 : List HO:=[Hq c0,Hq c0,Ha (lnM F6_ l_),Hq c0,Hq c0]
  rcases zy aa with ⟨c1,aa⟩ | ⟨c1,aa⟩
  ·obtain rfl:=z7 aa
   exact yE X0 hC hE (Z0 ++ [Hq c1])
  ·rcases zy aa with ⟨c2,aa⟩ | ⟨c2,aa⟩
   ·obtain rfl:=z7 aa
    exact yE X0 hC hE (Z0 ++ [Hq c1,Hq c2])
   ·refine yJ X0 hC WE [1,1,1] [] [] (fun z : Unit => Wj = some r0) (fun z => z0l) [(0,.d (eSl 1 false F6_ l_)),(1,.d (I inputs))] (Z0 ++ [Hq c1,Hq c2,Hh (.cut 0)]) ?_ fun J1 ar => ?_
    ·rintro ⟨⟩ aa
     unfold Wj at aa
     obtain rfl:=z7 aa
     exact yE X0 hC hE []
    ·obtain ⟨t2,ht2,aa⟩:=z8 aa
     refine yL X0 hC WE [1,1,1,2,1,0] [J1] (fun s => vE l_ inputs s) (fun x => z0k l_ inputs x) 0 ht2  [Ha (lnM F6_ l_)] ?_
     rintro kq m2 aw ae hl1 J2 av
     try unfold vE at ae
     rcases zy ae with ⟨c3,ae⟩ | ⟨c3,ae⟩
     ·obtain ⟨bj,h0,ae⟩:=z8 ae
      obtain ⟨r_,h1,ae⟩:=z8 ae
      let Z1 : List HO:=[Hq c3,Hi F6_ h0,Hc h1n (x:=(bj,inputs)) h1 (loC F6_ bj <| loC (eI .i64) inputs <| loN)]
      rcases zy ae with ⟨c4,ae⟩ | ⟨c4,ae⟩
      ·obtain rfl:=z7 ae
       obtain rfl:=hl1
       obtain rfl:=z7 aa
       exact yE X0 hC hE (Z1 ++ [Hq c4])
      ·obtain rfl:=z7 ae
       exact yB X0 hC av (w64 (kq + 1)) hl1 (Z1 ++ [Hq c4])
     ·obtain rfl:=z7 ae
      obtain rfl:=hl1
      exact yB X0 hC ar () aa [Hq c3]
def z1m : Code:=(Tryz.f135.body).getD .skip
def YB : yK:=spF (α:=Int) (ρ:=Bool) 135 (fun x => [(eI .i64) x]) (fun r => eB r) (fun x => Zl x) [] (VY)
theorem z2B (hC : zr Tryz.prog ctr) : YB.Ok Tryz.prog:=by
 refine zp ?_
 rintro x_ r0 aa
 try unfold Zl at aa
 refine yO true [(2,none)] z1m 6 Tryz.func135 fun E hE => ?_
 obtain rfl:=z7 aa
 exact yE X0 hC hE []
def JW : Code:=(Tryz.f101.body).getD .skip
def vR : yK:=spF (α:=Int × Int) (ρ:=Int) 101 (fun x => [(eI .i64) x.1,(eI .i64) x.2]) (fun r => (eI .i64) r) (fun x => v7 x.1 x.2) [] (Uv)
theorem KU (hC : zr Tryz.prog ctr) (h0w : ctr.Has YB) : vR.Ok Tryz.prog:=by
 refine zp ?_
 rintro ⟨x_,y_⟩ r0 aa
 try unfold v7 at aa
 refine yO true [(4,none)] JW 20 Tryz.func101 fun E hE => ?_
 obtain ⟨r_,h0,aa⟩:=z8 aa
 obtain ⟨aj,h1,aa⟩:=z8 aa
 let Z0 : List HO:=[Hc h0w (x:=x_) h0 (loC (eI .i64) x_ <| loN),Hc h0w (x:=y_) h1 (loC (eI .i64) y_ <| loN)]
 rcases zy aa with ⟨c0,aa⟩ | ⟨c0,aa⟩
 ·rcases zy aa with ⟨c1,aa⟩ | ⟨c1,aa⟩
  ·obtain rfl:=z7 aa
   exact yE X0 hC hE (Z0 ++ [Hq c0,Hq c1])
  ·obtain rfl:=z7 aa
   exact yE X0 hC hE (Z0 ++ [Hq c0,Hq c1])
 ·rcases zy aa with ⟨c2,aa⟩ | ⟨c2,aa⟩
  ·obtain rfl:=z7 aa
   exact yE X0 hC hE (Z0 ++ [Hq c0,Hq c2])
  ·rcases zy aa with ⟨c3,aa⟩ | ⟨c3,aa⟩
   ·obtain rfl:=z7 aa
    exact yE X0 hC hE (Z0 ++ [Hq c0,Hq c2,Hq c3])
   ·rcases zy aa with ⟨c4,aa⟩ | ⟨c4,aa⟩
    ·obtain rfl:=z7 aa
     exact yE X0 hC hE (Z0 ++ [Hq c0,Hq c2,Hq c3,Hq c4])
    ·obtain rfl:=z7 aa
     exact yE X0 hC hE (Z0 ++ [Hq c0,Hq c2,Hq c3,Hq c4])
def wP : Code:=(Tryz.f102.body).getD .skip
def wK : yK:=spF (α:=List Int × List Int) (ρ:=Int) 102 (fun x => [F6_ x.1,F6_ x.2]) (fun r => (eI .i64) r) (fun x => yP x.1 x.2) [] (Uv)
abbrev Xa (s1 : List Int) (s2 : List Int) : List (Nat × T):=[(0,.d (eSl 1 false (eI .i64) s1)),(1,.d (eSl 1 false (eI .i64) s2))]
abbrev X9 (s1 : List Int) (s2 : List Int) (ix : Int) : List (Nat × T):=[(0,.d (eSl 1 false (eI .i64) s1)),(1,.d (eSl 1 false (eI .i64) s2)),(9,.d (eSl 1 false (eI .i64) s1)),(10,.d (I ((s1.length : Nat) : Int))),(11,.d (I ix))]
theorem WL (hC : zr Tryz.prog ctr) (h0m : ctr.Has vR) : wK.Ok Tryz.prog:=by
 refine zp ?_
 rintro ⟨s1,s2⟩ r0 aa
 try unfold yP at aa
 refine yO true [(4,none)] wP 36 Tryz.func102 fun E hE => ?_
 refine yJ X0 hC wP [1] [] [0,1] (fun z : Unit => yT s1 s2 = some r0) (fun z => Xa s1 s2) [(0,.d (eSl 1 false (eI .i64) s1)),(1,.d (eSl 1 false (eI .i64) s2))] [Hh (.cut 1)] ?_ fun J1 ar => ?_
 ·rintro ⟨⟩ aa
  unfold yT at aa
  let Z0 : List HO:=[Ha (lnM (eI .i64) s1),Ha (lnM (eI .i64) s2)]
  rcases zy aa with ⟨c0,aa⟩ | ⟨c0,aa⟩
  ·obtain rfl:=z7 aa
   exact yE X0 hC hE (Z0 ++ [Hq c0])
  ·obtain rfl:=z7 aa
   exact yE X0 hC hE (Z0 ++ [Hq c0])
 ·obtain ⟨t2,ht2,aa⟩:=z8 aa
  refine yL X0 hC wP [1,2,1,0] [J1] (fun s => zY s1 s2 s) (fun x => X9 s1 s2 x) 0 ht2  [Ha (lnM (eI .i64) s1)] ?_
  rintro ix m2 aw ae hl1 J2 av
  try unfold zY at ae
  rcases zy ae with ⟨c1,ae⟩ | ⟨c1,ae⟩
  ·obtain ⟨ko,h0,ae⟩:=z8 ae
   let Z1 : List HO:=[Hq c1,Hi (eI .i64) h0,Ha (lnM (eI .i64) s2)]
   rcases zy ae with ⟨c2,ae⟩ | ⟨c2,ae⟩
   ·obtain rfl:=z7 ae
    obtain rfl:=hl1
    obtain rfl:=z7 aa
    exact yE X0 hC hE (Z1 ++ [Hq c2])
   ·obtain ⟨jg,h1,ae⟩:=z8 ae
    obtain ⟨r_,h2,ae⟩:=z8 ae
    let Z2 : List HO:=(Z1 ++ [Hq c2,Hi (eI .i64) h1,Hc h0m (x:=(ko,jg)) h2 (loC (eI .i64) ko <| loC (eI .i64) jg <| loN)])
    rcases zy ae with ⟨c3,ae⟩ | ⟨c3,ae⟩
    ·obtain rfl:=z7 ae
     obtain rfl:=hl1
     obtain rfl:=z7 aa
     exact yE X0 hC hE (Z2 ++ [Hq c3])
    ·obtain rfl:=z7 ae
     exact yB X0 hC av (w64 (ix + 1)) hl1 (Z2 ++ [Hq c3])
  ·obtain rfl:=z7 ae
   obtain rfl:=hl1
   exact yB X0 hC ar () aa [Hq c1]
def VU : Code:=(Tryz.f100.body).getD .skip
def Vs : yK:=spF (α:=List Int) (ρ:=Int) 100 (fun x => [F6_ x]) (fun r => (eI .i64) r) (fun x => V8 x) [] (VY)
abbrev z28 : List (Nat × T):=[(3,.d (I 0))]
abbrev z27 (vals : List Int) (x8 : Int) : List (Nat × T):=[(3,.d (I 0)),(6,.d (eSl 1 false (eI .i64) vals)),(7,.d (I ((vals.length : Nat) : Int))),(8,.d (I x8))]
theorem z5Y (hC : zr Tryz.prog ctr) : Vs.Ok Tryz.prog:=by
 refine zp ?_
 rintro vals r0 aa
 try unfold V8 at aa
 refine yO true [(2,none)] VU 18 Tryz.func100 fun E hE => ?_
 refine yJ X0 hC VU [1,1] [] [3] (fun z : Unit => X4 = some r0) (fun z => z28) [(0,.d (eSl 1 false (eI .i64) vals)),(3,.d (I 0))] [Hh (.cut 2)] ?_ fun J1 ar => ?_
 ·rintro ⟨⟩ aa
  unfold X4 at aa
  obtain rfl:=z7 aa
  exact yE X0 hC hE []
 ·obtain ⟨t2,ht2,aa⟩:=z8 aa
  refine yL X0 hC VU [1,1,2,1,0] [J1] (fun s => qd vals s) (fun x => z27 vals x) 0 ht2  [Ha (lnM (eI .i64) vals)] ?_
  rintro x8 m2 aw ae hl1 J2 av
  try unfold qd at ae
  rcases zy ae with ⟨c0,ae⟩ | ⟨c0,ae⟩
  ·obtain ⟨lh,h0,ae⟩:=z8 ae
   rcases zy ae with ⟨c1,ae⟩ | ⟨c1,ae⟩
   ·obtain rfl:=z7 ae
    obtain rfl:=hl1
    obtain rfl:=z7 aa
    exact yE X0 hC hE [Hq c0,Hi (eI .i64) h0,Hq c1]
   ·obtain rfl:=z7 ae
    exact yB X0 hC av (w64 (x8 + 1)) hl1 [Hq c0,Hi (eI .i64) h0,Hq c1]
  ·obtain rfl:=z7 ae
   obtain rfl:=hl1
   exact yB X0 hC ar () aa [Hq c0]
def z1h : Code:=(Tryz.f67.body).getD .skip
def Ys : yK:=spF (α:=List Int × List Int) (ρ:=Int) 67 (fun x => [F6_ x.1,F6_ x.2]) (fun r => (eI .i64) r) (fun x => jM x.1 x.2) [] (Uv)
theorem z2p (hC : zr Tryz.prog ctr) (h0m : ctr.Has vR) (h1o : ctr.Has wK) (h0x : ctr.Has Vs) : Ys.Ok Tryz.prog:=by
 refine zp ?_
 rintro ⟨a_,b_⟩ r0 aa
 try unfold jM at aa
 refine yO true [(4,none)] z1h 15 Tryz.func67 fun E hE => ?_
 obtain ⟨r_,h0,aa⟩:=z8 aa
 obtain ⟨aj,h1,aa⟩:=z8 aa
 obtain ⟨bc,h2,aa⟩:=z8 aa
 obtain rfl:=z7 aa
 exact yE X0 hC hE [Ha (lnM (eI .i64) a_),Ha (lnM (eI .i64) b_),Hc h0m (x:=(((a_.length : Nat) : Int),((b_.length : Nat) : Int))) h0 (loC (eI .i64) ((a_.length : Nat) : Int) <| loC (eI .i64) ((b_.length : Nat) : Int) <| loN),Hc h1o (x:=(a_,b_)) h1 (loC F6_ a_ <| loC F6_ b_ <| loN),Hg (z4x h0x),Hm (shM (eI .i64) (eI .i64) ([r_,aj])),Hs (z4y h0x (x:=[r_,aj]) h2 (loC F2_ [r_,aj] <| loN))]
def WF : Code:=(Tryz.f79.body).getD .skip
def Wn : yK:=spF (α:=List (List Int)) (ρ:=Bool) 79 (fun x => [qH x]) (fun r => eB r) (fun x => Xn x) [] (VY)
abbrev z0n : List (Nat × T):=[]
abbrev z0m (l_ : List (List Int)) (i_ : Int) : List (Nat × T):=[(0,.d (eSl 1 false F6_ l_)),(3,.d (I i_))]
theorem z4Q (hC : zr Tryz.prog ctr) (h1p : ctr.Has Ys) : Wn.Ok Tryz.prog:=by
 refine zp ?_
 rintro l_ r0 aa
 try unfold Xn at aa
 refine yO true [(2,none)] WF 21 Tryz.func79 fun E hE => ?_
 refine yJ X0 hC WF [1] [] [] (fun z : Unit => ZM = some r0) (fun z => z0n) [(0,.d (eSl 1 false F6_ l_))] [Hh (.cut 1)] ?_ fun J1 ar => ?_
 ·rintro ⟨⟩ aa
  unfold ZM at aa
  obtain rfl:=z7 aa
  exact yE X0 hC hE []
 ·obtain ⟨t2,ht2,aa⟩:=z8 aa
  refine yL X0 hC WF [1,2,1,0] [J1] (fun s => vF l_ s) (fun x => z0m l_ x) 1 ht2  [] ?_
  rintro i_ m2 aw ae hl1 J2 av
  try unfold vF at ae
  let Z0 : List HO:=[Ha (lnM F6_ l_)]
  rcases zy ae with ⟨c0,ae⟩ | ⟨c0,ae⟩
  ·obtain ⟨bj,h0,ae⟩:=z8 ae
   obtain ⟨d0,h1,ae⟩:=z8 ae
   obtain ⟨r_,h2,ae⟩:=z8 ae
   let Z1 : List HO:=(Z0 ++ [Hq c0,Hi F6_ h0,Hi F6_ h1,Hc h1p (x:=(bj,d0)) h2 (loC F6_ bj <| loC F6_ d0 <| loN)])
   rcases zy ae with ⟨c1,ae⟩ | ⟨c1,ae⟩
   ·obtain rfl:=z7 ae
    obtain rfl:=hl1
    obtain rfl:=z7 aa
    exact yE X0 hC hE (Z1 ++ [Hq c1])
   ·obtain rfl:=z7 ae
    exact yB X0 hC av (w64 (i_ + 1)) hl1 (Z1 ++ [Hq c1])
  ·obtain rfl:=z7 ae
   obtain rfl:=hl1
   exact yB X0 hC ar () aa (Z0 ++ [Hq c0])
def WD : Code:=(Tryz.f71.body).getD .skip
def Wl : yK:=spF (α:=List (List Int)) (ρ:=Int) 71 (fun x => [qH x]) (fun r => (eI .i64) r) (fun x => Xl x) [] (VY)
abbrev z0j (n_ : Int) : List (Nat × T):=[(2,.d (I n_))]
abbrev z0i (l_ : List (List Int)) (ba : Int) (x7 : Int) : List (Nat × T):=[(2,.d (I ba)),(5,.d (eSl 1 false F6_ l_)),(6,.d (I ((l_.length : Nat) : Int))),(7,.d (I x7))]
theorem z4O (hC : zr Tryz.prog ctr) : Wl.Ok Tryz.prog:=by
 refine zp ?_
 rintro l_ r0 aa
 try unfold Xl at aa
 refine yO true [(2,none)] WD 17 Tryz.func71 fun E hE => ?_
 refine yJ X0 hC WD [1] [] [2] (fun z : Int => Wi z = some r0) (fun z => z0j z) [(0,.d (eSl 1 false F6_ l_)),(2,.d (I 0))] [Hh (.cut 1)] ?_ fun J1 ar => ?_
 ·rintro n_ aa
  unfold Wi at aa
  obtain rfl:=z7 aa
  exact yE X0 hC hE []
 ·obtain ⟨t2,ht2,aa⟩:=z8 aa
  refine yL X0 hC WD [1,2,1,0] [J1] (fun s => vD l_ s.1 s.2) (fun x => z0i l_ x.1 x.2) (0,0) ht2  [Ha (lnM F6_ l_)] ?_
  rintro ⟨ba,x7⟩ m2 aw ae hl1 J2 av
  try unfold vD at ae
  rcases zy ae with ⟨c0,ae⟩ | ⟨c0,ae⟩
  ·obtain ⟨bj,h0,ae⟩:=z8 ae
   obtain rfl:=z7 ae
   exact yB X0 hC av (w64 (ba + ((bj.length : Nat) : Int)),w64 (x7 + 1)) hl1 [Hq c0,Hi F6_ h0,Ha (lnM (eI .i64) bj)]
  ·obtain rfl:=z7 ae
   obtain rfl:=hl1
   exact yB X0 hC ar ba aa [Hq c0]
def z44 : Code:=(Tryz.f53.body).getD .skip
def ZN : yK:=spF (α:=List (List Int) × Int) (ρ:=Int) 53 (fun x => [qH x.1,(eI .i64) x.2]) (fun r => (eI .i64) r) (fun x => ZB x.1 x.2) [] (Uv)
theorem z4R (hC : zr Tryz.prog ctr) (h1q : ctr.Has Wm) (h1r : ctr.Has Wn) (h1s : ctr.Has Wl) : ZN.Ok Tryz.prog:=by
 refine zp ?_
 rintro ⟨l_,inputs⟩ r0 aa
 try unfold ZB at aa
 refine yO true [(4,none)] z44 18 Tryz.func53 fun E hE => ?_
 obtain ⟨r_,h0,aa⟩:=z8 aa
 let Z0 : List HO:=[Hc h1q (x:=(l_,inputs)) h0 (loC qH l_ <| loC (eI .i64) inputs <| loN)]
 rcases zy aa with ⟨c0,aa⟩ | ⟨c0,aa⟩
 ·obtain rfl:=z7 aa
  exact yE X0 hC hE (Z0 ++ [Hq c0])
 ·obtain ⟨aj,h1,aa⟩:=z8 aa
  let Z1 : List HO:=(Z0 ++ [Hq c0,Hc h1r (x:=l_) h1 (loC qH l_ <| loN)])
  rcases zy aa with ⟨c1,aa⟩ | ⟨c1,aa⟩
  ·obtain rfl:=z7 aa
   exact yE X0 hC hE (Z1 ++ [Hq c1])
  ·obtain ⟨bc,h2,aa⟩:=z8 aa
   let Z2 : List HO:=(Z1 ++ [Hq c1,Hc h1s (x:=l_) h2 (loC qH l_ <| loN)])
   rcases zy aa with ⟨c2,aa⟩ | ⟨c2,aa⟩
   ·obtain rfl:=z7 aa
    exact yE X0 hC hE (Z2 ++ [Hq c2])
   ·obtain rfl:=z7 aa
    exact yE X0 hC hE (Z2 ++ [Hq c2])
def z5u : Code:=(Tryz.f28.body).getD .skip
def YL : yK:=spF (α:=z4 × List (List Int) × Int) (ρ:=Int) 28 (fun x => [ze x.1,qH x.2.1,(eI .i64) x.2.2]) (fun r => (eI .i64) r) (fun x => Xf x.1 x.2.1 x.2.2) [] (z72)
theorem z5U (hC : zr Tryz.prog ctr) (h0n : ctr.Has YN) (h0o : ctr.Has ZN) : YL.Ok Tryz.prog:=by
 refine zp ?_
 rintro ⟨m_,l_,states⟩ r0 aa
 try unfold Xf at aa
 refine yO true [(6,none)] z5u 18 Tryz.func28 fun E hE => ?_
 obtain ⟨r_,h0,aa⟩:=z8 aa
 let Z0 : List HO:=[Hc h0n (x:=(m_,states)) h0 (loC ze m_ <| loC (eI .i64) states <| loN)]
 rcases zy aa with ⟨c0,aa⟩ | ⟨c0,aa⟩
 ·obtain rfl:=z7 aa
  exact yE X0 hC hE (Z0 ++ [Hq c0])
 ·obtain ⟨aj,h1,aa⟩:=z8 aa
  obtain rfl:=z7 aa
  exact yE X0 hC hE (Z0 ++ [Hq c0,Hc h0o (x:=(l_,m_.Inputs)) h1 (loC qH l_ <| loC (eI .i64) m_.Inputs <| loN)])
def z47 : Code:=(Tryz.f54.body).getD .skip
def qq : yK:=spF (α:=z4 × Int) (ρ:=z4 × Int) 54 (fun x => [ze x.1,(eI .i64) x.2]) (fun r => (zkB 80 z4J (eSp (eI .i64))) r) (fun x => XI x.1 x.2) [] (Uv)
theorem z50 (hC : zr Tryz.prog ctr) : qq.Ok Tryz.prog:=by
 refine zp ?_
 rintro ⟨m_,states⟩ r0 aa
 try unfold XI at aa
 refine yO true [(4,none)] z47 6 Tryz.func54 fun E hE => ?_
 obtain rfl:=z7 aa
 exact yEx X0 hC hE [] (.fn 80 [.sptr (.agg [I m_.Inputs,I m_.Outputs,eSl 1 false zw m_.Rows]),.sptr (I states)]) (show LeV (.fn 80 [.sptr (.agg [I m_.Inputs,I m_.Outputs,eSl 1 false zw m_.Rows]),.sptr (I states)]) (.fn 80 [.sptr (.agg [I (((m_,states).1).Inputs),I (((m_,states).1).Outputs),eSl 1 false zw (((m_,states).1).Rows)]),.sptr (I ((m_,states).2))]) from inferInstance)
def xO : Code:=(Tryz.f81.body).getD .skip
def ZE : yK:=spF (α:=z4) (ρ:=Bool) 81 (fun x => [ze x]) (fun r => eB r) (fun x => vN x) [] (VY)
abbrev Qk (t_ : z4) (next : Int) : List (Nat × T):=[(1,.own (.box (ze t_))),(3,.d (I next))]
abbrev Qj (t_ : z4) (s_ : Int) (gi : Int) : List (Nat × T):=[(1,.own (.box (ze t_))),(3,.d (I gi)),(4,.d (I s_))]
abbrev Qi (t_ : z4) (s_ : Int) (am : List z5) (cj : Int) (jt : Int) : List (Nat × T):=[(1,.own (.box (ze t_))),(3,.d (I jt)),(4,.d (I s_)),(16,.d (eSl 2 false F8_ am)),(17,.d (I ((am.length : Nat) : Int))),(18,.d (I cj))]
abbrev Qg (t_ : z4) (s_ : Int) (am : List z5) (cd : Int) (cj : Int) : List (Nat × T):=[(1,.own (.box (ze t_))),(3,.d (I cd)),(4,.d (I s_)),(16,.d (eSl 2 false F8_ am)),(17,.d (I ((am.length : Nat) : Int))),(18,.d (I cj))]
abbrev Qh (t_ : z4) (db : Int) (s_ : Int) : List (Nat × T):=[(1,.own (.box (ze t_))),(3,.d (I db)),(4,.d (I s_))]
theorem z1e (hC : zr Tryz.prog ctr) : ZE.Ok Tryz.prog:=by
 refine zp ?_
 rintro t_ r0 aa
 try unfold vN at aa
 refine yO true [(2,none)] xO 38 Tryz.func81 fun E hE => ?_
 refine yJ X0 hC xO [1,1] [] [1,3] (fun z : Int => wZ t_ z = some r0) (fun z => Qk t_ z) [(1,.own (.box (ze t_))),(3,.d (I 1))] [Hh (.cut 2)] ?_ fun J1 ar => ?_
 ·rintro next aa
  unfold wZ at aa
  obtain rfl:=z7 aa
  exact yE X0 hC hE [Ha (lnM zw t_.Rows)]
 ·obtain ⟨t2,ht2,aa⟩:=z8 aa
  refine yL X0 hC xO [1,1,2,1,0] [J1] (fun s => xM t_ s.1 s.2) (fun x => Qh t_ x.1 x.2) (1,0) ht2  [] ?_
  rintro ⟨db,s_⟩ m2 aw ae hl1 J2 av
  try unfold xM at ae
  rcases zy ae with ⟨c0,ae⟩ | ⟨c0,ae⟩
  ·refine yJ X0 hC xO [1,1,2,1,0,0,1] [J1,J2] [1,3,4] (fun z : Int => wY s_ z = some aw) (fun z => Qj t_ s_ z) [(1,.own (.box (ze t_))),(3,.d (I db)),(4,.d (I s_))] [Hq c0,Hh (.cut 0)] ?_ fun J3 bk => ?_
   ·rintro gi ae
    unfold wY at ae
    obtain rfl:=z7 ae
    exact yB X0 hC av (gi,w64 (s_ + 1)) hl1 []
   ·obtain ⟨am,h0,ae⟩:=z8 ae
    obtain ⟨t4,ht4,ae⟩:=z8 ae
    refine yL X0 hC xO [1,1,2,1,0,0,1,2,0,1,0] [J1,J2,J3] (fun s => xL am s.1 s.2) (fun x => Qg t_ s_ am x.1 x.2) (db,0) ht4  [Hi zw h0,Ha (lnM F8_ am)] ?_
    rintro ⟨cd,cj⟩ m4 cp ah hl2 J4 ca
    try unfold xL at ah
    rcases zy ah with ⟨c1,ah⟩ | ⟨c1,ah⟩
    ·refine yJ X0 hC xO [1,1,2,1,0,0,1,2,0,1,0,0,1,1] [J1,J2,J3,J4] [1,3,4,16,17,18] (fun z : Int => xN cj z = some cp) (fun z => Qi t_ s_ am cj z) [(1,.own (.box (ze t_))),(3,.d (I cd)),(4,.d (I s_)),(16,.d (eSl 2 false F8_ am)),(17,.d (I ((am.length : Nat) : Int))),(18,.d (I cj))] [Hq c1,Hh (.cut 0)] ?_ fun J5 cb => ?_
     ·rintro jt ah
      unfold xN at ah
      obtain rfl:=z7 ah
      exact yB X0 hC ca (jt,w64 (cj + 1)) hl2 []
     ·obtain ⟨ai,h1,ah⟩:=z8 ah
      let Z0 : List HO:=[Hi F8_ h1]
      rcases zy ah with ⟨c2,ah⟩ | ⟨c2,ah⟩
      ·obtain rfl:=z7 ah
       obtain rfl:=hl2
       obtain rfl:=z7 ae
       obtain rfl:=hl1
       obtain rfl:=z7 aa
       exact yE X0 hC hE (Z0 ++ [Hq c2])
      ·rcases zy ah with ⟨c3,ah⟩ | ⟨c3,ah⟩
       ·exact yB X0 hC cb (w64 (cd + 1)) ah (Z0 ++ [Hq c2,Hq c3])
       ·exact yB X0 hC cb cd ah (Z0 ++ [Hq c2,Hq c3])
    ·obtain rfl:=z7 ah
     obtain rfl:=hl2
     exact yB X0 hC bk cd ae [Hq c1]
  ·obtain rfl:=z7 ae
   obtain rfl:=hl1
   exact yB X0 hC ar db aa [Hq c0]
def Yl : Code:=(Tryz.f42.body).getD .skip
def W2 : yK:=spF (α:=z4 × z4 × List Int) (ρ:=Int) 42 (fun x => [ze x.1,ze x.2.1,F6_ x.2.2]) (fun r => (eI .i64) r) (fun x => V6 x.1 x.2.1 x.2.2) [] (z72)
abbrev z3F : List (Nat × T):=[]
abbrev z3D (m_ : z4) (other : z4) (w_ : List Int) (dh : Int) (gq : Int) (fx : Int) (kr : Int) (kc : Int) : List (Nat × T):=[(3,.own (.box (ze m_))),(4,.own (.box (ze other))),(9,.d (I dh)),(11,.own (.box (.agg [I gq,I fx]))),(12,.own (.box (.agg [I kr,I kc]))),(13,.d (eSl 1 false (eI .i64) w_)),(14,.d (I ((w_.length : Nat) : Int))),(15,.d (I dh))]
abbrev z3E (m_ : z4) (other : z4) (w_ : List Int) (t_ : Int) (dh : Int) (dm : Int) (gq : Int) (fx : Int) : List (Nat × T):=[(3,.own (.box (ze m_))),(4,.own (.box (ze other))),(8,.d (I t_)),(9,.d (I dh)),(10,.d (I dm)),(11,.own (.box (.agg [I gq,I fx]))),(12,.own (.box (.agg [I (-1),I (-1)]))),(13,.d (eSl 1 false (eI .i64) w_)),(14,.d (I ((w_.length : Nat) : Int))),(15,.d (I dh))]
abbrev z3C (m_ : z4) (other : z4) (w_ : List Int) (s_ : Int) (t_ : Int) (dh : Int) : List (Nat × T):=[(3,.own (.box (ze m_))),(4,.own (.box (ze other))),(7,.d (I s_)),(8,.d (I t_)),(13,.d (eSl 1 false (eI .i64) w_)),(14,.d (I ((w_.length : Nat) : Int))),(15,.d (I dh))]
theorem z7a (hC : zr Tryz.prog ctr) : W2.Ok Tryz.prog:=by
 refine zp ?_
 rintro ⟨m_,other,w_⟩ r0 aa
 try unfold V6 at aa
 refine yO true [(6,none)] Yl 53 Tryz.func42 fun E hE => ?_
 refine yJ X0 hC Yl [1,1] [] [] (fun z : Unit => Uy = some r0) (fun z => z3F) [(2,.d (eSl 1 false (eI .i64) w_)),(3,.own (.box (ze m_))),(4,.own (.box (ze other))),(7,.d (I 0)),(8,.d (I 0))] [Hh (.cut 2)] ?_ fun J1 ar => ?_
 ·rintro ⟨⟩ aa
  unfold Uy at aa
  obtain rfl:=z7 aa
  exact yE X0 hC hE []
 ·obtain ⟨t2,ht2,aa⟩:=z8 aa
  refine yL X0 hC Yl [1,1,2,1,0] [J1] (fun s => jK m_ other w_ s.1 s.2.1 s.2.2) (fun x => z3C m_ other w_ x.1 x.2.1 x.2.2) (0,0,0) ht2  [Ha (lnM (eI .i64) w_)] ?_
  rintro ⟨s_,t_,dh⟩ m2 aw ae hl1 J2 av
  try unfold jK at ae
  rcases zy ae with ⟨c0,ae⟩ | ⟨c0,ae⟩
  ·obtain ⟨dm,h0,ae⟩:=z8 ae
   refine yJ X0 hC Yl [1,1,2,1,0,0,1,1,0,0,1,1,1] [J1,J2] [3,4,8,9,10,11,12,13,14,15] (fun z : Int × Int => uE other t_ dh dm z.1 z.2 = some aw) (fun z => z3E m_ other w_ t_ dh dm z.1 z.2) [(3,.own (.box (ze m_))),(4,.own (.box (ze other))),(7,.d (I s_)),(8,.d (I t_)),(9,.d (I dh)),(10,.d (I dm)),(11,.own (.box (.agg [I (-1),I (-1)]))),(12,.own (.box (.agg [I (-1),I (-1)]))),(13,.d (eSl 1 false (eI .i64) w_)),(14,.d (I ((w_.length : Nat) : Int))),(15,.d (I dh))] [Hq c0,Hi (eI .i64) h0,Hh (.cut 2)] ?_ fun J3 bk => ?_
   ·rintro ⟨gq,fx⟩ ae
    unfold uE at ae
    refine yJ X0 hC Yl [1,1,2,1,0,0,1,1,0,0,1,1,1,1] [J1,J2] [3,4,9,11,12,13,14,15] (fun z : Int × Int => uD dh gq fx z.1 z.2 = some aw) (fun z => z3D m_ other w_ dh gq fx z.1 z.2) [(3,.own (.box (ze m_))),(4,.own (.box (ze other))),(8,.d (I t_)),(9,.d (I dh)),(10,.d (I dm)),(11,.own (.box (.agg [I gq,I fx]))),(12,.own (.box (.agg [I (-1),I (-1)]))),(13,.d (eSl 1 false (eI .i64) w_)),(14,.d (I ((w_.length : Nat) : Int))),(15,.d (I dh))] [Hh (.cut 0)] ?_ fun J4 ca => ?_
    ·rintro ⟨kr,kc⟩ ae
     unfold uD at ae
     rcases zy ae with ⟨c1,ae⟩ | ⟨c1,ae⟩
     ·obtain rfl:=z7 ae
      obtain rfl:=hl1
      obtain rfl:=z7 aa
      exact yE X0 hC hE [Hq c1]
     ·obtain rfl:=z7 ae
      exact yB X0 hC av (gq,kr,w64 (dh + 1)) hl1 [Hq c1]
    ·rcases zy ae with ⟨c2,ae⟩ | ⟨c2,ae⟩
     ·obtain ⟨am,h1,ae⟩:=z8 ae
      obtain ⟨ai,h2,ae⟩:=z8 ae
      exact yB X0 hC ca (ai.To,ai.Out) ae [Hq c2,Hi zw h1,Hi F8_ h2]
     ·exact yB X0 hC ca ((-1),(-1)) ae [Hq c2]
   ·rcases zy ae with ⟨c3,ae⟩ | ⟨c3,ae⟩
    ·obtain ⟨bu,h3,ae⟩:=z8 ae
     obtain ⟨aq,h4,ae⟩:=z8 ae
     exact yB X0 hC bk (aq.To,aq.Out) ae [Hq c3,Hi zw h3,Hi F8_ h4]
    ·exact yB X0 hC bk ((-1),(-1)) ae [Hq c3]
  ·obtain rfl:=z7 ae
   obtain rfl:=hl1
   exact yB X0 hC ar () aa [Hq c0]
def Zs : Code:=(Tryz.f82.body).getD .skip
def Vq : yK:=spF (α:=z4 × z4) (ρ:=Bool) 82 (fun x => [ze x.1,ze x.2]) (fun r => eB r) (fun x => Xg x.1 x.2) [] (Uv)
abbrev z24 : List (Nat × T):=[]
abbrev z23 (m_ : z4) (t_ : z4) (dt : ye Int) (am : List z5) (gw : Int) (ju : List Bool) (jv : List (ye Int)) : List (Nat × T):=[(2,.own (.box (ze m_))),(3,.own (.box (ze t_))),(5,.own (eOs 1 true eB ju)),(6,.own (eOs 2 false F0_ jv)),(7,.own (.box (F0_ dt))),(43,.d (eSl 2 false F8_ am)),(44,.d (I ((am.length : Nat) : Int))),(45,.d (I gw))]
abbrev z21 (m_ : z4) (t_ : z4) (dt : ye Int) (am : List z5) (fg : List Bool) (fy : List (ye Int)) (gw : Int) : List (Nat × T):=[(2,.own (.box (ze m_))),(3,.own (.box (ze t_))),(5,.own (eOs 1 true eB fg)),(6,.own (eOs 2 false F0_ fy)),(7,.own (.box (F0_ dt))),(43,.d (eSl 2 false F8_ am)),(44,.d (I ((am.length : Nat) : Int))),(45,.d (I gw))]
abbrev z22 (m_ : z4) (t_ : z4) (ku : List Bool) (list : List (ye Int)) : List (Nat × T):=[(2,.own (.box (ze m_))),(3,.own (.box (ze t_))),(5,.own (eOs 1 true eB ku)),(6,.own (eOs 2 false F0_ list))]
def xg : XH Tryz.prog:=((zj8 y4 37).or X0)
theorem z5V (hC : zr Tryz.prog ctr) : Vq.Ok Tryz.prog:=by
 refine zp ?_
 rintro ⟨m_,t_⟩ r0 aa
 try unfold Xg at aa
 refine yO true [(4,none)] Zs 90 Tryz.func82 fun E hE => ?_
 obtain ⟨g0,aa⟩:=gdE aa
 obtain ⟨i8,h0,aa⟩:=z8 aa
 refine yJ xg hC Zs [1,1,1,1] [] [] (fun z : Unit => VD = some r0) (fun z => z24) [(2,.own (.box (ze m_))),(3,.own (.box (ze t_))),(5,.own (eOs 1 true eB ((List.replicate (w64 (((m_.Rows.length : Nat) : Int) * ((t_.Rows.length : Nat) : Int))).toNat false).set (0 : Int).toNat true))),(6,.own (eOs 2 true F0_ ([(ye.mk 0 0)])))] [Ha (lnM zw m_.Rows),Ha (lnM zw t_.Rows),Hn (rL g0),Ha (rM 1 eB (w64 (((m_.Rows.length : Nat) : Int) * ((t_.Rows.length : Nat) : Int))) false),Hn (iL eB h0),Hs (iM eB h0),Hs (iM eB h0),Hl (sM eB (List.replicate (w64 (((m_.Rows.length : Nat) : Int) * ((t_.Rows.length : Nat) : Int))).toNat false) 0 true),Hh (.cut 1)] ?_ fun J1 ar => ?_
 ·rintro ⟨⟩ aa
  unfold VD at aa
  obtain rfl:=z7 aa
  exact yE xg hC hE []
 ·obtain ⟨t2,ht2,aa⟩:=z8 aa
  refine yLx xg hC Zs [1,1,1,1,2,0] [J1] (fun s => uX m_ t_ s.1 s.2) (fun x => z22 m_ t_ x.1 x.2) (((List.replicate (w64 (((m_.Rows.length : Nat) : Int) * ((t_.Rows.length : Nat) : Int))).toNat false).set (0 : Int).toNat true),([(ye.mk 0 0)] : List (ye Int))) ht2 [(2,.own (.box (ze m_))),(3,.own (.box (ze t_))),(5,.own (eOs 1 true eB ((List.replicate (w64 (((m_.Rows.length : Nat) : Int) * ((t_.Rows.length : Nat) : Int))).toNat false).set (0 : Int).toNat true))),(6,.own (eOs 2 true F0_ ([(ye.mk 0 0)])))] inferInstance [] ?_
  rintro ⟨ku,list⟩ m2 aw ae hl1 J2 av
  try unfold uX at ae
  let Z0 : List HO:=[Ha (lnM F0_ list)]
  rcases zy ae with ⟨c0,ae⟩ | ⟨c0,ae⟩
  ·obtain ⟨dt,h1,ae⟩:=z8 ae
   obtain ⟨g1,ae⟩:=gdE ae
   obtain ⟨am,h2,ae⟩:=z8 ae
   obtain ⟨t3,ht3,ae⟩:=z8 ae
   refine yL xg hC Zs [1,1,1,1,2,0,0,1,0,1,1,1,0] [J1,J2] (fun s => uW t_ dt am s.1 s.2.1 s.2.2) (fun x => z21 m_ t_ dt am x.1 x.2.1 x.2.2) (ku,(list.take (w64 (((list.length : Nat) : Int) - 1)).toNat),0) ht3  (Z0 ++ [Hq c0,Ha (lnM F0_ list),Hn (iL F0_ h1),Hs (iM F0_ h1),Ha (lnM F0_ list),Hn g1.1,Hn (cuB F0_ g1),Hl (cuM F0_ list (w64 (((list.length : Nat) : Int) - 1))),Hn (⟨rfl,by decide⟩ : true = true ∧ 0 < 2),Hi zw h2,Ha (lnM F8_ am)]) ?_
   rintro ⟨fg,fy,gw⟩ m3 cp ah hl2 J3 bk
   try unfold uW at ah
   rcases zy ah with ⟨c1,ah⟩ | ⟨c1,ah⟩
   ·refine yJ xg hC Zs [1,1,1,1,2,0,0,1,0,1,1,1,0,0,1,1] [J1,J2,J3] [2,3,5,6,7,43,44,45] (fun z : List Bool × List (ye Int) => Zj gw z.1 z.2 = some cp) (fun z => z23 m_ t_ dt am gw z.1 z.2) [(2,.own (.box (ze m_))),(3,.own (.box (ze t_))),(5,.own (eOs 1 true eB fg)),(6,.own (eOs 2 false F0_ fy)),(7,.own (.box (F0_ dt))),(43,.d (eSl 2 false F8_ am)),(44,.d (I ((am.length : Nat) : Int))),(45,.d (I gw))] [Hq c1,Hh (.cut 0)] ?_ fun J4 ca => ?_
    ·rintro ⟨ju,jv⟩ ah
     unfold Zj at ah
     obtain rfl:=z7 ah
     exact yB xg hC bk (ju,jv,w64 (gw + 1)) hl2 []
    ·obtain ⟨ai,h3,ah⟩:=z8 ah
     obtain ⟨bu,h4,ah⟩:=z8 ah
     obtain ⟨aq,h5,ah⟩:=z8 ah
     let Z1 : List HO:=[Hi F8_ h3,Hn (⟨rfl,by decide⟩ : true = true ∧ 1 < 2),Hi zw h4,Hi F8_ h5]
     rcases zy ah with ⟨c2,ah⟩ | ⟨c2,ah⟩
     ·obtain rfl:=z7 ah
      obtain rfl:=hl2
      obtain rfl:=z7 ae
      obtain rfl:=hl1
      obtain rfl:=z7 aa
      exact yE xg hC hE (Z1 ++ [Hq c2])
     ·obtain ⟨lw,h6,ah⟩:=z8 ah
      let Z2 : List HO:=(Z1 ++ [Hq c2,Ha (lnM zw t_.Rows),Hn (iL eB h6),Hs (iM eB h6)])
      rcases zy ah with ⟨c3,ah⟩ | ⟨c3,ah⟩
      ·obtain ⟨mg,h7,ah⟩:=z8 ah
       obtain ⟨g2,ah⟩:=gdE ah
       exact yB xg hC ca ((fg.set (w64 ((w64 (ai.To * ((t_.Rows.length : Nat) : Int))) + aq.To)).toNat true),(fy ++ [(ye.mk ai.To aq.To)])) ah (Z2 ++ [Hq c3,Hn (iL eB h7),Hs (iM eB h7),Hs (iM eB h7),Hl (sM eB fg (w64 ((w64 (ai.To * ((t_.Rows.length : Nat) : Int))) + aq.To)) true),Hq (dM F0_ [(ye.mk ai.To aq.To)]),Hn (dM F0_ [(ye.mk ai.To aq.To)]),Hn (aL F0_ F0_ g2),Hl (aM F0_ fy [(ye.mk ai.To aq.To)])])
      ·exact yB xg hC ca (fg,fy) ah (Z2 ++ [Hq c3])
   ·obtain rfl:=z7 ah
    obtain rfl:=hl2
    obtain rfl:=z7 ae
    exact yB xg hC av (fg,fy) hl1 [Hq c1]
  ·obtain rfl:=z7 ae
   obtain rfl:=hl1
   exact yB xg hC ar () aa (Z0 ++ [Hq c0])
def Zr : Code:=(Tryz.f55.body).getD .skip
def wk : yK:=spF (α:=zS × z4) (ρ:=Bool) 55 (fun x => [(xH ze qH eAn) x.1,ze x.2]) (fun r => eB r) (fun x => xe x.1 x.2) [] (Uv)
abbrev UR (x_ : zS) (t_ : z4) : List (Nat × T):=[(2,.own (.box (.agg [ze x_.m_,eSl 1 false F6_ x_.l_,.dop zev]))),(3,.own (.box (ze t_)))]
abbrev UQ (x_ : zS) (t_ : z4) (gf : Int) : List (Nat × T):=[(2,.own (.box (.agg [ze x_.m_,eSl 1 false F6_ x_.l_,.dop zev]))),(3,.own (.box (ze t_))),(11,.d (eSl 1 false F6_ x_.l_)),(12,.d (I ((x_.l_.length : Nat) : Int))),(13,.d (I gf))]
theorem KT (hC : zr Tryz.prog ctr) (h1t : ctr.Has ZE) (h0p : ctr.Has W2) (h1u : ctr.Has Vq) : wk.Ok Tryz.prog:=by
 refine zp ?_
 rintro ⟨x_,t_⟩ r0 aa
 try unfold xe at aa
 refine yO true [(4,none)] Zr 29 Tryz.func55 fun E hE => ?_
 obtain ⟨r_,h0,aa⟩:=z8 aa
 let Z0 : List HO:=[Hc h1t (x:=t_) h0 (loC ze t_ <| loN)]
 rcases zy aa with ⟨c0,aa⟩ | ⟨c0,aa⟩
 ·obtain rfl:=z7 aa
  exact yE X0 hC hE (Z0 ++ [Hq c0])
 ·refine yJ X0 hC Zr [1,1] [] [2,3] (fun z : Unit => wD x_ t_ = some r0) (fun z => UR x_ t_) [(2,.own (.box (.agg [ze x_.m_,eSl 1 false F6_ x_.l_,.dop zev]))),(3,.own (.box (ze t_)))] (Z0 ++ [Hq c0,Hh (.cut 0)]) ?_ fun J1 ar => ?_
  ·rintro ⟨⟩ aa
   unfold wD at aa
   obtain ⟨aj,h1,aa⟩:=z8 aa
   obtain rfl:=z7 aa
   exact yE X0 hC hE [Hc h1u (x:=(x_.m_,t_)) h1 (loC ze x_.m_ <| loC ze t_ <| loN)]
  ·obtain ⟨t2,ht2,aa⟩:=z8 aa
   refine yL X0 hC Zr [1,1,2,1,0] [J1] (fun s => wC x_ t_ s) (fun x => UQ x_ t_ x) 0 ht2  [Ha (lnM F6_ x_.l_)] ?_
   rintro gf m2 aw ae hl1 J2 av
   try unfold wC at ae
   rcases zy ae with ⟨c1,ae⟩ | ⟨c1,ae⟩
   ·obtain ⟨bj,h2,ae⟩:=z8 ae
    obtain ⟨bc,h3,ae⟩:=z8 ae
    let Z1 : List HO:=[Hq c1,Hi F6_ h2,Hc h0p (x:=(x_.m_,t_,bj)) h3 (loC ze x_.m_ <| loC ze t_ <| loC F6_ bj <| loN)]
    rcases zy ae with ⟨c2,ae⟩ | ⟨c2,ae⟩
    ·obtain rfl:=z7 ae
     obtain rfl:=hl1
     obtain rfl:=z7 aa
     exact yE X0 hC hE (Z1 ++ [Hq c2])
    ·obtain rfl:=z7 ae
     exact yB X0 hC av (w64 (gf + 1)) hl1 (Z1 ++ [Hq c2])
   ·obtain rfl:=z7 ae
    obtain rfl:=hl1
    exact yB X0 hC ar () aa [Hq c1]
end Go.Own
end
