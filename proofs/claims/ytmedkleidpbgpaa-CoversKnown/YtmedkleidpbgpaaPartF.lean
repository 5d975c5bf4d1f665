/- -/
import Derived.Test.YtmedkleidpbgpaaPartE
noncomputable section
set_option linter.unusedVariables false
set_option linter.unusedSimpArgs false
namespace Go.Own
open Go.Proofs
set_option maxRecDepth 100000
set_option maxHeartbeats 8000000
def X0 : XH Try.prog := xB zp
theorem wj : Try.prog.follows .mixedOrders = true := by kernel_rfl
section
variable {ctr : Ctr} {n : Fr} {Q : Exit → St → Prop} {c : Code} {fs : List Fm} {st : St}
theorem yE (X : XH Try.prog) (hC : zA Try.prog ctr) {E : St → Prop} {r : A} {keep : Bool} {rs : List (Nat × Option Nat)} (hE : ∀ st x R U, z3l yh keep rs st = some (x, R, U) → LeV x r → E st) (L : List HO) (e : z8P X yh ctr n keep rs 4000 c fs st (hoH L) = some (r, hoO L) := by kernel_rfl) : AWP Try.prog n c st (Qf Try.prog n fs (z4L E)) := yE6 X zp hC wj hE L e
theorem yEx (X : XH Try.prog) (hC : zA Try.prog ctr) {E : St → Prop} {r : A} {keep : Bool} {rs : List (Nat × Option Nat)} (hE : ∀ st x R U, z3l yh keep rs st = some (x, R, U) → LeV x r → E st) (L : List HO) (x : A) (hle : LeV x r) (e : z8P X yh ctr n keep rs 4000 c fs st (hoH L) = some (x, hoO L) := by kernel_rfl) : AWP Try.prog n c st (Qf Try.prog n fs (z4L E)) := zcg X zp hC wj hE L x hle e
theorem yB (X : XH Try.prog) (hC : zA Try.prog ctr) {τ : Type} {J : St → Prop} {live : List Nat} {S : τ → List (Nat × T)} {Inv : τ → Prop} (hJ : ∀ st' l' z, Inv z → Own.canon live st' = ofL l' → LeL l' (S z) → J st') (z : τ) (hz : Inv z) (L : List HO) (e : K3 X yh ctr n live 4000 c fs st (hoH L) = some (.back J, ofL (S z), hoO L) := by kernel_rfl) : AWP Try.prog n c st (Qf Try.prog n fs Q) := yB6 X zp hC wj hJ z hz L e
theorem yA (X : XH Try.prog) (hC : zA Try.prog ctr) (bd : Code) (path : List Nat) (Js : List (St → Prop)) (l : List (Nat × T)) (L : List HO) (h : AWP Try.prog n (sub path bd) (ofL l) (Qf Try.prog n (frs path Js bd []) Q)) (e : K3 X yh ctr n (Xg l) 4000 c fs st (hoH L) = some (.at (sub path bd) (frs path Js bd []), ofL l, hoO L) := by kernel_rfl) : AWP Try.prog n c st (Qf Try.prog n fs Q) := yA6 X zp hC wj bd path Js l L e h
theorem yAt (X : XH Try.prog) (hC : zA Try.prog ctr) (c' : Code) (fs' : List Fm) (l : List (Nat × T)) (L : List HO) (h : ∀ st0, Own.canon (Xg l) st0 = ofL l → AWP Try.prog n c' st0 (Qf Try.prog n fs' Q)) (e : K3 X yh ctr n (Xg l) 4000 c fs st (hoH L) = some (.at c' fs', ofL l, hoO L) := by kernel_rfl) : AWP Try.prog n c st (Qf Try.prog n fs Q) := zch X zp hC wj c' fs' l L e h
theorem yLx (X : XH Try.prog) (hC : zA Try.prog ctr) (bd : Code) (path : List Nat) (Js : List (St → Prop)) {σ τ : Type} (f : σ → Option (LR σ τ)) (S : σ → List (Nat × T)) (x0 : σ) {t : τ} (ht : loop f x0 = some t) (l : List (Nat × T)) (hl : LeL l (S x0)) (L : List HO) (round : ∀ x m lr, f x = some lr → zaG f m t lr → ∀ J : St → Prop, (∀ st' l' x', YP f m x' = some t → Own.canon (Xg l) st' = ofL l' → LeL l' (S x') → J st') → AWP Try.prog n (sub (path ++ [0]) bd) (ofL (S x)) (Qf Try.prog n (.pre J :: frs path Js bd []) Q)) (e : K3 X yh ctr n (Xg l) 4000 c fs st (hoH L) = some (.at (sub path bd) (frs path Js bd []), ofL l, hoO L) := by kernel_rfl) (e2 : sub path bd = .loop (sub (path ++ [0]) bd) := by kernel_rfl) (hk : ∀ x, Xg (S x) = Xg l := by exact fun _ => rfl) : AWP Try.prog n c st (Qf Try.prog n fs Q) := yL6 X zp hC wj bd path Js f S x0 ht l hl L hk e e2 round
theorem yL (X : XH Try.prog) (hC : zA Try.prog ctr) (bd : Code) (path : List Nat) (Js : List (St → Prop)) {σ τ : Type} (f : σ → Option (LR σ τ)) (S : σ → List (Nat × T)) (x0 : σ) {t : τ} (ht : loop f x0 = some t) (L : List HO) (round : ∀ x m lr, f x = some lr → zaG f m t lr → ∀ J : St → Prop, (∀ st' l' x', YP f m x' = some t → Own.canon (Xg (S x0)) st' = ofL l' → LeL l' (S x') → J st') → AWP Try.prog n (sub (path ++ [0]) bd) (ofL (S x)) (Qf Try.prog n (.pre J :: frs path Js bd []) Q)) (e : K3 X yh ctr n (Xg (S x0)) 4000 c fs st (hoH L) = some (.at (sub path bd) (frs path Js bd []), ofL (S x0), hoO L) := by kernel_rfl) (e2 : sub path bd = .loop (sub (path ++ [0]) bd) := by kernel_rfl) (hk : ∀ x, Xg (S x) = Xg (S x0) := by exact fun _ => rfl) : AWP Try.prog n c st (Qf Try.prog n fs Q) := yL6 X zp hC wj bd path Js f S x0 ht _ (LeL.refl _) L hk e e2 round
theorem yJ (X : XH Try.prog) (hC : zA Try.prog ctr) (bd : Code) (path : List Nat) (Js : List (St → Prop)) {σ : Type} (live : List Nat) (Inv : σ → Prop) (S : σ → List (Nat × T)) (l : List (Nat × T)) (L : List HO) (h1 : ∀ z, Inv z → AWP Try.prog n (sub (path ++ [1]) bd) (ofL (S z)) (Qf Try.prog n (frs path Js bd []) Q)) (h2 : ∀ J : St → Prop, (∀ st' l' z, Inv z → Own.canon live st' = ofL l' → LeL l' (S z) → J st') → AWP Try.prog n (sub (path ++ [2]) bd) (ofL l) (Qf Try.prog n (.pre J :: frs path Js bd []) Q)) (e : K3 X yh ctr n (Xg l) 4000 c fs st (hoH L) = some (.at (sub path bd) (frs path Js bd []), ofL l, hoO L) := by kernel_rfl) (e2 : sub path bd = .seq (sub (path ++ [2]) bd) (sub (path ++ [1]) bd) := by kernel_rfl) : AWP Try.prog n c st (Qf Try.prog n fs Q) := yJ6 X zp hC wj bd path Js live Inv S l L e e2 h1 h2
theorem yF (X : XH Try.prog) (hC : zA Try.prog ctr) (ex : Exit) (l : List (Nat × T)) (L : List HO) (h : ∀ st0, Own.canon (Xg l) st0 = ofL l → Q ex st0) (e : K3 X yh ctr n (Xg l) 4000 c fs st (hoH L) = some (.fin ex, ofL l, hoO L) := by kernel_rfl) : AWP Try.prog n c st (Qf Try.prog n fs Q) := yF6 X zp hC wj ex l L e h
theorem yO {k : Nat} {fn : Func} {r : A} {ls : List A} (keep : Bool) (rs : List (Nat × Option Nat)) (body : Code) (nt : Nat) (hf : Try.prog.funcs[k]? = some fn) (h : ∀ E : St → Prop, (∀ st x R U, z3l yh keep rs st = some (x, R, U) → LeV x r → E st) → AWP Try.prog ⟨nt, []⟩ body (ofL (z2J 0 ls)) (Qf Try.prog ⟨nt, []⟩ [] (z4L E))) (hb : fn.body = some body := by kernel_rfl) (hn : nt = fn.ntmps := by exact rfl) (hr : fn.results = (rs.map Ke).toArray := by exact rfl) (hnm : (fn.name == "runtime.NumGoroutine") = false := by exact rfl) (ha : Nat.ble ls.length nt = true := by kernel_rfl) : ZU Try.prog k ls r := yO6 zp keep rs body nt hf hb hn hr hnm ha h
end
theorem z7N : zaF Try.prog 99 9 := z7z (e := 5) Try.underlying99 Try.underlying5 Try.underlying9
theorem z86 : z8G Try.prog 63 9 4 Jz (.atom (.bool false)) := z5D Try.underlying63 Try.underlying9 ⟨.bool false, fun w => z4Q (f := Try.t4) (by kernel_rfl) rfl w, fun S => vg.2 ⟨rfl, rfl⟩⟩ rfl
theorem z8h : z0j Try.prog 54 0 51 0 := z0a Try.underlying54 _ rfl rfl rfl
theorem z8g : z0j Try.prog 54 1 52 1 := z0a Try.underlying54 _ rfl rfl rfl
theorem zaP : z8F Try.prog 62 1 false := z5e zp (t := 29) Try.so62 rfl rfl (by kernel_rfl) (by decide)
def Vd : Code := (Try.f114.body).getD .skip
def qY : w6 := spF (α := Unit) (ρ := z8) 114 (fun x => []) (fun r => F6_ r) (fun x => jo) [] (fun _ _ _ => rfl)
variable {ctr : Ctr}
theorem VL (hC : zA Try.prog ctr) : qY.Ok Try.prog := by
 refine zH ?_
 rintro ⟨⟩ r0 aa
 try unfold jo at aa
 refine yO false [(0, some 46)] Vd 2 Try.func114 fun E hE => ?_
 obtain rfl := zb aa
 exact yE X0 hC hE []
def Ve : Code := (Try.f97.body).getD .skip
def qZ : w6 := spF (α := z6 × z8) (ρ := Bool) 97 (fun x => [vu x.1, F6_ x.2]) (fun r => eB r) (fun x => uA x.1 x.2) [] (Xt)
theorem VN (hC : zA Try.prog ctr) (h0s : ctr.Has qY) : qZ.Ok Try.prog := by
 refine zH ?_
 rintro ⟨m_, x_⟩ r0 aa
 try unfold uA at aa
 refine yO true [(4, none)] Ve 33 Try.func97 fun E hE => ?_
 obtain ⟨r_, h0, aa⟩ := zh aa
 let Z0 : List HO := [Hc h0s (x := ()) h0 (loN)]
 rcases y4 aa with ⟨c0, aa⟩ | ⟨c0, aa⟩
 ·obtain rfl := zb aa
  exact yE X0 hC hE (Z0 ++ (rpN 10 (Hq c0) []))
 ·let Z1 : List HO := (Z0 ++ (rpN 4 (Hq c0) []))
  rcases y4 aa with ⟨c1, aa⟩ | ⟨c1, aa⟩
  ·let Z2 : List HO := (Z1 ++ (rpN 5 (Hq c1) [Ha (lnM qR m_.Rows), Hq c1, Hq c0, Hq c1, Hq c0]))
   rcases y4 aa with ⟨c2, aa⟩ | ⟨c2, aa⟩
   ·let Z3 : List HO := (Z2 ++ [Hq c2, Hq c2, Hq c2, Hq c0, Hq c2, Hq c0])
    rcases y4 aa with ⟨c3, aa⟩ | ⟨c3, aa⟩
    ·obtain rfl := zb aa
     exact yE X0 hC hE (Z3 ++ (rpN 5 (Hq c3) [Hq c0, Hq c3, Hq c0]))
    ·obtain rfl := zb aa
     exact yE X0 hC hE (Z3 ++ (rpN 5 (Hq c3) [Hq c0, Hq c3, Hq c0]))
   ·obtain rfl := zb aa
    exact yE X0 hC hE (Z2 ++ (Hq c2 :: Hq c2 :: Hq c2 :: Hq c0 :: Hq c2 :: Hq c0 :: (rpN 5 qF [Hq c0, qF, Hq c0])))
  ·obtain rfl := zb aa
   exact yE X0 hC hE (Z1 ++ (rpN 6 (Hq c1) (Hq c0 :: Hq c1 :: Hq c0 :: qF :: qF :: qF :: Hq c0 :: qF :: Hq c0 :: (rpN 5 qF [Hq c0, qF, Hq c0]))))
def Xn : Code := (Try.f96.body).getD .skip
def uc : w6 := spF (α := z8 × z6) (ρ := Bool) 96 (fun x => [F6_ x.1, z6r x.2]) (fun r => eB r) (fun x => u9 x.1 x.2) [] (Xt)
theorem Xv (hC : zA Try.prog ctr) (h0t : ctr.Has qZ) : uc.Ok Try.prog := by
 refine zH ?_
 rintro ⟨x_, x1⟩ r0 aa
 try unfold u9 at aa
 refine yO true [(3, none)] Xn 8 Try.func96 fun E hE => ?_
 obtain ⟨r_, h0, aa⟩ := zh aa
 obtain rfl := zb aa
 exact yE X0 hC hE [Hc h0t (x := (x1, x_)) h0 (loC vu x1 <| loC F6_ x_ <| loN)]
def yl : Code := (Try.f113.body).getD .skip
def yi : w6 := spF (α := List z8 × z6) (ρ := Int) 113 (fun x => [qR x.1, (Yp 96 z6r) x.2]) (fun r => (eI .i64) r) (fun x => y7 x.1 x.2) [] (by
 rintro ⟨a0, a1⟩ ⟨b0, b1⟩ h
 have e0 := qw.inj (f := qR) _ _ (List.cons.inj h).1
 replace h := (List.cons.inj h).2
 have e1 := qw.inj (f := (Yp 96 z6r)) _ _ (List.cons.inj h).1
 subst e0 e1
 rfl)
abbrev vD : List (Nat × T) := []
abbrev vC (s_ : List z8) (f_ : z6) (x8 : Int) : List (Nat × T) := [(0, .d (eSl 2 false F6_ s_)), (1, .d (.fn 96 [.sptr (.agg [I f_.Inputs, I f_.Outputs, eSl 1 false qR f_.Rows])])), (7, .d (I ((s_.length : Nat) : Int))), (8, .d (I x8))]
theorem u4 (hC : zA Try.prog ctr) (h0u : ctr.Has uc) : yi.Ok Try.prog := by
 refine zH ?_
 rintro ⟨s_, f_⟩ r0 aa
 try unfold y7 at aa
 refine yO true [(4, none)] yl 19 Try.func113 fun E hE => ?_
 refine yJ X0 hC yl [1] [] [] (fun z : Unit => yj = some r0) (fun z => vD) [(0, .d (eSl 2 false F6_ s_)), (1, .d (.fn 96 [.sptr (.agg [I f_.Inputs, I f_.Outputs, eSl 1 false qR f_.Rows])]))] [Hh (.cut 1)] ?_ fun J1 ba => ?_
 ·rintro ⟨⟩ aa
  unfold yj at aa
  obtain rfl := zb aa
  exact yE X0 hC hE []
 ·obtain ⟨t2, ht2, aa⟩ := zh aa
  refine yL X0 hC yl [1,2,1,0] [J1] (fun s => zB s_ f_ s) (fun x => vC s_ f_ x) 0 ht2  [Ha (lnM F6_ s_)] ?_
  rintro x8 m2 bn ae hl1 J2 bg
  try unfold zB at ae
  rcases y4 ae with ⟨c0, ae⟩ | ⟨c0, ae⟩
  ·obtain ⟨bi, h0, ae⟩ := zh ae
   obtain ⟨r_, h1, ae⟩ := zh ae
   let Z0 : List HO := [Hq c0, Hi F6_ h0, Hc h0u (x := (bi, f_)) h1 (loC F6_ bi <| loC z6r f_ <| loN)]
   rcases y4 ae with ⟨c1, ae⟩ | ⟨c1, ae⟩
   ·obtain rfl := zb ae
    obtain rfl := hl1
    obtain rfl := zb aa
    exact yE X0 hC hE (Z0 ++ [Hq c1])
   ·obtain rfl := zb ae
    exact yB X0 hC bg (w64 (x8 + 1)) hl1 (Z0 ++ [Hq c1])
  ·obtain rfl := zb ae
   obtain rfl := hl1
   exact yB X0 hC ba () aa [Hq c0]
def vB : Code := (Try.f95.body).getD .skip
def yb : w6 := spF (α := List z8 × z6) (ρ := Bool) 95 (fun x => [qR x.1, (Yp 96 z6r) x.2]) (fun r => eB r) (fun x => zJ x.1 x.2) [] (by
 rintro ⟨a0, a1⟩ ⟨b0, b1⟩ h
 have e0 := qw.inj (f := qR) _ _ (List.cons.inj h).1
 replace h := (List.cons.inj h).2
 have e1 := qw.inj (f := (Yp 96 z6r)) _ _ (List.cons.inj h).1
 subst e0 e1
 rfl)
theorem vE {ctr : Ctr} (hC : zA Try.prog ctr) (h0v : ctr.Has yi) : yb.Ok Try.prog := by
 refine zH ?_
 rintro ⟨s_, f_⟩ r0 aa
 try unfold zJ at aa
 refine yO true [(4, none)] vB 9 Try.func95 fun E hE => ?_
 obtain ⟨r_, h0, aa⟩ := zh aa
 obtain rfl := zb aa
 exact yE X0 hC hE [Hc h0v (x := (s_, f_)) h0 (loC qR s_ <| loC (Yp 96 z6r) f_ <| loN)]
def qp : Code := (Try.f77.body).getD .skip
def wO : w6 := spF (α := z6) (ρ := Int) 77 (fun x => [vu x]) (fun r => (eI .i64) r) (fun x => ww x) [] (Qg)
abbrev YT : List (Nat × T) := []
abbrev YS (m_ : z6) (ga : Int) : List (Nat × T) := [(1, .d (.sptr (vu m_))), (34, .d (eSl 1 false qR m_.Rows)), (35, .d (I ((m_.Rows.length : Nat) : Int))), (36, .d (I ga))]
theorem V6 (hC : zA Try.prog ctr) (h0w : ctr.Has yb) : wO.Ok Try.prog := by
 refine zH ?_
 rintro m_ r0 aa
 try unfold ww at aa
 refine yO true [(2, none)] qp 51 Try.func77 fun E hE => ?_
 rcases y4 aa with ⟨c0, aa⟩ | ⟨c0, aa⟩
 ·obtain rfl := zb aa
  exact yE X0 hC hE (rpN 4 (Hq c0) (rpN 6 qT []))
 ·let Z0 : List HO := (rpN 4 (Hq c0) [])
  rcases y4 aa with ⟨c1, aa⟩ | ⟨c1, aa⟩
  ·obtain rfl := zb aa
   exact yE X0 hC hE (Z0 ++ (rpN 5 (Hq c1) [qT]))
  ·let Z1 : List HO := (Z0 ++ [Hq c1, Hq c1, Hq c1, Ha (lnM qR m_.Rows), Hq c1, Hq c1])
   rcases y4 aa with ⟨c2, aa⟩ | ⟨c2, aa⟩
   ·obtain rfl := zb aa
    exact yE X0 hC hE (Z1 ++ [Hq c2])
   ·rcases y4 aa with ⟨c3, aa⟩ | ⟨c3, aa⟩
    ·obtain rfl := zb aa
     exact yE X0 hC hE (Z1 ++ (Hq c2 :: (rpN 4 (Hq c3) (rpN 6 qT []))))
    ·let Z2 : List HO := (Z1 ++ (Hq c2 :: (rpN 4 (Hq c3) [])))
     rcases y4 aa with ⟨c4, aa⟩ | ⟨c4, aa⟩
     ·obtain rfl := zb aa
      exact yE X0 hC hE (Z2 ++ (rpN 5 (Hq c4) [qT]))
     ·let Z3 : List HO := (Z2 ++ [Hq c4, Hq c4, Hq c4, Ha (lnM qR m_.Rows), Hq c4, Hq c4])
      rcases y4 aa with ⟨c5, aa⟩ | ⟨c5, aa⟩
      ·obtain rfl := zb aa
       exact yE X0 hC hE (Z3 ++ [Hq c5])
      ·refine yJ X0 hC qp [1,1,1] [] [] (fun z : Unit => qe = some r0) (fun z => YT) [(1, .own (.box (vu m_)))] (Z3 ++ [Hq c5, Hh (.cut 0)]) ?_ fun J1 ba => ?_
       ·rintro ⟨⟩ aa
        unfold qe at aa
        obtain rfl := zb aa
        exact yE X0 hC hE []
       ·obtain ⟨t2, ht2, aa⟩ := zh aa
        refine yL X0 hC qp [1,1,1,2,1,0] [J1] (fun s => xQ m_ s) (fun x => YS m_ x) 0 ht2  [Ha (lnM qR m_.Rows), Hh (.n 1 [1])] ?_
        rintro ga m2 bn ae hl1 J2 bg
        try unfold xQ at ae
        rcases y4 ae with ⟨c6, ae⟩ | ⟨c6, ae⟩
        ·obtain ⟨ax, h0, ae⟩ := zh ae
         let Z4 : List HO := [Hq c6, Hi qR h0, Ha (lnM F6_ ax)]
         rcases y4 ae with ⟨c7, ae⟩ | ⟨c7, ae⟩
         ·obtain rfl := zb ae
          obtain rfl := hl1
          obtain rfl := zb aa
          exact yE X0 hC hE (Z4 ++ (rpN 4 (Hq c7) [qT]))
         ·obtain ⟨r_, h1, ae⟩ := zh ae
          let Z5 : List HO := (Z4 ++ [Hq c7, Hq c7, Hq c7, Hc h0w (x := (ax, m_)) h1 (loC qR ax <| loC (Yp 96 z6r) m_ <| loN), Hq c7])
          rcases y4 ae with ⟨c8, ae⟩ | ⟨c8, ae⟩
          ·obtain rfl := zb ae
           obtain rfl := hl1
           obtain rfl := zb aa
           exact yE X0 hC hE (Z5 ++ [Hq c8])
          ·obtain rfl := zb ae
           exact yB X0 hC bg (w64 (ga + 1)) hl1 (Z5 ++ [Hq c8])
        ·obtain rfl := zb ae
         obtain rfl := hl1
         exact yB X0 hC ba () aa [Hq c6]
def Vc : Code := (Try.f91.body).getD .skip
def qW : w6 := spF (α := Int × Int) (ρ := Bool) 91 (fun x => [(eI .i64) x.1, (eSp (eI .i64)) x.2]) (fun r => eB r) (fun x => jh x.1 x.2) [] (Xt)
theorem VJ (hC : zA Try.prog ctr) : qW.Ok Try.prog := by
 refine zH ?_
 rintro ⟨c_, x1⟩ r0 aa
 try unfold jh at aa
 refine yO true [(3, none)] Vc 11 Try.func91 fun E hE => ?_
 rcases y4 aa with ⟨c0, aa⟩ | ⟨c0, aa⟩
 ·obtain rfl := zb aa
  exact yE X0 hC hE (rpN 4 (Hq c0) [])
 ·obtain rfl := zb aa
  exact yE X0 hC hE (rpN 4 (Hq c0) [])
def w4 : Code := (Try.f94.body).getD .skip
def xT : w6 := spF (α := List Int × Int) (ρ := Int) 94 (fun x => [F2_ x.1, (Yp 91 (eSp (eI .i64))) x.2]) (fun r => (eI .i64) r) (fun x => xy x.1 x.2) [] (by
 rintro ⟨a0, a1⟩ ⟨b0, b1⟩ h
 have e0 := qw.inj (f := F2_) _ _ (List.cons.inj h).1
 replace h := (List.cons.inj h).2
 have e1 := qw.inj (f := (Yp 91 (eSp (eI .i64)))) _ _ (List.cons.inj h).1
 subst e0 e1
 rfl)
abbrev qQ : List (Nat × T) := []
abbrev qP (s_ : List Int) (f_ : Int) (x8 : Int) : List (Nat × T) := [(0, .d (eSl 1 false (eI .i64) s_)), (1, .d (.fn 91 [.sptr (I f_)])), (7, .d (I ((s_.length : Nat) : Int))), (8, .d (I x8))]
theorem jP (hC : zA Try.prog ctr) (h0x : ctr.Has qW) : xT.Ok Try.prog := by
 refine zH ?_
 rintro ⟨s_, f_⟩ r0 aa
 try unfold xy at aa
 refine yO true [(4, none)] w4 19 Try.func94 fun E hE => ?_
 refine yJ X0 hC w4 [1] [] [] (fun z : Unit => xV = some r0) (fun z => qQ) [(0, .d (eSl 1 false (eI .i64) s_)), (1, .d (.fn 91 [.sptr (I f_)]))] [Hh (.cut 1)] ?_ fun J1 ba => ?_
 ·rintro ⟨⟩ aa
  unfold xV at aa
  obtain rfl := zb aa
  exact yE X0 hC hE []
 ·obtain ⟨t2, ht2, aa⟩ := zh aa
  refine yL X0 hC w4 [1,2,1,0] [J1] (fun s => zX s_ f_ s) (fun x => qP s_ f_ x) 0 ht2  [Ha (lnM (eI .i64) s_)] ?_
  rintro x8 m2 bn ae hl1 J2 bg
  try unfold zX at ae
  rcases y4 ae with ⟨c0, ae⟩ | ⟨c0, ae⟩
  ·obtain ⟨bi, h0, ae⟩ := zh ae
   obtain ⟨r_, h1, ae⟩ := zh ae
   let Z0 : List HO := [Hq c0, Hi (eI .i64) h0, Hc h0x (x := (bi, f_)) h1 (loC (eI .i64) bi <| loC (eSp (eI .i64)) f_ <| loN)]
   rcases y4 ae with ⟨c1, ae⟩ | ⟨c1, ae⟩
   ·obtain rfl := zb ae
    obtain rfl := hl1
    obtain rfl := zb aa
    exact yE X0 hC hE (Z0 ++ [Hq c1])
   ·obtain rfl := zb ae
    exact yB X0 hC bg (w64 (x8 + 1)) hl1 (Z0 ++ [Hq c1])
  ·obtain rfl := zb ae
   obtain rfl := hl1
   exact yB X0 hC ba () aa [Hq c0]
def qM : Code := (Try.f73.body).getD .skip
def xo : w6 := spF (α := List Int × Int) (ρ := Bool) 73 (fun x => [F2_ x.1, (Yp 91 (eSp (eI .i64))) x.2]) (fun r => eB r) (fun x => yP x.1 x.2) [] (by
 rintro ⟨a0, a1⟩ ⟨b0, b1⟩ h
 have e0 := qw.inj (f := F2_) _ _ (List.cons.inj h).1
 replace h := (List.cons.inj h).2
 have e1 := qw.inj (f := (Yp 91 (eSp (eI .i64)))) _ _ (List.cons.inj h).1
 subst e0 e1
 rfl)
theorem qU (hC : zA Try.prog ctr) (h0y : ctr.Has xT) : xo.Ok Try.prog := by
 refine zH ?_
 rintro ⟨s_, f_⟩ r0 aa
 try unfold yP at aa
 refine yO true [(4, none)] qM 9 Try.func73 fun E hE => ?_
 obtain ⟨r_, h0, aa⟩ := zh aa
 obtain rfl := zb aa
 exact yE X0 hC hE [Hc h0y (x := (s_, f_)) h0 (loC F2_ s_ <| loC (Yp 91 (eSp (eI .i64))) f_ <| loN)]
def Qi : Code := (Try.f68.body).getD .skip
def kq : w6 := spF (α := List Int × Int) (ρ := Int) 68 (fun x => [F2_ x.1, (eI .i64) x.2]) (fun r => (eI .i64) r) (fun x => uT x.1 x.2) [] (Xt)
theorem QY (hC : zA Try.prog ctr) (h0z : ctr.Has xo) : kq.Ok Try.prog := by
 refine zH ?_
 rintro ⟨w_, inputs⟩ r0 aa
 try unfold uT at aa
 refine yO true [(4, none)] Qi 19 Try.func68 fun E hE => ?_
 rcases y4 aa with ⟨c0, aa⟩ | ⟨c0, aa⟩
 ·obtain rfl := zb aa
  exact yE X0 hC hE (rpN 4 (Hq c0) [qT])
 ·let Z0 : List HO := [Hq c0, Hq c0, Ha (lnM (eI .i64) w_), Hq c0, Hq c0]
  rcases y4 aa with ⟨c1, aa⟩ | ⟨c1, aa⟩
  ·obtain rfl := zb aa
   exact yE X0 hC hE (Z0 ++ [Hq c1])
  ·rcases y4 aa with ⟨c2, aa⟩ | ⟨c2, aa⟩
   ·obtain rfl := zb aa
    exact yE X0 hC hE (Z0 ++ (Hq c1 :: (rpN 4 (Hq c2) [qT])))
   ·obtain ⟨r_, h0, aa⟩ := zh aa
    let Z1 : List HO := (Z0 ++ [Hq c1, Hq c2, Hq c2, Hq c2, Hc h0z (x := (w_, inputs)) h0 (loC F2_ w_ <| loC (Yp 91 (eSp (eI .i64))) inputs <| loN), Hq c2])
    rcases y4 aa with ⟨c3, aa⟩ | ⟨c3, aa⟩
    ·obtain rfl := zb aa
     exact yE X0 hC hE (Z1 ++ [Hq c3])
    ·obtain rfl := zb aa
     exact yE X0 hC hE (Z1 ++ [Hq c3])
def kC : Code := (Try.f28.body).getD .skip
def qD : w6 := spF (α := List (List Int) × Int) (ρ := Int) 28 (fun x => [F9_ x.1, (eI .i64) x.2]) (fun r => (eI .i64) r) (fun x => uX x.1 x.2) [] (Xt)
abbrev WE : List (Nat × T) := []
abbrev WD (l_ : List (List Int)) (inputs : Int) (gb : Int) : List (Nat × T) := [(1, .d (I inputs)), (17, .d (eSl 1 false F2_ l_)), (18, .d (I ((l_.length : Nat) : Int))), (19, .d (I gb))]
theorem J9 (hC : zA Try.prog ctr) (h0A : ctr.Has kq) : qD.Ok Try.prog := by
 refine zH ?_
 rintro ⟨l_, inputs⟩ r0 aa
 try unfold uX at aa
 refine yO true [(4, none)] kC 30 Try.func28 fun E hE => ?_
 rcases y4 aa with ⟨c0, aa⟩ | ⟨c0, aa⟩
 ·obtain rfl := zb aa
  exact yE X0 hC hE (rpN 4 (Hq c0) [qT])
 ·let Z0 : List HO := [Hq c0, Hq c0, Ha (lnM F2_ l_), Hq c0, Hq c0]
  rcases y4 aa with ⟨c1, aa⟩ | ⟨c1, aa⟩
  ·obtain rfl := zb aa
   exact yE X0 hC hE (Z0 ++ [Hq c1])
  ·rcases y4 aa with ⟨c2, aa⟩ | ⟨c2, aa⟩
   ·obtain rfl := zb aa
    exact yE X0 hC hE (Z0 ++ [Hq c1, Hq c2])
   ·refine yJ X0 hC kC [1,1,1] [] [] (fun z : Unit => ko = some r0) (fun z => WE) [(0, .d (eSl 1 false F2_ l_)), (1, .d (I inputs))] (Z0 ++ [Hq c1, Hq c2, Hh (.cut 0)]) ?_ fun J1 ba => ?_
    ·rintro ⟨⟩ aa
     unfold ko at aa
     obtain rfl := zb aa
     exact yE X0 hC hE []
    ·obtain ⟨t2, ht2, aa⟩ := zh aa
     refine yL X0 hC kC [1,1,1,2,1,0] [J1] (fun s => vm l_ inputs s) (fun x => WD l_ inputs x) 0 ht2  [Ha (lnM F2_ l_)] ?_
     rintro gb m2 bn ae hl1 J2 bg
     try unfold vm at ae
     rcases y4 ae with ⟨c3, ae⟩ | ⟨c3, ae⟩
     ·obtain ⟨av, h0, ae⟩ := zh ae
      obtain ⟨r_, h1, ae⟩ := zh ae
      let Z1 : List HO := [Hq c3, Hi F2_ h0, Hc h0A (x := (av, inputs)) h1 (loC F2_ av <| loC (eI .i64) inputs <| loN)]
      rcases y4 ae with ⟨c4, ae⟩ | ⟨c4, ae⟩
      ·obtain rfl := zb ae
       obtain rfl := hl1
       obtain rfl := zb aa
       exact yE X0 hC hE (Z1 ++ [Hq c4])
      ·obtain rfl := zb ae
       exact yB X0 hC bg (w64 (gb + 1)) hl1 (Z1 ++ [Hq c4])
     ·obtain rfl := zb ae
      obtain rfl := hl1
      exact yB X0 hC ba () aa [Hq c3]
def Vi : Code := (Try.f112.body).getD .skip
def j5 : w6 := spF (α := Int) (ρ := Bool) 112 (fun x => [(eI .i64) x]) (fun r => eB r) (fun x => uB x) [] (Qg)
theorem VR (hC : zA Try.prog ctr) : j5.Ok Try.prog := by
 refine zH ?_
 rintro x_ r0 aa
 try unfold uB at aa
 refine yO true [(2, none)] Vi 6 Try.func112 fun E hE => ?_
 obtain rfl := zb aa
 exact yE X0 hC hE []
def XT : Code := (Try.f89.body).getD .skip
def vz : w6 := spF (α := Int × Int) (ρ := Int) 89 (fun x => [(eI .i64) x.1, (eI .i64) x.2]) (fun r => (eI .i64) r) (fun x => wS x.1 x.2) [] (Xt)
theorem W9 (hC : zA Try.prog ctr) (h0l : ctr.Has j5) : vz.Ok Try.prog := by
 refine zH ?_
 rintro ⟨x_, y_⟩ r0 aa
 try unfold wS at aa
 refine yO true [(4, none)] XT 20 Try.func89 fun E hE => ?_
 obtain ⟨r_, h0, aa⟩ := zh aa
 obtain ⟨ai, h1, aa⟩ := zh aa
 let Z0 : List HO := [Hc h0l (x := x_) h0 (loC (eI .i64) x_ <| loN), Hc h0l (x := y_) h1 (loC (eI .i64) y_ <| loN)]
 rcases y4 aa with ⟨c0, aa⟩ | ⟨c0, aa⟩
 ·rcases y4 aa with ⟨c1, aa⟩ | ⟨c1, aa⟩
  ·obtain rfl := zb aa
   exact yE X0 hC hE (Z0 ++ [Hq c0, Hq c1])
  ·obtain rfl := zb aa
   exact yE X0 hC hE (Z0 ++ [Hq c0, Hq c1])
 ·rcases y4 aa with ⟨c2, aa⟩ | ⟨c2, aa⟩
  ·obtain rfl := zb aa
   exact yE X0 hC hE (Z0 ++ [Hq c0, Hq c2])
  ·rcases y4 aa with ⟨c3, aa⟩ | ⟨c3, aa⟩
   ·obtain rfl := zb aa
    exact yE X0 hC hE (Z0 ++ [Hq c0, Hq c2, Hq c3])
   ·rcases y4 aa with ⟨c4, aa⟩ | ⟨c4, aa⟩
    ·obtain rfl := zb aa
     exact yE X0 hC hE (Z0 ++ [Hq c0, Hq c2, Hq c3, Hq c4])
    ·obtain rfl := zb aa
     exact yE X0 hC hE (Z0 ++ [Hq c0, Hq c2, Hq c3, Hq c4])
def wC : Code := (Try.f90.body).getD .skip
def wu : w6 := spF (α := List Int × List Int) (ρ := Int) 90 (fun x => [F2_ x.1, F2_ x.2]) (fun r => (eI .i64) r) (fun x => xc x.1 x.2) [] (Xt)
abbrev ju (s1 : List Int) (s2 : List Int) : List (Nat × T) := [(0, .d (eSl 1 false (eI .i64) s1)), (1, .d (eSl 1 false (eI .i64) s2))]
abbrev jt (s1 : List Int) (s2 : List Int) (cq : Int) : List (Nat × T) := [(0, .d (eSl 1 false (eI .i64) s1)), (1, .d (eSl 1 false (eI .i64) s2)), (9, .d (eSl 1 false (eI .i64) s1)), (10, .d (I ((s1.length : Nat) : Int))), (11, .d (I cq))]
theorem kI (hC : zA Try.prog ctr) (h0f : ctr.Has vz) : wu.Ok Try.prog := by
 refine zH ?_
 rintro ⟨s1, s2⟩ r0 aa
 try unfold xc at aa
 refine yO true [(4, none)] wC 36 Try.func90 fun E hE => ?_
 refine yJ X0 hC wC [1] [] [0,1] (fun z : Unit => xj s1 s2 = some r0) (fun z => ju s1 s2) [(0, .d (eSl 1 false (eI .i64) s1)), (1, .d (eSl 1 false (eI .i64) s2))] [Hh (.cut 1)] ?_ fun J1 ba => ?_
 ·rintro ⟨⟩ aa
  unfold xj at aa
  let Z0 : List HO := [Ha (lnM (eI .i64) s1), Ha (lnM (eI .i64) s2)]
  rcases y4 aa with ⟨c0, aa⟩ | ⟨c0, aa⟩
  ·obtain rfl := zb aa
   exact yE X0 hC hE (Z0 ++ [Hq c0])
  ·obtain rfl := zb aa
   exact yE X0 hC hE (Z0 ++ [Hq c0])
 ·obtain ⟨t2, ht2, aa⟩ := zh aa
  refine yL X0 hC wC [1,2,1,0] [J1] (fun s => y9 s1 s2 s) (fun x => jt s1 s2 x) 0 ht2  [Ha (lnM (eI .i64) s1)] ?_
  rintro cq m2 bn ae hl1 J2 bg
  try unfold y9 at ae
  rcases y4 ae with ⟨c1, ae⟩ | ⟨c1, ae⟩
  ·obtain ⟨ii, h0, ae⟩ := zh ae
   let Z1 : List HO := [Hq c1, Hi (eI .i64) h0, Ha (lnM (eI .i64) s2)]
   rcases y4 ae with ⟨c2, ae⟩ | ⟨c2, ae⟩
   ·obtain rfl := zb ae
    obtain rfl := hl1
    obtain rfl := zb aa
    exact yE X0 hC hE (Z1 ++ [Hq c2])
   ·obtain ⟨gl, h1, ae⟩ := zh ae
    obtain ⟨r_, h2, ae⟩ := zh ae
    let Z2 : List HO := (Z1 ++ [Hq c2, Hi (eI .i64) h1, Hc h0f (x := (ii, gl)) h2 (loC (eI .i64) ii <| loC (eI .i64) gl <| loN)])
    rcases y4 ae with ⟨c3, ae⟩ | ⟨c3, ae⟩
    ·obtain rfl := zb ae
     obtain rfl := hl1
     obtain rfl := zb aa
     exact yE X0 hC hE (Z2 ++ [Hq c3])
    ·obtain rfl := zb ae
     exact yB X0 hC bg (w64 (cq + 1)) hl1 (Z2 ++ [Hq c3])
  ·obtain rfl := zb ae
   obtain rfl := hl1
   exact yB X0 hC ba () aa [Hq c1]
def ZK : Code := (Try.f88.body).getD .skip
def Zf : w6 := spF (α := List Int) (ρ := Int) 88 (fun x => [F2_ x]) (fun r => (eI .i64) r) (fun x => kQ x) [] (Qg)
abbrev Vu : List (Nat × T) := [(3, .d (I 0))]
abbrev Vt (vals : List Int) (x8 : Int) : List (Nat × T) := [(3, .d (I 0)), (6, .d (eSl 1 false (eI .i64) vals)), (7, .d (I ((vals.length : Nat) : Int))), (8, .d (I x8))]
theorem Kc (hC : zA Try.prog ctr) : Zf.Ok Try.prog := by
 refine zH ?_
 rintro vals r0 aa
 try unfold kQ at aa
 refine yO true [(2, none)] ZK 18 Try.func88 fun E hE => ?_
 refine yJ X0 hC ZK [1,1] [] [3] (fun z : Unit => jp = some r0) (fun z => Vu) [(0, .d (eSl 1 false (eI .i64) vals)), (3, .d (I 0))] [Hh (.cut 2)] ?_ fun J1 ba => ?_
 ·rintro ⟨⟩ aa
  unfold jp at aa
  obtain rfl := zb aa
  exact yE X0 hC hE []
 ·obtain ⟨t2, ht2, aa⟩ := zh aa
  refine yL X0 hC ZK [1,1,2,1,0] [J1] (fun s => vV vals s) (fun x => Vt vals x) 0 ht2  [Ha (lnM (eI .i64) vals)] ?_
  rintro x8 m2 bn ae hl1 J2 bg
  try unfold vV at ae
  rcases y4 ae with ⟨c0, ae⟩ | ⟨c0, ae⟩
  ·obtain ⟨gm, h0, ae⟩ := zh ae
   rcases y4 ae with ⟨c1, ae⟩ | ⟨c1, ae⟩
   ·obtain rfl := zb ae
    obtain rfl := hl1
    obtain rfl := zb aa
    exact yE X0 hC hE [Hq c0, Hi (eI .i64) h0, Hq c1]
   ·obtain rfl := zb ae
    exact yB X0 hC bg (w64 (x8 + 1)) hl1 [Hq c0, Hi (eI .i64) h0, Hq c1]
  ·obtain rfl := zb ae
   obtain rfl := hl1
   exact yB X0 hC ba () aa [Hq c0]
def Vb : Code := (Try.f63.body).getD .skip
def va : w6 := spF (α := List Int × List Int) (ρ := Int) 63 (fun x => [F2_ x.1, F2_ x.2]) (fun r => (eI .i64) r) (fun x => yz x.1 x.2) [] (Xt)
theorem VI (hC : zA Try.prog ctr) (h0f : ctr.Has vz) (h0B : ctr.Has wu) (h0m : ctr.Has Zf) : va.Ok Try.prog := by
 refine zH ?_
 rintro ⟨a_, b_⟩ r0 aa
 try unfold yz at aa
 refine yO true [(4, none)] Vb 15 Try.func63 fun E hE => ?_
 obtain ⟨r_, h0, aa⟩ := zh aa
 obtain ⟨ai, h1, aa⟩ := zh aa
 obtain ⟨aj, h2, aa⟩ := zh aa
 obtain rfl := zb aa
 exact yE X0 hC hE [Ha (lnM (eI .i64) a_), Ha (lnM (eI .i64) b_), Hc h0f (x := (((a_.length : Nat) : Int), ((b_.length : Nat) : Int))) h0 (loC (eI .i64) ((a_.length : Nat) : Int) <| loC (eI .i64) ((b_.length : Nat) : Int) <| loN), Hc h0B (x := (a_, b_)) h1 (loC F2_ a_ <| loC F2_ b_ <| loN), Hg (z01 h0m), Hm (shM (eI .i64) (eI .i64) ([r_, ai])), Hs (z02 h0m (x := [r_, ai]) h2 (loC F0_ [r_, ai] <| loN))]
def kD : Code := (Try.f29.body).getD .skip
def ku : w6 := spF (α := List (List Int)) (ρ := Bool) 29 (fun x => [F9_ x]) (fun r => eB r) (fun x => jA x) [] (Qg)
abbrev WG : List (Nat × T) := []
abbrev WF (l_ : List (List Int)) (i_ : Int) : List (Nat × T) := [(0, .d (eSl 1 false F2_ l_)), (3, .d (I i_))]
theorem Ja (hC : zA Try.prog ctr) (h0a : ctr.Has va) : ku.Ok Try.prog := by
 refine zH ?_
 rintro l_ r0 aa
 try unfold jA at aa
 refine yO true [(2, none)] kD 21 Try.func29 fun E hE => ?_
 refine yJ X0 hC kD [1] [] [] (fun z : Unit => qB = some r0) (fun z => WG) [(0, .d (eSl 1 false F2_ l_))] [Hh (.cut 1)] ?_ fun J1 ba => ?_
 ·rintro ⟨⟩ aa
  unfold qB at aa
  obtain rfl := zb aa
  exact yE X0 hC hE []
 ·obtain ⟨t2, ht2, aa⟩ := zh aa
  refine yL X0 hC kD [1,2,1,0] [J1] (fun s => vn l_ s) (fun x => WF l_ x) 1 ht2  [] ?_
  rintro i_ m2 bn ae hl1 J2 bg
  try unfold vn at ae
  let Z0 : List HO := [Ha (lnM F2_ l_)]
  rcases y4 ae with ⟨c0, ae⟩ | ⟨c0, ae⟩
  ·obtain ⟨av, h0, ae⟩ := zh ae
   obtain ⟨em, h1, ae⟩ := zh ae
   obtain ⟨r_, h2, ae⟩ := zh ae
   let Z1 : List HO := (Z0 ++ [Hq c0, Hi F2_ h0, Hi F2_ h1, Hc h0a (x := (av, em)) h2 (loC F2_ av <| loC F2_ em <| loN)])
   rcases y4 ae with ⟨c1, ae⟩ | ⟨c1, ae⟩
   ·obtain rfl := zb ae
    obtain rfl := hl1
    obtain rfl := zb aa
    exact yE X0 hC hE (Z1 ++ [Hq c1])
   ·obtain rfl := zb ae
    exact yB X0 hC bg (w64 (i_ + 1)) hl1 (Z1 ++ [Hq c1])
  ·obtain rfl := zb ae
   obtain rfl := hl1
   exact yB X0 hC ba () aa (Z0 ++ [Hq c0])
def kB : Code := (Try.f30.body).getD .skip
def qC : w6 := spF (α := List (List Int)) (ρ := Int) 30 (fun x => [F9_ x]) (fun r => (eI .i64) r) (fun x => uW x) [] (Qg)
abbrev WC (n_ : Int) : List (Nat × T) := [(2, .d (I n_))]
abbrev WB (l_ : List (List Int)) (cw : Int) (x7 : Int) : List (Nat × T) := [(2, .d (I cw)), (5, .d (eSl 1 false F2_ l_)), (6, .d (I ((l_.length : Nat) : Int))), (7, .d (I x7))]
theorem J0 (hC : zA Try.prog ctr) : qC.Ok Try.prog := by
 refine zH ?_
 rintro l_ r0 aa
 try unfold uW at aa
 refine yO true [(2, none)] kB 17 Try.func30 fun E hE => ?_
 refine yJ X0 hC kB [1] [] [2] (fun z : Int => kn z = some r0) (fun z => WC z) [(0, .d (eSl 1 false F2_ l_)), (2, .d (I 0))] [Hh (.cut 1)] ?_ fun J1 ba => ?_
 ·rintro n_ aa
  unfold kn at aa
  obtain rfl := zb aa
  exact yE X0 hC hE []
 ·obtain ⟨t2, ht2, aa⟩ := zh aa
  refine yL X0 hC kB [1,2,1,0] [J1] (fun s => vh l_ s.1 s.2) (fun x => WB l_ x.1 x.2) (0,0) ht2  [Ha (lnM F2_ l_)] ?_
  rintro ⟨cw, x7⟩ m2 bn ae hl1 J2 bg
  try unfold vh at ae
  rcases y4 ae with ⟨c0, ae⟩ | ⟨c0, ae⟩
  ·obtain ⟨av, h0, ae⟩ := zh ae
   obtain rfl := zb ae
   exact yB X0 hC bg (w64 (cw + ((av.length : Nat) : Int)), w64 (x7 + 1)) hl1 [Hq c0, Hi F2_ h0, Ha (lnM (eI .i64) av)]
  ·obtain rfl := zb ae
   obtain rfl := hl1
   exact yB X0 hC ba cw aa [Hq c0]
def Qj : Code := (Try.f9.body).getD .skip
def qE : w6 := spF (α := List (List Int) × Int) (ρ := Int) 9 (fun x => [F9_ x.1, (eI .i64) x.2]) (fun r => (eI .i64) r) (fun x => uZ x.1 x.2) [] (Xt)
theorem Jb (hC : zA Try.prog ctr) (h0g : ctr.Has qD) (h0C : ctr.Has ku) (h0d : ctr.Has qC) : qE.Ok Try.prog := by
 refine zH ?_
 rintro ⟨l_, inputs⟩ r0 aa
 try unfold uZ at aa
 refine yO true [(4, none)] Qj 18 Try.func9 fun E hE => ?_
 obtain ⟨r_, h0, aa⟩ := zh aa
 let Z0 : List HO := [Hc h0g (x := (l_, inputs)) h0 (loC F9_ l_ <| loC (eI .i64) inputs <| loN)]
 rcases y4 aa with ⟨c0, aa⟩ | ⟨c0, aa⟩
 ·obtain rfl := zb aa
  exact yE X0 hC hE (Z0 ++ [Hq c0])
 ·obtain ⟨ai, h1, aa⟩ := zh aa
  let Z1 : List HO := (Z0 ++ [Hq c0, Hc h0C (x := l_) h1 (loC F9_ l_ <| loN)])
  rcases y4 aa with ⟨c1, aa⟩ | ⟨c1, aa⟩
  ·obtain rfl := zb aa
   exact yE X0 hC hE (Z1 ++ [Hq c1])
  ·obtain ⟨aj, h2, aa⟩ := zh aa
   let Z2 : List HO := (Z1 ++ [Hq c1, Hc h0d (x := l_) h2 (loC F9_ l_ <| loN)])
   rcases y4 aa with ⟨c2, aa⟩ | ⟨c2, aa⟩
   ·obtain rfl := zb aa
    exact yE X0 hC hE (Z2 ++ [Hq c2])
   ·obtain rfl := zb aa
    exact yE X0 hC hE (Z2 ++ [Hq c2])
def UO : Code := (Try.f48.body).getD .skip
def vK : w6 := spF (α := z6 × List (List Int)) (ρ := Int) 48 (fun x => [vu x.1, F9_ x.2]) (fun r => (eI .i64) r) (fun x => xu x.1 x.2) [] (Xt)
theorem Qa (hC : zA Try.prog ctr) (h0b : ctr.Has wO) (h0h : ctr.Has qE) : vK.Ok Try.prog := by
 refine zH ?_
 rintro ⟨m_, l_⟩ r0 aa
 try unfold xu at aa
 refine yO true [(4, none)] UO 15 Try.func48 fun E hE => ?_
 obtain ⟨r_, h0, aa⟩ := zh aa
 let Z0 : List HO := [Hc h0b (x := m_) h0 (loC vu m_ <| loN)]
 rcases y4 aa with ⟨c0, aa⟩ | ⟨c0, aa⟩
 ·obtain rfl := zb aa
  exact yE X0 hC hE (Z0 ++ [Hq c0])
 ·obtain ⟨ai, h1, aa⟩ := zh aa
  obtain rfl := zb aa
  exact yE X0 hC hE (Z0 ++ [Hq c0, Hc h0h (x := (l_, m_.Inputs)) h1 (loC F9_ l_ <| loC (eI .i64) m_.Inputs <| loN)])
def jN : Code := (Try.f55.body).getD .skip
def ut : w6 := spF (α := z6) (ρ := z7) 55 (fun x => [vu x]) (fun r => zam r) (fun x => ul x) [] (Qg)
abbrev W4 (m_ : z6) (bl : List (List Bool)) : List (Nat × T) := [(2, .own (.box (.agg [eOs 1 true eB [], eOs 1 true (eSl 1 false eB) []]))), (3, .own (.box (.agg [eOs 1 true eB (List.replicate ((m_.Rows.length : Nat) : Int).toNat false), eOs 1 true (eOs 1 true eB) bl])))]
abbrev W3 (m_ : z6) (a7 : List (List Bool)) (eu : Int) : List (Nat × T) := [(1, .own (.box (vu m_))), (2, .own (.box (.agg [eOs 1 true eB [], eOs 1 true (eSl 1 false eB) []]))), (3, .own (.box (.agg [eOs 1 true eB (List.replicate ((m_.Rows.length : Nat) : Int).toNat false), eOs 1 true (eOs 1 true eB) a7]))), (16, .d (I ((m_.Rows.length : Nat) : Int))), (17, .d (I eu))]
theorem Qb (hC : zA Try.prog ctr) : ut.Ok Try.prog := by
 refine zH ?_
 rintro m_ r0 aa
 try unfold ul at aa
 refine ZD (tt := yh) (rs := [(true, 2, some 54)]) (n := ⟨29, []⟩) (body := jN) zp Try.func55 rfl (by kernel_rfl) rfl rfl (by show (1 : Nat) ≤ 29; decide) fun E hE => ?_
 obtain ⟨g0, aa⟩ := gdE aa
 obtain ⟨g1, aa⟩ := gdE aa
 refine yJ X0 hC jN [1,1] [] [2,3] (fun z : List (List Bool) => jK m_ z = some r0) (fun z => W4 m_ z) [(1, .own (.box (vu m_))), (2, .own (.box (.agg [eOs 1 true eB [], eOs 1 true (eSl 1 false eB) []]))), (3, .own (.box (.agg [eOs 1 true eB (List.replicate ((m_.Rows.length : Nat) : Int).toNat false), eOs 1 true (eOs 1 true eB) (List.replicate ((m_.Rows.length : Nat) : Int).toNat ([] : List Bool))])))] [Ha (lnM qR m_.Rows), Hn (rL g0), Ha (rM 1 eB ((m_.Rows.length : Nat) : Int) false), Ha (lnM qR m_.Rows), Hn (rL g1), Ha (rM 1 (eOs 1 true eB) ((m_.Rows.length : Nat) : Int) ([] : List Bool)), Hh (.cut 0)] ?_ fun J1 ba => ?_
 ·rintro bl aa
  unfold jK at aa
  obtain rfl := zb aa
  let ZE : List HO := []
  exact wU X0 zp hC wj hE 4000 (hs := hoH ZE) (x := (.agg [eOs 1 true eB (List.replicate ((m_.Rows.length : Nat) : Int).toNat false), eOs 1 true (eOs 1 true eB) bl])) (hoB ZE) (by kernel_rfl) (LeV.refl _)
 ·obtain ⟨t2, ht2, aa⟩ := zh aa
  refine yL X0 hC jN [1,1,2,1,0] [J1] (fun s => xY m_ s.1 s.2) (fun x => W3 m_ x.1 x.2) ((List.replicate ((m_.Rows.length : Nat) : Int).toNat ([] : List Bool)), 0) ht2  [Ha (lnM qR m_.Rows)] ?_
  rintro ⟨a7, eu⟩ m2 bn ae hl1 J2 bg
  try unfold xY at ae
  rcases y4 ae with ⟨c0, ae⟩ | ⟨c0, ae⟩
  ·obtain ⟨g2, ae⟩ := gdE ae
   obtain ⟨gy, h0, ae⟩ := zh ae
   obtain rfl := zb ae
   exact yB X0 hC bg ((a7.set eu.toNat (List.replicate m_.Inputs.toNat false)), w64 (eu + 1)) hl1 [Hq c0, Hn (rL g2), Ha (rM 1 eB m_.Inputs false), Hn (iL (eOs 1 true eB) h0), Hs (iM (eOs 1 true eB) h0), Hs (iM (eOs 1 true eB) h0), Hl (sM (eOs 1 true eB) a7 eu (List.replicate m_.Inputs.toNat false))]
  ·obtain rfl := zb ae
   obtain rfl := hl1
   exact yB X0 hC ba a7 aa [Hq c0]
def X4 : Code := (Try.f56.body).getD .skip
variable {σ : Type}
abbrev WH (YY : σ → Q3) (m_ : z6) (w_ : List Int) (ew : σ) (s_ : Int) (d0 : Int) : List (Nat × T) := [(2, .own (.opq (YY ew).q)), (3, .own (.box (vu m_))), (6, .d (I s_)), (12, .d (eSl 1 false (eI .i64) w_)), (13, .d (I ((w_.length : Nat) : Int))), (14, .d (I d0))]
theorem Xw (hC : zA Try.prog ctr) (σ : Type) (bz : Value) (YY : σ → Q3) (yy : σ → (Int × Int) → Option σ) (hy : zbm Try.prog bz YY (fun x : Int × Int => [(eI .i64) x.1, (eI .i64) x.2]) yy) (m_ : z6) (w_ : List Int) (sg r0 : σ) (aa : wy m_ w_ yy sg = some r0) : wo Try.prog (.fn 56 []) [.agg [I m_.Inputs, I m_.Outputs, eSl 1 false qR m_.Rows], eSl 1 false (eI .i64) w_, .atom bz] [(bz, .opq (YY sg).q)] (.tup []) [.opq (YY r0).q] := by
 refine VD (tt := yh) (nt := 36) (body := X4) [2] (args := [.agg [I m_.Inputs, I m_.Outputs, eSl 1 false qR m_.Rows], eSl 1 false (eI .i64) w_, .atom bz]) (caps := []) (xs := [.opq (YY sg).q]) (vals := [bz]) zp Try.func56 rfl (by kernel_rfl) rfl rfl (by show (3 : Nat) ≤ 36; decide) (by decide) rfl rfl (fun E hE => ?_) rfl
 unfold wy at aa
 obtain ⟨db, h0, aa⟩ := zh aa
 obtain ⟨t1, ht1, aa⟩ := zh aa
 refine yL ((wV (P := Try.prog) yh [2] (hy sg (0,0) db h0) 11).or X0) hC X4 [1,1,1,1,0] [] (fun s => wx yy m_ w_ s.1 s.2.1 s.2.2) (fun x => WH YY m_ w_ x.1 x.2.1 x.2.2) (db,0,0) ht1  [Hn (kp (f := .atom bz) (xs := [(eI .i64) 0, (eI .i64) 0]) (ls := [(bz, .opq (YY sg).q)]) (r := .tup []) (ys := [.opq (YY db).q]) [(eI .i64) 0, (eI .i64) 0] (show Vv [(eI .i64) 0, (eI .i64) 0] [(eI .i64) 0, (eI .i64) 0] from inferInstance)), Ha (lnM (eI .i64) w_)] ?_
 rintro ⟨ew, s_, d0⟩ m1 bn ae hl1 J1 ba
 try unfold wx at ae
 rcases y4 ae with ⟨c0, ae⟩ | ⟨c0, ae⟩
 ·obtain ⟨ff, h1, ae⟩ := zh ae
  obtain ⟨ax, h2, ae⟩ := zh ae
  obtain ⟨ar, h3, ae⟩ := zh ae
  let Z0 : List HO := [Hq c0, Hi (eI .i64) h1, Hi qR h2, Hi F6_ h3]
  rcases y4 ae with ⟨c1, ae⟩ | ⟨c1, ae⟩
  ·obtain rfl := zb ae
   obtain rfl := hl1
   obtain rfl := zb aa
   exact yF X0 hC .ret [(2, .own (.opq (YY ew).q))] (Z0 ++ [Hq c1]) fun st0 h0 => hE _ st0 (.inr rfl) (j8 h0 ⟨⟨rfl, rfl⟩, trivial⟩)
  ·obtain ⟨gq, h4, ae⟩ := zh ae
   obtain rfl := zb ae
   exact yB ((wV (P := Try.prog) yh [2] (hy ew (ar.To, w64 (d0 + 1)) gq h4) 34).or X0) hC ba (gq, ar.To, w64 (d0 + 1)) hl1 (Z0 ++ [Hq c1, Hn (kp (f := .atom bz) (xs := [(eI .i64) ar.To, (eI .i64) (w64 (d0 + 1))]) (ls := [(bz, .opq (YY ew).q)]) (r := .tup []) (ys := [.opq (YY gq).q]) [(eI .i64) ar.To, (eI .i64) (w64 (d0 + 1))] (show Vv [(eI .i64) ar.To, (eI .i64) (w64 (d0 + 1))] [(eI .i64) ar.To, (eI .i64) (w64 (d0 + 1))] from inferInstance))])
 ·obtain rfl := zb ae
  obtain rfl := hl1
  obtain rfl := zb aa
  exact yF X0 hC .normal [(2, .own (.opq (YY ew).q))] [Hq c0] fun st0 h0 => hE _ st0 (.inl rfl) (j8 h0 ⟨⟨rfl, rfl⟩, trivial⟩)
def Vg : Code := (Try.f85.body).getD .skip
theorem VP (hC : zA Try.prog ctr) (dm : Value) (x0 : List Int) : ∀ (s_ : Int) (k_ : Int) (y1 : z7) (r0 : z7), vU x0 s_ k_ y1 = some r0 → wo Try.prog (.fn 85 [.sptr (eSl 1 false (eI .i64) x0), .atom dm]) [I s_, I k_] ([dm].zip [.box (.agg [eOs 1 true eB y1.States, eOs 1 true (eOs 1 true eB) y1.Edges])]) (.tup []) [.box (.agg [eOs 1 true eB r0.States, eOs 1 true (eOs 1 true eB) r0.Edges])] := by
 intro s_ k_ y1 r0 aa
 refine VD (tt := yh) (nt := 30) (body := Vg) [3] zp Try.func85 rfl (by kernel_rfl) rfl rfl (by show (4 : Nat) ≤ 30; decide) (by decide) rfl rfl (fun E hE => ?_) rfl
 unfold vU at aa
 rcases y4 aa with ⟨c0, aa⟩ | ⟨c0, aa⟩
 ·obtain ⟨cn, h0, aa⟩ := zh aa
  obtain rfl := zb aa
  exact yF X0 hC .normal [(3, .own (.box (.agg [eOs 1 true eB (y1.States.set s_.toNat true), eOs 1 true (eOs 1 true eB) y1.Edges])))] [Ha (lnM (eI .i64) x0), Hq c0, Hn (iL eB h0), Hs (iM eB h0), Hs (iM eB h0), Hl (sM eB y1.States s_ true)] fun st0 h0 => hE _ st0 (.inl rfl) (j8 h0 ⟨⟨rfl, rfl⟩, trivial⟩)
 ·let Z0 : List HO := [Ha (lnM (eI .i64) x0), Hq c0, Ha (lnM (eI .i64) x0)]
  rcases y4 aa with ⟨c1, aa⟩ | ⟨c1, aa⟩
  ·obtain ⟨bm, h1, aa⟩ := zh aa
   obtain ⟨fh, h2, aa⟩ := zh aa
   obtain ⟨ca, h3, aa⟩ := zh aa
   obtain rfl := zb aa
   exact yF X0 hC .normal [(3, .own (.box (.agg [eOs 1 true eB y1.States, eOs 1 true (eOs 1 true eB) (y1.Edges.set s_.toNat (bm.set fh.toNat true))])))] (Z0 ++ [Hq c1, Hn (iL (eOs 1 true eB) h1), Hs (iM (eOs 1 true eB) h1), Hi (eI .i64) h2, Hs (iM (eOs 1 true eB) h1), Hn (iL eB h3), Hs (iM (eOs 1 true eB) h1), Hs (iM eB h3), Hs (iM (eOs 1 true eB) h1), Hs (iM eB h3), Hl (sM eB bm fh true), Hl (sM (eOs 1 true eB) y1.Edges s_ (bm.set fh.toNat true))]) fun st0 h0 => hE _ st0 (.inl rfl) (j8 h0 ⟨⟨rfl, rfl⟩, trivial⟩)
  ·obtain rfl := zb aa
   exact yF X0 hC .normal [(3, .own (.box (.agg [eOs 1 true eB y1.States, eOs 1 true (eOs 1 true eB) y1.Edges])))] (Z0 ++ [Hq c1]) fun st0 h0 => hE _ st0 (.inl rfl) (j8 h0 ⟨⟨rfl, rfl⟩, trivial⟩)
def qI : Code := (Try.f53.body).getD .skip
def qG : w6 := spF (α := z6 × List (List Int)) (ρ := z7) 53 (fun x => [vu x.1, F9_ x.2]) (fun r => z8V r) (fun x => qm x.1 x.2) [] (Xt)
abbrev WJ (bq : List Bool) (bl : List (List Bool)) : List (Nat × T) := [(4, .own (.box (.agg [eOs 1 true eB [], eOs 1 true (eSl 1 false eB) []]))), (5, .own (.box (.agg [eOs 1 true eB bq, eOs 1 true (eOs 1 true eB) bl])))]
abbrev WI (m_ : z6) (l_ : List (List Int)) (bh : List Bool) (a7 : List (List Bool)) (gc : Int) : List (Nat × T) := [(2, .own (.box (vu m_))), (4, .own (.box (.agg [eOs 1 true eB [], eOs 1 true (eSl 1 false eB) []]))), (5, .own (.box (.agg [eOs 1 true eB bh, eOs 1 true (eOs 1 true eB) a7]))), (10, .d (eSl 1 false F2_ l_)), (11, .d (I ((l_.length : Nat) : Int))), (12, .d (I gc))]
theorem Jd (hC : zA Try.prog ctr) (h0i : ctr.Has ut) : qG.Ok Try.prog := by
 refine zH ?_
 rintro ⟨m_, l_⟩ r0 aa
 try unfold qm at aa
 refine yO false [(4, some 54)] qI 22 Try.func53 fun E hE => ?_
 obtain ⟨r_, h0, aa⟩ := zh aa
 refine yA X0 hC qI [1,1] [] [(1, .d (eSl 1 false F2_ l_)), (2, .own (.box (vu m_))), (4, .own (.box (.agg [eOs 1 true eB [], eOs 1 true (eSl 1 false eB) []]))), (5, .own (.box (zam r_)))] [Hc h0i (x := m_) h0 (loC vu m_ <| loN), Hh (.cut 0)] ?_
 refine JU (y := .box (.agg [eOs 1 true eB r_.States, eOs 1 true (eOs 1 true eB) r_.Edges])) (by kernel_rfl) 5 (by kernel_rfl) (by kernel_rfl) fun cp hv5 => ?_
 refine yJ X0 hC qI [1,1] [] [4,5] (fun z : List Bool × List (List Bool) => kA z.1 z.2 = some r0) (fun z => WJ z.1 z.2) [(1, .d (eSl 1 false F2_ l_)), (2, .own (.box (vu m_))), (4, .own (.box (.agg [eOs 1 true eB [], eOs 1 true (eSl 1 false eB) []]))), (5, .own (.box (zam r_)))] [Hh (.cut 0)] ?_ fun J1 ba => ?_
 ·rintro ⟨bq, bl⟩ aa
  unfold kA at aa
  obtain rfl := zb aa
  exact yE X0 hC hE [Hm (shM eB eB bq), Hm (shM (eOs 1 true eB) (eSl 1 true eB) bl)]
 ·obtain ⟨t2, ht2, aa⟩ := zh aa
  refine yL X0 hC qI [1,1,2,1,0] [J1] (fun s => vq m_ l_ s.1 s.2.1 s.2.2) (fun x => WI m_ l_ x.1 x.2.1 x.2.2) (r_.States, r_.Edges, 0) ht2  [Ha (lnM F2_ l_)] ?_
  rintro ⟨bh, a7, gc⟩ m2 bn ae hl1 J2 bg
  try unfold vq at ae
  rcases y4 ae with ⟨c0, ae⟩ | ⟨c0, ae⟩
  ·obtain ⟨av, h1, ae⟩ := zh ae
   obtain ⟨ai, h2, ae⟩ := zh ae
   obtain rfl := zb ae
   exact yB ((wV (P := Try.prog) yh [5] (z3V (pre := [vu m_, F2_ av]) (enc := (fun x : Int × Int => [(eI .i64) x.1, (eI .i64) x.2])) (ls := (fun s : z7 => [(cp, .box (.agg [eOs 1 true eB s.States, eOs 1 true (eOs 1 true eB) s.Edges]))])) (F := fun yy s => wy m_ av yy s) (fun yv Y hy s s' h => Xw hC _ yv Y _ hy m_ av s s' h) (fun s x s' h => VP hC cp av _ _ _ _ h) (fun _ _ => rfl) h2) 19).or ((xMk Try.prog yh).or X0)) hC bg (ai.States, ai.Edges, w64 (gc + 1)) hl1 [Hq c0, Hi F2_ h1, Hn (kp (f := .fn 56 []) (xs := [vu m_, F2_ av, .fn 85 [.sptr (eSl 1 false (eI .i64) av), .atom cp]]) (ls := [(cp, .box (.agg [eOs 1 true eB bh, eOs 1 true (eOs 1 true eB) a7]))]) (r := .tup []) (ys := [.box (.agg [eOs 1 true eB ai.States, eOs 1 true (eOs 1 true eB) ai.Edges])]) [vu m_, F2_ av, .fn 85 [.sptr (eSl 1 false (eI .i64) av), .atom cp]] (show Vv [vu m_, F2_ av, .fn 85 [.sptr (eSl 1 false (eI .i64) av), .atom cp]] [vu m_, F2_ av, .fn 85 [.sptr (eSl 1 false (eI .i64) av), .atom cp]] from inferInstance))]
  ·obtain rfl := zb ae
   obtain rfl := hl1
   exact yB X0 hC ba (bh, a7) aa [Hq c0]
def kT : Code := (Try.f54.body).getD .skip
def wP : w6 := spF (α := Bool) (ρ := Bool) 54 (fun x => [eB x]) (fun r => eB r) (fun x => wm x) [] (Qg)
theorem kW (hC : zA Try.prog ctr) : wP.Ok Try.prog := by
 refine zH ?_
 rintro is r0 aa
 try unfold wm at aa
 refine yO true [(2, none)] kT 4 Try.func54 fun E hE => ?_
 obtain rfl := zb aa
 exact yE X0 hC hE []
def Y2 : Code := (Try.f82.body).getD .skip
def vw : w6 := spF (α := Bool × Unit) (ρ := Bool) 82 (fun x => [eB x.1, (eSp (ZA 54)) x.2]) (fun r => eB r) (fun x => v6 x.1 x.2) [] (Xt)
theorem Y8 (hC : zA Try.prog ctr) (h0D : ctr.Has wP) : vw.Ok Try.prog := by
 refine zH ?_
 rintro ⟨x_, x1⟩ r0 aa
 try unfold v6 at aa
 refine yO true [(3, none)] Y2 8 Try.func82 fun E hE => ?_
 obtain ⟨r_, h0, aa⟩ := zh aa
 obtain rfl := zb aa
 exact yE X0 hC hE [Hc h0D (x := x_) h0 (loC eB x_ <| loN)]
def xG : Code := (Try.f100.body).getD .skip
def xC : w6 := spF (α := List Bool × Unit) (ρ := Int) 100 (fun x => [(eSl 1 false eB) x.1, (Yp 82 (eSp (ZA 54))) x.2]) (fun r => (eI .i64) r) (fun x => x6 x.1 x.2) [] (by
 rintro ⟨a0, a1⟩ ⟨b0, b1⟩ h
 have e0 := qw.inj (f := (eSl 1 false eB)) _ _ (List.cons.inj h).1
 replace h := (List.cons.inj h).2
 have e1 := qw.inj (f := (Yp 82 (eSp (ZA 54)))) _ _ (List.cons.inj h).1
 subst e0 e1
 rfl)
abbrev uQ : List (Nat × T) := []
abbrev uP (s_ : List Bool) (x8 : Int) : List (Nat × T) := [(0, .d (eSl 1 false eB s_)), (1, .d (.fn 82 [.sptr (.fn 54 [])])), (7, .d (I ((s_.length : Nat) : Int))), (8, .d (I x8))]
theorem ji (hC : zA Try.prog ctr) (h0E : ctr.Has vw) : xC.Ok Try.prog := by
 refine zH ?_
 rintro ⟨s_, f_⟩ r0 aa
 try unfold x6 at aa
 refine yO true [(4, none)] xG 19 Try.func100 fun E hE => ?_
 refine yJ X0 hC xG [1] [] [] (fun z : Unit => xE = some r0) (fun z => uQ) [(0, .d (eSl 1 false eB s_)), (1, .d (.fn 82 [.sptr (.fn 54 [])]))] [Hh (.cut 1)] ?_ fun J1 ba => ?_
 ·rintro ⟨⟩ aa
  unfold xE at aa
  obtain rfl := zb aa
  exact yE X0 hC hE []
 ·obtain ⟨t2, ht2, aa⟩ := zh aa
  refine yL X0 hC xG [1,2,1,0] [J1] (fun s => zS s_ s) (fun x => uP s_ x) 0 ht2  [Ha (lnM eB s_)] ?_
  rintro x8 m2 bn ae hl1 J2 bg
  try unfold zS at ae
  rcases y4 ae with ⟨c0, ae⟩ | ⟨c0, ae⟩
  ·obtain ⟨bi, h0, ae⟩ := zh ae
   obtain ⟨r_, h1, ae⟩ := zh ae
   let Z0 : List HO := [Hq c0, Hi eB h0, Hc h0E (x := (bi, ())) h1 (loC eB bi <| loC (eSp (ZA 54)) () <| loN)]
   rcases y4 ae with ⟨c1, ae⟩ | ⟨c1, ae⟩
   ·obtain rfl := zb ae
    obtain rfl := hl1
    obtain rfl := zb aa
    exact yE X0 hC hE (Z0 ++ [Hq c1])
   ·obtain rfl := zb ae
    exact yB X0 hC bg (w64 (x8 + 1)) hl1 (Z0 ++ [Hq c1])
  ·obtain rfl := zb ae
   obtain rfl := hl1
   exact yB X0 hC ba () aa [Hq c0]
def uO : Code := (Try.f81.body).getD .skip
def yY : w6 := spF (α := List Bool × Unit) (ρ := Bool) 81 (fun x => [(eSl 1 false eB) x.1, (Yp 82 (eSp (ZA 54))) x.2]) (fun r => eB r) (fun x => yD x.1 x.2) [] (by
 rintro ⟨a0, a1⟩ ⟨b0, b1⟩ h
 have e0 := qw.inj (f := (eSl 1 false eB)) _ _ (List.cons.inj h).1
 replace h := (List.cons.inj h).2
 have e1 := qw.inj (f := (Yp 82 (eSp (ZA 54)))) _ _ (List.cons.inj h).1
 subst e0 e1
 rfl)
theorem uV (hC : zA Try.prog ctr) (h0F : ctr.Has xC) : yY.Ok Try.prog := by
 refine zH ?_
 rintro ⟨s_, f_⟩ r0 aa
 try unfold yD at aa
 refine yO true [(4, none)] uO 9 Try.func81 fun E hE => ?_
 obtain ⟨r_, h0, aa⟩ := zh aa
 obtain rfl := zb aa
 exact yE X0 hC hE [Hc h0F (x := (s_, ())) h0 (loC (eSl 1 false eB) s_ <| loC (Yp 82 (eSp (ZA 54))) () <| loN)]
def YR : Code := (Try.f50.body).getD .skip
def u0 : w6 := spF (α := List Bool × Unit) (ρ := Bool) 50 (fun x => [(eSl 1 false eB) x.1, (ZA 54) x.2]) (fun r => eB r) (fun x => wR x.1 x.2) [] (by
 rintro ⟨a0, a1⟩ ⟨b0, b1⟩ h
 have e0 := qw.inj (f := (eSl 1 false eB)) _ _ (List.cons.inj h).1
 replace h := (List.cons.inj h).2
 have e1 := qw.inj (f := (ZA 54)) _ _ (List.cons.inj h).1
 subst e0 e1
 rfl)
theorem X7 (hC : zA Try.prog ctr) (h0G : ctr.Has yY) : u0.Ok Try.prog := by
 refine zH ?_
 rintro ⟨l_, is⟩ r0 aa
 try unfold wR at aa
 refine yO true [(4, none)] YR 9 Try.func50 fun E hE => ?_
 obtain ⟨r_, h0, aa⟩ := zh aa
 obtain rfl := zb aa
 exact yE X0 hC hE [Hc h0G (x := (l_, ())) h0 (loC (eSl 1 false eB) l_ <| loC (Yp 82 (eSp (ZA 54))) () <| loN)]
def Y3 : Code := (Try.f21.body).getD .skip
def w7 : w6 := spF (α := z6 × List (List Int)) (ρ := Bool × Int) 21 (fun x => [vu x.1, F9_ x.2]) (fun r => .tup [eB r.1, (eI .i64) r.2]) (fun x => yf x.1 x.2) [] (Xt)
theorem Y9 (hC : zA Try.prog ctr) (h0c : ctr.Has vK) (h0j : ctr.Has qG) (h0H : ctr.Has u0) : w7.Ok Try.prog := by
 refine zH ?_
 rintro ⟨m_, l_⟩ r0 aa
 try unfold yf at aa
 refine yO false [(4, none), (5, none)] Y3 18 Try.func21 fun E hE => ?_
 obtain ⟨r_, h0, aa⟩ := zh aa
 let Z0 : List HO := [Hc h0c (x := (m_, l_)) h0 (loC vu m_ <| loC F9_ l_ <| loN)]
 rcases y4 aa with ⟨c0, aa⟩ | ⟨c0, aa⟩
 ·obtain rfl := zb aa
  exact yE X0 hC hE (Z0 ++ [Hq c0])
 ·obtain ⟨ai, h1, aa⟩ := zh aa
  obtain ⟨aj, h2, aa⟩ := zh aa
  obtain rfl := zb aa
  exact yE ((zbt zp z8h).or X0) hC hE (Z0 ++ [Hq c0, Hc h0j (x := (m_, l_)) h1 (loC vu m_ <| loC F9_ l_ <| loN), Hc h0H (x := (ai.States, ())) h2 (loC (eSl 1 true eB) ai.States <| loC (ZA 54) () <| loN)])
def uD : Code := (Try.f78.body).getD .skip
abbrev k0 (bz : Value) (dm : Value) (dy : Value) (ax : List z8) (x1 : List Bool) (cm : Int) (cb : Int) (dc : List (List z8)) (co : Int) : List (Nat × T) := [(1, .own (.box (eOs 1 true eB x1))), (2, .own (.box (.agg [I cm, I cb, eSl 1 false qR dc]))), (3, .own (.box (.fn 78 [.atom bz, .atom dm, .atom dy]))), (22, .d (eSl 2 false F6_ ax)), (23, .d (I ((ax.length : Nat) : Int))), (24, .d (I co))]
theorem ZW (hC : zA Try.prog ctr) (bz : Value) (dm : Value) (dy : Value) : ∀ (fu : Nat) (s_ : Int) (y0 : List Bool) (y1 : z6) (r0 : List Bool × z6), zV fu s_ y0 y1 = some r0 → wo Try.prog (.fn 78 [.atom bz, .atom dm, .atom dy]) [I s_] ([bz, dm, dy].zip [.box (eOs 1 true eB y0), .box (.agg [I y1.Inputs, I y1.Outputs, eSl 1 false qR y1.Rows]), .box (.fn 78 [.atom bz, .atom dm, .atom dy])]) (.tup []) [.box (eOs 1 true eB r0.1), .box (.agg [I r0.2.Inputs, I r0.2.Outputs, eSl 1 false qR r0.2.Rows]), .box (.fn 78 [.atom bz, .atom dm, .atom dy])] := by
 intro fu
 induction fu with
 | zero => intro s_ y0 y1 r0 aa; exact nomatch (show none = some r0 from aa)
 | succ fu ih =>
  intro s_ y0 y1 r0 aa
  replace aa : xe (zV fu) s_ y0 y1 = some r0 := aa
  generalize zV fu = gr at ih aa
  refine VD (tt := yh) (nt := 33) (body := uD) [1,2,3] zp Try.func78 rfl (by kernel_rfl) rfl rfl (by show (4 : Nat) ≤ 33; decide) (by decide) rfl rfl (fun E hE => ?_) rfl
  unfold xe at aa
  rcases y4 aa with ⟨c0, aa⟩ | ⟨c0, aa⟩
  ·obtain rfl := zb aa
   exact yF X0 hC .ret [(1, .own (.box (eOs 1 true eB y0))), (2, .own (.box (.agg [I y1.Inputs, I y1.Outputs, eSl 1 false qR y1.Rows]))), (3, .own (.box (.fn 78 [.atom bz, .atom dm, .atom dy])))] (rpN 5 (Hq c0) [qT]) fun st0 h0 => hE _ st0 (.inr rfl) (j8 h0 ⟨⟨rfl, rfl⟩, ⟨⟨rfl, rfl⟩, ⟨⟨rfl, rfl⟩, trivial⟩⟩⟩)
  ·obtain ⟨ix, h0, aa⟩ := zh aa
   let Z0 : List HO := [Hq c0, Hq c0, Hq c0, Hn (iL eB h0), Hq c0, Hs (iM eB h0), Hq c0]
   rcases y4 aa with ⟨c1, aa⟩ | ⟨c1, aa⟩
   ·obtain rfl := zb aa
    exact yF X0 hC .ret [(1, .own (.box (eOs 1 true eB y0))), (2, .own (.box (.agg [I y1.Inputs, I y1.Outputs, eSl 1 false qR y1.Rows]))), (3, .own (.box (.fn 78 [.atom bz, .atom dm, .atom dy])))] (Z0 ++ [Hq c1]) fun st0 h0 => hE _ st0 (.inr rfl) (j8 h0 ⟨⟨rfl, rfl⟩, ⟨⟨rfl, rfl⟩, ⟨⟨rfl, rfl⟩, trivial⟩⟩⟩)
   ·obtain ⟨iy, h1, aa⟩ := zh aa
    obtain ⟨ax, h2, aa⟩ := zh aa
    obtain ⟨t1, ht1, aa⟩ := zh aa
    refine yL X0 hC uD [1,1,1,0] [] (fun s => yg gr ax s.1 s.2.1 s.2.2.1 s.2.2.2.1 s.2.2.2.2) (fun x => k0 bz dm dy ax x.1 x.2.1 x.2.2.1 x.2.2.2.1 x.2.2.2.2) ((y0.set s_.toNat true), y1.Inputs, y1.Outputs, y1.Rows, 0) ht1  (Z0 ++ [Hq c1, Hn (iL eB h1), Hs (iM eB h1), Hs (iM eB h1), Hl (sM eB y0 s_ true), Hi qR h2, Ha (lnM F6_ ax)]) ?_
    rintro ⟨x1, cm, cb, dc, co⟩ m1 bn ae hl1 J1 ba
    try unfold yg at ae
    rcases y4 ae with ⟨c2, ae⟩ | ⟨c2, ae⟩
    ·obtain ⟨ar, h3, ae⟩ := zh ae
     obtain ⟨r_, h4, ae⟩ := zh ae
     obtain rfl := zb ae
     exact yB ((wV (P := Try.prog) yh [1,2,3] (ih _ _ _ _ h4) 31).or X0) hC ba (r_.1, r_.2.Inputs, r_.2.Outputs, r_.2.Rows, w64 (co + 1)) hl1 [Hq c2, Hi F6_ h3, Hn (kp (f := .fn 78 [.atom bz, .atom dm, .atom dy]) (xs := [(eI .i64) ar.To]) (ls := [(bz, .box (eOs 1 true eB x1)), (dm, .box (.agg [I cm, I cb, eSl 1 false qR dc])), (dy, .box (.fn 78 [.atom bz, .atom dm, .atom dy]))]) (r := .tup []) (ys := [.box (eOs 1 true eB r_.1), .box (.agg [I r_.2.Inputs, I r_.2.Outputs, eSl 1 false qR r_.2.Rows]), .box (.fn 78 [.atom bz, .atom dm, .atom dy])]) [(eI .i64) ar.To] (show Vv [(eI .i64) ar.To] [(eI .i64) ar.To] from inferInstance))]
    ·obtain rfl := zb ae
     obtain rfl := hl1
     obtain rfl := zb aa
     exact yF X0 hC .normal [(1, .own (.box (eOs 1 true eB x1))), (2, .own (.box (.agg [I cm, I cb, eSl 1 false qR dc]))), (3, .own (.box (.fn 78 [.atom bz, .atom dm, .atom dy])))] [Hq c2] fun st0 h0 => hE _ st0 (.inl rfl) (j8 h0 ⟨⟨rfl, rfl⟩, ⟨⟨rfl, rfl⟩, ⟨⟨rfl, rfl⟩, trivial⟩⟩⟩)
def wB : Code := (Try.f98.body).getD .skip
def wt : w6 := spF (α := List Bool × Bool) (ρ := Int) 98 (fun x => [(eSl 1 false eB) x.1, eB x.2]) (fun r => (eI .i64) r) (fun x => w8 x.1 x.2) [] (Xt)
abbrev js : List (Nat × T) := []
abbrev jr (s_ : List Bool) (v_ : Bool) (x8 : Int) : List (Nat × T) := [(0, .d (eSl 1 false eB s_)), (1, .d (B v_)), (7, .d (I ((s_.length : Nat) : Int))), (8, .d (I x8))]
theorem kH (hC : zA Try.prog ctr) : wt.Ok Try.prog := by
 refine zH ?_
 rintro ⟨s_, v_⟩ r0 aa
 try unfold w8 at aa
 refine yO true [(4, none)] wB 19 Try.func98 fun E hE => ?_
 refine yJ X0 hC wB [1] [] [] (fun z : Unit => wv = some r0) (fun z => js) [(0, .d (eSl 1 false eB s_)), (1, .d (B v_))] [Hh (.cut 1)] ?_ fun J1 ba => ?_
 ·rintro ⟨⟩ aa
  unfold wv at aa
  obtain rfl := zb aa
  exact yE X0 hC hE []
 ·obtain ⟨t2, ht2, aa⟩ := zh aa
  refine yL X0 hC wB [1,2,1,0] [J1] (fun s => y8 s_ v_ s) (fun x => jr s_ v_ x) 0 ht2  [Ha (lnM eB s_)] ?_
  rintro x8 m2 bn ae hl1 J2 bg
  try unfold y8 at ae
  rcases y4 ae with ⟨c0, ae⟩ | ⟨c0, ae⟩
  ·obtain ⟨bi, h0, ae⟩ := zh ae
   rcases y4 ae with ⟨c1, ae⟩ | ⟨c1, ae⟩
   ·obtain rfl := zb ae
    obtain rfl := hl1
    obtain rfl := zb aa
    exact yE X0 hC hE [Hq c0, Hi eB h0, Hq c1]
   ·obtain rfl := zb ae
    exact yB X0 hC bg (w64 (x8 + 1)) hl1 [Hq c0, Hi eB h0, Hq c1]
  ·obtain rfl := zb ae
   obtain rfl := hl1
   exact yB X0 hC ba () aa [Hq c0]
def jq : Code := (Try.f79.body).getD .skip
def xL : w6 := spF (α := List Bool × Bool) (ρ := Bool) 79 (fun x => [(eSl 1 false eB) x.1, eB x.2]) (fun r => eB r) (fun x => yx x.1 x.2) [] (Xt)
theorem jz (hC : zA Try.prog ctr) (h0I : ctr.Has wt) : xL.Ok Try.prog := by
 refine zH ?_
 rintro ⟨s_, v_⟩ r0 aa
 try unfold yx at aa
 refine yO true [(4, none)] jq 9 Try.func79 fun E hE => ?_
 obtain ⟨r_, h0, aa⟩ := zh aa
 obtain rfl := zb aa
 exact yE X0 hC hE [Hc h0I (x := (s_, v_)) h0 (loC (eSl 1 false eB) s_ <| loC eB v_ <| loN)]
def qN : Code := (Try.f46.body).getD .skip
def vJ : w6 := spF (α := z6) (ρ := Bool × Int) 46 (fun x => [vu x]) (fun r => .tup [eB r.1, (eI .i64) r.2]) (fun x => wk x) [] (Qg)
theorem YI (hC : zA Try.prog ctr) (h0b : ctr.Has wO) (h0n : ctr.Has xL) : vJ.Ok Try.prog := by
 refine zH ?_
 rintro m_ r0 aa
 try unfold wk at aa
 refine yO false [(2, none), (3, none)] qN 22 Try.func46 fun E hE => ?_
 obtain ⟨r_, h0, aa⟩ := zh aa
 let Z0 : List HO := [Hc h0b (x := m_) h0 (loC vu m_ <| loN)]
 rcases y4 aa with ⟨c0, aa⟩ | ⟨c0, aa⟩
 ·obtain rfl := zb aa
  exact yE X0 hC hE (Z0 ++ [Hq c0])
 ·obtain ⟨g0, aa⟩ := gdE aa
  refine yA X0 hC qN [1,1,1,1] [] [(1, .own (.box (vu m_))), (5, .own (.box (eOs 1 true eB (List.replicate ((m_.Rows.length : Nat) : Int).toNat false)))), (6, .own (.box (.atom .nilFunc)))] (Z0 ++ [Hq c0, Ha (lnM qR m_.Rows), Hn (rL g0), Ha (rM 1 eB ((m_.Rows.length : Nat) : Int) false), Hh (.cut 1)]) ?_
  refine z4s (by kernel_rfl) 5 fun cp => ?_
  refine z4s (by kernel_rfl) 1 fun gw => ?_
  refine z4s (by kernel_rfl) 6 fun gx => ?_
  obtain ⟨ai, h1, aa⟩ := zh aa
  obtain ⟨aj, h2, aa⟩ := zh aa
  obtain rfl := zb aa
  exact yE ((wV (P := Try.prog) yh [5,1,6] (ZW hC cp gw gx JE _ _ _ _ h1) 18).or ((xMk Try.prog yh).or X0)) hC hE [Hn (kp (f := .fn 78 [.atom cp, .atom gw, .atom gx]) (xs := [(eI .i64) 0]) (ls := [(cp, .box (eOs 1 true eB (List.replicate ((m_.Rows.length : Nat) : Int).toNat false))), (gw, .box (.agg [I m_.Inputs, I m_.Outputs, eSl 1 false qR m_.Rows])), (gx, .box (.fn 78 [.atom cp, .atom gw, .atom gx]))]) (r := .tup []) (ys := [.box (eOs 1 true eB ai.1), .box (.agg [I ai.2.Inputs, I ai.2.Outputs, eSl 1 false qR ai.2.Rows]), .box (.fn 78 [.atom cp, .atom gw, .atom gx])]) [(eI .i64) 0] (show Vv [(eI .i64) 0] [(eI .i64) 0] from inferInstance)), Hg (z01 h0n), Hm (shM eB eB ai.1), Hs (z02 h0n (x := (ai.1, false)) h2 (loC (eSl 1 true eB) ai.1 <| loC eB false <| loN))]
def Wx : Code := (Try.f99.body).getD .skip
def q0 : w6 := spF (α := z6 × Int) (ρ := z6 × Int) 99 (fun x => [vu x.1, (eI .i64) x.2]) (fun r => (zcE 115 z6r (eSp (eI .i64))) r) (fun x => qA x.1 x.2) [] (Xt)
theorem V4 (hC : zA Try.prog ctr) : q0.Ok Try.prog := by
 refine zH ?_
 rintro ⟨m_, from_⟩ r0 aa
 try unfold qA at aa
 refine yO true [(4, none)] Wx 6 Try.func99 fun E hE => ?_
 obtain rfl := zb aa
 exact yEx X0 hC hE [] (.fn 115 [.sptr (.agg [I m_.Inputs, I m_.Outputs, eSl 1 false qR m_.Rows]), .sptr (I from_)]) (show LeV (.fn 115 [.sptr (.agg [I m_.Inputs, I m_.Outputs, eSl 1 false qR m_.Rows]), .sptr (I from_)]) (.fn 115 [.sptr (.agg [I (((m_, from_).1).Inputs), I (((m_, from_).1).Outputs), eSl 1 false qR (((m_, from_).1).Rows)]), .sptr (I ((m_, from_).2))]) from inferInstance)
def yH : Code := (Try.f115.body).getD .skip
abbrev Y6 (x0 : z6) (YY : σ → Q3) (au : zg) (yr : σ × Bool) (ax : List z8) (cg : Int) (bf : List Bool) (ee : List zg) : List (Nat × T) := [(0, .own (.opq (YY yr.1).q)), (1, .d (.sptr (vu x0))), (4, .own (eOs 1 true eB bf)), (5, .own (eDq 3 uo ee)), (6, .own (.box (uo au))), (36, .d (eSl 2 false F6_ ax)), (37, .d (I ((ax.length : Nat) : Int))), (38, .d (I cg))]
abbrev Y4 (x0 : z6) (YY : σ → Q3) (au : zg) (yr : σ × Bool) (ax : List z8) (bp : List Bool) (bj : List zg) (cg : Int) : List (Nat × T) := [(0, .own (.opq (YY yr.1).q)), (1, .d (.sptr (vu x0))), (4, .own (eOs 1 true eB bp)), (5, .own (eDq 3 uo bj)), (6, .own (.box (uo au))), (36, .d (eSl 2 false F6_ ax)), (37, .d (I ((ax.length : Nat) : Int))), (38, .d (I cg))]
abbrev Y5 (x0 : z6) (YY : σ → Q3) (db : σ) (cu : List Bool) (bc : List zg) : List (Nat × T) := [(0, .own (.opq (YY db).q)), (1, .d (.sptr (vu x0))), (4, .own (eOs 1 true eB cu)), (5, .own (eDq 3 uo bc))]
theorem Xu (hC : zA Try.prog ctr) (x0 : z6) (x1 : Int) : z8H Try.prog (.fn 115 [.sptr (.agg [I x0.Inputs, I x0.Outputs, eSl 1 false qR x0.Rows]), .sptr (I x1)]) (fun (x : zg) (_ : Bool) (_ : Value) => [uo x]) (@v8 x0 x1) := by
 refine z8c (tt := yh) (nt := 68) (body := yH) zp Try.func115 rfl (by kernel_rfl) rfl rfl (by show (3 : Nat) ≤ 68; decide) ?_
 intro σ yv YY yy hy sg r0 aa E hE
 unfold v8 at aa
 obtain ⟨g0, aa⟩ := gdE aa
 obtain ⟨i6, h0, aa⟩ := zh aa
 obtain ⟨t1, ht1, aa⟩ := zh aa
 refine yLx X0 hC yH [1,1,1,0] [] (fun s => xS x0 yy s.1 s.2.1 s.2.2) (fun x => Y5 x0 YY x.1 x.2.1 x.2.2) (sg, ((List.replicate ((x0.Rows.length : Nat) : Int).toNat false).set x1.toNat true), ([(zg.mk x1 (-1) (-1))] : List zg)) ht1 [(0, .own (.opq (YY sg).q)), (1, .d (.sptr (vu x0))), (4, .own (eOs 1 true eB ((List.replicate ((x0.Rows.length : Nat) : Int).toNat false).set x1.toNat true))), (5, .own (eOs 3 true uo ([(zg.mk x1 (-1) (-1))])))] inferInstance [Ha (lnM qR x0.Rows), Hn (rL g0), Ha (rM 1 eB ((x0.Rows.length : Nat) : Int) false), Hn (iL eB h0), Hs (iM eB h0), Hs (iM eB h0), Hl (sM eB (List.replicate ((x0.Rows.length : Nat) : Int).toNat false) x1 true)] ?_
 rintro ⟨db, cu, bc⟩ m1 bn ae hl1 J1 ba
 try unfold xS at ae
 let Z0 : List HO := [Hn (rfl : eDq 3 uo bc = A.opq (Ug 3 (bc.map uo)).q), Ha (lnM uo bc)]
 rcases y4 ae with ⟨c0, ae⟩ | ⟨c0, ae⟩
 ·refine yA ((xQl zp 20 150 3 (bc.map uo) (by kernel_rfl)).or X0) hC yH [1,1,1,0,0,1,0] [J1] [(0, .own (.opq (YY db).q)), (1, .d (.sptr (vu x0))), (4, .own (eOs 1 true eB cu)), (5, .own (eDq 3 uo bc))] (Z0 ++ [Hq c0, Hh (.cut 0)]) ?_
  obtain ⟨au, h1, ae⟩ := zh ae
  refine z0f (by kernel_rfl) (x := (sub [1,1,1,0,0,1,0,0] yH)) (y := (sub [1,1,1,0,0,1,0,1] yH)) 5 (fun st1 => Own.canon [0,1,4,5,6] st1 = ofL [(0, .own (.opq (YY db).q)), (1, .d (.sptr (vu x0))), (4, .own (eOs 1 true eB cu)), (5, .own (eDq 3 uo bc)), (6, .own (.box (uo au)))]) (fun cp => yF ((xQd zp 24 3 5 cp (0 : Int) (bc.map uo) (uo au)).or ((xQi zp 23 3 5 cp (bc.map uo)).or X0)) hC .normal [(0, .own (.opq (YY db).q)), (1, .d (.sptr (vu x0))), (4, .own (eOs 1 true eB cu)), (5, .own (eDq 3 uo bc)), (6, .own (.box (uo au)))] [Hn (⟨rfl, rfl, rfl, rfl, i0 h1, (iL uo h1).2⟩ : T.als 5 [] 0 0 = T.als 5 [] 0 0 ∧ some cp = some cp ∧ T.own (eDq 3 uo bc) = T.own (eDq 3 uo bc) ∧ some 3 = some 3 ∧ (0 : Int) ≤ 0 ∧ (0 : Int).toNat < (bc.map uo).length), Hn (⟨rfl, rfl, rfl, iM uo h1, rfl, z2G.isD au⟩ : T.d (.atom (z2s 3 cp (0 : Int))) = T.d (.atom (z2s 3 cp (0 : Int))) ∧ some cp = some cp ∧ T.own (eDq 3 uo bc) = T.own (eDq 3 uo bc) ∧ (bc.map uo)[(0 : Int).toNat]? = some (uo au) ∧ true = true ∧ (uo au).isD = true)] fun st0 h0 => ⟨rfl, h0⟩) fun st1 h1 => z6h h1 ?_
  obtain ⟨g1, ae⟩ := gdE ae
  obtain ⟨yr, h2, ae⟩ := zh ae
  let Z1 : List HO := [Hn (rfl : eDq 3 uo bc = A.opq (Ug 3 (bc.map uo)).q), Hn (⟨g1.1, cuB uo g1⟩ : (0 : Int) ≤ 1 ∧ (1 : Int).toNat ≤ (bc.map uo).length), Hn (drM uo bc (1 : Int).toNat), Hn (z7t (yv := yv) (Y := YY) (enc := (fun (x : zg) (_ : Bool) (_ : Value) => [uo x])) (s := db) (x := au) (s' := yr.1) (b := yr.2) (v := .nilFunc) [uo au] (show Vv [uo au] [uo au] from inferInstance))]
  rcases y4 ae with ⟨c1, ae⟩ | ⟨c1, ae⟩
  ·obtain rfl := zb ae
   obtain rfl := hl1
   obtain rfl := zb aa
   exact yF ((z6u (P := Try.prog) yh hy 29 (s := db) (x := au) (s' := yr.1) (b := yr.2) .nilFunc h2).or ((xQs zp 26 3 (bc.map uo) ((bc.drop (1 : Int).toNat).map uo)).or X0)) hC .ret [(0, .own (.opq (YY yr.1).q))] (Z1 ++ [Hq c1]) fun st0 h0 => hE _ st0 (.inr rfl) h0
  ·obtain ⟨ax, h3, ae⟩ := zh ae
   obtain ⟨t2, ht2, ae⟩ := zh ae
   refine yL ((z6u (P := Try.prog) yh hy 29 (s := db) (x := au) (s' := yr.1) (b := yr.2) .nilFunc h2).or ((xQs zp 26 3 (bc.map uo) ((bc.drop (1 : Int).toNat).map uo)).or X0)) hC yH [1,1,1,0,0,1,0,1,1,1,1,0] [J1] (fun s => xg au yr ax s.1 s.2.1 s.2.2) (fun x => Y4 x0 YY au yr ax x.1 x.2.1 x.2.2) (cu, (bc.drop (1 : Int).toNat), 0) ht2  (Z1 ++ [Hq c1, Hi qR h3, Ha (lnM F6_ ax)]) ?_
   rintro ⟨bp, bj, cg⟩ m2 fp ap hl2 J2 bg
   try unfold xg at ap
   rcases y4 ap with ⟨c2, ap⟩ | ⟨c2, ap⟩
   ·refine yJ X0 hC yH [1,1,1,0,0,1,0,1,1,1,1,0,0,1,1] [J1, J2] [0,1,4,5,6,36,37,38] (fun z : List Bool × List zg => yd cg z.1 z.2 = some fp) (fun z => Y6 x0 YY au yr ax cg z.1 z.2) [(0, .own (.opq (YY yr.1).q)), (1, .d (.sptr (vu x0))), (4, .own (eOs 1 true eB bp)), (5, .own (eDq 3 uo bj)), (6, .own (.box (uo au))), (36, .d (eSl 2 false F6_ ax)), (37, .d (I ((ax.length : Nat) : Int))), (38, .d (I cg))] [Hq c2, Hh (.cut 0)] ?_ fun J3 dz => ?_
    ·rintro ⟨bf, ee⟩ ap
     unfold yd at ap
     obtain rfl := zb ap
     exact yB X0 hC bg (bf, ee, w64 (cg + 1)) hl2 []
    ·obtain ⟨ar, h4, ap⟩ := zh ap
     let Z2 : List HO := [Hi F6_ h4]
     rcases y4 ap with ⟨c3, ap⟩ | ⟨c3, ap⟩
     ·obtain ⟨gt, h5, ap⟩ := zh ap
      let Z3 : List HO := (Z2 ++ (rpN 4 (Hq c3) [Hn (iL eB h5), Hq c3, Hs (iM eB h5), Hq c3, Hq c3]))
      rcases y4 ap with ⟨c4, ap⟩ | ⟨c4, ap⟩
      ·obtain ⟨il, h6, ap⟩ := zh ap
       obtain ⟨g2, ap⟩ := gdE ap
       exact yB ((xQa zp 66 3 (bj.map uo) ((bj ++ [(zg.mk ar.To au.state_ cg)]).map uo)).or X0) hC dz ((bp.set ar.To.toNat true), (bj ++ [(zg.mk ar.To au.state_ cg)])) ap (Z3 ++ [Hq c4, Hn (iL eB h6), Hs (iM eB h6), Hs (iM eB h6), Hl (sM eB bp ar.To true), Hn (⟨rfl, dM uo [(zg.mk ar.To au.state_ cg)], rfl⟩ : 3 = 3 ∧ A.areD ([(zg.mk ar.To au.state_ cg)].map uo) = true ∧ true = true), Hn (⟨rfl, aL uo uo g2, dM uo bj⟩ : eDq 3 uo bj = A.opq (Ug 3 (bj.map uo)).q ∧ (bj.map uo).length + ([(zg.mk ar.To au.state_ cg)].map uo).length ≤ lim ∧ A.areD (bj.map uo) = true), Hn (aM uo bj [(zg.mk ar.To au.state_ cg)])])
      ·exact yB X0 hC dz (bp, bj) ap (Z3 ++ [Hq c4])
     ·exact yB X0 hC dz (bp, bj) ap (Z2 ++ (rpN 7 (Hq c3) [qF]))
   ·obtain rfl := zb ap
    obtain rfl := hl2
    obtain rfl := zb ae
    exact yB X0 hC ba (yr.1, bp, bj) hl1 [Hq c2]
 ·obtain rfl := zb ae
  obtain rfl := hl1
  obtain rfl := zb aa
  exact yF ((xQl zp 20 150 3 (bc.map uo) (by kernel_rfl)).or X0) hC .normal [(0, .own (.opq (YY db).q))] (Z0 ++ [Hq c0]) fun st0 h0 => hE _ st0 (.inl rfl) h0
def ZG : Code := (Try.f67.body).getD .skip
def xM : w6 := spF (α := List Int) (ρ := List Int) 67 (fun x => [F2_ x]) (fun r => (eOs 1 false (eI .i64)) r) (fun x => yk x) [] (Qg)
theorem ZV (hC : zA Try.prog ctr) : xM.Ok Try.prog := by
 refine zH ?_
 rintro s_ r0 aa
 try unfold yk at aa
 refine yO true [(2, none)] ZG 8 Try.func67 fun E hE => ?_
 refine z4r rfl 0 (sz := 1) (t := false) (es := s_.map (eI .i64)) (by kernel_rfl) fun az hv0 hn => ?_
 rcases hn with ⟨hn0, he0⟩ | hn0
 ·obtain ⟨_, aa⟩ := gdE aa
  rw [show s_ = [] from List.map_eq_nil_iff.1 he0] at aa
  obtain rfl := zb aa
  exact yEx ((zap zp 4 29 (by kernel_rfl) hn0).or ((xMv Try.prog 3 0 az hv0).or X0)) hC hE [Hn (rfl : some az = some az), Hn (⟨rfl, rfl⟩ : T.d (.atom az) = T.d (.atom az) ∧ T.d (.atom (.slice none 0 0)) = T.d (.atom (.slice none 0 0))), qT] (eOs 1 true (eI .i64) []) (show LeV (eOs 1 true (eI .i64) []) (eOs 1 false (eI .i64) ([] : List Int)) from inferInstance)
 ·obtain ⟨g0, aa⟩ := gdE aa
  obtain rfl := zb aa
  exact yE ((zap zp 4 29 (by kernel_rfl) hn0).or ((xMv Try.prog 3 0 az hv0).or X0)) hC hE [Hn (rfl : some az = some az), Hn (⟨rfl, rfl⟩ : T.d (.atom az) = T.d (.atom az) ∧ T.d (.atom (.slice none 0 0)) = T.d (.atom (.slice none 0 0))), qF, Hn (dM (eI .i64) s_), Hn (aL (eI .i64) (eI .i64) g0), Hl (aM0 (eI .i64) s_)]
def Y1 : Code := (Try.f31.body).getD .skip
def xa : w6 := spF (α := List Int) (ρ := List Int) 31 (fun x => [F2_ x]) (fun r => F0_ r) (fun x => yG x) [] (Qg)
theorem Y7 (hC : zA Try.prog ctr) : xa.Ok Try.prog := by
 refine zH ?_
 rintro s_ r0 aa
 try unfold yG at aa
 refine yO true [(2, none)] Y1 9 Try.func31 fun E hE => ?_
 obtain ⟨g0, aa⟩ := gdE aa
 obtain rfl := zb aa
 exact yE X0 hC hE [Ha (lnM (eI .i64) s_), Ha (lnM (eI .i64) s_), Hn (slB g0), Hn (slC g0), Hn (zaR (eI .i64) g0), Ha (zco 1 (eI .i64) s_ 0 ((s_.length : Nat) : Int).toNat)]
def vt : Code := (Try.f80.body).getD .skip
def kr : w6 := spF (α := z6 × Int) (ρ := List (List Int) × List Bool) 80 (fun x => [vu x.1, (eI .i64) x.2]) (fun r => .tup [F7_ r.1, (eSl 1 true eB) r.2]) (fun x => jy x.1 x.2) [] (Xt)
abbrev WA (l_ : List (List Int)) (is : List Bool) : List (Nat × T) := [(6, .own (.box (eOs 1 true F0_ l_))), (7, .own (.box (eOs 1 true eB is)))]
abbrev qt (r_ : z6 × Int) (de : List (List Int)) (dp : List Bool) : List (Nat × T) := [(6, .own (.box (eOs 1 true F0_ de))), (7, .own (.box (eOs 1 true eB dp))), (19, .d (.fn 115 [.sptr (.agg [I r_.1.Inputs, I r_.1.Outputs, eSl 1 false qR r_.1.Rows]), .sptr (I r_.2)]))]
theorem QZ (hC : zA Try.prog ctr) (h0J : ctr.Has q0) (h0k : ctr.Has xM) (h09 : ctr.Has xa) : kr.Ok Try.prog := by
 refine zH ?_
 rintro ⟨m_, from_⟩ r0 aa
 try unfold jy at aa
 refine yO false [(4, none), (5, none)] vt 45 Try.func80 fun E hE => ?_
 obtain ⟨g0, aa⟩ := gdE aa
 obtain ⟨g1, aa⟩ := gdE aa
 refine yJ ((xMs zp 12 29).or X0) hC vt [1,1] [] [6,7] (fun z : List (List Int) × List Bool => qz z.1 z.2 = some r0) (fun z => WA z.1 z.2) [(1, .d (I from_)), (2, .own (.box (vu m_))), (6, .own (.box (eOs 1 true F0_ (List.replicate ((m_.Rows.length : Nat) : Int).toNat ([] : List Int))))), (7, .own (.box (eOs 1 true eB (List.replicate ((m_.Rows.length : Nat) : Int).toNat false))))] [Ha (lnM qR m_.Rows), Hn (rL g0), Ha (rM 1 F0_ ((m_.Rows.length : Nat) : Int) ([] : List Int)), Ha (lnM qR m_.Rows), Hn (rL g1), Ha (rM 1 eB ((m_.Rows.length : Nat) : Int) false), Hh (.cut 0)] ?_ fun J1 ba => ?_
 ·rintro ⟨l_, is⟩ aa
  unfold qz at aa
  obtain rfl := zb aa
  exact yE X0 hC hE [Hm (shM F0_ F0_ l_), Hm (shM eB eB is)]
 ·obtain ⟨r_, h0, aa⟩ := zh aa
  obtain ⟨t2, ht2, aa⟩ := zh aa
  refine yAt X0 hC (sub [1,1,2,1,0] vt) (frs [1,1,2,1,0] [J1] vt []) [(6, .own (.box (eOs 1 true F0_ (List.replicate ((m_.Rows.length : Nat) : Int).toNat ([] : List Int))))), (7, .own (.box (eOs 1 true eB (List.replicate ((m_.Rows.length : Nat) : Int).toNat false)))), (19, .d (.fn 115 [.sptr (.agg [I r_.1.Inputs, I r_.1.Outputs, eSl 1 false qR r_.1.Rows]), .sptr (I r_.2)]))] [Hc h0J (x := (m_, from_)) h0 (loC vu m_ <| loC (eI .i64) from_ <| loN)] fun st0 h0 => ?_
  refine z8z (g := .tmp 19) (ps := [20]) (assign := (sub [1,1,2,1,0,0] vt)) (body := (sub [1,1,2,1,0,1] vt)) (K := 115) (caps := [.sptr (.agg [I r_.1.Inputs, I r_.1.Outputs, eSl 1 false qR r_.1.Rows]), .sptr (I r_.2)]) (by kernel_rfl) [6,7,19] (fun s => qt r_ s.1 s.2) (fun z => nomatch z) (fun z => nomatch z) ((fun (x : zg) (_ : Bool) (_ : Value) => [uo x])) (F := @v8 r_.1 r_.2) (fun s x => xi s.1 s.2 x) ((List.replicate ((m_.Rows.length : Nat) : Int).toNat ([] : List Int)), (List.replicate ((m_.Rows.length : Nat) : Int).toNat false)) t2 _ h0 inferInstance (by kernel_rfl) (by decide) (fun _ => rfl) (by rintro ⟨⟩) (by kernel_rfl) (fun _ _ _ => rfl) (Xu hC r_.1 r_.2) ht2 ?_ ?_
  ·rintro i8 ⟨de, dp⟩ cj vr bn ae
   replace ae : xi de dp cj = some bn := ae
   unfold xi at ae
   refine yF X0 hC .normal [(6, .own (.box (eOs 1 true F0_ de))), (7, .own (.box (eOs 1 true eB dp))), (8, .own (.box (uo cj))), (19, .d (.fn 115 [.sptr (.agg [I r_.1.Inputs, I r_.1.Outputs, eSl 1 false qR r_.1.Rows]), .sptr (I r_.2)]))] [] fun st0 h0 => ⟨rfl, z6h h0 ?_⟩
   obtain ⟨iz, h1, ae⟩ := zh ae
   let Z0 : List HO := [Hn (iL eB h1), Hs (iM eB h1), Hs (iM eB h1), Hl (sM eB dp cj.state_ true)]
   rcases y4 ae with ⟨c0, ae⟩ | ⟨c0, ae⟩
   ·obtain ⟨av, h2, ae⟩ := zh ae
    obtain ⟨ai, h3, ae⟩ := zh ae
    obtain ⟨g2, ae⟩ := gdE ae
    obtain ⟨aj, h4, ae⟩ := zh ae
    obtain ⟨em, h5, ae⟩ := zh ae
    obtain rfl := zb ae
    exact yF X0 hC .normal (qt r_ (de.set cj.state_.toNat aj) (dp.set cj.state_.toNat true)) (Z0 ++ [Hq c0, Hn (iL F0_ h2), Hs (iM F0_ h2), Hc h0k (x := av) h3 (loC F0_ av <| loN), Hq (dM (eI .i64) [cj.input_]), Hn (dM (eI .i64) [cj.input_]), Hn (aL (eI .i64) (eI .i64) g2), Hl (aM (eI .i64) ai [cj.input_]), Hg (z01 h09), Hm (shM (eI .i64) (eI .i64) (ai ++ [cj.input_])), Hs (z02 h09 (x := (ai ++ [cj.input_])) h4 (loC F2_ (ai ++ [cj.input_]) <| loN)), Hm (shM (eI .i64) (eI .i64) (ai ++ [cj.input_])), Hn (iL F0_ h5), Hs (iM F0_ h5), Hs (iM F0_ h5), Hl (sM F0_ de cj.state_ aj)]) fun st0 h0 => ⟨rfl, _, h0, LeL.refl _⟩
   ·obtain rfl := zb ae
    exact yF X0 hC .normal (qt r_ de (dp.set cj.state_.toNat true)) (Z0 ++ [Hq c0]) fun st0 h0 => ⟨rfl, _, h0, LeL.refl _⟩
  ·rcases t2 with ⟨de, dp⟩ | z
   ·dsimp only at aa
    exact z0g (by kernel_rfl) (ba _ [(6, .own (.box (eOs 1 true F0_ de))), (7, .own (.box (eOs 1 true eB dp)))] (de, dp) aa (show Own.canon [6,7] _ = ofL _ by kernel_rfl) inferInstance)
   ·cases z
def UN : Code := (Try.f47.body).getD .skip
def jB : w6 := spF (α := z6) (ρ := List (List Int) × List Bool × Int) 47 (fun x => [vu x]) (fun r => .tup [F7_ r.1, (eSl 1 true eB) r.2.1, (eI .i64) r.2.2]) (fun x => qJ x) [] (Qg)
theorem Q7 (hC : zA Try.prog ctr) (h0b : ctr.Has wO) (h0K : ctr.Has kr) : jB.Ok Try.prog := by
 refine zH ?_
 rintro m_ r0 aa
 try unfold qJ at aa
 refine yO false [(2, none), (3, none), (4, none)] UN 20 Try.func47 fun E hE => ?_
 obtain ⟨r_, h0, aa⟩ := zh aa
 let Z0 : List HO := [Hc h0b (x := m_) h0 (loC vu m_ <| loN)]
 rcases y4 aa with ⟨c0, aa⟩ | ⟨c0, aa⟩
 ·obtain rfl := zb aa
  exact yEx X0 hC hE (Z0 ++ [Hq c0, Hm (shM F2_ F2_ []), Hm (shM eB eB [])]) (.tup [eSl 1 true F0_ [], eSl 1 true eB [], I r_]) (show LeV (.tup [eSl 1 true F0_ [], eSl 1 true eB [], I r_]) (.tup [eSl 1 true F0_ ([] : List (List Int)), eSl 1 true eB ([] : List Bool), I r_]) from inferInstance)
 ·obtain ⟨ai, h1, aa⟩ := zh aa
  obtain rfl := zb aa
  exact yE X0 hC hE (Z0 ++ [Hq c0, Hc h0K (x := (m_, 0)) h1 (loC vu m_ <| loC (eI .i64) 0 <| loN)])
def kS : Code := (Try.f27.body).getD .skip
def wN : w6 := spF (α := List (List Int)) (ρ := List (List Int)) 27 (fun x => [F9_ x]) (fun r => z8J r) (fun x => wi x) [] (Qg)
theorem kV (hC : zA Try.prog ctr) : wN.Ok Try.prog := by
 refine zH ?_
 rintro s_ r0 aa
 try unfold wi at aa
 refine yO true [(2, none)] kS 8 Try.func27 fun E hE => ?_
 refine z4r rfl 0 (sz := 1) (t := false) (es := s_.map F2_) (by kernel_rfl) fun az hv0 hn => ?_
 rcases hn with ⟨hn0, he0⟩ | hn0
 ·obtain ⟨_, aa⟩ := gdE aa
  rw [show s_ = [] from List.map_eq_nil_iff.1 he0] at aa
  obtain rfl := zb aa
  exact yEx ((zap zp 4 22 (by kernel_rfl) hn0).or ((xMv Try.prog 3 0 az hv0).or X0)) hC hE [Hn (rfl : some az = some az), Hn (⟨rfl, rfl⟩ : T.d (.atom az) = T.d (.atom az) ∧ T.d (.atom (.slice none 0 0)) = T.d (.atom (.slice none 0 0))), qT] (eOs 1 true F2_ []) (show LeV (eOs 1 true F2_ []) (eOs 1 false F2_ ([] : List (List Int))) from inferInstance)
 ·obtain ⟨g0, aa⟩ := gdE aa
  obtain rfl := zb aa
  exact yE ((zap zp 4 22 (by kernel_rfl) hn0).or ((xMv Try.prog 3 0 az hv0).or X0)) hC hE [Hn (rfl : some az = some az), Hn (⟨rfl, rfl⟩ : T.d (.atom az) = T.d (.atom az) ∧ T.d (.atom (.slice none 0 0)) = T.d (.atom (.slice none 0 0))), qF, Hn (dM F2_ s_), Hn (aL F2_ F2_ g0), Hl (aM0 F2_ s_)]
def Wy : Code := (Try.f66.body).getD .skip
def q9 : w6 := spF (α := List Int × List Int) (ρ := Bool) 66 (fun x => [F2_ x.1, F2_ x.2]) (fun r => eB r) (fun x => vj x.1 x.2) [] (Xt)
theorem V5 (hC : zA Try.prog ctr) (h0a : ctr.Has va) : q9.Ok Try.prog := by
 refine zH ?_
 rintro ⟨a_, b_⟩ r0 aa
 try unfold vj at aa
 refine yO true [(4, none)] Wy 9 Try.func66 fun E hE => ?_
 obtain ⟨r_, h0, aa⟩ := zh aa
 obtain rfl := zb aa
 exact yE X0 hC hE [Hc h0a (x := (a_, b_)) h0 (loC F2_ a_ <| loC F2_ b_ <| loN)]
def zD : Code := (Try.f65.body).getD .skip
def xp : w6 := spF (α := List (List Int) × Unit) (ρ := List (List Int)) 65 (fun x => [z8J x.1, (ZA 66) x.2]) (fun r => z8J r) (fun x => ye x.1 x.2) [true, false] (by
 rintro ⟨a0, a1⟩ ⟨b0, b1⟩ h
 have e0 := qw.inj (f := z8J) _ _ (List.cons.inj h).1
 replace h := (List.cons.inj h).2
 have e1 := qw.inj (f := (ZA 66)) _ _ (List.cons.inj h).1
 subst e0 e1
 rfl)
abbrev uL (s_ : List (List Int)) : List (Nat × T) := [(0, .own (eOs 1 false F2_ s_))]
abbrev uK (s_ : List (List Int)) (k_ : Int) : List (Nat × T) := [(0, .own (eOs 1 false F2_ s_)), (1, .d (.fn 66 [])), (5, .d (I k_))]
abbrev uJ (bu : List (List Int)) (bw : Int) : List (Nat × T) := [(0, .own (eOs 1 false F2_ bu)), (5, .d (I bw))]
abbrev uI (az : Value) (k_ : Int) (k2 : Int) (gu : List (List Int)) (gv : Int) : List (Nat × T) := [(0, .own (eOs 1 false F2_ gu)), (1, .d (.fn 66 [])), (5, .d (I gv)), (6, .d (.atom (kz 1 az k_))), (7, .d (I k2))]
abbrev uG (az : Value) (k_ : Int) (cr : List (List Int)) (dw : Int) (k2 : Int) : List (Nat × T) := [(0, .own (eOs 1 false F2_ cr)), (1, .d (.fn 66 [])), (5, .d (I dw)), (6, .d (.atom (kz 1 az k_))), (7, .d (I k2))]
abbrev uH (s_ : List (List Int)) (k_ : Int) : List (Nat × T) := [(0, .own (eOs 1 false F2_ s_)), (1, .d (.fn 66 [])), (5, .d (I k_))]
def zj : XH Try.prog := ((zck zp 64).or X0)
theorem qV (hC : zA Try.prog ctr) (h0o : ctr.Has q9) : xp.Ok Try.prog := by
 refine zH ?_
 rintro ⟨s_, eq⟩ r0 aa
 try unfold ye at aa
 refine yO true [(4, none)] zD 66 Try.func65 fun E hE => ?_
 refine JU (y := eOs 1 false F2_ s_) rfl 0 (by kernel_rfl) (by kernel_rfl) fun az hv0 => ?_
 let Z0 : List HO := [Ha (lnM F2_ s_)]
 rcases y4 aa with ⟨c0, aa⟩ | ⟨c0, aa⟩
 ·obtain rfl := zb aa
  exact yE zj hC hE (Z0 ++ [Hq c0])
 ·refine yJ zj hC zD [1,1] [] [0] (fun z : Unit => xr s_ = some r0) (fun z => uL s_) [(0, .own (eOs 1 false F2_ s_)), (1, .d (.fn 66 []))] (Z0 ++ [Hq c0, Hh (.cut 0)]) ?_ fun J1 ba => ?_
  ·rintro ⟨⟩ aa
   unfold xr at aa
   obtain rfl := zb aa
   exact yE zj hC hE []
  ·obtain ⟨t2, ht2, aa⟩ := zh aa
   refine yL zj hC zD [1,1,2,1,0] [J1] (fun s => y6 s_ s) (fun x => uH s_ x) 1 ht2  [] ?_
   rintro k_ m2 bn ae hl1 J2 bg
   try unfold y6 at ae
   let Z1 : List HO := [Ha (lnM F2_ s_)]
   rcases y4 ae with ⟨c1, ae⟩ | ⟨c1, ae⟩
   ·refine yJ zj hC zD [1,1,2,1,0,0,1] [J1, J2] [0,1,5] (fun z : Unit => yq k_ = some bn) (fun z => uK s_ k_) [(0, .own (eOs 1 false F2_ s_)), (1, .d (.fn 66 [])), (5, .d (I k_))] (Z1 ++ [Hq c1, Hh (.cut 0)]) ?_ fun J3 dz => ?_
    ·rintro ⟨⟩ ae
     unfold yq at ae
     obtain rfl := zb ae
     exact yB zj hC bg (w64 (k_ + 1)) hl1 []
    ·obtain ⟨bi, h0, ae⟩ := zh ae
     obtain ⟨fz, h1, ae⟩ := zh ae
     obtain ⟨r_, h2, ae⟩ := zh ae
     let Z2 : List HO := [Hn (iL F2_ h0), Hs (iM F2_ h0), Hn (iL F2_ h1), Hs (iM F2_ h1), Hc h0o (x := (bi, fz)) h2 (loC F2_ bi <| loC F2_ fz <| loN)]
     rcases y4 ae with ⟨c2, ae⟩ | ⟨c2, ae⟩
     ·obtain ⟨g0, ae⟩ := gdE ae
      refine yJ ((xAs Try.prog 6 (kz 1 az k_)).or ((xVw zp 31 0 az).or zj)) hC zD [1,1,2,1,0,0,1,2,0,1,0,1] [J1, J2, J3] [0,5] (fun z : List (List Int) × Int => zQ z.1 z.2 = some bn) (fun z => uJ z.1 z.2) [(0, .own (eOs 1 false F2_ s_)), (1, .d (.fn 66 [])), (5, .d (I k_)), (6, .d (.atom (kz 1 az k_)))] (Z2 ++ [Hq c2, Hn (⟨.inl rfl, rfl⟩ : (T.als 0 [] 0 0 = T.als 0 [] 0 0 ∨ T.als 0 [] 0 0 = T.d (.atom az)) ∧ some az = some az), Hn (⟨g0.1, cuB F2_ g0⟩ : (0 : Int) ≤ k_ ∧ k_.toNat ≤ (s_.map F2_).length), Hn (rfl : T.d (.atom (kz 1 az k_)) = T.d (.atom (kz 1 az k_))), Hh (.cut 1)]) ?_ fun J4 fc => ?_
      ·rintro ⟨bu, bw⟩ ae
       unfold zQ at ae
       obtain ⟨g1, ae⟩ := gdE ae
       obtain ⟨g2, ae⟩ := gdE ae
       obtain ⟨g3, ae⟩ := gdE ae
       obtain rfl := zb ae
       obtain rfl := hl1
       obtain rfl := zb aa
       exact yE ((xVc zp 61 1 0 az bw).or ((xVw zp 61 0 az).or zj)) hC hE [Hn (⟨.inl rfl, rfl⟩ : (T.als 0 [] 0 0 = T.als 0 [] 0 0 ∨ T.als 0 [] 0 0 = T.d (.atom az)) ∧ some az = some az), Hn (⟨g1.1, cuB F2_ g1⟩ : (0 : Int) ≤ bw ∧ bw.toNat ≤ (bu.map F2_).length), Hn (⟨rfl, rfl⟩ : T.d (.atom (kz 1 az bw)) = T.d (.atom (kz 1 az bw)) ∧ some az = some az), Hn (⟨g2.1, cuB F2_ g2, dM F2_ bu⟩ : (0 : Int) ≤ bw ∧ bw.toNat ≤ (bu.map F2_).length ∧ A.areD (bu.map F2_) = true), Hx (.l ((bu.take bw.toNat ++ List.replicate (bu.length - bw.toNat) []).map F2_)) (vcM F2_ bu bw.toNat ([] : List Int)), Hn g3.1, Hn (cuB F2_ g3), Hl (cuM F2_ (bu.take bw.toNat ++ List.replicate (bu.length - bw.toNat) []) bw)]
      ·obtain ⟨t5, ht5, ae⟩ := zh ae
       refine yL zj hC zD [1,1,2,1,0,0,1,2,0,1,0,1,2,1,0] [J1, J2, J3, J4] (fun s => zO k_ s.1 s.2.1 s.2.2) (fun x => uG az k_ x.1 x.2.1 x.2.2) (s_, k_, 1) ht5  [] ?_
       rintro ⟨cr, dw, k2⟩ m5 fp ap hl2 J5 fe
       try unfold zO at ap
       let Z3 : List HO := [Hn (⟨rfl, rfl⟩ : T.d (.atom (kz 1 az k_)) = T.d (.atom (kz 1 az k_)) ∧ some az = some az), Hx (.a (.atom (.int .i64 ((cr.length - k_.toNat : Nat) : Int)))) (vlM F2_ cr k_.toNat)]
       rcases y4 ap with ⟨c3, ap⟩ | ⟨c3, ap⟩
       ·refine yJ ((xVl zp 34 22 1 0 az k_ (by kernel_rfl)).or zj) hC zD [1,1,2,1,0,0,1,2,0,1,0,1,2,1,0,0,1] [J1, J2, J3, J4, J5] [0,1,5,6,7] (fun z : List (List Int) × Int => zP k2 z.1 z.2 = some fp) (fun z => uI az k_ k2 z.1 z.2) [(0, .own (eOs 1 false F2_ cr)), (1, .d (.fn 66 [])), (5, .d (I dw)), (6, .d (.atom (kz 1 az k_))), (7, .d (I k2))] (Z3 ++ [Hq c3, Hh (.cut 0)]) ?_ fun J6 gk => ?_
        ·rintro ⟨gu, gv⟩ ap
         unfold zP at ap
         obtain rfl := zb ap
         exact yB zj hC fe (gu, gv, w64 (k2 + 1)) hl2 []
        ·obtain ⟨g4, ap⟩ := gdE ap
         obtain ⟨fw, h3, ap⟩ := zh ap
         obtain ⟨g5, ap⟩ := gdE ap
         obtain ⟨fx, h4, ap⟩ := zh ap
         obtain ⟨ai, h5, ap⟩ := zh ap
         let Z4 : List HO := [Hn (⟨rfl, rfl⟩ : T.d (.atom (kz 1 az k_)) = T.d (.atom (kz 1 az k_)) ∧ some az = some az), Hn (⟨g4.1, g4.2, (iL F2_ h3).2⟩ : (0 : Int) ≤ k_ ∧ (0 : Int) ≤ k2 ∧ (k_ + k2).toNat < (cr.map F2_).length), Hs (iM F2_ h3), Hn (⟨rfl, rfl⟩ : T.d (.atom (kz 1 az k_)) = T.d (.atom (kz 1 az k_)) ∧ some az = some az), Hn (⟨g5.1, g5.2, (iL F2_ h4).2⟩ : (0 : Int) ≤ k_ ∧ (0 : Int) ≤ w64 (k2 - 1) ∧ (k_ + (w64 (k2 - 1))).toNat < (cr.map F2_).length), Hs (iM F2_ h4), Hc h0o (x := (fw, fx)) h5 (loC F2_ fw <| loC F2_ fx <| loN)]
         rcases y4 ap with ⟨c4, ap⟩ | ⟨c4, ap⟩
         ·obtain ⟨g6, ap⟩ := gdE ap
          obtain ⟨fy, h6, ap⟩ := zh ap
          obtain ⟨iv, h7, ap⟩ := zh ap
          exact yB ((xVi zp 54 1 0 az k_).or ((xVi zp 46 1 0 az k_).or ((xVi zp 41 1 0 az k_).or zj))) hC gk ((cr.set dw.toNat fy), w64 (dw + 1)) ap (Z4 ++ [Hq c4, Hn (⟨rfl, rfl⟩ : T.d (.atom (kz 1 az k_)) = T.d (.atom (kz 1 az k_)) ∧ some az = some az), Hn (⟨g6.1, g6.2, (iL F2_ h6).2⟩ : (0 : Int) ≤ k_ ∧ (0 : Int) ≤ k2 ∧ (k_ + k2).toNat < (cr.map F2_).length), Hs (iM F2_ h6), Hn (iL F2_ h7), Hs (iM F2_ h7), Hs (iM F2_ h7), Hl (sM F2_ cr dw fy)])
         ·exact yB ((xVi zp 46 1 0 az k_).or ((xVi zp 41 1 0 az k_).or zj)) hC gk (cr, dw) ap (Z4 ++ [Hq c4])
       ·obtain rfl := zb ap
        obtain rfl := hl2
        exact yB ((xVl zp 34 22 1 0 az k_ (by kernel_rfl)).or zj) hC fc (cr, dw) ae (Z3 ++ [Hq c3])
     ·exact yB zj hC dz () ae (Z2 ++ [Hq c2])
   ·obtain rfl := zb ae
    obtain rfl := hl1
    exact yB zj hC ba () aa (Z1 ++ [Hq c1])
def jY : Code := (Try.f64.body).getD .skip
def x5 : w6 := spR (α := List (List Int)) (ρ := List (List Int)) 64 (fun x => [z8J x]) (fun r => (eOs 1 true F2_) r) (fun x => yR x) [true] (Qg)
theorem jU : ∀ x r, (fun x => yR x) x = some r → (UI.add x5).run 64 ((UI.add x5).norm 64 ((fun x => [z8J x]) x)) = some ((fun r => (eOs 1 true F2_) r) r) := fun x r h => zca h rfl
theorem jW : (UI.add x5).gives 64 = [true] := z9Z
theorem wq (hC : zA Try.prog ctr) : x5.Ok Try.prog := by
 refine z6x ?_
 rintro s_ r0 aa
 try unfold yR at aa
 refine yO true [(2, none)] jY 9 Try.func64 fun E hE => ?_
 obtain rfl := zb aa
 exact yE ((xCl zp 8).or X0) hC hE [Ha (lnM F2_ s_), Ha (lnM F2_ s_), Hn (Int.natCast_nonneg _ : (0 : Int) ≤ ((s_.length : Nat) : Int)), Hn (Int.natCast_nonneg _ : (0 : Int) ≤ ((s_.length : Nat) : Int)), Hn (clB F2_ s_), Ha (clE 1 F2_ s_)]
def jX : Code := (Try.f31.body).getD .skip
def x4 : w6 := spR (α := List Int) (ρ := List Int) 31 (fun x => [(eOs 1 false (eI .i64)) x]) (fun r => F1_ r) (fun x => yQ x) [true] (Qg)
theorem jT : ∀ x r, (fun x => yQ x) x = some r → (UI.add x4).run 31 ((UI.add x4).norm 31 ((fun x => [(eOs 1 false (eI .i64)) x]) x)) = some ((fun r => F1_ r) r) := fun x r h => zca h rfl
theorem jV : (UI.add x4).gives 31 = [true] := z9Z
theorem km (hC : zA Try.prog ctr) : x4.Ok Try.prog := by
 refine z6x ?_
 rintro s_ r0 aa
 try unfold yQ at aa
 refine yO true [(2, none)] jX 9 Try.func31 fun E hE => ?_
 obtain rfl := zb aa
 exact yE ((xCl zp 8).or X0) hC hE [Ha (lnM (eI .i64) s_), Ha (lnM (eI .i64) s_), Hn (Int.natCast_nonneg _ : (0 : Int) ≤ ((s_.length : Nat) : Int)), Hn (Int.natCast_nonneg _ : (0 : Int) ≤ ((s_.length : Nat) : Int)), Hn (clB (eI .i64) s_), Ha (clE 1 (eI .i64) s_)]
def xZ : Code := (Try.f26.body).getD .skip
def vI : w6 := spF (α := List (List Int)) (ρ := List (List Int) × Int) 26 (fun x => [F9_ x]) (fun r => .opq (zG [some (F8_ r.1), some ((eI .i64) r.2)])) (fun x => yW x) [] (Qg)
abbrev XX (out : List (List Int × Bool)) : List (Nat × T) := [(4, .own (eOs 1 true (eFo 1 (eI .i64)) out))]
abbrev XW (ck : Value) (aj : List (List Int)) (aw : List (List Int × Bool)) (co : Int) : List (Nat × T) := [(4, .own (eOs 1 true (eFo 1 (eI .i64)) aw)), (22, .d (.atom (kz 1 ck (0 : Int)))), (23, .d (I ((aj.length - (0 : Int).toNat : Nat) : Int))), (24, .d (I co))]
theorem Q8 (hC : zA Try.prog ctr) (h0L : ctr.Has wN) (h0a : ctr.Has va) (h0M : ctr.Has xp) (h0d : ctr.Has qC) (h0k : ctr.Has xM) : vI.Ok Try.prog := by
 refine zH ?_
 rintro l_ r0 aa
 try unfold yW at aa
 refine ZD (tt := yh) (rs := [(true, 2, none), (false, 3, none)]) (n := ⟨37, []⟩) (body := xZ) zp Try.func26 rfl (by kernel_rfl) rfl rfl (by show (1 : Nat) ≤ 37; decide) fun E hE => ?_
 obtain ⟨r_, h0, aa⟩ := zh aa
 refine yA X0 hC xZ [1,1] [] [(4, .own (eOs 1 false F2_ r_))] [Hc h0L (x := l_) h0 (loC F9_ l_ <| loN), Hh (.cut 0)] ?_
 obtain ⟨sorted, h1, aa⟩ := zh aa
 refine z0f (by kernel_rfl) (x := (sub [1,1,0] xZ)) (y := (sub [1,1,1] xZ)) 4 (fun st1 => Own.canon [4] st1 = ofL [(4, .own (eOs 1 false F2_ sorted))]) (fun ck => yF ((wV (P := Try.prog) yh [4] (z2Z zaP (f := F2_) (t := false) (v := ck) (fun _ => rfl) (fun _ => rfl) (fun x y c h => zn hC h0a (x := (x, y)) h) h1) 10).or X0) hC .normal [(4, .own (eOs 1 false F2_ sorted))] [Hn (kp (f := .fn 62 []) (xs := [.atom ck, .fn 63 []]) (ls := [(ck, eOs 1 false F2_ r_)]) (r := .tup []) (ys := [eOs 1 false F2_ sorted]) [.atom ck, .fn 63 []] (show Vv [.atom ck, .fn 63 []] [.atom ck, .fn 63 []] from inferInstance))] fun st0 h0 => ⟨rfl, h0⟩) fun st1 h1 => z6h h1 ?_
 obtain ⟨ai, h2, aa⟩ := zh aa
 obtain ⟨aj, h3, aa⟩ := zh aa
 let Z0 : List HO := [Hc h0M (x := (sorted, ())) h2 (loC z8J sorted <| loC (ZA 66) () <| loN), Hh (.g [true]), Hn jW, Hx (.a ((eOs 1 true F2_) aj)) (jU ai _ h3), Ha (lnM F2_ aj)]
 rcases y4 aa with ⟨c0, aa⟩ | ⟨c0, aa⟩
 ·obtain rfl := zb aa
  let ZE : List HO := (Z0 ++ (rpN 4 (Hq c0) [qT]))
  exact wU ((QU zp (wq hC) 13).or X0) zp hC wj hE 4000 (hs := hoH ZE) (x := (.opq (zG [some (eOs 1 true F1_ []), some (I 3)]))) (hoB ZE) (by kernel_rfl) (show LeV (.opq (zG [some (eOs 1 true F1_ []), some (I 3)])) (.opq (zG [some (eOs 1 true F1_ ([] : List (List Int))), some (I 3)])) from inferInstance)
 ·obtain ⟨al, h4, aa⟩ := zh aa
  let Z1 : List HO := (Z0 ++ [Hq c0, Hq c0, Hg (z01 h0d), Hm (shM F2_ F2_ aj), Hs (z02 h0d (x := aj) h4 (loC (eSl 1 true F2_) aj <| loN)), Hq c0, Hq c0])
  rcases y4 aa with ⟨c1, aa⟩ | ⟨c1, aa⟩
  ·obtain rfl := zb aa
   let ZE : List HO := (Z1 ++ [Hq c1])
   exact wU ((QU zp (wq hC) 13).or X0) zp hC wj hE 4000 (hs := hoH ZE) (x := (.opq (zG [some (eOs 1 true F1_ []), some (I 3)]))) (hoB ZE) (by kernel_rfl) (show LeV (.opq (zG [some (eOs 1 true F1_ []), some (I 3)])) (.opq (zG [some (eOs 1 true F1_ ([] : List (List Int))), some (I 3)])) from inferInstance)
  ·refine yA ((QU zp (wq hC) 13).or X0) hC xZ [1,1,1,1,1] [] [(4, .own (eOs 1 true F2_ aj))] (Z1 ++ [Hq c1, Hh (.cut 0)]) ?_
   refine JU (y := eOs 1 true F2_ aj) (by kernel_rfl) 4 (by kernel_rfl) (by kernel_rfl) fun ck hv4 => ?_
   refine yJ X0 hC xZ [1,1,1,1,1] [] [4] (fun z : List (List Int × Bool) => up z = some r0) (fun z => XX z) [(4, .own (eOs 1 true F2_ aj))] [Hh (.cut 0)] ?_ fun J1 ba => ?_
   ·rintro out aa
    unfold up at aa
    obtain ⟨hfl0, aa⟩ := gdE aa
    obtain rfl := zb aa
    let ZE : List HO := []
    exact wU X0 zp hC wj hE 4000 (hs := hoH ZE) (x := (.opq (zG [some (eOs 1 true (eFo 1 (eI .i64)) out), some (I 0)]))) (hoB ZE) (by kernel_rfl) (haveI := foA (s := 1) (t := 1) (b := true) (f := (eI .i64)) hfl0; show LeV (.opq (zG [some (eOs 1 true (eFo 1 (eI .i64)) out), some (I 0)])) (.opq (zG [some (eOs 1 true F1_ (out.map (·.1))), some (I 0)])) from inferInstance)
   ·obtain ⟨t2, ht2, aa⟩ := zh aa
    refine yLx ((xVl zp 23 22 1 4 ck (0 : Int) (by kernel_rfl)).or ((xMw Try.prog 22 4 1 ck).or X0)) hC xZ [1,1,1,1,1,2,1,0] [J1] (fun s => xl aj s.1 s.2) (fun x => XW ck aj x.1 x.2) ((aj.map fun q => (q, false)), 0) ht2 [(4, .own (eOs 1 true F2_ aj)), (22, .d (.atom (kz 1 ck (0 : Int)))), (23, .d (I ((aj.length - (0 : Int).toNat : Nat) : Int))), (24, .d (I 0))] inferInstance [Hn (rfl : some ck = some ck), Hn (⟨rfl, rfl⟩ : T.d (.atom (kz 1 ck (0 : Int))) = T.d (.atom (kz 1 ck (0 : Int))) ∧ some ck = some ck), Hx (.a (.atom (.int .i64 ((aj.length - (0 : Int).toNat : Nat) : Int)))) (vlM F2_ aj (0 : Int).toNat)] ?_
    rintro ⟨aw, co⟩ m2 bn ae hl1 J2 bg
    try unfold xl at ae
    rcases y4 ae with ⟨c2, ae⟩ | ⟨c2, ae⟩
    ·obtain ⟨g0, ae⟩ := gdE ae
     obtain ⟨ep, h5, ae⟩ := zh ae
     obtain ⟨g1, ae⟩ := gdE ae
     obtain ⟨ak, h6, ae⟩ := zh ae
     obtain ⟨am, h7, ae⟩ := zh ae
     obtain ⟨fj, h8, ae⟩ := zh ae
     obtain ⟨g2, ae⟩ := gdE ae
     obtain rfl := zb ae
     exact yB ((QU zp (km hC) 33).or ((xVi zp 27 1 4 ck (0 : Int)).or X0)) hC bg ((aw.set co.toNat (am, true)), w64 (co + 1)) hl1 [Hq c2, Hn (⟨rfl, rfl⟩ : T.d (.atom (kz 1 ck (0 : Int))) = T.d (.atom (kz 1 ck (0 : Int))) ∧ some ck = some ck), Hn (⟨g0.1, g0.2, (iL (eFo 1 (eI .i64)) h5).2⟩ : (0 : Int) ≤ 0 ∧ (0 : Int) ≤ co ∧ (0 + co).toNat < (aw.map (eFo 1 (eI .i64))).length), Hx (.a (eSl 1 false (eI .i64) ep.1)) (iMf 1 (eI .i64) h5 g1), Hc h0k (x := ep.1) h6 (loC F2_ ep.1 <| loN), Hh (.g [true]), Hn jV, Hx (.a (F1_ am)) (jT ak _ h7), Hn (iL (eFo 1 (eI .i64)) h8), Hx (.a (eSl 1 false (eI .i64) fj.1)) (iMf 1 (eI .i64) h8 g2), Hx (.a (eSl 1 false (eI .i64) fj.1)) (iMf 1 (eI .i64) h8 g2), Hl (sM (eFo 1 (eI .i64)) aw co (am, true))]
    ·obtain rfl := zb ae
     obtain rfl := hl1
     exact yB X0 hC ba aw aa [Hq c2]
def JR : Code := (Try.f43.body).getD .skip
def Za : w6 := spF (α := List (List Int) × Int) (ρ := List (List Int) × Int) 43 (fun x => [F9_ x.1, (eI .i64) x.2]) (fun r => .opq (zG [some (F8_ r.1), some ((eI .i64) r.2)])) (fun x => Yu x.1 x.2) [] (Xt)
theorem K7 (hC : zA Try.prog ctr) (h0g : ctr.Has qD) (h08 : ctr.Has vI) : Za.Ok Try.prog := by
 refine zH ?_
 rintro ⟨l_, inputs⟩ r0 aa
 try unfold Yu at aa
 refine ZD (tt := yh) (rs := [(true, 4, none), (false, 5, none)]) (n := ⟨17, []⟩) (body := JR) zp Try.func43 rfl (by kernel_rfl) rfl rfl (by show (2 : Nat) ≤ 17; decide) fun E hE => ?_
 obtain ⟨r_, h0, aa⟩ := zh aa
 let Z0 : List HO := [Hc h0g (x := (l_, inputs)) h0 (loC F9_ l_ <| loC (eI .i64) inputs <| loN)]
 rcases y4 aa with ⟨c0, aa⟩ | ⟨c0, aa⟩
 ·obtain rfl := zb aa
  let ZE : List HO := (Z0 ++ [Hq c0])
  exact wU X0 zp hC wj hE 4000 (hs := hoH ZE) (x := (.opq (zG [some (eOs 1 true F1_ []), some (I r_)]))) (hoB ZE) (by kernel_rfl) (show LeV (.opq (zG [some (eOs 1 true F1_ []), some (I r_)])) (.opq (zG [some (eOs 1 true F1_ ([] : List (List Int))), some (I r_)])) from inferInstance)
 ·obtain ⟨ai, h1, aa⟩ := zh aa
  obtain rfl := zb aa
  let ZE : List HO := (Z0 ++ [Hq c0, Hc h08 (x := l_) h1 (loC F9_ l_ <| loN), Hn (⟨rfl, rfl⟩ : T.own (.opq (zG [some (eOs 1 true F1_ ai.1), some (I ai.2)])) = T.own (.opq (zG [some (eOs 1 true F1_ ai.1), some (I ai.2)])) ∧ 1 = 1), Hn (⟨rfl, rfl⟩ : T.own (.opq (zG [none, some (I ai.2)])) = T.own (.opq (zG [none, some (I ai.2)])) ∧ 1 = 1)])
  exact wU ((zt Try.prog 16 [none, some (I ai.2)]).or ((zt Try.prog 15 [some (eOs 1 true F1_ ai.1), some (I ai.2)]).or X0)) zp hC wj hE 4000 (hs := hoH ZE) (x := (.opq (zG [some (eOs 1 true F1_ ai.1), some (I ai.2)]))) (hoB ZE) (by kernel_rfl) (LeV.refl _)
def Vh : Code := (Try.f17.body).getD .skip
def vb : w6 := spF (α := z6) (ρ := List (List Int) × Int) 17 (fun x => [vu x]) (fun r => .opq (zG [some (F8_ r.1), some ((eI .i64) r.2)])) (fun x => xk x) [] (Qg)
theorem VQ (hC : zA Try.prog ctr) (h0N : ctr.Has vJ) (h0O : ctr.Has jB) (h0P : ctr.Has Za) : vb.Ok Try.prog := by
 refine zH ?_
 rintro m_ r0 aa
 try unfold xk at aa
 refine ZD (tt := yh) (rs := [(true, 2, none), (false, 3, none)]) (n := ⟨33, []⟩) (body := Vh) zp Try.func17 rfl (by kernel_rfl) rfl rfl (by show (1 : Nat) ≤ 33; decide) fun E hE => ?_
 obtain ⟨r_, h0, aa⟩ := zh aa
 let Z0 : List HO := [Hc h0N (x := m_) h0 (loC vu m_ <| loN)]
 rcases y4 aa with ⟨c0, aa⟩ | ⟨c0, aa⟩
 ·obtain rfl := zb aa
  let ZE : List HO := (Z0 ++ [Hq c0])
  exact wU X0 zp hC wj hE 4000 (hs := hoH ZE) (x := (.opq (zG [some (eOs 1 true F1_ []), some (I r_.2)]))) (hoB ZE) (by kernel_rfl) (show LeV (.opq (zG [some (eOs 1 true F1_ []), some (I r_.2)])) (.opq (zG [some (eOs 1 true F1_ ([] : List (List Int))), some (I r_.2)])) from inferInstance)
 ·rcases y4 aa with ⟨c1, aa⟩ | ⟨c1, aa⟩
  ·obtain rfl := zb aa
   let ZE : List HO := (Z0 ++ [Hq c0, Hq c1])
   exact wU X0 zp hC wj hE 4000 (hs := hoH ZE) (x := (.opq (zG [some (eOs 1 true F1_ []), some (I 11)]))) (hoB ZE) (by kernel_rfl) (show LeV (.opq (zG [some (eOs 1 true F1_ []), some (I 11)])) (.opq (zG [some (eOs 1 true F1_ ([] : List (List Int))), some (I 11)])) from inferInstance)
  ·obtain ⟨ai, h1, aa⟩ := zh aa
   let Z1 : List HO := (Z0 ++ [Hq c0, Hq c1, Hc h0O (x := m_) h1 (loC vu m_ <| loN)])
   rcases y4 aa with ⟨c2, aa⟩ | ⟨c2, aa⟩
   ·obtain rfl := zb aa
    let ZE : List HO := (Z1 ++ [Hq c2])
    exact wU X0 zp hC wj hE 4000 (hs := hoH ZE) (x := (.opq (zG [some (eOs 1 true F1_ []), some (I ai.2.2)]))) (hoB ZE) (by kernel_rfl) (show LeV (.opq (zG [some (eOs 1 true F1_ []), some (I ai.2.2)])) (.opq (zG [some (eOs 1 true F1_ ([] : List (List Int))), some (I ai.2.2)])) from inferInstance)
   ·obtain ⟨aj, h2, aa⟩ := zh aa
    obtain rfl := zb aa
    let ZE : List HO := (Z1 ++ [Hq c2, Hc h0P (x := (ai.1, m_.Inputs)) h2 (loC F7_ ai.1 <| loC (eI .i64) m_.Inputs <| loN), Hn (⟨rfl, rfl⟩ : T.own (.opq (zG [some (eOs 1 true F1_ aj.1), some (I aj.2)])) = T.own (.opq (zG [some (eOs 1 true F1_ aj.1), some (I aj.2)])) ∧ 1 = 1), Hn (⟨rfl, rfl⟩ : T.own (.opq (zG [none, some (I aj.2)])) = T.own (.opq (zG [none, some (I aj.2)])) ∧ 1 = 1)])
    exact wU ((zt Try.prog 32 [none, some (I aj.2)]).or ((zt Try.prog 31 [some (eOs 1 true F1_ aj.1), some (I aj.2)]).or X0)) zp hC wj hE 4000 (hs := hoH ZE) (x := (.opq (zG [some (eOs 1 true F1_ aj.1), some (I aj.2)]))) (hoB ZE) (by kernel_rfl) (LeV.refl _)
def wn : Code := (Try.f24.body).getD .skip
def Yd : w6 := spF (α := Int × Int × Int) (ρ := List (List Int) × Int) 24 (fun x => [(eI .i64) x.1, (eI .i64) x.2.1, (eI .i64) x.2.2]) (fun r => .tup [F7_ r.1, (eI .i64) r.2]) (fun x => uq x.1 x.2.1 x.2.2) [] (zc9)
abbrev Q0 (inputs : Int) (from_ : Int) (to : Int) (k_ : Int) (cx : List (List Int)) (eg : List (List Int)) (cw : Int) (im : Int) (io : Bool) (ip : Bool) : List (Nat × T) := [(0, .d (I inputs)), (1, .d (I from_)), (2, .d (I to)), (8, .own (eOs 1 false F2_ cx)), (9, .own (eOs 1 false F2_ eg)), (10, .d (I cw)), (11, .d (I k_)), (45, .d (I im)), (46, .d (B io)), (49, .d (I k_)), (50, .d (I to)), (51, .d (B (decide (k_ < to)))), (52, .d (B (decide (k_ < to)))), (58, .d (B ip))]
abbrev UX (inputs : Int) (from_ : Int) (to : Int) (k_ : Int) (aw : List (List Int)) (a8 : Int) (br : Bool) (next : List (List Int)) : List (Nat × T) := [(0, .d (I inputs)), (1, .d (I from_)), (2, .d (I to)), (8, .own (eOs 1 false F2_ aw)), (10, .d (I a8)), (11, .d (I k_)), (12, .own (eOs 1 false F2_ next)), (45, .d (I a8)), (46, .d (B (decide (a8 > 65536)))), (49, .d (I k_)), (50, .d (I to)), (51, .d (B (decide (k_ < to)))), (52, .d (B (decide (k_ < to)))), (58, .d (B br))]
abbrev UW (inputs : Int) (from_ : Int) (to : Int) (aq : List (List Int)) (k_ : Int) (aw : List (List Int)) (a8 : Int) (br : Bool) (dg : Int) (fk : List (List Int)) : List (Nat × T) := [(0, .d (I inputs)), (1, .d (I from_)), (2, .d (I to)), (8, .own (eOs 1 false F2_ aw)), (9, .own (eOs 1 false F2_ aq)), (10, .d (I a8)), (11, .d (I k_)), (12, .own (eOs 1 false F2_ fk)), (45, .d (I a8)), (46, .d (B (decide (a8 > 65536)))), (49, .d (I k_)), (50, .d (I to)), (51, .d (B (decide (k_ < to)))), (52, .d (B (decide (k_ < to)))), (58, .d (B br)), (67, .als 9 [] 0 0), (68, .d (I ((aq.length : Nat) : Int))), (69, .d (I dg))]
abbrev UT (inputs : Int) (from_ : Int) (to : Int) (aq : List (List Int)) (k_ : Int) (aw : List (List Int)) (a8 : Int) (br : Bool) (dg : Int) (ce : List Int) (dr : List (List Int)) (dh : Int) : List (Nat × T) := [(0, .d (I inputs)), (1, .d (I from_)), (2, .d (I to)), (8, .own (eOs 1 false F2_ aw)), (9, .own (eOs 1 false F2_ aq)), (10, .d (I a8)), (11, .d (I k_)), (12, .own (eOs 1 false F2_ dr)), (14, .d (eSl 1 false (eI .i64) ce)), (45, .d (I a8)), (46, .d (B (decide (a8 > 65536)))), (49, .d (I k_)), (50, .d (I to)), (51, .d (B (decide (k_ < to)))), (52, .d (B (decide (k_ < to)))), (58, .d (B br)), (67, .als 9 [] 0 0), (68, .d (I ((aq.length : Nat) : Int))), (69, .d (I dg)), (73, .d (I inputs)), (74, .d (I dh))]
abbrev UU (inputs : Int) (from_ : Int) (to : Int) (aq : List (List Int)) (k_ : Int) (aw : List (List Int)) (a8 : Int) (br : Bool) (dx : List (List Int)) (dg : Int) : List (Nat × T) := [(0, .d (I inputs)), (1, .d (I from_)), (2, .d (I to)), (8, .own (eOs 1 false F2_ aw)), (9, .own (eOs 1 false F2_ aq)), (10, .d (I a8)), (11, .d (I k_)), (12, .own (eOs 1 false F2_ dx)), (45, .d (I a8)), (46, .d (B (decide (a8 > 65536)))), (49, .d (I k_)), (50, .d (I to)), (51, .d (B (decide (k_ < to)))), (52, .d (B (decide (k_ < to)))), (58, .d (B br)), (67, .als 9 [] 0 0), (68, .d (I ((aq.length : Nat) : Int))), (69, .d (I dg))]
abbrev UY (inputs : Int) (from_ : Int) (to : Int) (aq : List (List Int)) (k_ : Int) (aw : List (List Int)) (a8 : Int) (br : Bool) : List (Nat × T) := [(0, .d (I inputs)), (1, .d (I from_)), (2, .d (I to)), (8, .own (eOs 1 false F2_ aw)), (9, .own (eOs 1 false F2_ aq)), (10, .d (I a8)), (11, .d (I k_)), (45, .d (I a8)), (46, .d (B (decide (a8 > 65536)))), (49, .d (I k_)), (50, .d (I to)), (51, .d (B (decide (k_ < to)))), (52, .d (B (decide (k_ < to)))), (58, .d (B br))]
abbrev UZ (inputs : Int) (from_ : Int) (to : Int) (aq : List (List Int)) (k_ : Int) (aw : List (List Int)) (a8 : Int) : List (Nat × T) := [(0, .d (I inputs)), (1, .d (I from_)), (2, .d (I to)), (8, .own (eOs 1 false F2_ aw)), (9, .own (eOs 1 false F2_ aq)), (10, .d (I a8)), (11, .d (I k_))]
abbrev UV (inputs : Int) (from_ : Int) (to : Int) (out : List (List Int)) (aq : List (List Int)) (n_ : Int) (k_ : Int) : List (Nat × T) := [(0, .d (I inputs)), (1, .d (I from_)), (2, .d (I to)), (8, .own (eOs 1 false F2_ out)), (9, .own (eOs 1 false F2_ aq)), (10, .d (I n_)), (11, .d (I k_))]
def zF : XH Try.prog := ((zaH zp (.inl 83) [82]).or X0)
theorem z0r (hC : zA Try.prog ctr) (h08 : ctr.Has vI) (h09 : ctr.Has xa) : Yd.Ok Try.prog := by
 refine zH ?_
 rintro ⟨inputs, from_, to⟩ r0 aa
 try unfold uq at aa
 refine yO false [(6, none), (7, none)] wn 88 Try.func24 fun E hE => ?_
 rcases y4 aa with ⟨c0, aa⟩ | ⟨c0, aa⟩
 ·obtain rfl := zb aa
  exact yEx zF hC hE [Hq c0, Hm (shM F2_ F2_ [])] (.tup [eSl 1 true F0_ [], I 3]) (show LeV (.tup [eSl 1 true F0_ [], I 3]) (.tup [eSl 1 true F0_ ([] : List (List Int)), I 3]) from inferInstance)
 ·rcases y4 aa with ⟨c1, aa⟩ | ⟨c1, aa⟩
  ·obtain rfl := zb aa
   exact yEx zF hC hE [Hq c0, Hq c1, Hq c1, Hq c1, qT, Hm (shM F2_ F2_ [])] (.tup [eSl 1 true F0_ [], I 1]) (show LeV (.tup [eSl 1 true F0_ [], I 1]) (.tup [eSl 1 true F0_ ([] : List (List Int)), I 1]) from inferInstance)
  ·let Z0 : List HO := [Hq c0, Hq c1, Hq c1, Hq c1]
   rcases y4 aa with ⟨c2, aa⟩ | ⟨c2, aa⟩
   ·obtain rfl := zb aa
    exact yEx zF hC hE (Z0 ++ [Hq c2, Hm (shM F2_ F2_ [])]) (.tup [eSl 1 true F0_ [], I 1]) (show LeV (.tup [eSl 1 true F0_ [], I 1]) (.tup [eSl 1 true F0_ ([] : List (List Int)), I 1]) from inferInstance)
   ·rcases y4 aa with ⟨c3, aa⟩ | ⟨c3, aa⟩
    ·obtain rfl := zb aa
     exact yEx zF hC hE (Z0 ++ [Hq c2, Hq c3, Hm (shM F2_ F2_ [])]) (.tup [eSl 1 true F0_ [], I 3]) (show LeV (.tup [eSl 1 true F0_ [], I 3]) (.tup [eSl 1 true F0_ ([] : List (List Int)), I 3]) from inferInstance)
    ·obtain ⟨t1, ht1, aa⟩ := zh aa
     refine yLx zF hC wn [1,1,1,1,1,1,1,1,0] [] (fun s => wY inputs from_ to s.1 s.2.1 s.2.2.1 s.2.2.2) (fun x => UV inputs from_ to x.1 x.2.1 x.2.2.1 x.2.2.2) (([] : List (List Int)), ([[]] : List (List Int)), 0,0) ht1 [(0, .d (I inputs)), (1, .d (I from_)), (2, .d (I to)), (8, .own (eOs 1 true F2_ [])), (9, .own (eOs 1 true F0_ ([[]]))), (10, .d (I 0)), (11, .d (I 0))] inferInstance (Z0 ++ [Hq c2, Hq c3, Hh (.v 5 [9]), Hm (shM F1_ F0_ ([[]] : List (List Int)))]) ?_
     rintro ⟨out, aq, n_, k_⟩ m1 bn ae hl1 J1 ba
     try unfold wY at ae
     refine yJ zF hC wn [1,1,1,1,1,1,1,1,0,0] [J1] [0,1,2,8,9,10,11,45,46,49,50,51,52,58] (fun z : List (List Int) × List (List Int) × Int × Int × Bool × Bool => kg k_ z.1 z.2.1 z.2.2.1 z.2.2.2.1 z.2.2.2.2.1 z.2.2.2.2.2 = some bn) (fun z => Q0 inputs from_ to k_ z.1 z.2.1 z.2.2.1 z.2.2.2.1 z.2.2.2.2.1 z.2.2.2.2.2) [(0, .d (I inputs)), (1, .d (I from_)), (2, .d (I to)), (8, .own (eOs 1 false F2_ out)), (9, .own (eOs 1 false F2_ aq)), (10, .d (I n_)), (11, .d (I k_))] [Hh (.cut 0)] ?_ fun J2 bg => ?_
     ·rintro ⟨cx, eg, cw, im, io, ip⟩ ae
      unfold kg at ae
      obtain rfl := zb ae
      exact yB zF hC ba (cx, eg, cw, w64 (k_ + 1)) hl1 []
     ·refine yJ zF hC wn [1,1,1,1,1,1,1,1,0,0,2,0] [J1, J2] [0,1,2,8,9,10,11] (fun z : List (List Int) × Int => ui inputs to aq k_ z.1 z.2 = some bn) (fun z => UZ inputs from_ to aq k_ z.1 z.2) [(0, .d (I inputs)), (1, .d (I from_)), (2, .d (I to)), (8, .own (eOs 1 false F2_ out)), (9, .own (eOs 1 false F2_ aq)), (10, .d (I n_)), (11, .d (I k_))] [Hh (.cut 0)] ?_ fun J3 dz => ?_
      ·rintro ⟨aw, a8⟩ ae
       unfold ui at ae
       refine yJ zF hC wn [1,1,1,1,1,1,1,1,0,0,2,0,1] [J1, J2] [0,1,2,8,9,10,11,45,46,49,50,51,52,58] (fun z : Bool => uh inputs to aq k_ aw a8 z = some bn) (fun z => UY inputs from_ to aq k_ aw a8 z) [(0, .d (I inputs)), (1, .d (I from_)), (2, .d (I to)), (8, .own (eOs 1 false F2_ aw)), (9, .own (eOs 1 false F2_ aq)), (10, .d (I a8)), (11, .d (I k_))] [Hh (.cut 0)] ?_ fun J4 fc => ?_
       ·rintro br ae
        unfold uh at ae
        rcases y4 ae with ⟨c4, ae⟩ | ⟨c4, ae⟩
        ·obtain ⟨r_, h0, ae⟩ := zh ae
         obtain rfl := zb ae
         obtain rfl := hl1
         obtain rfl := zb aa
         exact yE ((zt Try.prog 66 [none, some (I r_.2)]).or ((zt Try.prog 65 [some (eOs 1 true F1_ r_.1), some (I r_.2)]).or zF)) hC hE [Hq c4, Hg (z01 h08), Hm (shM F2_ F2_ aw), Hs (z02 h08 (x := aw) h0 (loC F9_ aw <| loN)), Hm (shM F2_ F2_ aw), Hn (⟨rfl, rfl⟩ : T.own (.opq (zG [some (eOs 1 true F1_ r_.1), some (I r_.2)])) = T.own (.opq (zG [some (eOs 1 true F1_ r_.1), some (I r_.2)])) ∧ 1 = 1), Hn (⟨rfl, rfl⟩ : T.own (.opq (zG [none, some (I r_.2)])) = T.own (.opq (zG [none, some (I r_.2)])) ∧ 1 = 1), Hm (shM F1_ F0_ r_.1)]
        ·refine yJ zF hC wn [1,1,1,1,1,1,1,1,0,0,2,0,1,1,1,1] [J1, J2] [0,1,2,8,10,11,12,45,46,49,50,51,52,58] (fun z : List (List Int) => ke k_ aw a8 br z = some bn) (fun z => UX inputs from_ to k_ aw a8 br z) [(0, .d (I inputs)), (1, .d (I from_)), (2, .d (I to)), (8, .own (eOs 1 false F2_ aw)), (9, .own (eOs 1 false F2_ aq)), (10, .d (I a8)), (11, .d (I k_)), (12, .own (eOs 1 true F2_ [])), (45, .d (I a8)), (46, .d (B (decide (a8 > 65536)))), (49, .d (I k_)), (50, .d (I to)), (51, .d (B (decide (k_ < to)))), (52, .d (B (decide (k_ < to)))), (58, .d (B br))] [Hq c4, Hh (.cut 1)] ?_ fun J5 fe => ?_
         ·rintro next ae
          unfold ke at ae
          exact yB zF hC bg (aw, next, a8, a8, decide (a8 > 65536), br) ae []
         ·obtain ⟨t6, ht6, ae⟩ := zh ae
          refine yLx zF hC wn [1,1,1,1,1,1,1,1,0,0,2,0,1,1,1,1,2,1,0] [J1, J2, J5] (fun s => wf inputs aq s.1 s.2) (fun x => UU inputs from_ to aq k_ aw a8 br x.1 x.2) (([] : List (List Int)), 0) ht6 [(0, .d (I inputs)), (1, .d (I from_)), (2, .d (I to)), (8, .own (eOs 1 false F2_ aw)), (9, .own (eOs 1 false F2_ aq)), (10, .d (I a8)), (11, .d (I k_)), (12, .own (eOs 1 true F2_ [])), (45, .d (I a8)), (46, .d (B (decide (a8 > 65536)))), (49, .d (I k_)), (50, .d (I to)), (51, .d (B (decide (k_ < to)))), (52, .d (B (decide (k_ < to)))), (58, .d (B br)), (67, .als 9 [] 0 0), (68, .d (I ((aq.length : Nat) : Int))), (69, .d (I 0))] inferInstance [Ha (lnM F2_ aq)] ?_
          rintro ⟨dx, dg⟩ m6 fp ap hl2 J6 gk
          try unfold wf at ap
          rcases y4 ap with ⟨c5, ap⟩ | ⟨c5, ap⟩
          ·refine yJ zF hC wn [1,1,1,1,1,1,1,1,0,0,2,0,1,1,1,1,2,1,0,0,1,1] [J1, J2, J5, J6] [0,1,2,8,9,10,11,12,45,46,49,50,51,52,58,67,68,69] (fun z : List (List Int) => kc dg z = some fp) (fun z => UW inputs from_ to aq k_ aw a8 br dg z) [(0, .d (I inputs)), (1, .d (I from_)), (2, .d (I to)), (8, .own (eOs 1 false F2_ aw)), (9, .own (eOs 1 false F2_ aq)), (10, .d (I a8)), (11, .d (I k_)), (12, .own (eOs 1 false F2_ dx)), (45, .d (I a8)), (46, .d (B (decide (a8 > 65536)))), (49, .d (I k_)), (50, .d (I to)), (51, .d (B (decide (k_ < to)))), (52, .d (B (decide (k_ < to)))), (58, .d (B br)), (67, .als 9 [] 0 0), (68, .d (I ((aq.length : Nat) : Int))), (69, .d (I dg))] [Hq c5, Hh (.cut 0)] ?_ fun J7 hJ7 => ?_
           ·rintro fk ap
            unfold kc at ap
            obtain rfl := zb ap
            exact yB zF hC gk (fk, w64 (dg + 1)) hl2 []
           ·obtain ⟨ce, h1, ap⟩ := zh ap
            obtain ⟨t8, ht8, ap⟩ := zh ap
            refine yL zF hC wn [1,1,1,1,1,1,1,1,0,0,2,0,1,1,1,1,2,1,0,0,1,1,2,0,1,1,0] [J1, J2, J5, J6, J7] (fun s => we inputs ce s.1 s.2) (fun x => UT inputs from_ to aq k_ aw a8 br dg ce x.1 x.2) (dx,0) ht8  [Hn (iL F2_ h1), Hs (iM F2_ h1)] ?_
            rintro ⟨dr, dh⟩ m8 ja eb hl3 J8 i7
            try unfold we at eb
            rcases y4 eb with ⟨c6, eb⟩ | ⟨c6, eb⟩
            ·obtain ⟨ai, h2, eb⟩ := zh eb
             obtain ⟨g0, eb⟩ := gdE eb
             obtain ⟨g1, eb⟩ := gdE eb
             obtain rfl := zb eb
             exact yB zF hC i7 ((dr ++ [(ai ++ [dh])]), w64 (dh + 1)) hl3 [Hq c6, Hc h09 (x := ce) h2 (loC F2_ ce <| loN), Hq (dM (eI .i64) [dh]), Hn (dM (eI .i64) [dh]), Hn (aN (eI .i64) (eI .i64) g0 (by simp)), Hl (aM (eI .i64) ai [dh]), Hm (shM (eI .i64) (eI .i64) (ai ++ [dh])), Hq (dM F2_ [(ai ++ [dh])]), Hn (dM F2_ [(ai ++ [dh])]), Hn (aL F2_ F2_ g1), Hl (aM F2_ dr [(ai ++ [dh])])]
            ·obtain rfl := zb eb
             obtain rfl := hl3
             exact yB zF hC hJ7 dr ap [Hq c6]
          ·obtain rfl := zb ap
           obtain rfl := hl2
           exact yB zF hC fe dx ae [Hq c5]
       ·let Z1 : List HO := [Ha (lnM F2_ aw)]
        rcases y4 ae with ⟨c7, ae⟩ | ⟨c7, ae⟩
        ·obtain rfl := zb ae
         obtain rfl := hl1
         obtain rfl := zb aa
         exact yEx zF hC hE (Z1 ++ (Hq c7 :: Hq c7 :: Hq c7 :: (rpN 7 qT [Hm (shM F2_ F2_ [])]))) (.tup [eSl 1 true F0_ [], I 3]) (show LeV (.tup [eSl 1 true F0_ [], I 3]) (.tup [eSl 1 true F0_ ([] : List (List Int)), I 3]) from inferInstance)
        ·rcases y4 ae with ⟨c8, ae⟩ | ⟨c8, ae⟩
         ·obtain rfl := zb ae
          obtain rfl := hl1
          obtain rfl := zb aa
          exact yEx zF hC hE (Z1 ++ (Hq c7 :: Hq c7 :: Hq c7 :: (rpN 6 (Hq c8) [qT, Hm (shM F2_ F2_ [])]))) (.tup [eSl 1 true F0_ [], I 3]) (show LeV (.tup [eSl 1 true F0_ [], I 3]) (.tup [eSl 1 true F0_ ([] : List (List Int)), I 3]) from inferInstance)
         ·let Z2 : List HO := (Z1 ++ (Hq c7 :: Hq c7 :: Hq c7 :: (rpN 4 (Hq c8) [])))
          rcases y4 ae with ⟨c9, ae⟩ | ⟨c9, ae⟩
          ·let Z3 : List HO := (Z2 ++ [Hq c9, Hq c9, Ha (lnM F2_ aq), Hq c9, Hq c9, Hq c9, Hq c8, Hq c9, Hq c8])
           rcases y4 ae with ⟨c10, ae⟩ | ⟨c10, ae⟩
           ·obtain rfl := zb ae
            obtain rfl := hl1
            obtain rfl := zb aa
            exact yEx zF hC hE (Z3 ++ [Hq c10, Hm (shM F2_ F2_ [])]) (.tup [eSl 1 true F0_ [], I 3]) (show LeV (.tup [eSl 1 true F0_ [], I 3]) (.tup [eSl 1 true F0_ ([] : List (List Int)), I 3]) from inferInstance)
           ·exact yB zF hC fc (decide ((w64 (((aq.length : Nat) : Int) * inputs)) > 4096)) ae (Z3 ++ [Hq c10])
          ·exact yB zF hC fc false ae (Z2 ++ (rpN 5 (Hq c9) [Hq c8, Hq c9, Hq c8, qF]))
      ·rcases y4 ae with ⟨c11, ae⟩ | ⟨c11, ae⟩
       ·obtain ⟨g2, ae⟩ := gdE ae
        exact yB zF hC dz ((out ++ aq), w64 (n_ + (w64 (k_ * ((aq.length : Nat) : Int))))) ae [Hq c11, Hq (dM F2_ aq), Hn (dM F2_ aq), Hn (aL F2_ F2_ g2), Hl (aM F2_ out aq), Ha (lnM F2_ aq)]
       ·exact yB zF hC dz (out, n_) ae [Hq c11]
def JQ : Code := (Try.f8.body).getD .skip
def kZ : w6 := spF (α := Int × Int) (ρ := List (List Int) × Int) 8 (fun x => [(eI .i64) x.1, (eI .i64) x.2]) (fun r => .tup [F7_ r.1, (eI .i64) r.2]) (fun x => uY x.1 x.2) [] (Xt)
theorem K6 (hC : zA Try.prog ctr) (h0Q : ctr.Has Yd) : kZ.Ok Try.prog := by
 refine zH ?_
 rintro ⟨inputs, k_⟩ r0 aa
 try unfold uY at aa
 refine yO false [(4, none), (5, none)] JQ 11 Try.func8 fun E hE => ?_
 obtain ⟨r_, h0, aa⟩ := zh aa
 obtain rfl := zb aa
 exact yE X0 hC hE [Hc h0Q (x := (inputs, 0, k_)) h0 (loC (eI .i64) inputs <| loC (eI .i64) 0 <| loC (eI .i64) k_ <| loN)]
def ZF : Code := (Try.f25.body).getD .skip
def kY : w6 := spF (α := Int × List (List (List Int))) (ρ := Int) 25 (fun x => [(eI .i64) x.1, (eSl 1 false F9_) x.2]) (fun r => (eI .i64) r) (fun x => kK x.1 x.2) [] (Xt)
abbrev Vk : List (Nat × T) := []
abbrev Vj (inputs : Int) (l_ : List (List (List Int))) (ge : Int) : List (Nat × T) := [(0, .d (I inputs)), (8, .d (eSl 1 false F9_ l_)), (9, .d (I ((l_.length : Nat) : Int))), (10, .d (I ge))]
theorem K5 (hC : zA Try.prog ctr) (h0h : ctr.Has qE) : kY.Ok Try.prog := by
 refine zH ?_
 rintro ⟨inputs, l_⟩ r0 aa
 try unfold kK at aa
 refine yO true [(4, none)] ZF 21 Try.func25 fun E hE => ?_
 refine yJ X0 hC ZF [1] [] [] (fun z : Unit => jk = some r0) (fun z => Vk) [(0, .d (I inputs)), (1, .d (eSl 1 false F9_ l_))] [Hh (.cut 1)] ?_ fun J1 ba => ?_
 ·rintro ⟨⟩ aa
  unfold jk at aa
  obtain rfl := zb aa
  exact yE X0 hC hE []
 ·obtain ⟨t2, ht2, aa⟩ := zh aa
  refine yL X0 hC ZF [1,2,1,0] [J1] (fun s => vO inputs l_ s) (fun x => Vj inputs l_ x) 0 ht2  [Ha (lnM F9_ l_)] ?_
  rintro ge m2 bn ae hl1 J2 bg
  try unfold vO at ae
  rcases y4 ae with ⟨c0, ae⟩ | ⟨c0, ae⟩
  ·obtain ⟨av, h0, ae⟩ := zh ae
   obtain ⟨r_, h1, ae⟩ := zh ae
   let Z0 : List HO := [Hq c0, Hi F9_ h0, Hc h0h (x := (av, inputs)) h1 (loC F9_ av <| loC (eI .i64) inputs <| loN)]
   rcases y4 ae with ⟨c1, ae⟩ | ⟨c1, ae⟩
   ·obtain rfl := zb ae
    obtain rfl := hl1
    obtain rfl := zb aa
    exact yE X0 hC hE (Z0 ++ [Hq c1])
   ·obtain rfl := zb ae
    exact yB X0 hC bg (w64 (ge + 1)) hl1 (Z0 ++ [Hq c1])
  ·obtain rfl := zb ae
   obtain rfl := hl1
   exact yB X0 hC ba () aa [Hq c0]
def Yq : Code := (Try.f32.body).getD .skip
def Yc : w6 := spF (α := List Int) (ρ := List UInt8) 32 (fun x => [F2_ x]) (fun r => X2 r) (fun x => Yb x) [] (Qg)
abbrev US (b_ : List Int) : List (Nat × T) := [(3, .own (eOs 1 true (eI .u8) b_))]
abbrev UR (w_ : List Int) (fl : List Int) (cq : Int) : List (Nat × T) := [(3, .own (eOs 1 true (eI .u8) fl)), (9, .d (eSl 1 false (eI .i64) w_)), (10, .d (I ((w_.length : Nat) : Int))), (11, .d (I cq))]
theorem z0q (hC : zA Try.prog ctr) : Yc.Ok Try.prog := by
 refine zH ?_
 rintro w_ r0 aa
 try unfold Yb at aa
 refine yO true [(2, none)] Yq 24 Try.func32 fun E hE => ?_
 obtain ⟨g0, aa⟩ := gdE aa
 refine yJ X0 hC Yq [1,1] [] [3] (fun z : List Int => Ya z = some r0) (fun z => US z) [(0, .d (eSl 1 false (eI .i64) w_)), (3, .own (eOs 1 true (eI .u8) (List.replicate ((w_.length : Nat) : Int).toNat (0 : Int))))] [Ha (lnM (eI .i64) w_), Hn (rL g0), Ha (rM 1 (eI .u8) ((w_.length : Nat) : Int) (0 : Int)), Hh (.cut 0)] ?_ fun J1 ba => ?_
 ·rintro b_ aa
  unfold Ya at aa
  obtain rfl := zb aa
  exact yE ((zcj Try.prog z7N).or X0) hC hE [Hx (.a (X2 (u8s b_))) (stM b_)]
 ·obtain ⟨t2, ht2, aa⟩ := zh aa
  refine yL X0 hC Yq [1,1,2,1,0] [J1] (fun s => wX w_ s.1 s.2) (fun x => UR w_ x.1 x.2) ((List.replicate ((w_.length : Nat) : Int).toNat (0 : Int)), 0) ht2  [Ha (lnM (eI .i64) w_)] ?_
  rintro ⟨fl, cq⟩ m2 bn ae hl1 J2 bg
  try unfold wX at ae
  rcases y4 ae with ⟨c0, ae⟩ | ⟨c0, ae⟩
  ·obtain ⟨ff, h0, ae⟩ := zh ae
   obtain ⟨bo, h1, ae⟩ := zh ae
   obtain rfl := zb ae
   exact yB X0 hC bg ((fl.set cq.toNat (IntKind.u8.wrap (ff))), w64 (cq + 1)) hl1 [Hq c0, Hi (eI .i64) h0, Hn (iL (eI .u8) h1), Hs (iM (eI .u8) h1), Hs (iM (eI .u8) h1), Hl (sM (eI .u8) fl cq (IntKind.u8.wrap (ff)))]
  ·obtain rfl := zb ae
   obtain rfl := hl1
   exact yB X0 hC ba fl aa [Hq c0]
def wT : Code := (Try.f11.body).getD .skip
def jC : w6 := spF (α := List (List Int) × List (List Int) × Int) (ρ := List (List Int) × Int) 11 (fun x => [F9_ x.1, F9_ x.2.1, (eI .i64) x.2.2]) (fun r => .opq (zG [some (F8_ r.1), some ((eI .i64) r.2)])) (fun x => uj x.1 x.2.1 x.2.2) [] (zc9)
abbrev W2 (out : List (List Int)) : List (Nat × T) := [(11, .own (eOs 1 false F2_ out))]
abbrev W1 (a_ : List (List Int)) (b_ : List (List Int)) (ct : Int) (bp : List ((List UInt8) × Bool)) (cw : Int) (aw : List (List Int)) : List (Nat × T) := [(1, .d (eSl 1 false F2_ b_)), (9, .own (.opq (VB (YQ X2 eB bp)))), (10, .d (I cw)), (11, .own (eOs 1 false F2_ aw)), (27, .d (eSl 1 false F2_ a_)), (28, .d (I ((a_.length : Nat) : Int))), (29, .d (I ct))]
abbrev W0 (a_ : List (List Int)) (b_ : List (List Int)) (ct : Int) (bt : List Int) (du : Int) (fm : List ((List UInt8) × Bool)) (gh : Int) (fg : List (List Int)) : List (Nat × T) := [(1, .d (eSl 1 false F2_ b_)), (9, .own (.opq (VB (YQ X2 eB fm)))), (10, .d (I gh)), (11, .own (eOs 1 false F2_ fg)), (13, .d (eSl 1 false (eI .i64) bt)), (27, .d (eSl 1 false F2_ a_)), (28, .d (I ((a_.length : Nat) : Int))), (29, .d (I ct)), (33, .d (eSl 1 false F2_ b_)), (34, .d (I ((b_.length : Nat) : Int))), (35, .d (I du))]
abbrev XY (a_ : List (List Int)) (b_ : List (List Int)) (ct : Int) (bt : List Int) (bf : List ((List UInt8) × Bool)) (a8 : Int) (dn : List (List Int)) (du : Int) : List (Nat × T) := [(1, .d (eSl 1 false F2_ b_)), (9, .own (.opq (VB (YQ X2 eB bf)))), (10, .d (I a8)), (11, .own (eOs 1 false F2_ dn)), (13, .d (eSl 1 false (eI .i64) bt)), (27, .d (eSl 1 false F2_ a_)), (28, .d (I ((a_.length : Nat) : Int))), (29, .d (I ct)), (33, .d (eSl 1 false F2_ b_)), (34, .d (I ((b_.length : Nat) : Int))), (35, .d (I du))]
abbrev XZ (a_ : List (List Int)) (b_ : List (List Int)) (cu : List ((List UInt8) × Bool)) (n_ : Int) (cx : List (List Int)) (ct : Int) : List (Nat × T) := [(1, .d (eSl 1 false F2_ b_)), (9, .own (.opq (VB (YQ X2 eB cu)))), (10, .d (I n_)), (11, .own (eOs 1 false F2_ cx)), (27, .d (eSl 1 false F2_ a_)), (28, .d (I ((a_.length : Nat) : Int))), (29, .d (I ct))]
theorem Q9 (hC : zA Try.prog ctr) (h0p : ctr.Has kY) (h09 : ctr.Has xa) (h0R : ctr.Has Yc) (h08 : ctr.Has vI) : jC.Ok Try.prog := by
 refine zH ?_
 rintro ⟨a_, b_, inputs⟩ r0 aa
 try unfold uj at aa
 refine ZD (tt := yh) (rs := [(true, 6, none), (false, 7, none)]) (n := ⟨75, []⟩) (body := wT) zp Try.func11 rfl (by kernel_rfl) rfl rfl (by show (3 : Nat) ≤ 75; decide) fun E hE => ?_
 obtain ⟨r_, h0, aa⟩ := zh aa
 let Z0 : List HO := [Hg (z01 h0p), Hm (shM F9_ F9_ ([a_, b_])), Hs (z02 h0p (x := (inputs, [a_, b_])) h0 (loC (eI .i64) inputs <| loC (eSl 1 true F9_) [a_, b_] <| loN))]
 rcases y4 aa with ⟨c0, aa⟩ | ⟨c0, aa⟩
 ·obtain rfl := zb aa
  let ZE : List HO := (Z0 ++ [Hq c0])
  exact wU X0 zp hC wj hE 4000 (hs := hoH ZE) (x := (.opq (zG [some (eOs 1 true F1_ []), some (I r_)]))) (hoB ZE) (by kernel_rfl) (show LeV (.opq (zG [some (eOs 1 true F1_ []), some (I r_)])) (.opq (zG [some (eOs 1 true F1_ ([] : List (List Int))), some (I r_)])) from inferInstance)
 ·refine yJ ((zaI Try.prog 26).or X0) hC wT [1,1,1,1,1] [] [11] (fun z : List (List Int) => vH z = some r0) (fun z => W2 z) [(0, .d (eSl 1 false F2_ a_)), (1, .d (eSl 1 false F2_ b_)), (9, .own (.opq (VB (YQ X2 eB ([] : List ((List UInt8) × Bool)))))), (10, .d (I 0)), (11, .own (eOs 1 true F2_ []))] (Z0 ++ [Hq c0, Hh (.cut 3)]) ?_ fun J1 ba => ?_
  ·rintro out aa
   unfold vH at aa
   obtain ⟨ai, h1, aa⟩ := zh aa
   obtain rfl := zb aa
   let ZE : List HO := [Hg (z01 h08), Hm (shM F2_ F2_ out), Hs (z02 h08 (x := out) h1 (loC F9_ out <| loN)), Hm (shM F2_ F2_ out), Hn (⟨rfl, rfl⟩ : T.own (.opq (zG [some (eOs 1 true F1_ ai.1), some (I ai.2)])) = T.own (.opq (zG [some (eOs 1 true F1_ ai.1), some (I ai.2)])) ∧ 1 = 1), Hn (⟨rfl, rfl⟩ : T.own (.opq (zG [none, some (I ai.2)])) = T.own (.opq (zG [none, some (I ai.2)])) ∧ 1 = 1)]
   exact wU ((zt Try.prog 74 [none, some (I ai.2)]).or ((zt Try.prog 73 [some (eOs 1 true F1_ ai.1), some (I ai.2)]).or X0)) zp hC wj hE 4000 (hs := hoH ZE) (x := (.opq (zG [some (eOs 1 true F1_ ai.1), some (I ai.2)]))) (hoB ZE) (by kernel_rfl) (LeV.refl _)
  ·obtain ⟨t2, ht2, aa⟩ := zh aa
   refine yLx X0 hC wT [1,1,1,1,1,2,1,0] [J1] (fun s => vF a_ b_ s.1 s.2.1 s.2.2.1 s.2.2.2) (fun x => XZ a_ b_ x.1 x.2.1 x.2.2.1 x.2.2.2) (([] : List ((List UInt8) × Bool)), 0, ([] : List (List Int)), 0) ht2 [(1, .d (eSl 1 false F2_ b_)), (9, .own (.opq (VB (YQ X2 eB ([] : List ((List UInt8) × Bool)))))), (10, .d (I 0)), (11, .own (eOs 1 true F2_ [])), (27, .d (eSl 1 false F2_ a_)), (28, .d (I ((a_.length : Nat) : Int))), (29, .d (I 0))] inferInstance [Ha (lnM F2_ a_)] ?_
   rintro ⟨cu, n_, cx, ct⟩ m2 bn ae hl1 J2 bg
   try unfold vF at ae
   rcases y4 ae with ⟨c1, ae⟩ | ⟨c1, ae⟩
   ·refine yJ X0 hC wT [1,1,1,1,1,2,1,0,0,1,1] [J1, J2] [1,9,10,11,27,28,29] (fun z : (List ((List UInt8) × Bool)) × Int × List (List Int) => vG ct z.1 z.2.1 z.2.2 = some bn) (fun z => W1 a_ b_ ct z.1 z.2.1 z.2.2) [(1, .d (eSl 1 false F2_ b_)), (9, .own (.opq (VB (YQ X2 eB cu)))), (10, .d (I n_)), (11, .own (eOs 1 false F2_ cx)), (27, .d (eSl 1 false F2_ a_)), (28, .d (I ((a_.length : Nat) : Int))), (29, .d (I ct))] [Hq c1, Hh (.cut 0)] ?_ fun J3 dz => ?_
    ·rintro ⟨bp, cw, aw⟩ ae
     unfold vG at ae
     obtain rfl := zb ae
     exact yB X0 hC bg (bp, cw, aw, w64 (ct + 1)) hl1 []
    ·obtain ⟨bt, h2, ae⟩ := zh ae
     obtain ⟨t4, ht4, ae⟩ := zh ae
     refine yL X0 hC wT [1,1,1,1,1,2,1,0,0,1,1,2,0,1,1,0] [J1, J2, J3] (fun s => wL b_ bt s.1 s.2.1 s.2.2.1 s.2.2.2) (fun x => XY a_ b_ ct bt x.1 x.2.1 x.2.2.1 x.2.2.2) (cu, n_, cx,0) ht4  [Hi F2_ h2, Ha (lnM F2_ b_)] ?_
     rintro ⟨bf, a8, dn, du⟩ m4 fp ap hl2 J4 fc
     try unfold wL at ap
     rcases y4 ap with ⟨c2, ap⟩ | ⟨c2, ap⟩
     ·obtain ⟨bo, h3, ap⟩ := zh ap
      obtain ⟨aj, h4, ap⟩ := zh ap
      obtain ⟨g0, ap⟩ := gdE ap
      let Z1 : List HO := [Hq c2, Hi F2_ h3, Hc h09 (x := bt) h4 (loC F2_ bt <| loN), Hn (apM (eI .i64) g0), Hl (aM (eI .i64) aj bo), Ha (lnM (eI .i64) (aj ++ bo))]
      rcases y4 ap with ⟨c3, ap⟩ | ⟨c3, ap⟩
      ·obtain rfl := zb ap
       obtain rfl := hl2
       obtain rfl := zb ae
       obtain rfl := hl1
       obtain rfl := zb aa
       let ZE : List HO := (Z1 ++ [Hq c3])
       exact wU ((xAp zp 42).or X0) zp hC wj hE 4000 (hs := hoH ZE) (x := (.opq (zG [some (eOs 1 true F1_ []), some (I 3)]))) (hoB ZE) (by kernel_rfl) (show LeV (.opq (zG [some (eOs 1 true F1_ []), some (I 3)])) (.opq (zG [some (eOs 1 true F1_ ([] : List (List Int))), some (I 3)])) from inferInstance)
      ·refine yJ ((xAp zp 42).or X0) hC wT [1,1,1,1,1,2,1,0,0,1,1,2,0,1,1,0,0,1,1,0,0,1,1,1] [J1, J2, J3, J4] [1,9,10,11,13,27,28,29,33,34,35] (fun z : (List ((List UInt8) × Bool)) × Int × List (List Int) => wM du z.1 z.2.1 z.2.2 = some fp) (fun z => W0 a_ b_ ct bt du z.1 z.2.1 z.2.2) [(1, .d (eSl 1 false F2_ b_)), (9, .own (.opq (VB (YQ X2 eB bf)))), (10, .d (I a8)), (11, .own (eOs 1 false F2_ dn)), (13, .d (eSl 1 false (eI .i64) bt)), (16, .d (eSl 1 false (eI .i64) (aj ++ bo))), (27, .d (eSl 1 false F2_ a_)), (28, .d (I ((a_.length : Nat) : Int))), (29, .d (I ct)), (33, .d (eSl 1 false F2_ b_)), (34, .d (I ((b_.length : Nat) : Int))), (35, .d (I du))] (Z1 ++ [Hq c3, Hh (.cut 0)]) ?_ fun J5 fe => ?_
       ·rintro ⟨fm, gh, fg⟩ ap
        unfold wM at ap
        let Z2 : List HO := [Ha (lnM F2_ fg)]
        rcases y4 ap with ⟨c4, ap⟩ | ⟨c4, ap⟩
        ·obtain rfl := zb ap
         obtain rfl := hl2
         obtain rfl := zb ae
         obtain rfl := hl1
         obtain rfl := zb aa
         let ZE : List HO := (Z2 ++ [Hq c4, Hq c4, Hq c4, qT])
         exact wU X0 zp hC wj hE 4000 (hs := hoH ZE) (x := (.opq (zG [some (eOs 1 true F1_ []), some (I 3)]))) (hoB ZE) (by kernel_rfl) (show LeV (.opq (zG [some (eOs 1 true F1_ []), some (I 3)])) (.opq (zG [some (eOs 1 true F1_ ([] : List (List Int))), some (I 3)])) from inferInstance)
        ·rcases y4 ap with ⟨c5, ap⟩ | ⟨c5, ap⟩
         ·obtain rfl := zb ap
          obtain rfl := hl2
          obtain rfl := zb ae
          obtain rfl := hl1
          obtain rfl := zb aa
          let ZE : List HO := (Z2 ++ [Hq c4, Hq c4, Hq c4, Hq c5])
          exact wU X0 zp hC wj hE 4000 (hs := hoH ZE) (x := (.opq (zG [some (eOs 1 true F1_ []), some (I 3)]))) (hoB ZE) (by kernel_rfl) (show LeV (.opq (zG [some (eOs 1 true F1_ []), some (I 3)])) (.opq (zG [some (eOs 1 true F1_ ([] : List (List Int))), some (I 3)])) from inferInstance)
         ·obtain rfl := zb ap
          exact yB X0 hC fc (fm, gh, fg, w64 (du + 1)) hl2 (Z2 ++ [Hq c4, Hq c4, Hq c4, Hq c5])
       ·obtain ⟨al, h5, ap⟩ := zh ap
        obtain ⟨val, h6, ap⟩ := zh ap
        replace h6 := zb h6
        let Z3 : List HO := [Hc h0R (x := (aj ++ bo)) h5 (loC F2_ (aj ++ bo) <| loN), Hn (⟨rfl, rfl, z6V (fun _ => rfl) bf⟩ : A.opq (VB (YQ X2 eB bf)) = A.opq (VB (YQ X2 eB bf)) ∧ Jz (X2 al) = true ∧ ∀ p ∈ YQ X2 eB bf, Jz p.1 = true), Hx (.a (eB val)) ((zcD (f := X2) (g := eB) (z0 := false) (z := .atom (.bool false)) rfl al bf).trans (congrArg eB h6))]
        rcases y4 ap with ⟨c6, ap⟩ | ⟨c6, ap⟩
        ·obtain ⟨g1, ap⟩ := gdE ap
         exact yB ((zci z86 52 (YQ X2 eB bf) (YQ X2 eB (z1D bf al true))).or ((z8Y z86 50 (YQ X2 eB bf)).or X0)) hC fe ((z1D bf al true), w64 (a8 + (((aj ++ bo).length : Nat) : Int)), (dn ++ [(aj ++ bo)])) ap (Z3 ++ [Hq c6, Hn (⟨rfl, rfl, rfl, rfl, z6V (fun _ => rfl) bf⟩ : T.own (.opq (VB (YQ X2 eB bf))) = T.own (.opq (VB (YQ X2 eB bf))) ∧ 0 = 0 ∧ Jz (X2 al) = true ∧ (eB true).isD = true ∧ ∀ p ∈ YQ X2 eB bf, Jz p.1 = true), Hn (z80 (f := X2) (g := eB) al true bf), Hq (dM F2_ [(aj ++ bo)]), Hn (dM F2_ [(aj ++ bo)]), Hn (aL F2_ F2_ g1), Hl (aM F2_ dn [(aj ++ bo)]), Ha (lnM (eI .i64) (aj ++ bo))])
        ·exact yB ((z8Y z86 50 (YQ X2 eB bf)).or X0) hC fe (bf, a8, dn) ap (Z3 ++ [Hq c6])
     ·obtain rfl := zb ap
      obtain rfl := hl2
      exact yB X0 hC dz (bf, a8, dn) ae [Hq c2]
   ·obtain rfl := zb ae
    obtain rfl := hl1
    exact yB X0 hC ba cx aa [Hq c1]
def XS : Code := (Try.f19.body).getD .skip
def wh : w6 := spF (α := z6 × Int) (ρ := List (List Int) × Int) 19 (fun x => [vu x.1, (eI .i64) x.2]) (fun r => .opq (zG [some (F8_ r.1), some ((eI .i64) r.2)])) (fun x => zZ x.1 x.2) [] (Xt)
theorem W8 (hC : zA Try.prog ctr) (h02 : ctr.Has vb) (h0S : ctr.Has kZ) (h0q : ctr.Has jC) : wh.Ok Try.prog := by
 refine zH ?_
 rintro ⟨m_, k_⟩ r0 aa
 try unfold zZ at aa
 refine ZD (tt := yh) (rs := [(true, 4, none), (false, 5, none)]) (n := ⟨36, []⟩) (body := XS) zp Try.func19 rfl (by kernel_rfl) rfl rfl (by show (2 : Nat) ≤ 36; decide) fun E hE => ?_
 obtain ⟨r_, h0, aa⟩ := zh aa
 let Z0 : List HO := [Hc h02 (x := m_) h0 (loC vu m_ <| loN), Hn (⟨rfl, rfl⟩ : T.own (.opq (zG [some (eOs 1 true F1_ r_.1), some (I r_.2)])) = T.own (.opq (zG [some (eOs 1 true F1_ r_.1), some (I r_.2)])) ∧ 1 = 1), Hn (⟨rfl, rfl⟩ : T.own (.opq (zG [none, some (I r_.2)])) = T.own (.opq (zG [none, some (I r_.2)])) ∧ 1 = 1)]
 rcases y4 aa with ⟨c0, aa⟩ | ⟨c0, aa⟩
 ·obtain rfl := zb aa
  let ZE : List HO := (Z0 ++ [Hq c0])
  exact wU ((zt Try.prog 13 [none, some (I r_.2)]).or ((zt Try.prog 12 [some (eOs 1 true F1_ r_.1), some (I r_.2)]).or X0)) zp hC wj hE 4000 (hs := hoH ZE) (x := (.opq (zG [some (eOs 1 true F1_ []), some (I r_.2)]))) (hoB ZE) (by kernel_rfl) (show LeV (.opq (zG [some (eOs 1 true F1_ []), some (I r_.2)])) (.opq (zG [some (eOs 1 true F1_ ([] : List (List Int))), some (I r_.2)])) from inferInstance)
 ·rcases y4 aa with ⟨c1, aa⟩ | ⟨c1, aa⟩
  ·obtain rfl := zb aa
   let ZE : List HO := (Z0 ++ [Hq c0, Hq c1])
   exact wU ((zt Try.prog 13 [none, some (I r_.2)]).or ((zt Try.prog 12 [some (eOs 1 true F1_ r_.1), some (I r_.2)]).or X0)) zp hC wj hE 4000 (hs := hoH ZE) (x := (.opq (zG [some (eOs 1 true F1_ []), some (I 1)]))) (hoB ZE) (by kernel_rfl) (show LeV (.opq (zG [some (eOs 1 true F1_ []), some (I 1)])) (.opq (zG [some (eOs 1 true F1_ ([] : List (List Int))), some (I 1)])) from inferInstance)
  ·obtain ⟨ai, h1, aa⟩ := zh aa
   let Z1 : List HO := (Z0 ++ [Hq c0, Hq c1, Hc h0S (x := (m_.Inputs, k_)) h1 (loC (eI .i64) m_.Inputs <| loC (eI .i64) k_ <| loN)])
   rcases y4 aa with ⟨c2, aa⟩ | ⟨c2, aa⟩
   ·obtain rfl := zb aa
    let ZE : List HO := (Z1 ++ [Hq c2])
    exact wU ((zt Try.prog 13 [none, some (I r_.2)]).or ((zt Try.prog 12 [some (eOs 1 true F1_ r_.1), some (I r_.2)]).or X0)) zp hC wj hE 4000 (hs := hoH ZE) (x := (.opq (zG [some (eOs 1 true F1_ []), some (I ai.2)]))) (hoB ZE) (by kernel_rfl) (show LeV (.opq (zG [some (eOs 1 true F1_ []), some (I ai.2)])) (.opq (zG [some (eOs 1 true F1_ ([] : List (List Int))), some (I ai.2)])) from inferInstance)
   ·obtain ⟨aj, h2, aa⟩ := zh aa
    obtain rfl := zb aa
    let ZE : List HO := (Z1 ++ [Hq c2, Hg (z01 h0q), Hm (shM F1_ F0_ r_.1), Hs (z02 h0q (x := (r_.1, ai.1, m_.Inputs)) h2 (loC F7_ r_.1 <| loC F7_ ai.1 <| loC (eI .i64) m_.Inputs <| loN)), Hm (shM F1_ F0_ r_.1), Hn (⟨rfl, rfl⟩ : T.own (.opq (zG [some (eOs 1 true F1_ aj.1), some (I aj.2)])) = T.own (.opq (zG [some (eOs 1 true F1_ aj.1), some (I aj.2)])) ∧ 1 = 1), Hn (⟨rfl, rfl⟩ : T.own (.opq (zG [none, some (I aj.2)])) = T.own (.opq (zG [none, some (I aj.2)])) ∧ 1 = 1)])
    exact wU ((zt Try.prog 35 [none, some (I aj.2)]).or ((zt Try.prog 34 [some (eOs 1 true F1_ aj.1), some (I aj.2)]).or ((zt Try.prog 13 [none, some (I r_.2)]).or ((zt Try.prog 12 [some (eOs 1 true F1_ r_.1), some (I r_.2)]).or X0)))) zp hC wj hE 4000 (hs := hoH ZE) (x := (.opq (zG [some (eOs 1 true F1_ aj.1), some (I aj.2)]))) (hoB ZE) (by kernel_rfl) (LeV.refl _)
def Ys : Code := (Try.f18.body).getD .skip
def wg : w6 := spF (α := z6) (ρ := List (List Int) × Int) 18 (fun x => [vu x]) (fun r => .opq (zG [some (F8_ r.1), some ((eI .i64) r.2)])) (fun x => xA x) [] (Qg)
theorem YK (hC : zA Try.prog ctr) (h01 : ctr.Has wh) : wg.Ok Try.prog := by
 refine zH ?_
 rintro m_ r0 aa
 try unfold xA at aa
 refine ZD (tt := yh) (rs := [(true, 2, none), (false, 3, none)]) (n := ⟨8, []⟩) (body := Ys) zp Try.func18 rfl (by kernel_rfl) rfl rfl (by show (1 : Nat) ≤ 8; decide) fun E hE => ?_
 obtain ⟨r_, h0, aa⟩ := zh aa
 obtain rfl := zb aa
 let ZE : List HO := [Hc h01 (x := (m_, 1)) h0 (loC vu m_ <| loC (eI .i64) 1 <| loN), Hn (⟨rfl, rfl⟩ : T.own (.opq (zG [some (eOs 1 true F1_ r_.1), some (I r_.2)])) = T.own (.opq (zG [some (eOs 1 true F1_ r_.1), some (I r_.2)])) ∧ 1 = 1), Hn (⟨rfl, rfl⟩ : T.own (.opq (zG [none, some (I r_.2)])) = T.own (.opq (zG [none, some (I r_.2)])) ∧ 1 = 1)]
 exact wU ((zt Try.prog 7 [none, some (I r_.2)]).or ((zt Try.prog 6 [some (eOs 1 true F1_ r_.1), some (I r_.2)]).or X0)) zp hC wj hE 4000 (hs := hoH ZE) (x := (.opq (zG [some (eOs 1 true F1_ r_.1), some (I r_.2)]))) (hoB ZE) (by kernel_rfl) (LeV.refl _)
def qq : Code := (Try.f51.body).getD .skip
def zC : w6 := spF (α := Bool) (ρ := Bool) 51 (fun x => [eB x]) (fun r => eB r) (fun x => yI x) [] (Qg)
theorem qK (hC : zA Try.prog ctr) : zC.Ok Try.prog := by
 refine zH ?_
 rintro is r0 aa
 try unfold yI at aa
 refine yO true [(2, none)] qq 4 Try.func51 fun E hE => ?_
 obtain rfl := zb aa
 exact yE X0 hC hE []
def kE : Code := (Try.f82.body).getD .skip
def u6 : w6 := spF (α := Bool × Unit) (ρ := Bool) 82 (fun x => [eB x.1, (eSp (ZA 51)) x.2]) (fun r => eB r) (fun x => w9 x.1 x.2) [] (Xt)
theorem ug (hC : zA Try.prog ctr) (h06 : ctr.Has zC) : u6.Ok Try.prog := by
 refine zH ?_
 rintro ⟨x_, x1⟩ r0 aa
 try unfold w9 at aa
 refine yO true [(3, none)] kE 8 Try.func82 fun E hE => ?_
 obtain ⟨r_, h0, aa⟩ := zh aa
 obtain rfl := zb aa
 exact yE X0 hC hE [Hc h06 (x := x_) h0 (loC eB x_ <| loN)]
def x3 : Code := (Try.f100.body).getD .skip
def wD : w6 := spF (α := List Bool × Unit) (ρ := Int) 100 (fun x => [(eSl 1 false eB) x.1, (Yp 82 (eSp (ZA 51))) x.2]) (fun r => (eI .i64) r) (fun x => yC x.1 x.2) [] (by
 rintro ⟨a0, a1⟩ ⟨b0, b1⟩ h
 have e0 := qw.inj (f := (eSl 1 false eB)) _ _ (List.cons.inj h).1
 replace h := (List.cons.inj h).2
 have e1 := qw.inj (f := (Yp 82 (eSp (ZA 51)))) _ _ (List.cons.inj h).1
 subst e0 e1
 rfl)
abbrev uf : List (Nat × T) := []
abbrev ue (s_ : List Bool) (x8 : Int) : List (Nat × T) := [(0, .d (eSl 1 false eB s_)), (1, .d (.fn 82 [.sptr (.fn 51 [])])), (7, .d (I ((s_.length : Nat) : Int))), (8, .d (I x8))]
theorem uU (hC : zA Try.prog ctr) (h06 : ctr.Has zC) : wD.Ok Try.prog := by
 refine zH ?_
 rintro ⟨s_, f_⟩ r0 aa
 try unfold yC at aa
 refine yO true [(4, none)] x3 19 Try.func100 fun E hE => ?_
 refine yJ X0 hC x3 [1] [] [] (fun z : Unit => yZ = some r0) (fun z => uf) [(0, .d (eSl 1 false eB s_)), (1, .d (.fn 82 [.sptr (.fn 51 [])]))] [Hh (.cut 1)] ?_ fun J1 ba => ?_
 ·rintro ⟨⟩ aa
  unfold yZ at aa
  obtain rfl := zb aa
  exact yE X0 hC hE []
 ·obtain ⟨t2, ht2, aa⟩ := zh aa
  refine yL X0 hC x3 [1,2,1,0] [J1] (fun s => zK s_ s) (fun x => ue s_ x) 0 ht2  [Ha (lnM eB s_)] ?_
  rintro x8 m2 bn ae hl1 J2 bg
  try unfold zK at ae
  rcases y4 ae with ⟨c0, ae⟩ | ⟨c0, ae⟩
  ·obtain ⟨bi, h0, ae⟩ := zh ae
   obtain ⟨r_, h1, ae⟩ := zh ae
   let Z0 : List HO := [Hq c0, Hi eB h0, Hc (Ctr.add_has UI u6) (x := (bi, ())) h1 (loC eB bi <| loC (eSp (ZA 51)) () <| loN)]
   rcases y4 ae with ⟨c1, ae⟩ | ⟨c1, ae⟩
   ·obtain rfl := zb ae
    obtain rfl := hl1
    obtain rfl := zb aa
    exact yE ((QU zp (ug hC h06) 16).or X0) hC hE (Z0 ++ [Hq c1])
   ·obtain rfl := zb ae
    exact yB ((QU zp (ug hC h06) 16).or X0) hC bg (w64 (x8 + 1)) hl1 (Z0 ++ [Hq c1])
  ·obtain rfl := zb ae
   obtain rfl := hl1
   exact yB X0 hC ba () aa [Hq c0]
def ud : Code := (Try.f81.body).getD .skip
def xU : w6 := spF (α := List Bool × Unit) (ρ := Bool) 81 (fun x => [(eSl 1 false eB) x.1, (Yp 82 (eSp (ZA 51))) x.2]) (fun r => eB r) (fun x => yc x.1 x.2) [] (by
 rintro ⟨a0, a1⟩ ⟨b0, b1⟩ h
 have e0 := qw.inj (f := (eSl 1 false eB)) _ _ (List.cons.inj h).1
 replace h := (List.cons.inj h).2
 have e1 := qw.inj (f := (Yp 82 (eSp (ZA 51)))) _ _ (List.cons.inj h).1
 subst e0 e1
 rfl)
theorem um (hC : zA Try.prog ctr) (h06 : ctr.Has zC) : xU.Ok Try.prog := by
 refine zH ?_
 rintro ⟨s_, f_⟩ r0 aa
 try unfold yc at aa
 refine yO true [(4, none)] ud 9 Try.func81 fun E hE => ?_
 obtain ⟨r_, h0, aa⟩ := zh aa
 obtain rfl := zb aa
 exact yE ((QU zp (uU hC h06) 7).or X0) hC hE [Hc (Ctr.add_has UI wD) (x := (s_, ())) h0 (loC (eSl 1 false eB) s_ <| loC (Yp 82 (eSp (ZA 51))) () <| loN)]
def ZI : Code := (Try.f50.body).getD .skip
def ur : w6 := spF (α := List Bool × Unit) (ρ := Bool) 50 (fun x => [(eSl 1 false eB) x.1, (ZA 51) x.2]) (fun r => eB r) (fun x => xJ x.1 x.2) [] (by
 rintro ⟨a0, a1⟩ ⟨b0, b1⟩ h
 have e0 := qw.inj (f := (eSl 1 false eB)) _ _ (List.cons.inj h).1
 replace h := (List.cons.inj h).2
 have e1 := qw.inj (f := (ZA 51)) _ _ (List.cons.inj h).1
 subst e0 e1
 rfl)
theorem ZX (hC : zA Try.prog ctr) (h06 : ctr.Has zC) : ur.Ok Try.prog := by
 refine zH ?_
 rintro ⟨l_, is⟩ r0 aa
 try unfold xJ at aa
 refine yO true [(4, none)] ZI 9 Try.func50 fun E hE => ?_
 obtain ⟨r_, h0, aa⟩ := zh aa
 obtain rfl := zb aa
 exact yE ((QU zp (um hC h06) 7).or X0) hC hE [Hc (Ctr.add_has UI xU) (x := (l_, ())) h0 (loC (eSl 1 false eB) l_ <| loC (Yp 82 (eSp (ZA 51))) () <| loN)]
def jd : Code := (Try.f49.body).getD .skip
def xD : w6 := spF (α := List Bool) (ρ := Bool) 49 (fun x => [(eSl 1 false eB) x]) (fun r => eB r) (fun x => x9 x) [] (Qg)
theorem jj (hC : zA Try.prog ctr) (h06 : ctr.Has zC) : xD.Ok Try.prog := by
 refine zH ?_
 rintro r_ r0 aa
 try unfold x9 at aa
 refine yO true [(2, none)] jd 5 Try.func49 fun E hE => ?_
 obtain ⟨ai, h0, aa⟩ := zh aa
 obtain rfl := zb aa
 exact yE ((QU zp (ZX hC h06) 4).or X0) hC hE [Hc (Ctr.add_has UI ur) (x := (r_, ())) h0 (loC (eSl 1 false eB) r_ <| loC (ZA 51) () <| loN)]
def ZJ : Code := (Try.f84.body).getD .skip
def wZ : w6 := spF (α := List Bool × Unit) (ρ := Bool) 84 (fun x => [(eSl 1 false eB) x.1, (eSp (ZA 49)) x.2]) (fun r => eB r) (fun x => wI x.1 x.2) [] (Xt)
theorem ZY (hC : zA Try.prog ctr) (h0T : ctr.Has xD) : wZ.Ok Try.prog := by
 refine zH ?_
 rintro ⟨x_, x1⟩ r0 aa
 try unfold wI at aa
 refine yO true [(3, none)] ZJ 8 Try.func84 fun E hE => ?_
 obtain ⟨r_, h0, aa⟩ := zh aa
 obtain rfl := zb aa
 exact yE X0 hC hE [Hc h0T (x := x_) h0 (loC (eSl 1 false eB) x_ <| loN)]
def xw : Code := (Try.f101.body).getD .skip
def xm : w6 := spF (α := List (List Bool) × Unit) (ρ := Int) 101 (fun x => [F5_ x.1, (Yp 84 (eSp (ZA 49))) x.2]) (fun r => (eI .i64) r) (fun x => yN x.1 x.2) [] (by
 rintro ⟨a0, a1⟩ ⟨b0, b1⟩ h
 have e0 := qw.inj (f := F5_) _ _ (List.cons.inj h).1
 replace h := (List.cons.inj h).2
 have e1 := qw.inj (f := (Yp 84 (eSp (ZA 49)))) _ _ (List.cons.inj h).1
 subst e0 e1
 rfl)
abbrev uF : List (Nat × T) := []
abbrev uE (s_ : List (List Bool)) (x8 : Int) : List (Nat × T) := [(0, .d (eSl 1 false (eSl 1 false eB) s_)), (1, .d (.fn 84 [.sptr (.fn 49 [])])), (7, .d (I ((s_.length : Nat) : Int))), (8, .d (I x8))]
theorem qS (hC : zA Try.prog ctr) (h0U : ctr.Has wZ) : xm.Ok Try.prog := by
 refine zH ?_
 rintro ⟨s_, f_⟩ r0 aa
 try unfold yN at aa
 refine yO true [(4, none)] xw 19 Try.func101 fun E hE => ?_
 refine yJ X0 hC xw [1] [] [] (fun z : Unit => xq = some r0) (fun z => uF) [(0, .d (eSl 1 false (eSl 1 false eB) s_)), (1, .d (.fn 84 [.sptr (.fn 49 [])]))] [Hh (.cut 1)] ?_ fun J1 ba => ?_
 ·rintro ⟨⟩ aa
  unfold xq at aa
  obtain rfl := zb aa
  exact yE X0 hC hE []
 ·obtain ⟨t2, ht2, aa⟩ := zh aa
  refine yL X0 hC xw [1,2,1,0] [J1] (fun s => zN s_ s) (fun x => uE s_ x) 0 ht2  [Ha (lnM (eSl 1 false eB) s_)] ?_
  rintro x8 m2 bn ae hl1 J2 bg
  try unfold zN at ae
  rcases y4 ae with ⟨c0, ae⟩ | ⟨c0, ae⟩
  ·obtain ⟨bi, h0, ae⟩ := zh ae
   obtain ⟨r_, h1, ae⟩ := zh ae
   let Z0 : List HO := [Hq c0, Hi (eSl 1 false eB) h0, Hc h0U (x := (bi, ())) h1 (loC (eSl 1 false eB) bi <| loC (eSp (ZA 49)) () <| loN)]
   rcases y4 ae with ⟨c1, ae⟩ | ⟨c1, ae⟩
   ·obtain rfl := zb ae
    obtain rfl := hl1
    obtain rfl := zb aa
    exact yE X0 hC hE (Z0 ++ [Hq c1])
   ·obtain rfl := zb ae
    exact yB X0 hC bg (w64 (x8 + 1)) hl1 (Z0 ++ [Hq c1])
  ·obtain rfl := zb ae
   obtain rfl := hl1
   exact yB X0 hC ba () aa [Hq c0]
def uC : Code := (Try.f83.body).getD .skip
def yK : w6 := spF (α := List (List Bool) × Unit) (ρ := Bool) 83 (fun x => [F5_ x.1, (Yp 84 (eSp (ZA 49))) x.2]) (fun r => eB r) (fun x => yp x.1 x.2) [] (by
 rintro ⟨a0, a1⟩ ⟨b0, b1⟩ h
 have e0 := qw.inj (f := F5_) _ _ (List.cons.inj h).1
 replace h := (List.cons.inj h).2
 have e1 := qw.inj (f := (Yp 84 (eSp (ZA 49)))) _ _ (List.cons.inj h).1
 subst e0 e1
 rfl)
theorem uM (hC : zA Try.prog ctr) (h0V : ctr.Has xm) : yK.Ok Try.prog := by
 refine zH ?_
 rintro ⟨s_, f_⟩ r0 aa
 try unfold yp at aa
 refine yO true [(4, none)] uC 9 Try.func83 fun E hE => ?_
 obtain ⟨r_, h0, aa⟩ := zh aa
 obtain rfl := zb aa
 exact yE X0 hC hE [Hc h0V (x := (s_, ())) h0 (loC F5_ s_ <| loC (Yp 84 (eSp (ZA 49))) () <| loN)]
def Yr : Code := (Try.f52.body).getD .skip
def vL : w6 := spF (α := List (List Bool) × Unit) (ρ := Bool) 52 (fun x => [F5_ x.1, (ZA 49) x.2]) (fun r => eB r) (fun x => wl x.1 x.2) [] (by
 rintro ⟨a0, a1⟩ ⟨b0, b1⟩ h
 have e0 := qw.inj (f := F5_) _ _ (List.cons.inj h).1
 replace h := (List.cons.inj h).2
 have e1 := qw.inj (f := (ZA 49)) _ _ (List.cons.inj h).1
 subst e0 e1
 rfl)
theorem YJ (hC : zA Try.prog ctr) (h0W : ctr.Has yK) : vL.Ok Try.prog := by
 refine zH ?_
 rintro ⟨l_, is⟩ r0 aa
 try unfold wl at aa
 refine yO true [(4, none)] Yr 9 Try.func52 fun E hE => ?_
 obtain ⟨r_, h0, aa⟩ := zh aa
 obtain rfl := zb aa
 exact yE X0 hC hE [Hc h0W (x := (l_, ())) h0 (loC F5_ l_ <| loC (Yp 84 (eSp (ZA 49))) () <| loN)]
def jO : Code := (Try.f20.body).getD .skip
def yM : w6 := spF (α := z6 × List (List Int)) (ρ := Bool × Int) 20 (fun x => [vu x.1, F9_ x.2]) (fun r => .tup [eB r.1, (eI .i64) r.2]) (fun x => zR x.1 x.2) [] (Xt)
theorem jQ (hC : zA Try.prog ctr) (h0c : ctr.Has vK) (h0j : ctr.Has qG) (h0X : ctr.Has vL) : yM.Ok Try.prog := by
 refine zH ?_
 rintro ⟨m_, l_⟩ r0 aa
 try unfold zR at aa
 refine yO false [(4, none), (5, none)] jO 20 Try.func20 fun E hE => ?_
 obtain ⟨r_, h0, aa⟩ := zh aa
 let Z0 : List HO := [Hc h0c (x := (m_, l_)) h0 (loC vu m_ <| loC F9_ l_ <| loN)]
 rcases y4 aa with ⟨c0, aa⟩ | ⟨c0, aa⟩
 ·obtain rfl := zb aa
  exact yE X0 hC hE (Z0 ++ [Hq c0])
 ·obtain ⟨ai, h1, aa⟩ := zh aa
  obtain ⟨aj, h2, aa⟩ := zh aa
  obtain rfl := zb aa
  exact yE ((zbt zp z8g).or X0) hC hE (Z0 ++ [Hq c0, Hc h0j (x := (m_, l_)) h1 (loC vu m_ <| loC F9_ l_ <| loN), Hc h0X (x := (ai.Edges, ())) h2 (loC F4_ ai.Edges <| loC (ZA 49) () <| loN)])
def Xo : Code := (Try.f57.body).getD .skip
theorem Xx (hC : zA Try.prog ctr) (bz : Value) (x1 : List Int) (x2 : z6) : ∀ (s_ : Int) (k_ : Int) (y0 : z7) (r0 : z7), xF x1 x2 s_ k_ y0 = some r0 → wo Try.prog (.fn 57 [.atom bz, .sptr (eSl 1 false (eI .i64) x1), .sptr (.agg [I x2.Inputs, I x2.Outputs, eSl 1 false qR x2.Rows])]) [I s_, I k_] ([bz].zip [.box (.agg [eOs 1 true eB y0.States, eOs 1 true (eOs 1 true eB) y0.Edges])]) (.tup []) [.box (.agg [eOs 1 true eB r0.States, eOs 1 true (eOs 1 true eB) r0.Edges])] := by
 intro s_ k_ y0 r0 aa
 refine VD (tt := yh) (nt := 40) (body := Xo) [2] zp Try.func57 rfl (by kernel_rfl) rfl rfl (by show (5 : Nat) ≤ 40; decide) (by decide) rfl rfl (fun E hE => ?_) rfl
 unfold xF at aa
 obtain ⟨cn, h0, aa⟩ := zh aa
 let Z0 : List HO := [Hn (iL eB h0), Hs (iM eB h0), Hs (iM eB h0), Hl (sM eB y0.States s_ true), Ha (lnM (eI .i64) x1)]
 rcases y4 aa with ⟨c0, aa⟩ | ⟨c0, aa⟩
 ·obtain ⟨ax, h1, aa⟩ := zh aa
  obtain ⟨fh, h2, aa⟩ := zh aa
  obtain ⟨ar, h3, aa⟩ := zh aa
  let Z1 : List HO := (Z0 ++ (rpN 4 (Hq c0) (Hi qR h1 :: (rpN 4 (Hq c0) (Hi (eI .i64) h2 :: Hq c0 :: Hq c0 :: Hi F6_ h3 :: (rpN 4 (Hq c0) []))))))
  rcases y4 aa with ⟨c1, aa⟩ | ⟨c1, aa⟩
  ·obtain ⟨bm, h4, aa⟩ := zh aa
   obtain ⟨fq, h5, aa⟩ := zh aa
   obtain ⟨ca, h6, aa⟩ := zh aa
   obtain rfl := zb aa
   exact yF X0 hC .normal [(2, .own (.box (.agg [eOs 1 true eB (y0.States.set s_.toNat true), eOs 1 true (eOs 1 true eB) (y0.Edges.set s_.toNat (bm.set fq.toNat true))])))] (Z1 ++ [Hq c1, Hn (iL (eOs 1 true eB) h4), Hs (iM (eOs 1 true eB) h4), Hi (eI .i64) h5, Hs (iM (eOs 1 true eB) h4), Hn (iL eB h6), Hs (iM (eOs 1 true eB) h4), Hs (iM eB h6), Hs (iM (eOs 1 true eB) h4), Hs (iM eB h6), Hl (sM eB bm fq true), Hl (sM (eOs 1 true eB) y0.Edges s_ (bm.set fq.toNat true))]) fun st0 h0 => hE _ st0 (.inl rfl) (j8 h0 ⟨⟨rfl, rfl⟩, trivial⟩)
  ·obtain rfl := zb aa
   exact yF X0 hC .normal [(2, .own (.box (.agg [eOs 1 true eB (y0.States.set s_.toNat true), eOs 1 true (eOs 1 true eB) y0.Edges])))] (Z1 ++ [Hq c1]) fun st0 h0 => hE _ st0 (.inl rfl) (j8 h0 ⟨⟨rfl, rfl⟩, trivial⟩)
 ·obtain rfl := zb aa
  exact yF X0 hC .normal [(2, .own (.box (.agg [eOs 1 true eB (y0.States.set s_.toNat true), eOs 1 true (eOs 1 true eB) y0.Edges])))] (Z0 ++ (rpN 14 (Hq c0) [qF])) fun st0 h0 => hE _ st0 (.inl rfl) (j8 h0 ⟨⟨rfl, rfl⟩, trivial⟩)
def vW : Code := (Try.f22.body).getD .skip
def vP : w6 := spF (α := z6 × List (List Int)) (ρ := z7 × Int) 22 (fun x => [vu x.1, F9_ x.2]) (fun r => .tup [z8V r.1, (eI .i64) r.2]) (fun x => wz x.1 x.2) [] (Xt)
abbrev YV (bq : List Bool) (bl : List (List Bool)) : List (Nat × T) := [(4, .own (.box (.agg [eOs 1 true eB [], eOs 1 true (eSl 1 false eB) []]))), (7, .own (.box (.agg [eOs 1 true eB bq, eOs 1 true (eOs 1 true eB) bl])))]
abbrev YU (m_ : z6) (l_ : List (List Int)) (bh : List Bool) (a7 : List (List Bool)) (gf : Int) : List (Nat × T) := [(2, .d (.sptr (vu m_))), (4, .own (.box (.agg [eOs 1 true eB [], eOs 1 true (eSl 1 false eB) []]))), (7, .own (.box (.agg [eOs 1 true eB bh, eOs 1 true (eOs 1 true eB) a7]))), (19, .d (eSl 1 false F2_ l_)), (20, .d (I ((l_.length : Nat) : Int))), (21, .d (I gf))]
theorem V7 (hC : zA Try.prog ctr) (h0c : ctr.Has vK) (h0i : ctr.Has ut) : vP.Ok Try.prog := by
 refine zH ?_
 rintro ⟨m_, l_⟩ r0 aa
 try unfold wz at aa
 refine yO false [(4, some 54), (5, none)] vW 31 Try.func22 fun E hE => ?_
 obtain ⟨r_, h0, aa⟩ := zh aa
 let Z0 : List HO := [Hc h0c (x := (m_, l_)) h0 (loC vu m_ <| loC F9_ l_ <| loN)]
 rcases y4 aa with ⟨c0, aa⟩ | ⟨c0, aa⟩
 ·obtain rfl := zb aa
  exact yE X0 hC hE (Z0 ++ [Hq c0, Hm (shM eB eB []), Hm (shM (eSl 1 false eB) (eSl 1 false eB) [])])
 ·obtain ⟨ai, h1, aa⟩ := zh aa
  refine yA X0 hC vW [1,1,1] [] [(1, .d (eSl 1 false F2_ l_)), (2, .own (.box (vu m_))), (4, .own (.box (.agg [eOs 1 true eB [], eOs 1 true (eSl 1 false eB) []]))), (7, .own (.box (zam ai)))] (Z0 ++ [Hq c0, Hc h0i (x := m_) h1 (loC vu m_ <| loN), Hh (.cut 0)]) ?_
  refine JU (y := .box (.agg [eOs 1 true eB ai.States, eOs 1 true (eOs 1 true eB) ai.Edges])) (by kernel_rfl) 7 (by kernel_rfl) (by kernel_rfl) fun pv7 hv7 => ?_
  refine yJ X0 hC vW [1,1,1] [] [4,7] (fun z : List Bool × List (List Bool) => qn z.1 z.2 = some r0) (fun z => YV z.1 z.2) [(1, .d (eSl 1 false F2_ l_)), (2, .own (.box (vu m_))), (4, .own (.box (.agg [eOs 1 true eB [], eOs 1 true (eSl 1 false eB) []]))), (7, .own (.box (zam ai)))] [Hh (.cut 0)] ?_ fun J1 ba => ?_
  ·rintro ⟨bq, bl⟩ aa
   unfold qn at aa
   obtain rfl := zb aa
   exact yE X0 hC hE [Hm (shM eB eB bq), Hm (shM (eOs 1 true eB) (eSl 1 true eB) bl)]
  ·obtain ⟨t2, ht2, aa⟩ := zh aa
   refine yL X0 hC vW [1,1,1,2,1,0] [J1] (fun s => xR m_ l_ s.1 s.2.1 s.2.2) (fun x => YU m_ l_ x.1 x.2.1 x.2.2) (ai.States, ai.Edges, 0) ht2  [Ha (lnM F2_ l_), Hh (.n 1 [2])] ?_
   rintro ⟨bh, a7, gf⟩ m2 bn ae hl1 J2 bg
   try unfold xR at ae
   rcases y4 ae with ⟨c1, ae⟩ | ⟨c1, ae⟩
   ·obtain ⟨av, h2, ae⟩ := zh ae
    obtain ⟨aj, h3, ae⟩ := zh ae
    obtain rfl := zb ae
    exact yB ((wV (P := Try.prog) yh [7] (z3V (pre := [vu m_, F2_ av]) (enc := (fun x : Int × Int => [(eI .i64) x.1, (eI .i64) x.2])) (ls := (fun s : z7 => [(pv7, .box (.agg [eOs 1 true eB s.States, eOs 1 true (eOs 1 true eB) s.Edges]))])) (F := fun yy s => wy m_ av yy s) (fun yv Y hy s s' h => Xw hC _ yv Y _ hy m_ av s s' h) (fun s x s' h => Xx hC pv7 av m_ _ _ _ _ h) (fun _ _ => rfl) h3) 28).or ((xMk Try.prog yh).or X0)) hC bg (aj.States, aj.Edges, w64 (gf + 1)) hl1 [Hq c1, Hi F2_ h2, Hn (kp (f := .fn 56 []) (xs := [vu m_, F2_ av, .fn 57 [.atom pv7, .sptr (eSl 1 false (eI .i64) av), .sptr (.agg [I m_.Inputs, I m_.Outputs, eSl 1 false qR m_.Rows])]]) (ls := [(pv7, .box (.agg [eOs 1 true eB bh, eOs 1 true (eOs 1 true eB) a7]))]) (r := .tup []) (ys := [.box (.agg [eOs 1 true eB aj.States, eOs 1 true (eOs 1 true eB) aj.Edges])]) [vu m_, F2_ av, .fn 57 [.atom pv7, .sptr (eSl 1 false (eI .i64) av), .sptr (.agg [I m_.Inputs, I m_.Outputs, eSl 1 false qR m_.Rows])]] (show Vv [vu m_, F2_ av, .fn 57 [.atom pv7, .sptr (eSl 1 false (eI .i64) av), .sptr (.agg [I m_.Inputs, I m_.Outputs, eSl 1 false qR m_.Rows])]] [vu m_, F2_ av, .fn 57 [.atom pv7, .sptr (eSl 1 false (eI .i64) av), .sptr (.agg [I m_.Inputs, I m_.Outputs, eSl 1 false qR m_.Rows])]] from inferInstance))]
   ·obtain rfl := zb ae
    obtain rfl := hl1
    exact yB X0 hC ba (bh, a7) aa [Hq c1]
def Vf : Code := (Try.f58.body).getD .skip
def j4 : w6 := spF (α := Unit) (ρ := z6) 58 (fun x => []) (fun r => z4I r) (fun x => Zw) [] (fun _ _ _ => rfl)
theorem VO (hC : zA Try.prog ctr) : j4.Ok Try.prog := by
 refine zH ?_
 rintro ⟨⟩ r0 aa
 try unfold Zw at aa
 refine yO false [(0, some 43)] Vf 14 Try.func58 fun E hE => ?_
 obtain rfl := zb aa
 exact yE X0 hC hE [Hm (shM WK z4J ([[(z8.mk 1 0), (z8.mk 0 0)], [(z8.mk 2 1), (z8.mk (-1) (-1))], [(z8.mk 0 0), (z8.mk 2 1)]]))]
def JT : Code := (Try.f59.body).getD .skip
def Ze : w6 := spF (α := List (List Int)) (ρ := List (List Int)) 59 (fun x => [F9_ x]) (fun r => F9_ r) (fun x => qg x) [] (Qg)
theorem Kb (hC : zA Try.prog ctr) : Ze.Ok Try.prog := by
 refine zH ?_
 rintro l_ r0 aa
 try unfold qg at aa
 refine yO true [(2, none)] JT 4 Try.func59 fun E hE => ?_
 obtain rfl := zb aa
 exact yE X0 hC hE []
def jb : Code := (Try.f76.body).getD .skip
def qX : w6 := spF (α := List Int × List Int) (ρ := Int) 76 (fun x => [F2_ x.1, F2_ x.2]) (fun r => (eI .i64) r) (fun x => Zp x.1 x.2) [] (Xt)
abbrev Xs : List (Nat × T) := []
abbrev Xr (a_ : List Int) (b_ : List Int) (i_ : Int) : List (Nat × T) := [(0, .d (eSl 1 false (eI .i64) a_)), (1, .d (eSl 1 false (eI .i64) b_)), (5, .d (I i_))]
theorem VK (hC : zA Try.prog ctr) : qX.Ok Try.prog := by
 refine zH ?_
 rintro ⟨a_, b_⟩ r0 aa
 try unfold Zp at aa
 refine yO true [(4, none)] jb 40 Try.func76 fun E hE => ?_
 let Z0 : List HO := [Ha (lnM (eI .i64) a_), Ha (lnM (eI .i64) b_)]
 rcases y4 aa with ⟨c0, aa⟩ | ⟨c0, aa⟩
 ·let Z1 : List HO := (Z0 ++ [Hq c0, Ha (lnM (eI .i64) a_), Ha (lnM (eI .i64) b_)])
  rcases y4 aa with ⟨c1, aa⟩ | ⟨c1, aa⟩
  ·obtain rfl := zb aa
   exact yE X0 hC hE (Z1 ++ [Hq c1])
  ·obtain rfl := zb aa
   exact yE X0 hC hE (Z1 ++ [Hq c1])
 ·refine yJ X0 hC jb [1,1] [] [] (fun z : Unit => j7 = some r0) (fun z => Xs) [(0, .d (eSl 1 false (eI .i64) a_)), (1, .d (eSl 1 false (eI .i64) b_))] (Z0 ++ [Hq c0, Hh (.cut 0)]) ?_ fun J1 ba => ?_
  ·rintro ⟨⟩ aa
   unfold j7 at aa
   obtain rfl := zb aa
   exact yE X0 hC hE []
  ·obtain ⟨t2, ht2, aa⟩ := zh aa
   refine yL X0 hC jb [1,1,2,1,0] [J1] (fun s => j6 a_ b_ s) (fun x => Xr a_ b_ x) 0 ht2  [] ?_
   rintro i_ m2 bn ae hl1 J2 bg
   try unfold j6 at ae
   rcases y4 ae with ⟨c2, ae⟩ | ⟨c2, ae⟩
   ·obtain ⟨bt, h0, ae⟩ := zh ae
    obtain ⟨bo, h1, ae⟩ := zh ae
    let Z2 : List HO := [Ha (lnM (eI .i64) a_), Hq c2, Hi (eI .i64) h0, Hi (eI .i64) h1]
    rcases y4 ae with ⟨c3, ae⟩ | ⟨c3, ae⟩
    ·obtain rfl := zb ae
     obtain rfl := hl1
     obtain rfl := zb aa
     exact yE X0 hC hE (Z2 ++ [Hq c3])
    ·obtain ⟨ij, h2, ae⟩ := zh ae
     obtain ⟨ik, h3, ae⟩ := zh ae
     let Z3 : List HO := (Z2 ++ [Hq c3, Hi (eI .i64) h2, Hi (eI .i64) h3])
     rcases y4 ae with ⟨c4, ae⟩ | ⟨c4, ae⟩
     ·obtain rfl := zb ae
      obtain rfl := hl1
      obtain rfl := zb aa
      exact yE X0 hC hE (Z3 ++ [Hq c4])
     ·obtain rfl := zb ae
      exact yB X0 hC bg (w64 (i_ + 1)) hl1 (Z3 ++ [Hq c4])
   ·obtain rfl := zb ae
    obtain rfl := hl1
    exact yB X0 hC ba () aa [Ha (lnM (eI .i64) a_), Hq c2]
def ZH : Code := (Try.f75.body).getD .skip
def Zc : w6 := spF (α := List (List Int) × List (List Int)) (ρ := Bool) 75 (fun x => [F9_ x.1, F9_ x.2]) (fun r => eB r) (fun x => Wj x.1 x.2) [] (Xt)
abbrev Vs : List (Nat × T) := []
abbrev Vr (a_ : List (List Int)) (b_ : List (List Int)) (i_ : Int) : List (Nat × T) := [(0, .d (eSl 1 false F2_ a_)), (1, .d (eSl 1 false F2_ b_)), (5, .d (I i_))]
theorem K9 (hC : zA Try.prog ctr) (h0Y : ctr.Has qX) : Zc.Ok Try.prog := by
 refine zH ?_
 rintro ⟨a_, b_⟩ r0 aa
 try unfold Wj at aa
 refine yO true [(4, none)] ZH 27 Try.func75 fun E hE => ?_
 let Z0 : List HO := [Ha (lnM F2_ a_), Ha (lnM F2_ b_)]
 rcases y4 aa with ⟨c0, aa⟩ | ⟨c0, aa⟩
 ·obtain rfl := zb aa
  exact yE X0 hC hE (Z0 ++ [Hq c0])
 ·refine yJ X0 hC ZH [1,1] [] [] (fun z : Unit => Zr = some r0) (fun z => Vs) [(0, .d (eSl 1 false F2_ a_)), (1, .d (eSl 1 false F2_ b_))] (Z0 ++ [Hq c0, Hh (.cut 0)]) ?_ fun J1 ba => ?_
  ·rintro ⟨⟩ aa
   unfold Zr at aa
   obtain rfl := zb aa
   exact yE X0 hC hE []
  ·obtain ⟨t2, ht2, aa⟩ := zh aa
   refine yL X0 hC ZH [1,1,2,1,0] [J1] (fun s => Zq a_ b_ s) (fun x => Vr a_ b_ x) 0 ht2  [] ?_
   rintro i_ m2 bn ae hl1 J2 bg
   try unfold Zq at ae
   let Z1 : List HO := [Ha (lnM F2_ a_)]
   rcases y4 ae with ⟨c1, ae⟩ | ⟨c1, ae⟩
   ·obtain ⟨bt, h0, ae⟩ := zh ae
    obtain ⟨bo, h1, ae⟩ := zh ae
    obtain ⟨r_, h2, ae⟩ := zh ae
    let Z2 : List HO := (Z1 ++ [Hq c1, Hi F2_ h0, Hi F2_ h1, Hc h0Y (x := (bt, bo)) h2 (loC F2_ bt <| loC F2_ bo <| loN)])
    rcases y4 ae with ⟨c2, ae⟩ | ⟨c2, ae⟩
    ·obtain rfl := zb ae
     obtain rfl := hl1
     obtain rfl := zb aa
     exact yE X0 hC hE (Z2 ++ [Hq c2])
    ·obtain rfl := zb ae
     exact yB X0 hC bg (w64 (i_ + 1)) hl1 (Z2 ++ [Hq c2])
   ·obtain rfl := zb ae
    obtain rfl := hl1
    exact yB X0 hC ba () aa (Z1 ++ [Hq c1])
def JS : Code := (Try.f60.body).getD .skip
def Zd : w6 := spF (α := List (List Int) × List (List Int)) (ρ := Bool) 60 (fun x => [F7_ x.1, F9_ x.2]) (fun r => eB r) (fun x => kP x.1 x.2) [] (Xt)
theorem Ka (hC : zA Try.prog ctr) (h0Z : ctr.Has Zc) : Zd.Ok Try.prog := by
 refine zH ?_
 rintro ⟨a_, b_⟩ r0 aa
 try unfold kP at aa
 refine yO true [(4, none)] JS 15 Try.func60 fun E hE => ?_
 obtain ⟨r_, h0, aa⟩ := zh aa
 let Z0 : List HO := [Hc h0Z (x := (a_, b_)) h0 (loC F7_ a_ <| loC F9_ b_ <| loN)]
 rcases y4 aa with ⟨c0, aa⟩ | ⟨c0, aa⟩
 ·obtain rfl := zb aa
  exact yE X0 hC hE (Z0 ++ [Hq c0, Hq c0, Ha (lnM F0_ a_), Hq c0, Hq c0, Ha (lnM F0_ a_), Hq c0, Hq c0])
 ·obtain rfl := zb aa
  exact yE X0 hC hE (Z0 ++ (rpN 6 (Hq c0) []))
def v7 : Code := (Try.f61.body).getD .skip
def Zb : w6 := spF (α := z7 × z7) (ρ := Bool) 61 (fun x => [K4 x.1, K4 x.2]) (fun r => eB r) (fun x => Wi x.1 x.2) [] (Xt)
abbrev Vp : List (Nat × T) := []
abbrev Vo (a_ : z7) (b_ : z7) (s_ : Int) : List (Nat × T) := [(2, .own (.box (K4 a_))), (3, .own (.box (K4 b_))), (6, .d (I s_))]
abbrev Vm (a_ : z7) (b_ : z7) (s_ : Int) (i_ : Int) : List (Nat × T) := [(2, .own (.box (K4 a_))), (3, .own (.box (K4 b_))), (6, .d (I s_)), (7, .d (I i_))]
abbrev Vn (a_ : z7) (b_ : z7) (s_ : Int) : List (Nat × T) := [(2, .own (.box (K4 a_))), (3, .own (.box (K4 b_))), (6, .d (I s_))]
abbrev Vq (a_ : z7) (b_ : z7) : List (Nat × T) := [(2, .own (.box (K4 a_))), (3, .own (.box (K4 b_)))]
abbrev Vl (a_ : z7) (b_ : z7) (bu : Int) : List (Nat × T) := [(2, .own (.box (K4 a_))), (3, .own (.box (K4 b_))), (5, .d (I bu))]
theorem K8 (hC : zA Try.prog ctr) : Zb.Ok Try.prog := by
 refine zH ?_
 rintro ⟨a_, b_⟩ r0 aa
 try unfold Wi at aa
 refine yO true [(4, none)] v7 89 Try.func61 fun E hE => ?_
 let Z0 : List HO := [Ha (lnM eB a_.States), Ha (lnM eB b_.States)]
 rcases y4 aa with ⟨c0, aa⟩ | ⟨c0, aa⟩
 ·obtain rfl := zb aa
  exact yE X0 hC hE (Z0 ++ (rpN 8 (Hq c0) [qT]))
 ·let Z1 : List HO := (Z0 ++ [Hq c0, Hq c0, Hq c0, Ha (lnM (eSl 1 false eB) a_.Edges), Hq c0, Hq c0, Hq c0, Ha (lnM (eSl 1 false eB) b_.Edges), Hq c0, Hq c0])
  rcases y4 aa with ⟨c1, aa⟩ | ⟨c1, aa⟩
  ·obtain rfl := zb aa
   exact yE X0 hC hE (Z1 ++ [Hq c1])
  ·refine yJ X0 hC v7 [1,1] [] [2,3] (fun z : Unit => Zo a_ b_ = some r0) (fun z => Vq a_ b_) [(2, .own (.box (K4 a_))), (3, .own (.box (K4 b_)))] (Z1 ++ [Hq c1, Hh (.cut 0)]) ?_ fun J1 ba => ?_
   ·rintro ⟨⟩ aa
    unfold Zo at aa
    refine yJ X0 hC v7 [1,1,1] [] [] (fun z : Unit => Zn = some r0) (fun z => Vp) [(2, .own (.box (K4 a_))), (3, .own (.box (K4 b_)))] [Hh (.cut 0)] ?_ fun J2 bg => ?_
    ·rintro ⟨⟩ aa
     unfold Zn at aa
     obtain rfl := zb aa
     exact yE X0 hC hE []
    ·obtain ⟨t3, ht3, aa⟩ := zh aa
     refine yL X0 hC v7 [1,1,1,2,1,0] [J2] (fun s => Zl a_ b_ s) (fun x => Vn a_ b_ x) 0 ht3  [] ?_
     rintro s_ m3 bn ae hl1 J3 dz
     try unfold Zl at ae
     let Z2 : List HO := [Ha (lnM (eSl 1 false eB) a_.Edges)]
     rcases y4 ae with ⟨c2, ae⟩ | ⟨c2, ae⟩
     ·refine yJ X0 hC v7 [1,1,1,2,1,0,0,1] [J2, J3] [2,3,6] (fun z : Unit => Zm s_ = some bn) (fun z => Vo a_ b_ s_) [(2, .own (.box (K4 a_))), (3, .own (.box (K4 b_))), (6, .d (I s_))] (Z2 ++ [Hq c2, Hh (.cut 0)]) ?_ fun J4 fc => ?_
      ·rintro ⟨⟩ ae
       unfold Zm at ae
       obtain rfl := zb ae
       exact yB X0 hC dz (w64 (s_ + 1)) hl1 []
      ·obtain ⟨bm, h0, ae⟩ := zh ae
       obtain ⟨dt, h1, ae⟩ := zh ae
       let Z3 : List HO := [Hi (eSl 1 false eB) h0, Ha (lnM eB bm), Hi (eSl 1 false eB) h1, Ha (lnM eB dt)]
       rcases y4 ae with ⟨c3, ae⟩ | ⟨c3, ae⟩
       ·obtain rfl := zb ae
        obtain rfl := hl1
        obtain rfl := zb aa
        exact yE X0 hC hE (Z3 ++ [Hq c3])
       ·obtain ⟨t5, ht5, ae⟩ := zh ae
        refine yL X0 hC v7 [1,1,1,2,1,0,0,1,2,0,1,1,0] [J2, J3, J4] (fun s => Zk a_ b_ s_ s) (fun x => Vm a_ b_ s_ x) 0 ht5  (Z3 ++ [Hq c3]) ?_
        rintro i_ m5 fp ap hl2 J5 fe
        try unfold Zk at ap
        obtain ⟨ft, h2, ap⟩ := zh ap
        let Z4 : List HO := [Hi (eSl 1 false eB) h2, Ha (lnM eB ft)]
        rcases y4 ap with ⟨c4, ap⟩ | ⟨c4, ap⟩
        ·obtain ⟨gi, h3, ap⟩ := zh ap
         obtain ⟨ca, h4, ap⟩ := zh ap
         obtain ⟨gj, h5, ap⟩ := zh ap
         obtain ⟨dj, h6, ap⟩ := zh ap
         let Z5 : List HO := (Z4 ++ [Hq c4, Hi (eSl 1 false eB) h3, Hi eB h4, Hi (eSl 1 false eB) h5, Hi eB h6])
         rcases y4 ap with ⟨c5, ap⟩ | ⟨c5, ap⟩
         ·obtain rfl := zb ap
          obtain rfl := hl2
          obtain rfl := zb ae
          obtain rfl := hl1
          obtain rfl := zb aa
          exact yE X0 hC hE (Z5 ++ [Hq c5])
         ·obtain rfl := zb ap
          exact yB X0 hC fe (w64 (i_ + 1)) hl2 (Z5 ++ [Hq c5])
        ·obtain rfl := zb ap
         obtain rfl := hl2
         exact yB X0 hC fc () ae (Z4 ++ [Hq c4])
     ·obtain rfl := zb ae
      obtain rfl := hl1
      exact yB X0 hC bg () aa (Z2 ++ [Hq c2])
   ·obtain ⟨t6, ht6, aa⟩ := zh aa
    refine yL X0 hC v7 [1,1,2,1,0] [J1] (fun s => Zj a_ b_ s) (fun x => Vl a_ b_ x) 0 ht6  [] ?_
    rintro bu m6 bn ae hl1 J6 gk
    try unfold Zj at ae
    rcases y4 ae with ⟨c6, ae⟩ | ⟨c6, ae⟩
    ·obtain ⟨cn, h7, ae⟩ := zh ae
     obtain ⟨dv, h8, ae⟩ := zh ae
     let Z6 : List HO := [Ha (lnM eB a_.States), Hq c6, Hi eB h7, Hi eB h8]
     rcases y4 ae with ⟨c7, ae⟩ | ⟨c7, ae⟩
     ·obtain rfl := zb ae
      obtain rfl := hl1
      obtain rfl := zb aa
      exact yE X0 hC hE (Z6 ++ [Hq c7])
     ·obtain rfl := zb ae
      exact yB X0 hC gk (w64 (bu + 1)) hl1 (Z6 ++ [Hq c7])
    ·obtain rfl := zb ae
     obtain rfl := hl1
     exact yB X0 hC ba () aa [Ha (lnM eB a_.States), Hq c6]
def X3 : Code := (Try.f23.body).getD .skip
def kw : w6 := spF (α := Unit) (ρ := Bool) 23 (fun x => []) (fun r => eB r) (fun x => Zv) [] (fun _ _ _ => rfl)
theorem Jc (hC : zA Try.prog ctr) (h19 : ctr.Has j4) (h07 : ctr.Has Ze) (h02 : ctr.Has vb) (h04 : ctr.Has wg) (h01 : ctr.Has wh) (h0e : ctr.Has vP) (h00 : ctr.Has Zd) (h0r : ctr.Has Zb) (h05 : ctr.Has w7) (h03 : ctr.Has yM) : kw.Ok Try.prog := by
 refine zH ?_
 rintro ⟨⟩ r0 aa
 try unfold Zv at aa
 refine yO true [(0, none)] X3 164 Try.func23 fun E hE => ?_
 obtain ⟨r_, h0, aa⟩ := zh aa
 obtain ⟨ai, h1, aa⟩ := zh aa
 obtain ⟨aj, h2, aa⟩ := zh aa
 obtain ⟨al, h3, aa⟩ := zh aa
 obtain ⟨ak, h4, aa⟩ := zh aa
 obtain ⟨am, h5, aa⟩ := zh aa
 obtain ⟨cd, h6, aa⟩ := zh aa
 obtain ⟨d8, h7, aa⟩ := zh aa
 obtain ⟨ez, h8, aa⟩ := zh aa
 refine yA ((zt Try.prog 50 [none, some (I cd.2)]).or ((zt Try.prog 49 [some (eOs 1 true F1_ cd.1), some (I cd.2)]).or ((zt Try.prog 45 [none, some (I am.2)]).or ((zt Try.prog 44 [some (eOs 1 true F1_ am.1), some (I am.2)]).or ((zt Try.prog 40 [none, some (I ak.2)]).or ((zt Try.prog 39 [some (eOs 1 true F1_ ak.1), some (I ak.2)]).or ((zt Try.prog 35 [none, some (I al.2)]).or ((zt Try.prog 34 [some (eOs 1 true F1_ al.1), some (I al.2)]).or X0)))))))) hC X3 [1,1,1,1,1,1,1,1,1,0] [] [(1, .own (.box (z4I r_))), (2, .d (eSl 1 false F2_ ai)), (3, .d (eSl 1 false F2_ aj)), (4, .own (eOs 1 true F1_ al.1)), (5, .d (I al.2)), (6, .own (eOs 1 true F1_ ak.1)), (7, .d (I ak.2)), (8, .own (eOs 1 true F1_ am.1)), (9, .d (I am.2)), (11, .d (I cd.2)), (12, .own (.box (z8V ez.1))), (13, .d (I ez.2))] [Hc h19 (x := ()) h0 (loN), Hg (z01 h07), Hm (shM F1_ F0_ ([[], [0], [1], [0,0], [0,1], [0,0,0], [0,0,1]])), Hs (z02 h07 (x := [[], [0], [1], [0,0], [0,1], [0,0,0], [0,0,1]]) h1 (loC F7_ ([[], [0], [1], [0,0], [0,1], [0,0,0], [0,0,1]] : List (List Int)) <| loN)), Hm (shM F1_ F0_ ([[], [0], [1], [0,0], [0,1], [0,0,0], [0,0,1]])), Hg (z01 h07), Hm (shM F1_ F0_ ([[], [0], [0,0]])), Hs (z02 h07 (x := [[], [0], [0,0]]) h2 (loC F7_ ([[], [0], [0,0]] : List (List Int)) <| loN)), Hm (shM F1_ F0_ ([[], [0], [0,0]])), Hc h02 (x := r_) h3 (loC z4I r_ <| loN), Hn (⟨rfl, rfl⟩ : T.own (.opq (zG [some (eOs 1 true F1_ al.1), some (I al.2)])) = T.own (.opq (zG [some (eOs 1 true F1_ al.1), some (I al.2)])) ∧ 1 = 1), Hn (⟨rfl, rfl⟩ : T.own (.opq (zG [none, some (I al.2)])) = T.own (.opq (zG [none, some (I al.2)])) ∧ 1 = 1), Hc h04 (x := r_) h4 (loC z4I r_ <| loN), Hn (⟨rfl, rfl⟩ : T.own (.opq (zG [some (eOs 1 true F1_ ak.1), some (I ak.2)])) = T.own (.opq (zG [some (eOs 1 true F1_ ak.1), some (I ak.2)])) ∧ 1 = 1), Hn (⟨rfl, rfl⟩ : T.own (.opq (zG [none, some (I ak.2)])) = T.own (.opq (zG [none, some (I ak.2)])) ∧ 1 = 1), Hc h01 (x := (r_, 0)) h5 (loC z4I r_ <| loC (eI .i64) 0 <| loN), Hn (⟨rfl, rfl⟩ : T.own (.opq (zG [some (eOs 1 true F1_ am.1), some (I am.2)])) = T.own (.opq (zG [some (eOs 1 true F1_ am.1), some (I am.2)])) ∧ 1 = 1), Hn (⟨rfl, rfl⟩ : T.own (.opq (zG [none, some (I am.2)])) = T.own (.opq (zG [none, some (I am.2)])) ∧ 1 = 1), Hc h01 (x := (r_, (-1))) h6 (loC z4I r_ <| loC (eI .i64) (-1) <| loN), Hn (⟨rfl, rfl⟩ : T.own (.opq (zG [some (eOs 1 true F1_ cd.1), some (I cd.2)])) = T.own (.opq (zG [some (eOs 1 true F1_ cd.1), some (I cd.2)])) ∧ 1 = 1), Hn (⟨rfl, rfl⟩ : T.own (.opq (zG [none, some (I cd.2)])) = T.own (.opq (zG [none, some (I cd.2)])) ∧ 1 = 1), Hg (z01 h07), Hm (shM F1_ F0_ ([[1], [0,1,0]])), Hs (z02 h07 (x := [[1], [0,1,0]]) h7 (loC F7_ ([[1], [0,1,0]] : List (List Int)) <| loN)), Hm (shM F1_ F0_ ([[1], [0,1,0]])), Hc h0e (x := (r_, d8)) h8 (loC z4I r_ <| loC F9_ d8 <| loN), Hh (.cut 1)] ?_
 rcases y4 aa with ⟨c0, aa⟩ | ⟨c0, aa⟩
 ·obtain rfl := zb aa
  exact yE X0 hC hE (Hq c0 :: Hq c0 :: Hq c0 :: (rpN 35 qT []))
 ·rcases y4 aa with ⟨c1, aa⟩ | ⟨c1, aa⟩
  ·obtain rfl := zb aa
   exact yE X0 hC hE (Hq c0 :: Hq c0 :: Hq c0 :: Hq c1 :: Hq c1 :: Hq c1 :: (rpN 32 qT []))
  ·let Z0 : List HO := [Hq c0, Hq c0, Hq c0, Hq c1, Hq c1, Hq c1]
   rcases y4 aa with ⟨c2, aa⟩ | ⟨c2, aa⟩
   ·obtain rfl := zb aa
    exact yE X0 hC hE (Z0 ++ (Hq c2 :: Hq c2 :: Hq c2 :: (rpN 29 qT [])))
   ·rcases y4 aa with ⟨c3, aa⟩ | ⟨c3, aa⟩
    ·obtain rfl := zb aa
     exact yE X0 hC hE (Z0 ++ (Hq c2 :: Hq c2 :: Hq c2 :: Hq c3 :: Hq c3 :: Hq c3 :: (rpN 26 qT [])))
    ·let Z1 : List HO := (Z0 ++ [Hq c2, Hq c2, Hq c2, Hq c3, Hq c3, Hq c3])
     rcases y4 aa with ⟨c4, aa⟩ | ⟨c4, aa⟩
     ·obtain rfl := zb aa
      exact yE X0 hC hE (Z1 ++ (rpN 5 (Hq c4) (rpN 21 qT [])))
     ·obtain ⟨iq, h9, aa⟩ := zh aa
      let Z2 : List HO := (Z1 ++ [Hq c4, Hq c4, Hq c4, Hm (shM F1_ F0_ al.1), Hn (kp (f := .fn 60 []) (xs := [F7_ al.1, F9_ aj]) (ls := []) (r := B iq) (ys := []) [F7_ al.1, F9_ aj] (show Vv [F7_ al.1, F9_ aj] [F7_ al.1, F9_ aj] from inferInstance)), Hq c4, Hq c4])
      rcases y4 aa with ⟨c5, aa⟩ | ⟨c5, aa⟩
      ·obtain rfl := zb aa
       exact yE ((wV (P := Try.prog) yh [] (lentCall (zn hC h00 (x := (al.1, aj)) h9)) 81).or X0) hC hE (Z2 ++ (rpN 5 (Hq c5) (rpN 16 qT [])))
      ·obtain ⟨gz, h10, aa⟩ := zh aa
       let Z3 : List HO := (Z2 ++ [Hq c5, Hq c5, Hq c5, Hm (shM F1_ F0_ ak.1), Hn (kp (f := .fn 60 []) (xs := [F7_ ak.1, F9_ ai]) (ls := []) (r := B gz) (ys := []) [F7_ ak.1, F9_ ai] (show Vv [F7_ ak.1, F9_ ai] [F7_ ak.1, F9_ ai] from inferInstance)), Hq c5, Hq c5])
       rcases y4 aa with ⟨c6, aa⟩ | ⟨c6, aa⟩
       ·obtain rfl := zb aa
        exact yE ((wV (P := Try.prog) yh [] (lentCall (zn hC h00 (x := (ak.1, ai)) h10)) 87).or ((wV (P := Try.prog) yh [] (lentCall (zn hC h00 (x := (al.1, aj)) h9)) 81).or X0)) hC hE (Z3 ++ (rpN 5 (Hq c6) (rpN 11 qT [])))
       ·obtain ⟨ia, h11, aa⟩ := zh aa
        let Z4 : List HO := (Z3 ++ [Hq c6, Hq c6, Hq c6, Hm (shM F1_ F0_ am.1), Hn (kp (f := .fn 60 []) (xs := [F7_ am.1, F9_ aj]) (ls := []) (r := B ia) (ys := []) [F7_ am.1, F9_ aj] (show Vv [F7_ am.1, F9_ aj] [F7_ am.1, F9_ aj] from inferInstance)), Hq c6, Hq c6])
        rcases y4 aa with ⟨c7, aa⟩ | ⟨c7, aa⟩
        ·obtain rfl := zb aa
         exact yE ((wV (P := Try.prog) yh [] (lentCall (zn hC h00 (x := (am.1, aj)) h11)) 93).or ((wV (P := Try.prog) yh [] (lentCall (zn hC h00 (x := (ak.1, ai)) h10)) 87).or ((wV (P := Try.prog) yh [] (lentCall (zn hC h00 (x := (al.1, aj)) h9)) 81).or X0))) hC hE (Z4 ++ (rpN 10 (Hq c7) [qT]))
        ·obtain ⟨ir, h12, aa⟩ := zh aa
         let Z5 : List HO := (Z4 ++ (rpN 8 (Hq c7) [Hg (z01 h0r), Hm (shM eB eB ([true, true, false])), Hm (shM (eOs 1 true eB) (eSl 1 true eB) ([[true, true], [false, false], [false, false]])), Hs (z02 h0r (x := (ez.1, (z7.mk ([true, true, false]) ([[true, true], [false, false], [false, false]])))) h12 (loC z8V ez.1 <| loC z8V (z7.mk ([true, true, false]) ([[true, true], [false, false], [false, false]])) <| loN)), Hq c7, Hq c7]))
         rcases y4 aa with ⟨c8, aa⟩ | ⟨c8, aa⟩
         ·obtain rfl := zb aa
          exact yE ((wV (P := Try.prog) yh [] (lentCall (zn hC h00 (x := (am.1, aj)) h11)) 93).or ((wV (P := Try.prog) yh [] (lentCall (zn hC h00 (x := (ak.1, ai)) h10)) 87).or ((wV (P := Try.prog) yh [] (lentCall (zn hC h00 (x := (al.1, aj)) h9)) 81).or X0))) hC hE (Z5 ++ [Hq c8])
         ·obtain ⟨ib, h13, aa⟩ := zh aa
          obtain ⟨gn, h14, aa⟩ := zh aa
          obtain ⟨ic, h15, aa⟩ := zh aa
          obtain ⟨ie, h16, aa⟩ := zh aa
          obtain ⟨gp, h17, aa⟩ := zh aa
          obtain ⟨ig, h18, aa⟩ := zh aa
          let Z6 : List HO := (Z5 ++ [Hq c8, Hc h05 (x := (r_, aj)) h13 (loC z4I r_ <| loC F9_ aj <| loN), Hg (z01 h07), Hm (shM F1_ F0_ ([[0,0]])), Hs (z02 h07 (x := [[0,0]]) h14 (loC F7_ ([[0,0]] : List (List Int)) <| loN)), Hm (shM F1_ F0_ ([[0,0]])), Hc h05 (x := (r_, gn)) h15 (loC z4I r_ <| loC F9_ gn <| loN), Hc h03 (x := (r_, ai)) h16 (loC z4I r_ <| loC F9_ ai <| loN), Hg (z01 h07), Hm (shM F1_ F0_ ([[0], [1]])), Hs (z02 h07 (x := [[0], [1]]) h17 (loC F7_ ([[0], [1]] : List (List Int)) <| loN)), Hm (shM F1_ F0_ ([[0], [1]])), Hc h03 (x := (r_, gp)) h18 (loC z4I r_ <| loC F9_ gp <| loN)])
          rcases y4 aa with ⟨c9, aa⟩ | ⟨c9, aa⟩
          ·rcases y4 aa with ⟨c10, aa⟩ | ⟨c10, aa⟩
           ·let Z7 : List HO := (Z6 ++ [Hq c9, Hq c9, Hq c9, Hq c10, Hq c10, Hq c10])
            rcases y4 aa with ⟨c11, aa⟩ | ⟨c11, aa⟩
            ·rcases y4 aa with ⟨c12, aa⟩ | ⟨c12, aa⟩
             ·let Z8 : List HO := (Z7 ++ [Hq c11, Hq c11, Hq c11, Hq c12, Hq c12])
              rcases y4 aa with ⟨c13, aa⟩ | ⟨c13, aa⟩
              ·rcases y4 aa with ⟨c14, aa⟩ | ⟨c14, aa⟩
               ·let Z9 : List HO := (Z8 ++ [Hq c13, Hq c13, Hq c13, Hq c14, Hq c14])
                rcases y4 aa with ⟨c15, aa⟩ | ⟨c15, aa⟩
                ·obtain rfl := zb aa
                 exact yE ((wV (P := Try.prog) yh [] (lentCall (zn hC h00 (x := (am.1, aj)) h11)) 93).or ((wV (P := Try.prog) yh [] (lentCall (zn hC h00 (x := (ak.1, ai)) h10)) 87).or ((wV (P := Try.prog) yh [] (lentCall (zn hC h00 (x := (al.1, aj)) h9)) 81).or X0))) hC hE (Z9 ++ [Hq c15, Hq c15, Hq c15])
                ·obtain rfl := zb aa
                 exact yE ((wV (P := Try.prog) yh [] (lentCall (zn hC h00 (x := (am.1, aj)) h11)) 93).or ((wV (P := Try.prog) yh [] (lentCall (zn hC h00 (x := (ak.1, ai)) h10)) 87).or ((wV (P := Try.prog) yh [] (lentCall (zn hC h00 (x := (al.1, aj)) h9)) 81).or X0))) hC hE (Z9 ++ [Hq c15, Hq c15, Hq c15])
               ·obtain rfl := zb aa
                exact yE ((wV (P := Try.prog) yh [] (lentCall (zn hC h00 (x := (am.1, aj)) h11)) 93).or ((wV (P := Try.prog) yh [] (lentCall (zn hC h00 (x := (ak.1, ai)) h10)) 87).or ((wV (P := Try.prog) yh [] (lentCall (zn hC h00 (x := (al.1, aj)) h9)) 81).or X0))) hC hE (Z8 ++ [Hq c13, Hq c13, Hq c13, Hq c14, Hq c14, qF, qF, qF])
              ·obtain rfl := zb aa
               exact yE ((wV (P := Try.prog) yh [] (lentCall (zn hC h00 (x := (am.1, aj)) h11)) 93).or ((wV (P := Try.prog) yh [] (lentCall (zn hC h00 (x := (ak.1, ai)) h10)) 87).or ((wV (P := Try.prog) yh [] (lentCall (zn hC h00 (x := (al.1, aj)) h9)) 81).or X0))) hC hE (Z8 ++ (Hq c13 :: Hq c13 :: Hq c13 :: (rpN 5 qF [])))
             ·obtain rfl := zb aa
              exact yE ((wV (P := Try.prog) yh [] (lentCall (zn hC h00 (x := (am.1, aj)) h11)) 93).or ((wV (P := Try.prog) yh [] (lentCall (zn hC h00 (x := (ak.1, ai)) h10)) 87).or ((wV (P := Try.prog) yh [] (lentCall (zn hC h00 (x := (al.1, aj)) h9)) 81).or X0))) hC hE (Z7 ++ (Hq c11 :: Hq c11 :: Hq c11 :: Hq c12 :: Hq c12 :: (rpN 8 qF [])))
            ·obtain rfl := zb aa
             exact yE ((wV (P := Try.prog) yh [] (lentCall (zn hC h00 (x := (am.1, aj)) h11)) 93).or ((wV (P := Try.prog) yh [] (lentCall (zn hC h00 (x := (ak.1, ai)) h10)) 87).or ((wV (P := Try.prog) yh [] (lentCall (zn hC h00 (x := (al.1, aj)) h9)) 81).or X0))) hC hE (Z7 ++ (Hq c11 :: Hq c11 :: Hq c11 :: (rpN 10 qF [])))
           ·obtain rfl := zb aa
            exact yE ((wV (P := Try.prog) yh [] (lentCall (zn hC h00 (x := (am.1, aj)) h11)) 93).or ((wV (P := Try.prog) yh [] (lentCall (zn hC h00 (x := (ak.1, ai)) h10)) 87).or ((wV (P := Try.prog) yh [] (lentCall (zn hC h00 (x := (al.1, aj)) h9)) 81).or X0))) hC hE (Z6 ++ (Hq c9 :: Hq c9 :: Hq c9 :: Hq c10 :: Hq c10 :: Hq c10 :: (rpN 13 qF [])))
          ·obtain rfl := zb aa
           exact yE ((wV (P := Try.prog) yh [] (lentCall (zn hC h00 (x := (am.1, aj)) h11)) 93).or ((wV (P := Try.prog) yh [] (lentCall (zn hC h00 (x := (ak.1, ai)) h10)) 87).or ((wV (P := Try.prog) yh [] (lentCall (zn hC h00 (x := (al.1, aj)) h9)) 81).or X0))) hC hE (Z6 ++ (Hq c9 :: Hq c9 :: Hq c9 :: (rpN 16 qF [])))
def ym : Code := (Try.f4.body).getD .skip
def vZ : w6 := spF (α := Unit) (ρ := Bool) 4 (fun x => []) (fun r => eB r) (fun x => vT) [] (fun _ _ _ => rfl)
abbrev ZP (ah : List (List z8)) : List (Nat × T) := [(1, .own (.box (.agg [I 16, I 1, eOs 1 false WK ah])))]
abbrev ZO (s_ : Int) (da : List (List z8)) : List (Nat × T) := [(1, .own (.box (.agg [I 16, I 1, eOs 1 false WK da]))), (2, .d (I s_))]
abbrev ZN (ay : List (List z8)) (s_ : Int) (row : List z8) : List (Nat × T) := [(1, .own (.box (.agg [I 16, I 1, eOs 1 false WK ay]))), (2, .d (I s_)), (3, .own (eOs 2 true F6_ row))]
abbrev ZL (ay : List (List z8)) (s_ : Int) (d9 : List z8) (i_ : Int) : List (Nat × T) := [(1, .own (.box (.agg [I 16, I 1, eOs 1 false WK ay]))), (2, .d (I s_)), (3, .own (eOs 2 true F6_ d9)), (4, .d (I i_))]
abbrev ZM (ay : List (List z8)) (s_ : Int) : List (Nat × T) := [(1, .own (.box (.agg [I 16, I 1, eOs 1 false WK ay]))), (2, .d (I s_))]
theorem X6 (hC : zA Try.prog ctr) (h02 : ctr.Has vb) (h04 : ctr.Has wg) (h01 : ctr.Has wh) (h03 : ctr.Has yM) (h05 : ctr.Has w7) (h0e : ctr.Has vP) (h1a : ctr.Has kw) : vZ.Ok Try.prog := by
 refine zH ?_
 rintro ⟨⟩ r0 aa
 try unfold vT at aa
 refine yO true [(0, none)] ym 176 Try.func4 fun E hE => ?_
 refine yJ X0 hC ym [1,1] [] [1] (fun z : List (List z8) => xI z = some r0) (fun z => ZP z) [(1, .own (.box (.agg [I 16, I 1, eOs 1 true qR []])))] [Hh (.cut 2)] ?_ fun J1 ba => ?_
 ·rintro ah aa
  unfold xI at aa
  obtain ⟨r_, h0, aa⟩ := zh aa
  obtain ⟨ai, h1, aa⟩ := zh aa
  obtain ⟨aj, h2, aa⟩ := zh aa
  obtain ⟨al, h3, aa⟩ := zh aa
  obtain ⟨ak, h4, aa⟩ := zh aa
  let Z0 : List HO := [Hm (shM WK z4J ah), Hn (Wc (f := .fn 17 []) (xs := [vu (z6.mk 16 1 ah)]) (r := .opq (zG [some (F8_ r_.1), some ((eI .i64) r_.2)])) [z2g (z6.mk 16 1 ah)] (show Vv [z2g (z6.mk 16 1 ah)] [vu (z6.mk 16 1 ah)] from inferInstance)), Hn (⟨rfl, rfl⟩ : T.own (.opq (zG [some (eOs 1 true F1_ r_.1), some (I r_.2)])) = T.own (.opq (zG [some (eOs 1 true F1_ r_.1), some (I r_.2)])) ∧ 1 = 1), Hn (⟨rfl, rfl⟩ : T.own (.opq (zG [none, some (I r_.2)])) = T.own (.opq (zG [none, some (I r_.2)])) ∧ 1 = 1), Hm (shM WK z4J ah), Hn (Wc (f := .fn 18 []) (xs := [vu (z6.mk 16 1 ah)]) (r := .opq (zG [some (F8_ ai.1), some ((eI .i64) ai.2)])) [z2g (z6.mk 16 1 ah)] (show Vv [z2g (z6.mk 16 1 ah)] [vu (z6.mk 16 1 ah)] from inferInstance)), Hn (⟨rfl, rfl⟩ : T.own (.opq (zG [some (eOs 1 true F1_ ai.1), some (I ai.2)])) = T.own (.opq (zG [some (eOs 1 true F1_ ai.1), some (I ai.2)])) ∧ 1 = 1), Hn (⟨rfl, rfl⟩ : T.own (.opq (zG [none, some (I ai.2)])) = T.own (.opq (zG [none, some (I ai.2)])) ∧ 1 = 1), Hm (shM WK z4J ah), Hn (Wc (f := .fn 19 []) (xs := [vu (z6.mk 16 1 ah), (eI .i64) 2]) (r := .opq (zG [some (F8_ aj.1), some ((eI .i64) aj.2)])) [z2g (z6.mk 16 1 ah), (eI .i64) 2] (show Vv [z2g (z6.mk 16 1 ah), (eI .i64) 2] [vu (z6.mk 16 1 ah), (eI .i64) 2] from inferInstance)), Hn (⟨rfl, rfl⟩ : T.own (.opq (zG [some (eOs 1 true F1_ aj.1), some (I aj.2)])) = T.own (.opq (zG [some (eOs 1 true F1_ aj.1), some (I aj.2)])) ∧ 1 = 1), Hn (⟨rfl, rfl⟩ : T.own (.opq (zG [none, some (I aj.2)])) = T.own (.opq (zG [none, some (I aj.2)])) ∧ 1 = 1), Hm (shM WK z4J ah), Hn (Wc (f := .fn 19 []) (xs := [vu (z6.mk 16 1 ah), (eI .i64) 257]) (r := .opq (zG [some (F8_ al.1), some ((eI .i64) al.2)])) [z2g (z6.mk 16 1 ah), (eI .i64) 257] (show Vv [z2g (z6.mk 16 1 ah), (eI .i64) 257] [vu (z6.mk 16 1 ah), (eI .i64) 257] from inferInstance)), Hn (⟨rfl, rfl⟩ : T.own (.opq (zG [some (eOs 1 true F1_ al.1), some (I al.2)])) = T.own (.opq (zG [some (eOs 1 true F1_ al.1), some (I al.2)])) ∧ 1 = 1), Hn (⟨rfl, rfl⟩ : T.own (.opq (zG [none, some (I al.2)])) = T.own (.opq (zG [none, some (I al.2)])) ∧ 1 = 1), Hm (shM WK z4J ah), Hm (shM F1_ F0_ ai.1), Hn (Wc (f := .fn 20 []) (xs := [vu (z6.mk 16 1 ah), F9_ ai.1]) (r := .opq (zG [some (eB ak.1), some ((eI .i64) ak.2)])) [z2g (z6.mk 16 1 ah), F7_ ai.1] (show Vv [z2g (z6.mk 16 1 ah), F7_ ai.1] [vu (z6.mk 16 1 ah), F9_ ai.1] from inferInstance)), Hn (⟨rfl, rfl⟩ : T.own (.opq (zG [some (B ak.1), some (I ak.2)])) = T.own (.opq (zG [some (B ak.1), some (I ak.2)])) ∧ 1 = 1), Hn (⟨rfl, rfl⟩ : T.own (.opq (zG [some (B ak.1), some (I ak.2)])) = T.own (.opq (zG [some (B ak.1), some (I ak.2)])) ∧ 1 = 1), Ha (lnM F1_ r_.1)]
  rcases y4 aa with ⟨c0, aa⟩ | ⟨c0, aa⟩
  ·obtain rfl := zb aa
   exact yE ((zt Try.prog 70 [some (B ak.1), some (I ak.2)]).or ((zt Try.prog 69 [some (B ak.1), some (I ak.2)]).or ((u3 (P := Try.prog) yh (lentCall (zn hC h03 (x := ((z6.mk 16 1 ah), ai.1)) h4)) (r := .opq (zG [some (eB ak.1), some ((eI .i64) ak.2)])) (wp (ls := [eB ak.1, (eI .i64) ak.2]) (.cons (wkN (f := eB) ak.1) (.cons (wkN (f := (eI .i64)) ak.2) (.nil)))) 68).or ((zt Try.prog 64 [none, some (I al.2)]).or ((zt Try.prog 63 [some (eOs 1 true F1_ al.1), some (I al.2)]).or ((u3 (P := Try.prog) yh (lentCall (zn hC h01 (x := ((z6.mk 16 1 ah), 257)) h3)) (r := .opq (zG [some (F8_ al.1), some ((eI .i64) al.2)])) (yn (ls := [F8_ al.1, (eI .i64) al.2]) (.cons (wkN (f := F8_) al.1) (.cons (wkN (f := (eI .i64)) al.2) (.nil)))) 62).or ((zt Try.prog 59 [none, some (I aj.2)]).or ((zt Try.prog 58 [some (eOs 1 true F1_ aj.1), some (I aj.2)]).or ((u3 (P := Try.prog) yh (lentCall (zn hC h01 (x := ((z6.mk 16 1 ah), 2)) h2)) (r := .opq (zG [some (F8_ aj.1), some ((eI .i64) aj.2)])) (yn (ls := [F8_ aj.1, (eI .i64) aj.2]) (.cons (wkN (f := F8_) aj.1) (.cons (wkN (f := (eI .i64)) aj.2) (.nil)))) 57).or ((zt Try.prog 54 [none, some (I ai.2)]).or ((zt Try.prog 53 [some (eOs 1 true F1_ ai.1), some (I ai.2)]).or ((u3 (P := Try.prog) yh (lentCall (zn hC h04 (x := (z6.mk 16 1 ah)) h1)) (r := .opq (zG [some (F8_ ai.1), some ((eI .i64) ai.2)])) (yn (ls := [F8_ ai.1, (eI .i64) ai.2]) (.cons (wkN (f := F8_) ai.1) (.cons (wkN (f := (eI .i64)) ai.2) (.nil)))) 52).or ((zt Try.prog 49 [none, some (I r_.2)]).or ((zt Try.prog 48 [some (eOs 1 true F1_ r_.1), some (I r_.2)]).or ((u3 (P := Try.prog) yh (lentCall (zn hC h02 (x := (z6.mk 16 1 ah)) h0)) (r := .opq (zG [some (F8_ r_.1), some ((eI .i64) r_.2)])) (yn (ls := [F8_ r_.1, (eI .i64) r_.2]) (.cons (wkN (f := F8_) r_.1) (.cons (wkN (f := (eI .i64)) r_.2) (.nil)))) 47).or X0))))))))))))))) hC hE (Z0 ++ [Hq c0])
  ·obtain ⟨g0, aa⟩ := gdE aa
   obtain ⟨am, h5, aa⟩ := zh aa
   let Z1 : List HO := (Z0 ++ [Hq c0, Hh (.n 1 [5]), Hm (shM F1_ F0_ r_.1), Hn (slA g0), Hn (zaQ F0_ g0), Ha (slE 1 true F0_ r_.1 (1 : Int).toNat), Hm (shM WK z4J ah), Hn (Wc (f := .fn 21 []) (xs := [vu (z6.mk 16 1 ah), F9_ (r_.1.drop (1 : Int).toNat)]) (r := .opq (zG [some (eB am.1), some ((eI .i64) am.2)])) [z2g (z6.mk 16 1 ah), F7_ (r_.1.drop (1 : Int).toNat)] (show Vv [z2g (z6.mk 16 1 ah), F7_ (r_.1.drop (1 : Int).toNat)] [vu (z6.mk 16 1 ah), F9_ (r_.1.drop (1 : Int).toNat)] from inferInstance)), Hn (⟨rfl, rfl⟩ : T.own (.opq (zG [some (B am.1), some (I am.2)])) = T.own (.opq (zG [some (B am.1), some (I am.2)])) ∧ 1 = 1), Hn (⟨rfl, rfl⟩ : T.own (.opq (zG [some (B am.1), some (I am.2)])) = T.own (.opq (zG [some (B am.1), some (I am.2)])) ∧ 1 = 1)])
   rcases y4 aa with ⟨c1, aa⟩ | ⟨c1, aa⟩
   ·obtain rfl := zb aa
    exact yE ((zt Try.prog 80 [some (B am.1), some (I am.2)]).or ((zt Try.prog 79 [some (B am.1), some (I am.2)]).or ((u3 (P := Try.prog) yh (lentCall (zn hC h05 (x := ((z6.mk 16 1 ah), (r_.1.drop (1 : Int).toNat))) h5)) (r := .opq (zG [some (eB am.1), some ((eI .i64) am.2)])) (wp (ls := [eB am.1, (eI .i64) am.2]) (.cons (wkN (f := eB) am.1) (.cons (wkN (f := (eI .i64)) am.2) (.nil)))) 78).or ((zt Try.prog 70 [some (B ak.1), some (I ak.2)]).or ((zt Try.prog 69 [some (B ak.1), some (I ak.2)]).or ((u3 (P := Try.prog) yh (lentCall (zn hC h03 (x := ((z6.mk 16 1 ah), ai.1)) h4)) (r := .opq (zG [some (eB ak.1), some ((eI .i64) ak.2)])) (wp (ls := [eB ak.1, (eI .i64) ak.2]) (.cons (wkN (f := eB) ak.1) (.cons (wkN (f := (eI .i64)) ak.2) (.nil)))) 68).or ((zt Try.prog 64 [none, some (I al.2)]).or ((zt Try.prog 63 [some (eOs 1 true F1_ al.1), some (I al.2)]).or ((u3 (P := Try.prog) yh (lentCall (zn hC h01 (x := ((z6.mk 16 1 ah), 257)) h3)) (r := .opq (zG [some (F8_ al.1), some ((eI .i64) al.2)])) (yn (ls := [F8_ al.1, (eI .i64) al.2]) (.cons (wkN (f := F8_) al.1) (.cons (wkN (f := (eI .i64)) al.2) (.nil)))) 62).or ((zt Try.prog 59 [none, some (I aj.2)]).or ((zt Try.prog 58 [some (eOs 1 true F1_ aj.1), some (I aj.2)]).or ((u3 (P := Try.prog) yh (lentCall (zn hC h01 (x := ((z6.mk 16 1 ah), 2)) h2)) (r := .opq (zG [some (F8_ aj.1), some ((eI .i64) aj.2)])) (yn (ls := [F8_ aj.1, (eI .i64) aj.2]) (.cons (wkN (f := F8_) aj.1) (.cons (wkN (f := (eI .i64)) aj.2) (.nil)))) 57).or ((zt Try.prog 54 [none, some (I ai.2)]).or ((zt Try.prog 53 [some (eOs 1 true F1_ ai.1), some (I ai.2)]).or ((u3 (P := Try.prog) yh (lentCall (zn hC h04 (x := (z6.mk 16 1 ah)) h1)) (r := .opq (zG [some (F8_ ai.1), some ((eI .i64) ai.2)])) (yn (ls := [F8_ ai.1, (eI .i64) ai.2]) (.cons (wkN (f := F8_) ai.1) (.cons (wkN (f := (eI .i64)) ai.2) (.nil)))) 52).or ((zt Try.prog 49 [none, some (I r_.2)]).or ((zt Try.prog 48 [some (eOs 1 true F1_ r_.1), some (I r_.2)]).or ((u3 (P := Try.prog) yh (lentCall (zn hC h02 (x := (z6.mk 16 1 ah)) h0)) (r := .opq (zG [some (F8_ r_.1), some ((eI .i64) r_.2)])) (yn (ls := [F8_ r_.1, (eI .i64) r_.2]) (.cons (wkN (f := F8_) r_.1) (.cons (wkN (f := (eI .i64)) r_.2) (.nil)))) 47).or X0)))))))))))))))))) hC hE (Z1 ++ (Hq c1 :: Hq c1 :: Hq c1 :: (rpN 26 qT [])))
   ·rcases y4 aa with ⟨c2, aa⟩ | ⟨c2, aa⟩
    ·obtain rfl := zb aa
     exact yE ((zt Try.prog 80 [some (B am.1), some (I am.2)]).or ((zt Try.prog 79 [some (B am.1), some (I am.2)]).or ((u3 (P := Try.prog) yh (lentCall (zn hC h05 (x := ((z6.mk 16 1 ah), (r_.1.drop (1 : Int).toNat))) h5)) (r := .opq (zG [some (eB am.1), some ((eI .i64) am.2)])) (wp (ls := [eB am.1, (eI .i64) am.2]) (.cons (wkN (f := eB) am.1) (.cons (wkN (f := (eI .i64)) am.2) (.nil)))) 78).or ((zt Try.prog 70 [some (B ak.1), some (I ak.2)]).or ((zt Try.prog 69 [some (B ak.1), some (I ak.2)]).or ((u3 (P := Try.prog) yh (lentCall (zn hC h03 (x := ((z6.mk 16 1 ah), ai.1)) h4)) (r := .opq (zG [some (eB ak.1), some ((eI .i64) ak.2)])) (wp (ls := [eB ak.1, (eI .i64) ak.2]) (.cons (wkN (f := eB) ak.1) (.cons (wkN (f := (eI .i64)) ak.2) (.nil)))) 68).or ((zt Try.prog 64 [none, some (I al.2)]).or ((zt Try.prog 63 [some (eOs 1 true F1_ al.1), some (I al.2)]).or ((u3 (P := Try.prog) yh (lentCall (zn hC h01 (x := ((z6.mk 16 1 ah), 257)) h3)) (r := .opq (zG [some (F8_ al.1), some ((eI .i64) al.2)])) (yn (ls := [F8_ al.1, (eI .i64) al.2]) (.cons (wkN (f := F8_) al.1) (.cons (wkN (f := (eI .i64)) al.2) (.nil)))) 62).or ((zt Try.prog 59 [none, some (I aj.2)]).or ((zt Try.prog 58 [some (eOs 1 true F1_ aj.1), some (I aj.2)]).or ((u3 (P := Try.prog) yh (lentCall (zn hC h01 (x := ((z6.mk 16 1 ah), 2)) h2)) (r := .opq (zG [some (F8_ aj.1), some ((eI .i64) aj.2)])) (yn (ls := [F8_ aj.1, (eI .i64) aj.2]) (.cons (wkN (f := F8_) aj.1) (.cons (wkN (f := (eI .i64)) aj.2) (.nil)))) 57).or ((zt Try.prog 54 [none, some (I ai.2)]).or ((zt Try.prog 53 [some (eOs 1 true F1_ ai.1), some (I ai.2)]).or ((u3 (P := Try.prog) yh (lentCall (zn hC h04 (x := (z6.mk 16 1 ah)) h1)) (r := .opq (zG [some (F8_ ai.1), some ((eI .i64) ai.2)])) (yn (ls := [F8_ ai.1, (eI .i64) ai.2]) (.cons (wkN (f := F8_) ai.1) (.cons (wkN (f := (eI .i64)) ai.2) (.nil)))) 52).or ((zt Try.prog 49 [none, some (I r_.2)]).or ((zt Try.prog 48 [some (eOs 1 true F1_ r_.1), some (I r_.2)]).or ((u3 (P := Try.prog) yh (lentCall (zn hC h02 (x := (z6.mk 16 1 ah)) h0)) (r := .opq (zG [some (F8_ r_.1), some ((eI .i64) r_.2)])) (yn (ls := [F8_ r_.1, (eI .i64) r_.2]) (.cons (wkN (f := F8_) r_.1) (.cons (wkN (f := (eI .i64)) r_.2) (.nil)))) 47).or X0)))))))))))))))))) hC hE (Z1 ++ (Hq c1 :: Hq c1 :: Hq c1 :: Hq c2 :: Hq c2 :: Hq c2 :: (rpN 23 qT [])))
    ·let Z2 : List HO := (Z1 ++ [Hq c1, Hq c1, Hq c1, Hq c2, Hq c2, Hq c2])
     rcases y4 aa with ⟨c3, aa⟩ | ⟨c3, aa⟩
     ·obtain rfl := zb aa
      exact yE ((zt Try.prog 80 [some (B am.1), some (I am.2)]).or ((zt Try.prog 79 [some (B am.1), some (I am.2)]).or ((u3 (P := Try.prog) yh (lentCall (zn hC h05 (x := ((z6.mk 16 1 ah), (r_.1.drop (1 : Int).toNat))) h5)) (r := .opq (zG [some (eB am.1), some ((eI .i64) am.2)])) (wp (ls := [eB am.1, (eI .i64) am.2]) (.cons (wkN (f := eB) am.1) (.cons (wkN (f := (eI .i64)) am.2) (.nil)))) 78).or ((zt Try.prog 70 [some (B ak.1), some (I ak.2)]).or ((zt Try.prog 69 [some (B ak.1), some (I ak.2)]).or ((u3 (P := Try.prog) yh (lentCall (zn hC h03 (x := ((z6.mk 16 1 ah), ai.1)) h4)) (r := .opq (zG [some (eB ak.1), some ((eI .i64) ak.2)])) (wp (ls := [eB ak.1, (eI .i64) ak.2]) (.cons (wkN (f := eB) ak.1) (.cons (wkN (f := (eI .i64)) ak.2) (.nil)))) 68).or ((zt Try.prog 64 [none, some (I al.2)]).or ((zt Try.prog 63 [some (eOs 1 true F1_ al.1), some (I al.2)]).or ((u3 (P := Try.prog) yh (lentCall (zn hC h01 (x := ((z6.mk 16 1 ah), 257)) h3)) (r := .opq (zG [some (F8_ al.1), some ((eI .i64) al.2)])) (yn (ls := [F8_ al.1, (eI .i64) al.2]) (.cons (wkN (f := F8_) al.1) (.cons (wkN (f := (eI .i64)) al.2) (.nil)))) 62).or ((zt Try.prog 59 [none, some (I aj.2)]).or ((zt Try.prog 58 [some (eOs 1 true F1_ aj.1), some (I aj.2)]).or ((u3 (P := Try.prog) yh (lentCall (zn hC h01 (x := ((z6.mk 16 1 ah), 2)) h2)) (r := .opq (zG [some (F8_ aj.1), some ((eI .i64) aj.2)])) (yn (ls := [F8_ aj.1, (eI .i64) aj.2]) (.cons (wkN (f := F8_) aj.1) (.cons (wkN (f := (eI .i64)) aj.2) (.nil)))) 57).or ((zt Try.prog 54 [none, some (I ai.2)]).or ((zt Try.prog 53 [some (eOs 1 true F1_ ai.1), some (I ai.2)]).or ((u3 (P := Try.prog) yh (lentCall (zn hC h04 (x := (z6.mk 16 1 ah)) h1)) (r := .opq (zG [some (F8_ ai.1), some ((eI .i64) ai.2)])) (yn (ls := [F8_ ai.1, (eI .i64) ai.2]) (.cons (wkN (f := F8_) ai.1) (.cons (wkN (f := (eI .i64)) ai.2) (.nil)))) 52).or ((zt Try.prog 49 [none, some (I r_.2)]).or ((zt Try.prog 48 [some (eOs 1 true F1_ r_.1), some (I r_.2)]).or ((u3 (P := Try.prog) yh (lentCall (zn hC h02 (x := (z6.mk 16 1 ah)) h0)) (r := .opq (zG [some (F8_ r_.1), some ((eI .i64) r_.2)])) (yn (ls := [F8_ r_.1, (eI .i64) r_.2]) (.cons (wkN (f := F8_) r_.1) (.cons (wkN (f := (eI .i64)) r_.2) (.nil)))) 47).or X0)))))))))))))))))) hC hE (Z2 ++ (Hq c3 :: Hq c3 :: Hq c3 :: (rpN 20 qT [])))
     ·rcases y4 aa with ⟨c4, aa⟩ | ⟨c4, aa⟩
      ·obtain rfl := zb aa
       exact yE ((zt Try.prog 80 [some (B am.1), some (I am.2)]).or ((zt Try.prog 79 [some (B am.1), some (I am.2)]).or ((u3 (P := Try.prog) yh (lentCall (zn hC h05 (x := ((z6.mk 16 1 ah), (r_.1.drop (1 : Int).toNat))) h5)) (r := .opq (zG [some (eB am.1), some ((eI .i64) am.2)])) (wp (ls := [eB am.1, (eI .i64) am.2]) (.cons (wkN (f := eB) am.1) (.cons (wkN (f := (eI .i64)) am.2) (.nil)))) 78).or ((zt Try.prog 70 [some (B ak.1), some (I ak.2)]).or ((zt Try.prog 69 [some (B ak.1), some (I ak.2)]).or ((u3 (P := Try.prog) yh (lentCall (zn hC h03 (x := ((z6.mk 16 1 ah), ai.1)) h4)) (r := .opq (zG [some (eB ak.1), some ((eI .i64) ak.2)])) (wp (ls := [eB ak.1, (eI .i64) ak.2]) (.cons (wkN (f := eB) ak.1) (.cons (wkN (f := (eI .i64)) ak.2) (.nil)))) 68).or ((zt Try.prog 64 [none, some (I al.2)]).or ((zt Try.prog 63 [some (eOs 1 true F1_ al.1), some (I al.2)]).or ((u3 (P := Try.prog) yh (lentCall (zn hC h01 (x := ((z6.mk 16 1 ah), 257)) h3)) (r := .opq (zG [some (F8_ al.1), some ((eI .i64) al.2)])) (yn (ls := [F8_ al.1, (eI .i64) al.2]) (.cons (wkN (f := F8_) al.1) (.cons (wkN (f := (eI .i64)) al.2) (.nil)))) 62).or ((zt Try.prog 59 [none, some (I aj.2)]).or ((zt Try.prog 58 [some (eOs 1 true F1_ aj.1), some (I aj.2)]).or ((u3 (P := Try.prog) yh (lentCall (zn hC h01 (x := ((z6.mk 16 1 ah), 2)) h2)) (r := .opq (zG [some (F8_ aj.1), some ((eI .i64) aj.2)])) (yn (ls := [F8_ aj.1, (eI .i64) aj.2]) (.cons (wkN (f := F8_) aj.1) (.cons (wkN (f := (eI .i64)) aj.2) (.nil)))) 57).or ((zt Try.prog 54 [none, some (I ai.2)]).or ((zt Try.prog 53 [some (eOs 1 true F1_ ai.1), some (I ai.2)]).or ((u3 (P := Try.prog) yh (lentCall (zn hC h04 (x := (z6.mk 16 1 ah)) h1)) (r := .opq (zG [some (F8_ ai.1), some ((eI .i64) ai.2)])) (yn (ls := [F8_ ai.1, (eI .i64) ai.2]) (.cons (wkN (f := F8_) ai.1) (.cons (wkN (f := (eI .i64)) ai.2) (.nil)))) 52).or ((zt Try.prog 49 [none, some (I r_.2)]).or ((zt Try.prog 48 [some (eOs 1 true F1_ r_.1), some (I r_.2)]).or ((u3 (P := Try.prog) yh (lentCall (zn hC h02 (x := (z6.mk 16 1 ah)) h0)) (r := .opq (zG [some (F8_ r_.1), some ((eI .i64) r_.2)])) (yn (ls := [F8_ r_.1, (eI .i64) r_.2]) (.cons (wkN (f := F8_) r_.1) (.cons (wkN (f := (eI .i64)) r_.2) (.nil)))) 47).or X0)))))))))))))))))) hC hE (Z2 ++ (Hq c3 :: Hq c3 :: Hq c3 :: Hq c4 :: Hq c4 :: Hq c4 :: (rpN 17 qT [])))
      ·let Z3 : List HO := (Z2 ++ [Hq c3, Hq c3, Hq c3, Hq c4, Hq c4, Hq c4])
       rcases y4 aa with ⟨c5, aa⟩ | ⟨c5, aa⟩
       ·obtain rfl := zb aa
        exact yE ((zt Try.prog 80 [some (B am.1), some (I am.2)]).or ((zt Try.prog 79 [some (B am.1), some (I am.2)]).or ((u3 (P := Try.prog) yh (lentCall (zn hC h05 (x := ((z6.mk 16 1 ah), (r_.1.drop (1 : Int).toNat))) h5)) (r := .opq (zG [some (eB am.1), some ((eI .i64) am.2)])) (wp (ls := [eB am.1, (eI .i64) am.2]) (.cons (wkN (f := eB) am.1) (.cons (wkN (f := (eI .i64)) am.2) (.nil)))) 78).or ((zt Try.prog 70 [some (B ak.1), some (I ak.2)]).or ((zt Try.prog 69 [some (B ak.1), some (I ak.2)]).or ((u3 (P := Try.prog) yh (lentCall (zn hC h03 (x := ((z6.mk 16 1 ah), ai.1)) h4)) (r := .opq (zG [some (eB ak.1), some ((eI .i64) ak.2)])) (wp (ls := [eB ak.1, (eI .i64) ak.2]) (.cons (wkN (f := eB) ak.1) (.cons (wkN (f := (eI .i64)) ak.2) (.nil)))) 68).or ((zt Try.prog 64 [none, some (I al.2)]).or ((zt Try.prog 63 [some (eOs 1 true F1_ al.1), some (I al.2)]).or ((u3 (P := Try.prog) yh (lentCall (zn hC h01 (x := ((z6.mk 16 1 ah), 257)) h3)) (r := .opq (zG [some (F8_ al.1), some ((eI .i64) al.2)])) (yn (ls := [F8_ al.1, (eI .i64) al.2]) (.cons (wkN (f := F8_) al.1) (.cons (wkN (f := (eI .i64)) al.2) (.nil)))) 62).or ((zt Try.prog 59 [none, some (I aj.2)]).or ((zt Try.prog 58 [some (eOs 1 true F1_ aj.1), some (I aj.2)]).or ((u3 (P := Try.prog) yh (lentCall (zn hC h01 (x := ((z6.mk 16 1 ah), 2)) h2)) (r := .opq (zG [some (F8_ aj.1), some ((eI .i64) aj.2)])) (yn (ls := [F8_ aj.1, (eI .i64) aj.2]) (.cons (wkN (f := F8_) aj.1) (.cons (wkN (f := (eI .i64)) aj.2) (.nil)))) 57).or ((zt Try.prog 54 [none, some (I ai.2)]).or ((zt Try.prog 53 [some (eOs 1 true F1_ ai.1), some (I ai.2)]).or ((u3 (P := Try.prog) yh (lentCall (zn hC h04 (x := (z6.mk 16 1 ah)) h1)) (r := .opq (zG [some (F8_ ai.1), some ((eI .i64) ai.2)])) (yn (ls := [F8_ ai.1, (eI .i64) ai.2]) (.cons (wkN (f := F8_) ai.1) (.cons (wkN (f := (eI .i64)) ai.2) (.nil)))) 52).or ((zt Try.prog 49 [none, some (I r_.2)]).or ((zt Try.prog 48 [some (eOs 1 true F1_ r_.1), some (I r_.2)]).or ((u3 (P := Try.prog) yh (lentCall (zn hC h02 (x := (z6.mk 16 1 ah)) h0)) (r := .opq (zG [some (F8_ r_.1), some ((eI .i64) r_.2)])) (yn (ls := [F8_ r_.1, (eI .i64) r_.2]) (.cons (wkN (f := F8_) r_.1) (.cons (wkN (f := (eI .i64)) r_.2) (.nil)))) 47).or X0)))))))))))))))))) hC hE (Z3 ++ (Hq c5 :: Hq c5 :: Hq c5 :: (rpN 14 qT [])))
       ·rcases y4 aa with ⟨c6, aa⟩ | ⟨c6, aa⟩
        ·obtain rfl := zb aa
         exact yE ((zt Try.prog 80 [some (B am.1), some (I am.2)]).or ((zt Try.prog 79 [some (B am.1), some (I am.2)]).or ((u3 (P := Try.prog) yh (lentCall (zn hC h05 (x := ((z6.mk 16 1 ah), (r_.1.drop (1 : Int).toNat))) h5)) (r := .opq (zG [some (eB am.1), some ((eI .i64) am.2)])) (wp (ls := [eB am.1, (eI .i64) am.2]) (.cons (wkN (f := eB) am.1) (.cons (wkN (f := (eI .i64)) am.2) (.nil)))) 78).or ((zt Try.prog 70 [some (B ak.1), some (I ak.2)]).or ((zt Try.prog 69 [some (B ak.1), some (I ak.2)]).or ((u3 (P := Try.prog) yh (lentCall (zn hC h03 (x := ((z6.mk 16 1 ah), ai.1)) h4)) (r := .opq (zG [some (eB ak.1), some ((eI .i64) ak.2)])) (wp (ls := [eB ak.1, (eI .i64) ak.2]) (.cons (wkN (f := eB) ak.1) (.cons (wkN (f := (eI .i64)) ak.2) (.nil)))) 68).or ((zt Try.prog 64 [none, some (I al.2)]).or ((zt Try.prog 63 [some (eOs 1 true F1_ al.1), some (I al.2)]).or ((u3 (P := Try.prog) yh (lentCall (zn hC h01 (x := ((z6.mk 16 1 ah), 257)) h3)) (r := .opq (zG [some (F8_ al.1), some ((eI .i64) al.2)])) (yn (ls := [F8_ al.1, (eI .i64) al.2]) (.cons (wkN (f := F8_) al.1) (.cons (wkN (f := (eI .i64)) al.2) (.nil)))) 62).or ((zt Try.prog 59 [none, some (I aj.2)]).or ((zt Try.prog 58 [some (eOs 1 true F1_ aj.1), some (I aj.2)]).or ((u3 (P := Try.prog) yh (lentCall (zn hC h01 (x := ((z6.mk 16 1 ah), 2)) h2)) (r := .opq (zG [some (F8_ aj.1), some ((eI .i64) aj.2)])) (yn (ls := [F8_ aj.1, (eI .i64) aj.2]) (.cons (wkN (f := F8_) aj.1) (.cons (wkN (f := (eI .i64)) aj.2) (.nil)))) 57).or ((zt Try.prog 54 [none, some (I ai.2)]).or ((zt Try.prog 53 [some (eOs 1 true F1_ ai.1), some (I ai.2)]).or ((u3 (P := Try.prog) yh (lentCall (zn hC h04 (x := (z6.mk 16 1 ah)) h1)) (r := .opq (zG [some (F8_ ai.1), some ((eI .i64) ai.2)])) (yn (ls := [F8_ ai.1, (eI .i64) ai.2]) (.cons (wkN (f := F8_) ai.1) (.cons (wkN (f := (eI .i64)) ai.2) (.nil)))) 52).or ((zt Try.prog 49 [none, some (I r_.2)]).or ((zt Try.prog 48 [some (eOs 1 true F1_ r_.1), some (I r_.2)]).or ((u3 (P := Try.prog) yh (lentCall (zn hC h02 (x := (z6.mk 16 1 ah)) h0)) (r := .opq (zG [some (F8_ r_.1), some ((eI .i64) r_.2)])) (yn (ls := [F8_ r_.1, (eI .i64) r_.2]) (.cons (wkN (f := F8_) r_.1) (.cons (wkN (f := (eI .i64)) r_.2) (.nil)))) 47).or X0)))))))))))))))))) hC hE (Z3 ++ (Hq c5 :: Hq c5 :: Hq c5 :: (rpN 4 (Hq c6) (rpN 10 qT []))))
        ·let Z4 : List HO := (Z3 ++ [Hq c5, Hq c5, Hq c5, Hq c6, Hq c6, Ha (lnM F0_ r_.1), Hq c6, Hq c6, Hq c0, Hq c0, Ha (lnM F1_ ai.1), Hq c0, Hq c0])
         rcases y4 aa with ⟨c7, aa⟩ | ⟨c7, aa⟩
         ·obtain rfl := zb aa
          exact yE ((zt Try.prog 80 [some (B am.1), some (I am.2)]).or ((zt Try.prog 79 [some (B am.1), some (I am.2)]).or ((u3 (P := Try.prog) yh (lentCall (zn hC h05 (x := ((z6.mk 16 1 ah), (r_.1.drop (1 : Int).toNat))) h5)) (r := .opq (zG [some (eB am.1), some ((eI .i64) am.2)])) (wp (ls := [eB am.1, (eI .i64) am.2]) (.cons (wkN (f := eB) am.1) (.cons (wkN (f := (eI .i64)) am.2) (.nil)))) 78).or ((zt Try.prog 70 [some (B ak.1), some (I ak.2)]).or ((zt Try.prog 69 [some (B ak.1), some (I ak.2)]).or ((u3 (P := Try.prog) yh (lentCall (zn hC h03 (x := ((z6.mk 16 1 ah), ai.1)) h4)) (r := .opq (zG [some (eB ak.1), some ((eI .i64) ak.2)])) (wp (ls := [eB ak.1, (eI .i64) ak.2]) (.cons (wkN (f := eB) ak.1) (.cons (wkN (f := (eI .i64)) ak.2) (.nil)))) 68).or ((zt Try.prog 64 [none, some (I al.2)]).or ((zt Try.prog 63 [some (eOs 1 true F1_ al.1), some (I al.2)]).or ((u3 (P := Try.prog) yh (lentCall (zn hC h01 (x := ((z6.mk 16 1 ah), 257)) h3)) (r := .opq (zG [some (F8_ al.1), some ((eI .i64) al.2)])) (yn (ls := [F8_ al.1, (eI .i64) al.2]) (.cons (wkN (f := F8_) al.1) (.cons (wkN (f := (eI .i64)) al.2) (.nil)))) 62).or ((zt Try.prog 59 [none, some (I aj.2)]).or ((zt Try.prog 58 [some (eOs 1 true F1_ aj.1), some (I aj.2)]).or ((u3 (P := Try.prog) yh (lentCall (zn hC h01 (x := ((z6.mk 16 1 ah), 2)) h2)) (r := .opq (zG [some (F8_ aj.1), some ((eI .i64) aj.2)])) (yn (ls := [F8_ aj.1, (eI .i64) aj.2]) (.cons (wkN (f := F8_) aj.1) (.cons (wkN (f := (eI .i64)) aj.2) (.nil)))) 57).or ((zt Try.prog 54 [none, some (I ai.2)]).or ((zt Try.prog 53 [some (eOs 1 true F1_ ai.1), some (I ai.2)]).or ((u3 (P := Try.prog) yh (lentCall (zn hC h04 (x := (z6.mk 16 1 ah)) h1)) (r := .opq (zG [some (F8_ ai.1), some ((eI .i64) ai.2)])) (yn (ls := [F8_ ai.1, (eI .i64) ai.2]) (.cons (wkN (f := F8_) ai.1) (.cons (wkN (f := (eI .i64)) ai.2) (.nil)))) 52).or ((zt Try.prog 49 [none, some (I r_.2)]).or ((zt Try.prog 48 [some (eOs 1 true F1_ r_.1), some (I r_.2)]).or ((u3 (P := Try.prog) yh (lentCall (zn hC h02 (x := (z6.mk 16 1 ah)) h0)) (r := .opq (zG [some (F8_ r_.1), some ((eI .i64) r_.2)])) (yn (ls := [F8_ r_.1, (eI .i64) r_.2]) (.cons (wkN (f := F8_) r_.1) (.cons (wkN (f := (eI .i64)) r_.2) (.nil)))) 47).or X0)))))))))))))))))) hC hE (Z4 ++ [Hq c7, Hq c7, Hq c7, qT, qT, qT])
         ·rcases y4 aa with ⟨c8, aa⟩ | ⟨c8, aa⟩
          ·obtain rfl := zb aa
           exact yE ((zt Try.prog 80 [some (B am.1), some (I am.2)]).or ((zt Try.prog 79 [some (B am.1), some (I am.2)]).or ((u3 (P := Try.prog) yh (lentCall (zn hC h05 (x := ((z6.mk 16 1 ah), (r_.1.drop (1 : Int).toNat))) h5)) (r := .opq (zG [some (eB am.1), some ((eI .i64) am.2)])) (wp (ls := [eB am.1, (eI .i64) am.2]) (.cons (wkN (f := eB) am.1) (.cons (wkN (f := (eI .i64)) am.2) (.nil)))) 78).or ((zt Try.prog 70 [some (B ak.1), some (I ak.2)]).or ((zt Try.prog 69 [some (B ak.1), some (I ak.2)]).or ((u3 (P := Try.prog) yh (lentCall (zn hC h03 (x := ((z6.mk 16 1 ah), ai.1)) h4)) (r := .opq (zG [some (eB ak.1), some ((eI .i64) ak.2)])) (wp (ls := [eB ak.1, (eI .i64) ak.2]) (.cons (wkN (f := eB) ak.1) (.cons (wkN (f := (eI .i64)) ak.2) (.nil)))) 68).or ((zt Try.prog 64 [none, some (I al.2)]).or ((zt Try.prog 63 [some (eOs 1 true F1_ al.1), some (I al.2)]).or ((u3 (P := Try.prog) yh (lentCall (zn hC h01 (x := ((z6.mk 16 1 ah), 257)) h3)) (r := .opq (zG [some (F8_ al.1), some ((eI .i64) al.2)])) (yn (ls := [F8_ al.1, (eI .i64) al.2]) (.cons (wkN (f := F8_) al.1) (.cons (wkN (f := (eI .i64)) al.2) (.nil)))) 62).or ((zt Try.prog 59 [none, some (I aj.2)]).or ((zt Try.prog 58 [some (eOs 1 true F1_ aj.1), some (I aj.2)]).or ((u3 (P := Try.prog) yh (lentCall (zn hC h01 (x := ((z6.mk 16 1 ah), 2)) h2)) (r := .opq (zG [some (F8_ aj.1), some ((eI .i64) aj.2)])) (yn (ls := [F8_ aj.1, (eI .i64) aj.2]) (.cons (wkN (f := F8_) aj.1) (.cons (wkN (f := (eI .i64)) aj.2) (.nil)))) 57).or ((zt Try.prog 54 [none, some (I ai.2)]).or ((zt Try.prog 53 [some (eOs 1 true F1_ ai.1), some (I ai.2)]).or ((u3 (P := Try.prog) yh (lentCall (zn hC h04 (x := (z6.mk 16 1 ah)) h1)) (r := .opq (zG [some (F8_ ai.1), some ((eI .i64) ai.2)])) (yn (ls := [F8_ ai.1, (eI .i64) ai.2]) (.cons (wkN (f := F8_) ai.1) (.cons (wkN (f := (eI .i64)) ai.2) (.nil)))) 52).or ((zt Try.prog 49 [none, some (I r_.2)]).or ((zt Try.prog 48 [some (eOs 1 true F1_ r_.1), some (I r_.2)]).or ((u3 (P := Try.prog) yh (lentCall (zn hC h02 (x := (z6.mk 16 1 ah)) h0)) (r := .opq (zG [some (F8_ r_.1), some ((eI .i64) r_.2)])) (yn (ls := [F8_ r_.1, (eI .i64) r_.2]) (.cons (wkN (f := F8_) r_.1) (.cons (wkN (f := (eI .i64)) r_.2) (.nil)))) 47).or X0)))))))))))))))))) hC hE (Z4 ++ [Hq c7, Hq c7, Hq c7, Hq c8, Hq c8, qT])
          ·let Z5 : List HO := (Z4 ++ [Hq c7, Hq c7, Hq c7, Hq c8, Hq c8])
           rcases y4 aa with ⟨c9, aa⟩ | ⟨c9, aa⟩
           ·obtain rfl := zb aa
            exact yE ((zt Try.prog 80 [some (B am.1), some (I am.2)]).or ((zt Try.prog 79 [some (B am.1), some (I am.2)]).or ((u3 (P := Try.prog) yh (lentCall (zn hC h05 (x := ((z6.mk 16 1 ah), (r_.1.drop (1 : Int).toNat))) h5)) (r := .opq (zG [some (eB am.1), some ((eI .i64) am.2)])) (wp (ls := [eB am.1, (eI .i64) am.2]) (.cons (wkN (f := eB) am.1) (.cons (wkN (f := (eI .i64)) am.2) (.nil)))) 78).or ((zt Try.prog 70 [some (B ak.1), some (I ak.2)]).or ((zt Try.prog 69 [some (B ak.1), some (I ak.2)]).or ((u3 (P := Try.prog) yh (lentCall (zn hC h03 (x := ((z6.mk 16 1 ah), ai.1)) h4)) (r := .opq (zG [some (eB ak.1), some ((eI .i64) ak.2)])) (wp (ls := [eB ak.1, (eI .i64) ak.2]) (.cons (wkN (f := eB) ak.1) (.cons (wkN (f := (eI .i64)) ak.2) (.nil)))) 68).or ((zt Try.prog 64 [none, some (I al.2)]).or ((zt Try.prog 63 [some (eOs 1 true F1_ al.1), some (I al.2)]).or ((u3 (P := Try.prog) yh (lentCall (zn hC h01 (x := ((z6.mk 16 1 ah), 257)) h3)) (r := .opq (zG [some (F8_ al.1), some ((eI .i64) al.2)])) (yn (ls := [F8_ al.1, (eI .i64) al.2]) (.cons (wkN (f := F8_) al.1) (.cons (wkN (f := (eI .i64)) al.2) (.nil)))) 62).or ((zt Try.prog 59 [none, some (I aj.2)]).or ((zt Try.prog 58 [some (eOs 1 true F1_ aj.1), some (I aj.2)]).or ((u3 (P := Try.prog) yh (lentCall (zn hC h01 (x := ((z6.mk 16 1 ah), 2)) h2)) (r := .opq (zG [some (F8_ aj.1), some ((eI .i64) aj.2)])) (yn (ls := [F8_ aj.1, (eI .i64) aj.2]) (.cons (wkN (f := F8_) aj.1) (.cons (wkN (f := (eI .i64)) aj.2) (.nil)))) 57).or ((zt Try.prog 54 [none, some (I ai.2)]).or ((zt Try.prog 53 [some (eOs 1 true F1_ ai.1), some (I ai.2)]).or ((u3 (P := Try.prog) yh (lentCall (zn hC h04 (x := (z6.mk 16 1 ah)) h1)) (r := .opq (zG [some (F8_ ai.1), some ((eI .i64) ai.2)])) (yn (ls := [F8_ ai.1, (eI .i64) ai.2]) (.cons (wkN (f := F8_) ai.1) (.cons (wkN (f := (eI .i64)) ai.2) (.nil)))) 52).or ((zt Try.prog 49 [none, some (I r_.2)]).or ((zt Try.prog 48 [some (eOs 1 true F1_ r_.1), some (I r_.2)]).or ((u3 (P := Try.prog) yh (lentCall (zn hC h02 (x := (z6.mk 16 1 ah)) h0)) (r := .opq (zG [some (F8_ r_.1), some ((eI .i64) r_.2)])) (yn (ls := [F8_ r_.1, (eI .i64) r_.2]) (.cons (wkN (f := F8_) r_.1) (.cons (wkN (f := (eI .i64)) r_.2) (.nil)))) 47).or X0)))))))))))))))))) hC hE (Z5 ++ [Hq c9])
           ·obtain ⟨bk, h6, aa⟩ := zh aa
            obtain ⟨gg, h7, aa⟩ := zh aa
            obtain ⟨cd, h8, aa⟩ := zh aa
            obtain ⟨d8, h9, aa⟩ := zh aa
            refine yA ((zt Try.prog 130 [none, some (I cd.2)]).or ((zt Try.prog 129 [some (eOs 1 true F1_ cd.1), some (I cd.2)]).or ((zt Try.prog 80 [some (B am.1), some (I am.2)]).or ((zt Try.prog 79 [some (B am.1), some (I am.2)]).or ((u3 (P := Try.prog) yh (lentCall (zn hC h05 (x := ((z6.mk 16 1 ah), (r_.1.drop (1 : Int).toNat))) h5)) (r := .opq (zG [some (eB am.1), some ((eI .i64) am.2)])) (wp (ls := [eB am.1, (eI .i64) am.2]) (.cons (wkN (f := eB) am.1) (.cons (wkN (f := (eI .i64)) am.2) (.nil)))) 78).or ((zt Try.prog 70 [some (B ak.1), some (I ak.2)]).or ((zt Try.prog 69 [some (B ak.1), some (I ak.2)]).or ((u3 (P := Try.prog) yh (lentCall (zn hC h03 (x := ((z6.mk 16 1 ah), ai.1)) h4)) (r := .opq (zG [some (eB ak.1), some ((eI .i64) ak.2)])) (wp (ls := [eB ak.1, (eI .i64) ak.2]) (.cons (wkN (f := eB) ak.1) (.cons (wkN (f := (eI .i64)) ak.2) (.nil)))) 68).or ((zt Try.prog 64 [none, some (I al.2)]).or ((zt Try.prog 63 [some (eOs 1 true F1_ al.1), some (I al.2)]).or ((u3 (P := Try.prog) yh (lentCall (zn hC h01 (x := ((z6.mk 16 1 ah), 257)) h3)) (r := .opq (zG [some (F8_ al.1), some ((eI .i64) al.2)])) (yn (ls := [F8_ al.1, (eI .i64) al.2]) (.cons (wkN (f := F8_) al.1) (.cons (wkN (f := (eI .i64)) al.2) (.nil)))) 62).or ((zt Try.prog 59 [none, some (I aj.2)]).or ((zt Try.prog 58 [some (eOs 1 true F1_ aj.1), some (I aj.2)]).or ((u3 (P := Try.prog) yh (lentCall (zn hC h01 (x := ((z6.mk 16 1 ah), 2)) h2)) (r := .opq (zG [some (F8_ aj.1), some ((eI .i64) aj.2)])) (yn (ls := [F8_ aj.1, (eI .i64) aj.2]) (.cons (wkN (f := F8_) aj.1) (.cons (wkN (f := (eI .i64)) aj.2) (.nil)))) 57).or ((zt Try.prog 54 [none, some (I ai.2)]).or ((zt Try.prog 53 [some (eOs 1 true F1_ ai.1), some (I ai.2)]).or ((u3 (P := Try.prog) yh (lentCall (zn hC h04 (x := (z6.mk 16 1 ah)) h1)) (r := .opq (zG [some (F8_ ai.1), some ((eI .i64) ai.2)])) (yn (ls := [F8_ ai.1, (eI .i64) ai.2]) (.cons (wkN (f := F8_) ai.1) (.cons (wkN (f := (eI .i64)) ai.2) (.nil)))) 52).or ((zt Try.prog 49 [none, some (I r_.2)]).or ((zt Try.prog 48 [some (eOs 1 true F1_ r_.1), some (I r_.2)]).or ((u3 (P := Try.prog) yh (lentCall (zn hC h02 (x := (z6.mk 16 1 ah)) h0)) (r := .opq (zG [some (F8_ r_.1), some ((eI .i64) r_.2)])) (yn (ls := [F8_ r_.1, (eI .i64) r_.2]) (.cons (wkN (f := F8_) r_.1) (.cons (wkN (f := (eI .i64)) r_.2) (.nil)))) 47).or X0)))))))))))))))))))) hC ym [1,1,1,1,1,1,1,1,1,1,1,1,1,1] [] [(6, .d (I cd.2)), (8, .d (I d8.2)), (17, .own (.box (z8V d8.1)))] (Z5 ++ [Hq c9, Hn (iL WK h6), Hs (iM WK h6), Hs (iM WK h6), Hn (iL F6_ h7), Hs (iM WK h6), Hs (iM F6_ h7), Hs (iM WK h6), Hs (iM F6_ h7), Hl (sM F6_ bk 3 (z8.mk (-1) (-1))), Hl (sM WK ah 10 (bk.set (3 : Int).toNat (z8.mk (-1) (-1)))), Hg (z01 h02), Hm (shM WK z4J (ah.set (10 : Int).toNat (bk.set (3 : Int).toNat (z8.mk (-1) (-1))))), Hs (z02 h02 (x := (z6.mk 16 1 (ah.set (10 : Int).toNat (bk.set (3 : Int).toNat (z8.mk (-1) (-1)))))) h8 (loC z2g (z6.mk 16 1 (ah.set (10 : Int).toNat (bk.set (3 : Int).toNat (z8.mk (-1) (-1))))) <| loN)), Hm (shM WK z4J (ah.set (10 : Int).toNat (bk.set (3 : Int).toNat (z8.mk (-1) (-1))))), Hn (⟨rfl, rfl⟩ : T.own (.opq (zG [some (eOs 1 true F1_ cd.1), some (I cd.2)])) = T.own (.opq (zG [some (eOs 1 true F1_ cd.1), some (I cd.2)])) ∧ 1 = 1), Hn (⟨rfl, rfl⟩ : T.own (.opq (zG [none, some (I cd.2)])) = T.own (.opq (zG [none, some (I cd.2)])) ∧ 1 = 1), Hg (z01 h0e), Hm (shM F1_ F0_ ai.1), Hs (z02 h0e (x := ((z6.mk 16 1 (ah.set (10 : Int).toNat (bk.set (3 : Int).toNat (z8.mk (-1) (-1))))), ai.1)) h9 (loC z2g (z6.mk 16 1 (ah.set (10 : Int).toNat (bk.set (3 : Int).toNat (z8.mk (-1) (-1))))) <| loC F7_ ai.1 <| loN)), Hm (shM F1_ F0_ ai.1), Hh (.cut 0)]) ?_
            rcases y4 aa with ⟨c10, aa⟩ | ⟨c10, aa⟩
            ·rcases y4 aa with ⟨c11, aa⟩ | ⟨c11, aa⟩
             ·obtain ⟨cn, h10, aa⟩ := zh aa
              let Z6 : List HO := [Hq c10, Hq c10, Hq c10, Hq c11, Hq c11, Hq c11, Hi eB h10, Hq c11, Hq c11]
              rcases y4 aa with ⟨c12, aa⟩ | ⟨c12, aa⟩
              ·obtain ⟨dv, h11, aa⟩ := zh aa
               let Z7 : List HO := (Z6 ++ [Hq c12, Hq c12, Hq c12, Hi eB h11, Hq c12, Hq c12, Hq c12])
               rcases y4 aa with ⟨c13, aa⟩ | ⟨c13, aa⟩
               ·obtain ⟨bm, h12, aa⟩ := zh aa
                obtain ⟨ca, h13, aa⟩ := zh aa
                let Z8 : List HO := (Z7 ++ [Hq c13, Hq c13, Hq c13, Hi (eSl 1 true eB) h12, Hq c13, Hq c13, Hi eB h13, Hq c13, Hq c13, Hq c13])
                rcases y4 aa with ⟨c14, aa⟩ | ⟨c14, aa⟩
                ·obtain ⟨dt, h14, aa⟩ := zh aa
                 obtain ⟨dj, h15, aa⟩ := zh aa
                 let Z9 : List HO := (Z8 ++ [Hq c14, Hq c14, Hq c14, Hi (eSl 1 true eB) h14, Hq c14, Hq c14, Hi eB h15, Hq c14, Hq c14])
                 rcases y4 aa with ⟨c15, aa⟩ | ⟨c15, aa⟩
                 ·obtain ⟨ez, h16, aa⟩ := zh aa
                  obtain rfl := zb aa
                  exact yE X0 hC hE (Z9 ++ [Hq c15, Hc h1a (x := ()) h16 (loN), Hq c15])
                 ·obtain rfl := zb aa
                  exact yE X0 hC hE (Z9 ++ [Hq c15, Hq c15])
                ·obtain rfl := zb aa
                 exact yE X0 hC hE (Z8 ++ (rpN 7 (Hq c14) [qF, qF]))
               ·obtain rfl := zb aa
                exact yE X0 hC hE (Z7 ++ (rpN 8 (Hq c13) (rpN 9 qF [])))
              ·obtain rfl := zb aa
               exact yE X0 hC hE (Z6 ++ (rpN 6 (Hq c12) (rpN 17 qF [])))
             ·obtain rfl := zb aa
              exact yE X0 hC hE (Hq c10 :: Hq c10 :: Hq c10 :: (rpN 5 (Hq c11) (rpN 23 qF [])))
            ·obtain rfl := zb aa
             exact yE X0 hC hE (Hq c10 :: Hq c10 :: Hq c10 :: (rpN 28 qF []))
 ·obtain ⟨t2, ht2, aa⟩ := zh aa
  refine yLx X0 hC ym [1,1,2,1,0] [J1] (fun s => zW s.1 s.2) (fun x => ZM x.1 x.2) (([] : List (List z8)), 0) ht2 [(1, .own (.box (.agg [I 16, I 1, eOs 1 true WK []]))), (2, .d (I 0))] inferInstance [] ?_
  rintro ⟨ay, s_⟩ m2 bn ae hl1 J2 bg
  try unfold zW at ae
  rcases y4 ae with ⟨c16, ae⟩ | ⟨c16, ae⟩
  ·refine yJ X0 hC ym [1,1,2,1,0,0,1] [J1, J2] [1,2] (fun z : List (List z8) => wH s_ z = some bn) (fun z => ZO s_ z) [(1, .own (.box (.agg [I 16, I 1, eOs 1 false WK ay]))), (2, .d (I s_))] [Hq c16, Hh (.cut 0)] ?_ fun J3 dz => ?_
   ·rintro da ae
    unfold wH at ae
    obtain rfl := zb ae
    exact yB X0 hC bg (da, w64 (s_ + 1)) hl1 []
   ·obtain ⟨g1, ae⟩ := gdE ae
    refine yJ X0 hC ym [1,1,2,1,0,0,1,2,0,1] [J1, J2, J3] [1,2,3] (fun z : List z8 => wG ay s_ z = some bn) (fun z => ZN ay s_ z) [(1, .own (.box (.agg [I 16, I 1, eOs 1 false WK ay]))), (2, .d (I s_)), (3, .own (eOs 2 true F6_ (List.replicate (16 : Int).toNat (z8.mk 0 0))))] [Hn (rL g1), Ha (rM 2 F6_ 16 (z8.mk 0 0)), Hh (.cut 0)] ?_ fun J4 fc => ?_
    ·rintro row ae
     unfold wG at ae
     obtain ⟨g2, ae⟩ := gdE ae
     obtain ⟨iw, h17, ae⟩ := zh ae
     obtain ⟨g3, ae⟩ := gdE ae
     exact yB X0 hC dz (ay ++ ([(row.set (3 : Int).toNat (z8.mk (Int.tmod (w64 (s_ + 1)) 64) 0))] : List (List z8))) ae [Hn g2, Hn (iL F6_ h17), Hs (iM F6_ h17), Hs (iM F6_ h17), Hl (sM F6_ row 3 (z8.mk (Int.tmod (w64 (s_ + 1)) 64) 0)), Hq (oC WK (row.set (3 : Int).toNat (z8.mk (Int.tmod (w64 (s_ + 1)) 64) 0)) []), Hn (aL WK WK g3), Hl (aM WK ay ([(row.set (3 : Int).toNat (z8.mk (Int.tmod (w64 (s_ + 1)) 64) 0))] : List (List z8)))]
    ·obtain ⟨t5, ht5, ae⟩ := zh ae
     refine yL X0 hC ym [1,1,2,1,0,0,1,2,0,1,2,1,0] [J1, J2, J3, J4] (fun s => wF s_ s.1 s.2) (fun x => ZL ay s_ x.1 x.2) ((List.replicate (16 : Int).toNat (z8.mk 0 0)), 0) ht5  [] ?_
     rintro ⟨d9, i_⟩ m5 fp ap hl2 J5 fe
     try unfold wF at ap
     rcases y4 ap with ⟨c17, ap⟩ | ⟨c17, ap⟩
     ·obtain ⟨iu, h18, ap⟩ := zh ap
      obtain rfl := zb ap
      exact yB X0 hC fe ((d9.set i_.toNat (z8.mk s_ 0)), w64 (i_ + 1)) hl2 [Hq c17, Hn (iL F6_ h18), Hs (iM F6_ h18), Hs (iM F6_ h18), Hl (sM F6_ d9 i_ (z8.mk s_ 0))]
     ·obtain rfl := zb ap
      obtain rfl := hl2
      exact yB X0 hC fc d9 ae [Hq c17]
  ·obtain rfl := zb ae
   obtain rfl := hl1
   exact yB X0 hC ba ay aa [Hq c16]
theorem zbc {l : List w6} {s : w6} (h : ((l.map w6.k).contains s.k) = false) : ∀ t ∈ l, t.k ≠ s.k := by
 intro t ht e
 have : (l.map w6.k).contains s.k = true := by
  rw [List.contains_iff_mem, ← e]
  exact List.mem_map_of_mem ht
 rw [h] at this
 cases this
theorem hat {l : List w6} {c : Ctr} (H : ∀ t ∈ l, c.Has t) (i : Nat) {s : w6} (h : l[i]? = some s := by rfl) : c.Has s := H _ (List.mem_of_getElem? h)
theorem spc {l : List w6} {s : w6} (w : ∀ {c : Ctr}, zA Try.prog c → (∀ t ∈ l, c.Has t) → s.Ok Try.prog) (r : Wz Try.prog l) (h : ((l.map w6.k).contains s.k) = false := by kernel_rfl) : Wz Try.prog (s :: l) := ⟨fun _ a b => w a b, zbc h, r⟩
theorem zal : Wz Try.prog [vZ, kw, Zb, Zd, Zc, qX, Ze, j4, vP, yM, vL, yK, xm, wZ, xD, zC, wg, wh, jC, Yc, kY, kZ, Yd, vb, Za, vI, xp, q9, wN, jB, kr, xa, xM, q0, vJ, xL, wt, w7, u0, yY, xC, vw, wP, qG, ut, vK, qE, qC, ku, va, Zf, wu, vz, j5, qD, kq, xo, xT, qW, wO, yb, yi, uc, qZ, qY] :=
 spc (fun hC H => X6 hC (hat H 22) (hat H 15) (hat H 16) (hat H 8) (hat H 36) (hat H 7) (hat H 0)) <|
 spc (fun hC H => Jc hC (hat H 5) (hat H 4) (hat H 21) (hat H 14) (hat H 15) (hat H 6) (hat H 1) (hat H 0) (hat H 35) (hat H 7)) <|
 spc (fun hC _ => K8 hC) <|
 spc (fun hC H => Ka hC (hat H 0)) <|
 spc (fun hC H => K9 hC (hat H 0)) <|
 spc (fun hC _ => VK hC) <|
 spc (fun hC _ => Kb hC) <|
 spc (fun hC _ => VO hC) <|
 spc (fun hC H => V7 hC (hat H 36) (hat H 35)) <|
 spc (fun hC H => jQ hC (hat H 35) (hat H 33) (hat H 0)) <|
 spc (fun hC H => YJ hC (hat H 0)) <|
 spc (fun hC H => uM hC (hat H 0)) <|
 spc (fun hC H => qS hC (hat H 0)) <|
 spc (fun hC H => ZY hC (hat H 0)) <|
 spc (fun hC H => jj hC (hat H 0)) <|
 spc (fun hC _ => qK hC) <|
 spc (fun hC H => YK hC (hat H 0)) <|
 spc (fun hC H => W8 hC (hat H 5) (hat H 3) (hat H 0)) <|
 spc (fun hC H => Q9 hC (hat H 1) (hat H 12) (hat H 0) (hat H 6)) <|
 spc (fun hC _ => z0q hC) <|
 spc (fun hC H => K5 hC (hat H 25)) <|
 spc (fun hC H => K6 hC (hat H 0)) <|
 spc (fun hC H => z0r hC (hat H 2) (hat H 8)) <|
 spc (fun hC H => VQ hC (hat H 10) (hat H 5) (hat H 0)) <|
 spc (fun hC H => K7 hC (hat H 29) (hat H 0)) <|
 spc (fun hC H => Q8 hC (hat H 2) (hat H 23) (hat H 0) (hat H 21) (hat H 6)) <|
 spc (fun hC H => qV hC (hat H 0)) <|
 spc (fun hC H => V5 hC (hat H 21)) <|
 spc (fun hC _ => kV hC) <|
 spc (fun hC H => Q7 hC (hat H 29) (hat H 0)) <|
 spc (fun hC H => QZ hC (hat H 2) (hat H 1) (hat H 0)) <|
 spc (fun hC _ => Y7 hC) <|
 spc (fun hC _ => ZV hC) <|
 spc (fun hC _ => V4 hC) <|
 spc (fun hC H => YI hC (hat H 24) (hat H 0)) <|
 spc (fun hC H => jz hC (hat H 0)) <|
 spc (fun hC _ => kH hC) <|
 spc (fun hC H => Y9 hC (hat H 7) (hat H 5) (hat H 0)) <|
 spc (fun hC H => X7 hC (hat H 0)) <|
 spc (fun hC H => uV hC (hat H 0)) <|
 spc (fun hC H => ji hC (hat H 0)) <|
 spc (fun hC H => Y8 hC (hat H 0)) <|
 spc (fun hC _ => kW hC) <|
 spc (fun hC H => Jd hC (hat H 0)) <|
 spc (fun hC _ => Qb hC) <|
 spc (fun hC H => Qa hC (hat H 13) (hat H 0)) <|
 spc (fun hC H => Jb hC (hat H 7) (hat H 1) (hat H 0)) <|
 spc (fun hC _ => J0 hC) <|
 spc (fun hC H => Ja hC (hat H 0)) <|
 spc (fun hC H => VI hC (hat H 2) (hat H 1) (hat H 0)) <|
 spc (fun hC _ => Kc hC) <|
 spc (fun hC H => kI hC (hat H 0)) <|
 spc (fun hC H => W9 hC (hat H 0)) <|
 spc (fun hC _ => VR hC) <|
 spc (fun hC H => J9 hC (hat H 0)) <|
 spc (fun hC H => QY hC (hat H 0)) <|
 spc (fun hC H => qU hC (hat H 0)) <|
 spc (fun hC H => jP hC (hat H 0)) <|
 spc (fun hC _ => VJ hC) <|
 spc (fun hC H => V6 hC (hat H 0)) <|
 spc (fun hC H => vE hC (hat H 0)) <|
 spc (fun hC H => u4 hC (hat H 0)) <|
 spc (fun hC H => Xv hC (hat H 0)) <|
 spc (fun hC H => VN hC (hat H 0)) <|
 spc (fun hC _ => VL hC) <|
 trivial
end Go.Own
end
