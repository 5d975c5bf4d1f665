/- -/
import Derived.Test.YtkelmheleahmpaaDoorPartE
import Derived.Test.YtkelmheleahmpaaDoorPartC
noncomputable section
set_option linter.unusedVariables false
set_option linter.unusedSimpArgs false
namespace Go.Own
open Go.Proofs
set_option maxRecDepth 100000
set_option maxHeartbeats 8000000
def X0 : XH Tryd.prog := xB zD
theorem Y1 : Tryd.prog.follows .mixedOrders = true := by kernel_rfl
variable {rs : List (Nat × Option Nat)}{σ : Type}{keep : Bool}{r : A}
section
variable {ctr : Ctr} {n : Fr} {Q : Exit → St → Prop} {c : Code} {fs : List Fm} {st : St}
theorem yE (X : XH Tryd.prog) (hC : zS Tryd.prog ctr) {E : St → Prop}    (hE : ∀ st x R U, z2x wz keep rs st = some (x, R, U) → LeV x r → E st) (L : List HO) (e : z8p X wz ctr n keep rs 4000 c fs st (hoH L) = some (r, hoO L) := by kernel_rfl) : AWP Tryd.prog n c st (Qf Tryd.prog n fs (z1K E)) := yE6 X zD hC Y1 hE L e
theorem yEx (X : XH Tryd.prog) (hC : zS Tryd.prog ctr) {E : St → Prop}    (hE : ∀ st x R U, z2x wz keep rs st = some (x, R, U) → LeV x r → E st) (L : List HO) (x : A) (hle : LeV x r) (e : z8p X wz ctr n keep rs 4000 c fs st (hoH L) = some (x, hoO L) := by kernel_rfl) : AWP Tryd.prog n c st (Qf Tryd.prog n fs (z1K E)) := zdP X zD hC Y1 hE L x hle e
theorem yB (X : XH Tryd.prog) (hC : zS Tryd.prog ctr) {τ : Type} {J : St → Prop} {live : List Nat} {S : τ → List (Nat × T)} {Inv : τ → Prop} (hJ : ∀ st' l' z, Inv z → Own.canon live st' = ofL l' → LeL l' (S z) → J st') (z : τ) (hz : Inv z) (L : List HO) (e : Jo X wz ctr n live 4000 c fs st (hoH L) = some (.back J, ofL (S z), hoO L) := by kernel_rfl) : AWP Tryd.prog n c st (Qf Tryd.prog n fs Q) := yB6 X zD hC Y1 hJ z hz L e
theorem yA (X : XH Tryd.prog) (hC : zS Tryd.prog ctr) (bd : Code) (path : List Nat) (Js : List (St → Prop)) (l : List (Nat × T)) (L : List HO) (h : AWP Tryd.prog n (sub path bd) (ofL l) (Qf Tryd.prog n (frs path Js bd []) Q)) (e : Jo X wz ctr n (YW l) 4000 c fs st (hoH L) = some (.at (sub path bd) (frs path Js bd []), ofL l, hoO L) := by kernel_rfl) : AWP Tryd.prog n c st (Qf Tryd.prog n fs Q) := yA6 X zD hC Y1 bd path Js l L e h
theorem yAt (X : XH Tryd.prog) (hC : zS Tryd.prog ctr) (c' : Code) (fs' : List Fm) (l : List (Nat × T)) (L : List HO) (h : ∀ st0, Own.canon (YW l) st0 = ofL l → AWP Tryd.prog n c' st0 (Qf Tryd.prog n fs' Q)) (e : Jo X wz ctr n (YW l) 4000 c fs st (hoH L) = some (.at c' fs', ofL l, hoO L) := by kernel_rfl) : AWP Tryd.prog n c st (Qf Tryd.prog n fs Q) := zdQ X zD hC Y1 c' fs' l L e h
theorem yLx (X : XH Tryd.prog) (hC : zS Tryd.prog ctr) (bd : Code) (path : List Nat) (Js : List (St → Prop)) {σ τ : Type} (f : σ → Option (LR σ τ)) (S : σ → List (Nat × T)) (x0 : σ) {t : τ} (ht : loop f x0 = some t) (l : List (Nat × T)) (hl : LeL l (S x0)) (L : List HO) (round : ∀ x m lr, f x = some lr → zbh f m t lr → ∀ J : St → Prop, (∀ st' l' x', YV f m x' = some t → Own.canon (YW l) st' = ofL l' → LeL l' (S x') → J st') → AWP Tryd.prog n (sub (path ++ [0]) bd) (ofL (S x)) (Qf Tryd.prog n (.pre J :: frs path Js bd []) Q)) (e : Jo X wz ctr n (YW l) 4000 c fs st (hoH L) = some (.at (sub path bd) (frs path Js bd []), ofL l, hoO L) := by kernel_rfl) (e2 : sub path bd = .loop (sub (path ++ [0]) bd) := by kernel_rfl) (hk : ∀ x, YW (S x) = YW l := by exact fun _ => rfl) : AWP Tryd.prog n c st (Qf Tryd.prog n fs Q) := yL6 X zD hC Y1 bd path Js f S x0 ht l hl L hk e e2 round
theorem yL (X : XH Tryd.prog) (hC : zS Tryd.prog ctr) (bd : Code) (path : List Nat) (Js : List (St → Prop)) {σ τ : Type} (f : σ → Option (LR σ τ)) (S : σ → List (Nat × T)) (x0 : σ) {t : τ} (ht : loop f x0 = some t) (L : List HO) (round : ∀ x m lr, f x = some lr → zbh f m t lr → ∀ J : St → Prop, (∀ st' l' x', YV f m x' = some t → Own.canon (YW (S x0)) st' = ofL l' → LeL l' (S x') → J st') → AWP Tryd.prog n (sub (path ++ [0]) bd) (ofL (S x)) (Qf Tryd.prog n (.pre J :: frs path Js bd []) Q)) (e : Jo X wz ctr n (YW (S x0)) 4000 c fs st (hoH L) = some (.at (sub path bd) (frs path Js bd []), ofL (S x0), hoO L) := by kernel_rfl) (e2 : sub path bd = .loop (sub (path ++ [0]) bd) := by kernel_rfl) (hk : ∀ x, YW (S x) = YW (S x0) := by exact fun _ => rfl) : AWP Tryd.prog n c st (Qf Tryd.prog n fs Q) := yL6 X zD hC Y1 bd path Js f S x0 ht _ (LeL.refl _) L hk e e2 round
theorem yJ (X : XH Tryd.prog) (hC : zS Tryd.prog ctr) (bd : Code) (path : List Nat) (Js : List (St → Prop))  (live : List Nat) (Inv : σ → Prop) (S : σ → List (Nat × T)) (l : List (Nat × T)) (L : List HO) (h1 : ∀ z, Inv z → AWP Tryd.prog n (sub (path ++ [1]) bd) (ofL (S z)) (Qf Tryd.prog n (frs path Js bd []) Q)) (h2 : ∀ J : St → Prop, (∀ st' l' z, Inv z → Own.canon live st' = ofL l' → LeL l' (S z) → J st') → AWP Tryd.prog n (sub (path ++ [2]) bd) (ofL l) (Qf Tryd.prog n (.pre J :: frs path Js bd []) Q)) (e : Jo X wz ctr n (YW l) 4000 c fs st (hoH L) = some (.at (sub path bd) (frs path Js bd []), ofL l, hoO L) := by kernel_rfl) (e2 : sub path bd = .seq (sub (path ++ [2]) bd) (sub (path ++ [1]) bd) := by kernel_rfl) : AWP Tryd.prog n c st (Qf Tryd.prog n fs Q) := yJ6 X zD hC Y1 bd path Js live Inv S l L e e2 h1 h2
theorem yF (X : XH Tryd.prog) (hC : zS Tryd.prog ctr) (ex : Exit) (l : List (Nat × T)) (L : List HO) (h : ∀ st0, Own.canon (YW l) st0 = ofL l → Q ex st0) (e : Jo X wz ctr n (YW l) 4000 c fs st (hoH L) = some (.fin ex, ofL l, hoO L) := by kernel_rfl) : AWP Tryd.prog n c st (Qf Tryd.prog n fs Q) := yF6 X zD hC Y1 ex l L e h
theorem yO {k : Nat} {fn : Func}  {ls : List A} (keep : Bool) (rs : List (Nat × Option Nat)) (body : Code) (nt : Nat) (hf : Tryd.prog.funcs[k]? = some fn) (h : ∀ E : St → Prop, (∀ st x R U, z2x wz keep rs st = some (x, R, U) → LeV x r → E st) → AWP Tryd.prog ⟨nt, []⟩ body (ofL (z38 0 ls)) (Qf Tryd.prog ⟨nt, []⟩ [] (z1K E))) (hb : fn.body = some body := by kernel_rfl) (hn : nt = fn.ntmps := by exact rfl) (hr : fn.results = (rs.map Jx).toArray := by exact rfl) (hnm : (fn.name == "runtime.NumGoroutine") = false := by exact rfl) (ha : Nat.ble ls.length nt = true := by kernel_rfl) : kJ Tryd.prog k ls r := yO6 zD keep rs body nt hf hb hn hr hnm ha h
end
theorem z4T : z1k Tryd.prog 67 3 4 (VS .i64) (.atom (.bool false)) := z4U Tryd.underlying67 Tryd.underlying3 ⟨.bool false, fun w => Qg (f := Tryd.t4) (by kernel_rfl) rfl w, fun S => wu.2 ⟨rfl, rfl⟩⟩ rfl
theorem z7H : z1k Tryd.prog 68 34 4 (Xw [.i64, .i64]) (.atom (.bool false)) := z0O Tryd.underlying68 _ Tryd.underlying34 (Go.Ex.z6k.eqn rfl) (z21.eqn rfl) rfl ⟨.bool false, fun w => Qg (f := Tryd.t4) (by kernel_rfl) rfl w, fun S => wu.2 ⟨rfl, rfl⟩⟩ rfl
theorem z7G : z1k Tryd.prog 69 84 4 (Xw [.i64, .i64, .i64]) (.atom (.bool false)) := z0O Tryd.underlying69 _ Tryd.underlying84 (Go.Ex.z6j.eqn rfl) (z1Z.eqn rfl) rfl ⟨.bool false, fun w => Qg (f := Tryd.t4) (by kernel_rfl) rfl w, fun S => wu.2 ⟨rfl, rfl⟩⟩ rfl
theorem zbu : z8h Tryd.prog 67 1 false := z4w zD (t := 43) Tryd.so67 rfl rfl (by kernel_rfl) (by decide)
def vL : Code := (Tryd.f11.body).getD .skip
def kR : yW := spF (α := Int × Int) (ρ := z8) 11 (fun x => [(eI .i64) x.1, (eI .i64) x.2]) (fun r => wf r) (fun x => vH x.1 x.2) [] (Us)
abbrev WZ (inputs : Int) (em : List (List zf)) : List (Nat × T) := [(4, .own (.box (.agg [I 0, I 0, eOs 1 true qq []]))), (5, .own (.box (.agg [I inputs, I 1, eOs 1 false z1l em])))]
abbrev WY (n_ : Int) (inputs : Int) (s_ : Int) (dz : List (List zf)) : List (Nat × T) := [(0, .d (I n_)), (1, .d (I inputs)), (4, .own (.box (.agg [I 0, I 0, eOs 1 true qq []]))), (5, .own (.box (.agg [I inputs, I 1, eOs 1 false z1l dz]))), (6, .d (I s_))]
abbrev WX (n_ : Int) (inputs : Int) (bi : List (List zf)) (s_ : Int) (row : List zf) : List (Nat × T) := [(0, .d (I n_)), (1, .d (I inputs)), (4, .own (.box (.agg [I 0, I 0, eOs 1 true qq []]))), (5, .own (.box (.agg [I inputs, I 1, eOs 1 false z1l bi]))), (6, .d (I s_)), (7, .own (eOs 2 false F6_ row))]
abbrev WV (n_ : Int) (inputs : Int) (bi : List (List zf)) (s_ : Int) (d9 : List zf) (i_ : Int) : List (Nat × T) := [(0, .d (I n_)), (1, .d (I inputs)), (4, .own (.box (.agg [I 0, I 0, eOs 1 true qq []]))), (5, .own (.box (.agg [I inputs, I 1, eOs 1 false z1l bi]))), (6, .d (I s_)), (7, .own (eOs 2 false F6_ d9)), (8, .d (I i_))]
abbrev WW (n_ : Int) (inputs : Int) (bi : List (List zf)) (s_ : Int) : List (Nat × T) := [(0, .d (I n_)), (1, .d (I inputs)), (4, .own (.box (.agg [I 0, I 0, eOs 1 true qq []]))), (5, .own (.box (.agg [I inputs, I 1, eOs 1 false z1l bi]))), (6, .d (I s_))]
variable {ctr : Ctr}
theorem Ju (hC : zS Tryd.prog ctr) : kR.Ok Tryd.prog := by
 refine yh ?_
 rintro ⟨n_, inputs⟩ r0 aa
 try unfold vH at aa
 refine yO false [(4, some 30)] vL 38 Tryd.func11 fun E hE => ?_
 refine yJ X0 hC vL [1,1] [] [4,5] (fun z : List (List zf) => Ze inputs z = some r0) (fun z => WZ inputs z) [(0, .d (I n_)), (1, .d (I inputs)), (4, .own (.box (.agg [I 0, I 0, eOs 1 true qq []]))), (5, .own (.box (.agg [I inputs, I 1, eOs 1 true qq []])))] [Hh (.cut 2)] ?_ fun J1 bf => ?_
 ·rintro em aa
  unfold Ze at aa
  obtain rfl := zk aa
  exact yE X0 hC hE [Hm (shM z1l qq em)]
 ·obtain ⟨t2, ht2, aa⟩ := zt aa
  refine yLx X0 hC vL [1,1,2,1,0] [J1] (fun s => vG n_ inputs s.1 s.2) (fun x => WW n_ inputs x.1 x.2) (([] : List (List zf)), 0) ht2 [(0, .d (I n_)), (1, .d (I inputs)), (4, .own (.box (.agg [I 0, I 0, eOs 1 true qq []]))), (5, .own (.box (.agg [I inputs, I 1, eOs 1 true z1l []]))), (6, .d (I 0))] inferInstance [] ?_
  rintro ⟨bi, s_⟩ m2 br ae hl1 J2 bj
  try unfold vG at ae
  rcases yq ae with ⟨c0, ae⟩ | ⟨c0, ae⟩
  ·refine yJ X0 hC vL [1,1,2,1,0,0,1] [J1, J2] [0,1,4,5,6] (fun z : List (List zf) => jl s_ z = some br) (fun z => WY n_ inputs s_ z) [(0, .d (I n_)), (1, .d (I inputs)), (4, .own (.box (.agg [I 0, I 0, eOs 1 true qq []]))), (5, .own (.box (.agg [I inputs, I 1, eOs 1 false z1l bi]))), (6, .d (I s_))] [Hq c0, Hh (.cut 0)] ?_ fun J3 cr => ?_
   ·rintro dz ae
    unfold jl at ae
    obtain rfl := zk ae
    exact yB X0 hC bj (dz, w64 (s_ + 1)) hl1 []
   ·refine yJ X0 hC vL [1,1,2,1,0,0,1,2,0,1] [J1, J2, J3] [0,1,4,5,6,7] (fun z : List zf => jk bi s_ z = some br) (fun z => WX n_ inputs bi s_ z) [(0, .d (I n_)), (1, .d (I inputs)), (4, .own (.box (.agg [I 0, I 0, eOs 1 true qq []]))), (5, .own (.box (.agg [I inputs, I 1, eOs 1 false z1l bi]))), (6, .d (I s_)), (7, .own (eOs 2 true F6_ []))] [Hh (.cut 1)] ?_ fun J4 eg => ?_
    ·rintro row ae
     unfold jk at ae
     obtain ⟨g0, ae⟩ := gdE ae
     exact yB X0 hC cr (bi ++ ([row] : List (List zf))) ae [Hq (oC z1l row []), Hn (aL z1l z1l g0), Hl (aM z1l bi ([row] : List (List zf)))]
    ·obtain ⟨t5, ht5, ae⟩ := zt ae
     refine yLx X0 hC vL [1,1,2,1,0,0,1,2,0,1,2,1,0] [J1, J2, J3, J4] (fun s => vF n_ inputs s_ s.1 s.2) (fun x => WV n_ inputs bi s_ x.1 x.2) (([] : List zf), 0) ht5 [(0, .d (I n_)), (1, .d (I inputs)), (4, .own (.box (.agg [I 0, I 0, eOs 1 true qq []]))), (5, .own (.box (.agg [I inputs, I 1, eOs 1 false z1l bi]))), (6, .d (I s_)), (7, .own (eOs 2 true F6_ [])), (8, .d (I 0))] inferInstance [] ?_
     rintro ⟨d9, i_⟩ m5 fj al hl2 J5 d8
     try unfold vF at al
     rcases yq al with ⟨c1, al⟩ | ⟨c1, al⟩
     ·obtain ⟨g1, al⟩ := gdE al
      obtain ⟨g2, al⟩ := gdE al
      obtain rfl := zk al
      exact yB X0 hC d8 ((d9 ++ ([(zf.mk (Int.tmod (w64 ((w64 (s_ + i_)) + 1)) n_) 0)] : List zf)), w64 (i_ + 1)) hl2 [Hq c1, Hn g1, Hq (dM F6_ ([(zf.mk (Int.tmod (w64 ((w64 (s_ + i_)) + 1)) n_) 0)] : List zf)), Hn (dM F6_ ([(zf.mk (Int.tmod (w64 ((w64 (s_ + i_)) + 1)) n_) 0)] : List zf)), Hn (aL F6_ F6_ g2), Hl (aM F6_ d9 ([(zf.mk (Int.tmod (w64 ((w64 (s_ + i_)) + 1)) n_) 0)] : List zf))]
     ·obtain rfl := zk al
      obtain rfl := hl2
      exact yB X0 hC eg d9 ae [Hq c1]
  ·obtain rfl := zk ae
   obtain rfl := hl1
   exact yB X0 hC bf bi aa [Hq c0]
def WP : Code := (Tryd.f74.body).getD .skip
def qW : yW := spF (α := Unit) (ρ := zf) 74 (fun x => []) (fun r => F6_ r) (fun x => jj) [] (fun _ _ _ => rfl)
theorem Vk (hC : zS Tryd.prog ctr) : qW.Ok Tryd.prog := by
 refine yh ?_
 rintro ⟨⟩ r0 aa
 try unfold jj at aa
 refine yO false [(0, some 81)] WP 2 Tryd.func74 fun E hE => ?_
 obtain rfl := zk aa
 exact yE X0 hC hE []
def WQ : Code := (Tryd.f60.body).getD .skip
def qX : yW := spF (α := z8 × zf) (ρ := Bool) 60 (fun x => [wf x.1, F6_ x.2]) (fun r => eB r) (fun x => uz x.1 x.2) [] (Us)
theorem Vl (hC : zS Tryd.prog ctr) (h0r : ctr.Has qW) : qX.Ok Tryd.prog := by
 refine yh ?_
 rintro ⟨m_, x_⟩ r0 aa
 try unfold uz at aa
 refine yO true [(4, none)] WQ 33 Tryd.func60 fun E hE => ?_
 obtain ⟨r_, h0, aa⟩ := zt aa
 let Z0 : List HO := [Hc h0r (x := ()) h0 (loN)]
 rcases yq aa with ⟨c0, aa⟩ | ⟨c0, aa⟩
 ·obtain rfl := zk aa
  exact yE X0 hC hE (Z0 ++ (rpN 10 (Hq c0) []))
 ·let Z1 : List HO := (Z0 ++ (rpN 4 (Hq c0) []))
  rcases yq aa with ⟨c1, aa⟩ | ⟨c1, aa⟩
  ·let Z2 : List HO := (Z1 ++ (rpN 5 (Hq c1) [Ha (lnM qq m_.Rows), Hq c1, Hq c0, Hq c1, Hq c0]))
   rcases yq aa with ⟨c2, aa⟩ | ⟨c2, aa⟩
   ·let Z3 : List HO := (Z2 ++ [Hq c2, Hq c2, Hq c2, Hq c0, Hq c2, Hq c0])
    rcases yq aa with ⟨c3, aa⟩ | ⟨c3, aa⟩
    ·obtain rfl := zk aa
     exact yE X0 hC hE (Z3 ++ (rpN 5 (Hq c3) [Hq c0, Hq c3, Hq c0]))
    ·obtain rfl := zk aa
     exact yE X0 hC hE (Z3 ++ (rpN 5 (Hq c3) [Hq c0, Hq c3, Hq c0]))
   ·obtain rfl := zk aa
    exact yE X0 hC hE (Z2 ++ (Hq c2 :: Hq c2 :: Hq c2 :: Hq c0 :: Hq c2 :: Hq c0 :: (rpN 5 qF [Hq c0, qF, Hq c0])))
  ·obtain rfl := zk aa
   exact yE X0 hC hE (Z1 ++ (rpN 6 (Hq c1) (Hq c0 :: Hq c1 :: Hq c0 :: qF :: qF :: qF :: Hq c0 :: qF :: Hq c0 :: (rpN 5 qF [Hq c0, qF, Hq c0]))))
def X7 : Code := (Tryd.f59.body).getD .skip
def ub : yW := spF (α := zf × z8) (ρ := Bool) 59 (fun x => [F6_ x.1, z5P x.2]) (fun r => eB r) (fun x => u7 x.1 x.2) [] (Us)
theorem Xm (hC : zS Tryd.prog ctr) (h0s : ctr.Has qX) : ub.Ok Tryd.prog := by
 refine yh ?_
 rintro ⟨x_, x1⟩ r0 aa
 try unfold u7 at aa
 refine yO true [(3, none)] X7 8 Tryd.func59 fun E hE => ?_
 obtain ⟨r_, h0, aa⟩ := zt aa
 obtain rfl := zk aa
 exact yE X0 hC hE [Hc h0s (x := (x1, x_)) h0 (loC wf x1 <| loC F6_ x_ <| loN)]
def yC : Code := (Tryd.f73.body).getD .skip
def yx : yW := spF (α := List zf × z8) (ρ := Int) 73 (fun x => [qq x.1, (Km 59 z5P) x.2]) (fun r => (eI .i64) r) (fun x => yi x.1 x.2) [] (by
 rintro ⟨a0, a1⟩ ⟨b0, b1⟩ h
 have e0 := jb.inj (f := qq) _ _ (List.cons.inj h).1
 replace h := (List.cons.inj h).2
 have e1 := jb.inj (f := (Km 59 z5P)) _ _ (List.cons.inj h).1
 subst e0 e1
 rfl)
abbrev vq : List (Nat × T) := []
abbrev vp (s_ : List zf) (f_ : z8) (x8 : Int) : List (Nat × T) := [(0, .d (eSl 2 false F6_ s_)), (1, .d (.fn 59 [.sptr (.agg [I f_.Inputs, I f_.Outputs, eSl 1 false qq f_.Rows])])), (7, .d (I ((s_.length : Nat) : Int))), (8, .d (I x8))]
theorem vT (hC : zS Tryd.prog ctr) (h0t : ctr.Has ub) : yx.Ok Tryd.prog := by
 refine yh ?_
 rintro ⟨s_, f_⟩ r0 aa
 try unfold yi at aa
 refine yO true [(4, none)] yC 19 Tryd.func73 fun E hE => ?_
 refine yJ X0 hC yC [1] [] [] (fun z : Unit => yz = some r0) (fun z => vq) [(0, .d (eSl 2 false F6_ s_)), (1, .d (.fn 59 [.sptr (.agg [I f_.Inputs, I f_.Outputs, eSl 1 false qq f_.Rows])]))] [Hh (.cut 1)] ?_ fun J1 bf => ?_
 ·rintro ⟨⟩ aa
  unfold yz at aa
  obtain rfl := zk aa
  exact yE X0 hC hE []
 ·obtain ⟨t2, ht2, aa⟩ := zt aa
  refine yL X0 hC yC [1,2,1,0] [J1] (fun s => zL s_ f_ s) (fun x => vp s_ f_ x) 0 ht2  [Ha (lnM F6_ s_)] ?_
  rintro x8 m2 br ae hl1 J2 bj
  try unfold zL at ae
  rcases yq ae with ⟨c0, ae⟩ | ⟨c0, ae⟩
  ·obtain ⟨de, h0, ae⟩ := zt ae
   obtain ⟨r_, h1, ae⟩ := zt ae
   let Z0 : List HO := [Hq c0, Hi F6_ h0, Hc h0t (x := (de, f_)) h1 (loC F6_ de <| loC z5P f_ <| loN)]
   rcases yq ae with ⟨c1, ae⟩ | ⟨c1, ae⟩
   ·obtain rfl := zk ae
    obtain rfl := hl1
    obtain rfl := zk aa
    exact yE X0 hC hE (Z0 ++ [Hq c1])
   ·obtain rfl := zk ae
    exact yB X0 hC bj (w64 (x8 + 1)) hl1 (Z0 ++ [Hq c1])
  ·obtain rfl := zk ae
   obtain rfl := hl1
   exact yB X0 hC bf () aa [Hq c0]
def vo : Code := (Tryd.f58.body).getD .skip
def ym : yW := spF (α := List zf × z8) (ρ := Bool) 58 (fun x => [qq x.1, (Km 59 z5P) x.2]) (fun r => eB r) (fun x => zT x.1 x.2) [] (by
 rintro ⟨a0, a1⟩ ⟨b0, b1⟩ h
 have e0 := jb.inj (f := qq) _ _ (List.cons.inj h).1
 replace h := (List.cons.inj h).2
 have e1 := jb.inj (f := (Km 59 z5P)) _ _ (List.cons.inj h).1
 subst e0 e1
 rfl)
theorem vt (hC : zS Tryd.prog ctr) (h0u : ctr.Has yx) : ym.Ok Tryd.prog := by
 refine yh ?_
 rintro ⟨s_, f_⟩ r0 aa
 try unfold zT at aa
 refine yO true [(4, none)] vo 9 Tryd.func58 fun E hE => ?_
 obtain ⟨r_, h0, aa⟩ := zt aa
 obtain rfl := zk aa
 exact yE X0 hC hE [Hc h0u (x := (s_, f_)) h0 (loC qq s_ <| loC (Km 59 z5P) f_ <| loN)]
def qo : Code := (Tryd.f42.body).getD .skip
def vB : yW := spF (α := z8) (ρ := Int) 42 (fun x => [wf x]) (fun r => (eI .i64) r) (fun x => vg x) [] (KZ)
abbrev YD : List (Nat × T) := []
abbrev YC (m_ : z8) (ft : Int) : List (Nat × T) := [(1, .d (.sptr (wf m_))), (34, .d (eSl 1 false qq m_.Rows)), (35, .d (I ((m_.Rows.length : Nat) : Int))), (36, .d (I ft))]
theorem WG (hC : zS Tryd.prog ctr) (h0v : ctr.Has ym) : vB.Ok Tryd.prog := by
 refine yh ?_
 rintro m_ r0 aa
 try unfold vg at aa
 refine yO true [(2, none)] qo 51 Tryd.func42 fun E hE => ?_
 rcases yq aa with ⟨c0, aa⟩ | ⟨c0, aa⟩
 ·obtain rfl := zk aa
  exact yE X0 hC hE (rpN 4 (Hq c0) (rpN 6 qT []))
 ·let Z0 : List HO := (rpN 4 (Hq c0) [])
  rcases yq aa with ⟨c1, aa⟩ | ⟨c1, aa⟩
  ·obtain rfl := zk aa
   exact yE X0 hC hE (Z0 ++ (rpN 5 (Hq c1) [qT]))
  ·let Z1 : List HO := (Z0 ++ [Hq c1, Hq c1, Hq c1, Ha (lnM qq m_.Rows), Hq c1, Hq c1])
   rcases yq aa with ⟨c2, aa⟩ | ⟨c2, aa⟩
   ·obtain rfl := zk aa
    exact yE X0 hC hE (Z1 ++ [Hq c2])
   ·rcases yq aa with ⟨c3, aa⟩ | ⟨c3, aa⟩
    ·obtain rfl := zk aa
     exact yE X0 hC hE (Z1 ++ (Hq c2 :: (rpN 4 (Hq c3) (rpN 6 qT []))))
    ·let Z2 : List HO := (Z1 ++ (Hq c2 :: (rpN 4 (Hq c3) [])))
     rcases yq aa with ⟨c4, aa⟩ | ⟨c4, aa⟩
     ·obtain rfl := zk aa
      exact yE X0 hC hE (Z2 ++ (rpN 5 (Hq c4) [qT]))
     ·let Z3 : List HO := (Z2 ++ [Hq c4, Hq c4, Hq c4, Ha (lnM qq m_.Rows), Hq c4, Hq c4])
      rcases yq aa with ⟨c5, aa⟩ | ⟨c5, aa⟩
      ·obtain rfl := zk aa
       exact yE X0 hC hE (Z3 ++ [Hq c5])
      ·refine yJ X0 hC qo [1,1,1] [] [] (fun z : Unit => qd = some r0) (fun z => YD) [(1, .own (.box (wf m_)))] (Z3 ++ [Hq c5, Hh (.cut 0)]) ?_ fun J1 bf => ?_
       ·rintro ⟨⟩ aa
        unfold qd at aa
        obtain rfl := zk aa
        exact yE X0 hC hE []
       ·obtain ⟨t2, ht2, aa⟩ := zt aa
        refine yL X0 hC qo [1,1,1,2,1,0] [J1] (fun s => xX m_ s) (fun x => YC m_ x) 0 ht2  [Ha (lnM qq m_.Rows), Hh (.n 1 [1])] ?_
        rintro ft m2 br ae hl1 J2 bj
        try unfold xX at ae
        rcases yq ae with ⟨c6, ae⟩ | ⟨c6, ae⟩
        ·obtain ⟨av, h0, ae⟩ := zt ae
         let Z4 : List HO := [Hq c6, Hi qq h0, Ha (lnM F6_ av)]
         rcases yq ae with ⟨c7, ae⟩ | ⟨c7, ae⟩
         ·obtain rfl := zk ae
          obtain rfl := hl1
          obtain rfl := zk aa
          exact yE X0 hC hE (Z4 ++ (rpN 4 (Hq c7) [qT]))
         ·obtain ⟨r_, h1, ae⟩ := zt ae
          let Z5 : List HO := (Z4 ++ [Hq c7, Hq c7, Hq c7, Hc h0v (x := (av, m_)) h1 (loC qq av <| loC (Km 59 z5P) m_ <| loN), Hq c7])
          rcases yq ae with ⟨c8, ae⟩ | ⟨c8, ae⟩
          ·obtain rfl := zk ae
           obtain rfl := hl1
           obtain rfl := zk aa
           exact yE X0 hC hE (Z5 ++ [Hq c8])
          ·obtain rfl := zk ae
           exact yB X0 hC bj (w64 (ft + 1)) hl1 (Z5 ++ [Hq c8])
        ·obtain rfl := zk ae
         obtain rfl := hl1
         exact yB X0 hC bf () aa [Hq c6]
def WO : Code := (Tryd.f77.body).getD .skip
def qU : yW := spF (α := Int × Int) (ρ := Bool) 77 (fun x => [(eI .i64) x.1, (eSp (eI .i64)) x.2]) (fun r => eB r) (fun x => je x.1 x.2) [] (Us)
theorem Vi (hC : zS Tryd.prog ctr) : qU.Ok Tryd.prog := by
 refine yh ?_
 rintro ⟨c_, x1⟩ r0 aa
 try unfold je at aa
 refine yO true [(3, none)] WO 11 Tryd.func77 fun E hE => ?_
 rcases yq aa with ⟨c0, aa⟩ | ⟨c0, aa⟩
 ·obtain rfl := zk aa
  exact yE X0 hC hE (rpN 4 (Hq c0) [])
 ·obtain rfl := zk aa
  exact yE X0 hC hE (rpN 4 (Hq c0) [])
def we : Code := (Tryd.f88.body).getD .skip
def xZ : yW := spF (α := List Int × Int) (ρ := Int) 88 (fun x => [F4_ x.1, (Km 77 (eSp (eI .i64))) x.2]) (fun r => (eI .i64) r) (fun x => xI x.1 x.2) [] (by
 rintro ⟨a0, a1⟩ ⟨b0, b1⟩ h
 have e0 := jb.inj (f := F4_) _ _ (List.cons.inj h).1
 replace h := (List.cons.inj h).2
 have e1 := jb.inj (f := (Km 77 (eSp (eI .i64)))) _ _ (List.cons.inj h).1
 subst e0 e1
 rfl)
abbrev qJ : List (Nat × T) := []
abbrev qI (s_ : List Int) (f_ : Int) (x8 : Int) : List (Nat × T) := [(0, .d (eSl 1 false (eI .i64) s_)), (1, .d (.fn 77 [.sptr (I f_)])), (7, .d (I ((s_.length : Nat) : Int))), (8, .d (I x8))]
theorem jP (hC : zS Tryd.prog ctr) (h0w : ctr.Has qU) : xZ.Ok Tryd.prog := by
 refine yh ?_
 rintro ⟨s_, f_⟩ r0 aa
 try unfold xI at aa
 refine yO true [(4, none)] we 19 Tryd.func88 fun E hE => ?_
 refine yJ X0 hC we [1] [] [] (fun z : Unit => w5 = some r0) (fun z => qJ) [(0, .d (eSl 1 false (eI .i64) s_)), (1, .d (.fn 77 [.sptr (I f_)]))] [Hh (.cut 1)] ?_ fun J1 bf => ?_
 ·rintro ⟨⟩ aa
  unfold w5 at aa
  obtain rfl := zk aa
  exact yE X0 hC hE []
 ·obtain ⟨t2, ht2, aa⟩ := zt aa
  refine yL X0 hC we [1,2,1,0] [J1] (fun s => yb s_ f_ s) (fun x => qI s_ f_ x) 0 ht2  [Ha (lnM (eI .i64) s_)] ?_
  rintro x8 m2 br ae hl1 J2 bj
  try unfold yb at ae
  rcases yq ae with ⟨c0, ae⟩ | ⟨c0, ae⟩
  ·obtain ⟨de, h0, ae⟩ := zt ae
   obtain ⟨r_, h1, ae⟩ := zt ae
   let Z0 : List HO := [Hq c0, Hi (eI .i64) h0, Hc h0w (x := (de, f_)) h1 (loC (eI .i64) de <| loC (eSp (eI .i64)) f_ <| loN)]
   rcases yq ae with ⟨c1, ae⟩ | ⟨c1, ae⟩
   ·obtain rfl := zk ae
    obtain rfl := hl1
    obtain rfl := zk aa
    exact yE X0 hC hE (Z0 ++ [Hq c1])
   ·obtain rfl := zk ae
    exact yB X0 hC bj (w64 (x8 + 1)) hl1 (Z0 ++ [Hq c1])
  ·obtain rfl := zk ae
   obtain rfl := hl1
   exact yB X0 hC bf () aa [Hq c0]
def qH : Code := (Tryd.f76.body).getD .skip
def xx : yW := spF (α := List Int × Int) (ρ := Bool) 76 (fun x => [F4_ x.1, (Km 77 (eSp (eI .i64))) x.2]) (fun r => eB r) (fun x => yX x.1 x.2) [] (by
 rintro ⟨a0, a1⟩ ⟨b0, b1⟩ h
 have e0 := jb.inj (f := F4_) _ _ (List.cons.inj h).1
 replace h := (List.cons.inj h).2
 have e1 := jb.inj (f := (Km 77 (eSp (eI .i64)))) _ _ (List.cons.inj h).1
 subst e0 e1
 rfl)
theorem qR (hC : zS Tryd.prog ctr) (h0x : ctr.Has xZ) : xx.Ok Tryd.prog := by
 refine yh ?_
 rintro ⟨s_, f_⟩ r0 aa
 try unfold yX at aa
 refine yO true [(4, none)] qH 9 Tryd.func76 fun E hE => ?_
 obtain ⟨r_, h0, aa⟩ := zt aa
 obtain rfl := zk aa
 exact yE X0 hC hE [Hc h0x (x := (s_, f_)) h0 (loC F4_ s_ <| loC (Km 77 (eSp (eI .i64))) f_ <| loN)]
def UF : Code := (Tryd.f65.body).getD .skip
def kb : yW := spF (α := List Int × Int) (ρ := Int) 65 (fun x => [F4_ x.1, (eI .i64) x.2]) (fun r => (eI .i64) r) (fun x => uU x.1 x.2) [] (Us)
theorem Ql (hC : zS Tryd.prog ctr) (h0y : ctr.Has xx) : kb.Ok Tryd.prog := by
 refine yh ?_
 rintro ⟨w_, inputs⟩ r0 aa
 try unfold uU at aa
 refine yO true [(4, none)] UF 19 Tryd.func65 fun E hE => ?_
 rcases yq aa with ⟨c0, aa⟩ | ⟨c0, aa⟩
 ·obtain rfl := zk aa
  exact yE X0 hC hE (rpN 4 (Hq c0) [qT])
 ·let Z0 : List HO := [Hq c0, Hq c0, Ha (lnM (eI .i64) w_), Hq c0, Hq c0]
  rcases yq aa with ⟨c1, aa⟩ | ⟨c1, aa⟩
  ·obtain rfl := zk aa
   exact yE X0 hC hE (Z0 ++ [Hq c1])
  ·rcases yq aa with ⟨c2, aa⟩ | ⟨c2, aa⟩
   ·obtain rfl := zk aa
    exact yE X0 hC hE (Z0 ++ (Hq c1 :: (rpN 4 (Hq c2) [qT])))
   ·obtain ⟨r_, h0, aa⟩ := zt aa
    let Z1 : List HO := (Z0 ++ [Hq c1, Hq c2, Hq c2, Hq c2, Hc h0y (x := (w_, inputs)) h0 (loC F4_ w_ <| loC (Km 77 (eSp (eI .i64))) inputs <| loN), Hq c2])
    rcases yq aa with ⟨c3, aa⟩ | ⟨c3, aa⟩
    ·obtain rfl := zk aa
     exact yE X0 hC hE (Z1 ++ [Hq c3])
    ·obtain rfl := zk aa
     exact yE X0 hC hE (Z1 ++ [Hq c3])
def km : Code := (Tryd.f50.body).getD .skip
def qA : yW := spF (α := List (List Int) × Int) (ρ := Int) 50 (fun x => [F9_ x.1, (eI .i64) x.2]) (fun r => (eI .i64) r) (fun x => uX x.1 x.2) [] (Us)
abbrev Wm : List (Nat × T) := []
abbrev Wl (l_ : List (List Int)) (inputs : Int) (fw : Int) : List (Nat × T) := [(1, .d (I inputs)), (17, .d (eSl 1 false F4_ l_)), (18, .d (I ((l_.length : Nat) : Int))), (19, .d (I fw))]
theorem Qo (hC : zS Tryd.prog ctr) (h0z : ctr.Has kb) : qA.Ok Tryd.prog := by
 refine yh ?_
 rintro ⟨l_, inputs⟩ r0 aa
 try unfold uX at aa
 refine yO true [(4, none)] km 30 Tryd.func50 fun E hE => ?_
 rcases yq aa with ⟨c0, aa⟩ | ⟨c0, aa⟩
 ·obtain rfl := zk aa
  exact yE X0 hC hE (rpN 4 (Hq c0) [qT])
 ·let Z0 : List HO := [Hq c0, Hq c0, Ha (lnM F4_ l_), Hq c0, Hq c0]
  rcases yq aa with ⟨c1, aa⟩ | ⟨c1, aa⟩
  ·obtain rfl := zk aa
   exact yE X0 hC hE (Z0 ++ [Hq c1])
  ·rcases yq aa with ⟨c2, aa⟩ | ⟨c2, aa⟩
   ·obtain rfl := zk aa
    exact yE X0 hC hE (Z0 ++ [Hq c1, Hq c2])
   ·refine yJ X0 hC km [1,1,1] [] [] (fun z : Unit => ka = some r0) (fun z => Wm) [(0, .d (eSl 1 false F4_ l_)), (1, .d (I inputs))] (Z0 ++ [Hq c1, Hq c2, Hh (.cut 0)]) ?_ fun J1 bf => ?_
    ·rintro ⟨⟩ aa
     unfold ka at aa
     obtain rfl := zk aa
     exact yE X0 hC hE []
    ·obtain ⟨t2, ht2, aa⟩ := zt aa
     refine yL X0 hC km [1,1,1,2,1,0] [J1] (fun s => vd l_ inputs s) (fun x => Wl l_ inputs x) 0 ht2  [Ha (lnM F4_ l_)] ?_
     rintro fw m2 br ae hl1 J2 bj
     try unfold vd at ae
     rcases yq ae with ⟨c3, ae⟩ | ⟨c3, ae⟩
     ·obtain ⟨bk, h0, ae⟩ := zt ae
      obtain ⟨r_, h1, ae⟩ := zt ae
      let Z1 : List HO := [Hq c3, Hi F4_ h0, Hc h0z (x := (bk, inputs)) h1 (loC F4_ bk <| loC (eI .i64) inputs <| loN)]
      rcases yq ae with ⟨c4, ae⟩ | ⟨c4, ae⟩
      ·obtain rfl := zk ae
       obtain rfl := hl1
       obtain rfl := zk aa
       exact yE X0 hC hE (Z1 ++ [Hq c4])
      ·obtain rfl := zk ae
       exact yB X0 hC bj (w64 (fw + 1)) hl1 (Z1 ++ [Hq c4])
     ·obtain rfl := zk ae
      obtain rfl := hl1
      exact yB X0 hC bf () aa [Hq c3]
def WR : Code := (Tryd.f99.body).getD .skip
def qY : yW := spF (α := Int) (ρ := Bool) 99 (fun x => [(eI .i64) x]) (fun r => eB r) (fun x => uG x) [] (KZ)
theorem Vn (hC : zS Tryd.prog ctr) : qY.Ok Tryd.prog := by
 refine yh ?_
 rintro x_ r0 aa
 try unfold uG at aa
 refine yO true [(2, none)] WR 6 Tryd.func99 fun E hE => ?_
 obtain rfl := zk aa
 exact yE X0 hC hE []
def XI : Code := (Tryd.f81.body).getD .skip
def vm : yW := spF (α := Int × Int) (ρ := Int) 81 (fun x => [(eI .i64) x.1, (eI .i64) x.2]) (fun r => (eI .i64) r) (fun x => wM x.1 x.2) [] (Us)
theorem XV (hC : zS Tryd.prog ctr) (h0j : ctr.Has qY) : vm.Ok Tryd.prog := by
 refine yh ?_
 rintro ⟨x_, y_⟩ r0 aa
 try unfold wM at aa
 refine yO true [(4, none)] XI 20 Tryd.func81 fun E hE => ?_
 obtain ⟨r_, h0, aa⟩ := zt aa
 obtain ⟨ah, h1, aa⟩ := zt aa
 let Z0 : List HO := [Hc h0j (x := x_) h0 (loC (eI .i64) x_ <| loN), Hc h0j (x := y_) h1 (loC (eI .i64) y_ <| loN)]
 rcases yq aa with ⟨c0, aa⟩ | ⟨c0, aa⟩
 ·rcases yq aa with ⟨c1, aa⟩ | ⟨c1, aa⟩
  ·obtain rfl := zk aa
   exact yE X0 hC hE (Z0 ++ [Hq c0, Hq c1])
  ·obtain rfl := zk aa
   exact yE X0 hC hE (Z0 ++ [Hq c0, Hq c1])
 ·rcases yq aa with ⟨c2, aa⟩ | ⟨c2, aa⟩
  ·obtain rfl := zk aa
   exact yE X0 hC hE (Z0 ++ [Hq c0, Hq c2])
  ·rcases yq aa with ⟨c3, aa⟩ | ⟨c3, aa⟩
   ·obtain rfl := zk aa
    exact yE X0 hC hE (Z0 ++ [Hq c0, Hq c2, Hq c3])
   ·rcases yq aa with ⟨c4, aa⟩ | ⟨c4, aa⟩
    ·obtain rfl := zk aa
     exact yE X0 hC hE (Z0 ++ [Hq c0, Hq c2, Hq c3, Hq c4])
    ·obtain rfl := zk aa
     exact yE X0 hC hE (Z0 ++ [Hq c0, Hq c2, Hq c3, Hq c4])
def wy : Code := (Tryd.f82.body).getD .skip
def wx : yW := spF (α := List Int × List Int) (ρ := Int) 82 (fun x => [F4_ x.1, F4_ x.2]) (fun r => (eI .i64) r) (fun x => xh x.1 x.2) [] (Us)
abbrev jp (s1 : List Int) (s2 : List Int) : List (Nat × T) := [(0, .d (eSl 1 false (eI .i64) s1)), (1, .d (eSl 1 false (eI .i64) s2))]
abbrev jo (s1 : List Int) (s2 : List Int) (dl : Int) : List (Nat × T) := [(0, .d (eSl 1 false (eI .i64) s1)), (1, .d (eSl 1 false (eI .i64) s2)), (9, .d (eSl 1 false (eI .i64) s1)), (10, .d (I ((s1.length : Nat) : Int))), (11, .d (I dl))]
theorem kw (hC : zS Tryd.prog ctr) (h0c : ctr.Has vm) : wx.Ok Tryd.prog := by
 refine yh ?_
 rintro ⟨s1, s2⟩ r0 aa
 try unfold xh at aa
 refine yO true [(4, none)] wy 36 Tryd.func82 fun E hE => ?_
 refine yJ X0 hC wy [1] [] [0,1] (fun z : Unit => xv s1 s2 = some r0) (fun z => jp s1 s2) [(0, .d (eSl 1 false (eI .i64) s1)), (1, .d (eSl 1 false (eI .i64) s2))] [Hh (.cut 1)] ?_ fun J1 bf => ?_
 ·rintro ⟨⟩ aa
  unfold xv at aa
  let Z0 : List HO := [Ha (lnM (eI .i64) s1), Ha (lnM (eI .i64) s2)]
  rcases yq aa with ⟨c0, aa⟩ | ⟨c0, aa⟩
  ·obtain rfl := zk aa
   exact yE X0 hC hE (Z0 ++ [Hq c0])
  ·obtain rfl := zk aa
   exact yE X0 hC hE (Z0 ++ [Hq c0])
 ·obtain ⟨t2, ht2, aa⟩ := zt aa
  refine yL X0 hC wy [1,2,1,0] [J1] (fun s => yj s1 s2 s) (fun x => jo s1 s2 x) 0 ht2  [Ha (lnM (eI .i64) s1)] ?_
  rintro dl m2 br ae hl1 J2 bj
  try unfold yj at ae
  rcases yq ae with ⟨c1, ae⟩ | ⟨c1, ae⟩
  ·obtain ⟨fx, h0, ae⟩ := zt ae
   let Z1 : List HO := [Hq c1, Hi (eI .i64) h0, Ha (lnM (eI .i64) s2)]
   rcases yq ae with ⟨c2, ae⟩ | ⟨c2, ae⟩
   ·obtain rfl := zk ae
    obtain rfl := hl1
    obtain rfl := zk aa
    exact yE X0 hC hE (Z1 ++ [Hq c2])
   ·obtain ⟨fc, h1, ae⟩ := zt ae
    obtain ⟨r_, h2, ae⟩ := zt ae
    let Z2 : List HO := (Z1 ++ [Hq c2, Hi (eI .i64) h1, Hc h0c (x := (fx, fc)) h2 (loC (eI .i64) fx <| loC (eI .i64) fc <| loN)])
    rcases yq ae with ⟨c3, ae⟩ | ⟨c3, ae⟩
    ·obtain rfl := zk ae
     obtain rfl := hl1
     obtain rfl := zk aa
     exact yE X0 hC hE (Z2 ++ [Hq c3])
    ·obtain rfl := zk ae
     exact yB X0 hC bj (w64 (dl + 1)) hl1 (Z2 ++ [Hq c3])
  ·obtain rfl := zk ae
   obtain rfl := hl1
   exact yB X0 hC bf () aa [Hq c1]
def Zo : Code := (Tryd.f80.body).getD .skip
def kS : yW := spF (α := List Int) (ρ := Int) 80 (fun x => [F4_ x]) (fun r => (eI .i64) r) (fun x => kE x) [] (KZ)
abbrev V1 : List (Nat × T) := [(3, .d (I 0))]
abbrev V0 (vals : List Int) (x8 : Int) : List (Nat × T) := [(3, .d (I 0)), (6, .d (eSl 1 false (eI .i64) vals)), (7, .d (I ((vals.length : Nat) : Int))), (8, .d (I x8))]
theorem Jv (hC : zS Tryd.prog ctr) : kS.Ok Tryd.prog := by
 refine yh ?_
 rintro vals r0 aa
 try unfold kE at aa
 refine yO true [(2, none)] Zo 18 Tryd.func80 fun E hE => ?_
 refine yJ X0 hC Zo [1,1] [] [3] (fun z : Unit => jm = some r0) (fun z => V1) [(0, .d (eSl 1 false (eI .i64) vals)), (3, .d (I 0))] [Hh (.cut 2)] ?_ fun J1 bf => ?_
 ·rintro ⟨⟩ aa
  unfold jm at aa
  obtain rfl := zk aa
  exact yE X0 hC hE []
 ·obtain ⟨t2, ht2, aa⟩ := zt aa
  refine yL X0 hC Zo [1,1,2,1,0] [J1] (fun s => vK vals s) (fun x => V0 vals x) 0 ht2  [Ha (lnM (eI .i64) vals)] ?_
  rintro x8 m2 br ae hl1 J2 bj
  try unfold vK at ae
  rcases yq ae with ⟨c0, ae⟩ | ⟨c0, ae⟩
  ·obtain ⟨gg, h0, ae⟩ := zt ae
   rcases yq ae with ⟨c1, ae⟩ | ⟨c1, ae⟩
   ·obtain rfl := zk ae
    obtain rfl := hl1
    obtain rfl := zk aa
    exact yE X0 hC hE [Hq c0, Hi (eI .i64) h0, Hq c1]
   ·obtain rfl := zk ae
    exact yB X0 hC bj (w64 (x8 + 1)) hl1 [Hq c0, Hi (eI .i64) h0, Hq c1]
  ·obtain rfl := zk ae
   obtain rfl := hl1
   exact yB X0 hC bf () aa [Hq c0]
def WN : Code := (Tryd.f68.body).getD .skip
def v7 : yW := spF (α := List Int × List Int) (ρ := Int) 68 (fun x => [F4_ x.1, F4_ x.2]) (fun r => (eI .i64) r) (fun x => yK x.1 x.2) [] (Us)
theorem Vh (hC : zS Tryd.prog ctr) (h0c : ctr.Has vm) (h0A : ctr.Has wx) (h0k : ctr.Has kS) : v7.Ok Tryd.prog := by
 refine yh ?_
 rintro ⟨a_, b_⟩ r0 aa
 try unfold yK at aa
 refine yO true [(4, none)] WN 15 Tryd.func68 fun E hE => ?_
 obtain ⟨r_, h0, aa⟩ := zt aa
 obtain ⟨ah, h1, aa⟩ := zt aa
 obtain ⟨aj, h2, aa⟩ := zt aa
 obtain rfl := zk aa
 exact yE X0 hC hE [Ha (lnM (eI .i64) a_), Ha (lnM (eI .i64) b_), Hc h0c (x := (((a_.length : Nat) : Int), ((b_.length : Nat) : Int))) h0 (loC (eI .i64) ((a_.length : Nat) : Int) <| loC (eI .i64) ((b_.length : Nat) : Int) <| loN), Hc h0A (x := (a_, b_)) h1 (loC F4_ a_ <| loC F4_ b_ <| loN), Hg (QV h0k), Hm (shM (eI .i64) (eI .i64) ([r_, ah])), Hs (QX h0k (x := [r_, ah]) h2 (loC F1_ ([r_, ah] : List Int) <| loN))]
def kn : Code := (Tryd.f61.body).getD .skip
def ke : yW := spF (α := List (List Int)) (ρ := Bool) 61 (fun x => [F9_ x]) (fun r => eB r) (fun x => js x) [] (KZ)
abbrev Wo : List (Nat × T) := []
abbrev Wn (l_ : List (List Int)) (i_ : Int) : List (Nat × T) := [(0, .d (eSl 1 false F4_ l_)), (3, .d (I i_))]
theorem Qp (hC : zS Tryd.prog ctr) (h07 : ctr.Has v7) : ke.Ok Tryd.prog := by
 refine yh ?_
 rintro l_ r0 aa
 try unfold js at aa
 refine yO true [(2, none)] kn 21 Tryd.func61 fun E hE => ?_
 refine yJ X0 hC kn [1] [] [] (fun z : Unit => qw = some r0) (fun z => Wo) [(0, .d (eSl 1 false F4_ l_))] [Hh (.cut 1)] ?_ fun J1 bf => ?_
 ·rintro ⟨⟩ aa
  unfold qw at aa
  obtain rfl := zk aa
  exact yE X0 hC hE []
 ·obtain ⟨t2, ht2, aa⟩ := zt aa
  refine yL X0 hC kn [1,2,1,0] [J1] (fun s => ve l_ s) (fun x => Wn l_ x) 1 ht2  [] ?_
  rintro i_ m2 br ae hl1 J2 bj
  try unfold ve at ae
  let Z0 : List HO := [Ha (lnM F4_ l_)]
  rcases yq ae with ⟨c0, ae⟩ | ⟨c0, ae⟩
  ·obtain ⟨bk, h0, ae⟩ := zt ae
   obtain ⟨cu, h1, ae⟩ := zt ae
   obtain ⟨r_, h2, ae⟩ := zt ae
   let Z1 : List HO := (Z0 ++ [Hq c0, Hi F4_ h0, Hi F4_ h1, Hc h07 (x := (bk, cu)) h2 (loC F4_ bk <| loC F4_ cu <| loN)])
   rcases yq ae with ⟨c1, ae⟩ | ⟨c1, ae⟩
   ·obtain rfl := zk ae
    obtain rfl := hl1
    obtain rfl := zk aa
    exact yE X0 hC hE (Z1 ++ [Hq c1])
   ·obtain rfl := zk ae
    exact yB X0 hC bj (w64 (i_ + 1)) hl1 (Z1 ++ [Hq c1])
  ·obtain rfl := zk ae
   obtain rfl := hl1
   exact yB X0 hC bf () aa (Z0 ++ [Hq c0])
def kl : Code := (Tryd.f62.body).getD .skip
def qz : yW := spF (α := List (List Int)) (ρ := Int) 62 (fun x => [F9_ x]) (fun r => (eI .i64) r) (fun x => uW x) [] (KZ)
abbrev Wk (n_ : Int) : List (Nat × T) := [(2, .d (I n_))]
abbrev Wj (l_ : List (List Int)) (dg : Int) (x7 : Int) : List (Nat × T) := [(2, .d (I dg)), (5, .d (eSl 1 false F4_ l_)), (6, .d (I ((l_.length : Nat) : Int))), (7, .d (I x7))]
theorem Qn (hC : zS Tryd.prog ctr) : qz.Ok Tryd.prog := by
 refine yh ?_
 rintro l_ r0 aa
 try unfold uW at aa
 refine yO true [(2, none)] kl 17 Tryd.func62 fun E hE => ?_
 refine yJ X0 hC kl [1] [] [2] (fun z : Int => k9 z = some r0) (fun z => Wk z) [(0, .d (eSl 1 false F4_ l_)), (2, .d (I 0))] [Hh (.cut 1)] ?_ fun J1 bf => ?_
 ·rintro n_ aa
  unfold k9 at aa
  obtain rfl := zk aa
  exact yE X0 hC hE []
 ·obtain ⟨t2, ht2, aa⟩ := zt aa
  refine yL X0 hC kl [1,2,1,0] [J1] (fun s => va l_ s.1 s.2) (fun x => Wj l_ x.1 x.2) (0,0) ht2  [Ha (lnM F4_ l_)] ?_
  rintro ⟨dg, x7⟩ m2 br ae hl1 J2 bj
  try unfold va at ae
  rcases yq ae with ⟨c0, ae⟩ | ⟨c0, ae⟩
  ·obtain ⟨bk, h0, ae⟩ := zt ae
   obtain rfl := zk ae
   exact yB X0 hC bj (w64 (dg + ((bk.length : Nat) : Int)), w64 (x7 + 1)) hl1 [Hq c0, Hi F4_ h0, Ha (lnM (eI .i64) bk)]
  ·obtain rfl := zk ae
   obtain rfl := hl1
   exact yB X0 hC bf dg aa [Hq c0]
def UG : Code := (Tryd.f43.body).getD .skip
def kg : yW := spF (α := List (List Int) × Int) (ρ := Int) 43 (fun x => [F9_ x.1, (eI .i64) x.2]) (fun r => (eI .i64) r) (fun x => jt x.1 x.2) [] (Us)
theorem Qq (hC : zS Tryd.prog ctr) (h0d : ctr.Has qA) (h0B : ctr.Has ke) (h0a : ctr.Has qz) : kg.Ok Tryd.prog := by
 refine yh ?_
 rintro ⟨l_, inputs⟩ r0 aa
 try unfold jt at aa
 refine yO true [(4, none)] UG 18 Tryd.func43 fun E hE => ?_
 obtain ⟨r_, h0, aa⟩ := zt aa
 let Z0 : List HO := [Hc h0d (x := (l_, inputs)) h0 (loC F9_ l_ <| loC (eI .i64) inputs <| loN)]
 rcases yq aa with ⟨c0, aa⟩ | ⟨c0, aa⟩
 ·obtain rfl := zk aa
  exact yE X0 hC hE (Z0 ++ [Hq c0])
 ·obtain ⟨ah, h1, aa⟩ := zt aa
  let Z1 : List HO := (Z0 ++ [Hq c0, Hc h0B (x := l_) h1 (loC F9_ l_ <| loN)])
  rcases yq aa with ⟨c1, aa⟩ | ⟨c1, aa⟩
  ·obtain rfl := zk aa
   exact yE X0 hC hE (Z1 ++ [Hq c1])
  ·obtain ⟨aj, h2, aa⟩ := zt aa
   let Z2 : List HO := (Z1 ++ [Hq c1, Hc h0a (x := l_) h2 (loC F9_ l_ <| loN)])
   rcases yq aa with ⟨c2, aa⟩ | ⟨c2, aa⟩
   ·obtain rfl := zk aa
    exact yE X0 hC hE (Z2 ++ [Hq c2])
   ·obtain rfl := zk aa
    exact yE X0 hC hE (Z2 ++ [Hq c2])
def XD : Code := (Tryd.f22.body).getD .skip
def xH : yW := spF (α := z8 × List (List Int)) (ρ := Int) 22 (fun x => [wf x.1, F9_ x.2]) (fun r => (eI .i64) r) (fun x => xE x.1 x.2) [] (Us)
theorem XQ (hC : zS Tryd.prog ctr) (h0e : ctr.Has vB) (h0C : ctr.Has kg) : xH.Ok Tryd.prog := by
 refine yh ?_
 rintro ⟨m_, l_⟩ r0 aa
 try unfold xE at aa
 refine yO true [(4, none)] XD 15 Tryd.func22 fun E hE => ?_
 obtain ⟨r_, h0, aa⟩ := zt aa
 let Z0 : List HO := [Hc h0e (x := m_) h0 (loC wf m_ <| loN)]
 rcases yq aa with ⟨c0, aa⟩ | ⟨c0, aa⟩
 ·obtain rfl := zk aa
  exact yE X0 hC hE (Z0 ++ [Hq c0])
 ·obtain ⟨ah, h1, aa⟩ := zt aa
  obtain rfl := zk aa
  exact yE X0 hC hE (Z0 ++ [Hq c0, Hc h0C (x := (l_, m_.Inputs)) h1 (loC F9_ l_ <| loC (eI .i64) m_.Inputs <| loN)])
def Wh : Code := (Tryd.f41.body).getD .skip
def vC : yW := spF (α := Unit) (ρ := zg) 41 (fun x => []) (fun r => (zO (eMp (eI .i64) eB) (eMp F0_ eB) (eMp zF eB)) r) (fun x => vX) [] (fun _ _ _ => rfl)
theorem WH (hC : zS Tryd.prog ctr) : vC.Ok Tryd.prog := by
 refine yh ?_
 rintro ⟨⟩ r0 aa
 try unfold vX at aa
 refine z1f (tt := wz) (rs := [(true, 0, some 71)]) (n := ⟨6, []⟩) (body := Wh) zD Tryd.func41 rfl (by kernel_rfl) rfl rfl (by show (0 : Nat) ≤ 6; decide) fun E hE => ?_
 obtain rfl := zk aa
 let ZE : List HO := [Hn (⟨rfl, rfl, rfl, rfl, Uf (fun _ => rfl) ([] : List (Int × Bool))⟩ : T.own (.opq (y9 (zm (eI .i64) eB ([] : List (Int × Bool))))) = T.own (.opq (y9 (zm (eI .i64) eB ([] : List (Int × Bool))))) ∧ 1 = 1 ∧ (VS .i64) ((eI .i64) 0) = true ∧ (eB true).isD = true ∧ ∀ p ∈ zm (eI .i64) eB ([] : List (Int × Bool)), (VS .i64) p.1 = true), Hn (QF (f := (eI .i64)) (g := eB) 0 true ([] : List (Int × Bool)))]
 exact z3K ((z6C Tryd.prog 4).or ((z6C Tryd.prog 3).or ((zdR z4T 1 (zm (eI .i64) eB ([] : List (Int × Bool))) (zm (eI .i64) eB (V5 ([] : List (Int × Bool)) 0 true))).or ((z6C Tryd.prog 1).or X0)))) zD hC Y1 hE 4000 (hs := hoH ZE) (x := (.agg [.opq (y9 (zm (eI .i64) eB (V5 ([] : List (Int × Bool)) 0 true))), .opq (y9 (zm F0_ eB ([] : List ((yu Int) × Bool)))), .opq (y9 (zm zF eB ([] : List (z7 × Bool))))])) (hoB ZE) (by kernel_rfl) (LeV.refl _)
def vj : Code := (Tryd.f32.body).getD .skip
abbrev kp (u0 : Value) (u1 : Value) (u2 : Value) (m_ : z8) (w_ : List Int) (ai : List (Int × Bool)) (ak : List ((yu Int) × Bool)) (cw : Int) (a8 : Int) (bg : Int) (dt : Int) (ca : Int) (aw : zf) (a6 : List (z7 × Bool)) : List (Nat × T) := [(3, .own (.box (.agg [.opq (wC u0 (zm (eI .i64) eB ai)), .opq (wC u1 (zm F0_ eB (V5 ak (yu.mk cw ca) true))), .opq (wC u2 (zm zF eB a6))]))), (4, .own (.box (wf m_))), (6, .d (I cw)), (7, .own (.box (.agg [I a8, I bg, I ca]))), (9, .d (I ca)), (10, .d (I aw.To)), (12, .d (eSl 1 false (eI .i64) w_)), (13, .d (I ((w_.length : Nat) : Int))), (14, .d (I dt))]
abbrev ko (u0 : Value) (u1 : Value) (u2 : Value) (m_ : z8) (w_ : List Int) (ai : List (Int × Bool)) (ak : List ((yu Int) × Bool)) (am : List (z7 × Bool)) (cw : Int) (a8 : Int) (bg : Int) (dt : Int) : List (Nat × T) := [(3, .own (.box (.agg [.opq (wC u0 (zm (eI .i64) eB ai)), .opq (wC u1 (zm F0_ eB ak)), .opq (wC u2 (zm zF eB am))]))), (4, .own (.box (wf m_))), (6, .d (I cw)), (7, .own (.box (.agg [I a8, I bg, I (-1)]))), (12, .d (eSl 1 false (eI .i64) w_)), (13, .d (I ((w_.length : Nat) : Int))), (14, .d (I dt))]
theorem qC (hC : zS Tryd.prog ctr) : ∀ (m_ : z8) (w_ : List Int) (x_ : zg) (r0 : zg), xm m_ w_ x_ = some r0 → ∀ us : List Value, us.length = 3 → vA Tryd.prog (.fn 32 []) ([] ++ .agg (us.map .atom) :: [.agg [I m_.Inputs, I m_.Outputs, eSl 1 false qq m_.Rows], eSl 1 false (eI .i64) w_]) (ZA us [zm (eI .i64) eB x_.states_, zm F0_ eB x_.edges_, zm zF eB x_.pairs_]) (.tup []) ([zm (eI .i64) eB r0.states_, zm F0_ eB r0.edges_, zm zF eB r0.pairs_].map fun e => .opq (y9 e)) := by
 intro m_ w_ x_ r0 aa us hus
 obtain ⟨u0, u1, u2, rfl⟩ := z8r hus
 refine Yq (tt := wz) (nt := 50) (body := vj) (B := 3) [] (xl := []) (xr := [.agg [I m_.Inputs, I m_.Outputs, eSl 1 false qq m_.Rows], eSl 1 false (eI .i64) w_]) (caps := []) (es := [zm (eI .i64) eB x_.states_, zm F0_ eB x_.edges_, zm zF eB x_.pairs_]) (es' := [zm (eI .i64) eB r0.states_, zm F0_ eB r0.edges_, zm zF eB r0.pairs_]) (us := [u0, u1, u2]) (r := .tup []) Tryd.func32 rfl (by kernel_rfl) rfl rfl (by decide) (by show (3 : Nat) ≤ 50; decide) rfl rfl (.inl ⟨rfl, rfl⟩) fun E hE => ?_
 try unfold xm at aa
 obtain ⟨t1, ht1, aa⟩ := zt aa
 refine yL X0 hC vj [1,1,1,1,0] [] (fun s => xi m_ w_ s.1 s.2.1 s.2.2.1 s.2.2.2.1 s.2.2.2.2.1 s.2.2.2.2.2.1 s.2.2.2.2.2.2) (fun x => ko u0 u1 u2 m_ w_ x.1 x.2.1 x.2.2.1 x.2.2.2.1 x.2.2.2.2.1 x.2.2.2.2.2.1 x.2.2.2.2.2.2) (x_.states_, x_.edges_, x_.pairs_, 0, (-1), (-1), 0) ht1  [Ha (lnM (eI .i64) w_)] ?_
 rintro ⟨ai, ak, am, cw, a8, bg, dt⟩ m1 br ae hl1 J1 bf
 try unfold xi at ae
 rcases yq ae with ⟨c0, ae⟩ | ⟨c0, ae⟩
 ·obtain ⟨ca, h0, ae⟩ := zt ae
  obtain ⟨av, h1, ae⟩ := zt ae
  obtain ⟨aw, h2, ae⟩ := zt ae
  let Z0 : List HO := [Hq c0, Hi (eI .i64) h0, Hi qq h1, Hi F6_ h2]
  rcases yq ae with ⟨c1, ae⟩ | ⟨c1, ae⟩
  ·obtain rfl := zk ae
   obtain rfl := hl1
   obtain rfl := zk aa
   exact yF X0 hC .ret [(3, .own (.box (.agg [.opq (wC u0 (zm (eI .i64) eB ai)), .opq (wC u1 (zm F0_ eB ak)), .opq (wC u2 (zm zF eB am))])))] (Z0 ++ [Hq c1]) fun st0 h0 => hE _ st0 (.inr rfl) (VQ h0 rfl rfl) zdn
  ·refine yJ ((z6z z7H 30 (jB u1 (zm F0_ eB ak)) (zm F0_ eB (V5 ak (yu.mk cw ca) true))).or X0) hC vj [1,1,1,1,0,0,1,1,0,0,1,1,1,1] [J1] [3,4,6,7,9,10,12,13,14] (fun z : List (z7 × Bool) => yH ai ak cw dt ca aw z = some br) (fun z => kp u0 u1 u2 m_ w_ ai ak cw a8 bg dt ca aw z) [(3, .own (.box (.agg [.opq (wC u0 (zm (eI .i64) eB ai)), .opq (wC u1 (zm F0_ eB (V5 ak (yu.mk cw ca) true))), .opq (wC u2 (zm zF eB am))]))), (4, .own (.box (wf m_))), (6, .d (I cw)), (7, .own (.box (.agg [I a8, I bg, I (-1)]))), (9, .d (I ca)), (10, .d (I aw.To)), (12, .d (eSl 1 false (eI .i64) w_)), (13, .d (I ((w_.length : Nat) : Int))), (14, .d (I dt))] (Z0 ++ [Hq c1, Hn (⟨rfl, rfl, rfl, rfl, rfl, rfl, Uf (fun _ => rfl) ak⟩ : (some (A.opq (wC u1 (zm F0_ eB ak))) : Option A) = some (A.opq (wC u1 (zm F0_ eB ak))) ∧ true = true ∧ 0 = 0 ∧ 0 = 0 ∧ (Xw [.i64, .i64]) (F0_ (yu.mk cw ca)) = true ∧ (eB true).isD = true ∧ ∀ p ∈ zm F0_ eB ak, (Xw [.i64, .i64]) p.1 = true), Hn (QF (f := F0_) (g := eB) (yu.mk cw ca) true ak), Hh (.cut 1)]) ?_ fun J2 bj => ?_
   ·rintro a6 ae
    unfold yH at ae
    obtain rfl := zk ae
    exact yB ((z6z z4T 47 (jB u0 (zm (eI .i64) eB ai)) (zm (eI .i64) eB (V5 ai aw.To true))).or X0) hC bf ((V5 ai aw.To true), (V5 ak (yu.mk cw ca) true), a6, aw.To, cw, ca, w64 (dt + 1)) hl1 [Hn (⟨rfl, rfl, rfl, rfl, rfl, rfl, Uf (fun _ => rfl) ai⟩ : (some (A.opq (wC u0 (zm (eI .i64) eB ai))) : Option A) = some (A.opq (wC u0 (zm (eI .i64) eB ai))) ∧ true = true ∧ 0 = 0 ∧ 0 = 0 ∧ (VS .i64) ((eI .i64) aw.To) = true ∧ (eB true).isD = true ∧ ∀ p ∈ zm (eI .i64) eB ai, (VS .i64) p.1 = true), Hn (QF (f := (eI .i64)) (g := eB) aw.To true ai)]
   ·rcases yq ae with ⟨c2, ae⟩ | ⟨c2, ae⟩
    ·exact yB ((z6z z7G 40 (jB u2 (zm zF eB am)) (zm zF eB (V5 am (z7.mk a8 bg ca) true))).or X0) hC bj (V5 am (z7.mk a8 bg ca) true) ae [Hq c2, Hn (⟨rfl, rfl, rfl, rfl, rfl, rfl, Uf (fun _ => rfl) am⟩ : (some (A.opq (wC u2 (zm zF eB am))) : Option A) = some (A.opq (wC u2 (zm zF eB am))) ∧ true = true ∧ 0 = 0 ∧ 0 = 0 ∧ (Xw [.i64, .i64, .i64]) (zF (z7.mk a8 bg ca)) = true ∧ (eB true).isD = true ∧ ∀ p ∈ zm zF eB am, (Xw [.i64, .i64, .i64]) p.1 = true), Hn (QF (f := zF) (g := eB) (z7.mk a8 bg ca) true am)]
    ·exact yB X0 hC bj am ae [Hq c2]
 ·obtain rfl := zk ae
  obtain rfl := hl1
  obtain rfl := zk aa
  exact yF X0 hC .normal [(3, .own (.box (.agg [.opq (wC u0 (zm (eI .i64) eB ai)), .opq (wC u1 (zm F0_ eB ak)), .opq (wC u2 (zm zF eB am))])))] [Hq c0] fun st0 h0 => hE _ st0 (.inl rfl) (VQ h0 rfl rfl) zdn
def vS : Code := (Tryd.f23.body).getD .skip
def x5 : yW := spF (α := z8 × List (List Int)) (ρ := zg) 23 (fun x => [wf x.1, F9_ x.2]) (fun r => (zO (eMp (eI .i64) eB) (eMp F0_ eB) (eMp zF eB)) r) (fun x => yp x.1 x.2) [] (Us)
abbrev Zu (ai : List (Int × Bool)) (ak : List ((yu Int) × Bool)) (am : List (z7 × Bool)) : List (Nat × T) := [(4, .own (.box (.agg [.atom (.map none), .atom (.map none), .atom (.map none)]))), (5, .own (.box (.agg [.opq (y9 (zm (eI .i64) eB ai)), .opq (y9 (zm F0_ eB ak)), .opq (y9 (zm zF eB am))])))]
abbrev Zt (m_ : z8) (l_ : List (List Int)) (bc : List (Int × Bool)) (bn : List ((yu Int) × Bool)) (a6 : List (z7 × Bool)) (dl : Int) : List (Nat × T) := [(2, .own (.box (wf m_))), (4, .own (.box (.agg [.atom (.map none), .atom (.map none), .atom (.map none)]))), (5, .own (.box (.agg [.opq (y9 (zm (eI .i64) eB bc)), .opq (y9 (zm F0_ eB bn)), .opq (y9 (zm zF eB a6))]))), (9, .d (eSl 1 false F4_ l_)), (10, .d (I ((l_.length : Nat) : Int))), (11, .d (I dl))]
theorem YP (hC : zS Tryd.prog ctr) (h0f : ctr.Has vC) : x5.Ok Tryd.prog := by
 refine yh ?_
 rintro ⟨m_, l_⟩ r0 aa
 try unfold yp at aa
 refine z1f (tt := wz) (rs := [(true, 4, some 71)]) (n := ⟨21, []⟩) (body := vS) zD Tryd.func23 rfl (by kernel_rfl) rfl rfl (by show (2 : Nat) ≤ 21; decide) fun E hE => ?_
 obtain ⟨r_, h0, aa⟩ := zt aa
 refine yJ X0 hC vS [1,1] [] [4,5] (fun z : (List (Int × Bool)) × (List ((yu Int) × Bool)) × (List (z7 × Bool)) => vR z.1 z.2.1 z.2.2 = some r0) (fun z => Zu z.1 z.2.1 z.2.2) [(1, .d (eSl 1 false F4_ l_)), (2, .own (.box (wf m_))), (4, .own (.box (.agg [.atom (.map none), .atom (.map none), .atom (.map none)]))), (5, .own (.box ((zO (eMp (eI .i64) eB) (eMp F0_ eB) (eMp zF eB)) r_)))] [Hc h0f (x := ()) h0 (loN), Hh (.cut 0)] ?_ fun J1 bf => ?_
 ·rintro ⟨ai, ak, am⟩ aa
  unfold vR at aa
  obtain rfl := zk aa
  let ZE : List HO := []
  exact z3K X0 zD hC Y1 hE 4000 (hs := hoH ZE) (x := (.agg [.opq (y9 (zm (eI .i64) eB ai)), .opq (y9 (zm F0_ eB ak)), .opq (y9 (zm zF eB am))])) (hoB ZE) (by kernel_rfl) (LeV.refl _)
 ·obtain ⟨t2, ht2, aa⟩ := zt aa
  refine yL X0 hC vS [1,1,2,1,0] [J1] (fun s => x9 m_ l_ s.1 s.2.1 s.2.2.1 s.2.2.2) (fun x => Zt m_ l_ x.1 x.2.1 x.2.2.1 x.2.2.2) (r_.states_, r_.edges_, r_.pairs_, 0) ht2  [Ha (lnM F4_ l_)] ?_
  rintro ⟨bc, bn, a6, dl⟩ m2 br ae hl1 J2 bj
  try unfold x9 at ae
  rcases yq ae with ⟨c0, ae⟩ | ⟨c0, ae⟩
  ·obtain ⟨bk, h1, ae⟩ := zt ae
   obtain ⟨ah, h2, ae⟩ := zt ae
   obtain rfl := zk ae
   exact yB ((ku (P := Tryd.prog) wz 5 0 [.deref] (fa := .fn 32 []) (r := .tup []) (xl := []) (xr := [wf m_, F4_ bk]) (qs := [(y9 (zm (eI .i64) eB bc)), (y9 (zm F0_ eB bn)), (y9 (zm zF eB a6))]) (qs' := [(y9 (zm (eI .i64) eB ah.states_)), (y9 (zm F0_ eB ah.edges_)), (y9 (zm zF eB ah.pairs_))]) (es := [(zm (eI .i64) eB bc), (zm F0_ eB bn), (zm zF eB a6)]) (es' := [(zm (eI .i64) eB ah.states_), (zm F0_ eB ah.edges_), (zm zF eB ah.pairs_)]) (.inr rfl) (z1u (by kernel_rfl)) (.cons (xQ (zm (eI .i64) eB bc)) (.cons (xQ (zm F0_ eB bn)) (.cons (xQ (zm zF eB a6)) (.nil)))) (fun us hu => qC hC _ _ _ _ h2 us hu) (some 18)).or X0) hC bj (ah.states_, ah.edges_, ah.pairs_, w64 (dl + 1)) hl1 [Hq c0, Hi F4_ h1, Hn (⟨rfl, leP (show XO [] [] from inferInstance), leP (show XO [wf m_, F4_ bk] [wf m_, F4_ bk] from inferInstance), rfl, rfl⟩ : ([.fn 32 []] : List A) = [.fn 32 []] ∧ LeP [] [] ∧ LeP [wf m_, F4_ bk] [wf m_, F4_ bk] ∧ T.als 5 [.deref] 0 0 = T.als 5 [.deref] 0 0 ∧ (some (.agg [.opq (y9 (zm (eI .i64) eB bc)), .opq (y9 (zm F0_ eB bn)), .opq (y9 (zm zF eB a6))]) : Option A) = some (.agg [.opq (y9 (zm (eI .i64) eB bc)), .opq (y9 (zm F0_ eB bn)), .opq (y9 (zm zF eB a6))]))]
  ·obtain rfl := zk ae
   obtain rfl := hl1
   exact yB X0 hC bf (bc, bn, a6) aa [Hq c0]
def Zl : Code := (Tryd.f31.body).getD .skip
def yg : yW := spF (α := List Int) (ρ := List Int) 31 (fun x => [F4_ x]) (fun r => (eOs 1 false (eI .i64)) r) (fun x => zP x) [] (KZ)
theorem Zy (hC : zS Tryd.prog ctr) : yg.Ok Tryd.prog := by
 refine yh ?_
 rintro s_ r0 aa
 try unfold zP at aa
 refine yO true [(2, none)] Zl 8 Tryd.func31 fun E hE => ?_
 refine z0c rfl 0 (sz := 1) (t := false) (es := s_.map (eI .i64)) (by kernel_rfl) fun ax hv0 hn => ?_
 rcases hn with ⟨hn0, he0⟩ | hn0
 ·obtain ⟨_, aa⟩ := gdE aa
  rw [show s_ = [] from List.map_eq_nil_iff.1 he0] at aa
  obtain rfl := zk aa
  exact yEx ((z8l zD 4 43 (by kernel_rfl) hn0).or ((xMv Tryd.prog 3 0 ax hv0).or X0)) hC hE [Hn (rfl : some ax = some ax), Hn (⟨rfl, rfl⟩ : T.d (.atom ax) = T.d (.atom ax) ∧ T.d (.atom (.slice none 0 0)) = T.d (.atom (.slice none 0 0))), qT] (eOs 1 true (eI .i64) []) (show LeV (eOs 1 true (eI .i64) []) (eOs 1 false (eI .i64) ([] : List Int)) from inferInstance)
 ·obtain ⟨g0, aa⟩ := gdE aa
  obtain rfl := zk aa
  exact yE ((z8l zD 4 43 (by kernel_rfl) hn0).or ((xMv Tryd.prog 3 0 ax hv0).or X0)) hC hE [Hn (rfl : some ax = some ax), Hn (⟨rfl, rfl⟩ : T.d (.atom ax) = T.d (.atom ax) ∧ T.d (.atom (.slice none 0 0)) = T.d (.atom (.slice none 0 0))), qF, Hn (dM (eI .i64) s_), Hn (aL (eI .i64) (eI .i64) g0), Hl (aM0 (eI .i64) s_)]
def ZB : Code := (Tryd.f30.body).getD .skip
def yk : yW := spF (α := List Int) (ρ := List Int) 30 (fun x => [F4_ x]) (fun r => F1_ r) (fun x => zY x) [] (KZ)
theorem ZT (hC : zS Tryd.prog ctr) : yk.Ok Tryd.prog := by
 refine yh ?_
 rintro s_ r0 aa
 try unfold zY at aa
 refine yO true [(2, none)] ZB 9 Tryd.func30 fun E hE => ?_
 obtain ⟨g0, aa⟩ := gdE aa
 obtain rfl := zk aa
 exact yE X0 hC hE [Ha (lnM (eI .i64) s_), Ha (lnM (eI .i64) s_), Hn (slB g0), Hn (slC g0), Hn (z8U (eI .i64) g0), Ha (zdg 1 (eI .i64) s_ 0 ((s_.length : Nat) : Int).toNat)]
def Wf : Code := (Tryd.f75.body).getD .skip
def uY : yW := spF (α := z8 × Int) (ρ := z8 × Int) 75 (fun x => [wf x.1, (eI .i64) x.2]) (fun r => (zei 87 z5P (eSp (eI .i64))) r) (fun x => qu x.1 x.2) [] (Us)
theorem WE (hC : zS Tryd.prog ctr) : uY.Ok Tryd.prog := by
 refine yh ?_
 rintro ⟨m_, from_⟩ r0 aa
 try unfold qu at aa
 refine yO true [(4, none)] Wf 6 Tryd.func75 fun E hE => ?_
 obtain rfl := zk aa
 exact yEx X0 hC hE [] (.fn 87 [.sptr (.agg [I m_.Inputs, I m_.Outputs, eSl 1 false qq m_.Rows]), .sptr (I from_)]) (show LeV (.fn 87 [.sptr (.agg [I m_.Inputs, I m_.Outputs, eSl 1 false qq m_.Rows]), .sptr (I from_)]) (.fn 87 [.sptr (.agg [I (((m_, from_).1).Inputs), I (((m_, from_).1).Outputs), eSl 1 false qq (((m_, from_).1).Rows)]), .sptr (I ((m_, from_).2))]) from inferInstance)
def yR : Code := (Tryd.f87.body).getD .skip
abbrev ZF (x0 : z8) (YY : σ → z0h) (ay : zh) (yr : σ × Bool) (av : List zf) (cm : Int) (fg : List Bool) (ep : List zh) : List (Nat × T) := [(0, .own (.opq (YY yr.1).q)), (1, .d (.sptr (wf x0))), (4, .own (eOs 1 true eB fg)), (5, .own (eDq 3 uo ep)), (6, .own (.box (uo ay))), (36, .d (eSl 2 false F6_ av)), (37, .d (I ((av.length : Nat) : Int))), (38, .d (I cm))]
abbrev ZC (x0 : z8) (YY : σ → z0h) (ay : zh) (yr : σ × Bool) (av : List zf) (cj : List Bool) (bq : List zh) (cm : Int) : List (Nat × T) := [(0, .own (.opq (YY yr.1).q)), (1, .d (.sptr (wf x0))), (4, .own (eOs 1 true eB cj)), (5, .own (eDq 3 uo bq)), (6, .own (.box (uo ay))), (36, .d (eSl 2 false F6_ av)), (37, .d (I ((av.length : Nat) : Int))), (38, .d (I cm))]
abbrev ZD (x0 : z8) (YY : σ → z0h) (eb : σ) (eu : List Bool) (ba : List zh) : List (Nat × T) := [(0, .own (.opq (YY eb).q)), (1, .d (.sptr (wf x0))), (4, .own (eOs 1 true eB eu)), (5, .own (eDq 3 uo ba))]
theorem Xl (hC : zS Tryd.prog ctr) (x0 : z8) (x1 : Int) : z5O Tryd.prog (.fn 87 [.sptr (.agg [I x0.Inputs, I x0.Outputs, eSl 1 false qq x0.Rows]), .sptr (I x1)]) (fun (x : zh) (_ : Bool) (_ : Value) => [uo x]) (@v6 x0 x1) := by
 refine z7O (tt := wz) (nt := 68) (body := yR) zD Tryd.func87 rfl (by kernel_rfl) rfl rfl (by show (3 : Nat) ≤ 68; decide) ?_
 intro σ yv YY yy hy sg r0 aa E hE
 unfold v6 at aa
 obtain ⟨g0, aa⟩ := gdE aa
 obtain ⟨gv, h0, aa⟩ := zt aa
 obtain ⟨t1, ht1, aa⟩ := zt aa
 refine yLx X0 hC yR [1,1,1,0] [] (fun s => xY x0 yy s.1 s.2.1 s.2.2) (fun x => ZD x0 YY x.1 x.2.1 x.2.2) (sg, ((List.replicate ((x0.Rows.length : Nat) : Int).toNat false).set x1.toNat true), ([(zh.mk x1 (-1) (-1))] : List zh)) ht1 [(0, .own (.opq (YY sg).q)), (1, .d (.sptr (wf x0))), (4, .own (eOs 1 true eB ((List.replicate ((x0.Rows.length : Nat) : Int).toNat false).set x1.toNat true))), (5, .own (eOs 3 true uo ([(zh.mk x1 (-1) (-1))])))] inferInstance [Ha (lnM qq x0.Rows), Hn (rL g0), Ha (rM 1 eB ((x0.Rows.length : Nat) : Int) false), Hn (iL eB h0), Hs (iM eB h0), Hs (iM eB h0), Hl (sM eB (List.replicate ((x0.Rows.length : Nat) : Int).toNat false) x1 true)] ?_
 rintro ⟨eb, eu, ba⟩ m1 br ae hl1 J1 bf
 try unfold xY at ae
 let Z0 : List HO := [Hn (rfl : eDq 3 uo ba = A.opq (VG 3 (ba.map uo)).q), Ha (lnM uo ba)]
 rcases yq ae with ⟨c0, ae⟩ | ⟨c0, ae⟩
 ·refine yA ((xQl zD 20 149 3 (ba.map uo) (by kernel_rfl)).or X0) hC yR [1,1,1,0,0,1,0] [J1] [(0, .own (.opq (YY eb).q)), (1, .d (.sptr (wf x0))), (4, .own (eOs 1 true eB eu)), (5, .own (eDq 3 uo ba))] (Z0 ++ [Hq c0, Hh (.cut 0)]) ?_
  obtain ⟨ay, h1, ae⟩ := zt ae
  refine Ku (by kernel_rfl) (x := (sub [1,1,1,0,0,1,0,0] yR)) (y := (sub [1,1,1,0,0,1,0,1] yR)) 5 (fun st1 => Own.canon [0,1,4,5,6] st1 = ofL [(0, .own (.opq (YY eb).q)), (1, .d (.sptr (wf x0))), (4, .own (eOs 1 true eB eu)), (5, .own (eDq 3 uo ba)), (6, .own (.box (uo ay)))]) (fun fk => yF ((xQd zD 24 3 5 fk (0 : Int) (ba.map uo) (uo ay)).or ((xQi zD 23 3 5 fk (ba.map uo)).or X0)) hC .normal [(0, .own (.opq (YY eb).q)), (1, .d (.sptr (wf x0))), (4, .own (eOs 1 true eB eu)), (5, .own (eDq 3 uo ba)), (6, .own (.box (uo ay)))] [Hn (⟨rfl, rfl, rfl, rfl, i0 h1, (iL uo h1).2⟩ : T.als 5 [] 0 0 = T.als 5 [] 0 0 ∧ some fk = some fk ∧ T.own (eDq 3 uo ba) = T.own (eDq 3 uo ba) ∧ some 3 = some 3 ∧ (0 : Int) ≤ 0 ∧ (0 : Int).toNat < (ba.map uo).length), Hn (⟨rfl, rfl, rfl, iM uo h1, rfl, WD.isD ay⟩ : T.d (.atom (z1t 3 fk (0 : Int))) = T.d (.atom (z1t 3 fk (0 : Int))) ∧ some fk = some fk ∧ T.own (eDq 3 uo ba) = T.own (eDq 3 uo ba) ∧ (ba.map uo)[(0 : Int).toNat]? = some (uo ay) ∧ true = true ∧ (uo ay).isD = true)] fun st0 h0 => ⟨rfl, h0⟩) fun st1 h1 => z3J h1 ?_
  obtain ⟨g1, ae⟩ := gdE ae
  obtain ⟨yr, h2, ae⟩ := zt ae
  let Z1 : List HO := [Hn (rfl : eDq 3 uo ba = A.opq (VG 3 (ba.map uo)).q), Hn (⟨g1.1, cuB uo g1⟩ : (0 : Int) ≤ 1 ∧ (1 : Int).toNat ≤ (ba.map uo).length), Hn (drM uo ba (1 : Int).toNat), Hn (z7a (yv := yv) (Y := YY) (enc := (fun (x : zh) (_ : Bool) (_ : Value) => [uo x])) (s := eb) (x := ay) (s' := yr.1) (b := yr.2) (v := .nilFunc) [uo ay] (show XO [uo ay] [uo ay] from inferInstance))]
  rcases yq ae with ⟨c1, ae⟩ | ⟨c1, ae⟩
  ·obtain rfl := zk ae
   obtain rfl := hl1
   obtain rfl := zk aa
   exact yF ((z5Q (P := Tryd.prog) wz hy 29 (s := eb) (x := ay) (s' := yr.1) (b := yr.2) .nilFunc h2).or ((xQs zD 26 3 (ba.map uo) ((ba.drop (1 : Int).toNat).map uo)).or X0)) hC .ret [(0, .own (.opq (YY yr.1).q))] (Z1 ++ [Hq c1]) fun st0 h0 => hE _ st0 (.inr rfl) h0
  ·obtain ⟨av, h3, ae⟩ := zt ae
   obtain ⟨t2, ht2, ae⟩ := zt ae
   refine yL ((z5Q (P := Tryd.prog) wz hy 29 (s := eb) (x := ay) (s' := yr.1) (b := yr.2) .nilFunc h2).or ((xQs zD 26 3 (ba.map uo) ((ba.drop (1 : Int).toNat).map uo)).or X0)) hC yR [1,1,1,0,0,1,0,1,1,1,1,0] [J1] (fun s => xk ay yr av s.1 s.2.1 s.2.2) (fun x => ZC x0 YY ay yr av x.1 x.2.1 x.2.2) (eu, (ba.drop (1 : Int).toNat), 0) ht2  (Z1 ++ [Hq c1, Hi qq h3, Ha (lnM F6_ av)]) ?_
   rintro ⟨cj, bq, cm⟩ m2 fj al hl2 J2 bj
   try unfold xk at al
   rcases yq al with ⟨c2, al⟩ | ⟨c2, al⟩
   ·refine yJ X0 hC yR [1,1,1,0,0,1,0,1,1,1,1,0,0,1,1] [J1, J2] [0,1,4,5,6,36,37,38] (fun z : List Bool × List zh => yn cm z.1 z.2 = some fj) (fun z => ZF x0 YY ay yr av cm z.1 z.2) [(0, .own (.opq (YY yr.1).q)), (1, .d (.sptr (wf x0))), (4, .own (eOs 1 true eB cj)), (5, .own (eDq 3 uo bq)), (6, .own (.box (uo ay))), (36, .d (eSl 2 false F6_ av)), (37, .d (I ((av.length : Nat) : Int))), (38, .d (I cm))] [Hq c2, Hh (.cut 0)] ?_ fun J3 cr => ?_
    ·rintro ⟨fg, ep⟩ al
     unfold yn at al
     obtain rfl := zk al
     exact yB X0 hC bj (fg, ep, w64 (cm + 1)) hl2 []
    ·obtain ⟨aw, h4, al⟩ := zt al
     let Z2 : List HO := [Hi F6_ h4]
     rcases yq al with ⟨c3, al⟩ | ⟨c3, al⟩
     ·obtain ⟨gh, h5, al⟩ := zt al
      let Z3 : List HO := (Z2 ++ (rpN 4 (Hq c3) [Hn (iL eB h5), Hq c3, Hs (iM eB h5), Hq c3, Hq c3]))
      rcases yq al with ⟨c4, al⟩ | ⟨c4, al⟩
      ·obtain ⟨gq, h6, al⟩ := zt al
       obtain ⟨g2, al⟩ := gdE al
       exact yB ((xQa zD 66 3 (bq.map uo) ((bq ++ ([(zh.mk aw.To ay.state_ cm)] : List zh)).map uo)).or X0) hC cr ((cj.set aw.To.toNat true), (bq ++ ([(zh.mk aw.To ay.state_ cm)] : List zh))) al (Z3 ++ [Hq c4, Hn (iL eB h6), Hs (iM eB h6), Hs (iM eB h6), Hl (sM eB cj aw.To true), Hn (⟨rfl, dM uo ([(zh.mk aw.To ay.state_ cm)] : List zh), rfl⟩ : 3 = 3 ∧ A.areD (([(zh.mk aw.To ay.state_ cm)] : List zh).map uo) = true ∧ true = true), Hn (⟨rfl, aL uo uo g2, dM uo bq⟩ : eDq 3 uo bq = A.opq (VG 3 (bq.map uo)).q ∧ (bq.map uo).length + (([(zh.mk aw.To ay.state_ cm)] : List zh).map uo).length ≤ lim ∧ A.areD (bq.map uo) = true), Hn (aM uo bq ([(zh.mk aw.To ay.state_ cm)] : List zh))])
      ·exact yB X0 hC cr (cj, bq) al (Z3 ++ [Hq c4])
     ·exact yB X0 hC cr (cj, bq) al (Z2 ++ (rpN 7 (Hq c3) [qF]))
   ·obtain rfl := zk al
    obtain rfl := hl2
    obtain rfl := zk ae
    exact yB X0 hC bf (yr.1, cj, bq) hl1 [Hq c2]
 ·obtain rfl := zk ae
  obtain rfl := hl1
  obtain rfl := zk aa
  exact yF ((xQl zD 20 149 3 (ba.map uo) (by kernel_rfl)).or X0) hC .normal [(0, .own (.opq (YY eb).q))] (Z0 ++ [Hq c0]) fun st0 h0 => hE _ st0 (.inl rfl) h0
def vh : Code := (Tryd.f63.body).getD .skip
def kc : yW := spF (α := z8 × Int) (ρ := List (List Int) × List Bool) 63 (fun x => [wf x.1, (eI .i64) x.2]) (fun r => .tup [F7_ r.1, (eSl 1 true eB) r.2]) (fun x => jr x.1 x.2) [] (Us)
abbrev Wi (l_ : List (List Int)) (is : List Bool) : List (Nat × T) := [(6, .own (.box (eOs 1 true F1_ l_))), (7, .own (.box (eOs 1 true eB is)))]
abbrev qp (r_ : z8 × Int) (dm : List (List Int)) (dp : List Bool) : List (Nat × T) := [(6, .own (.box (eOs 1 true F1_ dm))), (7, .own (.box (eOs 1 true eB dp))), (19, .d (.fn 87 [.sptr (.agg [I r_.1.Inputs, I r_.1.Outputs, eSl 1 false qq r_.1.Rows]), .sptr (I r_.2)]))]
theorem Qm (hC : zS Tryd.prog ctr) (h0D : ctr.Has uY) (h01 : ctr.Has yg) (h00 : ctr.Has yk) : kc.Ok Tryd.prog := by
 refine yh ?_
 rintro ⟨m_, from_⟩ r0 aa
 try unfold jr at aa
 refine yO false [(4, none), (5, none)] vh 45 Tryd.func63 fun E hE => ?_
 obtain ⟨g0, aa⟩ := gdE aa
 obtain ⟨g1, aa⟩ := gdE aa
 refine yJ ((xMs zD 12 43).or X0) hC vh [1,1] [] [6,7] (fun z : List (List Int) × List Bool => qt z.1 z.2 = some r0) (fun z => Wi z.1 z.2) [(1, .d (I from_)), (2, .own (.box (wf m_))), (6, .own (.box (eOs 1 true F1_ (List.replicate ((m_.Rows.length : Nat) : Int).toNat ([] : List Int))))), (7, .own (.box (eOs 1 true eB (List.replicate ((m_.Rows.length : Nat) : Int).toNat false))))] [Ha (lnM qq m_.Rows), Hn (rL g0), Ha (rM 1 F1_ ((m_.Rows.length : Nat) : Int) ([] : List Int)), Ha (lnM qq m_.Rows), Hn (rL g1), Ha (rM 1 eB ((m_.Rows.length : Nat) : Int) false), Hh (.cut 0)] ?_ fun J1 bf => ?_
 ·rintro ⟨l_, is⟩ aa
  unfold qt at aa
  obtain rfl := zk aa
  exact yE X0 hC hE [Hm (shM F1_ F1_ l_), Hm (shM eB eB is)]
 ·obtain ⟨r_, h0, aa⟩ := zt aa
  obtain ⟨t2, ht2, aa⟩ := zt aa
  refine yAt X0 hC (sub [1,1,2,1,0] vh) (frs [1,1,2,1,0] [J1] vh []) [(6, .own (.box (eOs 1 true F1_ (List.replicate ((m_.Rows.length : Nat) : Int).toNat ([] : List Int))))), (7, .own (.box (eOs 1 true eB (List.replicate ((m_.Rows.length : Nat) : Int).toNat false)))), (19, .d (.fn 87 [.sptr (.agg [I r_.1.Inputs, I r_.1.Outputs, eSl 1 false qq r_.1.Rows]), .sptr (I r_.2)]))] [Hc h0D (x := (m_, from_)) h0 (loC wf m_ <| loC (eI .i64) from_ <| loN)] fun st0 h0 => ?_
  refine z8e (g := .tmp 19) (ps := [20]) (assign := (sub [1,1,2,1,0,0] vh)) (body := (sub [1,1,2,1,0,1] vh)) (K := 87) (caps := [.sptr (.agg [I r_.1.Inputs, I r_.1.Outputs, eSl 1 false qq r_.1.Rows]), .sptr (I r_.2)]) (by kernel_rfl) [6,7,19] (fun s => qp r_ s.1 s.2) (fun z => nomatch z) (fun z => nomatch z) ((fun (x : zh) (_ : Bool) (_ : Value) => [uo x])) (F := @v6 r_.1 r_.2) (fun s x => xu s.1 s.2 x) ((List.replicate ((m_.Rows.length : Nat) : Int).toNat ([] : List Int)), (List.replicate ((m_.Rows.length : Nat) : Int).toNat false)) t2 _ h0 inferInstance (by kernel_rfl) (by decide) (fun _ => rfl) (by rintro ⟨⟩) (by kernel_rfl) (fun _ _ _ => rfl) (Xl hC r_.1 r_.2) ht2 ?_ ?_
  ·rintro gx ⟨dm, dp⟩ bp vr br ae
   replace ae : xu dm dp bp = some br := ae
   unfold xu at ae
   refine yF X0 hC .normal [(6, .own (.box (eOs 1 true F1_ dm))), (7, .own (.box (eOs 1 true eB dp))), (8, .own (.box (uo bp))), (19, .d (.fn 87 [.sptr (.agg [I r_.1.Inputs, I r_.1.Outputs, eSl 1 false qq r_.1.Rows]), .sptr (I r_.2)]))] [] fun st0 h0 => ⟨rfl, z3J h0 ?_⟩
   obtain ⟨gu, h1, ae⟩ := zt ae
   let Z0 : List HO := [Hn (iL eB h1), Hs (iM eB h1), Hs (iM eB h1), Hl (sM eB dp bp.state_ true)]
   rcases yq ae with ⟨c0, ae⟩ | ⟨c0, ae⟩
   ·obtain ⟨bk, h2, ae⟩ := zt ae
    obtain ⟨ah, h3, ae⟩ := zt ae
    obtain ⟨g2, ae⟩ := gdE ae
    obtain ⟨aj, h4, ae⟩ := zt ae
    obtain ⟨cu, h5, ae⟩ := zt ae
    obtain rfl := zk ae
    exact yF X0 hC .normal (qp r_ (dm.set bp.state_.toNat aj) (dp.set bp.state_.toNat true)) (Z0 ++ [Hq c0, Hn (iL F1_ h2), Hs (iM F1_ h2), Hc h01 (x := bk) h3 (loC F1_ bk <| loN), Hq (dM (eI .i64) ([bp.input_] : List Int)), Hn (dM (eI .i64) ([bp.input_] : List Int)), Hn (aL (eI .i64) (eI .i64) g2), Hl (aM (eI .i64) ah ([bp.input_] : List Int)), Hg (QV h00), Hm (shM (eI .i64) (eI .i64) (ah ++ ([bp.input_] : List Int))), Hs (QX h00 (x := (ah ++ ([bp.input_] : List Int))) h4 (loC F4_ (ah ++ ([bp.input_] : List Int)) <| loN)), Hm (shM (eI .i64) (eI .i64) (ah ++ ([bp.input_] : List Int))), Hn (iL F1_ h5), Hs (iM F1_ h5), Hs (iM F1_ h5), Hl (sM F1_ dm bp.state_ aj)]) fun st0 h0 => ⟨rfl, _, h0, LeL.refl _⟩
   ·obtain rfl := zk ae
    exact yF X0 hC .normal (qp r_ dm (dp.set bp.state_.toNat true)) (Z0 ++ [Hq c0]) fun st0 h0 => ⟨rfl, _, h0, LeL.refl _⟩
  ·rcases t2 with ⟨dm, dp⟩ | z
   ·dsimp only at aa
    exact Kv (by kernel_rfl) (bf _ [(6, .own (.box (eOs 1 true F1_ dm))), (7, .own (.box (eOs 1 true eB dp)))] (dm, dp) aa (show Own.canon [6,7] _ = ofL _ by kernel_rfl) inferInstance)
   ·cases z
def Uo : Code := (Tryd.f44.body).getD .skip
def ju : yW := spF (α := z8) (ρ := List (List Int) × List Bool × Int) 44 (fun x => [wf x]) (fun r => .tup [F7_ r.1, (eSl 1 true eB) r.2.1, (eI .i64) r.2.2]) (fun x => qB x) [] (KZ)
theorem Uw (hC : zS Tryd.prog ctr) (h0e : ctr.Has vB) (h0E : ctr.Has kc) : ju.Ok Tryd.prog := by
 refine yh ?_
 rintro m_ r0 aa
 try unfold qB at aa
 refine yO false [(2, none), (3, none), (4, none)] Uo 20 Tryd.func44 fun E hE => ?_
 obtain ⟨r_, h0, aa⟩ := zt aa
 let Z0 : List HO := [Hc h0e (x := m_) h0 (loC wf m_ <| loN)]
 rcases yq aa with ⟨c0, aa⟩ | ⟨c0, aa⟩
 ·obtain rfl := zk aa
  exact yEx X0 hC hE (Z0 ++ [Hq c0, Hm (shM F4_ F4_ []), Hm (shM eB eB [])]) (.tup [eSl 1 true F1_ [], eSl 1 true eB [], I r_]) (show LeV (.tup [eSl 1 true F1_ [], eSl 1 true eB [], I r_]) (.tup [eSl 1 true F1_ ([] : List (List Int)), eSl 1 true eB ([] : List Bool), I r_]) from inferInstance)
 ·obtain ⟨ah, h1, aa⟩ := zt aa
  obtain rfl := zk aa
  exact yE X0 hC hE (Z0 ++ [Hq c0, Hc h0E (x := (m_, 0)) h1 (loC wf m_ <| loC (eI .i64) 0 <| loN)])
def xg : Code := (Tryd.f25.body).getD .skip
def wm : yW := spF (α := z8 × Int) (ρ := List za) 25 (fun x => [wf x.1, (eI .i64) x.2]) (fun r => (eOs 5 false (zb F4_ zF zB)) r) (fun x => wv x.1 x.2) [] (Us)
abbrev Xi (out : List za) : List (Nat × T) := [(8, .own (eOs 5 false (zb F4_ zF zB) out))]
abbrev Xh (m_ : z8) (goal : Int) (r_ : List (List Int) × List Bool × Int) (ar : Int) (a7 : List za) : List (Nat × T) := [(1, .d (I goal)), (2, .own (.box (wf m_))), (5, .d (eSl 1 true F1_ r_.1)), (6, .d (eSl 1 true eB r_.2.1)), (8, .own (eOs 5 false (zb F4_ zF zB) a7)), (24, .d (eSl 1 false qq m_.Rows)), (25, .d (I ((m_.Rows.length : Nat) : Int))), (26, .d (I ar))]
abbrev Xg (m_ : z8) (goal : Int) (r_ : List (List Int) × List Bool × Int) (ar : Int) (av : List zf) (az : Int) (db : List za) : List (Nat × T) := [(1, .d (I goal)), (2, .own (.box (wf m_))), (5, .d (eSl 1 true F1_ r_.1)), (6, .d (eSl 1 true eB r_.2.1)), (8, .own (eOs 5 false (zb F4_ zF zB) db)), (9, .d (.sptr (I ar))), (24, .d (eSl 1 false qq m_.Rows)), (25, .d (I ((m_.Rows.length : Nat) : Int))), (26, .d (I ar)), (49, .d (eSl 2 false F6_ av)), (50, .d (I ((av.length : Nat) : Int))), (51, .d (I az))]
abbrev Xf (m_ : z8) (goal : Int) (r_ : List (List Int) × List Bool × Int) (ar : Int) (av : List zf) (az : Int) (aj : List Int) (bz : List zf) (bt : Int) (fy : List za) : List (Nat × T) := [(1, .d (I goal)), (2, .own (.box (wf m_))), (5, .d (eSl 1 true F1_ r_.1)), (6, .d (eSl 1 true eB r_.2.1)), (8, .own (eOs 5 false (zb F4_ zF zB) fy)), (9, .d (.sptr (I ar))), (11, .own (.box (I az))), (13, .d (eSl 1 false (eI .i64) (aj ++ ([az] : List Int)))), (24, .d (eSl 1 false qq m_.Rows)), (25, .d (I ((m_.Rows.length : Nat) : Int))), (26, .d (I ar)), (49, .d (eSl 2 false F6_ av)), (50, .d (I ((av.length : Nat) : Int))), (51, .d (I az)), (84, .d (eSl 2 false F6_ bz)), (85, .d (I ((bz.length : Nat) : Int))), (86, .d (I bt))]
abbrev Xc (m_ : z8) (goal : Int) (r_ : List (List Int) × List Bool × Int) (ar : Int) (av : List zf) (az : Int) (aj : List Int) (bz : List zf) (dn : List za) (bt : Int) : List (Nat × T) := [(1, .d (I goal)), (2, .own (.box (wf m_))), (5, .d (eSl 1 true F1_ r_.1)), (6, .d (eSl 1 true eB r_.2.1)), (8, .own (eOs 5 false (zb F4_ zF zB) dn)), (9, .d (.sptr (I ar))), (11, .own (.box (I az))), (13, .d (eSl 1 false (eI .i64) (aj ++ ([az] : List Int)))), (24, .d (eSl 1 false qq m_.Rows)), (25, .d (I ((m_.Rows.length : Nat) : Int))), (26, .d (I ar)), (49, .d (eSl 2 false F6_ av)), (50, .d (I ((av.length : Nat) : Int))), (51, .d (I az)), (84, .d (eSl 2 false F6_ bz)), (85, .d (I ((bz.length : Nat) : Int))), (86, .d (I bt))]
abbrev Xd (m_ : z8) (goal : Int) (r_ : List (List Int) × List Bool × Int) (ar : Int) (av : List zf) (cd : List za) (az : Int) : List (Nat × T) := [(1, .d (I goal)), (2, .own (.box (wf m_))), (5, .d (eSl 1 true F1_ r_.1)), (6, .d (eSl 1 true eB r_.2.1)), (8, .own (eOs 5 false (zb F4_ zF zB) cd)), (9, .d (.sptr (I ar))), (24, .d (eSl 1 false qq m_.Rows)), (25, .d (I ((m_.Rows.length : Nat) : Int))), (26, .d (I ar)), (49, .d (eSl 2 false F6_ av)), (50, .d (I ((av.length : Nat) : Int))), (51, .d (I az))]
abbrev Xe (m_ : z8) (goal : Int) (r_ : List (List Int) × List Bool × Int) (aq : List za) (ar : Int) : List (Nat × T) := [(1, .d (I goal)), (2, .own (.box (wf m_))), (5, .d (eSl 1 true F1_ r_.1)), (6, .d (eSl 1 true eB r_.2.1)), (8, .own (eOs 5 false (zb F4_ zF zB) aq)), (24, .d (eSl 1 false qq m_.Rows)), (25, .d (I ((m_.Rows.length : Nat) : Int))), (26, .d (I ar))]
def zI : XH Tryd.prog := ((z6B zD (.inl 107) [104]).or ((z6B zD (.inl 71) [13]).or X0))
theorem Vm (hC : zS Tryd.prog ctr) (h0F : ctr.Has ju) (h01 : ctr.Has yg) (h00 : ctr.Has yk) : wm.Ok Tryd.prog := by
 refine yh ?_
 rintro ⟨m_, goal⟩ r0 aa
 try unfold wv at aa
 refine yO true [(4, none)] xg 114 Tryd.func25 fun E hE => ?_
 obtain ⟨r_, h0, aa⟩ := zt aa
 refine yJ zI hC xg [1,1,1] [] [8] (fun z : List za => ua z = some r0) (fun z => Xi z) [(1, .d (I goal)), (2, .own (.box (wf m_))), (5, .d (eSl 1 true F1_ r_.1)), (6, .d (eSl 1 true eB r_.2.1)), (8, .own (eOs 5 true (zb F4_ zF zB) []))] [Hc h0F (x := m_) h0 (loC wf m_ <| loN), Hh (.cut 1)] ?_ fun J1 bf => ?_
 ·rintro out aa
  unfold ua at aa
  obtain rfl := zk aa
  exact yE zI hC hE []
 ·obtain ⟨t2, ht2, aa⟩ := zt aa
  refine yLx zI hC xg [1,1,1,2,1,0] [J1] (fun s => wq m_ goal r_ s.1 s.2) (fun x => Xe m_ goal r_ x.1 x.2) (([] : List za), 0) ht2 [(1, .d (I goal)), (2, .own (.box (wf m_))), (5, .d (eSl 1 true F1_ r_.1)), (6, .d (eSl 1 true eB r_.2.1)), (8, .own (eOs 5 true (zb F4_ zF zB) [])), (24, .d (eSl 1 false qq m_.Rows)), (25, .d (I ((m_.Rows.length : Nat) : Int))), (26, .d (I 0))] inferInstance [Ha (lnM qq m_.Rows)] ?_
  rintro ⟨aq, ar⟩ m2 br ae hl1 J2 bj
  try unfold wq at ae
  rcases yq ae with ⟨c0, ae⟩ | ⟨c0, ae⟩
  ·refine yJ zI hC xg [1,1,1,2,1,0,0,1,1] [J1, J2] [1,2,5,6,8,24,25,26] (fun z : List za => xc ar z = some br) (fun z => Xh m_ goal r_ ar z) [(1, .d (I goal)), (2, .own (.box (wf m_))), (5, .d (eSl 1 true F1_ r_.1)), (6, .d (eSl 1 true eB r_.2.1)), (8, .own (eOs 5 false (zb F4_ zF zB) aq)), (24, .d (eSl 1 false qq m_.Rows)), (25, .d (I ((m_.Rows.length : Nat) : Int))), (26, .d (I ar))] [Hq c0, Hh (.cut 0)] ?_ fun J3 cr => ?_
   ·rintro a7 ae
    unfold xc at ae
    obtain rfl := zk ae
    exact yB zI hC bj (a7, w64 (ar + 1)) hl1 []
   ·obtain ⟨av, h1, ae⟩ := zt ae
    obtain ⟨u_, h2, ae⟩ := zt ae
    let Z0 : List HO := [Hi qq h1, Hi eB h2]
    rcases yq ae with ⟨c1, ae⟩ | ⟨c1, ae⟩
    ·exact yB zI hC cr aq ae (Z0 ++ [Hq c1])
    ·rcases yq ae with ⟨c2, ae⟩ | ⟨c2, ae⟩
     ·obtain ⟨ew, h3, ae⟩ := zt ae
      obtain ⟨g0, ae⟩ := gdE ae
      exact yB ((xLs zD 42 (eSl 1 true (eI .i64) ew) (eSl 1 false (eI .i64) ew) inferInstance).or zI) hC cr (aq ++ ([(za.mk ew (z7.mk ar 0 0) (.inl ar))] : List za)) ae (Z0 ++ [Hq c1, Hh (.n 1 [9]), Hq c2, Hi F1_ h3, Hn (rfl : T.d (eSl 1 true (eI .i64) ew) = T.d (eSl 1 true (eI .i64) ew)), Hq (dM (zb F4_ zF zB) ([(za.mk ew (z7.mk ar 0 0) (.inl ar))] : List za)), Hn (dM (zb F4_ zF zB) ([(za.mk ew (z7.mk ar 0 0) (.inl ar))] : List za)), Hn (aL (zb F4_ zF zB) (zb F4_ zF zB) g0), Hl (aM (zb F4_ zF zB) aq ([(za.mk ew (z7.mk ar 0 0) (.inl ar))] : List za))])
     ·obtain ⟨t4, ht4, ae⟩ := zt ae
      refine yL zI hC xg [1,1,1,2,1,0,0,1,1,2,0,1,1,1,1,0] [J1, J2, J3] (fun s => wp m_ goal r_ ar av s.1 s.2) (fun x => Xd m_ goal r_ ar av x.1 x.2) (aq,0) ht4  (Z0 ++ [Hq c1, Hh (.n 1 [9]), Hq c2, Ha (lnM F6_ av)]) ?_
      rintro ⟨cd, az⟩ m4 fj al hl2 J4 eg
      try unfold wp at al
      rcases yq al with ⟨c3, al⟩ | ⟨c3, al⟩
      ·refine yJ zI hC xg [1,1,1,2,1,0,0,1,1,2,0,1,1,1,1,0,0,1,1] [J1, J2, J3, J4] [1,2,5,6,8,9,24,25,26,49,50,51] (fun z : List za => xa az z = some fj) (fun z => Xg m_ goal r_ ar av az z) [(1, .d (I goal)), (2, .own (.box (wf m_))), (5, .d (eSl 1 true F1_ r_.1)), (6, .d (eSl 1 true eB r_.2.1)), (8, .own (eOs 5 false (zb F4_ zF zB) cd)), (9, .d (.sptr (I ar))), (24, .d (eSl 1 false qq m_.Rows)), (25, .d (I ((m_.Rows.length : Nat) : Int))), (26, .d (I ar)), (49, .d (eSl 2 false F6_ av)), (50, .d (I ((av.length : Nat) : Int))), (51, .d (I az))] [Hq c3, Hh (.cut 0)] ?_ fun J5 d8 => ?_
       ·rintro db al
        unfold xa at al
        obtain rfl := zk al
        exact yB zI hC eg (db, w64 (az + 1)) hl2 []
       ·obtain ⟨aw, h4, al⟩ := zt al
        let Z1 : List HO := [Hi F6_ h4]
        rcases yq al with ⟨c4, al⟩ | ⟨c4, al⟩
        ·exact yB zI hC d8 cd al (Z1 ++ [Hq c4])
        ·obtain ⟨gl, h5, al⟩ := zt al
         obtain ⟨ah, h6, al⟩ := zt al
         obtain ⟨aj, h7, al⟩ := zt al
         obtain ⟨g1, al⟩ := gdE al
         let Z2 : List HO := (Z1 ++ [Hq c4, Hi F1_ h5, Hc h01 (x := gl) h6 (loC F1_ gl <| loN), Hg (QV h00), Hm (shM (eI .i64) (eI .i64) ah), Hs (QX h00 (x := ah) h7 (loC F4_ ah <| loN)), Hm (shM (eI .i64) (eI .i64) ah), Hq (dM (eI .i64) ([az] : List Int)), Hn (dM (eI .i64) ([az] : List Int)), Hn (aN (eI .i64) (eI .i64) g1 (by simp)), Hl (aM (eI .i64) aj ([az] : List Int))])
         rcases yq al with ⟨c5, al⟩ | ⟨c5, al⟩
         ·obtain ⟨g2, al⟩ := gdE al
          exact yB zI hC d8 (cd ++ ([(za.mk (aj ++ ([az] : List Int)) (z7.mk ar az 0) (.inr (.inl (ar, az))))] : List za)) al (Z2 ++ [Hq c5, Hm (shM (eI .i64) (eI .i64) (aj ++ ([az] : List Int))), Hq (dM (zb F4_ zF zB) ([(za.mk (aj ++ ([az] : List Int)) (z7.mk ar az 0) (.inr (.inl (ar, az))))] : List za)), Hn (dM (zb F4_ zF zB) ([(za.mk (aj ++ ([az] : List Int)) (z7.mk ar az 0) (.inr (.inl (ar, az))))] : List za)), Hn (aL (zb F4_ zF zB) (zb F4_ zF zB) g2), Hl (aM (zb F4_ zF zB) cd ([(za.mk (aj ++ ([az] : List Int)) (z7.mk ar az 0) (.inr (.inl (ar, az))))] : List za))])
         ·obtain ⟨bz, h8, al⟩ := zt al
          obtain ⟨t6, ht6, al⟩ := zt al
          refine yL zI hC xg [1,1,1,2,1,0,0,1,1,2,0,1,1,1,1,0,0,1,1,2,0,1,1,1,1,1,0] [J1, J2, J3, J4, J5] (fun s => wo ar az aj bz s.1 s.2) (fun x => Xc m_ goal r_ ar av az aj bz x.1 x.2) (cd,0) ht6  (Z2 ++ [Hq c5, Hi qq h8, Ha (lnM F6_ bz), Hh (.n 1 [13]), Hm (shM (eI .i64) (eI .i64) (aj ++ ([az] : List Int)))]) ?_
          rintro ⟨dn, bt⟩ m6 gw ct hl3 J6 gf
          try unfold wo at ct
          rcases yq ct with ⟨c6, ct⟩ | ⟨c6, ct⟩
          ·refine yJ zI hC xg [1,1,1,2,1,0,0,1,1,2,0,1,1,1,1,0,0,1,1,2,0,1,1,1,1,1,0,0,1,1] [J1, J2, J3, J4, J5, J6] [1,2,5,6,8,9,11,13,24,25,26,49,50,51,84,85,86] (fun z : List za => wr bt z = some gw) (fun z => Xf m_ goal r_ ar av az aj bz bt z) [(1, .d (I goal)), (2, .own (.box (wf m_))), (5, .d (eSl 1 true F1_ r_.1)), (6, .d (eSl 1 true eB r_.2.1)), (8, .own (eOs 5 false (zb F4_ zF zB) dn)), (9, .d (.sptr (I ar))), (11, .own (.box (I az))), (13, .d (eSl 1 false (eI .i64) (aj ++ ([az] : List Int)))), (24, .d (eSl 1 false qq m_.Rows)), (25, .d (I ((m_.Rows.length : Nat) : Int))), (26, .d (I ar)), (49, .d (eSl 2 false F6_ av)), (50, .d (I ((av.length : Nat) : Int))), (51, .d (I az)), (84, .d (eSl 2 false F6_ bz)), (85, .d (I ((bz.length : Nat) : Int))), (86, .d (I bt))] [Hq c6, Hh (.cut 0)] ?_ fun J7 gp => ?_
           ·rintro fy ct
            unfold wr at ct
            obtain rfl := zk ct
            exact yB zI hC gf (fy, w64 (bt + 1)) hl3 []
           ·obtain ⟨fz, h9, ct⟩ := zt ct
            let Z3 : List HO := [Hi F6_ h9]
            rcases yq ct with ⟨c7, ct⟩ | ⟨c7, ct⟩
            ·obtain ⟨ap, h10, ct⟩ := zt ct
             obtain ⟨au, h11, ct⟩ := zt ct
             obtain ⟨g3, ct⟩ := gdE ct
             obtain ⟨g4, ct⟩ := gdE ct
             exact yB zI hC gp (dn ++ ([(za.mk (au ++ ([bt] : List Int)) (z7.mk ar az bt) (.inr (.inr (z7.mk ar az bt))))] : List za)) ct (Z3 ++ [Hq c7, Hh (.n 2 [16]), Hc h01 (x := (aj ++ ([az] : List Int))) h10 (loC F4_ (aj ++ ([az] : List Int)) <| loN), Hg (QV h00), Hm (shM (eI .i64) (eI .i64) ap), Hs (QX h00 (x := ap) h11 (loC F4_ ap <| loN)), Hm (shM (eI .i64) (eI .i64) ap), Hq (dM (eI .i64) ([bt] : List Int)), Hn (dM (eI .i64) ([bt] : List Int)), Hn (aN (eI .i64) (eI .i64) g3 (by simp)), Hl (aM (eI .i64) au ([bt] : List Int)), Hm (shM (eI .i64) (eI .i64) (au ++ ([bt] : List Int))), Hq (dM (zb F4_ zF zB) ([(za.mk (au ++ ([bt] : List Int)) (z7.mk ar az bt) (.inr (.inr (z7.mk ar az bt))))] : List za)), Hn (dM (zb F4_ zF zB) ([(za.mk (au ++ ([bt] : List Int)) (z7.mk ar az bt) (.inr (.inr (z7.mk ar az bt))))] : List za)), Hn (aL (zb F4_ zF zB) (zb F4_ zF zB) g4), Hl (aM (zb F4_ zF zB) dn ([(za.mk (au ++ ([bt] : List Int)) (z7.mk ar az bt) (.inr (.inr (z7.mk ar az bt))))] : List za))])
            ·exact yB zI hC gp dn ct (Z3 ++ [Hq c7])
          ·obtain rfl := zk ct
           obtain rfl := hl3
           exact yB zI hC d8 dn al [Hq c6]
      ·obtain rfl := zk al
       obtain rfl := hl2
       exact yB zI hC cr cd ae [Hq c3]
  ·obtain rfl := zk ae
   obtain rfl := hl1
   exact yB zI hC bf aq aa [Hq c0]
def XG : Code := (Tryd.f45.body).getD .skip
theorem XT (hC : zS Tryd.prog ctr) : ∀ (x0 : Int) (x_ : zg) (r0 : Bool), uD x0 x_ = some r0 → ∀ us : List Value, us.length = 3 → vA Tryd.prog (.fn 45 [.sptr (I x0)]) ([] ++ .agg (us.map .atom) :: []) (ZA us [zm (eI .i64) eB x_.states_, zm F0_ eB x_.edges_, zm zF eB x_.pairs_]) (B r0) ([zm (eI .i64) eB x_.states_, zm F0_ eB x_.edges_, zm zF eB x_.pairs_].map fun e => .opq (y9 e)) := by
 intro x0 x_ r0 aa us hus
 obtain ⟨u0, u1, u2, rfl⟩ := z8r hus
 refine Yq (tt := wz) (nt := 8) (body := XG) (B := 2) [3] (xl := []) (xr := []) (caps := [.sptr (I x0)]) (es := [zm (eI .i64) eB x_.states_, zm F0_ eB x_.edges_, zm zF eB x_.pairs_]) (es' := [zm (eI .i64) eB x_.states_, zm F0_ eB x_.edges_, zm zF eB x_.pairs_]) (us := [u0, u1, u2]) (r := B r0) Tryd.func45 rfl (by kernel_rfl) rfl rfl (by decide) (by show (2 : Nat) ≤ 8; decide) rfl rfl (.inr ⟨_, rfl⟩) fun E hE => ?_
 try unfold uD at aa
 obtain ⟨val, h0, aa⟩ := zt aa
 replace h0 := zk h0
 obtain rfl := zk aa
 exact yF ((z1T z4T 7 (jB u0 (zm (eI .i64) eB x_.states_))).or X0) hC .ret [(2, .own (.box (.agg [.opq (wC u0 (zm (eI .i64) eB x_.states_)), .opq (wC u1 (zm F0_ eB x_.edges_)), .opq (wC u2 (zm zF eB x_.pairs_))]))), (3, .d (B val))] [Hn (⟨rfl, rfl, Uf (fun _ => rfl) x_.states_⟩ : A.opq (wC u0 (zm (eI .i64) eB x_.states_)) = A.opq (wC u0 (zm (eI .i64) eB x_.states_)) ∧ (VS .i64) ((eI .i64) x0) = true ∧ ∀ p ∈ zm (eI .i64) eB x_.states_, (VS .i64) p.1 = true), Hx (.a (eB val)) ((zbX (f := (eI .i64)) (g := eB) (z0 := false) (z := .atom (.bool false)) rfl x0 x_.states_).trans (congrArg eB h0))] fun st0 h0 => hE _ st0 (.inr rfl) (VQ h0 rfl rfl) (z2N (z9Q h0 rfl rfl))
def XF : Code := (Tryd.f46.body).getD .skip
theorem XS (hC : zS Tryd.prog ctr) : ∀ (x0 : Int) (x1 : Int) (x_ : zg) (r0 : Bool), uC x0 x1 x_ = some r0 → ∀ us : List Value, us.length = 3 → vA Tryd.prog (.fn 46 [.sptr (I x0), .sptr (I x1)]) ([] ++ .agg (us.map .atom) :: []) (ZA us [zm (eI .i64) eB x_.states_, zm F0_ eB x_.edges_, zm zF eB x_.pairs_]) (B r0) ([zm (eI .i64) eB x_.states_, zm F0_ eB x_.edges_, zm zF eB x_.pairs_].map fun e => .opq (y9 e)) := by
 intro x0 x1 x_ r0 aa us hus
 obtain ⟨u0, u1, u2, rfl⟩ := z8r hus
 refine Yq (tt := wz) (nt := 11) (body := XF) (B := 3) [4] (xl := []) (xr := []) (caps := [.sptr (I x0), .sptr (I x1)]) (es := [zm (eI .i64) eB x_.states_, zm F0_ eB x_.edges_, zm zF eB x_.pairs_]) (es' := [zm (eI .i64) eB x_.states_, zm F0_ eB x_.edges_, zm zF eB x_.pairs_]) (us := [u0, u1, u2]) (r := B r0) Tryd.func46 rfl (by kernel_rfl) rfl rfl (by decide) (by show (3 : Nat) ≤ 11; decide) rfl rfl (.inr ⟨_, rfl⟩) fun E hE => ?_
 try unfold uC at aa
 obtain ⟨val, h0, aa⟩ := zt aa
 replace h0 := zk h0
 obtain rfl := zk aa
 exact yF ((z1T z7H 10 (jB u1 (zm F0_ eB x_.edges_))).or X0) hC .ret [(3, .own (.box (.agg [.opq (wC u0 (zm (eI .i64) eB x_.states_)), .opq (wC u1 (zm F0_ eB x_.edges_)), .opq (wC u2 (zm zF eB x_.pairs_))]))), (4, .d (B val))] [Hn (⟨rfl, rfl, Uf (fun _ => rfl) x_.edges_⟩ : A.opq (wC u1 (zm F0_ eB x_.edges_)) = A.opq (wC u1 (zm F0_ eB x_.edges_)) ∧ (Xw [.i64, .i64]) (F0_ (yu.mk x0 x1)) = true ∧ ∀ p ∈ zm F0_ eB x_.edges_, (Xw [.i64, .i64]) p.1 = true), Hx (.a (eB val)) ((zbX (f := F0_) (g := eB) (z0 := false) (z := .atom (.bool false)) rfl (yu.mk x0 x1) x_.edges_).trans (congrArg eB h0))] fun st0 h0 => hE _ st0 (.inr rfl) (VQ h0 rfl rfl) (z2N (z9Q h0 rfl rfl))
def XE : Code := (Tryd.f47.body).getD .skip
theorem XR (hC : zS Tryd.prog ctr) : ∀ (x0 : z7) (x_ : zg) (r0 : Bool), uB x0 x_ = some r0 → ∀ us : List Value, us.length = 3 → vA Tryd.prog (.fn 47 [.sptr (.agg [I x0.State, I x0.Input, I x0.Next])]) ([] ++ .agg (us.map .atom) :: []) (ZA us [zm (eI .i64) eB x_.states_, zm F0_ eB x_.edges_, zm zF eB x_.pairs_]) (B r0) ([zm (eI .i64) eB x_.states_, zm F0_ eB x_.edges_, zm zF eB x_.pairs_].map fun e => .opq (y9 e)) := by
 intro x0 x_ r0 aa us hus
 obtain ⟨u0, u1, u2, rfl⟩ := z8r hus
 refine Yq (tt := wz) (nt := 8) (body := XE) (B := 2) [3] (xl := []) (xr := []) (caps := [.sptr (.agg [I x0.State, I x0.Input, I x0.Next])]) (es := [zm (eI .i64) eB x_.states_, zm F0_ eB x_.edges_, zm zF eB x_.pairs_]) (es' := [zm (eI .i64) eB x_.states_, zm F0_ eB x_.edges_, zm zF eB x_.pairs_]) (us := [u0, u1, u2]) (r := B r0) Tryd.func47 rfl (by kernel_rfl) rfl rfl (by decide) (by show (2 : Nat) ≤ 8; decide) rfl rfl (.inr ⟨_, rfl⟩) fun E hE => ?_
 try unfold uB at aa
 obtain ⟨val, h0, aa⟩ := zt aa
 replace h0 := zk h0
 obtain rfl := zk aa
 exact yF ((z1T z7G 7 (jB u2 (zm zF eB x_.pairs_))).or X0) hC .ret [(2, .own (.box (.agg [.opq (wC u0 (zm (eI .i64) eB x_.states_)), .opq (wC u1 (zm F0_ eB x_.edges_)), .opq (wC u2 (zm zF eB x_.pairs_))]))), (3, .d (B val))] [Hn (⟨rfl, rfl, Uf (fun _ => rfl) x_.pairs_⟩ : A.opq (wC u2 (zm zF eB x_.pairs_)) = A.opq (wC u2 (zm zF eB x_.pairs_)) ∧ (Xw [.i64, .i64, .i64]) (zF x0) = true ∧ ∀ p ∈ zm zF eB x_.pairs_, (Xw [.i64, .i64, .i64]) p.1 = true), Hx (.a (eB val)) ((zbX (f := zF) (g := eB) (z0 := false) (z := .atom (.bool false)) rfl x0 x_.pairs_).trans (congrArg eB h0))] fun st0 h0 => hE _ st0 (.inr rfl) (VQ h0 rfl rfl) (z2N (z9Q h0 rfl rfl))
theorem kx (hC : zS Tryd.prog ctr) : ∀ (f : Int ⊕ (Int × Int) ⊕ z7) (x : zg) (r0 : Bool), Y9 f x = some r0 → ∀ us : List Value, us.length = 3 → vA Tryd.prog (zB f) ([] ++ .agg (us.map .atom) :: []) (ZA us [zm (eI .i64) eB x.states_, zm F0_ eB x.edges_, zm zF eB x.pairs_]) (B r0) ([zm (eI .i64) eB x.states_, zm F0_ eB x.edges_, zm zF eB x.pairs_].map fun e => .opq (y9 e)) := by
 intro f x r0 aa us hus
 rcases f with c | c | c
 ·exact XT hC c x r0 aa us hus
 ·exact XS hC c.1 c.2 x r0 aa us hus
 ·exact XR hC c x r0 aa us hus
def kG : Code := (Tryd.f66.body).getD .skip
def wH : yW := spF (α := List (List Int)) (ρ := List (List Int)) 66 (fun x => [F9_ x]) (fun r => z8k r) (fun x => ws x) [] (KZ)
theorem kM (hC : zS Tryd.prog ctr) : wH.Ok Tryd.prog := by
 refine yh ?_
 rintro s_ r0 aa
 try unfold ws at aa
 refine yO true [(2, none)] kG 8 Tryd.func66 fun E hE => ?_
 refine z0c rfl 0 (sz := 1) (t := false) (es := s_.map F4_) (by kernel_rfl) fun ax hv0 hn => ?_
 rcases hn with ⟨hn0, he0⟩ | hn0
 ·obtain ⟨_, aa⟩ := gdE aa
  rw [show s_ = [] from List.map_eq_nil_iff.1 he0] at aa
  obtain rfl := zk aa
  exact yEx ((z8l zD 4 31 (by kernel_rfl) hn0).or ((xMv Tryd.prog 3 0 ax hv0).or X0)) hC hE [Hn (rfl : some ax = some ax), Hn (⟨rfl, rfl⟩ : T.d (.atom ax) = T.d (.atom ax) ∧ T.d (.atom (.slice none 0 0)) = T.d (.atom (.slice none 0 0))), qT] (eOs 1 true F4_ []) (show LeV (eOs 1 true F4_ []) (eOs 1 false F4_ ([] : List (List Int))) from inferInstance)
 ·obtain ⟨g0, aa⟩ := gdE aa
  obtain rfl := zk aa
  exact yE ((z8l zD 4 31 (by kernel_rfl) hn0).or ((xMv Tryd.prog 3 0 ax hv0).or X0)) hC hE [Hn (rfl : some ax = some ax), Hn (⟨rfl, rfl⟩ : T.d (.atom ax) = T.d (.atom ax) ∧ T.d (.atom (.slice none 0 0)) = T.d (.atom (.slice none 0 0))), qF, Hn (dM F4_ s_), Hn (aL F4_ F4_ g0), Hl (aM0 F4_ s_)]
def Wg : Code := (Tryd.f71.body).getD .skip
def uZ : yW := spF (α := List Int × List Int) (ρ := Bool) 71 (fun x => [F4_ x.1, F4_ x.2]) (fun r => eB r) (fun x => vb x.1 x.2) [] (Us)
theorem WF (hC : zS Tryd.prog ctr) (h07 : ctr.Has v7) : uZ.Ok Tryd.prog := by
 refine yh ?_
 rintro ⟨a_, b_⟩ r0 aa
 try unfold vb at aa
 refine yO true [(4, none)] Wg 9 Tryd.func71 fun E hE => ?_
 obtain ⟨r_, h0, aa⟩ := zt aa
 obtain rfl := zk aa
 exact yE X0 hC hE [Hc h07 (x := (a_, b_)) h0 (loC F4_ a_ <| loC F4_ b_ <| loN)]
def zQ : Code := (Tryd.f70.body).getD .skip
def xy : yW := spF (α := List (List Int) × Unit) (ρ := List (List Int)) 70 (fun x => [z8k x.1, (z8t 71) x.2]) (fun r => z8k r) (fun x => yo x.1 x.2) [true, false] (by
 rintro ⟨a0, a1⟩ ⟨b0, b1⟩ h
 have e0 := jb.inj (f := z8k) _ _ (List.cons.inj h).1
 replace h := (List.cons.inj h).2
 have e1 := jb.inj (f := (z8t 71)) _ _ (List.cons.inj h).1
 subst e0 e1
 rfl)
abbrev uO (s_ : List (List Int)) : List (Nat × T) := [(0, .own (eOs 1 false F4_ s_))]
abbrev uN (s_ : List (List Int)) (k_ : Int) : List (Nat × T) := [(0, .own (eOs 1 false F4_ s_)), (1, .d (.fn 71 [])), (5, .d (I k_))]
abbrev uM (dh : List (List Int)) (ce : Int) : List (Nat × T) := [(0, .own (eOs 1 false F4_ dh)), (5, .d (I ce))]
abbrev uL (ax : Value) (k_ : Int) (k2 : Int) (gi : List (List Int)) (gj : Int) : List (Nat × T) := [(0, .own (eOs 1 false F4_ gi)), (1, .d (.fn 71 [])), (5, .d (I gj)), (6, .d (.atom (kj 1 ax k_))), (7, .d (I k2))]
abbrev uJ (ax : Value) (k_ : Int) (cx : List (List Int)) (dv : Int) (k2 : Int) : List (Nat × T) := [(0, .own (eOs 1 false F4_ cx)), (1, .d (.fn 71 [])), (5, .d (I dv)), (6, .d (.atom (kj 1 ax k_))), (7, .d (I k2))]
abbrev uK (s_ : List (List Int)) (k_ : Int) : List (Nat × T) := [(0, .own (eOs 1 false F4_ s_)), (1, .d (.fn 71 [])), (5, .d (I k_))]
def zr : XH Tryd.prog := ((zdU zD 64).or X0)
theorem qS (hC : zS Tryd.prog ctr) (h0l : ctr.Has uZ) : xy.Ok Tryd.prog := by
 refine yh ?_
 rintro ⟨s_, eq⟩ r0 aa
 try unfold yo at aa
 refine yO true [(4, none)] zQ 66 Tryd.func70 fun E hE => ?_
 refine z3I (y := eOs 1 false F4_ s_) rfl 0 (by kernel_rfl) (by kernel_rfl) fun ax hv0 => ?_
 let Z0 : List HO := [Ha (lnM F4_ s_)]
 rcases yq aa with ⟨c0, aa⟩ | ⟨c0, aa⟩
 ·obtain rfl := zk aa
  exact yE zr hC hE (Z0 ++ [Hq c0])
 ·refine yJ zr hC zQ [1,1] [] [0] (fun z : Unit => xz s_ = some r0) (fun z => uO s_) [(0, .own (eOs 1 false F4_ s_)), (1, .d (.fn 71 []))] (Z0 ++ [Hq c0, Hh (.cut 0)]) ?_ fun J1 bf => ?_
  ·rintro ⟨⟩ aa
   unfold xz at aa
   obtain rfl := zk aa
   exact yE zr hC hE []
  ·obtain ⟨t2, ht2, aa⟩ := zt aa
   refine yL zr hC zQ [1,1,2,1,0] [J1] (fun s => ye s_ s) (fun x => uK s_ x) 1 ht2  [] ?_
   rintro k_ m2 br ae hl1 J2 bj
   try unfold ye at ae
   let Z1 : List HO := [Ha (lnM F4_ s_)]
   rcases yq ae with ⟨c1, ae⟩ | ⟨c1, ae⟩
   ·refine yJ zr hC zQ [1,1,2,1,0,0,1] [J1, J2] [0,1,5] (fun z : Unit => yD k_ = some br) (fun z => uN s_ k_) [(0, .own (eOs 1 false F4_ s_)), (1, .d (.fn 71 [])), (5, .d (I k_))] (Z1 ++ [Hq c1, Hh (.cut 0)]) ?_ fun J3 cr => ?_
    ·rintro ⟨⟩ ae
     unfold yD at ae
     obtain rfl := zk ae
     exact yB zr hC bj (w64 (k_ + 1)) hl1 []
    ·obtain ⟨de, h0, ae⟩ := zt ae
     obtain ⟨fq, h1, ae⟩ := zt ae
     obtain ⟨r_, h2, ae⟩ := zt ae
     let Z2 : List HO := [Hn (iL F4_ h0), Hs (iM F4_ h0), Hn (iL F4_ h1), Hs (iM F4_ h1), Hc h0l (x := (de, fq)) h2 (loC F4_ de <| loC F4_ fq <| loN)]
     rcases yq ae with ⟨c2, ae⟩ | ⟨c2, ae⟩
     ·obtain ⟨g0, ae⟩ := gdE ae
      refine yJ ((xAs Tryd.prog 6 (kj 1 ax k_)).or ((xVw zD 31 0 ax).or zr)) hC zQ [1,1,2,1,0,0,1,2,0,1,0,1] [J1, J2, J3] [0,5] (fun z : List (List Int) × Int => y5 z.1 z.2 = some br) (fun z => uM z.1 z.2) [(0, .own (eOs 1 false F4_ s_)), (1, .d (.fn 71 [])), (5, .d (I k_)), (6, .d (.atom (kj 1 ax k_)))] (Z2 ++ [Hq c2, Hn (⟨.inl rfl, rfl⟩ : (T.als 0 [] 0 0 = T.als 0 [] 0 0 ∨ T.als 0 [] 0 0 = T.d (.atom ax)) ∧ some ax = some ax), Hn (⟨g0.1, cuB F4_ g0⟩ : (0 : Int) ≤ k_ ∧ k_.toNat ≤ (s_.map F4_).length), Hn (rfl : T.d (.atom (kj 1 ax k_)) = T.d (.atom (kj 1 ax k_))), Hh (.cut 1)]) ?_ fun J4 eg => ?_
      ·rintro ⟨dh, ce⟩ ae
       unfold y5 at ae
       obtain ⟨g1, ae⟩ := gdE ae
       obtain ⟨g2, ae⟩ := gdE ae
       obtain ⟨g3, ae⟩ := gdE ae
       obtain rfl := zk ae
       obtain rfl := hl1
       obtain rfl := zk aa
       exact yE ((xVc zD 61 1 0 ax ce).or ((xVw zD 61 0 ax).or zr)) hC hE [Hn (⟨.inl rfl, rfl⟩ : (T.als 0 [] 0 0 = T.als 0 [] 0 0 ∨ T.als 0 [] 0 0 = T.d (.atom ax)) ∧ some ax = some ax), Hn (⟨g1.1, cuB F4_ g1⟩ : (0 : Int) ≤ ce ∧ ce.toNat ≤ (dh.map F4_).length), Hn (⟨rfl, rfl⟩ : T.d (.atom (kj 1 ax ce)) = T.d (.atom (kj 1 ax ce)) ∧ some ax = some ax), Hn (⟨g2.1, cuB F4_ g2, dM F4_ dh⟩ : (0 : Int) ≤ ce ∧ ce.toNat ≤ (dh.map F4_).length ∧ A.areD (dh.map F4_) = true), Hx (.l ((dh.take ce.toNat ++ List.replicate (dh.length - ce.toNat) []).map F4_)) (vcM F4_ dh ce.toNat ([] : List Int)), Hn g3.1, Hn (cuB F4_ g3), Hl (cuM F4_ (dh.take ce.toNat ++ List.replicate (dh.length - ce.toNat) []) ce)]
      ·obtain ⟨t5, ht5, ae⟩ := zt ae
       refine yL zr hC zQ [1,1,2,1,0,0,1,2,0,1,0,1,2,1,0] [J1, J2, J3, J4] (fun s => y3 k_ s.1 s.2.1 s.2.2) (fun x => uJ ax k_ x.1 x.2.1 x.2.2) (s_, k_, 1) ht5  [] ?_
       rintro ⟨cx, dv, k2⟩ m5 fj al hl2 J5 d8
       try unfold y3 at al
       let Z3 : List HO := [Hn (⟨rfl, rfl⟩ : T.d (.atom (kj 1 ax k_)) = T.d (.atom (kj 1 ax k_)) ∧ some ax = some ax), Hx (.a (.atom (.int .i64 ((cx.length - k_.toNat : Nat) : Int)))) (vlM F4_ cx k_.toNat)]
       rcases yq al with ⟨c3, al⟩ | ⟨c3, al⟩
       ·refine yJ ((xVl zD 34 31 1 0 ax k_ (by kernel_rfl)).or zr) hC zQ [1,1,2,1,0,0,1,2,0,1,0,1,2,1,0,0,1] [J1, J2, J3, J4, J5] [0,1,5,6,7] (fun z : List (List Int) × Int => y4 k2 z.1 z.2 = some fj) (fun z => uL ax k_ k2 z.1 z.2) [(0, .own (eOs 1 false F4_ cx)), (1, .d (.fn 71 [])), (5, .d (I dv)), (6, .d (.atom (kj 1 ax k_))), (7, .d (I k2))] (Z3 ++ [Hq c3, Hh (.cut 0)]) ?_ fun J6 gf => ?_
        ·rintro ⟨gi, gj⟩ al
         unfold y4 at al
         obtain rfl := zk al
         exact yB zr hC d8 (gi, gj, w64 (k2 + 1)) hl2 []
        ·obtain ⟨g4, al⟩ := gdE al
         obtain ⟨fl, h3, al⟩ := zt al
         obtain ⟨g5, al⟩ := gdE al
         obtain ⟨fm, h4, al⟩ := zt al
         obtain ⟨ah, h5, al⟩ := zt al
         let Z4 : List HO := [Hn (⟨rfl, rfl⟩ : T.d (.atom (kj 1 ax k_)) = T.d (.atom (kj 1 ax k_)) ∧ some ax = some ax), Hn (⟨g4.1, g4.2, (iL F4_ h3).2⟩ : (0 : Int) ≤ k_ ∧ (0 : Int) ≤ k2 ∧ (k_ + k2).toNat < (cx.map F4_).length), Hs (iM F4_ h3), Hn (⟨rfl, rfl⟩ : T.d (.atom (kj 1 ax k_)) = T.d (.atom (kj 1 ax k_)) ∧ some ax = some ax), Hn (⟨g5.1, g5.2, (iL F4_ h4).2⟩ : (0 : Int) ≤ k_ ∧ (0 : Int) ≤ w64 (k2 - 1) ∧ (k_ + (w64 (k2 - 1))).toNat < (cx.map F4_).length), Hs (iM F4_ h4), Hc h0l (x := (fl, fm)) h5 (loC F4_ fl <| loC F4_ fm <| loN)]
         rcases yq al with ⟨c4, al⟩ | ⟨c4, al⟩
         ·obtain ⟨g6, al⟩ := gdE al
          obtain ⟨fp, h6, al⟩ := zt al
          obtain ⟨gt, h7, al⟩ := zt al
          exact yB ((xVi zD 54 1 0 ax k_).or ((xVi zD 46 1 0 ax k_).or ((xVi zD 41 1 0 ax k_).or zr))) hC gf ((cx.set dv.toNat fp), w64 (dv + 1)) al (Z4 ++ [Hq c4, Hn (⟨rfl, rfl⟩ : T.d (.atom (kj 1 ax k_)) = T.d (.atom (kj 1 ax k_)) ∧ some ax = some ax), Hn (⟨g6.1, g6.2, (iL F4_ h6).2⟩ : (0 : Int) ≤ k_ ∧ (0 : Int) ≤ k2 ∧ (k_ + k2).toNat < (cx.map F4_).length), Hs (iM F4_ h6), Hn (iL F4_ h7), Hs (iM F4_ h7), Hs (iM F4_ h7), Hl (sM F4_ cx dv fp)])
         ·exact yB ((xVi zD 46 1 0 ax k_).or ((xVi zD 41 1 0 ax k_).or zr)) hC gf (cx, dv) al (Z4 ++ [Hq c4])
       ·obtain rfl := zk al
        obtain rfl := hl2
        exact yB ((xVl zD 34 31 1 0 ax k_ (by kernel_rfl)).or zr) hC eg (cx, dv) ae (Z3 ++ [Hq c3])
     ·exact yB zr hC cr () ae (Z2 ++ [Hq c2])
   ·obtain rfl := zk ae
    obtain rfl := hl1
    exact yB zr hC bf () aa (Z1 ++ [Hq c1])
def jV : Code := (Tryd.f69.body).getD .skip
def yw : yW := spR (α := List (List Int)) (ρ := List (List Int)) 69 (fun x => [z8k x]) (fun r => (eOs 1 true F4_) r) (fun x => yY x) [true] (KZ)
theorem jS : ∀ x r, (fun x => yY x) x = some r → (Q5.add yw).run 69 ((Q5.add yw).norm 69 ((fun x => [z8k x]) x)) = some ((fun r => (eOs 1 true F4_) r) r) := fun x r h => zeh h rfl
theorem jT : (Q5.add yw).lend 69 = none ∧ (Q5.add yw).gives 69 = [true] := zbW
theorem ww (hC : zS Tryd.prog ctr) : yw.Ok Tryd.prog := by
 refine z8T ?_
 rintro s_ r0 aa
 try unfold yY at aa
 refine yO true [(2, none)] jV 9 Tryd.func69 fun E hE => ?_
 obtain rfl := zk aa
 exact yE ((xCl zD 8).or X0) hC hE [Ha (lnM F4_ s_), Ha (lnM F4_ s_), Hn (Int.natCast_nonneg _ : (0 : Int) ≤ ((s_.length : Nat) : Int)), Hn (Int.natCast_nonneg _ : (0 : Int) ≤ ((s_.length : Nat) : Int)), Hn (clB F4_ s_), Ha (clE 1 F4_ s_)]
def wc : Code := (Tryd.f51.body).getD .skip
def jv : yW := spF (α := List (List Int)) (ρ := List (List Int) × Int) 51 (fun x => [F9_ x]) (fun r => .tup [F7_ r.1, (eI .i64) r.2]) (fun x => qD x) [] (KZ)
abbrev XL (out : List (List Int × Bool)) : List (Nat × T) := [(4, .own (eOs 1 true (eFl 1 (eI .i64)) out))]
abbrev XK (cp : Value) (aj : List (List Int)) (a7 : List (List Int × Bool)) (dw : Int) : List (Nat × T) := [(4, .own (eOs 1 true (eFl 1 (eI .i64)) a7)), (22, .d (.atom (kj 1 cp (0 : Int)))), (23, .d (I ((aj.length - (0 : Int).toNat : Nat) : Int))), (24, .d (I dw))]
theorem Ux (hC : zS Tryd.prog ctr) (h0G : ctr.Has wH) (h07 : ctr.Has v7) (h0H : ctr.Has xy) (h0a : ctr.Has qz) (h01 : ctr.Has yg) (h00 : ctr.Has yk) : jv.Ok Tryd.prog := by
 refine yh ?_
 rintro l_ r0 aa
 try unfold qD at aa
 refine yO false [(2, none), (3, none)] wc 37 Tryd.func51 fun E hE => ?_
 obtain ⟨r_, h0, aa⟩ := zt aa
 refine yA X0 hC wc [1,1] [] [(4, .own (eOs 1 false F4_ r_))] [Hc h0G (x := l_) h0 (loC F9_ l_ <| loN), Hh (.cut 0)] ?_
 obtain ⟨sorted, h1, aa⟩ := zt aa
 refine Ku (by kernel_rfl) (x := (sub [1,1,0] wc)) (y := (sub [1,1,1] wc)) 4 (fun st1 => Own.canon [4] st1 = ofL [(4, .own (eOs 1 false F4_ sorted))]) (fun cp => yF ((zbj (P := Tryd.prog) wz [4] (z2f zbu (f := F4_) (t := false) (v := cp) (fun _ => rfl) (fun _ => rfl) (fun x y c h => z7V hC h07 (x := (x, y)) h) h1) 10).or X0) hC .normal [(4, .own (eOs 1 false F4_ sorted))] [Hn (z7d (f := .fn 67 []) (xs := [.atom cp, .fn 68 []]) (ls := [(cp, eOs 1 false F4_ r_)]) (r := .tup []) (ys := [eOs 1 false F4_ sorted]) [.atom cp, .fn 68 []] (show XO [.atom cp, .fn 68 []] [.atom cp, .fn 68 []] from inferInstance))] fun st0 h0 => ⟨rfl, h0⟩) fun st1 h1 => z3J h1 ?_
 obtain ⟨ah, h2, aa⟩ := zt aa
 obtain ⟨aj, h3, aa⟩ := zt aa
 let Z0 : List HO := [Hc h0H (x := (sorted, ())) h2 (loC z8k sorted <| loC (z8t 71) () <| loN), Hh (.g [true]), Hn jT, Hx (.a ((eOs 1 true F4_) aj)) (jS ah _ h3), Ha (lnM F4_ aj)]
 rcases yq aa with ⟨c0, aa⟩ | ⟨c0, aa⟩
 ·obtain rfl := zk aa
  exact yEx ((z6A zD (ww hC) 13).or X0) hC hE (Z0 ++ (rpN 4 (Hq c0) [qT, Hm (shM F4_ F4_ [])])) (.tup [eSl 1 true F1_ [], I 3]) (show LeV (.tup [eSl 1 true F1_ [], I 3]) (.tup [eSl 1 true F1_ ([] : List (List Int)), I 3]) from inferInstance)
 ·obtain ⟨ap, h4, aa⟩ := zt aa
  let Z1 : List HO := (Z0 ++ [Hq c0, Hq c0, Hg (QV h0a), Hm (shM F4_ F4_ aj), Hs (QX h0a (x := aj) h4 (loC F8_ aj <| loN)), Hq c0, Hq c0])
  rcases yq aa with ⟨c1, aa⟩ | ⟨c1, aa⟩
  ·obtain rfl := zk aa
   exact yEx ((z6A zD (ww hC) 13).or X0) hC hE (Z1 ++ [Hq c1, Hm (shM F4_ F4_ [])]) (.tup [eSl 1 true F1_ [], I 3]) (show LeV (.tup [eSl 1 true F1_ [], I 3]) (.tup [eSl 1 true F1_ ([] : List (List Int)), I 3]) from inferInstance)
  ·refine yA ((z6A zD (ww hC) 13).or X0) hC wc [1,1,1,1,1] [] [(4, .own (eOs 1 true F4_ aj))] (Z1 ++ [Hq c1, Hh (.cut 0)]) ?_
   refine z3I (y := eOs 1 true F4_ aj) (by kernel_rfl) 4 (by kernel_rfl) (by kernel_rfl) fun cp hv4 => ?_
   refine yJ X0 hC wc [1,1,1,1,1] [] [4] (fun z : List (List Int × Bool) => ur z = some r0) (fun z => XL z) [(4, .own (eOs 1 true F4_ aj))] [Hh (.cut 0)] ?_ fun J1 bf => ?_
   ·rintro out aa
    unfold ur at aa
    obtain ⟨hfl0, aa⟩ := gdE aa
    obtain rfl := zk aa
    exact yEx X0 hC hE [Hm (shM (eFl 1 (eI .i64)) (eFl 1 (eI .i64)) out)] (.tup [eSl 1 true (eFl 1 (eI .i64)) out, I 0]) (haveI := flA (s := 1) (t := 1) (b := true) (f := (eI .i64)) hfl0; show LeV (.tup [eSl 1 true (eFl 1 (eI .i64)) out, I 0]) (.tup [eSl 1 true F1_ (out.map (·.1)), I 0]) from inferInstance)
   ·obtain ⟨t2, ht2, aa⟩ := zt aa
    refine yLx ((xVl zD 23 31 1 4 cp (0 : Int) (by kernel_rfl)).or ((xMw Tryd.prog 22 4 1 cp).or X0)) hC wc [1,1,1,1,1,2,1,0] [J1] (fun s => xw aj s.1 s.2) (fun x => XK cp aj x.1 x.2) ((aj.map fun q => (q, false)), 0) ht2 [(4, .own (eOs 1 true F4_ aj)), (22, .d (.atom (kj 1 cp (0 : Int)))), (23, .d (I ((aj.length - (0 : Int).toNat : Nat) : Int))), (24, .d (I 0))] inferInstance [Hn (rfl : some cp = some cp), Hn (⟨rfl, rfl⟩ : T.d (.atom (kj 1 cp (0 : Int))) = T.d (.atom (kj 1 cp (0 : Int))) ∧ some cp = some cp), Hx (.a (.atom (.int .i64 ((aj.length - (0 : Int).toNat : Nat) : Int)))) (vlM F4_ aj (0 : Int).toNat)] ?_
    rintro ⟨a7, dw⟩ m2 br ae hl1 J2 bj
    try unfold xw at ae
    rcases yq ae with ⟨c2, ae⟩ | ⟨c2, ae⟩
    ·obtain ⟨g0, ae⟩ := gdE ae
     obtain ⟨dj, h5, ae⟩ := zt ae
     obtain ⟨au, h6, ae⟩ := zt ae
     obtain ⟨bl, h7, ae⟩ := zt ae
     obtain ⟨ga, h8, ae⟩ := zt ae
     obtain rfl := zk ae
     exact yB ((xVi zD 27 1 4 cp (0 : Int)).or X0) hC bj ((a7.set dw.toNat (bl, true)), w64 (dw + 1)) hl1 [Hq c2, Hn (⟨rfl, rfl⟩ : T.d (.atom (kj 1 cp (0 : Int))) = T.d (.atom (kj 1 cp (0 : Int))) ∧ some cp = some cp), Hn (⟨g0.1, g0.2, (iL (eFl 1 (eI .i64)) h5).2⟩ : (0 : Int) ≤ 0 ∧ (0 : Int) ≤ dw ∧ (0 + dw).toNat < (a7.map (eFl 1 (eI .i64))).length), Hs (iM (eFl 1 (eI .i64)) h5), Hc h01 (x := dj.1) h6 (loC (eSl 1 dj.2 (eI .i64)) dj.1 <| loN), Hg (QV h00), Hm (shM (eI .i64) (eI .i64) au), Hs (QX h00 (x := au) h7 (loC F4_ au <| loN)), Hm (shM (eI .i64) (eI .i64) au), Hn (iL (eFl 1 (eI .i64)) h8), Hs (iM (eFl 1 (eI .i64)) h8), Hs (iM (eFl 1 (eI .i64)) h8), Hl (sM (eFl 1 (eI .i64)) a7 dw (bl, true))]
    ·obtain rfl := zk ae
     obtain rfl := hl1
     exact yB X0 hC bf a7 aa [Hq c2]
def Jd : Code := (Tryd.f33.body).getD .skip
def kP : yW := spF (α := List (List Int) × Int) (ρ := List (List Int) × Int) 33 (fun x => [F9_ x.1, (eI .i64) x.2]) (fun r => .tup [F7_ r.1, (eI .i64) r.2]) (fun x => Yj x.1 x.2) [] (Us)
theorem Jr (hC : zS Tryd.prog ctr) (h0d : ctr.Has qA) (h0I : ctr.Has jv) : kP.Ok Tryd.prog := by
 refine yh ?_
 rintro ⟨l_, inputs⟩ r0 aa
 try unfold Yj at aa
 refine yO false [(4, none), (5, none)] Jd 17 Tryd.func33 fun E hE => ?_
 obtain ⟨r_, h0, aa⟩ := zt aa
 let Z0 : List HO := [Hc h0d (x := (l_, inputs)) h0 (loC F9_ l_ <| loC (eI .i64) inputs <| loN)]
 rcases yq aa with ⟨c0, aa⟩ | ⟨c0, aa⟩
 ·obtain rfl := zk aa
  exact yEx X0 hC hE (Z0 ++ [Hq c0, Hm (shM F4_ F4_ [])]) (.tup [eSl 1 true F1_ [], I r_]) (show LeV (.tup [eSl 1 true F1_ [], I r_]) (.tup [eSl 1 true F1_ ([] : List (List Int)), I r_]) from inferInstance)
 ·obtain ⟨ah, h1, aa⟩ := zt aa
  obtain rfl := zk aa
  exact yE X0 hC hE (Z0 ++ [Hq c0, Hc h0I (x := l_) h1 (loC F9_ l_ <| loN)])
def xq : Code := (Tryd.f12.body).getD .skip
def wS : yW := spF (α := z8 × List (List Int) × Int) (ρ := List (List Int) × Int) 12 (fun x => [wf x.1, F9_ x.2.1, (eI .i64) x.2.2]) (fun r => .tup [F7_ r.1, (eI .i64) r.2]) (fun x => zX x.1 x.2.1 x.2.2) [] (zbU)
abbrev ZQ (m_ : z8) (aq : List (List Int)) : List (Nat × T) := [(3, .own (.box (wf m_))), (10, .own (eOs 1 false F1_ aq))]
abbrev ZP (m_ : z8) (ap : List za) (du : Int) (bc : List (Int × Bool)) (bn : List ((yu Int) × Bool)) (a6 : List (z7 × Bool)) (cd : List (List Int)) : List (Nat × T) := [(3, .own (.box (wf m_))), (9, .own (.box (.agg [.opq (y9 (zm (eI .i64) eB bc)), .opq (y9 (zm F0_ eB bn)), .opq (y9 (zm zF eB a6))]))), (10, .own (eOs 1 false F1_ cd)), (48, .own (eOs 5 false (zb F4_ zF zB) ap)), (49, .d (I ((ap.length : Nat) : Int))), (50, .d (I du))]
abbrev ZO (m_ : z8) (ap : List za) (ai : List (Int × Bool)) (ak : List ((yu Int) × Bool)) (am : List (z7 × Bool)) (a7 : List (List Int)) (du : Int) : List (Nat × T) := [(3, .own (.box (wf m_))), (9, .own (.box (.agg [.opq (y9 (zm (eI .i64) eB ai)), .opq (y9 (zm F0_ eB ak)), .opq (y9 (zm zF eB am))]))), (10, .own (eOs 1 false F1_ a7)), (48, .own (eOs 5 false (zb F4_ zF zB) ap)), (49, .d (I ((ap.length : Nat) : Int))), (50, .d (I du))]
abbrev ZR (m_ : z8) (goal : Int) (ah : zg) (out : List (List Int)) : List (Nat × T) := [(2, .d (I goal)), (3, .own (.box (wf m_))), (9, .own (.box ((zO (eMp (eI .i64) eB) (eMp F0_ eB) (eMp zF eB)) ah))), (10, .own (eOs 1 false F1_ out))]
abbrev ZN (m_ : z8) (l_ : List (List Int)) (goal : Int) (ah : zg) (db : List (List Int)) (gb : Int) : List (Nat × T) := [(2, .d (I goal)), (3, .own (.box (wf m_))), (9, .own (.box ((zO (eMp (eI .i64) eB) (eMp F0_ eB) (eMp zF eB)) ah))), (10, .own (eOs 1 false F1_ db)), (33, .d (eSl 1 false F4_ l_)), (34, .d (I ((l_.length : Nat) : Int))), (35, .d (I gb))]
theorem Xo (hC : zS Tryd.prog ctr) (h03 : ctr.Has xH) (h02 : ctr.Has x5) (h01 : ctr.Has yg) (h00 : ctr.Has yk) (h04 : ctr.Has wm) (h0m : ctr.Has kP) : wS.Ok Tryd.prog := by
 refine yh ?_
 rintro ⟨m_, l_, goal⟩ r0 aa
 try unfold zX at aa
 refine yO false [(6, none), (7, none)] xq 81 Tryd.func12 fun E hE => ?_
 obtain ⟨r_, h0, aa⟩ := zt aa
 let Z0 : List HO := [Hc h03 (x := (m_, l_)) h0 (loC wf m_ <| loC F9_ l_ <| loN)]
 rcases yq aa with ⟨c0, aa⟩ | ⟨c0, aa⟩
 ·obtain rfl := zk aa
  exact yEx X0 hC hE (Z0 ++ [Hq c0, Hm (shM F4_ F4_ [])]) (.tup [eSl 1 true F1_ [], I r_]) (show LeV (.tup [eSl 1 true F1_ [], I r_]) (.tup [eSl 1 true F1_ ([] : List (List Int)), I r_]) from inferInstance)
 ·rcases yq aa with ⟨c1, aa⟩ | ⟨c1, aa⟩
  ·obtain rfl := zk aa
   exact yEx X0 hC hE (Z0 ++ [Hq c0, Hq c1, Hq c1, Hq c1, qT, Hm (shM F4_ F4_ [])]) (.tup [eSl 1 true F1_ [], I 1]) (show LeV (.tup [eSl 1 true F1_ [], I 1]) (.tup [eSl 1 true F1_ ([] : List (List Int)), I 1]) from inferInstance)
  ·let Z1 : List HO := (Z0 ++ [Hq c0, Hq c1, Hq c1, Hq c1])
   rcases yq aa with ⟨c2, aa⟩ | ⟨c2, aa⟩
   ·obtain rfl := zk aa
    exact yEx X0 hC hE (Z1 ++ [Hq c2, Hm (shM F4_ F4_ [])]) (.tup [eSl 1 true F1_ [], I 1]) (show LeV (.tup [eSl 1 true F1_ [], I 1]) (.tup [eSl 1 true F1_ ([] : List (List Int)), I 1]) from inferInstance)
   ·obtain ⟨ah, h1, aa⟩ := zt aa
    obtain ⟨g0, aa⟩ := gdE aa
    refine yJ X0 hC xq [1,1,1,1,1] [] [2,3,9,10] (fun z : List (List Int) => wX m_ goal ah z = some r0) (fun z => ZR m_ goal ah z) [(1, .d (eSl 1 false F4_ l_)), (2, .d (I goal)), (3, .own (.box (wf m_))), (9, .own (.box ((zO (eMp (eI .i64) eB) (eMp F0_ eB) (eMp zF eB)) ah))), (10, .own (eOs 1 (decide ((0 : Int) = ((l_.length : Nat) : Int))) F4_ []))] (Z1 ++ [Hq c2, Hc h02 (x := (m_, l_)) h1 (loC wf m_ <| loC F9_ l_ <| loN), Ha (lnM F4_ l_), Hn (rL0 g0), Hx (.a (eOs 1 (decide ((0 : Int) = ((l_.length : Nat) : Int))) F4_ ([] : List (List Int)))) (rM0 1 F4_ ((l_.length : Nat) : Int) (eOs 1 true (eI .i64) [])), Hh (.cut 0)]) ?_ fun J1 bf => ?_
    ·rintro out aa
     unfold wX at aa
     refine yJ X0 hC xq [1,1,1,1,1,1] [] [3,10] (fun z : List (List Int) => xp m_ z = some r0) (fun z => ZQ m_ z) [(2, .d (I goal)), (3, .own (.box (wf m_))), (9, .own (.box ((zO (eMp (eI .i64) eB) (eMp F0_ eB) (eMp zF eB)) ah))), (10, .own (eOs 1 false F1_ out))] [Hh (.cut 0)] ?_ fun J2 bj => ?_
     ·rintro aq aa
      unfold xp at aa
      let Z2 : List HO := [Ha (lnM F1_ aq)]
      rcases yq aa with ⟨c3, aa⟩ | ⟨c3, aa⟩
      ·obtain rfl := zk aa
       exact yEx X0 hC hE (Z2 ++ [Hq c3, Hm (shM F4_ F4_ [])]) (.tup [eSl 1 true F1_ [], I 3]) (show LeV (.tup [eSl 1 true F1_ [], I 3]) (.tup [eSl 1 true F1_ ([] : List (List Int)), I 3]) from inferInstance)
      ·obtain ⟨aj, h2, aa⟩ := zt aa
       obtain rfl := zk aa
       exact yE X0 hC hE (Z2 ++ [Hq c3, Hg (QV h0m), Hm (shM F1_ F1_ aq), Hs (QX h0m (x := (aq, m_.Inputs)) h2 (loC (eSl 1 false F1_) aq <| loC (eI .i64) m_.Inputs <| loN)), Hm (shM F1_ F1_ aq)])
     ·obtain ⟨ap, h3, aa⟩ := zt aa
      obtain ⟨t3, ht3, aa⟩ := zt aa
      refine yL X0 hC xq [1,1,1,1,1,1,2,1,0] [J2] (fun s => wb m_ ap s.1 s.2.1 s.2.2.1 s.2.2.2.1 s.2.2.2.2) (fun x => ZO m_ ap x.1 x.2.1 x.2.2.1 x.2.2.2.1 x.2.2.2.2) (ah.states_, ah.edges_, ah.pairs_, out, 0) ht3  [Hc h04 (x := (m_, goal)) h3 (loC wf m_ <| loC (eI .i64) goal <| loN), Ha (lnM (zb F4_ zF zB) ap)] ?_
      rintro ⟨ai, ak, am, a7, du⟩ m3 br ae hl1 J3 cr
      try unfold wb at ae
      rcases yq ae with ⟨c4, ae⟩ | ⟨c4, ae⟩
      ·refine yJ X0 hC xq [1,1,1,1,1,1,2,1,0,0,1,1] [J2, J3] [3,9,10,48,49,50] (fun z : (List (Int × Bool)) × (List ((yu Int) × Bool)) × (List (z7 × Bool)) × List (List Int) => xo du z.1 z.2.1 z.2.2.1 z.2.2.2 = some br) (fun z => ZP m_ ap du z.1 z.2.1 z.2.2.1 z.2.2.2) [(3, .own (.box (wf m_))), (9, .own (.box (.agg [.opq (y9 (zm (eI .i64) eB ai)), .opq (y9 (zm F0_ eB ak)), .opq (y9 (zm zF eB am))]))), (10, .own (eOs 1 false F1_ a7)), (48, .own (eOs 5 false (zb F4_ zF zB) ap)), (49, .d (I ((ap.length : Nat) : Int))), (50, .d (I du))] [Hq c4, Hh (.cut 0)] ?_ fun J4 eg => ?_
       ·rintro ⟨bc, bn, a6, cd⟩ ae
        unfold xo at ae
        obtain rfl := zk ae
        exact yB X0 hC cr (bc, bn, a6, cd, w64 (du + 1)) hl1 []
       ·obtain ⟨bu, h4, ae⟩ := zt ae
        obtain ⟨au, h5, ae⟩ := zt ae
        let Z3 : List HO := [Hn (iL (zb F4_ zF zB) h4), Hs (iM (zb F4_ zF zB) h4), Hn (⟨rfl, leP (show XO [] [] from inferInstance), leP (show XO [] [] from inferInstance), rfl, rfl⟩ : ([zB bu.has_] : List A) = [zB bu.has_] ∧ LeP [] [] ∧ LeP [] [] ∧ T.als 9 [.deref] 0 0 = T.als 9 [.deref] 0 0 ∧ (some (.agg [.opq (y9 (zm (eI .i64) eB ai)), .opq (y9 (zm F0_ eB ak)), .opq (y9 (zm zF eB am))]) : Option A) = some (.agg [.opq (y9 (zm (eI .i64) eB ai)), .opq (y9 (zm F0_ eB ak)), .opq (y9 (zm zF eB am))]))]
        rcases yq ae with ⟨c5, ae⟩ | ⟨c5, ae⟩
        ·obtain ⟨bl, h6, ae⟩ := zt ae
         obtain ⟨bh, h7, ae⟩ := zt ae
         obtain ⟨ck, h8, ae⟩ := zt ae
         obtain ⟨g1, ae⟩ := gdE ae
         exact yB ((ku (P := Tryd.prog) wz 9 0 [.deref] (fa := .fn 32 []) (r := .tup []) (xl := []) (xr := [wf m_, F4_ bu.word_]) (qs := [(y9 (zm (eI .i64) eB ai)), (y9 (zm F0_ eB ak)), (y9 (zm zF eB am))]) (qs' := [(y9 (zm (eI .i64) eB bl.states_)), (y9 (zm F0_ eB bl.edges_)), (y9 (zm zF eB bl.pairs_))]) (es := [(zm (eI .i64) eB ai), (zm F0_ eB ak), (zm zF eB am)]) (es' := [(zm (eI .i64) eB bl.states_), (zm F0_ eB bl.edges_), (zm zF eB bl.pairs_)]) (.inr rfl) (z1u (by kernel_rfl)) (.cons (xQ (zm (eI .i64) eB ai)) (.cons (xQ (zm F0_ eB ak)) (.cons (xQ (zm zF eB am)) (.nil)))) (fun us hu => qC hC _ _ _ _ h6 us hu) (some 63)).or ((ku (P := Tryd.prog) wz 9 0 [.deref] (fa := zB bu.has_) (r := B au) (xl := []) (xr := []) (qs := [(y9 (zm (eI .i64) eB ai)), (y9 (zm F0_ eB ak)), (y9 (zm zF eB am))]) (qs' := [(y9 (zm (eI .i64) eB ai)), (y9 (zm F0_ eB ak)), (y9 (zm zF eB am))]) (es := [(zm (eI .i64) eB ai), (zm F0_ eB ak), (zm zF eB am)]) (es' := [(zm (eI .i64) eB ai), (zm F0_ eB ak), (zm zF eB am)]) (.inr rfl) (z1u (by kernel_rfl)) (.cons (xQ (zm (eI .i64) eB ai)) (.cons (xQ (zm F0_ eB ak)) (.cons (xQ (zm zF eB am)) (.nil)))) (fun us hu => kx hC _ _ _ h5 us hu) (some 57)).or X0)) hC eg (bl.states_, bl.edges_, bl.pairs_, (a7 ++ ([ck] : List (List Int)))) ae (Z3 ++ [Hq c5, Hn (⟨rfl, leP (show XO [] [] from inferInstance), leP (show XO [wf m_, F4_ bu.word_] [wf m_, F4_ bu.word_] from inferInstance), rfl, rfl⟩ : ([.fn 32 []] : List A) = [.fn 32 []] ∧ LeP [] [] ∧ LeP [wf m_, F4_ bu.word_] [wf m_, F4_ bu.word_] ∧ T.als 9 [.deref] 0 1 = T.als 9 [.deref] 0 1 ∧ (some (.agg [.opq (y9 (zm (eI .i64) eB ai)), .opq (y9 (zm F0_ eB ak)), .opq (y9 (zm zF eB am))]) : Option A) = some (.agg [.opq (y9 (zm (eI .i64) eB ai)), .opq (y9 (zm F0_ eB ak)), .opq (y9 (zm zF eB am))])), Hc h01 (x := bu.word_) h7 (loC F4_ bu.word_ <| loN), Hg (QV h00), Hm (shM (eI .i64) (eI .i64) bh), Hs (QX h00 (x := bh) h8 (loC F4_ bh <| loN)), Hm (shM (eI .i64) (eI .i64) bh), Hq (dM F1_ ([ck] : List (List Int))), Hn (dM F1_ ([ck] : List (List Int))), Hn (aL F1_ F1_ g1), Hl (aM F1_ a7 ([ck] : List (List Int)))])
        ·exact yB ((ku (P := Tryd.prog) wz 9 0 [.deref] (fa := zB bu.has_) (r := B au) (xl := []) (xr := []) (qs := [(y9 (zm (eI .i64) eB ai)), (y9 (zm F0_ eB ak)), (y9 (zm zF eB am))]) (qs' := [(y9 (zm (eI .i64) eB ai)), (y9 (zm F0_ eB ak)), (y9 (zm zF eB am))]) (es := [(zm (eI .i64) eB ai), (zm F0_ eB ak), (zm zF eB am)]) (es' := [(zm (eI .i64) eB ai), (zm F0_ eB ak), (zm zF eB am)]) (.inr rfl) (z1u (by kernel_rfl)) (.cons (xQ (zm (eI .i64) eB ai)) (.cons (xQ (zm F0_ eB ak)) (.cons (xQ (zm zF eB am)) (.nil)))) (fun us hu => kx hC _ _ _ h5 us hu) (some 57)).or X0) hC eg (ai, ak, am, a7) ae (Z3 ++ [Hq c5])
      ·obtain rfl := zk ae
       obtain rfl := hl1
       exact yB X0 hC bj a7 aa [Hq c4]
    ·obtain ⟨t5, ht5, aa⟩ := zt aa
     refine yLx X0 hC xq [1,1,1,1,1,2,1,0] [J1] (fun s => wW l_ s.1 s.2) (fun x => ZN m_ l_ goal ah x.1 x.2) (([] : List (List Int)), 0) ht5 [(2, .d (I goal)), (3, .own (.box (wf m_))), (9, .own (.box ((zO (eMp (eI .i64) eB) (eMp F0_ eB) (eMp zF eB)) ah))), (10, .own (eOs 1 (decide ((0 : Int) = ((l_.length : Nat) : Int))) F1_ [])), (33, .d (eSl 1 false F4_ l_)), (34, .d (I ((l_.length : Nat) : Int))), (35, .d (I 0))] inferInstance [Ha (lnM F4_ l_)] ?_
     rintro ⟨db, gb⟩ m5 br ae hl1 J5 d8
     try unfold wW at ae
     rcases yq ae with ⟨c6, ae⟩ | ⟨c6, ae⟩
     ·obtain ⟨bk, h9, ae⟩ := zt ae
      obtain ⟨cn, h10, ae⟩ := zt ae
      obtain ⟨bw, h11, ae⟩ := zt ae
      obtain ⟨g2, ae⟩ := gdE ae
      obtain rfl := zk ae
      exact yB X0 hC d8 ((db ++ ([bw] : List (List Int))), w64 (gb + 1)) hl1 [Hq c6, Hi F4_ h9, Hc h01 (x := bk) h10 (loC F4_ bk <| loN), Hg (QV h00), Hm (shM (eI .i64) (eI .i64) cn), Hs (QX h00 (x := cn) h11 (loC F4_ cn <| loN)), Hm (shM (eI .i64) (eI .i64) cn), Hq (dM F1_ ([bw] : List (List Int))), Hn (dM F1_ ([bw] : List (List Int))), Hn (aL F1_ F1_ g2), Hl (aM F1_ db ([bw] : List (List Int)))]
     ·obtain rfl := zk ae
      obtain rfl := hl1
      exact yB X0 hC bf db aa [Hq c6]
def kH : Code := (Tryd.f24.body).getD .skip
theorem kN (hC : zS Tryd.prog ctr) : ∀ (goal : Int) (x_ : zg) (r0 : Int), xD goal x_ = some r0 → ∀ us : List Value, us.length = 3 → vA Tryd.prog (.fn 24 []) ([] ++ .agg (us.map .atom) :: [I goal]) (ZA us [zm (eI .i64) eB x_.states_, zm F0_ eB x_.edges_, zm zF eB x_.pairs_]) (I r0) ([zm (eI .i64) eB x_.states_, zm F0_ eB x_.edges_, zm zF eB x_.pairs_].map fun e => .opq (y9 e)) := by
 intro goal x_ r0 aa us hus
 obtain ⟨u0, u1, u2, rfl⟩ := z8r hus
 refine Yq (tt := wz) (nt := 17) (body := kH) (B := 2) [4] (xl := []) (xr := [I goal]) (caps := []) (es := [zm (eI .i64) eB x_.states_, zm F0_ eB x_.edges_, zm zF eB x_.pairs_]) (es' := [zm (eI .i64) eB x_.states_, zm F0_ eB x_.edges_, zm zF eB x_.pairs_]) (us := [u0, u1, u2]) (r := I r0) Tryd.func24 rfl (by kernel_rfl) rfl rfl (by decide) (by show (2 : Nat) ≤ 17; decide) rfl rfl (.inr ⟨_, rfl⟩) fun E hE => ?_
 try unfold xD at aa
 obtain ⟨cell, h0, aa⟩ := zt aa
 obtain rfl := zk aa
 exact yF ((zdT zD 16).or ((z1S z7G 13 (jB u2 (zm zF eB x_.pairs_))).or ((z1S z7H 10 (jB u1 (zm F0_ eB x_.edges_))).or ((z1S z4T 7 (jB u0 (zm (eI .i64) eB x_.states_))).or X0)))) hC .ret [(2, .own (.box (.agg [.opq (wC u0 (zm (eI .i64) eB x_.states_)), .opq (wC u1 (zm F0_ eB x_.edges_)), .opq (wC u2 (zm zF eB x_.pairs_))]))), (4, .d (I cell))] [Hn (rfl : A.opq (wC u0 (zm (eI .i64) eB x_.states_)) = A.opq (wC u0 (zm (eI .i64) eB x_.states_))), Hx (aLn x_.states_.length) (z05 (eI .i64) eB x_.states_), Hn (rfl : A.opq (wC u1 (zm F0_ eB x_.edges_)) = A.opq (wC u1 (zm F0_ eB x_.edges_))), Hx (aLn x_.edges_.length) (z05 F0_ eB x_.edges_), Hn (rfl : A.opq (wC u2 (zm zF eB x_.pairs_)) = A.opq (wC u2 (zm zF eB x_.pairs_))), Hx (aLn x_.pairs_.length) (z05 zF eB x_.pairs_), Hs (iM (eI .i64) h0), Hn (ixV (k := .i64) (tt := wz) (e := 3) (l := ([((x_.states_.length : Nat) : Int), ((x_.edges_.length : Nat) : Int), ((x_.pairs_.length : Nat) : Int)] : List Int)) (fun _ => by kernel_rfl) h0 (m := 3) rfl)] fun st0 h0 => hE _ st0 (.inr rfl) (VQ h0 rfl rfl) (z2N (z9Q h0 rfl rfl))
def jK : Code := (Tryd.f7.body).getD .skip
def ut : yW := spF (α := z8 × List (List Int)) (ρ := zC × Int) 7 (fun x => [wf x.1, F9_ x.2]) (fun r => .tup [z8j r.1, (eI .i64) r.2]) (fun x => wP x.1 x.2) [] (Us)
abbrev XN (n_ : kL (yu Int)) : List (Nat × T) := [(4, .own (.box (.agg [.agg [I 0, I 0], .agg [I 0, I 0], .agg [I 0, I 0]]))), (8, .own (.box ((z9P F0_) n_)))]
abbrev XM (m_ : z8) (ah : zg) (dg : kL (yu Int)) (bp : Int) : List (Nat × T) := [(2, .own (.box (wf m_))), (4, .own (.box (.agg [.agg [I 0, I 0], .agg [I 0, I 0], .agg [I 0, I 0]]))), (7, .own (.box ((zO (eMp (eI .i64) eB) (eMp F0_ eB) (eMp zF eB)) ah))), (8, .own (.box ((z9P F0_) dg))), (20, .d (I bp))]
theorem UA (hC : zS Tryd.prog ctr) (h03 : ctr.Has xH) (h02 : ctr.Has x5) (h04 : ctr.Has wm) : ut.Ok Tryd.prog := by
 refine yh ?_
 rintro ⟨m_, l_⟩ r0 aa
 try unfold wP at aa
 refine yO false [(4, some 36), (5, none)] jK 41 Tryd.func7 fun E hE => ?_
 obtain ⟨r_, h0, aa⟩ := zt aa
 let Z0 : List HO := [Hc h03 (x := (m_, l_)) h0 (loC wf m_ <| loC F9_ l_ <| loN)]
 rcases yq aa with ⟨c0, aa⟩ | ⟨c0, aa⟩
 ·obtain rfl := zk aa
  exact yE X0 hC hE (Z0 ++ [Hq c0])
 ·obtain ⟨ah, h1, aa⟩ := zt aa
  refine yJ X0 hC jK [1,1,1,1] [] [4,8] (fun z : kL (yu Int) => jH z = some r0) (fun z => XN z) [(2, .own (.box (wf m_))), (4, .own (.box (.agg [.agg [I 0, I 0], .agg [I 0, I 0], .agg [I 0, I 0]]))), (7, .own (.box ((zO (eMp (eI .i64) eB) (eMp F0_ eB) (eMp zF eB)) ah))), (8, .own (.box (.agg [.agg [I 0, I 0], .agg [I 0, I 0], .agg [I 0, I 0]])))] (Z0 ++ [Hq c0, Hc h02 (x := (m_, l_)) h1 (loC wf m_ <| loC F9_ l_ <| loN), Hh (.cut 1)]) ?_ fun J1 bf => ?_
  ·rintro n_ aa
   unfold jH at aa
   obtain rfl := zk aa
   exact yE X0 hC hE [Hn (⟨rfl, by decide⟩ : true = true ∧ 0 < 3), Hn (⟨rfl, by decide⟩ : true = true ∧ 1 < 3), Hn (⟨rfl, by decide⟩ : true = true ∧ 2 < 3)]
  ·obtain ⟨t2, ht2, aa⟩ := zt aa
   refine yL X0 hC jK [1,1,1,1,2,1,0] [J1] (fun s => xF m_ ah s.1 s.2) (fun x => XM m_ ah x.1 x.2) ((kL.mk (yu.mk 0 0) (yu.mk 0 0) (yu.mk 0 0)), 0) ht2  [] ?_
   rintro ⟨dg, bp⟩ m2 br ae hl1 J2 bj
   try unfold xF at ae
   rcases yq ae with ⟨c1, ae⟩ | ⟨c1, ae⟩
   ·obtain ⟨aj, h2, ae⟩ := zt ae
    obtain ⟨ap, h3, ae⟩ := zt ae
    obtain ⟨cell, h4, ae⟩ := zt ae
    obtain ⟨arr, h5, ae⟩ := zt ae
    replace h5 := zk h5
    obtain rfl := zk ae
    exact yB ((ku (P := Tryd.prog) wz 7 0 [.deref] (fa := .fn 24 []) (r := I aj) (xl := []) (xr := [(eI .i64) bp]) (qs := [(y9 (zm (eI .i64) eB ah.states_)), (y9 (zm F0_ eB ah.edges_)), (y9 (zm zF eB ah.pairs_))]) (qs' := [(y9 (zm (eI .i64) eB ah.states_)), (y9 (zm F0_ eB ah.edges_)), (y9 (zm zF eB ah.pairs_))]) (es := [(zm (eI .i64) eB ah.states_), (zm F0_ eB ah.edges_), (zm zF eB ah.pairs_)]) (es' := [(zm (eI .i64) eB ah.states_), (zm F0_ eB ah.edges_), (zm zF eB ah.pairs_)]) (.inr rfl) (z1u (by kernel_rfl)) (.cons (xQ (zm (eI .i64) eB ah.states_)) (.cons (xQ (zm F0_ eB ah.edges_)) (.cons (xQ (zm zF eB ah.pairs_)) (.nil)))) (fun us hu => kN hC _ _ _ h2 us hu) (some 26)).or X0) hC bj (arr, w64 (bp + 1)) hl1 [Hq c1, Hn (⟨rfl, leP (show XO [] [] from inferInstance), leP (show XO [(eI .i64) bp] [(eI .i64) bp] from inferInstance), rfl, rfl⟩ : ([.fn 24 []] : List A) = [.fn 24 []] ∧ LeP [] [] ∧ LeP [(eI .i64) bp] [(eI .i64) bp] ∧ T.als 7 [.deref] 0 0 = T.als 7 [.deref] 0 0 ∧ (some (.agg [.opq (y9 (zm (eI .i64) eB ah.states_)), .opq (y9 (zm F0_ eB ah.edges_)), .opq (y9 (zm zF eB ah.pairs_))]) : Option A) = some (.agg [.opq (y9 (zm (eI .i64) eB ah.states_)), .opq (y9 (zm F0_ eB ah.edges_)), .opq (y9 (zm zF eB ah.pairs_))])), Hc h04 (x := (m_, bp)) h3 (loC wf m_ <| loC (eI .i64) bp <| loN), Ha (lnM (zb F4_ zF zB) ap), Hn (⟨arJ (by kernel_rfl) (i0 h4), (iL F0_ h4).2⟩ : Uq wz 73 ((kL.toL dg).map F0_) bp = true ∧ bp.toNat < ((kL.toL dg).map F0_).length), Hh (.op 2), Hh (.f), Hs (iM F0_ h4), Hh (.f), Hs (iM F0_ h4), Hx (.l ((kL.toL arr).map F0_)) ((kL.setL F0_ dg bp (yu.mk aj ((ap.length : Nat) : Int))).trans (congrArg (fun q => (kL.toL q).map F0_) h5))]
   ·obtain rfl := zk ae
    obtain rfl := hl1
    exact yB X0 hC bf dg aa [Hq c1]
def jw : yW := spF (α := Int) (ρ := List UInt8) 34 (fun x : Int => [(eI .i64) x]) (fun r : List UInt8 => Jq r) (fun x : Int => strconv_Itoa x) [] (KZ)
theorem Uy (hC : zS Tryd.prog ctr) : jw.Ok Tryd.prog := by
 refine yh ?_
 rintro i r0 aa
 obtain ⟨h, aa⟩ := gdE aa
 obtain rfl := zk aa
 exact z5b i h.1 h.2
def kI : Code := (Tryd.f13.body).getD .skip
def vD : yW := spF (α := zC) (ρ := List UInt8) 13 (fun x => [z8j x]) (fun r => Jq r) (fun x => xV x) [] (KZ)
abbrev YH (s_ : List UInt8) : List (Nat × T) := [(3, .d (Jq s_))]
theorem WI (hC : zS Tryd.prog ctr) (h05 : ctr.Has jw) : vD.Ok Tryd.prog := by
 refine yh ?_
 rintro c_ r0 aa
 try unfold xV at aa
 refine yO true [(2, none)] kI 33 Tryd.func13 fun E hE => ?_
 refine yJ X0 hC kI [1,1] [] [3] (fun z : List UInt8 => vJ z = some r0) (fun z => YH z) [(1, .own (.box (z8j c_))), (3, .d (Jq ([] : List UInt8)))] [Hh (.cut 2)] ?_ fun J1 bf => ?_
 ·rintro s_ aa
  unfold vJ at aa
  obtain rfl := zk aa
  exact yE X0 hC hE []
 ·obtain ⟨r_, h0, aa⟩ := zt aa
  obtain ⟨g0, aa⟩ := gdE aa
  obtain ⟨g1, aa⟩ := gdE aa
  obtain ⟨ah, h1, aa⟩ := zt aa
  obtain ⟨g2, aa⟩ := gdE aa
  obtain ⟨g3, aa⟩ := gdE aa
  obtain ⟨aj, h2, aa⟩ := zt aa
  obtain ⟨g4, aa⟩ := gdE aa
  obtain ⟨g5, aa⟩ := gdE aa
  obtain ⟨ap, h3, aa⟩ := zt aa
  obtain ⟨g6, aa⟩ := gdE aa
  obtain ⟨g7, aa⟩ := gdE aa
  obtain ⟨au, h4, aa⟩ := zt aa
  obtain ⟨g8, aa⟩ := gdE aa
  obtain ⟨g9, aa⟩ := gdE aa
  obtain ⟨bl, h5, aa⟩ := zt aa
  obtain ⟨g10, aa⟩ := gdE aa
  obtain ⟨g11, aa⟩ := gdE aa
  exact yB ((Qh Tryd.prog 30).or ((Qh Tryd.prog 29).or ((Qh Tryd.prog 25).or ((Qh Tryd.prog 24).or X0)))) hC bf (((([] : List UInt8) ++ (((([115,116,97,116,101,115,32] : List UInt8) ++ r_) ++ ([47] : List UInt8)) ++ ah)) ++ (((([44,32,101,100,103,101,115,32] : List UInt8) ++ aj) ++ ([47] : List UInt8)) ++ ap)) ++ (((([44,32,112,97,105,114,115,32] : List UInt8) ++ au) ++ ([47] : List UInt8)) ++ bl)) aa [Hh (.u 70), qT, Hn (⟨rfl, by decide⟩ : true = true ∧ 0 < 2), Hc h05 (x := c_.States.e0) h0 (loC (eI .i64) c_.States.e0 <| loN), Hx (.a (Jq (([115,116,97,116,101,115,32] : List UInt8) ++ r_))) (WJ (l := ([115,116,97,116,101,115,32] : List UInt8)) (m := r_) g0), Hx (.a (Jq ((([115,116,97,116,101,115,32] : List UInt8) ++ r_) ++ ([47] : List UInt8)))) (WJ (l := (([115,116,97,116,101,115,32] : List UInt8) ++ r_)) (m := ([47] : List UInt8)) g1), Hn (⟨rfl, by decide⟩ : true = true ∧ 1 < 2), Hc h05 (x := c_.States.e1) h1 (loC (eI .i64) c_.States.e1 <| loN), Hx (.a (Jq (((([115,116,97,116,101,115,32] : List UInt8) ++ r_) ++ ([47] : List UInt8)) ++ ah))) (WJ (l := ((([115,116,97,116,101,115,32] : List UInt8) ++ r_) ++ ([47] : List UInt8))) (m := ah) g2), Hx (.a (Jq (([] : List UInt8) ++ (((([115,116,97,116,101,115,32] : List UInt8) ++ r_) ++ ([47] : List UInt8)) ++ ah)))) (WJ (l := ([] : List UInt8)) (m := (((([115,116,97,116,101,115,32] : List UInt8) ++ r_) ++ ([47] : List UInt8)) ++ ah)) g3), qT, Hn (⟨rfl, by decide⟩ : true = true ∧ 0 < 2), Hc h05 (x := c_.Edges.e0) h2 (loC (eI .i64) c_.Edges.e0 <| loN), Hx (.a (Jq (([44,32,101,100,103,101,115,32] : List UInt8) ++ aj))) (WJ (l := ([44,32,101,100,103,101,115,32] : List UInt8)) (m := aj) g4), Hx (.a (Jq ((([44,32,101,100,103,101,115,32] : List UInt8) ++ aj) ++ ([47] : List UInt8)))) (WJ (l := (([44,32,101,100,103,101,115,32] : List UInt8) ++ aj)) (m := ([47] : List UInt8)) g5), Hn (⟨rfl, by decide⟩ : true = true ∧ 1 < 2), Hc h05 (x := c_.Edges.e1) h3 (loC (eI .i64) c_.Edges.e1 <| loN), Hx (.a (Jq (((([44,32,101,100,103,101,115,32] : List UInt8) ++ aj) ++ ([47] : List UInt8)) ++ ap))) (WJ (l := ((([44,32,101,100,103,101,115,32] : List UInt8) ++ aj) ++ ([47] : List UInt8))) (m := ap) g6), Hx (.a (Jq ((([] : List UInt8) ++ (((([115,116,97,116,101,115,32] : List UInt8) ++ r_) ++ ([47] : List UInt8)) ++ ah)) ++ (((([44,32,101,100,103,101,115,32] : List UInt8) ++ aj) ++ ([47] : List UInt8)) ++ ap)))) (WJ (l := (([] : List UInt8) ++ (((([115,116,97,116,101,115,32] : List UInt8) ++ r_) ++ ([47] : List UInt8)) ++ ah))) (m := (((([44,32,101,100,103,101,115,32] : List UInt8) ++ aj) ++ ([47] : List UInt8)) ++ ap)) g7), qT, Hn (⟨rfl, by decide⟩ : true = true ∧ 0 < 2), Hc h05 (x := c_.Pairs.e0) h4 (loC (eI .i64) c_.Pairs.e0 <| loN), Hx (.a (Jq (([44,32,112,97,105,114,115,32] : List UInt8) ++ au))) (WJ (l := ([44,32,112,97,105,114,115,32] : List UInt8)) (m := au) g8), Hx (.a (Jq ((([44,32,112,97,105,114,115,32] : List UInt8) ++ au) ++ ([47] : List UInt8)))) (WJ (l := (([44,32,112,97,105,114,115,32] : List UInt8) ++ au)) (m := ([47] : List UInt8)) g9), Hn (⟨rfl, by decide⟩ : true = true ∧ 1 < 2), Hc h05 (x := c_.Pairs.e1) h5 (loC (eI .i64) c_.Pairs.e1 <| loN), Hx (.a (Jq (((([44,32,112,97,105,114,115,32] : List UInt8) ++ au) ++ ([47] : List UInt8)) ++ bl))) (WJ (l := ((([44,32,112,97,105,114,115,32] : List UInt8) ++ au) ++ ([47] : List UInt8))) (m := bl) g10), Hx (.a (Jq (((([] : List UInt8) ++ (((([115,116,97,116,101,115,32] : List UInt8) ++ r_) ++ ([47] : List UInt8)) ++ ah)) ++ (((([44,32,101,100,103,101,115,32] : List UInt8) ++ aj) ++ ([47] : List UInt8)) ++ ap)) ++ (((([44,32,112,97,105,114,115,32] : List UInt8) ++ au) ++ ([47] : List UInt8)) ++ bl)))) (WJ (l := ((([] : List UInt8) ++ (((([115,116,97,116,101,115,32] : List UInt8) ++ r_) ++ ([47] : List UInt8)) ++ ah)) ++ (((([44,32,101,100,103,101,115,32] : List UInt8) ++ aj) ++ ([47] : List UInt8)) ++ ap))) (m := (((([44,32,112,97,105,114,115,32] : List UInt8) ++ au) ++ ([47] : List UInt8)) ++ bl)) g11), qF]
def Up : Code := (Tryd.f28.body).getD .skip
def jx : yW := spF (α := Unit) (ρ := z8) 28 (fun x => []) (fun r => z8w r) (fun x => Y6) [] (fun _ _ _ => rfl)
theorem Uz (hC : zS Tryd.prog ctr) : jx.Ok Tryd.prog := by
 refine yh ?_
 rintro ⟨⟩ r0 aa
 try unfold Y6 at aa
 refine yO false [(0, some 30)] Up 9 Tryd.func28 fun E hE => ?_
 obtain rfl := zk aa
 exact yE X0 hC hE [Hm (shM (eOs 2 true F6_) zdN ([[(zf.mk 1 0), (zf.mk 0 0)], [(zf.mk 0 1), (zf.mk 1 0)]]))]
def wO : Code := (Tryd.f55.body).getD .skip
def yd : yW := spF (α := List z7) (ρ := List z7) 55 (fun x => [(eSl 3 false zF) x]) (fun r => (eSl 3 true zF) r) (fun x => yl x) [] (KZ)
theorem wQ (hC : zS Tryd.prog ctr) : yd.Ok Tryd.prog := by
 refine yh ?_
 rintro s_ r0 aa
 try unfold yl at aa
 refine yO true [(2, none)] wO 9 Tryd.func55 fun E hE => ?_
 obtain ⟨g0, aa⟩ := gdE aa
 obtain rfl := zk aa
 exact yE X0 hC hE [Ha (lnM zF s_), Ha (lnM zF s_), Hn (slB g0), Hn (slC g0), Hn (z8U zF g0), Ha (zdg 3 zF s_ 0 ((s_.length : Nat) : Int).toNat)]
def wG : Code := (Tryd.f38.body).getD .skip
def vO : yW := spF (α := z8 × List (List Int) × Int) (ρ := List z7 × Int) 38 (fun x => [wf x.1, F9_ x.2.1, (eI .i64) x.2.2]) (fun r => .tup [(eSl 3 true zF) r.1, (eI .i64) r.2]) (fun x => qh x.1 x.2.1 x.2.2) [] (zbU)
abbrev Zs (out : List z7) : List (Nat × T) := [(10, .own (eOs 3 false zF out))]
abbrev Zr (ah : zg) (ap : List za) (ar : Int) (a7 : List z7) : List (Nat × T) := [(9, .own (.box ((zO (eMp (eI .i64) eB) (eMp F0_ eB) (eMp zF eB)) ah))), (10, .own (eOs 3 false zF a7)), (24, .own (eOs 5 false (zb F4_ zF zB) ap)), (25, .d (I ((ap.length : Nat) : Int))), (26, .d (I ar))]
abbrev Zq (ah : zg) (ap : List za) (aq : List z7) (ar : Int) : List (Nat × T) := [(9, .own (.box ((zO (eMp (eI .i64) eB) (eMp F0_ eB) (eMp zF eB)) ah))), (10, .own (eOs 3 false zF aq)), (24, .own (eOs 5 false (zb F4_ zF zB) ap)), (25, .d (I ((ap.length : Nat) : Int))), (26, .d (I ar))]
theorem YO (hC : zS Tryd.prog ctr) (h03 : ctr.Has xH) (h02 : ctr.Has x5) (h04 : ctr.Has wm) (h0n : ctr.Has yd) : vO.Ok Tryd.prog := by
 refine yh ?_
 rintro ⟨m_, l_, goal⟩ r0 aa
 try unfold qh at aa
 refine yO false [(6, none), (7, none)] wG 43 Tryd.func38 fun E hE => ?_
 obtain ⟨r_, h0, aa⟩ := zt aa
 let Z0 : List HO := [Hc h03 (x := (m_, l_)) h0 (loC wf m_ <| loC F9_ l_ <| loN)]
 rcases yq aa with ⟨c0, aa⟩ | ⟨c0, aa⟩
 ·obtain rfl := zk aa
  exact yEx X0 hC hE (Z0 ++ [Hq c0, Hm (shM zF zF [])]) (.tup [eSl 3 true zF [], I r_]) (show LeV (.tup [eSl 3 true zF [], I r_]) (.tup [eSl 3 true zF ([] : List z7), I r_]) from inferInstance)
 ·obtain ⟨ah, h1, aa⟩ := zt aa
  refine yJ X0 hC wG [1,1,1,1] [] [10] (fun z : List z7 => vQ z = some r0) (fun z => Zs z) [(2, .d (I goal)), (3, .own (.box (wf m_))), (9, .own (.box ((zO (eMp (eI .i64) eB) (eMp F0_ eB) (eMp zF eB)) ah))), (10, .own (eOs 3 true zF []))] (Z0 ++ [Hq c0, Hc h02 (x := (m_, l_)) h1 (loC wf m_ <| loC F9_ l_ <| loN), Hh (.cut 1)]) ?_ fun J1 bf => ?_
  ·rintro out aa
   unfold vQ at aa
   obtain ⟨aj, h2, aa⟩ := zt aa
   obtain rfl := zk aa
   exact yE X0 hC hE [Hg (QV h0n), Hm (shM zF zF out), Hs (QX h0n (x := out) h2 (loC (eSl 3 false zF) out <| loN)), Hm (shM zF zF out)]
  ·obtain ⟨ap, h3, aa⟩ := zt aa
   obtain ⟨t2, ht2, aa⟩ := zt aa
   refine yLx X0 hC wG [1,1,1,1,2,1,0] [J1] (fun s => vP ah ap s.1 s.2) (fun x => Zq ah ap x.1 x.2) (([] : List z7), 0) ht2 [(9, .own (.box ((zO (eMp (eI .i64) eB) (eMp F0_ eB) (eMp zF eB)) ah))), (10, .own (eOs 3 true zF [])), (24, .own (eOs 5 false (zb F4_ zF zB) ap)), (25, .d (I ((ap.length : Nat) : Int))), (26, .d (I 0))] inferInstance [Hc h04 (x := (m_, goal)) h3 (loC wf m_ <| loC (eI .i64) goal <| loN), Ha (lnM (zb F4_ zF zB) ap)] ?_
   rintro ⟨aq, ar⟩ m2 br ae hl1 J2 bj
   try unfold vP at ae
   rcases yq ae with ⟨c1, ae⟩ | ⟨c1, ae⟩
   ·refine yJ X0 hC wG [1,1,1,1,2,1,0,0,1,1] [J1, J2] [9,10,24,25,26] (fun z : List z7 => wF ar z = some br) (fun z => Zr ah ap ar z) [(9, .own (.box ((zO (eMp (eI .i64) eB) (eMp F0_ eB) (eMp zF eB)) ah))), (10, .own (eOs 3 false zF aq)), (24, .own (eOs 5 false (zb F4_ zF zB) ap)), (25, .d (I ((ap.length : Nat) : Int))), (26, .d (I ar))] [Hq c1, Hh (.cut 0)] ?_ fun J3 cr => ?_
    ·rintro a7 ae
     unfold wF at ae
     obtain rfl := zk ae
     exact yB X0 hC bj (a7, w64 (ar + 1)) hl1 []
    ·obtain ⟨bu, h4, ae⟩ := zt ae
     obtain ⟨au, h5, ae⟩ := zt ae
     let Z1 : List HO := [Hn (iL (zb F4_ zF zB) h4), Hs (iM (zb F4_ zF zB) h4), Hn (⟨rfl, leP (show XO [] [] from inferInstance), leP (show XO [] [] from inferInstance), rfl, rfl⟩ : ([zB bu.has_] : List A) = [zB bu.has_] ∧ LeP [] [] ∧ LeP [] [] ∧ T.als 9 [.deref] 0 0 = T.als 9 [.deref] 0 0 ∧ (some (.agg [.opq (y9 (zm (eI .i64) eB ah.states_)), .opq (y9 (zm F0_ eB ah.edges_)), .opq (y9 (zm zF eB ah.pairs_))]) : Option A) = some (.agg [.opq (y9 (zm (eI .i64) eB ah.states_)), .opq (y9 (zm F0_ eB ah.edges_)), .opq (y9 (zm zF eB ah.pairs_))]))]
     rcases yq ae with ⟨c2, ae⟩ | ⟨c2, ae⟩
     ·obtain ⟨g0, ae⟩ := gdE ae
      exact yB ((ku (P := Tryd.prog) wz 9 0 [.deref] (fa := zB bu.has_) (r := B au) (xl := []) (xr := []) (qs := [(y9 (zm (eI .i64) eB ah.states_)), (y9 (zm F0_ eB ah.edges_)), (y9 (zm zF eB ah.pairs_))]) (qs' := [(y9 (zm (eI .i64) eB ah.states_)), (y9 (zm F0_ eB ah.edges_)), (y9 (zm zF eB ah.pairs_))]) (es := [(zm (eI .i64) eB ah.states_), (zm F0_ eB ah.edges_), (zm zF eB ah.pairs_)]) (es' := [(zm (eI .i64) eB ah.states_), (zm F0_ eB ah.edges_), (zm zF eB ah.pairs_)]) (.inr rfl) (z1u (by kernel_rfl)) (.cons (xQ (zm (eI .i64) eB ah.states_)) (.cons (xQ (zm F0_ eB ah.edges_)) (.cons (xQ (zm zF eB ah.pairs_)) (.nil)))) (fun us hu => kx hC _ _ _ h5 us hu) (some 33)).or X0) hC cr (aq ++ ([bu.pair_] : List z7)) ae (Z1 ++ [Hq c2, Hq (dM zF ([bu.pair_] : List z7)), Hn (dM zF ([bu.pair_] : List z7)), Hn (aL zF zF g0), Hl (aM zF aq ([bu.pair_] : List z7))])
     ·exact yB ((ku (P := Tryd.prog) wz 9 0 [.deref] (fa := zB bu.has_) (r := B au) (xl := []) (xr := []) (qs := [(y9 (zm (eI .i64) eB ah.states_)), (y9 (zm F0_ eB ah.edges_)), (y9 (zm zF eB ah.pairs_))]) (qs' := [(y9 (zm (eI .i64) eB ah.states_)), (y9 (zm F0_ eB ah.edges_)), (y9 (zm zF eB ah.pairs_))]) (es := [(zm (eI .i64) eB ah.states_), (zm F0_ eB ah.edges_), (zm zF eB ah.pairs_)]) (es' := [(zm (eI .i64) eB ah.states_), (zm F0_ eB ah.edges_), (zm zF eB ah.pairs_)]) (.inr rfl) (z1u (by kernel_rfl)) (.cons (xQ (zm (eI .i64) eB ah.states_)) (.cons (xQ (zm F0_ eB ah.edges_)) (.cons (xQ (zm zF eB ah.pairs_)) (.nil)))) (fun us hu => kx hC _ _ _ h5 us hu) (some 33)).or X0) hC cr aq ae (Z1 ++ [Hq c2])
   ·obtain rfl := zk ae
    obtain rfl := hl1
    exact yB X0 hC bf aq aa [Hq c1]
def uH : Code := (Tryd.f17.body).getD .skip
def uu : yW := spF (α := z8 × List (List Int)) (ρ := List (yu Int) × Int) 17 (fun x => [wf x.1, F9_ x.2]) (fun r => .tup [(eSl 2 true F0_) r.1, (eI .i64) r.2]) (fun x => jI x.1 x.2) [] (Us)
abbrev Yh (r_ : List z7 × Int) (out : List (yu Int)) : List (Nat × T) := [(7, .d (I r_.2)), (8, .own (z44 2 ((r_.1.length : Nat) : Int).toNat F0_ out))]
abbrev Yg (r_ : List z7 × Int) (aq : List (yu Int)) (gc : Int) : List (Nat × T) := [(7, .d (I r_.2)), (8, .own (z44 2 ((r_.1.length : Nat) : Int).toNat F0_ aq)), (20, .d (eSl 3 true zF r_.1)), (21, .d (I ((r_.1.length : Nat) : Int))), (22, .d (I gc))]
theorem XU (hC : zS Tryd.prog ctr) (h0J : ctr.Has vO) : uu.Ok Tryd.prog := by
 refine yh ?_
 rintro ⟨m_, l_⟩ r0 aa
 try unfold jI at aa
 refine yO false [(4, none), (5, none)] uH 37 Tryd.func17 fun E hE => ?_
 obtain ⟨r_, h0, aa⟩ := zt aa
 obtain ⟨g0, aa⟩ := gdE aa
 refine yJ ((xCm zD 19 2).or X0) hC uH [1,1,1] [] [7,8] (fun z : List (yu Int) => uF r_ z = some r0) (fun z => Yh r_ z) [(6, .d (eSl 3 true zF r_.1)), (7, .d (I r_.2)), (8, .own (z44 2 ((r_.1.length : Nat) : Int).toNat F0_ ([] : List (yu Int))))] [Hc h0J (x := (m_, l_, 1)) h0 (loC wf m_ <| loC F9_ l_ <| loC (eI .i64) 1 <| loN), Ha (lnM zF r_.1), Hn (zdH g0), Hh (.cut 0)] ?_ fun J1 bf => ?_
 ·rintro out aa
  unfold uF at aa
  obtain ⟨g1, aa⟩ := gdE aa
  obtain rfl := zk aa
  exact yE ((xCe Tryd.prog 4 2 (((r_.1.length : Nat) : Int).toNat) (out.map F0_)).or X0) hC hE [Hn (⟨rfl, zdJ F0_ g1⟩ : z44 2 (((r_.1.length : Nat) : Int).toNat) F0_ out = A.opq (Kr 2 (((r_.1.length : Nat) : Int).toNat) (out.map F0_)).q ∧ (out.map F0_).length = ((r_.1.length : Nat) : Int).toNat), Hm (shM F0_ F0_ out)]
 ·obtain ⟨t2, ht2, aa⟩ := zt aa
  refine yL X0 hC uH [1,1,1,2,1,0] [J1] (fun s => uE r_ s.1 s.2) (fun x => Yg r_ x.1 x.2) (([] : List (yu Int)), 0) ht2  [Ha (lnM zF r_.1)] ?_
  rintro ⟨aq, gc⟩ m2 br ae hl1 J2 bj
  try unfold uE at ae
  rcases yq ae with ⟨c0, ae⟩ | ⟨c0, ae⟩
  ·obtain ⟨u_, h1, ae⟩ := zt ae
   obtain ⟨g2, ae⟩ := gdE ae
   obtain rfl := zk ae
   exact yB ((xCa zD 33 2 (((r_.1.length : Nat) : Int).toNat) (aq.map F0_) ((aq ++ ([(yu.mk u_.State u_.Input)] : List (yu Int))).map F0_)).or X0) hC bj ((aq ++ ([(yu.mk u_.State u_.Input)] : List (yu Int))), w64 (gc + 1)) hl1 [Hq c0, Hi zF h1, Hn (⟨rfl, dM F0_ ([(yu.mk u_.State u_.Input)] : List (yu Int)), rfl⟩ : 2 = 2 ∧ A.areD (([(yu.mk u_.State u_.Input)] : List (yu Int)).map F0_) = true ∧ true = true), Hn (⟨rfl, zdI F0_ F0_ g2⟩ : z44 2 (((r_.1.length : Nat) : Int).toNat) F0_ aq = A.opq (Kr 2 (((r_.1.length : Nat) : Int).toNat) (aq.map F0_)).q ∧ (aq.map F0_).length + (([(yu.mk u_.State u_.Input)] : List (yu Int)).map F0_).length ≤ ((r_.1.length : Nat) : Int).toNat), Hn (aM F0_ aq ([(yu.mk u_.State u_.Input)] : List (yu Int)))]
  ·obtain rfl := zk ae
   obtain rfl := hl1
   exact yB X0 hC bf aq aa [Hq c0]
def vM : Code := (Tryd.f39.body).getD .skip
abbrev YG (u0 : Value) (u1 : Value) (u2 : Value) (x_ : zg) (out : List Int) : List (Nat × T) := [(3, .own (.box (.agg [.opq (wC u0 (zm (eI .i64) eB x_.states_)), .opq (wC u1 (zm F0_ eB x_.edges_)), .opq (wC u2 (zm zF eB x_.pairs_))]))), (5, .own (eOs 1 true (eI .u64) out))]
abbrev YF (u0 : Value) (u1 : Value) (u2 : Value) (bm : List za) (x_ : zg) (co : Int) (a7 : List Int) : List (Nat × T) := [(3, .own (.box (.agg [.opq (wC u0 (zm (eI .i64) eB x_.states_)), .opq (wC u1 (zm F0_ eB x_.edges_)), .opq (wC u2 (zm zF eB x_.pairs_))]))), (5, .own (eOs 1 true (eI .u64) a7)), (13, .d (eSl 5 false (zb F4_ zF zB) bm)), (14, .d (I ((bm.length : Nat) : Int))), (15, .d (I co))]
abbrev YE (u0 : Value) (u1 : Value) (u2 : Value) (bm : List za) (x_ : zg) (aq : List Int) (co : Int) : List (Nat × T) := [(3, .own (.box (.agg [.opq (wC u0 (zm (eI .i64) eB x_.states_)), .opq (wC u1 (zm F0_ eB x_.edges_)), .opq (wC u2 (zm zF eB x_.pairs_))]))), (5, .own (eOs 1 true (eI .u64) aq)), (13, .d (eSl 5 false (zb F4_ zF zB) bm)), (14, .d (I ((bm.length : Nat) : Int))), (15, .d (I co))]
theorem vZ (hC : zS Tryd.prog ctr) : ∀ (bm : List za) (x_ : zg) (r0 : List Int), vY bm x_ = some r0 → ∀ us : List Value, us.length = 3 → vA Tryd.prog (.fn 39 []) ([eSl 5 false (zb F4_ zF zB) bm] ++ .agg (us.map .atom) :: []) (ZA us [zm (eI .i64) eB x_.states_, zm F0_ eB x_.edges_, zm zF eB x_.pairs_]) (eSl 1 true (eI .u64) r0) ([zm (eI .i64) eB x_.states_, zm F0_ eB x_.edges_, zm zF eB x_.pairs_].map fun e => .opq (y9 e)) := by
 intro bm x_ r0 aa us hus
 obtain ⟨u0, u1, u2, rfl⟩ := z8r hus
 refine Yq (tt := wz) (nt := 36) (body := vM) (B := 3) [4] (xl := [eSl 5 false (zb F4_ zF zB) bm]) (xr := []) (caps := []) (es := [zm (eI .i64) eB x_.states_, zm F0_ eB x_.edges_, zm zF eB x_.pairs_]) (es' := [zm (eI .i64) eB x_.states_, zm F0_ eB x_.edges_, zm zF eB x_.pairs_]) (us := [u0, u1, u2]) (r := eSl 1 true (eI .u64) r0) Tryd.func39 rfl (by kernel_rfl) rfl rfl (by decide) (by show (2 : Nat) ≤ 36; decide) rfl rfl (.inr ⟨_, rfl⟩) fun E hE => ?_
 try unfold vY at aa
 obtain ⟨g0, aa⟩ := gdE aa
 obtain ⟨g1, aa⟩ := gdE aa
 refine yJ X0 hC vM [1,1] [] [3,5] (fun z : List Int => qm z = some r0) (fun z => YG u0 u1 u2 x_ z) [(0, .d (eSl 5 false (zb F4_ zF zB) bm)), (3, .own (.box (.agg [.opq (wC u0 (zm (eI .i64) eB x_.states_)), .opq (wC u1 (zm F0_ eB x_.edges_)), .opq (wC u2 (zm zF eB x_.pairs_))]))), (5, .own (eOs 1 true (eI .u64) (List.replicate (w64 ((w64 (Int.tdiv ((bm.length : Nat) : Int) 64)) + 1)).toNat (0 : Int))))] [Ha (lnM (zb F4_ zF zB) bm), Hn g0, Hn (rL g1), Ha (rM 1 (eI .u64) (w64 ((w64 (Int.tdiv ((bm.length : Nat) : Int) 64)) + 1)) (0 : Int)), Hh (.cut 0)] ?_ fun J1 bf => ?_
 ·rintro out aa
  unfold qm at aa
  obtain rfl := zk aa
  exact yF X0 hC .ret [(3, .own (.box (.agg [.opq (wC u0 (zm (eI .i64) eB x_.states_)), .opq (wC u1 (zm F0_ eB x_.edges_)), .opq (wC u2 (zm zF eB x_.pairs_))]))), (4, .d (eSl 1 true (eI .u64) out))] [Hh (.n 0 [5]), Hm (shM (eI .u64) (eI .u64) out)] fun st0 h0 => hE _ st0 (.inr rfl) (VQ h0 rfl rfl) (z2N (z9Q h0 rfl rfl))
 ·obtain ⟨t2, ht2, aa⟩ := zt aa
  refine yL X0 hC vM [1,1,2,1,0] [J1] (fun s => qj bm x_ s.1 s.2) (fun x => YE u0 u1 u2 bm x_ x.1 x.2) ((List.replicate (w64 ((w64 (Int.tdiv ((bm.length : Nat) : Int) 64)) + 1)).toNat (0 : Int)), 0) ht2  [Ha (lnM (zb F4_ zF zB) bm)] ?_
  rintro ⟨aq, co⟩ m2 br ae hl1 J2 bj
  try unfold qj at ae
  rcases yq ae with ⟨c0, ae⟩ | ⟨c0, ae⟩
  ·refine yJ X0 hC vM [1,1,2,1,0,0,1,1] [J1, J2] [3,5,13,14,15] (fun z : List Int => vI co z = some br) (fun z => YF u0 u1 u2 bm x_ co z) [(3, .own (.box (.agg [.opq (wC u0 (zm (eI .i64) eB x_.states_)), .opq (wC u1 (zm F0_ eB x_.edges_)), .opq (wC u2 (zm zF eB x_.pairs_))]))), (5, .own (eOs 1 true (eI .u64) aq)), (13, .d (eSl 5 false (zb F4_ zF zB) bm)), (14, .d (I ((bm.length : Nat) : Int))), (15, .d (I co))] [Hq c0, Hh (.cut 0)] ?_ fun J3 cr => ?_
   ·rintro a7 ae
    unfold vI at ae
    obtain rfl := zk ae
    exact yB X0 hC bj (a7, w64 (co + 1)) hl1 []
   ·obtain ⟨d0, h0, ae⟩ := zt ae
    obtain ⟨r_, h1, ae⟩ := zt ae
    let Z0 : List HO := [Hi (zb F4_ zF zB) h0, Hn (⟨rfl, leP (show XO [] [] from inferInstance), leP (show XO [] [] from inferInstance), rfl, rfl⟩ : ([zB d0.has_] : List A) = [zB d0.has_] ∧ LeP [] [] ∧ LeP [] [] ∧ T.als 3 [.deref] 0 0 = T.als 3 [.deref] 0 0 ∧ (some (.agg [.opq (wC u0 (zm (eI .i64) eB x_.states_)), .opq (wC u1 (zm F0_ eB x_.edges_)), .opq (wC u2 (zm zF eB x_.pairs_))]) : Option A) = some (.agg [.opq (wC u0 (zm (eI .i64) eB x_.states_)), .opq (wC u1 (zm F0_ eB x_.edges_)), .opq (wC u2 (zm zF eB x_.pairs_))]))]
    rcases yq ae with ⟨c1, ae⟩ | ⟨c1, ae⟩
    ·obtain ⟨g2, ae⟩ := gdE ae
     obtain ⟨dj, h2, ae⟩ := zt ae
     obtain ⟨g3, ae⟩ := gdE ae
     obtain ⟨g4, ae⟩ := gdE ae
     obtain ⟨ga, h3, ae⟩ := zt ae
     exact yB ((zcL Tryd.prog).or ((zdS Tryd.prog).or ((ku (P := Tryd.prog) wz 3 0 [.deref] (fa := zB d0.has_) (r := B r_) (xl := []) (xr := []) (qs := [(wC u0 (zm (eI .i64) eB x_.states_)), (wC u1 (zm F0_ eB x_.edges_)), (wC u2 (zm zF eB x_.pairs_))]) (qs' := [(wC u0 (zm (eI .i64) eB x_.states_)), (wC u1 (zm F0_ eB x_.edges_)), (wC u2 (zm zF eB x_.pairs_))]) (es := [(zm (eI .i64) eB x_.states_), (zm F0_ eB x_.edges_), (zm zF eB x_.pairs_)]) (es' := [(zm (eI .i64) eB x_.states_), (zm F0_ eB x_.edges_), (zm zF eB x_.pairs_)]) (.inr rfl) (z1u (by kernel_rfl)) (.cons (jB u0 (zm (eI .i64) eB x_.states_)) (.cons (jB u1 (zm F0_ eB x_.edges_)) (.cons (jB u2 (zm zF eB x_.pairs_)) (.nil)))) (fun us hu => kx hC _ _ _ h1 us hu) (some 23)).or X0))) hC cr (aq.set (w64 (Int.tdiv co 64)).toNat (orK .u64 dj (z5X .u64 1 (Int.tmod co 64)))) ae (Z0 ++ [Hq c1, Hn g2, Hn (iL (eI .u64) h2), Hs (iM (eI .u64) h2), Hn g3, Hn g4, Hn (iL (eI .u64) h3), Hs (iM (eI .u64) h3), Hs (iM (eI .u64) h3), Hl (sM (eI .u64) aq (w64 (Int.tdiv co 64)) (orK .u64 dj (z5X .u64 1 (Int.tmod co 64))))])
    ·exact yB ((ku (P := Tryd.prog) wz 3 0 [.deref] (fa := zB d0.has_) (r := B r_) (xl := []) (xr := []) (qs := [(wC u0 (zm (eI .i64) eB x_.states_)), (wC u1 (zm F0_ eB x_.edges_)), (wC u2 (zm zF eB x_.pairs_))]) (qs' := [(wC u0 (zm (eI .i64) eB x_.states_)), (wC u1 (zm F0_ eB x_.edges_)), (wC u2 (zm zF eB x_.pairs_))]) (es := [(zm (eI .i64) eB x_.states_), (zm F0_ eB x_.edges_), (zm zF eB x_.pairs_)]) (es' := [(zm (eI .i64) eB x_.states_), (zm F0_ eB x_.edges_), (zm zF eB x_.pairs_)]) (.inr rfl) (z1u (by kernel_rfl)) (.cons (jB u0 (zm (eI .i64) eB x_.states_)) (.cons (jB u1 (zm F0_ eB x_.edges_)) (.cons (jB u2 (zm zF eB x_.pairs_)) (.nil)))) (fun us hu => kx hC _ _ _ h1 us hu) (some 23)).or X0) hC cr aq ae (Z0 ++ [Hq c1])
  ·obtain rfl := zk ae
   obtain rfl := hl1
   exact yB X0 hC bf aq aa [Hq c0]
def xO : Code := (Tryd.f56.body).getD .skip
def yM : yW := spF (α := List Int × List Int) (ρ := Bool) 56 (fun x => [F5_ x.1, F5_ x.2]) (fun r => eB r) (fun x => wh x.1 x.2) [] (Us)
abbrev uQ : List (Nat × T) := []
abbrev uP (s1 : List Int) (s2 : List Int) (fh : Int) : List (Nat × T) := [(0, .d (eSl 1 false (eI .u64) s1)), (1, .d (eSl 1 false (eI .u64) s2)), (12, .d (I ((s1.length : Nat) : Int))), (13, .d (I fh))]
theorem jf (hC : zS Tryd.prog ctr) : yM.Ok Tryd.prog := by
 refine yh ?_
 rintro ⟨s1, s2⟩ r0 aa
 try unfold wh at aa
 refine yO true [(4, none)] xO 26 Tryd.func56 fun E hE => ?_
 let Z0 : List HO := [Ha (lnM (eI .u64) s1), Ha (lnM (eI .u64) s2)]
 rcases yq aa with ⟨c0, aa⟩ | ⟨c0, aa⟩
 ·obtain rfl := zk aa
  exact yE X0 hC hE (Z0 ++ [Hq c0])
 ·refine yJ X0 hC xO [1,1] [] [] (fun z : Unit => xN = some r0) (fun z => uQ) [(0, .d (eSl 1 false (eI .u64) s1)), (1, .d (eSl 1 false (eI .u64) s2))] (Z0 ++ [Hq c0, Hh (.cut 0)]) ?_ fun J1 bf => ?_
  ·rintro ⟨⟩ aa
   unfold xN at aa
   obtain rfl := zk aa
   exact yE X0 hC hE []
  ·obtain ⟨t2, ht2, aa⟩ := zt aa
   refine yL X0 hC xO [1,1,2,1,0] [J1] (fun s => xM s1 s2 s) (fun x => uP s1 s2 x) 0 ht2  [Ha (lnM (eI .u64) s1)] ?_
   rintro fh m2 br ae hl1 J2 bj
   try unfold xM at ae
   rcases yq ae with ⟨c1, ae⟩ | ⟨c1, ae⟩
   ·obtain ⟨fx, h0, ae⟩ := zt ae
    obtain ⟨fc, h1, ae⟩ := zt ae
    let Z1 : List HO := [Hq c1, Hi (eI .u64) h0, Hi (eI .u64) h1]
    rcases yq ae with ⟨c2, ae⟩ | ⟨c2, ae⟩
    ·obtain rfl := zk ae
     obtain rfl := hl1
     obtain rfl := zk aa
     exact yE X0 hC hE (Z1 ++ [Hq c2])
    ·obtain rfl := zk ae
     exact yB X0 hC bj (w64 (fh + 1)) hl1 (Z1 ++ [Hq c2])
   ·obtain rfl := zk ae
    obtain rfl := hl1
    exact yB X0 hC bf () aa [Hq c1]
def j6 : Code := (Tryd.f57.body).getD .skip
def yN : yW := spF (α := List Int) (ρ := List Int) 57 (fun x => [F5_ x]) (fun r => (eOs 1 false (eI .u64)) r) (fun x => wi x) [] (KZ)
theorem jg (hC : zS Tryd.prog ctr) : yN.Ok Tryd.prog := by
 refine yh ?_
 rintro s_ r0 aa
 try unfold wi at aa
 refine yO true [(2, none)] j6 8 Tryd.func57 fun E hE => ?_
 refine z0c rfl 0 (sz := 1) (t := false) (es := s_.map (eI .u64)) (by kernel_rfl) fun ax hv0 hn => ?_
 rcases hn with ⟨hn0, he0⟩ | hn0
 ·obtain ⟨_, aa⟩ := gdE aa
  rw [show s_ = [] from List.map_eq_nil_iff.1 he0] at aa
  obtain rfl := zk aa
  exact yEx ((z8l zD 4 96 (by kernel_rfl) hn0).or ((xMv Tryd.prog 3 0 ax hv0).or X0)) hC hE [Hn (rfl : some ax = some ax), Hn (⟨rfl, rfl⟩ : T.d (.atom ax) = T.d (.atom ax) ∧ T.d (.atom (.slice none 0 0)) = T.d (.atom (.slice none 0 0))), qT] (eOs 1 true (eI .u64) []) (show LeV (eOs 1 true (eI .u64) []) (eOs 1 false (eI .u64) ([] : List Int)) from inferInstance)
 ·obtain ⟨g0, aa⟩ := gdE aa
  obtain rfl := zk aa
  exact yE ((z8l zD 4 96 (by kernel_rfl) hn0).or ((xMv Tryd.prog 3 0 ax hv0).or X0)) hC hE [Hn (rfl : some ax = some ax), Hn (⟨rfl, rfl⟩ : T.d (.atom ax) = T.d (.atom ax) ∧ T.d (.atom (.slice none 0 0)) = T.d (.atom (.slice none 0 0))), qF, Hn (dM (eI .u64) s_), Hn (aL (eI .u64) (eI .u64) g0), Hl (aM0 (eI .u64) s_)]
def yc : Code := (Tryd.f40.body).getD .skip
def w4 : yW := spF (α := zw × List Int × Int × Int) (ρ := List Int × Bool) 40 (fun x => [zb1 x.1, F5_ x.2.1, (eI .i64) x.2.2.1, (eI .i64) x.2.2.2]) (fun r => .tup [F4_ r.1, eB r.2]) (fun x => um x.1 x.2.1 x.2.2.1 x.2.2.2) [] (zdA)
abbrev qP : List (Nat × T) := []
abbrev qO (c_ : zw) (bo : List Int) (many : Int) (i_ : Int) : List (Nat × T) := [(0, .d (.sptr (z6x c_))), (1, .d (eSl 1 false (eI .u64) bo)), (3, .d (I many)), (10, .d (I i_))]
abbrev qN (c_ : zw) (bo : List Int) (many : Int) (i_ : Int) (dx : List Int) : List (Nat × T) := [(0, .d (.sptr (z6x c_))), (1, .d (eSl 1 false (eI .u64) bo)), (3, .d (I many)), (10, .d (I i_)), (11, .own (eOs 1 false (eI .u64) dx))]
abbrev qL (c_ : zw) (bo : List Int) (many : Int) (i_ : Int) (cg : List Int) (da : List Int) (cq : Int) : List (Nat × T) := [(0, .d (.sptr (z6x c_))), (1, .d (eSl 1 false (eI .u64) bo)), (3, .d (I many)), (10, .d (I i_)), (11, .own (eOs 1 false (eI .u64) da)), (44, .d (eSl 1 false (eI .u64) cg)), (45, .d (I ((cg.length : Nat) : Int))), (46, .d (I cq))]
abbrev qM (c_ : zw) (bo : List Int) (many : Int) (i_ : Int) : List (Nat × T) := [(0, .d (.sptr (z6x c_))), (1, .d (eSl 1 false (eI .u64) bo)), (3, .d (I many)), (10, .d (I i_))]
theorem q9 : ∀ (x y : zw × List Int × Int × Int), (fun x => [zb1 x.1, F5_ x.2.1, (eI .i64) x.2.2.1, (eI .i64) x.2.2.2]) x = (fun x => [zb1 x.1, F5_ x.2.1, (eI .i64) x.2.2.1, (eI .i64) x.2.2.2]) y → x = y := zdA
def xL (ee : zw → (List Int) → Int → Int → Option (List Int × Bool)) : yW := spF (α := zw × List Int × Int × Int) (ρ := List Int × Bool) 40 (fun x => [zb1 x.1, F5_ x.2.1, (eI .i64) x.2.2.1, (eI .i64) x.2.2.2]) (fun r => .tup [F4_ r.1, eB r.2]) (fun x => ee x.1 x.2.1 x.2.2.1 x.2.2.2) [] (by
 intro x y h
 exact (congrArg (fun (p : zw × List Int × Int × Int) => p) (show x = y from q9 x y h)))
theorem jh (hC : zS Tryd.prog ctr) (h0g : ctr.Has yM) (h0h : ctr.Has yN) (ee : zw → (List Int) → Int → Int → Option (List Int × Bool)) (h0o : ctr.Has (xL ee)) : (xL (wl ee)).Ok Tryd.prog := by
 refine yh ?_
 rintro ⟨c_, bo, from_, many⟩ r0 aa
 try unfold wl at aa
 refine yO false [(8, none), (9, none)] yc 74 Tryd.func40 fun E hE => ?_
 rcases yq aa with ⟨c0, aa⟩ | ⟨c0, aa⟩
 ·obtain ⟨r_, h0, aa⟩ := zt aa
  obtain rfl := zk aa
  exact yEx X0 hC hE [Hq c0, Hc h0g (x := (bo, c_.want_)) h0 (loC F5_ bo <| loC F5_ c_.want_ <| loN), Hm (shM (eI .i64) (eI .i64) [])] (.tup [eSl 1 true (eI .i64) [], B r_]) (show LeV (.tup [eSl 1 true (eI .i64) [], B r_]) (.tup [eSl 1 false (eI .i64) ([] : List Int), B r_]) from inferInstance)
 ·refine yJ X0 hC yc [1,1] [] [] (fun z : Unit => wa = some r0) (fun z => qP) [(0, .d (.sptr (z6x c_))), (1, .d (eSl 1 false (eI .u64) bo)), (2, .d (I from_)), (3, .d (I many))] [Hq c0, Hh (.cut 0)] ?_ fun J1 bf => ?_
  ·rintro ⟨⟩ aa
   unfold wa at aa
   obtain rfl := zk aa
   exact yEx X0 hC hE [Hm (shM (eI .i64) (eI .i64) [])] (.tup [eSl 1 true (eI .i64) [], B false]) (show LeV (.tup [eSl 1 true (eI .i64) [], B false]) (.tup [eSl 1 false (eI .i64) ([] : List Int), B false]) from inferInstance)
  ·obtain ⟨t2, ht2, aa⟩ := zt aa
   refine yL X0 hC yc [1,1,2,1,0] [J1] (fun s => w7 c_ bo many ee s) (fun x => qM c_ bo many x) from_ ht2  [] ?_
   rintro i_ m2 br ae hl1 J2 bj
   try unfold w7 at ae
   let Z0 : List HO := [Ha (lnM F5_ c_.sets_)]
   rcases yq ae with ⟨c1, ae⟩ | ⟨c1, ae⟩
   ·refine yJ X0 hC yc [1,1,2,1,0,0,1] [J1, J2] [0,1,3,10] (fun z : Unit => w9 i_ = some br) (fun z => qO c_ bo many i_) [(0, .d (.sptr (z6x c_))), (1, .d (eSl 1 false (eI .u64) bo)), (3, .d (I many)), (10, .d (I i_))] (Z0 ++ [Hq c1, Hh (.cut 0)]) ?_ fun J3 cr => ?_
    ·rintro ⟨⟩ ae
     unfold w9 at ae
     obtain rfl := zk ae
     exact yB X0 hC bj (w64 (i_ + 1)) hl1 []
    ·obtain ⟨ah, h1, ae⟩ := zt ae
     refine yJ X0 hC yc [1,1,2,1,0,0,1,2,0,1] [J1, J2, J3] [0,1,3,10,11] (fun z : List Int => w8 c_ many ee i_ z = some br) (fun z => qN c_ bo many i_ z) [(0, .d (.sptr (z6x c_))), (1, .d (eSl 1 false (eI .u64) bo)), (3, .d (I many)), (10, .d (I i_)), (11, .own (eOs 1 false (eI .u64) ah))] [Hc h0h (x := bo) h1 (loC F5_ bo <| loN), Hh (.cut 0)] ?_ fun J4 eg => ?_
     ·rintro dx ae
      unfold w8 at ae
      obtain ⟨aj, h2, ae⟩ := zt ae
      let Z1 : List HO := [Hg (QV h0o), Hm (shM (eI .u64) (eI .u64) dx), Hs (QX h0o (x := (c_, dx, w64 (i_ + 1), w64 (many - 1))) h2 (loC zb1 c_ <| loC F5_ dx <| loC (eI .i64) (w64 (i_ + 1)) <| loC (eI .i64) (w64 (many - 1)) <| loN)), Hm (shM (eI .u64) (eI .u64) dx)]
      rcases yq ae with ⟨c2, ae⟩ | ⟨c2, ae⟩
      ·obtain ⟨g0, ae⟩ := gdE ae
       obtain rfl := zk ae
       obtain rfl := hl1
       obtain rfl := zk aa
       exact yE X0 hC hE (Z1 ++ [Hq c2, Hn (dM (eI .i64) aj.1), Hn (aL (eI .i64) (eI .i64) g0), Hl (aM (eI .i64) ([i_] : List Int) aj.1), Hm (shM (eI .i64) (eI .i64) (([i_]) ++ aj.1))])
      ·exact yB X0 hC cr () ae (Z1 ++ [Hq c2])
     ·obtain ⟨cg, h3, ae⟩ := zt ae
      obtain ⟨t5, ht5, ae⟩ := zt ae
      refine yL X0 hC yc [1,1,2,1,0,0,1,2,0,1,2,1,0] [J1, J2, J3, J4] (fun s => w6 cg s.1 s.2) (fun x => qL c_ bo many i_ cg x.1 x.2) (ah,0) ht5  [Hi F5_ h3, Ha (lnM (eI .u64) cg)] ?_
      rintro ⟨da, cq⟩ m5 fj al hl2 J5 d8
      try unfold w6 at al
      rcases yq al with ⟨c3, al⟩ | ⟨c3, al⟩
      ·obtain ⟨dy, h4, al⟩ := zt al
       obtain ⟨ez, h5, al⟩ := zt al
       obtain ⟨gk, h6, al⟩ := zt al
       obtain rfl := zk al
       exact yB ((zcL Tryd.prog).or X0) hC d8 ((da.set cq.toNat (orK .u64 ez dy)), w64 (cq + 1)) hl2 [Hq c3, Hi (eI .u64) h4, Hn (iL (eI .u64) h5), Hs (iM (eI .u64) h5), Hn (iL (eI .u64) h6), Hs (iM (eI .u64) h6), Hs (iM (eI .u64) h6), Hl (sM (eI .u64) da cq (orK .u64 ez dy))]
      ·obtain rfl := zk al
       obtain rfl := hl2
       exact yB X0 hC eg da ae [Hq c3]
   ·obtain rfl := zk ae
    obtain rfl := hl1
    exact yB X0 hC bf () aa (Z0 ++ [Hq c1])
theorem jQ (hC : zS Tryd.prog ctr) (h0g : ctr.Has yM) (h0h : ctr.Has yN) : w4.Ok Tryd.prog := by
 have H : ∀ n, (xL (vN n)).Ok Tryd.prog := by
  intro n
  induction n with
  | zero => exact yh fun _ _ h => nomatch (show none = some _ from h)
  | succ n ih => exact jh (Ctr.add_ok hC ih) (h0g.add (by show (56 : Nat) ≠ 40; decide)) (h0h.add (by show (57 : Nat) ≠ 40; decide)) _ (Ctr.add_has _ _)
 exact yh fun x r h => z2e (H _) h
def zZ : Code := (Tryd.f19.body).getD .skip
def uc : yW := spF (α := z8 × List (List Int) × Int) (ρ := List (List Int) × Int) 19 (fun x => [wf x.1, F9_ x.2.1, (eI .i64) x.2.2]) (fun r => .tup [F7_ r.1, (eI .i64) r.2]) (fun x => j5 x.1 x.2.1 x.2.2) [] (zbU)
abbrev ZL : List (Nat × T) := []
abbrev ZK (l_ : List (List Int)) (ah : List za) (ap : List Int) (bv : List (List Int)) (dr : Int) : List (Nat × T) := [(1, .d (eSl 1 false F4_ l_)), (9, .d (eSl 5 false (zb F4_ zF zB) ah)), (10, .d (.sptr (.agg [eSl 1 false F2_ bv, eSl 1 true (eI .u64) ap]))), (68, .d (I (w64 (((l_.length : Nat) : Int) + 1)))), (69, .d (I dr))]
abbrev ZJ (bh : List Int × Bool) (out : List (List Int)) : List (Nat × T) := [(16, .own (z44 1 ((bh.1.length : Nat) : Int).toNat F1_ out))]
abbrev ZH (l_ : List (List Int)) (bh : List Int × Bool) (aq : List (List Int)) (ge : Int) : List (Nat × T) := [(1, .d (eSl 1 false F4_ l_)), (16, .own (z44 1 ((bh.1.length : Nat) : Int).toNat F1_ aq)), (86, .d (eSl 1 false (eI .i64) bh.1)), (87, .d (I ((bh.1.length : Nat) : Int))), (88, .d (I ge))]
abbrev ZI (l_ : List (List Int)) (ah : List za) (ap : List Int) (bv : List (List Int)) (dr : Int) : List (Nat × T) := [(1, .d (eSl 1 false F4_ l_)), (9, .d (eSl 5 false (zb F4_ zF zB) ah)), (10, .d (.sptr (.agg [eSl 1 false F2_ bv, eSl 1 true (eI .u64) ap]))), (68, .d (I (w64 (((l_.length : Nat) : Int) + 1)))), (69, .d (I dr))]
abbrev ZM (l_ : List (List Int)) (ah : List za) (ap : List Int) (bv : List (List Int)) : List (Nat × T) := [(1, .d (eSl 1 false F4_ l_)), (9, .d (eSl 5 false (zb F4_ zF zB) ah)), (10, .own (.box (.agg [eOs 1 false F2_ bv, eSl 1 true (eI .u64) ap])))]
abbrev ZG (m_ : z8) (l_ : List (List Int)) (ah : List za) (ap : List Int) (cb : List (List Int)) (cq : Int) : List (Nat × T) := [(1, .d (eSl 1 false F4_ l_)), (3, .own (.box (wf m_))), (9, .d (eSl 5 false (zb F4_ zF zB) ah)), (10, .own (.box (.agg [eOs 1 false F2_ cb, eSl 1 true (eI .u64) ap]))), (44, .d (eSl 1 false F4_ l_)), (45, .d (I ((l_.length : Nat) : Int))), (46, .d (I cq))]
def zy : XH Tryd.prog := ((z6B zD (.inl 99) [98]).or X0)
theorem Xn (hC : zS Tryd.prog ctr) (h03 : ctr.Has xH) (h04 : ctr.Has wm) (h02 : ctr.Has x5) (h0f : ctr.Has vC) (h0K : ctr.Has w4) (h01 : ctr.Has yg) (h00 : ctr.Has yk) : uc.Ok Tryd.prog := by
 refine yh ?_
 rintro ⟨m_, l_, goal⟩ r0 aa
 try unfold j5 at aa
 refine yO false [(6, none), (7, none)] zZ 104 Tryd.func19 fun E hE => ?_
 obtain ⟨r_, h0, aa⟩ := zt aa
 let Z0 : List HO := [Hc h03 (x := (m_, l_)) h0 (loC wf m_ <| loC F9_ l_ <| loN)]
 rcases yq aa with ⟨c0, aa⟩ | ⟨c0, aa⟩
 ·obtain rfl := zk aa
  exact yEx zy hC hE (Z0 ++ [Hq c0, Hm (shM F4_ F4_ [])]) (.tup [eSl 1 true F1_ [], I r_]) (show LeV (.tup [eSl 1 true F1_ [], I r_]) (.tup [eSl 1 true F1_ ([] : List (List Int)), I r_]) from inferInstance)
 ·rcases yq aa with ⟨c1, aa⟩ | ⟨c1, aa⟩
  ·obtain rfl := zk aa
   exact yEx zy hC hE (Z0 ++ [Hq c0, Hq c1, Hq c1, Hq c1, qT, Hm (shM F4_ F4_ [])]) (.tup [eSl 1 true F1_ [], I 1]) (show LeV (.tup [eSl 1 true F1_ [], I 1]) (.tup [eSl 1 true F1_ ([] : List (List Int)), I 1]) from inferInstance)
  ·let Z1 : List HO := (Z0 ++ [Hq c0, Hq c1, Hq c1, Hq c1])
   rcases yq aa with ⟨c2, aa⟩ | ⟨c2, aa⟩
   ·obtain rfl := zk aa
    exact yEx zy hC hE (Z1 ++ [Hq c2, Hm (shM F4_ F4_ [])]) (.tup [eSl 1 true F1_ [], I 1]) (show LeV (.tup [eSl 1 true F1_ [], I 1]) (.tup [eSl 1 true F1_ ([] : List (List Int)), I 1]) from inferInstance)
   ·let Z2 : List HO := (Z1 ++ [Hq c2, Ha (lnM F4_ l_)])
    rcases yq aa with ⟨c3, aa⟩ | ⟨c3, aa⟩
    ·obtain rfl := zk aa
     exact yEx zy hC hE (Z2 ++ [Hq c3, Hm (shM F4_ F4_ [])]) (.tup [eSl 1 true F1_ [], I 3]) (show LeV (.tup [eSl 1 true F1_ [], I 3]) (.tup [eSl 1 true F1_ ([] : List (List Int)), I 3]) from inferInstance)
    ·obtain ⟨ah, h1, aa⟩ := zt aa
     obtain ⟨aj, h2, aa⟩ := zt aa
     obtain ⟨ap, h3, aa⟩ := zt aa
     refine yJ ((ku (P := Tryd.prog) wz 40 1 [] (fa := .fn 39 []) (r := eSl 1 true (eI .u64) ap) (xl := [(eSl 5 false (zb F4_ zF zB)) ah]) (xr := []) (qs := [(y9 (zm (eI .i64) eB aj.states_)), (y9 (zm F0_ eB aj.edges_)), (y9 (zm zF eB aj.pairs_))]) (qs' := [(y9 (zm (eI .i64) eB aj.states_)), (y9 (zm F0_ eB aj.edges_)), (y9 (zm zF eB aj.pairs_))]) (es := [(zm (eI .i64) eB aj.states_), (zm F0_ eB aj.edges_), (zm zF eB aj.pairs_)]) (es' := [(zm (eI .i64) eB aj.states_), (zm F0_ eB aj.edges_), (zm zF eB aj.pairs_)]) (.inl rfl) (z1u (by kernel_rfl)) (.cons (xQ (zm (eI .i64) eB aj.states_)) (.cons (xQ (zm F0_ eB aj.edges_)) (.cons (xQ (zm zF eB aj.pairs_)) (.nil)))) (fun us hu => vZ hC _ _ _ h3 us hu) (some 41)).or zy) hC zZ [1,1,1,1,1,1] [] [1,9,10] (fun z : List (List Int) => uk l_ ah ap z = some r0) (fun z => ZM l_ ah ap z) [(1, .d (eSl 1 false F4_ l_)), (3, .own (.box (wf m_))), (9, .d (eSl 5 false (zb F4_ zF zB) ah)), (10, .own (.box (.agg [eOs 1 true F5_ [], eSl 1 true (eI .u64) ap])))] (Z2 ++ [Hq c3, Hc h04 (x := (m_, goal)) h1 (loC wf m_ <| loC (eI .i64) goal <| loN), Hc h02 (x := (m_, l_)) h2 (loC wf m_ <| loC F9_ l_ <| loN), Hm (shM (zb F4_ zF zB) (zb F4_ zF zB) ah), Hn (⟨rfl, leP (show XO [(eSl 5 false (zb F4_ zF zB)) ah] [(eSl 5 false (zb F4_ zF zB)) ah] from inferInstance), leP (show XO [] [] from inferInstance), rfl, rfl⟩ : ([.fn 39 []] : List A) = [.fn 39 []] ∧ LeP [(eSl 5 false (zb F4_ zF zB)) ah] [(eSl 5 false (zb F4_ zF zB)) ah] ∧ LeP [] [] ∧ T.als 40 [] 1 1 = T.als 40 [] 1 1 ∧ (some (.agg [.opq (y9 (zm (eI .i64) eB aj.states_)), .opq (y9 (zm F0_ eB aj.edges_)), .opq (y9 (zm zF eB aj.pairs_))]) : Option A) = some (.agg [.opq (y9 (zm (eI .i64) eB aj.states_)), .opq (y9 (zm F0_ eB aj.edges_)), .opq (y9 (zm zF eB aj.pairs_))])), Hh (.cut 0)]) ?_ fun J1 bf => ?_
     ·rintro bv aa
      unfold uk at aa
      refine yJ zy hC zZ [1,1,1,1,1,1,1] [] [] (fun z : Unit => uj = some r0) (fun z => ZL) [(1, .d (eSl 1 false F4_ l_)), (9, .d (eSl 5 false (zb F4_ zF zB) ah)), (10, .own (.box (.agg [eOs 1 false F2_ bv, eSl 1 true (eI .u64) ap])))] [Hh (.cut 0)] ?_ fun J2 bj => ?_
      ·rintro ⟨⟩ aa
       unfold uj at aa
       obtain rfl := zk aa
       exact yEx zy hC hE [Hm (shM F4_ F4_ [])] (.tup [eSl 1 true F1_ [], I 0]) (show LeV (.tup [eSl 1 true F1_ [], I 0]) (.tup [eSl 1 true F1_ ([] : List (List Int)), I 0]) from inferInstance)
      ·obtain ⟨t3, ht3, aa⟩ := zt aa
       refine yL zy hC zZ [1,1,1,1,1,1,1,2,1,0] [J2] (fun s => ug l_ ah ap bv s) (fun x => ZI l_ ah ap bv x) 0 ht3  [Ha (lnM F4_ l_), Hh (.n 1 [10]), Hm (shM F2_ F2_ bv)] ?_
       rintro dr m3 br ae hl1 J3 cr
       try unfold ug at ae
       rcases yq ae with ⟨c4, ae⟩ | ⟨c4, ae⟩
       ·refine yJ zy hC zZ [1,1,1,1,1,1,1,2,1,0,0,1,1] [J2, J3] [1,9,10,68,69] (fun z : Unit => ui dr = some br) (fun z => ZK l_ ah ap bv dr) [(1, .d (eSl 1 false F4_ l_)), (9, .d (eSl 5 false (zb F4_ zF zB) ah)), (10, .d (.sptr (.agg [eSl 1 false F2_ bv, eSl 1 true (eI .u64) ap]))), (68, .d (I (w64 (((l_.length : Nat) : Int) + 1)))), (69, .d (I dr))] [Hq c4, Hh (.cut 0)] ?_ fun J4 eg => ?_
        ·rintro ⟨⟩ ae
         unfold ui at ae
         obtain rfl := zk ae
         exact yB zy hC cr (w64 (dr + 1)) hl1 []
        ·obtain ⟨au, h4, ae⟩ := zt ae
         obtain ⟨bl, h5, ae⟩ := zt ae
         obtain ⟨bh, h6, ae⟩ := zt ae
         let Z3 : List HO := [Hc h0f (x := ()) h4 (loN), Hn (⟨rfl, leP (show XO [(eSl 5 false (zb F4_ zF zB)) ah] [(eSl 5 false (zb F4_ zF zB)) ah] from inferInstance), leP (show XO [] [] from inferInstance), rfl, rfl⟩ : ([.fn 39 []] : List A) = [.fn 39 []] ∧ LeP [(eSl 5 false (zb F4_ zF zB)) ah] [(eSl 5 false (zb F4_ zF zB)) ah] ∧ LeP [] [] ∧ T.als 75 [] 1 1 = T.als 75 [] 1 1 ∧ (some (.agg [.opq (y9 (zm (eI .i64) eB au.states_)), .opq (y9 (zm F0_ eB au.edges_)), .opq (y9 (zm zF eB au.pairs_))]) : Option A) = some (.agg [.opq (y9 (zm (eI .i64) eB au.states_)), .opq (y9 (zm F0_ eB au.edges_)), .opq (y9 (zm zF eB au.pairs_))])), Hc h0K (x := ((zw.mk bv ap), bl,0, dr)) h6 (loC (eSp (yQ (eSl 1 false F2_) F2_)) (zw.mk bv ap) <| loC F2_ bl <| loC (eI .i64) 0 <| loC (eI .i64) dr <| loN)]
         rcases yq ae with ⟨c5, ae⟩ | ⟨c5, ae⟩
         ·exact yB ((ku (P := Tryd.prog) wz 75 1 [] (fa := .fn 39 []) (r := eSl 1 true (eI .u64) bl) (xl := [(eSl 5 false (zb F4_ zF zB)) ah]) (xr := []) (qs := [(y9 (zm (eI .i64) eB au.states_)), (y9 (zm F0_ eB au.edges_)), (y9 (zm zF eB au.pairs_))]) (qs' := [(y9 (zm (eI .i64) eB au.states_)), (y9 (zm F0_ eB au.edges_)), (y9 (zm zF eB au.pairs_))]) (es := [(zm (eI .i64) eB au.states_), (zm F0_ eB au.edges_), (zm zF eB au.pairs_)]) (es' := [(zm (eI .i64) eB au.states_), (zm F0_ eB au.edges_), (zm zF eB au.pairs_)]) (.inl rfl) (z1u (by kernel_rfl)) (.cons (xQ (zm (eI .i64) eB au.states_)) (.cons (xQ (zm F0_ eB au.edges_)) (.cons (xQ (zm zF eB au.pairs_)) (.nil)))) (fun us hu => vZ hC _ _ _ h5 us hu) (some 76)).or zy) hC eg () ae (Z3 ++ [Hq c5])
         ·obtain ⟨g0, ae⟩ := gdE ae
          refine yJ ((xCm zD 85 1).or ((ku (P := Tryd.prog) wz 75 1 [] (fa := .fn 39 []) (r := eSl 1 true (eI .u64) bl) (xl := [(eSl 5 false (zb F4_ zF zB)) ah]) (xr := []) (qs := [(y9 (zm (eI .i64) eB au.states_)), (y9 (zm F0_ eB au.edges_)), (y9 (zm zF eB au.pairs_))]) (qs' := [(y9 (zm (eI .i64) eB au.states_)), (y9 (zm F0_ eB au.edges_)), (y9 (zm zF eB au.pairs_))]) (es := [(zm (eI .i64) eB au.states_), (zm F0_ eB au.edges_), (zm zF eB au.pairs_)]) (es' := [(zm (eI .i64) eB au.states_), (zm F0_ eB au.edges_), (zm zF eB au.pairs_)]) (.inl rfl) (z1u (by kernel_rfl)) (.cons (xQ (zm (eI .i64) eB au.states_)) (.cons (xQ (zm F0_ eB au.edges_)) (.cons (xQ (zm zF eB au.pairs_)) (.nil)))) (fun us hu => vZ hC _ _ _ h5 us hu) (some 76)).or zy)) hC zZ [1,1,1,1,1,1,1,2,1,0,0,1,1,2,0,1,1,1,1] [J2, J3, J4] [16] (fun z : List (List Int) => uh bh z = some br) (fun z => ZJ bh z) [(1, .d (eSl 1 false F4_ l_)), (14, .d (eSl 1 false (eI .i64) bh.1)), (16, .own (z44 1 ((bh.1.length : Nat) : Int).toNat F4_ ([] : List (List Int))))] (Z3 ++ [Hq c5, Ha (lnM (eI .i64) bh.1), Hn (zdH g0), Hh (.cut 0)]) ?_ fun J5 d8 => ?_
          ·rintro out ae
           unfold uh at ae
           obtain ⟨g1, ae⟩ := gdE ae
           obtain rfl := zk ae
           obtain rfl := hl1
           obtain rfl := zk aa
           exact yE ((xCe Tryd.prog 6 1 (((bh.1.length : Nat) : Int).toNat) (out.map F1_)).or zy) hC hE [Hn (⟨rfl, zdJ F1_ g1⟩ : z44 1 (((bh.1.length : Nat) : Int).toNat) F1_ out = A.opq (Kr 1 (((bh.1.length : Nat) : Int).toNat) (out.map F1_)).q ∧ (out.map F1_).length = ((bh.1.length : Nat) : Int).toNat), Hm (shM F1_ F1_ out)]
          ·obtain ⟨t6, ht6, ae⟩ := zt ae
           refine yL zy hC zZ [1,1,1,1,1,1,1,2,1,0,0,1,1,2,0,1,1,1,1,2,1,0] [J2, J3, J4, J5] (fun s => uf l_ bh s.1 s.2) (fun x => ZH l_ bh x.1 x.2) (([] : List (List Int)), 0) ht6  [Ha (lnM (eI .i64) bh.1)] ?_
           rintro ⟨aq, ge⟩ m6 fj al hl2 J6 gf
           try unfold uf at al
           rcases yq al with ⟨c6, al⟩ | ⟨c6, al⟩
           ·obtain ⟨u_, h7, al⟩ := zt al
            obtain ⟨bk, h8, al⟩ := zt al
            obtain ⟨ck, h9, al⟩ := zt al
            obtain ⟨cn, h10, al⟩ := zt al
            obtain ⟨g2, al⟩ := gdE al
            obtain rfl := zk al
            exact yB ((xCa zD 100 1 (((bh.1.length : Nat) : Int).toNat) (aq.map F1_) ((aq ++ ([cn] : List (List Int))).map F1_)).or zy) hC gf ((aq ++ ([cn] : List (List Int))), w64 (ge + 1)) hl2 [Hq c6, Hi (eI .i64) h7, Hi F4_ h8, Hc h01 (x := bk) h9 (loC F4_ bk <| loN), Hg (QV h00), Hm (shM (eI .i64) (eI .i64) ck), Hs (QX h00 (x := ck) h10 (loC F4_ ck <| loN)), Hm (shM (eI .i64) (eI .i64) ck), Hn (⟨rfl, dM F1_ ([cn] : List (List Int)), rfl⟩ : 1 = 1 ∧ A.areD (([cn] : List (List Int)).map F1_) = true ∧ true = true), Hn (⟨rfl, zdI F1_ F1_ g2⟩ : z44 1 (((bh.1.length : Nat) : Int).toNat) F1_ aq = A.opq (Kr 1 (((bh.1.length : Nat) : Int).toNat) (aq.map F1_)).q ∧ (aq.map F1_).length + (([cn] : List (List Int)).map F1_).length ≤ ((bh.1.length : Nat) : Int).toNat), Hn (aM F1_ aq ([cn] : List (List Int)))]
           ·obtain rfl := zk al
            obtain rfl := hl2
            exact yB zy hC d8 aq ae [Hq c6]
       ·obtain rfl := zk ae
        obtain rfl := hl1
        exact yB zy hC bj () aa [Hq c4]
     ·obtain ⟨t7, ht7, aa⟩ := zt aa
      refine yLx zy hC zZ [1,1,1,1,1,1,2,1,0] [J1] (fun s => ue m_ l_ ah s.1 s.2) (fun x => ZG m_ l_ ah ap x.1 x.2) (([] : List (List Int)), 0) ht7 [(1, .d (eSl 1 false F4_ l_)), (3, .own (.box (wf m_))), (9, .d (eSl 5 false (zb F4_ zF zB) ah)), (10, .own (.box (.agg [eOs 1 true F2_ [], eSl 1 true (eI .u64) ap]))), (44, .d (eSl 1 false F4_ l_)), (45, .d (I ((l_.length : Nat) : Int))), (46, .d (I 0))] inferInstance [Ha (lnM F4_ l_)] ?_
      rintro ⟨cb, cq⟩ m7 br ae hl1 J7 gp
      try unfold ue at ae
      rcases yq ae with ⟨c7, ae⟩ | ⟨c7, ae⟩
      ·refine yA zy hC zZ [1,1,1,1,1,1,2,1,0,0,1,1] [J1, J7] [(1, .d (eSl 1 false F4_ l_)), (3, .own (.box (wf m_))), (9, .d (eSl 5 false (zb F4_ zF zB) ah)), (10, .own (.box (.agg [eOs 1 false F2_ cb, eSl 1 true (eI .u64) ap]))), (44, .d (eSl 1 false F4_ l_)), (45, .d (I ((l_.length : Nat) : Int))), (46, .d (I cq))] [Hq c7, Hh (.cut 0)] ?_
       obtain ⟨cu, h11, ae⟩ := zt ae
       obtain ⟨bw, h12, ae⟩ := zt ae
       obtain ⟨dc, h13, ae⟩ := zt ae
       obtain ⟨g3, ae⟩ := gdE ae
       refine z3H (by kernel_rfl) (x := (sub [1,1,1,1,1,1,2,1,0,0,1,1,0] zZ)) (y := (sub [1,1,1,1,1,1,2,1,0,0,1,1,1] zZ)) 10 (fun st1 => Own.canon [1,3,9,10,44,45,46] st1 = ofL [(1, .d (eSl 1 false F4_ l_)), (3, .own (.box (wf m_))), (9, .d (eSl 5 false (zb F4_ zF zB) ah)), (10, .own (.box (.agg [eOs 1 false F2_ (cb ++ ([dc] : List (List Int))), eSl 1 true (eI .u64) ap]))), (44, .d (eSl 1 false F4_ l_)), (45, .d (I ((l_.length : Nat) : Int))), (46, .d (I cq))]) ⟨_, rfl⟩ (fun b10 => yF ((xNc Tryd.prog 63 10 (z2G b10)).or ((ku (P := Tryd.prog) wz 59 1 [] (fa := .fn 39 []) (r := eSl 1 true (eI .u64) dc) (xl := [(eSl 5 false (zb F4_ zF zB)) ah]) (xr := []) (qs := [(y9 (zm (eI .i64) eB bw.states_)), (y9 (zm F0_ eB bw.edges_)), (y9 (zm zF eB bw.pairs_))]) (qs' := [(y9 (zm (eI .i64) eB bw.states_)), (y9 (zm F0_ eB bw.edges_)), (y9 (zm zF eB bw.pairs_))]) (es := [(zm (eI .i64) eB bw.states_), (zm F0_ eB bw.edges_), (zm zF eB bw.pairs_)]) (es' := [(zm (eI .i64) eB bw.states_), (zm F0_ eB bw.edges_), (zm zF eB bw.pairs_)]) (.inl rfl) (z1u (by kernel_rfl)) (.cons (xQ (zm (eI .i64) eB bw.states_)) (.cons (xQ (zm F0_ eB bw.edges_)) (.cons (xQ (zm zF eB bw.pairs_)) (.nil)))) (fun us hu => vZ hC _ _ _ h13 us hu) (some 60)).or ((xMv Tryd.prog 50 10 (z2G b10) rfl).or zy))) hC .normal [(1, .d (eSl 1 false F4_ l_)), (3, .own (.box (wf m_))), (9, .d (eSl 5 false (zb F4_ zF zB) ah)), (10, .own (.box (.agg [eOs 1 false F2_ (cb ++ ([dc] : List (List Int))), eSl 1 true (eI .u64) ap]))), (44, .d (eSl 1 false F4_ l_)), (45, .d (I ((l_.length : Nat) : Int))), (46, .d (I cq))] [Hi F4_ h11, Hn (rfl : some (z2G b10) = some (z2G b10)), Hg (QV h02), Hm (shM F4_ F4_ ([cu])), Hs (QX h02 (x := (m_, [cu])) h12 (loC wf m_ <| loC F8_ ([cu] : List (List Int)) <| loN)), Hm (shM F4_ F4_ ([cu])), Hn (⟨rfl, leP (show XO [(eSl 5 false (zb F4_ zF zB)) ah] [(eSl 5 false (zb F4_ zF zB)) ah] from inferInstance), leP (show XO [] [] from inferInstance), rfl, rfl⟩ : ([.fn 39 []] : List A) = [.fn 39 []] ∧ LeP [(eSl 5 false (zb F4_ zF zB)) ah] [(eSl 5 false (zb F4_ zF zB)) ah] ∧ LeP [] [] ∧ T.als 59 [] 1 1 = T.als 59 [] 1 1 ∧ (some (.agg [.opq (y9 (zm (eI .i64) eB bw.states_)), .opq (y9 (zm F0_ eB bw.edges_)), .opq (y9 (zm zF eB bw.pairs_))]) : Option A) = some (.agg [.opq (y9 (zm (eI .i64) eB bw.states_)), .opq (y9 (zm F0_ eB bw.edges_)), .opq (y9 (zm zF eB bw.pairs_))])), Hq (dM F2_ ([dc] : List (List Int))), Hn (dM F2_ ([dc] : List (List Int))), Hn (aL F2_ F2_ g3), Hl (aM F2_ cb ([dc] : List (List Int))), Hn (⟨rfl, rfl⟩ : T.d (.atom (z2G b10)) = T.d (.atom (z2G b10)) ∧ some (z2G b10) = some (z2G b10))] fun st0 h0 => ⟨rfl, h0⟩) fun st1 h1 => z3J h1 ?_
       obtain rfl := zk ae
       exact yB zy hC gp ((cb ++ ([dc] : List (List Int))), w64 (cq + 1)) hl1 []
      ·obtain rfl := zk ae
       obtain rfl := hl1
       exact yB zy hC bf cb aa [Hq c7]
def j7 : Code := (Tryd.f36.body).getD .skip
def qV : yW := spF (α := List Int × List Int) (ρ := Int) 36 (fun x => [F4_ x.1, F4_ x.2]) (fun r => (eI .i64) r) (fun x => kY x.1 x.2) [] (Us)
abbrev Xb : List (Nat × T) := []
abbrev Xa (a_ : List Int) (b_ : List Int) (i_ : Int) : List (Nat × T) := [(0, .d (eSl 1 false (eI .i64) a_)), (1, .d (eSl 1 false (eI .i64) b_)), (5, .d (I i_))]
theorem Vj (hC : zS Tryd.prog ctr) : qV.Ok Tryd.prog := by
 refine yh ?_
 rintro ⟨a_, b_⟩ r0 aa
 try unfold kY at aa
 refine yO true [(4, none)] j7 40 Tryd.func36 fun E hE => ?_
 let Z0 : List HO := [Ha (lnM (eI .i64) a_), Ha (lnM (eI .i64) b_)]
 rcases yq aa with ⟨c0, aa⟩ | ⟨c0, aa⟩
 ·let Z1 : List HO := (Z0 ++ [Hq c0, Ha (lnM (eI .i64) a_), Ha (lnM (eI .i64) b_)])
  rcases yq aa with ⟨c1, aa⟩ | ⟨c1, aa⟩
  ·obtain rfl := zk aa
   exact yE X0 hC hE (Z1 ++ [Hq c1])
  ·obtain rfl := zk aa
   exact yE X0 hC hE (Z1 ++ [Hq c1])
 ·refine yJ X0 hC j7 [1,1] [] [] (fun z : Unit => j4 = some r0) (fun z => Xb) [(0, .d (eSl 1 false (eI .i64) a_)), (1, .d (eSl 1 false (eI .i64) b_))] (Z0 ++ [Hq c0, Hh (.cut 0)]) ?_ fun J1 bf => ?_
  ·rintro ⟨⟩ aa
   unfold j4 at aa
   obtain rfl := zk aa
   exact yE X0 hC hE []
  ·obtain ⟨t2, ht2, aa⟩ := zt aa
   refine yL X0 hC j7 [1,1,2,1,0] [J1] (fun s => qZ a_ b_ s) (fun x => Xa a_ b_ x) 0 ht2  [] ?_
   rintro i_ m2 br ae hl1 J2 bj
   try unfold qZ at ae
   rcases yq ae with ⟨c2, ae⟩ | ⟨c2, ae⟩
   ·obtain ⟨fe, h0, ae⟩ := zt ae
    obtain ⟨ff, h1, ae⟩ := zt ae
    let Z2 : List HO := [Ha (lnM (eI .i64) a_), Hq c2, Hi (eI .i64) h0, Hi (eI .i64) h1]
    rcases yq ae with ⟨c3, ae⟩ | ⟨c3, ae⟩
    ·obtain rfl := zk ae
     obtain rfl := hl1
     obtain rfl := zk aa
     exact yE X0 hC hE (Z2 ++ [Hq c3])
    ·obtain ⟨gm, h2, ae⟩ := zt ae
     obtain ⟨gn, h3, ae⟩ := zt ae
     let Z3 : List HO := (Z2 ++ [Hq c3, Hi (eI .i64) h2, Hi (eI .i64) h3])
     rcases yq ae with ⟨c4, ae⟩ | ⟨c4, ae⟩
     ·obtain rfl := zk ae
      obtain rfl := hl1
      obtain rfl := zk aa
      exact yE X0 hC hE (Z3 ++ [Hq c4])
     ·obtain rfl := zk ae
      exact yB X0 hC bj (w64 (i_ + 1)) hl1 (Z3 ++ [Hq c4])
   ·obtain rfl := zk ae
    obtain rfl := hl1
    exact yB X0 hC bf () aa [Ha (lnM (eI .i64) a_), Hq c2]
def Zm : Code := (Tryd.f29.body).getD .skip
def kQ : yW := spF (α := List (List Int) × List (List Int)) (ρ := Bool) 29 (fun x => [F9_ x.1, F9_ x.2]) (fun r => eB r) (fun x => Yl x.1 x.2) [] (Us)
abbrev WU : List (Nat × T) := []
abbrev WT (a_ : List (List Int)) (b_ : List (List Int)) (i_ : Int) : List (Nat × T) := [(0, .d (eSl 1 false F4_ a_)), (1, .d (eSl 1 false F4_ b_)), (5, .d (I i_))]
theorem Jt (hC : zS Tryd.prog ctr) (h0L : ctr.Has qV) : kQ.Ok Tryd.prog := by
 refine yh ?_
 rintro ⟨a_, b_⟩ r0 aa
 try unfold Yl at aa
 refine yO true [(4, none)] Zm 27 Tryd.func29 fun E hE => ?_
 let Z0 : List HO := [Ha (lnM F4_ a_), Ha (lnM F4_ b_)]
 rcases yq aa with ⟨c0, aa⟩ | ⟨c0, aa⟩
 ·obtain rfl := zk aa
  exact yE X0 hC hE (Z0 ++ [Hq c0])
 ·refine yJ X0 hC Zm [1,1] [] [] (fun z : Unit => Za = some r0) (fun z => WU) [(0, .d (eSl 1 false F4_ a_)), (1, .d (eSl 1 false F4_ b_))] (Z0 ++ [Hq c0, Hh (.cut 0)]) ?_ fun J1 bf => ?_
  ·rintro ⟨⟩ aa
   unfold Za at aa
   obtain rfl := zk aa
   exact yE X0 hC hE []
  ·obtain ⟨t2, ht2, aa⟩ := zt aa
   refine yL X0 hC Zm [1,1,2,1,0] [J1] (fun s => kZ a_ b_ s) (fun x => WT a_ b_ x) 0 ht2  [] ?_
   rintro i_ m2 br ae hl1 J2 bj
   try unfold kZ at ae
   let Z1 : List HO := [Ha (lnM F4_ a_)]
   rcases yq ae with ⟨c1, ae⟩ | ⟨c1, ae⟩
   ·obtain ⟨fe, h0, ae⟩ := zt ae
    obtain ⟨ff, h1, ae⟩ := zt ae
    obtain ⟨r_, h2, ae⟩ := zt ae
    let Z2 : List HO := (Z1 ++ [Hq c1, Hi F4_ h0, Hi F4_ h1, Hc h0L (x := (fe, ff)) h2 (loC F4_ fe <| loC F4_ ff <| loN)])
    rcases yq ae with ⟨c2, ae⟩ | ⟨c2, ae⟩
    ·obtain rfl := zk ae
     obtain rfl := hl1
     obtain rfl := zk aa
     exact yE X0 hC hE (Z2 ++ [Hq c2])
    ·obtain rfl := zk ae
     exact yB X0 hC bj (w64 (i_ + 1)) hl1 (Z2 ++ [Hq c2])
   ·obtain rfl := zk ae
    obtain rfl := hl1
    exact yB X0 hC bf () aa (Z1 ++ [Hq c1])
def UH : Code := (Tryd.f10.body).getD .skip
def kh : yW := spF (α := Unit) (ρ := Bool) 10 (fun x => []) (fun r => eB r) (fun x => Zd) [] (fun _ _ _ => rfl)
theorem Qr (hC : zS Tryd.prog ctr) (h0M : ctr.Has jx) (h06 : ctr.Has ut) (h0p : ctr.Has uu) (h08 : ctr.Has wS) (h0q : ctr.Has uc) (h09 : ctr.Has vD) (h0b : ctr.Has kQ) : kh.Ok Tryd.prog := by
 refine yh ?_
 rintro ⟨⟩ r0 aa
 try unfold Zd at aa
 refine yO true [(0, none)] UH 117 Tryd.func10 fun E hE => ?_
 obtain ⟨r_, h0, aa⟩ := zt aa
 obtain ⟨ah, h1, aa⟩ := zt aa
 obtain ⟨aj, h2, aa⟩ := zt aa
 obtain ⟨ap, h3, aa⟩ := zt aa
 obtain ⟨au, h4, aa⟩ := zt aa
 obtain ⟨bl, h5, aa⟩ := zt aa
 let Z0 : List HO := [Hc h0M (x := ()) h0 (loN), Hc h06 (x := (r_, [])) h1 (loC z8w r_ <| loC F8_ ([] : List (List Int)) <| loN), Hg (QV h06), Hm (shM F3_ F1_ ([[1], [0,0,1]])), Hs (QX h06 (x := (r_, [[1], [0,0,1]])) h2 (loC z8w r_ <| loC F7_ ([[1], [0,0,1]] : List (List Int)) <| loN)), Hg (QV h0p), Hm (shM F3_ F1_ ([[1], [0,0,1]])), Hs (QX h0p (x := (r_, [[1], [0,0,1]])) h3 (loC z8w r_ <| loC F7_ ([[1], [0,0,1]] : List (List Int)) <| loN)), Hm (shM F3_ F1_ ([[1], [0,0,1]])), Hc h08 (x := (r_, [], 1)) h4 (loC z8w r_ <| loC F8_ ([] : List (List Int)) <| loC (eI .i64) 1 <| loN), Hg (QV h0q), Hm (shM F3_ F1_ ([[0], [1], [0,0], [0,1,1]])), Hs (QX h0q (x := (r_, [[0], [1], [0,0], [0,1,1]], 1)) h5 (loC z8w r_ <| loC F7_ ([[0], [1], [0,0], [0,1,1]] : List (List Int)) <| loC (eI .i64) 1 <| loN)), Hm (shM F3_ F1_ ([[0], [1], [0,0], [0,1,1]]))]
 rcases yq aa with ⟨c0, aa⟩ | ⟨c0, aa⟩
 ·rcases yq aa with ⟨c1, aa⟩ | ⟨c1, aa⟩
  ·let Z1 : List HO := (Z0 ++ [Hq c0, Hq c0, Hq c0, Hq c1, Hq c1, Hq c1])
   rcases yq aa with ⟨c2, aa⟩ | ⟨c2, aa⟩
   ·rcases yq aa with ⟨c3, aa⟩ | ⟨c3, aa⟩
    ·let Z2 : List HO := (Z1 ++ [Hq c2, Hq c2, Hq c2, Hq c3, Hq c3, Hq c3])
     rcases yq aa with ⟨c4, aa⟩ | ⟨c4, aa⟩
     ·let Z3 : List HO := (Z2 ++ (rpN 7 (Hq c4) []))
      rcases yq aa with ⟨c5, aa⟩ | ⟨c5, aa⟩
      ·obtain ⟨bh, h6, aa⟩ := zt aa
       let Z4 : List HO := (Z3 ++ [Hq c5, Hq c5, Hc h09 (x := ah.1) h6 (loC z8j ah.1 <| loN), Hq c5, Hx (.a (.atom (.bool (bh == ([115,116,97,116,101,115,32,49,47,50,44,32,101,100,103,101,115,32,48,47,52,44,32,112,97,105,114,115,32,48,47,56] : List UInt8))))) (zb4 bh ([115,116,97,116,101,115,32,49,47,50,44,32,101,100,103,101,115,32,48,47,52,44,32,112,97,105,114,115,32,48,47,56] : List UInt8)), Hq c5])
       rcases yq aa with ⟨c6, aa⟩ | ⟨c6, aa⟩
       ·let Z5 : List HO := (Z4 ++ (rpN 7 (Hq c6) []))
        rcases yq aa with ⟨c7, aa⟩ | ⟨c7, aa⟩
        ·let Z6 : List HO := (Z5 ++ [Hq c7, Hq c7, Ha (lnM F0_ ap.1), Hq c7, Hq c7])
         rcases yq aa with ⟨c8, aa⟩ | ⟨c8, aa⟩
         ·obtain ⟨u_, h7, aa⟩ := zt aa
          let Z7 : List HO := (Z6 ++ (Hq c8 :: Hq c8 :: Hi F0_ h7 :: (rpN 4 (Hq c8) [])))
          rcases yq aa with ⟨c9, aa⟩ | ⟨c9, aa⟩
          ·obtain ⟨ck, h8, aa⟩ := zt aa
           let Z8 : List HO := (Z7 ++ (rpN 7 (Hq c9) [Hg (QV h0b), Hm (shM F3_ F1_ ([[0], [1], [0,0], [0,1]])), Hs (QX h0b (x := (au.1, [[0], [1], [0,0], [0,1]])) h8 (loC F7_ au.1 <| loC F7_ ([[0], [1], [0,0], [0,1]] : List (List Int)) <| loN)), Hq c9]))
           rcases yq aa with ⟨c10, aa⟩ | ⟨c10, aa⟩
           ·obtain ⟨cn, h9, aa⟩ := zt aa
            obtain rfl := zk aa
            exact yE ((z1I zD 86).or ((Qh Tryd.prog 78).or ((z1I zD 73).or X0))) hC hE (Z8 ++ (rpN 6 (Hq c10) [Hg (QV h0b), Hm (shM F3_ F1_ ([[1], [0,0], [0,1,1]])), Hs (QX h0b (x := (bl.1, [[1], [0,0], [0,1,1]])) h9 (loC F7_ bl.1 <| loC F7_ ([[1], [0,0], [0,1,1]] : List (List Int)) <| loN)), Hq c10]))
           ·obtain rfl := zk aa
            exact yE ((z1I zD 86).or ((Qh Tryd.prog 78).or ((z1I zD 73).or X0))) hC hE (Z8 ++ (rpN 7 (Hq c10) []))
          ·obtain rfl := zk aa
           exact yE ((z1I zD 86).or ((Qh Tryd.prog 78).or ((z1I zD 73).or X0))) hC hE (Z7 ++ (rpN 8 (Hq c9) (rpN 7 qF [])))
         ·obtain rfl := zk aa
          exact yE ((z1I zD 86).or ((Qh Tryd.prog 78).or ((z1I zD 73).or X0))) hC hE (Z6 ++ (rpN 6 (Hq c8) (rpN 15 qF [])))
        ·obtain rfl := zk aa
         exact yE ((z1I zD 86).or ((Qh Tryd.prog 78).or ((z1I zD 73).or X0))) hC hE (Z5 ++ (rpN 4 (Hq c7) (rpN 21 qF [])))
       ·obtain rfl := zk aa
        exact yE ((Qh Tryd.prog 78).or ((z1I zD 73).or X0)) hC hE (Z4 ++ (rpN 7 (Hq c6) (rpN 25 qF [])))
      ·obtain rfl := zk aa
       exact yE ((z1I zD 73).or X0) hC hE (Z3 ++ (rpN 4 (Hq c5) (rpN 32 qF [])))
     ·obtain rfl := zk aa
      exact yE X0 hC hE (Z2 ++ (rpN 7 (Hq c4) (rpN 36 qF [])))
    ·obtain rfl := zk aa
     exact yE X0 hC hE (Z1 ++ (Hq c2 :: Hq c2 :: Hq c2 :: Hq c3 :: Hq c3 :: Hq c3 :: (rpN 43 qF [])))
   ·obtain rfl := zk aa
    exact yE X0 hC hE (Z1 ++ (Hq c2 :: Hq c2 :: Hq c2 :: (rpN 46 qF [])))
  ·obtain rfl := zk aa
   exact yE X0 hC hE (Z0 ++ (Hq c0 :: Hq c0 :: Hq c0 :: Hq c1 :: Hq c1 :: Hq c1 :: (rpN 49 qF [])))
 ·obtain rfl := zk aa
  exact yE X0 hC hE (Z0 ++ (Hq c0 :: Hq c0 :: Hq c0 :: (rpN 52 qF [])))
def Zn : Code := (Tryd.f4.body).getD .skip
def wR : yW := spF (α := Unit) (ρ := Bool) 4 (fun x => []) (fun r => eB r) (fun x => wD) [] (fun _ _ _ => rfl)
theorem Zz (hC : zS Tryd.prog ctr) (h0i : ctr.Has kR) (h08 : ctr.Has wS) (h06 : ctr.Has ut) (h09 : ctr.Has vD) (h0N : ctr.Has kh) : wR.Ok Tryd.prog := by
 refine yh ?_
 rintro ⟨⟩ r0 aa
 try unfold wD at aa
 refine yO true [(0, none)] Zn 102 Tryd.func4 fun E hE => ?_
 obtain ⟨r_, h0, aa⟩ := zt aa
 obtain ⟨ah, h1, aa⟩ := zt aa
 obtain ⟨aj, h2, aa⟩ := zt aa
 obtain ⟨ap, h3, aa⟩ := zt aa
 let Z0 : List HO := [Hc h0i (x := (64,16)) h0 (loC (eI .i64) 64 <| loC (eI .i64) 16 <| loN), Hc h08 (x := (r_, [], 1)) h1 (loC wf r_ <| loC F8_ ([] : List (List Int)) <| loC (eI .i64) 1 <| loN), Hc h08 (x := (r_, [], 2)) h2 (loC wf r_ <| loC F8_ ([] : List (List Int)) <| loC (eI .i64) 2 <| loN), Hc h06 (x := (r_, ah.1)) h3 (loC wf r_ <| loC F7_ ah.1 <| loN)]
 rcases yq aa with ⟨c0, aa⟩ | ⟨c0, aa⟩
 ·obtain rfl := zk aa
  exact yE X0 hC hE (Z0 ++ (Hq c0 :: Hq c0 :: Hq c0 :: (rpN 19 qT [])))
 ·rcases yq aa with ⟨c1, aa⟩ | ⟨c1, aa⟩
  ·obtain rfl := zk aa
   exact yE X0 hC hE (Z0 ++ (Hq c0 :: Hq c0 :: Hq c0 :: Hq c1 :: Hq c1 :: Hq c1 :: (rpN 16 qT [])))
  ·let Z1 : List HO := (Z0 ++ [Hq c0, Hq c0, Hq c0, Hq c1, Hq c1, Hq c1])
   rcases yq aa with ⟨c2, aa⟩ | ⟨c2, aa⟩
   ·obtain rfl := zk aa
    exact yE X0 hC hE (Z1 ++ (rpN 5 (Hq c2) (rpN 11 qT [])))
   ·let Z2 : List HO := (Z1 ++ (rpN 5 (Hq c2) []))
    rcases yq aa with ⟨c3, aa⟩ | ⟨c3, aa⟩
    ·obtain rfl := zk aa
     exact yE X0 hC hE (Z2 ++ (rpN 5 (Hq c3) (rpN 6 qT [])))
    ·let Z3 : List HO := (Z2 ++ (rpN 5 (Hq c3) []))
     rcases yq aa with ⟨c4, aa⟩ | ⟨c4, aa⟩
     ·obtain rfl := zk aa
      exact yE X0 hC hE (Z3 ++ (rpN 5 (Hq c4) [qT]))
     ·let Z4 : List HO := (Z3 ++ [Hq c4, Hq c4, Hn (⟨rfl, by decide⟩ : true = true ∧ 1 < 2), Hq c4, Hq c4, Hq c4])
      rcases yq aa with ⟨c5, aa⟩ | ⟨c5, aa⟩
      ·obtain rfl := zk aa
       exact yE X0 hC hE (Z4 ++ [Hq c5])
      ·obtain ⟨au, h4, aa⟩ := zt aa
       obtain ⟨bl, h5, aa⟩ := zt aa
       obtain ⟨bh, h6, aa⟩ := zt aa
       obtain ⟨ck, h7, aa⟩ := zt aa
       let Z5 : List HO := (Z4 ++ [Hq c5, Hc h0i (x := (16,16)) h4 (loC (eI .i64) 16 <| loC (eI .i64) 16 <| loN), Hc h08 (x := (au, [], 2)) h5 (loC wf au <| loC F8_ ([] : List (List Int)) <| loC (eI .i64) 2 <| loN), Hc h0i (x := (16,16)) h6 (loC (eI .i64) 16 <| loC (eI .i64) 16 <| loN), Hc h06 (x := (bh, bl.1)) h7 (loC wf bh <| loC F7_ bl.1 <| loN)])
       rcases yq aa with ⟨c6, aa⟩ | ⟨c6, aa⟩
       ·let Z6 : List HO := (Z5 ++ [Hq c6, Hq c6, Ha (lnM F1_ bl.1), Hq c6, Hq c6])
        rcases yq aa with ⟨c7, aa⟩ | ⟨c7, aa⟩
        ·rcases yq aa with ⟨c8, aa⟩ | ⟨c8, aa⟩
         ·let Z7 : List HO := (Z6 ++ (Hq c7 :: Hq c7 :: Hq c7 :: (rpN 5 (Hq c8) [])))
          rcases yq aa with ⟨c9, aa⟩ | ⟨c9, aa⟩
          ·obtain ⟨cn, h8, aa⟩ := zt aa
           let Z8 : List HO := (Z7 ++ [Hq c9, Hq c9, Hc h09 (x := ck.1) h8 (loC z8j ck.1 <| loN), Hq c9, Hx (.a (.atom (.bool (cn == ([115,116,97,116,101,115,32,49,54,47,49,54,44,32,101,100,103,101,115,32,50,53,54,47,50,53,54,44,32,112,97,105,114,115,32,52,48,57,54,47,52,48,57,54] : List UInt8))))) (zb4 cn ([115,116,97,116,101,115,32,49,54,47,49,54,44,32,101,100,103,101,115,32,50,53,54,47,50,53,54,44,32,112,97,105,114,115,32,52,48,57,54,47,52,48,57,54] : List UInt8)), Hq c9])
           rcases yq aa with ⟨c10, aa⟩ | ⟨c10, aa⟩
           ·obtain ⟨bw, h9, aa⟩ := zt aa
            let Z9 : List HO := (Z8 ++ [Hq c10, Hq c10, Hc h09 (x := (zC.mk (yu.mk 0 0) (yu.mk 0 0) (yu.mk 0 0))) h9 (loC z8j (zC.mk (yu.mk 0 0) (yu.mk 0 0) (yu.mk 0 0)) <| loN), Hq c10, Hx (.a (.atom (.bool (bw == ([115,116,97,116,101,115,32,48,47,48,44,32,101,100,103,101,115,32,48,47,48,44,32,112,97,105,114,115,32,48,47,48] : List UInt8))))) (zb4 bw ([115,116,97,116,101,115,32,48,47,48,44,32,101,100,103,101,115,32,48,47,48,44,32,112,97,105,114,115,32,48,47,48] : List UInt8)), Hq c10])
            rcases yq aa with ⟨c11, aa⟩ | ⟨c11, aa⟩
            ·obtain ⟨dc, h10, aa⟩ := zt aa
             let Z10 : List HO := (Z9 ++ [Hq c11, Hq c11, Hq c11, Hc h09 (x := (zC.mk (yu.mk 0 0) (yu.mk (-1) 10) (yu.mk 0 0))) h10 (loC z8j (zC.mk (yu.mk 0 0) (yu.mk (-1) 10) (yu.mk 0 0)) <| loN), Hq c11, Hx (.a (.atom (.bool (dc == ([115,116,97,116,101,115,32,48,47,48,44,32,101,100,103,101,115,32,45,49,47,49,48,44,32,112,97,105,114,115,32,48,47,48] : List UInt8))))) (zb4 dc ([115,116,97,116,101,115,32,48,47,48,44,32,101,100,103,101,115,32,45,49,47,49,48,44,32,112,97,105,114,115,32,48,47,48] : List UInt8)), Hq c11])
             rcases yq aa with ⟨c12, aa⟩ | ⟨c12, aa⟩
             ·obtain ⟨gr, h11, aa⟩ := zt aa
              obtain rfl := zk aa
              exact yE ((Qh Tryd.prog 97).or ((Qh Tryd.prog 91).or ((Qh Tryd.prog 86).or X0))) hC hE (Z10 ++ [Hq c12, Hc h0N (x := ()) h11 (loN), Hq c12])
             ·obtain rfl := zk aa
              exact yE ((Qh Tryd.prog 97).or ((Qh Tryd.prog 91).or ((Qh Tryd.prog 86).or X0))) hC hE (Z10 ++ [Hq c12, Hq c12])
            ·obtain rfl := zk aa
             exact yE ((Qh Tryd.prog 91).or ((Qh Tryd.prog 86).or X0)) hC hE (Z9 ++ (rpN 5 (Hq c11) [qF, qF]))
           ·obtain rfl := zk aa
            exact yE ((Qh Tryd.prog 86).or X0) hC hE (Z8 ++ (rpN 4 (Hq c10) (rpN 7 qF [])))
          ·obtain rfl := zk aa
           exact yE X0 hC hE (Z7 ++ (rpN 4 (Hq c9) (rpN 11 qF [])))
         ·obtain rfl := zk aa
          exact yE X0 hC hE (Z6 ++ (Hq c7 :: Hq c7 :: Hq c7 :: (rpN 5 (Hq c8) (rpN 15 qF []))))
        ·obtain rfl := zk aa
         exact yE X0 hC hE (Z6 ++ (Hq c7 :: Hq c7 :: Hq c7 :: (rpN 20 qF [])))
       ·obtain rfl := zk aa
        exact yE X0 hC hE (Z5 ++ (rpN 4 (Hq c6) (rpN 23 qF [])))
variable {l : List yW}
theorem xR {s : yW} (h : ((l.map yW.k).contains s.k) = false) : ∀ t ∈ l, t.k ≠ s.k := by
 intro t ht e
 have : (l.map yW.k).contains s.k = true := by
  rw [List.contains_iff_mem, ← e]
  exact List.mem_map_of_mem ht
 rw [h] at this
 cases this
theorem zM {c : Ctr} (H : ∀ t ∈ l, c.Has t) (i : Nat) {s : yW} (h : l[i]? = some s) : c.Has s := H _ (List.mem_of_getElem? h)
def L0 : List yW := kR :: []
def L1 : List yW := qW :: L0
def L2 : List yW := qX :: L1
def L3 : List yW := ub :: L2
def L4 : List yW := yx :: L3
def L5 : List yW := ym :: L4
def L6 : List yW := vB :: L5
def L7 : List yW := qU :: L6
def L8 : List yW := xZ :: L7
def L9 : List yW := xx :: L8
def L10 : List yW := kb :: L9
def L11 : List yW := qA :: L10
def L12 : List yW := qY :: L11
def L13 : List yW := vm :: L12
def L14 : List yW := wx :: L13
def L15 : List yW := kS :: L14
def L16 : List yW := v7 :: L15
def L17 : List yW := ke :: L16
def L18 : List yW := qz :: L17
def L19 : List yW := kg :: L18
def L20 : List yW := xH :: L19
def L21 : List yW := vC :: L20
def L22 : List yW := x5 :: L21
def L23 : List yW := yg :: L22
def L24 : List yW := yk :: L23
def L25 : List yW := uY :: L24
def L26 : List yW := kc :: L25
def L27 : List yW := ju :: L26
def L28 : List yW := wm :: L27
def L29 : List yW := wH :: L28
def L30 : List yW := uZ :: L29
def L31 : List yW := xy :: L30
def L32 : List yW := jv :: L31
def L33 : List yW := kP :: L32
def L34 : List yW := wS :: L33
def L35 : List yW := ut :: L34
def L36 : List yW := jw :: L35
def L37 : List yW := vD :: L36
def L38 : List yW := jx :: L37
def L39 : List yW := yd :: L38
def L40 : List yW := vO :: L39
def L41 : List yW := uu :: L40
def L42 : List yW := yM :: L41
def L43 : List yW := yN :: L42
def L44 : List yW := w4 :: L43
def L45 : List yW := uc :: L44
def L46 : List yW := qV :: L45
def L47 : List yW := kQ :: L46
def L48 : List yW := kh :: L47
def L49 : List yW := wR :: L48
theorem zcH : zR Tryd.prog L0 := ⟨fun _ hC H => Ju hC, xR (by kernel_rfl), trivial⟩
theorem zcG : zR Tryd.prog L1 := ⟨fun _ hC H => Vk hC, xR (by kernel_rfl), zcH⟩
theorem zcF : zR Tryd.prog L2 := ⟨fun _ hC H => Vl hC (zM H 0 rfl), xR (by kernel_rfl), zcG⟩
theorem zcE : zR Tryd.prog L3 := ⟨fun _ hC H => Xm hC (zM H 0 rfl), xR (by kernel_rfl), zcF⟩
theorem zcD : zR Tryd.prog L4 := ⟨fun _ hC H => vT hC (zM H 0 rfl), xR (by kernel_rfl), zcE⟩
theorem zcC : zR Tryd.prog L5 := ⟨fun _ hC H => vt hC (zM H 0 rfl), xR (by kernel_rfl), zcD⟩
theorem zcB : zR Tryd.prog L6 := ⟨fun _ hC H => WG hC (zM H 0 rfl), xR (by kernel_rfl), zcC⟩
theorem zcA : zR Tryd.prog L7 := ⟨fun _ hC H => Vi hC, xR (by kernel_rfl), zcB⟩
theorem zcz : zR Tryd.prog L8 := ⟨fun _ hC H => jP hC (zM H 0 rfl), xR (by kernel_rfl), zcA⟩
theorem zcy : zR Tryd.prog L9 := ⟨fun _ hC H => qR hC (zM H 0 rfl), xR (by kernel_rfl), zcz⟩
theorem zaZ : zR Tryd.prog L10 := ⟨fun _ hC H => Ql hC (zM H 0 rfl), xR (by kernel_rfl), zcy⟩
theorem zaY : zR Tryd.prog L11 := ⟨fun _ hC H => Qo hC (zM H 0 rfl), xR (by kernel_rfl), zaZ⟩
theorem zaX : zR Tryd.prog L12 := ⟨fun _ hC H => Vn hC, xR (by kernel_rfl), zaY⟩
theorem zaW : zR Tryd.prog L13 := ⟨fun _ hC H => XV hC (zM H 0 rfl), xR (by kernel_rfl), zaX⟩
theorem zaV : zR Tryd.prog L14 := ⟨fun _ hC H => kw hC (zM H 0 rfl), xR (by kernel_rfl), zaW⟩
theorem zaU : zR Tryd.prog L15 := ⟨fun _ hC H => Jv hC, xR (by kernel_rfl), zaV⟩
theorem zaT : zR Tryd.prog L16 := ⟨fun _ hC H => Vh hC (zM H 2 rfl) (zM H 1 rfl) (zM H 0 rfl), xR (by kernel_rfl), zaU⟩
theorem zaS : zR Tryd.prog L17 := ⟨fun _ hC H => Qp hC (zM H 0 rfl), xR (by kernel_rfl), zaT⟩
theorem zaR : zR Tryd.prog L18 := ⟨fun _ hC H => Qn hC, xR (by kernel_rfl), zaS⟩
theorem zaQ : zR Tryd.prog L19 := ⟨fun _ hC H => Qq hC (zM H 7 rfl) (zM H 1 rfl) (zM H 0 rfl), xR (by kernel_rfl), zaR⟩
theorem zaP : zR Tryd.prog L20 := ⟨fun _ hC H => XQ hC (zM H 13 rfl) (zM H 0 rfl), xR (by kernel_rfl), zaQ⟩
theorem zaO : zR Tryd.prog L21 := ⟨fun _ hC H => WH hC, xR (by kernel_rfl), zaP⟩
theorem zaN : zR Tryd.prog L22 := ⟨fun _ hC H => YP hC (zM H 0 rfl), xR (by kernel_rfl), zaO⟩
theorem zaM : zR Tryd.prog L23 := ⟨fun _ hC H => Zy hC, xR (by kernel_rfl), zaN⟩
theorem zaL : zR Tryd.prog L24 := ⟨fun _ hC H => ZT hC, xR (by kernel_rfl), zaM⟩
theorem zaK : zR Tryd.prog L25 := ⟨fun _ hC H => WE hC, xR (by kernel_rfl), zaL⟩
theorem zaJ : zR Tryd.prog L26 := ⟨fun _ hC H => Qm hC (zM H 0 rfl) (zM H 2 rfl) (zM H 1 rfl), xR (by kernel_rfl), zaK⟩
theorem zaI : zR Tryd.prog L27 := ⟨fun _ hC H => Uw hC (zM H 20 rfl) (zM H 0 rfl), xR (by kernel_rfl), zaJ⟩
theorem zaH : zR Tryd.prog L28 := ⟨fun _ hC H => Vm hC (zM H 0 rfl) (zM H 4 rfl) (zM H 3 rfl), xR (by kernel_rfl), zaI⟩
theorem zaG : zR Tryd.prog L29 := ⟨fun _ hC H => kM hC, xR (by kernel_rfl), zaH⟩
theorem zaF : zR Tryd.prog L30 := ⟨fun _ hC H => WF hC (zM H 13 rfl), xR (by kernel_rfl), zaG⟩
theorem zaE : zR Tryd.prog L31 := ⟨fun _ hC H => qS hC (zM H 0 rfl), xR (by kernel_rfl), zaF⟩
theorem zaD : zR Tryd.prog L32 := ⟨fun _ hC H => Ux hC (zM H 2 rfl) (zM H 15 rfl) (zM H 0 rfl) (zM H 13 rfl) (zM H 8 rfl) (zM H 7 rfl), xR (by kernel_rfl), zaE⟩
theorem zaC : zR Tryd.prog L33 := ⟨fun _ hC H => Jr hC (zM H 21 rfl) (zM H 0 rfl), xR (by kernel_rfl), zaD⟩
theorem zaB : zR Tryd.prog L34 := ⟨fun _ hC H => Xo hC (zM H 13 rfl) (zM H 11 rfl) (zM H 10 rfl) (zM H 9 rfl) (zM H 5 rfl) (zM H 0 rfl), xR (by kernel_rfl), zaC⟩
theorem zaA : zR Tryd.prog L35 := ⟨fun _ hC H => UA hC (zM H 14 rfl) (zM H 12 rfl) (zM H 6 rfl), xR (by kernel_rfl), zaB⟩
theorem zaz : zR Tryd.prog L36 := ⟨fun _ hC H => Uy hC, xR (by kernel_rfl), zaA⟩
theorem zay : zR Tryd.prog L37 := ⟨fun _ hC H => WI hC (zM H 0 rfl), xR (by kernel_rfl), zaz⟩
theorem zax : zR Tryd.prog L38 := ⟨fun _ hC H => Uz hC, xR (by kernel_rfl), zay⟩
theorem zaw : zR Tryd.prog L39 := ⟨fun _ hC H => wQ hC, xR (by kernel_rfl), zax⟩
theorem zav : zR Tryd.prog L40 := ⟨fun _ hC H => YO hC (zM H 19 rfl) (zM H 17 rfl) (zM H 11 rfl) (zM H 0 rfl), xR (by kernel_rfl), zaw⟩
theorem zau : zR Tryd.prog L41 := ⟨fun _ hC H => XU hC (zM H 0 rfl), xR (by kernel_rfl), zav⟩
theorem zat : zR Tryd.prog L42 := ⟨fun _ hC H => jf hC, xR (by kernel_rfl), zau⟩
theorem zas : zR Tryd.prog L43 := ⟨fun _ hC H => jg hC, xR (by kernel_rfl), zat⟩
theorem zar : zR Tryd.prog L44 := ⟨fun _ hC H => jQ hC (zM H 1 rfl) (zM H 0 rfl), xR (by kernel_rfl), zas⟩
theorem zaq : zR Tryd.prog L45 := ⟨fun _ hC H => Xn hC (zM H 24 rfl) (zM H 16 rfl) (zM H 22 rfl) (zM H 23 rfl) (zM H 0 rfl) (zM H 21 rfl) (zM H 20 rfl), xR (by kernel_rfl), zar⟩
theorem zap : zR Tryd.prog L46 := ⟨fun _ hC H => Vj hC, xR (by kernel_rfl), zaq⟩
theorem zao : zR Tryd.prog L47 := ⟨fun _ hC H => Jt hC (zM H 0 rfl), xR (by kernel_rfl), zap⟩
theorem zan : zR Tryd.prog L48 := ⟨fun _ hC H => Qr hC (zM H 9 rfl) (zM H 12 rfl) (zM H 6 rfl) (zM H 13 rfl) (zM H 2 rfl) (zM H 10 rfl) (zM H 0 rfl), xR (by kernel_rfl), zao⟩
theorem zam : zR Tryd.prog L49 := ⟨fun _ hC H => Zz hC (zM H 48 rfl) (zM H 14 rfl) (zM H 13 rfl) (zM H 11 rfl) (zM H 0 rfl), xR (by kernel_rfl), zan⟩
theorem jX {x : Int} (h1 : -9223372036854775808 ≤ x) (h2 : x ≤ 9223372036854775807) : w64 x = x := by
 simp only [w64, IntKind.wrap, IntKind.bits, IntKind.signed]
 simp
 omega
section
variable {α β σ τ ρ : Type}
def Ret (x : Option α) (Q : α → Prop) : Prop := ∃ a, x = some a ∧ Q a
theorem Ret.mono {x : Option α} {Q R : α → Prop} (h : Ret x Q) (q : ∀ a, Q a → R a) : Ret x R := by
 obtain ⟨a, e, h⟩ := h
 exact ⟨a, e, q a h⟩
theorem Ret.eq {x : Option α} {a : α} (h : Ret x fun b => b = a) : x = some a := by
 obtain ⟨b, e, rfl⟩ := h
 exact e
theorem yU {a : α} {Q : α → Prop} : Ret (some a) Q ↔ Q a := ⟨fun ⟨b, e, q⟩ => by cases e; exact q, fun q => ⟨a, rfl, q⟩⟩
theorem kW {x : Option α} {f : α → Option β} {Q : β → Prop} : Ret (Option.bind x f) Q ↔ Ret x fun a => Ret (f a) Q := by
 cases x with
 | none => exact ⟨fun ⟨b, e, _⟩ => (by cases e), fun ⟨b, e, _⟩ => (by cases e)⟩
 | some a => exact ⟨fun h => ⟨a, rfl, h⟩, fun ⟨b, e, h⟩ => by cases e; exact h⟩
theorem kX {c : Bool} {x y : Option α} {Q : α → Prop} : Ret (bif c then x else y) Q ↔ (c = true → Ret x Q) ∧ (c = false → Ret y Q) := by
 cases c <;> simp
theorem vz (l : List α) (i : Nat) : idx l (i : Int) = l[i]? := rfl
theorem gdT {p : Prop} [Decidable p] {x : Option α} (h : p) : gd p x = x := by unfold gd; rw [if_pos h]
theorem bdT {x : Option α} {u : α} {f : α → Option ρ} (h : x = some u) : Option.bind x f = f u := by rw [h]; rfl
theorem kB (step : σ → Option (LR σ τ)) (n : Nat) (s : σ) : YV step (n + 1) s = (match step s with | none => none | some (.next s') => YV step n s' | some (.done t) => some t) := rfl
def LRP (N : σ → Prop) (D : τ → Prop) : LR σ τ → Prop
 | .next s => N s
 | .done t => D t
theorem kV {step : σ → Option (LR σ τ)} (I : σ → Prop) (m : σ → Nat) {R : τ → Prop} {s : σ} (hs : I s) (hm : m s < 18446744073709551616)
  (h : ∀ s, I s → Ret (step s) (LRP (fun s' => I s' ∧ m s' < m s) R)) : Ret (loop step s) R := by
 have gen : ∀ (n : Nat) (s : σ), I s → m s < n → Ret (YV step n s) R := by
  intro n
  induction n with
  | zero => intro s _ h; omega
  | succ n ih =>
   intro s hs hm
   obtain ⟨a, e, q⟩ := h s hs
   rw [kB, e]
   cases a with
   | next s' => exact ih s' q.1 (by have := q.2; omega)
   | done t => exact ⟨t, rfl, q⟩
 exact gen fuel s hs hm
theorem QR {step : σ → Option (LR σ τ)} (st : Nat → σ) (n : Nat) {t : τ} (hn : n < 9223372036854775808) (h : ∀ i, i < n → step (st i) = some (.next (st (i + 1)))) (hd : step (st n) = some (.done t)) : loop step (st 0) = some t := by
 have gen : ∀ (k : Nat) (i : Nat), i ≤ n → n - i < k → YV step k (st i) = some t := by
  intro k
  induction k with
  | zero => intro i _ h; omega
  | succ k ih =>
   intro i hi hk
   rw [kB]
   rcases Nat.lt_or_ge i n with q | q
   ·rw [h i q]
    exact ih (i + 1) q (by omega)
   ·have : i = n := by omega
    subst this
    rw [hd]
 exact gen fuel 0 (Nat.zero_le _) (by show n - 0 < 18446744073709551616; omega)
def xC (f : Nat → α → Option ρ) : List α → Nat → Option ρ
 | [], _ => none
 | x :: l, i => match f i x with | some r => some r | none => xC f l (i + 1)
theorem X3 {f : Nat → α → Option ρ} : ∀ {l : List α} {k : Nat}, (∀ i x, l[i]? = some x → f (k + i) x = none) → xC f l k = none
 | [], _, _ => rfl
 | x :: l, k, h => by
  have h0 := h 0 x rfl
  simp only [Nat.add_zero] at h0
  simp only [xC, h0]
  exact X3 fun i y hy => by have := h (i + 1) y (by simpa using hy); rwa [show k + 1 + i = k + (i + 1) by omega]
theorem jE {f : Nat → α → Option ρ} {r : ρ} : ∀ {l : List α} {k : Nat}, xC f l k = some r → ∃ i x, l[i]? = some x ∧ f (k + i) x = some r
 | [], _, h => by cases h
 | x :: l, k, h => by
  simp only [xC] at h
  cases hf : f k x with
  | some r' => rw [hf] at h; exact ⟨0, x, rfl, by rw [Nat.add_zero, hf]; exact h⟩
  | none =>
   rw [hf] at h
   obtain ⟨i, y, h1, h2⟩ := jE h
   exact ⟨i + 1, y, by simpa using h1, by rw [← h2]; congr 1; omega⟩
theorem Zf {f : Nat → α → Option ρ} {l : List α} {k : Nat} (h : xC f l k = none) : ∀ i x, l[i]? = some x → f (k + i) x = none := by
 induction l generalizing k with
 | nil => intro i x h; simp at h
 | cons y l ih =>
  intro i x hx
  simp only [xC] at h
  cases hf : f k y with
  | some r' => rw [hf] at h; cases h
  | none =>
   rw [hf] at h
   cases i with
   | zero => simp at hx; subst hx; simpa using hf
   | succ i => have := ih h i x (by simpa using hx); rwa [show k + (i + 1) = k + 1 + i by omega]
def oS : Option ρ → Unit ⊕ ρ
 | some r => .inr r
 | none => .inl ()
def nS (i : Nat) : Option ρ → LR Int (Unit ⊕ ρ)
 | some r => .done (.inr r)
 | none => .next (w64 ((i : Int) + 1))
theorem kA (l : List α) (hl : l.length < 4611686018427387904) {step : Int → Option (LR Int (Unit ⊕ ρ))} (f : Nat → α → Option ρ)
  (h : ∀ (i : Nat) (x : α), l[i]? = some x → step (i : Int) = some (nS i (f i x))) (h2 : step (l.length : Int) = some (.done (.inl ()))) :
  loop step 0 = some (oS (xC f l 0)) := by
 have gen : ∀ (n : Nat) (k : Nat), k ≤ l.length → l.length - k < n → YV step n (k : Int) = some (oS (xC f (l.drop k) k)) := by
  intro n
  induction n with
  | zero => intro k _ h; omega
  | succ n ih =>
   intro k hk hn
   rw [kB]
   rcases Nat.lt_or_ge k l.length with hlt | hge
   ·have hx : l[k]? = some l[k] := List.getElem?_eq_getElem hlt
    rw [h k _ hx, List.drop_eq_getElem_cons hlt]
    simp only [xC]
    cases hf : f k l[k] with
    | some r => rfl
    | none =>
     simp only [nS]
     rw [jX (by omega) (by omega)]
     exact ih (k + 1) hlt (by omega)
   ·have : k = l.length := by omega
    subst this
    rw [h2, List.drop_length]
    rfl
 exact gen fuel 0 (Nat.zero_le _) (by show l.length - 0 < 18446744073709551616; omega)
end
variable {a i : Nat}
section
variable {S : Type}
def rv (k : Nat) : List Nat → Nat
 | [] => 0
 | i :: u => rv k u * k + i + 1
def z3W (k : Nat) (bad : S → Nat → Bool) (nx : S → Nat → Option S) (p0 : S) : List Nat → S → Prop
 | [], q => q = p0
 | i :: u, q => ∃ p, z3W k bad nx p0 u p ∧ i < k ∧ bad p i = false ∧ nx p i = some q
structure Bfs (k : Nat) (bad : S → Nat → Bool) (nx : S → Nat → Option S) (p0 : S) (L : List (S × List Nat)) (at_ i : Nat) : Prop where
 first : L[0]? = some (p0, [])
 mono : ∀ (j j' : Nat) (a b : S × List Nat), j < j' → L[j]? = some a → L[j']? = some b → rv k a.2 < rv k b.2
 path : ∀ a ∈ L, z3W k bad nx p0 a.2 a.1
 ahead : ∀ a c, L[at_]? = some c → a ∈ L → rv k a.2 < rv k c.2 * k + i + 1
 pos : i ≤ k
 lies : at_ ≤ L.length
 fin : at_ = L.length → i = 0
 short : ∀ (j : Nat) (a : S × List Nat), L[j]? = some a → a.2.length ≤ j
 seen : ∀ (j x : Nat) (a : S × List Nat), L[j]? = some a → x < k → (j < at_ ∨ j = at_ ∧ x < i) → bad a.1 x = false ∧ ∀ q, nx a.1 x = some q → ∃ b ∈ L, b.1 = q ∧ rv k b.2 ≤ rv k a.2 * k + x + 1
variable {k : Nat} {bad : S → Nat → Bool} {nx : S → Nat → Option S} {p0 : S}
theorem Bfs.start : Bfs k bad nx p0 [(p0, [])] 0 0 := {
 first := rfl
 mono := by
  intro j j' a b h h1 h2
  have := (List.getElem?_eq_some_iff.1 h2).1
  simp at this
  omega
 path := by intro a ha; simp at ha; subst ha; rfl
 ahead := by intro a c _ ha; simp at ha; subst ha; simp [rv]
 pos := Nat.zero_le _
 lies := by simp
 fin := by intro; rfl
 short := by
  intro j a h
  have := (List.getElem?_eq_some_iff.1 h).1
  simp at this
  subst this
  simp at h
  subst h
  simp
 seen := by rintro j x a h _ (q | ⟨_, q⟩) <;> omega }
theorem Bfs.old {L : List (S × List Nat)}  (h : Bfs k bad nx p0 L a i) {c : S × List Nat} (hc : L[a]? = some c) (hi : i < k) (hb : bad c.1 i = false)
  (hn : ∀ q, nx c.1 i = some q → ∃ b ∈ L, b.1 = q) : Bfs k bad nx p0 L a (i + 1) := {
 first := h.first
 mono := h.mono
 path := h.path
 ahead := fun x y hy hx => by have := h.ahead x y hy hx; omega
 pos := hi
 lies := h.lies
 fin := fun e => by have := (List.getElem?_eq_some_iff.1 hc).1; omega
 short := h.short
 seen := by
  intro j x y hy hx q
  by_cases e : j = a ∧ x = i
  ·obtain ⟨rfl, rfl⟩ := e
   rw [hc] at hy
   cases hy
   refine ⟨hb, fun q hq => ?_⟩
   obtain ⟨b, h1, h2⟩ := hn q hq
   exact ⟨b, h1, h2, by have := h.ahead b c hc h1; omega⟩
  ·exact h.seen j x y hy hx (by omega) }
theorem Bfs.new {L : List (S × List Nat)}  (h : Bfs k bad nx p0 L a i) {c : S × List Nat} (hc : L[a]? = some c) (hi : i < k) (hb : bad c.1 i = false) {q : S}
  (hn : nx c.1 i = some q) : Bfs k bad nx p0 (L ++ [(q, i :: c.2)]) a (i + 1) := by
 have hlt := (List.getElem?_eq_some_iff.1 hc).1
 refine ⟨?_, ?_, ?_, ?_, hi, by simp; omega, fun e => by simp at e; omega, ?_, ?_⟩
 ·rw [List.getElem?_append_left (by omega)]; exact h.first
 ·intro j j' x y hj h1 h2
  have hl := (List.getElem?_eq_some_iff.1 h2).1
  simp at hl
  rw [List.getElem?_append_left (by omega)] at h1
  rcases Nat.lt_or_ge j' L.length with g | g
  ·rw [List.getElem?_append_left g] at h2
   exact h.mono j j' x y hj h1 h2
  ·have : j' = L.length := by omega
   subst this
   simp at h2
   subst h2
   exact h.ahead x c hc (List.mem_of_getElem? h1)
 ·intro x hx
  rcases List.mem_append.1 hx with g | g
  ·exact h.path x g
  ·simp at g
   subst g
   exact ⟨c.1, h.path c (List.mem_of_getElem? hc), hi, hb, hn⟩
 ·intro x y hy hx
  rw [List.getElem?_append_left hlt] at hy
  rcases List.mem_append.1 hx with g | g
  ·have := h.ahead x y hy g; omega
  ·simp at g
   subst g
   rw [hc] at hy
   cases hy
   simp [rv]
 ·intro j y hy
  rcases Nat.lt_or_ge j L.length with g | g
  ·rw [List.getElem?_append_left g] at hy
   exact h.short j y hy
  ·have hl := (List.getElem?_eq_some_iff.1 hy).1
   simp at hl
   have : j = L.length := by omega
   subst this
   simp at hy
   subst hy
   have := h.short a c hc
   simp
   omega
 ·intro j x y hy hx g
  rw [List.getElem?_append_left (by omega)] at hy
  by_cases e : j = a ∧ x = i
  ·obtain ⟨rfl, rfl⟩ := e
   rw [hc] at hy
   cases hy
   refine ⟨hb, fun q' hq => ?_⟩
   rw [hn] at hq
   cases hq
   exact ⟨(q, x :: c.2), by simp, rfl, Nat.le_refl _⟩
  ·obtain ⟨h1, h2⟩ := h.seen j x y hy hx (by omega)
   refine ⟨h1, fun q' hq => ?_⟩
   obtain ⟨b, g1, g2⟩ := h2 q' hq
   exact ⟨b, List.mem_append_left _ g1, g2⟩
theorem Bfs.step {L : List (S × List Nat)} {a : Nat} (h : Bfs k bad nx p0 L a k) (ha : a < L.length) : Bfs k bad nx p0 L (a + 1) 0 := {
 first := h.first
 mono := h.mono
 path := h.path
 ahead := by
  intro x c hc hx
  have h1 := h.ahead x _ (List.getElem?_eq_getElem ha) hx
  have h2 := h.mono a (a + 1) _ _ (by omega) (List.getElem?_eq_getElem ha) hc
  have h3 : (rv k L[a].2 + 1) * k ≤ rv k c.2 * k := Nat.mul_le_mul_right _ h2
  rw [Nat.succ_mul] at h3
  omega
 pos := Nat.zero_le _
 lies := ha
 fin := fun _ => rfl
 short := h.short
 seen := fun j x b hb hx g => h.seen j x b hb hx (by rcases g with g | ⟨_, g⟩ <;> omega) }
theorem Bfs.reach {L : List (S × List Nat)}  (h : Bfs k bad nx p0 L a i) : ∀ (u : List Nat) (q : S), z3W k bad nx p0 u q → (∀ c, L[a]? = some c → rv k u < rv k c.2 * k + i + 1) → ∃ (j : Nat) (b : S × List Nat), L[j]? = some b ∧ b.1 = q ∧ rv k b.2 ≤ rv k u
 | [], q, hp, _ => ⟨0, _, h.first, hp.symm, Nat.zero_le _⟩
 | x :: u, q, ⟨p, hp, hx, hb, hn⟩, hlt => by
  have hk : rv k u ≤ rv k u * k := Nat.le_mul_of_pos_right _ (by omega)
  obtain ⟨j, b, hj, rfl, hr⟩ := h.reach u p hp fun c hc => by have := hlt c hc; simp only [rv] at this; omega
  have hmul : rv k b.2 * k ≤ rv k u * k := Nat.mul_le_mul_right _ hr
  have hjl := (List.getElem?_eq_some_iff.1 hj).1
  have hpos : j < a ∨ j = a ∧ x < i := by
   rcases Nat.lt_trichotomy j a with g | g | g
   ·exact .inl g
   ·subst g
    refine .inr ⟨rfl, ?_⟩
    have := hlt b hj
    simp only [rv] at this
    omega
   ·exfalso
    have hal : a < L.length := by omega
    have h1 := hlt _ (List.getElem?_eq_getElem hal)
    have h2 := h.mono a j _ _ g (List.getElem?_eq_getElem hal) hj
    have h3 : (rv k L[a].2 + 1) * k ≤ rv k b.2 * k := Nat.mul_le_mul_right _ h2
    rw [Nat.succ_mul] at h3
    have := h.pos
    simp only [rv] at h1
    omega
  obtain ⟨_, h2⟩ := h.seen j x b hj hx hpos
  obtain ⟨c, g1, g2, g3⟩ := h2 q hn
  obtain ⟨j', g4⟩ := List.getElem?_of_mem g1
  exact ⟨j', c, g4, g2, by simp only [rv]; omega⟩
end
def z02 (m : z8) (x : zf) : Bool := (x.To == -1 && x.Out == -1) || (decide (0 ≤ x.To) && decide (x.To < (m.Rows.length : Int)) && decide (0 ≤ x.Out) && decide (x.Out < m.Outputs))
def z1s (m : z8) (r : List zf) : Bool := decide ((r.length : Int) = m.Inputs) && r.all (z02 m)
def chk (m : z8) : Int :=
 if m.Inputs > 16 ∨ m.Outputs > 16 ∨ (m.Rows.length : Int) > 64 then 3 else if m.Inputs < 1 ∨ m.Outputs < 1 ∨ m.Rows.length = 0 then 1 else if m.Rows.all (z1s m) = true then 0 else 1
theorem z7Y (m : z8) (x : zf) : uz m x = some (z02 m x) := by
 unfold uz jj
 simp only [Option.bind_some, Bool.and_true]
 rcases Bool.eq_false_or_eq_true (x.To == (-1) && x.Out == (-1)) with h | h
 ·simp [z02, h]
 ·rw [h]
  simp only [z02, h, Bool.false_or, cond_false]
  by_cases h1 : (0 : Int) ≤ x.To
  ·by_cases h2 : x.To < (m.Rows.length : Int)
   ·by_cases h3 : (0 : Int) ≤ x.Out
    ·simp [Bool.cond_eq_ite, h1, h2, h3]
    ·simp [Bool.cond_eq_ite, h1, h2, h3]
   ·simp [Bool.cond_eq_ite, h1, h2]
  ·simp [h1]
theorem z07 (m : z8) (r : List zf) (hl : r.length < 4611686018427387904) : zT r m = some (!r.all (z02 m)) := by
 have hloop : loop (fun s => zL r m s) 0 = some (oS (xC (fun i x => if z02 m x = true then none else some (i : Int)) r 0)) := by
  refine kA r hl _ ?_ ?_
  ·intro i x hx
   have hi := (List.getElem?_eq_some_iff.1 hx).1
   unfold zL
   have hd : decide ((i : Int) < ((r.length : Nat) : Int)) = true := by simpa using hi
   rw [hd, cond_true, vz, bdT hx]
   unfold u7
   simp only [z7Y, Option.bind_some]
   cases z02 m x <;> rfl
  ·unfold zL
   simp
 unfold zT yi
 rw [hloop]
 simp only [Option.bind_some]
 cases hf : xC (fun i x => if z02 m x = true then none else some (i : Int)) r 0 with
 | some q =>
  obtain ⟨i, x, h1, h2⟩ := jE hf
  have hx : z02 m x ≠ true := by
   intro h; rw [if_pos h] at h2; cases h2
  rw [if_neg hx] at h2
  simp only [Option.some.injEq] at h2
  have : r.all (z02 m) = false := by
   rw [List.all_eq_false]
   exact ⟨x, List.mem_of_getElem? h1, hx⟩
  rw [this]
  have : (q : Int) ≥ 0 := by rw [← h2]; omega
  show some (decide (q ≥ 0)) = _
  simp [this]
 | none =>
  have : r.all (z02 m) = true := by
   rw [List.all_eq_true]
   intro x hx
   obtain ⟨i, hi⟩ := List.getElem?_of_mem hx
   have := Zf hf i x hi
   by_cases h : z02 m x = true
   ·exact h
   ·rw [if_neg h] at this; cases this
  rw [this]
  rfl
variable {m : z8}
theorem z1F (h0 : (m.Rows.length : Int) ≤ 64) (h1 : m.Inputs ≤ 16) : loop (fun s => xX m s) 0 = some (oS (xC (fun _ r => if z1s m r = true then none else some (1 : Int)) m.Rows 0)) := by
 refine kA m.Rows (by omega) _ ?_ ?_
 ·intro i r hr
  have hi := (List.getElem?_eq_some_iff.1 hr).1
  unfold xX
  have hd : decide ((i : Int) < ((m.Rows.length : Nat) : Int)) = true := by simpa using hi
  rw [hd, cond_true, vz, bdT hr]
  by_cases hlen : (r.length : Int) = m.Inputs
  ·have hne : (((r.length : Nat) : Int) != m.Inputs) = false := by simpa using hlen
   rw [hne, cond_false, bdT (z07 m r (by omega))]
   have : z1s m r = r.all (z02 m) := by simp [z1s, hlen]
   rw [this]
   cases r.all (z02 m) <;> rfl
  ·have hne : (((r.length : Nat) : Int) != m.Inputs) = true := by simpa using hlen
   rw [hne, cond_true]
   have : z1s m r = false := by simp [z1s, hlen]
   rw [this]; rfl
 ·unfold xX
  simp
theorem z1r (m : z8) : xC (fun _ r => if z1s m r = true then none else some (1 : Int)) m.Rows 0 = if m.Rows.all (z1s m) = true then none else some 1 := by
 by_cases h : m.Rows.all (z1s m) = true
 ·rw [if_pos h]
  refine X3 fun i r hr => ?_
  rw [if_pos (List.all_eq_true.1 h r (List.mem_of_getElem? hr))]
 ·rw [if_neg h]
  cases hf : xC (fun _ r => if z1s m r = true then none else some (1 : Int)) m.Rows 0 with
  | some q =>
   obtain ⟨i, x, h1, h2⟩ := jE hf
   split at h2
   ·cases h2
   ·exact h2.symm ▸ rfl
  | none =>
   exfalso
   apply h
   rw [List.all_eq_true]
   intro x hx
   obtain ⟨i, hi⟩ := List.getElem?_of_mem hx
   have := Zf hf i x hi
   by_cases h : z1s m x = true
   ·exact h
   ·rw [if_neg h] at this; cases this
theorem z1d (m : z8) : vg m = some (chk m) := by
 unfold vg chk
 by_cases h1 : m.Inputs > 16
 ·simp [h1]
 by_cases h2 : m.Outputs > 16
 ·simp [Bool.cond_eq_ite, h1, h2]
 by_cases h3 : (m.Rows.length : Int) > 64
 ·simp [Bool.cond_eq_ite, h1, h2, h3]
 rw [if_neg (by simp [Bool.cond_eq_ite, h1, h2, h3])]
 by_cases h4 : m.Inputs < 1
 ·simp [Bool.cond_eq_ite, h1, h2, h3, h4]
 by_cases h5 : m.Outputs < 1
 ·simp [Bool.cond_eq_ite, h1, h2, h3, h4, h5]
 by_cases h6 : m.Rows.length = 0
 ·simp [Bool.cond_eq_ite, h1, h2, h4, h5, h6]
 rw [if_neg (by simp [h4, h5, h6])]
 have h6' : decide (((m.Rows.length : Nat) : Int) < 1) = false := by simp; omega
 have e1 : decide (m.Inputs > 16) = false := by simpa using h1
 have e2 : decide (m.Outputs > 16) = false := by simpa using h2
 have e3 : decide (((m.Rows.length : Nat) : Int) > 64) = false := by simpa using h3
 have e4 : decide (m.Inputs < 1) = false := by simpa using h4
 have e5 : decide (m.Outputs < 1) = false := by simpa using h5
 simp only [e1, e2, e3, e4, e5, h6', cond_false]
 rw [bdT (z1F (by omega) (by omega)), z1r]
 by_cases h : m.Rows.all (z1s m) = true
 ·rw [if_pos h, if_pos h]; rfl
 ·rw [if_neg h, if_neg h]; rfl
structure VM (m : z8) : Prop where
 in1 : 1 ≤ m.Inputs
 in16 : m.Inputs ≤ 16
 out1 : 1 ≤ m.Outputs
 out16 : m.Outputs ≤ 16
 len1 : 1 ≤ m.Rows.length
 len64 : m.Rows.length ≤ 64
 row : ∀ r ∈ m.Rows, (r.length : Int) = m.Inputs
 edge : ∀ r ∈ m.Rows, ∀ x ∈ r, (x.To = -1 ∧ x.Out = -1) ∨ (0 ≤ x.To ∧ x.To < (m.Rows.length : Int) ∧ 0 ≤ x.Out ∧ x.Out < m.Outputs)
theorem z6p (h : VM m) : chk m = 0 := by
 unfold chk
 have := h.in1; have := h.in16; have := h.out1; have := h.out16; have := h.len1; have := h.len64
 rw [if_neg (by omega), if_neg (by omega), if_pos]
 rw [List.all_eq_true]
 intro r hr
 simp only [z1s, Bool.and_eq_true, decide_eq_true_eq, List.all_eq_true]
 refine ⟨h.row r hr, fun x hx => ?_⟩
 simp only [z02, Bool.or_eq_true, Bool.and_eq_true, beq_iff_eq, decide_eq_true_eq]
 rcases h.edge r hr x hx with ⟨a, b⟩ | ⟨a, b, c, d⟩
 ·exact .inl ⟨a, b⟩
 ·exact .inr ⟨⟨⟨a, b⟩, c⟩, d⟩
def kk (m : z8) : Nat := m.Inputs.toNat
def E (m : z8) (s i : Nat) : zf := ((m.Rows[s]?.getD [])[i]?).getD ⟨-1, -1⟩
section
variable {m : z8} (h : VM m)
include h
theorem VM.kk_eq : ((kk m : Nat) : Int) = m.Inputs := by have := h.in1; unfold kk; omega
theorem VM.kk_le : kk m ≤ 16 := by have := h.in16; unfold kk; omega
theorem VM.rowAt {s : Nat} (hs : s < m.Rows.length) : ∃ r, m.Rows[s]? = some r ∧ r.length = kk m ∧ ∀ i, i < kk m → r[i]? = some (E m s i) := by
 have hr := List.getElem?_eq_getElem hs
 have hl := h.row _ (List.getElem_mem hs)
 have hl' : m.Rows[s].length = kk m := by unfold kk; omega
 refine ⟨_, hr, hl', fun i hi => ?_⟩
 have hi' : i < m.Rows[s].length := by omega
 unfold E
 rw [hr]
 simp only [Option.getD_some]
 rw [List.getElem?_eq_getElem hi']
 rfl
theorem VM.edgeAt {s i : Nat} (hs : s < m.Rows.length) (hi : i < kk m) : ((E m s i).To = -1 ∧ (E m s i).Out = -1) ∨ (0 ≤ (E m s i).To ∧ (E m s i).To < (m.Rows.length : Int) ∧ 0 ≤ (E m s i).Out ∧ (E m s i).Out < m.Outputs) := by
 obtain ⟨r, h1, _, h2⟩ := h.rowAt hs
 exact h.edge r (List.mem_of_getElem? h1) _ (List.mem_of_getElem? (h2 i hi))
theorem VM.edge_eq {s i : Nat} (hs : s < m.Rows.length) (hi : i < kk m) {β : Type} {f : zf → Option β} :
  (Option.bind (idx m.Rows (s : Int)) fun r => Option.bind (idx r (i : Int)) f) = f (E m s i) := by
 obtain ⟨r, h1, _, h2⟩ := h.rowAt hs
 rw [vz, h1, Option.bind_some, vz, h2 i hi, Option.bind_some]
end
structure WM (m : z8) : Prop where
 in1 : 1 ≤ m.Inputs
 in16 : m.Inputs ≤ 16
 len1 : 1 ≤ m.Rows.length
 len : m.Rows.length ≤ 128
 row : ∀ r ∈ m.Rows, (r.length : Int) = m.Inputs
 edge : ∀ r ∈ m.Rows, ∀ x ∈ r, (x.To = -1 ∧ x.Out = -1) ∨ (0 ≤ x.To ∧ x.To < (m.Rows.length : Int) ∧ 0 ≤ x.Out)
def nxE (m : z8) (s : Int) (i : Nat) : zf := if s < 0 then ⟨-1, -1⟩ else E m s.toNat i
def rsp (m : z8) : Int → List Nat → List Int
 | _, [] => []
 | s, i :: w => (nxE m s i).Out :: rsp m (nxE m s i).To w
def aft (m : z8) : Int → List Nat → Int
 | s, [] => s
 | s, i :: w => aft m (nxE m s i).To w
theorem V2 (m : z8) : ∀ (w : List Nat) (s : Int) (i : Nat), rsp m s (w ++ [i]) = rsp m s w ++ [(nxE m (aft m s w) i).Out] ∧ aft m s (w ++ [i]) = (nxE m (aft m s w) i).To
 | [], s, i => ⟨rfl, rfl⟩
 | j :: w, s, i => by
  have := V2 m w (nxE m s j).To i
  simp only [List.cons_append, rsp, aft, this.1, this.2, and_self]
def z8v (m : z8) (s : Int) : Prop := -1 ≤ s ∧ s < (m.Rows.length : Int)
theorem zbI (h : VM m) {s : Int} (hs : z8v m s) {i : Nat} (hi : i < kk m) : z8v m (nxE m s i).To := by
 unfold nxE
 have := h.len1
 by_cases h0 : s < 0
 ·rw [if_pos h0]
  unfold z8v
  simp only
  omega
 ·rw [if_neg h0]
  have hl : s.toNat < m.Rows.length := by have := hs.2; omega
  have := h.edgeAt hl hi
  unfold z8v
  omega
theorem QM (m : z8) (s i : Nat) : nxE m (s : Int) i = E m s i := by
 unfold nxE
 rw [if_neg (by omega), Int.toNat_natCast]
end Go.Own
end
