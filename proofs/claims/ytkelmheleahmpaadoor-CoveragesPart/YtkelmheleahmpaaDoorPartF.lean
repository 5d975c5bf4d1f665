/- -/
import Derived.Test.YtkelmheleahmpaaDoorPartE
noncomputable section
set_option linter.unusedVariables false
set_option linter.unusedSimpArgs false
namespace Go.Own
open Go.Proofs
set_option maxRecDepth 100000
set_option maxHeartbeats 8000000
def X0 : XH Tryd.prog := xB zB
theorem Xk : Tryd.prog.follows .mixedOrders = true := by kernel_rfl
variable {rs : List (Nat × Option Nat)}{σ : Type}{keep : Bool}{r : A}
section
variable {ctr : Ctr} {n : Fr} {Q : Exit → St → Prop} {c : Code} {fs : List Fm} {st : St}
theorem yE (X : XH Tryd.prog) (hC : zN Tryd.prog ctr) {E : St → Prop}    (hE : ∀ st x R U, z49 wr keep rs st = some (x, R, U) → LeV x r → E st) (L : List HO) (e : zah X wr ctr n keep rs 4000 c fs st (hoH L) = some (r, hoO L) := by kernel_rfl) : AWP Tryd.prog n c st (Qf Tryd.prog n fs (z3t E)) := yE6 X zB hC Xk hE L e
theorem yEx (X : XH Tryd.prog) (hC : zN Tryd.prog ctr) {E : St → Prop}    (hE : ∀ st x R U, z49 wr keep rs st = some (x, R, U) → LeV x r → E st) (L : List HO) (x : A) (hle : LeV x r) (e : zah X wr ctr n keep rs 4000 c fs st (hoH L) = some (x, hoO L) := by kernel_rfl) : AWP Tryd.prog n c st (Qf Tryd.prog n fs (z3t E)) := zgk X zB hC Xk hE L x hle e
theorem yB (X : XH Tryd.prog) (hC : zN Tryd.prog ctr) {τ : Type} {J : St → Prop} {live : List Nat} {S : τ → List (Nat × T)} {Inv : τ → Prop} (hJ : ∀ st' l' z, Inv z → Own.canon live st' = ofL l' → LeL l' (S z) → J st') (z : τ) (hz : Inv z) (L : List HO) (e : KY X wr ctr n live 4000 c fs st (hoH L) = some (.back J, ofL (S z), hoO L) := by kernel_rfl) : AWP Tryd.prog n c st (Qf Tryd.prog n fs Q) := yB6 X zB hC Xk hJ z hz L e
theorem yA (X : XH Tryd.prog) (hC : zN Tryd.prog ctr) (bd : Code) (path : List Nat) (Js : List (St → Prop)) (l : List (Nat × T)) (L : List HO) (h : AWP Tryd.prog n (sub path bd) (ofL l) (Qf Tryd.prog n (frs path Js bd []) Q)) (e : KY X wr ctr n (Wa l) 4000 c fs st (hoH L) = some (.at (sub path bd) (frs path Js bd []), ofL l, hoO L) := by kernel_rfl) : AWP Tryd.prog n c st (Qf Tryd.prog n fs Q) := yA6 X zB hC Xk bd path Js l L e h
theorem yAt (X : XH Tryd.prog) (hC : zN Tryd.prog ctr) (c' : Code) (fs' : List Fm) (l : List (Nat × T)) (L : List HO) (h : ∀ st0, Own.canon (Wa l) st0 = ofL l → AWP Tryd.prog n c' st0 (Qf Tryd.prog n fs' Q)) (e : KY X wr ctr n (Wa l) 4000 c fs st (hoH L) = some (.at c' fs', ofL l, hoO L) := by kernel_rfl) : AWP Tryd.prog n c st (Qf Tryd.prog n fs Q) := zgl X zB hC Xk c' fs' l L e h
theorem yLx (X : XH Tryd.prog) (hC : zN Tryd.prog ctr) (bd : Code) (path : List Nat) (Js : List (St → Prop)) {σ τ : Type} (f : σ → Option (LR σ τ)) (S : σ → List (Nat × T)) (x0 : σ) {t : τ} (ht : loop f x0 = some t) (l : List (Nat × T)) (hl : LeL l (S x0)) (L : List HO) (round : ∀ x m lr, f x = some lr → zds f m t lr → ∀ J : St → Prop, (∀ st' l' x', W9 f m x' = some t → Own.canon (Wa l) st' = ofL l' → LeL l' (S x') → J st') → AWP Tryd.prog n (sub (path ++ [0]) bd) (ofL (S x)) (Qf Tryd.prog n (.pre J :: frs path Js bd []) Q)) (e : KY X wr ctr n (Wa l) 4000 c fs st (hoH L) = some (.at (sub path bd) (frs path Js bd []), ofL l, hoO L) := by kernel_rfl) (e2 : sub path bd = .loop (sub (path ++ [0]) bd) := by kernel_rfl) (hk : ∀ x, Wa (S x) = Wa l := by exact fun _ => rfl) : AWP Tryd.prog n c st (Qf Tryd.prog n fs Q) := yL6 X zB hC Xk bd path Js f S x0 ht l hl L hk e e2 round
theorem yL (X : XH Tryd.prog) (hC : zN Tryd.prog ctr) (bd : Code) (path : List Nat) (Js : List (St → Prop)) {σ τ : Type} (f : σ → Option (LR σ τ)) (S : σ → List (Nat × T)) (x0 : σ) {t : τ} (ht : loop f x0 = some t) (L : List HO) (round : ∀ x m lr, f x = some lr → zds f m t lr → ∀ J : St → Prop, (∀ st' l' x', W9 f m x' = some t → Own.canon (Wa (S x0)) st' = ofL l' → LeL l' (S x') → J st') → AWP Tryd.prog n (sub (path ++ [0]) bd) (ofL (S x)) (Qf Tryd.prog n (.pre J :: frs path Js bd []) Q)) (e : KY X wr ctr n (Wa (S x0)) 4000 c fs st (hoH L) = some (.at (sub path bd) (frs path Js bd []), ofL (S x0), hoO L) := by kernel_rfl) (e2 : sub path bd = .loop (sub (path ++ [0]) bd) := by kernel_rfl) (hk : ∀ x, Wa (S x) = Wa (S x0) := by exact fun _ => rfl) : AWP Tryd.prog n c st (Qf Tryd.prog n fs Q) := yL6 X zB hC Xk bd path Js f S x0 ht _ (LeL.refl _) L hk e e2 round
theorem yJ (X : XH Tryd.prog) (hC : zN Tryd.prog ctr) (bd : Code) (path : List Nat) (Js : List (St → Prop))  (live : List Nat) (Inv : σ → Prop) (S : σ → List (Nat × T)) (l : List (Nat × T)) (L : List HO) (h1 : ∀ z, Inv z → AWP Tryd.prog n (sub (path ++ [1]) bd) (ofL (S z)) (Qf Tryd.prog n (frs path Js bd []) Q)) (h2 : ∀ J : St → Prop, (∀ st' l' z, Inv z → Own.canon live st' = ofL l' → LeL l' (S z) → J st') → AWP Tryd.prog n (sub (path ++ [2]) bd) (ofL l) (Qf Tryd.prog n (.pre J :: frs path Js bd []) Q)) (e : KY X wr ctr n (Wa l) 4000 c fs st (hoH L) = some (.at (sub path bd) (frs path Js bd []), ofL l, hoO L) := by kernel_rfl) (e2 : sub path bd = .seq (sub (path ++ [2]) bd) (sub (path ++ [1]) bd) := by kernel_rfl) : AWP Tryd.prog n c st (Qf Tryd.prog n fs Q) := yJ6 X zB hC Xk bd path Js live Inv S l L e e2 h1 h2
theorem yF (X : XH Tryd.prog) (hC : zN Tryd.prog ctr) (ex : Exit) (l : List (Nat × T)) (L : List HO) (h : ∀ st0, Own.canon (Wa l) st0 = ofL l → Q ex st0) (e : KY X wr ctr n (Wa l) 4000 c fs st (hoH L) = some (.fin ex, ofL l, hoO L) := by kernel_rfl) : AWP Tryd.prog n c st (Qf Tryd.prog n fs Q) := yF6 X zB hC Xk ex l L e h
theorem yO {k : Nat} {fn : Func}  {ls : List A} (keep : Bool) (rs : List (Nat × Option Nat)) (body : Code) (nt : Nat) (hf : Tryd.prog.funcs[k]? = some fn) (h : ∀ E : St → Prop, (∀ st x R U, z49 wr keep rs st = some (x, R, U) → LeV x r → E st) → AWP Tryd.prog ⟨nt, []⟩ body (ofL (z4Q 0 ls)) (Qf Tryd.prog ⟨nt, []⟩ [] (z3t E))) (hb : fn.body = some body := by kernel_rfl) (hn : nt = fn.ntmps := by exact rfl) (hr : fn.results = (rs.map z0d).toArray := by exact rfl) (hnm : (fn.name == "runtime.NumGoroutine") = false := by exact rfl) (ha : Nat.ble ls.length nt = true := by kernel_rfl) : YN Tryd.prog k ls r := yO6 zB keep rs body nt hf hb hn hr hnm ha h
end
theorem z6F : z2Y Tryd.prog 67 3 4 (Qu .i64) (.atom (.bool false)) := z6I Tryd.underlying67 Tryd.underlying3 ⟨.bool false, fun w => K0 (f := Tryd.t4) (by kernel_rfl) rfl w, fun S => wH.2 ⟨rfl, rfl⟩⟩ rfl
theorem z9w : z2Y Tryd.prog 68 34 4 (WJ [.i64, .i64]) (.atom (.bool false)) := z2o Tryd.underlying68 _ Tryd.underlying34 (Go.Ex.z85.eqn rfl) (z3I.eqn rfl) rfl ⟨.bool false, fun w => K0 (f := Tryd.t4) (by kernel_rfl) rfl w, fun S => wH.2 ⟨rfl, rfl⟩⟩ rfl
theorem z9v : z2Y Tryd.prog 69 84 4 (WJ [.i64, .i64, .i64]) (.atom (.bool false)) := z2o Tryd.underlying69 _ Tryd.underlying84 (Go.Ex.z84.eqn rfl) (z3H.eqn rfl) rfl ⟨.bool false, fun w => K0 (f := Tryd.t4) (by kernel_rfl) rfl w, fun S => wH.2 ⟨rfl, rfl⟩⟩ rfl
theorem z9P : z2Z Tryd.prog 81 0 3 0 := z52 Tryd.underlying81 _ rfl rfl rfl
theorem zdG : zab Tryd.prog 67 1 false := z6h zB (t := 43) Tryd.so67 rfl rfl (by kernel_rfl) (by decide)
def wL : Code := (Tryd.f20.body).getD .skip
def Yf : yi := spF (α := yd) (ρ := z7) 20 (fun x => [Jt x]) (fun r => yT r) (fun x => ZU x) [] (Jl)
abbrev Uy (x_ : yd) (fe : List (List zc)) : List (Nat × T) := [(2, .own (.box (.agg [I 0, I 0, eOs 1 true uh []]))), (4, .own (.box (.agg [I (w64 (1 + (w64 (Int.tmod x_.Inputs 3)))), I (w64 (1 + (w64 (Int.tmod x_.Outputs 3)))), eOs 1 false z01 fe])))]
abbrev Ux (x_ : yd) (s_ : Int) (ew : List (List zc)) : List (Nat × T) := [(1, .own (.box (Jt x_))), (2, .own (.box (.agg [I 0, I 0, eOs 1 true uh []]))), (3, .d (I (w64 (1 + (w64 (Int.tmod x_.States 6)))))), (4, .own (.box (.agg [I (w64 (1 + (w64 (Int.tmod x_.Inputs 3)))), I (w64 (1 + (w64 (Int.tmod x_.Outputs 3)))), eOs 1 false z01 ew]))), (5, .d (I s_))]
abbrev Uw (x_ : yd) (a7 : List (List zc)) (s_ : Int) (row : List zc) : List (Nat × T) := [(1, .own (.box (Jt x_))), (2, .own (.box (.agg [I 0, I 0, eOs 1 true uh []]))), (3, .d (I (w64 (1 + (w64 (Int.tmod x_.States 6)))))), (4, .own (.box (.agg [I (w64 (1 + (w64 (Int.tmod x_.Inputs 3)))), I (w64 (1 + (w64 (Int.tmod x_.Outputs 3)))), eOs 1 false z01 a7]))), (5, .d (I s_)), (6, .own (eOs 2 false F9_ row))]
abbrev Uv (x_ : yd) (a7 : List (List zc)) (s_ : Int) (i_ : Int) (gf : List zc) : List (Nat × T) := [(1, .own (.box (Jt x_))), (2, .own (.box (.agg [I 0, I 0, eOs 1 true uh []]))), (3, .d (I (w64 (1 + (w64 (Int.tmod x_.States 6)))))), (4, .own (.box (.agg [I (w64 (1 + (w64 (Int.tmod x_.Inputs 3)))), I (w64 (1 + (w64 (Int.tmod x_.Outputs 3)))), eOs 1 false z01 a7]))), (5, .d (I s_)), (6, .own (eOs 2 false F9_ gf)), (7, .d (I i_))]
abbrev Uu (x_ : yd) (a7 : List (List zc)) (s_ : Int) (bz : List zc) (i_ : Int) (v_ : Int) : List (Nat × T) := [(1, .own (.box (Jt x_))), (2, .own (.box (.agg [I 0, I 0, eOs 1 true uh []]))), (3, .d (I (w64 (1 + (w64 (Int.tmod x_.States 6)))))), (4, .own (.box (.agg [I (w64 (1 + (w64 (Int.tmod x_.Inputs 3)))), I (w64 (1 + (w64 (Int.tmod x_.Outputs 3)))), eOs 1 false z01 a7]))), (5, .d (I s_)), (6, .own (eOs 2 false F9_ bz)), (7, .d (I i_)), (8, .d (I v_))]
abbrev Us (x_ : yd) (a7 : List (List zc)) (s_ : Int) (bz : List zc) (i_ : Int) : List (Nat × T) := [(1, .own (.box (Jt x_))), (2, .own (.box (.agg [I 0, I 0, eOs 1 true uh []]))), (3, .d (I (w64 (1 + (w64 (Int.tmod x_.States 6)))))), (4, .own (.box (.agg [I (w64 (1 + (w64 (Int.tmod x_.Inputs 3)))), I (w64 (1 + (w64 (Int.tmod x_.Outputs 3)))), eOs 1 false z01 a7]))), (5, .d (I s_)), (6, .own (eOs 2 false F9_ bz)), (7, .d (I i_))]
abbrev Ut (x_ : yd) (a7 : List (List zc)) (s_ : Int) : List (Nat × T) := [(1, .own (.box (Jt x_))), (2, .own (.box (.agg [I 0, I 0, eOs 1 true uh []]))), (3, .d (I (w64 (1 + (w64 (Int.tmod x_.States 6)))))), (4, .own (.box (.agg [I (w64 (1 + (w64 (Int.tmod x_.Inputs 3)))), I (w64 (1 + (w64 (Int.tmod x_.Outputs 3)))), eOs 1 false z01 a7]))), (5, .d (I s_))]
variable {ctr : Ctr}
theorem z09 (hC : zN Tryd.prog ctr) : Yf.Ok Tryd.prog := by
 refine zV ?_
 rintro x_ r0 aa
 try unfold ZU at aa
 refine yO false [(2, some 30)] wL 87 Tryd.func20 fun E hE => ?_
 obtain ⟨g0, aa⟩ := gdE aa
 obtain ⟨g1, aa⟩ := gdE aa
 obtain ⟨g2, aa⟩ := gdE aa
 refine yJ X0 hC wL [1,1,1] [] [2,4] (fun z : List (List zc) => ka x_ z = some r0) (fun z => Uy x_ z) [(1, .own (.box (Jt x_))), (2, .own (.box (.agg [I 0, I 0, eOs 1 true uh []]))), (3, .d (I (w64 (1 + (w64 (Int.tmod x_.States 6)))))), (4, .own (.box (.agg [I (w64 (1 + (w64 (Int.tmod x_.Inputs 3)))), I (w64 (1 + (w64 (Int.tmod x_.Outputs 3)))), eOs 1 true uh []])))] [Hn g0, Hn g1, Hn g2, Hh (.cut 3)] ?_ fun J1 az => ?_
 ·rintro fe aa
  unfold ka at aa
  obtain rfl := zk aa
  exact yE X0 hC hE [Hm (shM z01 uh fe)]
 ·obtain ⟨t2, ht2, aa⟩ := zn aa
  refine yLx X0 hC wL [1,1,1,2,1,0] [J1] (fun s => k7 x_ s.1 s.2) (fun x => Ut x_ x.1 x.2) (([] : List (List zc)), 0) ht2 [(1, .own (.box (Jt x_))), (2, .own (.box (.agg [I 0, I 0, eOs 1 true uh []]))), (3, .d (I (w64 (1 + (w64 (Int.tmod x_.States 6)))))), (4, .own (.box (.agg [I (w64 (1 + (w64 (Int.tmod x_.Inputs 3)))), I (w64 (1 + (w64 (Int.tmod x_.Outputs 3)))), eOs 1 true z01 []]))), (5, .d (I 0))] inferInstance [] ?_
  rintro ⟨a7, s_⟩ m2 bl ae hl1 J2 a8
  try unfold k7 at ae
  rcases yb ae with ⟨c0, ae⟩ | ⟨c0, ae⟩
  ·refine yJ X0 hC wL [1,1,1,2,1,0,0,1] [J1, J2] [1,2,3,4,5] (fun z : List (List zc) => k9 s_ z = some bl) (fun z => Ux x_ s_ z) [(1, .own (.box (Jt x_))), (2, .own (.box (.agg [I 0, I 0, eOs 1 true uh []]))), (3, .d (I (w64 (1 + (w64 (Int.tmod x_.States 6)))))), (4, .own (.box (.agg [I (w64 (1 + (w64 (Int.tmod x_.Inputs 3)))), I (w64 (1 + (w64 (Int.tmod x_.Outputs 3)))), eOs 1 false z01 a7]))), (5, .d (I s_))] [Hq c0, Hh (.cut 0)] ?_ fun J3 cd => ?_
   ·rintro ew ae
    unfold k9 at ae
    obtain rfl := zk ae
    exact yB X0 hC a8 (ew, w64 (s_ + 1)) hl1 []
   ·refine yJ X0 hC wL [1,1,1,2,1,0,0,1,2,0,1] [J1, J2, J3] [1,2,3,4,5,6] (fun z : List zc => k8 a7 s_ z = some bl) (fun z => Uw x_ a7 s_ z) [(1, .own (.box (Jt x_))), (2, .own (.box (.agg [I 0, I 0, eOs 1 true uh []]))), (3, .d (I (w64 (1 + (w64 (Int.tmod x_.States 6)))))), (4, .own (.box (.agg [I (w64 (1 + (w64 (Int.tmod x_.Inputs 3)))), I (w64 (1 + (w64 (Int.tmod x_.Outputs 3)))), eOs 1 false z01 a7]))), (5, .d (I s_)), (6, .own (eOs 2 true F9_ []))] [Hh (.cut 1)] ?_ fun J4 ep => ?_
    ·rintro row ae
     unfold k8 at ae
     obtain ⟨g3, ae⟩ := gdE ae
     exact yB X0 hC cd (a7 ++ ([row] : List (List zc))) ae [Hq (oC z01 row []), Hn (aL z01 z01 g3), Hl (aM z01 a7 ([row] : List (List zc)))]
    ·obtain ⟨t5, ht5, ae⟩ := zn ae
     refine yLx X0 hC wL [1,1,1,2,1,0,0,1,2,0,1,2,1,0] [J1, J2, J3, J4] (fun s => qg x_ s_ s.1 s.2) (fun x => Us x_ a7 s_ x.1 x.2) (([] : List zc), 0) ht5 [(1, .own (.box (Jt x_))), (2, .own (.box (.agg [I 0, I 0, eOs 1 true uh []]))), (3, .d (I (w64 (1 + (w64 (Int.tmod x_.States 6)))))), (4, .own (.box (.agg [I (w64 (1 + (w64 (Int.tmod x_.Inputs 3)))), I (w64 (1 + (w64 (Int.tmod x_.Outputs 3)))), eOs 1 false z01 a7]))), (5, .d (I s_)), (6, .own (eOs 2 true F9_ [])), (7, .d (I 0))] inferInstance [] ?_
     rintro ⟨bz, i_⟩ m5 fk ai hl2 J5 dy
     try unfold qg at ai
     rcases yb ai with ⟨c1, ai⟩ | ⟨c1, ai⟩
     ·refine yJ X0 hC wL [1,1,1,2,1,0,0,1,2,0,1,2,1,0,0,1] [J1, J2, J3, J4, J5] [1,2,3,4,5,6,7] (fun z : List zc => qj i_ z = some fk) (fun z => Uv x_ a7 s_ i_ z) [(1, .own (.box (Jt x_))), (2, .own (.box (.agg [I 0, I 0, eOs 1 true uh []]))), (3, .d (I (w64 (1 + (w64 (Int.tmod x_.States 6)))))), (4, .own (.box (.agg [I (w64 (1 + (w64 (Int.tmod x_.Inputs 3)))), I (w64 (1 + (w64 (Int.tmod x_.Outputs 3)))), eOs 1 false z01 a7]))), (5, .d (I s_)), (6, .own (eOs 2 false F9_ bz)), (7, .d (I i_))] [Hq c1, Hh (.cut 0)] ?_ fun J6 fl => ?_
      ·rintro gf ai
       unfold qj at ai
       obtain rfl := zk ai
       exact yB X0 hC dy (gf, w64 (i_ + 1)) hl2 []
      ·refine yJ X0 hC wL [1,1,1,2,1,0,0,1,2,0,1,2,1,0,0,1,2,0,1] [J1, J2, J3, J4, J5, J6] [1,2,3,4,5,6,7,8] (fun z : Int => vt x_ bz i_ z = some fk) (fun z => Uu x_ a7 s_ bz i_ z) [(1, .own (.box (Jt x_))), (2, .own (.box (.agg [I 0, I 0, eOs 1 true uh []]))), (3, .d (I (w64 (1 + (w64 (Int.tmod x_.States 6)))))), (4, .own (.box (.agg [I (w64 (1 + (w64 (Int.tmod x_.Inputs 3)))), I (w64 (1 + (w64 (Int.tmod x_.Outputs 3)))), eOs 1 false z01 a7]))), (5, .d (I s_)), (6, .own (eOs 2 false F9_ bz)), (7, .d (I i_)), (8, .d (I 0))] [Hh (.cut 1)] ?_ fun J7 gr => ?_
       ·rintro v_ ai
        unfold vt at ai
        rcases yb ai with ⟨c2, ai⟩ | ⟨c2, ai⟩
        ·obtain ⟨g4, ai⟩ := gdE ai
         let Z0 : List HO := [Hq c2, Hq c2, Hn g4, Hq c2, Hq c2]
         rcases yb ai with ⟨c3, ai⟩ | ⟨c3, ai⟩
         ·obtain ⟨g5, ai⟩ := gdE ai
          exact yB X0 hC fl (bz ++ ([(zc.mk (-1) (-1))] : List zc)) ai (Z0 ++ [Hq c3, Hq (dM F9_ ([(zc.mk (-1) (-1))] : List zc)), Hn (dM F9_ ([(zc.mk (-1) (-1))] : List zc)), Hn (aL F9_ F9_ g5), Hl (aM F9_ bz ([(zc.mk (-1) (-1))] : List zc))])
         ·obtain ⟨g6, ai⟩ := gdE ai
          obtain ⟨g7, ai⟩ := gdE ai
          obtain ⟨g8, ai⟩ := gdE ai
          obtain ⟨g9, ai⟩ := gdE ai
          obtain ⟨g10, ai⟩ := gdE ai
          obtain ⟨g11, ai⟩ := gdE ai
          exact yB X0 hC fl (bz ++ ([(zc.mk (Int.tmod (w64 (Int.tdiv v_ 4)) (w64 (1 + (w64 (Int.tmod x_.States 6))))) (Int.tmod (w64 (Int.tdiv (w64 (Int.tdiv v_ 4)) (w64 (1 + (w64 (Int.tmod x_.States 6)))))) (w64 (1 + (w64 (Int.tmod x_.Outputs 3))))))] : List zc)) ai (Z0 ++ [Hq c3, Hn g6, Hn g7, Hn g8, Hn g9, Hn g10, Hq (dM F9_ ([(zc.mk (Int.tmod (w64 (Int.tdiv v_ 4)) (w64 (1 + (w64 (Int.tmod x_.States 6))))) (Int.tmod (w64 (Int.tdiv (w64 (Int.tdiv v_ 4)) (w64 (1 + (w64 (Int.tmod x_.States 6)))))) (w64 (1 + (w64 (Int.tmod x_.Outputs 3))))))] : List zc)), Hn (dM F9_ ([(zc.mk (Int.tmod (w64 (Int.tdiv v_ 4)) (w64 (1 + (w64 (Int.tmod x_.States 6))))) (Int.tmod (w64 (Int.tdiv (w64 (Int.tdiv v_ 4)) (w64 (1 + (w64 (Int.tmod x_.States 6)))))) (w64 (1 + (w64 (Int.tmod x_.Outputs 3))))))] : List zc)), Hn (aL F9_ F9_ g11), Hl (aM F9_ bz ([(zc.mk (Int.tmod (w64 (Int.tdiv v_ 4)) (w64 (1 + (w64 (Int.tmod x_.States 6))))) (Int.tmod (w64 (Int.tdiv (w64 (Int.tdiv v_ 4)) (w64 (1 + (w64 (Int.tmod x_.States 6)))))) (w64 (1 + (w64 (Int.tmod x_.Outputs 3))))))] : List zc))])
        ·obtain ⟨g12, ai⟩ := gdE ai
         obtain ⟨g13, ai⟩ := gdE ai
         obtain ⟨g14, ai⟩ := gdE ai
         obtain ⟨g15, ai⟩ := gdE ai
         obtain ⟨g16, ai⟩ := gdE ai
         obtain ⟨g17, ai⟩ := gdE ai
         exact yB X0 hC fl (bz ++ ([(zc.mk (Int.tmod (w64 (Int.tdiv v_ 4)) (w64 (1 + (w64 (Int.tmod x_.States 6))))) (Int.tmod (w64 (Int.tdiv (w64 (Int.tdiv v_ 4)) (w64 (1 + (w64 (Int.tmod x_.States 6)))))) (w64 (1 + (w64 (Int.tmod x_.Outputs 3))))))] : List zc)) ai (rpN 4 (Hq c2) [qF, Hn g12, Hn g13, Hn g14, Hn g15, Hn g16, Hq (dM F9_ ([(zc.mk (Int.tmod (w64 (Int.tdiv v_ 4)) (w64 (1 + (w64 (Int.tmod x_.States 6))))) (Int.tmod (w64 (Int.tdiv (w64 (Int.tdiv v_ 4)) (w64 (1 + (w64 (Int.tmod x_.States 6)))))) (w64 (1 + (w64 (Int.tmod x_.Outputs 3))))))] : List zc)), Hn (dM F9_ ([(zc.mk (Int.tmod (w64 (Int.tdiv v_ 4)) (w64 (1 + (w64 (Int.tmod x_.States 6))))) (Int.tmod (w64 (Int.tdiv (w64 (Int.tdiv v_ 4)) (w64 (1 + (w64 (Int.tmod x_.States 6)))))) (w64 (1 + (w64 (Int.tmod x_.Outputs 3))))))] : List zc)), Hn (aL F9_ F9_ g17), Hl (aM F9_ bz ([(zc.mk (Int.tmod (w64 (Int.tdiv v_ 4)) (w64 (1 + (w64 (Int.tmod x_.States 6))))) (Int.tmod (w64 (Int.tdiv (w64 (Int.tdiv v_ 4)) (w64 (1 + (w64 (Int.tmod x_.States 6)))))) (w64 (1 + (w64 (Int.tmod x_.Outputs 3))))))] : List zc))])
       ·let Z1 : List HO := [Ha (lnM (eI .u16) x_.Edges)]
        rcases yb ai with ⟨c4, ai⟩ | ⟨c4, ai⟩
        ·obtain ⟨gg, h0, ai⟩ := zn ai
         exact yB X0 hC gr (w64 (gg)) ai (Z1 ++ [Hq c4, Hi (eI .u16) h0])
        ·exact yB X0 hC gr 0 ai (Z1 ++ [Hq c4])
     ·obtain rfl := zk ai
      obtain rfl := hl2
      exact yB X0 hC ep bz ae [Hq c1]
  ·obtain rfl := zk ae
   obtain rfl := hl1
   exact yB X0 hC az a7 aa [Hq c0]
def YD : Code := (Tryd.f21.body).getD .skip
def Ye : yi := spF (α := List Int × Int × Int) (ρ := List Int) 21 (fun x => [F1_ x.1, (eI .i64) x.2.1, (eI .i64) x.2.2]) (fun r => F6_ r) (fun x => ZT x.1 x.2.1 x.2.2) [] (z9I)
abbrev Ur (out : List Int) : List (Nat × T) := [(7, .own (eOs 1 false (eI .i64) out))]
abbrev Uq (w_ : List Int) (inputs : Int) (most : Int) (aj : List Int) (k_ : Int) : List (Nat × T) := [(0, .d (eSl 1 false (eI .u8) w_)), (1, .d (I inputs)), (2, .d (I most)), (7, .own (eOs 1 false (eI .i64) aj)), (8, .d (I k_))]
theorem z08 (hC : zN Tryd.prog ctr) : Ye.Ok Tryd.prog := by
 refine zV ?_
 rintro ⟨w_, inputs, most⟩ r0 aa
 try unfold ZT at aa
 refine yO true [(6, none)] YD 31 Tryd.func21 fun E hE => ?_
 refine yJ X0 hC YD [1,1] [] [7] (fun z : List Int => jZ z = some r0) (fun z => Ur z) [(0, .d (eSl 1 false (eI .u8) w_)), (1, .d (I inputs)), (2, .d (I most)), (7, .own (eOs 1 true (eI .i64) []))] [Hh (.cut 2)] ?_ fun J1 az => ?_
 ·rintro out aa
  unfold jZ at aa
  obtain rfl := zk aa
  exact yE X0 hC hE []
 ·obtain ⟨t2, ht2, aa⟩ := zn aa
  refine yLx X0 hC YD [1,1,2,1,0] [J1] (fun s => jY w_ inputs most s.1 s.2) (fun x => Uq w_ inputs most x.1 x.2) (([] : List Int), 0) ht2 [(0, .d (eSl 1 false (eI .u8) w_)), (1, .d (I inputs)), (2, .d (I most)), (7, .own (eOs 1 true (eI .i64) [])), (8, .d (I 0))] inferInstance [] ?_
  rintro ⟨aj, k_⟩ m2 bl ae hl1 J2 a8
  try unfold jY at ae
  rcases yb ae with ⟨c0, ae⟩ | ⟨c0, ae⟩
  ·let Z0 : List HO := (Ha (lnM (eI .u8) w_) :: (rpN 4 (Hq c0) []))
   rcases yb ae with ⟨c1, ae⟩ | ⟨c1, ae⟩
   ·obtain ⟨bi, h0, ae⟩ := zn ae
    obtain ⟨g0, ae⟩ := gdE ae
    obtain ⟨g1, ae⟩ := gdE ae
    obtain rfl := zk ae
    exact yB X0 hC a8 ((aj ++ ([Int.tmod (w64 (bi)) inputs] : List Int)), w64 (k_ + 1)) hl1 (Z0 ++ [Hq c1, Hi (eI .u8) h0, Hn g0, Hq (dM (eI .i64) ([Int.tmod (w64 (bi)) inputs] : List Int)), Hn (dM (eI .i64) ([Int.tmod (w64 (bi)) inputs] : List Int)), Hn (aL (eI .i64) (eI .i64) g1), Hl (aM (eI .i64) aj ([Int.tmod (w64 (bi)) inputs] : List Int))])
   ·obtain rfl := zk ae
    obtain rfl := hl1
    exact yB X0 hC az aj aa (Z0 ++ [Hq c1])
  ·obtain rfl := zk ae
   obtain rfl := hl1
   exact yB X0 hC az aj aa (Ha (lnM (eI .u8) w_) :: (rpN 4 (Hq c0) [qF]))
def jI : Code := (Tryd.f36.body).getD .skip
def uq : yi := spF (α := List Int × List Int) (ρ := Int) 36 (fun x => [F7_ x.1, F7_ x.2]) (fun r => (eI .i64) r) (fun x => vp x.1 x.2) [] (VQ)
abbrev Wl : List (Nat × T) := []
abbrev Wk (a_ : List Int) (b_ : List Int) (i_ : Int) : List (Nat × T) := [(0, .d (eSl 1 false (eI .i64) a_)), (1, .d (eSl 1 false (eI .i64) b_)), (5, .d (I i_))]
theorem UR (hC : zN Tryd.prog ctr) : uq.Ok Tryd.prog := by
 refine zV ?_
 rintro ⟨a_, b_⟩ r0 aa
 try unfold vp at aa
 refine yO true [(4, none)] jI 40 Tryd.func36 fun E hE => ?_
 let Z0 : List HO := [Ha (lnM (eI .i64) a_), Ha (lnM (eI .i64) b_)]
 rcases yb aa with ⟨c0, aa⟩ | ⟨c0, aa⟩
 ·let Z1 : List HO := (Z0 ++ [Hq c0, Ha (lnM (eI .i64) a_), Ha (lnM (eI .i64) b_)])
  rcases yb aa with ⟨c1, aa⟩ | ⟨c1, aa⟩
  ·obtain rfl := zk aa
   exact yE X0 hC hE (Z1 ++ [Hq c1])
  ·obtain rfl := zk aa
   exact yE X0 hC hE (Z1 ++ [Hq c1])
 ·refine yJ X0 hC jI [1,1] [] [] (fun z : Unit => jD = some r0) (fun z => Wl) [(0, .d (eSl 1 false (eI .i64) a_)), (1, .d (eSl 1 false (eI .i64) b_))] (Z0 ++ [Hq c0, Hh (.cut 0)]) ?_ fun J1 az => ?_
  ·rintro ⟨⟩ aa
   unfold jD at aa
   obtain rfl := zk aa
   exact yE X0 hC hE []
  ·obtain ⟨t2, ht2, aa⟩ := zn aa
   refine yL X0 hC jI [1,1,2,1,0] [J1] (fun s => vC a_ b_ s) (fun x => Wk a_ b_ x) 0 ht2  [] ?_
   rintro i_ m2 bl ae hl1 J2 a8
   try unfold vC at ae
   rcases yb ae with ⟨c2, ae⟩ | ⟨c2, ae⟩
   ·obtain ⟨fm, h0, ae⟩ := zn ae
    obtain ⟨fp, h1, ae⟩ := zn ae
    let Z2 : List HO := [Ha (lnM (eI .i64) a_), Hq c2, Hi (eI .i64) h0, Hi (eI .i64) h1]
    rcases yb ae with ⟨c3, ae⟩ | ⟨c3, ae⟩
    ·obtain rfl := zk ae
     obtain rfl := hl1
     obtain rfl := zk aa
     exact yE X0 hC hE (Z2 ++ [Hq c3])
    ·obtain ⟨ia, h2, ae⟩ := zn ae
     obtain ⟨ib, h3, ae⟩ := zn ae
     let Z3 : List HO := (Z2 ++ [Hq c3, Hi (eI .i64) h2, Hi (eI .i64) h3])
     rcases yb ae with ⟨c4, ae⟩ | ⟨c4, ae⟩
     ·obtain rfl := zk ae
      obtain rfl := hl1
      obtain rfl := zk aa
      exact yE X0 hC hE (Z3 ++ [Hq c4])
     ·obtain rfl := zk ae
      exact yB X0 hC a8 (w64 (i_ + 1)) hl1 (Z3 ++ [Hq c4])
   ·obtain rfl := zk ae
    obtain rfl := hl1
    exact yB X0 hC az () aa [Ha (lnM (eI .i64) a_), Hq c2]
def uT : Code := (Tryd.f27.body).getD .skip
def Xc : yi := spF (α := List (List Int) × List Int) (ρ := List (List Int)) 27 (fun x => [z5I x.1, F7_ x.2]) (fun r => z5I r) (fun x => Xi x.1 x.2) [true, false] (VQ)
abbrev QX (w_ : List Int) (cj : Int) (bj : List (List Int)) : List (Nat × T) := [(0, .own (eOs 1 false F7_ bj)), (1, .d (eSl 1 false (eI .i64) w_)), (5, .d (I cj))]
abbrev QV (w_ : List Int) (cj : Int) (dw : List (List Int)) (i_ : Int) : List (Nat × T) := [(0, .own (eOs 1 false F7_ dw)), (1, .d (eSl 1 false (eI .i64) w_)), (5, .d (I cj)), (8, .d (I i_))]
abbrev QY (l_ : List (List Int)) (w_ : List Int) (cj : Int) : List (Nat × T) := [(0, .own (eOs 1 false F7_ l_)), (1, .d (eSl 1 false (eI .i64) w_)), (5, .d (I cj))]
abbrev QZ (l_ : List (List Int)) (w_ : List Int) (cj : Int) : List (Nat × T) := [(0, .own (eOs 1 false F7_ l_)), (1, .d (eSl 1 false (eI .i64) w_)), (5, .d (I cj))]
abbrev QU (l_ : List (List Int)) (w_ : List Int) (dr : Int) (dz : Int) : List (Nat × T) := [(0, .own (eOs 1 false F7_ l_)), (1, .d (eSl 1 false (eI .i64) w_)), (5, .d (I dr)), (6, .d (I dz))]
def yY : XH Tryd.prog := ((z31 zB (.inr 66) [65]).or ((z31 zB (.inl 44) [43]).or X0))
theorem z1c (hC : zN Tryd.prog ctr) (h09 : ctr.Has uq) : Xc.Ok Tryd.prog := by
 refine zV ?_
 rintro ⟨l_, w_⟩ r0 aa
 try unfold Xi at aa
 refine yO true [(4, none)] uT 68 Tryd.func27 fun E hE => ?_
 refine yJ yY hC uT [1,1,1] [] [0,1,5] (fun z : Int => Zi l_ w_ z = some r0) (fun z => QZ l_ w_ z) [(0, .own (eOs 1 false F7_ l_)), (1, .d (eSl 1 false (eI .i64) w_)), (5, .d (I 0)), (6, .d (I ((l_.length : Nat) : Int)))] [Ha (lnM F7_ l_), Hh (.cut 0)] ?_ fun J1 az => ?_
 ·rintro cj aa
  unfold Zi at aa
  refine yJ yY hC uT [1,1,1,1] [] [0,1,5] (fun z : Unit => uQ l_ w_ cj = some r0) (fun z => QY l_ w_ cj) [(0, .own (eOs 1 false F7_ l_)), (1, .d (eSl 1 false (eI .i64) w_)), (5, .d (I cj))] [Hh (.cut 0)] ?_ fun J2 a8 => ?_
  ·rintro ⟨⟩ aa
   unfold uQ at aa
   obtain ⟨g0, aa⟩ := gdE aa
   refine yJ ((xNb zB 43).or yY) hC uT [1,1,1,1,1,1] [] [0,1,5] (fun z : List (List Int) => Zh w_ cj z = some r0) (fun z => QX w_ cj z) [(0, .own (eOs 1 false F7_ (l_ ++ ([[]] : List (List Int))))), (1, .d (eSl 1 false (eI .i64) w_)), (5, .d (I cj))] [Hm (shM F6_ F7_ ([[]])), Hn (dM F7_ ([[]] : List (List Int))), Hn (aL F7_ F7_ g0), Hl (aM F7_ l_ ([[]] : List (List Int))), Hh (.cut 0)] ?_ fun J3 cd => ?_
   ·rintro bj aa
    unfold Zh at aa
    obtain ⟨g1, aa⟩ := gdE aa
    obtain ⟨ba, h0, aa⟩ := zn aa
    obtain rfl := zk aa
    exact yE yY hC hE [Hn (dM (eI .i64) w_), Hn (aL (eI .i64) (eI .i64) g1), Hl (aM0 (eI .i64) w_), Hn (iL F7_ h0), Hm (shM (eI .i64) (eI .i64) w_), Hs (iM F7_ h0), Hs (iM F7_ h0), Hl (sM F7_ bj cj w_)]
   ·obtain ⟨t4, ht4, aa⟩ := zn aa
    refine yL yY hC uT [1,1,1,1,1,1,2,1,0] [J3] (fun s => jl cj s.1 s.2) (fun x => QV w_ cj x.1 x.2) ((l_ ++ ([[]] : List (List Int))), w64 ((((l_ ++ ([[]] : List (List Int))).length : Nat) : Int) - 1)) ht4  [Ha (lnM F7_ (l_ ++ ([[]] : List (List Int))))] ?_
    rintro ⟨dw, i_⟩ m4 bl ae hl1 J4 ep
    try unfold jl at ae
    rcases yb ae with ⟨c0, ae⟩ | ⟨c0, ae⟩
    ·obtain ⟨cg, h1, ae⟩ := zn ae
     obtain ⟨ik, h2, ae⟩ := zn ae
     obtain rfl := zk ae
     exact yB yY hC ep ((dw.set i_.toNat cg), w64 (i_ - 1)) hl1 [Hq c0, Hn (iL F7_ h1), Hs (iM F7_ h1), Hn (iL F7_ h2), Hs (iM F7_ h2), Hs (iM F7_ h2), Hl (sM F7_ dw i_ cg)]
    ·obtain rfl := zk ae
     obtain rfl := hl1
     exact yB yY hC cd dw aa [Hq c0]
  ·let Z0 : List HO := [Ha (lnM F7_ l_)]
   rcases yb aa with ⟨c1, aa⟩ | ⟨c1, aa⟩
   ·obtain ⟨fy, h3, aa⟩ := zn aa
    obtain ⟨r_, h4, aa⟩ := zn aa
    let Z1 : List HO := (Z0 ++ [Hq c1, Hq c1, Hq c1, Hn (iL F7_ h3), Hq c1, Hs (iM F7_ h3), Hq c1, Hq c1, Hc h09 (x := (fy, w_)) h4 (loC F7_ fy <| loC F7_ w_ <| loN), Hq c1, Hq c1])
    rcases yb aa with ⟨c2, aa⟩ | ⟨c2, aa⟩
    ·obtain rfl := zk aa
     exact yE yY hC hE (Z1 ++ [Hq c2])
    ·exact yB yY hC a8 () aa (Z1 ++ [Hq c2])
   ·exact yB yY hC a8 () aa (Z0 ++ (rpN 8 (Hq c1) [qF]))
 ·obtain ⟨t5, ht5, aa⟩ := zn aa
  refine yL yY hC uT [1,1,1,2,0] [J1] (fun s => jk l_ w_ s.1 s.2) (fun x => QU l_ w_ x.1 x.2) (0, ((l_.length : Nat) : Int)) ht5  [] ?_
  rintro ⟨dr, dz⟩ m5 bl ae hl1 J5 dy
  try unfold jk at ae
  rcases yb ae with ⟨c3, ae⟩ | ⟨c3, ae⟩
  ·obtain ⟨g2, ae⟩ := gdE ae
   obtain ⟨fz, h5, ae⟩ := zn ae
   obtain ⟨ah, h6, ae⟩ := zn ae
   let Z2 : List HO := [Hq c3, Hn g2, Hn (iL F7_ h5), Hs (iM F7_ h5), Hc h09 (x := (fz, w_)) h6 (loC F7_ fz <| loC F7_ w_ <| loN)]
   rcases yb ae with ⟨c4, ae⟩ | ⟨c4, ae⟩
   ·obtain rfl := zk ae
    exact yB yY hC dy (w64 ((w64 (Int.tdiv (w64 (dr + dz)) 2)) + 1), dz) hl1 (Z2 ++ [Hq c4])
   ·obtain rfl := zk ae
    exact yB yY hC dy (dr, w64 (Int.tdiv (w64 (dr + dz)) 2)) hl1 (Z2 ++ [Hq c4])
  ·obtain rfl := zk ae
   obtain rfl := hl1
   exact yB yY hC az dr aa [Hq c3]
def Yz : Code := (Tryd.f9.body).getD .skip
def jS : yi := spF (α := List (List Int)) (ρ := List (List Int)) 9 (fun x => [YK x]) (fun r => z5I r) (fun x => kh x) [] (Jl)
abbrev Uj (out : List (List Int)) : List (Nat × T) := [(3, .own (eOs 1 false F7_ out))]
abbrev Ui (l_ : List (List Int)) (aj : List (List Int)) (i_ : Int) : List (Nat × T) := [(0, .d (eSl 1 false F7_ l_)), (3, .own (eOs 1 false F7_ aj)), (4, .d (I i_))]
theorem z03 (hC : zN Tryd.prog ctr) (h0r : ctr.Has Xc) : jS.Ok Tryd.prog := by
 refine zV ?_
 rintro l_ r0 aa
 try unfold kh at aa
 refine yO true [(2, none)] Yz 18 Tryd.func9 fun E hE => ?_
 refine yJ X0 hC Yz [1,1] [] [3] (fun z : List (List Int) => Yk z = some r0) (fun z => Uj z) [(0, .d (eSl 1 false F7_ l_)), (3, .own (eOs 1 true F7_ []))] [Hh (.cut 2)] ?_ fun J1 az => ?_
 ·rintro out aa
  unfold Yk at aa
  obtain rfl := zk aa
  exact yE X0 hC hE []
 ·obtain ⟨t2, ht2, aa⟩ := zn aa
  refine yLx X0 hC Yz [1,1,2,1,0] [J1] (fun s => wI l_ s.1 s.2) (fun x => Ui l_ x.1 x.2) (([] : List (List Int)), 0) ht2 [(0, .d (eSl 1 false F7_ l_)), (3, .own (eOs 1 true F7_ [])), (4, .d (I 0))] inferInstance [] ?_
  rintro ⟨aj, i_⟩ m2 bl ae hl1 J2 a8
  try unfold wI at ae
  let Z0 : List HO := [Ha (lnM F7_ l_)]
  rcases yb ae with ⟨c0, ae⟩ | ⟨c0, ae⟩
  ·obtain ⟨ba, h0, ae⟩ := zn ae
   obtain ⟨r_, h1, ae⟩ := zn ae
   obtain rfl := zk ae
   exact yB X0 hC a8 (r_, w64 (i_ + 1)) hl1 (Z0 ++ [Hq c0, Hi F7_ h0, Hc h0r (x := (aj, ba)) h1 (loC z5I aj <| loC F7_ ba <| loN)])
  ·obtain rfl := zk ae
   obtain rfl := hl1
   exact yB X0 hC az aj aa (Z0 ++ [Hq c0])
def YC : Code := (Tryd.f6.body).getD .skip
def Yd : yi := spF (α := wo) (ρ := z7 × List (List Int)) 6 (fun x => [(uk Jt (eSl 1 false F1_)) x]) (fun r => .tup [yT r.1, YK r.2]) (fun x => ZS x) [] (Jl)
abbrev Up (r_ : z7) (l_ : List (List Int)) : List (Nat × T) := [(2, .own (.box (.agg [I 0, I 0, eOs 1 true uh []]))), (4, .own (.box (yT r_))), (5, .own (eOs 1 false F6_ l_))]
abbrev Uo (x_ : wo) (r_ : z7) (bj : List (List Int)) (i_ : Int) : List (Nat × T) := [(1, .own (.box (.agg [Jt x_.M, eSl 1 false F1_ x_.L]))), (2, .own (.box (.agg [I 0, I 0, eOs 1 true uh []]))), (4, .own (.box (yT r_))), (5, .own (eOs 1 false F6_ bj)), (6, .d (I i_))]
theorem z07 (hC : zN Tryd.prog ctr) (h0s : ctr.Has Yf) (h0t : ctr.Has Ye) (h07 : ctr.Has jS) : Yd.Ok Tryd.prog := by
 refine zV ?_
 rintro x_ r0 aa
 try unfold ZS at aa
 refine yO false [(2, some 30), (3, none)] YC 35 Tryd.func6 fun E hE => ?_
 obtain ⟨r_, h0, aa⟩ := zn aa
 refine yJ X0 hC YC [1,1,1] [] [2,4,5] (fun z : List (List Int) => jX r_ z = some r0) (fun z => Up r_ z) [(1, .own (.box (.agg [Jt x_.M, eSl 1 false F1_ x_.L]))), (2, .own (.box (.agg [I 0, I 0, eOs 1 true uh []]))), (4, .own (.box (yT r_))), (5, .own (eOs 1 true F7_ []))] [Hc h0s (x := x_.M) h0 (loC Jt x_.M <| loN), Hh (.cut 1)] ?_ fun J1 az => ?_
 ·rintro l_ aa
  unfold jX at aa
  obtain ⟨ah, h1, aa⟩ := zn aa
  obtain rfl := zk aa
  exact yE X0 hC hE [Hg (J8 h07), Hm (shM F6_ F7_ l_), Hs (J9 h07 (x := l_) h1 (loC YK l_ <| loN)), Hm (shM F6_ F7_ l_), Hm (shM F7_ F7_ ah)]
 ·obtain ⟨t2, ht2, aa⟩ := zn aa
  refine yLx X0 hC YC [1,1,1,2,1,0] [J1] (fun s => jW x_ r_ s.1 s.2) (fun x => Uo x_ r_ x.1 x.2) (([] : List (List Int)), 0) ht2 [(1, .own (.box (.agg [Jt x_.M, eSl 1 false F1_ x_.L]))), (2, .own (.box (.agg [I 0, I 0, eOs 1 true uh []]))), (4, .own (.box (yT r_))), (5, .own (eOs 1 true F6_ [])), (6, .d (I 0))] inferInstance [] ?_
  rintro ⟨bj, i_⟩ m2 bl ae hl1 J2 a8
  try unfold jW at ae
  let Z0 : List HO := [Ha (lnM F1_ x_.L)]
  rcases yb ae with ⟨c0, ae⟩ | ⟨c0, ae⟩
  ·rcases yb ae with ⟨c1, ae⟩ | ⟨c1, ae⟩
   ·obtain ⟨ic, h2, ae⟩ := zn ae
    obtain ⟨al, h3, ae⟩ := zn ae
    obtain ⟨g0, ae⟩ := gdE ae
    obtain rfl := zk ae
    exact yB X0 hC a8 ((bj ++ ([al] : List (List Int))), w64 (i_ + 1)) hl1 (Z0 ++ [Hq c0, Hq c0, Hq c0, Hq c1, Hi F1_ h2, Hc h0t (x := (ic, r_.Inputs, 8)) h3 (loC F1_ ic <| loC (eI .i64) r_.Inputs <| loC (eI .i64) 8 <| loN), Hq (oC F6_ al []), Hn (aL F6_ F6_ g0), Hl (aM F6_ bj ([al] : List (List Int)))])
   ·obtain rfl := zk ae
    obtain rfl := hl1
    exact yB X0 hC az bj aa (Z0 ++ [Hq c0, Hq c0, Hq c0, Hq c1])
  ·obtain rfl := zk ae
   obtain rfl := hl1
   exact yB X0 hC az bj aa (Z0 ++ [Hq c0, Hq c0, Hq c0, qF])
def Uf : Code := (Tryd.f74.body).getD .skip
def jA : yi := spF (α := Unit) (ρ := zc) 74 (fun x => []) (fun r => F9_ r) (fun x => jV) [] (fun _ _ _ => rfl)
theorem UT (hC : zN Tryd.prog ctr) : jA.Ok Tryd.prog := by
 refine zV ?_
 rintro ⟨⟩ r0 aa
 try unfold jV at aa
 refine yO false [(0, some 81)] Uf 2 Tryd.func74 fun E hE => ?_
 obtain rfl := zk aa
 exact yE X0 hC hE []
def Ug : Code := (Tryd.f60.body).getD .skip
def jB : yi := spF (α := z7 × zc) (ρ := Bool) 60 (fun x => [yT x.1, F9_ x.2]) (fun r => eB r) (fun x => qe x.1 x.2) [] (VQ)
theorem UU (hC : zN Tryd.prog ctr) (h0u : ctr.Has jA) : jB.Ok Tryd.prog := by
 refine zV ?_
 rintro ⟨m_, x_⟩ r0 aa
 try unfold qe at aa
 refine yO true [(4, none)] Ug 33 Tryd.func60 fun E hE => ?_
 obtain ⟨r_, h0, aa⟩ := zn aa
 let Z0 : List HO := [Hc h0u (x := ()) h0 (loN)]
 rcases yb aa with ⟨c0, aa⟩ | ⟨c0, aa⟩
 ·obtain rfl := zk aa
  exact yE X0 hC hE (Z0 ++ (rpN 10 (Hq c0) []))
 ·let Z1 : List HO := (Z0 ++ (rpN 4 (Hq c0) []))
  rcases yb aa with ⟨c1, aa⟩ | ⟨c1, aa⟩
  ·let Z2 : List HO := (Z1 ++ (rpN 5 (Hq c1) [Ha (lnM uh m_.Rows), Hq c1, Hq c0, Hq c1, Hq c0]))
   rcases yb aa with ⟨c2, aa⟩ | ⟨c2, aa⟩
   ·let Z3 : List HO := (Z2 ++ [Hq c2, Hq c2, Hq c2, Hq c0, Hq c2, Hq c0])
    rcases yb aa with ⟨c3, aa⟩ | ⟨c3, aa⟩
    ·obtain rfl := zk aa
     exact yE X0 hC hE (Z3 ++ (rpN 5 (Hq c3) [Hq c0, Hq c3, Hq c0]))
    ·obtain rfl := zk aa
     exact yE X0 hC hE (Z3 ++ (rpN 5 (Hq c3) [Hq c0, Hq c3, Hq c0]))
   ·obtain rfl := zk aa
    exact yE X0 hC hE (Z2 ++ (Hq c2 :: Hq c2 :: Hq c2 :: Hq c0 :: Hq c2 :: Hq c0 :: (rpN 5 qF [Hq c0, qF, Hq c0])))
  ·obtain rfl := zk aa
   exact yE X0 hC hE (Z1 ++ (rpN 6 (Hq c1) (Hq c0 :: Hq c1 :: Hq c0 :: qF :: qF :: qF :: Hq c0 :: qF :: Hq c0 :: (rpN 5 qF [Hq c0, qF, Hq c0]))))
def Wh : Code := (Tryd.f59.body).getD .skip
def uA : yi := spF (α := zc × z7) (ρ := Bool) 59 (fun x => [F9_ x.1, z7E x.2]) (fun r => eB r) (fun x => uu x.1 x.2) [] (VQ)
theorem Wy (hC : zN Tryd.prog ctr) (h0v : ctr.Has jB) : uA.Ok Tryd.prog := by
 refine zV ?_
 rintro ⟨x_, x1⟩ r0 aa
 try unfold uu at aa
 refine yO true [(3, none)] Wh 8 Tryd.func59 fun E hE => ?_
 obtain ⟨r_, h0, aa⟩ := zn aa
 obtain rfl := zk aa
 exact yE X0 hC hE [Hc h0v (x := (x1, x_)) h0 (loC yT x1 <| loC F9_ x_ <| loN)]
def yq : Code := (Tryd.f73.body).getD .skip
def yo : yi := spF (α := List zc × z7) (ρ := Int) 73 (fun x => [uh x.1, (z0Z 59 z7E) x.2]) (fun r => (eI .i64) r) (fun x => ye x.1 x.2) [] (by
 rintro ⟨a0, a1⟩ ⟨b0, b1⟩ h
 have e0 := uW.inj (f := uh) _ _ (List.cons.inj h).1
 replace h := (List.cons.inj h).2
 have e1 := uW.inj (f := (z0Z 59 z7E)) _ _ (List.cons.inj h).1
 subst e0 e1
 rfl)
abbrev vT : List (Nat × T) := []
abbrev vS (s_ : List zc) (f_ : z7) (x8 : Int) : List (Nat × T) := [(0, .d (eSl 2 false F9_ s_)), (1, .d (.fn 59 [.sptr (.agg [I f_.Inputs, I f_.Outputs, eSl 1 false uh f_.Rows])])), (7, .d (I ((s_.length : Nat) : Int))), (8, .d (I x8))]
theorem ui (hC : zN Tryd.prog ctr) (h0w : ctr.Has uA) : yo.Ok Tryd.prog := by
 refine zV ?_
 rintro ⟨s_, f_⟩ r0 aa
 try unfold ye at aa
 refine yO true [(4, none)] yq 19 Tryd.func73 fun E hE => ?_
 refine yJ X0 hC yq [1] [] [] (fun z : Unit => yp = some r0) (fun z => vT) [(0, .d (eSl 2 false F9_ s_)), (1, .d (.fn 59 [.sptr (.agg [I f_.Inputs, I f_.Outputs, eSl 1 false uh f_.Rows])]))] [Hh (.cut 1)] ?_ fun J1 az => ?_
 ·rintro ⟨⟩ aa
  unfold yp at aa
  obtain rfl := zk aa
  exact yE X0 hC hE []
 ·obtain ⟨t2, ht2, aa⟩ := zn aa
  refine yL X0 hC yq [1,2,1,0] [J1] (fun s => zM s_ f_ s) (fun x => vS s_ f_ x) 0 ht2  [Ha (lnM F9_ s_)] ?_
  rintro x8 m2 bl ae hl1 J2 a8
  try unfold zM at ae
  rcases yb ae with ⟨c0, ae⟩ | ⟨c0, ae⟩
  ·obtain ⟨dh, h0, ae⟩ := zn ae
   obtain ⟨r_, h1, ae⟩ := zn ae
   let Z0 : List HO := [Hq c0, Hi F9_ h0, Hc h0w (x := (dh, f_)) h1 (loC F9_ dh <| loC z7E f_ <| loN)]
   rcases yb ae with ⟨c1, ae⟩ | ⟨c1, ae⟩
   ·obtain rfl := zk ae
    obtain rfl := hl1
    obtain rfl := zk aa
    exact yE X0 hC hE (Z0 ++ [Hq c1])
   ·obtain rfl := zk ae
    exact yB X0 hC a8 (w64 (x8 + 1)) hl1 (Z0 ++ [Hq c1])
  ·obtain rfl := zk ae
   obtain rfl := hl1
   exact yB X0 hC az () aa [Hq c0]
def vR : Code := (Tryd.f58.body).getD .skip
def yj : yi := spF (α := List zc × z7) (ρ := Bool) 58 (fun x => [uh x.1, (z0Z 59 z7E) x.2]) (fun r => eB r) (fun x => zU x.1 x.2) [] (by
 rintro ⟨a0, a1⟩ ⟨b0, b1⟩ h
 have e0 := uW.inj (f := uh) _ _ (List.cons.inj h).1
 replace h := (List.cons.inj h).2
 have e1 := uW.inj (f := (z0Z 59 z7E)) _ _ (List.cons.inj h).1
 subst e0 e1
 rfl)
theorem vU (hC : zN Tryd.prog ctr) (h0x : ctr.Has yo) : yj.Ok Tryd.prog := by
 refine zV ?_
 rintro ⟨s_, f_⟩ r0 aa
 try unfold zU at aa
 refine yO true [(4, none)] vR 9 Tryd.func58 fun E hE => ?_
 obtain ⟨r_, h0, aa⟩ := zn aa
 obtain rfl := zk aa
 exact yE X0 hC hE [Hc h0x (x := (s_, f_)) h0 (loC uh s_ <| loC (z0Z 59 z7E) f_ <| loN)]
def j6 : Code := (Tryd.f42.body).getD .skip
def vY : yi := spF (α := z7) (ρ := Int) 42 (fun x => [yT x]) (fun r => (eI .i64) r) (fun x => vG x) [] (Jl)
abbrev XR : List (Nat × T) := []
abbrev XQ (m_ : z7) (gh : Int) : List (Nat × T) := [(1, .d (.sptr (yT m_))), (34, .d (eSl 1 false uh m_.Rows)), (35, .d (I ((m_.Rows.length : Nat) : Int))), (36, .d (I gh))]
theorem VZ (hC : zN Tryd.prog ctr) (h0y : ctr.Has yj) : vY.Ok Tryd.prog := by
 refine zV ?_
 rintro m_ r0 aa
 try unfold vG at aa
 refine yO true [(2, none)] j6 51 Tryd.func42 fun E hE => ?_
 rcases yb aa with ⟨c0, aa⟩ | ⟨c0, aa⟩
 ·obtain rfl := zk aa
  exact yE X0 hC hE (rpN 4 (Hq c0) (rpN 6 qT []))
 ·let Z0 : List HO := (rpN 4 (Hq c0) [])
  rcases yb aa with ⟨c1, aa⟩ | ⟨c1, aa⟩
  ·obtain rfl := zk aa
   exact yE X0 hC hE (Z0 ++ (rpN 5 (Hq c1) [qT]))
  ·let Z1 : List HO := (Z0 ++ [Hq c1, Hq c1, Hq c1, Ha (lnM uh m_.Rows), Hq c1, Hq c1])
   rcases yb aa with ⟨c2, aa⟩ | ⟨c2, aa⟩
   ·obtain rfl := zk aa
    exact yE X0 hC hE (Z1 ++ [Hq c2])
   ·rcases yb aa with ⟨c3, aa⟩ | ⟨c3, aa⟩
    ·obtain rfl := zk aa
     exact yE X0 hC hE (Z1 ++ (Hq c2 :: (rpN 4 (Hq c3) (rpN 6 qT []))))
    ·let Z2 : List HO := (Z1 ++ (Hq c2 :: (rpN 4 (Hq c3) [])))
     rcases yb aa with ⟨c4, aa⟩ | ⟨c4, aa⟩
     ·obtain rfl := zk aa
      exact yE X0 hC hE (Z2 ++ (rpN 5 (Hq c4) [qT]))
     ·let Z3 : List HO := (Z2 ++ [Hq c4, Hq c4, Hq c4, Ha (lnM uh m_.Rows), Hq c4, Hq c4])
      rcases yb aa with ⟨c5, aa⟩ | ⟨c5, aa⟩
      ·obtain rfl := zk aa
       exact yE X0 hC hE (Z3 ++ [Hq c5])
      ·refine yJ X0 hC j6 [1,1,1] [] [] (fun z : Unit => qW = some r0) (fun z => XR) [(1, .own (.box (yT m_)))] (Z3 ++ [Hq c5, Hh (.cut 0)]) ?_ fun J1 az => ?_
       ·rintro ⟨⟩ aa
        unfold qW at aa
        obtain rfl := zk aa
        exact yE X0 hC hE []
       ·obtain ⟨t2, ht2, aa⟩ := zn aa
        refine yL X0 hC j6 [1,1,1,2,1,0] [J1] (fun s => w6 m_ s) (fun x => XQ m_ x) 0 ht2  [Ha (lnM uh m_.Rows), Hh (.n 1 [1])] ?_
        rintro gh m2 bl ae hl1 J2 a8
        try unfold w6 at ae
        rcases yb ae with ⟨c6, ae⟩ | ⟨c6, ae⟩
        ·obtain ⟨ar, h0, ae⟩ := zn ae
         let Z4 : List HO := [Hq c6, Hi uh h0, Ha (lnM F9_ ar)]
         rcases yb ae with ⟨c7, ae⟩ | ⟨c7, ae⟩
         ·obtain rfl := zk ae
          obtain rfl := hl1
          obtain rfl := zk aa
          exact yE X0 hC hE (Z4 ++ (rpN 4 (Hq c7) [qT]))
         ·obtain ⟨r_, h1, ae⟩ := zn ae
          let Z5 : List HO := (Z4 ++ [Hq c7, Hq c7, Hq c7, Hc h0y (x := (ar, m_)) h1 (loC uh ar <| loC (z0Z 59 z7E) m_ <| loN), Hq c7])
          rcases yb ae with ⟨c8, ae⟩ | ⟨c8, ae⟩
          ·obtain rfl := zk ae
           obtain rfl := hl1
           obtain rfl := zk aa
           exact yE X0 hC hE (Z5 ++ [Hq c8])
          ·obtain rfl := zk ae
           exact yB X0 hC a8 (w64 (gh + 1)) hl1 (Z5 ++ [Hq c8])
        ·obtain rfl := zk ae
         obtain rfl := hl1
         exact yB X0 hC az () aa [Hq c6]
def Ue : Code := (Tryd.f77.body).getD .skip
def jy : yi := spF (α := Int × Int) (ρ := Bool) 77 (fun x => [(eI .i64) x.1, (eSp (eI .i64)) x.2]) (fun r => eB r) (fun x => jN x.1 x.2) [] (VQ)
theorem UQ (hC : zN Tryd.prog ctr) : jy.Ok Tryd.prog := by
 refine zV ?_
 rintro ⟨c_, x1⟩ r0 aa
 try unfold jN at aa
 refine yO true [(3, none)] Ue 11 Tryd.func77 fun E hE => ?_
 rcases yb aa with ⟨c0, aa⟩ | ⟨c0, aa⟩
 ·obtain rfl := zk aa
  exact yE X0 hC hE (rpN 4 (Hq c0) [])
 ·obtain rfl := zk aa
  exact yE X0 hC hE (rpN 4 (Hq c0) [])
def wn : Code := (Tryd.f88.body).getD .skip
def w9 : yi := spF (α := List Int × Int) (ρ := Int) 88 (fun x => [F7_ x.1, (z0Z 77 (eSp (eI .i64))) x.2]) (fun r => (eI .i64) r) (fun x => xM x.1 x.2) [] (by
 rintro ⟨a0, a1⟩ ⟨b0, b1⟩ h
 have e0 := uW.inj (f := F7_) _ _ (List.cons.inj h).1
 replace h := (List.cons.inj h).2
 have e1 := uW.inj (f := (z0Z 77 (eSp (eI .i64)))) _ _ (List.cons.inj h).1
 subst e0 e1
 rfl)
abbrev jq : List (Nat × T) := []
abbrev jp (s_ : List Int) (f_ : Int) (x8 : Int) : List (Nat × T) := [(0, .d (eSl 1 false (eI .i64) s_)), (1, .d (.fn 77 [.sptr (I f_)])), (7, .d (I ((s_.length : Nat) : Int))), (8, .d (I x8))]
theorem kZ (hC : zN Tryd.prog ctr) (h0z : ctr.Has jy) : w9.Ok Tryd.prog := by
 refine zV ?_
 rintro ⟨s_, f_⟩ r0 aa
 try unfold xM at aa
 refine yO true [(4, none)] wn 19 Tryd.func88 fun E hE => ?_
 refine yJ X0 hC wn [1] [] [] (fun z : Unit => wb = some r0) (fun z => jq) [(0, .d (eSl 1 false (eI .i64) s_)), (1, .d (.fn 77 [.sptr (I f_)]))] [Hh (.cut 1)] ?_ fun J1 az => ?_
 ·rintro ⟨⟩ aa
  unfold wb at aa
  obtain rfl := zk aa
  exact yE X0 hC hE []
 ·obtain ⟨t2, ht2, aa⟩ := zn aa
  refine yL X0 hC wn [1,2,1,0] [J1] (fun s => y8 s_ f_ s) (fun x => jp s_ f_ x) 0 ht2  [Ha (lnM (eI .i64) s_)] ?_
  rintro x8 m2 bl ae hl1 J2 a8
  try unfold y8 at ae
  rcases yb ae with ⟨c0, ae⟩ | ⟨c0, ae⟩
  ·obtain ⟨dh, h0, ae⟩ := zn ae
   obtain ⟨r_, h1, ae⟩ := zn ae
   let Z0 : List HO := [Hq c0, Hi (eI .i64) h0, Hc h0z (x := (dh, f_)) h1 (loC (eI .i64) dh <| loC (eSp (eI .i64)) f_ <| loN)]
   rcases yb ae with ⟨c1, ae⟩ | ⟨c1, ae⟩
   ·obtain rfl := zk ae
    obtain rfl := hl1
    obtain rfl := zk aa
    exact yE X0 hC hE (Z0 ++ [Hq c1])
   ·obtain rfl := zk ae
    exact yB X0 hC a8 (w64 (x8 + 1)) hl1 (Z0 ++ [Hq c1])
  ·obtain rfl := zk ae
   obtain rfl := hl1
   exact yB X0 hC az () aa [Hq c0]
def jo : Code := (Tryd.f76.body).getD .skip
def xx : yi := spF (α := List Int × Int) (ρ := Bool) 76 (fun x => [F7_ x.1, (z0Z 77 (eSp (eI .i64))) x.2]) (fun r => eB r) (fun x => yU x.1 x.2) [] (by
 rintro ⟨a0, a1⟩ ⟨b0, b1⟩ h
 have e0 := uW.inj (f := F7_) _ _ (List.cons.inj h).1
 replace h := (List.cons.inj h).2
 have e1 := uW.inj (f := (z0Z 77 (eSp (eI .i64)))) _ _ (List.cons.inj h).1
 subst e0 e1
 rfl)
theorem jw (hC : zN Tryd.prog ctr) (h0A : ctr.Has w9) : xx.Ok Tryd.prog := by
 refine zV ?_
 rintro ⟨s_, f_⟩ r0 aa
 try unfold yU at aa
 refine yO true [(4, none)] jo 9 Tryd.func76 fun E hE => ?_
 obtain ⟨r_, h0, aa⟩ := zn aa
 obtain rfl := zk aa
 exact yE X0 hC hE [Hc h0A (x := (s_, f_)) h0 (loC F7_ s_ <| loC (z0Z 77 (eSp (eI .i64))) f_ <| loN)]
def Jn : Code := (Tryd.f65.body).getD .skip
def Zo : yi := spF (α := List Int × Int) (ρ := Int) 65 (fun x => [F7_ x.1, (eI .i64) x.2]) (fun r => (eI .i64) r) (fun x => qL x.1 x.2) [] (VQ)
theorem K3 (hC : zN Tryd.prog ctr) (h0B : ctr.Has xx) : Zo.Ok Tryd.prog := by
 refine zV ?_
 rintro ⟨w_, inputs⟩ r0 aa
 try unfold qL at aa
 refine yO true [(4, none)] Jn 19 Tryd.func65 fun E hE => ?_
 rcases yb aa with ⟨c0, aa⟩ | ⟨c0, aa⟩
 ·obtain rfl := zk aa
  exact yE X0 hC hE (rpN 4 (Hq c0) [qT])
 ·let Z0 : List HO := [Hq c0, Hq c0, Ha (lnM (eI .i64) w_), Hq c0, Hq c0]
  rcases yb aa with ⟨c1, aa⟩ | ⟨c1, aa⟩
  ·obtain rfl := zk aa
   exact yE X0 hC hE (Z0 ++ [Hq c1])
  ·rcases yb aa with ⟨c2, aa⟩ | ⟨c2, aa⟩
   ·obtain rfl := zk aa
    exact yE X0 hC hE (Z0 ++ (Hq c1 :: (rpN 4 (Hq c2) [qT])))
   ·obtain ⟨r_, h0, aa⟩ := zn aa
    let Z1 : List HO := (Z0 ++ [Hq c1, Hq c2, Hq c2, Hq c2, Hc h0B (x := (w_, inputs)) h0 (loC F7_ w_ <| loC (z0Z 77 (eSp (eI .i64))) inputs <| loN), Hq c2])
    rcases yb aa with ⟨c3, aa⟩ | ⟨c3, aa⟩
    ·obtain rfl := zk aa
     exact yE X0 hC hE (Z1 ++ [Hq c3])
    ·obtain rfl := zk aa
     exact yE X0 hC hE (Z1 ++ [Hq c3])
def Zz : Code := (Tryd.f50.body).getD .skip
def je : yi := spF (α := List (List Int) × Int) (ρ := Int) 50 (fun x => [YK x.1, (eI .i64) x.2]) (fun r => (eI .i64) r) (fun x => qO x.1 x.2) [] (VQ)
abbrev Vz : List (Nat × T) := []
abbrev Vy (l_ : List (List Int)) (inputs : Int) (gi : Int) : List (Nat × T) := [(1, .d (I inputs)), (17, .d (eSl 1 false F7_ l_)), (18, .d (I ((l_.length : Nat) : Int))), (19, .d (I gi))]
theorem K6 (hC : zN Tryd.prog ctr) (h0C : ctr.Has Zo) : je.Ok Tryd.prog := by
 refine zV ?_
 rintro ⟨l_, inputs⟩ r0 aa
 try unfold qO at aa
 refine yO true [(4, none)] Zz 30 Tryd.func50 fun E hE => ?_
 rcases yb aa with ⟨c0, aa⟩ | ⟨c0, aa⟩
 ·obtain rfl := zk aa
  exact yE X0 hC hE (rpN 4 (Hq c0) [qT])
 ·let Z0 : List HO := [Hq c0, Hq c0, Ha (lnM F7_ l_), Hq c0, Hq c0]
  rcases yb aa with ⟨c1, aa⟩ | ⟨c1, aa⟩
  ·obtain rfl := zk aa
   exact yE X0 hC hE (Z0 ++ [Hq c1])
  ·rcases yb aa with ⟨c2, aa⟩ | ⟨c2, aa⟩
   ·obtain rfl := zk aa
    exact yE X0 hC hE (Z0 ++ [Hq c1, Hq c2])
   ·refine yJ X0 hC Zz [1,1,1] [] [] (fun z : Unit => Zn = some r0) (fun z => Vz) [(0, .d (eSl 1 false F7_ l_)), (1, .d (I inputs))] (Z0 ++ [Hq c1, Hq c2, Hh (.cut 0)]) ?_ fun J1 az => ?_
    ·rintro ⟨⟩ aa
     unfold Zn at aa
     obtain rfl := zk aa
     exact yE X0 hC hE []
    ·obtain ⟨t2, ht2, aa⟩ := zn aa
     refine yL X0 hC Zz [1,1,1,2,1,0] [J1] (fun s => vE l_ inputs s) (fun x => Vy l_ inputs x) 0 ht2  [Ha (lnM F7_ l_)] ?_
     rintro gi m2 bl ae hl1 J2 a8
     try unfold vE at ae
     rcases yb ae with ⟨c3, ae⟩ | ⟨c3, ae⟩
     ·obtain ⟨ba, h0, ae⟩ := zn ae
      obtain ⟨r_, h1, ae⟩ := zn ae
      let Z1 : List HO := [Hq c3, Hi F7_ h0, Hc h0C (x := (ba, inputs)) h1 (loC F7_ ba <| loC (eI .i64) inputs <| loN)]
      rcases yb ae with ⟨c4, ae⟩ | ⟨c4, ae⟩
      ·obtain rfl := zk ae
       obtain rfl := hl1
       obtain rfl := zk aa
       exact yE X0 hC hE (Z1 ++ [Hq c4])
      ·obtain rfl := zk ae
       exact yB X0 hC a8 (w64 (gi + 1)) hl1 (Z1 ++ [Hq c4])
     ·obtain rfl := zk ae
      obtain rfl := hl1
      exact yB X0 hC az () aa [Hq c3]
def Uh : Code := (Tryd.f99.body).getD .skip
def jC : yi := spF (α := Int) (ρ := Bool) 99 (fun x => [(eI .i64) x]) (fun r => eB r) (fun x => qp x) [] (Jl)
theorem UW (hC : zN Tryd.prog ctr) : jC.Ok Tryd.prog := by
 refine zV ?_
 rintro x_ r0 aa
 try unfold qp at aa
 refine yO true [(2, none)] Uh 6 Tryd.func99 fun E hE => ?_
 obtain rfl := zk aa
 exact yE X0 hC hE []
def WW : Code := (Tryd.f81.body).getD .skip
def vN : yi := spF (α := Int × Int) (ρ := Int) 81 (fun x => [(eI .i64) x.1, (eI .i64) x.2]) (fun r => (eI .i64) r) (fun x => va x.1 x.2) [] (VQ)
theorem V9 (hC : zN Tryd.prog ctr) (h0k : ctr.Has jC) : vN.Ok Tryd.prog := by
 refine zV ?_
 rintro ⟨x_, y_⟩ r0 aa
 try unfold va at aa
 refine yO true [(4, none)] WW 20 Tryd.func81 fun E hE => ?_
 obtain ⟨r_, h0, aa⟩ := zn aa
 obtain ⟨ah, h1, aa⟩ := zn aa
 let Z0 : List HO := [Hc h0k (x := x_) h0 (loC (eI .i64) x_ <| loN), Hc h0k (x := y_) h1 (loC (eI .i64) y_ <| loN)]
 rcases yb aa with ⟨c0, aa⟩ | ⟨c0, aa⟩
 ·rcases yb aa with ⟨c1, aa⟩ | ⟨c1, aa⟩
  ·obtain rfl := zk aa
   exact yE X0 hC hE (Z0 ++ [Hq c0, Hq c1])
  ·obtain rfl := zk aa
   exact yE X0 hC hE (Z0 ++ [Hq c0, Hq c1])
 ·rcases yb aa with ⟨c2, aa⟩ | ⟨c2, aa⟩
  ·obtain rfl := zk aa
   exact yE X0 hC hE (Z0 ++ [Hq c0, Hq c2])
  ·rcases yb aa with ⟨c3, aa⟩ | ⟨c3, aa⟩
   ·obtain rfl := zk aa
    exact yE X0 hC hE (Z0 ++ [Hq c0, Hq c2, Hq c3])
   ·rcases yb aa with ⟨c4, aa⟩ | ⟨c4, aa⟩
    ·obtain rfl := zk aa
     exact yE X0 hC hE (Z0 ++ [Hq c0, Hq c2, Hq c3, Hq c4])
    ·obtain rfl := zk aa
     exact yE X0 hC hE (Z0 ++ [Hq c0, Hq c2, Hq c3, Hq c4])
def wS : Code := (Tryd.f82.body).getD .skip
def wO : yi := spF (α := List Int × List Int) (ρ := Int) 82 (fun x => [F7_ x.1, F7_ x.2]) (fun r => (eI .i64) r) (fun x => xh x.1 x.2) [] (VQ)
abbrev kg (s1 : List Int) (s2 : List Int) : List (Nat × T) := [(0, .d (eSl 1 false (eI .i64) s1)), (1, .d (eSl 1 false (eI .i64) s2))]
abbrev ke (s1 : List Int) (s2 : List Int) (dt : Int) : List (Nat × T) := [(0, .d (eSl 1 false (eI .i64) s1)), (1, .d (eSl 1 false (eI .i64) s2)), (9, .d (eSl 1 false (eI .i64) s1)), (10, .d (I ((s1.length : Nat) : Int))), (11, .d (I dt))]
theorem ZK (hC : zN Tryd.prog ctr) (h0d : ctr.Has vN) : wO.Ok Tryd.prog := by
 refine zV ?_
 rintro ⟨s1, s2⟩ r0 aa
 try unfold xh at aa
 refine yO true [(4, none)] wS 36 Tryd.func82 fun E hE => ?_
 refine yJ X0 hC wS [1] [] [0,1] (fun z : Unit => xv s1 s2 = some r0) (fun z => kg s1 s2) [(0, .d (eSl 1 false (eI .i64) s1)), (1, .d (eSl 1 false (eI .i64) s2))] [Hh (.cut 1)] ?_ fun J1 az => ?_
 ·rintro ⟨⟩ aa
  unfold xv at aa
  let Z0 : List HO := [Ha (lnM (eI .i64) s1), Ha (lnM (eI .i64) s2)]
  rcases yb aa with ⟨c0, aa⟩ | ⟨c0, aa⟩
  ·obtain rfl := zk aa
   exact yE X0 hC hE (Z0 ++ [Hq c0])
  ·obtain rfl := zk aa
   exact yE X0 hC hE (Z0 ++ [Hq c0])
 ·obtain ⟨t2, ht2, aa⟩ := zn aa
  refine yL X0 hC wS [1,2,1,0] [J1] (fun s => yf s1 s2 s) (fun x => ke s1 s2 x) 0 ht2  [Ha (lnM (eI .i64) s1)] ?_
  rintro dt m2 bl ae hl1 J2 a8
  try unfold yf at ae
  rcases yb ae with ⟨c1, ae⟩ | ⟨c1, ae⟩
  ·obtain ⟨gj, h0, ae⟩ := zn ae
   let Z1 : List HO := [Hq c1, Hi (eI .i64) h0, Ha (lnM (eI .i64) s2)]
   rcases yb ae with ⟨c2, ae⟩ | ⟨c2, ae⟩
   ·obtain rfl := zk ae
    obtain rfl := hl1
    obtain rfl := zk aa
    exact yE X0 hC hE (Z1 ++ [Hq c2])
   ·obtain ⟨fq, h1, ae⟩ := zn ae
    obtain ⟨r_, h2, ae⟩ := zn ae
    let Z2 : List HO := (Z1 ++ [Hq c2, Hi (eI .i64) h1, Hc h0d (x := (gj, fq)) h2 (loC (eI .i64) gj <| loC (eI .i64) fq <| loN)])
    rcases yb ae with ⟨c3, ae⟩ | ⟨c3, ae⟩
    ·obtain rfl := zk ae
     obtain rfl := hl1
     obtain rfl := zk aa
     exact yE X0 hC hE (Z2 ++ [Hq c3])
    ·obtain rfl := zk ae
     exact yB X0 hC a8 (w64 (dt + 1)) hl1 (Z2 ++ [Hq c3])
  ·obtain rfl := zk ae
   obtain rfl := hl1
   exact yB X0 hC az () aa [Hq c1]
def YE : Code := (Tryd.f80.body).getD .skip
def Yg : yi := spF (α := List Int) (ρ := Int) 80 (fun x => [F7_ x]) (fun r => (eI .i64) r) (fun x => ZY x) [] (Jl)
abbrev UA : List (Nat × T) := [(3, .d (I 0))]
abbrev Uz (vals : List Int) (x8 : Int) : List (Nat × T) := [(3, .d (I 0)), (6, .d (eSl 1 false (eI .i64) vals)), (7, .d (I ((vals.length : Nat) : Int))), (8, .d (I x8))]
theorem z0a (hC : zN Tryd.prog ctr) : Yg.Ok Tryd.prog := by
 refine zV ?_
 rintro vals r0 aa
 try unfold ZY at aa
 refine yO true [(2, none)] YE 18 Tryd.func80 fun E hE => ?_
 refine yJ X0 hC YE [1,1] [] [3] (fun z : Unit => kb = some r0) (fun z => UA) [(0, .d (eSl 1 false (eI .i64) vals)), (3, .d (I 0))] [Hh (.cut 2)] ?_ fun J1 az => ?_
 ·rintro ⟨⟩ aa
  unfold kb at aa
  obtain rfl := zk aa
  exact yE X0 hC hE []
 ·obtain ⟨t2, ht2, aa⟩ := zn aa
  refine yL X0 hC YE [1,1,2,1,0] [J1] (fun s => u9 vals s) (fun x => Uz vals x) 0 ht2  [Ha (lnM (eI .i64) vals)] ?_
  rintro x8 m2 bl ae hl1 J2 a8
  try unfold u9 at ae
  rcases yb ae with ⟨c0, ae⟩ | ⟨c0, ae⟩
  ·obtain ⟨gt, h0, ae⟩ := zn ae
   rcases yb ae with ⟨c1, ae⟩ | ⟨c1, ae⟩
   ·obtain rfl := zk ae
    obtain rfl := hl1
    obtain rfl := zk aa
    exact yE X0 hC hE [Hq c0, Hi (eI .i64) h0, Hq c1]
   ·obtain rfl := zk ae
    exact yB X0 hC a8 (w64 (x8 + 1)) hl1 [Hq c0, Hi (eI .i64) h0, Hq c1]
  ·obtain rfl := zk ae
   obtain rfl := hl1
   exact yB X0 hC az () aa [Hq c0]
def Ud : Code := (Tryd.f68.body).getD .skip
def vA : yi := spF (α := List Int × List Int) (ρ := Int) 68 (fun x => [F7_ x.1, F7_ x.2]) (fun r => (eI .i64) r) (fun x => ve x.1 x.2) [] (VQ)
theorem UP (hC : zN Tryd.prog ctr) (h0d : ctr.Has vN) (h0D : ctr.Has wO) (h0l : ctr.Has Yg) : vA.Ok Tryd.prog := by
 refine zV ?_
 rintro ⟨a_, b_⟩ r0 aa
 try unfold ve at aa
 refine yO true [(4, none)] Ud 15 Tryd.func68 fun E hE => ?_
 obtain ⟨r_, h0, aa⟩ := zn aa
 obtain ⟨ah, h1, aa⟩ := zn aa
 obtain ⟨al, h2, aa⟩ := zn aa
 obtain rfl := zk aa
 exact yE X0 hC hE [Ha (lnM (eI .i64) a_), Ha (lnM (eI .i64) b_), Hc h0d (x := (((a_.length : Nat) : Int), ((b_.length : Nat) : Int))) h0 (loC (eI .i64) ((a_.length : Nat) : Int) <| loC (eI .i64) ((b_.length : Nat) : Int) <| loN), Hc h0D (x := (a_, b_)) h1 (loC F7_ a_ <| loC F7_ b_ <| loN), Hg (J8 h0l), Hm (shM (eI .i64) (eI .i64) ([r_, ah])), Hs (J9 h0l (x := [r_, ah]) h2 (loC F2_ ([r_, ah] : List Int) <| loN))]
def ZA : Code := (Tryd.f61.body).getD .skip
def Zq : yi := spF (α := List (List Int)) (ρ := Bool) 61 (fun x => [YK x]) (fun r => eB r) (fun x => kq x) [] (Jl)
abbrev VB : List (Nat × T) := []
abbrev VA (l_ : List (List Int)) (i_ : Int) : List (Nat × T) := [(0, .d (eSl 1 false F7_ l_)), (3, .d (I i_))]
theorem K7 (hC : zN Tryd.prog ctr) (h08 : ctr.Has vA) : Zq.Ok Tryd.prog := by
 refine zV ?_
 rintro l_ r0 aa
 try unfold kq at aa
 refine yO true [(2, none)] ZA 21 Tryd.func61 fun E hE => ?_
 refine yJ X0 hC ZA [1] [] [] (fun z : Unit => jb = some r0) (fun z => VB) [(0, .d (eSl 1 false F7_ l_))] [Hh (.cut 1)] ?_ fun J1 az => ?_
 ·rintro ⟨⟩ aa
  unfold jb at aa
  obtain rfl := zk aa
  exact yE X0 hC hE []
 ·obtain ⟨t2, ht2, aa⟩ := zn aa
  refine yL X0 hC ZA [1,2,1,0] [J1] (fun s => vF l_ s) (fun x => VA l_ x) 1 ht2  [] ?_
  rintro i_ m2 bl ae hl1 J2 a8
  try unfold vF at ae
  let Z0 : List HO := [Ha (lnM F7_ l_)]
  rcases yb ae with ⟨c0, ae⟩ | ⟨c0, ae⟩
  ·obtain ⟨ba, h0, ae⟩ := zn ae
   obtain ⟨cg, h1, ae⟩ := zn ae
   obtain ⟨r_, h2, ae⟩ := zn ae
   let Z1 : List HO := (Z0 ++ [Hq c0, Hi F7_ h0, Hi F7_ h1, Hc h08 (x := (ba, cg)) h2 (loC F7_ ba <| loC F7_ cg <| loN)])
   rcases yb ae with ⟨c1, ae⟩ | ⟨c1, ae⟩
   ·obtain rfl := zk ae
    obtain rfl := hl1
    obtain rfl := zk aa
    exact yE X0 hC hE (Z1 ++ [Hq c1])
   ·obtain rfl := zk ae
    exact yB X0 hC a8 (w64 (i_ + 1)) hl1 (Z1 ++ [Hq c1])
  ·obtain rfl := zk ae
   obtain rfl := hl1
   exact yB X0 hC az () aa (Z0 ++ [Hq c0])
def Zy : Code := (Tryd.f62.body).getD .skip
def jd : yi := spF (α := List (List Int)) (ρ := Int) 62 (fun x => [YK x]) (fun r => (eI .i64) r) (fun x => qN x) [] (Jl)
abbrev Vx (n_ : Int) : List (Nat × T) := [(2, .d (I n_))]
abbrev Vw (l_ : List (List Int)) (dn : Int) (x7 : Int) : List (Nat × T) := [(2, .d (I dn)), (5, .d (eSl 1 false F7_ l_)), (6, .d (I ((l_.length : Nat) : Int))), (7, .d (I x7))]
theorem K5 (hC : zN Tryd.prog ctr) : jd.Ok Tryd.prog := by
 refine zV ?_
 rintro l_ r0 aa
 try unfold qN at aa
 refine yO true [(2, none)] Zy 17 Tryd.func62 fun E hE => ?_
 refine yJ X0 hC Zy [1] [] [2] (fun z : Int => Zm z = some r0) (fun z => Vx z) [(0, .d (eSl 1 false F7_ l_)), (2, .d (I 0))] [Hh (.cut 1)] ?_ fun J1 az => ?_
 ·rintro n_ aa
  unfold Zm at aa
  obtain rfl := zk aa
  exact yE X0 hC hE []
 ·obtain ⟨t2, ht2, aa⟩ := zn aa
  refine yL X0 hC Zy [1,2,1,0] [J1] (fun s => vD l_ s.1 s.2) (fun x => Vw l_ x.1 x.2) (0,0) ht2  [Ha (lnM F7_ l_)] ?_
  rintro ⟨dn, x7⟩ m2 bl ae hl1 J2 a8
  try unfold vD at ae
  rcases yb ae with ⟨c0, ae⟩ | ⟨c0, ae⟩
  ·obtain ⟨ba, h0, ae⟩ := zn ae
   obtain rfl := zk ae
   exact yB X0 hC a8 (w64 (dn + ((ba.length : Nat) : Int)), w64 (x7 + 1)) hl1 [Hq c0, Hi F7_ h0, Ha (lnM (eI .i64) ba)]
  ·obtain rfl := zk ae
   obtain rfl := hl1
   exact yB X0 hC az dn aa [Hq c0]
def Jo : Code := (Tryd.f43.body).getD .skip
def Zr : yi := spF (α := List (List Int) × Int) (ρ := Int) 43 (fun x => [YK x.1, (eI .i64) x.2]) (fun r => (eI .i64) r) (fun x => kr x.1 x.2) [] (VQ)
theorem K8 (hC : zN Tryd.prog ctr) (h0e : ctr.Has je) (h0E : ctr.Has Zq) (h0a : ctr.Has jd) : Zr.Ok Tryd.prog := by
 refine zV ?_
 rintro ⟨l_, inputs⟩ r0 aa
 try unfold kr at aa
 refine yO true [(4, none)] Jo 18 Tryd.func43 fun E hE => ?_
 obtain ⟨r_, h0, aa⟩ := zn aa
 let Z0 : List HO := [Hc h0e (x := (l_, inputs)) h0 (loC YK l_ <| loC (eI .i64) inputs <| loN)]
 rcases yb aa with ⟨c0, aa⟩ | ⟨c0, aa⟩
 ·obtain rfl := zk aa
  exact yE X0 hC hE (Z0 ++ [Hq c0])
 ·obtain ⟨ah, h1, aa⟩ := zn aa
  let Z1 : List HO := (Z0 ++ [Hq c0, Hc h0E (x := l_) h1 (loC YK l_ <| loN)])
  rcases yb aa with ⟨c1, aa⟩ | ⟨c1, aa⟩
  ·obtain rfl := zk aa
   exact yE X0 hC hE (Z1 ++ [Hq c1])
  ·obtain ⟨al, h2, aa⟩ := zn aa
   let Z2 : List HO := (Z1 ++ [Hq c1, Hc h0a (x := l_) h2 (loC YK l_ <| loN)])
   rcases yb aa with ⟨c2, aa⟩ | ⟨c2, aa⟩
   ·obtain rfl := zk aa
    exact yE X0 hC hE (Z2 ++ [Hq c2])
   ·obtain rfl := zk aa
    exact yE X0 hC hE (Z2 ++ [Hq c2])
def WS : Code := (Tryd.f22.body).getD .skip
def xL : yi := spF (α := z7 × List (List Int)) (ρ := Int) 22 (fun x => [yT x.1, YK x.2]) (fun r => (eI .i64) r) (fun x => xI x.1 x.2) [] (VQ)
theorem V4 (hC : zN Tryd.prog ctr) (h0f : ctr.Has vY) (h0F : ctr.Has Zr) : xL.Ok Tryd.prog := by
 refine zV ?_
 rintro ⟨m_, l_⟩ r0 aa
 try unfold xI at aa
 refine yO true [(4, none)] WS 15 Tryd.func22 fun E hE => ?_
 obtain ⟨r_, h0, aa⟩ := zn aa
 let Z0 : List HO := [Hc h0f (x := m_) h0 (loC yT m_ <| loN)]
 rcases yb aa with ⟨c0, aa⟩ | ⟨c0, aa⟩
 ·obtain rfl := zk aa
  exact yE X0 hC hE (Z0 ++ [Hq c0])
 ·obtain ⟨ah, h1, aa⟩ := zn aa
  obtain rfl := zk aa
  exact yE X0 hC hE (Z0 ++ [Hq c0, Hc h0F (x := (l_, m_.Inputs)) h1 (loC YK l_ <| loC (eI .i64) m_.Inputs <| loN)])
def Vu : Code := (Tryd.f41.body).getD .skip
def vZ : yi := spF (α := Unit) (ρ := zg) 41 (fun x => []) (fun r => (zP (eMp (eI .i64) eB) (eMp F0_ eB) (eMp zD eB)) r) (fun x => um) [] (fun _ _ _ => rfl)
theorem U0 (hC : zN Tryd.prog ctr) : vZ.Ok Tryd.prog := by
 refine zV ?_
 rintro ⟨⟩ r0 aa
 try unfold um at aa
 refine z2S (tt := wr) (rs := [(true, 0, some 71)]) (n := ⟨6, []⟩) (body := Vu) zB Tryd.func41 rfl (by kernel_rfl) rfl rfl (by show (0 : Nat) ≤ 6; decide) fun E hE => ?_
 obtain rfl := zk aa
 let ZE : List HO := [Hn (⟨rfl, rfl, rfl, rfl, QG (fun _ => rfl) ([] : List (Int × Bool))⟩ : T.own (.opq (y7 (zr (eI .i64) eB ([] : List (Int × Bool))))) = T.own (.opq (y7 (zr (eI .i64) eB ([] : List (Int × Bool))))) ∧ 1 = 1 ∧ (Qu .i64) ((eI .i64) 0) = true ∧ (eB true).isD = true ∧ ∀ p ∈ zr (eI .i64) eB ([] : List (Int × Bool)), (Qu .i64) p.1 = true), Hn (Kn (f := (eI .i64)) (g := eB) 0 true ([] : List (Int × Bool)))]
 exact z5v ((z8j Tryd.prog 4).or ((z8j Tryd.prog 3).or ((zgn z6F 1 (zr (eI .i64) eB ([] : List (Int × Bool))) (zr (eI .i64) eB (UE ([] : List (Int × Bool)) 0 true))).or ((z8j Tryd.prog 1).or X0)))) zB hC Xk hE 4000 (hs := hoH ZE) (x := (.agg [.opq (y7 (zr (eI .i64) eB (UE ([] : List (Int × Bool)) 0 true))), .opq (y7 (zr F0_ eB ([] : List ((x6 Int) × Bool)))), .opq (y7 (zr zD eB ([] : List (z8 × Bool))))])) (hoB ZE) (by kernel_rfl) (LeV.refl _)
def vK : Code := (Tryd.f32.body).getD .skip
abbrev ZH (u0 : Value) (u1 : Value) (u2 : Value) (m_ : z7) (w_ : List Int) (ak : List (Int × Bool)) (am : List ((x6 Int) × Bool)) (db : Int) (bf : Int) (bk : Int) (d0 : Int) (bi : Int) (av : zc) (a9 : List (z8 × Bool)) : List (Nat × T) := [(3, .own (.box (.agg [.opq (wV u0 (zr (eI .i64) eB ak)), .opq (wV u1 (zr F0_ eB (UE am (x6.mk db bi) true))), .opq (wV u2 (zr zD eB a9))]))), (4, .own (.box (yT m_))), (6, .d (I db)), (7, .own (.box (.agg [I bf, I bk, I bi]))), (9, .d (I bi)), (10, .d (I av.To)), (12, .d (eSl 1 false (eI .i64) w_)), (13, .d (I ((w_.length : Nat) : Int))), (14, .d (I d0))]
abbrev ZG (u0 : Value) (u1 : Value) (u2 : Value) (m_ : z7) (w_ : List Int) (ak : List (Int × Bool)) (am : List ((x6 Int) × Bool)) (aq : List (z8 × Bool)) (db : Int) (bf : Int) (bk : Int) (d0 : Int) : List (Nat × T) := [(3, .own (.box (.agg [.opq (wV u0 (zr (eI .i64) eB ak)), .opq (wV u1 (zr F0_ eB am)), .opq (wV u2 (zr zD eB aq))]))), (4, .own (.box (yT m_))), (6, .d (I db)), (7, .own (.box (.agg [I bf, I bk, I (-1)]))), (12, .d (eSl 1 false (eI .i64) w_)), (13, .d (I ((w_.length : Nat) : Int))), (14, .d (I d0))]
theorem jj (hC : zN Tryd.prog ctr) : ∀ (m_ : z7) (w_ : List Int) (x_ : zg) (r0 : zg), xo m_ w_ x_ = some r0 → ∀ us : List Value, us.length = 3 → vX Tryd.prog (.fn 32 []) ([] ++ .agg (us.map .atom) :: [.agg [I m_.Inputs, I m_.Outputs, eSl 1 false uh m_.Rows], eSl 1 false (eI .i64) w_]) (YP us [zr (eI .i64) eB x_.states_, zr F0_ eB x_.edges_, zr zD eB x_.pairs_]) (.tup []) ([zr (eI .i64) eB r0.states_, zr F0_ eB r0.edges_, zr zD eB r0.pairs_].map fun e => .opq (y7 e)) := by
 intro m_ w_ x_ r0 aa us hus
 obtain ⟨u0, u1, u2, rfl⟩ := zaj hus
 refine XF (tt := wr) (nt := 50) (body := vK) (B := 3) [] (xl := []) (xr := [.agg [I m_.Inputs, I m_.Outputs, eSl 1 false uh m_.Rows], eSl 1 false (eI .i64) w_]) (caps := []) (es := [zr (eI .i64) eB x_.states_, zr F0_ eB x_.edges_, zr zD eB x_.pairs_]) (es' := [zr (eI .i64) eB r0.states_, zr F0_ eB r0.edges_, zr zD eB r0.pairs_]) (us := [u0, u1, u2]) (r := .tup []) Tryd.func32 rfl (by kernel_rfl) rfl rfl (by decide) (by show (3 : Nat) ≤ 50; decide) rfl rfl (.inl ⟨rfl, rfl⟩) fun E hE => ?_
 try unfold xo at aa
 obtain ⟨t1, ht1, aa⟩ := zn aa
 refine yL X0 hC vK [1,1,1,1,0] [] (fun s => xi m_ w_ s.1 s.2.1 s.2.2.1 s.2.2.2.1 s.2.2.2.2.1 s.2.2.2.2.2.1 s.2.2.2.2.2.2) (fun x => ZG u0 u1 u2 m_ w_ x.1 x.2.1 x.2.2.1 x.2.2.2.1 x.2.2.2.2.1 x.2.2.2.2.2.1 x.2.2.2.2.2.2) (x_.states_, x_.edges_, x_.pairs_, 0, (-1), (-1), 0) ht1  [Ha (lnM (eI .i64) w_)] ?_
 rintro ⟨ak, am, aq, db, bf, bk, d0⟩ m1 bl ae hl1 J1 az
 try unfold xi at ae
 rcases yb ae with ⟨c0, ae⟩ | ⟨c0, ae⟩
 ·obtain ⟨bi, h0, ae⟩ := zn ae
  obtain ⟨ar, h1, ae⟩ := zn ae
  obtain ⟨av, h2, ae⟩ := zn ae
  let Z0 : List HO := [Hq c0, Hi (eI .i64) h0, Hi uh h1, Hi F9_ h2]
  rcases yb ae with ⟨c1, ae⟩ | ⟨c1, ae⟩
  ·obtain rfl := zk ae
   obtain rfl := hl1
   obtain rfl := zk aa
   exact yF X0 hC .ret [(3, .own (.box (.agg [.opq (wV u0 (zr (eI .i64) eB ak)), .opq (wV u1 (zr F0_ eB am)), .opq (wV u2 (zr zD eB aq))])))] (Z0 ++ [Hq c1]) fun st0 h0 => hE _ st0 (.inr rfl) (Qs h0 rfl rfl) zfM
  ·refine yJ ((z8h z9w 30 (kF u1 (zr F0_ eB am)) (zr F0_ eB (UE am (x6.mk db bi) true))).or X0) hC vK [1,1,1,1,0,0,1,1,0,0,1,1,1,1] [J1] [3,4,6,7,9,10,12,13,14] (fun z : List (z8 × Bool) => yC ak am db d0 bi av z = some bl) (fun z => ZH u0 u1 u2 m_ w_ ak am db bf bk d0 bi av z) [(3, .own (.box (.agg [.opq (wV u0 (zr (eI .i64) eB ak)), .opq (wV u1 (zr F0_ eB (UE am (x6.mk db bi) true))), .opq (wV u2 (zr zD eB aq))]))), (4, .own (.box (yT m_))), (6, .d (I db)), (7, .own (.box (.agg [I bf, I bk, I (-1)]))), (9, .d (I bi)), (10, .d (I av.To)), (12, .d (eSl 1 false (eI .i64) w_)), (13, .d (I ((w_.length : Nat) : Int))), (14, .d (I d0))] (Z0 ++ [Hq c1, Hn (⟨rfl, rfl, rfl, rfl, rfl, rfl, QG (fun _ => rfl) am⟩ : (some (A.opq (wV u1 (zr F0_ eB am))) : Option A) = some (A.opq (wV u1 (zr F0_ eB am))) ∧ true = true ∧ 0 = 0 ∧ 0 = 0 ∧ (WJ [.i64, .i64]) (F0_ (x6.mk db bi)) = true ∧ (eB true).isD = true ∧ ∀ p ∈ zr F0_ eB am, (WJ [.i64, .i64]) p.1 = true), Hn (Kn (f := F0_) (g := eB) (x6.mk db bi) true am), Hh (.cut 1)]) ?_ fun J2 a8 => ?_
   ·rintro a9 ae
    unfold yC at ae
    obtain rfl := zk ae
    exact yB ((z8h z6F 47 (kF u0 (zr (eI .i64) eB ak)) (zr (eI .i64) eB (UE ak av.To true))).or X0) hC az ((UE ak av.To true), (UE am (x6.mk db bi) true), a9, av.To, db, bi, w64 (d0 + 1)) hl1 [Hn (⟨rfl, rfl, rfl, rfl, rfl, rfl, QG (fun _ => rfl) ak⟩ : (some (A.opq (wV u0 (zr (eI .i64) eB ak))) : Option A) = some (A.opq (wV u0 (zr (eI .i64) eB ak))) ∧ true = true ∧ 0 = 0 ∧ 0 = 0 ∧ (Qu .i64) ((eI .i64) av.To) = true ∧ (eB true).isD = true ∧ ∀ p ∈ zr (eI .i64) eB ak, (Qu .i64) p.1 = true), Hn (Kn (f := (eI .i64)) (g := eB) av.To true ak)]
   ·rcases yb ae with ⟨c2, ae⟩ | ⟨c2, ae⟩
    ·exact yB ((z8h z9v 40 (kF u2 (zr zD eB aq)) (zr zD eB (UE aq (z8.mk bf bk bi) true))).or X0) hC a8 (UE aq (z8.mk bf bk bi) true) ae [Hq c2, Hn (⟨rfl, rfl, rfl, rfl, rfl, rfl, QG (fun _ => rfl) aq⟩ : (some (A.opq (wV u2 (zr zD eB aq))) : Option A) = some (A.opq (wV u2 (zr zD eB aq))) ∧ true = true ∧ 0 = 0 ∧ 0 = 0 ∧ (WJ [.i64, .i64, .i64]) (zD (z8.mk bf bk bi)) = true ∧ (eB true).isD = true ∧ ∀ p ∈ zr zD eB aq, (WJ [.i64, .i64, .i64]) p.1 = true), Hn (Kn (f := zD) (g := eB) (z8.mk bf bk bi) true aq)]
    ·exact yB X0 hC a8 aq ae [Hq c2]
 ·obtain rfl := zk ae
  obtain rfl := hl1
  obtain rfl := zk aa
  exact yF X0 hC .normal [(3, .own (.box (.agg [.opq (wV u0 (zr (eI .i64) eB ak)), .opq (wV u1 (zr F0_ eB am)), .opq (wV u2 (zr zD eB aq))])))] [Hq c0] fun st0 h0 => hE _ st0 (.inl rfl) (Qs h0 rfl rfl) zfM
def ug : Code := (Tryd.f23.body).getD .skip
def x3 : yi := spF (α := z7 × List (List Int)) (ρ := zg) 23 (fun x => [yT x.1, YK x.2]) (fun r => (zP (eMp (eI .i64) eB) (eMp F0_ eB) (eMp zD eB)) r) (fun x => ym x.1 x.2) [] (VQ)
abbrev YJ (ak : List (Int × Bool)) (am : List ((x6 Int) × Bool)) (aq : List (z8 × Bool)) : List (Nat × T) := [(4, .own (.box (.agg [.atom (.map none), .atom (.map none), .atom (.map none)]))), (5, .own (.box (.agg [.opq (y7 (zr (eI .i64) eB ak)), .opq (y7 (zr F0_ eB am)), .opq (y7 (zr zD eB aq))])))]
abbrev YI (m_ : z7) (l_ : List (List Int)) (bh : List (Int × Bool)) (bo : List ((x6 Int) × Bool)) (a9 : List (z8 × Bool)) (dt : Int) : List (Nat × T) := [(2, .own (.box (yT m_))), (4, .own (.box (.agg [.atom (.map none), .atom (.map none), .atom (.map none)]))), (5, .own (.box (.agg [.opq (y7 (zr (eI .i64) eB bh)), .opq (y7 (zr F0_ eB bo)), .opq (y7 (zr zD eB a9))]))), (9, .d (eSl 1 false F7_ l_)), (10, .d (I ((l_.length : Nat) : Int))), (11, .d (I dt))]
theorem W2 (hC : zN Tryd.prog ctr) (h0g : ctr.Has vZ) : x3.Ok Tryd.prog := by
 refine zV ?_
 rintro ⟨m_, l_⟩ r0 aa
 try unfold ym at aa
 refine z2S (tt := wr) (rs := [(true, 4, some 71)]) (n := ⟨21, []⟩) (body := ug) zB Tryd.func23 rfl (by kernel_rfl) rfl rfl (by show (2 : Nat) ≤ 21; decide) fun E hE => ?_
 obtain ⟨r_, h0, aa⟩ := zn aa
 refine yJ X0 hC ug [1,1] [] [4,5] (fun z : (List (Int × Bool)) × (List ((x6 Int) × Bool)) × (List (z8 × Bool)) => uf z.1 z.2.1 z.2.2 = some r0) (fun z => YJ z.1 z.2.1 z.2.2) [(1, .d (eSl 1 false F7_ l_)), (2, .own (.box (yT m_))), (4, .own (.box (.agg [.atom (.map none), .atom (.map none), .atom (.map none)]))), (5, .own (.box ((zP (eMp (eI .i64) eB) (eMp F0_ eB) (eMp zD eB)) r_)))] [Hc h0g (x := ()) h0 (loN), Hh (.cut 0)] ?_ fun J1 az => ?_
 ·rintro ⟨ak, am, aq⟩ aa
  unfold uf at aa
  obtain rfl := zk aa
  let ZE : List HO := []
  exact z5v X0 zB hC Xk hE 4000 (hs := hoH ZE) (x := (.agg [.opq (y7 (zr (eI .i64) eB ak)), .opq (y7 (zr F0_ eB am)), .opq (y7 (zr zD eB aq))])) (hoB ZE) (by kernel_rfl) (LeV.refl _)
 ·obtain ⟨t2, ht2, aa⟩ := zn aa
  refine yL X0 hC ug [1,1,2,1,0] [J1] (fun s => x5 m_ l_ s.1 s.2.1 s.2.2.1 s.2.2.2) (fun x => YI m_ l_ x.1 x.2.1 x.2.2.1 x.2.2.2) (r_.states_, r_.edges_, r_.pairs_, 0) ht2  [Ha (lnM F7_ l_)] ?_
  rintro ⟨bh, bo, a9, dt⟩ m2 bl ae hl1 J2 a8
  try unfold x5 at ae
  rcases yb ae with ⟨c0, ae⟩ | ⟨c0, ae⟩
  ·obtain ⟨ba, h1, ae⟩ := zn ae
   obtain ⟨ah, h2, ae⟩ := zn ae
   obtain rfl := zk ae
   exact yB ((ZJ (P := Tryd.prog) wr 5 0 [.deref] (fa := .fn 32 []) (r := .tup []) (xl := []) (xr := [yT m_, F7_ ba]) (qs := [(y7 (zr (eI .i64) eB bh)), (y7 (zr F0_ eB bo)), (y7 (zr zD eB a9))]) (qs' := [(y7 (zr (eI .i64) eB ah.states_)), (y7 (zr F0_ eB ah.edges_)), (y7 (zr zD eB ah.pairs_))]) (es := [(zr (eI .i64) eB bh), (zr F0_ eB bo), (zr zD eB a9)]) (es' := [(zr (eI .i64) eB ah.states_), (zr F0_ eB ah.edges_), (zr zD eB ah.pairs_)]) (.inr rfl) (z3c (by kernel_rfl)) (.cons (xV (zr (eI .i64) eB bh)) (.cons (xV (zr F0_ eB bo)) (.cons (xV (zr zD eB a9)) (.nil)))) (fun us hu => jj hC _ _ _ _ h2 us hu) (some 18)).or X0) hC a8 (ah.states_, ah.edges_, ah.pairs_, w64 (dt + 1)) hl1 [Hq c0, Hi F7_ h1, Hn (⟨rfl, leP (show V2 [] [] from inferInstance), leP (show V2 [yT m_, F7_ ba] [yT m_, F7_ ba] from inferInstance), rfl, rfl⟩ : ([.fn 32 []] : List A) = [.fn 32 []] ∧ LeP [] [] ∧ LeP [yT m_, F7_ ba] [yT m_, F7_ ba] ∧ T.als 5 [.deref] 0 0 = T.als 5 [.deref] 0 0 ∧ (some (.agg [.opq (y7 (zr (eI .i64) eB bh)), .opq (y7 (zr F0_ eB bo)), .opq (y7 (zr zD eB a9))]) : Option A) = some (.agg [.opq (y7 (zr (eI .i64) eB bh)), .opq (y7 (zr F0_ eB bo)), .opq (y7 (zr zD eB a9))]))]
  ·obtain rfl := zk ae
   obtain rfl := hl1
   exact yB X0 hC az (bh, bo, a9) aa [Hq c0]
def Y1 : Code := (Tryd.f24.body).getD .skip
theorem Y8 (hC : zN Tryd.prog ctr) : ∀ (goal : Int) (x_ : zg) (r0 : Int), xH goal x_ = some r0 → ∀ us : List Value, us.length = 3 → vX Tryd.prog (.fn 24 []) ([] ++ .agg (us.map .atom) :: [I goal]) (YP us [zr (eI .i64) eB x_.states_, zr F0_ eB x_.edges_, zr zD eB x_.pairs_]) (I r0) ([zr (eI .i64) eB x_.states_, zr F0_ eB x_.edges_, zr zD eB x_.pairs_].map fun e => .opq (y7 e)) := by
 intro goal x_ r0 aa us hus
 obtain ⟨u0, u1, u2, rfl⟩ := zaj hus
 refine XF (tt := wr) (nt := 17) (body := Y1) (B := 2) [4] (xl := []) (xr := [I goal]) (caps := []) (es := [zr (eI .i64) eB x_.states_, zr F0_ eB x_.edges_, zr zD eB x_.pairs_]) (es' := [zr (eI .i64) eB x_.states_, zr F0_ eB x_.edges_, zr zD eB x_.pairs_]) (us := [u0, u1, u2]) (r := I r0) Tryd.func24 rfl (by kernel_rfl) rfl rfl (by decide) (by show (2 : Nat) ≤ 17; decide) rfl rfl (.inr ⟨_, rfl⟩) fun E hE => ?_
 try unfold xH at aa
 obtain ⟨cell, h0, aa⟩ := zn aa
 obtain rfl := zk aa
 exact yF ((zgp zB 16).or ((z3y z9v 13 (kF u2 (zr zD eB x_.pairs_))).or ((z3y z9w 10 (kF u1 (zr F0_ eB x_.edges_))).or ((z3y z6F 7 (kF u0 (zr (eI .i64) eB x_.states_))).or X0)))) hC .ret [(2, .own (.box (.agg [.opq (wV u0 (zr (eI .i64) eB x_.states_)), .opq (wV u1 (zr F0_ eB x_.edges_)), .opq (wV u2 (zr zD eB x_.pairs_))]))), (4, .d (I cell))] [Hn (rfl : A.opq (wV u0 (zr (eI .i64) eB x_.states_)) = A.opq (wV u0 (zr (eI .i64) eB x_.states_))), Hx (aLn x_.states_.length) (z1E (eI .i64) eB x_.states_), Hn (rfl : A.opq (wV u1 (zr F0_ eB x_.edges_)) = A.opq (wV u1 (zr F0_ eB x_.edges_))), Hx (aLn x_.edges_.length) (z1E F0_ eB x_.edges_), Hn (rfl : A.opq (wV u2 (zr zD eB x_.pairs_)) = A.opq (wV u2 (zr zD eB x_.pairs_))), Hx (aLn x_.pairs_.length) (z1E zD eB x_.pairs_), Hs (iM (eI .i64) h0), Hn (ixV (k := .i64) (tt := wr) (e := 3) (l := ([((x_.states_.length : Nat) : Int), ((x_.edges_.length : Nat) : Int), ((x_.pairs_.length : Nat) : Int)] : List Int)) (fun _ => by kernel_rfl) h0 (m := 3) rfl)] fun st0 h0 => hE _ st0 (.inr rfl) (Qs h0 rfl rfl) (z4t (zbR h0 rfl rfl))
def Vs : Code := (Tryd.f75.body).getD .skip
def qP : yi := spF (α := z7 × Int) (ρ := z7 × Int) 75 (fun x => [yT x.1, (eI .i64) x.2]) (fun r => (zgW 87 z7E (eSp (eI .i64))) r) (fun x => j9 x.1 x.2) [] (VQ)
theorem VX (hC : zN Tryd.prog ctr) : qP.Ok Tryd.prog := by
 refine zV ?_
 rintro ⟨m_, from_⟩ r0 aa
 try unfold j9 at aa
 refine yO true [(4, none)] Vs 6 Tryd.func75 fun E hE => ?_
 obtain rfl := zk aa
 exact yEx X0 hC hE [] (.fn 87 [.sptr (.agg [I m_.Inputs, I m_.Outputs, eSl 1 false uh m_.Rows]), .sptr (I from_)]) (show LeV (.fn 87 [.sptr (.agg [I m_.Inputs, I m_.Outputs, eSl 1 false uh m_.Rows]), .sptr (I from_)]) (.fn 87 [.sptr (.agg [I (((m_, from_).1).Inputs), I (((m_, from_).1).Outputs), eSl 1 false uh (((m_, from_).1).Rows)]), .sptr (I ((m_, from_).2))]) from inferInstance)
def yQ : Code := (Tryd.f87.body).getD .skip
abbrev YT (x0 : z7) (YY : σ → z1Q) (ay : zh) (yr : σ × Bool) (ar : List zc) (cr : Int) (ft : List Bool) (ff : List zh) : List (Nat × T) := [(0, .own (.opq (YY yr.1).q)), (1, .d (.sptr (yT x0))), (4, .own (eOs 1 true eB ft)), (5, .own (eDq 3 uV ff)), (6, .own (.box (uV ay))), (36, .d (eSl 2 false F9_ ar)), (37, .d (I ((ar.length : Nat) : Int))), (38, .d (I cr))]
abbrev YR (x0 : z7) (YY : σ → z1Q) (ay : zh) (yr : σ × Bool) (ar : List zc) (cp : List Bool) (bt : List zh) (cr : Int) : List (Nat × T) := [(0, .own (.opq (YY yr.1).q)), (1, .d (.sptr (yT x0))), (4, .own (eOs 1 true eB cp)), (5, .own (eDq 3 uV bt)), (6, .own (.box (uV ay))), (36, .d (eSl 2 false F9_ ar)), (37, .d (I ((ar.length : Nat) : Int))), (38, .d (I cr))]
abbrev YS (x0 : z7) (YY : σ → z1Q) (fc : σ) (fg : List Bool) (bg : List zh) : List (Nat × T) := [(0, .own (.opq (YY fc).q)), (1, .d (.sptr (yT x0))), (4, .own (eOs 1 true eB fg)), (5, .own (eDq 3 uV bg))]
theorem Wx (hC : zN Tryd.prog ctr) (x0 : z7) (x1 : Int) : z7A Tryd.prog (.fn 87 [.sptr (.agg [I x0.Inputs, I x0.Outputs, eSl 1 false uh x0.Rows]), .sptr (I x1)]) (fun (x : zh) (_ : Bool) (_ : Value) => [uV x]) (@vz x0 x1) := by
 refine z9E (tt := wr) (nt := 68) (body := yQ) zB Tryd.func87 rfl (by kernel_rfl) rfl rfl (by show (3 : Nat) ≤ 68; decide) ?_
 intro σ yv YY yy hy sg r0 aa E hE
 unfold vz at aa
 obtain ⟨g0, aa⟩ := gdE aa
 obtain ⟨io, h0, aa⟩ := zn aa
 obtain ⟨t1, ht1, aa⟩ := zn aa
 refine yLx X0 hC yQ [1,1,1,0] [] (fun s => w7 x0 yy s.1 s.2.1 s.2.2) (fun x => YS x0 YY x.1 x.2.1 x.2.2) (sg, ((List.replicate ((x0.Rows.length : Nat) : Int).toNat false).set x1.toNat true), ([(zh.mk x1 (-1) (-1))] : List zh)) ht1 [(0, .own (.opq (YY sg).q)), (1, .d (.sptr (yT x0))), (4, .own (eOs 1 true eB ((List.replicate ((x0.Rows.length : Nat) : Int).toNat false).set x1.toNat true))), (5, .own (eOs 3 true uV ([(zh.mk x1 (-1) (-1))])))] inferInstance [Ha (lnM uh x0.Rows), Hn (rL g0), Ha (rM 1 eB ((x0.Rows.length : Nat) : Int) false), Hn (iL eB h0), Hs (iM eB h0), Hs (iM eB h0), Hl (sM eB (List.replicate ((x0.Rows.length : Nat) : Int).toNat false) x1 true)] ?_
 rintro ⟨fc, fg, bg⟩ m1 bl ae hl1 J1 az
 try unfold w7 at ae
 let Z0 : List HO := [Hn (rfl : eDq 3 uV bg = A.opq (Qj 3 (bg.map uV)).q), Ha (lnM uV bg)]
 rcases yb ae with ⟨c0, ae⟩ | ⟨c0, ae⟩
 ·refine yA ((xQl zB 20 149 3 (bg.map uV) (by kernel_rfl)).or X0) hC yQ [1,1,1,0,0,1,0] [J1] [(0, .own (.opq (YY fc).q)), (1, .d (.sptr (yT x0))), (4, .own (eOs 1 true eB fg)), (5, .own (eDq 3 uV bg))] (Z0 ++ [Hq c0, Hh (.cut 0)]) ?_
  obtain ⟨ay, h1, ae⟩ := zn ae
  refine z15 (by kernel_rfl) (x := (sub [1,1,1,0,0,1,0,0] yQ)) (y := (sub [1,1,1,0,0,1,0,1] yQ)) 5 (fun st1 => Own.canon [0,1,4,5,6] st1 = ofL [(0, .own (.opq (YY fc).q)), (1, .d (.sptr (yT x0))), (4, .own (eOs 1 true eB fg)), (5, .own (eDq 3 uV bg)), (6, .own (.box (uV ay)))]) (fun fx => yF ((xQd zB 24 3 5 fx (0 : Int) (bg.map uV) (uV ay)).or ((xQi zB 23 3 5 fx (bg.map uV)).or X0)) hC .normal [(0, .own (.opq (YY fc).q)), (1, .d (.sptr (yT x0))), (4, .own (eOs 1 true eB fg)), (5, .own (eDq 3 uV bg)), (6, .own (.box (uV ay)))] [Hn (⟨rfl, rfl, rfl, rfl, i0 h1, (iL uV h1).2⟩ : T.als 5 [] 0 0 = T.als 5 [] 0 0 ∧ some fx = some fx ∧ T.own (eDq 3 uV bg) = T.own (eDq 3 uV bg) ∧ some 3 = some 3 ∧ (0 : Int) ≤ 0 ∧ (0 : Int).toNat < (bg.map uV).length), Hn (⟨rfl, rfl, rfl, iM uV h1, rfl, VW.isD ay⟩ : T.d (.atom (z3a 3 fx (0 : Int))) = T.d (.atom (z3a 3 fx (0 : Int))) ∧ some fx = some fx ∧ T.own (eDq 3 uV bg) = T.own (eDq 3 uV bg) ∧ (bg.map uV)[(0 : Int).toNat]? = some (uV ay) ∧ true = true ∧ (uV ay).isD = true)] fun st0 h0 => ⟨rfl, h0⟩) fun st1 h1 => z5u h1 ?_
  obtain ⟨g1, ae⟩ := gdE ae
  obtain ⟨yr, h2, ae⟩ := zn ae
  let Z1 : List HO := [Hn (rfl : eDq 3 uV bg = A.opq (Qj 3 (bg.map uV)).q), Hn (⟨g1.1, cuB uV g1⟩ : (0 : Int) ≤ 1 ∧ (1 : Int).toNat ≤ (bg.map uV).length), Hn (drM uV bg (1 : Int).toNat), Hn (z8U (yv := yv) (Y := YY) (enc := (fun (x : zh) (_ : Bool) (_ : Value) => [uV x])) (s := fc) (x := ay) (s' := yr.1) (b := yr.2) (v := .nilFunc) [uV ay] (show V2 [uV ay] [uV ay] from inferInstance))]
  rcases yb ae with ⟨c1, ae⟩ | ⟨c1, ae⟩
  ·obtain rfl := zk ae
   obtain rfl := hl1
   obtain rfl := zk aa
   exact yF ((z7G (P := Tryd.prog) wr hy 29 (s := fc) (x := ay) (s' := yr.1) (b := yr.2) .nilFunc h2).or ((xQs zB 26 3 (bg.map uV) ((bg.drop (1 : Int).toNat).map uV)).or X0)) hC .ret [(0, .own (.opq (YY yr.1).q))] (Z1 ++ [Hq c1]) fun st0 h0 => hE _ st0 (.inr rfl) h0
  ·obtain ⟨ar, h3, ae⟩ := zn ae
   obtain ⟨t2, ht2, ae⟩ := zn ae
   refine yL ((z7G (P := Tryd.prog) wr hy 29 (s := fc) (x := ay) (s' := yr.1) (b := yr.2) .nilFunc h2).or ((xQs zB 26 3 (bg.map uV) ((bg.drop (1 : Int).toNat).map uV)).or X0)) hC yQ [1,1,1,0,0,1,0,1,1,1,1,0] [J1] (fun s => xm ay yr ar s.1 s.2.1 s.2.2) (fun x => YR x0 YY ay yr ar x.1 x.2.1 x.2.2) (fg, (bg.drop (1 : Int).toNat), 0) ht2  (Z1 ++ [Hq c1, Hi uh h3, Ha (lnM F9_ ar)]) ?_
   rintro ⟨cp, bt, cr⟩ m2 fk ai hl2 J2 a8
   try unfold xm at ai
   rcases yb ai with ⟨c2, ai⟩ | ⟨c2, ai⟩
   ·refine yJ X0 hC yQ [1,1,1,0,0,1,0,1,1,1,1,0,0,1,1] [J1, J2] [0,1,4,5,6,36,37,38] (fun z : List Bool × List zh => yk cr z.1 z.2 = some fk) (fun z => YT x0 YY ay yr ar cr z.1 z.2) [(0, .own (.opq (YY yr.1).q)), (1, .d (.sptr (yT x0))), (4, .own (eOs 1 true eB cp)), (5, .own (eDq 3 uV bt)), (6, .own (.box (uV ay))), (36, .d (eSl 2 false F9_ ar)), (37, .d (I ((ar.length : Nat) : Int))), (38, .d (I cr))] [Hq c2, Hh (.cut 0)] ?_ fun J3 cd => ?_
    ·rintro ⟨ft, ff⟩ ai
     unfold yk at ai
     obtain rfl := zk ai
     exact yB X0 hC a8 (ft, ff, w64 (cr + 1)) hl2 []
    ·obtain ⟨av, h4, ai⟩ := zn ai
     let Z2 : List HO := [Hi F9_ h4]
     rcases yb ai with ⟨c3, ai⟩ | ⟨c3, ai⟩
     ·obtain ⟨gv, h5, ai⟩ := zn ai
      let Z3 : List HO := (Z2 ++ (rpN 4 (Hq c3) [Hn (iL eB h5), Hq c3, Hs (iM eB h5), Hq c3, Hq c3]))
      rcases yb ai with ⟨c4, ai⟩ | ⟨c4, ai⟩
      ·obtain ⟨ig, h6, ai⟩ := zn ai
       obtain ⟨g2, ai⟩ := gdE ai
       exact yB ((xQa zB 66 3 (bt.map uV) ((bt ++ ([(zh.mk av.To ay.state_ cr)] : List zh)).map uV)).or X0) hC cd ((cp.set av.To.toNat true), (bt ++ ([(zh.mk av.To ay.state_ cr)] : List zh))) ai (Z3 ++ [Hq c4, Hn (iL eB h6), Hs (iM eB h6), Hs (iM eB h6), Hl (sM eB cp av.To true), Hn (⟨rfl, dM uV ([(zh.mk av.To ay.state_ cr)] : List zh), rfl⟩ : 3 = 3 ∧ A.areD (([(zh.mk av.To ay.state_ cr)] : List zh).map uV) = true ∧ true = true), Hn (⟨rfl, aL uV uV g2, dM uV bt⟩ : eDq 3 uV bt = A.opq (Qj 3 (bt.map uV)).q ∧ (bt.map uV).length + (([(zh.mk av.To ay.state_ cr)] : List zh).map uV).length ≤ lim ∧ A.areD (bt.map uV) = true), Hn (aM uV bt ([(zh.mk av.To ay.state_ cr)] : List zh))])
      ·exact yB X0 hC cd (cp, bt) ai (Z3 ++ [Hq c4])
     ·exact yB X0 hC cd (cp, bt) ai (Z2 ++ (rpN 7 (Hq c3) [qF]))
   ·obtain rfl := zk ai
    obtain rfl := hl2
    obtain rfl := zk ae
    exact yB X0 hC az (yr.1, cp, bt) hl1 [Hq c2]
 ·obtain rfl := zk ae
  obtain rfl := hl1
  obtain rfl := zk aa
  exact yF ((xQl zB 20 149 3 (bg.map uV) (by kernel_rfl)).or X0) hC .normal [(0, .own (.opq (YY fc).q))] (Z0 ++ [Hq c0]) fun st0 h0 => hE _ st0 (.inl rfl) h0
def Yy : Code := (Tryd.f31.body).getD .skip
def yc : yi := spF (α := List Int) (ρ := List Int) 31 (fun x => [F7_ x]) (fun r => F6_ r) (fun x => zQ x) [] (Jl)
theorem YO (hC : zN Tryd.prog ctr) : yc.Ok Tryd.prog := by
 refine zV ?_
 rintro s_ r0 aa
 try unfold zQ at aa
 refine yO true [(2, none)] Yy 8 Tryd.func31 fun E hE => ?_
 refine z1L rfl 0 (sz := 1) (t := false) (es := s_.map (eI .i64)) (by kernel_rfl) fun ax hv0 hn => ?_
 rcases hn with ⟨hn0, he0⟩ | hn0
 ·obtain ⟨_, aa⟩ := gdE aa
  rw [show s_ = [] from List.map_eq_nil_iff.1 he0] at aa
  obtain rfl := zk aa
  exact yEx ((zad zB 4 43 (by kernel_rfl) hn0).or ((xMv Tryd.prog 3 0 ax hv0).or X0)) hC hE [Hn (rfl : some ax = some ax), Hn (⟨rfl, rfl⟩ : T.d (.atom ax) = T.d (.atom ax) ∧ T.d (.atom (.slice none 0 0)) = T.d (.atom (.slice none 0 0))), qT] (eOs 1 true (eI .i64) []) (show LeV (eOs 1 true (eI .i64) []) (eOs 1 false (eI .i64) ([] : List Int)) from inferInstance)
 ·obtain ⟨g0, aa⟩ := gdE aa
  obtain rfl := zk aa
  exact yE ((zad zB 4 43 (by kernel_rfl) hn0).or ((xMv Tryd.prog 3 0 ax hv0).or X0)) hC hE [Hn (rfl : some ax = some ax), Hn (⟨rfl, rfl⟩ : T.d (.atom ax) = T.d (.atom ax) ∧ T.d (.atom (.slice none 0 0)) = T.d (.atom (.slice none 0 0))), qF, Hn (dM (eI .i64) s_), Hn (aL (eI .i64) (eI .i64) g0), Hl (aM0 (eI .i64) s_)]
def YQ : Code := (Tryd.f30.body).getD .skip
def yg : yi := spF (α := List Int) (ρ := List Int) 30 (fun x => [F7_ x]) (fun r => F2_ r) (fun x => zY x) [] (Jl)
theorem X8 (hC : zN Tryd.prog ctr) : yg.Ok Tryd.prog := by
 refine zV ?_
 rintro s_ r0 aa
 try unfold zY at aa
 refine yO true [(2, none)] YQ 9 Tryd.func30 fun E hE => ?_
 obtain ⟨g0, aa⟩ := gdE aa
 obtain rfl := zk aa
 exact yE X0 hC hE [Ha (lnM (eI .i64) s_), Ha (lnM (eI .i64) s_), Hn (slB g0), Hn (slC g0), Hn (zaR (eI .i64) g0), Ha (zfF 1 (eI .i64) s_ 0 ((s_.length : Nat) : Int).toNat)]
def vH : Code := (Tryd.f63.body).getD .skip
def Zp : yi := spF (α := z7 × Int) (ρ := List (List Int) × List Bool) 63 (fun x => [yT x.1, (eI .i64) x.2]) (fun r => .tup [z3o r.1, (eSl 1 true eB) r.2]) (fun x => km x.1 x.2) [] (VQ)
abbrev Vv (l_ : List (List Int)) (is : List Bool) : List (Nat × T) := [(6, .own (.box (eOs 1 true F2_ l_))), (7, .own (.box (eOs 1 true eB is)))]
abbrev j7 (r_ : z7 × Int) (bj : List (List Int)) (cb : List Bool) : List (Nat × T) := [(6, .own (.box (eOs 1 true F2_ bj))), (7, .own (.box (eOs 1 true eB cb))), (19, .d (.fn 87 [.sptr (.agg [I r_.1.Inputs, I r_.1.Outputs, eSl 1 false uh r_.1.Rows]), .sptr (I r_.2)]))]
theorem K4 (hC : zN Tryd.prog ctr) (h0G : ctr.Has qP) (h01 : ctr.Has yc) (h00 : ctr.Has yg) : Zp.Ok Tryd.prog := by
 refine zV ?_
 rintro ⟨m_, from_⟩ r0 aa
 try unfold km at aa
 refine yO false [(4, none), (5, none)] vH 45 Tryd.func63 fun E hE => ?_
 obtain ⟨g0, aa⟩ := gdE aa
 obtain ⟨g1, aa⟩ := gdE aa
 refine yJ ((xMs zB 12 43).or X0) hC vH [1,1] [] [6,7] (fun z : List (List Int) × List Bool => j8 z.1 z.2 = some r0) (fun z => Vv z.1 z.2) [(1, .d (I from_)), (2, .own (.box (yT m_))), (6, .own (.box (eOs 1 true F2_ (List.replicate ((m_.Rows.length : Nat) : Int).toNat ([] : List Int))))), (7, .own (.box (eOs 1 true eB (List.replicate ((m_.Rows.length : Nat) : Int).toNat false))))] [Ha (lnM uh m_.Rows), Hn (rL g0), Ha (rM 1 F2_ ((m_.Rows.length : Nat) : Int) ([] : List Int)), Ha (lnM uh m_.Rows), Hn (rL g1), Ha (rM 1 eB ((m_.Rows.length : Nat) : Int) false), Hh (.cut 0)] ?_ fun J1 az => ?_
 ·rintro ⟨l_, is⟩ aa
  unfold j8 at aa
  obtain rfl := zk aa
  exact yE X0 hC hE [Hm (shM F2_ F2_ l_), Hm (shM eB eB is)]
 ·obtain ⟨r_, h0, aa⟩ := zn aa
  obtain ⟨t2, ht2, aa⟩ := zn aa
  refine yAt X0 hC (sub [1,1,2,1,0] vH) (frs [1,1,2,1,0] [J1] vH []) [(6, .own (.box (eOs 1 true F2_ (List.replicate ((m_.Rows.length : Nat) : Int).toNat ([] : List Int))))), (7, .own (.box (eOs 1 true eB (List.replicate ((m_.Rows.length : Nat) : Int).toNat false)))), (19, .d (.fn 87 [.sptr (.agg [I r_.1.Inputs, I r_.1.Outputs, eSl 1 false uh r_.1.Rows]), .sptr (I r_.2)]))] [Hc h0G (x := (m_, from_)) h0 (loC yT m_ <| loC (eI .i64) from_ <| loN)] fun st0 h0 => ?_
  refine za8 (g := .tmp 19) (ps := [20]) (assign := (sub [1,1,2,1,0,0] vH)) (body := (sub [1,1,2,1,0,1] vH)) (K := 87) (caps := [.sptr (.agg [I r_.1.Inputs, I r_.1.Outputs, eSl 1 false uh r_.1.Rows]), .sptr (I r_.2)]) (by kernel_rfl) [6,7,19] (fun s => j7 r_ s.1 s.2) (fun z => nomatch z) (fun z => nomatch z) ((fun (x : zh) (_ : Bool) (_ : Value) => [uV x])) (F := @vz r_.1 r_.2) (fun s x => xu s.1 s.2 x) ((List.replicate ((m_.Rows.length : Nat) : Int).toNat ([] : List Int)), (List.replicate ((m_.Rows.length : Nat) : Int).toNat false)) t2 _ h0 inferInstance (by kernel_rfl) (by decide) (fun _ => rfl) (by rintro ⟨⟩) (by kernel_rfl) (fun _ _ _ => rfl) (Wx hC r_.1 r_.2) ht2 ?_ ?_
  ·rintro iq ⟨bj, cb⟩ br vr bl ae
   replace ae : xu bj cb br = some bl := ae
   unfold xu at ae
   refine yF X0 hC .normal [(6, .own (.box (eOs 1 true F2_ bj))), (7, .own (.box (eOs 1 true eB cb))), (8, .own (.box (uV br))), (19, .d (.fn 87 [.sptr (.agg [I r_.1.Inputs, I r_.1.Outputs, eSl 1 false uh r_.1.Rows]), .sptr (I r_.2)]))] [] fun st0 h0 => ⟨rfl, z5u h0 ?_⟩
   obtain ⟨gu, h1, ae⟩ := zn ae
   let Z0 : List HO := [Hn (iL eB h1), Hs (iM eB h1), Hs (iM eB h1), Hl (sM eB cb br.state_ true)]
   rcases yb ae with ⟨c0, ae⟩ | ⟨c0, ae⟩
   ·obtain ⟨ba, h2, ae⟩ := zn ae
    obtain ⟨ah, h3, ae⟩ := zn ae
    obtain ⟨g2, ae⟩ := gdE ae
    obtain ⟨al, h4, ae⟩ := zn ae
    obtain ⟨cg, h5, ae⟩ := zn ae
    obtain rfl := zk ae
    exact yF X0 hC .normal (j7 r_ (bj.set br.state_.toNat al) (cb.set br.state_.toNat true)) (Z0 ++ [Hq c0, Hn (iL F2_ h2), Hs (iM F2_ h2), Hc h01 (x := ba) h3 (loC F2_ ba <| loN), Hq (dM (eI .i64) ([br.input_] : List Int)), Hn (dM (eI .i64) ([br.input_] : List Int)), Hn (aL (eI .i64) (eI .i64) g2), Hl (aM (eI .i64) ah ([br.input_] : List Int)), Hg (J8 h00), Hm (shM (eI .i64) (eI .i64) (ah ++ ([br.input_] : List Int))), Hs (J9 h00 (x := (ah ++ ([br.input_] : List Int))) h4 (loC F7_ (ah ++ ([br.input_] : List Int)) <| loN)), Hm (shM (eI .i64) (eI .i64) (ah ++ ([br.input_] : List Int))), Hn (iL F2_ h5), Hs (iM F2_ h5), Hs (iM F2_ h5), Hl (sM F2_ bj br.state_ al)]) fun st0 h0 => ⟨rfl, _, h0, LeL.refl _⟩
   ·obtain rfl := zk ae
    exact yF X0 hC .normal (j7 r_ bj (cb.set br.state_.toNat true)) (Z0 ++ [Hq c0]) fun st0 h0 => ⟨rfl, _, h0, LeL.refl _⟩
  ·rcases t2 with ⟨bj, cb⟩ | z
   ·dsimp only at aa
    exact z16 (by kernel_rfl) (az _ [(6, .own (.box (eOs 1 true F2_ bj))), (7, .own (.box (eOs 1 true eB cb)))] (bj, cb) aa (show Own.canon [6,7] _ = ofL _ by kernel_rfl) inferInstance)
   ·cases z
def QN : Code := (Tryd.f44.body).getD .skip
def ku : yi := spF (α := z7) (ρ := List (List Int) × List Bool × Int) 44 (fun x => [yT x]) (fun r => .tup [z3o r.1, (eSl 1 true eB) r.2.1, (eI .i64) r.2.2]) (fun x => ji x) [] (Jl)
theorem Jd (hC : zN Tryd.prog ctr) (h0f : ctr.Has vY) (h0H : ctr.Has Zp) : ku.Ok Tryd.prog := by
 refine zV ?_
 rintro m_ r0 aa
 try unfold ji at aa
 refine yO false [(2, none), (3, none), (4, none)] QN 20 Tryd.func44 fun E hE => ?_
 obtain ⟨r_, h0, aa⟩ := zn aa
 let Z0 : List HO := [Hc h0f (x := m_) h0 (loC yT m_ <| loN)]
 rcases yb aa with ⟨c0, aa⟩ | ⟨c0, aa⟩
 ·obtain rfl := zk aa
  exact yEx X0 hC hE (Z0 ++ [Hq c0, Hm (shM F7_ F7_ []), Hm (shM eB eB [])]) (.tup [eSl 1 true F2_ [], eSl 1 true eB [], I r_]) (show LeV (.tup [eSl 1 true F2_ [], eSl 1 true eB [], I r_]) (.tup [eSl 1 true F2_ ([] : List (List Int)), eSl 1 true eB ([] : List Bool), I r_]) from inferInstance)
 ·obtain ⟨ah, h1, aa⟩ := zn aa
  obtain rfl := zk aa
  exact yE X0 hC hE (Z0 ++ [Hq c0, Hc h0H (x := (m_, 0)) h1 (loC yT m_ <| loC (eI .i64) 0 <| loN)])
def xe : Code := (Tryd.f25.body).getD .skip
def wy : yi := spF (α := z7 × Int) (ρ := List za) 25 (fun x => [yT x.1, (eI .i64) x.2]) (fun r => (eOs 5 false (zb F7_ zD zC)) r) (fun x => wJ x.1 x.2) [] (VQ)
abbrev Ws (out : List za) : List (Nat × T) := [(8, .own (eOs 5 false (zb F7_ zD zC) out))]
abbrev Wr (m_ : z7) (goal : Int) (r_ : List (List Int) × List Bool × Int) (au : Int) (bc : List za) : List (Nat × T) := [(1, .d (I goal)), (2, .own (.box (yT m_))), (5, .d (eSl 1 true F2_ r_.1)), (6, .d (eSl 1 true eB r_.2.1)), (8, .own (eOs 5 false (zb F7_ zD zC) bc)), (24, .d (eSl 1 false uh m_.Rows)), (25, .d (I ((m_.Rows.length : Nat) : Int))), (26, .d (I au))]
abbrev Wq (m_ : z7) (goal : Int) (r_ : List (List Int) × List Bool × Int) (au : Int) (ar : List zc) (a6 : Int) (dg : List za) : List (Nat × T) := [(1, .d (I goal)), (2, .own (.box (yT m_))), (5, .d (eSl 1 true F2_ r_.1)), (6, .d (eSl 1 true eB r_.2.1)), (8, .own (eOs 5 false (zb F7_ zD zC) dg)), (9, .d (.sptr (I au))), (24, .d (eSl 1 false uh m_.Rows)), (25, .d (I ((m_.Rows.length : Nat) : Int))), (26, .d (I au)), (49, .d (eSl 2 false F9_ ar)), (50, .d (I ((ar.length : Nat) : Int))), (51, .d (I a6))]
abbrev Wp (m_ : z7) (goal : Int) (r_ : List (List Int) × List Bool × Int) (au : Int) (ar : List zc) (a6 : Int) (al : List Int) (ca : List zc) (bu : Int) (gk : List za) : List (Nat × T) := [(1, .d (I goal)), (2, .own (.box (yT m_))), (5, .d (eSl 1 true F2_ r_.1)), (6, .d (eSl 1 true eB r_.2.1)), (8, .own (eOs 5 false (zb F7_ zD zC) gk)), (9, .d (.sptr (I au))), (11, .own (.box (I a6))), (13, .d (eSl 1 false (eI .i64) (al ++ ([a6] : List Int)))), (24, .d (eSl 1 false uh m_.Rows)), (25, .d (I ((m_.Rows.length : Nat) : Int))), (26, .d (I au)), (49, .d (eSl 2 false F9_ ar)), (50, .d (I ((ar.length : Nat) : Int))), (51, .d (I a6)), (84, .d (eSl 2 false F9_ ca)), (85, .d (I ((ca.length : Nat) : Int))), (86, .d (I bu))]
abbrev Wm (m_ : z7) (goal : Int) (r_ : List (List Int) × List Bool × Int) (au : Int) (ar : List zc) (a6 : Int) (al : List Int) (ca : List zc) (dv : List za) (bu : Int) : List (Nat × T) := [(1, .d (I goal)), (2, .own (.box (yT m_))), (5, .d (eSl 1 true F2_ r_.1)), (6, .d (eSl 1 true eB r_.2.1)), (8, .own (eOs 5 false (zb F7_ zD zC) dv)), (9, .d (.sptr (I au))), (11, .own (.box (I a6))), (13, .d (eSl 1 false (eI .i64) (al ++ ([a6] : List Int)))), (24, .d (eSl 1 false uh m_.Rows)), (25, .d (I ((m_.Rows.length : Nat) : Int))), (26, .d (I au)), (49, .d (eSl 2 false F9_ ar)), (50, .d (I ((ar.length : Nat) : Int))), (51, .d (I a6)), (84, .d (eSl 2 false F9_ ca)), (85, .d (I ((ca.length : Nat) : Int))), (86, .d (I bu))]
abbrev Wn (m_ : z7) (goal : Int) (r_ : List (List Int) × List Bool × Int) (au : Int) (ar : List zc) (cm : List za) (a6 : Int) : List (Nat × T) := [(1, .d (I goal)), (2, .own (.box (yT m_))), (5, .d (eSl 1 true F2_ r_.1)), (6, .d (eSl 1 true eB r_.2.1)), (8, .own (eOs 5 false (zb F7_ zD zC) cm)), (9, .d (.sptr (I au))), (24, .d (eSl 1 false uh m_.Rows)), (25, .d (I ((m_.Rows.length : Nat) : Int))), (26, .d (I au)), (49, .d (eSl 2 false F9_ ar)), (50, .d (I ((ar.length : Nat) : Int))), (51, .d (I a6))]
abbrev Wo (m_ : z7) (goal : Int) (r_ : List (List Int) × List Bool × Int) (aj : List za) (au : Int) : List (Nat × T) := [(1, .d (I goal)), (2, .own (.box (yT m_))), (5, .d (eSl 1 true F2_ r_.1)), (6, .d (eSl 1 true eB r_.2.1)), (8, .own (eOs 5 false (zb F7_ zD zC) aj)), (24, .d (eSl 1 false uh m_.Rows)), (25, .d (I ((m_.Rows.length : Nat) : Int))), (26, .d (I au))]
def zJ : XH Tryd.prog := ((z31 zB (.inl 107) [104]).or ((z31 zB (.inl 71) [13]).or X0))
theorem UV (hC : zN Tryd.prog ctr) (h0I : ctr.Has ku) (h01 : ctr.Has yc) (h00 : ctr.Has yg) : wy.Ok Tryd.prog := by
 refine zV ?_
 rintro ⟨m_, goal⟩ r0 aa
 try unfold wJ at aa
 refine yO true [(4, none)] xe 114 Tryd.func25 fun E hE => ?_
 obtain ⟨r_, h0, aa⟩ := zn aa
 refine yJ zJ hC xe [1,1,1] [] [8] (fun z : List za => uz z = some r0) (fun z => Ws z) [(1, .d (I goal)), (2, .own (.box (yT m_))), (5, .d (eSl 1 true F2_ r_.1)), (6, .d (eSl 1 true eB r_.2.1)), (8, .own (eOs 5 true (zb F7_ zD zC) []))] [Hc h0I (x := m_) h0 (loC yT m_ <| loN), Hh (.cut 1)] ?_ fun J1 az => ?_
 ·rintro out aa
  unfold uz at aa
  obtain rfl := zk aa
  exact yE zJ hC hE []
 ·obtain ⟨t2, ht2, aa⟩ := zn aa
  refine yLx zJ hC xe [1,1,1,2,1,0] [J1] (fun s => wD m_ goal r_ s.1 s.2) (fun x => Wo m_ goal r_ x.1 x.2) (([] : List za), 0) ht2 [(1, .d (I goal)), (2, .own (.box (yT m_))), (5, .d (eSl 1 true F2_ r_.1)), (6, .d (eSl 1 true eB r_.2.1)), (8, .own (eOs 5 true (zb F7_ zD zC) [])), (24, .d (eSl 1 false uh m_.Rows)), (25, .d (I ((m_.Rows.length : Nat) : Int))), (26, .d (I 0))] inferInstance [Ha (lnM uh m_.Rows)] ?_
  rintro ⟨aj, au⟩ m2 bl ae hl1 J2 a8
  try unfold wD at ae
  rcases yb ae with ⟨c0, ae⟩ | ⟨c0, ae⟩
  ·refine yJ zJ hC xe [1,1,1,2,1,0,0,1,1] [J1, J2] [1,2,5,6,8,24,25,26] (fun z : List za => xa au z = some bl) (fun z => Wr m_ goal r_ au z) [(1, .d (I goal)), (2, .own (.box (yT m_))), (5, .d (eSl 1 true F2_ r_.1)), (6, .d (eSl 1 true eB r_.2.1)), (8, .own (eOs 5 false (zb F7_ zD zC) aj)), (24, .d (eSl 1 false uh m_.Rows)), (25, .d (I ((m_.Rows.length : Nat) : Int))), (26, .d (I au))] [Hq c0, Hh (.cut 0)] ?_ fun J3 cd => ?_
   ·rintro bc ae
    unfold xa at ae
    obtain rfl := zk ae
    exact yB zJ hC a8 (bc, w64 (au + 1)) hl1 []
   ·obtain ⟨ar, h1, ae⟩ := zn ae
    obtain ⟨u_, h2, ae⟩ := zn ae
    let Z0 : List HO := [Hi uh h1, Hi eB h2]
    rcases yb ae with ⟨c1, ae⟩ | ⟨c1, ae⟩
    ·exact yB zJ hC cd aj ae (Z0 ++ [Hq c1])
    ·rcases yb ae with ⟨c2, ae⟩ | ⟨c2, ae⟩
     ·obtain ⟨dj, h3, ae⟩ := zn ae
      obtain ⟨g0, ae⟩ := gdE ae
      exact yB ((xLs zB 42 (eSl 1 true (eI .i64) dj) (eSl 1 false (eI .i64) dj) inferInstance).or zJ) hC cd (aj ++ ([(za.mk dj (z8.mk au 0 0) (.inl au))] : List za)) ae (Z0 ++ [Hq c1, Hh (.n 1 [9]), Hq c2, Hi F2_ h3, Hn (rfl : T.d (eSl 1 true (eI .i64) dj) = T.d (eSl 1 true (eI .i64) dj)), Hq (dM (zb F7_ zD zC) ([(za.mk dj (z8.mk au 0 0) (.inl au))] : List za)), Hn (dM (zb F7_ zD zC) ([(za.mk dj (z8.mk au 0 0) (.inl au))] : List za)), Hn (aL (zb F7_ zD zC) (zb F7_ zD zC) g0), Hl (aM (zb F7_ zD zC) aj ([(za.mk dj (z8.mk au 0 0) (.inl au))] : List za))])
     ·obtain ⟨t4, ht4, ae⟩ := zn ae
      refine yL zJ hC xe [1,1,1,2,1,0,0,1,1,2,0,1,1,1,1,0] [J1, J2, J3] (fun s => wC m_ goal r_ au ar s.1 s.2) (fun x => Wn m_ goal r_ au ar x.1 x.2) (aj,0) ht4  (Z0 ++ [Hq c1, Hh (.n 1 [9]), Hq c2, Ha (lnM F9_ ar)]) ?_
      rintro ⟨cm, a6⟩ m4 fk ai hl2 J4 ep
      try unfold wC at ai
      rcases yb ai with ⟨c3, ai⟩ | ⟨c3, ai⟩
      ·refine yJ zJ hC xe [1,1,1,2,1,0,0,1,1,2,0,1,1,1,1,0,0,1,1] [J1, J2, J3, J4] [1,2,5,6,8,9,24,25,26,49,50,51] (fun z : List za => x9 a6 z = some fk) (fun z => Wq m_ goal r_ au ar a6 z) [(1, .d (I goal)), (2, .own (.box (yT m_))), (5, .d (eSl 1 true F2_ r_.1)), (6, .d (eSl 1 true eB r_.2.1)), (8, .own (eOs 5 false (zb F7_ zD zC) cm)), (9, .d (.sptr (I au))), (24, .d (eSl 1 false uh m_.Rows)), (25, .d (I ((m_.Rows.length : Nat) : Int))), (26, .d (I au)), (49, .d (eSl 2 false F9_ ar)), (50, .d (I ((ar.length : Nat) : Int))), (51, .d (I a6))] [Hq c3, Hh (.cut 0)] ?_ fun J5 dy => ?_
       ·rintro dg ai
        unfold x9 at ai
        obtain rfl := zk ai
        exact yB zJ hC ep (dg, w64 (a6 + 1)) hl2 []
       ·obtain ⟨av, h4, ai⟩ := zn ai
        let Z1 : List HO := [Hi F9_ h4]
        rcases yb ai with ⟨c4, ai⟩ | ⟨c4, ai⟩
        ·exact yB zJ hC dy cm ai (Z1 ++ [Hq c4])
        ·obtain ⟨ie, h5, ai⟩ := zn ai
         obtain ⟨ah, h6, ai⟩ := zn ai
         obtain ⟨al, h7, ai⟩ := zn ai
         obtain ⟨g1, ai⟩ := gdE ai
         let Z2 : List HO := (Z1 ++ [Hq c4, Hi F2_ h5, Hc h01 (x := ie) h6 (loC F2_ ie <| loN), Hg (J8 h00), Hm (shM (eI .i64) (eI .i64) ah), Hs (J9 h00 (x := ah) h7 (loC F7_ ah <| loN)), Hm (shM (eI .i64) (eI .i64) ah), Hq (dM (eI .i64) ([a6] : List Int)), Hn (dM (eI .i64) ([a6] : List Int)), Hn (aN (eI .i64) (eI .i64) g1 (by simp)), Hl (aM (eI .i64) al ([a6] : List Int))])
         rcases yb ai with ⟨c5, ai⟩ | ⟨c5, ai⟩
         ·obtain ⟨g2, ai⟩ := gdE ai
          exact yB zJ hC dy (cm ++ ([(za.mk (al ++ ([a6] : List Int)) (z8.mk au a6 0) (.inr (.inl (au, a6))))] : List za)) ai (Z2 ++ [Hq c5, Hm (shM (eI .i64) (eI .i64) (al ++ ([a6] : List Int))), Hq (dM (zb F7_ zD zC) ([(za.mk (al ++ ([a6] : List Int)) (z8.mk au a6 0) (.inr (.inl (au, a6))))] : List za)), Hn (dM (zb F7_ zD zC) ([(za.mk (al ++ ([a6] : List Int)) (z8.mk au a6 0) (.inr (.inl (au, a6))))] : List za)), Hn (aL (zb F7_ zD zC) (zb F7_ zD zC) g2), Hl (aM (zb F7_ zD zC) cm ([(za.mk (al ++ ([a6] : List Int)) (z8.mk au a6 0) (.inr (.inl (au, a6))))] : List za))])
         ·obtain ⟨ca, h8, ai⟩ := zn ai
          obtain ⟨t6, ht6, ai⟩ := zn ai
          refine yL zJ hC xe [1,1,1,2,1,0,0,1,1,2,0,1,1,1,1,0,0,1,1,2,0,1,1,1,1,1,0] [J1, J2, J3, J4, J5] (fun s => wB au a6 al ca s.1 s.2) (fun x => Wm m_ goal r_ au ar a6 al ca x.1 x.2) (cm,0) ht6  (Z2 ++ [Hq c5, Hi uh h8, Ha (lnM F9_ ca), Hh (.n 1 [13]), Hm (shM (eI .i64) (eI .i64) (al ++ ([a6] : List Int)))]) ?_
          rintro ⟨dv, bu⟩ m6 ip cx hl3 J6 fl
          try unfold wB at cx
          rcases yb cx with ⟨c6, cx⟩ | ⟨c6, cx⟩
          ·refine yJ zJ hC xe [1,1,1,2,1,0,0,1,1,2,0,1,1,1,1,0,0,1,1,2,0,1,1,1,1,1,0,0,1,1] [J1, J2, J3, J4, J5, J6] [1,2,5,6,8,9,11,13,24,25,26,49,50,51,84,85,86] (fun z : List za => wF bu z = some ip) (fun z => Wp m_ goal r_ au ar a6 al ca bu z) [(1, .d (I goal)), (2, .own (.box (yT m_))), (5, .d (eSl 1 true F2_ r_.1)), (6, .d (eSl 1 true eB r_.2.1)), (8, .own (eOs 5 false (zb F7_ zD zC) dv)), (9, .d (.sptr (I au))), (11, .own (.box (I a6))), (13, .d (eSl 1 false (eI .i64) (al ++ ([a6] : List Int)))), (24, .d (eSl 1 false uh m_.Rows)), (25, .d (I ((m_.Rows.length : Nat) : Int))), (26, .d (I au)), (49, .d (eSl 2 false F9_ ar)), (50, .d (I ((ar.length : Nat) : Int))), (51, .d (I a6)), (84, .d (eSl 2 false F9_ ca)), (85, .d (I ((ca.length : Nat) : Int))), (86, .d (I bu))] [Hq c6, Hh (.cut 0)] ?_ fun J7 gr => ?_
           ·rintro gk cx
            unfold wF at cx
            obtain rfl := zk cx
            exact yB zJ hC fl (gk, w64 (bu + 1)) hl3 []
           ·obtain ⟨gl, h9, cx⟩ := zn cx
            let Z3 : List HO := [Hi F9_ h9]
            rcases yb cx with ⟨c7, cx⟩ | ⟨c7, cx⟩
            ·obtain ⟨ap, h10, cx⟩ := zn cx
             obtain ⟨aw, h11, cx⟩ := zn cx
             obtain ⟨g3, cx⟩ := gdE cx
             obtain ⟨g4, cx⟩ := gdE cx
             exact yB zJ hC gr (dv ++ ([(za.mk (aw ++ ([bu] : List Int)) (z8.mk au a6 bu) (.inr (.inr (z8.mk au a6 bu))))] : List za)) cx (Z3 ++ [Hq c7, Hh (.n 2 [16]), Hc h01 (x := (al ++ ([a6] : List Int))) h10 (loC F7_ (al ++ ([a6] : List Int)) <| loN), Hg (J8 h00), Hm (shM (eI .i64) (eI .i64) ap), Hs (J9 h00 (x := ap) h11 (loC F7_ ap <| loN)), Hm (shM (eI .i64) (eI .i64) ap), Hq (dM (eI .i64) ([bu] : List Int)), Hn (dM (eI .i64) ([bu] : List Int)), Hn (aN (eI .i64) (eI .i64) g3 (by simp)), Hl (aM (eI .i64) aw ([bu] : List Int)), Hm (shM (eI .i64) (eI .i64) (aw ++ ([bu] : List Int))), Hq (dM (zb F7_ zD zC) ([(za.mk (aw ++ ([bu] : List Int)) (z8.mk au a6 bu) (.inr (.inr (z8.mk au a6 bu))))] : List za)), Hn (dM (zb F7_ zD zC) ([(za.mk (aw ++ ([bu] : List Int)) (z8.mk au a6 bu) (.inr (.inr (z8.mk au a6 bu))))] : List za)), Hn (aL (zb F7_ zD zC) (zb F7_ zD zC) g4), Hl (aM (zb F7_ zD zC) dv ([(za.mk (aw ++ ([bu] : List Int)) (z8.mk au a6 bu) (.inr (.inr (z8.mk au a6 bu))))] : List za))])
            ·exact yB zJ hC gr dv cx (Z3 ++ [Hq c7])
          ·obtain rfl := zk cx
           obtain rfl := hl3
           exact yB zJ hC dy dv ai [Hq c6]
      ·obtain rfl := zk ai
       obtain rfl := hl2
       exact yB zJ hC cd cm ae [Hq c3]
  ·obtain rfl := zk ae
   obtain rfl := hl1
   exact yB zJ hC az aj aa [Hq c0]
def kU : Code := (Tryd.f7.body).getD .skip
def uX : yi := spF (α := z7 × List (List Int)) (ρ := y3 × Int) 7 (fun x => [yT x.1, YK x.2]) (fun r => .tup [zdt r.1, (eI .i64) r.2]) (fun x => wK x.1 x.2) [] (VQ)
abbrev V1 (n_ : Y5 (x6 Int)) : List (Nat × T) := [(4, .own (.box (.agg [.agg [I 0, I 0], .agg [I 0, I 0], .agg [I 0, I 0]]))), (8, .own (.box ((zbQ F0_) n_)))]
abbrev V0 (m_ : z7) (ah : zg) (dn : Y5 (x6 Int)) (br : Int) : List (Nat × T) := [(2, .own (.box (yT m_))), (4, .own (.box (.agg [.agg [I 0, I 0], .agg [I 0, I 0], .agg [I 0, I 0]]))), (7, .own (.box ((zP (eMp (eI .i64) eB) (eMp F0_ eB) (eMp zD eB)) ah))), (8, .own (.box ((zbQ F0_) dn))), (20, .d (I br))]
theorem Ji (hC : zN Tryd.prog ctr) (h04 : ctr.Has xL) (h02 : ctr.Has x3) (h05 : ctr.Has wy) : uX.Ok Tryd.prog := by
 refine zV ?_
 rintro ⟨m_, l_⟩ r0 aa
 try unfold wK at aa
 refine yO false [(4, some 36), (5, none)] kU 41 Tryd.func7 fun E hE => ?_
 obtain ⟨r_, h0, aa⟩ := zn aa
 let Z0 : List HO := [Hc h04 (x := (m_, l_)) h0 (loC yT m_ <| loC YK l_ <| loN)]
 rcases yb aa with ⟨c0, aa⟩ | ⟨c0, aa⟩
 ·obtain rfl := zk aa
  exact yE X0 hC hE (Z0 ++ [Hq c0])
 ·obtain ⟨ah, h1, aa⟩ := zn aa
  refine yJ X0 hC kU [1,1,1,1] [] [4,8] (fun z : Y5 (x6 Int) => kQ z = some r0) (fun z => V1 z) [(2, .own (.box (yT m_))), (4, .own (.box (.agg [.agg [I 0, I 0], .agg [I 0, I 0], .agg [I 0, I 0]]))), (7, .own (.box ((zP (eMp (eI .i64) eB) (eMp F0_ eB) (eMp zD eB)) ah))), (8, .own (.box (.agg [.agg [I 0, I 0], .agg [I 0, I 0], .agg [I 0, I 0]])))] (Z0 ++ [Hq c0, Hc h02 (x := (m_, l_)) h1 (loC yT m_ <| loC YK l_ <| loN), Hh (.cut 1)]) ?_ fun J1 az => ?_
  ·rintro n_ aa
   unfold kQ at aa
   obtain rfl := zk aa
   exact yE X0 hC hE [Hn (⟨rfl, by decide⟩ : true = true ∧ 0 < 3), Hn (⟨rfl, by decide⟩ : true = true ∧ 1 < 3), Hn (⟨rfl, by decide⟩ : true = true ∧ 2 < 3)]
  ·obtain ⟨t2, ht2, aa⟩ := zn aa
   refine yL X0 hC kU [1,1,1,1,2,1,0] [J1] (fun s => xJ m_ ah s.1 s.2) (fun x => V0 m_ ah x.1 x.2) ((Y5.mk (x6.mk 0 0) (x6.mk 0 0) (x6.mk 0 0)), 0) ht2  [] ?_
   rintro ⟨dn, br⟩ m2 bl ae hl1 J2 a8
   try unfold xJ at ae
   rcases yb ae with ⟨c1, ae⟩ | ⟨c1, ae⟩
   ·obtain ⟨al, h2, ae⟩ := zn ae
    obtain ⟨ap, h3, ae⟩ := zn ae
    obtain ⟨cell, h4, ae⟩ := zn ae
    obtain ⟨arr, h5, ae⟩ := zn ae
    replace h5 := zk h5
    obtain rfl := zk ae
    exact yB ((ZJ (P := Tryd.prog) wr 7 0 [.deref] (fa := .fn 24 []) (r := I al) (xl := []) (xr := [(eI .i64) br]) (qs := [(y7 (zr (eI .i64) eB ah.states_)), (y7 (zr F0_ eB ah.edges_)), (y7 (zr zD eB ah.pairs_))]) (qs' := [(y7 (zr (eI .i64) eB ah.states_)), (y7 (zr F0_ eB ah.edges_)), (y7 (zr zD eB ah.pairs_))]) (es := [(zr (eI .i64) eB ah.states_), (zr F0_ eB ah.edges_), (zr zD eB ah.pairs_)]) (es' := [(zr (eI .i64) eB ah.states_), (zr F0_ eB ah.edges_), (zr zD eB ah.pairs_)]) (.inr rfl) (z3c (by kernel_rfl)) (.cons (xV (zr (eI .i64) eB ah.states_)) (.cons (xV (zr F0_ eB ah.edges_)) (.cons (xV (zr zD eB ah.pairs_)) (.nil)))) (fun us hu => Y8 hC _ _ _ h2 us hu) (some 26)).or X0) hC a8 (arr, w64 (br + 1)) hl1 [Hq c1, Hn (⟨rfl, leP (show V2 [] [] from inferInstance), leP (show V2 [(eI .i64) br] [(eI .i64) br] from inferInstance), rfl, rfl⟩ : ([.fn 24 []] : List A) = [.fn 24 []] ∧ LeP [] [] ∧ LeP [(eI .i64) br] [(eI .i64) br] ∧ T.als 7 [.deref] 0 0 = T.als 7 [.deref] 0 0 ∧ (some (.agg [.opq (y7 (zr (eI .i64) eB ah.states_)), .opq (y7 (zr F0_ eB ah.edges_)), .opq (y7 (zr zD eB ah.pairs_))]) : Option A) = some (.agg [.opq (y7 (zr (eI .i64) eB ah.states_)), .opq (y7 (zr F0_ eB ah.edges_)), .opq (y7 (zr zD eB ah.pairs_))])), Hc h05 (x := (m_, br)) h3 (loC yT m_ <| loC (eI .i64) br <| loN), Ha (lnM (zb F7_ zD zC) ap), Hn (⟨arJ (by kernel_rfl) (i0 h4), (iL F0_ h4).2⟩ : QR wr 73 ((Y5.toL dn).map F0_) br = true ∧ br.toNat < ((Y5.toL dn).map F0_).length), Hh (.op 2), Hh (.f), Hs (iM F0_ h4), Hh (.f), Hs (iM F0_ h4), Hx (.l ((Y5.toL arr).map F0_)) ((Y5.setL F0_ dn br (x6.mk al ((ap.length : Nat) : Int))).trans (congrArg (fun q => (Y5.toL q).map F0_) h5))]
   ·obtain rfl := zk ae
    obtain rfl := hl1
    exact yB X0 hC az dn aa [Hq c1]
def KL : Code := (Tryd.f64.body).getD .skip
def jT : yi := spF (α := z7 × Int × Int) (ρ := zc) 64 (fun x => [yT x.1, (eI .i64) x.2.1, (eI .i64) x.2.2]) (fun r => F9_ r) (fun x => ZN x.1 x.2.1 x.2.2) [] (z9I)
theorem z06 (hC : zN Tryd.prog ctr) : jT.Ok Tryd.prog := by
 refine zV ?_
 rintro ⟨m_, s_, i_⟩ r0 aa
 try unfold ZN at aa
 refine yO false [(6, some 81)] KL 18 Tryd.func64 fun E hE => ?_
 rcases yb aa with ⟨c0, aa⟩ | ⟨c0, aa⟩
 ·obtain rfl := zk aa
  exact yE X0 hC hE [Hq c0]
 ·obtain ⟨ar, h0, aa⟩ := zn aa
  obtain ⟨av, h1, aa⟩ := zn aa
  obtain rfl := zk aa
  exact yE X0 hC hE [Hq c0, Hi uh h0, Hi F9_ h1]
def Jp : Code := (Tryd.f49.body).getD .skip
def Zt : yi := spF (α := z7 × Int × List Int) (ρ := Int) 49 (fun x => [yT x.1, (eI .i64) x.2.1, F7_ x.2.2]) (fun r => (eI .i64) r) (fun x => Yn x.1 x.2.1 x.2.2) [] (z9I)
theorem WD : ∀ (x y : z7 × Int × List Int), (fun x => [yT x.1, (eI .i64) x.2.1, F7_ x.2.2]) x = (fun x => [yT x.1, (eI .i64) x.2.1, F7_ x.2.2]) y → x = y := z9I
def jz (dl : z7 → Int → (List Int) → Option Int) : yi := spF (α := z7 × Int × List Int) (ρ := Int) 49 (fun x => [yT x.1, (eI .i64) x.2.1, F7_ x.2.2]) (fun r => (eI .i64) r) (fun x => dl x.1 x.2.1 x.2.2) [] (by
 intro x y h
 exact (congrArg (fun (p : z7 × Int × List Int) => p) (show x = y from WD x y h)))
theorem US (hC : zN Tryd.prog ctr) (h0h : ctr.Has jT) (dl : z7 → Int → (List Int) → Option Int) (h0b : ctr.Has (jz dl)) : (jz (u4 dl)).Ok Tryd.prog := by
 refine zV ?_
 rintro ⟨m_, s_, w_⟩ r0 aa
 try unfold u4 at aa
 refine yO true [(6, none)] Jp 22 Tryd.func49 fun E hE => ?_
 rcases yb aa with ⟨c0, aa⟩ | ⟨c0, aa⟩
 ·obtain rfl := zk aa
  exact yE X0 hC hE [Ha (lnM (eI .i64) w_), Hq c0]
 ·obtain ⟨bi, h0, aa⟩ := zn aa
  obtain ⟨r_, h1, aa⟩ := zn aa
  obtain ⟨g0, aa⟩ := gdE aa
  obtain ⟨ah, h2, aa⟩ := zn aa
  obtain rfl := zk aa
  exact yE ((zgq zB z9P).or X0) hC hE [Ha (lnM (eI .i64) w_), Hq c0, Hi (eI .i64) h0, Hc h0h (x := (m_, s_, bi)) h1 (loC yT m_ <| loC (eI .i64) s_ <| loC (eI .i64) bi <| loN), Hn (slA g0), Hn (zdH (eI .i64) g0), Ha (slE 1 false (eI .i64) w_ (1 : Int).toNat), Hc h0b (x := (m_, r_.To, (w_.drop (1 : Int).toNat))) h2 (loC yT m_ <| loC (eI .i64) r_.To <| loC F7_ (w_.drop (1 : Int).toNat) <| loN)]
theorem Ka (hC : zN Tryd.prog ctr) (h0h : ctr.Has jT) : Zt.Ok Tryd.prog := by
 have H : ∀ n, (jz (qd n)).Ok Tryd.prog := by
  intro n
  induction n with
  | zero => exact zV fun _ _ h => nomatch (show none = some _ from h)
  | succ n ih => exact US (Ctr.add_ok hC ih) (h0h.add (by show (64 : Nat) ≠ 49; decide)) _ (Ctr.add_has _ _)
 exact zV fun x r h => z0f (H _) h
def YB : Code := (Tryd.f48.body).getD .skip
def Yc : yi := spF (α := List Int × Int) (ρ := List Int) 48 (fun x => [F7_ x.1, (eI .i64) x.2]) (fun r => F6_ r) (fun x => ki x.1 x.2) [] (VQ)
abbrev Un (out : List Int) : List (Nat × T) := [(5, .own (eOs 1 false (eI .i64) out))]
abbrev Um (inputs : Int) (aj : List Int) (k_ : Int) : List (Nat × T) := [(1, .d (I inputs)), (5, .own (eOs 1 false (eI .i64) aj)), (6, .d (I k_))]
theorem z05 (hC : zN Tryd.prog ctr) : Yc.Ok Tryd.prog := by
 refine zV ?_
 rintro ⟨w_, inputs⟩ r0 aa
 try unfold ki at aa
 refine yO true [(4, none)] YB 37 Tryd.func48 fun E hE => ?_
 obtain ⟨g0, aa⟩ := gdE aa
 refine yJ X0 hC YB [1,1] [] [5] (fun z : List Int => qb z = some r0) (fun z => Un z) [(1, .d (I inputs)), (5, .own (eOs 1 false (eI .i64) w_))] [Hn (dM (eI .i64) w_), Hn (aL (eI .i64) (eI .i64) g0), Hl (aM0 (eI .i64) w_), Hh (.cut 0)] ?_ fun J1 az => ?_
 ·rintro out aa
  unfold qb at aa
  obtain ⟨g1, aa⟩ := gdE aa
  obtain rfl := zk aa
  exact yE X0 hC hE [Hq (dM (eI .i64) ([0] : List Int)), Hn (dM (eI .i64) ([0] : List Int)), Hn (aL (eI .i64) (eI .i64) g1), Hl (aM (eI .i64) out ([0] : List Int))]
 ·obtain ⟨t2, ht2, aa⟩ := zn aa
  refine yL X0 hC YB [1,1,2,1,0] [J1] (fun s => q9 inputs s.1 s.2) (fun x => Um inputs x.1 x.2) (w_, w64 (((w_.length : Nat) : Int) - 1)) ht2  [Ha (lnM (eI .i64) w_)] ?_
  rintro ⟨aj, k_⟩ m2 bl ae hl1 J2 a8
  try unfold q9 at ae
  rcases yb ae with ⟨c0, ae⟩ | ⟨c0, ae⟩
  ·obtain ⟨da, h0, ae⟩ := zn ae
   let Z0 : List HO := [Hq c0, Hn (iL (eI .i64) h0), Hs (iM (eI .i64) h0)]
   rcases yb ae with ⟨c1, ae⟩ | ⟨c1, ae⟩
   ·obtain ⟨d8, h1, ae⟩ := zn ae
    obtain ⟨ii, h2, ae⟩ := zn ae
    obtain rfl := zk ae
    obtain rfl := hl1
    obtain rfl := zk aa
    exact yE X0 hC hE (Z0 ++ [Hq c1, Hn (iL (eI .i64) h1), Hs (iM (eI .i64) h1), Hn (iL (eI .i64) h2), Hs (iM (eI .i64) h2), Hs (iM (eI .i64) h2), Hl (sM (eI .i64) aj k_ (w64 (d8 + 1)))])
   ·obtain ⟨ij, h3, ae⟩ := zn ae
    obtain rfl := zk ae
    exact yB X0 hC a8 ((aj.set k_.toNat 0), w64 (k_ - 1)) hl1 (Z0 ++ [Hq c1, Hn (iL (eI .i64) h3), Hs (iM (eI .i64) h3), Hs (iM (eI .i64) h3), Hl (sM (eI .i64) aj k_ 0)])
  ·obtain rfl := zk ae
   obtain rfl := hl1
   exact yB X0 hC az aj aa [Hq c0]
def jh : Code := (Tryd.f26.body).getD .skip
def Zs : yi := spF (α := z7 × Int) (ρ := List (List Int) × List Bool) 26 (fun x => [yT x.1, (eI .i64) x.2]) (fun r => .tup [zao r.1, (eSl 1 true eB) r.2]) (fun x => kD x.1 x.2) [] (VQ)
abbrev VE (l_ : List (List Int)) (is : List Bool) : List (Nat × T) := [(6, .own (eOs 1 true F7_ l_)), (7, .own (eOs 1 true eB is))]
abbrev VD (m_ : z7) (from_ : Int) (w_ : List Int) (dw : List (List Int)) (gw : List Bool) : List (Nat × T) := [(1, .d (I from_)), (2, .own (.box (yT m_))), (6, .own (eOs 1 true F7_ dw)), (7, .own (eOs 1 true eB gw)), (8, .d (eSl 1 false (eI .i64) w_))]
abbrev VC (m_ : z7) (from_ : Int) (bj : List (List Int)) (cb : List Bool) (w_ : List Int) : List (Nat × T) := [(1, .d (I from_)), (2, .own (.box (yT m_))), (6, .own (eOs 1 true F7_ bj)), (7, .own (eOs 1 true eB cb)), (8, .own (eOs 1 false (eI .i64) w_))]
def xY : XH Tryd.prog := ((z31 zB (.inr 48) [8]).or X0)
theorem K9 (hC : zN Tryd.prog ctr) (h0J : ctr.Has Zt) (h0K : ctr.Has Yc) : Zs.Ok Tryd.prog := by
 refine zV ?_
 rintro ⟨m_, from_⟩ r0 aa
 try unfold kD at aa
 refine yO false [(4, none), (5, none)] jh 51 Tryd.func26 fun E hE => ?_
 obtain ⟨g0, aa⟩ := gdE aa
 obtain ⟨g1, aa⟩ := gdE aa
 refine yJ xY hC jh [1,1,1] [] [6,7] (fun z : List (List Int) × List Bool => jg z.1 z.2 = some r0) (fun z => VE z.1 z.2) [(1, .d (I from_)), (2, .own (.box (yT m_))), (6, .own (eOs 1 true F2_ (List.replicate ((m_.Rows.length : Nat) : Int).toNat ([] : List Int)))), (7, .own (eOs 1 true eB (List.replicate ((m_.Rows.length : Nat) : Int).toNat false)))] [Ha (lnM uh m_.Rows), Hn (rL g0), Ha (rM 1 F3_ ((m_.Rows.length : Nat) : Int) ([] : List Int)), Hh (.v 0 [6]), Hm (shM F3_ F2_ (List.replicate ((m_.Rows.length : Nat) : Int).toNat ([] : List Int))), Ha (lnM uh m_.Rows), Hn (rL g1), Ha (rM 1 eB ((m_.Rows.length : Nat) : Int) false), Hh (.cut 0)] ?_ fun J1 az => ?_
 ·rintro ⟨l_, is⟩ aa
  unfold jg at aa
  obtain rfl := zk aa
  exact yE xY hC hE [Hm (shM F7_ F7_ l_), Hm (shM eB eB is)]
 ·obtain ⟨t2, ht2, aa⟩ := zn aa
  refine yLx xY hC jh [1,1,1,2,1,0] [J1] (fun s => jf m_ from_ s.1 s.2.1 s.2.2) (fun x => VC m_ from_ x.1 x.2.1 x.2.2) ((List.replicate ((m_.Rows.length : Nat) : Int).toNat ([] : List Int)), (List.replicate ((m_.Rows.length : Nat) : Int).toNat false), ([] : List Int)) ht2 [(1, .d (I from_)), (2, .own (.box (yT m_))), (6, .own (eOs 1 true F2_ (List.replicate ((m_.Rows.length : Nat) : Int).toNat ([] : List Int)))), (7, .own (eOs 1 true eB (List.replicate ((m_.Rows.length : Nat) : Int).toNat false))), (8, .own (eOs 1 true (eI .i64) []))] inferInstance [] ?_
  rintro ⟨bj, cb, w_⟩ m2 bl ae hl1 J2 a8
  try unfold jf at ae
  let Z0 : List HO := [Ha (lnM (eI .i64) w_), Ha (lnM uh m_.Rows)]
  rcases yb ae with ⟨c0, ae⟩ | ⟨c0, ae⟩
  ·refine yJ xY hC jh [1,1,1,2,1,0,0,1] [J1, J2] [1,2,6,7,8] (fun z : List (List Int) × List Bool => wQ m_ w_ z.1 z.2 = some bl) (fun z => VD m_ from_ w_ z.1 z.2) [(1, .d (I from_)), (2, .own (.box (yT m_))), (6, .own (eOs 1 true F7_ bj)), (7, .own (eOs 1 true eB cb)), (8, .d (eSl 1 false (eI .i64) w_))] (Z0 ++ [Hq c0, Hh (.n 1 [8]), Hm (shM (eI .i64) (eI .i64) w_), Hh (.cut 0)]) ?_ fun J3 cd => ?_
   ·rintro ⟨dw, gw⟩ ae
    unfold wQ at ae
    obtain ⟨r_, h0, ae⟩ := zn ae
    obtain rfl := zk ae
    exact yB xY hC a8 (dw, gw, r_) hl1 [Hc h0K (x := (w_, m_.Inputs)) h0 (loC F7_ w_ <| loC (eI .i64) m_.Inputs <| loN)]
   ·obtain ⟨ah, h1, ae⟩ := zn ae
    let Z1 : List HO := [Hc h0J (x := (m_, from_, w_)) h1 (loC yT m_ <| loC (eI .i64) from_ <| loC F7_ w_ <| loN)]
    rcases yb ae with ⟨c1, ae⟩ | ⟨c1, ae⟩
    ·obtain ⟨gu, h2, ae⟩ := zn ae
     let Z2 : List HO := (Z1 ++ [Hq c1, Hq c1, Hq c1, Hn (iL eB h2), Hq c1, Hs (iM eB h2), Hq c1, Hq c1])
     rcases yb ae with ⟨c2, ae⟩ | ⟨c2, ae⟩
     ·obtain ⟨il, h3, ae⟩ := zn ae
      obtain ⟨ba, h4, ae⟩ := zn ae
      exact yB xY hC cd ((bj.set ah.toNat w_), (cb.set ah.toNat true)) ae (Z2 ++ [Hq c2, Hn (iL eB h3), Hs (iM eB h3), Hs (iM eB h3), Hl (sM eB cb ah true), Hn (iL F7_ h4), Hs (iM F7_ h4), Hs (iM F7_ h4), Hl (sM F7_ bj ah w_)])
     ·exact yB xY hC cd (bj, cb) ae (Z2 ++ [Hq c2])
    ·exact yB xY hC cd (bj, cb) ae (Z1 ++ (rpN 6 (Hq c1) [qF]))
  ·obtain rfl := zk ae
   obtain rfl := hl1
   exact yB xY hC az (bj, cb) aa (Z0 ++ [Hq c0])
def QP : Code := (Tryd.f8.body).getD .skip
def ky : yi := spF (α := z7) (ρ := List (List Int) × List Bool) 8 (fun x => [yT x]) (fun r => .tup [zao r.1, (eSl 1 true eB) r.2]) (fun x => jm x) [] (Jl)
theorem Jg (hC : zN Tryd.prog ctr) (h0L : ctr.Has Zs) : ky.Ok Tryd.prog := by
 refine zV ?_
 rintro m_ r0 aa
 try unfold jm at aa
 refine yO false [(2, none), (3, none)] QP 8 Tryd.func8 fun E hE => ?_
 obtain ⟨r_, h0, aa⟩ := zn aa
 obtain rfl := zk aa
 exact yE X0 hC hE [Hc h0L (x := (m_, 0)) h0 (loC yT m_ <| loC (eI .i64) 0 <| loN)]
def QQ : Code := (Tryd.f28.body).getD .skip
def kz : yi := spF (α := Unit) (ρ := z7) 28 (fun x => []) (fun r => zan r) (fun x => Xo) [] (fun _ _ _ => rfl)
theorem Jh (hC : zN Tryd.prog ctr) : kz.Ok Tryd.prog := by
 refine zV ?_
 rintro ⟨⟩ r0 aa
 try unfold Xo at aa
 refine yO false [(0, some 30)] QQ 9 Tryd.func28 fun E hE => ?_
 obtain rfl := zk aa
 exact yE X0 hC hE [Hm (shM (eOs 2 true F9_) zgi ([[(zc.mk 1 0), (zc.mk 0 0)], [(zc.mk 0 1), (zc.mk 1 0)]]))]
def WV : Code := (Tryd.f45.body).getD .skip
theorem V7 (hC : zN Tryd.prog ctr) : ∀ (x0 : Int) (x_ : zg) (r0 : Bool), kP x0 x_ = some r0 → ∀ us : List Value, us.length = 3 → vX Tryd.prog (.fn 45 [.sptr (I x0)]) ([] ++ .agg (us.map .atom) :: []) (YP us [zr (eI .i64) eB x_.states_, zr F0_ eB x_.edges_, zr zD eB x_.pairs_]) (B r0) ([zr (eI .i64) eB x_.states_, zr F0_ eB x_.edges_, zr zD eB x_.pairs_].map fun e => .opq (y7 e)) := by
 intro x0 x_ r0 aa us hus
 obtain ⟨u0, u1, u2, rfl⟩ := zaj hus
 refine XF (tt := wr) (nt := 8) (body := WV) (B := 2) [3] (xl := []) (xr := []) (caps := [.sptr (I x0)]) (es := [zr (eI .i64) eB x_.states_, zr F0_ eB x_.edges_, zr zD eB x_.pairs_]) (es' := [zr (eI .i64) eB x_.states_, zr F0_ eB x_.edges_, zr zD eB x_.pairs_]) (us := [u0, u1, u2]) (r := B r0) Tryd.func45 rfl (by kernel_rfl) rfl rfl (by decide) (by show (2 : Nat) ≤ 8; decide) rfl rfl (.inr ⟨_, rfl⟩) fun E hE => ?_
 try unfold kP at aa
 obtain ⟨val, h0, aa⟩ := zn aa
 replace h0 := zk h0
 obtain rfl := zk aa
 exact yF ((z3z z6F 7 (kF u0 (zr (eI .i64) eB x_.states_))).or X0) hC .ret [(2, .own (.box (.agg [.opq (wV u0 (zr (eI .i64) eB x_.states_)), .opq (wV u1 (zr F0_ eB x_.edges_)), .opq (wV u2 (zr zD eB x_.pairs_))]))), (3, .d (B val))] [Hn (⟨rfl, rfl, QG (fun _ => rfl) x_.states_⟩ : A.opq (wV u0 (zr (eI .i64) eB x_.states_)) = A.opq (wV u0 (zr (eI .i64) eB x_.states_)) ∧ (Qu .i64) ((eI .i64) x0) = true ∧ ∀ p ∈ zr (eI .i64) eB x_.states_, (Qu .i64) p.1 = true), Hx (.a (eB val)) ((zeb (f := (eI .i64)) (g := eB) (z0 := false) (z := .atom (.bool false)) rfl x0 x_.states_).trans (congrArg eB h0))] fun st0 h0 => hE _ st0 (.inr rfl) (Qs h0 rfl rfl) (z4t (zbR h0 rfl rfl))
def WU : Code := (Tryd.f46.body).getD .skip
theorem V6 (hC : zN Tryd.prog ctr) : ∀ (x0 : Int) (x1 : Int) (x_ : zg) (r0 : Bool), kO x0 x1 x_ = some r0 → ∀ us : List Value, us.length = 3 → vX Tryd.prog (.fn 46 [.sptr (I x0), .sptr (I x1)]) ([] ++ .agg (us.map .atom) :: []) (YP us [zr (eI .i64) eB x_.states_, zr F0_ eB x_.edges_, zr zD eB x_.pairs_]) (B r0) ([zr (eI .i64) eB x_.states_, zr F0_ eB x_.edges_, zr zD eB x_.pairs_].map fun e => .opq (y7 e)) := by
 intro x0 x1 x_ r0 aa us hus
 obtain ⟨u0, u1, u2, rfl⟩ := zaj hus
 refine XF (tt := wr) (nt := 11) (body := WU) (B := 3) [4] (xl := []) (xr := []) (caps := [.sptr (I x0), .sptr (I x1)]) (es := [zr (eI .i64) eB x_.states_, zr F0_ eB x_.edges_, zr zD eB x_.pairs_]) (es' := [zr (eI .i64) eB x_.states_, zr F0_ eB x_.edges_, zr zD eB x_.pairs_]) (us := [u0, u1, u2]) (r := B r0) Tryd.func46 rfl (by kernel_rfl) rfl rfl (by decide) (by show (3 : Nat) ≤ 11; decide) rfl rfl (.inr ⟨_, rfl⟩) fun E hE => ?_
 try unfold kO at aa
 obtain ⟨val, h0, aa⟩ := zn aa
 replace h0 := zk h0
 obtain rfl := zk aa
 exact yF ((z3z z9w 10 (kF u1 (zr F0_ eB x_.edges_))).or X0) hC .ret [(3, .own (.box (.agg [.opq (wV u0 (zr (eI .i64) eB x_.states_)), .opq (wV u1 (zr F0_ eB x_.edges_)), .opq (wV u2 (zr zD eB x_.pairs_))]))), (4, .d (B val))] [Hn (⟨rfl, rfl, QG (fun _ => rfl) x_.edges_⟩ : A.opq (wV u1 (zr F0_ eB x_.edges_)) = A.opq (wV u1 (zr F0_ eB x_.edges_)) ∧ (WJ [.i64, .i64]) (F0_ (x6.mk x0 x1)) = true ∧ ∀ p ∈ zr F0_ eB x_.edges_, (WJ [.i64, .i64]) p.1 = true), Hx (.a (eB val)) ((zeb (f := F0_) (g := eB) (z0 := false) (z := .atom (.bool false)) rfl (x6.mk x0 x1) x_.edges_).trans (congrArg eB h0))] fun st0 h0 => hE _ st0 (.inr rfl) (Qs h0 rfl rfl) (z4t (zbR h0 rfl rfl))
def WT : Code := (Tryd.f47.body).getD .skip
theorem V5 (hC : zN Tryd.prog ctr) : ∀ (x0 : z8) (x_ : zg) (r0 : Bool), kN x0 x_ = some r0 → ∀ us : List Value, us.length = 3 → vX Tryd.prog (.fn 47 [.sptr (.agg [I x0.State, I x0.Input, I x0.Next])]) ([] ++ .agg (us.map .atom) :: []) (YP us [zr (eI .i64) eB x_.states_, zr F0_ eB x_.edges_, zr zD eB x_.pairs_]) (B r0) ([zr (eI .i64) eB x_.states_, zr F0_ eB x_.edges_, zr zD eB x_.pairs_].map fun e => .opq (y7 e)) := by
 intro x0 x_ r0 aa us hus
 obtain ⟨u0, u1, u2, rfl⟩ := zaj hus
 refine XF (tt := wr) (nt := 8) (body := WT) (B := 2) [3] (xl := []) (xr := []) (caps := [.sptr (.agg [I x0.State, I x0.Input, I x0.Next])]) (es := [zr (eI .i64) eB x_.states_, zr F0_ eB x_.edges_, zr zD eB x_.pairs_]) (es' := [zr (eI .i64) eB x_.states_, zr F0_ eB x_.edges_, zr zD eB x_.pairs_]) (us := [u0, u1, u2]) (r := B r0) Tryd.func47 rfl (by kernel_rfl) rfl rfl (by decide) (by show (2 : Nat) ≤ 8; decide) rfl rfl (.inr ⟨_, rfl⟩) fun E hE => ?_
 try unfold kN at aa
 obtain ⟨val, h0, aa⟩ := zn aa
 replace h0 := zk h0
 obtain rfl := zk aa
 exact yF ((z3z z9v 7 (kF u2 (zr zD eB x_.pairs_))).or X0) hC .ret [(2, .own (.box (.agg [.opq (wV u0 (zr (eI .i64) eB x_.states_)), .opq (wV u1 (zr F0_ eB x_.edges_)), .opq (wV u2 (zr zD eB x_.pairs_))]))), (3, .d (B val))] [Hn (⟨rfl, rfl, QG (fun _ => rfl) x_.pairs_⟩ : A.opq (wV u2 (zr zD eB x_.pairs_)) = A.opq (wV u2 (zr zD eB x_.pairs_)) ∧ (WJ [.i64, .i64, .i64]) (zD x0) = true ∧ ∀ p ∈ zr zD eB x_.pairs_, (WJ [.i64, .i64, .i64]) p.1 = true), Hx (.a (eB val)) ((zeb (f := zD) (g := eB) (z0 := false) (z := .atom (.bool false)) rfl x0 x_.pairs_).trans (congrArg eB h0))] fun st0 h0 => hE _ st0 (.inr rfl) (Qs h0 rfl rfl) (z4t (zbR h0 rfl rfl))
theorem ZM (hC : zN Tryd.prog ctr) : ∀ (f : Int ⊕ (Int × Int) ⊕ z8) (x : zg) (r0 : Bool), KE f x = some r0 → ∀ us : List Value, us.length = 3 → vX Tryd.prog (zC f) ([] ++ .agg (us.map .atom) :: []) (YP us [zr (eI .i64) eB x.states_, zr F0_ eB x.edges_, zr zD eB x.pairs_]) (B r0) ([zr (eI .i64) eB x.states_, zr F0_ eB x.edges_, zr zD eB x.pairs_].map fun e => .opq (y7 e)) := by
 intro f x r0 aa us hus
 rcases f with c | c | c
 ·exact V7 hC c x r0 aa us hus
 ·exact V6 hC c.1 c.2 x r0 aa us hus
 ·exact V5 hC c x r0 aa us hus
def vb : Code := (Tryd.f55.body).getD .skip
def ya : yi := spF (α := List z8) (ρ := List z8) 55 (fun x => [(eSl 3 false zD) x]) (fun r => (eSl 3 true zD) r) (fun x => yh x) [] (Jl)
theorem vg (hC : zN Tryd.prog ctr) : ya.Ok Tryd.prog := by
 refine zV ?_
 rintro s_ r0 aa
 try unfold yh at aa
 refine yO true [(2, none)] vb 9 Tryd.func55 fun E hE => ?_
 obtain ⟨g0, aa⟩ := gdE aa
 obtain rfl := zk aa
 exact yE X0 hC hE [Ha (lnM zD s_), Ha (lnM zD s_), Hn (slB g0), Hn (slC g0), Hn (zaR zD g0), Ha (zfF 3 zD s_ 0 ((s_.length : Nat) : Int).toNat)]
def wX : Code := (Tryd.f38.body).getD .skip
def uc : yi := spF (α := z7 × List (List Int) × Int) (ρ := List z8 × Int) 38 (fun x => [yT x.1, YK x.2.1, (eI .i64) x.2.2]) (fun r => .tup [(eSl 3 true zD) r.1, (eI .i64) r.2]) (fun x => qY x.1 x.2.1 x.2.2) [] (z9I)
abbrev YH (out : List z8) : List (Nat × T) := [(10, .own (eOs 3 false zD out))]
abbrev YG (ah : zg) (ap : List za) (au : Int) (bc : List z8) : List (Nat × T) := [(9, .own (.box ((zP (eMp (eI .i64) eB) (eMp F0_ eB) (eMp zD eB)) ah))), (10, .own (eOs 3 false zD bc)), (24, .own (eOs 5 false (zb F7_ zD zC) ap)), (25, .d (I ((ap.length : Nat) : Int))), (26, .d (I au))]
abbrev YF (ah : zg) (ap : List za) (aj : List z8) (au : Int) : List (Nat × T) := [(9, .own (.box ((zP (eMp (eI .i64) eB) (eMp F0_ eB) (eMp zD eB)) ah))), (10, .own (eOs 3 false zD aj)), (24, .own (eOs 5 false (zb F7_ zD zC) ap)), (25, .d (I ((ap.length : Nat) : Int))), (26, .d (I au))]
theorem W1 (hC : zN Tryd.prog ctr) (h04 : ctr.Has xL) (h02 : ctr.Has x3) (h05 : ctr.Has wy) (h0m : ctr.Has ya) : uc.Ok Tryd.prog := by
 refine zV ?_
 rintro ⟨m_, l_, goal⟩ r0 aa
 try unfold qY at aa
 refine yO false [(6, none), (7, none)] wX 43 Tryd.func38 fun E hE => ?_
 obtain ⟨r_, h0, aa⟩ := zn aa
 let Z0 : List HO := [Hc h04 (x := (m_, l_)) h0 (loC yT m_ <| loC YK l_ <| loN)]
 rcases yb aa with ⟨c0, aa⟩ | ⟨c0, aa⟩
 ·obtain rfl := zk aa
  exact yEx X0 hC hE (Z0 ++ [Hq c0, Hm (shM zD zD [])]) (.tup [eSl 3 true zD [], I r_]) (show LeV (.tup [eSl 3 true zD [], I r_]) (.tup [eSl 3 true zD ([] : List z8), I r_]) from inferInstance)
 ·obtain ⟨ah, h1, aa⟩ := zn aa
  refine yJ X0 hC wX [1,1,1,1] [] [10] (fun z : List z8 => ue z = some r0) (fun z => YH z) [(2, .d (I goal)), (3, .own (.box (yT m_))), (9, .own (.box ((zP (eMp (eI .i64) eB) (eMp F0_ eB) (eMp zD eB)) ah))), (10, .own (eOs 3 true zD []))] (Z0 ++ [Hq c0, Hc h02 (x := (m_, l_)) h1 (loC yT m_ <| loC YK l_ <| loN), Hh (.cut 1)]) ?_ fun J1 az => ?_
  ·rintro out aa
   unfold ue at aa
   obtain ⟨al, h2, aa⟩ := zn aa
   obtain rfl := zk aa
   exact yE X0 hC hE [Hg (J8 h0m), Hm (shM zD zD out), Hs (J9 h0m (x := out) h2 (loC (eSl 3 false zD) out <| loN)), Hm (shM zD zD out)]
  ·obtain ⟨ap, h3, aa⟩ := zn aa
   obtain ⟨t2, ht2, aa⟩ := zn aa
   refine yLx X0 hC wX [1,1,1,1,2,1,0] [J1] (fun s => ud ah ap s.1 s.2) (fun x => YF ah ap x.1 x.2) (([] : List z8), 0) ht2 [(9, .own (.box ((zP (eMp (eI .i64) eB) (eMp F0_ eB) (eMp zD eB)) ah))), (10, .own (eOs 3 true zD [])), (24, .own (eOs 5 false (zb F7_ zD zC) ap)), (25, .d (I ((ap.length : Nat) : Int))), (26, .d (I 0))] inferInstance [Hc h05 (x := (m_, goal)) h3 (loC yT m_ <| loC (eI .i64) goal <| loN), Ha (lnM (zb F7_ zD zC) ap)] ?_
   rintro ⟨aj, au⟩ m2 bl ae hl1 J2 a8
   try unfold ud at ae
   rcases yb ae with ⟨c1, ae⟩ | ⟨c1, ae⟩
   ·refine yJ X0 hC wX [1,1,1,1,2,1,0,0,1,1] [J1, J2] [9,10,24,25,26] (fun z : List z8 => wW au z = some bl) (fun z => YG ah ap au z) [(9, .own (.box ((zP (eMp (eI .i64) eB) (eMp F0_ eB) (eMp zD eB)) ah))), (10, .own (eOs 3 false zD aj)), (24, .own (eOs 5 false (zb F7_ zD zC) ap)), (25, .d (I ((ap.length : Nat) : Int))), (26, .d (I au))] [Hq c1, Hh (.cut 0)] ?_ fun J3 cd => ?_
    ·rintro bc ae
     unfold wW at ae
     obtain rfl := zk ae
     exact yB X0 hC a8 (bc, w64 (au + 1)) hl1 []
    ·obtain ⟨bv, h4, ae⟩ := zn ae
     obtain ⟨aw, h5, ae⟩ := zn ae
     let Z1 : List HO := [Hn (iL (zb F7_ zD zC) h4), Hs (iM (zb F7_ zD zC) h4), Hn (⟨rfl, leP (show V2 [] [] from inferInstance), leP (show V2 [] [] from inferInstance), rfl, rfl⟩ : ([zC bv.has_] : List A) = [zC bv.has_] ∧ LeP [] [] ∧ LeP [] [] ∧ T.als 9 [.deref] 0 0 = T.als 9 [.deref] 0 0 ∧ (some (.agg [.opq (y7 (zr (eI .i64) eB ah.states_)), .opq (y7 (zr F0_ eB ah.edges_)), .opq (y7 (zr zD eB ah.pairs_))]) : Option A) = some (.agg [.opq (y7 (zr (eI .i64) eB ah.states_)), .opq (y7 (zr F0_ eB ah.edges_)), .opq (y7 (zr zD eB ah.pairs_))]))]
     rcases yb ae with ⟨c2, ae⟩ | ⟨c2, ae⟩
     ·obtain ⟨g0, ae⟩ := gdE ae
      exact yB ((ZJ (P := Tryd.prog) wr 9 0 [.deref] (fa := zC bv.has_) (r := B aw) (xl := []) (xr := []) (qs := [(y7 (zr (eI .i64) eB ah.states_)), (y7 (zr F0_ eB ah.edges_)), (y7 (zr zD eB ah.pairs_))]) (qs' := [(y7 (zr (eI .i64) eB ah.states_)), (y7 (zr F0_ eB ah.edges_)), (y7 (zr zD eB ah.pairs_))]) (es := [(zr (eI .i64) eB ah.states_), (zr F0_ eB ah.edges_), (zr zD eB ah.pairs_)]) (es' := [(zr (eI .i64) eB ah.states_), (zr F0_ eB ah.edges_), (zr zD eB ah.pairs_)]) (.inr rfl) (z3c (by kernel_rfl)) (.cons (xV (zr (eI .i64) eB ah.states_)) (.cons (xV (zr F0_ eB ah.edges_)) (.cons (xV (zr zD eB ah.pairs_)) (.nil)))) (fun us hu => ZM hC _ _ _ h5 us hu) (some 33)).or X0) hC cd (aj ++ ([bv.pair_] : List z8)) ae (Z1 ++ [Hq c2, Hq (dM zD ([bv.pair_] : List z8)), Hn (dM zD ([bv.pair_] : List z8)), Hn (aL zD zD g0), Hl (aM zD aj ([bv.pair_] : List z8))])
     ·exact yB ((ZJ (P := Tryd.prog) wr 9 0 [.deref] (fa := zC bv.has_) (r := B aw) (xl := []) (xr := []) (qs := [(y7 (zr (eI .i64) eB ah.states_)), (y7 (zr F0_ eB ah.edges_)), (y7 (zr zD eB ah.pairs_))]) (qs' := [(y7 (zr (eI .i64) eB ah.states_)), (y7 (zr F0_ eB ah.edges_)), (y7 (zr zD eB ah.pairs_))]) (es := [(zr (eI .i64) eB ah.states_), (zr F0_ eB ah.edges_), (zr zD eB ah.pairs_)]) (es' := [(zr (eI .i64) eB ah.states_), (zr F0_ eB ah.edges_), (zr zD eB ah.pairs_)]) (.inr rfl) (z3c (by kernel_rfl)) (.cons (xV (zr (eI .i64) eB ah.states_)) (.cons (xV (zr F0_ eB ah.edges_)) (.cons (xV (zr zD eB ah.pairs_)) (.nil)))) (fun us hu => ZM hC _ _ _ h5 us hu) (some 33)).or X0) hC cd aj ae (Z1 ++ [Hq c2])
   ·obtain rfl := zk ae
    obtain rfl := hl1
    exact yB X0 hC az aj aa [Hq c1]
def qq : Code := (Tryd.f17.body).getD .skip
def uY : yi := spF (α := z7 × List (List Int)) (ρ := List (x6 Int) × Int) 17 (fun x => [yT x.1, YK x.2]) (fun r => .tup [(eSl 2 true F0_) r.1, (eI .i64) r.2]) (fun x => kR x.1 x.2) [] (VQ)
abbrev Xw (r_ : List z8 × Int) (out : List (x6 Int)) : List (Nat × T) := [(7, .d (I r_.2)), (8, .own (z5O 2 ((r_.1.length : Nat) : Int).toNat F0_ out))]
abbrev Xv (r_ : List z8 × Int) (aj : List (x6 Int)) (gm : Int) : List (Nat × T) := [(7, .d (I r_.2)), (8, .own (z5O 2 ((r_.1.length : Nat) : Int).toNat F0_ aj)), (20, .d (eSl 3 true zD r_.1)), (21, .d (I ((r_.1.length : Nat) : Int))), (22, .d (I gm))]
theorem V8 (hC : zN Tryd.prog ctr) (h0M : ctr.Has uc) : uY.Ok Tryd.prog := by
 refine zV ?_
 rintro ⟨m_, l_⟩ r0 aa
 try unfold kR at aa
 refine yO false [(4, none), (5, none)] qq 37 Tryd.func17 fun E hE => ?_
 obtain ⟨r_, h0, aa⟩ := zn aa
 obtain ⟨g0, aa⟩ := gdE aa
 refine yJ ((xCm zB 19 2).or X0) hC qq [1,1,1] [] [7,8] (fun z : List (x6 Int) => qo r_ z = some r0) (fun z => Xw r_ z) [(6, .d (eSl 3 true zD r_.1)), (7, .d (I r_.2)), (8, .own (z5O 2 ((r_.1.length : Nat) : Int).toNat F0_ ([] : List (x6 Int))))] [Hc h0M (x := (m_, l_, 1)) h0 (loC yT m_ <| loC YK l_ <| loC (eI .i64) 1 <| loN), Ha (lnM zD r_.1), Hn (zg8 g0), Hh (.cut 0)] ?_ fun J1 az => ?_
 ·rintro out aa
  unfold qo at aa
  obtain ⟨g1, aa⟩ := gdE aa
  obtain rfl := zk aa
  exact yE ((xCe Tryd.prog 4 2 (((r_.1.length : Nat) : Int).toNat) (out.map F0_)).or X0) hC hE [Hn (⟨rfl, zga F0_ g1⟩ : z5O 2 (((r_.1.length : Nat) : Int).toNat) F0_ out = A.opq (z12 2 (((r_.1.length : Nat) : Int).toNat) (out.map F0_)).q ∧ (out.map F0_).length = ((r_.1.length : Nat) : Int).toNat), Hm (shM F0_ F0_ out)]
 ·obtain ⟨t2, ht2, aa⟩ := zn aa
  refine yL X0 hC qq [1,1,1,2,1,0] [J1] (fun s => qn r_ s.1 s.2) (fun x => Xv r_ x.1 x.2) (([] : List (x6 Int)), 0) ht2  [Ha (lnM zD r_.1)] ?_
  rintro ⟨aj, gm⟩ m2 bl ae hl1 J2 a8
  try unfold qn at ae
  rcases yb ae with ⟨c0, ae⟩ | ⟨c0, ae⟩
  ·obtain ⟨u_, h1, ae⟩ := zn ae
   obtain ⟨g2, ae⟩ := gdE ae
   obtain rfl := zk ae
   exact yB ((xCa zB 33 2 (((r_.1.length : Nat) : Int).toNat) (aj.map F0_) ((aj ++ ([(x6.mk u_.State u_.Input)] : List (x6 Int))).map F0_)).or X0) hC a8 ((aj ++ ([(x6.mk u_.State u_.Input)] : List (x6 Int))), w64 (gm + 1)) hl1 [Hq c0, Hi zD h1, Hn (⟨rfl, dM F0_ ([(x6.mk u_.State u_.Input)] : List (x6 Int)), rfl⟩ : 2 = 2 ∧ A.areD (([(x6.mk u_.State u_.Input)] : List (x6 Int)).map F0_) = true ∧ true = true), Hn (⟨rfl, zg9 F0_ F0_ g2⟩ : z5O 2 (((r_.1.length : Nat) : Int).toNat) F0_ aj = A.opq (z12 2 (((r_.1.length : Nat) : Int).toNat) (aj.map F0_)).q ∧ (aj.map F0_).length + (([(x6.mk u_.State u_.Input)] : List (x6 Int)).map F0_).length ≤ ((r_.1.length : Nat) : Int).toNat), Hn (aM F0_ aj ([(x6.mk u_.State u_.Input)] : List (x6 Int)))]
  ·obtain rfl := zk ae
   obtain rfl := hl1
   exact yB X0 hC az aj aa [Hq c0]
def ZZ : Code := (Tryd.f66.body).getD .skip
def wZ : yi := spF (α := List (List Int)) (ρ := List (List Int)) 66 (fun x => [YK x]) (fun r => z5I r) (fun x => vV x) [] (Jl)
theorem Y6 (hC : zN Tryd.prog ctr) : wZ.Ok Tryd.prog := by
 refine zV ?_
 rintro s_ r0 aa
 try unfold vV at aa
 refine yO true [(2, none)] ZZ 8 Tryd.func66 fun E hE => ?_
 refine z1L rfl 0 (sz := 1) (t := false) (es := s_.map F7_) (by kernel_rfl) fun ax hv0 hn => ?_
 rcases hn with ⟨hn0, he0⟩ | hn0
 ·obtain ⟨_, aa⟩ := gdE aa
  rw [show s_ = [] from List.map_eq_nil_iff.1 he0] at aa
  obtain rfl := zk aa
  exact yEx ((zad zB 4 31 (by kernel_rfl) hn0).or ((xMv Tryd.prog 3 0 ax hv0).or X0)) hC hE [Hn (rfl : some ax = some ax), Hn (⟨rfl, rfl⟩ : T.d (.atom ax) = T.d (.atom ax) ∧ T.d (.atom (.slice none 0 0)) = T.d (.atom (.slice none 0 0))), qT] (eOs 1 true F7_ []) (show LeV (eOs 1 true F7_ []) (eOs 1 false F7_ ([] : List (List Int))) from inferInstance)
 ·obtain ⟨g0, aa⟩ := gdE aa
  obtain rfl := zk aa
  exact yE ((zad zB 4 31 (by kernel_rfl) hn0).or ((xMv Tryd.prog 3 0 ax hv0).or X0)) hC hE [Hn (rfl : some ax = some ax), Hn (⟨rfl, rfl⟩ : T.d (.atom ax) = T.d (.atom ax) ∧ T.d (.atom (.slice none 0 0)) = T.d (.atom (.slice none 0 0))), qF, Hn (dM F7_ s_), Hn (aL F7_ F7_ g0), Hl (aM0 F7_ s_)]
def Vt : Code := (Tryd.f71.body).getD .skip
def qQ : yi := spF (α := List Int × List Int) (ρ := Bool) 71 (fun x => [F7_ x.1, F7_ x.2]) (fun r => eB r) (fun x => ja x.1 x.2) [] (VQ)
theorem VY (hC : zN Tryd.prog ctr) (h08 : ctr.Has vA) : qQ.Ok Tryd.prog := by
 refine zV ?_
 rintro ⟨a_, b_⟩ r0 aa
 try unfold ja at aa
 refine yO true [(4, none)] Vt 9 Tryd.func71 fun E hE => ?_
 obtain ⟨r_, h0, aa⟩ := zn aa
 obtain rfl := zk aa
 exact yE X0 hC hE [Hc h08 (x := (a_, b_)) h0 (loC F7_ a_ <| loC F7_ b_ <| loN)]
def zR : Code := (Tryd.f70.body).getD .skip
def xy : yi := spF (α := List (List Int) × Unit) (ρ := List (List Int)) 70 (fun x => [z5I x.1, (zal 71) x.2]) (fun r => z5I r) (fun x => wc x.1 x.2) [true, false] (by
 rintro ⟨a0, a1⟩ ⟨b0, b1⟩ h
 have e0 := uW.inj (f := z5I) _ _ (List.cons.inj h).1
 replace h := (List.cons.inj h).2
 have e1 := uW.inj (f := (zal 71)) _ _ (List.cons.inj h).1
 subst e0 e1
 rfl)
abbrev qB (s_ : List (List Int)) : List (Nat × T) := [(0, .own (eOs 1 false F7_ s_))]
abbrev qA (s_ : List (List Int)) (k_ : Int) : List (Nat × T) := [(0, .own (eOs 1 false F7_ s_)), (1, .d (.fn 71 [])), (5, .d (I k_))]
abbrev qz (dp : List (List Int)) (cn : Int) : List (Nat × T) := [(0, .own (eOs 1 false F7_ dp)), (5, .d (I cn))]
abbrev qw (ax : Value) (k_ : Int) (k2 : Int) (gx : List (List Int)) (gy : Int) : List (Nat × T) := [(0, .own (eOs 1 false F7_ gx)), (1, .d (.fn 71 [])), (5, .d (I gy)), (6, .d (.atom (Zw 1 ax k_))), (7, .d (I k2))]
abbrev qt (ax : Value) (k_ : Int) (dc : List (List Int)) (eb : Int) (k2 : Int) : List (Nat × T) := [(0, .own (eOs 1 false F7_ dc)), (1, .d (.fn 71 [])), (5, .d (I eb)), (6, .d (.atom (Zw 1 ax k_))), (7, .d (I k2))]
abbrev qu (s_ : List (List Int)) (k_ : Int) : List (Nat × T) := [(0, .own (eOs 1 false F7_ s_)), (1, .d (.fn 71 [])), (5, .d (I k_))]
def zw : XH Tryd.prog := ((zgr zB 64).or X0)
theorem jx (hC : zN Tryd.prog ctr) (h0n : ctr.Has qQ) : xy.Ok Tryd.prog := by
 refine zV ?_
 rintro ⟨s_, eq⟩ r0 aa
 try unfold wc at aa
 refine yO true [(4, none)] zR 66 Tryd.func70 fun E hE => ?_
 refine z5t (y := eOs 1 false F7_ s_) rfl 0 (by kernel_rfl) (by kernel_rfl) fun ax hv0 => ?_
 let Z0 : List HO := [Ha (lnM F7_ s_)]
 rcases yb aa with ⟨c0, aa⟩ | ⟨c0, aa⟩
 ·obtain rfl := zk aa
  exact yE zw hC hE (Z0 ++ [Hq c0])
 ·refine yJ zw hC zR [1,1] [] [0] (fun z : Unit => xE s_ = some r0) (fun z => qB s_) [(0, .own (eOs 1 false F7_ s_)), (1, .d (.fn 71 []))] (Z0 ++ [Hq c0, Hh (.cut 0)]) ?_ fun J1 az => ?_
  ·rintro ⟨⟩ aa
   unfold xE at aa
   obtain rfl := zk aa
   exact yE zw hC hE []
  ·obtain ⟨t2, ht2, aa⟩ := zn aa
   refine yL zw hC zR [1,1,2,1,0] [J1] (fun s => xA s_ s) (fun x => qu s_ x) 1 ht2  [] ?_
   rintro k_ m2 bl ae hl1 J2 a8
   try unfold xA at ae
   let Z1 : List HO := [Ha (lnM F7_ s_)]
   rcases yb ae with ⟨c1, ae⟩ | ⟨c1, ae⟩
   ·refine yJ zw hC zR [1,1,2,1,0,0,1] [J1, J2] [0,1,5] (fun z : Unit => xD k_ = some bl) (fun z => qA s_ k_) [(0, .own (eOs 1 false F7_ s_)), (1, .d (.fn 71 [])), (5, .d (I k_))] (Z1 ++ [Hq c1, Hh (.cut 0)]) ?_ fun J3 cd => ?_
    ·rintro ⟨⟩ ae
     unfold xD at ae
     obtain rfl := zk ae
     exact yB zw hC a8 (w64 (k_ + 1)) hl1 []
    ·obtain ⟨dh, h0, ae⟩ := zn ae
     obtain ⟨ge, h1, ae⟩ := zn ae
     obtain ⟨r_, h2, ae⟩ := zn ae
     let Z2 : List HO := [Hn (iL F7_ h0), Hs (iM F7_ h0), Hn (iL F7_ h1), Hs (iM F7_ h1), Hc h0n (x := (dh, ge)) h2 (loC F7_ dh <| loC F7_ ge <| loN)]
     rcases yb ae with ⟨c2, ae⟩ | ⟨c2, ae⟩
     ·obtain ⟨g0, ae⟩ := gdE ae
      refine yJ ((xAs Tryd.prog 6 (Zw 1 ax k_)).or ((xVw zB 31 0 ax).or zw)) hC zR [1,1,2,1,0,0,1,2,0,1,0,1] [J1, J2, J3] [0,5] (fun z : List (List Int) × Int => xC z.1 z.2 = some bl) (fun z => qz z.1 z.2) [(0, .own (eOs 1 false F7_ s_)), (1, .d (.fn 71 [])), (5, .d (I k_)), (6, .d (.atom (Zw 1 ax k_)))] (Z2 ++ [Hq c2, Hn (⟨.inl rfl, rfl⟩ : (T.als 0 [] 0 0 = T.als 0 [] 0 0 ∨ T.als 0 [] 0 0 = T.d (.atom ax)) ∧ some ax = some ax), Hn (⟨g0.1, cuB F7_ g0⟩ : (0 : Int) ≤ k_ ∧ k_.toNat ≤ (s_.map F7_).length), Hn (rfl : T.d (.atom (Zw 1 ax k_)) = T.d (.atom (Zw 1 ax k_))), Hh (.cut 1)]) ?_ fun J4 ep => ?_
      ·rintro ⟨dp, cn⟩ ae
       unfold xC at ae
       obtain ⟨g1, ae⟩ := gdE ae
       obtain ⟨g2, ae⟩ := gdE ae
       obtain ⟨g3, ae⟩ := gdE ae
       obtain rfl := zk ae
       obtain rfl := hl1
       obtain rfl := zk aa
       exact yE ((xVc zB 61 1 0 ax cn).or ((xVw zB 61 0 ax).or zw)) hC hE [Hn (⟨.inl rfl, rfl⟩ : (T.als 0 [] 0 0 = T.als 0 [] 0 0 ∨ T.als 0 [] 0 0 = T.d (.atom ax)) ∧ some ax = some ax), Hn (⟨g1.1, cuB F7_ g1⟩ : (0 : Int) ≤ cn ∧ cn.toNat ≤ (dp.map F7_).length), Hn (⟨rfl, rfl⟩ : T.d (.atom (Zw 1 ax cn)) = T.d (.atom (Zw 1 ax cn)) ∧ some ax = some ax), Hn (⟨g2.1, cuB F7_ g2, dM F7_ dp⟩ : (0 : Int) ≤ cn ∧ cn.toNat ≤ (dp.map F7_).length ∧ A.areD (dp.map F7_) = true), Hx (.l ((dp.take cn.toNat ++ List.replicate (dp.length - cn.toNat) []).map F7_)) (vcM F7_ dp cn.toNat ([] : List Int)), Hn g3.1, Hn (cuB F7_ g3), Hl (cuM F7_ (dp.take cn.toNat ++ List.replicate (dp.length - cn.toNat) []) cn)]
      ·obtain ⟨t5, ht5, ae⟩ := zn ae
       refine yL zw hC zR [1,1,2,1,0,0,1,2,0,1,0,1,2,1,0] [J1, J2, J3, J4] (fun s => xz k_ s.1 s.2.1 s.2.2) (fun x => qt ax k_ x.1 x.2.1 x.2.2) (s_, k_, 1) ht5  [] ?_
       rintro ⟨dc, eb, k2⟩ m5 fk ai hl2 J5 dy
       try unfold xz at ai
       let Z3 : List HO := [Hn (⟨rfl, rfl⟩ : T.d (.atom (Zw 1 ax k_)) = T.d (.atom (Zw 1 ax k_)) ∧ some ax = some ax), Hx (.a (.atom (.int .i64 ((dc.length - k_.toNat : Nat) : Int)))) (vlM F7_ dc k_.toNat)]
       rcases yb ai with ⟨c3, ai⟩ | ⟨c3, ai⟩
       ·refine yJ ((xVl zB 34 31 1 0 ax k_ (by kernel_rfl)).or zw) hC zR [1,1,2,1,0,0,1,2,0,1,0,1,2,1,0,0,1] [J1, J2, J3, J4, J5] [0,1,5,6,7] (fun z : List (List Int) × Int => yu k2 z.1 z.2 = some fk) (fun z => qw ax k_ k2 z.1 z.2) [(0, .own (eOs 1 false F7_ dc)), (1, .d (.fn 71 [])), (5, .d (I eb)), (6, .d (.atom (Zw 1 ax k_))), (7, .d (I k2))] (Z3 ++ [Hq c3, Hh (.cut 0)]) ?_ fun J6 fl => ?_
        ·rintro ⟨gx, gy⟩ ai
         unfold yu at ai
         obtain rfl := zk ai
         exact yB zw hC dy (gx, gy, w64 (k2 + 1)) hl2 []
        ·obtain ⟨g4, ai⟩ := gdE ai
         obtain ⟨ga, h3, ai⟩ := zn ai
         obtain ⟨g5, ai⟩ := gdE ai
         obtain ⟨gb, h4, ai⟩ := zn ai
         obtain ⟨ah, h5, ai⟩ := zn ai
         let Z4 : List HO := [Hn (⟨rfl, rfl⟩ : T.d (.atom (Zw 1 ax k_)) = T.d (.atom (Zw 1 ax k_)) ∧ some ax = some ax), Hn (⟨g4.1, g4.2, (iL F7_ h3).2⟩ : (0 : Int) ≤ k_ ∧ (0 : Int) ≤ k2 ∧ (k_ + k2).toNat < (dc.map F7_).length), Hs (iM F7_ h3), Hn (⟨rfl, rfl⟩ : T.d (.atom (Zw 1 ax k_)) = T.d (.atom (Zw 1 ax k_)) ∧ some ax = some ax), Hn (⟨g5.1, g5.2, (iL F7_ h4).2⟩ : (0 : Int) ≤ k_ ∧ (0 : Int) ≤ w64 (k2 - 1) ∧ (k_ + (w64 (k2 - 1))).toNat < (dc.map F7_).length), Hs (iM F7_ h4), Hc h0n (x := (ga, gb)) h5 (loC F7_ ga <| loC F7_ gb <| loN)]
         rcases yb ai with ⟨c4, ai⟩ | ⟨c4, ai⟩
         ·obtain ⟨g6, ai⟩ := gdE ai
          obtain ⟨gc, h6, ai⟩ := zn ai
          obtain ⟨im, h7, ai⟩ := zn ai
          exact yB ((xVi zB 54 1 0 ax k_).or ((xVi zB 46 1 0 ax k_).or ((xVi zB 41 1 0 ax k_).or zw))) hC fl ((dc.set eb.toNat gc), w64 (eb + 1)) ai (Z4 ++ [Hq c4, Hn (⟨rfl, rfl⟩ : T.d (.atom (Zw 1 ax k_)) = T.d (.atom (Zw 1 ax k_)) ∧ some ax = some ax), Hn (⟨g6.1, g6.2, (iL F7_ h6).2⟩ : (0 : Int) ≤ k_ ∧ (0 : Int) ≤ k2 ∧ (k_ + k2).toNat < (dc.map F7_).length), Hs (iM F7_ h6), Hn (iL F7_ h7), Hs (iM F7_ h7), Hs (iM F7_ h7), Hl (sM F7_ dc eb gc)])
         ·exact yB ((xVi zB 46 1 0 ax k_).or ((xVi zB 41 1 0 ax k_).or zw)) hC fl (dc, eb) ai (Z4 ++ [Hq c4])
       ·obtain rfl := zk ai
        obtain rfl := hl2
        exact yB ((xVl zB 34 31 1 0 ax k_ (by kernel_rfl)).or zw) hC ep (dc, eb) ae (Z3 ++ [Hq c3])
     ·exact yB zw hC cd () ae (Z2 ++ [Hq c2])
   ·obtain rfl := zk ae
    obtain rfl := hl1
    exact yB zw hC az () aa (Z1 ++ [Hq c1])
def Zf : Code := (Tryd.f69.body).getD .skip
def yn : yi := spR (α := List (List Int)) (ρ := List (List Int)) 69 (fun x => [z5I x]) (fun r => (eOs 1 true F7_) r) (fun x => xW x) [true] (Jl)
theorem Zc : ∀ x r, (fun x => xW x) x = some r → (Jm.add yn).run 69 ((Jm.add yn).norm 69 ((fun x => [z5I x]) x)) = some ((fun r => (eOs 1 true F7_) r) r) := fun x r h => zgV h rfl
theorem Zd : (Jm.add yn).lend 69 = none ∧ (Jm.add yn).gives 69 = [true] := ze9
theorem wM (hC : zN Tryd.prog ctr) : yn.Ok Tryd.prog := by
 refine zaQ ?_
 rintro s_ r0 aa
 try unfold xW at aa
 refine yO true [(2, none)] Zf 9 Tryd.func69 fun E hE => ?_
 obtain rfl := zk aa
 exact yE ((xCl zB 8).or X0) hC hE [Ha (lnM F7_ s_), Ha (lnM F7_ s_), Hn (Int.natCast_nonneg _ : (0 : Int) ≤ ((s_.length : Nat) : Int)), Hn (Int.natCast_nonneg _ : (0 : Int) ≤ ((s_.length : Nat) : Int)), Hn (clB F7_ s_), Ha (clE 1 F7_ s_)]
def wm : Code := (Tryd.f51.body).getD .skip
def kw : yi := spF (α := List (List Int)) (ρ := List (List Int) × Int) 51 (fun x => [YK x]) (fun r => .tup [z3o r.1, (eI .i64) r.2]) (fun x => Xa x) [] (Jl)
abbrev WZ (out : List (List Int × Bool)) : List (Nat × T) := [(4, .own (eOs 1 true (eFl 1 (eI .i64)) out))]
abbrev WY (cu : Value) (al : List (List Int)) (bc : List (List Int × Bool)) (ee : Int) : List (Nat × T) := [(4, .own (eOs 1 true (eFl 1 (eI .i64)) bc)), (22, .d (.atom (Zw 1 cu (0 : Int)))), (23, .d (I ((al.length - (0 : Int).toNat : Nat) : Int))), (24, .d (I ee))]
theorem Je (hC : zN Tryd.prog ctr) (h0N : ctr.Has wZ) (h08 : ctr.Has vA) (h0O : ctr.Has xy) (h0a : ctr.Has jd) (h01 : ctr.Has yc) (h00 : ctr.Has yg) : kw.Ok Tryd.prog := by
 refine zV ?_
 rintro l_ r0 aa
 try unfold Xa at aa
 refine yO false [(2, none), (3, none)] wm 37 Tryd.func51 fun E hE => ?_
 obtain ⟨r_, h0, aa⟩ := zn aa
 refine yA X0 hC wm [1,1] [] [(4, .own (eOs 1 false F7_ r_))] [Hc h0N (x := l_) h0 (loC YK l_ <| loN), Hh (.cut 0)] ?_
 obtain ⟨sorted, h1, aa⟩ := zn aa
 refine z15 (by kernel_rfl) (x := (sub [1,1,0] wm)) (y := (sub [1,1,1] wm)) 4 (fun st1 => Own.canon [4] st1 = ofL [(4, .own (eOs 1 false F7_ sorted))]) (fun cu => yF ((zdv (P := Tryd.prog) wr [4] (z3Q zdG (f := F7_) (t := false) (v := cu) (fun _ => rfl) (fun _ => rfl) (fun x y c h => z9N hC h08 (x := (x, y)) h) h1) 10).or X0) hC .normal [(4, .own (eOs 1 false F7_ sorted))] [Hn (z8X (f := .fn 67 []) (xs := [.atom cu, .fn 68 []]) (ls := [(cu, eOs 1 false F7_ r_)]) (r := .tup []) (ys := [eOs 1 false F7_ sorted]) [.atom cu, .fn 68 []] (show V2 [.atom cu, .fn 68 []] [.atom cu, .fn 68 []] from inferInstance))] fun st0 h0 => ⟨rfl, h0⟩) fun st1 h1 => z5u h1 ?_
 obtain ⟨ah, h2, aa⟩ := zn aa
 obtain ⟨al, h3, aa⟩ := zn aa
 let Z0 : List HO := [Hc h0O (x := (sorted, ())) h2 (loC z5I sorted <| loC (zal 71) () <| loN), Hh (.g [true]), Hn Zd, Hx (.a ((eOs 1 true F7_) al)) (Zc ah _ h3), Ha (lnM F7_ al)]
 rcases yb aa with ⟨c0, aa⟩ | ⟨c0, aa⟩
 ·obtain rfl := zk aa
  exact yEx ((z8i zB (wM hC) 13).or X0) hC hE (Z0 ++ (rpN 4 (Hq c0) [qT, Hm (shM F7_ F7_ [])])) (.tup [eSl 1 true F2_ [], I 3]) (show LeV (.tup [eSl 1 true F2_ [], I 3]) (.tup [eSl 1 true F2_ ([] : List (List Int)), I 3]) from inferInstance)
 ·obtain ⟨ap, h4, aa⟩ := zn aa
  let Z1 : List HO := (Z0 ++ [Hq c0, Hq c0, Hg (J8 h0a), Hm (shM F7_ F7_ al), Hs (J9 h0a (x := al) h4 (loC zao al <| loN)), Hq c0, Hq c0])
  rcases yb aa with ⟨c1, aa⟩ | ⟨c1, aa⟩
  ·obtain rfl := zk aa
   exact yEx ((z8i zB (wM hC) 13).or X0) hC hE (Z1 ++ [Hq c1, Hm (shM F7_ F7_ [])]) (.tup [eSl 1 true F2_ [], I 3]) (show LeV (.tup [eSl 1 true F2_ [], I 3]) (.tup [eSl 1 true F2_ ([] : List (List Int)), I 3]) from inferInstance)
  ·refine yA ((z8i zB (wM hC) 13).or X0) hC wm [1,1,1,1,1] [] [(4, .own (eOs 1 true F7_ al))] (Z1 ++ [Hq c1, Hh (.cut 0)]) ?_
   refine z5t (y := eOs 1 true F7_ al) (by kernel_rfl) 4 (by kernel_rfl) (by kernel_rfl) fun cu hv4 => ?_
   refine yJ X0 hC wm [1,1,1,1,1] [] [4] (fun z : List (List Int × Bool) => kp z = some r0) (fun z => WZ z) [(4, .own (eOs 1 true F7_ al))] [Hh (.cut 0)] ?_ fun J1 az => ?_
   ·rintro out aa
    unfold kp at aa
    obtain ⟨hfl0, aa⟩ := gdE aa
    obtain rfl := zk aa
    exact yEx X0 hC hE [Hm (shM (eFl 1 (eI .i64)) (eFl 1 (eI .i64)) out)] (.tup [eSl 1 true (eFl 1 (eI .i64)) out, I 0]) (haveI := flA (s := 1) (t := 1) (b := true) (f := (eI .i64)) hfl0; show LeV (.tup [eSl 1 true (eFl 1 (eI .i64)) out, I 0]) (.tup [eSl 1 true F2_ (out.map (·.1)), I 0]) from inferInstance)
   ·obtain ⟨t2, ht2, aa⟩ := zn aa
    refine yLx ((xVl zB 23 31 1 4 cu (0 : Int) (by kernel_rfl)).or ((xMw Tryd.prog 22 4 1 cu).or X0)) hC wm [1,1,1,1,1,2,1,0] [J1] (fun s => ko al s.1 s.2) (fun x => WY cu al x.1 x.2) ((al.map fun q => (q, false)), 0) ht2 [(4, .own (eOs 1 true F7_ al)), (22, .d (.atom (Zw 1 cu (0 : Int)))), (23, .d (I ((al.length - (0 : Int).toNat : Nat) : Int))), (24, .d (I 0))] inferInstance [Hn (rfl : some cu = some cu), Hn (⟨rfl, rfl⟩ : T.d (.atom (Zw 1 cu (0 : Int))) = T.d (.atom (Zw 1 cu (0 : Int))) ∧ some cu = some cu), Hx (.a (.atom (.int .i64 ((al.length - (0 : Int).toNat : Nat) : Int)))) (vlM F7_ al (0 : Int).toNat)] ?_
    rintro ⟨bc, ee⟩ m2 bl ae hl1 J2 a8
    try unfold ko at ae
    rcases yb ae with ⟨c2, ae⟩ | ⟨c2, ae⟩
    ·obtain ⟨g0, ae⟩ := gdE ae
     obtain ⟨da, h5, ae⟩ := zn ae
     obtain ⟨aw, h6, ae⟩ := zn ae
     obtain ⟨bp, h7, ae⟩ := zn ae
     obtain ⟨d8, h8, ae⟩ := zn ae
     obtain rfl := zk ae
     exact yB ((xVi zB 27 1 4 cu (0 : Int)).or X0) hC a8 ((bc.set ee.toNat (bp, true)), w64 (ee + 1)) hl1 [Hq c2, Hn (⟨rfl, rfl⟩ : T.d (.atom (Zw 1 cu (0 : Int))) = T.d (.atom (Zw 1 cu (0 : Int))) ∧ some cu = some cu), Hn (⟨g0.1, g0.2, (iL (eFl 1 (eI .i64)) h5).2⟩ : (0 : Int) ≤ 0 ∧ (0 : Int) ≤ ee ∧ (0 + ee).toNat < (bc.map (eFl 1 (eI .i64))).length), Hs (iM (eFl 1 (eI .i64)) h5), Hc h01 (x := da.1) h6 (loC (eSl 1 da.2 (eI .i64)) da.1 <| loN), Hg (J8 h00), Hm (shM (eI .i64) (eI .i64) aw), Hs (J9 h00 (x := aw) h7 (loC F7_ aw <| loN)), Hm (shM (eI .i64) (eI .i64) aw), Hn (iL (eFl 1 (eI .i64)) h8), Hs (iM (eFl 1 (eI .i64)) h8), Hs (iM (eFl 1 (eI .i64)) h8), Hl (sM (eFl 1 (eI .i64)) bc ee (bp, true))]
    ·obtain rfl := zk ae
     obtain rfl := hl1
     exact yB X0 hC az bc aa [Hq c2]
def KK : Code := (Tryd.f33.body).getD .skip
def Ya : yi := spF (α := List (List Int) × Int) (ρ := List (List Int) × Int) 33 (fun x => [YK x.1, (eI .i64) x.2]) (fun r => .tup [z3o r.1, (eI .i64) r.2]) (fun x => Vc x.1 x.2) [] (VQ)
theorem z02 (hC : zN Tryd.prog ctr) (h0e : ctr.Has je) (h0P : ctr.Has kw) : Ya.Ok Tryd.prog := by
 refine zV ?_
 rintro ⟨l_, inputs⟩ r0 aa
 try unfold Vc at aa
 refine yO false [(4, none), (5, none)] KK 17 Tryd.func33 fun E hE => ?_
 obtain ⟨r_, h0, aa⟩ := zn aa
 let Z0 : List HO := [Hc h0e (x := (l_, inputs)) h0 (loC YK l_ <| loC (eI .i64) inputs <| loN)]
 rcases yb aa with ⟨c0, aa⟩ | ⟨c0, aa⟩
 ·obtain rfl := zk aa
  exact yEx X0 hC hE (Z0 ++ [Hq c0, Hm (shM F7_ F7_ [])]) (.tup [eSl 1 true F2_ [], I r_]) (show LeV (.tup [eSl 1 true F2_ [], I r_]) (.tup [eSl 1 true F2_ ([] : List (List Int)), I r_]) from inferInstance)
 ·obtain ⟨ah, h1, aa⟩ := zn aa
  obtain rfl := zk aa
  exact yE X0 hC hE (Z0 ++ [Hq c0, Hc h0P (x := l_) h1 (loC YK l_ <| loN)])
def xp : Code := (Tryd.f12.body).getD .skip
def uC : yi := spF (α := z7 × List (List Int) × Int) (ρ := List (List Int) × Int) 12 (fun x => [yT x.1, YK x.2.1, (eI .i64) x.2.2]) (fun r => .tup [z3o r.1, (eI .i64) r.2]) (fun x => jF x.1 x.2.1 x.2.2) [] (z9I)
abbrev X6 (m_ : z7) (aj : List (List Int)) : List (Nat × T) := [(3, .own (.box (yT m_))), (10, .own (eOs 1 false F2_ aj))]
abbrev X5 (m_ : z7) (ap : List za) (d9 : Int) (bh : List (Int × Bool)) (bo : List ((x6 Int) × Bool)) (a9 : List (z8 × Bool)) (cm : List (List Int)) : List (Nat × T) := [(3, .own (.box (yT m_))), (9, .own (.box (.agg [.opq (y7 (zr (eI .i64) eB bh)), .opq (y7 (zr F0_ eB bo)), .opq (y7 (zr zD eB a9))]))), (10, .own (eOs 1 false F2_ cm)), (48, .own (eOs 5 false (zb F7_ zD zC) ap)), (49, .d (I ((ap.length : Nat) : Int))), (50, .d (I d9))]
abbrev X4 (m_ : z7) (ap : List za) (ak : List (Int × Bool)) (am : List ((x6 Int) × Bool)) (aq : List (z8 × Bool)) (bc : List (List Int)) (d9 : Int) : List (Nat × T) := [(3, .own (.box (yT m_))), (9, .own (.box (.agg [.opq (y7 (zr (eI .i64) eB ak)), .opq (y7 (zr F0_ eB am)), .opq (y7 (zr zD eB aq))]))), (10, .own (eOs 1 false F2_ bc)), (48, .own (eOs 5 false (zb F7_ zD zC) ap)), (49, .d (I ((ap.length : Nat) : Int))), (50, .d (I d9))]
abbrev X7 (m_ : z7) (goal : Int) (ah : zg) (out : List (List Int)) : List (Nat × T) := [(2, .d (I goal)), (3, .own (.box (yT m_))), (9, .own (.box ((zP (eMp (eI .i64) eB) (eMp F0_ eB) (eMp zD eB)) ah))), (10, .own (eOs 1 false F2_ out))]
abbrev X3 (m_ : z7) (l_ : List (List Int)) (goal : Int) (ah : zg) (dg : List (List Int)) (gn : Int) : List (Nat × T) := [(2, .d (I goal)), (3, .own (.box (yT m_))), (9, .own (.box ((zP (eMp (eI .i64) eB) (eMp F0_ eB) (eMp zD eB)) ah))), (10, .own (eOs 1 false F2_ dg)), (33, .d (eSl 1 false F7_ l_)), (34, .d (I ((l_.length : Nat) : Int))), (35, .d (I gn))]
theorem WA (hC : zN Tryd.prog ctr) (h04 : ctr.Has xL) (h02 : ctr.Has x3) (h01 : ctr.Has yc) (h00 : ctr.Has yg) (h05 : ctr.Has wy) (h0o : ctr.Has Ya) : uC.Ok Tryd.prog := by
 refine zV ?_
 rintro ⟨m_, l_, goal⟩ r0 aa
 try unfold jF at aa
 refine yO false [(6, none), (7, none)] xp 81 Tryd.func12 fun E hE => ?_
 obtain ⟨r_, h0, aa⟩ := zn aa
 let Z0 : List HO := [Hc h04 (x := (m_, l_)) h0 (loC yT m_ <| loC YK l_ <| loN)]
 rcases yb aa with ⟨c0, aa⟩ | ⟨c0, aa⟩
 ·obtain rfl := zk aa
  exact yEx X0 hC hE (Z0 ++ [Hq c0, Hm (shM F7_ F7_ [])]) (.tup [eSl 1 true F2_ [], I r_]) (show LeV (.tup [eSl 1 true F2_ [], I r_]) (.tup [eSl 1 true F2_ ([] : List (List Int)), I r_]) from inferInstance)
 ·rcases yb aa with ⟨c1, aa⟩ | ⟨c1, aa⟩
  ·obtain rfl := zk aa
   exact yEx X0 hC hE (Z0 ++ [Hq c0, Hq c1, Hq c1, Hq c1, qT, Hm (shM F7_ F7_ [])]) (.tup [eSl 1 true F2_ [], I 1]) (show LeV (.tup [eSl 1 true F2_ [], I 1]) (.tup [eSl 1 true F2_ ([] : List (List Int)), I 1]) from inferInstance)
  ·let Z1 : List HO := (Z0 ++ [Hq c0, Hq c1, Hq c1, Hq c1])
   rcases yb aa with ⟨c2, aa⟩ | ⟨c2, aa⟩
   ·obtain rfl := zk aa
    exact yEx X0 hC hE (Z1 ++ [Hq c2, Hm (shM F7_ F7_ [])]) (.tup [eSl 1 true F2_ [], I 1]) (show LeV (.tup [eSl 1 true F2_ [], I 1]) (.tup [eSl 1 true F2_ ([] : List (List Int)), I 1]) from inferInstance)
   ·obtain ⟨ah, h1, aa⟩ := zn aa
    obtain ⟨g0, aa⟩ := gdE aa
    refine yJ X0 hC xp [1,1,1,1,1] [] [2,3,9,10] (fun z : List (List Int) => uN m_ goal ah z = some r0) (fun z => X7 m_ goal ah z) [(1, .d (eSl 1 false F7_ l_)), (2, .d (I goal)), (3, .own (.box (yT m_))), (9, .own (.box ((zP (eMp (eI .i64) eB) (eMp F0_ eB) (eMp zD eB)) ah))), (10, .own (eOs 1 (decide ((0 : Int) = ((l_.length : Nat) : Int))) F7_ []))] (Z1 ++ [Hq c2, Hc h02 (x := (m_, l_)) h1 (loC yT m_ <| loC YK l_ <| loN), Ha (lnM F7_ l_), Hn (rL0 g0), Hx (.a (eOs 1 (decide ((0 : Int) = ((l_.length : Nat) : Int))) F7_ ([] : List (List Int)))) (rM0 1 F7_ ((l_.length : Nat) : Int) (eOs 1 true (eI .i64) [])), Hh (.cut 0)]) ?_ fun J1 az => ?_
    ·rintro out aa
     unfold uN at aa
     refine yJ X0 hC xp [1,1,1,1,1,1] [] [3,10] (fun z : List (List Int) => uM m_ z = some r0) (fun z => X6 m_ z) [(2, .d (I goal)), (3, .own (.box (yT m_))), (9, .own (.box ((zP (eMp (eI .i64) eB) (eMp F0_ eB) (eMp zD eB)) ah))), (10, .own (eOs 1 false F2_ out))] [Hh (.cut 0)] ?_ fun J2 a8 => ?_
     ·rintro aj aa
      unfold uM at aa
      let Z2 : List HO := [Ha (lnM F2_ aj)]
      rcases yb aa with ⟨c3, aa⟩ | ⟨c3, aa⟩
      ·obtain rfl := zk aa
       exact yEx X0 hC hE (Z2 ++ [Hq c3, Hm (shM F7_ F7_ [])]) (.tup [eSl 1 true F2_ [], I 3]) (show LeV (.tup [eSl 1 true F2_ [], I 3]) (.tup [eSl 1 true F2_ ([] : List (List Int)), I 3]) from inferInstance)
      ·obtain ⟨al, h2, aa⟩ := zn aa
       obtain rfl := zk aa
       exact yE X0 hC hE (Z2 ++ [Hq c3, Hg (J8 h0o), Hm (shM F2_ F2_ aj), Hs (J9 h0o (x := (aj, m_.Inputs)) h2 (loC (eSl 1 false F2_) aj <| loC (eI .i64) m_.Inputs <| loN)), Hm (shM F2_ F2_ aj)])
     ·obtain ⟨ap, h3, aa⟩ := zn aa
      obtain ⟨t3, ht3, aa⟩ := zn aa
      refine yL X0 hC xp [1,1,1,1,1,1,2,1,0] [J2] (fun s => uL m_ ap s.1 s.2.1 s.2.2.1 s.2.2.2.1 s.2.2.2.2) (fun x => X4 m_ ap x.1 x.2.1 x.2.2.1 x.2.2.2.1 x.2.2.2.2) (ah.states_, ah.edges_, ah.pairs_, out, 0) ht3  [Hc h05 (x := (m_, goal)) h3 (loC yT m_ <| loC (eI .i64) goal <| loN), Ha (lnM (zb F7_ zD zC) ap)] ?_
      rintro ⟨ak, am, aq, bc, d9⟩ m3 bl ae hl1 J3 cd
      try unfold uL at ae
      rcases yb ae with ⟨c4, ae⟩ | ⟨c4, ae⟩
      ·refine yJ X0 hC xp [1,1,1,1,1,1,2,1,0,0,1,1] [J2, J3] [3,9,10,48,49,50] (fun z : (List (Int × Bool)) × (List ((x6 Int) × Bool)) × (List (z8 × Bool)) × List (List Int) => vw d9 z.1 z.2.1 z.2.2.1 z.2.2.2 = some bl) (fun z => X5 m_ ap d9 z.1 z.2.1 z.2.2.1 z.2.2.2) [(3, .own (.box (yT m_))), (9, .own (.box (.agg [.opq (y7 (zr (eI .i64) eB ak)), .opq (y7 (zr F0_ eB am)), .opq (y7 (zr zD eB aq))]))), (10, .own (eOs 1 false F2_ bc)), (48, .own (eOs 5 false (zb F7_ zD zC) ap)), (49, .d (I ((ap.length : Nat) : Int))), (50, .d (I d9))] [Hq c4, Hh (.cut 0)] ?_ fun J4 ep => ?_
       ·rintro ⟨bh, bo, a9, cm⟩ ae
        unfold vw at ae
        obtain rfl := zk ae
        exact yB X0 hC cd (bh, bo, a9, cm, w64 (d9 + 1)) hl1 []
       ·obtain ⟨bv, h4, ae⟩ := zn ae
        obtain ⟨aw, h5, ae⟩ := zn ae
        let Z3 : List HO := [Hn (iL (zb F7_ zD zC) h4), Hs (iM (zb F7_ zD zC) h4), Hn (⟨rfl, leP (show V2 [] [] from inferInstance), leP (show V2 [] [] from inferInstance), rfl, rfl⟩ : ([zC bv.has_] : List A) = [zC bv.has_] ∧ LeP [] [] ∧ LeP [] [] ∧ T.als 9 [.deref] 0 0 = T.als 9 [.deref] 0 0 ∧ (some (.agg [.opq (y7 (zr (eI .i64) eB ak)), .opq (y7 (zr F0_ eB am)), .opq (y7 (zr zD eB aq))]) : Option A) = some (.agg [.opq (y7 (zr (eI .i64) eB ak)), .opq (y7 (zr F0_ eB am)), .opq (y7 (zr zD eB aq))]))]
        rcases yb ae with ⟨c5, ae⟩ | ⟨c5, ae⟩
        ·obtain ⟨bp, h6, ae⟩ := zn ae
         obtain ⟨bm, h7, ae⟩ := zn ae
         obtain ⟨du, h8, ae⟩ := zn ae
         obtain ⟨g1, ae⟩ := gdE ae
         exact yB ((ZJ (P := Tryd.prog) wr 9 0 [.deref] (fa := .fn 32 []) (r := .tup []) (xl := []) (xr := [yT m_, F7_ bv.word_]) (qs := [(y7 (zr (eI .i64) eB ak)), (y7 (zr F0_ eB am)), (y7 (zr zD eB aq))]) (qs' := [(y7 (zr (eI .i64) eB bp.states_)), (y7 (zr F0_ eB bp.edges_)), (y7 (zr zD eB bp.pairs_))]) (es := [(zr (eI .i64) eB ak), (zr F0_ eB am), (zr zD eB aq)]) (es' := [(zr (eI .i64) eB bp.states_), (zr F0_ eB bp.edges_), (zr zD eB bp.pairs_)]) (.inr rfl) (z3c (by kernel_rfl)) (.cons (xV (zr (eI .i64) eB ak)) (.cons (xV (zr F0_ eB am)) (.cons (xV (zr zD eB aq)) (.nil)))) (fun us hu => jj hC _ _ _ _ h6 us hu) (some 63)).or ((ZJ (P := Tryd.prog) wr 9 0 [.deref] (fa := zC bv.has_) (r := B aw) (xl := []) (xr := []) (qs := [(y7 (zr (eI .i64) eB ak)), (y7 (zr F0_ eB am)), (y7 (zr zD eB aq))]) (qs' := [(y7 (zr (eI .i64) eB ak)), (y7 (zr F0_ eB am)), (y7 (zr zD eB aq))]) (es := [(zr (eI .i64) eB ak), (zr F0_ eB am), (zr zD eB aq)]) (es' := [(zr (eI .i64) eB ak), (zr F0_ eB am), (zr zD eB aq)]) (.inr rfl) (z3c (by kernel_rfl)) (.cons (xV (zr (eI .i64) eB ak)) (.cons (xV (zr F0_ eB am)) (.cons (xV (zr zD eB aq)) (.nil)))) (fun us hu => ZM hC _ _ _ h5 us hu) (some 57)).or X0)) hC ep (bp.states_, bp.edges_, bp.pairs_, (bc ++ ([du] : List (List Int)))) ae (Z3 ++ [Hq c5, Hn (⟨rfl, leP (show V2 [] [] from inferInstance), leP (show V2 [yT m_, F7_ bv.word_] [yT m_, F7_ bv.word_] from inferInstance), rfl, rfl⟩ : ([.fn 32 []] : List A) = [.fn 32 []] ∧ LeP [] [] ∧ LeP [yT m_, F7_ bv.word_] [yT m_, F7_ bv.word_] ∧ T.als 9 [.deref] 0 1 = T.als 9 [.deref] 0 1 ∧ (some (.agg [.opq (y7 (zr (eI .i64) eB ak)), .opq (y7 (zr F0_ eB am)), .opq (y7 (zr zD eB aq))]) : Option A) = some (.agg [.opq (y7 (zr (eI .i64) eB ak)), .opq (y7 (zr F0_ eB am)), .opq (y7 (zr zD eB aq))])), Hc h01 (x := bv.word_) h7 (loC F7_ bv.word_ <| loN), Hg (J8 h00), Hm (shM (eI .i64) (eI .i64) bm), Hs (J9 h00 (x := bm) h8 (loC F7_ bm <| loN)), Hm (shM (eI .i64) (eI .i64) bm), Hq (dM F2_ ([du] : List (List Int))), Hn (dM F2_ ([du] : List (List Int))), Hn (aL F2_ F2_ g1), Hl (aM F2_ bc ([du] : List (List Int)))])
        ·exact yB ((ZJ (P := Tryd.prog) wr 9 0 [.deref] (fa := zC bv.has_) (r := B aw) (xl := []) (xr := []) (qs := [(y7 (zr (eI .i64) eB ak)), (y7 (zr F0_ eB am)), (y7 (zr zD eB aq))]) (qs' := [(y7 (zr (eI .i64) eB ak)), (y7 (zr F0_ eB am)), (y7 (zr zD eB aq))]) (es := [(zr (eI .i64) eB ak), (zr F0_ eB am), (zr zD eB aq)]) (es' := [(zr (eI .i64) eB ak), (zr F0_ eB am), (zr zD eB aq)]) (.inr rfl) (z3c (by kernel_rfl)) (.cons (xV (zr (eI .i64) eB ak)) (.cons (xV (zr F0_ eB am)) (.cons (xV (zr zD eB aq)) (.nil)))) (fun us hu => ZM hC _ _ _ h5 us hu) (some 57)).or X0) hC ep (ak, am, aq, bc) ae (Z3 ++ [Hq c5])
      ·obtain rfl := zk ae
       obtain rfl := hl1
       exact yB X0 hC a8 bc aa [Hq c4]
    ·obtain ⟨t5, ht5, aa⟩ := zn aa
     refine yLx X0 hC xp [1,1,1,1,1,2,1,0] [J1] (fun s => uK l_ s.1 s.2) (fun x => X3 m_ l_ goal ah x.1 x.2) (([] : List (List Int)), 0) ht5 [(2, .d (I goal)), (3, .own (.box (yT m_))), (9, .own (.box ((zP (eMp (eI .i64) eB) (eMp F0_ eB) (eMp zD eB)) ah))), (10, .own (eOs 1 (decide ((0 : Int) = ((l_.length : Nat) : Int))) F2_ [])), (33, .d (eSl 1 false F7_ l_)), (34, .d (I ((l_.length : Nat) : Int))), (35, .d (I 0))] inferInstance [Ha (lnM F7_ l_)] ?_
     rintro ⟨dg, gn⟩ m5 bl ae hl1 J5 dy
     try unfold uK at ae
     rcases yb ae with ⟨c6, ae⟩ | ⟨c6, ae⟩
     ·obtain ⟨ba, h9, ae⟩ := zn ae
      obtain ⟨dm, h10, ae⟩ := zn ae
      obtain ⟨ce, h11, ae⟩ := zn ae
      obtain ⟨g2, ae⟩ := gdE ae
      obtain rfl := zk ae
      exact yB X0 hC dy ((dg ++ ([ce] : List (List Int))), w64 (gn + 1)) hl1 [Hq c6, Hi F7_ h9, Hc h01 (x := ba) h10 (loC F7_ ba <| loN), Hg (J8 h00), Hm (shM (eI .i64) (eI .i64) dm), Hs (J9 h00 (x := dm) h11 (loC F7_ dm <| loN)), Hm (shM (eI .i64) (eI .i64) dm), Hq (dM F2_ ([ce] : List (List Int))), Hn (dM F2_ ([ce] : List (List Int))), Hn (aL F2_ F2_ g2), Hl (aM F2_ dg ([ce] : List (List Int)))]
     ·obtain rfl := zk ae
      obtain rfl := hl1
      exact yB X0 hC az dg aa [Hq c6]
def ua : Code := (Tryd.f39.body).getD .skip
abbrev XU (u0 : Value) (u1 : Value) (u2 : Value) (x_ : zg) (out : List Int) : List (Nat × T) := [(3, .own (.box (.agg [.opq (wV u0 (zr (eI .i64) eB x_.states_)), .opq (wV u1 (zr F0_ eB x_.edges_)), .opq (wV u2 (zr zD eB x_.pairs_))]))), (5, .own (eOs 1 true (eI .u64) out))]
abbrev XT (u0 : Value) (u1 : Value) (u2 : Value) (bn : List za) (x_ : zg) (ct : Int) (bc : List Int) : List (Nat × T) := [(3, .own (.box (.agg [.opq (wV u0 (zr (eI .i64) eB x_.states_)), .opq (wV u1 (zr F0_ eB x_.edges_)), .opq (wV u2 (zr zD eB x_.pairs_))]))), (5, .own (eOs 1 true (eI .u64) bc)), (13, .d (eSl 5 false (zb F7_ zD zC) bn)), (14, .d (I ((bn.length : Nat) : Int))), (15, .d (I ct))]
abbrev XS (u0 : Value) (u1 : Value) (u2 : Value) (bn : List za) (x_ : zg) (aj : List Int) (ct : Int) : List (Nat × T) := [(3, .own (.box (.agg [.opq (wV u0 (zr (eI .i64) eB x_.states_)), .opq (wV u1 (zr F0_ eB x_.edges_)), .opq (wV u2 (zr zD eB x_.pairs_))]))), (5, .own (eOs 1 true (eI .u64) aj)), (13, .d (eSl 5 false (zb F7_ zD zC) bn)), (14, .d (I ((bn.length : Nat) : Int))), (15, .d (I ct))]
theorem up (hC : zN Tryd.prog ctr) : ∀ (bn : List za) (x_ : zg) (r0 : List Int), un bn x_ = some r0 → ∀ us : List Value, us.length = 3 → vX Tryd.prog (.fn 39 []) ([eSl 5 false (zb F7_ zD zC) bn] ++ .agg (us.map .atom) :: []) (YP us [zr (eI .i64) eB x_.states_, zr F0_ eB x_.edges_, zr zD eB x_.pairs_]) (eSl 1 true (eI .u64) r0) ([zr (eI .i64) eB x_.states_, zr F0_ eB x_.edges_, zr zD eB x_.pairs_].map fun e => .opq (y7 e)) := by
 intro bn x_ r0 aa us hus
 obtain ⟨u0, u1, u2, rfl⟩ := zaj hus
 refine XF (tt := wr) (nt := 36) (body := ua) (B := 3) [4] (xl := [eSl 5 false (zb F7_ zD zC) bn]) (xr := []) (caps := []) (es := [zr (eI .i64) eB x_.states_, zr F0_ eB x_.edges_, zr zD eB x_.pairs_]) (es' := [zr (eI .i64) eB x_.states_, zr F0_ eB x_.edges_, zr zD eB x_.pairs_]) (us := [u0, u1, u2]) (r := eSl 1 true (eI .u64) r0) Tryd.func39 rfl (by kernel_rfl) rfl rfl (by decide) (by show (2 : Nat) ≤ 36; decide) rfl rfl (.inr ⟨_, rfl⟩) fun E hE => ?_
 try unfold un at aa
 obtain ⟨g0, aa⟩ := gdE aa
 obtain ⟨g1, aa⟩ := gdE aa
 refine yJ X0 hC ua [1,1] [] [3,5] (fun z : List Int => j4 z = some r0) (fun z => XU u0 u1 u2 x_ z) [(0, .d (eSl 5 false (zb F7_ zD zC) bn)), (3, .own (.box (.agg [.opq (wV u0 (zr (eI .i64) eB x_.states_)), .opq (wV u1 (zr F0_ eB x_.edges_)), .opq (wV u2 (zr zD eB x_.pairs_))]))), (5, .own (eOs 1 true (eI .u64) (List.replicate (w64 ((w64 (Int.tdiv ((bn.length : Nat) : Int) 64)) + 1)).toNat (0 : Int))))] [Ha (lnM (zb F7_ zD zC) bn), Hn g0, Hn (rL g1), Ha (rM 1 (eI .u64) (w64 ((w64 (Int.tdiv ((bn.length : Nat) : Int) 64)) + 1)) (0 : Int)), Hh (.cut 0)] ?_ fun J1 az => ?_
 ·rintro out aa
  unfold j4 at aa
  obtain rfl := zk aa
  exact yF X0 hC .ret [(3, .own (.box (.agg [.opq (wV u0 (zr (eI .i64) eB x_.states_)), .opq (wV u1 (zr F0_ eB x_.edges_)), .opq (wV u2 (zr zD eB x_.pairs_))]))), (4, .d (eSl 1 true (eI .u64) out))] [Hh (.n 0 [5]), Hm (shM (eI .u64) (eI .u64) out)] fun st0 h0 => hE _ st0 (.inr rfl) (Qs h0 rfl rfl) (z4t (zbR h0 rfl rfl))
 ·obtain ⟨t2, ht2, aa⟩ := zn aa
  refine yL X0 hC ua [1,1,2,1,0] [J1] (fun s => qZ bn x_ s.1 s.2) (fun x => XS u0 u1 u2 bn x_ x.1 x.2) ((List.replicate (w64 ((w64 (Int.tdiv ((bn.length : Nat) : Int) 64)) + 1)).toNat (0 : Int)), 0) ht2  [Ha (lnM (zb F7_ zD zC) bn)] ?_
  rintro ⟨aj, ct⟩ m2 bl ae hl1 J2 a8
  try unfold qZ at ae
  rcases yb ae with ⟨c0, ae⟩ | ⟨c0, ae⟩
  ·refine yJ X0 hC ua [1,1,2,1,0,0,1,1] [J1, J2] [3,5,13,14,15] (fun z : List Int => u7 ct z = some bl) (fun z => XT u0 u1 u2 bn x_ ct z) [(3, .own (.box (.agg [.opq (wV u0 (zr (eI .i64) eB x_.states_)), .opq (wV u1 (zr F0_ eB x_.edges_)), .opq (wV u2 (zr zD eB x_.pairs_))]))), (5, .own (eOs 1 true (eI .u64) aj)), (13, .d (eSl 5 false (zb F7_ zD zC) bn)), (14, .d (I ((bn.length : Nat) : Int))), (15, .d (I ct))] [Hq c0, Hh (.cut 0)] ?_ fun J3 cd => ?_
   ·rintro bc ae
    unfold u7 at ae
    obtain rfl := zk ae
    exact yB X0 hC a8 (bc, w64 (ct + 1)) hl1 []
   ·obtain ⟨ez, h0, ae⟩ := zn ae
    obtain ⟨r_, h1, ae⟩ := zn ae
    let Z0 : List HO := [Hi (zb F7_ zD zC) h0, Hn (⟨rfl, leP (show V2 [] [] from inferInstance), leP (show V2 [] [] from inferInstance), rfl, rfl⟩ : ([zC ez.has_] : List A) = [zC ez.has_] ∧ LeP [] [] ∧ LeP [] [] ∧ T.als 3 [.deref] 0 0 = T.als 3 [.deref] 0 0 ∧ (some (.agg [.opq (wV u0 (zr (eI .i64) eB x_.states_)), .opq (wV u1 (zr F0_ eB x_.edges_)), .opq (wV u2 (zr zD eB x_.pairs_))]) : Option A) = some (.agg [.opq (wV u0 (zr (eI .i64) eB x_.states_)), .opq (wV u1 (zr F0_ eB x_.edges_)), .opq (wV u2 (zr zD eB x_.pairs_))]))]
    rcases yb ae with ⟨c1, ae⟩ | ⟨c1, ae⟩
    ·obtain ⟨g2, ae⟩ := gdE ae
     obtain ⟨da, h2, ae⟩ := zn ae
     obtain ⟨g3, ae⟩ := gdE ae
     obtain ⟨g4, ae⟩ := gdE ae
     obtain ⟨d8, h3, ae⟩ := zn ae
     exact yB ((zf5 Tryd.prog).or ((zgo Tryd.prog).or ((ZJ (P := Tryd.prog) wr 3 0 [.deref] (fa := zC ez.has_) (r := B r_) (xl := []) (xr := []) (qs := [(wV u0 (zr (eI .i64) eB x_.states_)), (wV u1 (zr F0_ eB x_.edges_)), (wV u2 (zr zD eB x_.pairs_))]) (qs' := [(wV u0 (zr (eI .i64) eB x_.states_)), (wV u1 (zr F0_ eB x_.edges_)), (wV u2 (zr zD eB x_.pairs_))]) (es := [(zr (eI .i64) eB x_.states_), (zr F0_ eB x_.edges_), (zr zD eB x_.pairs_)]) (es' := [(zr (eI .i64) eB x_.states_), (zr F0_ eB x_.edges_), (zr zD eB x_.pairs_)]) (.inr rfl) (z3c (by kernel_rfl)) (.cons (kF u0 (zr (eI .i64) eB x_.states_)) (.cons (kF u1 (zr F0_ eB x_.edges_)) (.cons (kF u2 (zr zD eB x_.pairs_)) (.nil)))) (fun us hu => ZM hC _ _ _ h1 us hu) (some 23)).or X0))) hC cd (aj.set (w64 (Int.tdiv ct 64)).toNat (orK .u64 da (z7L .u64 1 (Int.tmod ct 64)))) ae (Z0 ++ [Hq c1, Hn g2, Hn (iL (eI .u64) h2), Hs (iM (eI .u64) h2), Hn g3, Hn g4, Hn (iL (eI .u64) h3), Hs (iM (eI .u64) h3), Hs (iM (eI .u64) h3), Hl (sM (eI .u64) aj (w64 (Int.tdiv ct 64)) (orK .u64 da (z7L .u64 1 (Int.tmod ct 64))))])
    ·exact yB ((ZJ (P := Tryd.prog) wr 3 0 [.deref] (fa := zC ez.has_) (r := B r_) (xl := []) (xr := []) (qs := [(wV u0 (zr (eI .i64) eB x_.states_)), (wV u1 (zr F0_ eB x_.edges_)), (wV u2 (zr zD eB x_.pairs_))]) (qs' := [(wV u0 (zr (eI .i64) eB x_.states_)), (wV u1 (zr F0_ eB x_.edges_)), (wV u2 (zr zD eB x_.pairs_))]) (es := [(zr (eI .i64) eB x_.states_), (zr F0_ eB x_.edges_), (zr zD eB x_.pairs_)]) (es' := [(zr (eI .i64) eB x_.states_), (zr F0_ eB x_.edges_), (zr zD eB x_.pairs_)]) (.inr rfl) (z3c (by kernel_rfl)) (.cons (kF u0 (zr (eI .i64) eB x_.states_)) (.cons (kF u1 (zr F0_ eB x_.edges_)) (.cons (kF u2 (zr zD eB x_.pairs_)) (.nil)))) (fun us hu => ZM hC _ _ _ h1 us hu) (some 23)).or X0) hC cd aj ae (Z0 ++ [Hq c1])
  ·obtain rfl := zk ae
   obtain rfl := hl1
   exact yB X0 hC az aj aa [Hq c0]
def xS : Code := (Tryd.f56.body).getD .skip
def yG : yi := spF (α := List Int × List Int) (ρ := Bool) 56 (fun x => [F8_ x.1, F8_ x.2]) (fun r => eB r) (fun x => ws x.1 x.2) [] (VQ)
abbrev qE : List (Nat × T) := []
abbrev qD (s1 : List Int) (s2 : List Int) (fw : Int) : List (Nat × T) := [(0, .d (eSl 1 false (eI .u64) s1)), (1, .d (eSl 1 false (eI .u64) s2)), (12, .d (I ((s1.length : Nat) : Int))), (13, .d (I fw))]
theorem jO (hC : zN Tryd.prog ctr) : yG.Ok Tryd.prog := by
 refine zV ?_
 rintro ⟨s1, s2⟩ r0 aa
 try unfold ws at aa
 refine yO true [(4, none)] xS 26 Tryd.func56 fun E hE => ?_
 let Z0 : List HO := [Ha (lnM (eI .u64) s1), Ha (lnM (eI .u64) s2)]
 rcases yb aa with ⟨c0, aa⟩ | ⟨c0, aa⟩
 ·obtain rfl := zk aa
  exact yE X0 hC hE (Z0 ++ [Hq c0])
 ·refine yJ X0 hC xS [1,1] [] [] (fun z : Unit => xR = some r0) (fun z => qE) [(0, .d (eSl 1 false (eI .u64) s1)), (1, .d (eSl 1 false (eI .u64) s2))] (Z0 ++ [Hq c0, Hh (.cut 0)]) ?_ fun J1 az => ?_
  ·rintro ⟨⟩ aa
   unfold xR at aa
   obtain rfl := zk aa
   exact yE X0 hC hE []
  ·obtain ⟨t2, ht2, aa⟩ := zn aa
   refine yL X0 hC xS [1,1,2,1,0] [J1] (fun s => xQ s1 s2 s) (fun x => qD s1 s2 x) 0 ht2  [Ha (lnM (eI .u64) s1)] ?_
   rintro fw m2 bl ae hl1 J2 a8
   try unfold xQ at ae
   rcases yb ae with ⟨c1, ae⟩ | ⟨c1, ae⟩
   ·obtain ⟨gj, h0, ae⟩ := zn ae
    obtain ⟨fq, h1, ae⟩ := zn ae
    let Z1 : List HO := [Hq c1, Hi (eI .u64) h0, Hi (eI .u64) h1]
    rcases yb ae with ⟨c2, ae⟩ | ⟨c2, ae⟩
    ·obtain rfl := zk ae
     obtain rfl := hl1
     obtain rfl := zk aa
     exact yE X0 hC hE (Z1 ++ [Hq c2])
    ·obtain rfl := zk ae
     exact yB X0 hC a8 (w64 (fw + 1)) hl1 (Z1 ++ [Hq c2])
   ·obtain rfl := zk ae
    obtain rfl := hl1
    exact yB X0 hC az () aa [Hq c1]
def jH : Code := (Tryd.f57.body).getD .skip
def yH : yi := spF (α := List Int) (ρ := List Int) 57 (fun x => [F8_ x]) (fun r => (eOs 1 false (eI .u64)) r) (fun x => wt x) [] (Jl)
theorem jP (hC : zN Tryd.prog ctr) : yH.Ok Tryd.prog := by
 refine zV ?_
 rintro s_ r0 aa
 try unfold wt at aa
 refine yO true [(2, none)] jH 8 Tryd.func57 fun E hE => ?_
 refine z1L rfl 0 (sz := 1) (t := false) (es := s_.map (eI .u64)) (by kernel_rfl) fun ax hv0 hn => ?_
 rcases hn with ⟨hn0, he0⟩ | hn0
 ·obtain ⟨_, aa⟩ := gdE aa
  rw [show s_ = [] from List.map_eq_nil_iff.1 he0] at aa
  obtain rfl := zk aa
  exact yEx ((zad zB 4 96 (by kernel_rfl) hn0).or ((xMv Tryd.prog 3 0 ax hv0).or X0)) hC hE [Hn (rfl : some ax = some ax), Hn (⟨rfl, rfl⟩ : T.d (.atom ax) = T.d (.atom ax) ∧ T.d (.atom (.slice none 0 0)) = T.d (.atom (.slice none 0 0))), qT] (eOs 1 true (eI .u64) []) (show LeV (eOs 1 true (eI .u64) []) (eOs 1 false (eI .u64) ([] : List Int)) from inferInstance)
 ·obtain ⟨g0, aa⟩ := gdE aa
  obtain rfl := zk aa
  exact yE ((zad zB 4 96 (by kernel_rfl) hn0).or ((xMv Tryd.prog 3 0 ax hv0).or X0)) hC hE [Hn (rfl : some ax = some ax), Hn (⟨rfl, rfl⟩ : T.d (.atom ax) = T.d (.atom ax) ∧ T.d (.atom (.slice none 0 0)) = T.d (.atom (.slice none 0 0))), qF, Hn (dM (eI .u64) s_), Hn (aL (eI .u64) (eI .u64) g0), Hl (aM0 (eI .u64) s_)]
def y9 : Code := (Tryd.f40.body).getD .skip
def wa : yi := spF (α := zy × List Int × Int × Int) (ρ := List Int × Bool) 40 (fun x => [zdf x.1, F8_ x.2.1, (eI .i64) x.2.2.1, (eI .i64) x.2.2.2]) (fun r => .tup [F7_ r.1, eB r.2]) (fun x => uS x.1 x.2.1 x.2.2.1 x.2.2.2) [] (zg0)
abbrev jv : List (Nat × T) := []
abbrev ju (c_ : zy) (bq : List Int) (many : Int) (i_ : Int) : List (Nat × T) := [(0, .d (.sptr (z8f c_))), (1, .d (eSl 1 false (eI .u64) bq)), (3, .d (I many)), (10, .d (I i_))]
abbrev jt (c_ : zy) (bq : List Int) (many : Int) (i_ : Int) (eg : List Int) : List (Nat × T) := [(0, .d (.sptr (z8f c_))), (1, .d (eSl 1 false (eI .u64) bq)), (3, .d (I many)), (10, .d (I i_)), (11, .own (eOs 1 false (eI .u64) eg))]
abbrev jr (c_ : zy) (bq : List Int) (many : Int) (i_ : Int) (co : List Int) (de : List Int) (cw : Int) : List (Nat × T) := [(0, .d (.sptr (z8f c_))), (1, .d (eSl 1 false (eI .u64) bq)), (3, .d (I many)), (10, .d (I i_)), (11, .own (eOs 1 false (eI .u64) de)), (44, .d (eSl 1 false (eI .u64) co)), (45, .d (I ((co.length : Nat) : Int))), (46, .d (I cw))]
abbrev js (c_ : zy) (bq : List Int) (many : Int) (i_ : Int) : List (Nat × T) := [(0, .d (.sptr (z8f c_))), (1, .d (eSl 1 false (eI .u64) bq)), (3, .d (I many)), (10, .d (I i_))]
theorem qR : ∀ (x y : zy × List Int × Int × Int), (fun x => [zdf x.1, F8_ x.2.1, (eI .i64) x.2.2.1, (eI .i64) x.2.2.2]) x = (fun x => [zdf x.1, F8_ x.2.1, (eI .i64) x.2.2.1, (eI .i64) x.2.2.2]) y → x = y := zg0
def xP (dl : zy → (List Int) → Int → Int → Option (List Int × Bool)) : yi := spF (α := zy × List Int × Int × Int) (ρ := List Int × Bool) 40 (fun x => [zdf x.1, F8_ x.2.1, (eI .i64) x.2.2.1, (eI .i64) x.2.2.2]) (fun r => .tup [F7_ r.1, eB r.2]) (fun x => dl x.1 x.2.1 x.2.2.1 x.2.2.2) [] (by
 intro x y h
 exact (congrArg (fun (p : zy × List Int × Int × Int) => p) (show x = y from qR x y h)))
theorem jR (hC : zN Tryd.prog ctr) (h0i : ctr.Has yG) (h0j : ctr.Has yH) (dl : zy → (List Int) → Int → Int → Option (List Int × Bool)) (h0b : ctr.Has (xP dl)) : (xP (ww dl)).Ok Tryd.prog := by
 refine zV ?_
 rintro ⟨c_, bq, from_, many⟩ r0 aa
 try unfold ww at aa
 refine yO false [(8, none), (9, none)] y9 74 Tryd.func40 fun E hE => ?_
 rcases yb aa with ⟨c0, aa⟩ | ⟨c0, aa⟩
 ·obtain ⟨r_, h0, aa⟩ := zn aa
  obtain rfl := zk aa
  exact yEx X0 hC hE [Hq c0, Hc h0i (x := (bq, c_.want_)) h0 (loC F8_ bq <| loC F8_ c_.want_ <| loN), Hm (shM (eI .i64) (eI .i64) [])] (.tup [eSl 1 true (eI .i64) [], B r_]) (show LeV (.tup [eSl 1 true (eI .i64) [], B r_]) (.tup [eSl 1 false (eI .i64) ([] : List Int), B r_]) from inferInstance)
 ·refine yJ X0 hC y9 [1,1] [] [] (fun z : Unit => wk = some r0) (fun z => jv) [(0, .d (.sptr (z8f c_))), (1, .d (eSl 1 false (eI .u64) bq)), (2, .d (I from_)), (3, .d (I many))] [Hq c0, Hh (.cut 0)] ?_ fun J1 az => ?_
  ·rintro ⟨⟩ aa
   unfold wk at aa
   obtain rfl := zk aa
   exact yEx X0 hC hE [Hm (shM (eI .i64) (eI .i64) [])] (.tup [eSl 1 true (eI .i64) [], B false]) (show LeV (.tup [eSl 1 true (eI .i64) [], B false]) (.tup [eSl 1 false (eI .i64) ([] : List Int), B false]) from inferInstance)
  ·obtain ⟨t2, ht2, aa⟩ := zn aa
   refine yL X0 hC y9 [1,1,2,1,0] [J1] (fun s => wg c_ bq many dl s) (fun x => js c_ bq many x) from_ ht2  [] ?_
   rintro i_ m2 bl ae hl1 J2 a8
   try unfold wg at ae
   let Z0 : List HO := [Ha (lnM F8_ c_.sets_)]
   rcases yb ae with ⟨c1, ae⟩ | ⟨c1, ae⟩
   ·refine yJ X0 hC y9 [1,1,2,1,0,0,1] [J1, J2] [0,1,3,10] (fun z : Unit => wj i_ = some bl) (fun z => ju c_ bq many i_) [(0, .d (.sptr (z8f c_))), (1, .d (eSl 1 false (eI .u64) bq)), (3, .d (I many)), (10, .d (I i_))] (Z0 ++ [Hq c1, Hh (.cut 0)]) ?_ fun J3 cd => ?_
    ·rintro ⟨⟩ ae
     unfold wj at ae
     obtain rfl := zk ae
     exact yB X0 hC a8 (w64 (i_ + 1)) hl1 []
    ·obtain ⟨ah, h1, ae⟩ := zn ae
     refine yJ X0 hC y9 [1,1,2,1,0,0,1,2,0,1] [J1, J2, J3] [0,1,3,10,11] (fun z : List Int => wh c_ many dl i_ z = some bl) (fun z => jt c_ bq many i_ z) [(0, .d (.sptr (z8f c_))), (1, .d (eSl 1 false (eI .u64) bq)), (3, .d (I many)), (10, .d (I i_)), (11, .own (eOs 1 false (eI .u64) ah))] [Hc h0j (x := bq) h1 (loC F8_ bq <| loN), Hh (.cut 0)] ?_ fun J4 ep => ?_
     ·rintro eg ae
      unfold wh at ae
      obtain ⟨al, h2, ae⟩ := zn ae
      let Z1 : List HO := [Hg (J8 h0b), Hm (shM (eI .u64) (eI .u64) eg), Hs (J9 h0b (x := (c_, eg, w64 (i_ + 1), w64 (many - 1))) h2 (loC zdf c_ <| loC F8_ eg <| loC (eI .i64) (w64 (i_ + 1)) <| loC (eI .i64) (w64 (many - 1)) <| loN)), Hm (shM (eI .u64) (eI .u64) eg)]
      rcases yb ae with ⟨c2, ae⟩ | ⟨c2, ae⟩
      ·obtain ⟨g0, ae⟩ := gdE ae
       obtain rfl := zk ae
       obtain rfl := hl1
       obtain rfl := zk aa
       exact yE X0 hC hE (Z1 ++ [Hq c2, Hn (dM (eI .i64) al.1), Hn (aL (eI .i64) (eI .i64) g0), Hl (aM (eI .i64) ([i_] : List Int) al.1), Hm (shM (eI .i64) (eI .i64) (([i_]) ++ al.1))])
      ·exact yB X0 hC cd () ae (Z1 ++ [Hq c2])
     ·obtain ⟨co, h3, ae⟩ := zn ae
      obtain ⟨t5, ht5, ae⟩ := zn ae
      refine yL X0 hC y9 [1,1,2,1,0,0,1,2,0,1,2,1,0] [J1, J2, J3, J4] (fun s => we co s.1 s.2) (fun x => jr c_ bq many i_ co x.1 x.2) (ah,0) ht5  [Hi F8_ h3, Ha (lnM (eI .u64) co)] ?_
      rintro ⟨de, cw⟩ m5 fk ai hl2 J5 dy
      try unfold we at ai
      rcases yb ai with ⟨c3, ai⟩ | ⟨c3, ai⟩
      ·obtain ⟨em, h4, ai⟩ := zn ai
       obtain ⟨fj, h5, ai⟩ := zn ai
       obtain ⟨gz, h6, ai⟩ := zn ai
       obtain rfl := zk ai
       exact yB ((zf5 Tryd.prog).or X0) hC dy ((de.set cw.toNat (orK .u64 fj em)), w64 (cw + 1)) hl2 [Hq c3, Hi (eI .u64) h4, Hn (iL (eI .u64) h5), Hs (iM (eI .u64) h5), Hn (iL (eI .u64) h6), Hs (iM (eI .u64) h6), Hs (iM (eI .u64) h6), Hl (sM (eI .u64) de cw (orK .u64 fj em))]
      ·obtain rfl := zk ai
       obtain rfl := hl2
       exact yB X0 hC ep de ae [Hq c3]
   ·obtain rfl := zk ae
    obtain rfl := hl1
    exact yB X0 hC az () aa (Z0 ++ [Hq c1])
theorem Za (hC : zN Tryd.prog ctr) (h0i : ctr.Has yG) (h0j : ctr.Has yH) : wa.Ok Tryd.prog := by
 have H : ∀ n, (xP (ub n)).Ok Tryd.prog := by
  intro n
  induction n with
  | zero => exact zV fun _ _ h => nomatch (show none = some _ from h)
  | succ n ih => exact jR (Ctr.add_ok hC ih) (h0i.add (by show (56 : Nat) ≠ 40; decide)) (h0j.add (by show (57 : Nat) ≠ 40; decide)) _ (Ctr.add_has _ _)
 exact zV fun x r h => z0f (H _) h
def zZ : Code := (Tryd.f19.body).getD .skip
def uB : yi := spF (α := z7 × List (List Int) × Int) (ρ := List (List Int) × Int) 19 (fun x => [yT x.1, YK x.2.1, (eI .i64) x.2.2]) (fun r => .tup [z3o r.1, (eI .i64) r.2]) (fun x => jE x.1 x.2.1 x.2.2) [] (z9I)
abbrev X1 : List (Nat × T) := []
abbrev YZ (l_ : List (List Int)) (ah : List za) (ap : List Int) (bw : List (List Int)) (dx : Int) : List (Nat × T) := [(1, .d (eSl 1 false F7_ l_)), (9, .d (eSl 5 false (zb F7_ zD zC) ah)), (10, .d (.sptr (.agg [eSl 1 false F4_ bw, eSl 1 true (eI .u64) ap]))), (68, .d (I (w64 (((l_.length : Nat) : Int) + 1)))), (69, .d (I dx))]
abbrev YX (bm : List Int × Bool) (out : List (List Int)) : List (Nat × T) := [(16, .own (z5O 1 ((bm.1.length : Nat) : Int).toNat F2_ out))]
abbrev YV (l_ : List (List Int)) (bm : List Int × Bool) (aj : List (List Int)) (gp : Int) : List (Nat × T) := [(1, .d (eSl 1 false F7_ l_)), (16, .own (z5O 1 ((bm.1.length : Nat) : Int).toNat F2_ aj)), (86, .d (eSl 1 false (eI .i64) bm.1)), (87, .d (I ((bm.1.length : Nat) : Int))), (88, .d (I gp))]
abbrev YW (l_ : List (List Int)) (ah : List za) (ap : List Int) (bw : List (List Int)) (dx : Int) : List (Nat × T) := [(1, .d (eSl 1 false F7_ l_)), (9, .d (eSl 5 false (zb F7_ zD zC) ah)), (10, .d (.sptr (.agg [eSl 1 false F4_ bw, eSl 1 true (eI .u64) ap]))), (68, .d (I (w64 (((l_.length : Nat) : Int) + 1)))), (69, .d (I dx))]
abbrev X2 (l_ : List (List Int)) (ah : List za) (ap : List Int) (bw : List (List Int)) : List (Nat × T) := [(1, .d (eSl 1 false F7_ l_)), (9, .d (eSl 5 false (zb F7_ zD zC) ah)), (10, .own (.box (.agg [eOs 1 false F4_ bw, eSl 1 true (eI .u64) ap])))]
abbrev YU (m_ : z7) (l_ : List (List Int)) (ah : List za) (ap : List Int) (ck : List (List Int)) (cw : Int) : List (Nat × T) := [(1, .d (eSl 1 false F7_ l_)), (3, .own (.box (yT m_))), (9, .d (eSl 5 false (zb F7_ zD zC) ah)), (10, .own (.box (.agg [eOs 1 false F4_ ck, eSl 1 true (eI .u64) ap]))), (44, .d (eSl 1 false F7_ l_)), (45, .d (I ((l_.length : Nat) : Int))), (46, .d (I cw))]
def zA : XH Tryd.prog := ((z31 zB (.inl 99) [98]).or X0)
theorem Wz (hC : zN Tryd.prog ctr) (h04 : ctr.Has xL) (h05 : ctr.Has wy) (h02 : ctr.Has x3) (h0g : ctr.Has vZ) (h0Q : ctr.Has wa) (h01 : ctr.Has yc) (h00 : ctr.Has yg) : uB.Ok Tryd.prog := by
 refine zV ?_
 rintro ⟨m_, l_, goal⟩ r0 aa
 try unfold jE at aa
 refine yO false [(6, none), (7, none)] zZ 104 Tryd.func19 fun E hE => ?_
 obtain ⟨r_, h0, aa⟩ := zn aa
 let Z0 : List HO := [Hc h04 (x := (m_, l_)) h0 (loC yT m_ <| loC YK l_ <| loN)]
 rcases yb aa with ⟨c0, aa⟩ | ⟨c0, aa⟩
 ·obtain rfl := zk aa
  exact yEx zA hC hE (Z0 ++ [Hq c0, Hm (shM F7_ F7_ [])]) (.tup [eSl 1 true F2_ [], I r_]) (show LeV (.tup [eSl 1 true F2_ [], I r_]) (.tup [eSl 1 true F2_ ([] : List (List Int)), I r_]) from inferInstance)
 ·rcases yb aa with ⟨c1, aa⟩ | ⟨c1, aa⟩
  ·obtain rfl := zk aa
   exact yEx zA hC hE (Z0 ++ [Hq c0, Hq c1, Hq c1, Hq c1, qT, Hm (shM F7_ F7_ [])]) (.tup [eSl 1 true F2_ [], I 1]) (show LeV (.tup [eSl 1 true F2_ [], I 1]) (.tup [eSl 1 true F2_ ([] : List (List Int)), I 1]) from inferInstance)
  ·let Z1 : List HO := (Z0 ++ [Hq c0, Hq c1, Hq c1, Hq c1])
   rcases yb aa with ⟨c2, aa⟩ | ⟨c2, aa⟩
   ·obtain rfl := zk aa
    exact yEx zA hC hE (Z1 ++ [Hq c2, Hm (shM F7_ F7_ [])]) (.tup [eSl 1 true F2_ [], I 1]) (show LeV (.tup [eSl 1 true F2_ [], I 1]) (.tup [eSl 1 true F2_ ([] : List (List Int)), I 1]) from inferInstance)
   ·let Z2 : List HO := (Z1 ++ [Hq c2, Ha (lnM F7_ l_)])
    rcases yb aa with ⟨c3, aa⟩ | ⟨c3, aa⟩
    ·obtain rfl := zk aa
     exact yEx zA hC hE (Z2 ++ [Hq c3, Hm (shM F7_ F7_ [])]) (.tup [eSl 1 true F2_ [], I 3]) (show LeV (.tup [eSl 1 true F2_ [], I 3]) (.tup [eSl 1 true F2_ ([] : List (List Int)), I 3]) from inferInstance)
    ·obtain ⟨ah, h1, aa⟩ := zn aa
     obtain ⟨al, h2, aa⟩ := zn aa
     obtain ⟨ap, h3, aa⟩ := zn aa
     refine yJ ((ZJ (P := Tryd.prog) wr 40 1 [] (fa := .fn 39 []) (r := eSl 1 true (eI .u64) ap) (xl := [(eSl 5 false (zb F7_ zD zC)) ah]) (xr := []) (qs := [(y7 (zr (eI .i64) eB al.states_)), (y7 (zr F0_ eB al.edges_)), (y7 (zr zD eB al.pairs_))]) (qs' := [(y7 (zr (eI .i64) eB al.states_)), (y7 (zr F0_ eB al.edges_)), (y7 (zr zD eB al.pairs_))]) (es := [(zr (eI .i64) eB al.states_), (zr F0_ eB al.edges_), (zr zD eB al.pairs_)]) (es' := [(zr (eI .i64) eB al.states_), (zr F0_ eB al.edges_), (zr zD eB al.pairs_)]) (.inl rfl) (z3c (by kernel_rfl)) (.cons (xV (zr (eI .i64) eB al.states_)) (.cons (xV (zr F0_ eB al.edges_)) (.cons (xV (zr zD eB al.pairs_)) (.nil)))) (fun us hu => up hC _ _ _ h3 us hu) (some 41)).or zA) hC zZ [1,1,1,1,1,1] [] [1,9,10] (fun z : List (List Int) => uJ l_ ah ap z = some r0) (fun z => X2 l_ ah ap z) [(1, .d (eSl 1 false F7_ l_)), (3, .own (.box (yT m_))), (9, .d (eSl 5 false (zb F7_ zD zC) ah)), (10, .own (.box (.agg [eOs 1 true F8_ [], eSl 1 true (eI .u64) ap])))] (Z2 ++ [Hq c3, Hc h05 (x := (m_, goal)) h1 (loC yT m_ <| loC (eI .i64) goal <| loN), Hc h02 (x := (m_, l_)) h2 (loC yT m_ <| loC YK l_ <| loN), Hm (shM (zb F7_ zD zC) (zb F7_ zD zC) ah), Hn (⟨rfl, leP (show V2 [(eSl 5 false (zb F7_ zD zC)) ah] [(eSl 5 false (zb F7_ zD zC)) ah] from inferInstance), leP (show V2 [] [] from inferInstance), rfl, rfl⟩ : ([.fn 39 []] : List A) = [.fn 39 []] ∧ LeP [(eSl 5 false (zb F7_ zD zC)) ah] [(eSl 5 false (zb F7_ zD zC)) ah] ∧ LeP [] [] ∧ T.als 40 [] 1 1 = T.als 40 [] 1 1 ∧ (some (.agg [.opq (y7 (zr (eI .i64) eB al.states_)), .opq (y7 (zr F0_ eB al.edges_)), .opq (y7 (zr zD eB al.pairs_))]) : Option A) = some (.agg [.opq (y7 (zr (eI .i64) eB al.states_)), .opq (y7 (zr F0_ eB al.edges_)), .opq (y7 (zr zD eB al.pairs_))])), Hh (.cut 0)]) ?_ fun J1 az => ?_
     ·rintro bw aa
      unfold uJ at aa
      refine yJ zA hC zZ [1,1,1,1,1,1,1] [] [] (fun z : Unit => uI = some r0) (fun z => X1) [(1, .d (eSl 1 false F7_ l_)), (9, .d (eSl 5 false (zb F7_ zD zC) ah)), (10, .own (.box (.agg [eOs 1 false F4_ bw, eSl 1 true (eI .u64) ap])))] [Hh (.cut 0)] ?_ fun J2 a8 => ?_
      ·rintro ⟨⟩ aa
       unfold uI at aa
       obtain rfl := zk aa
       exact yEx zA hC hE [Hm (shM F7_ F7_ [])] (.tup [eSl 1 true F2_ [], I 0]) (show LeV (.tup [eSl 1 true F2_ [], I 0]) (.tup [eSl 1 true F2_ ([] : List (List Int)), I 0]) from inferInstance)
      ·obtain ⟨t3, ht3, aa⟩ := zn aa
       refine yL zA hC zZ [1,1,1,1,1,1,1,2,1,0] [J2] (fun s => uF l_ ah ap bw s) (fun x => YW l_ ah ap bw x) 0 ht3  [Ha (lnM F7_ l_), Hh (.n 1 [10]), Hm (shM F4_ F4_ bw)] ?_
       rintro dx m3 bl ae hl1 J3 cd
       try unfold uF at ae
       rcases yb ae with ⟨c4, ae⟩ | ⟨c4, ae⟩
       ·refine yJ zA hC zZ [1,1,1,1,1,1,1,2,1,0,0,1,1] [J2, J3] [1,9,10,68,69] (fun z : Unit => uH dx = some bl) (fun z => YZ l_ ah ap bw dx) [(1, .d (eSl 1 false F7_ l_)), (9, .d (eSl 5 false (zb F7_ zD zC) ah)), (10, .d (.sptr (.agg [eSl 1 false F4_ bw, eSl 1 true (eI .u64) ap]))), (68, .d (I (w64 (((l_.length : Nat) : Int) + 1)))), (69, .d (I dx))] [Hq c4, Hh (.cut 0)] ?_ fun J4 ep => ?_
        ·rintro ⟨⟩ ae
         unfold uH at ae
         obtain rfl := zk ae
         exact yB zA hC cd (w64 (dx + 1)) hl1 []
        ·obtain ⟨aw, h4, ae⟩ := zn ae
         obtain ⟨bp, h5, ae⟩ := zn ae
         obtain ⟨bm, h6, ae⟩ := zn ae
         let Z3 : List HO := [Hc h0g (x := ()) h4 (loN), Hn (⟨rfl, leP (show V2 [(eSl 5 false (zb F7_ zD zC)) ah] [(eSl 5 false (zb F7_ zD zC)) ah] from inferInstance), leP (show V2 [] [] from inferInstance), rfl, rfl⟩ : ([.fn 39 []] : List A) = [.fn 39 []] ∧ LeP [(eSl 5 false (zb F7_ zD zC)) ah] [(eSl 5 false (zb F7_ zD zC)) ah] ∧ LeP [] [] ∧ T.als 75 [] 1 1 = T.als 75 [] 1 1 ∧ (some (.agg [.opq (y7 (zr (eI .i64) eB aw.states_)), .opq (y7 (zr F0_ eB aw.edges_)), .opq (y7 (zr zD eB aw.pairs_))]) : Option A) = some (.agg [.opq (y7 (zr (eI .i64) eB aw.states_)), .opq (y7 (zr F0_ eB aw.edges_)), .opq (y7 (zr zD eB aw.pairs_))])), Hc h0Q (x := ((zy.mk bw ap), bp,0, dx)) h6 (loC (eSp (yP (eSl 1 false F4_) F4_)) (zy.mk bw ap) <| loC F4_ bp <| loC (eI .i64) 0 <| loC (eI .i64) dx <| loN)]
         rcases yb ae with ⟨c5, ae⟩ | ⟨c5, ae⟩
         ·exact yB ((ZJ (P := Tryd.prog) wr 75 1 [] (fa := .fn 39 []) (r := eSl 1 true (eI .u64) bp) (xl := [(eSl 5 false (zb F7_ zD zC)) ah]) (xr := []) (qs := [(y7 (zr (eI .i64) eB aw.states_)), (y7 (zr F0_ eB aw.edges_)), (y7 (zr zD eB aw.pairs_))]) (qs' := [(y7 (zr (eI .i64) eB aw.states_)), (y7 (zr F0_ eB aw.edges_)), (y7 (zr zD eB aw.pairs_))]) (es := [(zr (eI .i64) eB aw.states_), (zr F0_ eB aw.edges_), (zr zD eB aw.pairs_)]) (es' := [(zr (eI .i64) eB aw.states_), (zr F0_ eB aw.edges_), (zr zD eB aw.pairs_)]) (.inl rfl) (z3c (by kernel_rfl)) (.cons (xV (zr (eI .i64) eB aw.states_)) (.cons (xV (zr F0_ eB aw.edges_)) (.cons (xV (zr zD eB aw.pairs_)) (.nil)))) (fun us hu => up hC _ _ _ h5 us hu) (some 76)).or zA) hC ep () ae (Z3 ++ [Hq c5])
         ·obtain ⟨g0, ae⟩ := gdE ae
          refine yJ ((xCm zB 85 1).or ((ZJ (P := Tryd.prog) wr 75 1 [] (fa := .fn 39 []) (r := eSl 1 true (eI .u64) bp) (xl := [(eSl 5 false (zb F7_ zD zC)) ah]) (xr := []) (qs := [(y7 (zr (eI .i64) eB aw.states_)), (y7 (zr F0_ eB aw.edges_)), (y7 (zr zD eB aw.pairs_))]) (qs' := [(y7 (zr (eI .i64) eB aw.states_)), (y7 (zr F0_ eB aw.edges_)), (y7 (zr zD eB aw.pairs_))]) (es := [(zr (eI .i64) eB aw.states_), (zr F0_ eB aw.edges_), (zr zD eB aw.pairs_)]) (es' := [(zr (eI .i64) eB aw.states_), (zr F0_ eB aw.edges_), (zr zD eB aw.pairs_)]) (.inl rfl) (z3c (by kernel_rfl)) (.cons (xV (zr (eI .i64) eB aw.states_)) (.cons (xV (zr F0_ eB aw.edges_)) (.cons (xV (zr zD eB aw.pairs_)) (.nil)))) (fun us hu => up hC _ _ _ h5 us hu) (some 76)).or zA)) hC zZ [1,1,1,1,1,1,1,2,1,0,0,1,1,2,0,1,1,1,1] [J2, J3, J4] [16] (fun z : List (List Int) => uG bm z = some bl) (fun z => YX bm z) [(1, .d (eSl 1 false F7_ l_)), (14, .d (eSl 1 false (eI .i64) bm.1)), (16, .own (z5O 1 ((bm.1.length : Nat) : Int).toNat F7_ ([] : List (List Int))))] (Z3 ++ [Hq c5, Ha (lnM (eI .i64) bm.1), Hn (zg8 g0), Hh (.cut 0)]) ?_ fun J5 dy => ?_
          ·rintro out ae
           unfold uG at ae
           obtain ⟨g1, ae⟩ := gdE ae
           obtain rfl := zk ae
           obtain rfl := hl1
           obtain rfl := zk aa
           exact yE ((xCe Tryd.prog 6 1 (((bm.1.length : Nat) : Int).toNat) (out.map F2_)).or zA) hC hE [Hn (⟨rfl, zga F2_ g1⟩ : z5O 1 (((bm.1.length : Nat) : Int).toNat) F2_ out = A.opq (z12 1 (((bm.1.length : Nat) : Int).toNat) (out.map F2_)).q ∧ (out.map F2_).length = ((bm.1.length : Nat) : Int).toNat), Hm (shM F2_ F2_ out)]
          ·obtain ⟨t6, ht6, ae⟩ := zn ae
           refine yL zA hC zZ [1,1,1,1,1,1,1,2,1,0,0,1,1,2,0,1,1,1,1,2,1,0] [J2, J3, J4, J5] (fun s => uE l_ bm s.1 s.2) (fun x => YV l_ bm x.1 x.2) (([] : List (List Int)), 0) ht6  [Ha (lnM (eI .i64) bm.1)] ?_
           rintro ⟨aj, gp⟩ m6 fk ai hl2 J6 fl
           try unfold uE at ai
           rcases yb ai with ⟨c6, ai⟩ | ⟨c6, ai⟩
           ·obtain ⟨u_, h7, ai⟩ := zn ai
            obtain ⟨ba, h8, ai⟩ := zn ai
            obtain ⟨du, h9, ai⟩ := zn ai
            obtain ⟨dm, h10, ai⟩ := zn ai
            obtain ⟨g2, ai⟩ := gdE ai
            obtain rfl := zk ai
            exact yB ((xCa zB 100 1 (((bm.1.length : Nat) : Int).toNat) (aj.map F2_) ((aj ++ ([dm] : List (List Int))).map F2_)).or zA) hC fl ((aj ++ ([dm] : List (List Int))), w64 (gp + 1)) hl2 [Hq c6, Hi (eI .i64) h7, Hi F7_ h8, Hc h01 (x := ba) h9 (loC F7_ ba <| loN), Hg (J8 h00), Hm (shM (eI .i64) (eI .i64) du), Hs (J9 h00 (x := du) h10 (loC F7_ du <| loN)), Hm (shM (eI .i64) (eI .i64) du), Hn (⟨rfl, dM F2_ ([dm] : List (List Int)), rfl⟩ : 1 = 1 ∧ A.areD (([dm] : List (List Int)).map F2_) = true ∧ true = true), Hn (⟨rfl, zg9 F2_ F2_ g2⟩ : z5O 1 (((bm.1.length : Nat) : Int).toNat) F2_ aj = A.opq (z12 1 (((bm.1.length : Nat) : Int).toNat) (aj.map F2_)).q ∧ (aj.map F2_).length + (([dm] : List (List Int)).map F2_).length ≤ ((bm.1.length : Nat) : Int).toNat), Hn (aM F2_ aj ([dm] : List (List Int)))]
           ·obtain rfl := zk ai
            obtain rfl := hl2
            exact yB zA hC dy aj ae [Hq c6]
       ·obtain rfl := zk ae
        obtain rfl := hl1
        exact yB zA hC a8 () aa [Hq c4]
     ·obtain ⟨t7, ht7, aa⟩ := zn aa
      refine yLx zA hC zZ [1,1,1,1,1,1,2,1,0] [J1] (fun s => uD m_ l_ ah s.1 s.2) (fun x => YU m_ l_ ah ap x.1 x.2) (([] : List (List Int)), 0) ht7 [(1, .d (eSl 1 false F7_ l_)), (3, .own (.box (yT m_))), (9, .d (eSl 5 false (zb F7_ zD zC) ah)), (10, .own (.box (.agg [eOs 1 true F4_ [], eSl 1 true (eI .u64) ap]))), (44, .d (eSl 1 false F7_ l_)), (45, .d (I ((l_.length : Nat) : Int))), (46, .d (I 0))] inferInstance [Ha (lnM F7_ l_)] ?_
      rintro ⟨ck, cw⟩ m7 bl ae hl1 J7 gr
      try unfold uD at ae
      rcases yb ae with ⟨c7, ae⟩ | ⟨c7, ae⟩
      ·refine yA zA hC zZ [1,1,1,1,1,1,2,1,0,0,1,1] [J1, J7] [(1, .d (eSl 1 false F7_ l_)), (3, .own (.box (yT m_))), (9, .d (eSl 5 false (zb F7_ zD zC) ah)), (10, .own (.box (.agg [eOs 1 false F4_ ck, eSl 1 true (eI .u64) ap]))), (44, .d (eSl 1 false F7_ l_)), (45, .d (I ((l_.length : Nat) : Int))), (46, .d (I cw))] [Hq c7, Hh (.cut 0)] ?_
       obtain ⟨cg, h11, ae⟩ := zn ae
       obtain ⟨ce, h12, ae⟩ := zn ae
       obtain ⟨eu, h13, ae⟩ := zn ae
       obtain ⟨g3, ae⟩ := gdE ae
       refine z5s (by kernel_rfl) (x := (sub [1,1,1,1,1,1,2,1,0,0,1,1,0] zZ)) (y := (sub [1,1,1,1,1,1,2,1,0,0,1,1,1] zZ)) 10 (fun st1 => Own.canon [1,3,9,10,44,45,46] st1 = ofL [(1, .d (eSl 1 false F7_ l_)), (3, .own (.box (yT m_))), (9, .d (eSl 5 false (zb F7_ zD zC) ah)), (10, .own (.box (.agg [eOs 1 false F4_ (ck ++ ([eu] : List (List Int))), eSl 1 true (eI .u64) ap]))), (44, .d (eSl 1 false F7_ l_)), (45, .d (I ((l_.length : Nat) : Int))), (46, .d (I cw))]) ⟨_, rfl⟩ (fun b10 => yF ((xNc Tryd.prog 63 10 (z4j b10)).or ((ZJ (P := Tryd.prog) wr 59 1 [] (fa := .fn 39 []) (r := eSl 1 true (eI .u64) eu) (xl := [(eSl 5 false (zb F7_ zD zC)) ah]) (xr := []) (qs := [(y7 (zr (eI .i64) eB ce.states_)), (y7 (zr F0_ eB ce.edges_)), (y7 (zr zD eB ce.pairs_))]) (qs' := [(y7 (zr (eI .i64) eB ce.states_)), (y7 (zr F0_ eB ce.edges_)), (y7 (zr zD eB ce.pairs_))]) (es := [(zr (eI .i64) eB ce.states_), (zr F0_ eB ce.edges_), (zr zD eB ce.pairs_)]) (es' := [(zr (eI .i64) eB ce.states_), (zr F0_ eB ce.edges_), (zr zD eB ce.pairs_)]) (.inl rfl) (z3c (by kernel_rfl)) (.cons (xV (zr (eI .i64) eB ce.states_)) (.cons (xV (zr F0_ eB ce.edges_)) (.cons (xV (zr zD eB ce.pairs_)) (.nil)))) (fun us hu => up hC _ _ _ h13 us hu) (some 60)).or ((xMv Tryd.prog 50 10 (z4j b10) rfl).or zA))) hC .normal [(1, .d (eSl 1 false F7_ l_)), (3, .own (.box (yT m_))), (9, .d (eSl 5 false (zb F7_ zD zC) ah)), (10, .own (.box (.agg [eOs 1 false F4_ (ck ++ ([eu] : List (List Int))), eSl 1 true (eI .u64) ap]))), (44, .d (eSl 1 false F7_ l_)), (45, .d (I ((l_.length : Nat) : Int))), (46, .d (I cw))] [Hi F7_ h11, Hn (rfl : some (z4j b10) = some (z4j b10)), Hg (J8 h02), Hm (shM F7_ F7_ ([cg])), Hs (J9 h02 (x := (m_, [cg])) h12 (loC yT m_ <| loC zao ([cg] : List (List Int)) <| loN)), Hm (shM F7_ F7_ ([cg])), Hn (⟨rfl, leP (show V2 [(eSl 5 false (zb F7_ zD zC)) ah] [(eSl 5 false (zb F7_ zD zC)) ah] from inferInstance), leP (show V2 [] [] from inferInstance), rfl, rfl⟩ : ([.fn 39 []] : List A) = [.fn 39 []] ∧ LeP [(eSl 5 false (zb F7_ zD zC)) ah] [(eSl 5 false (zb F7_ zD zC)) ah] ∧ LeP [] [] ∧ T.als 59 [] 1 1 = T.als 59 [] 1 1 ∧ (some (.agg [.opq (y7 (zr (eI .i64) eB ce.states_)), .opq (y7 (zr F0_ eB ce.edges_)), .opq (y7 (zr zD eB ce.pairs_))]) : Option A) = some (.agg [.opq (y7 (zr (eI .i64) eB ce.states_)), .opq (y7 (zr F0_ eB ce.edges_)), .opq (y7 (zr zD eB ce.pairs_))])), Hq (dM F4_ ([eu] : List (List Int))), Hn (dM F4_ ([eu] : List (List Int))), Hn (aL F4_ F4_ g3), Hl (aM F4_ ck ([eu] : List (List Int))), Hn (⟨rfl, rfl⟩ : T.d (.atom (z4j b10)) = T.d (.atom (z4j b10)) ∧ some (z4j b10) = some (z4j b10))] fun st0 h0 => ⟨rfl, h0⟩) fun st1 h1 => z5u h1 ?_
       obtain rfl := zk ae
       exact yB zA hC gr ((ck ++ ([eu] : List (List Int))), w64 (cw + 1)) hl1 []
      ·obtain rfl := zk ae
       obtain rfl := hl1
       exact yB zA hC az ck aa [Hq c7]
def ZB : Code := (Tryd.f83.body).getD .skip
def wP : yi := spF (α := Int) (ρ := List UInt8) 83 (fun x => [(eI .i64) x]) (fun r => UL r) (fun x => vJ x) [] (Jl)
theorem ZL (hC : zN Tryd.prog ctr) : wP.Ok Tryd.prog := by
 refine zV ?_
 rintro i_ r0 aa
 try unfold vJ at aa
 refine yO true [(2, none)] ZB 15 Tryd.func83 fun E hE => ?_
 rcases yb aa with ⟨c0, aa⟩ | ⟨c0, aa⟩
 ·obtain ⟨g0, aa⟩ := gdE aa
  obtain rfl := zk aa
  exact yE ((zf4 zB 8).or X0) hC hE [Hq c0, Hn (stB (s := ([48,49,50,51,52,53,54,55,56,57,97,98,99,100,101,102,103,104,105,106,107,108,109,110,111,112,113,114,115,116,117,118,119,120,121,122] : List UInt8)) g0), Hx (.a (UL ((([48,49,50,51,52,53,54,55,56,57,97,98,99,100,101,102,103,104,105,106,107,108,109,110,111,112,113,114,115,116,117,118,119,120,121,122] : List UInt8).take (w64 (i_ + 1)).toNat).drop i_.toNat))) (zaP ([48,49,50,51,52,53,54,55,56,57,97,98,99,100,101,102,103,104,105,106,107,108,109,110,111,112,113,114,115,116,117,118,119,120,121,122] : List UInt8) i_ (w64 (i_ + 1)))]
 ·obtain ⟨g1, aa⟩ := gdE aa
  obtain rfl := zk aa
  exact yE ((zf4 zB 14).or X0) hC hE [Hq c0, Hn (stB (s := ([48,48,48,49,48,50,48,51,48,52,48,53,48,54,48,55,48,56,48,57,49,48,49,49,49,50,49,51,49,52,49,53,49,54,49,55,49,56,49,57,50,48,50,49,50,50,50,51,50,52,50,53,50,54,50,55,50,56,50,57,51,48,51,49,51,50,51,51,51,52,51,53,51,54,51,55,51,56,51,57,52,48,52,49,52,50,52,51,52,52,52,53,52,54,52,55,52,56,52,57,53,48,53,49,53,50,53,51,53,52,53,53,53,54,53,55,53,56,53,57,54,48,54,49,54,50,54,51,54,52,54,53,54,54,54,55,54,56,54,57,55,48,55,49,55,50,55,51,55,52,55,53,55,54,55,55,55,56,55,57,56,48,56,49,56,50,56,51,56,52,56,53,56,54,56,55,56,56,56,57,57,48,57,49,57,50,57,51,57,52,57,53,57,54,57,55,57,56,57,57] : List UInt8)) g1), Hx (.a (UL ((([48,48,48,49,48,50,48,51,48,52,48,53,48,54,48,55,48,56,48,57,49,48,49,49,49,50,49,51,49,52,49,53,49,54,49,55,49,56,49,57,50,48,50,49,50,50,50,51,50,52,50,53,50,54,50,55,50,56,50,57,51,48,51,49,51,50,51,51,51,52,51,53,51,54,51,55,51,56,51,57,52,48,52,49,52,50,52,51,52,52,52,53,52,54,52,55,52,56,52,57,53,48,53,49,53,50,53,51,53,52,53,53,53,54,53,55,53,56,53,57,54,48,54,49,54,50,54,51,54,52,54,53,54,54,54,55,54,56,54,57,55,48,55,49,55,50,55,51,55,52,55,53,55,54,55,55,55,56,55,57,56,48,56,49,56,50,56,51,56,52,56,53,56,54,56,55,56,56,56,57,57,48,57,49,57,50,57,51,57,52,57,53,57,54,57,55,57,56,57,57] : List UInt8).take (w64 ((w64 (i_ * 2)) + 2)).toNat).drop (w64 (i_ * 2)).toNat))) (zaP ([48,48,48,49,48,50,48,51,48,52,48,53,48,54,48,55,48,56,48,57,49,48,49,49,49,50,49,51,49,52,49,53,49,54,49,55,49,56,49,57,50,48,50,49,50,50,50,51,50,52,50,53,50,54,50,55,50,56,50,57,51,48,51,49,51,50,51,51,51,52,51,53,51,54,51,55,51,56,51,57,52,48,52,49,52,50,52,51,52,52,52,53,52,54,52,55,52,56,52,57,53,48,53,49,53,50,53,51,53,52,53,53,53,54,53,55,53,56,53,57,54,48,54,49,54,50,54,51,54,52,54,53,54,54,54,55,54,56,54,57,55,48,55,49,55,50,55,51,55,52,55,53,55,54,55,55,55,56,55,57,56,48,56,49,56,50,56,51,56,52,56,53,56,54,56,55,56,56,56,57,57,48,57,49,57,50,57,51,57,52,57,53,57,54,57,55,57,56,57,57] : List UInt8) (w64 (i_ * 2)) (w64 ((w64 (i_ * 2)) + 2)))]
def xT : Code := (Tryd.f72.body).getD .skip
def xO : yi := spF (α := Int × Int) (ρ := List UInt8) 72 (fun x => [(eI .i64) x.1, (eI .i64) x.2]) (fun r => UL r) (fun x => wv x.1 x.2) [] (VQ)
abbrev qG (i_ : Int) (u_ : Int) : List (Nat × T) := [(0, .d (I i_)), (5, .own (.box (.agg [.atom (.int .u8 0), .atom (.int .u8 0), .atom (.int .u8 0), .atom (.int .u8 0), .atom (.int .u8 0), .atom (.int .u8 0), .atom (.int .u8 0), .atom (.int .u8 0), .atom (.int .u8 0), .atom (.int .u8 0), .atom (.int .u8 0), .atom (.int .u8 0), .atom (.int .u8 0), .atom (.int .u8 0), .atom (.int .u8 0), .atom (.int .u8 0), .atom (.int .u8 0), .atom (.int .u8 0), .atom (.int .u8 0), .atom (.int .u8 0), .atom (.int .u8 0), .atom (.int .u8 0), .atom (.int .u8 0), .atom (.int .u8 0)]))), (6, .d (.atom (.int .u64 u_)))]
abbrev qH (i_ : Int) : List (Nat × T) := [(0, .d (I i_))]
theorem jQ (hC : zN Tryd.prog ctr) (h0R : ctr.Has wP) : xO.Ok Tryd.prog := by
 refine zV ?_
 rintro ⟨i_, base⟩ r0 aa
 try unfold wv at aa
 refine yO true [(4, none)] xT 54 Tryd.func72 fun E hE => ?_
 rcases yb aa with ⟨c0, aa⟩ | ⟨c0, aa⟩
 ·refine yJ X0 hC xT [1,0,1,0] [] [0] (fun z : Unit => yK i_ = some r0) (fun z => qH i_) [(0, .d (I i_))] [Hq c0, Hh (.cut 0)] ?_ fun J1 az => ?_
  ·rintro ⟨⟩ aa
   unfold yK at aa
   refine yJ X0 hC xT [1,0,1,0,1,1,1] [] [0,5,6] (fun z : Int => yI z = some r0) (fun z => qG i_ z) [(0, .d (I i_)), (5, .own (.box (.agg [.atom (.int .u8 0), .atom (.int .u8 0), .atom (.int .u8 0), .atom (.int .u8 0), .atom (.int .u8 0), .atom (.int .u8 0), .atom (.int .u8 0), .atom (.int .u8 0), .atom (.int .u8 0), .atom (.int .u8 0), .atom (.int .u8 0), .atom (.int .u8 0), .atom (.int .u8 0), .atom (.int .u8 0), .atom (.int .u8 0), .atom (.int .u8 0), .atom (.int .u8 0), .atom (.int .u8 0), .atom (.int .u8 0), .atom (.int .u8 0), .atom (.int .u8 0), .atom (.int .u8 0), .atom (.int .u8 0), .atom (.int .u8 0)]))), (6, .d (.atom (.int .u64 (IntKind.u64.wrap (i_)))))] [Hh (.cut 2)] ?_ fun J2 a8 => ?_
   ·rintro u_ aa
    unfold yI at aa
    cases aa
   ·rcases yb aa with ⟨c1, aa⟩ | ⟨c1, aa⟩
    ·exact yB X0 hC a8 (IntKind.u64.wrap (0 - (IntKind.u64.wrap (i_)))) aa [Hq c1]
    ·exact yB X0 hC a8 (IntKind.u64.wrap (i_)) aa [Hq c1]
  ·rcases yb aa with ⟨c2, aa⟩ | ⟨c2, aa⟩
   ·rcases yb aa with ⟨c3, aa⟩ | ⟨c3, aa⟩
    ·obtain ⟨r_, h0, aa⟩ := zn aa
     obtain rfl := zk aa
     exact yE X0 hC hE [Hq c2, Hq c2, Hq c2, Hq c3, Hc h0R (x := i_) h0 (loC (eI .i64) i_ <| loN)]
    ·exact yB X0 hC az () aa [Hq c2, Hq c2, Hq c2, Hq c3]
   ·exact yB X0 hC az () aa [Hq c2, Hq c2, Hq c2, qF]
 ·cases aa
def Y0 : Code := (Tryd.f52.body).getD .skip
def v6 : yi := spF (α := Int) (ρ := List UInt8) 52 (fun x => [(eI .i64) x]) (fun r => UL r) (fun x => vW x) [] (Jl)
theorem Y7 (hC : zN Tryd.prog ctr) (h0S : ctr.Has xO) : v6.Ok Tryd.prog := by
 refine zV ?_
 rintro i_ r0 aa
 try unfold vW at aa
 refine yO true [(2, none)] Y0 5 Tryd.func52 fun E hE => ?_
 obtain ⟨r_, h0, aa⟩ := zn aa
 obtain rfl := zk aa
 exact yE X0 hC hE [Hc h0S (x := (i_, 10)) h0 (loC (eI .i64) i_ <| loC (eI .i64) 10 <| loN)]
def QO : Code := (Tryd.f34.body).getD .skip
def kx : yi := spF (α := Int) (ρ := List UInt8) 34 (fun x => [(eI .i64) x]) (fun r => UL r) (fun x => vd x) [] (Jl)
theorem Jf (hC : zN Tryd.prog ctr) (h0T : ctr.Has v6) : kx.Ok Tryd.prog := by
 refine zV ?_
 rintro i_ r0 aa
 try unfold vd at aa
 refine yO true [(2, none)] QO 5 Tryd.func34 fun E hE => ?_
 obtain ⟨r_, h0, aa⟩ := zn aa
 obtain rfl := zk aa
 exact yE X0 hC hE [Hc h0T (x := i_) h0 (loC (eI .i64) i_ <| loN)]
def Y2 : Code := (Tryd.f13.body).getD .skip
def qS : yi := spF (α := y3) (ρ := List UInt8) 13 (fun x => [zdt x]) (fun r => UL r) (fun x => Zx x) [] (Jl)
abbrev XV (s_ : List UInt8) : List (Nat × T) := [(3, .d (UL s_))]
theorem Ua (hC : zN Tryd.prog ctr) (h06 : ctr.Has kx) : qS.Ok Tryd.prog := by
 refine zV ?_
 rintro c_ r0 aa
 try unfold Zx at aa
 refine yO true [(2, none)] Y2 33 Tryd.func13 fun E hE => ?_
 refine yJ X0 hC Y2 [1,1] [] [3] (fun z : List UInt8 => j5 z = some r0) (fun z => XV z) [(1, .own (.box (zdt c_))), (3, .d (UL ([] : List UInt8)))] [Hh (.cut 2)] ?_ fun J1 az => ?_
 ·rintro s_ aa
  unfold j5 at aa
  obtain rfl := zk aa
  exact yE X0 hC hE []
 ·obtain ⟨r_, h0, aa⟩ := zn aa
  obtain ⟨g0, aa⟩ := gdE aa
  obtain ⟨g1, aa⟩ := gdE aa
  obtain ⟨ah, h1, aa⟩ := zn aa
  obtain ⟨g2, aa⟩ := gdE aa
  obtain ⟨g3, aa⟩ := gdE aa
  obtain ⟨al, h2, aa⟩ := zn aa
  obtain ⟨g4, aa⟩ := gdE aa
  obtain ⟨g5, aa⟩ := gdE aa
  obtain ⟨ap, h3, aa⟩ := zn aa
  obtain ⟨g6, aa⟩ := gdE aa
  obtain ⟨g7, aa⟩ := gdE aa
  obtain ⟨aw, h4, aa⟩ := zn aa
  obtain ⟨g8, aa⟩ := gdE aa
  obtain ⟨g9, aa⟩ := gdE aa
  obtain ⟨bp, h5, aa⟩ := zn aa
  obtain ⟨g10, aa⟩ := gdE aa
  obtain ⟨g11, aa⟩ := gdE aa
  exact yB ((z5L Tryd.prog 30).or ((z5L Tryd.prog 29).or ((z5L Tryd.prog 25).or ((z5L Tryd.prog 24).or X0)))) hC az (((([] : List UInt8) ++ (((([115,116,97,116,101,115,32] : List UInt8) ++ r_) ++ ([47] : List UInt8)) ++ ah)) ++ (((([44,32,101,100,103,101,115,32] : List UInt8) ++ al) ++ ([47] : List UInt8)) ++ ap)) ++ (((([44,32,112,97,105,114,115,32] : List UInt8) ++ aw) ++ ([47] : List UInt8)) ++ bp)) aa [Hh (.u 70), qT, Hn (⟨rfl, by decide⟩ : true = true ∧ 0 < 2), Hc h06 (x := c_.States.e0) h0 (loC (eI .i64) c_.States.e0 <| loN), Hx (.a (UL (([115,116,97,116,101,115,32] : List UInt8) ++ r_))) (Ub (l := ([115,116,97,116,101,115,32] : List UInt8)) (m := r_) g0), Hx (.a (UL ((([115,116,97,116,101,115,32] : List UInt8) ++ r_) ++ ([47] : List UInt8)))) (Ub (l := (([115,116,97,116,101,115,32] : List UInt8) ++ r_)) (m := ([47] : List UInt8)) g1), Hn (⟨rfl, by decide⟩ : true = true ∧ 1 < 2), Hc h06 (x := c_.States.e1) h1 (loC (eI .i64) c_.States.e1 <| loN), Hx (.a (UL (((([115,116,97,116,101,115,32] : List UInt8) ++ r_) ++ ([47] : List UInt8)) ++ ah))) (Ub (l := ((([115,116,97,116,101,115,32] : List UInt8) ++ r_) ++ ([47] : List UInt8))) (m := ah) g2), Hx (.a (UL (([] : List UInt8) ++ (((([115,116,97,116,101,115,32] : List UInt8) ++ r_) ++ ([47] : List UInt8)) ++ ah)))) (Ub (l := ([] : List UInt8)) (m := (((([115,116,97,116,101,115,32] : List UInt8) ++ r_) ++ ([47] : List UInt8)) ++ ah)) g3), qT, Hn (⟨rfl, by decide⟩ : true = true ∧ 0 < 2), Hc h06 (x := c_.Edges.e0) h2 (loC (eI .i64) c_.Edges.e0 <| loN), Hx (.a (UL (([44,32,101,100,103,101,115,32] : List UInt8) ++ al))) (Ub (l := ([44,32,101,100,103,101,115,32] : List UInt8)) (m := al) g4), Hx (.a (UL ((([44,32,101,100,103,101,115,32] : List UInt8) ++ al) ++ ([47] : List UInt8)))) (Ub (l := (([44,32,101,100,103,101,115,32] : List UInt8) ++ al)) (m := ([47] : List UInt8)) g5), Hn (⟨rfl, by decide⟩ : true = true ∧ 1 < 2), Hc h06 (x := c_.Edges.e1) h3 (loC (eI .i64) c_.Edges.e1 <| loN), Hx (.a (UL (((([44,32,101,100,103,101,115,32] : List UInt8) ++ al) ++ ([47] : List UInt8)) ++ ap))) (Ub (l := ((([44,32,101,100,103,101,115,32] : List UInt8) ++ al) ++ ([47] : List UInt8))) (m := ap) g6), Hx (.a (UL ((([] : List UInt8) ++ (((([115,116,97,116,101,115,32] : List UInt8) ++ r_) ++ ([47] : List UInt8)) ++ ah)) ++ (((([44,32,101,100,103,101,115,32] : List UInt8) ++ al) ++ ([47] : List UInt8)) ++ ap)))) (Ub (l := (([] : List UInt8) ++ (((([115,116,97,116,101,115,32] : List UInt8) ++ r_) ++ ([47] : List UInt8)) ++ ah))) (m := (((([44,32,101,100,103,101,115,32] : List UInt8) ++ al) ++ ([47] : List UInt8)) ++ ap)) g7), qT, Hn (⟨rfl, by decide⟩ : true = true ∧ 0 < 2), Hc h06 (x := c_.Pairs.e0) h4 (loC (eI .i64) c_.Pairs.e0 <| loN), Hx (.a (UL (([44,32,112,97,105,114,115,32] : List UInt8) ++ aw))) (Ub (l := ([44,32,112,97,105,114,115,32] : List UInt8)) (m := aw) g8), Hx (.a (UL ((([44,32,112,97,105,114,115,32] : List UInt8) ++ aw) ++ ([47] : List UInt8)))) (Ub (l := (([44,32,112,97,105,114,115,32] : List UInt8) ++ aw)) (m := ([47] : List UInt8)) g9), Hn (⟨rfl, by decide⟩ : true = true ∧ 1 < 2), Hc h06 (x := c_.Pairs.e1) h5 (loC (eI .i64) c_.Pairs.e1 <| loN), Hx (.a (UL (((([44,32,112,97,105,114,115,32] : List UInt8) ++ aw) ++ ([47] : List UInt8)) ++ bp))) (Ub (l := ((([44,32,112,97,105,114,115,32] : List UInt8) ++ aw) ++ ([47] : List UInt8))) (m := bp) g10), Hx (.a (UL (((([] : List UInt8) ++ (((([115,116,97,116,101,115,32] : List UInt8) ++ r_) ++ ([47] : List UInt8)) ++ ah)) ++ (((([44,32,101,100,103,101,115,32] : List UInt8) ++ al) ++ ([47] : List UInt8)) ++ ap)) ++ (((([44,32,112,97,105,114,115,32] : List UInt8) ++ aw) ++ ([47] : List UInt8)) ++ bp)))) (Ub (l := ((([] : List UInt8) ++ (((([115,116,97,116,101,115,32] : List UInt8) ++ r_) ++ ([47] : List UInt8)) ++ ah)) ++ (((([44,32,101,100,103,101,115,32] : List UInt8) ++ al) ++ ([47] : List UInt8)) ++ ap))) (m := (((([44,32,112,97,105,114,115,32] : List UInt8) ++ aw) ++ ([47] : List UInt8)) ++ bp)) g11), qF]
def YA : Code := (Tryd.f29.body).getD .skip
def Yb : yi := spF (α := List (List Int) × List (List Int)) (ρ := Bool) 29 (fun x => [YK x.1, YK x.2]) (fun r => eB r) (fun x => XA x.1 x.2) [] (VQ)
abbrev Ul : List (Nat × T) := []
abbrev Uk (a_ : List (List Int)) (b_ : List (List Int)) (i_ : Int) : List (Nat × T) := [(0, .d (eSl 1 false F7_ a_)), (1, .d (eSl 1 false F7_ b_)), (5, .d (I i_))]
theorem z04 (hC : zN Tryd.prog ctr) (h09 : ctr.Has uq) : Yb.Ok Tryd.prog := by
 refine zV ?_
 rintro ⟨a_, b_⟩ r0 aa
 try unfold XA at aa
 refine yO true [(4, none)] YA 27 Tryd.func29 fun E hE => ?_
 let Z0 : List HO := [Ha (lnM F7_ a_), Ha (lnM F7_ b_)]
 rcases yb aa with ⟨c0, aa⟩ | ⟨c0, aa⟩
 ·obtain rfl := zk aa
  exact yE X0 hC hE (Z0 ++ [Hq c0])
 ·refine yJ X0 hC YA [1,1] [] [] (fun z : Unit => Ym = some r0) (fun z => Ul) [(0, .d (eSl 1 false F7_ a_)), (1, .d (eSl 1 false F7_ b_))] (Z0 ++ [Hq c0, Hh (.cut 0)]) ?_ fun J1 az => ?_
  ·rintro ⟨⟩ aa
   unfold Ym at aa
   obtain rfl := zk aa
   exact yE X0 hC hE []
  ·obtain ⟨t2, ht2, aa⟩ := zn aa
   refine yL X0 hC YA [1,1,2,1,0] [J1] (fun s => Yl a_ b_ s) (fun x => Uk a_ b_ x) 0 ht2  [] ?_
   rintro i_ m2 bl ae hl1 J2 a8
   try unfold Yl at ae
   let Z1 : List HO := [Ha (lnM F7_ a_)]
   rcases yb ae with ⟨c1, ae⟩ | ⟨c1, ae⟩
   ·obtain ⟨fm, h0, ae⟩ := zn ae
    obtain ⟨fp, h1, ae⟩ := zn ae
    obtain ⟨r_, h2, ae⟩ := zn ae
    let Z2 : List HO := (Z1 ++ [Hq c1, Hi F7_ h0, Hi F7_ h1, Hc h09 (x := (fm, fp)) h2 (loC F7_ fm <| loC F7_ fp <| loN)])
    rcases yb ae with ⟨c2, ae⟩ | ⟨c2, ae⟩
    ·obtain rfl := zk ae
     obtain rfl := hl1
     obtain rfl := zk aa
     exact yE X0 hC hE (Z2 ++ [Hq c2])
    ·obtain rfl := zk ae
     exact yB X0 hC a8 (w64 (i_ + 1)) hl1 (Z2 ++ [Hq c2])
   ·obtain rfl := zk ae
    obtain rfl := hl1
    exact yB X0 hC az () aa (Z1 ++ [Hq c1])
end Go.Own
end
